
import Derived.Test.YtkaeejkajfinhaaGreatMT18
set_option linter.unusedVariables false
set_option linter.unusedSimpArgs false
set_option maxRecDepth 100000
namespace Go.Vs
open Go Go.Proofs
section
theorem zHk {v:RV} (h:v.ok) (hf:v.fit=true) : ∃q:Rat,.agg v.cells=xT q∧v.neg=yG q∧v.num=words q.num.natAbs∧v.den=words q.den∧wH q 400:=by
 unfold RV.fit at hf;simp only[bO,pC]at hf;obtain⟨q,h1,h2,h3,h4,h5⟩:=(zF8 h.n h.d).1 hf.2;refine⟨q,?_,h1,h2,h3,?_,?_⟩
 ·unfold RV.cells xT qE;rw[h1,h2,h3]
 ·rw[←h2];exact hf.1.1
 ·rw[←h3];exact hf.1.2
theorem zGV (v:RV) (h:v.ok) (hf:v.fit=true):callL Tryz.prog zE 63 [.agg v.cells]=some (.agg v.cells):=by
 obtain⟨q,h1,_,_,_,h2⟩:=zHk h hf;rw[h1];exact ZV q (h2.mono (by omega))
theorem zN8 (S:zB) (v:RV) (h:v.ok) (hf:v.fit=true):zO (callL Tryz.prog zE) S 63 [.agg v.cells]=some {v:=.agg v.cells} := zF (zGV v h hf) (by simp;exact Zi v)
theorem UA:xT 0=.agg rv0.cells:=by
 have h0:words 0=[]:=(vG WB2).2 rfl;have h1:words 1=[1]:=jF
 show qE _ (words 0) (words 1)=_
 rw[h0,h1];rfl
theorem zPq (S:zB):zO (callL Tryz.prog zE) S 54 []=some {v:=.agg rv0.cells} := zF (by rw[ZU,UA]) (by simp)
theorem zLW {L:List Bd} (hg : ∀b∈L,b.good) {i:Nat} (hi:i<L.length):(L.getD i bd0).val.fit=true:=by
 rw[ZJ hi];exact (hg _ (PG hi)).fit
section
attribute [local irreducible] Vs.callL Vs.callRL tyi zO zk zf zQ zW zZ zI zX zA zK zb zV zG zJ zU zs yL zr zL za Vs.gc zH
noncomputable def zS5:FX:=⟨Tryz.f59,zE.of 59,[]⟩
instance ok59_:zS5.ok 59:=FX.mk'
theorem zLX (L:List Bd) (nm:ByteArray) (hL:WT L) (hg : ∀b∈L,b.good) (hs:WU L) (hl:L.length≤1000000):callL Tryz.prog zE 59 [.sl (ya L) false,.str nm]=some (.agg (Zm nm L).cells):=by
 have cf:=fun S=>zF (S:=S) (zJG L nm hl (JP nm hs)) (by simp[zi.str];exact Zj L);have gp:=zEG nm hs;have zo:=fun S=>zPq S;unfold RV.cells at zo;change ∀S,zO _ S _ _=some {v:=(.tup [.int .i64 (Zl nm L),.bool (JQ nm L)]:PV)} at cf
 cases hf:JQ nm L
 ·rw[hf]at cf gp;simp only[pB,if_false]at gp;rw[←gp];refine FX.callL (r:=(.agg [.bool rv0.neg,.sl (zD .u32 rv0.num) false,.sl (zD .u32 rv0.den) false],[.arr [[.bool rv0.neg,.sl (zD .u32 rv0.num) false,.sl (zD .u32 rv0.den) false]] none false])) ok59_ 1000 rfl rfl ?_ rfl;((repeat((conv=>lhs;whnf);simp only[go_sem,simprocAttr,cf,zo]));try rfl)
 ·rw[hf]at cf gp;simp only[if_true]at gp;have hp:Zl nm L<L.length:=by
   unfold JQ at hf;simp only[bO,pC]at hf;exact hf.1
  have x1:0≤(Zl nm L:Int)∧(Zl nm L:Int)<(L.length:Int):=⟨by omega,by omega⟩;have cc:=fun S=>zN8 S (L.getD (Zl nm L) bd0).val (hL.at hp).v (zLW hg hp);unfold RV.cells at cc;rw[←gp];refine FX.callL (r:=(.agg (L.getD (Zl nm L) bd0).val.cells,[.arr [(L.getD (Zl nm L) bd0).val.cells] none false])) ok59_ 1000 rfl rfl ?_ rfl;unfold RV.cells;((repeat((conv=>lhs;whnf);simp only[go_sem,simprocAttr,cf,x1,bD,Bd.cells,cc]));try rfl)
noncomputable def zO1:FX:=⟨Tryz.f60,zE.of 60,[]⟩
instance ok60_:zO1.ok 60:=FX.mk'
theorem zGW (L:List Bd) (nm:ByteArray) (hl:L.length≤1000000) : ∀(m i:Nat),i+m=L.length→(∀k,k<i→(L.getD k bd0).name.toList≠nm.toList)→zT 0 zO1 0 52 1 [.blk 0,.seq 0 7] [(0,.sl (ya L) false),(1,.str nm),(4,.mp 0 0 0),(5,.int .i64 i)] [.arr [[.bool false,.sl [] true,.sl [] true]] none false]=some (.agg (Zm nm (L.drop i)).cells,[.arr [(Zm nm (L.drop i)).cells] none false]):=by
 have zz : ∀S,zO (callL Tryz.prog zE) S 51 []=some {v:=rrV 0} := fun S=>zF YN (by simp);have zt : ∀S,zO (callL Tryz.prog zE) S 32 [rrV 0]=some {v:=.agg rv0.cells} := fun S=>zF (by rw[JB 0 ⟨by decide +kernel,by decide +kernel⟩,UA]) (by simp;exact vN 0);unfold RV.cells at zt;intro m
 induction m with
 | zero =>
  intro i hi hk;have h1 : ¬(i:Int)<(L.length:Int):=by omega
  have e:L.drop i=[]:=SJ (by omega);rw[e];apply zC;(repeat((conv=>lhs;whnf);simp only[go_sem,simprocAttr,h1]));apply zN;unfold Zm RV.cells;((repeat((conv=>lhs;whnf);simp only[go_sem,simprocAttr,zz,zt]));try rfl)
 | succ m ih =>
  intro i hi hk;have h1:(i:Int)<(L.length:Int):=by omega
  have h2:=zh (i:=i) (n:=L.length) (by omega) (by unfold maxLen;omega);have x1:0≤(i:Int)∧(i:Int)<(L.length:Int):=⟨by omega,h1⟩;have e:L.drop i=L.getD i bd0::L.drop (i+1):=by rw[ZJ (by omega)];exact PM (by omega)
  rw[e];apply zC;by_cases c:(L.getD i bd0).name.toList=nm.toList
  ·have c':((L.getD i bd0).name.toList == nm.toList)=true:=beq_iff_eq.2 c;simp only[Zm,c,if_true];unfold RV.cells;((repeat((conv=>lhs;whnf);simp only[go_sem,simprocAttr,h1,x1,bD,Bd.cells,c']));try rfl)
  ·have c':((L.getD i bd0).name.toList == nm.toList)=false:=beq_eq_false_iff_ne.2 c;have key:=ih (i+1) (by omega) (fun k hk'=>by
    rcases PF (Nat.le_of_lt_succ hk') with h | rfl
    ·exact hk k h
    ·exact c)
   simp only[Zm,c,if_false];(repeat((conv=>lhs;whnf);simp only[go_sem,simprocAttr,h1,x1,bD,Bd.cells,c',h2]));exact key
theorem zGX (L:List Bd) (nm:ByteArray) (hl:L.length≤1000000):callL Tryz.prog zE 60 [.sl (ya L) false,.str nm]=some (.agg (Zm nm L).cells):=by
 refine FX.callL (r:=(.agg (Zm nm L).cells,[.arr [(Zm nm L).cells] none false])) ok60_ 1000 rfl rfl ?_ rfl;have key:=zGW L nm hl L.length 0 (by omega) (fun k hk=>absurd hk (by omega));(repeat((conv=>lhs;whnf);simp only[go_sem,simprocAttr]));exact key
end
end
section
theorem zLY (S:zB) (L:List Bd) (nm:ByteArray) (hL:WT L) (h:Y9 L=true):zO (callL Tryz.prog zE) S 59 [.sl (ya L) false,.str nm]=some {v:=.agg (Zm nm L).cells} :=
 have h':=JO.1 h
 zF (zLX L nm hL h'.2.1 h'.2.2 (by have:=h'.1;omega)) (by simp[zi.str];exact Zj L)
theorem zBk (S:zB) (L:List Bd) (nm:ByteArray) (h:L.length≤1000000):zO (callL Tryz.prog zE) S 60 [.sl (ya L) false,.str nm]=some {v:=.agg (Zm nm L).cells} := zF (zGX L nm h) (by simp[zi.str];exact Zj L)
section
attribute [local irreducible] Vs.callL Vs.callRL tyi zO zk zf zQ zW zZ zI zX zA zK zb zV zG zJ zU zs yL zr zL za Vs.gc zH
end
end
@[go_sem] theorem zS6 (id n:Nat) (is:List Nat) (rows:List (List PV)):zG Tryz.prog 35 id n is rows=if is=List.range n∧yR 4 rows=true∧(rows.all fun r=>r.all PV.cell)=true∧n*4≤16777216 then some {v:=.msl id 0 n true,new:=some (rows,some (some 4))} else none:=zLM.buildSlice (by decide) id n is rows
theorem Bd.refs (b:Bd):zS [b.cells]=[]:=rfl
theorem RV.refs (v:RV):zS [v.cells]=[]:=rfl
theorem xE {rows:List (List PV)} {g:Option (Option Nat)} {f:Bool} {l:List Nat} (h:zS rows=[]):yu l (.arr rows g f)=.arr rows g f:=by
 simp only[yu,vQ,h,BU,pB,if_false]
section
theorem VO {S S':zB} {j:Nat} (L:List Int) (x:Int) (g:Option Nat) (hg:g=none∨g=some 1) (hl:L.length≤10000000) (ex:Bool)
  (h1:S[2]? = some (.arr (zD .i64 L) (some g) false)) (hj:S[j]? = some (.arr [[.int .i64 x]] (some (some 1)) false)) (hS:(S.map (yu [2])).set 2 (.arr (zD .i64 (L++[x])) (some (some 1)) false)=S') :
  zQ Tryz.prog 0 59 59 S (.msl 2 0 L.length false) (.msl j 0 1 ex)=some {v:=.msl 2 0 (L.length+1) false,S:=S',kill:=[2]} := by
 have:=ZB.app (b:=0) (S:=S) (id:=2) (rows:=zD .i64 L) (new:=zD .i64 [x]) (g:=g) (p:=.msl j 0 1 ex) h1 (by decide) hg (RowsV.msl j (zD .i64 [x]) ex _ _ hj) (xk _ _) (xk _ _) (by rw[zR,zR];simp only[aF];omega) (by rw[zR,zR];simp;omega) (by rw[zq];simp) (by rw[zq];simp);rw[zR,←qW,hS]at this;exact this
theorem zAI (l:List Node) (i:Nat):(Node.rows l).take i=Node.rows (l.take i):=by simp[Node.rows_eq,List.map_take]
theorem zN9 (S:zB) (l:List Node) (i:Nat) (h:i≤l.length):zX Tryz.prog 28 S (.sl (Node.rows l) false) none (some (.int .i64 i)) none=some (.sl (Node.rows (l.take i)) false):=by
 have:=vi.firsts S (rows:=Node.rows l) false i (by rw[Node.rows_length];exact h) (Node.rows_ok l);rw[zAI]at this;exact this
def vY (i:Nat):List Int:=List.replicate i 4
theorem kB (i:Nat):(vY i).length=i:=by simp[vY]
theorem zGY (i:Nat):vY i++[4]=vY (i+1):=by simp[vY,SF]
section
attribute [local irreducible] Vs.callL Vs.callRL tyi zO zk zf zQ zW zZ zI zX zA zK zb zV zG zJ zU zs yL zr zL za Vs.gc zH
theorem zBl (n:Node) (hn:n.ok) (a b c:Bool) (last i:Nat) (hi:i<n.kids.length) (g:Option Nat) (fs:List Fr) : ∀(m j:Nat),j+m=i →
  ((((n.kids.take i).drop j).all (vS (n.kids.getD i nd0)))=true→∀z,yD 0 ZH 5 fs [(2,.mp 0 0 0),(3,.mp 1 0 0),(6,.msl 2 0 i false),(7,.int .i64 last),(8,.int .i64 i),(9,.undef),(137,.undef),(138,.undef),(139,.undef),(140,.undef)]
    [.arr [n.cells] none false,.arr [[.bool a,.bool b,.bool c]] none false,.arr (zD .i64 (vY i)) (some g) false,.arr [(n.kids.getD i nd0).cells] none false]=some z →
   zT 0 ZH 5 131557684 4 fs [(2,.mp 0 0 0),(3,.mp 1 0 0),(6,.msl 2 0 i false),(7,.int .i64 last),(8,.int .i64 i),(9,.mp 3 0 0),(137,.sl (Node.rows (n.kids.take i)) false),(138,.int .i64 i),(139,.int .i64 j)]
    [.arr [n.cells] none false,.arr [[.bool a,.bool b,.bool c]] none false,.arr (zD .i64 (vY i)) (some g) false,.arr [(n.kids.getD i nd0).cells] none false]=some z) ∧
  ((((n.kids.take i).drop j).all (vS (n.kids.getD i nd0)))=false→∃S',
   zT 0 ZH 5 131557684 4 fs [(2,.mp 0 0 0),(3,.mp 1 0 0),(6,.msl 2 0 i false),(7,.int .i64 last),(8,.int .i64 i),(9,.mp 3 0 0),(137,.sl (Node.rows (n.kids.take i)) false),(138,.int .i64 i),(139,.int .i64 j)]
    [.arr [n.cells] none false,.arr [[.bool a,.bool b,.bool c]] none false,.arr (zD .i64 (vY i)) (some g) false,.arr [(n.kids.getD i nd0).cells] none false]=some (.bool false,S')):=by
 intro m
 induction m with
 | zero =>
  intro j hj;have h1 : ¬(j:Int)<(i:Int):=by omega
  have e0:((n.kids.take i).drop j)=[]:=bW (by simp;omega);rw[e0];refine⟨fun _ z hz=>?_,fun h=>by simp at h⟩;apply zC;(repeat((conv=>lhs;whnf);simp only[go_sem,simprocAttr,h1]));exact hz
 | succ m hm =>
  intro j hj;have h1:(j:Int)<(i:Int):=by omega
  have h2:=zh (i:=j) (n:=n.kids.length) (by omega) hn.len;have h3:0≤(j:Int)∧(j:Int)<((n.kids.take i).length:Int):=⟨by omega,by simp;omega⟩;have hg:=zIw (l:=n.kids) (i:=i) (j:=j) (by omega);obtain⟨k1,k2⟩:=hm (j+1) (by omega);rw[Yy (l:=n.kids) (i:=i) (j:=j) (by omega) (by omega),HR];generalize hK:n.kids.getD i nd0=K at *;unfold vS at *;by_cases hop:K.op=55
  ·cases hnm:(n.kids.getD j nd0).name.toList == K.name.toList
   ·simp only[hop,hnm,decide_true,bC,bK]at k1 k2 ⊢;refine⟨fun ha z hz=>?_,fun ha=>?_⟩
    ·apply zC;(repeat((conv=>lhs;whnf);simp only[go_sem,simprocAttr,h1,h2,h3,bD,hg,hop,hnm]));exact k1 ha z hz
    ·obtain⟨S',k⟩:=k2 ha;refine⟨S',yv ok78_.good 1000 ?_⟩;(repeat((conv=>lhs;whnf);simp only[go_sem,simprocAttr,h1,h2,h3,bD,hg,hop,hnm]));exact k
   ·refine⟨fun ha=>by simp[hop,hnm]at ha,fun _=>?_⟩;apply Exists.intro;apply zC;((repeat((conv=>lhs;whnf);simp only[go_sem,simprocAttr,h1,h2,h3,bD,hg,hop,hnm]));try rfl)
  ·simp only[hop,decide_false,bB,bK,bC]at k1 k2 ⊢;refine⟨fun ha z hz=>?_,fun ha=>?_⟩
   ·apply zC;(repeat((conv=>lhs;whnf);simp only[go_sem,simprocAttr,h1,h2,h3,bD,hg,hop]));exact k1 ha z hz
   ·obtain⟨S',k⟩:=k2 ha;refine⟨S',yv ok78_.good 1000 ?_⟩;(repeat((conv=>lhs;whnf);simp only[go_sem,simprocAttr,h1,h2,h3,bD,hg,hop]));exact k
theorem zBm (n:Node) (hn:n.ok) (hlen:n.kids.length≤100000) (a b c:Bool) (last:Nat) (hlast:last+1=n.kids.length) :
  ∀(m i:Nat),i+m=last→∀(g:Option Nat),(g=none∨g=some 1)→∃g',(g'=none∨g'=some 1) ∧
   (uh n.kids last m i=true→∀z,yD 0 ZH 3 [.blk 3,.seq 0 32119,.blk 0,.seq 0 63] [(2,.mp 0 0 0),(3,.mp 1 0 0),(6,.msl 2 0 last false),(7,.undef),(8,.undef),(112,.undef)]
     [.arr [n.cells] none false,.arr [[.bool a,.bool b,.bool c]] none false,.arr (zD .i64 (vY last)) (some g') false]=some z →
    zT 0 ZH 3 256948 3 [.blk 3,.seq 0 32119,.blk 0,.seq 0 63] [(2,.mp 0 0 0),(3,.mp 1 0 0),(6,.msl 2 0 i false),(7,.int .i64 last),(8,.int .i64 i)]
     [.arr [n.cells] none false,.arr [[.bool a,.bool b,.bool c]] none false,.arr (zD .i64 (vY i)) (some g) false]=some z) ∧
   (uh n.kids last m i=false→∃S',
    zT 0 ZH 3 256948 3 [.blk 3,.seq 0 32119,.blk 0,.seq 0 63] [(2,.mp 0 0 0),(3,.mp 1 0 0),(6,.msl 2 0 i false),(7,.int .i64 last),(8,.int .i64 i)]
     [.arr [n.cells] none false,.arr [[.bool a,.bool b,.bool c]] none false,.arr (zD .i64 (vY i)) (some g) false]=some (.bool false,S')):=by
 intro m
 induction m with
 | zero =>
  intro i hi g hg;obtain rfl:i=last:=by omega
  have h1 : ¬(i:Int)<(i:Int):=by omega
  refine⟨g,hg,fun _ z hz=>?_,fun h=>by simp[uh]at h⟩;apply zC;(repeat((conv=>lhs;whnf);simp only[go_sem,simprocAttr,h1]));exact hz
 | succ m hm =>
  intro i hi g hg;have h1:(i:Int)<(last:Int):=by omega
  have h2:(i:Int)<(n.kids.length:Int):=by omega
  have h3:0≤(i:Int)∧(i:Int)<(n.kids.length:Int):=⟨by omega,h2⟩;have hM:=xZ;have hnl:=hn.len;have h4:IntKind.i64.wrap ((last:Int)-1)=((last-1:Nat):Int):=by rw[bE];omega
  have h5:=zh (i:=i) (n:=n.kids.length) (by omega) hn.len;have hsl:=fun S=>zN9 S n.kids i (by omega);have hlt:(n.kids.take i).length=i:=by simp;omega
  obtain⟨g',hg',k1,k2⟩:=hm (i+1) (by omega) (some 1) (.inr rfl);have L5:=fun fs=>zBl n hn a b c last i (by omega) g fs i 0 (by omega);have ha:=VO (S:=[.arr [n.cells] none false,.arr [[.bool a,.bool b,.bool c]] none false,.arr (zD .i64 (vY i)) (some g) false,.arr [(n.kids.getD i nd0).cells] none false,.arr [[.int .i64 4]] (some (some 1)) false]) (j:=4) (vY i) 4 g hg (by rw[kB];omega) true rfl rfl
   (S':=[.arr [n.cells] none false,.arr [[.bool a,.bool b,.bool c]] none false,.arr (zD .i64 (vY (i+1))) (some (some 1)) false,.arr [(n.kids.getD i nd0).cells] none false,.arr [[.int .i64 4]] (some (some 1)) false])
   (by simp only[pZ,HS,xE (yU _),xE (zq _ _),xE (show zS [[PV.bool a,.bool b,.bool c]]=[] from rfl),xE (show zS [[PV.int .i64 4]]=[] from rfl),zGY];rfl)
  rw[kB]at ha;simp only[pA]at L5;have e0:uh n.kids last (m+1) i=(zBT n.kids last i&&uh n.kids last m (i+1)):=rfl;refine⟨g',hg',?_,?_⟩
  all_goals rw[e0]
  all_goals unfold zBT
  all_goals generalize hK:n.kids.getD i nd0=K at *
  ·intro hf z hz;simp only[bO]at hf;obtain⟨⟨f1,f2⟩,f3⟩:=hf;have key:=k1 f3 z hz;by_cases c1:K.op=55
   ·apply zC;(repeat((conv=>lhs;whnf);simp only[go_sem,simprocAttr,h1,h2,h3,h4,bD,hK,c1,hsl,hlt]));refine (L5 _).1 f2 z ?_;apply zN;(repeat((conv=>lhs;whnf);simp only[go_sem,simprocAttr,ha,h5]));exact key
   ·have c2:K.op=56∧i=last-1:=by simpa [c1] using f1
    have c3:(i:Int)=((last-1:Nat):Int):=by omega
    apply zC;(repeat((conv=>lhs;whnf);simp only[go_sem,simprocAttr,h1,h2,h3,h4,bD,hK,c2.1,←c3,hsl,hlt]));refine (L5 _).1 f2 z ?_;apply zN;(repeat((conv=>lhs;whnf);simp only[go_sem,simprocAttr,ha,h5]));exact key
  ·intro hf;by_cases c1:K.op=55
   ·simp only[c1,decide_true,pI,bC]at hf
    cases f2:((n.kids.take i).all (vS K))
    ·obtain⟨S',k⟩:=(L5 _).2 f2;refine⟨S',yv ok78_.good 1000 ?_⟩;(repeat((conv=>lhs;whnf);simp only[go_sem,simprocAttr,h1,h2,h3,h4,bD,hK,c1,hsl,hlt]));exact k
    ·rw[f2,bC]at hf;obtain⟨S',k⟩:=k2 hf;refine⟨S',yv ok78_.good 1000 ?_⟩;(repeat((conv=>lhs;whnf);simp only[go_sem,simprocAttr,h1,h2,h3,h4,bD,hK,c1,hsl,hlt]));refine (L5 _).1 f2 _ ?_;apply zN;(repeat((conv=>lhs;whnf);simp only[go_sem,simprocAttr,ha,h5]));exact k
   ·by_cases c2:K.op=56
    ·by_cases c4:i=last-1
     ·have c3:(i:Int)=((last-1:Nat):Int):=by omega
      rw[bH c1,bG c2,bG c4]at hf;simp only[sC,sO,bC]at hf
      cases f2:((n.kids.take i).all (vS K))
      ·obtain⟨S',k⟩:=(L5 _).2 f2;refine⟨S',yv ok78_.good 1000 ?_⟩;(repeat((conv=>lhs;whnf);simp only[go_sem,simprocAttr,h1,h2,h3,h4,bD,hK,c2,←c3,hsl,hlt]));exact k
      ·rw[f2,bC]at hf;obtain⟨S',k⟩:=k2 hf;refine⟨S',yv ok78_.good 1000 ?_⟩;(repeat((conv=>lhs;whnf);simp only[go_sem,simprocAttr,h1,h2,h3,h4,bD,hK,c2,←c3,hsl,hlt]));refine (L5 _).1 f2 _ ?_;apply zN;(repeat((conv=>lhs;whnf);simp only[go_sem,simprocAttr,ha,h5]));exact k
     ·have c3 : ¬(i:Int)=((last-1:Nat):Int):=by omega
      apply Exists.intro;apply zC;((repeat((conv=>lhs;whnf);simp only[go_sem,simprocAttr,h1,h2,h3,h4,bD,hK,c2,c3]));try rfl)
    ·apply Exists.intro;apply zC;((repeat((conv=>lhs;whnf);simp only[go_sem,simprocAttr,h1,h2,h3,h4,bD,hK,c1,c2]));try rfl)
end
end
section
def ZK (n:Node):Prop:=∀k∈n.kids,∀a b c,callL Tryz.prog zE 78 [.agg k.cells,.agg (yJ a b c)]=some (.bool (k.formed a b c))
theorem ui (n:Node) (hn:n.ok) (a b c:Bool) (s:List Int) (h2:n.kids.length=s.length→(n.op=8∨n.op=9)→n.kids.length=2) (ih:ZK n) (hl:n.kids.length=s.length) (T:zB) (hT:kA T) (e:Bool) (he:e=false∨s=[]) :
  ∃S',zT 0 ZH 7 2036 (T.length+2) [.blk 7,.seq 0 255] [(2,.mp 0 0 0),(3,.mp 1 0 0),(6,.sl (zD .i64 s) e),(208,.sl (Node.rows n.kids) false),(209,.int .i64 n.kids.length),(210,.int .i64 0)] (f2 n a b c T)=some (.bool (Node.formeds n.kids s a b c&&xJ n.op n.kids),S') :=
 zEB n hn a b c s hl.symm e he (h2 hl) (fun k hk=>ih k hk a b c) T hT n.kids.length 0 (by omega)
theorem UB (n:Node) (a b c:Bool) (h:n.op≠10∧n.op≠37∧n.op≠54∧n.op≠3∧n.op≠12∧n.op≠39):n.rest a b c=(decide (n.kids.length=(zP n.op).length)&&(Node.formeds n.kids (zP n.op) a b c&&xJ n.op n.kids)):=by
 obtain⟨h1,h2,h3,h4,h5,h6⟩:=h;have e1:yV n.op n.kids.length=zP n.op:=by simp[yV,h1,h2,h3]
 simp[Node.rest,vI,e1,h1,h2,h3,h4,h5,h6]
theorem zGZ (n:Node) (a b c:Bool) (h:n.op=3):n.rest a b c=(!(a||(b||c))&&(decide (n.kids.length=(zP n.op).length)&&(Node.formeds n.kids (zP n.op) a b c&&xJ n.op n.kids))):=by
 simp[Node.rest,vI,yV,h]
theorem zJI (n:Node) (a b c:Bool) (h:n.op=12):n.rest a b c=(!(a||c)&&(decide (n.kids.length=(zP n.op).length)&&(Node.formeds n.kids (zP n.op) true b c&&xJ n.op n.kids))):=by
 simp[Node.rest,vI,yV,h]
theorem zG0 (n:Node) (a b c:Bool) (h:n.op=39):n.rest a b c=(!c&&(decide (n.kids.length=1)&&(n.kids.getD 0 nd0).diff)&&(decide (n.kids.length=(zP n.op).length)&&(Node.formeds n.kids (zP n.op) a true c&&xJ n.op n.kids))):=by
 simp[Node.rest,vI,yV,h]
theorem zEH (n:Node) (a b c:Bool) (h:n.op=10∨n.op=37):n.rest a b c=(yT n.name&&decide (n.kids.length≤1)&&(Node.formeds n.kids (List.replicate n.kids.length 1) a b c&&xJ n.op n.kids)):=by
 have e3:decide (n.op=12)=false∧decide (n.op=39)=false∧decide (n.op=54)=false:=by rcases h with h | h <;> simp[h]
 have:yV n.op n.kids.length=List.replicate n.kids.length 1:=by simp[yV,h]
 simp only[Node.rest,vI,bA h,this,e3.1,e3.2.1,e3.2.2,pJ,SO,decide_true,bC]
theorem zJJ (n:Node) (a b c:Bool) (h:n.op=54):n.rest a b c=(yl n.name&&(decide (2≤n.kids.length)&&WS n.kids)&&(decide (n.kids.length=(vY (n.kids.length-1)++[2]).length)&&(Node.formeds n.kids (vY (n.kids.length-1)++[2]) a b true&&xJ n.op n.kids))):=by
 simp[Node.rest,vI,yV,h,vY]
section
attribute [local irreducible] Vs.callL Vs.callRL tyi zO zk zf zQ zW zZ zI zX zA zK zb zV zG zJ zU zs yL zr zL za Vs.gc zH
theorem zBn (n:Node) (hn:n.ok) (a b c:Bool) (ih:ZK n) (h1 : ¬n.op=1) (hneg:n.neg=false) (hnum : ¬ 0<(n.num.length:Int)) (hden : ¬ 0<(n.den.length:Int)) (hh:yW n.op=true) (hm:yT n.name=true) (h:n.op≠10∧n.op≠37∧n.op≠54∧n.op≠3∧n.op≠12∧n.op≠39):callL Tryz.prog zE 78 [.agg n.cells,.agg (yJ a b c)]=some (.bool (n.rest a b c)):=by
 rw[UB n a b c h];obtain⟨g1,g2,g3,g4,g5,g6⟩:=h;unfold yJ;by_cases hl:n.kids.length=(zP n.op).length
 ·have hq:(n.kids.length:Int)=((zP n.op).length:Int):=by omega
  obtain⟨S',k⟩:=ui n hn a b c (zP n.op) (fun hl ho=>by rw[hl];rcases ho with ho | ho <;> rw[ho] <;> rfl) ih hl [] .nil (zP n.op).isEmpty (by cases zP n.op <;> simp);rw[bG hl,bC];rw[hq]at k;have hz : ∀S,vD S (.sl (zD .i64 (zP n.op)) (zP n.op).isEmpty)=some (.sl (zD .i64 (zP n.op)) (zP n.op).isEmpty):=fun S=>by
   cases zP n.op with
   | nil=>rfl
   | cons x r=>simp only[aC,go_sem]
  apply FX.callB2 ok78_ 1000 rfl rfl;(repeat((conv=>lhs;whnf);simp only[go_sem,simprocAttr,h1,hneg,hnum,hden,yd,xX,xI,hh,hm,g1,g2,g3,g4,g5,g6,hl,hq,hz]));exact k
 ·have hq : ¬(n.kids.length:Int)=((zP n.op).length:Int):=by omega
  rw[bH hl,bB];apply FX.callB2 ok78_ 1000 rfl rfl;((repeat((conv=>lhs;whnf);simp only[go_sem,simprocAttr,h1,hneg,hnum,hden,yd,xX,xI,hh,hm,g1,g2,g3,g4,g5,g6,hl,hq]));try rfl)
theorem zEI (n:Node) (hn:n.ok) (a b c:Bool) (ih:ZK n) (h1 : ¬n.op=1) (hneg:n.neg=false) (hnum : ¬ 0<(n.num.length:Int)) (hden : ¬ 0<(n.den.length:Int)) (hh:yW n.op=false) (hm:yl n.name=true) (h:n.op≠10∧n.op≠37∧n.op≠54∧n.op≠3∧n.op≠12∧n.op≠39):callL Tryz.prog zE 78 [.agg n.cells,.agg (yJ a b c)]=some (.bool (n.rest a b c)):=by
 rw[UB n a b c h];obtain⟨g1,g2,g3,g4,g5,g6⟩:=h;unfold yJ yl at *;by_cases hl:n.kids.length=(zP n.op).length
 ·have hq:(n.kids.length:Int)=((zP n.op).length:Int):=by omega
  obtain⟨S',k⟩:=ui n hn a b c (zP n.op) (fun hl ho=>by rw[hl];rcases ho with ho | ho <;> rw[ho] <;> rfl) ih hl [] .nil (zP n.op).isEmpty (by cases zP n.op <;> simp);rw[bG hl,bC];rw[hq]at k;have hz : ∀S,vD S (.sl (zD .i64 (zP n.op)) (zP n.op).isEmpty)=some (.sl (zD .i64 (zP n.op)) (zP n.op).isEmpty):=fun S=>by
   cases zP n.op with
   | nil=>rfl
   | cons x r=>simp only[aC,go_sem]
  apply FX.callB2 ok78_ 1000 rfl rfl;(repeat((conv=>lhs;whnf);simp only[go_sem,simprocAttr,h1,hneg,hnum,hden,yd,xX,xI,hh,hm,g1,g2,g3,g4,g5,g6,hl,hq,hz]));exact k
 ·have hq : ¬(n.kids.length:Int)=((zP n.op).length:Int):=by omega
  rw[bH hl,bB];apply FX.callB2 ok78_ 1000 rfl rfl;((repeat((conv=>lhs;whnf);simp only[go_sem,simprocAttr,h1,hneg,hnum,hden,yd,xX,xI,hh,hm,g1,g2,g3,g4,g5,g6,hl,hq]));try rfl)
theorem zBo (n:Node) (hn:n.ok) (a b c:Bool) (ih:ZK n) (hneg:n.neg=false) (hnum : ¬ 0<(n.num.length:Int)) (hden : ¬ 0<(n.den.length:Int)) (hm:yT n.name=true) (h:n.op=3):callL Tryz.prog zE 78 [.agg n.cells,.agg (yJ a b c)]=some (.bool (n.rest a b c)):=by
 rw[zGZ n a b c h];have hh:yW 3=true:=rfl;have hk:zP 3=[]:=rfl;rw[h,hk];have k7:=fun a b c hl=>ui n hn a b c [] (fun _ ho=>by rw[h]at ho;omega) ih hl [] .nil true (.inr rfl);rw[h]at k7;unfold yJ;cases a
 ·cases b
  ·cases c
   ·by_cases hl:n.kids.length=0
    ·have hq:(n.kids.length:Int)=0:=by omega
     obtain⟨S',k⟩:=k7 false false false (by rw[hl];rfl);rw[hq]at k;simp only[hl,bV,bL,pE,decide_true,bC,pJ,sQ,bK,sO];apply FX.callB2 ok78_ 1000 rfl rfl;(repeat((conv=>lhs;whnf);simp only[go_sem,simprocAttr,hneg,hnum,hden,Int.reduceEq,pN,aC,yE,xe,yd,xX,xI,h,hh,hk,hm,hl,hq]));exact k
    ·have hq : ¬(n.kids.length:Int)=0:=by omega
     have hr : ¬(n.kids.length:Int)=((0:Nat):Int):=by omega
     simp only[hl,bV,bL,pE,decide_false,bB,bQ];apply FX.callB2 ok78_ 1000 rfl rfl;((repeat((conv=>lhs;whnf);simp only[go_sem,simprocAttr,hneg,hnum,hden,Int.reduceEq,pN,aC,yE,xe,yd,xX,xI,h,hh,hk,hm,hl,hq,hr]));try rfl)
   ·apply FX.callB2 ok78_ 1000 rfl rfl;((repeat((conv=>lhs;whnf);simp only[go_sem,simprocAttr,hneg,hnum,hden,Int.reduceEq,pN,aC,yE,xe,yd,xX,xI,h,hh,hk,hm]));try rfl)
  ·apply FX.callB2 ok78_ 1000 rfl rfl;((repeat((conv=>lhs;whnf);simp only[go_sem,simprocAttr,hneg,hnum,hden,Int.reduceEq,pN,aC,yE,xe,yd,xX,xI,h,hh,hk,hm]));try rfl)
 ·apply FX.callB2 ok78_ 1000 rfl rfl;((repeat((conv=>lhs;whnf);simp only[go_sem,simprocAttr,hneg,hnum,hden,Int.reduceEq,pN,aC,yE,xe,yd,xX,xI,h,hh,hk,hm]));try rfl)
theorem zG1 (n:Node) (hn:n.ok) (a b c:Bool) (ih:ZK n) (hnat:vk n.neg n.num n.den=true) (hm:yl n.name=true) (h:n.op=1):callL Tryz.prog zE 78 [.agg n.cells,.agg (yJ a b c)]=some (.bool (n.rest a b c)):=by
 rw[UB n a b c (by omega)];have hh:yW 1=false:=rfl;have hk:zP 1=[]:=rfl;rw[h,hk];have k7:=fun a b c hl=>ui n hn a b c [] (fun _ ho=>by rw[h]at ho;omega) ih hl [] .nil true (.inr rfl);rw[h]at k7;have cn:=fun S=>zAG S n hn;rw[hnat]at cn;unfold yJ yl at *;by_cases hl:n.kids.length=0
 ·have hq:(n.kids.length:Int)=0:=by omega
  obtain⟨S',k⟩:=k7 a b c (by rw[hl];rfl);rw[hq]at k;simp only[hl,bV,bL,pE,decide_true,bC,pJ,sQ,bK,sO];apply FX.callB2 ok78_ 1000 rfl rfl;(repeat((conv=>lhs;whnf);simp only[go_sem,simprocAttr,cn,Int.reduceEq,pN,aC,yE,xe,yd,xX,xI,h,hh,hk,hm,hl,hq]));exact k
 ·have hq : ¬(n.kids.length:Int)=0:=by omega
  have hr : ¬(n.kids.length:Int)=((0:Nat):Int):=by omega
  simp only[hl,bV,bL,pE,decide_false,bB,bQ];apply FX.callB2 ok78_ 1000 rfl rfl;((repeat((conv=>lhs;whnf);simp only[go_sem,simprocAttr,cn,Int.reduceEq,pN,aC,yE,xe,yd,xX,xI,h,hh,hk,hm,hl,hq,hr]));try rfl)
theorem zEJ (n:Node) (hn:n.ok) (a b c:Bool) (ih:ZK n) (hneg:n.neg=false) (hnum : ¬ 0<(n.num.length:Int)) (hden : ¬ 0<(n.den.length:Int)) (hm:yl n.name=true) (h:n.op=12):callL Tryz.prog zE 78 [.agg n.cells,.agg (yJ a b c)]=some (.bool (n.rest a b c)):=by
 rw[zJI n a b c h];have hh:yW 12=false:=rfl;have hk:zP 12=[1]:=rfl;rw[h,hk];have k7:=fun a b c hl=>ui n hn a b c [1] (fun _ ho=>by rw[h]at ho;omega) ih hl [] .nil false (.inl rfl);rw[h]at k7;unfold yJ yl at *;cases a
 ·cases c
  ·by_cases hl:n.kids.length=1
   ·have hq:(n.kids.length:Int)=1:=by omega
    obtain⟨S',k⟩:=k7 true b false (by rw[hl];rfl);rw[hq]at k;simp only[hl,bV,bL,pE,decide_true,bC,pJ,sQ,bK,sO];apply FX.callB2 ok78_ 1000 rfl rfl;(repeat((conv=>lhs;whnf);simp only[go_sem,simprocAttr,hneg,hnum,hden,Int.reduceEq,pN,aC,yE,xe,yd,xX,xI,h,hh,hk,hm,hl,hq]));exact k
   ·have hq : ¬(n.kids.length:Int)=1:=by omega
    have hr : ¬(n.kids.length:Int)=((1:Nat):Int):=by omega
    simp only[hl,bV,bL,pE,decide_false,bB,bQ];apply FX.callB2 ok78_ 1000 rfl rfl;((repeat((conv=>lhs;whnf);simp only[go_sem,simprocAttr,hneg,hnum,hden,Int.reduceEq,pN,aC,yE,xe,yd,xX,xI,h,hh,hk,hm,hl,hq,hr]));try rfl)
  ·apply FX.callB2 ok78_ 1000 rfl rfl;((repeat((conv=>lhs;whnf);simp only[go_sem,simprocAttr,hneg,hnum,hden,Int.reduceEq,pN,aC,yE,xe,yd,xX,xI,h,hh,hk,hm]));try rfl)
 ·apply FX.callB2 ok78_ 1000 rfl rfl;((repeat((conv=>lhs;whnf);simp only[go_sem,simprocAttr,hneg,hnum,hden,Int.reduceEq,pN,aC,yE,xe,yd,xX,xI,h,hh,hk,hm]));try rfl)
theorem zBp (n:Node) (hn:n.ok) (a b c:Bool) (ih:ZK n) (hneg:n.neg=false) (hnum : ¬ 0<(n.num.length:Int)) (hden : ¬ 0<(n.den.length:Int)) (hm:yl n.name=true) (h:n.op=39):callL Tryz.prog zE 78 [.agg n.cells,.agg (yJ a b c)]=some (.bool (n.rest a b c)):=by
 rw[zG0 n a b c h];have hh:yW 39=false:=rfl;have hk:zP 39=[2]:=rfl;rw[h,hk];have k7:=fun a b c hl=>ui n hn a b c [2] (fun _ ho=>by rw[h]at ho;omega) ih hl [] .nil false (.inl rfl);rw[h]at k7;unfold yJ yl at *;cases c
 ·by_cases hl:n.kids.length=1
  ·have hq:(n.kids.length:Int)=1:=by omega
   have h5:=fun S=>zGM S _ (hn.kids _ (zu (l:=n.kids) (i:=0) (by omega)));obtain⟨S',k⟩:=k7 a true false (by rw[hl];rfl);rw[hq]at k;simp only[hl,bV,bL,pE,decide_true,bC,bK]
   cases hd:(n.kids.getD 0 nd0).diff
   ·rw[hd]at h5;rw[bB];apply FX.callB2 ok78_ 1000 rfl rfl;((repeat((conv=>lhs;whnf);simp only[go_sem,simprocAttr,hneg,hnum,hden,Int.reduceEq,pN,aC,yE,xe,yd,xX,xI,h,hh,hk,hm,hl,hq,h5,sD]));try rfl)
   ·rw[hd]at h5;rw[bC];apply FX.callB2 ok78_ 1000 rfl rfl;(repeat((conv=>lhs;whnf);simp only[go_sem,simprocAttr,hneg,hnum,hden,Int.reduceEq,pN,aC,yE,xe,yd,xX,xI,h,hh,hk,hm,hl,hq,h5,sD]));exact k
  ·have hq : ¬(n.kids.length:Int)=1:=by omega
   simp only[hl,decide_false,bB,bQ];apply FX.callB2 ok78_ 1000 rfl rfl;((repeat((conv=>lhs;whnf);simp only[go_sem,simprocAttr,hneg,hnum,hden,Int.reduceEq,pN,aC,yE,xe,yd,xX,xI,h,hh,hk,hm,hl,hq]));try rfl)
 ·apply FX.callB2 ok78_ 1000 rfl rfl;((repeat((conv=>lhs;whnf);simp only[go_sem,simprocAttr,hneg,hnum,hden,Int.reduceEq,pN,aC,yE,xe,yd,xX,xI,h,hh,hk,hm]));try rfl)
end
end
section
section
attribute [local irreducible] Vs.callL Vs.callRL tyi zO zk zf zQ zW zZ zI zX zA zK zb zV zG zJ zU zs yL zr zL za Vs.gc zH
theorem VP (n:Node) (hn:n.ok) (a b c:Bool) (ih:ZK n) (L:List Int) (g:Option (Option Nat)) (hL:n.kids.length=L.length) (ho:n.op≠8∧n.op≠9) : ∃S',zT 0 ZH 1 16044 3 [.blk 1,.blk 0,.seq 0 63] [(2,.mp 0 0 0),(3,.mp 1 0 0),(6,.msl 2 0 L.length false),(88,.int .i64 L.length),(89,.int .i64 L.length)] [.arr [n.cells] none false,.arr [[.bool a,.bool b,.bool c]] none false,.arr (zD .i64 L) g false]=some (.bool (Node.formeds n.kids L a b c&&xJ n.op n.kids),S'):=by
 have h1 : ¬(L.length:Int)<(L.length:Int):=by omega
 obtain⟨S',k⟩:=ui n hn a b c L (fun _ h=>by omega) ih hL [.arr (zD .i64 L) g true] (.cons (zq _ _) .nil) false (.inl rfl);have hz:=uO (S:=[.arr [n.cells] none false,.arr [[.bool a,.bool b,.bool c]] none false,.arr (zD .i64 L) g false]) (id:=2) (n:=L.length) (k:=.i64) (L:=L) (ex:=false) rfl rfl;rw[hL]at k;refine⟨S',yv ok78_.good 1000 ?_⟩;(repeat((conv=>lhs;whnf);simp only[go_sem,simprocAttr,h1]));apply zN;(repeat((conv=>lhs;whnf);simp only[go_sem,simprocAttr,hL,hz]));exact k
theorem zBq (n:Node) (hn:n.ok) (a b c:Bool) (ih:ZK n) (hneg:n.neg=false) (hnum : ¬ 0<(n.num.length:Int)) (hden : ¬ 0<(n.den.length:Int)) (hq:(n.name.toList == (⟨#[]⟩:ByteArray).toList)=true) (op:Int) (hop:op=10∨op=37) (h:n.op=op):callL Tryz.prog zE 78 [.agg n.cells,.agg (yJ a b c)]=some (.bool (n.rest a b c)):=by
 rw[zEH n a b c (by rw[h];exact hop)];have ho:n.op≠8∧n.op≠9:=by omega
 have hh:yW op=false:=by rcases hop with h | h <;> rw[h] <;> rfl
 have hk:zP op=[]:=by rcases hop with h | h <;> rw[h] <;> rfl
 have g1 : ¬op=1:=by omega
 unfold yJ
 cases hm:yT n.name
 ·rw[bB,bB];apply FX.callB2 ok78_ 1000 rfl rfl
  rcases hop with rfl | rfl
  ·((repeat((conv=>lhs;whnf);simp only[go_sem,simprocAttr,hq,h,hneg,hnum,hden,yd,xX,xI,hh,hk,hm,pN,yE,Int.reduceEq]));try rfl)
  ·((repeat((conv=>lhs;whnf);simp only[go_sem,simprocAttr,hq,h,hneg,hnum,hden,yd,xX,xI,hh,hk,hm,pN,yE,Int.reduceEq]));try rfl)
 by_cases hl:n.kids.length≤1
 case neg =>
  have hl1:1<(n.kids.length:Int):=by omega
  rw[bH hl,bQ,bB];apply FX.callB2 ok78_ 1000 rfl rfl
  rcases hop with rfl | rfl
  ·((repeat((conv=>lhs;whnf);simp only[go_sem,simprocAttr,hq,h,hneg,hnum,hden,yd,xX,xI,hh,hk,hm,pN,yE,Int.reduceEq,hl1]));try rfl)
  ·((repeat((conv=>lhs;whnf);simp only[go_sem,simprocAttr,hq,h,hneg,hnum,hden,yd,xX,xI,hh,hk,hm,pN,yE,Int.reduceEq,hl1]));try rfl)
 rw[bG hl,sC,bC];by_cases h0:n.kids.length=0
 ·obtain⟨S',k⟩:=VP n hn a b c ih [] (some none) h0 ho;have h0':(n.kids.length:Int)=0:=by omega
  rw[h0];apply FX.callB2 ok78_ 1000 rfl rfl
  rcases hop with rfl | rfl
  ·((repeat((conv=>lhs;whnf);simp only[go_sem,simprocAttr,hq,h,hneg,hnum,hden,yd,xX,xI,hh,hk,hm,pN,yE,Int.reduceEq,h0',Int.reduceLT]));try rfl);rw[h]at k;exact k
  ·((repeat((conv=>lhs;whnf);simp only[go_sem,simprocAttr,hq,h,hneg,hnum,hden,yd,xX,xI,hh,hk,hm,pN,yE,Int.reduceEq,h0',Int.reduceLT]));try rfl);rw[h]at k;exact k
 ·have h1:n.kids.length=1:=by omega
  have h1':(n.kids.length:Int)=1:=by omega
  obtain⟨S',k⟩:=VP n hn a b c ih [1] (some (some 1)) h1 ho;have ha:=VO (S:=[.arr [n.cells] none false,.arr [[.bool a,.bool b,.bool c]] none false,.arr (zD .i64 []) (some none) false,.arr [[.int .i64 1]] (some (some 1)) false]) (j:=3) [] 1 none (.inl rfl) (by decide) true rfl rfl
   (S':=[.arr [n.cells] none false,.arr [[.bool a,.bool b,.bool c]] none false,.arr (zD .i64 [1]) (some (some 1)) false,.arr [[.int .i64 1]] (some (some 1)) false])
   (by simp only[pZ,HS,xE (yU _),xE (zq _ _),xE (show zS [[PV.bool a,.bool b,.bool c]]=[] from rfl),xE (show zS [[PV.int .i64 1]]=[] from rfl)];rfl)
  have L1:zT 0 ZH 1 16044 3 [.blk 1,.blk 0,.seq 0 63] [(2,.mp 0 0 0),(3,.mp 1 0 0),(6,.msl 2 0 0 false),(88,.int .i64 1),(89,.int .i64 0)] [.arr [n.cells] none false,.arr [[.bool a,.bool b,.bool c]] none false,.arr [] (some none) false]=some (.bool (Node.formeds n.kids [1] a b c&&xJ n.op n.kids),S'):=by
   have c1:(0:Int)<1:=by decide
   have w1:IntKind.i64.wrap (0+1)=1:=by rfl
   apply zC;simp only[yE,bV]at ha;(repeat((conv=>lhs;whnf);simp only[go_sem,simprocAttr,c1,w1,ha]));exact k
  rw[h1];apply FX.callB2 ok78_ 1000 rfl rfl
  rcases hop with rfl | rfl
  ·((repeat((conv=>lhs;whnf);simp only[go_sem,simprocAttr,hq,h,hneg,hnum,hden,yd,xX,xI,hh,hk,hm,pN,yE,Int.reduceEq,h1',Int.reduceLT]));try rfl);rw[h]at L1;exact L1
  ·((repeat((conv=>lhs;whnf);simp only[go_sem,simprocAttr,hq,h,hneg,hnum,hden,yd,xX,xI,hh,hk,hm,pN,yE,Int.reduceEq,h1',Int.reduceLT]));try rfl);rw[h]at L1;exact L1
theorem zBr (n:Node) (hn:n.ok) (a b c:Bool) (ih:ZK n) (hneg:n.neg=false) (hnum : ¬ 0<(n.num.length:Int)) (hden : ¬ 0<(n.den.length:Int)) (hq:(n.name.toList == (⟨#[]⟩:ByteArray).toList)=false) (op:Int) (hop:op=10∨op=37) (h:n.op=op):callL Tryz.prog zE 78 [.agg n.cells,.agg (yJ a b c)]=some (.bool (n.rest a b c)):=by
 rw[zEH n a b c (by rw[h];exact hop)];have ho:n.op≠8∧n.op≠9:=by omega
 have hh:yW op=false:=by rcases hop with h | h <;> rw[h] <;> rfl
 have hk:zP op=[]:=by rcases hop with h | h <;> rw[h] <;> rfl
 have g1 : ¬op=1:=by omega
 unfold yJ
 cases hm:yT n.name
 ·rw[bB,bB];apply FX.callB2 ok78_ 1000 rfl rfl
  rcases hop with rfl | rfl
  ·((repeat((conv=>lhs;whnf);simp only[go_sem,simprocAttr,hq,h,hneg,hnum,hden,yd,xX,xI,hh,hk,hm,pN,yE,Int.reduceEq]));try rfl)
  ·((repeat((conv=>lhs;whnf);simp only[go_sem,simprocAttr,hq,h,hneg,hnum,hden,yd,xX,xI,hh,hk,hm,pN,yE,Int.reduceEq]));try rfl)
 by_cases hl:n.kids.length≤1
 case neg =>
  have hl1:1<(n.kids.length:Int):=by omega
  rw[bH hl,bQ,bB];apply FX.callB2 ok78_ 1000 rfl rfl
  rcases hop with rfl | rfl
  ·((repeat((conv=>lhs;whnf);simp only[go_sem,simprocAttr,hq,h,hneg,hnum,hden,yd,xX,xI,hh,hk,hm,pN,yE,Int.reduceEq,hl1]));try rfl)
  ·((repeat((conv=>lhs;whnf);simp only[go_sem,simprocAttr,hq,h,hneg,hnum,hden,yd,xX,xI,hh,hk,hm,pN,yE,Int.reduceEq,hl1]));try rfl)
 rw[bG hl,sC,bC];by_cases h0:n.kids.length=0
 ·obtain⟨S',k⟩:=VP n hn a b c ih [] (some none) h0 ho;have h0':(n.kids.length:Int)=0:=by omega
  rw[h0];apply FX.callB2 ok78_ 1000 rfl rfl
  rcases hop with rfl | rfl
  ·((repeat((conv=>lhs;whnf);simp only[go_sem,simprocAttr,hq,h,hneg,hnum,hden,yd,xX,xI,hh,hk,hm,pN,yE,Int.reduceEq,h0',Int.reduceLT]));try rfl);rw[h]at k;exact k
  ·((repeat((conv=>lhs;whnf);simp only[go_sem,simprocAttr,hq,h,hneg,hnum,hden,yd,xX,xI,hh,hk,hm,pN,yE,Int.reduceEq,h0',Int.reduceLT]));try rfl);rw[h]at k;exact k
 ·have h1:n.kids.length=1:=by omega
  have h1':(n.kids.length:Int)=1:=by omega
  obtain⟨S',k⟩:=VP n hn a b c ih [1] (some (some 1)) h1 ho;have ha:=VO (S:=[.arr [n.cells] none false,.arr [[.bool a,.bool b,.bool c]] none false,.arr (zD .i64 []) (some none) false,.arr [[.int .i64 1]] (some (some 1)) false]) (j:=3) [] 1 none (.inl rfl) (by decide) true rfl rfl
   (S':=[.arr [n.cells] none false,.arr [[.bool a,.bool b,.bool c]] none false,.arr (zD .i64 [1]) (some (some 1)) false,.arr [[.int .i64 1]] (some (some 1)) false])
   (by simp only[pZ,HS,xE (yU _),xE (zq _ _),xE (show zS [[PV.bool a,.bool b,.bool c]]=[] from rfl),xE (show zS [[PV.int .i64 1]]=[] from rfl)];rfl)
  have L1:zT 0 ZH 1 16044 3 [.blk 1,.blk 0,.seq 0 63] [(2,.mp 0 0 0),(3,.mp 1 0 0),(6,.msl 2 0 0 false),(88,.int .i64 1),(89,.int .i64 0)] [.arr [n.cells] none false,.arr [[.bool a,.bool b,.bool c]] none false,.arr [] (some none) false]=some (.bool (Node.formeds n.kids [1] a b c&&xJ n.op n.kids),S'):=by
   have c1:(0:Int)<1:=by decide
   have w1:IntKind.i64.wrap (0+1)=1:=by rfl
   apply zC;simp only[yE,bV]at ha;(repeat((conv=>lhs;whnf);simp only[go_sem,simprocAttr,c1,w1,ha]));exact k
  rw[h1];apply FX.callB2 ok78_ 1000 rfl rfl
  rcases hop with rfl | rfl
  ·((repeat((conv=>lhs;whnf);simp only[go_sem,simprocAttr,hq,h,hneg,hnum,hden,yd,xX,xI,hh,hk,hm,pN,yE,Int.reduceEq,h1',Int.reduceLT]));try rfl);rw[h]at L1;exact L1
  ·((repeat((conv=>lhs;whnf);simp only[go_sem,simprocAttr,hq,h,hneg,hnum,hden,yd,xX,xI,hh,hk,hm,pN,yE,Int.reduceEq,h1',Int.reduceLT]));try rfl);rw[h]at L1;exact L1
theorem JR (n:Node) (hn:n.ok) (a b c:Bool) (ih:ZK n) (hneg:n.neg=false) (hnum : ¬ 0<(n.num.length:Int)) (hden : ¬ 0<(n.den.length:Int)) (op:Int) (hop:op=10∨op=37) (h:n.op=op):callL Tryz.prog zE 78 [.agg n.cells,.agg (yJ a b c)]=some (.bool (n.rest a b c)):=by
 cases hq:(n.name.toList == (⟨#[]⟩:ByteArray).toList)
 ·exact zBr n hn a b c ih hneg hnum hden hq op hop h
 ·exact zBq n hn a b c ih hneg hnum hden hq op hop h
theorem zJK (n:Node) (hn:n.ok) (hlen:n.kids.length≤100000) (a b c:Bool) (ih:ZK n) (last:Nat) (hlast:last+1=n.kids.length) (g:Option Nat) (hg:g=none∨g=some 1) (h:n.op=54) : ∃S',yD 0 ZH 3 [.blk 3,.seq 0 32119,.blk 0,.seq 0 63] [(2,.mp 0 0 0),(3,.mp 1 0 0),(6,.msl 2 0 last false),(7,.undef),(8,.undef),(112,.undef)]
     [.arr [n.cells] none false,.arr [[.bool a,.bool b,.bool c]] none false,.arr (zD .i64 (vY last)) (some g) false]=some (.bool (Node.formeds n.kids (vY last++[2]) a b true&&xJ n.op n.kids),S'):=by
 have hL:n.kids.length=(vY last++[2]).length:=by rw[bJ,kB];simpa using hlast.symm
 have hL':(n.kids.length:Int)=((last+1:Nat):Int):=by omega
 obtain⟨S',k⟩:=ui n hn a b true (vY last++[2]) (fun _ h=>by omega) ih hL [.arr (zD .i64 (vY last++[2])) (some (some 1)) true,.arr [[.int .i64 2]] (some (some 1)) false] (.cons (zq _ _) (.cons rfl .nil)) false (.inl rfl);have ha:=VO (S:=[.arr [n.cells] none false,.arr [[.bool a,.bool b,.bool c]] none false,.arr (zD .i64 (vY last)) (some g) false,.arr [[.int .i64 2]] (some (some 1)) false]) (j:=3) (vY last) 2 g hg (by rw[kB];omega) true rfl rfl
  (S':=[.arr [n.cells] none false,.arr [[.bool a,.bool b,.bool c]] none false,.arr (zD .i64 (vY last++[2])) (some (some 1)) false,.arr [[.int .i64 2]] (some (some 1)) false])
  (by simp only[pZ,HS,xE (yU _),xE (zq _ _),xE (show zS [[PV.bool a,.bool b,.bool c]]=[] from rfl),xE (show zS [[PV.int .i64 2]]=[] from rfl)];rfl)
 rw[kB]at ha;have hz:=uO (S:=[.arr [n.cells] none false,.arr [[.bool a,.bool b,.bool true]] none false,.arr (zD .i64 (vY last++[2])) (some (some 1)) false,.arr [[.int .i64 2]] (some (some 1)) false]) (id:=2) (n:=last+1) (k:=.i64) (L:=vY last++[2]) (ex:=false) rfl (by rw[←hL];exact hlast.symm);rw[hL']at k;refine⟨S',zCw ok78_.good 1000 ?_⟩;(repeat((conv=>lhs;whnf);simp only[go_sem,simprocAttr,ha,hL',hz]));exact k
theorem zG2 (n:Node) (hn:n.ok) (hlen:n.kids.length≤100000) (a b c:Bool) (ih:ZK n) (hneg:n.neg=false) (hnum : ¬ 0<(n.num.length:Int)) (hden : ¬ 0<(n.den.length:Int)) (hm:yl n.name=true) (h:n.op=54):callL Tryz.prog zE 78 [.agg n.cells,.agg (yJ a b c)]=some (.bool (n.rest a b c)):=by
 rw[zJJ n a b c h,hm,bC];have hh:yW 54=false:=rfl;have hk:zP 54=[]:=rfl;have hM:=xZ;have hnl:=hn.len;unfold yJ yl at *;by_cases hl:2≤n.kids.length
 case neg =>
  have hl':(n.kids.length:Int)<2:=by omega
  rw[bH hl,bB,bB];apply FX.callB2 ok78_ 1000 rfl rfl;((repeat((conv=>lhs;whnf);simp only[go_sem,simprocAttr,h,hneg,hnum,hden,yd,xX,hh,hk,hm,pN,yE,Int.reduceEq,hl']));try rfl)
 ·have hl' : ¬(n.kids.length:Int)<2:=by omega
  obtain⟨last,hlast⟩ : ∃last,last+1=n.kids.length:=⟨n.kids.length-1,by omega⟩;have hlast':n.kids.length-1=last:=by omega
  have hw:IntKind.i64.wrap ((n.kids.length:Int)-1)=(last:Int):=by rw[bE];omega
  have hd:n.kids.length=(vY last++[2]).length:=by rw[bJ,kB];simpa using hlast.symm
  obtain⟨g,hg,k1,k2⟩:=zBm n hn hlen a b c last hlast last 0 (by omega) none (.inl rfl);unfold WS;rw[hlast',bG hl,bG hd,bC,bC]
  cases f:uh n.kids last last 0
  ·obtain⟨S',k⟩:=k2 f;rw[bB];apply FX.callB2 ok78_ 1000 rfl rfl;(repeat((conv=>lhs;whnf);simp only[go_sem,simprocAttr,h,hneg,hnum,hden,yd,xX,hh,hk,hm,pN,yE,Int.reduceEq,hl',hw]));exact k
  ·obtain⟨S',k⟩:=zJK n hn hlen a b c ih last hlast g hg h;have k':=k1 f _ k;rw[bC];apply FX.callB2 ok78_ 1000 rfl rfl;((repeat((conv=>lhs;whnf);simp only[go_sem,simprocAttr,h,hneg,hnum,hden,yd,xX,hh,hk,hm,pN,yE,Int.reduceEq,hl',hw]));try rfl);rw[h]at k';exact k'
theorem zEK : ∀n:Node,n.ok→n.count≤100000→∀a b c,callL Tryz.prog zE 78 [.agg n.cells,.agg (yJ a b c)]=some (.bool (n.formed a b c)):=by
 refine Node.ind' fun n ih0 hn hc a b c=>?_;have hck:=JH n;have ih:ZK n:=fun k hk=>ih0 k hk (hn.kids k hk) (by have:=zAF _ k hk;omega);have hlen:n.kids.length≤100000:=by have:=JG n.kids;omega
 rw[zDz]
 cases hH:jL n.op n.name n.neg n.num n.den
 ·rw[bB];unfold jL at hH;by_cases h1:n.op=1
  ·have cn:=fun S=>zAG S n hn;rw[bA h1]at hH
   cases hnat:vk n.neg n.num n.den
   ·rw[hnat]at cn;unfold yJ;apply FX.callB2 ok78_ 1000 rfl rfl;((repeat((conv=>lhs;whnf);simp only[go_sem,simprocAttr,h1,cn]));try rfl)
   ·rw[hnat]at cn hH;have hh:yW 1=false:=rfl
    cases hm:yl n.name
    ·unfold yJ yl at *;apply FX.callB2 ok78_ 1000 rfl rfl;((repeat((conv=>lhs;whnf);simp only[go_sem,simprocAttr,h1,cn,yd,hh,hm,Int.reduceEq]));try rfl)
    ·simp[h1,hh,hm]at hH
  ·rw[hZ h1]at hH
   cases hneg:n.neg
   ·by_cases hnum:n.num.length=0
    ·have hnum' : ¬ 0<(n.num.length:Int):=by omega
     by_cases hden:n.den.length=0
     ·have hden' : ¬ 0<(n.den.length:Int):=by omega
      cases hh:yW n.op
      ·cases hm:yl n.name
       ·by_cases h10:n.op=10
        ·rw[h10]at hH hh;simp[hneg,hnum,hden,hh,hm]at hH
        by_cases h37:n.op=37
        ·rw[h37]at hH hh;simp[hneg,hnum,hden,hh,hm]at hH
        unfold yJ yl at *;apply FX.callB2 ok78_ 1000 rfl rfl;((repeat((conv=>lhs;whnf);simp only[go_sem,simprocAttr,h1,hneg,hnum',hden',yd,hh,hm,h10,h37]));try rfl)
       ·simp[hneg,hnum,hden,hh,hm]at hH
      ·cases hm:yT n.name
       ·unfold yJ;apply FX.callB2 ok78_ 1000 rfl rfl;((repeat((conv=>lhs;whnf);simp only[go_sem,simprocAttr,h1,hneg,hnum',hden',yd,hh,xI,hm]));try rfl)
       ·simp[hneg,hnum,hden,hh,hm]at hH
     ·have hden':0<(n.den.length:Int):=by omega
      unfold yJ;apply FX.callB2 ok78_ 1000 rfl rfl;((repeat((conv=>lhs;whnf);simp only[go_sem,simprocAttr,h1,hneg,hnum',hden']));try rfl)
    ·have hnum':0<(n.num.length:Int):=by omega
     unfold yJ;apply FX.callB2 ok78_ 1000 rfl rfl;((repeat((conv=>lhs;whnf);simp only[go_sem,simprocAttr,h1,hneg,hnum']));try rfl)
   ·unfold yJ;apply FX.callB2 ok78_ 1000 rfl rfl;((repeat((conv=>lhs;whnf);simp only[go_sem,simprocAttr,h1,hneg]));try rfl)
 ·rw[bC];unfold jL at hH;by_cases h1:n.op=1
  ·have hh:yW 1=false:=rfl;rw[bA h1]at hH;have hnat:vk n.neg n.num n.den=true:=by
    cases e:vk n.neg n.num n.den
    ·rw[e]at hH;simp at hH
    ·rfl
   have hm:yl n.name=true:=by
    cases e:yl n.name
    ·simp[h1,hh,e]at hH
    ·rfl
   exact zG1 n hn a b c ih hnat hm h1
  ·rw[hZ h1]at hH;simp only[bO,BA,pC]at hH;obtain⟨⟨hneg,hnum0,hden0⟩,hnm⟩:=hH;have hnum : ¬ 0<(n.num.length:Int):=by omega
   have hden : ¬ 0<(n.den.length:Int):=by omega
   by_cases h10:n.op=10
   ·exact JR n hn a b c ih hneg hnum hden 10 (.inl rfl) h10
   by_cases h37:n.op=37
   ·exact JR n hn a b c ih hneg hnum hden 37 (.inr rfl) h37
   have nn:yW n.op=false→yl n.name=true:=fun hh=>by
    cases e:yl n.name
    ·simp[hh,e,h10,h37]at hnm
    ·rfl
   have nm:yW n.op=true→yT n.name=true:=fun hh=>by
    cases e:yT n.name
    ·simp[hh,e]at hnm
    ·rfl
   by_cases h54:n.op=54
   ·exact zG2 n hn hlen a b c ih hneg hnum hden (nn (by rw[h54];rfl)) h54
   by_cases h3:n.op=3
   ·exact zBo n hn a b c ih hneg hnum hden (nm (by rw[h3];rfl)) h3
   by_cases h12:n.op=12
   ·exact zEJ n hn a b c ih hneg hnum hden (nn (by rw[h12];rfl)) h12
   by_cases h39:n.op=39
   ·exact zBp n hn a b c ih hneg hnum hden (nn (by rw[h39];rfl)) h39
   cases hh:yW n.op
   ·exact zEI n hn a b c ih h1 hneg hnum hden hh (nn hh) ⟨h10,h37,h54,h3,h12,h39⟩
   ·exact zBn n hn a b c ih h1 hneg hnum hden hh (nm hh) ⟨h10,h37,h54,h3,h12,h39⟩
end
end
section
def Zn (n:Node):Prop:=∀k∈n.kids,∀s t f,callL Tryz.prog zE 87 [.agg k.cells,.int .i64 s,.bool t,.bool f]=some (.bool (k.well s t f))
theorem VQ {k:Node} {s:Int} {t f v:Bool} (S:zB) (h:callL Tryz.prog zE 87 [.agg k.cells,.int .i64 s,.bool t,.bool f]=some (.bool v)):zO (callL Tryz.prog zE) S 87 [.agg k.cells,.int .i64 s,.bool t,.bool f]=some {v:=.bool v} := zF h (by simp[Node.plain,zi.int,zi.bool])
section
attribute [local irreducible] Vs.callL Vs.callRL tyi zO zk zf zQ zW zZ zI zX zA zK zb zV zG zJ zU zs yL zr zL za Vs.gc zH
noncomputable def JS:FX:=⟨Tryz.f131,zE.of 131,[]⟩
instance ok131_:JS.ok 131:=FX.mk'
theorem zG3 (n:Node) (hn:n.ok) (t f:Bool) (i:Nat) (hi:i<n.kids.length) (fs:List Fr) : ∀(m j:Nat),j+m=i →
  ((((n.kids.take i).drop j).all (vS (n.kids.getD i nd0)))=true→∀z,yD 0 JS 2 fs [(1,.bool t),(2,.bool f),(3,.mp 0 0 0),(7,.int .i64 n.kids.length),(8,.int .i64 i),(9,.undef),(10,.undef),(71,.undef)] [.arr [n.cells] none false,.arr [(n.kids.getD i nd0).cells] none false]=some z →
   zT 0 JS 2 62620 2 fs [(1,.bool t),(2,.bool f),(3,.mp 0 0 0),(7,.int .i64 n.kids.length),(8,.int .i64 i),(9,.mp 1 0 0),(10,.int .i64 j)] [.arr [n.cells] none false,.arr [(n.kids.getD i nd0).cells] none false]=some z) ∧
  ((((n.kids.take i).drop j).all (vS (n.kids.getD i nd0)))=false→∃S',
   zT 0 JS 2 62620 2 fs [(1,.bool t),(2,.bool f),(3,.mp 0 0 0),(7,.int .i64 n.kids.length),(8,.int .i64 i),(9,.mp 1 0 0),(10,.int .i64 j)] [.arr [n.cells] none false,.arr [(n.kids.getD i nd0).cells] none false]=some (.bool false,S')):=by
 intro m
 induction m with
 | zero =>
  intro j hj;have h1 : ¬(j:Int)<(i:Int):=by omega
  have e0:((n.kids.take i).drop j)=[]:=bW (by simp;omega);rw[e0];refine⟨fun _ z hz=>?_,fun h=>by simp at h⟩;apply zC;(repeat((conv=>lhs;whnf);simp only[go_sem,simprocAttr,h1]));exact hz
 | succ m hm =>
  intro j hj;have h1:(j:Int)<(i:Int):=by omega
  have h2:=zh (i:=j) (n:=n.kids.length) (by omega) hn.len;have h3:0≤(j:Int)∧(j:Int)<(n.kids.length:Int):=⟨by omega,by omega⟩;obtain⟨k1,k2⟩:=hm (j+1) (by omega);rw[Yy (l:=n.kids) (i:=i) (j:=j) (by omega) (by omega),HR];generalize hK:n.kids.getD i nd0=K at *;unfold vS at *;by_cases hop:K.op=55
  ·cases hnm:(n.kids.getD j nd0).name.toList == K.name.toList
   ·simp only[hop,hnm,decide_true,bC,bK]at k1 k2 ⊢;refine⟨fun ha z hz=>?_,fun ha=>?_⟩
    ·apply zC;(repeat((conv=>lhs;whnf);simp only[go_sem,simprocAttr,h1,h2,h3,bD,hop,hnm]));exact k1 ha z hz
    ·obtain⟨S',k⟩:=k2 ha;refine⟨S',yv ok131_.good 1000 ?_⟩;(repeat((conv=>lhs;whnf);simp only[go_sem,simprocAttr,h1,h2,h3,bD,hop,hnm]));exact k
   ·refine⟨fun ha=>by simp[hop,hnm]at ha,fun _=>?_⟩;apply Exists.intro;apply zC;((repeat((conv=>lhs;whnf);simp only[go_sem,simprocAttr,h1,h2,h3,bD,hop,hnm]));try rfl)
  ·simp only[hop,decide_false,bB,bK,bC]at k1 k2 ⊢;refine⟨fun ha z hz=>?_,fun ha=>?_⟩
   ·apply zC;(repeat((conv=>lhs;whnf);simp only[go_sem,simprocAttr,h1,h2,h3,bD,hop]));exact k1 ha z hz
   ·obtain⟨S',k⟩:=k2 ha;refine⟨S',yv ok131_.good 1000 ?_⟩;(repeat((conv=>lhs;whnf);simp only[go_sem,simprocAttr,h1,h2,h3,bD,hop]));exact k
theorem zJL (n:Node) (hn:n.ok) (t f:Bool) (ih:Zn n) (last:Nat) (hlast:last+1=n.kids.length) : ∀(m i:Nat),i+m=last →
  ∃S',zT 0 JS 0 244 1 [.blk 0,.seq 0 31] [(1,.bool t),(2,.bool f),(3,.mp 0 0 0),(7,.int .i64 n.kids.length),(8,.int .i64 i)] [.arr [n.cells] none false]=some (.bool (jM n.kids last t f m i),S'):=by
 have hM:=xZ;have hnl:=hn.len;have w1:IntKind.i64.wrap ((n.kids.length:Int)-1)=(last:Int):=by rw[bE];omega
 have w2:IntKind.i64.wrap ((n.kids.length:Int)-2)=(last:Int)-1:=by rw[bE];omega
 intro m
 induction m with
 | zero =>
  intro i hi;obtain rfl:i=last:=by omega
  have h1 : ¬(i:Int)<(i:Int):=by omega
  apply Exists.intro;apply zC;unfold jM;(repeat((conv=>lhs;whnf);simp only[go_sem,simprocAttr,w1,h1]));apply zN;((repeat((conv=>lhs;whnf);simp only[go_sem,simprocAttr]));try rfl)
 | succ m hm =>
  intro i hi;have h1:(i:Int)<(last:Int):=by omega
  have h3:0≤(i:Int)∧(i:Int)<(n.kids.length:Int):=⟨by omega,by omega⟩;have h5:=zh (i:=i) (n:=n.kids.length) (by omega) hn.len;have h6:=fun S=>VQ S (ih _ (zu (l:=n.kids) (i:=i) (by omega)) 4 t f);have L2:=fun fs=>zG3 n hn t f i (by omega) fs i 0 (by omega);simp only[pA]at L2;obtain⟨Sn,key⟩:=hm (i+1) (by omega);have e0:jM n.kids last t f (m+1) i=(((decide ((n.kids.getD i nd0).op=55)||(decide ((n.kids.getD i nd0).op=56)&&decide (i=last-1)))&&(n.kids.getD i nd0).well 4 t f)&&((n.kids.take i).all (vS (n.kids.getD i nd0))&&jM n.kids last t f m (i+1))):=rfl;rw[e0];generalize hK:n.kids.getD i nd0=K at *;by_cases c2:K.op=56
  ·have c1 : ¬K.op=55:=by omega
   by_cases c3:(i:Int)<(last:Int)-1
   ·have c3' : ¬i=last-1:=by omega
    rw[bH c1,bH c3',bQ,sQ,bB,bB];apply Exists.intro;apply zC;((repeat((conv=>lhs;whnf);simp only[go_sem,simprocAttr,h1,h3,w1,w2,bD,hK,c2,c3]));try rfl)
   ·have c3':i=last-1:=by omega
    rw[bH c1,bG c2,bG c3',sC,sO,bC]
    cases hw:K.well 4 t f
    ·rw[hw]at h6;rw[bB];apply Exists.intro;apply zC;((repeat((conv=>lhs;whnf);simp only[go_sem,simprocAttr,h1,h3,w1,w2,bD,hK,c2,c3,h6]));try rfl)
    ·rw[hw]at h6;rw[bC]
     cases f2:((n.kids.take i).all (vS K))
     ·obtain⟨S',k⟩:=(L2 _).2 f2;refine⟨S',yv ok131_.good 1000 ?_⟩;rw[bB];(repeat((conv=>lhs;whnf);simp only[go_sem,simprocAttr,h1,h3,w1,w2,bD,hK,c2,c3,h6]));exact k
     ·rw[bC];refine⟨Sn,yv ok131_.good 1000 ?_⟩;(repeat((conv=>lhs;whnf);simp only[go_sem,simprocAttr,h1,h3,w1,w2,bD,hK,c2,c3,h6]));refine (L2 _).1 f2 _ ?_;apply zN;(repeat((conv=>lhs;whnf);simp only[go_sem,simprocAttr,h5]));exact key
  ·by_cases c1:K.op=55
   ·rw[bG c1,pI,bC]
    cases hw:K.well 4 t f
    ·rw[hw]at h6;rw[bB];apply Exists.intro;apply zC;((repeat((conv=>lhs;whnf);simp only[go_sem,simprocAttr,h1,h3,w1,w2,bD,hK,c1,h6]));try rfl)
    ·rw[hw]at h6;rw[bC]
     cases f2:((n.kids.take i).all (vS K))
     ·obtain⟨S',k⟩:=(L2 _).2 f2;refine⟨S',yv ok131_.good 1000 ?_⟩;rw[bB];(repeat((conv=>lhs;whnf);simp only[go_sem,simprocAttr,h1,h3,w1,w2,bD,hK,c1,h6]));exact k
     ·rw[bC];refine⟨Sn,yv ok131_.good 1000 ?_⟩;(repeat((conv=>lhs;whnf);simp only[go_sem,simprocAttr,h1,h3,w1,w2,bD,hK,c1,h6]));refine (L2 _).1 f2 _ ?_;apply zN;(repeat((conv=>lhs;whnf);simp only[go_sem,simprocAttr,h5]));exact key
   ·rw[bH c1,bH c2,bB,sQ,bB,bB];apply Exists.intro;apply zC;((repeat((conv=>lhs;whnf);simp only[go_sem,simprocAttr,h1,h3,w1,w2,bD,hK,c1,c2]));try rfl)
theorem zG4 (n:Node) (hn:n.ok) (t f:Bool) (ih:Zn n):callL Tryz.prog zE 131 [.agg n.cells,.bool t,.bool f]=some (.bool (ju n t f)):=by
 have hM:=xZ;have hnl:=hn.len;have hp:=fun S=>zJA S n hn;by_cases hl:2≤n.kids.length
 ·have hl' : ¬(n.kids.length:Int)<2:=by omega
  obtain⟨last,hlast⟩ : ∃last,last+1=n.kids.length:=⟨n.kids.length-1,by omega⟩;have hlast':n.kids.length-1=last:=by omega
  have w1:IntKind.i64.wrap ((n.kids.length:Int)-1)=(last:Int):=by rw[bE];omega
  have hx:0≤(last:Int)∧(last:Int)<(n.kids.length:Int):=by omega
  have hwl:=fun S=>VQ S (ih _ (zu (l:=n.kids) (i:=last) (by omega)) 2 t f);have e:ju n t f=(!n.primed&&((n.kids.getD last nd0).well 2 t f&&jM n.kids last t f last 0)):=by
   have h:=zGG n.kids last hlast t f last 0 (by omega);simp only[pA]at h;simp only[ju,hl,decide_true,bC,hlast',WS,h]
  rw[e]
  cases hpr:n.primed
  ·rw[hpr]at hp;rw[bK,bC]
   cases hwv:(n.kids.getD last nd0).well 2 t f
   ·rw[hwv]at hwl;rw[bB];apply FX.callB2 ok131_ 1000 rfl rfl;((repeat((conv=>lhs;whnf);simp only[go_sem,simprocAttr,hl',hp,w1,hx,bD,hwl]));try rfl)
   ·rw[hwv]at hwl;rw[bC];obtain⟨S',k⟩:=zJL n hn t f ih last hlast last 0 (by omega);apply FX.callB2 ok131_ 1000 rfl rfl;(repeat((conv=>lhs;whnf);simp only[go_sem,simprocAttr,hl',hp,w1,hx,bD,hwl]));exact k
  ·rw[hpr]at hp;rw[bU,bB];apply FX.callB2 ok131_ 1000 rfl rfl;((repeat((conv=>lhs;whnf);simp only[go_sem,simprocAttr,hl',hp]));try rfl)
 ·have hl':(n.kids.length:Int)<2:=by omega
  have e:ju n t f=false:=by simp only[ju,hl,decide_false,bB]
  rw[e];apply FX.callB2 ok131_ 1000 rfl rfl;((repeat((conv=>lhs;whnf);simp only[go_sem,simprocAttr,hl']));try rfl)
end
end
section
theorem uP (S:zB) (k:IntKind) (n:Int):zL Tryz.prog 5 3 S (.int k n)=some (.int .i64 (IntKind.i64.wrap n)):=by
 simp[zL,show (tyi Tryz.prog 5).known=true by kernel_rfl,xO,show (tyi Tryz.prog 3).d=.int .i64 by kernel_rfl]
section
attribute [local irreducible] Vs.callL Vs.callRL tyi zO zk zf zQ zW zZ zI zX zA zK zb zV zG zJ zU zs yL zr zL za Vs.gc zH
noncomputable def zHl:FX:=⟨Tryz.f87,zE.of 87,[]⟩
instance ok87_:zHl.ok 87:=FX.mk'
theorem zJM (n:Node) (hn:n.ok) (h2:n.op=8∨n.op=9→n.kids.length=2) (h3:n.op=39→n.kids.length=1) :
  ∃S',yD 0 zHl 0 [.blk 0,.seq 0 1023] [(2,.undef),(3,.undef),(4,.mp 0 0 0),(9,.undef),(10,.undef),(108,.undef)] [.arr [n.cells] none false]=some (.bool (xN n.op n.kids),S'):=by
 unfold xN;by_cases h8:n.op=8
 ·have h1:(n.kids.length:Int)=2:=by have:=h2 (.inl h8);omega
  rw[bA h8];generalize hk:n.kids.getD 1 nd0=k;apply Exists.intro;apply zN;by_cases e1:k.op=1
  ·by_cases e2:0<k.num.length
   ·have e2':0<(k.num.length:Int):=by omega
    rw[bG e1,bG e2,sC];((repeat((conv=>lhs;whnf);simp only[go_sem,simprocAttr,h8,h1,hk,e1,e2']));try rfl)
   ·have e2' : ¬ 0<(k.num.length:Int):=by omega
    rw[bG e1,bH e2,bQ];((repeat((conv=>lhs;whnf);simp only[go_sem,simprocAttr,h8,h1,hk,e1,e2']));try rfl)
  ·rw[bH e1,bB];((repeat((conv=>lhs;whnf);simp only[go_sem,simprocAttr,h8,h1,hk,e1]));try rfl)
 by_cases h9:n.op=9
 ·have h1:(n.kids.length:Int)=2:=by have:=h2 (.inr h9);omega
  have hko:=hn.kids _ (zu (l:=n.kids) (i:=1) (by have:=h2 (.inr h9);omega));rw[hZ h8,bA h9];generalize hk:n.kids.getD 1 nd0=k at *;have hc:=fun S=>JJ S k hko 20;apply Exists.intro;apply zN;by_cases e1:k.op=1
  ·rw[bG e1,bC];by_cases e2:0≤vV k.num 20
   ·rw[bG e2];((repeat((conv=>lhs;whnf);simp only[go_sem,simprocAttr,h8,h9,h1,hk,e1,hc,e2]));try rfl)
   ·rw[bH e2];((repeat((conv=>lhs;whnf);simp only[go_sem,simprocAttr,h8,h9,h1,hk,e1,hc,e2]));try rfl)
  ·rw[bH e1,bB];((repeat((conv=>lhs;whnf);simp only[go_sem,simprocAttr,h8,h9,h1,hk,e1]));try rfl)
 by_cases h39:n.op=39
 ·have h1:(n.kids.length:Int)=1:=by have:=h3 h39;omega
  have hc:=fun S=>zN6 S _ (hn.kids _ (zu (l:=n.kids) (i:=0) (by omega)));rw[hZ h8,hZ h9,bA h39];apply Exists.intro;apply zN;((repeat((conv=>lhs;whnf);simp only[go_sem,simprocAttr,h8,h9,h39,h1,hc,sD]));try rfl)
 ·rw[hZ h8,hZ h9,hZ h39];apply Exists.intro;apply zN;((repeat((conv=>lhs;whnf);simp only[go_sem,simprocAttr,h8,h9,h39]));try rfl)
theorem zJN (n:Node) (hn:n.ok) (t f:Bool) (s:List Int) (hs:s.length=n.kids.length) (hd : ∀d∈s,0≤d∧d≤100) (ih:Zn n) (h2:n.op=8∨n.op=9→n.kids.length=2) (h3:n.op=39→n.kids.length=1) :
  ∀(m i:Nat),i+m=n.kids.length→∃S',zT 0 zHl 0 8180 1 [.blk 0,.seq 0 1023] [(2,.bool t),(3,.bool f),(4,.mp 0 0 0),(9,.str (uC s)),(10,.int .i64 i)] [.arr [n.cells] none false] =
   some (.bool (Node.wells (n.kids.drop i) (s.drop i) (t||decide (n.op=12)) (f||decide (n.op=39))&&xN n.op n.kids),S'):=by
 have hsz:=yM s;intro m
 induction m with
 | zero =>
  intro i hi;have h1 : ¬(i:Int)<(s.length:Int):=by omega
  obtain⟨S',k⟩:=zJM n hn h2 h3;rw[bW (l:=n.kids) (by omega)];refine⟨S',yv ok87_.good 1000 ?_⟩;unfold Node.wells;rw[bC];(repeat((conv=>lhs;whnf);simp only[go_sem,simprocAttr,hsz,h1]));exact k
 | succ m hm =>
  intro i hi;have h1:(i:Int)<(s.length:Int):=by omega
  have h1':(i:Int)<(n.kids.length:Int):=by omega
  have h4:(0:Int)≤(i:Int):=by omega
  have h5:=zh (i:=i) (n:=n.kids.length) (by omega) hn.len;have hsi:s.getD i 0∈s:=by
   have:i<s.length:=by omega
   simp[bN,this]
  have hdi:=hd _ hsi;have hb:=zIy (l:=s) (i:=i) (by omega) hdi;have hw1:IntKind.u8.wrap (48+s.getD i 0-48)=s.getD i 0:=by rw[SG];omega
  have hw2:IntKind.i64.wrap (s.getD i 0)=s.getD i 0:=by rw[bE];omega
  obtain⟨S',h6⟩:=hm (i+1) (by omega);have e:Node.wells (n.kids.drop i) (s.drop i) (t||decide (n.op=12)) (f||decide (n.op=39))=((n.kids.getD i nd0).well (s.getD i 0) (t||decide (n.op=12)) (f||decide (n.op=39))&&Node.wells (n.kids.drop (i+1)) (s.drop (i+1)) (t||decide (n.op=12)) (f||decide (n.op=39))):=by
   rw[xP (l:=n.kids) (by omega)];simp only[Node.wells,PH];have:(s.drop i).getD 0 0=s.getD i 0:=by simp[bN]
   rw[this]
  rw[e];have hc:=fun S=>VQ S (ih _ (zu (l:=n.kids) (i:=i) (by omega)) (s.getD i 0) (t||decide (n.op=12)) (f||decide (n.op=39)))
  cases hv:(n.kids.getD i nd0).well (s.getD i 0) (t||decide (n.op=12)) (f||decide (n.op=39))
  ·rw[hv]at hc;rw[bB,bB];clear hv e h6;by_cases h12:n.op=12
   ·have h39 : ¬n.op=39:=by omega
    simp only[h12,decide_true,sO,Int.reduceEq,decide_false,pJ]at hc
    cases t <;> cases f <;> (apply Exists.intro;apply zC;((repeat((conv=>lhs;whnf);simp only[go_sem,simprocAttr,hsz,h1,h1',h4,h5,bD,hb,hw1,hw2,uP,h12,hc,Int.reduceEq]));try rfl))
   ·by_cases h39:n.op=39
    ·simp only[h39,decide_true,sO,Int.reduceEq,decide_false,pJ]at hc
     cases t <;> cases f <;> (apply Exists.intro;apply zC;((repeat((conv=>lhs;whnf);simp only[go_sem,simprocAttr,hsz,h1,h1',h4,h5,bD,hb,hw1,hw2,uP,h39,hc,Int.reduceEq]));try rfl))
    ·simp only[h12,h39,decide_false,pJ]at hc
     cases t <;> cases f <;> (apply Exists.intro;apply zC;((repeat((conv=>lhs;whnf);simp only[go_sem,simprocAttr,hsz,h1,h1',h4,h5,bD,hb,hw1,hw2,uP,h12,h39,hc]));try rfl))
  ·rw[hv]at hc;rw[bC];refine⟨S',yv ok87_.good 1000 ?_⟩;clear hv e;by_cases h12:n.op=12
   ·have h39 : ¬n.op=39:=by omega
    simp only[h12,decide_true,sO,Int.reduceEq,decide_false,pJ]at hc
    cases t <;> cases f <;> (((repeat((conv=>lhs;whnf);simp only[go_sem,simprocAttr,hsz,h1,h1',h4,h5,bD,hb,hw1,hw2,uP,h12,hc,Int.reduceEq]));try rfl);rw[h12]at h6;exact h6)
   ·by_cases h39:n.op=39
    ·simp only[h39,decide_true,sO,Int.reduceEq,decide_false,pJ]at hc
     cases t <;> cases f <;> (((repeat((conv=>lhs;whnf);simp only[go_sem,simprocAttr,hsz,h1,h1',h4,h5,bD,hb,hw1,hw2,uP,h39,hc,Int.reduceEq]));try rfl);rw[h39]at h6;exact h6)
    ·simp only[h12,h39,decide_false,pJ]at hc
     cases t <;> cases f <;> (((repeat((conv=>lhs;whnf);simp only[go_sem,simprocAttr,hsz,h1,h1',h4,h5,bD,hb,hw1,hw2,uP,h12,h39,hc]));try rfl);simpa only[h12,h39,decide_false,pJ] using h6)
end
end
end Go.Vs

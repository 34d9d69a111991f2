
import Derived.Test.YtkaeejkajfinhaaGreatMD18
set_option linter.unusedVariables false
set_option linter.unusedSimpArgs false
set_option maxRecDepth 100000
namespace Go.Vs
open Go Go.Proofs
section
theorem zIL {v:RV} (h:v.ok) (hf:v.fit=true) : ∃q:Rat,.agg v.cells=xY q∧v.neg=yT q∧v.num=words q.num.natAbs∧v.den=words q.den∧wB q 400:=by
 unfold RV.fit at hf;simp only[bP,bR]at hf;obtain⟨q,h1,h2,h3,h4,h5⟩:=(zFz h.n h.d).1 hf.2;refine⟨q,?_,h1,h2,h3,?_,?_⟩
 ·unfold RV.cells xY ku;rw[h1,h2,h3]
 ·rw[←h2];exact hf.1.1
 ·rw[←h3];exact hf.1.2
theorem zGn (v:RV) (h:v.ok) (hf:v.fit=true):callL Tryz.prog zD 63 [.agg v.cells]=some (.agg v.cells):=by
 obtain⟨q,h1,_,_,_,h2⟩:=zIL h hf;rw[h1];exact Zb q (h2.mono (by omega))
theorem zNf (S:zB) (v:RV) (h:v.ok) (hf:v.fit=true):zO (callL Tryz.prog zD) S 63 [.agg v.cells]=some {v:=.agg v.cells} := zF (zGn v h hf) (by simp;exact kW v)
theorem UG:xY 0=.agg rv0.cells:=by
 have h0:words 0=[]:=(vL WB2).2 rfl;have h1:words 1=[1]:=jP
 show ku _ (words 0) (words 1)=_
 rw[h0,h1];rfl
theorem zPm (S:zB):zO (callL Tryz.prog zD) S 54 []=some {v:=.agg rv0.cells} := zF (by rw[Za,UG]) (by simp)
theorem zLa {L:List Bd} (hg : ∀b∈L,b.good) {i:Nat} (hi:i<L.length):(L.getD i bd0).val.fit=true:=by
 rw[ZZ hi];exact (hg _ (PO hi)).fit
section
attribute [local irreducible] Vs.callL Vs.callRL tyi zO zn zg zR zY za zI zZ zA zK ze zX zG zJ zW zr yJ zq zL zf Vs.gc zH
noncomputable def zSX:FX:=⟨Tryz.f59,zD.of 59,[]⟩
instance ok59_:zSX.ok 59:=FX.mk'
theorem zLb (L:List Bd) (nm:ByteArray) (hL:WZ L) (hg : ∀b∈L,b.good) (hs:W0 L) (hl:L.length≤1000000):callL Tryz.prog zD 59 [.sl (yC L) false,.str nm]=some (.agg (YC nm L).cells):=by
 have cf:=fun S=>zF (S:=S) (zJ1 L nm hl (J0 nm hs)) (by simp[zh.str];exact Zy L);have gp:=zE3 nm hs;have zo:=fun S=>zPm S;unfold RV.cells at zo;change ∀S,zO _ S _ _=some {v:=(.tup [.int .i64 (YB nm L),.bool (J1 nm L)]:PV)} at cf
 cases hf:J1 nm L
 ·rw[hf]at cf gp;simp only[bZ,if_false]at gp;rw[←gp];refine FX.callL (r:=(.agg [.bool rv0.neg,.sl (zE .u32 rv0.num) false,.sl (zE .u32 rv0.den) false],[.arr [[.bool rv0.neg,.sl (zE .u32 rv0.num) false,.sl (zE .u32 rv0.den) false]] none false])) ok59_ 1000 rfl rfl ?_ rfl;((repeat((conv=>lhs;whnf);simp only[go_sem,simprocAttr,cf,zo]));try rfl)
 ·rw[hf]at cf gp;simp only[if_true]at gp;have hp:YB nm L<L.length:=by
   unfold J1 at hf;simp only[bP,bR]at hf;exact hf.1
  have x1:0≤(YB nm L:Int)∧(YB nm L:Int)<(L.length:Int):=⟨by omega,by omega⟩;have cc:=fun S=>zNf S (L.getD (YB nm L) bd0).val (hL.at hp).v (zLa hg hp);unfold RV.cells at cc;rw[←gp];refine FX.callL (r:=(.agg (L.getD (YB nm L) bd0).val.cells,[.arr [(L.getD (YB nm L) bd0).val.cells] none false])) ok59_ 1000 rfl rfl ?_ rfl;unfold RV.cells;((repeat((conv=>lhs;whnf);simp only[go_sem,simprocAttr,cf,x1,bD,Bd.cells,cc]));try rfl)
noncomputable def zO3:FX:=⟨Tryz.f60,zD.of 60,[]⟩
instance ok60_:zO3.ok 60:=FX.mk'
theorem zGo (L:List Bd) (nm:ByteArray) (hl:L.length≤1000000) : ∀(m i:Nat),i+m=L.length→(∀k,k<i→(L.getD k bd0).name.toList≠nm.toList)→zU 0 zO3 0 52 1 [.blk 0,.seq 0 7] [(0,.sl (yC L) false),(1,.str nm),(4,.mp 0 0 0),(5,.int .i64 i)] [.arr [[.bool false,.sl [] true,.sl [] true]] none false]=some (.agg (YC nm (L.drop i)).cells,[.arr [(YC nm (L.drop i)).cells] none false]):=by
 have zz : ∀S,zO (callL Tryz.prog zD) S 51 []=some {v:=rrV 0} := fun S=>zF Y1 (by simp);have zt : ∀S,zO (callL Tryz.prog zD) S 32 [rrV 0]=some {v:=.agg rv0.cells} := fun S=>zF (by rw[JL 0 ⟨by decide +kernel,by decide +kernel⟩,UG]) (by simp;exact qA 0);unfold RV.cells at zt;intro m
 induction m with
 | zero =>
  intro i hi hk;have h1 : ¬(i:Int)<(L.length:Int):=by omega
  have e:L.drop i=[]:=SM (by omega);rw[e];apply zC;(repeat((conv=>lhs;whnf);simp only[go_sem,simprocAttr,h1]));apply zN;unfold YC RV.cells;((repeat((conv=>lhs;whnf);simp only[go_sem,simprocAttr,zz,zt]));try rfl)
 | succ m ih =>
  intro i hi hk;have h1:(i:Int)<(L.length:Int):=by omega
  have h2:=zi (i:=i) (n:=L.length) (by omega) (by unfold maxLen;omega);have x1:0≤(i:Int)∧(i:Int)<(L.length:Int):=⟨by omega,h1⟩;have e:L.drop i=L.getD i bd0::L.drop (i+1):=by rw[ZZ (by omega)];exact PU (by omega)
  rw[e];apply zC;by_cases c:(L.getD i bd0).name.toList=nm.toList
  ·have c':((L.getD i bd0).name.toList == nm.toList)=true:=beq_iff_eq.2 c;simp only[YC,c,if_true];unfold RV.cells;((repeat((conv=>lhs;whnf);simp only[go_sem,simprocAttr,h1,x1,bD,Bd.cells,c']));try rfl)
  ·have c':((L.getD i bd0).name.toList == nm.toList)=false:=beq_eq_false_iff_ne.2 c;have key:=ih (i+1) (by omega) (fun k hk'=>by
    rcases PN (Nat.le_of_lt_succ hk') with h | rfl
    ·exact hk k h
    ·exact c)
   simp only[YC,c,if_false];(repeat((conv=>lhs;whnf);simp only[go_sem,simprocAttr,h1,x1,bD,Bd.cells,c',h2]));exact key
theorem zGp (L:List Bd) (nm:ByteArray) (hl:L.length≤1000000):callL Tryz.prog zD 60 [.sl (yC L) false,.str nm]=some (.agg (YC nm L).cells):=by
 refine FX.callL (r:=(.agg (YC nm L).cells,[.arr [(YC nm L).cells] none false])) ok60_ 1000 rfl rfl ?_ rfl;have key:=zGo L nm hl L.length 0 (by omega) (fun k hk=>absurd hk (by omega));(repeat((conv=>lhs;whnf);simp only[go_sem,simprocAttr]));exact key
end
end
section
def rvE:RV:=⟨false,[],[]⟩
theorem zLc (S:zB) (L:List Bd) (nm:ByteArray) (hL:WZ L) (h:Yk L=true):zO (callL Tryz.prog zD) S 59 [.sl (yC L) false,.str nm]=some {v:=.agg (YC nm L).cells} :=
 have h':=JZ.1 h
 zF (zLb L nm hL h'.2.1 h'.2.2 (by have:=h'.1;omega)) (by simp[zh.str];exact Zy L)
theorem zCH (S:zB) (L:List Bd) (nm:ByteArray) (h:L.length≤1000000):zO (callL Tryz.prog zD) S 60 [.sl (yC L) false,.str nm]=some {v:=.agg (YC nm L).cells} := zF (zGp L nm h) (by simp[zh.str];exact Zy L)
section
attribute [local irreducible] Vs.callL Vs.callRL tyi zO zn zg zR zY za zI zZ zA zK ze zX zG zJ zW zr yJ zq zL zf Vs.gc zH
end
end
@[go_sem] theorem zSY (id n:Nat) (is:List Nat) (rows:List (List PV)):zG Tryz.prog 35 id n is rows=if is=List.range n∧yO 4 rows=true∧(rows.all fun r=>r.all PV.cell)=true∧n*4≤16777216 then some {v:=.msl id 0 n true,new:=some (rows,some (some 4))} else none:=zL0.buildSlice (by decide) id n is rows
theorem Bd.refs (b:Bd):zV [b.cells]=[]:=rfl
theorem RV.refs (v:RV):zV [v.cells]=[]:=rfl
theorem xC {rows:List (List PV)} {g:Option (Option Nat)} {f:Bool} {l:List Nat} (h:zV rows=[]):yu l (.arr rows g f)=.arr rows g f:=by
 simp only[yu,vZ,h,BZ,bZ,if_false]
section
theorem VU {S S':zB} {j:Nat} (L:List Int) (x:Int) (g:Option Nat) (hg:g=none∨g=some 1) (hl:L.length≤10000000) (ex:Bool)
  (h1:S[2]? = some (.arr (zE .i64 L) (some g) false)) (hj:S[j]? = some (.arr [[.int .i64 x]] (some (some 1)) false)) (hS:(S.map (yu [2])).set 2 (.arr (zE .i64 (L++[x])) (some (some 1)) false)=S') :
  zR Tryz.prog 0 59 59 S (.msl 2 0 L.length false) (.msl j 0 1 ex)=some {v:=.msl 2 0 (L.length+1) false,S:=S',kill:=[2]} := by
 have:=ZR.app (b:=0) (S:=S) (id:=2) (rows:=zE .i64 L) (new:=zE .i64 [x]) (g:=g) (p:=.msl j 0 1 ex) h1 (by decide) hg (RowsV.msl j (zE .i64 [x]) ex _ _ hj) (xp _ _) (xp _ _) (by rw[zQ,zQ];simp only[aM];omega) (by rw[zQ,zQ];simp;omega) (by rw[zm];simp) (by rw[zm];simp);rw[zQ,←qk,hS]at this;exact this
theorem zA5 (l:List Node) (i:Nat):(Node.rows l).take i=Node.rows (l.take i):=by simp[Node.rows_eq,List.map_take]
theorem zNg (S:zB) (l:List Node) (i:Nat) (h:i≤l.length):zZ Tryz.prog 28 S (.sl (Node.rows l) false) none (some (.int .i64 i)) none=some (.sl (Node.rows (l.take i)) false):=by
 have:=vq.firsts S (rows:=Node.rows l) false i (by rw[Node.rows_length];exact h) (Node.rows_ok l);rw[zA5]at this;exact this
def vi (i:Nat):List Int:=List.replicate i 4
theorem kH (i:Nat):(vi i).length=i:=by simp[vi]
theorem zGq (i:Nat):vi i++[4]=vi (i+1):=by simp[vi,SI]
section
attribute [local irreducible] Vs.callL Vs.callRL tyi zO zn zg zR zY za zI zZ zA zK ze zX zG zJ zW zr yJ zq zL zf Vs.gc zH
theorem zCI (n:Node) (hn:n.ok) (a b c:Bool) (last i:Nat) (hi:i<n.kids.length) (g:Option Nat) (fs:List Fr) : ∀(m j:Nat),j+m=i →
  ((((n.kids.take i).drop j).all (ve (n.kids.getD i nd0)))=true→∀z,yB 0 ZX 5 fs [(2,.mp 0 0 0),(3,.mp 1 0 0),(6,.msl 2 0 i false),(7,.int .i64 last),(8,.int .i64 i),(9,.undef),(137,.undef),(138,.undef),(139,.undef),(140,.undef)]
    [.arr [n.cells] none false,.arr [[.bool a,.bool b,.bool c]] none false,.arr (zE .i64 (vi i)) (some g) false,.arr [(n.kids.getD i nd0).cells] none false]=some z →
   zU 0 ZX 5 131557684 4 fs [(2,.mp 0 0 0),(3,.mp 1 0 0),(6,.msl 2 0 i false),(7,.int .i64 last),(8,.int .i64 i),(9,.mp 3 0 0),(137,.sl (Node.rows (n.kids.take i)) false),(138,.int .i64 i),(139,.int .i64 j)]
    [.arr [n.cells] none false,.arr [[.bool a,.bool b,.bool c]] none false,.arr (zE .i64 (vi i)) (some g) false,.arr [(n.kids.getD i nd0).cells] none false]=some z) ∧
  ((((n.kids.take i).drop j).all (ve (n.kids.getD i nd0)))=false→∃S',
   zU 0 ZX 5 131557684 4 fs [(2,.mp 0 0 0),(3,.mp 1 0 0),(6,.msl 2 0 i false),(7,.int .i64 last),(8,.int .i64 i),(9,.mp 3 0 0),(137,.sl (Node.rows (n.kids.take i)) false),(138,.int .i64 i),(139,.int .i64 j)]
    [.arr [n.cells] none false,.arr [[.bool a,.bool b,.bool c]] none false,.arr (zE .i64 (vi i)) (some g) false,.arr [(n.kids.getD i nd0).cells] none false]=some (.bool false,S')):=by
 intro m
 induction m with
 | zero =>
  intro j hj;have h1 : ¬(j:Int)<(i:Int):=by omega
  have e0:((n.kids.take i).drop j)=[]:=bU (by simp;omega);rw[e0];refine⟨fun _ z hz=>?_,fun h=>by simp at h⟩;apply zC;(repeat((conv=>lhs;whnf);simp only[go_sem,simprocAttr,h1]));exact hz
 | succ m hm =>
  intro j hj;have h1:(j:Int)<(i:Int):=by omega
  have h2:=zi (i:=j) (n:=n.kids.length) (by omega) hn.len;have h3:0≤(j:Int)∧(j:Int)<((n.kids.take i).length:Int):=⟨by omega,by simp;omega⟩;have hg:=zJR (l:=n.kids) (i:=i) (j:=j) (by omega);obtain⟨k1,k2⟩:=hm (j+1) (by omega);rw[XH (l:=n.kids) (i:=i) (j:=j) (by omega) (by omega),HY];generalize hK:n.kids.getD i nd0=K at *;unfold ve at *;by_cases hop:K.op=55
  ·cases hnm:(n.kids.getD j nd0).name.toList == K.name.toList
   ·simp only[hop,hnm,decide_true,bC,bK]at k1 k2 ⊢;refine⟨fun ha z hz=>?_,fun ha=>?_⟩
    ·apply zC;(repeat((conv=>lhs;whnf);simp only[go_sem,simprocAttr,h1,h2,h3,bD,hg,hop,hnm]));exact k1 ha z hz
    ·obtain⟨S',k⟩:=k2 ha;refine⟨S',yv ok78_.good 1000 ?_⟩;(repeat((conv=>lhs;whnf);simp only[go_sem,simprocAttr,h1,h2,h3,bD,hg,hop,hnm]));exact k
   ·refine⟨fun ha=>by simp[hop,hnm]at ha,fun _=>?_⟩;apply Exists.intro;apply zC;((repeat((conv=>lhs;whnf);simp only[go_sem,simprocAttr,h1,h2,h3,bD,hg,hop,hnm]));try rfl)
  ·simp only[hop,decide_false,bB,bK,bC]at k1 k2 ⊢;refine⟨fun ha z hz=>?_,fun ha=>?_⟩
   ·apply zC;(repeat((conv=>lhs;whnf);simp only[go_sem,simprocAttr,h1,h2,h3,bD,hg,hop]));exact k1 ha z hz
   ·obtain⟨S',k⟩:=k2 ha;refine⟨S',yv ok78_.good 1000 ?_⟩;(repeat((conv=>lhs;whnf);simp only[go_sem,simprocAttr,h1,h2,h3,bD,hg,hop]));exact k
theorem zCJ (n:Node) (hn:n.ok) (hlen:n.kids.length≤100000) (a b c:Bool) (last:Nat) (hlast:last+1=n.kids.length) :
  ∀(m i:Nat),i+m=last→∀(g:Option Nat),(g=none∨g=some 1)→∃g',(g'=none∨g'=some 1) ∧
   (uo n.kids last m i=true→∀z,yB 0 ZX 3 [.blk 3,.seq 0 32119,.blk 0,.seq 0 63] [(2,.mp 0 0 0),(3,.mp 1 0 0),(6,.msl 2 0 last false),(7,.undef),(8,.undef),(112,.undef)]
     [.arr [n.cells] none false,.arr [[.bool a,.bool b,.bool c]] none false,.arr (zE .i64 (vi last)) (some g') false]=some z →
    zU 0 ZX 3 256948 3 [.blk 3,.seq 0 32119,.blk 0,.seq 0 63] [(2,.mp 0 0 0),(3,.mp 1 0 0),(6,.msl 2 0 i false),(7,.int .i64 last),(8,.int .i64 i)]
     [.arr [n.cells] none false,.arr [[.bool a,.bool b,.bool c]] none false,.arr (zE .i64 (vi i)) (some g) false]=some z) ∧
   (uo n.kids last m i=false→∃S',
    zU 0 ZX 3 256948 3 [.blk 3,.seq 0 32119,.blk 0,.seq 0 63] [(2,.mp 0 0 0),(3,.mp 1 0 0),(6,.msl 2 0 i false),(7,.int .i64 last),(8,.int .i64 i)]
     [.arr [n.cells] none false,.arr [[.bool a,.bool b,.bool c]] none false,.arr (zE .i64 (vi i)) (some g) false]=some (.bool false,S')):=by
 intro m
 induction m with
 | zero =>
  intro i hi g hg;obtain rfl:i=last:=by omega
  have h1 : ¬(i:Int)<(i:Int):=by omega
  refine⟨g,hg,fun _ z hz=>?_,fun h=>by simp[uo]at h⟩;apply zC;(repeat((conv=>lhs;whnf);simp only[go_sem,simprocAttr,h1]));exact hz
 | succ m hm =>
  intro i hi g hg;have h1:(i:Int)<(last:Int):=by omega
  have h2:(i:Int)<(n.kids.length:Int):=by omega
  have h3:0≤(i:Int)∧(i:Int)<(n.kids.length:Int):=⟨by omega,h2⟩;have hM:=xZ;have hnl:=hn.len;have h4:IntKind.i64.wrap ((last:Int)-1)=((last-1:Nat):Int):=by rw[bE];omega
  have h5:=zi (i:=i) (n:=n.kids.length) (by omega) hn.len;have hsl:=fun S=>zNg S n.kids i (by omega);have hlt:(n.kids.take i).length=i:=by simp;omega
  obtain⟨g',hg',k1,k2⟩:=hm (i+1) (by omega) (some 1) (.inr rfl);have L5:=fun fs=>zCI n hn a b c last i (by omega) g fs i 0 (by omega);have ha:=VU (S:=[.arr [n.cells] none false,.arr [[.bool a,.bool b,.bool c]] none false,.arr (zE .i64 (vi i)) (some g) false,.arr [(n.kids.getD i nd0).cells] none false,.arr [[.int .i64 4]] (some (some 1)) false]) (j:=4) (vi i) 4 g hg (by rw[kH];omega) true rfl rfl
   (S':=[.arr [n.cells] none false,.arr [[.bool a,.bool b,.bool c]] none false,.arr (zE .i64 (vi (i+1))) (some (some 1)) false,.arr [(n.kids.getD i nd0).cells] none false,.arr [[.int .i64 4]] (some (some 1)) false])
   (by simp only[sD,HZ,xC (yZ _),xC (zm _ _),xC (show zV [[PV.bool a,.bool b,.bool c]]=[] from rfl),xC (show zV [[PV.int .i64 4]]=[] from rfl),zGq];rfl)
  rw[kH]at ha;simp only[bY]at L5;have e0:uo n.kids last (m+1) i=(zBg n.kids last i&&uo n.kids last m (i+1)):=rfl;refine⟨g',hg',?_,?_⟩
  all_goals rw[e0]
  all_goals unfold zBg
  all_goals generalize hK:n.kids.getD i nd0=K at *
  ·intro hf z hz;simp only[bP]at hf;obtain⟨⟨f1,f2⟩,f3⟩:=hf;have key:=k1 f3 z hz;by_cases c1:K.op=55
   ·apply zC;(repeat((conv=>lhs;whnf);simp only[go_sem,simprocAttr,h1,h2,h3,h4,bD,hK,c1,hsl,hlt]));refine (L5 _).1 f2 z ?_;apply zN;(repeat((conv=>lhs;whnf);simp only[go_sem,simprocAttr,ha,h5]));exact key
   ·have c2:K.op=56∧i=last-1:=by simpa [c1] using f1
    have c3:(i:Int)=((last-1:Nat):Int):=by omega
    apply zC;(repeat((conv=>lhs;whnf);simp only[go_sem,simprocAttr,h1,h2,h3,h4,bD,hK,c2.1,←c3,hsl,hlt]));refine (L5 _).1 f2 z ?_;apply zN;(repeat((conv=>lhs;whnf);simp only[go_sem,simprocAttr,ha,h5]));exact key
  ·intro hf;by_cases c1:K.op=55
   ·simp only[c1,decide_true,pI,bC]at hf
    cases f2:((n.kids.take i).all (ve K))
    ·obtain⟨S',k⟩:=(L5 _).2 f2;refine⟨S',yv ok78_.good 1000 ?_⟩;(repeat((conv=>lhs;whnf);simp only[go_sem,simprocAttr,h1,h2,h3,h4,bD,hK,c1,hsl,hlt]));exact k
    ·rw[f2,bC]at hf;obtain⟨S',k⟩:=k2 hf;refine⟨S',yv ok78_.good 1000 ?_⟩;(repeat((conv=>lhs;whnf);simp only[go_sem,simprocAttr,h1,h2,h3,h4,bD,hK,c1,hsl,hlt]));refine (L5 _).1 f2 _ ?_;apply zN;(repeat((conv=>lhs;whnf);simp only[go_sem,simprocAttr,ha,h5]));exact k
   ·by_cases c2:K.op=56
    ·by_cases c4:i=last-1
     ·have c3:(i:Int)=((last-1:Nat):Int):=by omega
      rw[bI c1,bH c2,bH c4]at hf;simp only[sH,sU,bC]at hf
      cases f2:((n.kids.take i).all (ve K))
      ·obtain⟨S',k⟩:=(L5 _).2 f2;refine⟨S',yv ok78_.good 1000 ?_⟩;(repeat((conv=>lhs;whnf);simp only[go_sem,simprocAttr,h1,h2,h3,h4,bD,hK,c2,←c3,hsl,hlt]));exact k
      ·rw[f2,bC]at hf;obtain⟨S',k⟩:=k2 hf;refine⟨S',yv ok78_.good 1000 ?_⟩;(repeat((conv=>lhs;whnf);simp only[go_sem,simprocAttr,h1,h2,h3,h4,bD,hK,c2,←c3,hsl,hlt]));refine (L5 _).1 f2 _ ?_;apply zN;(repeat((conv=>lhs;whnf);simp only[go_sem,simprocAttr,ha,h5]));exact k
     ·have c3 : ¬(i:Int)=((last-1:Nat):Int):=by omega
      apply Exists.intro;apply zC;((repeat((conv=>lhs;whnf);simp only[go_sem,simprocAttr,h1,h2,h3,h4,bD,hK,c2,c3]));try rfl)
    ·apply Exists.intro;apply zC;((repeat((conv=>lhs;whnf);simp only[go_sem,simprocAttr,h1,h2,h3,h4,bD,hK,c1,c2]));try rfl)
end
end
section
def Z0 (n:Node):Prop:=∀k∈n.kids,∀a b c,callL Tryz.prog zD 78 [.agg k.cells,.agg (yF a b c)]=some (.bool (k.formed a b c))
theorem ur (n:Node) (hn:n.ok) (a b c:Bool) (s:List Int) (h2:n.kids.length=s.length→(n.op=8∨n.op=9)→n.kids.length=2) (ih:Z0 n) (hl:n.kids.length=s.length) (T:zB) (hT:kG T) (e:Bool) (he:e=false∨s=[]) :
  ∃S',zU 0 ZX 7 2036 (T.length+2) [.blk 7,.seq 0 255] [(2,.mp 0 0 0),(3,.mp 1 0 0),(6,.sl (zE .i64 s) e),(208,.sl (Node.rows n.kids) false),(209,.int .i64 n.kids.length),(210,.int .i64 0)] (f2 n a b c T)=some (.bool (Node.formeds n.kids s a b c&&xF n.op n.kids),S') :=
 zEY n hn a b c s hl.symm e he (h2 hl) (fun k hk=>ih k hk a b c) T hT n.kids.length 0 (by omega)
theorem UH (n:Node) (a b c:Bool) (h:n.op≠10∧n.op≠37∧n.op≠54∧n.op≠3∧n.op≠12∧n.op≠39):n.rest a b c=(decide (n.kids.length=(zP n.op).length)&&(Node.formeds n.kids (zP n.op) a b c&&xF n.op n.kids)):=by
 obtain⟨h1,h2,h3,h4,h5,h6⟩:=h;have e1:yU n.op n.kids.length=zP n.op:=by simp[yU,h1,h2,h3]
 simp[Node.rest,wU,e1,h1,h2,h3,h4,h5,h6]
theorem zGr (n:Node) (a b c:Bool) (h:n.op=3):n.rest a b c=(!(a||(b||c))&&(decide (n.kids.length=(zP n.op).length)&&(Node.formeds n.kids (zP n.op) a b c&&xF n.op n.kids))):=by
 simp[Node.rest,wU,yU,h]
theorem zJ3 (n:Node) (a b c:Bool) (h:n.op=12):n.rest a b c=(!(a||c)&&(decide (n.kids.length=(zP n.op).length)&&(Node.formeds n.kids (zP n.op) true b c&&xF n.op n.kids))):=by
 simp[Node.rest,wU,yU,h]
theorem zGs (n:Node) (a b c:Bool) (h:n.op=39):n.rest a b c=(!c&&(decide (n.kids.length=1)&&(n.kids.getD 0 nd0).diff)&&(decide (n.kids.length=(zP n.op).length)&&(Node.formeds n.kids (zP n.op) a true c&&xF n.op n.kids))):=by
 simp[Node.rest,wU,yU,h]
theorem zE4 (n:Node) (a b c:Bool) (h:n.op=10∨n.op=37):n.rest a b c=(yQ n.name&&decide (n.kids.length≤1)&&(Node.formeds n.kids (List.replicate n.kids.length 1) a b c&&xF n.op n.kids)):=by
 have e3:decide (n.op=12)=false∧decide (n.op=39)=false∧decide (n.op=54)=false:=by rcases h with h | h <;> simp[h]
 have:yU n.op n.kids.length=List.replicate n.kids.length 1:=by simp[yU,h]
 simp only[Node.rest,wU,bA h,this,e3.1,e3.2.1,e3.2.2,pJ,SQ,decide_true,bC]
theorem zJ4 (n:Node) (a b c:Bool) (h:n.op=54):n.rest a b c=(yd n.name&&(decide (2≤n.kids.length)&&WY n.kids)&&(decide (n.kids.length=(vi (n.kids.length-1)++[2]).length)&&(Node.formeds n.kids (vi (n.kids.length-1)++[2]) a b true&&xF n.op n.kids))):=by
 simp[Node.rest,wU,yU,h,vi]
section
attribute [local irreducible] Vs.callL Vs.callRL tyi zO zn zg zR zY za zI zZ zA zK ze zX zG zJ zW zr yJ zq zL zf Vs.gc zH
theorem zCK (n:Node) (hn:n.ok) (a b c:Bool) (ih:Z0 n) (h1 : ¬n.op=1) (hneg:n.neg=false) (hnum : ¬ 0<(n.num.length:Int)) (hden : ¬ 0<(n.den.length:Int)) (hh:yS n.op=true) (hm:yQ n.name=true) (h:n.op≠10∧n.op≠37∧n.op≠54∧n.op≠3∧n.op≠12∧n.op≠39):callL Tryz.prog zD 78 [.agg n.cells,.agg (yF a b c)]=some (.bool (n.rest a b c)):=by
 rw[UH n a b c h];obtain⟨g1,g2,g3,g4,g5,g6⟩:=h;unfold yF;by_cases hl:n.kids.length=(zP n.op).length
 ·have hq:(n.kids.length:Int)=((zP n.op).length:Int):=by omega
  obtain⟨S',k⟩:=ur n hn a b c (zP n.op) (fun hl ho=>by rw[hl];rcases ho with ho | ho <;> rw[ho] <;> rfl) ih hl [] .nil (zP n.op).isEmpty (by cases zP n.op <;> simp);rw[bH hl,bC];rw[hq]at k;have hz : ∀S,vI S (.sl (zE .i64 (zP n.op)) (zP n.op).isEmpty)=some (.sl (zE .i64 (zP n.op)) (zP n.op).isEmpty):=fun S=>by
   cases zP n.op with
   | nil=>rfl
   | cons x r=>simp only[aJ,go_sem]
  apply FX.callB2 ok78_ 1000 rfl rfl;(repeat((conv=>lhs;whnf);simp only[go_sem,simprocAttr,h1,hneg,hnum,hden,yX,xV,xJ,hh,hm,g1,g2,g3,g4,g5,g6,hl,hq,hz]));exact k
 ·have hq : ¬(n.kids.length:Int)=((zP n.op).length:Int):=by omega
  rw[bI hl,bB];apply FX.callB2 ok78_ 1000 rfl rfl;((repeat((conv=>lhs;whnf);simp only[go_sem,simprocAttr,h1,hneg,hnum,hden,yX,xV,xJ,hh,hm,g1,g2,g3,g4,g5,g6,hl,hq]));try rfl)
theorem zE5 (n:Node) (hn:n.ok) (a b c:Bool) (ih:Z0 n) (h1 : ¬n.op=1) (hneg:n.neg=false) (hnum : ¬ 0<(n.num.length:Int)) (hden : ¬ 0<(n.den.length:Int)) (hh:yS n.op=false) (hm:yd n.name=true) (h:n.op≠10∧n.op≠37∧n.op≠54∧n.op≠3∧n.op≠12∧n.op≠39):callL Tryz.prog zD 78 [.agg n.cells,.agg (yF a b c)]=some (.bool (n.rest a b c)):=by
 rw[UH n a b c h];obtain⟨g1,g2,g3,g4,g5,g6⟩:=h;unfold yF yd at *;by_cases hl:n.kids.length=(zP n.op).length
 ·have hq:(n.kids.length:Int)=((zP n.op).length:Int):=by omega
  obtain⟨S',k⟩:=ur n hn a b c (zP n.op) (fun hl ho=>by rw[hl];rcases ho with ho | ho <;> rw[ho] <;> rfl) ih hl [] .nil (zP n.op).isEmpty (by cases zP n.op <;> simp);rw[bH hl,bC];rw[hq]at k;have hz : ∀S,vI S (.sl (zE .i64 (zP n.op)) (zP n.op).isEmpty)=some (.sl (zE .i64 (zP n.op)) (zP n.op).isEmpty):=fun S=>by
   cases zP n.op with
   | nil=>rfl
   | cons x r=>simp only[aJ,go_sem]
  apply FX.callB2 ok78_ 1000 rfl rfl;(repeat((conv=>lhs;whnf);simp only[go_sem,simprocAttr,h1,hneg,hnum,hden,yX,xV,xJ,hh,hm,g1,g2,g3,g4,g5,g6,hl,hq,hz]));exact k
 ·have hq : ¬(n.kids.length:Int)=((zP n.op).length:Int):=by omega
  rw[bI hl,bB];apply FX.callB2 ok78_ 1000 rfl rfl;((repeat((conv=>lhs;whnf);simp only[go_sem,simprocAttr,h1,hneg,hnum,hden,yX,xV,xJ,hh,hm,g1,g2,g3,g4,g5,g6,hl,hq]));try rfl)
theorem zCL (n:Node) (hn:n.ok) (a b c:Bool) (ih:Z0 n) (hneg:n.neg=false) (hnum : ¬ 0<(n.num.length:Int)) (hden : ¬ 0<(n.den.length:Int)) (hm:yQ n.name=true) (h:n.op=3):callL Tryz.prog zD 78 [.agg n.cells,.agg (yF a b c)]=some (.bool (n.rest a b c)):=by
 rw[zGr n a b c h];have hh:yS 3=true:=rfl;have hk:zP 3=[]:=rfl;rw[h,hk];have k7:=fun a b c hl=>ur n hn a b c [] (fun _ ho=>by rw[h]at ho;omega) ih hl [] .nil true (.inr rfl);rw[h]at k7;unfold yF;cases a
 ·cases b
  ·cases c
   ·by_cases hl:n.kids.length=0
    ·have hq:(n.kids.length:Int)=0:=by omega
     obtain⟨S',k⟩:=k7 false false false (by rw[hl];rfl);rw[hq]at k;simp only[hl,bV,bL,pC,decide_true,bC,pJ,sX,bK,sU];apply FX.callB2 ok78_ 1000 rfl rfl;(repeat((conv=>lhs;whnf);simp only[go_sem,simprocAttr,hneg,hnum,hden,Int.reduceEq,pN,aJ,yE,xi,yX,xV,xJ,h,hh,hk,hm,hl,hq]));exact k
    ·have hq : ¬(n.kids.length:Int)=0:=by omega
     have hr : ¬(n.kids.length:Int)=((0:Nat):Int):=by omega
     simp only[hl,bV,bL,pC,decide_false,bB,bQ];apply FX.callB2 ok78_ 1000 rfl rfl;((repeat((conv=>lhs;whnf);simp only[go_sem,simprocAttr,hneg,hnum,hden,Int.reduceEq,pN,aJ,yE,xi,yX,xV,xJ,h,hh,hk,hm,hl,hq,hr]));try rfl)
   ·apply FX.callB2 ok78_ 1000 rfl rfl;((repeat((conv=>lhs;whnf);simp only[go_sem,simprocAttr,hneg,hnum,hden,Int.reduceEq,pN,aJ,yE,xi,yX,xV,xJ,h,hh,hk,hm]));try rfl)
  ·apply FX.callB2 ok78_ 1000 rfl rfl;((repeat((conv=>lhs;whnf);simp only[go_sem,simprocAttr,hneg,hnum,hden,Int.reduceEq,pN,aJ,yE,xi,yX,xV,xJ,h,hh,hk,hm]));try rfl)
 ·apply FX.callB2 ok78_ 1000 rfl rfl;((repeat((conv=>lhs;whnf);simp only[go_sem,simprocAttr,hneg,hnum,hden,Int.reduceEq,pN,aJ,yE,xi,yX,xV,xJ,h,hh,hk,hm]));try rfl)
theorem zGt (n:Node) (hn:n.ok) (a b c:Bool) (ih:Z0 n) (hnat:vt n.neg n.num n.den=true) (hm:yd n.name=true) (h:n.op=1):callL Tryz.prog zD 78 [.agg n.cells,.agg (yF a b c)]=some (.bool (n.rest a b c)):=by
 rw[UH n a b c (by omega)];have hh:yS 1=false:=rfl;have hk:zP 1=[]:=rfl;rw[h,hk];have k7:=fun a b c hl=>ur n hn a b c [] (fun _ ho=>by rw[h]at ho;omega) ih hl [] .nil true (.inr rfl);rw[h]at k7;have cn:=fun S=>zA3 S n hn;rw[hnat]at cn;unfold yF yd at *;by_cases hl:n.kids.length=0
 ·have hq:(n.kids.length:Int)=0:=by omega
  obtain⟨S',k⟩:=k7 a b c (by rw[hl];rfl);rw[hq]at k;simp only[hl,bV,bL,pC,decide_true,bC,pJ,sX,bK,sU];apply FX.callB2 ok78_ 1000 rfl rfl;(repeat((conv=>lhs;whnf);simp only[go_sem,simprocAttr,cn,Int.reduceEq,pN,aJ,yE,xi,yX,xV,xJ,h,hh,hk,hm,hl,hq]));exact k
 ·have hq : ¬(n.kids.length:Int)=0:=by omega
  have hr : ¬(n.kids.length:Int)=((0:Nat):Int):=by omega
  simp only[hl,bV,bL,pC,decide_false,bB,bQ];apply FX.callB2 ok78_ 1000 rfl rfl;((repeat((conv=>lhs;whnf);simp only[go_sem,simprocAttr,cn,Int.reduceEq,pN,aJ,yE,xi,yX,xV,xJ,h,hh,hk,hm,hl,hq,hr]));try rfl)
theorem zE6 (n:Node) (hn:n.ok) (a b c:Bool) (ih:Z0 n) (hneg:n.neg=false) (hnum : ¬ 0<(n.num.length:Int)) (hden : ¬ 0<(n.den.length:Int)) (hm:yd n.name=true) (h:n.op=12):callL Tryz.prog zD 78 [.agg n.cells,.agg (yF a b c)]=some (.bool (n.rest a b c)):=by
 rw[zJ3 n a b c h];have hh:yS 12=false:=rfl;have hk:zP 12=[1]:=rfl;rw[h,hk];have k7:=fun a b c hl=>ur n hn a b c [1] (fun _ ho=>by rw[h]at ho;omega) ih hl [] .nil false (.inl rfl);rw[h]at k7;unfold yF yd at *;cases a
 ·cases c
  ·by_cases hl:n.kids.length=1
   ·have hq:(n.kids.length:Int)=1:=by omega
    obtain⟨S',k⟩:=k7 true b false (by rw[hl];rfl);rw[hq]at k;simp only[hl,bV,bL,pC,decide_true,bC,pJ,sX,bK,sU];apply FX.callB2 ok78_ 1000 rfl rfl;(repeat((conv=>lhs;whnf);simp only[go_sem,simprocAttr,hneg,hnum,hden,Int.reduceEq,pN,aJ,yE,xi,yX,xV,xJ,h,hh,hk,hm,hl,hq]));exact k
   ·have hq : ¬(n.kids.length:Int)=1:=by omega
    have hr : ¬(n.kids.length:Int)=((1:Nat):Int):=by omega
    simp only[hl,bV,bL,pC,decide_false,bB,bQ];apply FX.callB2 ok78_ 1000 rfl rfl;((repeat((conv=>lhs;whnf);simp only[go_sem,simprocAttr,hneg,hnum,hden,Int.reduceEq,pN,aJ,yE,xi,yX,xV,xJ,h,hh,hk,hm,hl,hq,hr]));try rfl)
  ·apply FX.callB2 ok78_ 1000 rfl rfl;((repeat((conv=>lhs;whnf);simp only[go_sem,simprocAttr,hneg,hnum,hden,Int.reduceEq,pN,aJ,yE,xi,yX,xV,xJ,h,hh,hk,hm]));try rfl)
 ·apply FX.callB2 ok78_ 1000 rfl rfl;((repeat((conv=>lhs;whnf);simp only[go_sem,simprocAttr,hneg,hnum,hden,Int.reduceEq,pN,aJ,yE,xi,yX,xV,xJ,h,hh,hk,hm]));try rfl)
theorem zCM (n:Node) (hn:n.ok) (a b c:Bool) (ih:Z0 n) (hneg:n.neg=false) (hnum : ¬ 0<(n.num.length:Int)) (hden : ¬ 0<(n.den.length:Int)) (hm:yd n.name=true) (h:n.op=39):callL Tryz.prog zD 78 [.agg n.cells,.agg (yF a b c)]=some (.bool (n.rest a b c)):=by
 rw[zGs n a b c h];have hh:yS 39=false:=rfl;have hk:zP 39=[2]:=rfl;rw[h,hk];have k7:=fun a b c hl=>ur n hn a b c [2] (fun _ ho=>by rw[h]at ho;omega) ih hl [] .nil false (.inl rfl);rw[h]at k7;unfold yF yd at *;cases c
 ·by_cases hl:n.kids.length=1
  ·have hq:(n.kids.length:Int)=1:=by omega
   have h5:=fun S=>zGe S _ (hn.kids _ (yA (l:=n.kids) (i:=0) (by omega)));obtain⟨S',k⟩:=k7 a true false (by rw[hl];rfl);rw[hq]at k;simp only[hl,bV,bL,pC,decide_true,bC,bK]
   cases hd:(n.kids.getD 0 nd0).diff
   ·rw[hd]at h5;rw[bB];apply FX.callB2 ok78_ 1000 rfl rfl;((repeat((conv=>lhs;whnf);simp only[go_sem,simprocAttr,hneg,hnum,hden,Int.reduceEq,pN,aJ,yE,xi,yX,xV,xJ,h,hh,hk,hm,hl,hq,h5,sI]));try rfl)
   ·rw[hd]at h5;rw[bC];apply FX.callB2 ok78_ 1000 rfl rfl;(repeat((conv=>lhs;whnf);simp only[go_sem,simprocAttr,hneg,hnum,hden,Int.reduceEq,pN,aJ,yE,xi,yX,xV,xJ,h,hh,hk,hm,hl,hq,h5,sI]));exact k
  ·have hq : ¬(n.kids.length:Int)=1:=by omega
   simp only[hl,decide_false,bB,bQ];apply FX.callB2 ok78_ 1000 rfl rfl;((repeat((conv=>lhs;whnf);simp only[go_sem,simprocAttr,hneg,hnum,hden,Int.reduceEq,pN,aJ,yE,xi,yX,xV,xJ,h,hh,hk,hm,hl,hq]));try rfl)
 ·apply FX.callB2 ok78_ 1000 rfl rfl;((repeat((conv=>lhs;whnf);simp only[go_sem,simprocAttr,hneg,hnum,hden,Int.reduceEq,pN,aJ,yE,xi,yX,xV,xJ,h,hh,hk,hm]));try rfl)
end
end
section
section
attribute [local irreducible] Vs.callL Vs.callRL tyi zO zn zg zR zY za zI zZ zA zK ze zX zG zJ zW zr yJ zq zL zf Vs.gc zH
theorem VV (n:Node) (hn:n.ok) (a b c:Bool) (ih:Z0 n) (L:List Int) (g:Option (Option Nat)) (hL:n.kids.length=L.length) (ho:n.op≠8∧n.op≠9) : ∃S',zU 0 ZX 1 16044 3 [.blk 1,.blk 0,.seq 0 63] [(2,.mp 0 0 0),(3,.mp 1 0 0),(6,.msl 2 0 L.length false),(88,.int .i64 L.length),(89,.int .i64 L.length)] [.arr [n.cells] none false,.arr [[.bool a,.bool b,.bool c]] none false,.arr (zE .i64 L) g false]=some (.bool (Node.formeds n.kids L a b c&&xF n.op n.kids),S'):=by
 have h1 : ¬(L.length:Int)<(L.length:Int):=by omega
 obtain⟨S',k⟩:=ur n hn a b c L (fun _ h=>by omega) ih hL [.arr (zE .i64 L) g true] (.cons (zm _ _) .nil) false (.inl rfl);have hz:=uV (S:=[.arr [n.cells] none false,.arr [[.bool a,.bool b,.bool c]] none false,.arr (zE .i64 L) g false]) (id:=2) (n:=L.length) (k:=.i64) (L:=L) (ex:=false) rfl rfl;rw[hL]at k;refine⟨S',yv ok78_.good 1000 ?_⟩;(repeat((conv=>lhs;whnf);simp only[go_sem,simprocAttr,h1]));apply zN;(repeat((conv=>lhs;whnf);simp only[go_sem,simprocAttr,hL,hz]));exact k
theorem zCN (n:Node) (hn:n.ok) (a b c:Bool) (ih:Z0 n) (hneg:n.neg=false) (hnum : ¬ 0<(n.num.length:Int)) (hden : ¬ 0<(n.den.length:Int)) (hq:(n.name.toList == (⟨#[]⟩:ByteArray).toList)=true) (op:Int) (hop:op=10∨op=37) (h:n.op=op):callL Tryz.prog zD 78 [.agg n.cells,.agg (yF a b c)]=some (.bool (n.rest a b c)):=by
 rw[zE4 n a b c (by rw[h];exact hop)];have ho:n.op≠8∧n.op≠9:=by omega
 have hh:yS op=false:=by rcases hop with h | h <;> rw[h] <;> rfl
 have hk:zP op=[]:=by rcases hop with h | h <;> rw[h] <;> rfl
 have g1 : ¬op=1:=by omega
 unfold yF
 cases hm:yQ n.name
 ·rw[bB,bB];apply FX.callB2 ok78_ 1000 rfl rfl
  rcases hop with rfl | rfl
  ·((repeat((conv=>lhs;whnf);simp only[go_sem,simprocAttr,hq,h,hneg,hnum,hden,yX,xV,xJ,hh,hk,hm,pN,yE,Int.reduceEq]));try rfl)
  ·((repeat((conv=>lhs;whnf);simp only[go_sem,simprocAttr,hq,h,hneg,hnum,hden,yX,xV,xJ,hh,hk,hm,pN,yE,Int.reduceEq]));try rfl)
 by_cases hl:n.kids.length≤1
 case neg =>
  have hl1:1<(n.kids.length:Int):=by omega
  rw[bI hl,bQ,bB];apply FX.callB2 ok78_ 1000 rfl rfl
  rcases hop with rfl | rfl
  ·((repeat((conv=>lhs;whnf);simp only[go_sem,simprocAttr,hq,h,hneg,hnum,hden,yX,xV,xJ,hh,hk,hm,pN,yE,Int.reduceEq,hl1]));try rfl)
  ·((repeat((conv=>lhs;whnf);simp only[go_sem,simprocAttr,hq,h,hneg,hnum,hden,yX,xV,xJ,hh,hk,hm,pN,yE,Int.reduceEq,hl1]));try rfl)
 rw[bH hl,sH,bC];by_cases h0:n.kids.length=0
 ·obtain⟨S',k⟩:=VV n hn a b c ih [] (some none) h0 ho;have h0':(n.kids.length:Int)=0:=by omega
  rw[h0];apply FX.callB2 ok78_ 1000 rfl rfl
  rcases hop with rfl | rfl
  ·((repeat((conv=>lhs;whnf);simp only[go_sem,simprocAttr,hq,h,hneg,hnum,hden,yX,xV,xJ,hh,hk,hm,pN,yE,Int.reduceEq,h0',Int.reduceLT]));try rfl);rw[h]at k;exact k
  ·((repeat((conv=>lhs;whnf);simp only[go_sem,simprocAttr,hq,h,hneg,hnum,hden,yX,xV,xJ,hh,hk,hm,pN,yE,Int.reduceEq,h0',Int.reduceLT]));try rfl);rw[h]at k;exact k
 ·have h1:n.kids.length=1:=by omega
  have h1':(n.kids.length:Int)=1:=by omega
  obtain⟨S',k⟩:=VV n hn a b c ih [1] (some (some 1)) h1 ho;have ha:=VU (S:=[.arr [n.cells] none false,.arr [[.bool a,.bool b,.bool c]] none false,.arr (zE .i64 []) (some none) false,.arr [[.int .i64 1]] (some (some 1)) false]) (j:=3) [] 1 none (.inl rfl) (by decide) true rfl rfl
   (S':=[.arr [n.cells] none false,.arr [[.bool a,.bool b,.bool c]] none false,.arr (zE .i64 [1]) (some (some 1)) false,.arr [[.int .i64 1]] (some (some 1)) false])
   (by simp only[sD,HZ,xC (yZ _),xC (zm _ _),xC (show zV [[PV.bool a,.bool b,.bool c]]=[] from rfl),xC (show zV [[PV.int .i64 1]]=[] from rfl)];rfl)
  have L1:zU 0 ZX 1 16044 3 [.blk 1,.blk 0,.seq 0 63] [(2,.mp 0 0 0),(3,.mp 1 0 0),(6,.msl 2 0 0 false),(88,.int .i64 1),(89,.int .i64 0)] [.arr [n.cells] none false,.arr [[.bool a,.bool b,.bool c]] none false,.arr [] (some none) false]=some (.bool (Node.formeds n.kids [1] a b c&&xF n.op n.kids),S'):=by
   have c1:(0:Int)<1:=by decide
   have w1:IntKind.i64.wrap (0+1)=1:=by rfl
   apply zC;simp only[yE,bV]at ha;(repeat((conv=>lhs;whnf);simp only[go_sem,simprocAttr,c1,w1,ha]));exact k
  rw[h1];apply FX.callB2 ok78_ 1000 rfl rfl
  rcases hop with rfl | rfl
  ·((repeat((conv=>lhs;whnf);simp only[go_sem,simprocAttr,hq,h,hneg,hnum,hden,yX,xV,xJ,hh,hk,hm,pN,yE,Int.reduceEq,h1',Int.reduceLT]));try rfl);rw[h]at L1;exact L1
  ·((repeat((conv=>lhs;whnf);simp only[go_sem,simprocAttr,hq,h,hneg,hnum,hden,yX,xV,xJ,hh,hk,hm,pN,yE,Int.reduceEq,h1',Int.reduceLT]));try rfl);rw[h]at L1;exact L1
theorem zCO (n:Node) (hn:n.ok) (a b c:Bool) (ih:Z0 n) (hneg:n.neg=false) (hnum : ¬ 0<(n.num.length:Int)) (hden : ¬ 0<(n.den.length:Int)) (hq:(n.name.toList == (⟨#[]⟩:ByteArray).toList)=false) (op:Int) (hop:op=10∨op=37) (h:n.op=op):callL Tryz.prog zD 78 [.agg n.cells,.agg (yF a b c)]=some (.bool (n.rest a b c)):=by
 rw[zE4 n a b c (by rw[h];exact hop)];have ho:n.op≠8∧n.op≠9:=by omega
 have hh:yS op=false:=by rcases hop with h | h <;> rw[h] <;> rfl
 have hk:zP op=[]:=by rcases hop with h | h <;> rw[h] <;> rfl
 have g1 : ¬op=1:=by omega
 unfold yF
 cases hm:yQ n.name
 ·rw[bB,bB];apply FX.callB2 ok78_ 1000 rfl rfl
  rcases hop with rfl | rfl
  ·((repeat((conv=>lhs;whnf);simp only[go_sem,simprocAttr,hq,h,hneg,hnum,hden,yX,xV,xJ,hh,hk,hm,pN,yE,Int.reduceEq]));try rfl)
  ·((repeat((conv=>lhs;whnf);simp only[go_sem,simprocAttr,hq,h,hneg,hnum,hden,yX,xV,xJ,hh,hk,hm,pN,yE,Int.reduceEq]));try rfl)
 by_cases hl:n.kids.length≤1
 case neg =>
  have hl1:1<(n.kids.length:Int):=by omega
  rw[bI hl,bQ,bB];apply FX.callB2 ok78_ 1000 rfl rfl
  rcases hop with rfl | rfl
  ·((repeat((conv=>lhs;whnf);simp only[go_sem,simprocAttr,hq,h,hneg,hnum,hden,yX,xV,xJ,hh,hk,hm,pN,yE,Int.reduceEq,hl1]));try rfl)
  ·((repeat((conv=>lhs;whnf);simp only[go_sem,simprocAttr,hq,h,hneg,hnum,hden,yX,xV,xJ,hh,hk,hm,pN,yE,Int.reduceEq,hl1]));try rfl)
 rw[bH hl,sH,bC];by_cases h0:n.kids.length=0
 ·obtain⟨S',k⟩:=VV n hn a b c ih [] (some none) h0 ho;have h0':(n.kids.length:Int)=0:=by omega
  rw[h0];apply FX.callB2 ok78_ 1000 rfl rfl
  rcases hop with rfl | rfl
  ·((repeat((conv=>lhs;whnf);simp only[go_sem,simprocAttr,hq,h,hneg,hnum,hden,yX,xV,xJ,hh,hk,hm,pN,yE,Int.reduceEq,h0',Int.reduceLT]));try rfl);rw[h]at k;exact k
  ·((repeat((conv=>lhs;whnf);simp only[go_sem,simprocAttr,hq,h,hneg,hnum,hden,yX,xV,xJ,hh,hk,hm,pN,yE,Int.reduceEq,h0',Int.reduceLT]));try rfl);rw[h]at k;exact k
 ·have h1:n.kids.length=1:=by omega
  have h1':(n.kids.length:Int)=1:=by omega
  obtain⟨S',k⟩:=VV n hn a b c ih [1] (some (some 1)) h1 ho;have ha:=VU (S:=[.arr [n.cells] none false,.arr [[.bool a,.bool b,.bool c]] none false,.arr (zE .i64 []) (some none) false,.arr [[.int .i64 1]] (some (some 1)) false]) (j:=3) [] 1 none (.inl rfl) (by decide) true rfl rfl
   (S':=[.arr [n.cells] none false,.arr [[.bool a,.bool b,.bool c]] none false,.arr (zE .i64 [1]) (some (some 1)) false,.arr [[.int .i64 1]] (some (some 1)) false])
   (by simp only[sD,HZ,xC (yZ _),xC (zm _ _),xC (show zV [[PV.bool a,.bool b,.bool c]]=[] from rfl),xC (show zV [[PV.int .i64 1]]=[] from rfl)];rfl)
  have L1:zU 0 ZX 1 16044 3 [.blk 1,.blk 0,.seq 0 63] [(2,.mp 0 0 0),(3,.mp 1 0 0),(6,.msl 2 0 0 false),(88,.int .i64 1),(89,.int .i64 0)] [.arr [n.cells] none false,.arr [[.bool a,.bool b,.bool c]] none false,.arr [] (some none) false]=some (.bool (Node.formeds n.kids [1] a b c&&xF n.op n.kids),S'):=by
   have c1:(0:Int)<1:=by decide
   have w1:IntKind.i64.wrap (0+1)=1:=by rfl
   apply zC;simp only[yE,bV]at ha;(repeat((conv=>lhs;whnf);simp only[go_sem,simprocAttr,c1,w1,ha]));exact k
  rw[h1];apply FX.callB2 ok78_ 1000 rfl rfl
  rcases hop with rfl | rfl
  ·((repeat((conv=>lhs;whnf);simp only[go_sem,simprocAttr,hq,h,hneg,hnum,hden,yX,xV,xJ,hh,hk,hm,pN,yE,Int.reduceEq,h1',Int.reduceLT]));try rfl);rw[h]at L1;exact L1
  ·((repeat((conv=>lhs;whnf);simp only[go_sem,simprocAttr,hq,h,hneg,hnum,hden,yX,xV,xJ,hh,hk,hm,pN,yE,Int.reduceEq,h1',Int.reduceLT]));try rfl);rw[h]at L1;exact L1
theorem J2 (n:Node) (hn:n.ok) (a b c:Bool) (ih:Z0 n) (hneg:n.neg=false) (hnum : ¬ 0<(n.num.length:Int)) (hden : ¬ 0<(n.den.length:Int)) (op:Int) (hop:op=10∨op=37) (h:n.op=op):callL Tryz.prog zD 78 [.agg n.cells,.agg (yF a b c)]=some (.bool (n.rest a b c)):=by
 cases hq:(n.name.toList == (⟨#[]⟩:ByteArray).toList)
 ·exact zCO n hn a b c ih hneg hnum hden hq op hop h
 ·exact zCN n hn a b c ih hneg hnum hden hq op hop h
theorem zJ5 (n:Node) (hn:n.ok) (hlen:n.kids.length≤100000) (a b c:Bool) (ih:Z0 n) (last:Nat) (hlast:last+1=n.kids.length) (g:Option Nat) (hg:g=none∨g=some 1) (h:n.op=54) : ∃S',yB 0 ZX 3 [.blk 3,.seq 0 32119,.blk 0,.seq 0 63] [(2,.mp 0 0 0),(3,.mp 1 0 0),(6,.msl 2 0 last false),(7,.undef),(8,.undef),(112,.undef)]
     [.arr [n.cells] none false,.arr [[.bool a,.bool b,.bool c]] none false,.arr (zE .i64 (vi last)) (some g) false]=some (.bool (Node.formeds n.kids (vi last++[2]) a b true&&xF n.op n.kids),S'):=by
 have hL:n.kids.length=(vi last++[2]).length:=by rw[bN,kH];simpa using hlast.symm
 have hL':(n.kids.length:Int)=((last+1:Nat):Int):=by omega
 obtain⟨S',k⟩:=ur n hn a b true (vi last++[2]) (fun _ h=>by omega) ih hL [.arr (zE .i64 (vi last++[2])) (some (some 1)) true,.arr [[.int .i64 2]] (some (some 1)) false] (.cons (zm _ _) (.cons rfl .nil)) false (.inl rfl);have ha:=VU (S:=[.arr [n.cells] none false,.arr [[.bool a,.bool b,.bool c]] none false,.arr (zE .i64 (vi last)) (some g) false,.arr [[.int .i64 2]] (some (some 1)) false]) (j:=3) (vi last) 2 g hg (by rw[kH];omega) true rfl rfl
  (S':=[.arr [n.cells] none false,.arr [[.bool a,.bool b,.bool c]] none false,.arr (zE .i64 (vi last++[2])) (some (some 1)) false,.arr [[.int .i64 2]] (some (some 1)) false])
  (by simp only[sD,HZ,xC (yZ _),xC (zm _ _),xC (show zV [[PV.bool a,.bool b,.bool c]]=[] from rfl),xC (show zV [[PV.int .i64 2]]=[] from rfl)];rfl)
 rw[kH]at ha;have hz:=uV (S:=[.arr [n.cells] none false,.arr [[.bool a,.bool b,.bool true]] none false,.arr (zE .i64 (vi last++[2])) (some (some 1)) false,.arr [[.int .i64 2]] (some (some 1)) false]) (id:=2) (n:=last+1) (k:=.i64) (L:=vi last++[2]) (ex:=false) rfl (by rw[←hL];exact hlast.symm);rw[hL']at k;refine⟨S',zDV ok78_.good 1000 ?_⟩;(repeat((conv=>lhs;whnf);simp only[go_sem,simprocAttr,ha,hL',hz]));exact k
theorem zGu (n:Node) (hn:n.ok) (hlen:n.kids.length≤100000) (a b c:Bool) (ih:Z0 n) (hneg:n.neg=false) (hnum : ¬ 0<(n.num.length:Int)) (hden : ¬ 0<(n.den.length:Int)) (hm:yd n.name=true) (h:n.op=54):callL Tryz.prog zD 78 [.agg n.cells,.agg (yF a b c)]=some (.bool (n.rest a b c)):=by
 rw[zJ4 n a b c h,hm,bC];have hh:yS 54=false:=rfl;have hk:zP 54=[]:=rfl;have hM:=xZ;have hnl:=hn.len;unfold yF yd at *;by_cases hl:2≤n.kids.length
 case neg =>
  have hl':(n.kids.length:Int)<2:=by omega
  rw[bI hl,bB,bB];apply FX.callB2 ok78_ 1000 rfl rfl;((repeat((conv=>lhs;whnf);simp only[go_sem,simprocAttr,h,hneg,hnum,hden,yX,xV,hh,hk,hm,pN,yE,Int.reduceEq,hl']));try rfl)
 ·have hl' : ¬(n.kids.length:Int)<2:=by omega
  obtain⟨last,hlast⟩ : ∃last,last+1=n.kids.length:=⟨n.kids.length-1,by omega⟩;have hlast':n.kids.length-1=last:=by omega
  have hw:IntKind.i64.wrap ((n.kids.length:Int)-1)=(last:Int):=by rw[bE];omega
  have hd:n.kids.length=(vi last++[2]).length:=by rw[bN,kH];simpa using hlast.symm
  obtain⟨g,hg,k1,k2⟩:=zCJ n hn hlen a b c last hlast last 0 (by omega) none (.inl rfl);unfold WY;rw[hlast',bH hl,bH hd,bC,bC]
  cases f:uo n.kids last last 0
  ·obtain⟨S',k⟩:=k2 f;rw[bB];apply FX.callB2 ok78_ 1000 rfl rfl;(repeat((conv=>lhs;whnf);simp only[go_sem,simprocAttr,h,hneg,hnum,hden,yX,xV,hh,hk,hm,pN,yE,Int.reduceEq,hl',hw]));exact k
  ·obtain⟨S',k⟩:=zJ5 n hn hlen a b c ih last hlast g hg h;have k':=k1 f _ k;rw[bC];apply FX.callB2 ok78_ 1000 rfl rfl;((repeat((conv=>lhs;whnf);simp only[go_sem,simprocAttr,h,hneg,hnum,hden,yX,xV,hh,hk,hm,pN,yE,Int.reduceEq,hl',hw]));try rfl);rw[h]at k';exact k'
theorem zE7 : ∀n:Node,n.ok→n.count≤100000→∀a b c,callL Tryz.prog zD 78 [.agg n.cells,.agg (yF a b c)]=some (.bool (n.formed a b c)):=by
 refine Node.ind' fun n ih0 hn hc a b c=>?_;have hck:=JS n;have ih:Z0 n:=fun k hk=>ih0 k hk (hn.kids k hk) (by have:=zA2 _ k hk;omega);have hlen:n.kids.length≤100000:=by have:=JR n.kids;omega
 rw[zEW]
 cases hH:uq n.op n.name n.neg n.num n.den
 ·rw[bB];unfold uq at hH;by_cases h1:n.op=1
  ·have cn:=fun S=>zA3 S n hn;rw[bA h1]at hH
   cases hnat:vt n.neg n.num n.den
   ·rw[hnat]at cn;unfold yF;apply FX.callB2 ok78_ 1000 rfl rfl;((repeat((conv=>lhs;whnf);simp only[go_sem,simprocAttr,h1,cn]));try rfl)
   ·rw[hnat]at cn hH;have hh:yS 1=false:=rfl
    cases hm:yd n.name
    ·unfold yF yd at *;apply FX.callB2 ok78_ 1000 rfl rfl;((repeat((conv=>lhs;whnf);simp only[go_sem,simprocAttr,h1,cn,yX,hh,hm,Int.reduceEq]));try rfl)
    ·simp[h1,hh,hm]at hH
  ·rw[hZ h1]at hH
   cases hneg:n.neg
   ·by_cases hnum:n.num.length=0
    ·have hnum' : ¬ 0<(n.num.length:Int):=by omega
     by_cases hden:n.den.length=0
     ·have hden' : ¬ 0<(n.den.length:Int):=by omega
      cases hh:yS n.op
      ·cases hm:yd n.name
       ·by_cases h10:n.op=10
        ·rw[h10]at hH hh;simp[hneg,hnum,hden,hh,hm]at hH
        by_cases h37:n.op=37
        ·rw[h37]at hH hh;simp[hneg,hnum,hden,hh,hm]at hH
        unfold yF yd at *;apply FX.callB2 ok78_ 1000 rfl rfl;((repeat((conv=>lhs;whnf);simp only[go_sem,simprocAttr,h1,hneg,hnum',hden',yX,hh,hm,h10,h37]));try rfl)
       ·simp[hneg,hnum,hden,hh,hm]at hH
      ·cases hm:yQ n.name
       ·unfold yF;apply FX.callB2 ok78_ 1000 rfl rfl;((repeat((conv=>lhs;whnf);simp only[go_sem,simprocAttr,h1,hneg,hnum',hden',yX,hh,xJ,hm]));try rfl)
       ·simp[hneg,hnum,hden,hh,hm]at hH
     ·have hden':0<(n.den.length:Int):=by omega
      unfold yF;apply FX.callB2 ok78_ 1000 rfl rfl;((repeat((conv=>lhs;whnf);simp only[go_sem,simprocAttr,h1,hneg,hnum',hden']));try rfl)
    ·have hnum':0<(n.num.length:Int):=by omega
     unfold yF;apply FX.callB2 ok78_ 1000 rfl rfl;((repeat((conv=>lhs;whnf);simp only[go_sem,simprocAttr,h1,hneg,hnum']));try rfl)
   ·unfold yF;apply FX.callB2 ok78_ 1000 rfl rfl;((repeat((conv=>lhs;whnf);simp only[go_sem,simprocAttr,h1,hneg]));try rfl)
 ·rw[bC];unfold uq at hH;by_cases h1:n.op=1
  ·have hh:yS 1=false:=rfl;rw[bA h1]at hH;have hnat:vt n.neg n.num n.den=true:=by
    cases e:vt n.neg n.num n.den
    ·rw[e]at hH;simp at hH
    ·rfl
   have hm:yd n.name=true:=by
    cases e:yd n.name
    ·simp[h1,hh,e]at hH
    ·rfl
   exact zGt n hn a b c ih hnat hm h1
  ·rw[hZ h1]at hH;simp only[bP,BI,bR]at hH;obtain⟨⟨hneg,hnum0,hden0⟩,hnm⟩:=hH;have hnum : ¬ 0<(n.num.length:Int):=by omega
   have hden : ¬ 0<(n.den.length:Int):=by omega
   by_cases h10:n.op=10
   ·exact J2 n hn a b c ih hneg hnum hden 10 (.inl rfl) h10
   by_cases h37:n.op=37
   ·exact J2 n hn a b c ih hneg hnum hden 37 (.inr rfl) h37
   have nn:yS n.op=false→yd n.name=true:=fun hh=>by
    cases e:yd n.name
    ·simp[hh,e,h10,h37]at hnm
    ·rfl
   have nm:yS n.op=true→yQ n.name=true:=fun hh=>by
    cases e:yQ n.name
    ·simp[hh,e]at hnm
    ·rfl
   by_cases h54:n.op=54
   ·exact zGu n hn hlen a b c ih hneg hnum hden (nn (by rw[h54];rfl)) h54
   by_cases h3:n.op=3
   ·exact zCL n hn a b c ih hneg hnum hden (nm (by rw[h3];rfl)) h3
   by_cases h12:n.op=12
   ·exact zE6 n hn a b c ih hneg hnum hden (nn (by rw[h12];rfl)) h12
   by_cases h39:n.op=39
   ·exact zCM n hn a b c ih hneg hnum hden (nn (by rw[h39];rfl)) h39
   cases hh:yS n.op
   ·exact zE5 n hn a b c ih h1 hneg hnum hden hh (nn hh) ⟨h10,h37,h54,h3,h12,h39⟩
   ·exact zCK n hn a b c ih h1 hneg hnum hden hh (nm hh) ⟨h10,h37,h54,h3,h12,h39⟩
end
end
section
def YD (n:Node):Prop:=∀k∈n.kids,∀s t f,callL Tryz.prog zD 87 [.agg k.cells,.int .i64 s,.bool t,.bool f]=some (.bool (k.well s t f))
theorem VW {k:Node} {s:Int} {t f v:Bool} (S:zB) (h:callL Tryz.prog zD 87 [.agg k.cells,.int .i64 s,.bool t,.bool f]=some (.bool v)):zO (callL Tryz.prog zD) S 87 [.agg k.cells,.int .i64 s,.bool t,.bool f]=some {v:=.bool v} := zF h (by simp[Node.plain,zh.int,zh.bool])
section
attribute [local irreducible] Vs.callL Vs.callRL tyi zO zn zg zR zY za zI zZ zA zK ze zX zG zJ zW zr yJ zq zL zf Vs.gc zH
noncomputable def J3:FX:=⟨Tryz.f131,zD.of 131,[]⟩
instance ok131_:J3.ok 131:=FX.mk'
theorem zGv (n:Node) (hn:n.ok) (t f:Bool) (i:Nat) (hi:i<n.kids.length) (fs:List Fr) : ∀(m j:Nat),j+m=i →
  ((((n.kids.take i).drop j).all (ve (n.kids.getD i nd0)))=true→∀z,yB 0 J3 2 fs [(1,.bool t),(2,.bool f),(3,.mp 0 0 0),(7,.int .i64 n.kids.length),(8,.int .i64 i),(9,.undef),(10,.undef),(71,.undef)] [.arr [n.cells] none false,.arr [(n.kids.getD i nd0).cells] none false]=some z →
   zU 0 J3 2 62620 2 fs [(1,.bool t),(2,.bool f),(3,.mp 0 0 0),(7,.int .i64 n.kids.length),(8,.int .i64 i),(9,.mp 1 0 0),(10,.int .i64 j)] [.arr [n.cells] none false,.arr [(n.kids.getD i nd0).cells] none false]=some z) ∧
  ((((n.kids.take i).drop j).all (ve (n.kids.getD i nd0)))=false→∃S',
   zU 0 J3 2 62620 2 fs [(1,.bool t),(2,.bool f),(3,.mp 0 0 0),(7,.int .i64 n.kids.length),(8,.int .i64 i),(9,.mp 1 0 0),(10,.int .i64 j)] [.arr [n.cells] none false,.arr [(n.kids.getD i nd0).cells] none false]=some (.bool false,S')):=by
 intro m
 induction m with
 | zero =>
  intro j hj;have h1 : ¬(j:Int)<(i:Int):=by omega
  have e0:((n.kids.take i).drop j)=[]:=bU (by simp;omega);rw[e0];refine⟨fun _ z hz=>?_,fun h=>by simp at h⟩;apply zC;(repeat((conv=>lhs;whnf);simp only[go_sem,simprocAttr,h1]));exact hz
 | succ m hm =>
  intro j hj;have h1:(j:Int)<(i:Int):=by omega
  have h2:=zi (i:=j) (n:=n.kids.length) (by omega) hn.len;have h3:0≤(j:Int)∧(j:Int)<(n.kids.length:Int):=⟨by omega,by omega⟩;obtain⟨k1,k2⟩:=hm (j+1) (by omega);rw[XH (l:=n.kids) (i:=i) (j:=j) (by omega) (by omega),HY];generalize hK:n.kids.getD i nd0=K at *;unfold ve at *;by_cases hop:K.op=55
  ·cases hnm:(n.kids.getD j nd0).name.toList == K.name.toList
   ·simp only[hop,hnm,decide_true,bC,bK]at k1 k2 ⊢;refine⟨fun ha z hz=>?_,fun ha=>?_⟩
    ·apply zC;(repeat((conv=>lhs;whnf);simp only[go_sem,simprocAttr,h1,h2,h3,bD,hop,hnm]));exact k1 ha z hz
    ·obtain⟨S',k⟩:=k2 ha;refine⟨S',yv ok131_.good 1000 ?_⟩;(repeat((conv=>lhs;whnf);simp only[go_sem,simprocAttr,h1,h2,h3,bD,hop,hnm]));exact k
   ·refine⟨fun ha=>by simp[hop,hnm]at ha,fun _=>?_⟩;apply Exists.intro;apply zC;((repeat((conv=>lhs;whnf);simp only[go_sem,simprocAttr,h1,h2,h3,bD,hop,hnm]));try rfl)
  ·simp only[hop,decide_false,bB,bK,bC]at k1 k2 ⊢;refine⟨fun ha z hz=>?_,fun ha=>?_⟩
   ·apply zC;(repeat((conv=>lhs;whnf);simp only[go_sem,simprocAttr,h1,h2,h3,bD,hop]));exact k1 ha z hz
   ·obtain⟨S',k⟩:=k2 ha;refine⟨S',yv ok131_.good 1000 ?_⟩;(repeat((conv=>lhs;whnf);simp only[go_sem,simprocAttr,h1,h2,h3,bD,hop]));exact k
theorem zJ6 (n:Node) (hn:n.ok) (t f:Bool) (ih:YD n) (last:Nat) (hlast:last+1=n.kids.length) : ∀(m i:Nat),i+m=last →
  ∃S',zU 0 J3 0 244 1 [.blk 0,.seq 0 31] [(1,.bool t),(2,.bool f),(3,.mp 0 0 0),(7,.int .i64 n.kids.length),(8,.int .i64 i)] [.arr [n.cells] none false]=some (.bool (jV n.kids last t f m i),S'):=by
 have hM:=xZ;have hnl:=hn.len;have w1:IntKind.i64.wrap ((n.kids.length:Int)-1)=(last:Int):=by rw[bE];omega
 have w2:IntKind.i64.wrap ((n.kids.length:Int)-2)=(last:Int)-1:=by rw[bE];omega
 intro m
 induction m with
 | zero =>
  intro i hi;obtain rfl:i=last:=by omega
  have h1 : ¬(i:Int)<(i:Int):=by omega
  apply Exists.intro;apply zC;unfold jV;(repeat((conv=>lhs;whnf);simp only[go_sem,simprocAttr,w1,h1]));apply zN;((repeat((conv=>lhs;whnf);simp only[go_sem,simprocAttr]));try rfl)
 | succ m hm =>
  intro i hi;have h1:(i:Int)<(last:Int):=by omega
  have h3:0≤(i:Int)∧(i:Int)<(n.kids.length:Int):=⟨by omega,by omega⟩;have h5:=zi (i:=i) (n:=n.kids.length) (by omega) hn.len;have h6:=fun S=>VW S (ih _ (yA (l:=n.kids) (i:=i) (by omega)) 4 t f);have L2:=fun fs=>zGv n hn t f i (by omega) fs i 0 (by omega);simp only[bY]at L2;obtain⟨Sn,key⟩:=hm (i+1) (by omega);have e0:jV n.kids last t f (m+1) i=(((decide ((n.kids.getD i nd0).op=55)||(decide ((n.kids.getD i nd0).op=56)&&decide (i=last-1)))&&(n.kids.getD i nd0).well 4 t f)&&((n.kids.take i).all (ve (n.kids.getD i nd0))&&jV n.kids last t f m (i+1))):=rfl;rw[e0];generalize hK:n.kids.getD i nd0=K at *;by_cases c2:K.op=56
  ·have c1 : ¬K.op=55:=by omega
   by_cases c3:(i:Int)<(last:Int)-1
   ·have c3' : ¬i=last-1:=by omega
    rw[bI c1,bI c3',bQ,sX,bB,bB];apply Exists.intro;apply zC;((repeat((conv=>lhs;whnf);simp only[go_sem,simprocAttr,h1,h3,w1,w2,bD,hK,c2,c3]));try rfl)
   ·have c3':i=last-1:=by omega
    rw[bI c1,bH c2,bH c3',sH,sU,bC]
    cases hw:K.well 4 t f
    ·rw[hw]at h6;rw[bB];apply Exists.intro;apply zC;((repeat((conv=>lhs;whnf);simp only[go_sem,simprocAttr,h1,h3,w1,w2,bD,hK,c2,c3,h6]));try rfl)
    ·rw[hw]at h6;rw[bC]
     cases f2:((n.kids.take i).all (ve K))
     ·obtain⟨S',k⟩:=(L2 _).2 f2;refine⟨S',yv ok131_.good 1000 ?_⟩;rw[bB];(repeat((conv=>lhs;whnf);simp only[go_sem,simprocAttr,h1,h3,w1,w2,bD,hK,c2,c3,h6]));exact k
     ·rw[bC];refine⟨Sn,yv ok131_.good 1000 ?_⟩;(repeat((conv=>lhs;whnf);simp only[go_sem,simprocAttr,h1,h3,w1,w2,bD,hK,c2,c3,h6]));refine (L2 _).1 f2 _ ?_;apply zN;(repeat((conv=>lhs;whnf);simp only[go_sem,simprocAttr,h5]));exact key
  ·by_cases c1:K.op=55
   ·rw[bH c1,pI,bC]
    cases hw:K.well 4 t f
    ·rw[hw]at h6;rw[bB];apply Exists.intro;apply zC;((repeat((conv=>lhs;whnf);simp only[go_sem,simprocAttr,h1,h3,w1,w2,bD,hK,c1,h6]));try rfl)
    ·rw[hw]at h6;rw[bC]
     cases f2:((n.kids.take i).all (ve K))
     ·obtain⟨S',k⟩:=(L2 _).2 f2;refine⟨S',yv ok131_.good 1000 ?_⟩;rw[bB];(repeat((conv=>lhs;whnf);simp only[go_sem,simprocAttr,h1,h3,w1,w2,bD,hK,c1,h6]));exact k
     ·rw[bC];refine⟨Sn,yv ok131_.good 1000 ?_⟩;(repeat((conv=>lhs;whnf);simp only[go_sem,simprocAttr,h1,h3,w1,w2,bD,hK,c1,h6]));refine (L2 _).1 f2 _ ?_;apply zN;(repeat((conv=>lhs;whnf);simp only[go_sem,simprocAttr,h5]));exact key
   ·rw[bI c1,bI c2,bB,sX,bB,bB];apply Exists.intro;apply zC;((repeat((conv=>lhs;whnf);simp only[go_sem,simprocAttr,h1,h3,w1,w2,bD,hK,c1,c2]));try rfl)
theorem zGw (n:Node) (hn:n.ok) (t f:Bool) (ih:YD n):callL Tryz.prog zD 131 [.agg n.cells,.bool t,.bool f]=some (.bool (qK n t f)):=by
 have hM:=xZ;have hnl:=hn.len;have hp:=fun S=>zJV S n hn;by_cases hl:2≤n.kids.length
 ·have hl' : ¬(n.kids.length:Int)<2:=by omega
  obtain⟨last,hlast⟩ : ∃last,last+1=n.kids.length:=⟨n.kids.length-1,by omega⟩;have hlast':n.kids.length-1=last:=by omega
  have w1:IntKind.i64.wrap ((n.kids.length:Int)-1)=(last:Int):=by rw[bE];omega
  have hx:0≤(last:Int)∧(last:Int)<(n.kids.length:Int):=by omega
  have hwl:=fun S=>VW S (ih _ (yA (l:=n.kids) (i:=last) (by omega)) 2 t f);have e:qK n t f=(!n.primed&&((n.kids.getD last nd0).well 2 t f&&jV n.kids last t f last 0)):=by
   have h:=zG8 n.kids last hlast t f last 0 (by omega);simp only[bY]at h;simp only[qK,hl,decide_true,bC,hlast',WY,h]
  rw[e]
  cases hpr:n.primed
  ·rw[hpr]at hp;rw[bK,bC]
   cases hwv:(n.kids.getD last nd0).well 2 t f
   ·rw[hwv]at hwl;rw[bB];apply FX.callB2 ok131_ 1000 rfl rfl;((repeat((conv=>lhs;whnf);simp only[go_sem,simprocAttr,hl',hp,w1,hx,bD,hwl]));try rfl)
   ·rw[hwv]at hwl;rw[bC];obtain⟨S',k⟩:=zJ6 n hn t f ih last hlast last 0 (by omega);apply FX.callB2 ok131_ 1000 rfl rfl;(repeat((conv=>lhs;whnf);simp only[go_sem,simprocAttr,hl',hp,w1,hx,bD,hwl]));exact k
  ·rw[hpr]at hp;rw[bT,bB];apply FX.callB2 ok131_ 1000 rfl rfl;((repeat((conv=>lhs;whnf);simp only[go_sem,simprocAttr,hl',hp]));try rfl)
 ·have hl':(n.kids.length:Int)<2:=by omega
  have e:qK n t f=false:=by simp only[qK,hl,decide_false,bB]
  rw[e];apply FX.callB2 ok131_ 1000 rfl rfl;((repeat((conv=>lhs;whnf);simp only[go_sem,simprocAttr,hl']));try rfl)
end
end
section
theorem uX (S:zB) (k:IntKind) (n:Int):zL Tryz.prog 5 3 S (.int k n)=some (.int .i64 (IntKind.i64.wrap n)):=by
 simp[zL,show (tyi Tryz.prog 5).known=true by kernel_rfl,xN,show (tyi Tryz.prog 3).d=.int .i64 by kernel_rfl]
section
attribute [local irreducible] Vs.callL Vs.callRL tyi zO zn zg zR zY za zI zZ zA zK ze zX zG zJ zW zr yJ zq zL zf Vs.gc zH
noncomputable def zIM:FX:=⟨Tryz.f87,zD.of 87,[]⟩
instance ok87_:zIM.ok 87:=FX.mk'
theorem zJ7 (n:Node) (hn:n.ok) (h2:n.op=8∨n.op=9→n.kids.length=2) (h3:n.op=39→n.kids.length=1) :
  ∃S',yB 0 zIM 0 [.blk 0,.seq 0 1023] [(2,.undef),(3,.undef),(4,.mp 0 0 0),(9,.undef),(10,.undef),(108,.undef)] [.arr [n.cells] none false]=some (.bool (xM n.op n.kids),S'):=by
 unfold xM;by_cases h8:n.op=8
 ·have h1:(n.kids.length:Int)=2:=by have:=h2 (.inl h8);omega
  rw[bA h8];generalize hk:n.kids.getD 1 nd0=k;apply Exists.intro;apply zN;by_cases e1:k.op=1
  ·by_cases e2:0<k.num.length
   ·have e2':0<(k.num.length:Int):=by omega
    rw[bH e1,bH e2,sH];((repeat((conv=>lhs;whnf);simp only[go_sem,simprocAttr,h8,h1,hk,e1,e2']));try rfl)
   ·have e2' : ¬ 0<(k.num.length:Int):=by omega
    rw[bH e1,bI e2,bQ];((repeat((conv=>lhs;whnf);simp only[go_sem,simprocAttr,h8,h1,hk,e1,e2']));try rfl)
  ·rw[bI e1,bB];((repeat((conv=>lhs;whnf);simp only[go_sem,simprocAttr,h8,h1,hk,e1]));try rfl)
 by_cases h9:n.op=9
 ·have h1:(n.kids.length:Int)=2:=by have:=h2 (.inr h9);omega
  have hko:=hn.kids _ (yA (l:=n.kids) (i:=1) (by have:=h2 (.inr h9);omega));rw[hZ h8,bA h9];generalize hk:n.kids.getD 1 nd0=k at *;have hc:=fun S=>JU S k hko 20;apply Exists.intro;apply zN;by_cases e1:k.op=1
  ·rw[bH e1,bC];by_cases e2:0≤vg k.num 20
   ·rw[bH e2];((repeat((conv=>lhs;whnf);simp only[go_sem,simprocAttr,h8,h9,h1,hk,e1,hc,e2]));try rfl)
   ·rw[bI e2];((repeat((conv=>lhs;whnf);simp only[go_sem,simprocAttr,h8,h9,h1,hk,e1,hc,e2]));try rfl)
  ·rw[bI e1,bB];((repeat((conv=>lhs;whnf);simp only[go_sem,simprocAttr,h8,h9,h1,hk,e1]));try rfl)
 by_cases h39:n.op=39
 ·have h1:(n.kids.length:Int)=1:=by have:=h3 h39;omega
  have hc:=fun S=>zNd S _ (hn.kids _ (yA (l:=n.kids) (i:=0) (by omega)));rw[hZ h8,hZ h9,bA h39];apply Exists.intro;apply zN;((repeat((conv=>lhs;whnf);simp only[go_sem,simprocAttr,h8,h9,h39,h1,hc,sI]));try rfl)
 ·rw[hZ h8,hZ h9,hZ h39];apply Exists.intro;apply zN;((repeat((conv=>lhs;whnf);simp only[go_sem,simprocAttr,h8,h9,h39]));try rfl)
theorem zJ8 (n:Node) (hn:n.ok) (t f:Bool) (s:List Int) (hs:s.length=n.kids.length) (hd : ∀d∈s,0≤d∧d≤100) (ih:YD n) (h2:n.op=8∨n.op=9→n.kids.length=2) (h3:n.op=39→n.kids.length=1) :
  ∀(m i:Nat),i+m=n.kids.length→∃S',zU 0 zIM 0 8180 1 [.blk 0,.seq 0 1023] [(2,.bool t),(3,.bool f),(4,.mp 0 0 0),(9,.str (uM s)),(10,.int .i64 i)] [.arr [n.cells] none false] =
   some (.bool (Node.wells (n.kids.drop i) (s.drop i) (t||decide (n.op=12)) (f||decide (n.op=39))&&xM n.op n.kids),S'):=by
 have hsz:=yK s;intro m
 induction m with
 | zero =>
  intro i hi;have h1 : ¬(i:Int)<(s.length:Int):=by omega
  obtain⟨S',k⟩:=zJ7 n hn h2 h3;rw[bU (l:=n.kids) (by omega)];refine⟨S',yv ok87_.good 1000 ?_⟩;unfold Node.wells;rw[bC];(repeat((conv=>lhs;whnf);simp only[go_sem,simprocAttr,hsz,h1]));exact k
 | succ m hm =>
  intro i hi;have h1:(i:Int)<(s.length:Int):=by omega
  have h1':(i:Int)<(n.kids.length:Int):=by omega
  have h4:(0:Int)≤(i:Int):=by omega
  have h5:=zi (i:=i) (n:=n.kids.length) (by omega) hn.len;have hsi:s.getD i 0∈s:=by
   have:i<s.length:=by omega
   simp[bM,this]
  have hdi:=hd _ hsi;have hb:=zJT (l:=s) (i:=i) (by omega) hdi;have hw1:IntKind.u8.wrap (48+s.getD i 0-48)=s.getD i 0:=by rw[SJ];omega
  have hw2:IntKind.i64.wrap (s.getD i 0)=s.getD i 0:=by rw[bE];omega
  obtain⟨S',h6⟩:=hm (i+1) (by omega);have e:Node.wells (n.kids.drop i) (s.drop i) (t||decide (n.op=12)) (f||decide (n.op=39))=((n.kids.getD i nd0).well (s.getD i 0) (t||decide (n.op=12)) (f||decide (n.op=39))&&Node.wells (n.kids.drop (i+1)) (s.drop (i+1)) (t||decide (n.op=12)) (f||decide (n.op=39))):=by
   rw[xO (l:=n.kids) (by omega)];simp only[Node.wells,PP];have:(s.drop i).getD 0 0=s.getD i 0:=by simp[bM]
   rw[this]
  rw[e];have hc:=fun S=>VW S (ih _ (yA (l:=n.kids) (i:=i) (by omega)) (s.getD i 0) (t||decide (n.op=12)) (f||decide (n.op=39)))
  cases hv:(n.kids.getD i nd0).well (s.getD i 0) (t||decide (n.op=12)) (f||decide (n.op=39))
  ·rw[hv]at hc;rw[bB,bB];clear hv e h6;by_cases h12:n.op=12
   ·have h39 : ¬n.op=39:=by omega
    simp only[h12,decide_true,sU,Int.reduceEq,decide_false,pJ]at hc
    cases t <;> cases f <;> (apply Exists.intro;apply zC;((repeat((conv=>lhs;whnf);simp only[go_sem,simprocAttr,hsz,h1,h1',h4,h5,bD,hb,hw1,hw2,uX,h12,hc,Int.reduceEq]));try rfl))
   ·by_cases h39:n.op=39
    ·simp only[h39,decide_true,sU,Int.reduceEq,decide_false,pJ]at hc
     cases t <;> cases f <;> (apply Exists.intro;apply zC;((repeat((conv=>lhs;whnf);simp only[go_sem,simprocAttr,hsz,h1,h1',h4,h5,bD,hb,hw1,hw2,uX,h39,hc,Int.reduceEq]));try rfl))
    ·simp only[h12,h39,decide_false,pJ]at hc
     cases t <;> cases f <;> (apply Exists.intro;apply zC;((repeat((conv=>lhs;whnf);simp only[go_sem,simprocAttr,hsz,h1,h1',h4,h5,bD,hb,hw1,hw2,uX,h12,h39,hc]));try rfl))
  ·rw[hv]at hc;rw[bC];refine⟨S',yv ok87_.good 1000 ?_⟩;clear hv e;by_cases h12:n.op=12
   ·have h39 : ¬n.op=39:=by omega
    simp only[h12,decide_true,sU,Int.reduceEq,decide_false,pJ]at hc
    cases t <;> cases f <;> (((repeat((conv=>lhs;whnf);simp only[go_sem,simprocAttr,hsz,h1,h1',h4,h5,bD,hb,hw1,hw2,uX,h12,hc,Int.reduceEq]));try rfl);rw[h12]at h6;exact h6)
   ·by_cases h39:n.op=39
    ·simp only[h39,decide_true,sU,Int.reduceEq,decide_false,pJ]at hc
     cases t <;> cases f <;> (((repeat((conv=>lhs;whnf);simp only[go_sem,simprocAttr,hsz,h1,h1',h4,h5,bD,hb,hw1,hw2,uX,h39,hc,Int.reduceEq]));try rfl);rw[h39]at h6;exact h6)
    ·simp only[h12,h39,decide_false,pJ]at hc
     cases t <;> cases f <;> (((repeat((conv=>lhs;whnf);simp only[go_sem,simprocAttr,hsz,h1,h1',h4,h5,bD,hb,hw1,hw2,uX,h12,h39,hc]));try rfl);simpa only[h12,h39,decide_false,pJ] using h6)
end
end
end Go.Vs


import Derived.Test.YtfbkajadbjbfiaaGreatMA13
set_option linter.unusedVariables false
set_option linter.unusedSimpArgs false
set_option maxRecDepth 100000
namespace Go.Vs
open Go Go.Proofs
section
theorem jU:SlT 47 3 1 8:=⟨by kernel_rfl,by kernel_rfl,by kernel_rfl,by kernel_rfl,by kernel_rfl⟩
@[go_sem] theorem zGP (r:List (List PV)) (ex:Bool):yO (tyi Tryz.prog 47) (.sl r ex)=some (.int .i64 r.length):=jU.len r ex
@[go_sem] theorem zFc (i o l:Nat) (ex:Bool):yO (tyi Tryz.prog 47) (.msl i o l ex)=some (.int .i64 l):=jU.lenm i o l ex
@[go_sem] theorem zEk (id n:Nat) (is:List Nat) (rows:List (List PV)):zJ Tryz.prog 47 id n is rows=if is=List.range n∧zq 1 rows=true∧(rows.all fun r=>r.all PV.cell)=true∧n*1≤16777216 then some {v:=.msl id 0 n true,new:=some (rows,some (some 1))} else none:=jU.buildSlice (by decide) id n is rows
theorem SlT.app2 {t el:TypeId} {bytes:Nat} (h:SlT t el 1 bytes) (hb:bytes≤8) (k:IntKind) {R0:List (List PV)} (hR0:zd R0=[]) (g0:Option (Option Nat)) (f0:Bool) (L:List Int) (x:Int) (g:Option Nat) (hg:g=none∨g=some 1) (hl:L.length≤10000000) (ex:Bool):zV Tryz.prog 0 t t [.arr R0 g0 f0,.arr (zB k L) (some g) false,.arr [[.int k x]] (some (some 1)) false] (.msl 1 0 L.length false) (.msl 2 0 1 ex) =
  some {v:=.msl 1 0 (L.length+1) false,S:=[.arr R0 g0 f0,.arr (zB k (L++[x])) (some (some 1)) false,.arr [[.int k x]] (some (some 1)) false],kill:=[1]} := by
 have hm:(L.length+1)*bytes≤(L.length+1)*8:=PA _ hb;have:=h.app (b:=0) (S:=[.arr R0 g0 f0,.arr (zB k L) (some g) false,.arr [[.int k x]] (some (some 1)) false]) (id:=1) (rows:=zB k L) (new:=zB k [x]) (g:=g) (p:=.msl 2 0 1 ex) rfl (by decide) hg (RowsV.msl 2 (zB k [x]) ex _ _ rfl) (ya _ _) (ya _ _) (by rw[zI,zI];simp only[sZ];omega) (by rw[zI,zI];simp;omega) (by rw[zY];simp) (by rw[zY];simp);rw[zI]at this;rw[this];simp only[pF,aA,yF,xG,zY,hR0,List.any_nil,bH,if_false,pV,List.set_cons_succ,uz,yP,vp,uv,qf,jM,pC,zI];rfl
def kW:List Int→List Int
 | []=>[]
 | [a]=>[a]
 | a::b::r=>(a+b*65536)::kW r
theorem JR (n:Nat):kW (yX 65536 n)=words n:=by
 induction n using Nat.strongRecOn with
 | ind n ih =>
  by_cases h:n=0
  ·subst h;unfold words;rw[yH,yH];rfl
  ·have e1:=xW (b:=65536) (by decide) h;have e2:words n=((n % WB:Nat):Int)::yX WB (n / WB):=xW WB2 h;rw[e1,e2];by_cases h2:n / 65536=0
   ·have e3:n / WB=0:=aI (by show n<4294967296;omega);have e4:n % 65536=n % WB:=by show n % 65536=n % 4294967296;omega
    rw[h2,e3,yH,yH,e4];rfl
   ·rw[xW (b:=65536) (by decide) h2];have e5:n / 65536 / 65536=n / WB:=by show _=n / 4294967296;omega
    have e6:((n % 65536:Nat):Int)+((n / 65536 % 65536:Nat):Int)*65536=((n % WB:Nat):Int):=by
     show _=((n % 4294967296:Nat):Int);omega
    show (_+_)::kW (yX 65536 (n / 65536 / 65536))=_
    rw[e5,ih (n / WB) (BZ (by omega) (by decide)),e6];rfl
section
attribute [local irreducible] Vs.callL Vs.callRL tyi zQ yE zm zV zk zb zK zf zF zT zl zi zJ zL zj yB yO yD zN zh Vs.gc zH
noncomputable def qq:FX:=⟨Tryz.f88,zD.of 88,[]⟩
instance ok88_:qq.ok 88:=FX.mk'
theorem Uo (fs:List Fr) : ∀(f n:Nat),n≤f→(dec n).length≤1000000→∀(e:Bool) (D:List Int) (g:Option Nat),(g=none∨g=some 1)→zU n (yJ n e)→D.length+(yX 65536 n).length≤5000000 →
  ∃g',(g'=none∨g'=some 1)∧∀z:PV × zA,zZ 0 qq 0 fs [(0,.undef),(3,.msl 0 0 (D++yX 65536 n).length false),(11,.undef)] [.arr (zB .i64 (D++yX 65536 n)) (some g') false]=some z →
   zS 0 qq 0 56 1 fs [(0,yJ n e),(3,.msl 0 0 D.length false)] [.arr (zB .i64 D) (some g) false]=some z:=by
 have base : ∀(e:Bool) (D:List Int) (g:Option Nat),(g=none∨g=some 1) →
   ∃g',(g'=none∨g'=some 1)∧∀z:PV × zA,zZ 0 qq 0 fs [(0,.undef),(3,.msl 0 0 (D++yX 65536 0).length false),(11,.undef)] [.arr (zB .i64 (D++yX 65536 0)) (some g') false]=some z →
   zS 0 qq 0 56 1 fs [(0,yJ 0 e),(3,.msl 0 0 D.length false)] [.arr (zB .i64 D) (some g) false]=some z:=by
  intro e D g hg;refine⟨g,hg,fun z hz=>?_⟩;rw[yH,pD]at hz;have l0:(dec 0).length=0:=xz.2 rfl;unfold yJ;apply zC;(repeat((conv=>lhs;whnf);simp only[go_sem,simprocAttr,l0]));exact hz
 intro f
 induction f with
 | zero =>
  intro n hn _ e D g hg _ _;have h0:n=0:=by omega
  subst h0;exact base e D g hg
 | succ f ih =>
  intro n hn hd e D g hg hi hl;by_cases h0:n=0
  ·subst h0;exact base e D g hg
  ·have hp:n / 65536<n:=BZ (by omega) (by decide);have ed:yX 65536 n=((n % 65536:Nat):Int)::yX 65536 (n / 65536):=xW (by decide) h0;rw[ed]at hl ⊢;simp only[bP]at hl;obtain⟨g',hg',k⟩:=ih (n / 65536) (by omega) (bF (wO (aF _ _)) hd) false (D++[((n % 65536:Nat):Int)]) (some 1) (.inr rfl) (.of _) (by simp;omega);refine⟨g',hg',fun z hz=>?_⟩;have key:=k z (by simpa using hz);rw[bO,sZ]at key;have sp:=WR hi 65536 (by decide) hd;have l1:(dec n).length≠0:=fun e=>h0 (xz.1 e);have l2:(0:Int)<(dec n).length:=by omega
   have l3:0<(dec n).length:=by omega
   have ap:=jU.app1 D ((n % 65536:Nat):Int) g hg (by omega) true;have k5:((65536:Nat):Int)=65536:=rfl;rw[k5]at sp;unfold zg yJ at *;apply zC;(repeat((conv=>lhs;whnf);simp only[go_sem,simprocAttr,l2,l3,sp,ap,zY]));exact key
theorem Up (H:List Int) (hH:OkD 65536 H) (hl:H.length≤5000000) (g0:Option (Option Nat)) (fs:List Fr) : ∀(m i:Nat),H.length≤i+m→∀(D:List Int) (g:Option Nat),(g=none∨g=some 1)→D.length≤i →
  ∃g',(g'=none∨g'=some 1)∧∀z:PV × zA,zZ 0 qq 2 fs [(3,.undef),(6,.msl 1 0 (D++kW (H.drop i)).length false),(7,.undef),(25,.undef)] [.arr (zB .i64 H) g0 false,.arr (zB .u32 (D++kW (H.drop i))) (some g') false]=some z →
   zS 0 qq 2 500 2 fs [(3,.msl 0 0 H.length false),(6,.msl 1 0 D.length false),(7,.int .i64 i)] [.arr (zB .i64 H) g0 false,.arr (zB .u32 D) (some g) false]=some z:=by
 have hM:=zs;have done : ∀(i:Nat),H.length≤i→∀(D:List Int) (g:Option Nat),(g=none∨g=some 1) →
   ∃g',(g'=none∨g'=some 1)∧∀z:PV × zA,zZ 0 qq 2 fs [(3,.undef),(6,.msl 1 0 (D++kW (H.drop i)).length false),(7,.undef),(25,.undef)] [.arr (zB .i64 H) g0 false,.arr (zB .u32 (D++kW (H.drop i))) (some g') false]=some z →
   zS 0 qq 2 500 2 fs [(3,.msl 0 0 H.length false),(6,.msl 1 0 D.length false),(7,.int .i64 i)] [.arr (zB .i64 H) g0 false,.arr (zB .u32 D) (some g) false]=some z:=by
  intro i hi D g hg;refine⟨g,hg,fun z hz=>?_⟩;rw[pA hi]at hz;simp only[kW,pD]at hz;have h1 : ¬(i:Int)<(H.length:Int):=by omega
  apply zC;(repeat((conv=>lhs;whnf);simp only[go_sem,simprocAttr,h1]));exact hz
 intro m
 induction m with
 | zero =>
  intro i hi D g hg _;exact done i (by omega) D g hg
 | succ m ih =>
  intro i hi D g hg hD;by_cases h0:H.length≤i
  ·exact done i h0 D g hg
  ·have h1:(i:Int)<(H.length:Int):=by omega
   have w0:IntKind.i64.wrap ((i:Int)+1)=((i+1:Nat):Int):=by rw[bA];omega
   have w2:IntKind.i64.wrap ((i:Int)+2)=((i+2:Nat):Int):=by rw[bA];omega
   have xm:=jU.idxmk .i64 (S:=[.arr (zB .i64 H) g0 false,.arr (zB .u32 D) (some g) false]) (id:=0) (off:=0) (n:=H.length) (ex:=false) (L:=H) i rfl (by omega) (by omega);have gk:=zy .i64 H (i:=i) (by omega);have len:i<H.length:=by omega
   have ha:=hH.getD (by decide) i;have ha':H.getD i 0<65536:=ha.2;have c1:IntKind.u32.wrap (H.getD i 0)=H.getD i 0:=by rw[bU];omega
   have ed:=yA H (k:=i) (by omega);by_cases h2:i+1<H.length
   ·have h3:((i+1:Nat):Int)<(H.length:Int):=by omega
    have ed2:=yA H (k:=i+1) h2;have ep:kW (H.drop i)=(H.getD i 0+H.getD (i+1) 0*65536)::kW (H.drop (i+2)):=by rw[ed,ed2];rfl
    rw[ep];obtain⟨g',hg',k⟩:=ih (i+2) (by omega) (D++[H.getD i 0+H.getD (i+1) 0*65536]) (some 1) (.inr rfl) (by simp;omega);refine⟨g',hg',fun z hz=>?_⟩;have key:=k z (by simpa using hz);rw[bO,sZ]at key;have xm2:=jU.idxmk .i64 (S:=[.arr (zB .i64 H) g0 false,.arr (zB .u32 D) (some g) false]) (id:=0) (off:=0) (n:=H.length) (ex:=false) (L:=H) (i+1) rfl (by omega) h2;have gk2:=zy .i64 H (i:=i+1) h2;have hb:=hH.getD (by decide) (i+1);have hb':H.getD (i+1) 0<65536:=hb.2;have c2:IntKind.u32.wrap (H.getD (i+1) 0)=H.getD (i+1) 0:=by rw[bU];omega
    have c3:IntKind.u32.wrap (H.getD (i+1) 0*65536)=H.getD (i+1) 0*65536:=by rw[bU];omega
    have c4:IntKind.u32.wrap (H.getD i 0+H.getD (i+1) 0*65536)=H.getD i 0+H.getD (i+1) 0*65536:=by rw[bU];omega
    have ap:=yb.app2 (by decide) .u32 (zY .i64 H) g0 false D (H.getD i 0+H.getD (i+1) 0*65536) g hg (by omega) true;rw[bW]at xm xm2;apply zC;(repeat((conv=>lhs;whnf);simp only[go_sem,simprocAttr,h1,w0,w2,xm,gk,len,c1,h3,h2,xm2,gk2,c2,c3,c4,ap,zY,zI]));exact key
   ·have h3 : ¬((i+1:Nat):Int)<(H.length:Int):=by omega
    have ep:kW (H.drop i)=H.getD i 0::kW (H.drop (i+2)):=by
     rw[ed,pA (by omega),pA (by omega)];rfl
    rw[ep];obtain⟨g',hg',k⟩:=ih (i+2) (by omega) (D++[H.getD i 0]) (some 1) (.inr rfl) (by simp;omega);refine⟨g',hg',fun z hz=>?_⟩;have key:=k z (by simpa using hz);rw[bO,sZ]at key;have ap:=yb.app2 (by decide) .u32 (zY .i64 H) g0 false D (H.getD i 0) g hg (by omega) true;rw[bW]at xm;apply zC;(repeat((conv=>lhs;whnf);simp only[go_sem,simprocAttr,h1,w0,w2,xm,gk,len,c1,h3,h2,ap,zY,zI]));exact key
theorem JS {n k:Nat} (h:(dec n).length≤k):(yX 65536 n).length≤k:=by
 refine (yI (by decide) k n).2 ?_;exact aV ((yI DB2 k n).1 h) (Nat.pow_le_pow_left (by decide) k)
theorem JT {n:Nat} {v:PV} (h:zU n v) (hn:(dec n).length≤1000000):callL Tryz.prog zD 88 [v]=some (zc n):=by
 obtain⟨e,rfl,hp⟩:=h.form;have hl:=JS hn;obtain⟨g1,hg1,k1⟩:=Uo [.blk 0,.seq 0 15] n n (bB _) hn e [] none (.inl rfl) h (by simp;omega);obtain⟨g2,hg2,k2⟩:=Up (yX 65536 n) (Zz (by decide) n) (by omega) (some g1) [.blk 2,.seq 0 63] (yX 65536 n).length 0 (by omega) [] none (.inl rfl) (by simp);rw[pH,JR,pC]at k2;rw[pC]at k1;refine FX.callL (r:=(.msl 1 0 (words n).length false,[.arr (zB .i64 (yX 65536 n)) (some g1) false,.arr (zB .u32 (words n)) (some g2) false])) ok88_ 1000 rfl rfl ?_ (vL rfl rfl);have key:=k1 (.msl 1 0 (words n).length false,[.arr (zB .i64 (yX 65536 n)) (some g1) false,.arr (zB .u32 (words n)) (some g2) false]) (by
  have q:=k2 (.msl 1 0 (words n).length false,[.arr (zB .i64 (yX 65536 n)) (some g1) false,.arr (zB .u32 (words n)) (some g2) false]) (by
   apply zR;((repeat((conv=>lhs;whnf);simp only[go_sem,simprocAttr]));try rfl))
  apply zR;(repeat((conv=>lhs;whnf);simp only[go_sem,simprocAttr]));exact q)
 unfold yJ at *;(repeat((conv=>lhs;whnf);simp only[go_sem,simprocAttr]));exact key
end
end
section
def Can (L:List Int):Prop:=xC L=L
theorem Can.nil:Can []:=rfl
theorem Can.tail {x:Int} {r:List Int} (h:Can (x::r)):Can r∧(r=[]→x≠0):=by
 unfold Can at h;rw[xC]at h
 split at h
 ·cases h
 ·rename_i hc;have h1:xC r=r:=by simpa using h
  refine⟨h1,fun hr hx=>hc ⟨?_,hx⟩⟩;rw[h1,hr]
theorem Can.cons {x:Int} {r:List Int} (h:Can r) (hx:r=[]→x≠0):Can (x::r):=by
 unfold Can at *;rw[xC,h,hI];exact fun hh=>hx hh.1 hh.2
theorem Q3 (n:Nat):Can (dec n):=WD DB2 n
theorem XB {b:Int} {L M:List Int} {c:Int} (h:wj b L M c=[]):L=[]∧M=[]∧c=0:=by
 unfold wj at h
 split at h
 ·split at h
  ·rename_i hc;exact⟨rfl,rfl,hc⟩
  ·cases h
 all_goals cases h
theorem qr {b:Nat} (hb:2≤b) : ∀(L M:List Int) (c:Int),OkD b L→OkD b M→Can L→Can M→(c=0∨c=1)→Can (wj b L M c)∧OkD b (wj b L M c)
 | [],[],c,_,_,_,_,hc=>by
  unfold wj
  split
  ·exact⟨.nil,.nil _⟩
  ·rename_i h;exact⟨.cons .nil fun _=>h,.cons ⟨by omega,by omega⟩ (.nil _)⟩
 | x::r,[],c,hL,hM,cL,cM,hc=>by
  have hx:=hL.head;have ct:=cL.tail;have hq:(c+x) / b=0∨(c+x) / b=1:=by
   have h1:0≤(c+x) / (b:Int):=pX (by omega) (by omega);have h2:(c+x) / (b:Int)<2:=Int.ediv_lt_of_lt_mul (by omega) (by omega);omega
  have ih:=qr hb r [] ((c+x) / b) hL.tail hM ct.1 cM hq;rw[wj];refine⟨ih.1.cons fun h=>?_,.cons ⟨aE _ (by omega),sF _ (by omega)⟩ ih.2⟩;obtain⟨hr,_,h0⟩:=XB h;have hx0:=ct.2 hr;have hlt:c+x<b:=by
   have:=sN (c+x) b;rw[h0,aD,HU]at this;have:=sF (c+x) (b:=b) (by omega);omega
  rw[PF (by omega) hlt];omega
 | [],y::s,c,hL,hM,cL,cM,hc=>by
  have hx:=hM.head;have ct:=cM.tail;have hq:(c+y) / b=0∨(c+y) / b=1:=by
   have h1:0≤(c+y) / (b:Int):=pX (by omega) (by omega);have h2:(c+y) / (b:Int)<2:=Int.ediv_lt_of_lt_mul (by omega) (by omega);omega
  have ih:=qr hb [] s ((c+y) / b) hL hM.tail cL ct.1 hq;rw[wj];refine⟨ih.1.cons fun h=>?_,.cons ⟨aE _ (by omega),sF _ (by omega)⟩ ih.2⟩;obtain⟨_,hr,h0⟩:=XB h;have hx0:=ct.2 hr;have hlt:c+y<b:=by
   have:=sN (c+y) b;rw[h0,aD,HU]at this;have:=sF (c+y) (b:=b) (by omega);omega
  rw[PF (by omega) hlt];omega
 | x::r,y::s,c,hL,hM,cL,cM,hc=>by
  have hx:=hL.head;have hy:=hM.head;have ctL:=cL.tail;have ctM:=cM.tail;have hq:(c+x+y) / b=0∨(c+x+y) / b=1:=by
   have h1:0≤(c+x+y) / (b:Int):=pX (by omega) (by omega);have h2:(c+x+y) / (b:Int)<2:=Int.ediv_lt_of_lt_mul (by omega) (by omega);omega
  have ih:=qr hb r s ((c+x+y) / b) hL.tail hM.tail ctL.1 ctM.1 hq;rw[wj];refine⟨ih.1.cons fun h=>?_,.cons ⟨aE _ (by omega),sF _ (by omega)⟩ ih.2⟩;obtain⟨hr,hs,h0⟩:=XB h;have hx0:=ctL.2 hr;have hlt:c+x+y<b:=by
   have:=sN (c+x+y) b;rw[h0,aD,HU]at this;have:=sF (c+x+y) (b:=b) (by omega);omega
  rw[PF (by omega) hlt];omega
theorem zBl (m n:Nat):wj DB (dec m) (dec n) 0=dec (m+n):=by
 have h:=qr DB2 (dec m) (dec n) 0 (xJ m) (xJ n) (Q3 m) (Q3 n) (.inl rfl);have h1:xC (wj DB (dec m) (dec n) 0)=wj DB (dec m) (dec n) 0:=h.1;rw[←h1,we DB2 h.2,qo,xL,xL];unfold dec
 congr 1
section
attribute [local irreducible] Vs.callL Vs.callRL tyi zQ yE zm zV zk zb zK zf zF zT zl zi zJ zL zj yB yO yD zN zh Vs.gc zH
noncomputable def Uq:FX:=⟨Tryz.f74,zD.of 74,[]⟩
instance ok74_:Uq.ok 74:=FX.mk'
theorem JU (A B:List Int) (e1 e2:Bool) (hA:OkD DB A) (hB:OkD DB B) (hl:A.length≤1000000) (hl2:B.length≤1000000) (fs:List Fr) : ∀(m i:Nat) (D:List Int) (c:Int) (g:Option Nat),(g=none∨g=some 1)→(c=0∨c=1)→D.length=i→(i≤1000000∨(c=0∧i≤1000001))→((A.length<i+m∧B.length<i+m∧0<m)∨(c=0∧A.length≤i∧B.length≤i)) →
  ∃g',(g'=none∨g'=some 1)∧∀z:PV × zA,zZ 0 Uq 0 fs [(0,.undef),(1,.undef),(5,.msl 0 0 (D++wj 10000 (A.drop i) (B.drop i) c).length false),(6,.undef),(7,.undef),(21,.undef)] [.arr (zB .i64 (D++wj 10000 (A.drop i) (B.drop i) c)) (some g') false]=some z →
   zS 0 Uq 0 244 1 fs [(0,.sl (zB .i64 A) e1),(1,.sl (zB .i64 B) e2),(5,.msl 0 0 D.length false),(6,.int .i64 c),(7,.int .i64 i)] [.arr (zB .i64 D) (some g) false]=some z:=by
 have hM:=zs;have done : ∀(i:Nat) (D:List Int) (g:Option Nat),(g=none∨g=some 1)→A.length≤i→B.length≤i →
  ∃g',(g'=none∨g'=some 1)∧∀z:PV × zA,zZ 0 Uq 0 fs [(0,.undef),(1,.undef),(5,.msl 0 0 (D++wj 10000 (A.drop i) (B.drop i) 0).length false),(6,.undef),(7,.undef),(21,.undef)] [.arr (zB .i64 (D++wj 10000 (A.drop i) (B.drop i) 0)) (some g') false]=some z →
   zS 0 Uq 0 244 1 fs [(0,.sl (zB .i64 A) e1),(1,.sl (zB .i64 B) e2),(5,.msl 0 0 D.length false),(6,.int .i64 0),(7,.int .i64 i)] [.arr (zB .i64 D) (some g) false]=some z:=by
  intro i D g hg h1 h2;refine⟨g,hg,fun z hz=>?_⟩;rw[pA h1,pA h2]at hz;simp only[wj,if_true,pD]at hz;have c1 : ¬(i:Int)<(A.length:Int):=by omega
  have c2 : ¬(i:Int)<(B.length:Int):=by omega
  apply zC;(repeat((conv=>lhs;whnf);simp only[go_sem,simprocAttr,c1,c2]));exact hz
 intro m
 induction m with
 | zero =>
  intro i D c g hg hc hD hi hm
  rcases hm with hm | ⟨rfl,h1,h2⟩
  ·omega
  ·exact done i D g hg h1 h2
 | succ m ih =>
  intro i D c g hg hc hD hi hm;by_cases hx:c=0∧A.length≤i∧B.length≤i
  ·obtain⟨rfl,h1,h2⟩:=hx;exact done i D g hg h1 h2
  have hm:=hm.resolve_right hx;have w1:IntKind.i64.wrap ((i:Int)+1)=((i+1:Nat):Int):=by rw[bA];omega
  have step : ∀(x:Int),0≤x→x<20000→IntKind.i64.wrap (x.tdiv 10000)=x / 10000∧x.tmod 10000=x % 10000∧IntKind.i64.wrap x=x∧(x / 10000=0∨x / 10000=1):=by
   intro x h0 h1;refine⟨by rw[sG h0,bA];omega,sO h0,by rw[bA];omega,by omega⟩
  have ap:=fun x:Int=>yv.app1 D x g hg (by omega) true;by_cases h1:i<A.length
  ·have c1:(i:Int)<(A.length:Int):=by omega
   have x1:0≤(i:Int)∧(i:Int)<(A.length:Int):=⟨by omega,c1⟩;have ha:=hA.getD (by decide) i;have ha':A.getD i 0<10000:=ha.2;have ea:=yA A h1;obtain⟨s1,s2,s3,s4⟩:=step (c+A.getD i 0) (by omega) (by omega);by_cases h2:i<B.length
   ·have c2:(i:Int)<(B.length:Int):=by omega
    have x2:0≤(i:Int)∧(i:Int)<(B.length:Int):=⟨by omega,c2⟩;have hb:=hB.getD (by decide) i;have hb':B.getD i 0<10000:=hb.2;have eb:=yA B h2;obtain⟨t1,t2,t3,t4⟩:=step (c+A.getD i 0+B.getD i 0) (by omega) (by omega);obtain⟨g',hg',k⟩:=ih (i+1) (D++[(c+A.getD i 0+B.getD i 0) % 10000]) ((c+A.getD i 0+B.getD i 0) / 10000) (some 1) (.inr rfl) t4 (by simp[hD]) (by omega) (.inl ⟨by omega,by omega,by omega⟩);refine⟨g',hg',fun z hz=>?_⟩;rw[ea,eb,wj]at hz;have key:=k z (by simpa using hz);rw[bO,sZ]at key;apply zC;(repeat((conv=>lhs;whnf);simp only[go_sem,simprocAttr,c1,c2,x1,x2,bD,s3,t1,t2,t3,ap,w1,zY]));exact key
   ·have c2 : ¬(i:Int)<(B.length:Int):=by omega
    obtain⟨g',hg',k⟩:=ih (i+1) (D++[(c+A.getD i 0) % 10000]) ((c+A.getD i 0) / 10000) (some 1) (.inr rfl) s4 (by simp[hD]) (by omega) (.inl ⟨by omega,by omega,by omega⟩);refine⟨g',hg',fun z hz=>?_⟩;have eb:B.drop i=[]:=pA (by omega);have eb2:B.drop (i+1)=[]:=pA (by omega);rw[ea,eb,wj]at hz;rw[eb2]at k;have key:=k z (by simpa using hz);rw[bO,sZ]at key;apply zC;(repeat((conv=>lhs;whnf);simp only[go_sem,simprocAttr,c1,c2,x1,bD,s1,s2,s3,ap,w1,zY]));exact key
  ·have c1 : ¬(i:Int)<(A.length:Int):=by omega
   have ea:A.drop i=[]:=pA (by omega);have ea2:A.drop (i+1)=[]:=pA (by omega);by_cases h2:i<B.length
   ·have c2:(i:Int)<(B.length:Int):=by omega
    have x2:0≤(i:Int)∧(i:Int)<(B.length:Int):=⟨by omega,c2⟩;have hb:=hB.getD (by decide) i;have hb':B.getD i 0<10000:=hb.2;have eb:=yA B h2;obtain⟨t1,t2,t3,t4⟩:=step (c+B.getD i 0) (by omega) (by omega);obtain⟨g',hg',k⟩:=ih (i+1) (D++[(c+B.getD i 0) % 10000]) ((c+B.getD i 0) / 10000) (some 1) (.inr rfl) t4 (by simp[hD]) (by omega) (.inl ⟨by omega,by omega,by omega⟩);refine⟨g',hg',fun z hz=>?_⟩;rw[ea,eb,wj]at hz;rw[ea2]at k;have key:=k z (by simpa using hz);rw[bO,sZ]at key;apply zC;(repeat((conv=>lhs;whnf);simp only[go_sem,simprocAttr,c1,c2,x2,bD,t1,t2,t3,ap,w1,zY]));exact key
   ·have c2 : ¬(i:Int)<(B.length:Int):=by omega
    rcases hc with rfl | rfl
    ·exact done i D g hg (by omega) (by omega)
    ·obtain⟨g',hg',k⟩:=ih (i+1) (D++[1]) 0 (some 1) (.inr rfl) (.inl rfl) (by simp[hD]) (.inr ⟨rfl,by omega⟩) (.inr ⟨rfl,by omega,by omega⟩);refine⟨g',hg',fun z hz=>?_⟩;have eb:B.drop i=[]:=pA (by omega);have eb2:B.drop (i+1)=[]:=pA (by omega);rw[ea,eb]at hz;rw[ea2,eb2]at k;have key:=k z (by simpa [wj] using hz);rw[bO,sZ]at key;have s1:(1:Int).tmod 10000=1:=by decide
     have s2:IntKind.i64.wrap ((1:Int).tdiv 10000)=0:=by decide
     have ap1:=ap 1;apply zC;(repeat((conv=>lhs;whnf);simp only[go_sem,simprocAttr,c1,c2,s1,s2,ap1,w1,zY]));exact key
theorem JV (m n:Nat) (e1 e2:Bool) (hm:(dec m).length≤1000000) (hn:(dec n).length≤1000000):callL Tryz.prog zD 74 [yJ m e1,yJ n e2]=some (zg (m+n)):=by
 obtain⟨g',hg',k⟩:=JU (dec m) (dec n) e1 e2 (xJ m) (xJ n) hm hn [.blk 0,.seq 0 31] (1000001) 0 [] 0 none (.inl rfl) (.inl rfl) rfl (by omega) (.inl ⟨by omega,by omega,by omega⟩);rw[pH,pH,pC]at k;have e:=zBl m n;have e0:((DB:Nat):Int)=10000:=rfl;rw[e0]at e;rw[e]at k;refine FX.callL (r:=(.msl 0 0 (dec (m+n)).length false,[.arr (zB .i64 (dec (m+n))) (some g') false])) ok74_ 1000 rfl rfl ?_ (vL rfl rfl);have key:=k (.msl 0 0 (dec (m+n)).length false,[.arr (zB .i64 (dec (m+n))) (some g') false]) (by
  apply zR;((repeat((conv=>lhs;whnf);simp only[go_sem,simprocAttr]));try rfl))
 unfold yJ;(repeat((conv=>lhs;whnf);simp only[go_sem,simprocAttr]));exact key
theorem zDR {m n:Nat} {a b:PV} (ha:zU m a) (hb:zU n b) (hm:(dec m).length≤1000000) (hn:(dec n).length≤1000000) (S:zA):zQ (callL Tryz.prog zD) S 74 [a,b]=some {v:=zg (m+n)} := by
 obtain⟨e1,rfl,h1⟩:=ha.form;obtain⟨e2,rfl,h2⟩:=hb.form;exact zE (S:=S) (JV m n e1 e2 hm hn) (by simp[h1,h2])
end
end
section
def ky:List Int→List Int→Int→List Int
 | [],_,_=>[]
 | x::a,b,c=>(x-c-b.headD 0) % 10000::ky a b.tail (if x-c-b.headD 0<0 then 1 else 0)
def qs:List Int→List Int→Int→Int
 | [],_,c=>c
 | x::a,b,c=>qs a b.tail (if x-c-b.headD 0<0 then 1 else 0)
theorem zAR {b:Nat} (hb:0<b) {l:List Int} (h:OkD b l):0≤l.headD 0∧l.headD 0<b:=by
 cases l with
 | nil=>exact⟨aJ 0,by simp;omega⟩
 | cons x l=>exact h.head
theorem zBm {b:Nat} {l:List Int} (h:OkD b l):OkD b l.tail:=by
 cases l with
 | nil=>exact h
 | cons x l=>exact h.tail
theorem zBn (b:Nat) (l:List Int):zG b l=l.headD 0+b*zG b l.tail:=by
 cases l with
 | nil=>simp[zG]
 | cons x l=>rfl
theorem Ur : ∀(a b:List Int) (c:Int),OkD DB a→OkD DB b→b.length≤a.length→(c=0∨c=1)→OkD DB (ky a b c)∧(ky a b c).length=a.length∧(qs a b c=0∨qs a b c=1)∧zG DB (ky a b c)=zG DB a-zG DB b-c+(10000:Int)^a.length*qs a b c
 | [],b,c,ha,hb,hl,hc=>by
  have:b=[]:=bT (by simpa using hl);subst this;refine⟨.nil _,rfl,hc,?_⟩;simp[ky,qs,zG];omega
 | x::a,b,c,ha,hb,hl,hc=>by
  have hx:=ha.head;have hx':x<10000:=hx.2;have hh:=zAR (by decide) hb;have hh':b.headD 0<10000:=hh.2;have hbt:b.tail.length≤a.length:=by simp only[bP]at hl;rw[PO];omega
  obtain⟨i1,i2,i3,i4⟩:=Ur a b.tail (if x-c-b.headD 0<0 then 1 else 0) ha.tail (zBm hb) hbt (by split <;> simp);refine⟨.cons ⟨by omega,by show _<((10000:Nat):Int);omega⟩ i1,by simp only[ky,bP,i2],i3,?_⟩;have e1:zG DB (x::a)=x+10000*zG DB a:=rfl;have e2:zG DB b=b.headD 0+10000*zG DB b.tail:=zBn DB b;have e3:zG DB (ky (x::a) b c)=(x-c-b.headD 0) % 10000+10000*zG DB (ky a b.tail (if x-c-b.headD 0<0 then 1 else 0)):=rfl;have e4:qs (x::a) b c=qs a b.tail (if x-c-b.headD 0<0 then 1 else 0):=rfl;rw[e3,i4,e4,e1,e2,bP,pO];generalize qs a b.tail (if x-c-b.headD 0<0 then 1 else 0)=s at *;generalize hp:(10000:Int)^a.length=P at *;rw[bM P 10000,bN];generalize P*s=Q
  split <;> omega
section
attribute [local irreducible] Vs.callL Vs.callRL tyi zQ yE zm zV zk zb zK zf zF zT zl zi zJ zL zj yB yO yD zN zh Vs.gc zH
noncomputable def zEl:FX:=⟨Tryz.f113,zD.of 113,[]⟩
instance ok113_:zEl.ok 113:=FX.mk'
theorem JW (A:List Int) (e:Bool) (hA:A≠[]) (hl:A.length≤3000000):callRL Tryz.prog zD 113 [.sl (zB .i64 A) e] []=some (.msl 1 0 A.length false,[.arr [] (some (some 1)) false,.arr (zB .i64 A) (some (some 1)) false]):=by
 have hn:vw .eql (tyi Tryz.prog 48) (.const (.slice none 0 0)) (.sl (zB .i64 A) e) (.sl [] true)=some (.bool false):=by
  cases A with
  | nil=>exact absurd rfl hA
  | cons x r =>
   have hd:(tyi Tryz.prog 48).d=.slice 3:=yv.d;simp only[vw,Kx,zAh,hd];rfl
 have ap:zV Tryz.prog 0 48 48 [.arr [] (some (some 1)) false] (.msl 0 0 0 true) (.sl (zB .i64 A) e)=some {v:=.msl 1 0 A.length false,S:=[.arr [] (some (some 1)) false,.arr (zB .i64 A) (some (some 1)) false]} := by
  have hx:exact (.msl 0 0 0 true)=true:=rfl;have hr:rowsIn [.arr [] (some (some 1)) false] (.msl 0 0 0 true)=some []:=rfl;have hy:rowsS [.arr [] (some (some 1)) false] (.sl (zB .i64 A) e)=some (zB .i64 A):=rfl;have h0 : ¬(zB .i64 A).length=0:=by
   rw[zI];exact fun h=>hA (bT h)
  simp only[zV,hx,if_true,Zx,yv.d,Zi,yv.z,and_self,yv.b,yv.s,yn,hr,hy,bC,HR,bW,pC];rw[hZ ⟨rfl,ya _ _,by rw[zI];omega,by rw[zI];omega⟩,hI h0];simp only[bJ,zI];rfl
 refine FX.callRL (r:=(.msl 1 0 A.length false,[.arr [] (some (some 1)) false,.arr (zB .i64 A) (some (some 1)) false])) ok113_ 1000 rfl rfl ?_;((repeat((conv=>lhs;whnf);simp only[go_sem,simprocAttr,hn,ap]));try rfl)
noncomputable def zBo:FX:=⟨Tryz.f76,zD.of 76,[]⟩
instance ok76_:zBo.ok 76:=FX.mk'
theorem JX (A B:List Int) (e2:Bool) (hA:OkD DB A) (hB:OkD DB B) (hl:B.length≤A.length) (hm:A.length≤1000000) (fs:List Fr) {z:PV × zA} (hz:zZ 0 zBo 0 fs [(1,.undef),(5,.msl 1 0 A.length false),(6,.undef),(12,.undef),(13,.undef),(14,.undef)] [.arr [] (some (some 1)) false,.arr (zB .i64 (ky A B 0)) (some (some 1)) false]=some z) : ∀(m i:Nat),i+m=A.length→∀(D:List Int) (c:Int),D.length=i→(c=0∨c=1)→D++ky (A.drop i) (B.drop i) c=ky A B 0 →
  zS 0 zBo 0 244 2 fs [(1,.sl (zB .i64 B) e2),(5,.msl 1 0 A.length false),(6,.int .i64 c),(12,.int .i64 A.length),(13,.int .i64 i)] [.arr [] (some (some 1)) false,.arr (zB .i64 (D++A.drop i)) (some (some 1)) false]=some z:=by
 have hM:=zs;intro m
 induction m with
 | zero =>
  intro i hi D c hD hc hs;have h1 : ¬(i:Int)<(A.length:Int):=by omega
  have hd:A.drop i=[]:=pA (by omega);rw[hd]at hs ⊢;simp only[ky]at hs;rw[hs];apply zC;(repeat((conv=>lhs;whnf);simp only[go_sem,simprocAttr,h1]));exact hz
 | succ m ih =>
  intro i hi D c hD hc hs;have h1:(i:Int)<(A.length:Int):=by omega
  have w1:=xF (i:=i) (n:=A.length) (by omega) (by omega);have ha:=hA.getD (by decide) i;have hb:=hB.getD (by decide) i;have ha':A.getD i 0<10000:=ha.2;have hb':B.getD i 0<10000:=hb.2;have hd:=yA A (k:=i) (by omega);have hbh:(B.drop i).headD 0=B.getD i 0:=by
   by_cases hib:i<B.length
   ·rw[yA B hib];rfl
   ·rw[pA (by omega),bE,bY (by omega)];rfl
  have hbt:(B.drop i).tail=B.drop (i+1):=List.tail_drop;rw[hd]at hs ⊢;rw[ky,hbh,hbt]at hs;have key:=ih (i+1) (by omega) (D++[(A.getD i 0-c-B.getD i 0) % 10000]) (if A.getD i 0-c-B.getD i 0<0 then 1 else 0) (by simp[hD]) (by split <;> simp) (by simpa using hs);have get:(D++A.getD i 0::A.drop (i+1)).getD i 0=A.getD i 0:=by
   rw[bE,pG (by omega),hD,sM];rfl
  have set : ∀v:Int,(zB .i64 (D++A.getD i 0::A.drop (i+1))).set i [.int .i64 v]=zB .i64 ((D++[v])++A.drop (i+1)):=fun v=>by
   rw[yR]
   congr 1
   rw[pT,hI (by omega),hD,sM,pV];simp
  have hlen:(D++A.getD i 0::A.drop (i+1)).length=A.length:=by simp;omega
  have xm:=yv.idxmk .i64 (S:=[.arr [] (some (some 1)) false,.arr (zB .i64 (D++A.getD i 0::A.drop (i+1))) (some (some 1)) false]) (id:=1) (off:=0) (n:=A.length) (ex:=false) (L:=D++A.getD i 0::A.drop (i+1)) i rfl (by omega) (by omega);have len:i<(D++A.getD i 0::A.drop (i+1)).length:=by omega
  have gk:=zy .i64 (D++A.getD i 0::A.drop (i+1)) len;rw[get]at gk;have v0:IntKind.i64.wrap (A.getD i 0-c)=A.getD i 0-c:=by rw[bA];omega
  rw[bW]at xm;have fin : ∀d:Int,-20000<d→d<10000→IntKind.i64.wrap d=d∧(d<0→IntKind.i64.wrap (d+10000)=d+10000):=fun d h1 h2=>⟨by rw[bA];omega,fun _=>by rw[bA];omega⟩;apply zC;by_cases hib:i<B.length
  ·have h2:(i:Int)<(B.length:Int):=by omega
   have x2:0≤(i:Int)∧(i:Int)<(B.length:Int):=⟨by omega,h2⟩;obtain⟨f1,f2⟩:=fin (A.getD i 0-c-B.getD i 0) (by omega) (by omega);by_cases hn:A.getD i 0-c-B.getD i 0<0
   ·have f3:=f2 hn;have e1:(A.getD i 0-c-B.getD i 0) % 10000=A.getD i 0-c-B.getD i 0+10000:=by omega
    rw[hZ hn,e1]at key;(repeat((conv=>lhs;whnf);simp only[go_sem,simprocAttr,h1,bD,h2,x2,xm,gk,v0,f1,f3,hn,set,len,w1,zI,zY]));exact key
   ·have e1:(A.getD i 0-c-B.getD i 0) % 10000=A.getD i 0-c-B.getD i 0:=by omega
    rw[hI hn,e1]at key;(repeat((conv=>lhs;whnf);simp only[go_sem,simprocAttr,h1,bD,h2,x2,xm,gk,v0,f1,hn,set,len,w1,zI,zY]));exact key
  ·have h2 : ¬(i:Int)<(B.length:Int):=by omega
   have hb0:B.getD i 0=0:=by rw[bE,bY (by omega)];rfl
   rw[hb0,Int.sub_zero]at key;obtain⟨f1,f2⟩:=fin (A.getD i 0-c) (by omega) (by omega);by_cases hn:A.getD i 0-c<0
   ·have f3:=f2 hn;have e1:(A.getD i 0-c) % 10000=A.getD i 0-c+10000:=by omega
    rw[hZ hn,e1]at key;(repeat((conv=>lhs;whnf);simp only[go_sem,simprocAttr,h1,bD,h2,xm,gk,v0,f1,f3,hn,set,len,w1,zI,zY]));exact key
   ·have e1:(A.getD i 0-c) % 10000=A.getD i 0-c:=by omega
    rw[hI hn,e1]at key;(repeat((conv=>lhs;whnf);simp only[go_sem,simprocAttr,h1,bD,h2,xm,gk,v0,f1,hn,set,len,w1,zI,zY]));exact key
theorem JY (m n:Nat) (e1 e2:Bool) (hm0:m≠0) (hmn:n≤m) (hm:(dec m).length≤1000000):callL Tryz.prog zD 76 [yJ m e1,yJ n e2]=some (zg (m-n)):=by
 have hM:=zs;have hl:(dec n).length≤(dec m).length:=wO hmn;obtain⟨i1,i2,i3,i4⟩:=Ur (dec m) (dec n) 0 (xJ m) (xJ n) hl (.inl rfl);have hb:qs (dec m) (dec n) 0=0:=by
  have h1:=xr i1;rw[i2,i4,xL,xL]at h1
  rcases i3 with h | h
  ·exact h
  ·rw[h]at h1;have:(((10000:Nat):Int))=(10000:Int):=rfl;rw[this]at h1;omega
 have hv:(zG DB (ky (dec m) (dec n) 0)).toNat=m-n:=by
  rw[i4,hb,xL,xL];omega
 have ct:=wy (by rw[i2];omega) i1;rw[hv]at ct;have c1:=ys (S:=[.arr [] (some (some 1)) false,.arr (zB .i64 (ky (dec m) (dec n) 0)) (some (some 1)) false]) (id:=1) (n:=(dec m).length) (ex:=false) ct rfl i2 (by simp);have hne:dec m≠[]:=fun e=>hm0 (xz.1 (by rw[e];rfl));have cl:=Yi (by kernel_rfl) (JW (dec m) e1 hne (by omega)) (by simp);have key:=JX (dec m) (dec n) e2 (xJ m) (xJ n) hl hm [.blk 0,.seq 0 31] (z:=(zg (m-n),[.arr [] (some (some 1)) false,.arr (zB .i64 (ky (dec m) (dec n) 0)) (some (some 1)) true])) (by
  apply zR;((repeat((conv=>lhs;whnf);simp only[go_sem,simprocAttr,c1]));try rfl)) (dec m).length 0 (by omega) [] 0 rfl (.inl rfl) (by simp)
 rw[pH,pC]at key;refine FX.callL (r:=(zg (m-n),[.arr [] (some (some 1)) false,.arr (zB .i64 (ky (dec m) (dec n) 0)) (some (some 1)) true])) ok76_ 1000 rfl rfl ?_ (xA _ _);unfold yJ at *;(repeat((conv=>lhs;whnf);simp only[go_sem,simprocAttr,cl]));exact key
theorem VM {m n:Nat} {a b:PV} (ha:zU m a) (hb:zU n b) (hm0:m≠0) (hmn:n≤m) (hm:(dec m).length≤1000000) (S:zA):zQ (callL Tryz.prog zD) S 76 [a,b]=some {v:=zg (m-n)} := by
 obtain⟨e1,rfl,h1⟩:=ha.form;obtain⟨e2,rfl,h2⟩:=hb.form;exact zE (S:=S) (JY m n e1 e2 hm0 hmn hm) (by simp[h1,h2])
end
end
section
theorem JZ (b x:Int) (y:Int) (r:List Int) (w:Int) (s:List Int) (c:Int):ue b x (y::r) (w::s) c=ue b x r s ((c+(w+x*y)) / b):=rfl
theorem zAS (b x:Int) (y:Int) (r:List Int) (w:Int) (s:List Int) (c:Int):qp b x (y::r) (w::s) c=(c+(w+x*y)) % b::qp b x r s ((c+(w+x*y)) / b):=rfl
section
attribute [local irreducible] Vs.callL Vs.callRL tyi zQ yE zm zV zk zb zK zf zF zT zl zi zJ zL zj yB yO yD zN zh Vs.gc zH
noncomputable def XC:FX:=⟨Tryz.f72,zD.of 72,[]⟩
instance ok72_:XC.ok 72:=FX.mk'
theorem Us (B:List Int) (e2:Bool) (hB:OkD DB B) (hm:B.length≤1000000) (x:Int) (hx:0≤x∧x<10000) (n i:Nat) (hi:i+B.length≤n) (hn:n≤3000000) (x19 x20 x21:PV) (P Z:List Int) (hP:P.length=i) (fs:List Fr) {z:PV × zA} : ∀(m k:Nat),k+m=B.length→∀(D W:List Int) (c:Int),D.length=k→W.length=m→OkD DB W→(0≤c∧c<10000)→n=i+B.length+Z.length →
  zZ 0 XC 2 fs [(1,.sl (zB .i64 B) e2),(5,.msl 0 0 n true),(6,.int .i64 i),(7,.undef),(8,.int .i64 (ue 10000 x (B.drop k) W c)),(19,x19),(20,x20),(21,x21),(26,.undef),(27,.undef),(28,.undef),(29,.undef)] [.arr (zB .i64 (P++(D++qp 10000 x (B.drop k) W c)++Z)) (some (some 1)) false]=some z →
  zS 0 XC 2 119604 1 fs [(1,.sl (zB .i64 B) e2),(5,.msl 0 0 n true),(6,.int .i64 i),(7,.int .i64 x),(8,.int .i64 c),(19,x19),(20,x20),(21,x21),(26,.sl (zB .i64 B) e2),(27,.int .i64 B.length),(28,.int .i64 k)] [.arr (zB .i64 (P++(D++W)++Z)) (some (some 1)) false]=some z:=by
 have hM:=zs;intro m
 induction m with
 | zero =>
  intro k hk D W c hD hW hWo hc hl hz;have h1 : ¬(k:Int)<(B.length:Int):=by omega
  have hd:B.drop k=[]:=pA (by omega);have hw:W=[]:=bT hW;subst hw;rw[hd]at hz;simp only[qp,ue,pD]at hz;apply zC;(repeat((conv=>lhs;whnf);simp only[go_sem,simprocAttr,h1]));exact hz
 | succ m ih =>
  intro k hk D W c hD hW hWo hc hl hz;have h1:(k:Int)<(B.length:Int):=by omega
  have w1:=xF (i:=k) (n:=B.length) (by omega) (by omega);have x1:0≤(k:Int)∧(k:Int)<(B.length:Int):=⟨by omega,h1⟩;obtain⟨w,W',rfl⟩ : ∃w W',W=w::W':=by
   cases W with
   | nil=>simp at hW
   | cons w W'=>exact⟨w,W',rfl⟩
  have hb:=hB.getD (by decide) k;have hb':B.getD k 0<10000:=hb.2;have hw:=hWo.head;have hw':w<10000:=hw.2;have p0:0≤x*B.getD k 0:=pW hx.1 hb.1;have p1:x*B.getD k 0≤99980001:=by
   have a1:x*B.getD k 0≤x*9999:=pI (by omega) hx.1;omega
  have hd:=yA B (k:=k) (by omega);rw[hd]at hz;have key:=ih (k+1) (by omega) (D++[(c+(w+x*B.getD k 0)) % 10000]) W' ((c+(w+x*B.getD k 0)) / 10000) (by simp[hD]) (by simpa using hW) hWo.tail (by omega) hl (by
   rw[JZ,zAS]at hz
   simpa using hz)
  have hlen:(P++(D++w::W')++Z).length=n:=by simp only[bO,bP]at hW ⊢;omega
  have get:(P++(D++w::W')++Z).getD (i+k) 0=w:=by
   have e:P++(D++w::W')++Z=(P++D)++w::(W'++Z):=by simp
   rw[e,bE,pG (by simp;omega)];have:i+k-(P++D).length=0:=by simp;omega
   rw[this];rfl
  have set : ∀v:Int,(zB .i64 (P++(D++w::W')++Z)).set (i+k) [.int .i64 v]=zB .i64 (P++((D++[v])++W')++Z):=fun v=>by
   rw[yR]
   congr 1
   have e:P++(D++w::W')++Z=(P++D)++w::(W'++Z):=by simp
   rw[e,pT,hI (by simp;omega)];have:i+k-(P++D).length=0:=by simp;omega
   rw[this,pV];simp
  have wi:IntKind.i64.wrap ((i:Int)+(k:Int))=((i+k:Nat):Int):=by rw[bA];omega
  have xm:=yv.idxmk .i64 (S:=[.arr (zB .i64 (P++(D++w::W')++Z)) (some (some 1)) false]) (id:=0) (off:=0) (n:=n) (ex:=true) (L:=P++(D++w::W')++Z) (i+k) rfl (by omega) (by omega);rw[bW]at xm;have len:i+k<(P++(D++w::W')++Z).length:=by omega
  have gk:=zy .i64 (P++(D++w::W')++Z) len;rw[get]at gk;have m1:IntKind.i64.wrap (x*B.getD k 0)=x*B.getD k 0:=by rw[bA];omega
  have m2:IntKind.i64.wrap (w+x*B.getD k 0)=w+x*B.getD k 0:=by rw[bA];omega
  have m3:IntKind.i64.wrap (c+(w+x*B.getD k 0))=c+(w+x*B.getD k 0):=by rw[bA];omega
  have m4:(c+(w+x*B.getD k 0)).tmod 10000=(c+(w+x*B.getD k 0)) % 10000:=sO (by omega);have m5:IntKind.i64.wrap ((c+(w+x*B.getD k 0)).tdiv 10000)=(c+(w+x*B.getD k 0)) / 10000:=by
   rw[sG (by omega),bA];omega
  apply zC;(repeat((conv=>lhs;whnf);simp only[go_sem,simprocAttr,h1,x1,bD,wi,xm,gk,len,m1,m2,m3,m4,m5,set,w1,zI,zY]));exact key
theorem Ut (n k:Nat) (hk:k<n) (hn:n≤3000000) (x1 x19 x20 x21:PV) (L:List Int) (hL:L.length=n) (h0:L.getD k 0=0) (c:Int) (hc:0≤c∧c<10000) (fs:List Fr) {z:PV × zA} (hz:zZ 0 XC 4 fs [(1,x1),(5,.msl 0 0 n true),(8,.undef),(11,.undef),(19,x19),(20,x20),(21,x21),(60,.undef)] [.arr (zB .i64 (L.set k c)) (some (some 1)) false]=some z) :
  zS 0 XC 4 119612 1 fs [(1,x1),(5,.msl 0 0 n true),(8,.int .i64 c),(11,.int .i64 k),(19,x19),(20,x20),(21,x21)] [.arr (zB .i64 L) (some (some 1)) false]=some z:=by
 have hM:=zs;by_cases hc0:c=0
 ·subst hc0;have e:L.set k 0=L:=by
   apply List.ext_getElem?;intro j;rw[HP]
   split
   ·rename_i hj;subst hj;rw[hZ (by omega),bI (by omega)];rw[bE,bI (by omega)]at h0
    simpa using h0.symm
   ·rfl
  rw[e]at hz;apply zC;(repeat((conv=>lhs;whnf);simp only[go_sem,simprocAttr]));exact hz
 ·have h1:(0:Int)<c:=by omega
  have xm:=yv.idxmk .i64 (S:=[.arr (zB .i64 L) (some (some 1)) false]) (id:=0) (off:=0) (n:=n) (ex:=true) (L:=L) k rfl (by omega) (by omega);rw[bW]at xm;have len:k<L.length:=by omega
  have gk:=zy .i64 L len;rw[h0]at gk;have w0:IntKind.i64.wrap (c+0)=c:=by rw[bA];omega
  have m4:c.tmod 10000=c:=by rw[sO (by omega)];omega
  have m5:IntKind.i64.wrap (c.tdiv 10000)=0:=by rw[sG (by omega),bA];omega
  have w1:IntKind.i64.wrap ((k:Int)+1)=((k+1:Nat):Int):=by rw[bA];omega
  apply zC;(repeat((conv=>lhs;whnf);simp only[go_sem,simprocAttr,h1,xm,len,gk,w0,m4,m5,w1,yR,zI,zY]));apply zC;(repeat((conv=>lhs;whnf);simp only[go_sem,simprocAttr]));exact hz
theorem Uu (A B:List Int) (e1 e2:Bool) (hA:OkD DB A) (hB:OkD DB B) (ha:A.length≤1000000) (hb:B.length≤1000000) (fs:List Fr) : ∀(r i:Nat),i+r=A.length→∀(P W:List Int),P.length=i→W.length=B.length→OkD DB P→OkD DB W→zG DB P+(10000:Int)^i*zG DB W=zG DB (A.take i)*zG DB B →
  ∃O:List Int,OkD DB O∧O.length=A.length+B.length+1∧zG DB O=zG DB A*zG DB B∧∀z:PV × zA,zZ 0 XC 0 fs [(1,.undef),(5,.msl 0 0 (A.length+B.length+1) true),(19,.undef),(20,.undef),(21,.undef),(22,.undef)] [.arr (zB .i64 O) (some (some 1)) false]=some z →
  zS 0 XC 0 116 1 fs [(1,.sl (zB .i64 B) e2),(5,.msl 0 0 (A.length+B.length+1) true),(19,.sl (zB .i64 A) e1),(20,.int .i64 A.length),(21,.int .i64 i)] [.arr (zB .i64 (P++W++List.replicate (r+1) 0)) (some (some 1)) false]=some z:=by
 have hM:=zs;intro r
 induction r with
 | zero =>
  intro i hi P W hP hW hPo hWo hv;refine⟨P++W++[0],(hPo.append hWo).append (.cons ⟨aJ 0,by decide⟩ (.nil _)),by simp[hP,hW];omega,?_,fun z hz=>?_⟩
  ·rw[zX,zX,hP];have:(((DB:Nat):Int))=(10000:Int):=rfl;have e0:zG DB [0]=0:=by simp[zG]
   rw[this,e0,aD,BI,hv,pZ (by omega)]
  ·have h1 : ¬(i:Int)<(A.length:Int):=by omega
   apply zC;simp only[bW,List.replicate_one];(repeat((conv=>lhs;whnf);simp only[go_sem,simprocAttr,h1]));exact hz
 | succ r ih =>
  intro i hi P W hP hW hPo hWo hv;have h1:(i:Int)<(A.length:Int):=by omega
  have w1:=xF (i:=i) (n:=A.length) (by omega) (by omega);have x1:0≤(i:Int)∧(i:Int)<(A.length:Int):=⟨by omega,h1⟩;have hx:=hA.getD (by decide) i;have hx':A.getD i 0<10000:=hx.2;have j1:=Q1 (b:=DB) (by decide) (A.getD i 0) B W 0;have j2:=Ue (DB:Nat) (A.getD i 0) B W 0 hW.symm;have j3:=Uf (b:=DB) (by decide) hx B W 0 hB hWo ⟨by omega,by decide⟩;have j4:=Ud DB (A.getD i 0) B W 0 hW.symm;have e0:(((DB:Nat):Int))=(10000:Int):=rfl;rw[e0]at j1 j2 j3 j4;generalize hc:ue 10000 (A.getD i 0) B W 0=c at *;generalize hD:qp 10000 (A.getD i 0) B W 0=D at *;obtain⟨d,W',hdW⟩ : ∃d W',D++[c]=d::W':=by
   cases D with
   | nil=>exact⟨c,[],rfl⟩
   | cons d D'=>exact⟨d,D'++[c],rfl⟩
  have hDc:OkD DB (D++[c]):=j1.append (.cons j3 (.nil _));rw[hdW]at hDc;have hWl:W'.length=B.length:=by
   have:=congrArg List.length hdW;simp at this;omega
  have hvD:zG DB (d::W')=A.getD i 0*zG DB B+zG DB W:=by
   rw[←hdW,zX,j2,e0];have:zG DB [c]=c:=by simp[zG]
   rw[this,j4];omega
  obtain⟨O,o1,o2,o3,o4⟩:=ih (i+1) (by omega) (P++[d]) W' (by simp[hP]) hWl (hPo.append (.cons hDc.head (.nil _))) hDc.tail (by
   have et:A.take (i+1)=A.take i++[A.getD i 0]:=by
    rw[aK];have:A[i]? = some (A.getD i 0):=by rw[bI (by omega)];simp[bE,show i<A.length by omega]
    rw[this];rfl
   rw[et,zX,zX,hP,e0];have hti:(A.take i).length=i:=by simp;omega
   rw[hti,aQ,←hv];have s1:zG DB [A.getD i 0]=A.getD i 0:=by simp[zG]
   have s2:zG DB [d]=d:=by simp[zG]
   rw[s1,s2,pO];have s3:zG DB (d::W')=d+10000*zG DB W':=rfl;rw[s3]at hvD;have q1:(10000:Int)^i*10000*zG DB W'=(10000:Int)^i*(A.getD i 0*zG DB B+zG DB W-d):=by
    rw[bN];congr 1;omega
   rw[q1,Int.mul_sub,bG,bN];omega)
  refine⟨O,o1,o2,o3,fun z hz=>?_⟩;have key:=o4 z hz;have wi:IntKind.i64.wrap ((i:Int)+(B.length:Int))=((i+B.length:Nat):Int):=by rw[bA];omega
  have hset:(P++D++List.replicate (r+1+1) 0).set (i+B.length) c=(P++[d])++W'++List.replicate (r+1) 0:=by
   have e:P++D++List.replicate (r+1+1) 0=(P++D)++0::List.replicate (r+1) 0:=by simp[sV]
   rw[e,pT,hI (by simp;omega)];have:i+B.length-(P++D).length=0:=by simp;omega
   rw[this,pV];have e2:(P++[d])++W'=P++(D++[c]):=by rw[hdW];simp
   rw[e2];simp
  have hget:(P++D++List.replicate (r+1+1) (0:Int)).getD (i+B.length) 0=0:=by
   have e:P++D++List.replicate (r+1+1) (0:Int)=(P++D)++0::List.replicate (r+1) 0:=by simp[sV]
   rw[e,bE,pG (by simp;omega)];have:i+B.length-(P++D).length=0:=by simp;omega
   rw[this];rfl
  have last:=Ut (A.length+B.length+1) (i+B.length) (by omega) (by omega) (.sl (zB .i64 B) e2) (.sl (zB .i64 A) e1) (.int .i64 A.length) (.int .i64 i) (P++D++List.replicate (r+1+1) 0) (by simp;omega) hget c j3 (.blk 4 :: .blk 1 :: .seq 0 935 :: .lop 0 116 1::fs) (z:=z) (by
   rw[hset];apply zR;(repeat((conv=>lhs;whnf);simp only[go_sem,simprocAttr,w1]));exact key)
  have inner:=Us B e2 hB hb (A.getD i 0) ⟨hx.1,hx'⟩ (A.length+B.length+1) i (by omega) (by omega) (.sl (zB .i64 A) e1) (.int .i64 A.length) (.int .i64 i) P (List.replicate (r+1+1) 0) hP (.blk 2 :: .seq 1 14951 :: .blk 1 :: .seq 0 935 :: .lop 0 116 1::fs) (z:=z) B.length 0 (by omega) [] W 0 rfl hW hWo ⟨by omega,by omega⟩ (by simp;omega) (by
   rw[pH,hc,hD,pC];apply zR;(repeat((conv=>lhs;whnf);simp only[go_sem,simprocAttr,wi]));exact last)
  simp only[pC]at inner;apply zC;(repeat((conv=>lhs;whnf);simp only[go_sem,simprocAttr,h1,x1,bD]));exact inner
theorem XD (b:Nat) : ∀n:Nat,zG b (List.replicate n 0)=0
 | 0=>rfl
 | n+1=>by rw[sV,zG,XD b n];simp
theorem J0 (m n:Nat) (e1 e2:Bool) (hm:(dec m).length≤1000000) (hn:(dec n).length≤1000000):callL Tryz.prog zD 72 [yJ m e1,yJ n e2]=some (zg (m*n)):=by
 have hM:=zs;obtain⟨O,o1,o2,o3,o4⟩:=Uu (dec m) (dec n) e1 e2 (xJ m) (xJ n) hm hn [.blk 0,.seq 0 15] (dec m).length 0 (by omega) [] (List.replicate (dec n).length 0) rfl (by simp) (.nil _) (fun x hx=>by
  rw[HS hx];exact⟨aJ 0,by decide⟩) (by
  rw[XD];simp[zG])
 have hv:(zG DB O).toNat=m*n:=by
  rw[o3,xL,xL,←pL,bD]
 have ct:=wy (by omega) o1;rw[hv]at ct;have c1:=ys (S:=[.arr (zB .i64 O) (some (some 1)) false]) (id:=0) (n:=(dec m).length+(dec n).length+1) (ex:=true) ct rfl o2 (by simp);have mk:=fun id=>Yx id ((dec m).length+(dec n).length+1) (by omega);have w0:IntKind.i64.wrap (((dec m).length:Int)+((dec n).length:Int))=(((dec m).length+(dec n).length:Nat):Int):=by rw[bA];omega
 have w1:IntKind.i64.wrap ((((dec m).length+(dec n).length:Nat):Int)+1)=(((dec m).length+(dec n).length+1:Nat):Int):=by rw[bA];omega
 have key:=o4 (zg (m*n),[.arr (zB .i64 O) (some (some 1)) true]) (by
  apply zR;((repeat((conv=>lhs;whnf);simp only[go_sem,simprocAttr,c1]));try rfl))
 have er:[]++List.replicate (dec n).length 0++List.replicate ((dec m).length+1) (0:Int)=List.replicate ((dec m).length+(dec n).length+1) 0:=by
  rw[pC,PP]
  congr 1;omega
 rw[er]at key;refine FX.callL (r:=(zg (m*n),[.arr (zB .i64 O) (some (some 1)) true])) ok72_ 1000 rfl rfl ?_ (xA _ _);unfold yJ;(repeat((conv=>lhs;whnf);simp only[go_sem,simprocAttr,w0,w1,mk]));exact key
theorem qt {m n:Nat} {a b:PV} (ha:zU m a) (hb:zU n b) (hm:(dec m).length≤1000000) (hn:(dec n).length≤1000000) (S:zA):zQ (callL Tryz.prog zD) S 72 [a,b]=some {v:=zg (m*n)} := by
 obtain⟨e1,rfl,h1⟩:=ha.form;obtain⟨e2,rfl,h2⟩:=hb.form;exact zE (S:=S) (J0 m n e1 e2 hm hn) (by simp[h1,h2])
end
end
section
theorem kF {n:Nat} {v:PV} (h:zU n v) (k:Nat) (hk:k≤65536) (hn:(dec n).length≤1000000) (S:zA):zQ (callL Tryz.prog zD) S 89 [v,.int .i64 k,.int .i64 0]=some {v:=zg (n*k)} := jS h k 0 hk (by omega) hn S
theorem kG {m n j k:Nat} (hm:(dec m).length≤j) (hn:(dec n).length≤k):(dec (m*n)).length≤j+k:=UU DB2 hm hn
theorem WS {n:Nat} (h:n<10000):(dec n).length≤1:=(yI DB2 1 n).2 (by rw[Nat.pow_one];exact h)
theorem zAT {n:Nat} (h:n≠0):0<(dec n).getD ((dec n).length-1) 0:=by
 have h1:=(xJ n).getD (by decide) ((dec n).length-1);have h2:(dec n).getD ((dec n).length-1) 0≠0:=jN DB2 h;omega
section
attribute [local irreducible] Vs.callL Vs.callRL tyi zQ yE zm zV zk zb zK zf zF zT zl zi zJ zL zj yB yO yD zN zh Vs.gc zH
noncomputable def kH:FX:=⟨Tryz.f131,zD.of 131,[]⟩
instance ok131_:kH.ok 131:=FX.mk'
theorem Uv (R B:List Int) (e1 e2:Bool) (hR:OkD DB R) (hl:R.length≤1000000) (hl2:B.length≤1000000) (fs:List Fr) {z:PV × zA} (hz : ∀t:Int,0≤t→t<1000000000000→zZ 0 kH 0 fs [(0,.sl (zB .i64 R) e1),(1,.sl (zB .i64 B) e2),(5,.int .i64 B.length),(6,.int .i64 t),(7,.int .i64 0),(8,.undef),(18,.undef)] []=some z) :
  ∀(m:Nat) (i U t:Int),i=(if (0:Int)<(B.length:Int)-2 then (B.length:Int)-2 else 0)-1+m→i≤1000000→0≤t→t<U→U*10000^m≤1000000000000→zS 0 kH 0 244 0 fs [(0,.sl (zB .i64 R) e1),(1,.sl (zB .i64 B) e2),(5,.int .i64 B.length),(6,.int .i64 t),(7,.int .i64 0),(8,.int .i64 i)] []=some z:=by
 have hM:=zs;have w0:IntKind.i64.wrap ((B.length:Int)-2)=(B.length:Int)-2:=by rw[bA];omega
 intro m
 induction m with
 | zero =>
  intro i U t hi hi2 h0 hU hU2;have c : ¬(if (0:Int)<(B.length:Int)-2 then (B.length:Int)-2 else 0)≤i:=by omega
  have key:=hz t h0 (by rw[Int.pow_zero,Int.mul_one]at hU2;omega);apply zC;(repeat((conv=>lhs;whnf);simp only[go_sem,simprocAttr,w0,c]));exact key
 | succ m ih =>
  intro i U t hi hi2 h0 hU hU2;have c:(if (0:Int)<(B.length:Int)-2 then (B.length:Int)-2 else 0)≤i:=by omega
  have hi0:0≤i:=by
   have:(0:Int)≤(if (0:Int)<(B.length:Int)-2 then (B.length:Int)-2 else 0):=by split <;> omega
   omega
  have w1:IntKind.i64.wrap (i-1)=i-1:=by rw[bA];omega
  have hP:(1:Int)≤10000^m:=by
   have:=aL (m:=m) (show (0:Int)<10000 by omega);omega
  have hU3:U*10000*10000^m≤1000000000000:=by
   rw[pO,bM (10000^m) 10000,←bN]at hU2;exact hU2
  have hU4:U*10000≤1000000000000:=by
   have:U*10000*1≤U*10000*10000^m:=pI hP (by omega);omega
  have w2:IntKind.i64.wrap (t*10000)=t*10000:=by rw[bA];omega
  obtain⟨j,rfl⟩ : ∃j:Nat,i=j:=⟨i.toNat,by omega⟩;apply zC;by_cases hb:j<R.length
  ·have c2:(j:Int)<(R.length:Int):=by omega
   have x2:0≤(j:Int)∧(j:Int)<(R.length:Int):=⟨by omega,c2⟩;have ha:=hR.getD (by decide) j;have ha':R.getD j 0<10000:=ha.2;have w3:IntKind.i64.wrap (t*10000+R.getD j 0)=t*10000+R.getD j 0:=by rw[bA];omega
   have key:=ih ((j:Int)-1) (U*10000) (t*10000+R.getD j 0) (by omega) (by omega) (by omega) (by omega) hU3;(repeat((conv=>lhs;whnf);simp only[go_sem,simprocAttr,w0,c,w1,w2,w3,c2,x2,bD]));exact key
  ·have c2 : ¬(j:Int)<(R.length:Int):=by omega
   have key:=ih ((j:Int)-1) (U*10000) (t*10000) (by omega) (by omega) (by omega) (by omega) hU3;(repeat((conv=>lhs;whnf);simp only[go_sem,simprocAttr,w0,c,w1,w2,c2]));exact key
theorem Uw (R B:List Int) (e1 e2:Bool) (hB:OkD DB B) (hl2:B.length≤1000000) (h1:1≤B.length) (hpos:0<B.getD (B.length-1) 0) (x6:PV) (fs:List Fr) {z:PV × zA} (hz : ∀t:Int,0<t→t<1000000000000→zZ 0 kH 2 fs [(0,.sl (zB .i64 R) e1),(1,.sl (zB .i64 B) e2),(5,.int .i64 B.length),(6,x6),(7,.int .i64 t),(9,.undef),(39,.undef)] []=some z) :
  ∀(m:Nat) (i U t:Int),i=(if (0:Int)<(B.length:Int)-2 then (B.length:Int)-2 else 0)-1+m→i≤(B.length:Int)-1→(i=(B.length:Int)-1∨0<t)→0≤t→t<U→U*10000^m≤1000000000000→zS 0 kH 2 500 0 fs [(0,.sl (zB .i64 R) e1),(1,.sl (zB .i64 B) e2),(5,.int .i64 B.length),(6,x6),(7,.int .i64 t),(9,.int .i64 i)] []=some z:=by
 have hM:=zs;have w0:IntKind.i64.wrap ((B.length:Int)-2)=(B.length:Int)-2:=by rw[bA];omega
 intro m
 induction m with
 | zero =>
  intro i U t hi hi2 hp h0 hU hU2;have c : ¬(if (0:Int)<(B.length:Int)-2 then (B.length:Int)-2 else 0)≤i:=by omega
  have hp':0<t:=by
   rcases hp with hp | hp
   ·exfalso
    revert hi;split <;> intro hi <;> omega
   ·exact hp
  have key:=hz t hp' (by rw[Int.pow_zero,Int.mul_one]at hU2;omega);apply zC;(repeat((conv=>lhs;whnf);simp only[go_sem,simprocAttr,w0,c]));exact key
 | succ m ih =>
  intro i U t hi hi2 hp h0 hU hU2;have c:(if (0:Int)<(B.length:Int)-2 then (B.length:Int)-2 else 0)≤i:=by omega
  have hi0:0≤i:=by
   have:(0:Int)≤(if (0:Int)<(B.length:Int)-2 then (B.length:Int)-2 else 0):=by split <;> omega
   omega
  have w1:IntKind.i64.wrap (i-1)=i-1:=by rw[bA];omega
  have hP:(1:Int)≤10000^m:=by
   have:=aL (m:=m) (show (0:Int)<10000 by omega);omega
  have hU3:U*10000*10000^m≤1000000000000:=by
   rw[pO,bM (10000^m) 10000,←bN]at hU2;exact hU2
  have hU4:U*10000≤1000000000000:=by
   have:U*10000*1≤U*10000*10000^m:=pI hP (by omega);omega
  have w2:IntKind.i64.wrap (t*10000)=t*10000:=by rw[bA];omega
  obtain⟨j,rfl⟩ : ∃j:Nat,i=j:=⟨i.toNat,by omega⟩;have c2:(j:Int)<(B.length:Int):=by omega
  have x2:0≤(j:Int)∧(j:Int)<(B.length:Int):=⟨by omega,c2⟩;have ha:=hB.getD (by decide) j;have ha':B.getD j 0<10000:=ha.2;have w3:IntKind.i64.wrap (t*10000+B.getD j 0)=t*10000+B.getD j 0:=by rw[bA];omega
  have hp2:0<t*10000+B.getD j 0:=by
   rcases hp with hp | hp
   ·have:j=B.length-1:=by omega
    rw[this];omega
   ·omega
  have key:=ih ((j:Int)-1) (U*10000) (t*10000+B.getD j 0) (by omega) (by omega) (.inr hp2) (by omega) (by omega) hU3;apply zC;(repeat((conv=>lhs;whnf);simp only[go_sem,simprocAttr,w0,c,w1,w2,w3,x2,bD]));exact key
theorem Ux (m n:Nat) (e1 e2:Bool) (i1:zU m (yJ m e1)) (i2:zU n (yJ n e2)) (hm:(dec m).length≤900000) (hn:(dec n).length≤900000) (fs:List Fr) {z:PV × zA} (hz : ∀q:Nat,q≤9999→n*q≤m→zZ 0 kH 4 fs [(0,yJ m e1),(1,yJ n e2),(10,.int .i64 q),(63,.undef)] []=some z) :
  ∀(q:Nat),q≤9999→zS 0 kH 4 2040 0 fs [(0,yJ m e1),(1,yJ n e2),(10,.int .i64 q)] []=some z:=by
 intro q
 induction q with
 | zero =>
  intro hq;have key:=hz 0 hq (by simp);have s1:=kF i2 0 (by decide) (by omega);have s2:=jT (zU.of (n*0)) i1 (by rw[Nat.mul_zero];simp[dec,yH]) (by omega);have c : ¬ 0<yU (n*0) m:=by unfold yU;split <;> (try split) <;> omega
  have e0:((0:Nat):Int)=0:=rfl;rw[e0]at s1 key ⊢;apply zC;unfold yJ zg at *;(repeat((conv=>lhs;whnf);simp only[go_sem,simprocAttr,s1,s2,c]));exact key
 | succ q ih =>
  intro hq;have s1:=kF i2 (q+1) (by omega) (by omega);have hd:(dec (n*(q+1))).length≤900001:=kG hn (WS (by omega));have s2:=jT (zU.of (n*(q+1))) i1 (by omega) (by omega);apply zC;by_cases h:n*(q+1)≤m
  ·have key:=hz (q+1) hq h;have c : ¬ 0<yU (n*(q+1)) m:=by unfold yU;split <;> (try split) <;> omega
   unfold yJ zg at *;(repeat((conv=>lhs;whnf);simp only[go_sem,simprocAttr,s1,s2,c]));exact key
  ·have key:=ih (by omega);have c:0<yU (n*(q+1)) m:=by unfold yU;rw[hI (by omega),hZ (by omega)];omega
   have w:IntKind.i64.wrap (((q+1:Nat):Int)-1)=(q:Int):=by rw[bA];omega
   unfold yJ zg at *;(repeat((conv=>lhs;whnf);simp only[go_sem,simprocAttr,s1,s2,c,w]));exact key
theorem Uy (m n:Nat) (e1 e2:Bool) (i1:zU m (yJ m e1)) (i2:zU n (yJ n e2)) (hm:(dec m).length≤900000) (hn:(dec n).length≤900000) (h0:n≠0) (hlt:m<n*10000) (fs:List Fr) {z:PV × zA} (hz:zZ 0 kH 6 fs [(0,.undef),(1,.undef),(10,.int .i64 (m / n:Nat)),(77,.undef)] []=some z) :
  ∀(f q:Nat),9999-q=f→q≤9999→n*q≤m→zS 0 kH 6 4088 0 fs [(0,yJ m e1),(1,yJ n e2),(10,.int .i64 q),(63,.undef)] []=some z:=by
 intro f
 induction f with
 | zero =>
  intro q hf hq hle;have hq9:q=9999:=by omega
  have e:m / n=9999:=by
   rw[hq9]at hle;exact Nat.div_eq_of_lt_le (by rw[aH];exact hle) (by rw[aH];exact hlt)
  rw[e]at hz;subst hq9;have w:IntKind.i64.wrap (((9999:Nat):Int)+1)=10000:=by decide
  apply zC;unfold yJ at *;(repeat((conv=>lhs;whnf);simp only[go_sem,simprocAttr,w]));exact hz
 | succ f ih =>
  intro q hf hq hle;have w:IntKind.i64.wrap ((q:Int)+1)=((q+1:Nat):Int):=by rw[bA];omega
  have c1:((q+1:Nat):Int)<10000:=by omega
  have s1:=kF i2 (q+1) (by omega) (by omega);have hd:(dec (n*(q+1))).length≤900001:=kG hn (WS (by omega));have s2:=jT (zU.of (n*(q+1))) i1 (by omega) (by omega);apply zC;by_cases h:n*(q+1)≤m
  ·have key:=ih (q+1) (by omega) (by omega) h;have c:yU (n*(q+1)) m≤0:=by unfold yU;split <;> (try split) <;> omega
   unfold yJ zg at *;(repeat((conv=>lhs;whnf);simp only[go_sem,simprocAttr,w,c1,s1,s2,c]));exact key
  ·have c : ¬yU (n*(q+1)) m≤0:=by unfold yU;rw[hI (by omega),hZ (by omega)];omega
   have e:m / n=q:=Nat.div_eq_of_lt_le (by rw[aH];exact hle) (by rw[aH];omega);rw[e]at hz;unfold yJ zg at *;(repeat((conv=>lhs;whnf);simp only[go_sem,simprocAttr,w,c1,s1,s2,c]));exact hz
theorem J1 {m n:Nat} {va vb:PV} (ha:zU m va) (hb:zU n vb) (hm:(dec m).length≤900000) (hn:(dec n).length≤900000) (h0:n≠0) (hlt:m<n*10000):callL Tryz.prog zD 131 [va,vb]=some (.int .i64 (m / n:Nat)):=by
 have hM:=zs;obtain⟨e1,rfl,p1⟩:=ha.form;obtain⟨e2,rfl,p2⟩:=hb.form;have hB1:(dec n).length≠0:=fun e=>h0 (xz.1 e);have hpos:=zAT h0;refine FX.callL (r:=(.int .i64 (m / n:Nat),[])) ok131_ 1000 rfl rfl ?_ rfl;have k6:=fun q hq hle=>Uy m n e1 e2 ha hb hm hn h0 hlt [.blk 6,.seq 0 1023] (z:=(.int .i64 (m / n:Nat),[])) (by
  apply zR;((repeat((conv=>lhs;whnf);simp only[go_sem,simprocAttr]));try rfl)) (9999-q) q rfl hq hle
 have k4:=Ux m n e1 e2 ha hb hm hn [.blk 4,.seq 0 511] (z:=(.int .i64 (m / n:Nat),[])) (fun q hq hle=>by
  have key:=k6 q hq hle;unfold yJ at *;apply zR;(repeat((conv=>lhs;whnf);simp only[go_sem,simprocAttr]));exact key)
 have guess : ∀t u:Int,0≤t→t<1000000000000→0<u→u<1000000000000→∃q:Nat,q≤9999∧(if (9999:Int)<IntKind.i64.wrap (t.tdiv u) then (9999:Int) else IntKind.i64.wrap (t.tdiv u))=q:=by
  intro t u h1 h2 h3 h4;have e:IntKind.i64.wrap (t.tdiv u)=t / u:=by
   have a1:0≤t / u:=pX h1 (by omega);have a2:t / u≤t:=BL _ h1;rw[sG h1,bA];omega
  rw[e];have a1:0≤t / u:=pX h1 (by omega);by_cases h:(9999:Int)<t / u
  ·exact⟨9999,by omega,by rw[hZ h];rfl⟩
  ·exact⟨(t / u).toNat,by omega,by rw[hI h];omega⟩
 have k2:=fun (t:Int) (h1:0≤t) (h2:t<1000000000000)=>Uw (dec m) (dec n) e1 e2 (xJ n) (by omega) (by omega) hpos (.int .i64 t) [.blk 2,.seq 0 63] (z:=(.int .i64 (m / n:Nat),[])) (fun u h3 h4=>by
  obtain⟨q,hq,eq⟩:=guess t u h1 h2 h3 h4;have key:=k4 q hq;have u0 : ¬u=0:=by omega
  by_cases hn1:((dec n).length:Int)=1
  ·have x0:0≤(0:Int)∧(0:Int)<((dec n).length:Int):=⟨by omega,by omega⟩;have hl0:(dec n).getD 0 0=(dec n).getD ((dec n).length-1) 0:=by
    have:(dec n).length-1=0:=by omega
    rw[this]
   have hv1:=(xJ n).getD (by decide) 0;have hv2:(dec n).getD 0 0<10000:=hv1.2;obtain⟨q',hq',eq'⟩:=guess t ((dec n).getD 0 0) h1 h2 (by rw[hl0];exact hpos) (by omega);have key':=k4 q' hq';have v0 : ¬(dec n).getD 0 0=0:=by rw[hl0];omega
   have hn1':(dec n).length=1:=by omega
   unfold yJ at *;apply zR;(repeat((conv=>lhs;whnf);simp only[go_sem,simprocAttr,hn1,hn1',x0,aM,v0,eq']));exact key'
  ·have hn1' : ¬(dec n).length=1:=by omega
   unfold yJ at *;apply zR;(repeat((conv=>lhs;whnf);simp only[go_sem,simprocAttr,hn1,hn1',u0,eq]));exact key)
 have hmx : ∃j:Nat,(if (0:Int)<((dec n).length:Int)-2 then ((dec n).length:Int)-2 else 0)=((dec n).length:Int)-j∧1≤j∧j≤2:=by
  by_cases h:(0:Int)<((dec n).length:Int)-2
  ·exact⟨2,by rw[hZ h];rfl,by omega,by omega⟩
  ·rw[hI h];exact⟨(dec n).length,by omega,by omega,by omega⟩
 obtain⟨j,hj,hj1,hj2⟩:=hmx;have pw : ∀j:Nat,1≤j→j≤2→(1:Int)*10000^(j+1)≤1000000000000∧(1:Int)*10000^j≤1000000000000:=by
  intro j h1 h2
  match j,h1,h2 with
  | 1,_,_=>decide
  | 2,_,_=>decide
 have w1:IntKind.i64.wrap (((dec n).length:Int)-1)=((dec n).length:Int)-1:=by rw[bA];omega
 have k0:=Uv (dec m) (dec n) e1 e2 (xJ m) (by omega) (by omega) [.blk 0,.seq 0 31] (z:=(.int .i64 (m / n:Nat),[])) (fun t h1 h2=>by
  have key:=k2 t h1 h2 j (((dec n).length:Int)-1) 1 0 (by rw[hj];omega) (by omega) (.inl rfl) (by omega) (by omega) (pw j hj1 hj2).2;apply zR;(repeat((conv=>lhs;whnf);simp only[go_sem,simprocAttr,w1]));exact key) (j+1) ((dec n).length:Int) 1 0 (by rw[hj];omega) (by omega) (by omega) (by omega) (pw j hj1 hj2).1
 unfold yJ at *;(repeat((conv=>lhs;whnf);simp only[go_sem,simprocAttr]));exact k0
end
end
end Go.Vs

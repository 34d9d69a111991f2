
import Derived.Test.YtkaeejkajfinhaaGreatMT13
import Derived.Test.YtkaeejkajfinhaaGreatMT14
set_option linter.unusedVariables false
set_option linter.unusedSimpArgs false
set_option maxRecDepth 100000
namespace Go.Vs
open Go Go.Proofs
section
theorem zIj {m n:Nat} {va vb:PV} (ha:zv m va) (hb:zv n vb) (hm:(dec m).length≤900000) (hn:(dec n).length≤900000) (h0:n≠0) (hlt:m<n*10000) (S:zB):zO (callL Tryz.prog zE) S 187 [va,vb]=some {v:=.int .i64 (m / n:Nat)} := zF (S:=S) (zFu ha hb hm hn h0 hlt) (by simp[ha.plain,hb.plain])
theorem zFv {n x k:Nat} (h:(dec n).length≤k) (hx:x<n*10000):(dec x).length≤k+1:=by
 refine (xR DB2 (k+1) _).2 ?_;have h1:=(xR DB2 k n).1 h;rw[Nat.pow_succ];generalize DB^k=P at *;have:n*10000<P*10000:=Nat.mul_lt_mul_of_pos_right h1 (by omega);exact Nat.lt_trans hx this
theorem zLA {L:List Int} {m:Nat} (v:Int):(List.replicate (m+1) (0:Int)++L).set m v=List.replicate m 0++(v::L):=zHc v rfl
theorem zLB (m:Nat) (L:List Int):List.replicate (m+1) (0:Int)++L=List.replicate m 0++(0::L):=by
 rw[SF,bS];rfl
section
attribute [local irreducible] Vs.callL Vs.callRL tyi zO zk zf zQ zW zZ zI zX zA zK zb zV zG zJ zU zs yL zr zL za Vs.gc zH
noncomputable def zFw:FX:=⟨Tryz.f173,zE.of 173,[]⟩
instance ok173_:zFw.ok 173:=FX.mk'
theorem Jp (m n:Nat) (e1 e2:Bool) (i1:zv m (yI m e1)) (i2:zv n (yI n e2)) (hm:(dec m).length≤800000) (hn:(dec n).length≤800000) (h0:n≠0) (fs:List Fr) :
  ∀(i:Nat),i≤(dec m).length→∀(V:Nat) (Q:List Int),zM DB ((dec m).drop i)=V→OkD DB Q→Q.length=(dec m).length-i→zM DB Q=(V / n:Nat) →
   ∃Q':List Int,OkD DB Q'∧Q'.length=(dec m).length∧zM DB Q'=(m / n:Nat)∧∀z:PV × zB,yD 0 zFw 0 fs [(0,.undef),(1,.undef),(12,.msl 0 0 (dec m).length true),(13,zg (m % n)),(14,.undef),(62,.undef)] [.arr (zD .i64 Q') (some (some 1)) false,.arr [] (some (some 1)) true]=some z →
   zT 0 zFw 0 2036 2 fs [(0,yI m e1),(1,yI n e2),(12,.msl 0 0 (dec m).length true),(13,zg (V % n)),(14,.int .i64 ((i:Int)-1))] [.arr (zD .i64 (List.replicate i 0++Q)) (some (some 1)) false,.arr [] (some (some 1)) true]=some z:=by
 have hM:=ys;intro i
 induction i with
 | zero =>
  intro hi V Q hV hQ hQl hQv;rw[pA,vJ]at hV;have e:V=m:=by omega
  subst e;refine⟨Q,hQ,by omega,hQv,fun z key=>?_⟩;apply zC;unfold zg yI at *;simp only[HU,pF];(repeat((conv=>lhs;whnf);simp only[go_sem,simprocAttr]));exact key
 | succ i ih =>
  intro hi V Q hV hQ hQl hQv;have ed:=xF (dec m) (k:=i) (by omega);have ha:=(vH m).getD (by decide) i;have ha':(dec m).getD i 0<10000:=ha.2;obtain⟨a,hA⟩ : ∃a:Nat,(dec m).getD i 0=a:=⟨((dec m).getD i 0).toNat,by omega⟩;have ev:zM DB ((dec m).drop i)=((a+10000*V:Nat):Int):=by
   rw[ed,zM,hV,hA];have:((a+10000*V:Nat):Int)=(a:Int)+10000*V:=by omega
   exact this.symm
  have hRlt:V % n<n:=aN _ (by omega);have hRd:(dec (V % n)).length≤800000:=bP (kK (Nat.le_of_lt hRlt)) hn;have s1:=XX (zv.of (V % n)) 10000 a (by omega) (by omega) (by omega);have hR1:V % n*10000+a<n*10000:=by
   have:(V % n+1)*10000≤n*10000:=pS _ hRlt;omega
  have hR1d:(dec (V % n*10000+a)).length≤800001:=zFv hn hR1;have s2:=XY (zv.of (V % n*10000+a)) i2 (by omega) (by omega);have hdiv:a+10000*V=n*(10000*(V / n))+(V % n*10000+a):=by
   have:=PZ V n;have e:n*(10000*(V / n))=10000*(n*(V / n)):=by rw[Nat.mul_left_comm]
   rw[e];omega
  have hq:(a+10000*V) / n=10000*(V / n)+(V % n*10000+a) / n:=by
   rw[hdiv,Nat.mul_add_div (by omega)]
  have hr:(a+10000*V) % n=(V % n*10000+a) % n:=by
   rw[hdiv,Nat.mul_add_mod]
  have hd9:(V % n*10000+a) / n<10000:=Nat.div_lt_of_lt_mul hR1;have hnd0:n*((V % n*10000+a) / n)≤V % n*10000+a:=Nat.mul_div_le _ _;have hda:=PZ (V % n*10000+a) n;have s3:=zIj (zv.of (V % n*10000+a)) i2 (by omega) (by omega) h0 hR1;generalize hdd:(V % n*10000+a) / n=d at *;obtain⟨Q',q1,q2,q3,key⟩:=ih (by omega) (a+10000*V) ((d:Int)::Q) ev (.cons ⟨by omega,by show _<((10000:Nat):Int);omega⟩ hQ) (by simp only[bL];omega) (by
   rw[zM,hQv,hq];have:((10000*(V / n)+d:Nat):Int)=10000*((V / n:Nat):Int)+(d:Int):=by omega
   rw[this];have e0:((DB:Nat):Int)=10000:=rfl;rw[e0];omega)
  rw[hr]at key;refine⟨Q',q1,q2,q3,fun z hz=>?_⟩;have key:=key z hz;have x1:0≤(i:Int)∧(i:Int)<((dec m).length:Int):=⟨by omega,by omega⟩;have ei:((i+1:Nat):Int)-1=(i:Int):=by omega
  have hi0:(0:Int)≤(i:Int):=by omega
  have w1:IntKind.i64.wrap ((i:Int)-1)=(i:Int)-1:=by rw[bE];omega
  have k5:((10000:Nat):Int)=10000:=rfl;rw[k5]at s1;rw[ei];by_cases hc:V % n*10000+a<n
  ·have c:xV (V % n*10000+a) n<0:=by unfold xV;rw[bA hc];omega
   rw[HJ hc]at hdd;subst hdd;rw[aH hc]at key;have k6:((0:Nat):Int)=0:=rfl;rw[k6,←zLB]at key;apply zC;unfold zg yI at *;(repeat((conv=>lhs;whnf);simp only[go_sem,simprocAttr,x1,hi0,bD,hA,s1,s2,c,w1]));exact key
  ·have c : ¬xV (V % n*10000+a) n<0:=by unfold xV;rw[hZ hc];split <;> omega
   have s4:=YJ i2 d (by omega) (by omega);have hsub:V % n*10000+a-n*d=(V % n*10000+a) % n:=by
    omega
   have s5:=zBE (zv.of (V % n*10000+a)) (zv.of (n*d)) (by omega) hnd0 (by omega);rw[hsub]at s5;have xm:=wV.idxmk .i64 (S:=[.arr (zD .i64 (List.replicate (i+1) 0++Q)) (some (some 1)) false,.arr [] (some (some 1)) true]) (id:=0) (off:=0) (n:=(dec m).length) (ex:=true) (L:=List.replicate (i+1) 0++Q) i rfl (by simp;omega) (by omega);have len:i<(List.replicate (i+1) (0:Int)++Q).length:=by simp;omega
   have len1:((zD .i64 (List.replicate (i+1) 0++Q)).getD i []).length=1:=by rw[yt _ _ len];rfl
   have set : ∀v:Int,(zD .i64 (List.replicate (i+1) 0++Q)).set i [.int .i64 v]=zD .i64 (List.replicate i 0++(v::Q)):=fun v=>by rw[xa,zLA]
   have xm2:=wV.idxmk .i64 (S:=[.arr (zD .i64 (List.replicate i 0++((d:Int)::Q))) (some (some 1)) false,.arr [] (some (some 1)) true]) (id:=0) (off:=0) (n:=(dec m).length) (ex:=true) (L:=List.replicate i 0++((d:Int)::Q)) i rfl (by simp;omega) (by omega);have len2:i<(List.replicate i (0:Int)++((d:Int)::Q)).length:=by simp
   have gk:=yt .i64 (List.replicate i 0++((d:Int)::Q)) len2;have get:(List.replicate i (0:Int)++((d:Int)::Q)).getD i 0=d:=by
    rw[bN,bT (by simp)];simp
   rw[get]at gk;rw[pE]at xm xm2;apply zC;unfold zg yI at *;(repeat((conv=>lhs;whnf);simp only[go_sem,simprocAttr,x1,hi0,bD,hA,s1,s2,c,s3,xm,len,len1,set,xm2,len2,gk,s4,s5,w1,zR,zq]));exact key
theorem YL {n:Nat} {v:PV} (h:zv n v) (hn:(dec n).length≤3000000) (S:zB):zO (callL Tryz.prog zE) S 172 [v]=some {v:=if n<10000000000000000 then .tup [.int .i64 n,.bool true] else .tup [.int .i64 0,.bool false]} := by
 obtain⟨e,rfl,hp⟩:=h.form;exact zF (S:=S) (zD4 n e hn) (by simp[hp])
theorem Vq:zg 0=.sl [] false:=by unfold zg yI dec;rw[xH];rfl
theorem Vr {v:PV} (h:zi v) (hv : ∃r e,v=.sl r e) (S:zB):uE S v=some v:=by
 obtain⟨r,e,rfl⟩:=hv;exact h.2 S
theorem zv.sl {n:Nat} {v:PV} (h:zv n v) : ∃r e,v=.sl r e:=by
 obtain⟨e,rfl,_⟩:=h.form;exact⟨_,_,rfl⟩
theorem zBF {m n:Nat} {a b:PV} (ha:zv m a) (hb:zv n b) (S:zB):vD S (.tup [a,b])=some (.tup [a,b]):=zKw (by
 simp only[sU,SL,or_false,forall_eq_or_imp,forall_eq];exact⟨Vr ha.plain ha.sl S,Vr hb.plain hb.sl S⟩)
theorem Jq {m n:Nat} {va vb:PV} (ha:zv m va) (hb:zv n vb) (hm:(dec m).length≤800000) (hn:(dec n).length≤800000) (h0:n≠0) : ∃q r,zv (m / n) q∧zv (m % n) r∧callL Tryz.prog zE 173 [va,vb]=some (.tup [q,r]):=by
 have hM:=ys;have cc:=XY ha hb (by omega) (by omega);by_cases hlt:m<n
 ·refine⟨zg 0,va,by rw[HJ hlt];exact .of 0,by rw[aH hlt];exact ha,?_⟩;have c:xV m n<0:=by unfold xV;rw[bA hlt];omega
  refine FX.callL (r:=(.tup [.msl 0 0 0 true,va],[.arr [] (some (some 1)) false])) ok173_ 1000 rfl rfl ?_ ?_
  ·obtain⟨e1,rfl,p1⟩:=ha.form;obtain⟨e2,rfl,p2⟩:=hb.form;unfold yI at *;((repeat((conv=>lhs;whnf);simp only[go_sem,simprocAttr,cc,c]));try rfl)
  ·have h1:=Vr ha.plain ha.sl [.arr [] (some (some 1)) false];have h2:uE [.arr [] (some (some 1)) false] (.msl 0 0 0 true)=some (.sl [] false):=rfl
   show (xc (uE [.arr [] (some (some 1)) false]) [.msl 0 0 0 true,va]).map PV.tup=_
   simp only[xc,h1,h2,bI,pG,Vq]
 ·have c : ¬xV m n<0:=by unfold xV;rw[hZ hlt];split <;> omega
  have l1:=YL ha (by omega);by_cases hs:m<10000000000000000
  ·have l2:=YL hb (by omega);rw[bA hs]at l1;rw[bA (show n<10000000000000000 by omega)]at l2;have d1:=Ux (m / n) (by have:=BE m n;omega);have d2:=Ux (m % n) (by have:=Nat.mod_le m n;omega);have n0 : ¬(n:Int)=0:=by omega
   have td:IntKind.i64.wrap ((m:Int).tdiv n)=((m / n:Nat):Int):=by
    have h1:=BE m n;have e:(m:Int) / n=((m / n:Nat):Int):=rfl;rw[aK (by omega),bE,e];generalize m / n=q at *;omega
   have tm:(m:Int).tmod n=((m % n:Nat):Int):=by rw[aQ (by omega)];rfl
   refine⟨zg (m / n),zg (m % n),.of _,.of _,?_⟩;refine FX.callL (r:=(.tup [zg (m / n),zg (m % n)],[])) ok173_ 1000 rfl rfl ?_ (zBF (.of _) (.of _) _);obtain⟨e1,rfl,p1⟩:=ha.form;obtain⟨e2,rfl,p2⟩:=hb.form;unfold zg yI at *;((repeat((conv=>lhs;whnf);simp only[go_sem,simprocAttr,cc,c,l1,l2,n0,h0,td,tm,d1,d2]));try rfl)
  ·rw[hZ hs]at l1;by_cases hone:(dec n).length=1
   ·have hone':((dec n).length:Int)=1:=by omega
    have x0:0≤(0:Int)∧(0:Int)<((dec n).length:Int):=⟨by omega,by omega⟩;have hv:(dec n).getD 0 0=n:=by
     obtain⟨x,hx⟩:=BO.1 hone;have:=vJ n;rw[hx]at this ⊢;simp[zM]at this
     simpa [bN] using this
    have hn9:n<10000:=by
     have:=(xR DB2 1 n).1 (by show (dec n).length≤1;omega);rw[Nat.pow_one]at this;exact this
    have sp:=Qy ha n ⟨by omega,by omega⟩ (by omega);have d2:=Ux (m % n) (by have:=aN m (show n > 0 by omega);omega);refine⟨zg (m / n),zg (m % n),.of _,.of _,?_⟩;refine FX.callL (r:=(.tup [zg (m / n),zg (m % n)],[])) ok173_ 1000 rfl rfl ?_ (zBF (.of _) (.of _) _);obtain⟨e1,rfl,p1⟩:=ha.form;obtain⟨e2,rfl,p2⟩:=hb.form;unfold zg yI at *;((repeat((conv=>lhs;whnf);simp only[go_sem,simprocAttr,cc,c,l1,hone,hone',x0,sD,hv,sp,d2]));try rfl)
   ·have hone' : ¬((dec n).length:Int)=1:=by omega
    refine⟨zg (m / n),zg (m % n),.of _,.of _,?_⟩;obtain⟨e1,rfl,p1⟩:=ha.form;obtain⟨e2,rfl,p2⟩:=hb.form;have mk:=fun id=>Kr id (dec m).length (by omega);have w1:IntKind.i64.wrap (((dec m).length:Int)-1)=((dec m).length:Int)-1:=by rw[bE];omega
    obtain⟨Q,q1,q2,q3,key⟩:=Jp m n e1 e2 ha hb hm hn h0 [.blk 0,.seq 0 255] (dec m).length (bF _) 0 [] (by rw[HM];rfl) (.nil _) (by simp) (by simp[zM]);have ct:=jH (by omega) q1;rw[q3,bD]at ct;have c1:=wT (S:=[.arr (zD .i64 Q) (some (some 1)) false,.arr [] (some (some 1)) true]) (id:=0) (n:=(dec m).length) (ex:=true) ct rfl q2 (by simp);have hS:=key (.tup [zg (m / n),zg (m % n)],[.arr (zD .i64 Q) (some (some 1)) true,.arr [] (some (some 1)) true]) (by
     apply zN;((repeat((conv=>lhs;whnf);simp only[go_sem,simprocAttr,c1]));try rfl))
    rw[Nat.zero_mod,Vq,pU]at hS;refine FX.callL (r:=(.tup [zg (m / n),zg (m % n)],[.arr (zD .i64 Q) (some (some 1)) true,.arr [] (some (some 1)) true])) ok173_ 1000 rfl rfl ?_ (zBF (.of _) (.of _) _);unfold zg yI at *;(repeat((conv=>lhs;whnf);simp only[go_sem,simprocAttr,cc,c,l1,hone,hone',mk,w1]));exact hS
end
end
section
theorem WN {m n:Nat} {va vb:PV} (ha:zv m va) (hb:zv n vb) (hm:(dec m).length≤800000) (hn:(dec n).length≤800000) (h0:n≠0) : ∃q r,zv (m / n) q∧zv (m % n) r∧∀S,zO (callL Tryz.prog zE) S 173 [va,vb]=some {v:=.tup [q,r]} := by
 obtain⟨q,r,hq,hr,h⟩:=Jq ha hb hm hn h0;exact⟨q,r,hq,hr,fun S=>zF (S:=S) h (by simp[ha.plain,hb.plain])⟩
section
attribute [local irreducible] Vs.callL Vs.callRL tyi zO zk zf zQ zW zZ zI zX zA zK zb zV zG zJ zU zs yL zr zL za Vs.gc zH
noncomputable def Ky:FX:=⟨Tryz.f150,zE.of 150,[]⟩
instance ok150_:Ky.ok 150:=FX.mk'
theorem zDf (x0 x1:PV) (fs:List Fr) {z:PV × zB} : ∀(f x y:Nat),y≤f→x<4611686018427387904→y<4611686018427387904→yD 0 Ky 2 fs [(5,.int .i64 (Nat.gcd x y)),(7,.undef),(29,.undef)] []=some z→zT 0 Ky 2 25296 0 fs [(0,.undef),(1,.undef),(5,.int .i64 x),(7,.int .i64 y),(27,.undef)] []=some z:=by
 intro f
 induction f with
 | zero =>
  intro x y hf hx hy hz;have h0:y=0:=by omega
  subst h0;rw[PR]at hz;apply zC;(repeat((conv=>lhs;whnf);simp only[go_sem,simprocAttr]));exact hz
 | succ f ih =>
  intro x y hf hx hy hz;by_cases h0:y=0
  ·subst h0;rw[PR]at hz;apply zC;(repeat((conv=>lhs;whnf);simp only[go_sem,simprocAttr]));exact hz
  ·have hlt:x % y<y:=aN _ (by omega);have key:=ih y (x % y) (by omega) hy (by omega) (by rw[aZ y,←Nat.gcd_rec,aZ];exact hz);have c:(0:Int)<y:=by omega
   have c':0<y:=by omega
   have n0 : ¬(y:Int)=0:=by omega
   have tm:(x:Int).tmod y=((x % y:Nat):Int):=by rw[aQ (by omega)];rfl
   apply zC;(repeat((conv=>lhs;whnf);simp only[go_sem,simprocAttr,c,c',n0,h0,tm]));exact key
theorem zFx : ∀(f m n:Nat) (va vb:PV),n≤f→(dec m).length≤800000→(dec n).length≤800000→zv m va→zv n vb →
  ∃g,zv (Nat.gcd m n) g∧zT 0 Ky 0 24 0 [.blk 0,.seq 0 7] [(0,va),(1,vb)] []=some (g,[]):=by
 have hM:=ys;have base : ∀(m:Nat) (va vb:PV),zv m va→zv 0 vb→∃g,zv (Nat.gcd m 0) g∧zT 0 Ky 0 24 0 [.blk 0,.seq 0 7] [(0,va),(1,vb)] []=some (g,[]):=by
  intro m va vb ha hb;refine⟨va,by rw[PR];exact ha,?_⟩;obtain⟨e1,rfl,p1⟩:=ha.form;obtain⟨e2,rfl,p2⟩:=hb.form;have l0:(dec 0).length=0:=uI.2 rfl;apply zC;unfold yI;(repeat((conv=>lhs;whnf);simp only[go_sem,simprocAttr,l0]));apply zN;((repeat((conv=>lhs;whnf);simp only[go_sem,simprocAttr]));try rfl)
 intro f
 induction f with
 | zero =>
  intro m n va vb hf _ _ ha hb;have h0:n=0:=by omega
  subst h0;exact base m va vb ha hb
 | succ f ih =>
  intro m n va vb hf hm hn ha hb;by_cases h0:n=0
  ·subst h0;exact base m va vb ha hb
  ·have l1:=YL ha (by omega);have l2:=YL hb (by omega);have d0:(dec n).length≠0:=fun e=>h0 (uI.1 e);have d1:(0:Int)<(dec n).length:=by omega
   have d2:0<(dec n).length:=by omega
   by_cases hs:m<10000000000000000∧n<10000000000000000
   ·rw[bA hs.1]at l1;rw[bA hs.2]at l2;have hg:Nat.gcd m n≤n:=PA (by omega) (SK m n);have di:=Ux (Nat.gcd m n) (by omega);have key:=zDf va vb [.blk 2,.seq 1 6325,.seq 1 791,.blk 1,.lop 0 24 0,.blk 0,.seq 0 7] (z:=(zg (Nat.gcd m n),[])) n m n (bF _) (by omega) (by omega) (by
     apply zN;unfold zg yI at *;((repeat((conv=>lhs;whnf);simp only[go_sem,simprocAttr,di]));try rfl))
    refine⟨zg (Nat.gcd m n),.of _,?_⟩;obtain⟨e1,rfl,p1⟩:=ha.form;obtain⟨e2,rfl,p2⟩:=hb.form;apply zC;unfold zg yI at *;(repeat((conv=>lhs;whnf);simp only[go_sem,simprocAttr,d1,d2,l1,l2]));exact key
   ·obtain⟨q,r,iq,ir,hd⟩:=WN ha hb hm hn h0;have hlt:m % n<n:=aN _ (by omega);obtain⟨g,hg,key⟩:=ih n (m % n) vb r (by omega) hn (bP (kK (by omega)) hn) hb ir;refine⟨g,by rw[aZ,Nat.gcd_rec];rw[aZ]at hg;exact hg,?_⟩;obtain⟨e1,rfl,p1⟩:=ha.form;obtain⟨e2,rfl,p2⟩:=hb.form;apply zC;unfold yI at *;by_cases h1:m<10000000000000000
    ·have h2 : ¬n<10000000000000000:=fun h=>hs ⟨h1,h⟩;rw[bA h1]at l1;rw[hZ h2]at l2;(repeat((conv=>lhs;whnf);simp only[go_sem,simprocAttr,d1,d2,l1,l2,hd]));exact key
    ·rw[hZ h1]at l1;by_cases h2:n<10000000000000000
     ·rw[bA h2]at l2;(repeat((conv=>lhs;whnf);simp only[go_sem,simprocAttr,d1,d2,l1,l2,hd]));exact key
     ·rw[hZ h2]at l2;(repeat((conv=>lhs;whnf);simp only[go_sem,simprocAttr,d1,d2,l1,l2,hd]));exact key
theorem zFy {m n:Nat} {va vb:PV} (ha:zv m va) (hb:zv n vb) (hm:(dec m).length≤800000) (hn:(dec n).length≤800000) : ∃g,zv (Nat.gcd m n) g∧callL Tryz.prog zE 150 [va,vb]=some g:=by
 obtain⟨g,hg,key⟩:=zFx n m n va vb (bF _) hm hn ha hb;refine⟨g,hg,?_⟩;refine FX.callL (r:=(g,[])) ok150_ 1000 rfl rfl ?_ (hg.plain.2 _);(repeat((conv=>lhs;whnf);simp only[go_sem,simprocAttr]));exact key
theorem zHe {m n:Nat} {va vb:PV} (ha:zv m va) (hb:zv n vb) (hm:(dec m).length≤800000) (hn:(dec n).length≤800000) : ∃g,zv (Nat.gcd m n) g∧∀S,zO (callL Tryz.prog zE) S 150 [va,vb]=some {v:=g} := by
 obtain⟨g,hg,h⟩:=zFy ha hb hm hn;exact⟨g,hg,fun S=>zF (S:=S) h (by simp[ha.plain,hb.plain])⟩
end
end
section
def sg (neg:Bool) (n:Nat):Int:=if neg then -(n:Int) else n
theorem Zf (neg:Bool) (n:Nat):(sg neg n).natAbs=n:=by cases neg <;> simp[sg]
theorem zLC (q:Rat):sg (decide (q.num<0)) q.num.natAbs=q.num:=by
 unfold sg;by_cases h:q.num<0
 ·simp[h];omega
 ·simp[h];omega
theorem zNY (neg:Bool) {n d:Nat} (hn:n≠0) (hd:d≠0):xT (mkRat (sg neg n) d)=qE neg (words (n / Nat.gcd n d)) (words (d / Nat.gcd n d)):=by
 unfold xT;have h1:decide ((mkRat (sg neg n) d).num<0)=neg:=by
  have:=Wx neg n hd;have e:(if neg=true then -(n:Int) else n)=sg neg n:=rfl;rw[e]at this;cases neg with
  | true=>exact bG (this.2 ⟨rfl,hn⟩)
  | false=>exact bH (fun h=>by have:=(this.1 h).1;cases this)
 rw[h1,zBA hd,zBB hd,Zf]
theorem Vt:xT 0=qE false [] [1]:=by
 unfold xT;have h1:words (0:Rat).num.natAbs=[]:=(vG WB2).2 rfl;have h2:words (0:Rat).den=[1]:=jF;rw[h1,h2];rfl
theorem zHf (b:Bool):sg b 0=0:=by cases b <;> rfl
theorem UU (b:Bool) (x y:Nat):sg b x+sg b y=sg b (x+y):=by cases b <;> simp[sg] <;> omega
theorem zAA {b c:Bool} (h:b≠c) {x y:Nat} (hxy:y≤x):sg b x+sg c y=sg b (x-y):=by
 cases b <;> cases c <;> simp[sg]at h ⊢ <;> omega
theorem zAB {b c:Bool} (h:b≠c) {x y:Nat} (hxy:x≤y):sg b x+sg c y=sg c (y-x):=by
 cases b <;> cases c <;> simp[sg]at h ⊢ <;> omega
theorem zPW (b c:Bool) (x y:Nat):sg b x*sg c y=sg (b != c) (x*y):=by
 cases b <;> cases c <;> simp[sg,sI,PQ,Int.mul_neg]
theorem Kz (b:Bool) (x y:Nat):sg b x*(y:Int)=sg b (x*y):=by
 cases b <;> simp[sg,sI,PQ]
def yG (q:Rat):Bool:=decide (q.num<0)
theorem zIk (q:Rat):sg (yG q) q.num.natAbs=q.num:=zLC q
theorem vU (q r:Rat):q+r=mkRat (sg (yG q) (q.num.natAbs*r.den)+sg (yG r) (r.num.natAbs*q.den)) (q.den*r.den):=by
 rw[←Kz,←Kz,zIk,zIk];exact Rat.add_def' q r
theorem YM {q r:Rat} (h:q.den=r.den):q+r=mkRat (sg (yG q) q.num.natAbs+sg (yG r) r.num.natAbs) q.den:=by
 rw[zIk,zIk];exact zAz h
theorem WO (q r:Rat):q*r=mkRat (sg (yG q != yG r) (q.num.natAbs*r.num.natAbs)) (q.den*r.den):=by
 rw[←zPW,zIk,zIk];exact Rat.mul_def' q r
theorem zLD (q:Rat):xT (-q)=qE (!(yG q)&&decide (q.num.natAbs≠0)) (words q.num.natAbs) (words q.den):=by
 unfold xT yG;have h1:decide ((-q).num<0)=(!(decide (q.num<0))&&decide (q.num.natAbs≠0)):=by
  rw[PS]
  rcases PP q.num 0 with h | h | h
  ·simp[h];omega
  ·simp[h]
  ·have a1 : ¬q.num<0:=by omega
   have a2:q.num.natAbs≠0:=by omega
   simp[a1,a2];omega
 rw[h1,PS,Rat.neg_den,Int.natAbs_neg]
theorem zLE {q:Rat} (h:q≠0):xT q⁻¹ = qE (yG q) (words q.den) (words q.num.natAbs):=by
 obtain⟨h1,h2⟩:=YH h;unfold xT yG;have hd:=q.den_nz;have e1:decide (q⁻¹.num<0)=decide (q.num<0):=by
  rw[h1];by_cases c:q.num<0
  ·simp[c];omega
  ·simp[c]
 have e2:q⁻¹.num.natAbs=q.den:=by
  rw[h1];split <;> simp
 rw[e1,e2,h2]
def Xe (q r:Rat):Int:=if q<r then -1 else if r<q then 1 else 0
def qF (q:Rat):Int:=if q.num=0 then 0 else if yG q then -1 else 1
theorem zIl {q r:Rat} (h:qF q≠qF r):Xe q r=if qF q<qF r then -1 else 1:=by
 unfold Xe;simp only[Rat.lt_iff];have ha:(0:Int)<q.den:=by have:=q.den_nz;omega
 have hb:(0:Int)<r.den:=by have:=r.den_nz;omega
 unfold qF yG at h ⊢
 rcases PP q.num 0 with h1 | h1 | h1 <;> rcases PP r.num 0 with h2 | h2 | h2
 ·simp[h1,h2,BF h1,BF h2]at h
 ·have:=SY h1 hb;simp[h1,h2,BF h1,this]
 ·have t1:=SY h1 hb;have t2:=Int.mul_pos h2 ha;have e:q.num*r.den<r.num*q.den:=by omega
  have n2 : ¬r.num<0:=by omega
  have n3 : ¬r.num=0:=by omega
  simp[h1,BF h1,e,n2,n3]
 ·have t2:=SY h2 ha;have n : ¬q.num*(r.den:Int)<r.num*q.den:=by rw[h1,Int.zero_mul];omega
  have n2:r.num*(q.den:Int)<q.num*r.den:=by rw[h1,Int.zero_mul];omega
  simp[h1,h2,BF h2,t2] ;omega
 ·simp[h1,h2]at h
 ·have t2:=Int.mul_pos h2 ha;have n2 : ¬r.num<0:=by omega
  have n3 : ¬r.num=0:=by omega
  simp[h1,n2,n3,t2]
 ·have t1:=Int.mul_pos h1 hb;have t2:=SY h2 ha;have e : ¬q.num*(r.den:Int)<r.num*q.den:=by omega
  have e2:r.num*(q.den:Int)<q.num*r.den:=by omega
  have n2 : ¬q.num<0:=by omega
  have n3 : ¬q.num=0:=by omega
  simp[h2,BF h2,e,e2,n2,n3]
 ·have t1:=Int.mul_pos h1 hb;have e : ¬q.num*(r.den:Int)<0:=by omega
  have n2 : ¬q.num<0:=by omega
  have n3 : ¬q.num=0:=by omega
  simp[h2,e,t1,n2,n3]
 ·have n2 : ¬q.num<0:=by omega
  have n3 : ¬q.num=0:=by omega
  have n4 : ¬r.num<0:=by omega
  have n5 : ¬r.num=0:=by omega
  simp[n2,n3,n4,n5]at h
theorem zIm {q r:Rat} (h:qF q=qF r):Xe q r=if yG q then -(xV (q.num.natAbs*r.den) (r.num.natAbs*q.den)) else xV (q.num.natAbs*r.den) (r.num.natAbs*q.den):=by
 unfold Xe xV;simp only[Rat.lt_iff];have e1:((q.num.natAbs*r.den:Nat):Int)=(q.num.natAbs:Int)*r.den:=sI _ _;have e2:((r.num.natAbs*q.den:Nat):Int)=(r.num.natAbs:Int)*q.den:=sI _ _;generalize q.num.natAbs*r.den=X at *;generalize r.num.natAbs*q.den=Y at *;unfold qF yG at h;unfold yG
 rcases PP q.num 0 with h1 | h1 | h1
 ·have h2:r.num<0:=by
   simp only[BF h1,if_false,bG h1,if_true]at h;by_cases c:r.num=0
   ·simp[c]at h
   ·by_cases c2:r.num<0
    ·exact c2
    ·simp[c,c2]at h
  have f1:q.num*(r.den:Int) = -(X:Int):=by rw[e1,←PQ];congr 1;omega
  have f2:r.num*(q.den:Int) = -(Y:Int):=by rw[e2,←PQ];congr 1;omega
  rw[f1,f2,bG h1,bA rfl]
  split <;> split <;> (try split) <;> omega
 ·have n : ¬q.num<0:=by omega
  have h2 : ¬r.num<0:=by
   simp only[h1,if_true]at h;intro c;simp[BF c,c]at h
  have f1:q.num*(r.den:Int)=(X:Int):=by rw[e1];congr 1;omega
  have f2:r.num*(q.den:Int)=(Y:Int):=by rw[e2];congr 1;omega
  rw[f1,f2,bH n];simp
 ·have n : ¬q.num<0:=by omega
  have h2 : ¬r.num<0:=by
   intro c;have n3 : ¬q.num=0:=by omega
   simp[BF c,c,n,n3]at h
  have f1:q.num*(r.den:Int)=(X:Int):=by rw[e1];congr 1;omega
  have f2:r.num*(q.den:Int)=(Y:Int):=by rw[e2];congr 1;omega
  rw[f1,f2,bH n];simp
@[go_sem] theorem zQi (n:Nat):zU (tyi Tryz.prog 27) n=some {v:=.mp n 0 0,new:=some ([[.bool false,.sl [] true,.sl [] true]],none)} := nr (by unfold zU;rw[zDS];rfl)
@[go_sem] theorem zQj (l:List (Nat × PV)):zV Tryz.prog 27 l=(qP [(0,1,false),(1,1,false),(2,1,false)] [.bool false,.sl [] true,.sl [] true] l).map .agg:=nr (by unfold zV;rw[ke];dsimp only;unfold zb;rw[ke,zDS];rfl)
@[go_sem] theorem zRe (id i off:Nat):zA (tyi Tryz.prog 27) 0 (.mp id i off)=some (.mp id i (off+0)):=by simp[zA,ke]
@[go_sem] theorem zRf (r:List PV):zA (tyi Tryz.prog 27) 0 (.cp r)=some (.cp (r.drop 0)):=by simp[zA,ke]
@[go_sem] theorem zRg (cs:List PV):zK (tyi Tryz.prog 27) 0 (.agg cs)=cs[0]? := by simp[zK,ke]
@[go_sem] theorem zRh (id i off:Nat):zA (tyi Tryz.prog 27) 1 (.mp id i off)=some (.mp id i (off+1)):=by simp[zA,ke]
@[go_sem] theorem zRi (r:List PV):zA (tyi Tryz.prog 27) 1 (.cp r)=some (.cp (r.drop 1)):=by simp[zA,ke]
@[go_sem] theorem zRj (cs:List PV):zK (tyi Tryz.prog 27) 1 (.agg cs)=cs[1]? := by simp[zK,ke]
@[go_sem] theorem zRk (id i off:Nat):zA (tyi Tryz.prog 27) 2 (.mp id i off)=some (.mp id i (off+2)):=by simp[zA,ke]
@[go_sem] theorem zRl (r:List PV):zA (tyi Tryz.prog 27) 2 (.cp r)=some (.cp (r.drop 2)):=by simp[zA,ke]
@[go_sem] theorem zRm (cs:List PV):zK (tyi Tryz.prog 27) 2 (.agg cs)=cs[2]? := by simp[zK,ke]
theorem Uy {S:zB} {b e1 e2:Bool} {i j m n:Nat} {N D:List Int} (h1:zl S i=some (zD .u32 N)) (hN:N.length=m) (h2:zl S j=some (zD .u32 D)) (hD:D.length=n):vD S (.agg [.bool b,.msl i 0 m e1,.msl j 0 n e2])=some (qE b N D):=by
 have k1:=Wu (ex:=e1) h1 hN 6;have k2:=Wu (ex:=e2) h2 hD 6
 show (xc (vC S 8) [.bool b,.msl i 0 m e1,.msl j 0 n e2]).map PV.agg=_
 simp only[zIW,zK2,k1,k2,zCx,zIX,zK3];rfl
theorem UV (d:Nat):mkRat 0 d=0:=by simp
section
attribute [local irreducible] Vs.callL Vs.callRL tyi zO zk zf zQ zW zZ zI zX zA zK zb zV zG zJ zU zs yL zr zL za Vs.gc zH
noncomputable def zRn:FX:=⟨Tryz.f54,zE.of 54,[]⟩
instance ok54_:zRn.ok 54:=FX.mk'
theorem ZU:callL Tryz.prog zE 54 []=some (xT 0):=by
 rw[Vt];refine FX.callL (r:=(.agg [.bool false,.sl [] true,.msl 1 0 1 true],[.arr [[.bool false,.sl [] true,.msl 1 0 1 true]] none false,.arr (zD .u32 [1]) (some (some 1)) false])) ok54_ 1000 rfl rfl ?_ ?_
 ·((repeat((conv=>lhs;whnf);simp only[go_sem,simprocAttr]));try rfl)
 ·rfl
noncomputable def zPX:FX:=⟨Tryz.f144,zE.of 144,[]⟩
instance ok144_:zPX.ok 144:=FX.mk'
theorem Xr {neg:Bool} {n d:Nat} {va vb:PV} (ha:yH n va) (hb:yH d vb) (hd:d≠0) (hn:(words n).length≤900000) (hdl:(words d).length≤900000):callL Tryz.prog zE 144 [.bool neg,va,vb]=some (xT (mkRat (sg neg n) d)):=by
 by_cases h0:n=0
 ·subst h0;rw[zHf,UV,Vt];have cz:=fun S=>zF (S:=S) ZU (by simp);rw[Vt]at cz;have l0:(words 0).length=0:=yy.2 rfl;obtain⟨e1,rfl,p1⟩:=ha.form;unfold yB qE at *;refine FX.callL (r:=(qE false [] [1],[.arr [[.bool false,.sl (zD .u32 []) false,.sl (zD .u32 [1]) false]] none false])) ok144_ 1000 rfl rfl ?_ rfl;unfold qE;((repeat((conv=>lhs;whnf);simp only[go_sem,simprocAttr,l0,cz]));try rfl)
 ·rw[zNY neg h0 hd];have l0 : ¬(words n).length=0:=fun e=>h0 (yy.1 e);have l0' : ¬((words n).length:Int)=0:=by omega
  have cg:=fun S=>zF (S:=S) (zDR ha hb hn hdl) (by simp[ha.plain,hb.plain]);have hg0:Nat.gcd n d≠0:=fun e=>hd (AE e);have hgl:(words (Nat.gcd n d)).length≤900000:=bP (uf (PA (by omega) (SK n d))) hdl;have hdm:(words n).length≤900000∧(words d).length≤900000:=⟨hn,hdl⟩;by_cases h1:Nat.gcd n d=1
  ·rw[h1,PT,PT];rw[h1]at cg;have w1:yQ 1=.sl (zD .u32 [1]) false:=by unfold yQ;rw[jF]
   rw[w1]at cg;obtain⟨e1,rfl,p1⟩:=ha.form;obtain⟨e2,rfl,p2⟩:=hb.form;have ap1:=fun S=>wB.appNil 0 S (RowsV.sl (S:=S) (zD .u32 (words n)) e1) (xk _ _) (by rw[zR];omega) (by rw[zR];omega);have ap2:=fun S=>wB.appNil 0 S (RowsV.sl (S:=S) (zD .u32 (words d)) e2) (xk _ _) (by rw[zR];omega) (by rw[zR];omega);refine FX.callL (r:=(.agg [.bool neg,.msl 1 0 (words n).length false,.msl 2 0 (words d).length false],[.arr [[.bool neg,.msl 1 0 (words n).length false,.msl 2 0 (words d).length false]] none false,.arr (zD .u32 (words n)) (some (some 1)) false,.arr (zD .u32 (words d)) (some (some 1)) false])) ok144_ 1000 rfl rfl ?_ ?_
   ·unfold yB at *;((repeat((conv=>lhs;whnf);simp only[go_sem,simprocAttr,l0,l0',cg,ap1,ap2]));try rfl)
   ·exact Uy rfl rfl rfl rfl
  ·obtain⟨q1,r1,iq1,_,d1⟩:=YG ha (yH.of (Nat.gcd n d)) hg0 hn hgl;obtain⟨q2,r2,iq2,_,d2⟩:=YG hb (yH.of (Nat.gcd n d)) hg0 hdl hgl;have hq1:(words (n / Nat.gcd n d)).length≤900000:=bP (uf (BE _ _)) hn;have hq2:(words (d / Nat.gcd n d)).length≤900000:=bP (uf (BE _ _)) hdl;obtain⟨e1,rfl,p1⟩:=ha.form;obtain⟨e2,rfl,p2⟩:=hb.form;obtain⟨e3,rfl,p3⟩:=iq1.form;obtain⟨e4,rfl,p4⟩:=iq2.form;have ap1:=fun S=>wB.appNil 0 S (RowsV.sl (S:=S) (zD .u32 (words (n / Nat.gcd n d))) e3) (xk _ _) (by rw[zR];omega) (by rw[zR];omega);have ap2:=fun S=>wB.appNil 0 S (RowsV.sl (S:=S) (zD .u32 (words (d / Nat.gcd n d))) e4) (xk _ _) (by rw[zR];omega) (by rw[zR];omega);have hmv:yQ (Nat.gcd n d)=.sl (zD .u32 (words (Nat.gcd n d))) false:=rfl;refine FX.callL (r:=(.agg [.bool neg,.msl 1 0 (words (n / Nat.gcd n d)).length false,.msl 2 0 (words (d / Nat.gcd n d)).length false],[.arr [[.bool neg,.msl 1 0 (words (n / Nat.gcd n d)).length false,.msl 2 0 (words (d / Nat.gcd n d)).length false]] none false,.arr (zD .u32 (words (n / Nat.gcd n d))) (some (some 1)) false,.arr (zD .u32 (words (d / Nat.gcd n d))) (some (some 1)) false])) ok144_ 1000 rfl rfl ?_ (Uy rfl rfl rfl rfl);unfold yB at *;rw[hmv]at cg d1 d2;by_cases hl:(words (Nat.gcd n d)).length=1
   ·have x0:0≤(0:Int)∧(0:Int)<((words (Nat.gcd n d)).length:Int):=⟨by omega,by omega⟩;have hne : ¬(words (Nat.gcd n d)).getD 0 0=1:=fun e=>h1 (by
     have:=(YI hl).2 e;have e2:words (Nat.gcd n d)=words 1:=by rw[this,jF]
     exact zKc WB2 e2)
    ((repeat((conv=>lhs;whnf);simp only[go_sem,simprocAttr,l0,l0',cg,hl,x0,sD,hne,d1,d2,ap1,ap2]));try rfl)
   ·have hl' : ¬((words (Nat.gcd n d)).length:Int)=1:=by omega
    ((repeat((conv=>lhs;whnf);simp only[go_sem,simprocAttr,l0,l0',cg,hl,hl',d1,d2,ap1,ap2]));try rfl)
end
end
section
def ji:List Int→List Int→Int→List Int
 | [],_,_=>[]
 | x::a,b,c=>(c+x+b.headD 0) % 4294967296::ji a b.tail ((c+x+b.headD 0) / 4294967296)
def jj:List Int→List Int→Int→Int
 | [],_,c=>c
 | x::a,b,c=>jj a b.tail ((c+x+b.headD 0) / 4294967296)
theorem zDg : ∀(a b:List Int) (c:Int),OkD WB a→OkD WB b→b.length≤a.length→(c=0∨c=1)→OkD WB (ji a b c)∧(ji a b c).length=a.length∧(jj a b c=0∨jj a b c=1)∧zM WB (ji a b c)+(4294967296:Int)^a.length*jj a b c=zM WB a+zM WB b+c
 | [],b,c,ha,hb,hl,hc=>by
  have:b=[]:=pL (by simpa using hl);subst this;refine⟨.nil _,rfl,hc,?_⟩;simp[ji,jj,zM]
 | x::a,b,c,ha,hb,hl,hc=>by
  have hx:=ha.head;have hx':x<4294967296:=hx.2;have hh:=Kb hb;have hbt:b.tail.length≤a.length:=by simp only[bL]at hl;rw[SW];omega
  obtain⟨i1,i2,i3,i4⟩:=zDg a b.tail ((c+x+b.headD 0) / 4294967296) ha.tail (zAp hb) hbt (by omega);refine⟨.cons ⟨by omega,by show _<((4294967296:Nat):Int);omega⟩ i1,by simp only[ji,bL,i2],i3,?_⟩;have e1:zM WB (x::a)=x+4294967296*zM WB a:=rfl;have e2:=zAq b;have e3:zM WB (ji (x::a) b c)=(c+x+b.headD 0) % 4294967296+4294967296*zM WB (ji a b.tail ((c+x+b.headD 0) / 4294967296)):=rfl;have e4:jj (x::a) b c=jj a b.tail ((c+x+b.headD 0) / 4294967296):=rfl;rw[e3,e4,e1,e2,bL,sR];generalize jj a b.tail ((c+x+b.headD 0) / 4294967296)=s at *;generalize (4294967296:Int)^a.length=P at *;rw[pK P 4294967296,pM];generalize P*s=Q at *;omega
section
attribute [local irreducible] Vs.callL Vs.callRL tyi zO zk zf zQ zW zZ zI zX zA zK zb zV zG zJ zU zs yL zr zL za Vs.gc zH
noncomputable def zFz:FX:=⟨Tryz.f166,zE.of 166,[]⟩
instance ok166_:zFz.ok 166:=FX.mk'
theorem zLF (A B:List Int) (e1 e2:Bool) (hA:OkD WB A) (hB:OkD WB B) (hl:B.length≤A.length) (hm:A.length≤1000000) (fs:List Fr) {z:PV × zB} (hz:yD 0 zFz 0 fs [(0,.sl (zD .u32 A) e1),(1,.undef),(5,.msl 0 0 (A.length+1) true),(6,.int .u64 (jj A B 0)),(20,.undef),(21,.undef),(22,.undef),(23,.undef)] [.arr (zD .u32 (ji A B 0++[0])) (some (some 1)) false]=some z) : ∀(m i:Nat),i+m=A.length→∀(D:List Int) (c:Int),D.length=i→(c=0∨c=1)→D++ji (A.drop i) (B.drop i) c=ji A B 0→jj (A.drop i) (B.drop i) c=jj A B 0 →
  zT 0 zFz 0 500 1 fs [(0,.sl (zD .u32 A) e1),(1,.sl (zD .u32 B) e2),(5,.msl 0 0 (A.length+1) true),(6,.int .u64 c),(20,.sl (zD .u32 A) e1),(21,.int .i64 A.length),(22,.int .i64 i)] [.arr (zD .u32 (D++List.replicate (m+1) 0)) (some (some 1)) false]=some z:=by
 have hM:=xZ;have hM2:2000000≤maxLen:=by decide
 intro m
 induction m with
 | zero =>
  intro i hi D c hD hc hs ht;have h1 : ¬(i:Int)<(A.length:Int):=by omega
  have hd:A.drop i=[]:=bW (by omega);rw[hd]at hs ht;simp only[ji,jj,pU]at hs ht;subst hs ht;apply zC;simp only[pE,List.replicate_one];(repeat((conv=>lhs;whnf);simp only[go_sem,simprocAttr,h1]));exact hz
 | succ m ih =>
  intro i hi D c hD hc hs ht;have h1:(i:Int)<(A.length:Int):=by omega
  have w1:=zh (i:=i) (n:=A.length) (by omega) (by omega);have x1:0≤(i:Int)∧(i:Int)<(A.length:Int):=⟨by omega,h1⟩;have ha:=hA.getD (by decide) i;have hb:=hB.getD (by decide) i;have ha':A.getD i 0<4294967296:=ha.2;have hb':B.getD i 0<4294967296:=hb.2;have hd:=xF A (k:=i) (by omega);have hbh:(B.drop i).headD 0=B.getD i 0:=by
   by_cases hib:i<B.length
   ·rw[xF B hib];rfl
   ·rw[bW (by omega),bN,sA (by omega)];rfl
  have hbt:(B.drop i).tail=B.drop (i+1):=PH;rw[hd]at hs ht;have es:ji (A.getD i 0::A.drop (i+1)) (B.drop i) c=(c+A.getD i 0+B.getD i 0) % 4294967296::ji (A.drop (i+1)) (B.drop (i+1)) ((c+A.getD i 0+B.getD i 0) / 4294967296):=by
   rw[ji,hbh,hbt]
  have et:jj (A.getD i 0::A.drop (i+1)) (B.drop i) c=jj (A.drop (i+1)) (B.drop (i+1)) ((c+A.getD i 0+B.getD i 0) / 4294967296):=by
   rw[jj,hbh,hbt]
  rw[es]at hs;rw[et]at ht;have key:=ih (i+1) (by omega) (D++[(c+A.getD i 0+B.getD i 0) % 4294967296]) ((c+A.getD i 0+B.getD i 0) / 4294967296) (by simp[hD]) (by omega) (by simpa using hs) ht;have set : ∀v:Int,(zD .u32 (D++List.replicate (m+1+1) 0)).set i [.int .u32 v]=zD .u32 ((D++[v])++List.replicate (m+1) 0):=fun v=>by
   rw[xa]
   congr 1
   rw[sW,hZ (by omega),hD,sM,aY,sY];simp
  have xm:=wB.idxmk .u32 (S:=[.arr (zD .u32 (D++List.replicate (m+1+1) 0)) (some (some 1)) false]) (id:=0) (off:=0) (n:=A.length+1) (ex:=true) (L:=D++List.replicate (m+1+1) 0) i rfl (by simp;omega) (by omega);have len:i<(D++List.replicate (m+1+1) (0:Int)).length:=by simp;omega
  have len1:((zD .u32 (D++List.replicate (m+1+1) 0)).getD i []).length=1:=by
   rw[yt _ _ (by simp;omega)];rfl
  have cu:IntKind.u64.wrap (A.getD i 0)=A.getD i 0:=by rw[xK];omega
  have cb:IntKind.u64.wrap (B.getD i 0)=B.getD i 0:=by rw[xK];omega
  have v0:IntKind.u64.wrap (c+A.getD i 0)=c+A.getD i 0:=by rw[xK];omega
  apply zC;by_cases hib:i<B.length
  ·have h2:(i:Int)<(B.length:Int):=by omega
   have x2:0≤(i:Int)∧(i:Int)<(B.length:Int):=⟨by omega,h2⟩;have v1:IntKind.u64.wrap (c+A.getD i 0+B.getD i 0)=c+A.getD i 0+B.getD i 0:=by rw[xK];omega
   have v2:IntKind.u32.wrap (c+A.getD i 0+B.getD i 0)=(c+A.getD i 0+B.getD i 0) % 4294967296:=by rw[pR]
   (repeat((conv=>lhs;whnf);simp only[go_sem,simprocAttr,h1,x1,bD,cu,cb,h2,x2,xm,v0,v1,v2,set,len,len1,w1,zR,zq]));exact key
  ·have h2 : ¬(i:Int)<(B.length:Int):=by omega
   have hb0:B.getD i 0=0:=by rw[bN,sA (by omega)];rfl
   rw[hb0,PJ]at key;have v2:IntKind.u32.wrap (c+A.getD i 0)=(c+A.getD i 0) % 4294967296:=by rw[pR]
   (repeat((conv=>lhs;whnf);simp only[go_sem,simprocAttr,h1,x1,bD,cu,h2,xm,v0,v2,set,len,len1,w1,zR,zq]));exact key
theorem UW (m n:Nat) (e1 e2:Bool) (sw:Bool) (hl:(words n).length≤(words m).length) (hm:(words m).length≤900000) (hs:sw=true→(words n).length<(words m).length):callL Tryz.prog zE 166 (if sw then [yB n e2,yB m e1] else [yB m e1,yB n e2])=some (yQ (m+n)):=by
 have hM:2000000≤maxLen:=by decide
 obtain⟨i1,i2,i3,i4⟩:=zDg (words m) (words n) 0 (xG m) (xG n) hl (.inl rfl);have hok:OkD WB (ji (words m) (words n) 0++[jj (words m) (words n) 0]):=i1.append (.cons ⟨by omega,by show _<((4294967296:Nat):Int);omega⟩ (.nil _));have hv:(zM WB (ji (words m) (words n) 0++[jj (words m) (words n) 0])).toNat=m+n:=by
  rw[zw,i2];have e0:(((WB:Nat):Int))=(4294967296:Int):=rfl;have e1:zM WB [jj (words m) (words n) 0]=jj (words m) (words n) 0:=by simp[zM]
  rw[e1,e0,i4,xW,xW];omega
 have ct:=wm (by simp;omega) hok;rw[hv]at ct;have hol:(ji (words m) (words n) 0++[jj (words m) (words n) 0]).length=(words m).length+1:=by simp[i2]
 have c1:=wT (S:=[.arr (zD .u32 (ji (words m) (words n) 0++[jj (words m) (words n) 0])) (some (some 1)) false]) (id:=0) (n:=(words m).length+1) (ex:=true) ct rfl hol (by simp);have mk:=fun id=>ZA id ((words m).length+1) (by omega);have w1:IntKind.i64.wrap (((words m).length:Int)+1)=(((words m).length+1:Nat):Int):=by rw[bE];omega
 have set:(zD .u32 (ji (words m) (words n) 0++[0])).set (words m).length [.int .u32 (jj (words m) (words n) 0)]=zD .u32 (ji (words m) (words n) 0++[jj (words m) (words n) 0]):=by
  rw[xa]
  congr 1
  rw[sW,hZ (by omega),i2,sM,sY]
 have xm:=wB.idxmk .u32 (S:=[.arr (zD .u32 (ji (words m) (words n) 0++[0])) (some (some 1)) false]) (id:=0) (off:=0) (n:=(words m).length+1) (ex:=true) (L:=ji (words m) (words n) 0++[0]) (words m).length rfl (by simp[i2]) (by omega);have len:(words m).length<(ji (words m) (words n) 0++[(0:Int)]).length:=by simp[i2]
 have len1:((zD .u32 (ji (words m) (words n) 0++[0])).getD (words m).length []).length=1:=by
  rw[yt _ _ len];rfl
 have cc:IntKind.u32.wrap (jj (words m) (words n) 0)=jj (words m) (words n) 0:=by rw[pR];omega
 have key:=zLF (words m) (words n) e1 e2 (xG m) (xG n) hl (by omega) [.blk 0,.seq 0 63] (z:=(yQ (m+n),[.arr (zD .u32 (ji (words m) (words n) 0++[jj (words m) (words n) 0])) (some (some 1)) true])) (by
  apply zN;((repeat((conv=>lhs;whnf);simp only[go_sem,simprocAttr,cc,xm,len,len1,set,c1,zR,zq]));try rfl)) (words m).length 0 (by omega) [] 0 rfl (.inl rfl) (by simp) (by simp)
 refine FX.callL (r:=(yQ (m+n),[.arr (zD .u32 (ji (words m) (words n) 0++[jj (words m) (words n) 0])) (some (some 1)) true])) ok166_ 1000 (by cases sw <;> rfl) rfl ?_ (wj _ _);unfold yB at *;cases sw with
 | true =>
  have c:=hs rfl;have c':((words n).length:Int)<(words m).length:=by omega
  simp only[if_true];(repeat((conv=>lhs;whnf);simp only[go_sem,simprocAttr,c,c',w1,mk]));exact key
 | false =>
  have c : ¬(words m).length<(words n).length:=by omega
  have c' : ¬((words m).length:Int)<(words n).length:=by omega
  simp only[pB,if_false];(repeat((conv=>lhs;whnf);simp only[go_sem,simprocAttr,c,c',w1,mk]));exact key
theorem zNZ {m n:Nat} {a b:PV} (ha:yH m a) (hb:yH n b) (hm:(words m).length≤900000) (hn:(words n).length≤900000) (S:zB):zO (callL Tryz.prog zE) S 166 [a,b]=some {v:=yQ (m+n)} := by
 obtain⟨e1,rfl,h1⟩:=ha.form;obtain⟨e2,rfl,h2⟩:=hb.form;by_cases hl:(words m).length<(words n).length
 ·have:=UW n m e2 e1 true (by omega) hn (fun _=>hl);rw[Nat.add_comm]at this;exact zF (S:=S) this (by simp[h1,h2])
 ·exact zF (S:=S) (UW m n e1 e2 false (by omega) hm (fun h=>by cases h)) (by simp[h1,h2])
end
end
section
def wH (q:Rat) (k:Nat):Prop:=(words q.num.natAbs).length≤k∧(words q.den).length≤k
theorem wH.mono {q:Rat} {j k:Nat} (h:wH q j) (hk:j≤k):wH q k:=⟨bP h.1 hk,bP h.2 hk⟩
theorem wC (q:Rat):xT q=.agg [.bool (yG q),yB q.num.natAbs false,yB q.den false]:=rfl
theorem jI (S:zB) (n:Nat) (e:Bool) (hn:(words n).length≤1000000):zQ Tryz.prog 0 25 25 S (.sl [] true) (.sl (zD .u32 (words n)) e)=some {v:=.msl S.length 0 (words n).length false,S:=S++[.arr (zD .u32 (words n)) (some (some 1)) false]} := by
 have:=wB.appNil 0 S (RowsV.sl (S:=S) (zD .u32 (words n)) e) (xk _ _) (by rw[zR];omega) (by rw[zR];omega);rw[zR]at this;exact this
section
attribute [local irreducible] Vs.callL Vs.callRL tyi zO zk zf zQ zW zZ zI zX zA zK zb zV zG zJ zU zs yL zr zL za Vs.gc zH
noncomputable def zRo:FX:=⟨Tryz.f63,zE.of 63,[]⟩
instance ok63_:zRo.ok 63:=FX.mk'
theorem ZV (q:Rat) (hq:wH q 900000):callL Tryz.prog zE 63 [xT q]=some (xT q):=by
 have a1:=fun S=>jI S q.num.natAbs false (by have:=hq.1;omega);have a2:=fun S=>jI S q.den false (by have:=hq.2;omega);refine FX.callL (r:=(.agg [.bool (yG q),.msl 2 0 (words q.num.natAbs).length false,.msl 3 0 (words q.den).length false],[.arr [[.bool (yG q),yB q.num.natAbs false,yB q.den false]] none false,.arr [[.bool (yG q),.msl 2 0 (words q.num.natAbs).length false,.msl 3 0 (words q.den).length false]] none false,.arr (zD .u32 (words q.num.natAbs)) (some (some 1)) false,.arr (zD .u32 (words q.den)) (some (some 1)) false])) ok63_ 1000 rfl rfl ?_ (Uy rfl rfl rfl rfl);rw[wC];unfold yB;((repeat((conv=>lhs;whnf);simp only[go_sem,simprocAttr,a1,a2]));try rfl)
noncomputable def zPY:FX:=⟨Tryz.f142,zE.of 142,[]⟩
instance ok142_:zPY.ok 142:=FX.mk'
theorem zBG (q:Rat) (hq:wH q 900000):callL Tryz.prog zE 142 [xT q]=some (xT (-q)):=by
 have cc:=fun S=>zF (S:=S) (ZV q hq) (by simp[wU]);rw[wC]at cc;rw[zLD,wC];have l0:(0:Int)<((words q.num.natAbs).length:Int)↔q.num.natAbs≠0:=by
  have:=yy (n:=q.num.natAbs);omega
 have l1:0<(words q.num.natAbs).length↔q.num.natAbs≠0:=by
  have:=yy (n:=q.num.natAbs);omega
 refine FX.callL (r:=(qE (!(yG q)&&decide (q.num.natAbs≠0)) (words q.num.natAbs) (words q.den),[.arr [[.bool (!(yG q)&&decide (q.num.natAbs≠0)),yB q.num.natAbs false,yB q.den false]] none false,.arr [[.bool (!(yG q)&&decide (q.num.natAbs≠0)),yB q.num.natAbs false,yB q.den false]] none false])) ok142_ 1000 rfl rfl ?_ rfl;unfold yB at *;unfold qE
 cases hn:yG q with
 | true =>
  simp only[hn]at cc;((repeat((conv=>lhs;whnf);simp only[go_sem,simprocAttr,cc,l0]));try rfl)
 | false =>
  simp only[hn]at cc;by_cases h0:q.num.natAbs=0
  ·have w0 : ¬(0:Int)<((words q.num.natAbs).length:Int):=by rw[l0];simp[h0]
   have w1 : ¬ 0<(words q.num.natAbs).length:=by rw[l1];simp[h0]
   simp only[h0,ne_eq,not_true_eq_false,decide_false,bQ];rw[h0]at w0 w1 cc;((repeat((conv=>lhs;whnf);simp only[go_sem,simprocAttr,cc,w0,w1]));try rfl)
  ·have w0:(0:Int)<((words q.num.natAbs).length:Int):=l0.2 h0;have w1:0<(words q.num.natAbs).length:=l1.2 h0;simp only[h0,ne_eq,not_false_eq_true,decide_true,bX,bK];((repeat((conv=>lhs;whnf);simp only[go_sem,simprocAttr,cc,w0,w1]));try rfl)
noncomputable def zPZ:FX:=⟨Tryz.f101,zE.of 101,[]⟩
instance ok101_:zPZ.ok 101:=FX.mk'
theorem zBH (q:Rat) (hq:wH q 900000) (h0:q≠0):callL Tryz.prog zE 101 [xT q]=some (xT q⁻¹):=by
 have a1:=fun S=>jI S q.num.natAbs false (by have:=hq.1;omega);have a2:=fun S=>jI S q.den false (by have:=hq.2;omega);rw[zLE h0];refine FX.callL (r:=(.agg [.bool (yG q),.msl 2 0 (words q.den).length false,.msl 3 0 (words q.num.natAbs).length false],[.arr [[.bool (yG q),yB q.num.natAbs false,yB q.den false]] none false,.arr [[.bool (yG q),.msl 2 0 (words q.den).length false,.msl 3 0 (words q.num.natAbs).length false]] none false,.arr (zD .u32 (words q.den)) (some (some 1)) false,.arr (zD .u32 (words q.num.natAbs)) (some (some 1)) false])) ok101_ 1000 rfl rfl ?_ (Uy rfl rfl rfl rfl);rw[wC];unfold yB;((repeat((conv=>lhs;whnf);simp only[go_sem,simprocAttr,a1,a2]));try rfl)
noncomputable def zP0:FX:=⟨Tryz.f114,zE.of 114,[]⟩
instance ok114_:zP0.ok 114:=FX.mk'
theorem Xs (q:Rat):callL Tryz.prog zE 114 [xT q]=some (.int .i64 (qF q)):=by
 refine FX.callL (r:=(.int .i64 (qF q),[.arr [[.bool (yG q),yB q.num.natAbs false,yB q.den false]] none false])) ok114_ 1000 rfl rfl ?_ rfl;rw[wC];unfold yB;have l0:=yy (n:=q.num.natAbs);by_cases h0:q.num.natAbs=0
 ·have w:(words q.num.natAbs).length=0:=l0.2 h0;have e:qF q=0:=by unfold qF;rw[bA (by omega)]
  rw[e];((repeat((conv=>lhs;whnf);simp only[go_sem,simprocAttr,w]));try rfl)
 ·have w : ¬(words q.num.natAbs).length=0:=fun e=>h0 (l0.1 e);have w' : ¬((words q.num.natAbs).length:Int)=0:=by omega
  have e:qF q=if yG q then -1 else 1:=by unfold qF;rw[hZ (by omega)]
  rw[e]
  cases hn:yG q with
  | true=>((repeat((conv=>lhs;whnf);simp only[go_sem,simprocAttr,w,w',hn]));try rfl)
  | false=>((repeat((conv=>lhs;whnf);simp only[go_sem,simprocAttr,w,w',hn]));try rfl)
noncomputable def zRp:FX:=⟨Tryz.f56,zE.of 56,[]⟩
instance ok56_:zRp.ok 56:=FX.mk'
theorem Jr (q:Rat) (w:Int):callL Tryz.prog zE 56 [xT q,.int .i64 w]=some (.bool (decide ((words q.num.natAbs).length≤w)&&decide ((words q.den).length≤w))):=by
 refine FX.callL (r:=(.bool (decide ((words q.num.natAbs).length≤w)&&decide ((words q.den).length≤w)),[.arr [[.bool (yG q),yB q.num.natAbs false,yB q.den false]] none false])) ok56_ 1000 rfl rfl ?_ rfl;rw[wC];unfold yB;by_cases h:((words q.num.natAbs).length:Int)≤w
 ·simp only[h,decide_true,bC];((repeat((conv=>lhs;whnf);simp only[go_sem,simprocAttr,h]));try rfl)
 ·simp only[h,decide_false,bB];((repeat((conv=>lhs;whnf);simp only[go_sem,simprocAttr,h]));try rfl)
end
end
section
theorem Yx {neg:Bool} {n d:Nat} {va vb:PV} (ha:yH n va) (hb:yH d vb) (hd:d≠0) (hn:(words n).length≤900000) (hdl:(words d).length≤900000) (S:zB):zO (callL Tryz.prog zE) S 144 [.bool neg,va,vb]=some {v:=xT (mkRat (sg neg n) d)} :=
 zF (S:=S) (Xr ha hb hd hn hdl) (by simp[ha.plain,hb.plain,zi.bool])
theorem zIn {m n k:Nat} (hm:(words m).length≤k) (hn:(words n).length≤k):(words (m+n)).length≤k+1:=zDC WB2 hm hn
structure AddFacts (b c:Bool) (X Y D:Nat) (vx vy vd:PV):Prop where
 cmp : ∀S,zO (callL Tryz.prog zE) S 115 [vx,vy]=some {v:=.int .i64 (xV X Y)}
 add : ∀S,zO (callL Tryz.prog zE) S 166 [vx,vy]=some {v:=yQ (X+Y)}
 mkA:b=c→∀S,zO (callL Tryz.prog zE) S 144 [.bool b,yQ (X+Y),vd]=some {v:=xT (mkRat (sg b X+sg c Y) D)}
 subG:Y≤X→∀S,zO (callL Tryz.prog zE) S 167 [vx,vy]=some {v:=yQ (X-Y)}
 mkG:b≠c→Y≤X→∀S,zO (callL Tryz.prog zE) S 144 [.bool b,yQ (X-Y),vd]=some {v:=xT (mkRat (sg b X+sg c Y) D)}
 subL:X<Y→∀S,zO (callL Tryz.prog zE) S 167 [vy,vx]=some {v:=yQ (Y-X)}
 mkL:b≠c→X<Y→∀S,zO (callL Tryz.prog zE) S 144 [.bool c,yQ (Y-X),vd]=some {v:=xT (mkRat (sg b X+sg c Y) D)}
theorem zDh (b c:Bool) {X Y D:Nat} {vx vy vd:PV} (iX:yH X vx) (iY:yH Y vy) (iD:yH D vd) (hD:D≠0) (hX:(words X).length≤800000) (hY:(words Y).length≤800000) (hd:(words D).length≤800000):AddFacts b c X Y D vx vy vd where
 cmp:=Uv iX iY (by omega) (by omega)
 add:=zNZ iX iY (by omega) (by omega)
 mkA:=fun h S=>by
  rw[←h,UU];exact Yx (.of _) iD hD (bP (zIn hX hY) (by omega)) (by omega) S
 subG:=fun h=>Uu iX iY h (by omega)
 mkG:=fun h1 h2 S=>by
  rw[zAA h1 h2];exact Yx (.of _) iD hD (bP (uf (Nat.sub_le _ _)) (by omega)) (by omega) S
 subL:=fun h=>Uu iY iX (by omega) (by omega)
 mkL:=fun h1 h2 S=>by
  rw[zAB h1 (by omega)];exact Yx (.of _) iD hD (bP (uf (Nat.sub_le _ _)) (by omega)) (by omega) S
section
attribute [local irreducible] Vs.callL Vs.callRL tyi zO zk zf zQ zW zZ zI zX zA zK zb zV zG zJ zU zs yL zr zL za Vs.gc zH
noncomputable def zP1:FX:=⟨Tryz.f102,zE.of 102,[]⟩
instance ok102_:zP1.ok 102:=FX.mk'
theorem zBI (q r:Rat) (hq:wH q 400000) (hr:wH r 400000):callL Tryz.prog zE 102 [xT q,xT r]=some (xT (q*r)):=by
 obtain⟨v1,i1,c1⟩:=jE (yH.of q.num.natAbs) (yH.of r.num.natAbs) (by have:=hq.1;omega) (by have:=hr.1;omega);obtain⟨v2,i2,c2⟩:=jE (yH.of q.den) (yH.of r.den) (by have:=hq.2;omega) (by have:=hr.2;omega);have mk:=Yx (neg:=yG q != yG r) i1 i2 (PU q.den_nz r.den_nz) (bP (uz hq.1 hr.1) (by omega)) (bP (uz hq.2 hr.2) (by omega));rw[←WO]at mk;rw[show (yG q != yG r) = !(yG q == yG r) from rfl]at mk;refine FX.callL (r:=(xT (q*r),[.arr [[.bool (yG q),yB q.num.natAbs false,yB q.den false]] none false,.arr [[.bool (yG r),yB r.num.natAbs false,yB r.den false]] none false,.arr [[.bool (yG (q*r)),yB (q*r).num.natAbs false,yB (q*r).den false]] none false])) ok102_ 1000 rfl rfl ?_ rfl;simp only[wC]at mk ⊢;unfold yQ at c1 c2;unfold yB at *;((repeat((conv=>lhs;whnf);simp only[go_sem,simprocAttr,c1,c2,mk]));try rfl)
noncomputable def zP2:FX:=⟨Tryz.f143,zE.of 143,[]⟩
instance ok143_:zP2.ok 143:=FX.mk'
theorem zBJ (q r:Rat) (hq:wH q 400000) (hr:wH r 400000):callL Tryz.prog zE 143 [xT q,xT r]=some (xT (q+r)):=by
 have cd:=Uv (yH.of q.den) (yH.of r.den) (by have:=hq.2;omega) (by have:=hr.2;omega);refine FX.callL (r:=(xT (q+r),[.arr [[.bool (yG q),yB q.num.natAbs false,yB q.den false]] none false,.arr [[.bool (yG r),yB r.num.natAbs false,yB r.den false]] none false,.arr [[.bool (yG (q+r)),yB (q+r).num.natAbs false,yB (q+r).den false]] none false])) ok143_ 1000 rfl rfl ?_ rfl;by_cases hd:q.den=r.den
 ·have c0:xV q.den r.den=0:=by unfold xV;rw[hZ (by omega),hZ (by omega)]
  rw[c0]at cd;have F:=zDh (yG q) (yG r) (yH.of q.num.natAbs) (yH.of r.num.natAbs) (yH.of q.den) q.den_nz (by have:=hq.1;omega) (by have:=hr.1;omega) (by have:=hq.2;omega);by_cases hs:yG q=yG r
  ·have f1:=F.add;have f2:=F.mkA hs;rw[←YM hd]at f2;simp only[wC]at f2 ⊢;unfold yQ at cd f1 f2;unfold yB at *;have hb:(yG q == yG r)=true:=by simp[hs]
   ((repeat((conv=>lhs;whnf);simp only[go_sem,simprocAttr,cd,f1,f2,hb]));try rfl)
  ·have f0:=F.cmp;have hb:(yG q == yG r)=false:=by simpa using hs
   by_cases hc:r.num.natAbs≤q.num.natAbs
   ·have c:0≤xV q.num.natAbs r.num.natAbs:=by unfold xV;rw[hZ (by omega)];split <;> omega
    have f1:=F.subG hc;have f2:=F.mkG hs hc;rw[←YM hd]at f2;simp only[wC]at f2 ⊢;unfold yQ at cd f0 f1 f2;unfold yB at *;((repeat((conv=>lhs;whnf);simp only[go_sem,simprocAttr,cd,f0,f1,f2,hb,c]));try rfl)
   ·have c : ¬ 0≤xV q.num.natAbs r.num.natAbs:=by unfold xV;rw[bA (by omega)];omega
    have f1:=F.subL (by omega);have f2:=F.mkL hs (by omega);rw[←YM hd]at f2;simp only[wC]at f2 ⊢;unfold yQ at cd f0 f1 f2;unfold yB at *;((repeat((conv=>lhs;whnf);simp only[go_sem,simprocAttr,cd,f0,f1,f2,hb,c]));try rfl)
 ·have c0 : ¬xV q.den r.den=0:=by unfold xV;split <;> (try split) <;> omega
  obtain⟨vx,iX,k1⟩:=jE (yH.of q.num.natAbs) (yH.of r.den) (by have:=hq.1;omega) (by have:=hr.2;omega);obtain⟨vy,iY,k2⟩:=jE (yH.of r.num.natAbs) (yH.of q.den) (by have:=hr.1;omega) (by have:=hq.2;omega);obtain⟨vd,iD,k3⟩:=jE (yH.of q.den) (yH.of r.den) (by have:=hq.2;omega) (by have:=hr.2;omega);have F:=zDh (yG q) (yG r) iX iY iD (PU q.den_nz r.den_nz) (bP (uz hq.1 hr.2) (by omega)) (bP (uz hr.1 hq.2) (by omega)) (bP (uz hq.2 hr.2) (by omega));by_cases hs:yG q=yG r
  ·have f1:=F.add;have f2:=F.mkA hs;rw[←vU]at f2;simp only[wC]at f2 ⊢;unfold yQ at cd k1 k2 k3 f1 f2;unfold yB at *;have hb:(yG q == yG r)=true:=by simp[hs]
   ((repeat((conv=>lhs;whnf);simp only[go_sem,simprocAttr,cd,c0,k1,k2,k3,f1,f2,hb]));try rfl)
  ·have f0:=F.cmp;have hb:(yG q == yG r)=false:=by simpa using hs
   by_cases hc:r.num.natAbs*q.den≤q.num.natAbs*r.den
   ·have c:0≤xV (q.num.natAbs*r.den) (r.num.natAbs*q.den):=by unfold xV;rw[hZ (by omega)];split <;> omega
    have f1:=F.subG hc;have f2:=F.mkG hs hc;rw[←vU]at f2;simp only[wC]at f2 ⊢;unfold yQ at cd k1 k2 k3 f0 f1 f2;unfold yB at *;((repeat((conv=>lhs;whnf);simp only[go_sem,simprocAttr,cd,c0,k1,k2,k3,f0,f1,f2,hb,c]));try rfl)
   ·have c : ¬ 0≤xV (q.num.natAbs*r.den) (r.num.natAbs*q.den):=by unfold xV;rw[bA (by omega)];omega
    have f1:=F.subL (by omega);have f2:=F.mkL hs (by omega);rw[←vU]at f2;simp only[wC]at f2 ⊢;unfold yQ at cd k1 k2 k3 f0 f1 f2;unfold yB at *;((repeat((conv=>lhs;whnf);simp only[go_sem,simprocAttr,cd,c0,k1,k2,k3,f0,f1,f2,hb,c]));try rfl)
end
end
section
section
attribute [local irreducible] Vs.callL Vs.callRL tyi zO zk zf zQ zW zZ zI zX zA zK zb zV zG zJ zU zs yL zr zL za Vs.gc zH
noncomputable def zRq:FX:=⟨Tryz.f68,zE.of 68,[]⟩
instance ok68_:zRq.ok 68:=FX.mk'
theorem zBK (q r:Rat) (hq:wH q 400000) (hr:wH r 400000):callL Tryz.prog zE 68 [xT q,xT r]=some (.int .i64 (Xe q r)):=by
 have s1:=fun S=>zF (S:=S) (Xs q) (by simp[wU]);have s2:=fun S=>zF (S:=S) (Xs r) (by simp[wU]);refine FX.callL (r:=(.int .i64 (Xe q r),[.arr [[.bool (yG q),yB q.num.natAbs false,yB q.den false]] none false,.arr [[.bool (yG r),yB r.num.natAbs false,yB r.den false]] none false])) ok68_ 1000 rfl rfl ?_ rfl;simp only[wC]at s1 s2 ⊢;by_cases hs:qF q=qF r
 ·rw[zIm hs];obtain⟨vx,iX,k1⟩:=jE (yH.of q.num.natAbs) (yH.of r.den) (by have:=hq.1;omega) (by have:=hr.2;omega);obtain⟨vy,iY,k2⟩:=jE (yH.of r.num.natAbs) (yH.of q.den) (by have:=hr.1;omega) (by have:=hq.2;omega);have f0:=Uv iX iY (bP (uz hq.1 hr.2) (by omega)) (bP (uz hr.1 hq.2) (by omega));unfold yQ at k1 k2;unfold yB at *;have w:IntKind.i64.wrap (0-xV (q.num.natAbs*r.den) (r.num.natAbs*q.den)) = -xV (q.num.natAbs*r.den) (r.num.natAbs*q.den):=by
   have:xV (q.num.natAbs*r.den) (r.num.natAbs*q.den) = -1∨xV (q.num.natAbs*r.den) (r.num.natAbs*q.den)=0∨xV (q.num.natAbs*r.den) (r.num.natAbs*q.den)=1:=by
    unfold xV;split <;> (try split) <;> simp
   rw[bE];omega
  cases hn:yG q with
  | true =>
   rw[hn]at s1;((repeat((conv=>lhs;whnf);simp only[go_sem,simprocAttr,s1,s2,hs,k1,k2,f0,w]));try rfl)
  | false =>
   rw[hn]at s1;((repeat((conv=>lhs;whnf);simp only[go_sem,simprocAttr,s1,s2,hs,k1,k2,f0]));try rfl)
 ·rw[zIl hs];unfold yB at *;by_cases hl:qF q<qF r
  ·rw[bA hl];((repeat((conv=>lhs;whnf);simp only[go_sem,simprocAttr,s1,s2,hs,hl]));try rfl)
  ·rw[hZ hl];((repeat((conv=>lhs;whnf);simp only[go_sem,simprocAttr,s1,s2,hs,hl]));try rfl)
noncomputable def zP3:FX:=⟨Tryz.f145,zE.of 145,[]⟩
instance ok145_:zP3.ok 145:=FX.mk'
theorem zBL (n:Nat) (hn:n<9223372036854775808):callL Tryz.prog zE 145 [.int .i64 n]=some (xT (n:Rat)):=by
 have f1:=Zc n (by omega);have mk:=Yx (neg:=false) (yH.of n) (yH.of 1) (by decide) (bP (wu (by omega)) (by decide)) (bP (wu (by omega)) (by decide));have e:mkRat (sg false n) 1=(n:Rat):=by
  show mkRat (n:Int) 1=_
  rw[Rat.mkRat_one];rfl
 rw[e]at mk;have w1:yQ 1=.sl (zD .u32 [1]) false:=by unfold yQ;rw[jF]
 have hc:=Xr (neg:=false) (yH.of n) (yH.of 1) (by decide) (bP (wu (by omega)) (by decide)) (bP (wu (by omega)) (by decide));rw[e,w1]at hc;have mk0:=Kq (S:=[.arr [[.bool false,.sl [] true,.sl [] true]] none false,.arr [[.int .u32 1]] (some (some 1)) false]) (l:=[.bool false,yQ n,.msl 1 0 1 true]) (ids:=[1]) hc (by
  have h2:=(yH.of n).plain.2 [.arr [[.bool false,.sl [] true,.sl [] true]] none false,.arr [[.int .u32 1]] (some (some 1)) false];have hf:=uO (S:=[.arr [[.bool false,.sl [] true,.sl [] true]] none false,.arr [[.int .u32 1]] (some (some 1)) false]) (id:=1) (n:=1) (k:=.u32) (L:=[1]) (ex:=true) rfl rfl;simp only[xc,h2,bI,zIV,hf,pG]) (by
   have h2:=(yH.of n).plain.1;simp only[BI,List.flatMap_nil,h2];rfl) rfl
 have c : ¬(n:Int)<0:=by omega
 have w:IntKind.u64.wrap (n:Int)=n:=by rw[xK];omega
 refine FX.callL (r:=(xT (n:Rat),[.arr [[.bool (yG (n:Rat)),yB (n:Rat).num.natAbs false,yB (n:Rat).den false]] none false,.arr (zD .u32 [1]) (some (some 1)) true])) ok145_ 1000 rfl rfl ?_ rfl;simp only[wC]at mk0 ⊢;unfold yQ at f1 mk0;unfold yB at *;((repeat((conv=>lhs;whnf);simp only[go_sem,simprocAttr,c,w,f1,mk0]));try rfl)
noncomputable def zP4:FX:=⟨Tryz.f103,zE.of 103,[]⟩
instance ok103_:zP4.ok 103:=FX.mk'
theorem zBM:callL Tryz.prog zE 103 []=some (xT 1):=by
 have c:=fun S=>zF (S:=S) (zBL 1 (by decide)) (by simp[zi.int]);refine FX.callL (r:=(xT 1,[.arr [[.bool (yG 1),yB (1:Rat).num.natAbs false,yB (1:Rat).den false]] none false])) ok103_ 1000 rfl rfl ?_ rfl;have e:((1:Nat):Rat)=1:=rfl;have e1:((1:Nat):Int)=1:=rfl;simp only[e,e1,wC]at c ⊢;unfold yB at *;((repeat((conv=>lhs;whnf);simp only[go_sem,simprocAttr,c]));try rfl)
end
end
end Go.Vs


import Derived.Test.YtkaeejkajfinhaaGreatMD13
import Derived.Test.YtkaeejkajfinhaaGreatMD14
set_option linter.unusedVariables false
set_option linter.unusedSimpArgs false
set_option maxRecDepth 100000
namespace Go.Vs
open Go Go.Proofs
section
theorem zJH {m n:Nat} {va vb:PV} (ha:zs m va) (hb:zs n vb) (hm:(dec m).length≤900000) (hn:(dec n).length≤900000) (h0:n≠0) (hlt:m<n*10000) (S:zB):zO (callL Tryz.prog zD) S 187 [va,vb]=some {v:=.int .i64 (m / n:Nat)} := zF (S:=S) (zGV ha hb hm hn h0 hlt) (by simp[ha.plain,hb.plain])
theorem zGW {n x k:Nat} (h:(dec n).length≤k) (hx:x<n*10000):(dec x).length≤k+1:=by
 refine (xS DB2 (k+1) _).2 ?_;have h1:=(xS DB2 k n).1 h;rw[Nat.pow_succ];generalize DB^k=P at *;have:n*10000<P*10000:=Nat.mul_lt_mul_of_pos_right h1 (by omega);exact Nat.lt_trans hx this
theorem zLP {L:List Int} {m:Nat} (v:Int):(List.replicate (m+1) (0:Int)++L).set m v=List.replicate m 0++(v::L):=zID v rfl
theorem zLQ (m:Nat) (L:List Int):List.replicate (m+1) (0:Int)++L=List.replicate m 0++(0::L):=by
 rw[SI,pB];rfl
section
attribute [local irreducible] Vs.callL Vs.callRL tyi zO zn zg zR zY za zI zZ zA zK ze zX zG zJ zW zr yJ zq zL zf Vs.gc zH
noncomputable def zGX:FX:=⟨Tryz.f173,zD.of 173,[]⟩
instance ok173_:zGX.ok 173:=FX.mk'
theorem QF (m n:Nat) (e1 e2:Bool) (i1:zs m (yN m e1)) (i2:zs n (yN n e2)) (hm:(dec m).length≤800000) (hn:(dec n).length≤800000) (h0:n≠0) (fs:List Fr) :
  ∀(i:Nat),i≤(dec m).length→∀(V:Nat) (Q:List Int),zM DB ((dec m).drop i)=V→OkD DB Q→Q.length=(dec m).length-i→zM DB Q=(V / n:Nat) →
   ∃Q':List Int,OkD DB Q'∧Q'.length=(dec m).length∧zM DB Q'=(m / n:Nat)∧∀z:PV × zB,yB 0 zGX 0 fs [(0,.undef),(1,.undef),(12,.msl 0 0 (dec m).length true),(13,zu (m % n)),(14,.undef),(62,.undef)] [.arr (zE .i64 Q') (some (some 1)) false,.arr [] (some (some 1)) true]=some z →
   zU 0 zGX 0 2036 2 fs [(0,yN m e1),(1,yN n e2),(12,.msl 0 0 (dec m).length true),(13,zu (V % n)),(14,.int .i64 ((i:Int)-1))] [.arr (zE .i64 (List.replicate i 0++Q)) (some (some 1)) false,.arr [] (some (some 1)) true]=some z:=by
 have hM:=yj;intro i
 induction i with
 | zero =>
  intro hi V Q hV hQ hQl hQv;rw[bY,vR]at hV;have e:V=m:=by omega
  subst e;refine⟨Q,hQ,by omega,hQv,fun z key=>?_⟩;apply zC;unfold zu yN at *;simp only[BB,pG];(repeat((conv=>lhs;whnf);simp only[go_sem,simprocAttr]));exact key
 | succ i ih =>
  intro hi V Q hV hQ hQl hQv;have ed:=xA (dec m) (k:=i) (by omega);have ha:=(vN m).getD (by decide) i;have ha':(dec m).getD i 0<10000:=ha.2;obtain⟨a,hA⟩ : ∃a:Nat,(dec m).getD i 0=a:=⟨((dec m).getD i 0).toNat,by omega⟩;have ev:zM DB ((dec m).drop i)=((a+10000*V:Nat):Int):=by
   rw[ed,zM,hV,hA];have:((a+10000*V:Nat):Int)=(a:Int)+10000*V:=by omega
   exact this.symm
  have hRlt:V % n<n:=aV _ (by omega);have hRd:(dec (V % n)).length≤800000:=bO (kV (Nat.le_of_lt hRlt)) hn;have s1:=X5 (zs.of (V % n)) 10000 a (by omega) (by omega) (by omega);have hR1:V % n*10000+a<n*10000:=by
   have:(V % n+1)*10000≤n*10000:=pW _ hRlt;omega
  have hR1d:(dec (V % n*10000+a)).length≤800001:=zGW hn hR1;have s2:=X6 (zs.of (V % n*10000+a)) i2 (by omega) (by omega);have hdiv:a+10000*V=n*(10000*(V / n))+(V % n*10000+a):=by
   have:=SC V n;have e:n*(10000*(V / n))=10000*(n*(V / n)):=by rw[Nat.mul_left_comm]
   rw[e];omega
  have hq:(a+10000*V) / n=10000*(V / n)+(V % n*10000+a) / n:=by
   rw[hdiv,Nat.mul_add_div (by omega)]
  have hr:(a+10000*V) % n=(V % n*10000+a) % n:=by
   rw[hdiv,Nat.mul_add_mod]
  have hd9:(V % n*10000+a) / n<10000:=Nat.div_lt_of_lt_mul hR1;have hnd0:n*((V % n*10000+a) / n)≤V % n*10000+a:=Nat.mul_div_le _ _;have hda:=SC (V % n*10000+a) n;have s3:=zJH (zs.of (V % n*10000+a)) i2 (by omega) (by omega) h0 hR1;generalize hdd:(V % n*10000+a) / n=d at *;obtain⟨Q',q1,q2,q3,key⟩:=ih (by omega) (a+10000*V) ((d:Int)::Q) ev (.cons ⟨by omega,by show _<((10000:Nat):Int);omega⟩ hQ) (by simp only[bL];omega) (by
   rw[zM,hQv,hq];have:((10000*(V / n)+d:Nat):Int)=10000*((V / n:Nat):Int)+(d:Int):=by omega
   rw[this];have e0:((DB:Nat):Int)=10000:=rfl;rw[e0];omega)
  rw[hr]at key;refine⟨Q',q1,q2,q3,fun z hz=>?_⟩;have key:=key z hz;have x1:0≤(i:Int)∧(i:Int)<((dec m).length:Int):=⟨by omega,by omega⟩;have ei:((i+1:Nat):Int)-1=(i:Int):=by omega
  have hi0:(0:Int)≤(i:Int):=by omega
  have w1:IntKind.i64.wrap ((i:Int)-1)=(i:Int)-1:=by rw[bE];omega
  have k5:((10000:Nat):Int)=10000:=rfl;rw[k5]at s1;rw[ei];by_cases hc:V % n*10000+a<n
  ·have c:xt (V % n*10000+a) n<0:=by unfold xt;rw[bA hc];omega
   rw[HQ hc]at hdd;subst hdd;rw[aP hc]at key;have k6:((0:Nat):Int)=0:=rfl;rw[k6,←zLQ]at key;apply zC;unfold zu yN at *;(repeat((conv=>lhs;whnf);simp only[go_sem,simprocAttr,x1,hi0,bD,hA,s1,s2,c,w1]));exact key
  ·have c : ¬xt (V % n*10000+a) n<0:=by unfold xt;rw[hZ hc];split <;> omega
   have s4:=YX i2 d (by omega) (by omega);have hsub:V % n*10000+a-n*d=(V % n*10000+a) % n:=by
    omega
   have s5:=zB2 (zs.of (V % n*10000+a)) (zs.of (n*d)) (by omega) hnd0 (by omega);rw[hsub]at s5;have xm:=wY.idxmk .i64 (S:=[.arr (zE .i64 (List.replicate (i+1) 0++Q)) (some (some 1)) false,.arr [] (some (some 1)) true]) (id:=0) (off:=0) (n:=(dec m).length) (ex:=true) (L:=List.replicate (i+1) 0++Q) i rfl (by simp;omega) (by omega);have len:i<(List.replicate (i+1) (0:Int)++Q).length:=by simp;omega
   have len1:((zE .i64 (List.replicate (i+1) 0++Q)).getD i []).length=1:=by rw[yt _ _ len];rfl
   have set : ∀v:Int,(zE .i64 (List.replicate (i+1) 0++Q)).set i [.int .i64 v]=zE .i64 (List.replicate i 0++(v::Q)):=fun v=>by rw[xc,zLP]
   have xm2:=wY.idxmk .i64 (S:=[.arr (zE .i64 (List.replicate i 0++((d:Int)::Q))) (some (some 1)) false,.arr [] (some (some 1)) true]) (id:=0) (off:=0) (n:=(dec m).length) (ex:=true) (L:=List.replicate i 0++((d:Int)::Q)) i rfl (by simp;omega) (by omega);have len2:i<(List.replicate i (0:Int)++((d:Int)::Q)).length:=by simp
   have gk:=yt .i64 (List.replicate i 0++((d:Int)::Q)) len2;have get:(List.replicate i (0:Int)++((d:Int)::Q)).getD i 0=d:=by
    rw[bM,pA (by simp)];simp
   rw[get]at gk;rw[pC]at xm xm2;apply zC;unfold zu yN at *;(repeat((conv=>lhs;whnf);simp only[go_sem,simprocAttr,x1,hi0,bD,hA,s1,s2,c,s3,xm,len,len1,set,xm2,len2,gk,s4,s5,w1,zQ,zm]));exact key
theorem YZ {n:Nat} {v:PV} (h:zs n v) (hn:(dec n).length≤3000000) (S:zB):zO (callL Tryz.prog zD) S 172 [v]=some {v:=if n<10000000000000000 then .tup [.int .i64 n,.bool true] else .tup [.int .i64 0,.bool false]} := by
 obtain⟨e,rfl,hp⟩:=h.form;exact zF (S:=S) (zDt n e hn) (by simp[hp])
theorem Vx:zu 0=.sl [] false:=by unfold zu yN dec;rw[xI];rfl
theorem Vy {v:PV} (h:zh v) (hv : ∃r e,v=.sl r e) (S:zB):uN S v=some v:=by
 obtain⟨r,e,rfl⟩:=hv;exact h.2 S
theorem zs.sl {n:Nat} {v:PV} (h:zs n v) : ∃r e,v=.sl r e:=by
 obtain⟨e,rfl,_⟩:=h.form;exact⟨_,_,rfl⟩
theorem zB3 {m n:Nat} {a b:PV} (ha:zs m a) (hb:zs n b) (S:zB):vI S (.tup [a,b])=some (.tup [a,b]):=zLL (by
 simp only[aF,AA,or_false,forall_eq_or_imp,forall_eq];exact⟨Vy ha.plain ha.sl S,Vy hb.plain hb.sl S⟩)
theorem QG {m n:Nat} {va vb:PV} (ha:zs m va) (hb:zs n vb) (hm:(dec m).length≤800000) (hn:(dec n).length≤800000) (h0:n≠0) : ∃q r,zs (m / n) q∧zs (m % n) r∧callL Tryz.prog zD 173 [va,vb]=some (.tup [q,r]):=by
 have hM:=yj;have cc:=X6 ha hb (by omega) (by omega);by_cases hlt:m<n
 ·refine⟨zu 0,va,by rw[HQ hlt];exact .of 0,by rw[aP hlt];exact ha,?_⟩;have c:xt m n<0:=by unfold xt;rw[bA hlt];omega
  refine FX.callL (r:=(.tup [.msl 0 0 0 true,va],[.arr [] (some (some 1)) false])) ok173_ 1000 rfl rfl ?_ ?_
  ·obtain⟨e1,rfl,p1⟩:=ha.form;obtain⟨e2,rfl,p2⟩:=hb.form;unfold yN at *;((repeat((conv=>lhs;whnf);simp only[go_sem,simprocAttr,cc,c]));try rfl)
  ·have h1:=Vy ha.plain ha.sl [.arr [] (some (some 1)) false];have h2:uN [.arr [] (some (some 1)) false] (.msl 0 0 0 true)=some (.sl [] false):=rfl
   show (xf (uN [.arr [] (some (some 1)) false]) [.msl 0 0 0 true,va]).map PV.tup=_
   simp only[xf,h1,h2,bG,pE,Vx]
 ·have c : ¬xt m n<0:=by unfold xt;rw[hZ hlt];split <;> omega
  have l1:=YZ ha (by omega);by_cases hs:m<10000000000000000
  ·have l2:=YZ hb (by omega);rw[bA hs]at l1;rw[bA (show n<10000000000000000 by omega)]at l2;have d1:=KC (m / n) (by have:=HV m n;omega);have d2:=KC (m % n) (by have:=Nat.mod_le m n;omega);have n0 : ¬(n:Int)=0:=by omega
   have td:IntKind.i64.wrap ((m:Int).tdiv n)=((m / n:Nat):Int):=by
    have h1:=HV m n;have e:(m:Int) / n=((m / n:Nat):Int):=rfl;rw[aR (by omega),bE,e];generalize m / n=q at *;omega
   have tm:(m:Int).tmod n=((m % n:Nat):Int):=by rw[HA (by omega)];rfl
   refine⟨zu (m / n),zu (m % n),.of _,.of _,?_⟩;refine FX.callL (r:=(.tup [zu (m / n),zu (m % n)],[])) ok173_ 1000 rfl rfl ?_ (zB3 (.of _) (.of _) _);obtain⟨e1,rfl,p1⟩:=ha.form;obtain⟨e2,rfl,p2⟩:=hb.form;unfold zu yN at *;((repeat((conv=>lhs;whnf);simp only[go_sem,simprocAttr,cc,c,l1,l2,n0,h0,td,tm,d1,d2]));try rfl)
  ·rw[hZ hs]at l1;by_cases hone:(dec n).length=1
   ·have hone':((dec n).length:Int)=1:=by omega
    have x0:0≤(0:Int)∧(0:Int)<((dec n).length:Int):=⟨by omega,by omega⟩;have hv:(dec n).getD 0 0=n:=by
     obtain⟨x,hx⟩:=BT.1 hone;have:=vR n;rw[hx]at this ⊢;simp[zM]at this
     simpa [bM] using this
    have hn9:n<10000:=by
     have:=(xS DB2 1 n).1 (by show (dec n).length≤1;omega);rw[Nat.pow_one]at this;exact this
    have sp:=zAU ha n ⟨by omega,by omega⟩ (by omega);have d2:=KC (m % n) (by have:=aV m (show n > 0 by omega);omega);refine⟨zu (m / n),zu (m % n),.of _,.of _,?_⟩;refine FX.callL (r:=(.tup [zu (m / n),zu (m % n)],[])) ok173_ 1000 rfl rfl ?_ (zB3 (.of _) (.of _) _);obtain⟨e1,rfl,p1⟩:=ha.form;obtain⟨e2,rfl,p2⟩:=hb.form;unfold zu yN at *;((repeat((conv=>lhs;whnf);simp only[go_sem,simprocAttr,cc,c,l1,hone,hone',x0,sI,hv,sp,d2]));try rfl)
   ·have hone' : ¬((dec n).length:Int)=1:=by omega
    refine⟨zu (m / n),zu (m % n),.of _,.of _,?_⟩;obtain⟨e1,rfl,p1⟩:=ha.form;obtain⟨e2,rfl,p2⟩:=hb.form;have mk:=fun id=>JB id (dec m).length (by omega);have w1:IntKind.i64.wrap (((dec m).length:Int)-1)=((dec m).length:Int)-1:=by rw[bE];omega
    obtain⟨Q,q1,q2,q3,key⟩:=QF m n e1 e2 ha hb hm hn h0 [.blk 0,.seq 0 255] (dec m).length (bF _) 0 [] (by rw[HT];rfl) (.nil _) (by simp) (by simp[zM]);have ct:=jR (by omega) q1;rw[q3,bD]at ct;have c1:=wW (S:=[.arr (zE .i64 Q) (some (some 1)) false,.arr [] (some (some 1)) true]) (id:=0) (n:=(dec m).length) (ex:=true) ct rfl q2 (by simp);have hS:=key (.tup [zu (m / n),zu (m % n)],[.arr (zE .i64 Q) (some (some 1)) true,.arr [] (some (some 1)) true]) (by
     apply zN;((repeat((conv=>lhs;whnf);simp only[go_sem,simprocAttr,c1]));try rfl))
    rw[Nat.zero_mod,Vx,pX]at hS;refine FX.callL (r:=(.tup [zu (m / n),zu (m % n)],[.arr (zE .i64 Q) (some (some 1)) true,.arr [] (some (some 1)) true])) ok173_ 1000 rfl rfl ?_ (zB3 (.of _) (.of _) _);unfold zu yN at *;(repeat((conv=>lhs;whnf);simp only[go_sem,simprocAttr,cc,c,l1,hone,hone',mk,w1]));exact hS
end
end
section
theorem WT {m n:Nat} {va vb:PV} (ha:zs m va) (hb:zs n vb) (hm:(dec m).length≤800000) (hn:(dec n).length≤800000) (h0:n≠0) : ∃q r,zs (m / n) q∧zs (m % n) r∧∀S,zO (callL Tryz.prog zD) S 173 [va,vb]=some {v:=.tup [q,r]} := by
 obtain⟨q,r,hq,hr,h⟩:=QG ha hb hm hn h0;exact⟨q,r,hq,hr,fun S=>zF (S:=S) h (by simp[ha.plain,hb.plain])⟩
section
attribute [local irreducible] Vs.callL Vs.callRL tyi zO zn zg zR zY za zI zZ zA zK ze zX zG zJ zW zr yJ zq zL zf Vs.gc zH
noncomputable def JI:FX:=⟨Tryz.f150,zD.of 150,[]⟩
instance ok150_:JI.ok 150:=FX.mk'
theorem zEE (x0 x1:PV) (fs:List Fr) {z:PV × zB} : ∀(f x y:Nat),y≤f→x<4611686018427387904→y<4611686018427387904→yB 0 JI 2 fs [(5,.int .i64 (Nat.gcd x y)),(7,.undef),(29,.undef)] []=some z→zU 0 JI 2 25296 0 fs [(0,.undef),(1,.undef),(5,.int .i64 x),(7,.int .i64 y),(27,.undef)] []=some z:=by
 intro f
 induction f with
 | zero =>
  intro x y hf hx hy hz;have h0:y=0:=by omega
  subst h0;rw[PX]at hz;apply zC;(repeat((conv=>lhs;whnf);simp only[go_sem,simprocAttr]));exact hz
 | succ f ih =>
  intro x y hf hx hy hz;by_cases h0:y=0
  ·subst h0;rw[PX]at hz;apply zC;(repeat((conv=>lhs;whnf);simp only[go_sem,simprocAttr]));exact hz
  ·have hlt:x % y<y:=aV _ (by omega);have key:=ih y (x % y) (by omega) hy (by omega) (by rw[HI y,←Nat.gcd_rec,HI];exact hz);have c:(0:Int)<y:=by omega
   have c':0<y:=by omega
   have n0 : ¬(y:Int)=0:=by omega
   have tm:(x:Int).tmod y=((x % y:Nat):Int):=by rw[HA (by omega)];rfl
   apply zC;(repeat((conv=>lhs;whnf);simp only[go_sem,simprocAttr,c,c',n0,h0,tm]));exact key
theorem zGY : ∀(f m n:Nat) (va vb:PV),n≤f→(dec m).length≤800000→(dec n).length≤800000→zs m va→zs n vb →
  ∃g,zs (Nat.gcd m n) g∧zU 0 JI 0 24 0 [.blk 0,.seq 0 7] [(0,va),(1,vb)] []=some (g,[]):=by
 have hM:=yj;have base : ∀(m:Nat) (va vb:PV),zs m va→zs 0 vb→∃g,zs (Nat.gcd m 0) g∧zU 0 JI 0 24 0 [.blk 0,.seq 0 7] [(0,va),(1,vb)] []=some (g,[]):=by
  intro m va vb ha hb;refine⟨va,by rw[PX];exact ha,?_⟩;obtain⟨e1,rfl,p1⟩:=ha.form;obtain⟨e2,rfl,p2⟩:=hb.form;have l0:(dec 0).length=0:=kU.2 rfl;apply zC;unfold yN;(repeat((conv=>lhs;whnf);simp only[go_sem,simprocAttr,l0]));apply zN;((repeat((conv=>lhs;whnf);simp only[go_sem,simprocAttr]));try rfl)
 intro f
 induction f with
 | zero =>
  intro m n va vb hf _ _ ha hb;have h0:n=0:=by omega
  subst h0;exact base m va vb ha hb
 | succ f ih =>
  intro m n va vb hf hm hn ha hb;by_cases h0:n=0
  ·subst h0;exact base m va vb ha hb
  ·have l1:=YZ ha (by omega);have l2:=YZ hb (by omega);have d0:(dec n).length≠0:=fun e=>h0 (kU.1 e);have d1:(0:Int)<(dec n).length:=by omega
   have d2:0<(dec n).length:=by omega
   by_cases hs:m<10000000000000000∧n<10000000000000000
   ·rw[bA hs.1]at l1;rw[bA hs.2]at l2;have hg:Nat.gcd m n≤n:=PG (by omega) (SN m n);have di:=KC (Nat.gcd m n) (by omega);have key:=zEE va vb [.blk 2,.seq 1 6325,.seq 1 791,.blk 1,.lop 0 24 0,.blk 0,.seq 0 7] (z:=(zu (Nat.gcd m n),[])) n m n (bF _) (by omega) (by omega) (by
     apply zN;unfold zu yN at *;((repeat((conv=>lhs;whnf);simp only[go_sem,simprocAttr,di]));try rfl))
    refine⟨zu (Nat.gcd m n),.of _,?_⟩;obtain⟨e1,rfl,p1⟩:=ha.form;obtain⟨e2,rfl,p2⟩:=hb.form;apply zC;unfold zu yN at *;(repeat((conv=>lhs;whnf);simp only[go_sem,simprocAttr,d1,d2,l1,l2]));exact key
   ·obtain⟨q,r,iq,ir,hd⟩:=WT ha hb hm hn h0;have hlt:m % n<n:=aV _ (by omega);obtain⟨g,hg,key⟩:=ih n (m % n) vb r (by omega) hn (bO (kV (by omega)) hn) hb ir;refine⟨g,by rw[HI,Nat.gcd_rec];rw[HI]at hg;exact hg,?_⟩;obtain⟨e1,rfl,p1⟩:=ha.form;obtain⟨e2,rfl,p2⟩:=hb.form;apply zC;unfold yN at *;by_cases h1:m<10000000000000000
    ·have h2 : ¬n<10000000000000000:=fun h=>hs ⟨h1,h⟩;rw[bA h1]at l1;rw[hZ h2]at l2;(repeat((conv=>lhs;whnf);simp only[go_sem,simprocAttr,d1,d2,l1,l2,hd]));exact key
    ·rw[hZ h1]at l1;by_cases h2:n<10000000000000000
     ·rw[bA h2]at l2;(repeat((conv=>lhs;whnf);simp only[go_sem,simprocAttr,d1,d2,l1,l2,hd]));exact key
     ·rw[hZ h2]at l2;(repeat((conv=>lhs;whnf);simp only[go_sem,simprocAttr,d1,d2,l1,l2,hd]));exact key
theorem zGZ {m n:Nat} {va vb:PV} (ha:zs m va) (hb:zs n vb) (hm:(dec m).length≤800000) (hn:(dec n).length≤800000) : ∃g,zs (Nat.gcd m n) g∧callL Tryz.prog zD 150 [va,vb]=some g:=by
 obtain⟨g,hg,key⟩:=zGY n m n va vb (bF _) hm hn ha hb;refine⟨g,hg,?_⟩;refine FX.callL (r:=(g,[])) ok150_ 1000 rfl rfl ?_ (hg.plain.2 _);(repeat((conv=>lhs;whnf);simp only[go_sem,simprocAttr]));exact key
theorem zIF {m n:Nat} {va vb:PV} (ha:zs m va) (hb:zs n vb) (hm:(dec m).length≤800000) (hn:(dec n).length≤800000) : ∃g,zs (Nat.gcd m n) g∧∀S,zO (callL Tryz.prog zD) S 150 [va,vb]=some {v:=g} := by
 obtain⟨g,hg,h⟩:=zGZ ha hb hm hn;exact⟨g,hg,fun S=>zF (S:=S) h (by simp[ha.plain,hb.plain])⟩
end
end
section
def sg (neg:Bool) (n:Nat):Int:=if neg then -(n:Int) else n
theorem jx (neg:Bool) (n:Nat):(sg neg n).natAbs=n:=by cases neg <;> simp[sg]
theorem zLR (q:Rat):sg (decide (q.num<0)) q.num.natAbs=q.num:=by
 unfold sg;by_cases h:q.num<0
 ·simp[h];omega
 ·simp[h];omega
theorem zN5 (neg:Bool) {n d:Nat} (hn:n≠0) (hd:d≠0):xY (mkRat (sg neg n) d)=ku neg (words (n / Nat.gcd n d)) (words (d / Nat.gcd n d)):=by
 unfold xY;have h1:decide ((mkRat (sg neg n) d).num<0)=neg:=by
  have:=VC neg n hd;have e:(if neg=true then -(n:Int) else n)=sg neg n:=rfl;rw[e]at this;cases neg with
  | true=>exact bH (this.2 ⟨rfl,hn⟩)
  | false=>exact bI (fun h=>by have:=(this.1 h).1;cases this)
 rw[h1,Ks hd,Kt hd,jx]
theorem Vz:xY 0=ku false [] [1]:=by
 unfold xY;have h1:words (0:Rat).num.natAbs=[]:=(vL WB2).2 rfl;have h2:words (0:Rat).den=[1]:=jP;rw[h1,h2];rfl
theorem zIG (b:Bool):sg b 0=0:=by cases b <;> rfl
theorem U5 (b:Bool) (x y:Nat):sg b x+sg b y=sg b (x+y):=by cases b <;> simp[sg] <;> omega
theorem zAW {b c:Bool} (h:b≠c) {x y:Nat} (hxy:y≤x):sg b x+sg c y=sg b (x-y):=by
 cases b <;> cases c <;> simp[sg]at h ⊢ <;> omega
theorem zAX {b c:Bool} (h:b≠c) {x y:Nat} (hxy:x≤y):sg b x+sg c y=sg c (y-x):=by
 cases b <;> cases c <;> simp[sg]at h ⊢ <;> omega
theorem zPW (b c:Bool) (x y:Nat):sg b x*sg c y=sg (b != c) (x*y):=by
 cases b <;> cases c <;> simp[sg,sR,Int.neg_mul,Int.mul_neg]
theorem JJ (b:Bool) (x y:Nat):sg b x*(y:Int)=sg b (x*y):=by
 cases b <;> simp[sg,sR,Int.neg_mul]
def yT (q:Rat):Bool:=decide (q.num<0)
theorem zJI (q:Rat):sg (yT q) q.num.natAbs=q.num:=zLR q
theorem vA (q r:Rat):q+r=mkRat (sg (yT q) (q.num.natAbs*r.den)+sg (yT r) (r.num.natAbs*q.den)) (q.den*r.den):=by
 rw[←JJ,←JJ,zJI,zJI];exact Rat.add_def' q r
theorem Y0 {q r:Rat} (h:q.den=r.den):q+r=mkRat (sg (yT q) q.num.natAbs+sg (yT r) r.num.natAbs) q.den:=by
 rw[zJI,zJI];exact zBZ h
theorem WU (q r:Rat):q*r=mkRat (sg (yT q != yT r) (q.num.natAbs*r.num.natAbs)) (q.den*r.den):=by
 rw[←zPW,zJI,zJI];exact Rat.mul_def' q r
theorem zLS (q:Rat):xY (-q)=ku (!(yT q)&&decide (q.num.natAbs≠0)) (words q.num.natAbs) (words q.den):=by
 unfold xY yT;have h1:decide ((-q).num<0)=(!(decide (q.num<0))&&decide (q.num.natAbs≠0)):=by
  rw[Rat.neg_num]
  rcases Int.lt_trichotomy q.num 0 with h | h | h
  ·simp[h];omega
  ·simp[h]
  ·have a1 : ¬q.num<0:=by omega
   have a2:q.num.natAbs≠0:=by omega
   simp[a1,a2];omega
 rw[h1,Rat.neg_num,Rat.neg_den,Int.natAbs_neg]
theorem zLT {q:Rat} (h:q≠0):xY q⁻¹ = ku (yT q) (words q.den) (words q.num.natAbs):=by
 obtain⟨h1,h2⟩:=YV h;unfold xY yT;have hd:=q.den_nz;have e1:decide (q⁻¹.num<0)=decide (q.num<0):=by
  rw[h1];by_cases c:q.num<0
  ·simp[c];omega
  ·simp[c]
 have e2:q⁻¹.num.natAbs=q.den:=by
  rw[h1];split <;> simp
 rw[e1,e2,h2]
@[go_sem] theorem zQb (n:Nat):zW (tyi Tryz.prog 27) n=some {v:=.mp n 0 0,new:=some ([[.bool false,.sl [] true,.sl [] true]],none)} := nr (by unfold zW;rw[zDh];rfl)
@[go_sem] theorem zQc (l:List (Nat × PV)):zX Tryz.prog 27 l=(qd [(0,1,false),(1,1,false),(2,1,false)] [.bool false,.sl [] true,.sl [] true] l).map .agg:=nr (by unfold zX;rw[jC];dsimp only;unfold ze;rw[jC,zDh];rfl)
@[go_sem] theorem zR7 (id i off:Nat):zA (tyi Tryz.prog 27) 0 (.mp id i off)=some (.mp id i (off+0)):=by simp[zA,jC]
@[go_sem] theorem zR8 (r:List PV):zA (tyi Tryz.prog 27) 0 (.cp r)=some (.cp (r.drop 0)):=by simp[zA,jC]
@[go_sem] theorem zR9 (cs:List PV):zK (tyi Tryz.prog 27) 0 (.agg cs)=cs[0]? := by simp[zK,jC]
@[go_sem] theorem zRa (id i off:Nat):zA (tyi Tryz.prog 27) 1 (.mp id i off)=some (.mp id i (off+1)):=by simp[zA,jC]
@[go_sem] theorem zRb (r:List PV):zA (tyi Tryz.prog 27) 1 (.cp r)=some (.cp (r.drop 1)):=by simp[zA,jC]
@[go_sem] theorem zRc (cs:List PV):zK (tyi Tryz.prog 27) 1 (.agg cs)=cs[1]? := by simp[zK,jC]
@[go_sem] theorem zRd (id i off:Nat):zA (tyi Tryz.prog 27) 2 (.mp id i off)=some (.mp id i (off+2)):=by simp[zA,jC]
@[go_sem] theorem zRe (r:List PV):zA (tyi Tryz.prog 27) 2 (.cp r)=some (.cp (r.drop 2)):=by simp[zA,jC]
@[go_sem] theorem zRf (cs:List PV):zK (tyi Tryz.prog 27) 2 (.agg cs)=cs[2]? := by simp[zK,jC]
theorem KD {S:zB} {b e1 e2:Bool} {i j m n:Nat} {N D:List Int} (h1:zl S i=some (zE .u32 N)) (hN:N.length=m) (h2:zl S j=some (zE .u32 D)) (hD:D.length=n):vI S (.agg [.bool b,.msl i 0 m e1,.msl j 0 n e2])=some (ku b N D):=by
 have k1:=Wz (ex:=e1) h1 hN 6;have k2:=Wz (ex:=e2) h2 hD 6
 show (xf (vH S 8) [.bool b,.msl i 0 m e1,.msl j 0 n e2]).map PV.agg=_
 simp only[zIk,zKh,k1,k2,zDW,zIl,zKi];rfl
theorem U6 (d:Nat):mkRat 0 d=0:=by simp
section
attribute [local irreducible] Vs.callL Vs.callRL tyi zO zn zg zR zY za zI zZ zA zK ze zX zG zJ zW zr yJ zq zL zf Vs.gc zH
noncomputable def zRg:FX:=⟨Tryz.f54,zD.of 54,[]⟩
instance ok54_:zRg.ok 54:=FX.mk'
theorem Za:callL Tryz.prog zD 54 []=some (xY 0):=by
 rw[Vz];refine FX.callL (r:=(.agg [.bool false,.sl [] true,.msl 1 0 1 true],[.arr [[.bool false,.sl [] true,.msl 1 0 1 true]] none false,.arr (zE .u32 [1]) (some (some 1)) false])) ok54_ 1000 rfl rfl ?_ ?_
 ·((repeat((conv=>lhs;whnf);simp only[go_sem,simprocAttr]));try rfl)
 ·rfl
noncomputable def zPX:FX:=⟨Tryz.f144,zD.of 144,[]⟩
instance ok144_:zPX.ok 144:=FX.mk'
theorem Xx {neg:Bool} {n d:Nat} {va vb:PV} (ha:yI n va) (hb:yI d vb) (hd:d≠0) (hn:(words n).length≤900000) (hdl:(words d).length≤900000):callL Tryz.prog zD 144 [.bool neg,va,vb]=some (xY (mkRat (sg neg n) d)):=by
 by_cases h0:n=0
 ·subst h0;rw[zIG,U6,Vz];have cz:=fun S=>zF (S:=S) Za (by simp);rw[Vz]at cz;have l0:(words 0).length=0:=xE.2 rfl;obtain⟨e1,rfl,p1⟩:=ha.form;unfold yD ku at *;refine FX.callL (r:=(ku false [] [1],[.arr [[.bool false,.sl (zE .u32 []) false,.sl (zE .u32 [1]) false]] none false])) ok144_ 1000 rfl rfl ?_ rfl;unfold ku;((repeat((conv=>lhs;whnf);simp only[go_sem,simprocAttr,l0,cz]));try rfl)
 ·rw[zN5 neg h0 hd];have l0 : ¬(words n).length=0:=fun e=>h0 (xE.1 e);have l0' : ¬((words n).length:Int)=0:=by omega
  have cg:=fun S=>zF (S:=S) (zDg ha hb hn hdl) (by simp[ha.plain,hb.plain]);have hg0:Nat.gcd n d≠0:=fun e=>hd (AF e);have hgl:(words (Nat.gcd n d)).length≤900000:=bO (vM (PG (by omega) (SN n d))) hdl;have hdm:(words n).length≤900000∧(words d).length≤900000:=⟨hn,hdl⟩;by_cases h1:Nat.gcd n d=1
  ·rw[h1,PY,PY];rw[h1]at cg;have w1:yM 1=.sl (zE .u32 [1]) false:=by unfold yM;rw[jP]
   rw[w1]at cg;obtain⟨e1,rfl,p1⟩:=ha.form;obtain⟨e2,rfl,p2⟩:=hb.form;have ap1:=fun S=>wC.appNil 0 S (RowsV.sl (S:=S) (zE .u32 (words n)) e1) (xp _ _) (by rw[zQ];omega) (by rw[zQ];omega);have ap2:=fun S=>wC.appNil 0 S (RowsV.sl (S:=S) (zE .u32 (words d)) e2) (xp _ _) (by rw[zQ];omega) (by rw[zQ];omega);refine FX.callL (r:=(.agg [.bool neg,.msl 1 0 (words n).length false,.msl 2 0 (words d).length false],[.arr [[.bool neg,.msl 1 0 (words n).length false,.msl 2 0 (words d).length false]] none false,.arr (zE .u32 (words n)) (some (some 1)) false,.arr (zE .u32 (words d)) (some (some 1)) false])) ok144_ 1000 rfl rfl ?_ ?_
   ·unfold yD at *;((repeat((conv=>lhs;whnf);simp only[go_sem,simprocAttr,l0,l0',cg,ap1,ap2]));try rfl)
   ·exact KD rfl rfl rfl rfl
  ·obtain⟨q1,r1,iq1,_,d1⟩:=YU ha (yI.of (Nat.gcd n d)) hg0 hn hgl;obtain⟨q2,r2,iq2,_,d2⟩:=YU hb (yI.of (Nat.gcd n d)) hg0 hdl hgl;have hq1:(words (n / Nat.gcd n d)).length≤900000:=bO (vM (HV _ _)) hn;have hq2:(words (d / Nat.gcd n d)).length≤900000:=bO (vM (HV _ _)) hdl;obtain⟨e1,rfl,p1⟩:=ha.form;obtain⟨e2,rfl,p2⟩:=hb.form;obtain⟨e3,rfl,p3⟩:=iq1.form;obtain⟨e4,rfl,p4⟩:=iq2.form;have ap1:=fun S=>wC.appNil 0 S (RowsV.sl (S:=S) (zE .u32 (words (n / Nat.gcd n d))) e3) (xp _ _) (by rw[zQ];omega) (by rw[zQ];omega);have ap2:=fun S=>wC.appNil 0 S (RowsV.sl (S:=S) (zE .u32 (words (d / Nat.gcd n d))) e4) (xp _ _) (by rw[zQ];omega) (by rw[zQ];omega);have hmv:yM (Nat.gcd n d)=.sl (zE .u32 (words (Nat.gcd n d))) false:=rfl;refine FX.callL (r:=(.agg [.bool neg,.msl 1 0 (words (n / Nat.gcd n d)).length false,.msl 2 0 (words (d / Nat.gcd n d)).length false],[.arr [[.bool neg,.msl 1 0 (words (n / Nat.gcd n d)).length false,.msl 2 0 (words (d / Nat.gcd n d)).length false]] none false,.arr (zE .u32 (words (n / Nat.gcd n d))) (some (some 1)) false,.arr (zE .u32 (words (d / Nat.gcd n d))) (some (some 1)) false])) ok144_ 1000 rfl rfl ?_ (KD rfl rfl rfl rfl);unfold yD at *;rw[hmv]at cg d1 d2;by_cases hl:(words (Nat.gcd n d)).length=1
   ·have x0:0≤(0:Int)∧(0:Int)<((words (Nat.gcd n d)).length:Int):=⟨by omega,by omega⟩;have hne : ¬(words (Nat.gcd n d)).getD 0 0=1:=fun e=>h1 (by
     have:=(YW hl).2 e;have e2:words (Nat.gcd n d)=words 1:=by rw[this,jP]
     exact zKr WB2 e2)
    ((repeat((conv=>lhs;whnf);simp only[go_sem,simprocAttr,l0,l0',cg,hl,x0,sI,hne,d1,d2,ap1,ap2]));try rfl)
   ·have hl' : ¬((words (Nat.gcd n d)).length:Int)=1:=by omega
    ((repeat((conv=>lhs;whnf);simp only[go_sem,simprocAttr,l0,l0',cg,hl,hl',d1,d2,ap1,ap2]));try rfl)
end
end
section
def jy:List Int→List Int→Int→List Int
 | [],_,_=>[]
 | x::a,b,c=>(c+x+b.headD 0) % 4294967296::jy a b.tail ((c+x+b.headD 0) / 4294967296)
def jz:List Int→List Int→Int→Int
 | [],_,c=>c
 | x::a,b,c=>jz a b.tail ((c+x+b.headD 0) / 4294967296)
theorem zEF : ∀(a b:List Int) (c:Int),OkD WB a→OkD WB b→b.length≤a.length→(c=0∨c=1)→OkD WB (jy a b c)∧(jy a b c).length=a.length∧(jz a b c=0∨jz a b c=1)∧zM WB (jy a b c)+(4294967296:Int)^a.length*jz a b c=zM WB a+zM WB b+c
 | [],b,c,ha,hb,hl,hc=>by
  have:b=[]:=pL (by simpa using hl);subst this;refine⟨.nil _,rfl,hc,?_⟩;simp[jy,jz,zM]
 | x::a,b,c,ha,hb,hl,hc=>by
  have hx:=ha.head;have hx':x<4294967296:=hx.2;have hh:=Kj hb;have hbt:b.tail.length≤a.length:=by simp only[bL]at hl;rw[SY];omega
  obtain⟨i1,i2,i3,i4⟩:=zEF a b.tail ((c+x+b.headD 0) / 4294967296) ha.tail (zBO hb) hbt (by omega);refine⟨.cons ⟨by omega,by show _<((4294967296:Nat):Int);omega⟩ i1,by simp only[jy,bL,i2],i3,?_⟩;have e1:zM WB (x::a)=x+4294967296*zM WB a:=rfl;have e2:=zBP b;have e3:zM WB (jy (x::a) b c)=(c+x+b.headD 0) % 4294967296+4294967296*zM WB (jy a b.tail ((c+x+b.headD 0) / 4294967296)):=rfl;have e4:jz (x::a) b c=jz a b.tail ((c+x+b.headD 0) / 4294967296):=rfl;rw[e3,e4,e1,e2,bL,aA];generalize jz a b.tail ((c+x+b.headD 0) / 4294967296)=s at *;generalize (4294967296:Int)^a.length=P at *;rw[pK P 4294967296,pM];generalize P*s=Q at *;omega
section
attribute [local irreducible] Vs.callL Vs.callRL tyi zO zn zg zR zY za zI zZ zA zK ze zX zG zJ zW zr yJ zq zL zf Vs.gc zH
noncomputable def zG0:FX:=⟨Tryz.f166,zD.of 166,[]⟩
instance ok166_:zG0.ok 166:=FX.mk'
theorem zLU (A B:List Int) (e1 e2:Bool) (hA:OkD WB A) (hB:OkD WB B) (hl:B.length≤A.length) (hm:A.length≤1000000) (fs:List Fr) {z:PV × zB} (hz:yB 0 zG0 0 fs [(0,.sl (zE .u32 A) e1),(1,.undef),(5,.msl 0 0 (A.length+1) true),(6,.int .u64 (jz A B 0)),(20,.undef),(21,.undef),(22,.undef),(23,.undef)] [.arr (zE .u32 (jy A B 0++[0])) (some (some 1)) false]=some z) : ∀(m i:Nat),i+m=A.length→∀(D:List Int) (c:Int),D.length=i→(c=0∨c=1)→D++jy (A.drop i) (B.drop i) c=jy A B 0→jz (A.drop i) (B.drop i) c=jz A B 0 →
  zU 0 zG0 0 500 1 fs [(0,.sl (zE .u32 A) e1),(1,.sl (zE .u32 B) e2),(5,.msl 0 0 (A.length+1) true),(6,.int .u64 c),(20,.sl (zE .u32 A) e1),(21,.int .i64 A.length),(22,.int .i64 i)] [.arr (zE .u32 (D++List.replicate (m+1) 0)) (some (some 1)) false]=some z:=by
 have hM:=xZ;have hM2:2000000≤maxLen:=by decide
 intro m
 induction m with
 | zero =>
  intro i hi D c hD hc hs ht;have h1 : ¬(i:Int)<(A.length:Int):=by omega
  have hd:A.drop i=[]:=bU (by omega);rw[hd]at hs ht;simp only[jy,jz,pX]at hs ht;subst hs ht;apply zC;simp only[pC,List.replicate_one];(repeat((conv=>lhs;whnf);simp only[go_sem,simprocAttr,h1]));exact hz
 | succ m ih =>
  intro i hi D c hD hc hs ht;have h1:(i:Int)<(A.length:Int):=by omega
  have w1:=zi (i:=i) (n:=A.length) (by omega) (by omega);have x1:0≤(i:Int)∧(i:Int)<(A.length:Int):=⟨by omega,h1⟩;have ha:=hA.getD (by decide) i;have hb:=hB.getD (by decide) i;have ha':A.getD i 0<4294967296:=ha.2;have hb':B.getD i 0<4294967296:=hb.2;have hd:=xA A (k:=i) (by omega);have hbh:(B.drop i).headD 0=B.getD i 0:=by
   by_cases hib:i<B.length
   ·rw[xA B hib];rfl
   ·rw[bU (by omega),bM,sE (by omega)];rfl
  have hbt:(B.drop i).tail=B.drop (i+1):=PP;rw[hd]at hs ht;have es:jy (A.getD i 0::A.drop (i+1)) (B.drop i) c=(c+A.getD i 0+B.getD i 0) % 4294967296::jy (A.drop (i+1)) (B.drop (i+1)) ((c+A.getD i 0+B.getD i 0) / 4294967296):=by
   rw[jy,hbh,hbt]
  have et:jz (A.getD i 0::A.drop (i+1)) (B.drop i) c=jz (A.drop (i+1)) (B.drop (i+1)) ((c+A.getD i 0+B.getD i 0) / 4294967296):=by
   rw[jz,hbh,hbt]
  rw[es]at hs;rw[et]at ht;have key:=ih (i+1) (by omega) (D++[(c+A.getD i 0+B.getD i 0) % 4294967296]) ((c+A.getD i 0+B.getD i 0) / 4294967296) (by simp[hD]) (by omega) (by simpa using hs) ht;have set : ∀v:Int,(zE .u32 (D++List.replicate (m+1+1) 0)).set i [.int .u32 v]=zE .u32 ((D++[v])++List.replicate (m+1) 0):=fun v=>by
   rw[xc]
   congr 1
   rw[aD,hZ (by omega),hD,aB,HH,aG];simp
  have xm:=wC.idxmk .u32 (S:=[.arr (zE .u32 (D++List.replicate (m+1+1) 0)) (some (some 1)) false]) (id:=0) (off:=0) (n:=A.length+1) (ex:=true) (L:=D++List.replicate (m+1+1) 0) i rfl (by simp;omega) (by omega);have len:i<(D++List.replicate (m+1+1) (0:Int)).length:=by simp;omega
  have len1:((zE .u32 (D++List.replicate (m+1+1) 0)).getD i []).length=1:=by
   rw[yt _ _ (by simp;omega)];rfl
  have cu:IntKind.u64.wrap (A.getD i 0)=A.getD i 0:=by rw[xL];omega
  have cb:IntKind.u64.wrap (B.getD i 0)=B.getD i 0:=by rw[xL];omega
  have v0:IntKind.u64.wrap (c+A.getD i 0)=c+A.getD i 0:=by rw[xL];omega
  apply zC;by_cases hib:i<B.length
  ·have h2:(i:Int)<(B.length:Int):=by omega
   have x2:0≤(i:Int)∧(i:Int)<(B.length:Int):=⟨by omega,h2⟩;have v1:IntKind.u64.wrap (c+A.getD i 0+B.getD i 0)=c+A.getD i 0+B.getD i 0:=by rw[xL];omega
   have v2:IntKind.u32.wrap (c+A.getD i 0+B.getD i 0)=(c+A.getD i 0+B.getD i 0) % 4294967296:=by rw[pV]
   (repeat((conv=>lhs;whnf);simp only[go_sem,simprocAttr,h1,x1,bD,cu,cb,h2,x2,xm,v0,v1,v2,set,len,len1,w1,zQ,zm]));exact key
  ·have h2 : ¬(i:Int)<(B.length:Int):=by omega
   have hb0:B.getD i 0=0:=by rw[bM,sE (by omega)];rfl
   rw[hb0,PR]at key;have v2:IntKind.u32.wrap (c+A.getD i 0)=(c+A.getD i 0) % 4294967296:=by rw[pV]
   (repeat((conv=>lhs;whnf);simp only[go_sem,simprocAttr,h1,x1,bD,cu,h2,xm,v0,v2,set,len,len1,w1,zQ,zm]));exact key
theorem U7 (m n:Nat) (e1 e2:Bool) (sw:Bool) (hl:(words n).length≤(words m).length) (hm:(words m).length≤900000) (hs:sw=true→(words n).length<(words m).length):callL Tryz.prog zD 166 (if sw then [yD n e2,yD m e1] else [yD m e1,yD n e2])=some (yM (m+n)):=by
 have hM:2000000≤maxLen:=by decide
 obtain⟨i1,i2,i3,i4⟩:=zEF (words m) (words n) 0 (xG m) (xG n) hl (.inl rfl);have hok:OkD WB (jy (words m) (words n) 0++[jz (words m) (words n) 0]):=i1.append (.cons ⟨by omega,by show _<((4294967296:Nat):Int);omega⟩ (.nil _));have hv:(zM WB (jy (words m) (words n) 0++[jz (words m) (words n) 0])).toNat=m+n:=by
  rw[zw,i2];have e0:(((WB:Nat):Int))=(4294967296:Int):=rfl;have e1:zM WB [jz (words m) (words n) 0]=jz (words m) (words n) 0:=by simp[zM]
  rw[e1,e0,i4,xU,xU];omega
 have ct:=ws (by simp;omega) hok;rw[hv]at ct;have hol:(jy (words m) (words n) 0++[jz (words m) (words n) 0]).length=(words m).length+1:=by simp[i2]
 have c1:=wW (S:=[.arr (zE .u32 (jy (words m) (words n) 0++[jz (words m) (words n) 0])) (some (some 1)) false]) (id:=0) (n:=(words m).length+1) (ex:=true) ct rfl hol (by simp);have mk:=fun id=>ZQ id ((words m).length+1) (by omega);have w1:IntKind.i64.wrap (((words m).length:Int)+1)=(((words m).length+1:Nat):Int):=by rw[bE];omega
 have set:(zE .u32 (jy (words m) (words n) 0++[0])).set (words m).length [.int .u32 (jz (words m) (words n) 0)]=zE .u32 (jy (words m) (words n) 0++[jz (words m) (words n) 0]):=by
  rw[xc]
  congr 1
  rw[aD,hZ (by omega),i2,aB,aG]
 have xm:=wC.idxmk .u32 (S:=[.arr (zE .u32 (jy (words m) (words n) 0++[0])) (some (some 1)) false]) (id:=0) (off:=0) (n:=(words m).length+1) (ex:=true) (L:=jy (words m) (words n) 0++[0]) (words m).length rfl (by simp[i2]) (by omega);have len:(words m).length<(jy (words m) (words n) 0++[(0:Int)]).length:=by simp[i2]
 have len1:((zE .u32 (jy (words m) (words n) 0++[0])).getD (words m).length []).length=1:=by
  rw[yt _ _ len];rfl
 have cc:IntKind.u32.wrap (jz (words m) (words n) 0)=jz (words m) (words n) 0:=by rw[pV];omega
 have key:=zLU (words m) (words n) e1 e2 (xG m) (xG n) hl (by omega) [.blk 0,.seq 0 63] (z:=(yM (m+n),[.arr (zE .u32 (jy (words m) (words n) 0++[jz (words m) (words n) 0])) (some (some 1)) true])) (by
  apply zN;((repeat((conv=>lhs;whnf);simp only[go_sem,simprocAttr,cc,xm,len,len1,set,c1,zQ,zm]));try rfl)) (words m).length 0 (by omega) [] 0 rfl (.inl rfl) (by simp) (by simp)
 refine FX.callL (r:=(yM (m+n),[.arr (zE .u32 (jy (words m) (words n) 0++[jz (words m) (words n) 0])) (some (some 1)) true])) ok166_ 1000 (by cases sw <;> rfl) rfl ?_ (wr _ _);unfold yD at *;cases sw with
 | true =>
  have c:=hs rfl;have c':((words n).length:Int)<(words m).length:=by omega
  simp only[if_true];(repeat((conv=>lhs;whnf);simp only[go_sem,simprocAttr,c,c',w1,mk]));exact key
 | false =>
  have c : ¬(words m).length<(words n).length:=by omega
  have c' : ¬((words m).length:Int)<(words n).length:=by omega
  simp only[bZ,if_false];(repeat((conv=>lhs;whnf);simp only[go_sem,simprocAttr,c,c',w1,mk]));exact key
theorem zN6 {m n:Nat} {a b:PV} (ha:yI m a) (hb:yI n b) (hm:(words m).length≤900000) (hn:(words n).length≤900000) (S:zB):zO (callL Tryz.prog zD) S 166 [a,b]=some {v:=yM (m+n)} := by
 obtain⟨e1,rfl,h1⟩:=ha.form;obtain⟨e2,rfl,h2⟩:=hb.form;by_cases hl:(words m).length<(words n).length
 ·have:=U7 n m e2 e1 true (by omega) hn (fun _=>hl);rw[Nat.add_comm]at this;exact zF (S:=S) this (by simp[h1,h2])
 ·exact zF (S:=S) (U7 m n e1 e2 false (by omega) hm (fun h=>by cases h)) (by simp[h1,h2])
end
end
section
def wB (q:Rat) (k:Nat):Prop:=(words q.num.natAbs).length≤k∧(words q.den).length≤k
theorem wB.mono {q:Rat} {j k:Nat} (h:wB q j) (hk:j≤k):wB q k:=⟨bO h.1 hk,bO h.2 hk⟩
theorem wT (q:Rat):xY q=.agg [.bool (yT q),yD q.num.natAbs false,yD q.den false]:=rfl
theorem jS (S:zB) (n:Nat) (e:Bool) (hn:(words n).length≤1000000):zR Tryz.prog 0 25 25 S (.sl [] true) (.sl (zE .u32 (words n)) e)=some {v:=.msl S.length 0 (words n).length false,S:=S++[.arr (zE .u32 (words n)) (some (some 1)) false]} := by
 have:=wC.appNil 0 S (RowsV.sl (S:=S) (zE .u32 (words n)) e) (xp _ _) (by rw[zQ];omega) (by rw[zQ];omega);rw[zQ]at this;exact this
section
attribute [local irreducible] Vs.callL Vs.callRL tyi zO zn zg zR zY za zI zZ zA zK ze zX zG zJ zW zr yJ zq zL zf Vs.gc zH
noncomputable def zRh:FX:=⟨Tryz.f63,zD.of 63,[]⟩
instance ok63_:zRh.ok 63:=FX.mk'
theorem Zb (q:Rat) (hq:wB q 900000):callL Tryz.prog zD 63 [xY q]=some (xY q):=by
 have a1:=fun S=>jS S q.num.natAbs false (by have:=hq.1;omega);have a2:=fun S=>jS S q.den false (by have:=hq.2;omega);refine FX.callL (r:=(.agg [.bool (yT q),.msl 2 0 (words q.num.natAbs).length false,.msl 3 0 (words q.den).length false],[.arr [[.bool (yT q),yD q.num.natAbs false,yD q.den false]] none false,.arr [[.bool (yT q),.msl 2 0 (words q.num.natAbs).length false,.msl 3 0 (words q.den).length false]] none false,.arr (zE .u32 (words q.num.natAbs)) (some (some 1)) false,.arr (zE .u32 (words q.den)) (some (some 1)) false])) ok63_ 1000 rfl rfl ?_ (KD rfl rfl rfl rfl);rw[wT];unfold yD;((repeat((conv=>lhs;whnf);simp only[go_sem,simprocAttr,a1,a2]));try rfl)
noncomputable def zPY:FX:=⟨Tryz.f142,zD.of 142,[]⟩
instance ok142_:zPY.ok 142:=FX.mk'
theorem zB4 (q:Rat) (hq:wB q 900000):callL Tryz.prog zD 142 [xY q]=some (xY (-q)):=by
 have cc:=fun S=>zF (S:=S) (Zb q hq) (by simp[uK]);rw[wT]at cc;rw[zLS,wT];have l0:(0:Int)<((words q.num.natAbs).length:Int)↔q.num.natAbs≠0:=by
  have:=xE (n:=q.num.natAbs);omega
 have l1:0<(words q.num.natAbs).length↔q.num.natAbs≠0:=by
  have:=xE (n:=q.num.natAbs);omega
 refine FX.callL (r:=(ku (!(yT q)&&decide (q.num.natAbs≠0)) (words q.num.natAbs) (words q.den),[.arr [[.bool (!(yT q)&&decide (q.num.natAbs≠0)),yD q.num.natAbs false,yD q.den false]] none false,.arr [[.bool (!(yT q)&&decide (q.num.natAbs≠0)),yD q.num.natAbs false,yD q.den false]] none false])) ok142_ 1000 rfl rfl ?_ rfl;unfold yD at *;unfold ku
 cases hn:yT q with
 | true =>
  simp only[hn]at cc;((repeat((conv=>lhs;whnf);simp only[go_sem,simprocAttr,cc,l0]));try rfl)
 | false =>
  simp only[hn]at cc;by_cases h0:q.num.natAbs=0
  ·have w0 : ¬(0:Int)<((words q.num.natAbs).length:Int):=by rw[l0];simp[h0]
   have w1 : ¬ 0<(words q.num.natAbs).length:=by rw[l1];simp[h0]
   simp only[h0,ne_eq,not_true_eq_false,decide_false,bQ];rw[h0]at w0 w1 cc;((repeat((conv=>lhs;whnf);simp only[go_sem,simprocAttr,cc,w0,w1]));try rfl)
  ·have w0:(0:Int)<((words q.num.natAbs).length:Int):=l0.2 h0;have w1:0<(words q.num.natAbs).length:=l1.2 h0;simp only[h0,ne_eq,not_false_eq_true,decide_true,pD,bK];((repeat((conv=>lhs;whnf);simp only[go_sem,simprocAttr,cc,w0,w1]));try rfl)
noncomputable def zPZ:FX:=⟨Tryz.f101,zD.of 101,[]⟩
instance ok101_:zPZ.ok 101:=FX.mk'
theorem zB5 (q:Rat) (hq:wB q 900000) (h0:q≠0):callL Tryz.prog zD 101 [xY q]=some (xY q⁻¹):=by
 have a1:=fun S=>jS S q.num.natAbs false (by have:=hq.1;omega);have a2:=fun S=>jS S q.den false (by have:=hq.2;omega);rw[zLT h0];refine FX.callL (r:=(.agg [.bool (yT q),.msl 2 0 (words q.den).length false,.msl 3 0 (words q.num.natAbs).length false],[.arr [[.bool (yT q),yD q.num.natAbs false,yD q.den false]] none false,.arr [[.bool (yT q),.msl 2 0 (words q.den).length false,.msl 3 0 (words q.num.natAbs).length false]] none false,.arr (zE .u32 (words q.den)) (some (some 1)) false,.arr (zE .u32 (words q.num.natAbs)) (some (some 1)) false])) ok101_ 1000 rfl rfl ?_ (KD rfl rfl rfl rfl);rw[wT];unfold yD;((repeat((conv=>lhs;whnf);simp only[go_sem,simprocAttr,a1,a2]));try rfl)
noncomputable def zRi:FX:=⟨Tryz.f56,zD.of 56,[]⟩
instance ok56_:zRi.ok 56:=FX.mk'
theorem QH (q:Rat) (w:Int):callL Tryz.prog zD 56 [xY q,.int .i64 w]=some (.bool (decide ((words q.num.natAbs).length≤w)&&decide ((words q.den).length≤w))):=by
 refine FX.callL (r:=(.bool (decide ((words q.num.natAbs).length≤w)&&decide ((words q.den).length≤w)),[.arr [[.bool (yT q),yD q.num.natAbs false,yD q.den false]] none false])) ok56_ 1000 rfl rfl ?_ rfl;rw[wT];unfold yD;by_cases h:((words q.num.natAbs).length:Int)≤w
 ·simp only[h,decide_true,bC];((repeat((conv=>lhs;whnf);simp only[go_sem,simprocAttr,h]));try rfl)
 ·simp only[h,decide_false,bB];((repeat((conv=>lhs;whnf);simp only[go_sem,simprocAttr,h]));try rfl)
end
end
section
theorem XG {neg:Bool} {n d:Nat} {va vb:PV} (ha:yI n va) (hb:yI d vb) (hd:d≠0) (hn:(words n).length≤900000) (hdl:(words d).length≤900000) (S:zB):zO (callL Tryz.prog zD) S 144 [.bool neg,va,vb]=some {v:=xY (mkRat (sg neg n) d)} :=
 zF (S:=S) (Xx ha hb hd hn hdl) (by simp[ha.plain,hb.plain,zh.bool])
theorem zAY {m n k:Nat} (hm:(words m).length≤k) (hn:(words n).length≤k):(words (m+n)).length≤k+1:=zD1 WB2 hm hn
structure AddFacts (b c:Bool) (X Y D:Nat) (vx vy vd:PV):Prop where
 cmp : ∀S,zO (callL Tryz.prog zD) S 115 [vx,vy]=some {v:=.int .i64 (xt X Y)}
 add : ∀S,zO (callL Tryz.prog zD) S 166 [vx,vy]=some {v:=yM (X+Y)}
 mkA:b=c→∀S,zO (callL Tryz.prog zD) S 144 [.bool b,yM (X+Y),vd]=some {v:=xY (mkRat (sg b X+sg c Y) D)}
 subG:Y≤X→∀S,zO (callL Tryz.prog zD) S 167 [vx,vy]=some {v:=yM (X-Y)}
 mkG:b≠c→Y≤X→∀S,zO (callL Tryz.prog zD) S 144 [.bool b,yM (X-Y),vd]=some {v:=xY (mkRat (sg b X+sg c Y) D)}
 subL:X<Y→∀S,zO (callL Tryz.prog zD) S 167 [vy,vx]=some {v:=yM (Y-X)}
 mkL:b≠c→X<Y→∀S,zO (callL Tryz.prog zD) S 144 [.bool c,yM (Y-X),vd]=some {v:=xY (mkRat (sg b X+sg c Y) D)}
theorem zEG (b c:Bool) {X Y D:Nat} {vx vy vd:PV} (iX:yI X vx) (iY:yI Y vy) (iD:yI D vd) (hD:D≠0) (hX:(words X).length≤800000) (hY:(words Y).length≤800000) (hd:(words D).length≤800000):AddFacts b c X Y D vx vy vd where
 cmp:=zBY iX iY (by omega) (by omega)
 add:=zN6 iX iY (by omega) (by omega)
 mkA:=fun h S=>by
  rw[←h,U5];exact XG (.of _) iD hD (bO (zAY hX hY) (by omega)) (by omega) S
 subG:=fun h=>KA iX iY h (by omega)
 mkG:=fun h1 h2 S=>by
  rw[zAW h1 h2];exact XG (.of _) iD hD (bO (vM (Nat.sub_le _ _)) (by omega)) (by omega) S
 subL:=fun h=>KA iY iX (by omega) (by omega)
 mkL:=fun h1 h2 S=>by
  rw[zAX h1 (by omega)];exact XG (.of _) iD hD (bO (vM (Nat.sub_le _ _)) (by omega)) (by omega) S
section
attribute [local irreducible] Vs.callL Vs.callRL tyi zO zn zg zR zY za zI zZ zA zK ze zX zG zJ zW zr yJ zq zL zf Vs.gc zH
noncomputable def zP0:FX:=⟨Tryz.f102,zD.of 102,[]⟩
instance ok102_:zP0.ok 102:=FX.mk'
theorem zB6 (q r:Rat) (hq:wB q 400000) (hr:wB r 400000):callL Tryz.prog zD 102 [xY q,xY r]=some (xY (q*r)):=by
 obtain⟨v1,i1,c1⟩:=ql (yI.of q.num.natAbs) (yI.of r.num.natAbs) (by have:=hq.1;omega) (by have:=hr.1;omega);obtain⟨v2,i2,c2⟩:=ql (yI.of q.den) (yI.of r.den) (by have:=hq.2;omega) (by have:=hr.2;omega);have mk:=XG (neg:=yT q != yT r) i1 i2 (PH q.den_nz r.den_nz) (bO (uW hq.1 hr.1) (by omega)) (bO (uW hq.2 hr.2) (by omega));rw[←WU]at mk;rw[show (yT q != yT r) = !(yT q == yT r) from rfl]at mk;refine FX.callL (r:=(xY (q*r),[.arr [[.bool (yT q),yD q.num.natAbs false,yD q.den false]] none false,.arr [[.bool (yT r),yD r.num.natAbs false,yD r.den false]] none false,.arr [[.bool (yT (q*r)),yD (q*r).num.natAbs false,yD (q*r).den false]] none false])) ok102_ 1000 rfl rfl ?_ rfl;simp only[wT]at mk ⊢;unfold yM at c1 c2;unfold yD at *;((repeat((conv=>lhs;whnf);simp only[go_sem,simprocAttr,c1,c2,mk]));try rfl)
noncomputable def zP1:FX:=⟨Tryz.f143,zD.of 143,[]⟩
instance ok143_:zP1.ok 143:=FX.mk'
theorem zB7 (q r:Rat) (hq:wB q 400000) (hr:wB r 400000):callL Tryz.prog zD 143 [xY q,xY r]=some (xY (q+r)):=by
 have cd:=zBY (yI.of q.den) (yI.of r.den) (by have:=hq.2;omega) (by have:=hr.2;omega);refine FX.callL (r:=(xY (q+r),[.arr [[.bool (yT q),yD q.num.natAbs false,yD q.den false]] none false,.arr [[.bool (yT r),yD r.num.natAbs false,yD r.den false]] none false,.arr [[.bool (yT (q+r)),yD (q+r).num.natAbs false,yD (q+r).den false]] none false])) ok143_ 1000 rfl rfl ?_ rfl;by_cases hd:q.den=r.den
 ·have c0:xt q.den r.den=0:=by unfold xt;rw[hZ (by omega),hZ (by omega)]
  rw[c0]at cd;have F:=zEG (yT q) (yT r) (yI.of q.num.natAbs) (yI.of r.num.natAbs) (yI.of q.den) q.den_nz (by have:=hq.1;omega) (by have:=hr.1;omega) (by have:=hq.2;omega);by_cases hs:yT q=yT r
  ·have f1:=F.add;have f2:=F.mkA hs;rw[←Y0 hd]at f2;simp only[wT]at f2 ⊢;unfold yM at cd f1 f2;unfold yD at *;have hb:(yT q == yT r)=true:=by simp[hs]
   ((repeat((conv=>lhs;whnf);simp only[go_sem,simprocAttr,cd,f1,f2,hb]));try rfl)
  ·have f0:=F.cmp;have hb:(yT q == yT r)=false:=by simpa using hs
   by_cases hc:r.num.natAbs≤q.num.natAbs
   ·have c:0≤xt q.num.natAbs r.num.natAbs:=by unfold xt;rw[hZ (by omega)];split <;> omega
    have f1:=F.subG hc;have f2:=F.mkG hs hc;rw[←Y0 hd]at f2;simp only[wT]at f2 ⊢;unfold yM at cd f0 f1 f2;unfold yD at *;((repeat((conv=>lhs;whnf);simp only[go_sem,simprocAttr,cd,f0,f1,f2,hb,c]));try rfl)
   ·have c : ¬ 0≤xt q.num.natAbs r.num.natAbs:=by unfold xt;rw[bA (by omega)];omega
    have f1:=F.subL (by omega);have f2:=F.mkL hs (by omega);rw[←Y0 hd]at f2;simp only[wT]at f2 ⊢;unfold yM at cd f0 f1 f2;unfold yD at *;((repeat((conv=>lhs;whnf);simp only[go_sem,simprocAttr,cd,f0,f1,f2,hb,c]));try rfl)
 ·have c0 : ¬xt q.den r.den=0:=by unfold xt;split <;> (try split) <;> omega
  obtain⟨vx,iX,k1⟩:=ql (yI.of q.num.natAbs) (yI.of r.den) (by have:=hq.1;omega) (by have:=hr.2;omega);obtain⟨vy,iY,k2⟩:=ql (yI.of r.num.natAbs) (yI.of q.den) (by have:=hr.1;omega) (by have:=hq.2;omega);obtain⟨vd,iD,k3⟩:=ql (yI.of q.den) (yI.of r.den) (by have:=hq.2;omega) (by have:=hr.2;omega);have F:=zEG (yT q) (yT r) iX iY iD (PH q.den_nz r.den_nz) (bO (uW hq.1 hr.2) (by omega)) (bO (uW hr.1 hq.2) (by omega)) (bO (uW hq.2 hr.2) (by omega));by_cases hs:yT q=yT r
  ·have f1:=F.add;have f2:=F.mkA hs;rw[←vA]at f2;simp only[wT]at f2 ⊢;unfold yM at cd k1 k2 k3 f1 f2;unfold yD at *;have hb:(yT q == yT r)=true:=by simp[hs]
   ((repeat((conv=>lhs;whnf);simp only[go_sem,simprocAttr,cd,c0,k1,k2,k3,f1,f2,hb]));try rfl)
  ·have f0:=F.cmp;have hb:(yT q == yT r)=false:=by simpa using hs
   by_cases hc:r.num.natAbs*q.den≤q.num.natAbs*r.den
   ·have c:0≤xt (q.num.natAbs*r.den) (r.num.natAbs*q.den):=by unfold xt;rw[hZ (by omega)];split <;> omega
    have f1:=F.subG hc;have f2:=F.mkG hs hc;rw[←vA]at f2;simp only[wT]at f2 ⊢;unfold yM at cd k1 k2 k3 f0 f1 f2;unfold yD at *;((repeat((conv=>lhs;whnf);simp only[go_sem,simprocAttr,cd,c0,k1,k2,k3,f0,f1,f2,hb,c]));try rfl)
   ·have c : ¬ 0≤xt (q.num.natAbs*r.den) (r.num.natAbs*q.den):=by unfold xt;rw[bA (by omega)];omega
    have f1:=F.subL (by omega);have f2:=F.mkL hs (by omega);rw[←vA]at f2;simp only[wT]at f2 ⊢;unfold yM at cd k1 k2 k3 f0 f1 f2;unfold yD at *;((repeat((conv=>lhs;whnf);simp only[go_sem,simprocAttr,cd,c0,k1,k2,k3,f0,f1,f2,hb,c]));try rfl)
end
end
section
section
attribute [local irreducible] Vs.callL Vs.callRL tyi zO zn zg zR zY za zI zZ zA zK ze zX zG zJ zW zr yJ zq zL zf Vs.gc zH
noncomputable def zP2:FX:=⟨Tryz.f145,zD.of 145,[]⟩
instance ok145_:zP2.ok 145:=FX.mk'
theorem zB8 (n:Nat) (hn:n<9223372036854775808):callL Tryz.prog zD 145 [.int .i64 n]=some (xY (n:Rat)):=by
 have f1:=Zs n (by omega);have mk:=XG (neg:=false) (yI.of n) (yI.of 1) (by decide) (bO (wy (by omega)) (by decide)) (bO (wy (by omega)) (by decide));have e:mkRat (sg false n) 1=(n:Rat):=by
  show mkRat (n:Int) 1=_
  rw[Rat.mkRat_one];rfl
 rw[e]at mk;have w1:yM 1=.sl (zE .u32 [1]) false:=by unfold yM;rw[jP]
 have hc:=Xx (neg:=false) (yI.of n) (yI.of 1) (by decide) (bO (wy (by omega)) (by decide)) (bO (wy (by omega)) (by decide));rw[e,w1]at hc;have mk0:=JA (S:=[.arr [[.bool false,.sl [] true,.sl [] true]] none false,.arr [[.int .u32 1]] (some (some 1)) false]) (l:=[.bool false,yM n,.msl 1 0 1 true]) (ids:=[1]) hc (by
  have h2:=(yI.of n).plain.2 [.arr [[.bool false,.sl [] true,.sl [] true]] none false,.arr [[.int .u32 1]] (some (some 1)) false];have hf:=uV (S:=[.arr [[.bool false,.sl [] true,.sl [] true]] none false,.arr [[.int .u32 1]] (some (some 1)) false]) (id:=1) (n:=1) (k:=.u32) (L:=[1]) (ex:=true) rfl rfl;simp only[xf,h2,bG,zIj,hf,pE]) (by
   have h2:=(yI.of n).plain.1;simp only[BN,List.flatMap_nil,h2];rfl) rfl
 have c : ¬(n:Int)<0:=by omega
 have w:IntKind.u64.wrap (n:Int)=n:=by rw[xL];omega
 refine FX.callL (r:=(xY (n:Rat),[.arr [[.bool (yT (n:Rat)),yD (n:Rat).num.natAbs false,yD (n:Rat).den false]] none false,.arr (zE .u32 [1]) (some (some 1)) true])) ok145_ 1000 rfl rfl ?_ rfl;simp only[wT]at mk0 ⊢;unfold yM at f1 mk0;unfold yD at *;((repeat((conv=>lhs;whnf);simp only[go_sem,simprocAttr,c,w,f1,mk0]));try rfl)
noncomputable def zP3:FX:=⟨Tryz.f103,zD.of 103,[]⟩
instance ok103_:zP3.ok 103:=FX.mk'
theorem zB9:callL Tryz.prog zD 103 []=some (xY 1):=by
 have c:=fun S=>zF (S:=S) (zB8 1 (by decide)) (by simp[zh.int]);refine FX.callL (r:=(xY 1,[.arr [[.bool (yT 1),yD (1:Rat).num.natAbs false,yD (1:Rat).den false]] none false])) ok103_ 1000 rfl rfl ?_ rfl;have e:((1:Nat):Rat)=1:=rfl;have e1:((1:Nat):Int)=1:=rfl;simp only[e,e1,wT]at c ⊢;unfold yD at *;((repeat((conv=>lhs;whnf);simp only[go_sem,simprocAttr,c]));try rfl)
end
end
section
theorem Ur:(tyi Tryz.prog 62).d=.struct [(0,1,false),(1,1,false),(2,1,false)]:=by kernel_rfl
@[go_sem] theorem zN7:(tyi Tryz.prog 62).size=3:=nr (by kernel_rfl)
@[go_sem] theorem zLV:(tyi Tryz.prog 62).known=true:=nr (by kernel_rfl)
@[go_sem] theorem zIH:(tyi Tryz.prog 62).zero=some [.bool false,.sl [] true,.sl [] true]:=nr (by kernel_rfl)
@[go_sem] theorem zRj (n:Nat):zW (tyi Tryz.prog 62) n=some {v:=.mp n 0 0,new:=some ([[.bool false,.sl [] true,.sl [] true]],none)} := nr (by unfold zW;rw[zIH];rfl)
@[go_sem] theorem zRk (l:List (Nat × PV)):zX Tryz.prog 62 l=(qd [(0,1,false),(1,1,false),(2,1,false)] [.bool false,.sl [] true,.sl [] true] l).map .agg:=nr (by unfold zX;rw[Ur];dsimp only;unfold ze;rw[Ur,zIH];rfl)
theorem zLW (row:List PV):part (tyi Tryz.prog 62) row=if 3≤row.length then some (.agg (row.take 3)) else none:=by simp[part,zLV,TI.isAgg,Ur,zN7]
@[go_sem] theorem zTe (id i off:Nat):zA (tyi Tryz.prog 62) 0 (.mp id i off)=some (.mp id i (off+0)):=by simp[zA,Ur]
@[go_sem] theorem zTf (r:List PV):zA (tyi Tryz.prog 62) 0 (.cp r)=some (.cp (r.drop 0)):=by simp[zA,Ur]
@[go_sem] theorem zTg (cs:List PV):zK (tyi Tryz.prog 62) 0 (.agg cs)=cs[0]? := by simp[zK,Ur]
@[go_sem] theorem zTh (id i off:Nat):zA (tyi Tryz.prog 62) 1 (.mp id i off)=some (.mp id i (off+1)):=by simp[zA,Ur]
@[go_sem] theorem zTi (r:List PV):zA (tyi Tryz.prog 62) 1 (.cp r)=some (.cp (r.drop 1)):=by simp[zA,Ur]
@[go_sem] theorem zTj (cs:List PV):zK (tyi Tryz.prog 62) 1 (.agg cs)=cs[1]? := by simp[zK,Ur]
@[go_sem] theorem zTk (id i off:Nat):zA (tyi Tryz.prog 62) 2 (.mp id i off)=some (.mp id i (off+2)):=by simp[zA,Ur]
@[go_sem] theorem zTl (r:List PV):zA (tyi Tryz.prog 62) 2 (.cp r)=some (.cp (r.drop 2)):=by simp[zA,Ur]
@[go_sem] theorem zTm (cs:List PV):zK (tyi Tryz.prog 62) 2 (.agg cs)=cs[2]? := by simp[zK,Ur]
attribute [go_sem] zLW
@[go_sem] theorem zRl (v:PV) (r:List PV):part (tyi Tryz.prog 60) (v::r)=some v:=by
 have k:(tyi Tryz.prog 60).known=true:=by kernel_rfl
 simp[part,k,TI.isAgg,wY.d]
def rrL (neg:Bool) (n d:Nat):PV:=.agg [.bool neg,zu n,zu d]
def rrV (q:Rat):PV:=rrL (yT q) q.num.natAbs q.den
theorem zJJ (neg:Bool) (n d:Nat):zh (rrL neg n d):=⟨rfl,fun _=>rfl⟩
theorem qA (q:Rat):zh (rrV q):=zJJ _ _ _
theorem zG1:dec 1=[1]:=by
 unfold dec;rw[vp DB2 (by decide)];have:1 / DB=0:=by decide
 rw[this,xI]
 decide
theorem JK:zu 1=.sl [[.int .i64 1]] false:=by unfold zu yN;rw[zG1];rfl
theorem zUe:yT 0=false:=rfl
theorem zUf:(0:Rat).num.natAbs=0:=rfl
theorem zUg:(0:Rat).den=1:=rfl
theorem zG2:yT 1=false:=rfl
theorem zUh:(1:Rat).num.natAbs=1:=rfl
theorem zUi:(1:Rat).den=1:=rfl
theorem zEH:rrV 0=.agg [.bool false,.sl [] false,.sl [[.int .i64 1]] false]:=by
 unfold rrV rrL;rw[zUe,zUf,zUg,Vx,JK]
theorem zN8:rrV 1=.agg [.bool false,.sl [[.int .i64 1]] false,.sl [[.int .i64 1]] false]:=by
 unfold rrV rrL;rw[zG2,zUh,zUi,JK]
theorem zP4 (neg:Bool) {n d:Nat} (hn:n≠0) (hd:d≠0):rrV (mkRat (sg neg n) d)=rrL neg (n / Nat.gcd n d) (d / Nat.gcd n d):=by
 unfold rrV;have h1:yT (mkRat (sg neg n) d)=neg:=by
  unfold yT;have:=VC neg n hd;have e:(if neg=true then -(n:Int) else n)=sg neg n:=rfl;rw[e]at this;cases neg with
  | true=>exact bH (this.2 ⟨rfl,hn⟩)
  | false=>exact bI (fun h=>by have:=(this.1 h).1;cases this)
 rw[h1,Ks hd,Kt hd,jx]
theorem zs.pos {n:Nat} {v:PV} (h:zs n v) (h0:n≠0):v=zu n:=by
 rcases h with h | ⟨h,_⟩
 ·exact h
 ·exact absurd h h0
section
attribute [local irreducible] Vs.callL Vs.callRL tyi zO zn zg zR zY za zI zZ zA zK ze zX zG zJ zW zr yJ zq zL zf Vs.gc zH
noncomputable def zRm:FX:=⟨Tryz.f51,zD.of 51,[]⟩
instance ok51_:zRm.ok 51:=FX.mk'
theorem Y1:callL Tryz.prog zD 51 []=some (rrV 0):=by
 rw[zEH];refine FX.callL (r:=(.agg [.bool false,.msl 1 0 0 true,.msl 2 0 1 true],[.arr [[.bool false,.msl 1 0 0 true,.msl 2 0 1 true]] none false,.arr [] (some (some 1)) false,.arr [[.int .i64 1]] (some (some 1)) false])) ok51_ 1000 rfl rfl ?_ rfl;((repeat((conv=>lhs;whnf);simp only[go_sem,simprocAttr]));try rfl)
noncomputable def zRn:FX:=⟨Tryz.f34,zD.of 34,[]⟩
instance ok34_:zRn.ok 34:=FX.mk'
theorem zEI:callL Tryz.prog zD 34 []=some (rrV 1):=by
 rw[zN8];refine FX.callL (r:=(.agg [.bool false,.msl 1 0 1 true,.msl 2 0 1 true],[.arr [[.bool false,.msl 1 0 1 true,.msl 2 0 1 true]] none false,.arr [[.int .i64 1]] (some (some 1)) false,.arr [[.int .i64 1]] (some (some 1)) false])) ok34_ 1000 rfl rfl ?_ rfl;((repeat((conv=>lhs;whnf);simp only[go_sem,simprocAttr]));try rfl)
noncomputable def zP5:FX:=⟨Tryz.f161,zD.of 161,[]⟩
instance ok161_:zP5.ok 161:=FX.mk'
theorem zBa {neg:Bool} {n d:Nat} {va vb:PV} (ha:zs n va) (hb:zs d vb) (hd:d≠0) (hn:(dec n).length≤800000) (hdl:(dec d).length≤800000):callL Tryz.prog zD 161 [.bool neg,va,vb]=some (rrV (mkRat (sg neg n) d)):=by
 by_cases h0:n=0
 ·subst h0;rw[zIG,U6];have cz:=fun S=>zF (S:=S) Y1 (by simp);have l0:(dec 0).length=0:=kU.2 rfl;obtain⟨e1,rfl,p1⟩:=ha.form;refine FX.callL (r:=(rrV 0,[.arr [[.bool false,.sl [] false,.sl [[.int .i64 1]] false]] none false])) ok161_ 1000 rfl rfl ?_ rfl;rw[zEH]at *;unfold yN at *;((repeat((conv=>lhs;whnf);simp only[go_sem,simprocAttr,l0,cz]));try rfl)
 ·rw[zP4 neg h0 hd,ha.pos h0,hb.pos hd];have l0 : ¬(dec n).length=0:=fun e=>h0 (kU.1 e);have l0' : ¬((dec n).length:Int)=0:=by omega
  by_cases hone:d=1
  ·subst hone;have l1:(dec 1).length=1:=by rw[zG1];rfl
   have g1:(dec 1).getD 0 0=1:=by rw[zG1];rfl
   have x0:0≤(0:Int)∧(0:Int)<((dec 1).length:Int):=by rw[l1];decide
   rw[Nat.gcd_one_right,PY,PY];refine FX.callL (r:=(rrL neg n 1,[.arr [[.bool neg,zu n,zu 1]] none false])) ok161_ 1000 rfl rfl ?_ rfl;unfold rrL zu yN;((repeat((conv=>lhs;whnf);simp only[go_sem,simprocAttr,l0,l0',l1,x0,sI,g1]));try rfl)
  ·have hD : ¬((dec d).length=1∧(dec d).getD 0 0=1):=fun h=>hone (by
    obtain⟨x,hx⟩:=BT.1 h.1;have hv:=vR d;rw[hx]at h hv;simp[zM]at hv;simp[bM]at h;omega)
   obtain⟨g,ig,cg⟩:=zIF (zs.of n) (zs.of d) hn hdl;have hg0:Nat.gcd n d≠0:=fun e=>hd (AF e);have:=ig.pos hg0;subst this;have hgl:(dec (Nat.gcd n d)).length≤800000:=bO (kV (PG (by omega) (SN n d))) hdl;have x0:0≤(0:Int)∧(0:Int)<((dec d).length:Int):=⟨by omega,by have:(dec d).length≠0:=fun e=>hd (kU.1 e);omega⟩;have x1:0≤(0:Int)∧(0:Int)<((dec (Nat.gcd n d)).length:Int):=⟨by omega,by have:(dec (Nat.gcd n d)).length≠0:=fun e=>hg0 (kU.1 e);omega⟩;have first:((dec d).length=1→¬(dec d).getD 0 0=1):=fun h1 h2=>hD ⟨h1,h2⟩
   by_cases h1:Nat.gcd n d=1
   ·rw[h1,PY,PY];rw[h1]at cg x1;have l1:(dec 1).length=1:=by rw[zG1];rfl
    have g1:(dec 1).getD 0 0=1:=by rw[zG1];rfl
    refine FX.callL (r:=(rrL neg n d,[.arr [[.bool neg,zu n,zu d]] none false])) ok161_ 1000 rfl rfl ?_ rfl;unfold rrL zu yN at *;by_cases hl:(dec d).length=1
    ·have hl':((dec d).length:Int)=1:=by omega
     have f:=first hl
     ((repeat((conv=>lhs;whnf);simp only[go_sem,simprocAttr,l0,l0',hl,hl',x0,sI,f,cg,l1,x1,g1]));try rfl)
    ·have hl' : ¬((dec d).length:Int)=1:=by omega
     ((repeat((conv=>lhs;whnf);simp only[go_sem,simprocAttr,l0,l0',hl,hl',cg,l1,x1,sI,g1]));try rfl)
   ·have second:((dec (Nat.gcd n d)).length=1→¬(dec (Nat.gcd n d)).getD 0 0=1):=fun a1 a2=>h1 (by
     obtain⟨x,hx⟩:=BT.1 a1;have hv:=vR (Nat.gcd n d);rw[hx]at a2 hv;simp[zM]at hv;simp[bM]at a2;omega)
    obtain⟨q1,r1,iq1,_,d1⟩:=WT (zs.of n) (zs.of (Nat.gcd n d)) hn hgl hg0;obtain⟨q2,r2,iq2,_,d2⟩:=WT (zs.of d) (zs.of (Nat.gcd n d)) hdl hgl hg0;have e1:=iq1.pos (by
     have:=Nat.div_pos (PG (by omega) (Nat.gcd_dvd_left n d)) (by omega);omega)
    have e2:=iq2.pos (by
     have:=Nat.div_pos (PG (by omega) (SN n d)) (by omega);omega)
    subst e1 e2;refine FX.callL (r:=(rrL neg (n / Nat.gcd n d) (d / Nat.gcd n d),[.arr [[.bool neg,zu (n / Nat.gcd n d),zu (d / Nat.gcd n d)]] none false])) ok161_ 1000 rfl rfl ?_ rfl;unfold rrL zu yN at *;by_cases hl:(dec d).length=1 <;> by_cases hk:(dec (Nat.gcd n d)).length=1
    ·have hl':((dec d).length:Int)=1:=by omega
     have hk':((dec (Nat.gcd n d)).length:Int)=1:=by omega
     have f:=first hl
     have f2:=second hk;((repeat((conv=>lhs;whnf);simp only[go_sem,simprocAttr,l0,l0',hl,hl',x0,sI,f,cg,hk,hk',x1,f2,d1,d2]));try rfl)
    ·have hl':((dec d).length:Int)=1:=by omega
     have hk' : ¬((dec (Nat.gcd n d)).length:Int)=1:=by omega
     have f:=first hl
     ((repeat((conv=>lhs;whnf);simp only[go_sem,simprocAttr,l0,l0',hl,hl',x0,sI,f,cg,hk,hk',d1,d2]));try rfl)
    ·have hl' : ¬((dec d).length:Int)=1:=by omega
     have hk':((dec (Nat.gcd n d)).length:Int)=1:=by omega
     have f2:=second hk;((repeat((conv=>lhs;whnf);simp only[go_sem,simprocAttr,l0,l0',hl,hl',cg,hk,hk',x1,sI,f2,d1,d2]));try rfl)
    ·have hl' : ¬((dec d).length:Int)=1:=by omega
     have hk' : ¬((dec (Nat.gcd n d)).length:Int)=1:=by omega
     ((repeat((conv=>lhs;whnf);simp only[go_sem,simprocAttr,l0,l0',hl,hl',cg,hk,hk',d1,d2]));try rfl)
end
end
end Go.Vs

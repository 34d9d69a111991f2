
import Derived.Test.YtfbkajadbjbfiaaGreatMA13
import Derived.Test.YtfbkajadbjbfiaaGreatMA14
set_option linter.unusedVariables false
set_option linter.unusedSimpArgs false
set_option maxRecDepth 100000
namespace Go.Vs
open Go Go.Proofs
section
theorem zAU {m n:Nat} {va vb:PV} (ha:zU m va) (hb:zU n vb) (hm:(dec m).length≤900000) (hn:(dec n).length≤900000) (h0:n≠0) (hlt:m<n*10000) (S:zA):zQ (callL Tryz.prog zD) S 131 [va,vb]=some {v:=.int .i64 (m / n:Nat)} := zE (S:=S) (J1 ha hb hm hn h0 hlt) (by simp[ha.plain,hb.plain])
theorem J2 {n x k:Nat} (h:(dec n).length≤k) (hx:x<n*10000):(dec x).length≤k+1:=by
 refine (yI DB2 (k+1) _).2 ?_;have h1:=(yI DB2 k n).1 h;rw[Nat.pow_succ];generalize DB^k=P at *;have:n*10000<P*10000:=Nat.mul_lt_mul_of_pos_right h1 (by omega);exact Nat.lt_trans hx this
theorem zBp {L:List Int} {m:Nat} (v:Int):(List.replicate (m+1) (0:Int)++L).set m v=List.replicate m 0++(v::L):=Q2 v rfl
theorem zBq (m:Nat) (L:List Int):List.replicate (m+1) (0:Int)++L=List.replicate m 0++(0::L):=by
 rw[PD,aG];rfl
section
attribute [local irreducible] Vs.callL Vs.callRL tyi zQ yE zm zV zk zb zK zf zF zT zl zi zJ zL zj yB yO yD zN zh Vs.gc zH
noncomputable def J3:FX:=⟨Tryz.f112,zD.of 112,[]⟩
instance ok112_:J3.ok 112:=FX.mk'
theorem X8 (m n:Nat) (e1 e2:Bool) (i1:zU m (yJ m e1)) (i2:zU n (yJ n e2)) (hm:(dec m).length≤800000) (hn:(dec n).length≤800000) (h0:n≠0) (fs:List Fr) :
  ∀(i:Nat),i≤(dec m).length→∀(V:Nat) (Q:List Int),zG DB ((dec m).drop i)=V→OkD DB Q→Q.length=(dec m).length-i→zG DB Q=(V / n:Nat) →
   ∃Q':List Int,OkD DB Q'∧Q'.length=(dec m).length∧zG DB Q'=(m / n:Nat)∧∀z:PV × zA,zZ 0 J3 0 fs [(0,.undef),(1,.undef),(12,.msl 0 0 (dec m).length true),(13,zg (m % n)),(14,.undef),(62,.undef)] [.arr (zB .i64 Q') (some (some 1)) false,.arr [] (some (some 1)) true]=some z →
   zS 0 J3 0 2036 2 fs [(0,yJ m e1),(1,yJ n e2),(12,.msl 0 0 (dec m).length true),(13,zg (V % n)),(14,.int .i64 ((i:Int)-1))] [.arr (zB .i64 (List.replicate i 0++Q)) (some (some 1)) false,.arr [] (some (some 1)) true]=some z:=by
 have hM:=zs;intro i
 induction i with
 | zero =>
  intro hi V Q hV hQ hQl hQv;rw[pH,xL]at hV;have e:V=m:=by omega
  subst e;refine⟨Q,hQ,by omega,hQv,fun z key=>?_⟩;apply zC;unfold zg yJ at *;simp only[HE,pC];(repeat((conv=>lhs;whnf);simp only[go_sem,simprocAttr]));exact key
 | succ i ih =>
  intro hi V Q hV hQ hQl hQv;have ed:=yA (dec m) (k:=i) (by omega);have ha:=(xJ m).getD (by decide) i;have ha':(dec m).getD i 0<10000:=ha.2;obtain⟨a,hA⟩ : ∃a:Nat,(dec m).getD i 0=a:=⟨((dec m).getD i 0).toNat,by omega⟩;have ev:zG DB ((dec m).drop i)=((a+10000*V:Nat):Int):=by
   rw[ed,zG,hV,hA];have:((a+10000*V:Nat):Int)=(a:Int)+10000*V:=by omega
   exact this.symm
  have hRlt:V % n<n:=sJ _ (by omega);have hRd:(dec (V % n)).length≤800000:=bF (wO (Nat.le_of_lt hRlt)) hn;have s1:=jS (zU.of (V % n)) 10000 a (by omega) (by omega) (by omega);have hR1:V % n*10000+a<n*10000:=by
   have:(V % n+1)*10000≤n*10000:=bV _ hRlt;omega
  have hR1d:(dec (V % n*10000+a)).length≤800001:=J2 hn hR1;have s2:=jT (zU.of (V % n*10000+a)) i2 (by omega) (by omega);have hdiv:a+10000*V=n*(10000*(V / n))+(V % n*10000+a):=by
   have:=BT V n;have e:n*(10000*(V / n))=10000*(n*(V / n)):=by rw[Nat.mul_left_comm]
   rw[e];omega
  have hq:(a+10000*V) / n=10000*(V / n)+(V % n*10000+a) / n:=by
   rw[hdiv,Nat.mul_add_div (by omega)]
  have hr:(a+10000*V) % n=(V % n*10000+a) % n:=by
   rw[hdiv,Nat.mul_add_mod]
  have hd9:(V % n*10000+a) / n<10000:=Nat.div_lt_of_lt_mul hR1;have hnd0:n*((V % n*10000+a) / n)≤V % n*10000+a:=Nat.mul_div_le _ _;have hda:=BT (V % n*10000+a) n;have s3:=zAU (zU.of (V % n*10000+a)) i2 (by omega) (by omega) h0 hR1;generalize hdd:(V % n*10000+a) / n=d at *;obtain⟨Q',q1,q2,q3,key⟩:=ih (by omega) (a+10000*V) ((d:Int)::Q) ev (.cons ⟨by omega,by show _<((10000:Nat):Int);omega⟩ hQ) (by simp only[bP];omega) (by
   rw[zG,hQv,hq];have:((10000*(V / n)+d:Nat):Int)=10000*((V / n:Nat):Int)+(d:Int):=by omega
   rw[this];have e0:((DB:Nat):Int)=10000:=rfl;rw[e0];omega)
  rw[hr]at key;refine⟨Q',q1,q2,q3,fun z hz=>?_⟩;have key:=key z hz;have x1:0≤(i:Int)∧(i:Int)<((dec m).length:Int):=⟨by omega,by omega⟩;have ei:((i+1:Nat):Int)-1=(i:Int):=by omega
  have hi0:(0:Int)≤(i:Int):=by omega
  have w1:IntKind.i64.wrap ((i:Int)-1)=(i:Int)-1:=by rw[bA];omega
  have k5:((10000:Nat):Int)=10000:=rfl;rw[k5]at s1;rw[ei];by_cases hc:V % n*10000+a<n
  ·have c:yU (V % n*10000+a) n<0:=by unfold yU;rw[hZ hc];omega
   rw[aI hc]at hdd;subst hdd;rw[sE hc]at key;have k6:((0:Nat):Int)=0:=rfl;rw[k6,←zBq]at key;apply zC;unfold zg yJ at *;(repeat((conv=>lhs;whnf);simp only[go_sem,simprocAttr,x1,hi0,bD,hA,s1,s2,c,w1]));exact key
  ·have c : ¬yU (V % n*10000+a) n<0:=by unfold yU;rw[hI hc];split <;> omega
   have s4:=kF i2 d (by omega) (by omega);have hsub:V % n*10000+a-n*d=(V % n*10000+a) % n:=by
    omega
   have s5:=VM (zU.of (V % n*10000+a)) (zU.of (n*d)) (by omega) hnd0 (by omega);rw[hsub]at s5;have xm:=yv.idxmk .i64 (S:=[.arr (zB .i64 (List.replicate (i+1) 0++Q)) (some (some 1)) false,.arr [] (some (some 1)) true]) (id:=0) (off:=0) (n:=(dec m).length) (ex:=true) (L:=List.replicate (i+1) 0++Q) i rfl (by simp;omega) (by omega);have len:i<(List.replicate (i+1) (0:Int)++Q).length:=by simp;omega
   have len1:((zB .i64 (List.replicate (i+1) 0++Q)).getD i []).length=1:=by rw[zy _ _ len];rfl
   have set : ∀v:Int,(zB .i64 (List.replicate (i+1) 0++Q)).set i [.int .i64 v]=zB .i64 (List.replicate i 0++(v::Q)):=fun v=>by rw[yR,zBp]
   have xm2:=yv.idxmk .i64 (S:=[.arr (zB .i64 (List.replicate i 0++((d:Int)::Q))) (some (some 1)) false,.arr [] (some (some 1)) true]) (id:=0) (off:=0) (n:=(dec m).length) (ex:=true) (L:=List.replicate i 0++((d:Int)::Q)) i rfl (by simp;omega) (by omega);have len2:i<(List.replicate i (0:Int)++((d:Int)::Q)).length:=by simp
   have gk:=zy .i64 (List.replicate i 0++((d:Int)::Q)) len2;have get:(List.replicate i (0:Int)++((d:Int)::Q)).getD i 0=d:=by
    rw[bE,pG (by simp)];simp
   rw[get]at gk;rw[bW]at xm xm2;apply zC;unfold zg yJ at *;(repeat((conv=>lhs;whnf);simp only[go_sem,simprocAttr,x1,hi0,bD,hA,s1,s2,c,s3,xm,len,len1,set,xm2,len2,gk,s4,s5,w1,zI,zY]));exact key
theorem kI {n:Nat} {v:PV} (h:zU n v) (hn:(dec n).length≤3000000) (S:zA):zQ (callL Tryz.prog zD) S 114 [v]=some {v:=if n<10000000000000000 then .tup [.int .i64 n,.bool true] else .tup [.int .i64 0,.bool false]} := by
 obtain⟨e,rfl,hp⟩:=h.form;exact zE (S:=S) (Un n e hn) (by simp[hp])
theorem ZV:zg 0=.sl [] false:=by unfold zg yJ dec;rw[yH];rfl
theorem ZW {v:PV} (h:zW v) (hv : ∃r e,v=.sl r e) (S:zA):yZ S v=some v:=by
 obtain⟨r,e,rfl⟩:=hv;exact h.2 S
theorem zU.sl {n:Nat} {v:PV} (h:zU n v) : ∃r e,v=.sl r e:=by
 obtain⟨e,rfl,_⟩:=h.form;exact⟨_,_,rfl⟩
theorem VN {m n:Nat} {a b:PV} (ha:zU m a) (hb:zU n b) (S:zA):ym S (.tup [a,b])=some (.tup [a,b]):=zBk (by
 simp only[BD,List.not_mem_nil,or_false,forall_eq_or_imp,forall_eq];exact⟨ZW ha.plain ha.sl S,ZW hb.plain hb.sl S⟩)
theorem X9 {m n:Nat} {va vb:PV} (ha:zU m va) (hb:zU n vb) (hm:(dec m).length≤800000) (hn:(dec n).length≤800000) (h0:n≠0) : ∃q r,zU (m / n) q∧zU (m % n) r∧callL Tryz.prog zD 112 [va,vb]=some (.tup [q,r]):=by
 have hM:=zs;have cc:=jT ha hb (by omega) (by omega);by_cases hlt:m<n
 ·refine⟨zg 0,va,by rw[aI hlt];exact .of 0,by rw[sE hlt];exact ha,?_⟩;have c:yU m n<0:=by unfold yU;rw[hZ hlt];omega
  refine FX.callL (r:=(.tup [.msl 0 0 0 true,va],[.arr [] (some (some 1)) false])) ok112_ 1000 rfl rfl ?_ ?_
  ·obtain⟨e1,rfl,p1⟩:=ha.form;obtain⟨e2,rfl,p2⟩:=hb.form;unfold yJ at *;((repeat((conv=>lhs;whnf);simp only[go_sem,simprocAttr,cc,c]));try rfl)
  ·have h1:=ZW ha.plain ha.sl [.arr [] (some (some 1)) false];have h2:yZ [.arr [] (some (some 1)) false] (.msl 0 0 0 true)=some (.sl [] false):=rfl
   show (yG (yZ [.arr [] (some (some 1)) false]) [.msl 0 0 0 true,va]).map PV.tup=_
   simp only[yG,h1,h2,bC,bJ,ZV]
 ·have c : ¬yU m n<0:=by unfold yU;rw[hI hlt];split <;> omega
  have l1:=kI ha (by omega);by_cases hs:m<10000000000000000
  ·have l2:=kI hb (by omega);rw[hZ hs]at l1;rw[hZ (show n<10000000000000000 by omega)]at l2;have d1:=YD (m / n) (by have:=aF m n;omega);have d2:=YD (m % n) (by have:=Nat.mod_le m n;omega);have n0 : ¬(n:Int)=0:=by omega
   have td:IntKind.i64.wrap ((m:Int).tdiv n)=((m / n:Nat):Int):=by
    have h1:=aF m n;have e:(m:Int) / n=((m / n:Nat):Int):=rfl;rw[sG (by omega),bA,e];generalize m / n=q at *;omega
   have tm:(m:Int).tmod n=((m % n:Nat):Int):=by rw[sO (by omega)];rfl
   refine⟨zg (m / n),zg (m % n),.of _,.of _,?_⟩;refine FX.callL (r:=(.tup [zg (m / n),zg (m % n)],[])) ok112_ 1000 rfl rfl ?_ (VN (.of _) (.of _) _);obtain⟨e1,rfl,p1⟩:=ha.form;obtain⟨e2,rfl,p2⟩:=hb.form;unfold zg yJ at *;((repeat((conv=>lhs;whnf);simp only[go_sem,simprocAttr,cc,c,l1,l2,n0,h0,td,tm,d1,d2]));try rfl)
  ·rw[hI hs]at l1;by_cases hone:(dec n).length=1
   ·have hone':((dec n).length:Int)=1:=by omega
    have x0:0≤(0:Int)∧(0:Int)<((dec n).length:Int):=⟨by omega,by omega⟩;have hv:(dec n).getD 0 0=n:=by
     obtain⟨x,hx⟩:=HV.1 hone;have:=xL n;rw[hx]at this ⊢;simp[zG]at this
     simpa [bE] using this
    have hn9:n<10000:=by
     have:=(yI DB2 1 n).1 (by show (dec n).length≤1;omega);rw[Nat.pow_one]at this;exact this
    have sp:=WR ha n ⟨by omega,by omega⟩ (by omega);have d2:=YD (m % n) (by have:=sJ m (show n > 0 by omega);omega);refine⟨zg (m / n),zg (m % n),.of _,.of _,?_⟩;refine FX.callL (r:=(.tup [zg (m / n),zg (m % n)],[])) ok112_ 1000 rfl rfl ?_ (VN (.of _) (.of _) _);obtain⟨e1,rfl,p1⟩:=ha.form;obtain⟨e2,rfl,p2⟩:=hb.form;unfold zg yJ at *;((repeat((conv=>lhs;whnf);simp only[go_sem,simprocAttr,cc,c,l1,hone,hone',x0,aM,hv,sp,d2]));try rfl)
   ·have hone' : ¬((dec n).length:Int)=1:=by omega
    refine⟨zg (m / n),zg (m % n),.of _,.of _,?_⟩;obtain⟨e1,rfl,p1⟩:=ha.form;obtain⟨e2,rfl,p2⟩:=hb.form;have mk:=fun id=>Yx id (dec m).length (by omega);have w1:IntKind.i64.wrap (((dec m).length:Int)-1)=((dec m).length:Int)-1:=by rw[bA];omega
    obtain⟨Q,q1,q2,q3,key⟩:=X8 m n e1 e2 ha hb hm hn h0 [.blk 0,.seq 0 255] (dec m).length (bB _) 0 [] (by rw[sU];rfl) (.nil _) (by simp) (by simp[zG]);have ct:=wy (by omega) q1;rw[q3,bD]at ct;have c1:=ys (S:=[.arr (zB .i64 Q) (some (some 1)) false,.arr [] (some (some 1)) true]) (id:=0) (n:=(dec m).length) (ex:=true) ct rfl q2 (by simp);have hS:=key (.tup [zg (m / n),zg (m % n)],[.arr (zB .i64 Q) (some (some 1)) true,.arr [] (some (some 1)) true]) (by
     apply zR;((repeat((conv=>lhs;whnf);simp only[go_sem,simprocAttr,c1]));try rfl))
    rw[Nat.zero_mod,ZV,pD]at hS;refine FX.callL (r:=(.tup [zg (m / n),zg (m % n)],[.arr (zB .i64 Q) (some (some 1)) true,.arr [] (some (some 1)) true])) ok112_ 1000 rfl rfl ?_ (VN (.of _) (.of _) _);unfold zg yJ at *;(repeat((conv=>lhs;whnf);simp only[go_sem,simprocAttr,cc,c,l1,hone,hone',mk,w1]));exact hS
end
end
section
theorem qE {m n:Nat} {va vb:PV} (ha:zU m va) (hb:zU n vb) (hm:(dec m).length≤800000) (hn:(dec n).length≤800000) (h0:n≠0) : ∃q r,zU (m / n) q∧zU (m % n) r∧∀S,zQ (callL Tryz.prog zD) S 112 [va,vb]=some {v:=.tup [q,r]} := by
 obtain⟨q,r,hq,hr,h⟩:=X9 ha hb hm hn h0;exact⟨q,r,hq,hr,fun S=>zE (S:=S) h (by simp[ha.plain,hb.plain])⟩
section
attribute [local irreducible] Vs.callL Vs.callRL tyi zQ yE zm zV zk zb zK zf zF zT zl zi zJ zL zj yB yO yD zN zh Vs.gc zH
noncomputable def Uz:FX:=⟨Tryz.f83,zD.of 83,[]⟩
instance ok83_:Uz.ok 83:=FX.mk'
theorem KA (x0 x1:PV) (fs:List Fr) {z:PV × zA} : ∀(f x y:Nat),y≤f→x<4611686018427387904→y<4611686018427387904→zZ 0 Uz 2 fs [(5,.int .i64 (Nat.gcd x y)),(7,.undef),(29,.undef)] []=some z→zS 0 Uz 2 25296 0 fs [(0,.undef),(1,.undef),(5,.int .i64 x),(7,.int .i64 y),(27,.undef)] []=some z:=by
 intro f
 induction f with
 | zero =>
  intro x y hf hx hy hz;have h0:y=0:=by omega
  subst h0;rw[BM]at hz;apply zC;(repeat((conv=>lhs;whnf);simp only[go_sem,simprocAttr]));exact hz
 | succ f ih =>
  intro x y hf hx hy hz;by_cases h0:y=0
  ·subst h0;rw[BM]at hz;apply zC;(repeat((conv=>lhs;whnf);simp only[go_sem,simprocAttr]));exact hz
  ·have hlt:x % y<y:=sJ _ (by omega);have key:=ih y (x % y) (by omega) hy (by omega) (by rw[sW y,←Nat.gcd_rec,sW];exact hz);have c:(0:Int)<y:=by omega
   have c':0<y:=by omega
   have n0 : ¬(y:Int)=0:=by omega
   have tm:(x:Int).tmod y=((x % y:Nat):Int):=by rw[sO (by omega)];rfl
   apply zC;(repeat((conv=>lhs;whnf);simp only[go_sem,simprocAttr,c,c',n0,h0,tm]));exact key
theorem J4 : ∀(f m n:Nat) (va vb:PV),n≤f→(dec m).length≤800000→(dec n).length≤800000→zU m va→zU n vb →
  ∃g,zU (Nat.gcd m n) g∧zS 0 Uz 0 24 0 [.blk 0,.seq 0 7] [(0,va),(1,vb)] []=some (g,[]):=by
 have hM:=zs;have base : ∀(m:Nat) (va vb:PV),zU m va→zU 0 vb→∃g,zU (Nat.gcd m 0) g∧zS 0 Uz 0 24 0 [.blk 0,.seq 0 7] [(0,va),(1,vb)] []=some (g,[]):=by
  intro m va vb ha hb;refine⟨va,by rw[BM];exact ha,?_⟩;obtain⟨e1,rfl,p1⟩:=ha.form;obtain⟨e2,rfl,p2⟩:=hb.form;have l0:(dec 0).length=0:=xz.2 rfl;apply zC;unfold yJ;(repeat((conv=>lhs;whnf);simp only[go_sem,simprocAttr,l0]));apply zR;((repeat((conv=>lhs;whnf);simp only[go_sem,simprocAttr]));try rfl)
 intro f
 induction f with
 | zero =>
  intro m n va vb hf _ _ ha hb;have h0:n=0:=by omega
  subst h0;exact base m va vb ha hb
 | succ f ih =>
  intro m n va vb hf hm hn ha hb;by_cases h0:n=0
  ·subst h0;exact base m va vb ha hb
  ·have l1:=kI ha (by omega);have l2:=kI hb (by omega);have d0:(dec n).length≠0:=fun e=>h0 (xz.1 e);have d1:(0:Int)<(dec n).length:=by omega
   have d2:0<(dec n).length:=by omega
   by_cases hs:m<10000000000000000∧n<10000000000000000
   ·rw[hZ hs.1]at l1;rw[hZ hs.2]at l2;have hg:Nat.gcd m n≤n:=HW (by omega) (PG m n);have di:=YD (Nat.gcd m n) (by omega);have key:=KA va vb [.blk 2,.seq 1 6325,.seq 1 791,.blk 1,.lop 0 24 0,.blk 0,.seq 0 7] (z:=(zg (Nat.gcd m n),[])) n m n (bB _) (by omega) (by omega) (by
     apply zR;unfold zg yJ at *;((repeat((conv=>lhs;whnf);simp only[go_sem,simprocAttr,di]));try rfl))
    refine⟨zg (Nat.gcd m n),.of _,?_⟩;obtain⟨e1,rfl,p1⟩:=ha.form;obtain⟨e2,rfl,p2⟩:=hb.form;apply zC;unfold zg yJ at *;(repeat((conv=>lhs;whnf);simp only[go_sem,simprocAttr,d1,d2,l1,l2]));exact key
   ·obtain⟨q,r,iq,ir,hd⟩:=qE ha hb hm hn h0;have hlt:m % n<n:=sJ _ (by omega);obtain⟨g,hg,key⟩:=ih n (m % n) vb r (by omega) hn (bF (wO (by omega)) hn) hb ir;refine⟨g,by rw[sW,Nat.gcd_rec];rw[sW]at hg;exact hg,?_⟩;obtain⟨e1,rfl,p1⟩:=ha.form;obtain⟨e2,rfl,p2⟩:=hb.form;apply zC;unfold yJ at *;by_cases h1:m<10000000000000000
    ·have h2 : ¬n<10000000000000000:=fun h=>hs ⟨h1,h⟩;rw[hZ h1]at l1;rw[hI h2]at l2;(repeat((conv=>lhs;whnf);simp only[go_sem,simprocAttr,d1,d2,l1,l2,hd]));exact key
    ·rw[hI h1]at l1;by_cases h2:n<10000000000000000
     ·rw[hZ h2]at l2;(repeat((conv=>lhs;whnf);simp only[go_sem,simprocAttr,d1,d2,l1,l2,hd]));exact key
     ·rw[hI h2]at l2;(repeat((conv=>lhs;whnf);simp only[go_sem,simprocAttr,d1,d2,l1,l2,hd]));exact key
theorem J5 {m n:Nat} {va vb:PV} (ha:zU m va) (hb:zU n vb) (hm:(dec m).length≤800000) (hn:(dec n).length≤800000) : ∃g,zU (Nat.gcd m n) g∧callL Tryz.prog zD 83 [va,vb]=some g:=by
 obtain⟨g,hg,key⟩:=J4 n m n va vb (bB _) hm hn ha hb;refine⟨g,hg,?_⟩;refine FX.callL (r:=(g,[])) ok83_ 1000 rfl rfl ?_ (hg.plain.2 _);(repeat((conv=>lhs;whnf);simp only[go_sem,simprocAttr]));exact key
theorem Q4 {m n:Nat} {va vb:PV} (ha:zU m va) (hb:zU n vb) (hm:(dec m).length≤800000) (hn:(dec n).length≤800000) : ∃g,zU (Nat.gcd m n) g∧∀S,zQ (callL Tryz.prog zD) S 83 [va,vb]=some {v:=g} := by
 obtain⟨g,hg,h⟩:=J5 ha hb hm hn;exact⟨g,hg,fun S=>zE (S:=S) h (by simp[ha.plain,hb.plain])⟩
end
end
section
def sg (neg:Bool) (n:Nat):Int:=if neg then -(n:Int) else n
theorem vu (neg:Bool) (n:Nat):(sg neg n).natAbs=n:=by cases neg <;> simp[sg]
theorem zEm (q:Rat):sg (decide (q.num<0)) q.num.natAbs=q.num:=by
 unfold sg;by_cases h:q.num<0
 ·simp[h];omega
 ·simp[h];omega
theorem YE (neg:Bool) {n d:Nat} (hn:n≠0) (hd:d≠0):wM (mkRat (sg neg n) d)=kY neg (words (n / Nat.gcd n d)) (words (d / Nat.gcd n d)):=by
 unfold wM;have h1:decide ((mkRat (sg neg n) d).num<0)=neg:=by
  have:=ql neg n hd;have e:(if neg=true then -(n:Int) else n)=sg neg n:=rfl;rw[e]at this;cases neg with
  | true=>exact pM (this.2 ⟨rfl,hn⟩)
  | false=>exact sA (fun h=>by have:=(this.1 h).1;cases this)
 rw[h1,Yn hd,Yo hd,vu]
theorem vv:wM 0=kY false [] [1]:=by
 unfold wM;have h1:words (0:Rat).num.natAbs=[]:=(xI WB2).2 rfl;have h2:words (0:Rat).den=[1]:=vi;rw[h1,h2];rfl
theorem YF (b:Bool):sg b 0=0:=by cases b <;> rfl
theorem Z9 (b:Bool) (x y:Nat):sg b x+sg b y=sg b (x+y):=by cases b <;> simp[sg] <;> omega
theorem WT {b c:Bool} (h:b≠c) {x y:Nat} (hxy:y≤x):sg b x+sg c y=sg b (x-y):=by
 cases b <;> cases c <;> simp[sg]at h ⊢ <;> omega
theorem WU {b c:Bool} (h:b≠c) {x y:Nat} (hxy:x≤y):sg b x+sg c y=sg c (y-x):=by
 cases b <;> cases c <;> simp[sg]at h ⊢ <;> omega
theorem zEn (b c:Bool) (x y:Nat):sg b x*sg c y=sg (b != c) (x*y):=by
 cases b <;> cases c <;> simp[sg,pL,Int.neg_mul,Int.mul_neg]
theorem XE (b:Bool) (x y:Nat):sg b x*(y:Int)=sg b (x*y):=by
 cases b <;> simp[sg,pL,Int.neg_mul]
def zt (q:Rat):Bool:=decide (q.num<0)
theorem zAV (q:Rat):sg (zt q) q.num.natAbs=q.num:=zEm q
theorem xT (q r:Rat):q+r=mkRat (sg (zt q) (q.num.natAbs*r.den)+sg (zt r) (r.num.natAbs*q.den)) (q.den*r.den):=by
 rw[←XE,←XE,zAV,zAV];exact Rat.add_def' q r
theorem kJ {q r:Rat} (h:q.den=r.den):q+r=mkRat (sg (zt q) q.num.natAbs+sg (zt r) r.num.natAbs) q.den:=by
 rw[zAV,zAV];exact VJ h
theorem qF (q r:Rat):q*r=mkRat (sg (zt q != zt r) (q.num.natAbs*r.num.natAbs)) (q.den*r.den):=by
 rw[←zEn,zAV,zAV];exact Rat.mul_def' q r
def kK (q:Rat):Int:=if q.num=0 then 0 else if zt q then -1 else 1
@[go_sem] theorem zFd (n:Nat):zj (tyi Tryz.prog 42) n=some {v:=.mp n 0 0,new:=some ([[.bool false,.sl [] true,.sl [] true]],none)} := nr (by unfold zj;rw[Yq];rfl)
@[go_sem] theorem zFe (l:List (Nat × PV)):zi Tryz.prog 42 l=(kS [(0,1,false),(1,1,false),(2,1,false)] [.bool false,.sl [] true,.sl [] true] l).map .agg:=nr (by unfold zi;rw[wn];dsimp only;unfold zl;rw[wn,Yq];rfl)
@[go_sem] theorem zGQ (id i off:Nat):zF (tyi Tryz.prog 42) 0 (.mp id i off)=some (.mp id i (off+0)):=by simp[zF,wn]
@[go_sem] theorem zGR (r:List PV):zF (tyi Tryz.prog 42) 0 (.cp r)=some (.cp (r.drop 0)):=by simp[zF,wn]
@[go_sem] theorem zGS (cs:List PV):zT (tyi Tryz.prog 42) 0 (.agg cs)=cs[0]? := by simp[zT,wn]
@[go_sem] theorem zGT (id i off:Nat):zF (tyi Tryz.prog 42) 1 (.mp id i off)=some (.mp id i (off+1)):=by simp[zF,wn]
@[go_sem] theorem zGU (r:List PV):zF (tyi Tryz.prog 42) 1 (.cp r)=some (.cp (r.drop 1)):=by simp[zF,wn]
@[go_sem] theorem zGV (cs:List PV):zT (tyi Tryz.prog 42) 1 (.agg cs)=cs[1]? := by simp[zT,wn]
@[go_sem] theorem zGW (id i off:Nat):zF (tyi Tryz.prog 42) 2 (.mp id i off)=some (.mp id i (off+2)):=by simp[zF,wn]
@[go_sem] theorem zGX (r:List PV):zF (tyi Tryz.prog 42) 2 (.cp r)=some (.cp (r.drop 2)):=by simp[zF,wn]
@[go_sem] theorem zGY (cs:List PV):zT (tyi Tryz.prog 42) 2 (.agg cs)=cs[2]? := by simp[zT,wn]
theorem VO {S:zA} {b e1 e2:Bool} {i j m n:Nat} {N D:List Int} (h1:zz S i=some (zB .u32 N)) (hN:N.length=m) (h2:zz S j=some (zB .u32 D)) (hD:D.length=n):ym S (.agg [.bool b,.msl i 0 m e1,.msl j 0 n e2])=some (kY b N D):=by
 have k1:=qi (ex:=e1) h1 hN 6;have k2:=qi (ex:=e2) h2 hD 6
 show (yG (yu S 8) [.bool b,.msl i 0 m e1,.msl j 0 n e2]).map PV.agg=_
 simp only[Qy,zBR,k1,k2,US,Qz,zBS];rfl
theorem Za (d:Nat):mkRat 0 d=0:=by simp
section
attribute [local irreducible] Vs.callL Vs.callRL tyi zQ yE zm zV zk zb zK zf zF zT zl zi zJ zL zj yB yO yD zN zh Vs.gc zH
noncomputable def zGZ:FX:=⟨Tryz.f67,zD.of 67,[]⟩
instance ok67_:zGZ.ok 67:=FX.mk'
theorem jl:callL Tryz.prog zD 67 []=some (wM 0):=by
 rw[vv];refine FX.callL (r:=(.agg [.bool false,.sl [] true,.msl 1 0 1 true],[.arr [[.bool false,.sl [] true,.msl 1 0 1 true]] none false,.arr (zB .u32 [1]) (some (some 1)) false])) ok67_ 1000 rfl rfl ?_ ?_
 ·((repeat((conv=>lhs;whnf);simp only[go_sem,simprocAttr]));try rfl)
 ·rfl
noncomputable def zEo:FX:=⟨Tryz.f107,zD.of 107,[]⟩
instance ok107_:zEo.ok 107:=FX.mk'
theorem uS {neg:Bool} {n d:Nat} {va vb:PV} (ha:za n va) (hb:za d vb) (hd:d≠0) (hn:(words n).length≤900000) (hdl:(words d).length≤900000):callL Tryz.prog zD 107 [.bool neg,va,vb]=some (wM (mkRat (sg neg n) d)):=by
 by_cases h0:n=0
 ·subst h0;rw[YF,Za,vv];have cz:=fun S=>zE (S:=S) jl (by simp);rw[vv]at cz;have l0:(words 0).length=0:=zx.2 rfl;obtain⟨e1,rfl,p1⟩:=ha.form;unfold zo kY at *;refine FX.callL (r:=(kY false [] [1],[.arr [[.bool false,.sl (zB .u32 []) false,.sl (zB .u32 [1]) false]] none false])) ok107_ 1000 rfl rfl ?_ rfl;unfold kY;((repeat((conv=>lhs;whnf);simp only[go_sem,simprocAttr,l0,cz]));try rfl)
 ·rw[YE neg h0 hd];have l0 : ¬(words n).length=0:=fun e=>h0 (zx.1 e);have l0' : ¬((words n).length:Int)=0:=by omega
  have cg:=fun S=>zE (S:=S) (Yl ha hb hn hdl) (by simp[ha.plain,hb.plain]);have hg0:Nat.gcd n d≠0:=fun e=>hd (PU e);have hgl:(words (Nat.gcd n d)).length≤900000:=bF (yk (HW (by omega) (PG n d))) hdl;have hdm:(words n).length≤900000∧(words d).length≤900000:=⟨hn,hdl⟩;by_cases h1:Nat.gcd n d=1
  ·rw[h1,aU,aU];rw[h1]at cg;have w1:zc 1=.sl (zB .u32 [1]) false:=by unfold zc;rw[vi]
   rw[w1]at cg;obtain⟨e1,rfl,p1⟩:=ha.form;obtain⟨e2,rfl,p2⟩:=hb.form;have ap1:=fun S=>yb.appNil 0 S (RowsV.sl (S:=S) (zB .u32 (words n)) e1) (ya _ _) (by rw[zI];omega) (by rw[zI];omega);have ap2:=fun S=>yb.appNil 0 S (RowsV.sl (S:=S) (zB .u32 (words d)) e2) (ya _ _) (by rw[zI];omega) (by rw[zI];omega);refine FX.callL (r:=(.agg [.bool neg,.msl 1 0 (words n).length false,.msl 2 0 (words d).length false],[.arr [[.bool neg,.msl 1 0 (words n).length false,.msl 2 0 (words d).length false]] none false,.arr (zB .u32 (words n)) (some (some 1)) false,.arr (zB .u32 (words d)) (some (some 1)) false])) ok107_ 1000 rfl rfl ?_ ?_
   ·unfold zo at *;((repeat((conv=>lhs;whnf);simp only[go_sem,simprocAttr,l0,l0',cg,ap1,ap2]));try rfl)
   ·exact VO rfl rfl rfl rfl
  ·obtain⟨q1,r1,iq1,_,d1⟩:=kE ha (za.of (Nat.gcd n d)) hg0 hn hgl;obtain⟨q2,r2,iq2,_,d2⟩:=kE hb (za.of (Nat.gcd n d)) hg0 hdl hgl;have hq1:(words (n / Nat.gcd n d)).length≤900000:=bF (yk (aF _ _)) hn;have hq2:(words (d / Nat.gcd n d)).length≤900000:=bF (yk (aF _ _)) hdl;obtain⟨e1,rfl,p1⟩:=ha.form;obtain⟨e2,rfl,p2⟩:=hb.form;obtain⟨e3,rfl,p3⟩:=iq1.form;obtain⟨e4,rfl,p4⟩:=iq2.form;have ap1:=fun S=>yb.appNil 0 S (RowsV.sl (S:=S) (zB .u32 (words (n / Nat.gcd n d))) e3) (ya _ _) (by rw[zI];omega) (by rw[zI];omega);have ap2:=fun S=>yb.appNil 0 S (RowsV.sl (S:=S) (zB .u32 (words (d / Nat.gcd n d))) e4) (ya _ _) (by rw[zI];omega) (by rw[zI];omega);have hmv:zc (Nat.gcd n d)=.sl (zB .u32 (words (Nat.gcd n d))) false:=rfl;refine FX.callL (r:=(.agg [.bool neg,.msl 1 0 (words (n / Nat.gcd n d)).length false,.msl 2 0 (words (d / Nat.gcd n d)).length false],[.arr [[.bool neg,.msl 1 0 (words (n / Nat.gcd n d)).length false,.msl 2 0 (words (d / Nat.gcd n d)).length false]] none false,.arr (zB .u32 (words (n / Nat.gcd n d))) (some (some 1)) false,.arr (zB .u32 (words (d / Nat.gcd n d))) (some (some 1)) false])) ok107_ 1000 rfl rfl ?_ (VO rfl rfl rfl rfl);unfold zo at *;rw[hmv]at cg d1 d2;by_cases hl:(words (Nat.gcd n d)).length=1
   ·have x0:0≤(0:Int)∧(0:Int)<((words (Nat.gcd n d)).length:Int):=⟨by omega,by omega⟩;have hne : ¬(words (Nat.gcd n d)).getD 0 0=1:=fun e=>h1 (by
     have:=(qm hl).2 e;have e2:words (Nat.gcd n d)=words 1:=by rw[this,vi]
     exact zB2 WB2 e2)
    ((repeat((conv=>lhs;whnf);simp only[go_sem,simprocAttr,l0,l0',cg,hl,x0,aM,hne,d1,d2,ap1,ap2]));try rfl)
   ·have hl' : ¬((words (Nat.gcd n d)).length:Int)=1:=by omega
    ((repeat((conv=>lhs;whnf);simp only[go_sem,simprocAttr,l0,l0',cg,hl,hl',d1,d2,ap1,ap2]));try rfl)
end
end
section
def vP:List Int→List Int→Int→List Int
 | [],_,_=>[]
 | x::a,b,c=>(c+x+b.headD 0) % 4294967296::vP a b.tail ((c+x+b.headD 0) / 4294967296)
def vQ:List Int→List Int→Int→Int
 | [],_,c=>c
 | x::a,b,c=>vQ a b.tail ((c+x+b.headD 0) / 4294967296)
theorem KB : ∀(a b:List Int) (c:Int),OkD WB a→OkD WB b→b.length≤a.length→(c=0∨c=1)→OkD WB (vP a b c)∧(vP a b c).length=a.length∧(vQ a b c=0∨vQ a b c=1)∧zG WB (vP a b c)+(4294967296:Int)^a.length*vQ a b c=zG WB a+zG WB b+c
 | [],b,c,ha,hb,hl,hc=>by
  have:b=[]:=bT (by simpa using hl);subst this;refine⟨.nil _,rfl,hc,?_⟩;simp[vP,vQ,zG]
 | x::a,b,c,ha,hb,hl,hc=>by
  have hx:=ha.head;have hx':x<4294967296:=hx.2;have hh:=Yd hb;have hbt:b.tail.length≤a.length:=by simp only[bP]at hl;rw[PO];omega
  obtain⟨i1,i2,i3,i4⟩:=KB a b.tail ((c+x+b.headD 0) / 4294967296) ha.tail (Wy hb) hbt (by omega);refine⟨.cons ⟨by omega,by show _<((4294967296:Nat):Int);omega⟩ i1,by simp only[vP,bP,i2],i3,?_⟩;have e1:zG WB (x::a)=x+4294967296*zG WB a:=rfl;have e2:=Wz b;have e3:zG WB (vP (x::a) b c)=(c+x+b.headD 0) % 4294967296+4294967296*zG WB (vP a b.tail ((c+x+b.headD 0) / 4294967296)):=rfl;have e4:vQ (x::a) b c=vQ a b.tail ((c+x+b.headD 0) / 4294967296):=rfl;rw[e3,e4,e1,e2,bP,pO];generalize vQ a b.tail ((c+x+b.headD 0) / 4294967296)=s at *;generalize (4294967296:Int)^a.length=P at *;rw[bM P 4294967296,bN];generalize P*s=Q at *;omega
section
attribute [local irreducible] Vs.callL Vs.callRL tyi zQ yE zm zV zk zb zK zf zF zT zl zi zJ zL zj yB yO yD zN zh Vs.gc zH
noncomputable def J6:FX:=⟨Tryz.f109,zD.of 109,[]⟩
instance ok109_:J6.ok 109:=FX.mk'
theorem zBr (A B:List Int) (e1 e2:Bool) (hA:OkD WB A) (hB:OkD WB B) (hl:B.length≤A.length) (hm:A.length≤1000000) (fs:List Fr) {z:PV × zA} (hz:zZ 0 J6 0 fs [(0,.sl (zB .u32 A) e1),(1,.undef),(5,.msl 0 0 (A.length+1) true),(6,.int .u64 (vQ A B 0)),(20,.undef),(21,.undef),(22,.undef),(23,.undef)] [.arr (zB .u32 (vP A B 0++[0])) (some (some 1)) false]=some z) : ∀(m i:Nat),i+m=A.length→∀(D:List Int) (c:Int),D.length=i→(c=0∨c=1)→D++vP (A.drop i) (B.drop i) c=vP A B 0→vQ (A.drop i) (B.drop i) c=vQ A B 0 →
  zS 0 J6 0 500 1 fs [(0,.sl (zB .u32 A) e1),(1,.sl (zB .u32 B) e2),(5,.msl 0 0 (A.length+1) true),(6,.int .u64 c),(20,.sl (zB .u32 A) e1),(21,.int .i64 A.length),(22,.int .i64 i)] [.arr (zB .u32 (D++List.replicate (m+1) 0)) (some (some 1)) false]=some z:=by
 have hM:=vt;have hM2:2000000≤maxLen:=by decide
 intro m
 induction m with
 | zero =>
  intro i hi D c hD hc hs ht;have h1 : ¬(i:Int)<(A.length:Int):=by omega
  have hd:A.drop i=[]:=pA (by omega);rw[hd]at hs ht;simp only[vP,vQ,pD]at hs ht;subst hs ht;apply zC;simp only[bW,List.replicate_one];(repeat((conv=>lhs;whnf);simp only[go_sem,simprocAttr,h1]));exact hz
 | succ m ih =>
  intro i hi D c hD hc hs ht;have h1:(i:Int)<(A.length:Int):=by omega
  have w1:=xF (i:=i) (n:=A.length) (by omega) (by omega);have x1:0≤(i:Int)∧(i:Int)<(A.length:Int):=⟨by omega,h1⟩;have ha:=hA.getD (by decide) i;have hb:=hB.getD (by decide) i;have ha':A.getD i 0<4294967296:=ha.2;have hb':B.getD i 0<4294967296:=hb.2;have hd:=yA A (k:=i) (by omega);have hbh:(B.drop i).headD 0=B.getD i 0:=by
   by_cases hib:i<B.length
   ·rw[yA B hib];rfl
   ·rw[pA (by omega),bE,bY (by omega)];rfl
  have hbt:(B.drop i).tail=B.drop (i+1):=List.tail_drop;rw[hd]at hs ht;have es:vP (A.getD i 0::A.drop (i+1)) (B.drop i) c=(c+A.getD i 0+B.getD i 0) % 4294967296::vP (A.drop (i+1)) (B.drop (i+1)) ((c+A.getD i 0+B.getD i 0) / 4294967296):=by
   rw[vP,hbh,hbt]
  have et:vQ (A.getD i 0::A.drop (i+1)) (B.drop i) c=vQ (A.drop (i+1)) (B.drop (i+1)) ((c+A.getD i 0+B.getD i 0) / 4294967296):=by
   rw[vQ,hbh,hbt]
  rw[es]at hs;rw[et]at ht;have key:=ih (i+1) (by omega) (D++[(c+A.getD i 0+B.getD i 0) % 4294967296]) ((c+A.getD i 0+B.getD i 0) / 4294967296) (by simp[hD]) (by omega) (by simpa using hs) ht;have set : ∀v:Int,(zB .u32 (D++List.replicate (m+1+1) 0)).set i [.int .u32 v]=zB .u32 ((D++[v])++List.replicate (m+1) 0):=fun v=>by
   rw[yR]
   congr 1
   rw[pT,hI (by omega),hD,sM,sV,pV];simp
  have xm:=yb.idxmk .u32 (S:=[.arr (zB .u32 (D++List.replicate (m+1+1) 0)) (some (some 1)) false]) (id:=0) (off:=0) (n:=A.length+1) (ex:=true) (L:=D++List.replicate (m+1+1) 0) i rfl (by simp;omega) (by omega);have len:i<(D++List.replicate (m+1+1) (0:Int)).length:=by simp;omega
  have len1:((zB .u32 (D++List.replicate (m+1+1) 0)).getD i []).length=1:=by
   rw[zy _ _ (by simp;omega)];rfl
  have cu:IntKind.u64.wrap (A.getD i 0)=A.getD i 0:=by rw[yK];omega
  have cb:IntKind.u64.wrap (B.getD i 0)=B.getD i 0:=by rw[yK];omega
  have v0:IntKind.u64.wrap (c+A.getD i 0)=c+A.getD i 0:=by rw[yK];omega
  apply zC;by_cases hib:i<B.length
  ·have h2:(i:Int)<(B.length:Int):=by omega
   have x2:0≤(i:Int)∧(i:Int)<(B.length:Int):=⟨by omega,h2⟩;have v1:IntKind.u64.wrap (c+A.getD i 0+B.getD i 0)=c+A.getD i 0+B.getD i 0:=by rw[yK];omega
   have v2:IntKind.u32.wrap (c+A.getD i 0+B.getD i 0)=(c+A.getD i 0+B.getD i 0) % 4294967296:=by rw[bU]
   (repeat((conv=>lhs;whnf);simp only[go_sem,simprocAttr,h1,x1,bD,cu,cb,h2,x2,xm,v0,v1,v2,set,len,len1,w1,zI,zY]));exact key
  ·have h2 : ¬(i:Int)<(B.length:Int):=by omega
   have hb0:B.getD i 0=0:=by rw[bE,bY (by omega)];rfl
   rw[hb0,BI]at key;have v2:IntKind.u32.wrap (c+A.getD i 0)=(c+A.getD i 0) % 4294967296:=by rw[bU]
   (repeat((conv=>lhs;whnf);simp only[go_sem,simprocAttr,h1,x1,bD,cu,h2,xm,v0,v2,set,len,len1,w1,zI,zY]));exact key
theorem Zb (m n:Nat) (e1 e2:Bool) (sw:Bool) (hl:(words n).length≤(words m).length) (hm:(words m).length≤900000) (hs:sw=true→(words n).length<(words m).length):callL Tryz.prog zD 109 (if sw then [zo n e2,zo m e1] else [zo m e1,zo n e2])=some (zc (m+n)):=by
 have hM:2000000≤maxLen:=by decide
 obtain⟨i1,i2,i3,i4⟩:=KB (words m) (words n) 0 (yC m) (yC n) hl (.inl rfl);have hok:OkD WB (vP (words m) (words n) 0++[vQ (words m) (words n) 0]):=i1.append (.cons ⟨by omega,by show _<((4294967296:Nat):Int);omega⟩ (.nil _));have hv:(zG WB (vP (words m) (words n) 0++[vQ (words m) (words n) 0])).toNat=m+n:=by
  rw[zX,i2];have e0:(((WB:Nat):Int))=(4294967296:Int):=rfl;have e1:zG WB [vQ (words m) (words n) 0]=vQ (words m) (words n) 0:=by simp[zG]
  rw[e1,e0,i4,yM,yM];omega
 have ct:=xB (by simp;omega) hok;rw[hv]at ct;have hol:(vP (words m) (words n) 0++[vQ (words m) (words n) 0]).length=(words m).length+1:=by simp[i2]
 have c1:=ys (S:=[.arr (zB .u32 (vP (words m) (words n) 0++[vQ (words m) (words n) 0])) (some (some 1)) false]) (id:=0) (n:=(words m).length+1) (ex:=true) ct rfl hol (by simp);have mk:=fun id=>uN id ((words m).length+1) (by omega);have w1:IntKind.i64.wrap (((words m).length:Int)+1)=(((words m).length+1:Nat):Int):=by rw[bA];omega
 have set:(zB .u32 (vP (words m) (words n) 0++[0])).set (words m).length [.int .u32 (vQ (words m) (words n) 0)]=zB .u32 (vP (words m) (words n) 0++[vQ (words m) (words n) 0]):=by
  rw[yR]
  congr 1
  rw[pT,hI (by omega),i2,sM,pV]
 have xm:=yb.idxmk .u32 (S:=[.arr (zB .u32 (vP (words m) (words n) 0++[0])) (some (some 1)) false]) (id:=0) (off:=0) (n:=(words m).length+1) (ex:=true) (L:=vP (words m) (words n) 0++[0]) (words m).length rfl (by simp[i2]) (by omega);have len:(words m).length<(vP (words m) (words n) 0++[(0:Int)]).length:=by simp[i2]
 have len1:((zB .u32 (vP (words m) (words n) 0++[0])).getD (words m).length []).length=1:=by
  rw[zy _ _ len];rfl
 have cc:IntKind.u32.wrap (vQ (words m) (words n) 0)=vQ (words m) (words n) 0:=by rw[bU];omega
 have key:=zBr (words m) (words n) e1 e2 (yC m) (yC n) hl (by omega) [.blk 0,.seq 0 63] (z:=(zc (m+n),[.arr (zB .u32 (vP (words m) (words n) 0++[vQ (words m) (words n) 0])) (some (some 1)) true])) (by
  apply zR;((repeat((conv=>lhs;whnf);simp only[go_sem,simprocAttr,cc,xm,len,len1,set,c1,zI,zY]));try rfl)) (words m).length 0 (by omega) [] 0 rfl (.inl rfl) (by simp) (by simp)
 refine FX.callL (r:=(zc (m+n),[.arr (zB .u32 (vP (words m) (words n) 0++[vQ (words m) (words n) 0])) (some (some 1)) true])) ok109_ 1000 (by cases sw <;> rfl) rfl ?_ (xA _ _);unfold zo at *;cases sw with
 | true =>
  have c:=hs rfl;have c':((words n).length:Int)<(words m).length:=by omega
  simp only[if_true];(repeat((conv=>lhs;whnf);simp only[go_sem,simprocAttr,c,c',w1,mk]));exact key
 | false =>
  have c : ¬(words m).length<(words n).length:=by omega
  have c' : ¬((words m).length:Int)<(words n).length:=by omega
  simp only[bH,if_false];(repeat((conv=>lhs;whnf);simp only[go_sem,simprocAttr,c,c',w1,mk]));exact key
theorem zDS {m n:Nat} {a b:PV} (ha:za m a) (hb:za n b) (hm:(words m).length≤900000) (hn:(words n).length≤900000) (S:zA):zQ (callL Tryz.prog zD) S 109 [a,b]=some {v:=zc (m+n)} := by
 obtain⟨e1,rfl,h1⟩:=ha.form;obtain⟨e2,rfl,h2⟩:=hb.form;by_cases hl:(words m).length<(words n).length
 ·have:=Zb n m e2 e1 true (by omega) hn (fun _=>hl);rw[Nat.add_comm]at this;exact zE (S:=S) this (by simp[h1,h2])
 ·exact zE (S:=S) (Zb m n e1 e2 false (by omega) hm (fun h=>by cases h)) (by simp[h1,h2])
end
end
section
def ze (q:Rat) (k:Nat):Prop:=(words q.num.natAbs).length≤k∧(words q.den).length≤k
theorem ze.mono {q:Rat} {j k:Nat} (h:ze q j) (hk:j≤k):ze q k:=⟨bF h.1 hk,bF h.2 hk⟩
theorem xX (q:Rat):wM q=.agg [.bool (zt q),zo q.num.natAbs false,zo q.den false]:=rfl
theorem kz (S:zA) (n:Nat) (e:Bool) (hn:(words n).length≤1000000):zV Tryz.prog 0 40 40 S (.sl [] true) (.sl (zB .u32 (words n)) e)=some {v:=.msl S.length 0 (words n).length false,S:=S++[.arr (zB .u32 (words n)) (some (some 1)) false]} := by
 have:=yb.appNil 0 S (RowsV.sl (S:=S) (zB .u32 (words n)) e) (ya _ _) (by rw[zI];omega) (by rw[zI];omega);rw[zI]at this;exact this
section
attribute [local irreducible] Vs.callL Vs.callRL tyi zQ yE zm zV zk zb zK zf zF zT zl zi zJ zL zj yB yO yD zN zh Vs.gc zH
noncomputable def zG0:FX:=⟨Tryz.f71,zD.of 71,[]⟩
instance ok71_:zG0.ok 71:=FX.mk'
theorem jm (q:Rat) (hq:ze q 900000):callL Tryz.prog zD 71 [wM q]=some (wM q):=by
 have a1:=fun S=>kz S q.num.natAbs false (by have:=hq.1;omega);have a2:=fun S=>kz S q.den false (by have:=hq.2;omega);refine FX.callL (r:=(.agg [.bool (zt q),.msl 2 0 (words q.num.natAbs).length false,.msl 3 0 (words q.den).length false],[.arr [[.bool (zt q),zo q.num.natAbs false,zo q.den false]] none false,.arr [[.bool (zt q),.msl 2 0 (words q.num.natAbs).length false,.msl 3 0 (words q.den).length false]] none false,.arr (zB .u32 (words q.num.natAbs)) (some (some 1)) false,.arr (zB .u32 (words q.den)) (some (some 1)) false])) ok71_ 1000 rfl rfl ?_ (VO rfl rfl rfl rfl);rw[xX];unfold zo;((repeat((conv=>lhs;whnf);simp only[go_sem,simprocAttr,a1,a2]));try rfl)
noncomputable def zG1:FX:=⟨Tryz.f78,zD.of 78,[]⟩
instance ok78_:zG1.ok 78:=FX.mk'
theorem Xa (q:Rat):callL Tryz.prog zD 78 [wM q]=some (.int .i64 (kK q)):=by
 refine FX.callL (r:=(.int .i64 (kK q),[.arr [[.bool (zt q),zo q.num.natAbs false,zo q.den false]] none false])) ok78_ 1000 rfl rfl ?_ rfl;rw[xX];unfold zo;have l0:=zx (n:=q.num.natAbs);by_cases h0:q.num.natAbs=0
 ·have w:(words q.num.natAbs).length=0:=l0.2 h0;have e:kK q=0:=by unfold kK;rw[hZ (by omega)]
  rw[e];((repeat((conv=>lhs;whnf);simp only[go_sem,simprocAttr,w]));try rfl)
 ·have w : ¬(words q.num.natAbs).length=0:=fun e=>h0 (l0.1 e);have w' : ¬((words q.num.natAbs).length:Int)=0:=by omega
  have e:kK q=if zt q then -1 else 1:=by unfold kK;rw[hI (by omega)]
  rw[e]
  cases hn:zt q with
  | true=>((repeat((conv=>lhs;whnf);simp only[go_sem,simprocAttr,w,w',hn]));try rfl)
  | false=>((repeat((conv=>lhs;whnf);simp only[go_sem,simprocAttr,w,w',hn]));try rfl)
noncomputable def zG2:FX:=⟨Tryz.f85,zD.of 85,[]⟩
instance ok85_:zG2.ok 85:=FX.mk'
theorem Xb (q:Rat) (w:Int):callL Tryz.prog zD 85 [wM q,.int .i64 w]=some (.bool (decide ((words q.num.natAbs).length≤w)&&decide ((words q.den).length≤w))):=by
 refine FX.callL (r:=(.bool (decide ((words q.num.natAbs).length≤w)&&decide ((words q.den).length≤w)),[.arr [[.bool (zt q),zo q.num.natAbs false,zo q.den false]] none false])) ok85_ 1000 rfl rfl ?_ rfl;rw[xX];unfold zo;by_cases h:((words q.num.natAbs).length:Int)≤w
 ·simp only[h,decide_true,pQ];((repeat((conv=>lhs;whnf);simp only[go_sem,simprocAttr,h]));try rfl)
 ·simp only[h,decide_false,pS];((repeat((conv=>lhs;whnf);simp only[go_sem,simprocAttr,h]));try rfl)
end
end
section
theorem jA {neg:Bool} {n d:Nat} {va vb:PV} (ha:za n va) (hb:za d vb) (hd:d≠0) (hn:(words n).length≤900000) (hdl:(words d).length≤900000) (S:zA):zQ (callL Tryz.prog zD) S 107 [.bool neg,va,vb]=some {v:=wM (mkRat (sg neg n) d)} :=
 zE (S:=S) (uS ha hb hd hn hdl) (by simp[ha.plain,hb.plain,zW.bool])
theorem WV {m n k:Nat} (hm:(words m).length≤k) (hn:(words n).length≤k):(words (m+n)).length≤k+1:=UT WB2 hm hn
structure AddFacts (b c:Bool) (X Y D:Nat) (vx vy vd:PV):Prop where
 cmp : ∀S,zQ (callL Tryz.prog zD) S 108 [vx,vy]=some {v:=.int .i64 (yU X Y)}
 add : ∀S,zQ (callL Tryz.prog zD) S 109 [vx,vy]=some {v:=zc (X+Y)}
 mkA:b=c→∀S,zQ (callL Tryz.prog zD) S 107 [.bool b,zc (X+Y),vd]=some {v:=wM (mkRat (sg b X+sg c Y) D)}
 subG:Y≤X→∀S,zQ (callL Tryz.prog zD) S 110 [vx,vy]=some {v:=zc (X-Y)}
 mkG:b≠c→Y≤X→∀S,zQ (callL Tryz.prog zD) S 107 [.bool b,zc (X-Y),vd]=some {v:=wM (mkRat (sg b X+sg c Y) D)}
 subL:X<Y→∀S,zQ (callL Tryz.prog zD) S 110 [vy,vx]=some {v:=zc (Y-X)}
 mkL:b≠c→X<Y→∀S,zQ (callL Tryz.prog zD) S 107 [.bool c,zc (Y-X),vd]=some {v:=wM (mkRat (sg b X+sg c Y) D)}
theorem KC (b c:Bool) {X Y D:Nat} {vx vy vd:PV} (iX:za X vx) (iY:za Y vy) (iD:za D vd) (hD:D≠0) (hX:(words X).length≤800000) (hY:(words Y).length≤800000) (hd:(words D).length≤800000):AddFacts b c X Y D vx vy vd where
 cmp:=VI iX iY (by omega) (by omega)
 add:=zDS iX iY (by omega) (by omega)
 mkA:=fun h S=>by
  rw[←h,Z9];exact jA (.of _) iD hD (bF (WV hX hY) (by omega)) (by omega) S
 subG:=fun h=>YB iX iY h (by omega)
 mkG:=fun h1 h2 S=>by
  rw[WT h1 h2];exact jA (.of _) iD hD (bF (yk (Nat.sub_le _ _)) (by omega)) (by omega) S
 subL:=fun h=>YB iY iX (by omega) (by omega)
 mkL:=fun h1 h2 S=>by
  rw[WU h1 (by omega)];exact jA (.of _) iD hD (bF (yk (Nat.sub_le _ _)) (by omega)) (by omega) S
section
attribute [local irreducible] Vs.callL Vs.callRL tyi zQ yE zm zV zk zb zK zf zF zT zl zi zJ zL zj yB yO yD zN zh Vs.gc zH
noncomputable def zG3:FX:=⟨Tryz.f69,zD.of 69,[]⟩
instance ok69_:zG3.ok 69:=FX.mk'
theorem qu (q r:Rat) (hq:ze q 400000) (hr:ze r 400000):callL Tryz.prog zD 69 [wM q,wM r]=some (wM (q*r)):=by
 obtain⟨v1,i1,c1⟩:=vq (za.of q.num.natAbs) (za.of r.num.natAbs) (by have:=hq.1;omega) (by have:=hr.1;omega);obtain⟨v2,i2,c2⟩:=vq (za.of q.den) (za.of r.den) (by have:=hq.2;omega) (by have:=hr.2;omega);have mk:=jA (neg:=zt q != zt r) i1 i2 (HN q.den_nz r.den_nz) (bF (xO hq.1 hr.1) (by omega)) (bF (xO hq.2 hr.2) (by omega));rw[←qF]at mk;rw[show (zt q != zt r) = !(zt q == zt r) from rfl]at mk;refine FX.callL (r:=(wM (q*r),[.arr [[.bool (zt q),zo q.num.natAbs false,zo q.den false]] none false,.arr [[.bool (zt r),zo r.num.natAbs false,zo r.den false]] none false,.arr [[.bool (zt (q*r)),zo (q*r).num.natAbs false,zo (q*r).den false]] none false])) ok69_ 1000 rfl rfl ?_ rfl;simp only[xX]at mk ⊢;unfold zc at c1 c2;unfold zo at *;((repeat((conv=>lhs;whnf);simp only[go_sem,simprocAttr,c1,c2,mk]));try rfl)
noncomputable def zG4:FX:=⟨Tryz.f68,zD.of 68,[]⟩
instance ok68_:zG4.ok 68:=FX.mk'
theorem qv (q r:Rat) (hq:ze q 400000) (hr:ze r 400000):callL Tryz.prog zD 68 [wM q,wM r]=some (wM (q+r)):=by
 have cd:=VI (za.of q.den) (za.of r.den) (by have:=hq.2;omega) (by have:=hr.2;omega);refine FX.callL (r:=(wM (q+r),[.arr [[.bool (zt q),zo q.num.natAbs false,zo q.den false]] none false,.arr [[.bool (zt r),zo r.num.natAbs false,zo r.den false]] none false,.arr [[.bool (zt (q+r)),zo (q+r).num.natAbs false,zo (q+r).den false]] none false])) ok68_ 1000 rfl rfl ?_ rfl;by_cases hd:q.den=r.den
 ·have c0:yU q.den r.den=0:=by unfold yU;rw[hI (by omega),hI (by omega)]
  rw[c0]at cd;have F:=KC (zt q) (zt r) (za.of q.num.natAbs) (za.of r.num.natAbs) (za.of q.den) q.den_nz (by have:=hq.1;omega) (by have:=hr.1;omega) (by have:=hq.2;omega);by_cases hs:zt q=zt r
  ·have f1:=F.add;have f2:=F.mkA hs;rw[←kJ hd]at f2;simp only[xX]at f2 ⊢;unfold zc at cd f1 f2;unfold zo at *;have hb:(zt q == zt r)=true:=by simp[hs]
   ((repeat((conv=>lhs;whnf);simp only[go_sem,simprocAttr,cd,f1,f2,hb]));try rfl)
  ·have f0:=F.cmp;have hb:(zt q == zt r)=false:=by simpa using hs
   by_cases hc:r.num.natAbs≤q.num.natAbs
   ·have c:0≤yU q.num.natAbs r.num.natAbs:=by unfold yU;rw[hI (by omega)];split <;> omega
    have f1:=F.subG hc;have f2:=F.mkG hs hc;rw[←kJ hd]at f2;simp only[xX]at f2 ⊢;unfold zc at cd f0 f1 f2;unfold zo at *;((repeat((conv=>lhs;whnf);simp only[go_sem,simprocAttr,cd,f0,f1,f2,hb,c]));try rfl)
   ·have c : ¬ 0≤yU q.num.natAbs r.num.natAbs:=by unfold yU;rw[hZ (by omega)];omega
    have f1:=F.subL (by omega);have f2:=F.mkL hs (by omega);rw[←kJ hd]at f2;simp only[xX]at f2 ⊢;unfold zc at cd f0 f1 f2;unfold zo at *;((repeat((conv=>lhs;whnf);simp only[go_sem,simprocAttr,cd,f0,f1,f2,hb,c]));try rfl)
 ·have c0 : ¬yU q.den r.den=0:=by unfold yU;split <;> (try split) <;> omega
  obtain⟨vx,iX,k1⟩:=vq (za.of q.num.natAbs) (za.of r.den) (by have:=hq.1;omega) (by have:=hr.2;omega);obtain⟨vy,iY,k2⟩:=vq (za.of r.num.natAbs) (za.of q.den) (by have:=hr.1;omega) (by have:=hq.2;omega);obtain⟨vd,iD,k3⟩:=vq (za.of q.den) (za.of r.den) (by have:=hq.2;omega) (by have:=hr.2;omega);have F:=KC (zt q) (zt r) iX iY iD (HN q.den_nz r.den_nz) (bF (xO hq.1 hr.2) (by omega)) (bF (xO hr.1 hq.2) (by omega)) (bF (xO hq.2 hr.2) (by omega));by_cases hs:zt q=zt r
  ·have f1:=F.add;have f2:=F.mkA hs;rw[←xT]at f2;simp only[xX]at f2 ⊢;unfold zc at cd k1 k2 k3 f1 f2;unfold zo at *;have hb:(zt q == zt r)=true:=by simp[hs]
   ((repeat((conv=>lhs;whnf);simp only[go_sem,simprocAttr,cd,c0,k1,k2,k3,f1,f2,hb]));try rfl)
  ·have f0:=F.cmp;have hb:(zt q == zt r)=false:=by simpa using hs
   by_cases hc:r.num.natAbs*q.den≤q.num.natAbs*r.den
   ·have c:0≤yU (q.num.natAbs*r.den) (r.num.natAbs*q.den):=by unfold yU;rw[hI (by omega)];split <;> omega
    have f1:=F.subG hc;have f2:=F.mkG hs hc;rw[←xT]at f2;simp only[xX]at f2 ⊢;unfold zc at cd k1 k2 k3 f0 f1 f2;unfold zo at *;((repeat((conv=>lhs;whnf);simp only[go_sem,simprocAttr,cd,c0,k1,k2,k3,f0,f1,f2,hb,c]));try rfl)
   ·have c : ¬ 0≤yU (q.num.natAbs*r.den) (r.num.natAbs*q.den):=by unfold yU;rw[hZ (by omega)];omega
    have f1:=F.subL (by omega);have f2:=F.mkL hs (by omega);rw[←xT]at f2;simp only[xX]at f2 ⊢;unfold zc at cd k1 k2 k3 f0 f1 f2;unfold zo at *;((repeat((conv=>lhs;whnf);simp only[go_sem,simprocAttr,cd,c0,k1,k2,k3,f0,f1,f2,hb,c]));try rfl)
end
end
section
section
attribute [local irreducible] Vs.callL Vs.callRL tyi zQ yE zm zV zk zb zK zf zF zT zl zi zJ zL zj yB yO yD zN zh Vs.gc zH
noncomputable def zG5:FX:=⟨Tryz.f86,zD.of 86,[]⟩
instance ok86_:zG5.ok 86:=FX.mk'
theorem VP (n:Nat) (hn:n<9223372036854775808):callL Tryz.prog zD 86 [.int .i64 n]=some (wM (n:Rat)):=by
 have f1:=ud n (by omega);have mk:=jA (neg:=false) (za.of n) (za.of 1) (by decide) (bF (yh (by omega)) (by decide)) (bF (yh (by omega)) (by decide));have e:mkRat (sg false n) 1=(n:Rat):=by
  show mkRat (n:Int) 1=_
  rw[Rat.mkRat_one];rfl
 rw[e]at mk;have w1:zc 1=.sl (zB .u32 [1]) false:=by unfold zc;rw[vi]
 have hc:=uS (neg:=false) (za.of n) (za.of 1) (by decide) (bF (yh (by omega)) (by decide)) (bF (yh (by omega)) (by decide));rw[e,w1]at hc;have mk0:=Ug (S:=[.arr [[.bool false,.sl [] true,.sl [] true]] none false,.arr [[.int .u32 1]] (some (some 1)) false]) (l:=[.bool false,zc n,.msl 1 0 1 true]) (ids:=[1]) hc (by
  have h2:=(za.of n).plain.2 [.arr [[.bool false,.sl [] true,.sl [] true]] none false,.arr [[.int .u32 1]] (some (some 1)) false];have hf:=vL (S:=[.arr [[.bool false,.sl [] true,.sl [] true]] none false,.arr [[.int .u32 1]] (some (some 1)) false]) (id:=1) (n:=1) (k:=.u32) (L:=[1]) (ex:=true) rfl rfl;simp only[yG,h2,bC,Qx,hf,bJ]) (by
   have h2:=(za.of n).plain.1;simp only[HY,List.flatMap_nil,h2];rfl) rfl
 have c : ¬(n:Int)<0:=by omega
 have w:IntKind.u64.wrap (n:Int)=n:=by rw[yK];omega
 refine FX.callL (r:=(wM (n:Rat),[.arr [[.bool (zt (n:Rat)),zo (n:Rat).num.natAbs false,zo (n:Rat).den false]] none false,.arr (zB .u32 [1]) (some (some 1)) true])) ok86_ 1000 rfl rfl ?_ rfl;simp only[xX]at mk0 ⊢;unfold zc at f1 mk0;unfold zo at *;((repeat((conv=>lhs;whnf);simp only[go_sem,simprocAttr,c,w,f1,mk0]));try rfl)
end
end
section
theorem ZX:(tyi Tryz.prog 50).d=.struct [(0,1,false),(1,1,false),(2,1,false)]:=by kernel_rfl
@[go_sem] theorem Q5:(tyi Tryz.prog 50).size=3:=nr (by kernel_rfl)
@[go_sem] theorem KD:(tyi Tryz.prog 50).known=true:=nr (by kernel_rfl)
@[go_sem] theorem VQ:(tyi Tryz.prog 50).zero=some [.bool false,.sl [] true,.sl [] true]:=nr (by kernel_rfl)
@[go_sem] theorem zG6 (n:Nat):zj (tyi Tryz.prog 50) n=some {v:=.mp n 0 0,new:=some ([[.bool false,.sl [] true,.sl [] true]],none)} := nr (by unfold zj;rw[VQ];rfl)
@[go_sem] theorem zG7 (l:List (Nat × PV)):zi Tryz.prog 50 l=(kS [(0,1,false),(1,1,false),(2,1,false)] [.bool false,.sl [] true,.sl [] true] l).map .agg:=nr (by unfold zi;rw[ZX];dsimp only;unfold zl;rw[ZX,VQ];rfl)
theorem zBs (row:List PV):part (tyi Tryz.prog 50) row=if 3≤row.length then some (.agg (row.take 3)) else none:=by simp[part,KD,TI.isAgg,ZX,Q5]
@[go_sem] theorem zHT (id i off:Nat):zF (tyi Tryz.prog 50) 0 (.mp id i off)=some (.mp id i (off+0)):=by simp[zF,ZX]
@[go_sem] theorem zHU (r:List PV):zF (tyi Tryz.prog 50) 0 (.cp r)=some (.cp (r.drop 0)):=by simp[zF,ZX]
@[go_sem] theorem zHV (cs:List PV):zT (tyi Tryz.prog 50) 0 (.agg cs)=cs[0]? := by simp[zT,ZX]
@[go_sem] theorem zHW (id i off:Nat):zF (tyi Tryz.prog 50) 1 (.mp id i off)=some (.mp id i (off+1)):=by simp[zF,ZX]
@[go_sem] theorem zHX (r:List PV):zF (tyi Tryz.prog 50) 1 (.cp r)=some (.cp (r.drop 1)):=by simp[zF,ZX]
@[go_sem] theorem zHY (cs:List PV):zT (tyi Tryz.prog 50) 1 (.agg cs)=cs[1]? := by simp[zT,ZX]
@[go_sem] theorem zHZ (id i off:Nat):zF (tyi Tryz.prog 50) 2 (.mp id i off)=some (.mp id i (off+2)):=by simp[zF,ZX]
@[go_sem] theorem zH0 (r:List PV):zF (tyi Tryz.prog 50) 2 (.cp r)=some (.cp (r.drop 2)):=by simp[zF,ZX]
@[go_sem] theorem zH1 (cs:List PV):zT (tyi Tryz.prog 50) 2 (.agg cs)=cs[2]? := by simp[zT,ZX]
attribute [go_sem] zBs
@[go_sem] theorem zG8 (v:PV) (r:List PV):part (tyi Tryz.prog 48) (v::r)=some v:=by
 have k:(tyi Tryz.prog 48).known=true:=by kernel_rfl
 simp[part,k,TI.isAgg,yv.d]
def rrL (neg:Bool) (n d:Nat):PV:=.agg [.bool neg,zg n,zg d]
def rrV (q:Rat):PV:=rrL (zt q) q.num.natAbs q.den
theorem zAW (neg:Bool) (n d:Nat):zW (rrL neg n d):=⟨rfl,fun _=>rfl⟩
theorem zAX (q:Rat):zW (rrV q):=zAW _ _ _
theorem J7:dec 1=[1]:=by
 unfold dec;rw[xW DB2 (by decide)];have:1 / DB=0:=by decide
 rw[this,yH]
 decide
theorem XF:zg 1=.sl [[.int .i64 1]] false:=by unfold zg yJ;rw[J7];rfl
theorem zHt:zt 0=false:=rfl
theorem zHu:(0:Rat).num.natAbs=0:=rfl
theorem zHv:(0:Rat).den=1:=rfl
theorem zHw:zt 1=false:=rfl
theorem zHx:(1:Rat).num.natAbs=1:=rfl
theorem zHy:(1:Rat).den=1:=rfl
theorem KE:rrV 0=.agg [.bool false,.sl [] false,.sl [[.int .i64 1]] false]:=by
 unfold rrV rrL;rw[zHt,zHu,zHv,ZV,XF]
theorem zDT:rrV 1=.agg [.bool false,.sl [[.int .i64 1]] false,.sl [[.int .i64 1]] false]:=by
 unfold rrV rrL;rw[zHw,zHx,zHy,XF]
theorem zEp (neg:Bool) {n d:Nat} (hn:n≠0) (hd:d≠0):rrV (mkRat (sg neg n) d)=rrL neg (n / Nat.gcd n d) (d / Nat.gcd n d):=by
 unfold rrV;have h1:zt (mkRat (sg neg n) d)=neg:=by
  unfold zt;have:=ql neg n hd;have e:(if neg=true then -(n:Int) else n)=sg neg n:=rfl;rw[e]at this;cases neg with
  | true=>exact pM (this.2 ⟨rfl,hn⟩)
  | false=>exact sA (fun h=>by have:=(this.1 h).1;cases this)
 rw[h1,Yn hd,Yo hd,vu]
theorem zU.pos {n:Nat} {v:PV} (h:zU n v) (h0:n≠0):v=zg n:=by
 rcases h with h | ⟨h,_⟩
 ·exact h
 ·exact absurd h h0
section
attribute [local irreducible] Vs.callL Vs.callRL tyi zQ yE zm zV zk zb zK zf zF zT zl zi zJ zL zj yB yO yD zN zh Vs.gc zH
noncomputable def zG9:FX:=⟨Tryz.f41,zD.of 41,[]⟩
instance ok41_:zG9.ok 41:=FX.mk'
theorem qx:callL Tryz.prog zD 41 []=some (rrV 0):=by
 rw[KE];refine FX.callL (r:=(.agg [.bool false,.msl 1 0 0 true,.msl 2 0 1 true],[.arr [[.bool false,.msl 1 0 0 true,.msl 2 0 1 true]] none false,.arr [] (some (some 1)) false,.arr [[.int .i64 1]] (some (some 1)) false])) ok41_ 1000 rfl rfl ?_ rfl;((repeat((conv=>lhs;whnf);simp only[go_sem,simprocAttr]));try rfl)
noncomputable def zGa:FX:=⟨Tryz.f57,zD.of 57,[]⟩
instance ok57_:zGa.ok 57:=FX.mk'
theorem KF:callL Tryz.prog zD 57 []=some (rrV 1):=by
 rw[zDT];refine FX.callL (r:=(.agg [.bool false,.msl 1 0 1 true,.msl 2 0 1 true],[.arr [[.bool false,.msl 1 0 1 true,.msl 2 0 1 true]] none false,.arr [[.int .i64 1]] (some (some 1)) false,.arr [[.int .i64 1]] (some (some 1)) false])) ok57_ 1000 rfl rfl ?_ rfl;((repeat((conv=>lhs;whnf);simp only[go_sem,simprocAttr]));try rfl)
noncomputable def zGb:FX:=⟨Tryz.f77,zD.of 77,[]⟩
instance ok77_:zGb.ok 77:=FX.mk'
theorem VS (q:Rat):callL Tryz.prog zD 77 [rrV q]=some (.int .i64 (kK q)):=by
 refine FX.callL (r:=(.int .i64 (kK q),[.arr [[.bool (zt q),zg q.num.natAbs,zg q.den]] none false])) ok77_ 1000 rfl rfl ?_ rfl;unfold rrV rrL zg yJ;have l0:=xz (n:=q.num.natAbs);by_cases h0:q.num.natAbs=0
 ·have w:(dec q.num.natAbs).length=0:=l0.2 h0;have e:kK q=0:=by unfold kK;rw[hZ (by omega)]
  rw[e];((repeat((conv=>lhs;whnf);simp only[go_sem,simprocAttr,w]));try rfl)
 ·have w : ¬(dec q.num.natAbs).length=0:=fun e=>h0 (l0.1 e);have w' : ¬((dec q.num.natAbs).length:Int)=0:=by omega
  have e:kK q=if zt q then -1 else 1:=by unfold kK;rw[hI (by omega)]
  rw[e]
  cases hn:zt q with
  | true=>((repeat((conv=>lhs;whnf);simp only[go_sem,simprocAttr,w,w',hn]));try rfl)
  | false=>((repeat((conv=>lhs;whnf);simp only[go_sem,simprocAttr,w,w',hn]));try rfl)
noncomputable def zGc:FX:=⟨Tryz.f73,zD.of 73,[]⟩
instance ok73_:zGc.ok 73:=FX.mk'
theorem VT {neg:Bool} {n d:Nat} {va vb:PV} (ha:zU n va) (hb:zU d vb) (hd:d≠0) (hn:(dec n).length≤800000) (hdl:(dec d).length≤800000):callL Tryz.prog zD 73 [.bool neg,va,vb]=some (rrV (mkRat (sg neg n) d)):=by
 by_cases h0:n=0
 ·subst h0;rw[YF,Za];have cz:=fun S=>zE (S:=S) qx (by simp);have l0:(dec 0).length=0:=xz.2 rfl;obtain⟨e1,rfl,p1⟩:=ha.form;refine FX.callL (r:=(rrV 0,[.arr [[.bool false,.sl [] false,.sl [[.int .i64 1]] false]] none false])) ok73_ 1000 rfl rfl ?_ rfl;rw[KE]at *;unfold yJ at *;((repeat((conv=>lhs;whnf);simp only[go_sem,simprocAttr,l0,cz]));try rfl)
 ·rw[zEp neg h0 hd,ha.pos h0,hb.pos hd];have l0 : ¬(dec n).length=0:=fun e=>h0 (xz.1 e);have l0' : ¬((dec n).length:Int)=0:=by omega
  by_cases hone:d=1
  ·subst hone;have l1:(dec 1).length=1:=by rw[J7];rfl
   have g1:(dec 1).getD 0 0=1:=by rw[J7];rfl
   have x0:0≤(0:Int)∧(0:Int)<((dec 1).length:Int):=by rw[l1];decide
   rw[Nat.gcd_one_right,aU,aU];refine FX.callL (r:=(rrL neg n 1,[.arr [[.bool neg,zg n,zg 1]] none false])) ok73_ 1000 rfl rfl ?_ rfl;unfold rrL zg yJ;((repeat((conv=>lhs;whnf);simp only[go_sem,simprocAttr,l0,l0',l1,x0,aM,g1]));try rfl)
  ·have hD : ¬((dec d).length=1∧(dec d).getD 0 0=1):=fun h=>hone (by
    obtain⟨x,hx⟩:=HV.1 h.1;have hv:=xL d;rw[hx]at h hv;simp[zG]at hv;simp[bE]at h;omega)
   obtain⟨g,ig,cg⟩:=Q4 (zU.of n) (zU.of d) hn hdl;have hg0:Nat.gcd n d≠0:=fun e=>hd (PU e);have:=ig.pos hg0;subst this;have hgl:(dec (Nat.gcd n d)).length≤800000:=bF (wO (HW (by omega) (PG n d))) hdl;have x0:0≤(0:Int)∧(0:Int)<((dec d).length:Int):=⟨by omega,by have:(dec d).length≠0:=fun e=>hd (xz.1 e);omega⟩;have x1:0≤(0:Int)∧(0:Int)<((dec (Nat.gcd n d)).length:Int):=⟨by omega,by have:(dec (Nat.gcd n d)).length≠0:=fun e=>hg0 (xz.1 e);omega⟩;have first:((dec d).length=1→¬(dec d).getD 0 0=1):=fun h1 h2=>hD ⟨h1,h2⟩
   by_cases h1:Nat.gcd n d=1
   ·rw[h1,aU,aU];rw[h1]at cg x1;have l1:(dec 1).length=1:=by rw[J7];rfl
    have g1:(dec 1).getD 0 0=1:=by rw[J7];rfl
    refine FX.callL (r:=(rrL neg n d,[.arr [[.bool neg,zg n,zg d]] none false])) ok73_ 1000 rfl rfl ?_ rfl;unfold rrL zg yJ at *;by_cases hl:(dec d).length=1
    ·have hl':((dec d).length:Int)=1:=by omega
     have f:=first hl
     ((repeat((conv=>lhs;whnf);simp only[go_sem,simprocAttr,l0,l0',hl,hl',x0,aM,f,cg,l1,x1,g1]));try rfl)
    ·have hl' : ¬((dec d).length:Int)=1:=by omega
     ((repeat((conv=>lhs;whnf);simp only[go_sem,simprocAttr,l0,l0',hl,hl',cg,l1,x1,aM,g1]));try rfl)
   ·have second:((dec (Nat.gcd n d)).length=1→¬(dec (Nat.gcd n d)).getD 0 0=1):=fun a1 a2=>h1 (by
     obtain⟨x,hx⟩:=HV.1 a1;have hv:=xL (Nat.gcd n d);rw[hx]at a2 hv;simp[zG]at hv;simp[bE]at a2;omega)
    obtain⟨q1,r1,iq1,_,d1⟩:=qE (zU.of n) (zU.of (Nat.gcd n d)) hn hgl hg0;obtain⟨q2,r2,iq2,_,d2⟩:=qE (zU.of d) (zU.of (Nat.gcd n d)) hdl hgl hg0;have e1:=iq1.pos (by
     have:=Nat.div_pos (HW (by omega) (Nat.gcd_dvd_left n d)) (by omega);omega)
    have e2:=iq2.pos (by
     have:=Nat.div_pos (HW (by omega) (PG n d)) (by omega);omega)
    subst e1 e2;refine FX.callL (r:=(rrL neg (n / Nat.gcd n d) (d / Nat.gcd n d),[.arr [[.bool neg,zg (n / Nat.gcd n d),zg (d / Nat.gcd n d)]] none false])) ok73_ 1000 rfl rfl ?_ rfl;unfold rrL zg yJ at *;by_cases hl:(dec d).length=1 <;> by_cases hk:(dec (Nat.gcd n d)).length=1
    ·have hl':((dec d).length:Int)=1:=by omega
     have hk':((dec (Nat.gcd n d)).length:Int)=1:=by omega
     have f:=first hl
     have f2:=second hk;((repeat((conv=>lhs;whnf);simp only[go_sem,simprocAttr,l0,l0',hl,hl',x0,aM,f,cg,hk,hk',x1,f2,d1,d2]));try rfl)
    ·have hl':((dec d).length:Int)=1:=by omega
     have hk' : ¬((dec (Nat.gcd n d)).length:Int)=1:=by omega
     have f:=first hl
     ((repeat((conv=>lhs;whnf);simp only[go_sem,simprocAttr,l0,l0',hl,hl',x0,aM,f,cg,hk,hk',d1,d2]));try rfl)
    ·have hl' : ¬((dec d).length:Int)=1:=by omega
     have hk':((dec (Nat.gcd n d)).length:Int)=1:=by omega
     have f2:=second hk;((repeat((conv=>lhs;whnf);simp only[go_sem,simprocAttr,l0,l0',hl,hl',cg,hk,hk',x1,aM,f2,d1,d2]));try rfl)
    ·have hl' : ¬((dec d).length:Int)=1:=by omega
     have hk' : ¬((dec (Nat.gcd n d)).length:Int)=1:=by omega
     ((repeat((conv=>lhs;whnf);simp only[go_sem,simprocAttr,l0,l0',hl,hl',cg,hk,hk',d1,d2]));try rfl)
end
end
end Go.Vs


import Derived.Test.YtkaeejkajfinhaaGreatMV13
import Derived.Test.YtkaeejkajfinhaaGreatMV14
set_option linter.unusedVariables false
set_option linter.unusedSimpArgs false
set_option maxRecDepth 100000
namespace Go.Vs
open Go Go.Proofs
section
theorem zIY {m n:Nat} {va vb:PV} (ha:zq m va) (hb:zq n vb) (hm:(dec m).length≤900000) (hn:(dec n).length≤900000) (h0:n≠0) (hlt:m<n*10000) (S:zB):zO (callL Tryz.prog zE) S 187 [va,vb]=some {v:=.int .i64 (m / n:Nat)} := zF (S:=S) (zFb ha hb hm hn h0 hlt) (by simp[ha.plain,hb.plain])
theorem zFc {n x k:Nat} (h:(dec n).length≤k) (hx:x<n*10000):(dec x).length≤k+1:=by
 refine (xO DB2 (k+1) _).2 ?_;have h1:=(xO DB2 k n).1 h;rw[Nat.pow_succ];generalize DB^k=P at *;have:n*10000<P*10000:=Nat.mul_lt_mul_of_pos_right h1 (by omega);exact Nat.lt_trans hx this
theorem zK7 {L:List Int} {m:Nat} (v:Int):(List.replicate (m+1) (0:Int)++L).set m v=List.replicate m 0++(v::L):=zHS v rfl
theorem zK8 (m:Nat) (L:List Int):List.replicate (m+1) (0:Int)++L=List.replicate m 0++(0::L):=by
 rw[SA,pB];rfl
section
attribute [local irreducible] Vs.callL Vs.callRL tyi zO zl zf zR zW za zI zY zA zK zb zV zG zJ zU zn yI zm zL ze Vs.gc zH
noncomputable def zFd:FX:=⟨Tryz.f173,zE.of 173,[]⟩
instance ok173_:zFd.ok 173:=FX.mk'
theorem J3 (m n:Nat) (e1 e2:Bool) (i1:zq m (yN m e1)) (i2:zq n (yN n e2)) (hm:(dec m).length≤800000) (hn:(dec n).length≤800000) (h0:n≠0) (fs:List Fr) :
  ∀(i:Nat),i≤(dec m).length→∀(V:Nat) (Q:List Int),zM DB ((dec m).drop i)=V→OkD DB Q→Q.length=(dec m).length-i→zM DB Q=(V / n:Nat) →
   ∃Q':List Int,OkD DB Q'∧Q'.length=(dec m).length∧zM DB Q'=(m / n:Nat)∧∀z:PV × zB,yB 0 zFd 0 fs [(0,.undef),(1,.undef),(12,.msl 0 0 (dec m).length true),(13,zs (m % n)),(14,.undef),(62,.undef)] [.arr (zD .i64 Q') (some (some 1)) false,.arr [] (some (some 1)) true]=some z →
   zS 0 zFd 0 2036 2 fs [(0,yN m e1),(1,yN n e2),(12,.msl 0 0 (dec m).length true),(13,zs (V % n)),(14,.int .i64 ((i:Int)-1))] [.arr (zD .i64 (List.replicate i 0++Q)) (some (some 1)) false,.arr [] (some (some 1)) true]=some z:=by
 have hM:=yg;intro i
 induction i with
 | zero =>
  intro hi V Q hV hQ hQl hQv;rw[bX,vG]at hV;have e:V=m:=by omega
  subst e;refine⟨Q,hQ,by omega,hQv,fun z key=>?_⟩;apply zC;unfold zs yN at *;simp only[HS,pG];(repeat((conv=>lhs;whnf);simp only[go_sem,simprocAttr]));exact key
 | succ i ih =>
  intro hi V Q hV hQ hQl hQv;have ed:=yu (dec m) (k:=i) (by omega);have ha:=(vE m).getD (by decide) i;have ha':(dec m).getD i 0<10000:=ha.2;obtain⟨a,hA⟩ : ∃a:Nat,(dec m).getD i 0=a:=⟨((dec m).getD i 0).toNat,by omega⟩;have ev:zM DB ((dec m).drop i)=((a+10000*V:Nat):Int):=by
   rw[ed,zM,hV,hA];have:((a+10000*V:Nat):Int)=(a:Int)+10000*V:=by omega
   exact this.symm
  have hRlt:V % n<n:=aM _ (by omega);have hRd:(dec (V % n)).length≤800000:=bP (kD (Nat.le_of_lt hRlt)) hn;have s1:=XI (zq.of (V % n)) 10000 a (by omega) (by omega) (by omega);have hR1:V % n*10000+a<n*10000:=by
   have:(V % n+1)*10000≤n*10000:=pS _ hRlt;omega
  have hR1d:(dec (V % n*10000+a)).length≤800001:=zFc hn hR1;have s2:=XJ (zq.of (V % n*10000+a)) i2 (by omega) (by omega);have hdiv:a+10000*V=n*(10000*(V / n))+(V % n*10000+a):=by
   have:=PS V n;have e:n*(10000*(V / n))=10000*(n*(V / n)):=by rw[Nat.mul_left_comm]
   rw[e];omega
  have hq:(a+10000*V) / n=10000*(V / n)+(V % n*10000+a) / n:=by
   rw[hdiv,Nat.mul_add_div (by omega)]
  have hr:(a+10000*V) % n=(V % n*10000+a) % n:=by
   rw[hdiv,Nat.mul_add_mod]
  have hd9:(V % n*10000+a) / n<10000:=Nat.div_lt_of_lt_mul hR1;have hnd0:n*((V % n*10000+a) / n)≤V % n*10000+a:=Nat.mul_div_le _ _;have hda:=PS (V % n*10000+a) n;have s3:=zIY (zq.of (V % n*10000+a)) i2 (by omega) (by omega) h0 hR1;generalize hdd:(V % n*10000+a) / n=d at *;obtain⟨Q',q1,q2,q3,key⟩:=ih (by omega) (a+10000*V) ((d:Int)::Q) ev (.cons ⟨by omega,by show _<((10000:Nat):Int);omega⟩ hQ) (by simp only[bK];omega) (by
   rw[zM,hQv,hq];have:((10000*(V / n)+d:Nat):Int)=10000*((V / n:Nat):Int)+(d:Int):=by omega
   rw[this];have e0:((DB:Nat):Int)=10000:=rfl;rw[e0];omega)
  rw[hr]at key;refine⟨Q',q1,q2,q3,fun z hz=>?_⟩;have key:=key z hz;have x1:0≤(i:Int)∧(i:Int)<((dec m).length:Int):=⟨by omega,by omega⟩;have ei:((i+1:Nat):Int)-1=(i:Int):=by omega
  have hi0:(0:Int)≤(i:Int):=by omega
  have w1:IntKind.i64.wrap ((i:Int)-1)=(i:Int)-1:=by rw[bE];omega
  have k5:((10000:Nat):Int)=10000:=rfl;rw[k5]at s1;rw[ei];by_cases hc:V % n*10000+a<n
  ·have c:xi (V % n*10000+a) n<0:=by unfold xi;rw[bA hc];omega
   rw[HI hc]at hdd;subst hdd;rw[aH hc]at key;have k6:((0:Nat):Int)=0:=rfl;rw[k6,←zK8]at key;apply zC;unfold zs yN at *;(repeat((conv=>lhs;whnf);simp only[go_sem,simprocAttr,x1,hi0,bD,hA,s1,s2,c,w1]));exact key
  ·have c : ¬xi (V % n*10000+a) n<0:=by unfold xi;rw[hZ hc];split <;> omega
   have s4:=Zy i2 d (by omega) (by omega);have hsub:V % n*10000+a-n*d=(V % n*10000+a) % n:=by
    omega
   have s5:=zAk (zq.of (V % n*10000+a)) (zq.of (n*d)) (by omega) hnd0 (by omega);rw[hsub]at s5;have xm:=wR.idxmk .i64 (S:=[.arr (zD .i64 (List.replicate (i+1) 0++Q)) (some (some 1)) false,.arr [] (some (some 1)) true]) (id:=0) (off:=0) (n:=(dec m).length) (ex:=true) (L:=List.replicate (i+1) 0++Q) i rfl (by simp;omega) (by omega);have len:i<(List.replicate (i+1) (0:Int)++Q).length:=by simp;omega
   have len1:((zD .i64 (List.replicate (i+1) 0++Q)).getD i []).length=1:=by rw[yq _ _ len];rfl
   have set : ∀v:Int,(zD .i64 (List.replicate (i+1) 0++Q)).set i [.int .i64 v]=zD .i64 (List.replicate i 0++(v::Q)):=fun v=>by rw[xW,zK7]
   have xm2:=wR.idxmk .i64 (S:=[.arr (zD .i64 (List.replicate i 0++((d:Int)::Q))) (some (some 1)) false,.arr [] (some (some 1)) true]) (id:=0) (off:=0) (n:=(dec m).length) (ex:=true) (L:=List.replicate i 0++((d:Int)::Q)) i rfl (by simp;omega) (by omega);have len2:i<(List.replicate i (0:Int)++((d:Int)::Q)).length:=by simp
   have gk:=yq .i64 (List.replicate i 0++((d:Int)::Q)) len2;have get:(List.replicate i (0:Int)++((d:Int)::Q)).getD i 0=d:=by
    rw[bL,bZ (by simp)];simp
   rw[get]at gk;rw[pC]at xm xm2;apply zC;unfold zs yN at *;(repeat((conv=>lhs;whnf);simp only[go_sem,simprocAttr,x1,hi0,bD,hA,s1,s2,c,s3,xm,len,len1,set,xm2,len2,gk,s4,s5,w1,zQ,zk]));exact key
theorem YA {n:Nat} {v:PV} (h:zq n v) (hn:(dec n).length≤3000000) (S:zB):zO (callL Tryz.prog zE) S 172 [v]=some {v:=if n<10000000000000000 then .tup [.int .i64 n,.bool true] else .tup [.int .i64 0,.bool false]} := by
 obtain⟨e,rfl,hp⟩:=h.form;exact zF (S:=S) (zDM n e hn) (by simp[hp])
theorem V5:zs 0=.sl [] false:=by unfold zs yN dec;rw[xF];rfl
theorem V6 {v:PV} (h:zh v) (hv : ∃r e,v=.sl r e) (S:zB):uC S v=some v:=by
 obtain⟨r,e,rfl⟩:=hv;exact h.2 S
theorem zq.sl {n:Nat} {v:PV} (h:zq n v) : ∃r e,v=.sl r e:=by
 obtain⟨e,rfl,_⟩:=h.form;exact⟨_,_,rfl⟩
theorem zAl {m n:Nat} {a b:PV} (ha:zq m a) (hb:zq n b) (S:zB):wy S (.tup [a,b])=some (.tup [a,b]):=zK3 (by
 simp only[sW,SS,or_false,forall_eq_or_imp,forall_eq];exact⟨V6 ha.plain ha.sl S,V6 hb.plain hb.sl S⟩)
theorem J4 {m n:Nat} {va vb:PV} (ha:zq m va) (hb:zq n vb) (hm:(dec m).length≤800000) (hn:(dec n).length≤800000) (h0:n≠0) : ∃q r,zq (m / n) q∧zq (m % n) r∧callL Tryz.prog zE 173 [va,vb]=some (.tup [q,r]):=by
 have hM:=yg;have cc:=XJ ha hb (by omega) (by omega);by_cases hlt:m<n
 ·refine⟨zs 0,va,by rw[HI hlt];exact .of 0,by rw[aH hlt];exact ha,?_⟩;have c:xi m n<0:=by unfold xi;rw[bA hlt];omega
  refine FX.callL (r:=(.tup [.msl 0 0 0 true,va],[.arr [] (some (some 1)) false])) ok173_ 1000 rfl rfl ?_ ?_
  ·obtain⟨e1,rfl,p1⟩:=ha.form;obtain⟨e2,rfl,p2⟩:=hb.form;unfold yN at *;((repeat((conv=>lhs;whnf);simp only[go_sem,simprocAttr,cc,c]));try rfl)
  ·have h1:=V6 ha.plain ha.sl [.arr [] (some (some 1)) false];have h2:uC [.arr [] (some (some 1)) false] (.msl 0 0 0 true)=some (.sl [] false):=rfl
   show (xY (uC [.arr [] (some (some 1)) false]) [.msl 0 0 0 true,va]).map PV.tup=_
   simp only[xY,h1,h2,bI,pE,V5]
 ·have c : ¬xi m n<0:=by unfold xi;rw[hZ hlt];split <;> omega
  have l1:=YA ha (by omega);by_cases hs:m<10000000000000000
  ·have l2:=YA hb (by omega);rw[bA hs]at l1;rw[bA (show n<10000000000000000 by omega)]at l2;have d1:=U6 (m / n) (by have:=BD m n;omega);have d2:=U6 (m % n) (by have:=Nat.mod_le m n;omega);have n0 : ¬(n:Int)=0:=by omega
   have td:IntKind.i64.wrap ((m:Int).tdiv n)=((m / n:Nat):Int):=by
    have h1:=BD m n;have e:(m:Int) / n=((m / n:Nat):Int):=rfl;rw[aJ (by omega),bE,e];generalize m / n=q at *;omega
   have tm:(m:Int).tmod n=((m % n:Nat):Int):=by rw[aR (by omega)];rfl
   refine⟨zs (m / n),zs (m % n),.of _,.of _,?_⟩;refine FX.callL (r:=(.tup [zs (m / n),zs (m % n)],[])) ok173_ 1000 rfl rfl ?_ (zAl (.of _) (.of _) _);obtain⟨e1,rfl,p1⟩:=ha.form;obtain⟨e2,rfl,p2⟩:=hb.form;unfold zs yN at *;((repeat((conv=>lhs;whnf);simp only[go_sem,simprocAttr,cc,c,l1,l2,n0,h0,td,tm,d1,d2]));try rfl)
  ·rw[hZ hs]at l1;by_cases hone:(dec n).length=1
   ·have hone':((dec n).length:Int)=1:=by omega
    have x0:0≤(0:Int)∧(0:Int)<((dec n).length:Int):=⟨by omega,by omega⟩;have hv:(dec n).getD 0 0=n:=by
     obtain⟨x,hx⟩:=BL.1 hone;have:=vG n;rw[hx]at this ⊢;simp[zM]at this
     simpa [bL] using this
    have hn9:n<10000:=by
     have:=(xO DB2 1 n).1 (by show (dec n).length≤1;omega);rw[Nat.pow_one]at this;exact this
    have sp:=Qc ha n ⟨by omega,by omega⟩ (by omega);have d2:=U6 (m % n) (by have:=aM m (show n > 0 by omega);omega);refine⟨zs (m / n),zs (m % n),.of _,.of _,?_⟩;refine FX.callL (r:=(.tup [zs (m / n),zs (m % n)],[])) ok173_ 1000 rfl rfl ?_ (zAl (.of _) (.of _) _);obtain⟨e1,rfl,p1⟩:=ha.form;obtain⟨e2,rfl,p2⟩:=hb.form;unfold zs yN at *;((repeat((conv=>lhs;whnf);simp only[go_sem,simprocAttr,cc,c,l1,hone,hone',x0,sD,hv,sp,d2]));try rfl)
   ·have hone' : ¬((dec n).length:Int)=1:=by omega
    refine⟨zs (m / n),zs (m % n),.of _,.of _,?_⟩;obtain⟨e1,rfl,p1⟩:=ha.form;obtain⟨e2,rfl,p2⟩:=hb.form;have mk:=fun id=>KY id (dec m).length (by omega);have w1:IntKind.i64.wrap (((dec m).length:Int)-1)=((dec m).length:Int)-1:=by rw[bE];omega
    obtain⟨Q,q1,q2,q3,key⟩:=J3 m n e1 e2 ha hb hm hn h0 [.blk 0,.seq 0 255] (dec m).length (bF _) 0 [] (by rw[HL];rfl) (.nil _) (by simp) (by simp[zM]);have ct:=ky (by omega) q1;rw[q3,bD]at ct;have c1:=wP (S:=[.arr (zD .i64 Q) (some (some 1)) false,.arr [] (some (some 1)) true]) (id:=0) (n:=(dec m).length) (ex:=true) ct rfl q2 (by simp);have hS:=key (.tup [zs (m / n),zs (m % n)],[.arr (zD .i64 Q) (some (some 1)) true,.arr [] (some (some 1)) true]) (by
     apply zN;((repeat((conv=>lhs;whnf);simp only[go_sem,simprocAttr,c1]));try rfl))
    rw[Nat.zero_mod,V5,pU]at hS;refine FX.callL (r:=(.tup [zs (m / n),zs (m % n)],[.arr (zD .i64 Q) (some (some 1)) true,.arr [] (some (some 1)) true])) ok173_ 1000 rfl rfl ?_ (zAl (.of _) (.of _) _);unfold zs yN at *;(repeat((conv=>lhs;whnf);simp only[go_sem,simprocAttr,cc,c,l1,hone,hone',mk,w1]));exact hS
end
end
section
theorem Xv {m n:Nat} {va vb:PV} (ha:zq m va) (hb:zq n vb) (hm:(dec m).length≤800000) (hn:(dec n).length≤800000) (h0:n≠0) : ∃q r,zq (m / n) q∧zq (m % n) r∧∀S,zO (callL Tryz.prog zE) S 173 [va,vb]=some {v:=.tup [q,r]} := by
 obtain⟨q,r,hq,hr,h⟩:=J4 ha hb hm hn h0;exact⟨q,r,hq,hr,fun S=>zF (S:=S) h (by simp[ha.plain,hb.plain])⟩
section
attribute [local irreducible] Vs.callL Vs.callRL tyi zO zl zf zR zW za zI zY zA zK zb zV zG zJ zU zn yI zm zL ze Vs.gc zH
noncomputable def K7:FX:=⟨Tryz.f150,zE.of 150,[]⟩
instance ok150_:K7.ok 150:=FX.mk'
theorem zDX (x0 x1:PV) (fs:List Fr) {z:PV × zB} : ∀(f x y:Nat),y≤f→x<4611686018427387904→y<4611686018427387904→yB 0 K7 2 fs [(5,.int .i64 (Nat.gcd x y)),(7,.undef),(29,.undef)] []=some z→zS 0 K7 2 25296 0 fs [(0,.undef),(1,.undef),(5,.int .i64 x),(7,.int .i64 y),(27,.undef)] []=some z:=by
 intro f
 induction f with
 | zero =>
  intro x y hf hx hy hz;have h0:y=0:=by omega
  subst h0;rw[PM]at hz;apply zC;(repeat((conv=>lhs;whnf);simp only[go_sem,simprocAttr]));exact hz
 | succ f ih =>
  intro x y hf hx hy hz;by_cases h0:y=0
  ·subst h0;rw[PM]at hz;apply zC;(repeat((conv=>lhs;whnf);simp only[go_sem,simprocAttr]));exact hz
  ·have hlt:x % y<y:=aM _ (by omega);have key:=ih y (x % y) (by omega) hy (by omega) (by rw[HA y,←Nat.gcd_rec,HA];exact hz);have c:(0:Int)<y:=by omega
   have c':0<y:=by omega
   have n0 : ¬(y:Int)=0:=by omega
   have tm:(x:Int).tmod y=((x % y:Nat):Int):=by rw[aR (by omega)];rfl
   apply zC;(repeat((conv=>lhs;whnf);simp only[go_sem,simprocAttr,c,c',n0,h0,tm]));exact key
theorem zFe : ∀(f m n:Nat) (va vb:PV),n≤f→(dec m).length≤800000→(dec n).length≤800000→zq m va→zq n vb →
  ∃g,zq (Nat.gcd m n) g∧zS 0 K7 0 24 0 [.blk 0,.seq 0 7] [(0,va),(1,vb)] []=some (g,[]):=by
 have hM:=yg;have base : ∀(m:Nat) (va vb:PV),zq m va→zq 0 vb→∃g,zq (Nat.gcd m 0) g∧zS 0 K7 0 24 0 [.blk 0,.seq 0 7] [(0,va),(1,vb)] []=some (g,[]):=by
  intro m va vb ha hb;refine⟨va,by rw[PM];exact ha,?_⟩;obtain⟨e1,rfl,p1⟩:=ha.form;obtain⟨e2,rfl,p2⟩:=hb.form;have l0:(dec 0).length=0:=kC.2 rfl;apply zC;unfold yN;(repeat((conv=>lhs;whnf);simp only[go_sem,simprocAttr,l0]));apply zN;((repeat((conv=>lhs;whnf);simp only[go_sem,simprocAttr]));try rfl)
 intro f
 induction f with
 | zero =>
  intro m n va vb hf _ _ ha hb;have h0:n=0:=by omega
  subst h0;exact base m va vb ha hb
 | succ f ih =>
  intro m n va vb hf hm hn ha hb;by_cases h0:n=0
  ·subst h0;exact base m va vb ha hb
  ·have l1:=YA ha (by omega);have l2:=YA hb (by omega);have d0:(dec n).length≠0:=fun e=>h0 (kC.1 e);have d1:(0:Int)<(dec n).length:=by omega
   have d2:0<(dec n).length:=by omega
   by_cases hs:m<10000000000000000∧n<10000000000000000
   ·rw[bA hs.1]at l1;rw[bA hs.2]at l2;have hg:Nat.gcd m n≤n:=BX (by omega) (SF m n);have di:=U6 (Nat.gcd m n) (by omega);have key:=zDX va vb [.blk 2,.seq 1 6325,.seq 1 791,.blk 1,.lop 0 24 0,.blk 0,.seq 0 7] (z:=(zs (Nat.gcd m n),[])) n m n (bF _) (by omega) (by omega) (by
     apply zN;unfold zs yN at *;((repeat((conv=>lhs;whnf);simp only[go_sem,simprocAttr,di]));try rfl))
    refine⟨zs (Nat.gcd m n),.of _,?_⟩;obtain⟨e1,rfl,p1⟩:=ha.form;obtain⟨e2,rfl,p2⟩:=hb.form;apply zC;unfold zs yN at *;(repeat((conv=>lhs;whnf);simp only[go_sem,simprocAttr,d1,d2,l1,l2]));exact key
   ·obtain⟨q,r,iq,ir,hd⟩:=Xv ha hb hm hn h0;have hlt:m % n<n:=aM _ (by omega);obtain⟨g,hg,key⟩:=ih n (m % n) vb r (by omega) hn (bP (kD (by omega)) hn) hb ir;refine⟨g,by rw[HA,Nat.gcd_rec];rw[HA]at hg;exact hg,?_⟩;obtain⟨e1,rfl,p1⟩:=ha.form;obtain⟨e2,rfl,p2⟩:=hb.form;apply zC;unfold yN at *;by_cases h1:m<10000000000000000
    ·have h2 : ¬n<10000000000000000:=fun h=>hs ⟨h1,h⟩;rw[bA h1]at l1;rw[hZ h2]at l2;(repeat((conv=>lhs;whnf);simp only[go_sem,simprocAttr,d1,d2,l1,l2,hd]));exact key
    ·rw[hZ h1]at l1;by_cases h2:n<10000000000000000
     ·rw[bA h2]at l2;(repeat((conv=>lhs;whnf);simp only[go_sem,simprocAttr,d1,d2,l1,l2,hd]));exact key
     ·rw[hZ h2]at l2;(repeat((conv=>lhs;whnf);simp only[go_sem,simprocAttr,d1,d2,l1,l2,hd]));exact key
theorem zFf {m n:Nat} {va vb:PV} (ha:zq m va) (hb:zq n vb) (hm:(dec m).length≤800000) (hn:(dec n).length≤800000) : ∃g,zq (Nat.gcd m n) g∧callL Tryz.prog zE 150 [va,vb]=some g:=by
 obtain⟨g,hg,key⟩:=zFe n m n va vb (bF _) hm hn ha hb;refine⟨g,hg,?_⟩;refine FX.callL (r:=(g,[])) ok150_ 1000 rfl rfl ?_ (hg.plain.2 _);(repeat((conv=>lhs;whnf);simp only[go_sem,simprocAttr]));exact key
theorem zHU {m n:Nat} {va vb:PV} (ha:zq m va) (hb:zq n vb) (hm:(dec m).length≤800000) (hn:(dec n).length≤800000) : ∃g,zq (Nat.gcd m n) g∧∀S,zO (callL Tryz.prog zE) S 150 [va,vb]=some {v:=g} := by
 obtain⟨g,hg,h⟩:=zFf ha hb hm hn;exact⟨g,hg,fun S=>zF (S:=S) h (by simp[ha.plain,hb.plain])⟩
end
end
section
def sg (neg:Bool) (n:Nat):Int:=if neg then -(n:Int) else n
theorem Z6 (neg:Bool) (n:Nat):(sg neg n).natAbs=n:=by cases neg <;> simp[sg]
theorem zK9 (q:Rat):sg (decide (q.num<0)) q.num.natAbs=q.num:=by
 unfold sg;by_cases h:q.num<0
 ·simp[h];omega
 ·simp[h];omega
theorem zMj (neg:Bool) {n d:Nat} (hn:n≠0) (hd:d≠0):xU (mkRat (sg neg n) d)=kS neg (words (n / Nat.gcd n d)) (words (d / Nat.gcd n d)):=by
 unfold xU;have h1:decide ((mkRat (sg neg n) d).num<0)=neg:=by
  have:=Wc neg n hd;have e:(if neg=true then -(n:Int) else n)=sg neg n:=rfl;rw[e]at this;cases neg with
  | true=>exact bG (this.2 ⟨rfl,hn⟩)
  | false=>exact bH (fun h=>by have:=(this.1 h).1;cases this)
 rw[h1,zAg hd,zAh hd,Z6]
theorem V7:xU 0=kS false [] [1]:=by
 unfold xU;have h1:words (0:Rat).num.natAbs=[]:=(vD WB2).2 rfl;have h2:words (0:Rat).den=[1]:=ku;rw[h1,h2];rfl
theorem zHV (b:Bool):sg b 0=0:=by cases b <;> rfl
theorem UA (b:Bool) (x y:Nat):sg b x+sg b y=sg b (x+y):=by cases b <;> simp[sg] <;> omega
theorem Qe {b c:Bool} (h:b≠c) {x y:Nat} (hxy:y≤x):sg b x+sg c y=sg b (x-y):=by
 cases b <;> cases c <;> simp[sg]at h ⊢ <;> omega
theorem Qf {b c:Bool} (h:b≠c) {x y:Nat} (hxy:x≤y):sg b x+sg c y=sg c (y-x):=by
 cases b <;> cases c <;> simp[sg]at h ⊢ <;> omega
theorem zO9 (b c:Bool) (x y:Nat):sg b x*sg c y=sg (b != c) (x*y):=by
 cases b <;> cases c <;> simp[sg,sL,Int.neg_mul,Int.mul_neg]
theorem K8 (b:Bool) (x y:Nat):sg b x*(y:Int)=sg b (x*y):=by
 cases b <;> simp[sg,sL,Int.neg_mul]
def yU (q:Rat):Bool:=decide (q.num<0)
theorem zIZ (q:Rat):sg (yU q) q.num.natAbs=q.num:=zK9 q
theorem vQ (q r:Rat):q+r=mkRat (sg (yU q) (q.num.natAbs*r.den)+sg (yU r) (r.num.natAbs*q.den)) (q.den*r.den):=by
 rw[←K8,←K8,zIZ,zIZ];exact Rat.add_def' q r
theorem YB {q r:Rat} (h:q.den=r.den):q+r=mkRat (sg (yU q) q.num.natAbs+sg (yU r) r.num.natAbs) q.den:=by
 rw[zIZ,zIZ];exact zAf h
theorem Xx (q r:Rat):q*r=mkRat (sg (yU q != yU r) (q.num.natAbs*r.num.natAbs)) (q.den*r.den):=by
 rw[←zO9,zIZ,zIZ];exact Rat.mul_def' q r
theorem zKa (q:Rat):xU (-q)=kS (!(yU q)&&decide (q.num.natAbs≠0)) (words q.num.natAbs) (words q.den):=by
 unfold xU yU;have h1:decide ((-q).num<0)=(!(decide (q.num<0))&&decide (q.num.natAbs≠0)):=by
  rw[Rat.neg_num]
  rcases Int.lt_trichotomy q.num 0 with h | h | h
  ·simp[h];omega
  ·simp[h]
  ·have a1 : ¬q.num<0:=by omega
   have a2:q.num.natAbs≠0:=by omega
   simp[a1,a2];omega
 rw[h1,Rat.neg_num,Rat.neg_den,Int.natAbs_neg]
theorem zKb {q:Rat} (h:q≠0):xU q⁻¹ = kS (yU q) (words q.den) (words q.num.natAbs):=by
 obtain⟨h1,h2⟩:=Zw h;unfold xU yU;have hd:=q.den_nz;have e1:decide (q⁻¹.num<0)=decide (q.num<0):=by
  rw[h1];by_cases c:q.num<0
  ·simp[c];omega
  ·simp[c]
 have e2:q⁻¹.num.natAbs=q.den:=by
  rw[h1];split <;> simp
 rw[e1,e2,h2]
@[go_sem] theorem zPm (n:Nat):zU (tyi Tryz.prog 27) n=some {v:=.mp n 0 0,new:=some ([[.bool false,.sl [] true,.sl [] true]],none)} := nr (by unfold zU;rw[zDA];rfl)
@[go_sem] theorem zPn (l:List (Nat × PV)):zV Tryz.prog 27 l=(qH [(0,1,false),(1,1,false),(2,1,false)] [.bool false,.sl [] true,.sl [] true] l).map .agg:=nr (by unfold zV;rw[kX];dsimp only;unfold zb;rw[kX,zDA];rfl)
@[go_sem] theorem zQi (id i off:Nat):zA (tyi Tryz.prog 27) 0 (.mp id i off)=some (.mp id i (off+0)):=by simp[zA,kX]
@[go_sem] theorem zQj (r:List PV):zA (tyi Tryz.prog 27) 0 (.cp r)=some (.cp (r.drop 0)):=by simp[zA,kX]
@[go_sem] theorem zQk (cs:List PV):zK (tyi Tryz.prog 27) 0 (.agg cs)=cs[0]? := by simp[zK,kX]
@[go_sem] theorem zQl (id i off:Nat):zA (tyi Tryz.prog 27) 1 (.mp id i off)=some (.mp id i (off+1)):=by simp[zA,kX]
@[go_sem] theorem zQm (r:List PV):zA (tyi Tryz.prog 27) 1 (.cp r)=some (.cp (r.drop 1)):=by simp[zA,kX]
@[go_sem] theorem zQn (cs:List PV):zK (tyi Tryz.prog 27) 1 (.agg cs)=cs[1]? := by simp[zK,kX]
@[go_sem] theorem zQo (id i off:Nat):zA (tyi Tryz.prog 27) 2 (.mp id i off)=some (.mp id i (off+2)):=by simp[zA,kX]
@[go_sem] theorem zQp (r:List PV):zA (tyi Tryz.prog 27) 2 (.cp r)=some (.cp (r.drop 2)):=by simp[zA,kX]
@[go_sem] theorem zQq (cs:List PV):zK (tyi Tryz.prog 27) 2 (.agg cs)=cs[2]? := by simp[zK,kX]
theorem U7 {S:zB} {b e1 e2:Bool} {i j m n:Nat} {N D:List Int} (h1:zj S i=some (zD .u32 N)) (hN:N.length=m) (h2:zj S j=some (zD .u32 D)) (hD:D.length=n):wy S (.agg [.bool b,.msl i 0 m e1,.msl j 0 n e2])=some (kS b N D):=by
 have k1:=W9 (ex:=e1) h1 hN 6;have k2:=W9 (ex:=e2) h2 hD 6
 show (xY (wx S 8) [.bool b,.msl i 0 m e1,.msl j 0 n e2]).map PV.agg=_
 simp only[zIB,zJz,k1,k2,zCf,zIC,zKA];rfl
theorem UB (d:Nat):mkRat 0 d=0:=by simp
section
attribute [local irreducible] Vs.callL Vs.callRL tyi zO zl zf zR zW za zI zY zA zK zb zV zG zJ zU zn yI zm zL ze Vs.gc zH
noncomputable def zQr:FX:=⟨Tryz.f54,zE.of 54,[]⟩
instance ok54_:zQr.ok 54:=FX.mk'
theorem ZL:callL Tryz.prog zE 54 []=some (xU 0):=by
 rw[V7];refine FX.callL (r:=(.agg [.bool false,.sl [] true,.msl 1 0 1 true],[.arr [[.bool false,.sl [] true,.msl 1 0 1 true]] none false,.arr (zD .u32 [1]) (some (some 1)) false])) ok54_ 1000 rfl rfl ?_ ?_
 ·((repeat((conv=>lhs;whnf);simp only[go_sem,simprocAttr]));try rfl)
 ·rfl
noncomputable def zOa:FX:=⟨Tryz.f144,zE.of 144,[]⟩
instance ok144_:zOa.ok 144:=FX.mk'
theorem Xb {neg:Bool} {n d:Nat} {va vb:PV} (ha:yH n va) (hb:yH d vb) (hd:d≠0) (hn:(words n).length≤900000) (hdl:(words d).length≤900000):callL Tryz.prog zE 144 [.bool neg,va,vb]=some (xU (mkRat (sg neg n) d)):=by
 by_cases h0:n=0
 ·subst h0;rw[zHV,UB,V7];have cz:=fun S=>zF (S:=S) ZL (by simp);rw[V7]at cz;have l0:(words 0).length=0:=xC.2 rfl;obtain⟨e1,rfl,p1⟩:=ha.form;unfold yC kS at *;refine FX.callL (r:=(kS false [] [1],[.arr [[.bool false,.sl (zD .u32 []) false,.sl (zD .u32 [1]) false]] none false])) ok144_ 1000 rfl rfl ?_ rfl;unfold kS;((repeat((conv=>lhs;whnf);simp only[go_sem,simprocAttr,l0,cz]));try rfl)
 ·rw[zMj neg h0 hd];have l0 : ¬(words n).length=0:=fun e=>h0 (xC.1 e);have l0' : ¬((words n).length:Int)=0:=by omega
  have cg:=fun S=>zF (S:=S) (zCz ha hb hn hdl) (by simp[ha.plain,hb.plain]);have hg0:Nat.gcd n d≠0:=fun e=>hd (SX e);have hgl:(words (Nat.gcd n d)).length≤900000:=bP (ua (BX (by omega) (SF n d))) hdl;have hdm:(words n).length≤900000∧(words d).length≤900000:=⟨hn,hdl⟩;by_cases h1:Nat.gcd n d=1
  ·rw[h1,PN,PN];rw[h1]at cg;have w1:yL 1=.sl (zD .u32 [1]) false:=by unfold yL;rw[ku]
   rw[w1]at cg;obtain⟨e1,rfl,p1⟩:=ha.form;obtain⟨e2,rfl,p2⟩:=hb.form;have ap1:=fun S=>xv.appNil 0 S (RowsV.sl (S:=S) (zD .u32 (words n)) e1) (xg _ _) (by rw[zQ];omega) (by rw[zQ];omega);have ap2:=fun S=>xv.appNil 0 S (RowsV.sl (S:=S) (zD .u32 (words d)) e2) (xg _ _) (by rw[zQ];omega) (by rw[zQ];omega);refine FX.callL (r:=(.agg [.bool neg,.msl 1 0 (words n).length false,.msl 2 0 (words d).length false],[.arr [[.bool neg,.msl 1 0 (words n).length false,.msl 2 0 (words d).length false]] none false,.arr (zD .u32 (words n)) (some (some 1)) false,.arr (zD .u32 (words d)) (some (some 1)) false])) ok144_ 1000 rfl rfl ?_ ?_
   ·unfold yC at *;((repeat((conv=>lhs;whnf);simp only[go_sem,simprocAttr,l0,l0',cg,ap1,ap2]));try rfl)
   ·exact U7 rfl rfl rfl rfl
  ·obtain⟨q1,r1,iq1,_,d1⟩:=Zv ha (yH.of (Nat.gcd n d)) hg0 hn hgl;obtain⟨q2,r2,iq2,_,d2⟩:=Zv hb (yH.of (Nat.gcd n d)) hg0 hdl hgl;have hq1:(words (n / Nat.gcd n d)).length≤900000:=bP (ua (BD _ _)) hn;have hq2:(words (d / Nat.gcd n d)).length≤900000:=bP (ua (BD _ _)) hdl;obtain⟨e1,rfl,p1⟩:=ha.form;obtain⟨e2,rfl,p2⟩:=hb.form;obtain⟨e3,rfl,p3⟩:=iq1.form;obtain⟨e4,rfl,p4⟩:=iq2.form;have ap1:=fun S=>xv.appNil 0 S (RowsV.sl (S:=S) (zD .u32 (words (n / Nat.gcd n d))) e3) (xg _ _) (by rw[zQ];omega) (by rw[zQ];omega);have ap2:=fun S=>xv.appNil 0 S (RowsV.sl (S:=S) (zD .u32 (words (d / Nat.gcd n d))) e4) (xg _ _) (by rw[zQ];omega) (by rw[zQ];omega);have hmv:yL (Nat.gcd n d)=.sl (zD .u32 (words (Nat.gcd n d))) false:=rfl;refine FX.callL (r:=(.agg [.bool neg,.msl 1 0 (words (n / Nat.gcd n d)).length false,.msl 2 0 (words (d / Nat.gcd n d)).length false],[.arr [[.bool neg,.msl 1 0 (words (n / Nat.gcd n d)).length false,.msl 2 0 (words (d / Nat.gcd n d)).length false]] none false,.arr (zD .u32 (words (n / Nat.gcd n d))) (some (some 1)) false,.arr (zD .u32 (words (d / Nat.gcd n d))) (some (some 1)) false])) ok144_ 1000 rfl rfl ?_ (U7 rfl rfl rfl rfl);unfold yC at *;rw[hmv]at cg d1 d2;by_cases hl:(words (Nat.gcd n d)).length=1
   ·have x0:0≤(0:Int)∧(0:Int)<((words (Nat.gcd n d)).length:Int):=⟨by omega,by omega⟩;have hne : ¬(words (Nat.gcd n d)).getD 0 0=1:=fun e=>h1 (by
     have:=(Zx hl).2 e;have e2:words (Nat.gcd n d)=words 1:=by rw[this,ku]
     exact zKJ WB2 e2)
    ((repeat((conv=>lhs;whnf);simp only[go_sem,simprocAttr,l0,l0',cg,hl,x0,sD,hne,d1,d2,ap1,ap2]));try rfl)
   ·have hl' : ¬((words (Nat.gcd n d)).length:Int)=1:=by omega
    ((repeat((conv=>lhs;whnf);simp only[go_sem,simprocAttr,l0,l0',cg,hl,hl',d1,d2,ap1,ap2]));try rfl)
end
end
section
def ja:List Int→List Int→Int→List Int
 | [],_,_=>[]
 | x::a,b,c=>(c+x+b.headD 0) % 4294967296::ja a b.tail ((c+x+b.headD 0) / 4294967296)
def jb:List Int→List Int→Int→Int
 | [],_,c=>c
 | x::a,b,c=>jb a b.tail ((c+x+b.headD 0) / 4294967296)
theorem zDY : ∀(a b:List Int) (c:Int),OkD WB a→OkD WB b→b.length≤a.length→(c=0∨c=1)→OkD WB (ja a b c)∧(ja a b c).length=a.length∧(jb a b c=0∨jb a b c=1)∧zM WB (ja a b c)+(4294967296:Int)^a.length*jb a b c=zM WB a+zM WB b+c
 | [],b,c,ha,hb,hl,hc=>by
  have:b=[]:=pL (by simpa using hl);subst this;refine⟨.nil _,rfl,hc,?_⟩;simp[ja,jb,zM]
 | x::a,b,c,ha,hb,hl,hc=>by
  have hx:=ha.head;have hx':x<4294967296:=hx.2;have hh:=KH hb;have hbt:b.tail.length≤a.length:=by simp only[bK]at hl;rw[SP];omega
  obtain⟨i1,i2,i3,i4⟩:=zDY a b.tail ((c+x+b.headD 0) / 4294967296) ha.tail (zA4 hb) hbt (by omega);refine⟨.cons ⟨by omega,by show _<((4294967296:Nat):Int);omega⟩ i1,by simp only[ja,bK,i2],i3,?_⟩;have e1:zM WB (x::a)=x+4294967296*zM WB a:=rfl;have e2:=zA5 b;have e3:zM WB (ja (x::a) b c)=(c+x+b.headD 0) % 4294967296+4294967296*zM WB (ja a b.tail ((c+x+b.headD 0) / 4294967296)):=rfl;have e4:jb (x::a) b c=jb a b.tail ((c+x+b.headD 0) / 4294967296):=rfl;rw[e3,e4,e1,e2,bK,sP];generalize jb a b.tail ((c+x+b.headD 0) / 4294967296)=s at *;generalize (4294967296:Int)^a.length=P at *;rw[pK P 4294967296,pM];generalize P*s=Q at *;omega
section
attribute [local irreducible] Vs.callL Vs.callRL tyi zO zl zf zR zW za zI zY zA zK zb zV zG zJ zU zn yI zm zL ze Vs.gc zH
noncomputable def zFg:FX:=⟨Tryz.f166,zE.of 166,[]⟩
instance ok166_:zFg.ok 166:=FX.mk'
theorem zKc (A B:List Int) (e1 e2:Bool) (hA:OkD WB A) (hB:OkD WB B) (hl:B.length≤A.length) (hm:A.length≤1000000) (fs:List Fr) {z:PV × zB} (hz:yB 0 zFg 0 fs [(0,.sl (zD .u32 A) e1),(1,.undef),(5,.msl 0 0 (A.length+1) true),(6,.int .u64 (jb A B 0)),(20,.undef),(21,.undef),(22,.undef),(23,.undef)] [.arr (zD .u32 (ja A B 0++[0])) (some (some 1)) false]=some z) : ∀(m i:Nat),i+m=A.length→∀(D:List Int) (c:Int),D.length=i→(c=0∨c=1)→D++ja (A.drop i) (B.drop i) c=ja A B 0→jb (A.drop i) (B.drop i) c=jb A B 0 →
  zS 0 zFg 0 500 1 fs [(0,.sl (zD .u32 A) e1),(1,.sl (zD .u32 B) e2),(5,.msl 0 0 (A.length+1) true),(6,.int .u64 c),(20,.sl (zD .u32 A) e1),(21,.int .i64 A.length),(22,.int .i64 i)] [.arr (zD .u32 (D++List.replicate (m+1) 0)) (some (some 1)) false]=some z:=by
 have hM:=xV;have hM2:2000000≤maxLen:=by decide
 intro m
 induction m with
 | zero =>
  intro i hi D c hD hc hs ht;have h1 : ¬(i:Int)<(A.length:Int):=by omega
  have hd:A.drop i=[]:=bT (by omega);rw[hd]at hs ht;simp only[ja,jb,pU]at hs ht;subst hs ht;apply zC;simp only[pC,List.replicate_one];(repeat((conv=>lhs;whnf);simp only[go_sem,simprocAttr,h1]));exact hz
 | succ m ih =>
  intro i hi D c hD hc hs ht;have h1:(i:Int)<(A.length:Int):=by omega
  have w1:=zg (i:=i) (n:=A.length) (by omega) (by omega);have x1:0≤(i:Int)∧(i:Int)<(A.length:Int):=⟨by omega,h1⟩;have ha:=hA.getD (by decide) i;have hb:=hB.getD (by decide) i;have ha':A.getD i 0<4294967296:=ha.2;have hb':B.getD i 0<4294967296:=hb.2;have hd:=yu A (k:=i) (by omega);have hbh:(B.drop i).headD 0=B.getD i 0:=by
   by_cases hib:i<B.length
   ·rw[yu B hib];rfl
   ·rw[bT (by omega),bL,sA (by omega)];rfl
  have hbt:(B.drop i).tail=B.drop (i+1):=PF;rw[hd]at hs ht;have es:ja (A.getD i 0::A.drop (i+1)) (B.drop i) c=(c+A.getD i 0+B.getD i 0) % 4294967296::ja (A.drop (i+1)) (B.drop (i+1)) ((c+A.getD i 0+B.getD i 0) / 4294967296):=by
   rw[ja,hbh,hbt]
  have et:jb (A.getD i 0::A.drop (i+1)) (B.drop i) c=jb (A.drop (i+1)) (B.drop (i+1)) ((c+A.getD i 0+B.getD i 0) / 4294967296):=by
   rw[jb,hbh,hbt]
  rw[es]at hs;rw[et]at ht;have key:=ih (i+1) (by omega) (D++[(c+A.getD i 0+B.getD i 0) % 4294967296]) ((c+A.getD i 0+B.getD i 0) / 4294967296) (by simp[hD]) (by omega) (by simpa using hs) ht;have set : ∀v:Int,(zD .u32 (D++List.replicate (m+1+1) 0)).set i [.int .u32 v]=zD .u32 ((D++[v])++List.replicate (m+1) 0):=fun v=>by
   rw[xW]
   congr 1
   rw[sS,hZ (by omega),hD,sQ,aZ,sX];simp
  have xm:=xv.idxmk .u32 (S:=[.arr (zD .u32 (D++List.replicate (m+1+1) 0)) (some (some 1)) false]) (id:=0) (off:=0) (n:=A.length+1) (ex:=true) (L:=D++List.replicate (m+1+1) 0) i rfl (by simp;omega) (by omega);have len:i<(D++List.replicate (m+1+1) (0:Int)).length:=by simp;omega
  have len1:((zD .u32 (D++List.replicate (m+1+1) 0)).getD i []).length=1:=by
   rw[yq _ _ (by simp;omega)];rfl
  have cu:IntKind.u64.wrap (A.getD i 0)=A.getD i 0:=by rw[xJ];omega
  have cb:IntKind.u64.wrap (B.getD i 0)=B.getD i 0:=by rw[xJ];omega
  have v0:IntKind.u64.wrap (c+A.getD i 0)=c+A.getD i 0:=by rw[xJ];omega
  apply zC;by_cases hib:i<B.length
  ·have h2:(i:Int)<(B.length:Int):=by omega
   have x2:0≤(i:Int)∧(i:Int)<(B.length:Int):=⟨by omega,h2⟩;have v1:IntKind.u64.wrap (c+A.getD i 0+B.getD i 0)=c+A.getD i 0+B.getD i 0:=by rw[xJ];omega
   have v2:IntKind.u32.wrap (c+A.getD i 0+B.getD i 0)=(c+A.getD i 0+B.getD i 0) % 4294967296:=by rw[pR]
   (repeat((conv=>lhs;whnf);simp only[go_sem,simprocAttr,h1,x1,bD,cu,cb,h2,x2,xm,v0,v1,v2,set,len,len1,w1,zQ,zk]));exact key
  ·have h2 : ¬(i:Int)<(B.length:Int):=by omega
   have hb0:B.getD i 0=0:=by rw[bL,sA (by omega)];rfl
   rw[hb0,PH]at key;have v2:IntKind.u32.wrap (c+A.getD i 0)=(c+A.getD i 0) % 4294967296:=by rw[pR]
   (repeat((conv=>lhs;whnf);simp only[go_sem,simprocAttr,h1,x1,bD,cu,h2,xm,v0,v2,set,len,len1,w1,zQ,zk]));exact key
theorem UC (m n:Nat) (e1 e2:Bool) (sw:Bool) (hl:(words n).length≤(words m).length) (hm:(words m).length≤900000) (hs:sw=true→(words n).length<(words m).length):callL Tryz.prog zE 166 (if sw then [yC n e2,yC m e1] else [yC m e1,yC n e2])=some (yL (m+n)):=by
 have hM:2000000≤maxLen:=by decide
 obtain⟨i1,i2,i3,i4⟩:=zDY (words m) (words n) 0 (xD m) (xD n) hl (.inl rfl);have hok:OkD WB (ja (words m) (words n) 0++[jb (words m) (words n) 0]):=i1.append (.cons ⟨by omega,by show _<((4294967296:Nat):Int);omega⟩ (.nil _));have hv:(zM WB (ja (words m) (words n) 0++[jb (words m) (words n) 0])).toNat=m+n:=by
  rw[zv,i2];have e0:(((WB:Nat):Int))=(4294967296:Int):=rfl;have e1:zM WB [jb (words m) (words n) 0]=jb (words m) (words n) 0:=by simp[zM]
  rw[e1,e0,i4,xQ,xQ];omega
 have ct:=wZ (by simp;omega) hok;rw[hv]at ct;have hol:(ja (words m) (words n) 0++[jb (words m) (words n) 0]).length=(words m).length+1:=by simp[i2]
 have c1:=wP (S:=[.arr (zD .u32 (ja (words m) (words n) 0++[jb (words m) (words n) 0])) (some (some 1)) false]) (id:=0) (n:=(words m).length+1) (ex:=true) ct rfl hol (by simp);have mk:=fun id=>qr id ((words m).length+1) (by omega);have w1:IntKind.i64.wrap (((words m).length:Int)+1)=(((words m).length+1:Nat):Int):=by rw[bE];omega
 have set:(zD .u32 (ja (words m) (words n) 0++[0])).set (words m).length [.int .u32 (jb (words m) (words n) 0)]=zD .u32 (ja (words m) (words n) 0++[jb (words m) (words n) 0]):=by
  rw[xW]
  congr 1
  rw[sS,hZ (by omega),i2,sQ,sX]
 have xm:=xv.idxmk .u32 (S:=[.arr (zD .u32 (ja (words m) (words n) 0++[0])) (some (some 1)) false]) (id:=0) (off:=0) (n:=(words m).length+1) (ex:=true) (L:=ja (words m) (words n) 0++[0]) (words m).length rfl (by simp[i2]) (by omega);have len:(words m).length<(ja (words m) (words n) 0++[(0:Int)]).length:=by simp[i2]
 have len1:((zD .u32 (ja (words m) (words n) 0++[0])).getD (words m).length []).length=1:=by
  rw[yq _ _ len];rfl
 have cc:IntKind.u32.wrap (jb (words m) (words n) 0)=jb (words m) (words n) 0:=by rw[pR];omega
 have key:=zKc (words m) (words n) e1 e2 (xD m) (xD n) hl (by omega) [.blk 0,.seq 0 63] (z:=(yL (m+n),[.arr (zD .u32 (ja (words m) (words n) 0++[jb (words m) (words n) 0])) (some (some 1)) true])) (by
  apply zN;((repeat((conv=>lhs;whnf);simp only[go_sem,simprocAttr,cc,xm,len,len1,set,c1,zQ,zk]));try rfl)) (words m).length 0 (by omega) [] 0 rfl (.inl rfl) (by simp) (by simp)
 refine FX.callL (r:=(yL (m+n),[.arr (zD .u32 (ja (words m) (words n) 0++[jb (words m) (words n) 0])) (some (some 1)) true])) ok166_ 1000 (by cases sw <;> rfl) rfl ?_ (wY _ _);unfold yC at *;cases sw with
 | true =>
  have c:=hs rfl;have c':((words n).length:Int)<(words m).length:=by omega
  simp only[if_true];(repeat((conv=>lhs;whnf);simp only[go_sem,simprocAttr,c,c',w1,mk]));exact key
 | false =>
  have c : ¬(words m).length<(words n).length:=by omega
  have c' : ¬((words m).length:Int)<(words n).length:=by omega
  simp only[bY,if_false];(repeat((conv=>lhs;whnf);simp only[go_sem,simprocAttr,c,c',w1,mk]));exact key
theorem zMk {m n:Nat} {a b:PV} (ha:yH m a) (hb:yH n b) (hm:(words m).length≤900000) (hn:(words n).length≤900000) (S:zB):zO (callL Tryz.prog zE) S 166 [a,b]=some {v:=yL (m+n)} := by
 obtain⟨e1,rfl,h1⟩:=ha.form;obtain⟨e2,rfl,h2⟩:=hb.form;by_cases hl:(words m).length<(words n).length
 ·have:=UC n m e2 e1 true (by omega) hn (fun _=>hl);rw[Nat.add_comm]at this;exact zF (S:=S) this (by simp[h1,h2])
 ·exact zF (S:=S) (UC m n e1 e2 false (by omega) hm (fun h=>by cases h)) (by simp[h1,h2])
end
end
section
def wL (q:Rat) (k:Nat):Prop:=(words q.num.natAbs).length≤k∧(words q.den).length≤k
theorem wL.mono {q:Rat} {j k:Nat} (h:wL q j) (hk:j≤k):wL q k:=⟨bP h.1 hk,bP h.2 hk⟩
theorem wM (q:Rat):xU q=.agg [.bool (yU q),yC q.num.natAbs false,yC q.den false]:=rfl
theorem kz (S:zB) (n:Nat) (e:Bool) (hn:(words n).length≤1000000):zR Tryz.prog 0 25 25 S (.sl [] true) (.sl (zD .u32 (words n)) e)=some {v:=.msl S.length 0 (words n).length false,S:=S++[.arr (zD .u32 (words n)) (some (some 1)) false]} := by
 have:=xv.appNil 0 S (RowsV.sl (S:=S) (zD .u32 (words n)) e) (xg _ _) (by rw[zQ];omega) (by rw[zQ];omega);rw[zQ]at this;exact this
section
attribute [local irreducible] Vs.callL Vs.callRL tyi zO zl zf zR zW za zI zY zA zK zb zV zG zJ zU zn yI zm zL ze Vs.gc zH
noncomputable def zQs:FX:=⟨Tryz.f63,zE.of 63,[]⟩
instance ok63_:zQs.ok 63:=FX.mk'
theorem ZM (q:Rat) (hq:wL q 900000):callL Tryz.prog zE 63 [xU q]=some (xU q):=by
 have a1:=fun S=>kz S q.num.natAbs false (by have:=hq.1;omega);have a2:=fun S=>kz S q.den false (by have:=hq.2;omega);refine FX.callL (r:=(.agg [.bool (yU q),.msl 2 0 (words q.num.natAbs).length false,.msl 3 0 (words q.den).length false],[.arr [[.bool (yU q),yC q.num.natAbs false,yC q.den false]] none false,.arr [[.bool (yU q),.msl 2 0 (words q.num.natAbs).length false,.msl 3 0 (words q.den).length false]] none false,.arr (zD .u32 (words q.num.natAbs)) (some (some 1)) false,.arr (zD .u32 (words q.den)) (some (some 1)) false])) ok63_ 1000 rfl rfl ?_ (U7 rfl rfl rfl rfl);rw[wM];unfold yC;((repeat((conv=>lhs;whnf);simp only[go_sem,simprocAttr,a1,a2]));try rfl)
noncomputable def zOb:FX:=⟨Tryz.f142,zE.of 142,[]⟩
instance ok142_:zOb.ok 142:=FX.mk'
theorem zAm (q:Rat) (hq:wL q 900000):callL Tryz.prog zE 142 [xU q]=some (xU (-q)):=by
 have cc:=fun S=>zF (S:=S) (ZM q hq) (by simp[vz]);rw[wM]at cc;rw[zKa,wM];have l0:(0:Int)<((words q.num.natAbs).length:Int)↔q.num.natAbs≠0:=by
  have:=xC (n:=q.num.natAbs);omega
 have l1:0<(words q.num.natAbs).length↔q.num.natAbs≠0:=by
  have:=xC (n:=q.num.natAbs);omega
 refine FX.callL (r:=(kS (!(yU q)&&decide (q.num.natAbs≠0)) (words q.num.natAbs) (words q.den),[.arr [[.bool (!(yU q)&&decide (q.num.natAbs≠0)),yC q.num.natAbs false,yC q.den false]] none false,.arr [[.bool (!(yU q)&&decide (q.num.natAbs≠0)),yC q.num.natAbs false,yC q.den false]] none false])) ok142_ 1000 rfl rfl ?_ rfl;unfold yC at *;unfold kS
 cases hn:yU q with
 | true =>
  simp only[hn]at cc;((repeat((conv=>lhs;whnf);simp only[go_sem,simprocAttr,cc,l0]));try rfl)
 | false =>
  simp only[hn]at cc;by_cases h0:q.num.natAbs=0
  ·have w0 : ¬(0:Int)<((words q.num.natAbs).length:Int):=by rw[l0];simp[h0]
   have w1 : ¬ 0<(words q.num.natAbs).length:=by rw[l1];simp[h0]
   simp only[h0,ne_eq,not_true_eq_false,decide_false,bQ];rw[h0]at w0 w1 cc;((repeat((conv=>lhs;whnf);simp only[go_sem,simprocAttr,cc,w0,w1]));try rfl)
  ·have w0:(0:Int)<((words q.num.natAbs).length:Int):=l0.2 h0;have w1:0<(words q.num.natAbs).length:=l1.2 h0;simp only[h0,ne_eq,not_false_eq_true,decide_true,pD,bJ];((repeat((conv=>lhs;whnf);simp only[go_sem,simprocAttr,cc,w0,w1]));try rfl)
noncomputable def zOc:FX:=⟨Tryz.f101,zE.of 101,[]⟩
instance ok101_:zOc.ok 101:=FX.mk'
theorem zAn (q:Rat) (hq:wL q 900000) (h0:q≠0):callL Tryz.prog zE 101 [xU q]=some (xU q⁻¹):=by
 have a1:=fun S=>kz S q.num.natAbs false (by have:=hq.1;omega);have a2:=fun S=>kz S q.den false (by have:=hq.2;omega);rw[zKb h0];refine FX.callL (r:=(.agg [.bool (yU q),.msl 2 0 (words q.den).length false,.msl 3 0 (words q.num.natAbs).length false],[.arr [[.bool (yU q),yC q.num.natAbs false,yC q.den false]] none false,.arr [[.bool (yU q),.msl 2 0 (words q.den).length false,.msl 3 0 (words q.num.natAbs).length false]] none false,.arr (zD .u32 (words q.den)) (some (some 1)) false,.arr (zD .u32 (words q.num.natAbs)) (some (some 1)) false])) ok101_ 1000 rfl rfl ?_ (U7 rfl rfl rfl rfl);rw[wM];unfold yC;((repeat((conv=>lhs;whnf);simp only[go_sem,simprocAttr,a1,a2]));try rfl)
noncomputable def zQt:FX:=⟨Tryz.f56,zE.of 56,[]⟩
instance ok56_:zQt.ok 56:=FX.mk'
theorem J5 (q:Rat) (w:Int):callL Tryz.prog zE 56 [xU q,.int .i64 w]=some (.bool (decide ((words q.num.natAbs).length≤w)&&decide ((words q.den).length≤w))):=by
 refine FX.callL (r:=(.bool (decide ((words q.num.natAbs).length≤w)&&decide ((words q.den).length≤w)),[.arr [[.bool (yU q),yC q.num.natAbs false,yC q.den false]] none false])) ok56_ 1000 rfl rfl ?_ rfl;rw[wM];unfold yC;by_cases h:((words q.num.natAbs).length:Int)≤w
 ·simp only[h,decide_true,bC];((repeat((conv=>lhs;whnf);simp only[go_sem,simprocAttr,h]));try rfl)
 ·simp only[h,decide_false,bB];((repeat((conv=>lhs;whnf);simp only[go_sem,simprocAttr,h]));try rfl)
end
end
section
theorem Yk {neg:Bool} {n d:Nat} {va vb:PV} (ha:yH n va) (hb:yH d vb) (hd:d≠0) (hn:(words n).length≤900000) (hdl:(words d).length≤900000) (S:zB):zO (callL Tryz.prog zE) S 144 [.bool neg,va,vb]=some {v:=xU (mkRat (sg neg n) d)} :=
 zF (S:=S) (Xb ha hb hd hn hdl) (by simp[ha.plain,hb.plain,zh.bool])
theorem zI0 {m n k:Nat} (hm:(words m).length≤k) (hn:(words n).length≤k):(words (m+n)).length≤k+1:=zCk WB2 hm hn
structure AddFacts (b c:Bool) (X Y D:Nat) (vx vy vd:PV):Prop where
 cmp : ∀S,zO (callL Tryz.prog zE) S 115 [vx,vy]=some {v:=.int .i64 (xi X Y)}
 add : ∀S,zO (callL Tryz.prog zE) S 166 [vx,vy]=some {v:=yL (X+Y)}
 mkA:b=c→∀S,zO (callL Tryz.prog zE) S 144 [.bool b,yL (X+Y),vd]=some {v:=xU (mkRat (sg b X+sg c Y) D)}
 subG:Y≤X→∀S,zO (callL Tryz.prog zE) S 167 [vx,vy]=some {v:=yL (X-Y)}
 mkG:b≠c→Y≤X→∀S,zO (callL Tryz.prog zE) S 144 [.bool b,yL (X-Y),vd]=some {v:=xU (mkRat (sg b X+sg c Y) D)}
 subL:X<Y→∀S,zO (callL Tryz.prog zE) S 167 [vy,vx]=some {v:=yL (Y-X)}
 mkL:b≠c→X<Y→∀S,zO (callL Tryz.prog zE) S 144 [.bool c,yL (Y-X),vd]=some {v:=xU (mkRat (sg b X+sg c Y) D)}
theorem zDZ (b c:Bool) {X Y D:Nat} {vx vy vd:PV} (iX:yH X vx) (iY:yH Y vy) (iD:yH D vd) (hD:D≠0) (hX:(words X).length≤800000) (hY:(words Y).length≤800000) (hd:(words D).length≤800000):AddFacts b c X Y D vx vy vd where
 cmp:=zAe iX iY (by omega) (by omega)
 add:=zMk iX iY (by omega) (by omega)
 mkA:=fun h S=>by
  rw[←h,UA];exact Yk (.of _) iD hD (bP (zI0 hX hY) (by omega)) (by omega) S
 subG:=fun h=>U4 iX iY h (by omega)
 mkG:=fun h1 h2 S=>by
  rw[Qe h1 h2];exact Yk (.of _) iD hD (bP (ua (Nat.sub_le _ _)) (by omega)) (by omega) S
 subL:=fun h=>U4 iY iX (by omega) (by omega)
 mkL:=fun h1 h2 S=>by
  rw[Qf h1 (by omega)];exact Yk (.of _) iD hD (bP (ua (Nat.sub_le _ _)) (by omega)) (by omega) S
section
attribute [local irreducible] Vs.callL Vs.callRL tyi zO zl zf zR zW za zI zY zA zK zb zV zG zJ zU zn yI zm zL ze Vs.gc zH
noncomputable def zOd:FX:=⟨Tryz.f102,zE.of 102,[]⟩
instance ok102_:zOd.ok 102:=FX.mk'
theorem zAo (q r:Rat) (hq:wL q 400000) (hr:wL r 400000):callL Tryz.prog zE 102 [xU q,xU r]=some (xU (q*r)):=by
 obtain⟨v1,i1,c1⟩:=qO (yH.of q.num.natAbs) (yH.of r.num.natAbs) (by have:=hq.1;omega) (by have:=hr.1;omega);obtain⟨v2,i2,c2⟩:=qO (yH.of q.den) (yH.of r.den) (by have:=hq.2;omega) (by have:=hr.2;omega);have mk:=Yk (neg:=yU q != yU r) i1 i2 (PO q.den_nz r.den_nz) (bP (jX hq.1 hr.1) (by omega)) (bP (jX hq.2 hr.2) (by omega));rw[←Xx]at mk;rw[show (yU q != yU r) = !(yU q == yU r) from rfl]at mk;refine FX.callL (r:=(xU (q*r),[.arr [[.bool (yU q),yC q.num.natAbs false,yC q.den false]] none false,.arr [[.bool (yU r),yC r.num.natAbs false,yC r.den false]] none false,.arr [[.bool (yU (q*r)),yC (q*r).num.natAbs false,yC (q*r).den false]] none false])) ok102_ 1000 rfl rfl ?_ rfl;simp only[wM]at mk ⊢;unfold yL at c1 c2;unfold yC at *;((repeat((conv=>lhs;whnf);simp only[go_sem,simprocAttr,c1,c2,mk]));try rfl)
noncomputable def zOe:FX:=⟨Tryz.f143,zE.of 143,[]⟩
instance ok143_:zOe.ok 143:=FX.mk'
theorem zAp (q r:Rat) (hq:wL q 400000) (hr:wL r 400000):callL Tryz.prog zE 143 [xU q,xU r]=some (xU (q+r)):=by
 have cd:=zAe (yH.of q.den) (yH.of r.den) (by have:=hq.2;omega) (by have:=hr.2;omega);refine FX.callL (r:=(xU (q+r),[.arr [[.bool (yU q),yC q.num.natAbs false,yC q.den false]] none false,.arr [[.bool (yU r),yC r.num.natAbs false,yC r.den false]] none false,.arr [[.bool (yU (q+r)),yC (q+r).num.natAbs false,yC (q+r).den false]] none false])) ok143_ 1000 rfl rfl ?_ rfl;by_cases hd:q.den=r.den
 ·have c0:xi q.den r.den=0:=by unfold xi;rw[hZ (by omega),hZ (by omega)]
  rw[c0]at cd;have F:=zDZ (yU q) (yU r) (yH.of q.num.natAbs) (yH.of r.num.natAbs) (yH.of q.den) q.den_nz (by have:=hq.1;omega) (by have:=hr.1;omega) (by have:=hq.2;omega);by_cases hs:yU q=yU r
  ·have f1:=F.add;have f2:=F.mkA hs;rw[←YB hd]at f2;simp only[wM]at f2 ⊢;unfold yL at cd f1 f2;unfold yC at *;have hb:(yU q == yU r)=true:=by simp[hs]
   ((repeat((conv=>lhs;whnf);simp only[go_sem,simprocAttr,cd,f1,f2,hb]));try rfl)
  ·have f0:=F.cmp;have hb:(yU q == yU r)=false:=by simpa using hs
   by_cases hc:r.num.natAbs≤q.num.natAbs
   ·have c:0≤xi q.num.natAbs r.num.natAbs:=by unfold xi;rw[hZ (by omega)];split <;> omega
    have f1:=F.subG hc;have f2:=F.mkG hs hc;rw[←YB hd]at f2;simp only[wM]at f2 ⊢;unfold yL at cd f0 f1 f2;unfold yC at *;((repeat((conv=>lhs;whnf);simp only[go_sem,simprocAttr,cd,f0,f1,f2,hb,c]));try rfl)
   ·have c : ¬ 0≤xi q.num.natAbs r.num.natAbs:=by unfold xi;rw[bA (by omega)];omega
    have f1:=F.subL (by omega);have f2:=F.mkL hs (by omega);rw[←YB hd]at f2;simp only[wM]at f2 ⊢;unfold yL at cd f0 f1 f2;unfold yC at *;((repeat((conv=>lhs;whnf);simp only[go_sem,simprocAttr,cd,f0,f1,f2,hb,c]));try rfl)
 ·have c0 : ¬xi q.den r.den=0:=by unfold xi;split <;> (try split) <;> omega
  obtain⟨vx,iX,k1⟩:=qO (yH.of q.num.natAbs) (yH.of r.den) (by have:=hq.1;omega) (by have:=hr.2;omega);obtain⟨vy,iY,k2⟩:=qO (yH.of r.num.natAbs) (yH.of q.den) (by have:=hr.1;omega) (by have:=hq.2;omega);obtain⟨vd,iD,k3⟩:=qO (yH.of q.den) (yH.of r.den) (by have:=hq.2;omega) (by have:=hr.2;omega);have F:=zDZ (yU q) (yU r) iX iY iD (PO q.den_nz r.den_nz) (bP (jX hq.1 hr.2) (by omega)) (bP (jX hr.1 hq.2) (by omega)) (bP (jX hq.2 hr.2) (by omega));by_cases hs:yU q=yU r
  ·have f1:=F.add;have f2:=F.mkA hs;rw[←vQ]at f2;simp only[wM]at f2 ⊢;unfold yL at cd k1 k2 k3 f1 f2;unfold yC at *;have hb:(yU q == yU r)=true:=by simp[hs]
   ((repeat((conv=>lhs;whnf);simp only[go_sem,simprocAttr,cd,c0,k1,k2,k3,f1,f2,hb]));try rfl)
  ·have f0:=F.cmp;have hb:(yU q == yU r)=false:=by simpa using hs
   by_cases hc:r.num.natAbs*q.den≤q.num.natAbs*r.den
   ·have c:0≤xi (q.num.natAbs*r.den) (r.num.natAbs*q.den):=by unfold xi;rw[hZ (by omega)];split <;> omega
    have f1:=F.subG hc;have f2:=F.mkG hs hc;rw[←vQ]at f2;simp only[wM]at f2 ⊢;unfold yL at cd k1 k2 k3 f0 f1 f2;unfold yC at *;((repeat((conv=>lhs;whnf);simp only[go_sem,simprocAttr,cd,c0,k1,k2,k3,f0,f1,f2,hb,c]));try rfl)
   ·have c : ¬ 0≤xi (q.num.natAbs*r.den) (r.num.natAbs*q.den):=by unfold xi;rw[bA (by omega)];omega
    have f1:=F.subL (by omega);have f2:=F.mkL hs (by omega);rw[←vQ]at f2;simp only[wM]at f2 ⊢;unfold yL at cd k1 k2 k3 f0 f1 f2;unfold yC at *;((repeat((conv=>lhs;whnf);simp only[go_sem,simprocAttr,cd,c0,k1,k2,k3,f0,f1,f2,hb,c]));try rfl)
end
end
section
section
attribute [local irreducible] Vs.callL Vs.callRL tyi zO zl zf zR zW za zI zY zA zK zb zV zG zJ zU zn yI zm zL ze Vs.gc zH
noncomputable def zOf:FX:=⟨Tryz.f145,zE.of 145,[]⟩
instance ok145_:zOf.ok 145:=FX.mk'
theorem zAq (n:Nat) (hn:n<9223372036854775808):callL Tryz.prog zE 145 [.int .i64 n]=some (xU (n:Rat)):=by
 have f1:=Z3 n (by omega);have mk:=Yk (neg:=false) (yH.of n) (yH.of 1) (by decide) (bP (wo (by omega)) (by decide)) (bP (wo (by omega)) (by decide));have e:mkRat (sg false n) 1=(n:Rat):=by
  show mkRat (n:Int) 1=_
  rw[Rat.mkRat_one];rfl
 rw[e]at mk;have w1:yL 1=.sl (zD .u32 [1]) false:=by unfold yL;rw[ku]
 have hc:=Xb (neg:=false) (yH.of n) (yH.of 1) (by decide) (bP (wo (by omega)) (by decide)) (bP (wo (by omega)) (by decide));rw[e,w1]at hc;have mk0:=KX (S:=[.arr [[.bool false,.sl [] true,.sl [] true]] none false,.arr [[.int .u32 1]] (some (some 1)) false]) (l:=[.bool false,yL n,.msl 1 0 1 true]) (ids:=[1]) hc (by
  have h2:=(yH.of n).plain.2 [.arr [[.bool false,.sl [] true,.sl [] true]] none false,.arr [[.int .u32 1]] (some (some 1)) false];have hf:=uJ (S:=[.arr [[.bool false,.sl [] true,.sl [] true]] none false,.arr [[.int .u32 1]] (some (some 1)) false]) (id:=1) (n:=1) (k:=.u32) (L:=[1]) (ex:=true) rfl rfl;simp only[xY,h2,bI,zIA,hf,pE]) (by
   have h2:=(yH.of n).plain.1;simp only[BF,List.flatMap_nil,h2];rfl) rfl
 have c : ¬(n:Int)<0:=by omega
 have w:IntKind.u64.wrap (n:Int)=n:=by rw[xJ];omega
 refine FX.callL (r:=(xU (n:Rat),[.arr [[.bool (yU (n:Rat)),yC (n:Rat).num.natAbs false,yC (n:Rat).den false]] none false,.arr (zD .u32 [1]) (some (some 1)) true])) ok145_ 1000 rfl rfl ?_ rfl;simp only[wM]at mk0 ⊢;unfold yL at f1 mk0;unfold yC at *;((repeat((conv=>lhs;whnf);simp only[go_sem,simprocAttr,c,w,f1,mk0]));try rfl)
noncomputable def zOg:FX:=⟨Tryz.f103,zE.of 103,[]⟩
instance ok103_:zOg.ok 103:=FX.mk'
theorem zAr:callL Tryz.prog zE 103 []=some (xU 1):=by
 have c:=fun S=>zF (S:=S) (zAq 1 (by decide)) (by simp[zh.int]);refine FX.callL (r:=(xU 1,[.arr [[.bool (yU 1),yC (1:Rat).num.natAbs false,yC (1:Rat).den false]] none false])) ok103_ 1000 rfl rfl ?_ rfl;have e:((1:Nat):Rat)=1:=rfl;have e1:((1:Nat):Int)=1:=rfl;simp only[e,e1,wM]at c ⊢;unfold yC at *;((repeat((conv=>lhs;whnf);simp only[go_sem,simprocAttr,c]));try rfl)
end
end
section
theorem UW:(tyi Tryz.prog 62).d=.struct [(0,1,false),(1,1,false),(2,1,false)]:=by kernel_rfl
@[go_sem] theorem zMl:(tyi Tryz.prog 62).size=3:=nr (by kernel_rfl)
@[go_sem] theorem zKd:(tyi Tryz.prog 62).known=true:=nr (by kernel_rfl)
@[go_sem] theorem zHW:(tyi Tryz.prog 62).zero=some [.bool false,.sl [] true,.sl [] true]:=nr (by kernel_rfl)
@[go_sem] theorem zQu (n:Nat):zU (tyi Tryz.prog 62) n=some {v:=.mp n 0 0,new:=some ([[.bool false,.sl [] true,.sl [] true]],none)} := nr (by unfold zU;rw[zHW];rfl)
@[go_sem] theorem zQv (l:List (Nat × PV)):zV Tryz.prog 62 l=(qH [(0,1,false),(1,1,false),(2,1,false)] [.bool false,.sl [] true,.sl [] true] l).map .agg:=nr (by unfold zV;rw[UW];dsimp only;unfold zb;rw[UW,zHW];rfl)
theorem zKe (row:List PV):part (tyi Tryz.prog 62) row=if 3≤row.length then some (.agg (row.take 3)) else none:=by simp[part,zKd,TI.isAgg,UW,zMl]
@[go_sem] theorem zSn (id i off:Nat):zA (tyi Tryz.prog 62) 0 (.mp id i off)=some (.mp id i (off+0)):=by simp[zA,UW]
@[go_sem] theorem zSo (r:List PV):zA (tyi Tryz.prog 62) 0 (.cp r)=some (.cp (r.drop 0)):=by simp[zA,UW]
@[go_sem] theorem zSp (cs:List PV):zK (tyi Tryz.prog 62) 0 (.agg cs)=cs[0]? := by simp[zK,UW]
@[go_sem] theorem zSq (id i off:Nat):zA (tyi Tryz.prog 62) 1 (.mp id i off)=some (.mp id i (off+1)):=by simp[zA,UW]
@[go_sem] theorem zSr (r:List PV):zA (tyi Tryz.prog 62) 1 (.cp r)=some (.cp (r.drop 1)):=by simp[zA,UW]
@[go_sem] theorem zSs (cs:List PV):zK (tyi Tryz.prog 62) 1 (.agg cs)=cs[1]? := by simp[zK,UW]
@[go_sem] theorem zSt (id i off:Nat):zA (tyi Tryz.prog 62) 2 (.mp id i off)=some (.mp id i (off+2)):=by simp[zA,UW]
@[go_sem] theorem zSu (r:List PV):zA (tyi Tryz.prog 62) 2 (.cp r)=some (.cp (r.drop 2)):=by simp[zA,UW]
@[go_sem] theorem zSv (cs:List PV):zK (tyi Tryz.prog 62) 2 (.agg cs)=cs[2]? := by simp[zK,UW]
attribute [go_sem] zKe
@[go_sem] theorem zQw (v:PV) (r:List PV):part (tyi Tryz.prog 60) (v::r)=some v:=by
 have k:(tyi Tryz.prog 60).known=true:=by kernel_rfl
 simp[part,k,TI.isAgg,wR.d]
def rrL (neg:Bool) (n d:Nat):PV:=.agg [.bool neg,zs n,zs d]
def rrV (q:Rat):PV:=rrL (yU q) q.num.natAbs q.den
theorem zI1 (neg:Bool) (n d:Nat):zh (rrL neg n d):=⟨rfl,fun _=>rfl⟩
theorem jc (q:Rat):zh (rrV q):=zI1 _ _ _
theorem zFh:dec 1=[1]:=by
 unfold dec;rw[ve DB2 (by decide)];have:1 / DB=0:=by decide
 rw[this,xF]
 decide
theorem K9:zs 1=.sl [[.int .i64 1]] false:=by unfold zs yN;rw[zFh];rfl
theorem zTn:yU 0=false:=rfl
theorem zTo:(0:Rat).num.natAbs=0:=rfl
theorem zTp:(0:Rat).den=1:=rfl
theorem zFi:yU 1=false:=rfl
theorem zTq:(1:Rat).num.natAbs=1:=rfl
theorem zTr:(1:Rat).den=1:=rfl
theorem zD0:rrV 0=.agg [.bool false,.sl [] false,.sl [[.int .i64 1]] false]:=by
 unfold rrV rrL;rw[zTn,zTo,zTp,V5,K9]
theorem zMm:rrV 1=.agg [.bool false,.sl [[.int .i64 1]] false,.sl [[.int .i64 1]] false]:=by
 unfold rrV rrL;rw[zFi,zTq,zTr,K9]
theorem zOh (neg:Bool) {n d:Nat} (hn:n≠0) (hd:d≠0):rrV (mkRat (sg neg n) d)=rrL neg (n / Nat.gcd n d) (d / Nat.gcd n d):=by
 unfold rrV;have h1:yU (mkRat (sg neg n) d)=neg:=by
  unfold yU;have:=Wc neg n hd;have e:(if neg=true then -(n:Int) else n)=sg neg n:=rfl;rw[e]at this;cases neg with
  | true=>exact bG (this.2 ⟨rfl,hn⟩)
  | false=>exact bH (fun h=>by have:=(this.1 h).1;cases this)
 rw[h1,zAg hd,zAh hd,Z6]
theorem zq.pos {n:Nat} {v:PV} (h:zq n v) (h0:n≠0):v=zs n:=by
 rcases h with h | ⟨h,_⟩
 ·exact h
 ·exact absurd h h0
section
attribute [local irreducible] Vs.callL Vs.callRL tyi zO zl zf zR zW za zI zY zA zK zb zV zG zJ zU zn yI zm zL ze Vs.gc zH
noncomputable def zQx:FX:=⟨Tryz.f51,zE.of 51,[]⟩
instance ok51_:zQx.ok 51:=FX.mk'
theorem YC:callL Tryz.prog zE 51 []=some (rrV 0):=by
 rw[zD0];refine FX.callL (r:=(.agg [.bool false,.msl 1 0 0 true,.msl 2 0 1 true],[.arr [[.bool false,.msl 1 0 0 true,.msl 2 0 1 true]] none false,.arr [] (some (some 1)) false,.arr [[.int .i64 1]] (some (some 1)) false])) ok51_ 1000 rfl rfl ?_ rfl;((repeat((conv=>lhs;whnf);simp only[go_sem,simprocAttr]));try rfl)
noncomputable def zQy:FX:=⟨Tryz.f34,zE.of 34,[]⟩
instance ok34_:zQy.ok 34:=FX.mk'
theorem zD1:callL Tryz.prog zE 34 []=some (rrV 1):=by
 rw[zMm];refine FX.callL (r:=(.agg [.bool false,.msl 1 0 1 true,.msl 2 0 1 true],[.arr [[.bool false,.msl 1 0 1 true,.msl 2 0 1 true]] none false,.arr [[.int .i64 1]] (some (some 1)) false,.arr [[.int .i64 1]] (some (some 1)) false])) ok34_ 1000 rfl rfl ?_ rfl;((repeat((conv=>lhs;whnf);simp only[go_sem,simprocAttr]));try rfl)
noncomputable def zOi:FX:=⟨Tryz.f161,zE.of 161,[]⟩
instance ok161_:zOi.ok 161:=FX.mk'
theorem zAs {neg:Bool} {n d:Nat} {va vb:PV} (ha:zq n va) (hb:zq d vb) (hd:d≠0) (hn:(dec n).length≤800000) (hdl:(dec d).length≤800000):callL Tryz.prog zE 161 [.bool neg,va,vb]=some (rrV (mkRat (sg neg n) d)):=by
 by_cases h0:n=0
 ·subst h0;rw[zHV,UB];have cz:=fun S=>zF (S:=S) YC (by simp);have l0:(dec 0).length=0:=kC.2 rfl;obtain⟨e1,rfl,p1⟩:=ha.form;refine FX.callL (r:=(rrV 0,[.arr [[.bool false,.sl [] false,.sl [[.int .i64 1]] false]] none false])) ok161_ 1000 rfl rfl ?_ rfl;rw[zD0]at *;unfold yN at *;((repeat((conv=>lhs;whnf);simp only[go_sem,simprocAttr,l0,cz]));try rfl)
 ·rw[zOh neg h0 hd,ha.pos h0,hb.pos hd];have l0 : ¬(dec n).length=0:=fun e=>h0 (kC.1 e);have l0' : ¬((dec n).length:Int)=0:=by omega
  by_cases hone:d=1
  ·subst hone;have l1:(dec 1).length=1:=by rw[zFh];rfl
   have g1:(dec 1).getD 0 0=1:=by rw[zFh];rfl
   have x0:0≤(0:Int)∧(0:Int)<((dec 1).length:Int):=by rw[l1];decide
   rw[Nat.gcd_one_right,PN,PN];refine FX.callL (r:=(rrL neg n 1,[.arr [[.bool neg,zs n,zs 1]] none false])) ok161_ 1000 rfl rfl ?_ rfl;unfold rrL zs yN;((repeat((conv=>lhs;whnf);simp only[go_sem,simprocAttr,l0,l0',l1,x0,sD,g1]));try rfl)
  ·have hD : ¬((dec d).length=1∧(dec d).getD 0 0=1):=fun h=>hone (by
    obtain⟨x,hx⟩:=BL.1 h.1;have hv:=vG d;rw[hx]at h hv;simp[zM]at hv;simp[bL]at h;omega)
   obtain⟨g,ig,cg⟩:=zHU (zq.of n) (zq.of d) hn hdl;have hg0:Nat.gcd n d≠0:=fun e=>hd (SX e);have:=ig.pos hg0;subst this;have hgl:(dec (Nat.gcd n d)).length≤800000:=bP (kD (BX (by omega) (SF n d))) hdl;have x0:0≤(0:Int)∧(0:Int)<((dec d).length:Int):=⟨by omega,by have:(dec d).length≠0:=fun e=>hd (kC.1 e);omega⟩;have x1:0≤(0:Int)∧(0:Int)<((dec (Nat.gcd n d)).length:Int):=⟨by omega,by have:(dec (Nat.gcd n d)).length≠0:=fun e=>hg0 (kC.1 e);omega⟩;have first:((dec d).length=1→¬(dec d).getD 0 0=1):=fun h1 h2=>hD ⟨h1,h2⟩
   by_cases h1:Nat.gcd n d=1
   ·rw[h1,PN,PN];rw[h1]at cg x1;have l1:(dec 1).length=1:=by rw[zFh];rfl
    have g1:(dec 1).getD 0 0=1:=by rw[zFh];rfl
    refine FX.callL (r:=(rrL neg n d,[.arr [[.bool neg,zs n,zs d]] none false])) ok161_ 1000 rfl rfl ?_ rfl;unfold rrL zs yN at *;by_cases hl:(dec d).length=1
    ·have hl':((dec d).length:Int)=1:=by omega
     have f:=first hl
     ((repeat((conv=>lhs;whnf);simp only[go_sem,simprocAttr,l0,l0',hl,hl',x0,sD,f,cg,l1,x1,g1]));try rfl)
    ·have hl' : ¬((dec d).length:Int)=1:=by omega
     ((repeat((conv=>lhs;whnf);simp only[go_sem,simprocAttr,l0,l0',hl,hl',cg,l1,x1,sD,g1]));try rfl)
   ·have second:((dec (Nat.gcd n d)).length=1→¬(dec (Nat.gcd n d)).getD 0 0=1):=fun a1 a2=>h1 (by
     obtain⟨x,hx⟩:=BL.1 a1;have hv:=vG (Nat.gcd n d);rw[hx]at a2 hv;simp[zM]at hv;simp[bL]at a2;omega)
    obtain⟨q1,r1,iq1,_,d1⟩:=Xv (zq.of n) (zq.of (Nat.gcd n d)) hn hgl hg0;obtain⟨q2,r2,iq2,_,d2⟩:=Xv (zq.of d) (zq.of (Nat.gcd n d)) hdl hgl hg0;have e1:=iq1.pos (by
     have:=Nat.div_pos (BX (by omega) (Nat.gcd_dvd_left n d)) (by omega);omega)
    have e2:=iq2.pos (by
     have:=Nat.div_pos (BX (by omega) (SF n d)) (by omega);omega)
    subst e1 e2;refine FX.callL (r:=(rrL neg (n / Nat.gcd n d) (d / Nat.gcd n d),[.arr [[.bool neg,zs (n / Nat.gcd n d),zs (d / Nat.gcd n d)]] none false])) ok161_ 1000 rfl rfl ?_ rfl;unfold rrL zs yN at *;by_cases hl:(dec d).length=1 <;> by_cases hk:(dec (Nat.gcd n d)).length=1
    ·have hl':((dec d).length:Int)=1:=by omega
     have hk':((dec (Nat.gcd n d)).length:Int)=1:=by omega
     have f:=first hl
     have f2:=second hk;((repeat((conv=>lhs;whnf);simp only[go_sem,simprocAttr,l0,l0',hl,hl',x0,sD,f,cg,hk,hk',x1,f2,d1,d2]));try rfl)
    ·have hl':((dec d).length:Int)=1:=by omega
     have hk' : ¬((dec (Nat.gcd n d)).length:Int)=1:=by omega
     have f:=first hl
     ((repeat((conv=>lhs;whnf);simp only[go_sem,simprocAttr,l0,l0',hl,hl',x0,sD,f,cg,hk,hk',d1,d2]));try rfl)
    ·have hl' : ¬((dec d).length:Int)=1:=by omega
     have hk':((dec (Nat.gcd n d)).length:Int)=1:=by omega
     have f2:=second hk;((repeat((conv=>lhs;whnf);simp only[go_sem,simprocAttr,l0,l0',hl,hl',cg,hk,hk',x1,sD,f2,d1,d2]));try rfl)
    ·have hl' : ¬((dec d).length:Int)=1:=by omega
     have hk' : ¬((dec (Nat.gcd n d)).length:Int)=1:=by omega
     ((repeat((conv=>lhs;whnf);simp only[go_sem,simprocAttr,l0,l0',hl,hl',cg,hk,hk',d1,d2]));try rfl)
end
end
end Go.Vs

import Derived.Laws.Bits
import Derived.Laws.NewFold
import Derived.Great.BuildSlice
import Derived.Deep.AppendSrc
import Derived.Laws.MakeOwn
import Derived.Test.YtfbkajadbjbfiaaGreatMA0
set_option linter.unusedVariables false
set_option linter.unusedSimpArgs false
section
namespace Go.Vs
open Go
section
variable {P:Program} {A:yT} {w:World} {X:Nat→Prop} {S:zA} {n:Nat} {μ : Mu} {av:Nat→Prop}
theorem Zk {t:TypeId} {f:Nat} {x pv:PV} {v:Value} (hv:VR w av μ x v) (h:zF (tyi P t) f x=some pv) :
  ∃z,(Instr.fieldAt t v f).run P w=.ok z w∧VR w av μ pv z:=by
 have key : ∀(a:Addr) (o k:Nat) (g:Bool),(∃fs,(tyi P t).d=.struct fs∧fs[f]? = some (o,k,g))→k≠0→(Instr.fieldAt t (.pointer (some a)) f).run P w=.ok (.pointer (some (a.add o))) w:=by
  intro a o k g ⟨fs,hd,hf⟩ hk;obtain⟨gs,hu,rfl⟩:=jq hd;rw[pB]at hf
  cases hg:gs.toList[f]? with
  | none=>rw[hg]at hf;simp at hf
  | some fl =>
   rw[hg]at hf;simp at hf;obtain⟨rfl,rfl,rfl⟩:=hf;rw[pE]at hg;obtain⟨d,i,hd2,hi,hs⟩:=YL hk
   ·have hne:i.size≠0:=by rw[hs];exact hk
    simp[Instr.fieldAt,run_underlying hu,hg,Instr.sureAddr,fieldPlace,yf hi,hne]
 cases x <;> simp only[zF,reduceCtorEq]at h
 case cp row =>
  cases hd:(tyi P t).d <;> simp only[hd,reduceCtorEq]at h
  rename_i fs
  cases hf:fs[f]? with
  | none=>rw[hf]at h;simp at h
  | some q =>
   obtain⟨o,k,g⟩:=q;rw[hf]at h;simp only at h
   split at h
   ·cases h
   ·rename_i hk;simp at h;subst h
    cases hv with | fr hv =>
    cases hv with | cp _ ad c hc hr =>
    refine⟨_,key ad o k g ⟨fs,hd,hf⟩ hk,.fr (.cp _ _ (fun j=>c (o+j)) (fun j pv hj=>?_) (fun j pv hj=>?_))⟩
    ·rw[pY]at hj;have:=hc _ pv hj;rw[Zu,vF];exact this
    ·rw[pY]at hj;exact hr _ pv hj
 case mp id i off =>
  cases hd:(tyi P t).d <;> simp only[hd,reduceCtorEq]at h
  rename_i fs
  cases hf:fs[f]? with
  | none=>rw[hf]at h;simp at h
  | some q =>
   obtain⟨o,k,g⟩:=q;rw[hf]at h;simp only at h
   split at h
   ·cases h
   ·rename_i hk;simp at h;subst h;cases hv with
    | fr hv=>cases hv
    | mp _ _ _ b hb =>
    refine⟨_,key _ o k g ⟨fs,hd,hf⟩ hk,?_⟩;rw[wB,aN];exact .mp id i (off+o) b hb
theorem Vi {t:TypeId} {f:Nat} {x pv:PV} {v:Value} (hv:VR w av μ x v) (h:zT (tyi P t) f x=some pv) :
  ∃z,(Instr.field t v f).run P w=.ok z w∧VR w av μ pv z:=by
 cases x <;> simp only[zT,reduceCtorEq]at h
 case agg cells =>
  cases hd:(tyi P t).d <;> simp only[hd,reduceCtorEq]at h
  rename_i fs
  cases hf:fs[f]? with
  | none=>rw[hf]at h;simp at h
  | some q =>
   obtain⟨o,k,g⟩:=q;rw[hf]at h;simp only at h;obtain⟨gs,hu,rfl⟩:=jq hd;rw[pB]at hf
   cases hg:gs.toList[f]? with
   | none=>rw[hg]at hf;simp at hf
   | some fl =>
    rw[hg]at hf;simp at hf;obtain⟨rfl,rfl,rfl⟩:=hf;rw[pE]at hg;cases hv with
    | fr hv=>cases hv
    | agg _ cs hn hfl hr =>
    simp only[Instr.field,bQ,run_underlying hu,bX,hg,asAgg,pK,Go.part]
    split at h
    ·cases h
    rename_i hk;obtain⟨d2,i3,hd2,hi3,hs3⟩:=YL hk;by_cases ha:uo P fl.type=true
    ·rw[hZ ha]at h
     split at h
     ·rename_i hle;simp at h;subst h;simp only[bQ,uV hd2,ha,bX,if_true,yf hi3,pK];refine⟨_,rfl,.agg _ _ ?_ (fun j v hv=>?_) (fun j pv v hp hv=>?_)⟩
      ·simp;omega
      ·rw[PH]at hv
       split at hv
       ·exact hfl _ v hv
       ·cases hv
      ·rw[PH]at hv
       split at hv
       ·rw[sR (by omega),pY]at hp;exact hr _ pv v hp hv
       ·cases hv
     ·cases h
    ·rw[hI ha]at h;have hj:fl.offset<cs.size:=by
      have:=(bL.1 h).1;omega
     have hc:=bR hj;simp only[bQ,uV hd2,ha,bX,if_false,bH,hc,pK];exact⟨_,rfl,hr _ pv _ h hc⟩
theorem xc {d m y:Nat} {x:Option PV} {v:Option Value} (hx:x=none↔v=none) (hv : ∀p u,x=some p→v=some u→VR w av μ p u) (h:xg d x=some m) :
  (v=none∧m=d)∨∃k,v=some (.int k m):=by
 cases x with
 | none=>simp[xg]at h;exact .inl ⟨hx.1 rfl,h.symm⟩
 | some p =>
  cases v with
  | none=>simp at hx
  | some u =>
   have:=hv p u rfl rfl
   cases p <;> simp only[xg,reduceCtorEq]at h
   rename_i k z;obtain rfl:=this.int_inv
   split at h
   ·simp at h;exact .inr ⟨k,by congr 2;omega⟩
   ·cases h
theorem xw {m y:Nat} {k:IntKind} {code:BoundsCode} (h:m≤y):(Instr.sliceBound (.int k m) y code).run P w=.ok m w:=by
 simp[Instr.sliceBound,asIntOf,h]
theorem xh {isS:Bool} {len cap l h m:Nat} {lo hi mx:Option Value} (hl:(lo=none∧l=0)∨∃k,lo=some (.int k l)) (hh:(hi=none∧h=len)∨∃k,hi=some (.int k h))
  (hm:(mx=none∧m=cap)∨((∃k,mx=some (.int k m))∧hi≠none)) (h1:l≤h) (h2:h≤m) (h3:m≤cap) (hc:mx=none→h≤cap) :
  (Instr.sliceBounds isS len cap lo hi mx).run P w=.ok (l,h,m) w:=by
 rcases hm with⟨rfl,rfl⟩ | ⟨⟨km,rfl⟩,hne⟩
 ·rcases hh with⟨rfl,rfl⟩ | ⟨kh,rfl⟩ <;> rcases hl with⟨rfl,rfl⟩ | ⟨kl,rfl⟩ <;>
   simp[Instr.sliceBounds,xw h1,xw h2,h1,h2]
 ·rcases hh with⟨rfl,rfl⟩ | ⟨kh,rfl⟩
  ·exact absurd rfl hne
  ·rcases hl with⟨rfl,rfl⟩ | ⟨kl,rfl⟩ <;>
   simp[Instr.sliceBounds,xw h1,xw h2,xw h3]
theorem Vj (hS:SR w X A n μ) (hSA:vG S A μ) {t:TypeId} (hk:wT (tyi P t)=true→(tyi P (yW (tyi P t))).known=true) {x pv:PV} {v:Value} {lo hi mx:Option PV} {lo' hi' mx':Option Value}
  (hv:VR w (Av X (A) μ) μ x v) (e1:lo=none↔lo'=none) (r1 : ∀p u,lo=some p→lo'=some u→VR w (Av X (A) μ) μ p u)
  (e2:hi=none↔hi'=none) (r2 : ∀p u,hi=some p→hi'=some u→VR w (Av X (A) μ) μ p u)
  (e3:mx=none↔mx'=none) (r3 : ∀p u,mx=some p→mx'=some u→VR w (Av X (A) μ) μ p u)
  (h:vm (tyi P t) (tyi P (yW (tyi P t))).size S x lo hi mx=some pv) :
  ∃z,(Instr.sliceAt t v lo' hi' mx').run P w=.ok z w∧VR w (Av X (A) μ) μ pv z:=by
 unfold vm at h
 split at h
 ·rename_i s hd;have ht:=ur hd;obtain rfl:=hv.str_inv;cases mx with
  | some m=>cases h
  | none =>
   obtain rfl:mx'=none:=e3.1 rfl;simp only at h
   cases hl:xg 0 lo with
   | none=>rw[hl]at h;simp at h
   | some l =>
    cases hh:xg s.size hi with
    | none=>rw[hl,hh]at h;simp at h
    | some m =>
     rw[hl,hh]at h;simp only[bC]at h
     split at h
     ·rename_i hc;simp at h;subst h;have b1:=xc e1 r1 hl (y:=0);have b2:=xc e2 r2 hh (y:=0);have:=xh (P:=P) (w:=w) (isS:=false) (len:=s.size) (cap:=s.size) (m:=s.size) b1 b2 (.inl ⟨rfl,rfl⟩) hc.1 hc.2 (bB _) (fun _=>hc.2);exact⟨_,by simp[Instr.sliceAt,Instr.slice,run_underlying ht,this],.s⟩
     ·cases h
 ·rename_i el rows ex hd;have ht:=ye hd;have hel:yW (tyi P t)=el:=by simp[yW,hd]
  have hkn:=hk (by simp[wT,hd]);rw[hel]at h hkn;obtain⟨d3,i3,hd3,hi3,hs3,_⟩:=xj hkn
  cases hl:xg 0 lo with
  | none=>rw[hl]at h;simp at h
  | some l =>
  cases hh:xg rows.length hi with
  | none=>rw[hl,hh]at h;simp at h
  | some hgh =>
  cases hm:xg hgh mx with
  | none=>rw[hl,hh]at h;simp[hm]at h
  | some m =>
  rw[hl,hh]at h;simp only[bC,hm]at h
  split at h
  ·rename_i hc;obtain⟨hc1,hc2,rfl,hok,hmx⟩:=hc;simp at h;subst h
   cases hv with | fr hv =>
   cases hv with | sl _ _ a cap ad sz c hcap hex ha had hsz hcell hr =>
   have b1:=xc e1 r1 hl (y:=0);have b2:=xc e2 r2 hh (y:=0);have b3:=xc e3 r3 hm (y:=0);obtain⟨M,hM,hMc⟩ : ∃M,(Instr.sliceBounds true rows.length cap lo' hi' mx').run P w=.ok (l,m,M) w∧m≤M∧M≤cap∧(mx.isSome=true→M=m)∧(mx=none→M=cap):=by
    cases mx with
    | none =>
     obtain rfl:mx'=none:=e3.1 rfl;exact⟨cap,xh b1 b2 (.inl ⟨rfl,rfl⟩) hc1 (by omega) (bB _) (fun _=>by omega),by omega,bB _,by simp,fun _=>rfl⟩
    | some q =>
     have hne:mx'≠none:=fun h=>by cases (e3.2 h)
     have hhi:hi'≠none:=fun h=>by simp[e2.2 h]at hmx
     rcases b3 with⟨h',_⟩ | h'
     ·exact absurd h' hne
     ·exact⟨m,xh b1 b2 (.inr ⟨h',hhi⟩) hc1 (bB _) (by omega) (fun h=>absurd h hne),bB _,by omega,fun _=>rfl,by simp⟩
   obtain⟨hM1,hM2,hM3,hM4⟩:=hMc;have hlen':((rows.take m).drop l).length=m-l:=by simp;omega
   refine⟨.slice (if M=l then a else a.map (·.add (l*i3.size))) (m-l) (M-l),by simp[Instr.sliceAt,Instr.slice,run_underlying ht,hM,yf hi3],?_⟩;rw[←hlen'];refine .fr (.sl _ _ _ (M-l) (ad.add (l*sz)) sz (fun i j=>c (l+i) j) (by rw[hlen'];omega) (fun hx=>?_) (fun hx=>?_) (fun hx=>?_) (fun r hr'=>?_) (fun i row j pv h1 h2=>?_) (fun i row j pv h1 h2=>?_))
   ·rw[hlen'];simp only[BO,bS]at hx
    rcases hx with hx | ⟨hx1,hx2⟩
    ·rw[hM3 hx]
    ·have hhi:hi=none:=by simpa using hx2
     have hmn:mx=none:=by
      cases mx with
      | none=>rfl
      | some q=>simp[hhi]at hmx
     rw[hM4 hmn,hex hx1];subst hhi;simp[xg]at hh;omega
   ·split at hx
    ·omega
    ·cases a with
     | none=>have:=ha rfl;omega
     | some q=>simp at hx
   ·have hlt:l<m:=by
     rcases HX l m with h' | h'
     ·exact h'
     ·exfalso;apply hx;rw[List.drop_eq_nil_iff];simp;omega
    have hrne:rows≠[]:=by intro h0;subst h0;simp at hc2;omega
    have hrow:rows[l]? = some (rows.getD l []):=by simp[List.getD,bI (show l<rows.length by omega)]
    have hszq:sz=i3.size:=by rw[←hsz _ (bK hrow),hs3];exact zu hok _ (bK hrow)
    rw[hI (by omega),had hrne,hszq];rfl
   ·exact hsz r (HH (BP hr'))
   ·rw[pY,aO]at h1
    split at h1
    ·have:=hcell _ row j pv h1 h2;rw[Zu,vF,←aN,←bZ];exact this
    ·cases h1
   ·rw[pY,aO]at h1
    split at h1
    ·exact hr _ row j pv h1 h2
    ·cases h1
  ·cases h
 ·rename_i el id off len ex hd;have ht:=ye hd;have hel:yW (tyi P t)=el:=by simp[yW,hd]
  have hkn:=hk (by simp[wT,hd]);rw[hel]at h hkn;obtain⟨d3,i3,hd3,hi3,hs3,_⟩:=xj hkn
  cases hrows:zz S id with
  | none=>rw[hrows]at h;simp at h
  | some rows =>
  rw[hrows]at h
  cases hl:xg 0 lo with
  | none=>rw[hl]at h;simp at h
  | some l =>
  cases hh:xg len hi with
  | none=>rw[hl,hh]at h;simp at h
  | some hgh =>
  cases hm:xg hgh mx with
  | none=>rw[hl,hh]at h;simp[hm]at h
  | some m =>
  rw[hl,hh]at h;simp only[bC,hm]at h
  split at h
  ·rename_i hc;obtain⟨hc1,hc2,rfl,hok,hin,hmx⟩:=hc;simp at h;subst h;have b1:=xc e1 r1 hl (y:=0);have b2:=xc e2 r2 hh (y:=0);have b3:=xc e3 r3 hm (y:=0);have step : ∀cap a,len≤cap→∃M,(Instr.sliceAt t (.slice a len cap) lo' hi' mx').run P w=.ok (.slice (if M=l then a else a.map (·.add (l*i3.size))) (m-l) (M-l)) w∧m≤M∧M≤cap∧(mx.isSome=true→M=m)∧(mx=none→M=cap):=by
    intro cap a hcap;obtain⟨M,hM,hMc⟩ : ∃M,(Instr.sliceBounds true len cap lo' hi' mx').run P w=.ok (l,m,M) w∧m≤M∧M≤cap∧(mx.isSome=true→M=m)∧(mx=none→M=cap):=by
     cases mx with
     | none =>
      obtain rfl:mx'=none:=e3.1 rfl;exact⟨cap,xh b1 b2 (.inl ⟨rfl,rfl⟩) hc1 (by omega) (bB _) (fun _=>by omega),by omega,bB _,by simp,fun _=>rfl⟩
     | some q =>
      have hne:mx'≠none:=fun h=>by cases (e3.2 h)
      have hhi:hi'≠none:=fun h=>by simp[e2.2 h]at hmx
      rcases b3 with⟨h',_⟩ | h'
      ·exact absurd h' hne
      ·exact⟨m,xh b1 b2 (.inr ⟨h',hhi⟩) hc1 (bB _) (by omega) (fun h=>absurd h hne),bB _,by omega,fun _=>rfl,by simp⟩
    exact⟨M,by simp[Instr.sliceAt,Instr.slice,run_underlying ht,hM,yf hi3],hMc⟩
   cases hv with
   | fr hv=>cases hv
   | mslNil _ _ a =>
    obtain⟨M,hrun,hM1,hM2,hM3,hM4⟩:=step 0 a (bB _);obtain rfl:M=0:=by omega
    obtain rfl:l=0:=by omega
    obtain rfl:m=0:=by omega
    exact⟨_,hrun,by simpa using VR.mslNil id _ a⟩
   | msl _ _ _ _ ad cap b hb hlen htot hex had =>
    obtain⟨M,hrun,hM1,hM2,hM3,hM4⟩:=step cap (some ad) hlen;obtain⟨g,f,ha⟩:=xv hSA hrows hb;have hszq:0<l→b.sz=i3.size:=fun hl0=>by
     have hlt:off<rows.length:=by omega
     have hrow:rows[off]? = some (rows.getD off []):=by simp[List.getD,bI hlt]
     obtain⟨h1,_⟩:=hS.row ha hb hrow;rw[←h1,hs3];exact zu hok _ (bK hrow)
    refine⟨_,hrun,?_⟩;have hle:(off+l+(M-l))*b.sz≤b.tot:=bF (bV _ (by omega)) htot;have hexx:(mx.isSome||(ex&&hi.isNone))=true→M-l=m-l:=fun hx=>by
     simp only[BO,bS]at hx
     rcases hx with hx | ⟨hx1,hx2⟩
     ·rw[hM3 hx]
     ·have hhi:hi=none:=by simpa using hx2
      have hmn:mx=none:=by
       cases mx with
       | none=>rfl
       | some q=>simp[hhi]at hmx
      rw[hM4 hmn,hex hx1];subst hhi;simp[xg]at hh;omega
    by_cases hML:M=l
    ·rw[hZ hML];exact .msl id (off+l) (m-l) _ ad (M-l) b hb (by omega) hle hexx (fun h0=>by omega)
    ·rw[hI hML];refine .msl id (off+l) (m-l) _ _ (M-l) b hb (by omega) hle hexx (fun h0=>?_)
     show ad.add (l*i3.size)=_
     rw[had (by omega),wB]
     rcases Nat.eq_zero_or_pos l with rfl | hl0
     ·simp
     ·rw[hszq hl0,bZ]
  ·cases h
 ·cases h
end
end Go.Vs
end
section
namespace Go.Vs
open Go
section
variable {P:Program} {w:World} {X:Nat→Prop} {S:zA} {n:Nat} {μ : Mu} {av:Nat→Prop}
theorem Z1 {t:TypeId} {x i pv:PV} {v u:Value} (hv:VR w av μ x v) (hu:VR w av μ i u) {esz:Nat} {eagg:Bool}
  (he : ∀len el,(tyi P t).d=.array len el→(tyi P el).known=true∧esz=(tyi P el).size∧eagg=(tyi P el).isAgg)
  (h:wU (tyi P t) esz eagg x i=some pv) : ∃z,(Instr.index t v u).run P w=.ok z w∧VR w av μ pv z:=by
 cases x <;> simp only[wU,reduceCtorEq]at h
 case str s =>
  cases i <;> simp only[reduceCtorEq]at h
  rename_i k m;obtain rfl:=hv.str_inv;obtain rfl:=hu.int_inv
  cases hd:(tyi P t).d <;> simp only[hd,reduceCtorEq]at h
  have ht:=ur hd
  split at h
  ·rename_i hm;cases h;have hlt:m.toNat<s.size:=by omega
   have hb:s[m.toNat]? = some (s.data.toList.getD m.toNat 0):=by
    rw[show s[m.toNat]? = some (s[m.toNat]'hlt) from by simp[hlt]]
    congr 1
    rw[List.getD,bI (by simpa using hlt)];rfl
   refine⟨.int .u8 (s.data.toList.getD m.toNat 0).toNat,?_,.i⟩;simp only[Instr.index,asIntOf,bQ,pK,bX,run_underlying ht,hZ hm.1,hb]
  ·cases h
 case agg cs =>
  cases i <;> simp only[reduceCtorEq]at h
  rename_i k m;obtain rfl:=hu.int_inv
  cases hd:(tyi P t).d <;> simp only[hd,reduceCtorEq]at h
  rename_i len el;obtain⟨hk,rfl,rfl⟩:=he len el hd;have ht:=Xf hd;obtain⟨d2,i2,hd2,hi2,hs2,_⟩:=xj hk;cases hv with
  | fr hv=>cases hv
  | agg _ us hn hfl hr =>
  split at h
  ·rename_i hm;rw[Vg]at h;by_cases ha:uo P el=true
   ·rw[hZ ha]at h
    split at h
    ·rename_i hle;simp at h;subst h;refine⟨.agg (us.extract (m.toNat*i2.size) (m.toNat*i2.size+i2.size)),?_,.agg _ _ ?_ (fun j v hv=>?_) (fun j pv v hp hv=>?_)⟩
     ·simp only[Instr.index,asIntOf,bQ,pK,bX,run_underlying ht,hZ hm,yf hi2,Go.part,uV hd2,ha,if_true]
     ·simp[hs2];rw[bZ]at hle;omega
     ·rw[PH]at hv
      split at hv
      ·exact hfl _ v hv
      ·cases hv
     ·rw[PH]at hv
      split at hv
      ·rename_i hj;rw[sR (by rw[←hs2];omega),pY,←hs2]at hp;exact hr _ pv v hp hv
      ·cases hv
    ·cases h
   ·rw[hI ha]at h;have hj:m.toNat*(tyi P el).size<us.size:=by
     have:=(bL.1 h).1;omega
    have hc:=bR hj;refine⟨_,?_,hr _ pv _ h hc⟩;simp only[Instr.index,asIntOf,bQ,pK,bX,run_underlying ht,hZ hm,yf hi2,Go.part,uV hd2,ha,if_false,bH,hs2,hc]
  ·cases h
theorem Vk {op:BinOp} {k:IntKind} {a b:Int} {pv:PV} (hop:op≠.shl∧op≠.shr) (h:vU op k a b=some pv) (t:TypeId) :
  ∃z,(binOp op t (.int k a) (.int k b)).run P w=.ok z w∧VR w av μ pv z:=by
 cases op <;> simp only[vU,reduceCtorEq,Option.some.injEq]at h <;> try (exact absurd rfl hop.1) <;> try (exact absurd rfl hop.2)
 case quo =>
  split at h
  ·cases h
  ·rename_i hb;simp at h;subst h;exact⟨_,by simp[binOp,Op.intDiv,hb],.i⟩
 case rem =>
  split at h
  ·cases h
  ·rename_i hb;simp at h;subst h;exact⟨_,by simp[binOp,Op.intDiv,hb],.i⟩
 all_goals subst h
 case add=>exact⟨_,by simp[binOp,Op.intArith],.i⟩
 case sub=>exact⟨_,by simp[binOp,Op.intArith],.i⟩
 case mul=>exact⟨_,by simp[binOp,Op.intArith],.i⟩
 case and=>exact⟨_,by simp[binOp,Op.intBits],.i⟩
 case or=>exact⟨_,by simp[binOp,Op.intBits],.i⟩
 case xor=>exact⟨_,by simp[binOp,Op.intBits],.i⟩
 case andNot=>exact⟨_,by simp[binOp,Op.intBits],.i⟩
 case eql=>exact⟨.bool (a == b),by simp[binOp,Op.intCmp],by rw[show (a == b)=decide (a=b) from rfl];exact .b⟩
 case neq=>exact⟨.bool (a != b),by simp[binOp,Op.intCmp],by rw[show (a != b) = !decide (a=b) from rfl];exact .b⟩
 case lss=>exact⟨_,by simp[binOp,Op.intCmp],.b⟩
 case leq=>exact⟨_,by simp[binOp,Op.intCmp],.b⟩
 case gtr=>exact⟨_,by simp[binOp,Op.intCmp],.b⟩
 case geq=>exact⟨_,by simp[binOp,Op.intCmp],.b⟩
theorem jY {op:BinOp} {k k':IntKind} {a b:Int} {pv:PV} (hop:op=.shl∨op=.shr) (h:qJ op k a b=some pv) (t:TypeId) :
  ∃z,(binOp op t (.int k a) (.int k' b)).run P w=.ok z w∧VR w av μ pv z:=by
 unfold qJ at h
 split at h
 ·cases h
 ·rename_i hb
  rcases hop with rfl | rfl
  ·simp at h;subst h;exact⟨_,by simp[binOp,Op.shift,hb],.i⟩
  ·simp at h;subst h;exact⟨_,by simp[binOp,Op.shift,hb],.i⟩
theorem Vl {op:BinOp} {a b:ByteArray} {pv:PV} (h:zAg op a b=some pv) (t:TypeId) :
  ∃z,(binOp op t (.string a) (.string b)).run P w=.ok z w∧VR w av μ pv z:=by
 cases op <;> simp only[zAg,reduceCtorEq,Option.some.injEq]at h
 case add =>
  split at h
  ·rename_i hle;simp at h;subst h;refine⟨.string (a++b),?_,.s⟩;have : ¬(((a.size+b.size:Nat):Int) > IntKind.i64.max):=by simp only[IntKind.max,IntKind.signed,IntKind.bits];omega
   simp only[binOp,Op.stringOp,hI this];rfl
  ·cases h
 all_goals subst h
 case eql=>exact⟨_,by simp[binOp,Op.stringOp],.b⟩
 case neq=>exact⟨_,by simp[binOp,Op.stringOp],.b⟩
 case lss=>exact⟨_,by simp[binOp,Op.stringOp],.b⟩
 case leq=>exact⟨_,by simp[binOp,Op.stringOp],.b⟩
 case gtr=>exact⟨_,by simp[binOp,Op.stringOp],.b⟩
 case geq=>exact⟨_,by simp[binOp,Op.stringOp],.b⟩
theorem qM {t:TypeId} (ht:P.underlying t=some .bool) (d:Nat) (a b:Bool):(Op.equalIn (d+1) t (.bool a) (.bool b)).run P w=.ok (a == b) w:=by
 simp[Op.equalIn,run_underlying ht]
theorem zAm {t:TypeId} (ht:P.underlying t=some .bool) (a b:Bool):(binOp .eql t (.bool a) (.bool b)).run P w=.ok (.bool (a == b)) w:=by
 have h:(Op.equal t (.bool a) (.bool b)).run P w=.ok (a == b) w:=qM ht 9999 a b
 show (Op.equal t (.bool a) (.bool b) >>= fun r=>pure (Value.bool r):Sem Value).run P w=_
 rw[bQ,h];rfl
theorem zAn {t:TypeId} (ht:P.underlying t=some .bool) (a b:Bool):(binOp .neq t (.bool a) (.bool b)).run P w=.ok (.bool (!(a == b))) w:=by
 have h:(Op.equal t (.bool a) (.bool b)).run P w=.ok (a == b) w:=qM ht 9999 a b
 show (Op.equal t (.bool a) (.bool b) >>= fun r=>pure (Value.bool (!r)):Sem Value).run P w=_
 rw[bQ,h];rfl
theorem Vm {op:BinOp} {t:TypeId} {x y pv:PV} {v u:Value} (xo yo:Operand) (hv:VR w av μ x v) (hu:VR w av μ y u) (h:yQ op (tyi P t) x y=some pv) :
  ∃z,(do eqGuard op t xo yo v u;binOp op t v u:Sem Value).run P w=.ok z w∧VR w av μ pv z:=by
 have guard : ∀v u:Value,(v.oneCell'=true)→(v≠.nilIface)→(eqGuard op t xo yo v u).run P w=.ok () w:=by
  intro v u h1 h2;unfold eqGuard;cases v with
  | nilIface=>exact absurd rfl h2
  | agg cs=>simp[Value.oneCell']at h1
  | _=>cases op <;> rfl
 cases x <;> simp only[yQ,reduceCtorEq]at h
 case int k a =>
  cases y <;> simp only[reduceCtorEq]at h
  rename_i k' b;obtain rfl:=hv.int_inv;obtain rfl:=hu.int_inv;rw[bQ,guard _ _ rfl (by simp),bX]
  split at h
  ·exact jY (.inl rfl) h t
  ·exact jY (.inr rfl) h t
  ·rename_i h1 h2
   split at h
   ·rename_i hk;subst hk;exact Vk ⟨h1,h2⟩ h t
   ·cases h
 case bool a =>
  cases y <;> simp only[reduceCtorEq]at h
  rename_i b;obtain rfl:=hv.bool_inv;obtain rfl:=hu.bool_inv
  cases hd:(tyi P t).d <;> simp only[hd,reduceCtorEq]at h
  have ht:=zAk hd;rw[bQ,guard _ _ rfl (by simp),bX]
  split at h
  ·cases h;exact⟨_,zAm ht a b,.b⟩
  ·cases h;exact⟨_,zAn ht a b,.b⟩
  ·cases h
 case str a =>
  cases y <;> simp only[reduceCtorEq]at h
  rename_i b;obtain rfl:=hv.str_inv;obtain rfl:=hu.str_inv;rw[bQ,guard _ _ rfl (by simp),bX];exact Vl h t
theorem qN {op:BinOp} {d:TD} {y:Operand} {v:PV} (h:Zt op d y=some v) : ∃e,d=.slice e∧y=.const (.slice none 0 0)∧W8 op=some v:=by
 unfold Zt at h
 split at h
 ·rename_i e;exact⟨e,rfl,rfl,h⟩
 ·cases h
theorem Xg {t e:TypeId} (hd:(tyi P t).d=.slice e) (ad:Addr) (n c:Nat):(Op.equal t (.slice (some ad) n c) (.slice none 0 0)).run P w=.ok false w:=by
 unfold Op.equal;rw[show Op.maxDepth=9999+1 from rfl];generalize 9999=d;rw[Op.equalIn,bQ,run_underlying (ye hd),bX];rfl
theorem Wc {op:BinOp} {t:TypeId} {x y pv:PV} {v u:Value} (xo yo:Operand) (hv:VR w av μ x v) (hu:VR w av μ y u) (hc : ∀c,yo=.const c→u=c) (h:vw op (tyi P t) yo x y=some pv) :
  ∃z,(do eqGuard op t xo yo v u;binOp op t v u:Sem Value).run P w=.ok z w∧VR w av μ pv z:=by
 have guard : ∀v u:Value,(v.oneCell'=true)→(v≠.nilIface)→(eqGuard op t xo yo v u).run P w=.ok () w:=by
  intro v u h1 h2;unfold eqGuard;cases v with
  | nilIface=>exact absurd rfl h2
  | agg cs=>simp[Value.oneCell']at h1
  | _=>cases op <;> rfl
 unfold vw at h
 split at h
 ·rename_i b hn;cases h;have key : ∀ {e:TypeId} {ad:Addr} {n c:Nat},(tyi P t).d=.slice e→v=.slice (some ad) n c→u=.slice none 0 0→W8 op=some pv→∃z,(do eqGuard op t xo yo v u;binOp op t v u:Sem Value).run P w=.ok z w∧VR w av μ pv z:=by
   intro e ad n c hd hv hu h;subst hv hu;rw[bQ,guard _ _ rfl (by simp),bX]
   cases op <;> simp only[W8,reduceCtorEq,Option.some.injEq]at h
   ·subst h;exact⟨.bool false,by simp only[binOp,bQ,Xg hd,bX,pK],.b⟩
   ·subst h;exact⟨.bool true,by simp only[binOp,bQ,Xg hd,bX,pK,aP],.b⟩
  cases x
  case sl rows ex =>
   cases rows with
   | nil=>cases hn
   | cons r rows =>
    obtain⟨e,hd,hy,ho⟩:=qN hn;have hu':=hc _ hy
    cases hv with | fr hv =>
    cases hv with | sl _ _ a cap ad sz c hcap hex ha had =>
    have:=had (by simp);subst this;exact key hd rfl hu' ho
  case msl id off len ex =>
   cases len with
   | zero=>cases hn
   | succ len =>
    obtain⟨e,hd,hy,ho⟩:=qN hn;have hu':=hc _ hy;cases hv with
    | fr hv=>cases hv
    | msl _ _ _ _ ad cap b=>exact key hd rfl hu' ho
  all_goals cases hn
 ·exact Vm xo yo hv hu h
theorem K9 {op:UnOp} {x pv:PV} {v:Value} (hv:VR w av μ x v) (h:K8 op x=some pv) : ∃z,(Op.unary op v).run P w=.ok z w∧VR w av μ pv z:=by
 cases x <;> simp only[K8,reduceCtorEq]at h
 case int k a =>
  obtain rfl:=hv.int_inv
  cases op <;> simp only[reduceCtorEq,Option.some.injEq]at h <;> subst h
  ·exact⟨_,by simp[Op.unary,Op.intArith],.i⟩
  ·exact⟨_,by simp[Op.unary,Op.intBits],.i⟩
 case bool b =>
  obtain rfl:=hv.bool_inv
  cases op <;> simp only[reduceCtorEq,Option.some.injEq]at h
  subst h;exact⟨_,by simp[Op.unary],.b⟩
theorem Vn {t:TypeId} {x pv:PV} {v:Value} (ty:TypeId) (hv:VR w av μ x v) (h:YJ (tyi P t) x=some pv) :
  ∃z,(Builtin.len_ #[t] ty #[v]).run P w=.ok z w∧VR w av μ pv z:=by
 cases x <;> simp only[YJ,reduceCtorEq]at h
 case str s =>
  obtain rfl:=hv.str_inv
  cases hq:(tyi P t).d <;> simp only[hq,reduceCtorEq,Option.some.injEq]at h
  subst h;exact⟨_,by simp[Builtin.len_,run_underlying (ur hq),goInt],.i⟩
 case sl rows ex =>
  cases hv with | fr hv =>
  cases hv with | sl _ _ a cap ad sz c hcap hex ha had hsz hc hr =>
  cases hq:(tyi P t).d <;> simp only[hq,reduceCtorEq,Option.some.injEq]at h
  subst h;exact⟨_,by simp[Builtin.len_,run_underlying (ye hq),goInt],.i⟩
 case msl id off len ex =>
  cases hq:(tyi P t).d <;> simp only[hq,reduceCtorEq,Option.some.injEq]at h
  subst h;cases hv with
  | fr hv=>cases hv
  | msl=>exact⟨_,by simp[Builtin.len_,run_underlying (ye hq),goInt],.i⟩
  | mslNil=>exact⟨_,by simp[Builtin.len_,run_underlying (ye hq),goInt],.i⟩
end
end Go.Vs
end
section
namespace Go.Vs
open Go
def upd {β:Type} (f:Nat→Option β) (i:Nat) (v:β):Nat→Option β:=fun j=>if j=i then some v else f j
theorem zM {β:Type} (f:Nat→Option β) (i:Nat) (v:β):upd f i v i=some v:=by simp[upd]
theorem zP {β:Type} (f:Nat→Option β) (i:Nat) (v:β) {j:Nat} (h:j≠i):upd f i v j=f j:=by simp[upd,h]
section
variable {P:Program} {w:World} {X:Nat→Prop} {A:yT} {n:Nat} {μ : Mu}
theorem wI {o:Go.Obj} {b:Nat} (h:b<w.heap.size):(w.alloc o).heap[b]? = w.heap[b]? := by
 show (w.heap.push o)[b]? = _
 rw[Array.getElem?_push];simp[Nat.ne_of_lt h]
theorem ka {o:Go.Obj} : (w.alloc o).heap[w.heap.size]? = some o:=by
 show (w.heap.push o)[w.heap.size]? = _
 simp
theorem uA {o:Go.Obj} : (w.alloc o).heap.size=w.heap.size+1:=by show (w.heap.push o).size=_;simp
theorem SR.alloc (hS:SR w X A n μ) (o:Go.Obj) (base:Nat):SR (w.alloc o) X A n μ ∧ Tr base w A μ (w.alloc o) A μ := by
 have hlt : ∀id a b,A id=some a → μ id=some b→b.b<w.heap.size:=fun id a b h1 h2=>by
  obtain⟨c,el,hh,_⟩:=hS.blk id a h1 b h2;exact (pR.1 hh).1
 have htr:Tr base w A μ (w.alloc o) A μ := ⟨rfl,rfl,rfl,by rw[uA];omega,fun b hb _=>wI hb,fun _ _ h=>h,fun _ _=>rfl⟩;refine⟨⟨hS.lt,fun id a ha b hb=>?_,hS.nob,hS.gsz,hS.inj,hS.out,fun b hb=>by rw[uA];exact Nat.lt_succ_of_lt (hS.xlt b hb)⟩,htr⟩;obtain⟨c,el,hh,h1,h2,h3,h4⟩:=hS.blk id a ha b hb;refine⟨c,el,by rw[wI (hlt id a b ha hb)];exact hh,h1,h2,h3,fun i row j pv hi hj=>?_⟩;obtain⟨v,hv1,hv2,hv3⟩:=h4 i row j pv hi hj;exact⟨v,hv1,hv2,hv3.mono htr.keeps fun _ _ _ h=>h⟩
theorem SR.new (hS:SR w X A n μ) {nid n':Nat} (hA:A nid=none) (hμ : μ nid=none) (hn:nid<n') (hnn:n≤n') {rows:List (List PV)} {g:Option (Option Nat)} {cells:Array Value} {el:TypeId} {sz:Nat} (hg : ∀k,g=some k→k=some sz)
  (hsz : ∀r∈rows,r.length=sz) (htot:rows.length*sz≤cells.size)
  (hc : ∀i row j pv,rows[i]? = some row→row[j]? = some pv→∃v,cells[i*sz+j]? = some v∧flat v=true∧VR w (Av X A μ) μ pv v) {base:Nat} (hb:base≤nid) :
  SR (w.alloc (.cells cells el)) X (upd A nid ⟨rows,g,false⟩) n' (upd μ nid ⟨w.heap.size,sz,cells.size⟩) ∧
  Tr base w A μ (w.alloc (.cells cells el)) (upd A nid ⟨rows,g,false⟩) (upd μ nid ⟨w.heap.size,sz,cells.size⟩) ∧
  ∀i,i≠nid→upd μ nid ⟨w.heap.size,sz,cells.size⟩ i = μ i:=by
 have hlt : ∀id a b,A id=some a → μ id=some b→b.b<w.heap.size:=fun id a b h1 h2=>by
  obtain⟨c,el,hh,_⟩:=hS.blk id a h1 b h2;exact (pR.1 hh).1
 have hup : ∀i b,μ i=some b→upd μ nid ⟨w.heap.size,sz,cells.size⟩ i=some b:=fun i b h=>by
  rw[zP _ _ _ (by rintro rfl;rw[hμ]at h;cases h)];exact h
 have hmut : ∀b,b<w.heap.size→Mut (upd A nid ⟨rows,g,false⟩) (upd μ nid ⟨w.heap.size,sz,cells.size⟩) b→Mut A μ b:=by
  rintro b hb' ⟨id,rows',g',k',h1,h2,rfl⟩
  by_cases hid:id=nid
  ·subst hid;rw[zM]at h2;simp at h2;subst h2;simp at hb'
  ·rw[zP _ _ _ hid]at h1 h2;exact⟨id,rows',g',k',h1,h2,rfl⟩
 have htr:Tr base w A μ (w.alloc (.cells cells el)) (upd A nid ⟨rows,g,false⟩) (upd μ nid ⟨w.heap.size,sz,cells.size⟩) :=
  ⟨rfl,rfl,rfl,by rw[uA];omega,fun b hb' _=>wI hb',hmut,fun id hid=>zP _ _ _ (by omega)⟩
 refine⟨⟨fun id hid=>?_,fun id a ha b hb'=>?_,fun id a ha hb'=>?_,fun id a ha=>?_,fun id id' a a' b b' h1 h2 h3 h4 h5=>?_,fun id a b h1 h2=>?_,fun b hb'=>by rw[uA];exact Nat.lt_succ_of_lt (hS.xlt b hb')⟩,htr,fun i hi=>zP _ _ _ hi⟩
 ·rw[zP _ _ _ (by omega),zP _ _ _ (by omega)];exact hS.lt id (by omega)
 ·by_cases hid:id=nid
  ·subst hid;rw[zM]at ha hb';simp at ha hb';subst ha;subst hb';refine⟨cells,el,ka,rfl,htot,hsz,fun i row j pv hi hj=>?_⟩;obtain⟨v,h1,h2,h3⟩:=hc i row j pv hi hj;exact⟨v,h1,h2,h3.mono htr.keeps fun i _ b h=>hup i b h⟩
  ·rw[zP _ _ _ hid]at ha hb';obtain⟨c,el',hh,h1,h2,h3,h4⟩:=hS.blk id a ha b hb';refine⟨c,el',by rw[wI (hlt id a b ha hb')];exact hh,h1,h2,h3,fun i row j pv hi hj=>?_⟩;obtain⟨v,hv1,hv2,hv3⟩:=h4 i row j pv hi hj;exact⟨v,hv1,hv2,hv3.mono htr.keeps fun i _ b h=>hup i b h⟩
 ·by_cases hid:id=nid
  ·subst hid;rw[zM]at hb';cases hb'
  ·rw[zP _ _ _ hid]at ha hb';exact hS.nob id a ha hb'
 ·by_cases hid:id=nid
  ·subst hid;rw[zM]at ha;simp at ha;subst ha;refine⟨fun h=>(by cases hg _ h),fun k h b hb'=>?_⟩;rw[zM]at hb';simp at hb';subst hb';have:=hg _ h
   simpa using this.symm
  ·rw[zP _ _ _ hid]at ha ⊢;exact hS.gsz id a ha
 ·by_cases hid:id=nid
  ·by_cases hid':id'=nid
   ·omega
   ·subst hid;rw[zM]at h3;rw[zP _ _ _ hid']at h2 h4;simp at h3;subst h3;have:=hlt id' a' b' h2 h4;simp at h5;omega
  ·by_cases hid':id'=nid
   ·subst hid';rw[zM]at h4;rw[zP _ _ _ hid]at h1 h3;simp at h4;subst h4;have:=hlt id a b h1 h3;simp at h5;omega
   ·rw[zP _ _ _ hid]at h1 h3;rw[zP _ _ _ hid']at h2 h4;exact hS.inj id id' a a' b b' h1 h2 h3 h4 h5
 ·by_cases hid:id=nid
  ·subst hid;rw[zM]at h2;simp at h2;subst h2;exact fun hx=>Nat.lt_irrefl _ (hS.xlt _ hx)
  ·rw[zP _ _ _ hid]at h1 h2;exact hS.out id a b h1 h2
def frz (A:yT) (ids:List Nat):yT:=fun id=>(A id).map fun a=>if ids.contains id then {a with f:=true} else a
theorem Wd (S:zA) (i:Nat):arrs (wV S i)=frz (arrs S) [i]:=by
 funext id
 unfold wV frz
 cases hS:S[i]? with
 | none =>
  simp only;by_cases hid:id=i
  ·subst hid;simp[arrs,hS]
  ·cases arrs S id <;> simp[hid]
 | some o =>
  cases o with
  | gone =>
   simp only;by_cases hid:id=i
   ·subst hid;simp[arrs,hS]
   ·cases arrs S id <;> simp[hid]
  | arr rows g f =>
   simp only;by_cases hid:id=i
   ·subst hid;obtain⟨hl,he⟩:=bL.1 hS;simp[arrs,hl,he]
   ·have:(S.set i (.arr rows g true))[id]? = S[id]? := BQ (Ne.symm hid);simp only[arrs,this]
    cases S[id]? with
    | none=>simp
    | some o=>cases o <;> simp[hid]
theorem yy (A:yT):frz A []=A:=by funext id;simp[frz]
theorem zCc (A:yT) (x y:List Nat):frz (frz A x) y=frz A (x++y):=by
 funext id
 simp only[frz,Option.map_map];cases A id with
 | none=>rfl
 | some a =>
  simp only[bJ,Function.comp,Option.some.injEq,BR,sB];by_cases h1:id∈x <;> by_cases h2:id∈y <;> simp[h1,h2]
theorem yp (S:zA) (ids:List Nat):arrs (zH S ids)=frz (arrs S) ids:=by
 induction ids generalizing S with
 | nil=>simp[zH,yy]
 | cons i r ih =>
  show arrs (zH (wV S i) r)=_
  rw[ih,Wd,zCc];rfl
theorem YO (S:zA) (i:Nat):(wV S i).length=S.length:=by unfold wV;split <;> simp
theorem zp (S:zA) (ids:List Nat):(zH S ids).length=S.length:=by
 induction ids generalizing S with
 | nil=>rfl
 | cons i r ih=>show (zH (wV S i) r).length=_;rw[ih,YO]
theorem wK {ids:List Nat} {id:Nat} {a:Arr} (h:frz A ids id=some a) : ∃a0,A id=some a0∧(a.rows=a0.rows∧a.g=a0.g)∧(a.f=false→a0.f=false∧a=a0):=by
 unfold frz at h
 cases hA:A id with
 | none=>rw[hA]at h;cases h
 | some a0 =>
  rw[hA]at h;simp only[bJ,Option.some.injEq]at h;refine⟨a0,rfl,?_,fun hf=>?_⟩
  ·rw[←h];split <;> exact⟨rfl,rfl⟩
  ·split at h
   ·rw[←h]at hf;cases hf
   ·subst h;exact⟨hf,rfl⟩
theorem Mut.frz {ids:List Nat} {b:Nat} (h:Mut (frz A ids) μ b):Mut A μ b:=by
 obtain⟨id,rows,g,k,h1,h2,h3⟩:=h;obtain⟨a0,e1,_,e3⟩:=wK h1;obtain⟨_,e⟩:=e3 rfl;exact⟨id,rows,g,k,by rw[e1,←e],h2,h3⟩
theorem SR.frz (hS:SR w X A n μ) (ids:List Nat) (base:Nat):SR w X (frz A ids) n μ ∧ Tr base w A μ w (Vs.frz A ids) μ := by
 have htr:Tr base w A μ w (Vs.frz A ids) μ := ⟨rfl,rfl,rfl,bB _,fun _ _ _=>rfl,fun _ _ h=>h.frz,fun _ _=>rfl⟩;refine⟨⟨fun id hid=>⟨(hS.lt id hid).1,by unfold Vs.frz;rw[(hS.lt id hid).2];rfl⟩,fun id a ha b hb=>?_,fun id a ha hb=>?_,fun id a ha=>?_,fun id id' a a' b b' h1 h2 h3 h4 h5=>?_,fun id a b h1 h2=>?_,hS.xlt⟩,htr⟩
 ·obtain⟨a0,e1,⟨e2,_⟩,_⟩:=wK ha;rw[e2];obtain⟨c,el,hh,h1,h2,h3,h4⟩:=hS.blk id a0 e1 b hb;refine⟨c,el,hh,h1,h2,h3,fun i row j pv hi hj=>?_⟩;obtain⟨v,hv1,hv2,hv3⟩:=h4 i row j pv hi hj;exact⟨v,hv1,hv2,hv3.mono htr.keeps fun _ _ _ h=>h⟩
 ·obtain⟨a0,e1,⟨e2,_⟩,_⟩:=wK ha;rw[e2];exact hS.nob id a0 e1 hb
 ·obtain⟨a0,e1,⟨_,e2⟩,_⟩:=wK ha;rw[e2];exact hS.gsz id a0 e1
 ·obtain⟨a0,e1,_⟩:=wK h1;obtain⟨a1,e2,_⟩:=wK h2;exact hS.inj id id' a0 a1 b b' e1 e2 h3 h4 h5
 ·obtain⟨a0,e1,_⟩:=wK h1;exact hS.out id a0 b e1 h2
theorem uW {S:zA} : ∀(d:Nat) (ids ids':List Nat),(∀i∈ids,i∈ids')→∀i∈yq S d ids,i∈yq S d ids'
 | 0,ids,ids',h=>h
 | d+1,ids,ids',h=>by
  intro i hi;simp only[yq,sB]at hi ⊢
  rcases hi with hi | hi
  ·exact .inl (h i hi)
  ·refine .inr (uW d _ _ (fun j hj=>?_) i hi);rw[HO]at hj ⊢;obtain⟨k,hk1,hk2⟩:=hj;exact⟨k,h k hk1,hk2⟩
theorem Vo {S:zA} (d:Nat) {ids:List Nat} {i:Nat} (h:i∈ids):i∈yq S d ids:=by
 cases d with
 | zero=>exact h
 | succ d=>simp only[yq,sB];exact .inl h
theorem YP {S:zA} (d:Nat) {ids:List Nat} {id:Nat} (h:id∈ids) {rows:List (List PV)} (hr:zz S id=some rows) {i j:Nat} {row:List PV} {pv:PV} (hi:rows[i]? = some row) (hj:row[j]? = some pv) :
  ∀k∈yq S d pv.refs,k∈yq S (d+1) ids:=by
 intro k hk;simp only[yq,sB];refine .inr (uW d _ _ (fun m hm=>?_) k hk);rw[HO];refine⟨id,h,?_⟩;rw[hr];simp only[zd,HO];exact⟨row,bK hi,xi hj hm⟩
theorem vH {α β:Type} {f:α→Option β} {l:List α} {r:List β} (h:yG f l=some r):r.length=l.length∧∀(i:Nat) (b:β),r[i]? = some b→∃a,l[i]? = some a∧f a=some b:=by
 induction l generalizing r with
 | nil=>simp[yG]at h;subst h;simp
 | cons x l ih =>
  simp only[yG]at h
  cases hx:f x with
  | none=>rw[hx]at h;cases h
  | some y =>
   rw[hx]at h;simp only[bC]at h
   cases hl:yG f l with
   | none=>rw[hl]at h;cases h
   | some l' =>
    rw[hl]at h;simp at h;subst h;obtain⟨h1,h2⟩:=ih hl;refine⟨by simp[h1],fun i b hi=>?_⟩;cases i with
    | zero=>simp at hi;subst hi;exact⟨x,rfl,hx⟩
    | succ i=>simp at hi;simpa using h2 i b hi
theorem FR.less {av av':Nat→Prop} (h : ∀b,av' b→av b) {pv:PV} {v:Value} (hf:FR w av pv v):FR w av' pv v:=hf.mono (xp.less h)
theorem FR.slFalse {av:Nat→Prop} {rows:List (List PV)} {ex:Bool} {v:Value} (hf:FR w av (.sl rows ex) v):FR w av (.sl rows false) v:=by
 cases hf with | sl _ _ a cap ad sz c hcap hex ha had hsz hc hr=>exact .sl rows false a cap ad sz c hcap (by simp) ha had hsz hc hr
variable {S:zA}
theorem We (hS:SR w X A n μ) (hSA:vG S A μ) {A':yT} (hA' : ∀id a,A' id=some a→∃a0,A id=some a0∧(a.f=false→a0.f=false)) (hm : ∀b,Mut A' μ b→Mut (A) μ b) : ∀(d:Nat) (pv:PV) (v:Value) (pv':PV),yu S d pv=some pv' →
  VR w (Av X (A) μ) μ pv v→(∀id∈yq S d pv.refs,∀a,A' id=some a→a.f=true)→FR w (Av X A' μ) pv' v:=by
 have hle : ∀b,Av X A' μ b→Av X (A) μ b:=fun b h=>h.imp id (hm b);have notIn : ∀id a b,A id=some a → μ id=some b→(∀a,A' id=some a→a.f=true)→¬Av X A' μ b.b:=by
  rintro id a b ha hb hf (hx | ⟨id2,rows,g,k,h1,h2,h3⟩)
  ·exact hS.out id a b ha hb hx
  ·obtain⟨a0,e1,_⟩:=hA' id2 _ h1;have:=hS.inj id2 id a0 a k b e1 ha h2 hb h3;subst this;cases hf _ h1
 intro d
 induction d with
 | zero=>intro pv v pv' h;cases h
 | succ d ih =>
  intro pv v pv' h hv hf
  cases pv <;> simp only[yu,reduceCtorEq,Option.some.injEq]at h
  case int k m=>subst h;cases hv with | fr hv=>exact hv.less hle
  case bool b=>subst h;cases hv with | fr hv=>exact hv.less hle
  case str s=>subst h;cases hv with | fr hv=>exact hv.less hle
  case raw u =>
   split at h
   ·rename_i hu;cases h;cases hv with
    | fr hv=>exact hv.less hle
    | raw _=>exact .raw _ hu
   ·cases h
  case sl rows ex=>subst h;cases hv with | fr hv=>exact hv.slFalse.less hle
  case cp row=>subst h;cases hv with | fr hv=>exact hv.less hle
  case msl id off len ex =>
   simp only[rowsIn]at h
   cases hr:zz S id with
   | none=>rw[hr]at h;cases h
   | some rows =>
    rw[hr]at h;simp only[bC]at h
    split at h
    ·rename_i hle';simp only[bC]at h
     cases hq:yG (yG (yu S d)) ((rows.drop off).take len) with
     | none=>rw[hq]at h;cases h
     | some rows' =>
      rw[hq]at h;cases h;obtain⟨hlen,hel⟩:=vH hq;have hlen':rows'.length=len:=by rw[hlen];simp;omega
      cases hv with
      | fr hv=>cases hv
      | mslNil _ _ a =>
       have:rows'=[]:=bT hlen';subst this;exact .sl [] false a 0 default 0 (fun _ _=>Go.undef) (bB _) (by simp) (fun _=>rfl) (fun h=>absurd rfl h) (by simp) (by simp) (by simp)
      | msl _ _ _ _ ad cap b hb hlenc htot hex had =>
       obtain⟨g,f,ha⟩:=xv hSA hr hb;have cellAt : ∀i row j pv,rows'[i]? = some row→row[j]? = some pv→∃u,w.cell? (ad.add (i*b.sz+j))=some u∧FR w (Av X A' μ) pv u∧ad.block=b.b:=by
        intro i row j pv hi hj;obtain⟨row0,h1,h2⟩:=hel i row hi;obtain⟨_,hel2⟩:=vH h2;obtain⟨pv0,h3,h4⟩:=hel2 j pv hj;rw[aO]at h1
        split at h1
        ·rename_i hil;rw[pY]at h1;obtain⟨hrl,hcell⟩:=hS.row ha hb h1;obtain⟨u,hu1,hu2,hu3⟩:=hcell j pv0 h3;have had':=had (by omega);refine⟨u,?_,ih pv0 u pv h4 hu3 (fun k hk=>hf k (YP d (by simp[PV.refs]) hr h1 h3 k hk)),by rw[had']⟩;rw[had',wB,←aN,←bZ];exact hu1
        ·cases h1
       have key:=FR.sl (w:=w) (av:=Av X A' μ) rows' false (some ad) cap ad b.sz (fun i j=>(w.cell? (ad.add (i*b.sz+j))).getD undef) (by omega) (by simp) (by simp) (fun _=>rfl)
        (fun r hr'=>by
         obtain⟨i,hi⟩:=aX hr';obtain⟨row0,h1,h2⟩:=hel i r hi;rw[(vH h2).1];rw[aO]at h1
         split at h1
         ·rw[pY]at h1;exact (hS.row ha hb h1).1
         ·cases h1)
        (fun i row j pv hi hj=>by
         obtain⟨u,h1,h2,h3⟩:=cellAt i row j pv hi hj;rw[h1,h3];exact⟨rfl,notIn id _ b ha hb (hf id (Vo _ (by simp[PV.refs])))⟩)
        (fun i row j pv hi hj=>by
         obtain⟨u,h1,h2,h3⟩:=cellAt i row j pv hi hj;simp only[h1,BS];exact h2)
       rw[hlen']at key;exact key
    ·cases h
  case mp id i off =>
   cases hr:zz S id with
   | none=>rw[hr]at h;cases h
   | some rows =>
    rw[hr]at h;simp only[bC]at h
    split at h
    ·rename_i hi
     cases hq:yG (yu S d) ((rows.getD i []).drop off) with
     | none=>rw[hq]at h;cases h
     | some row' =>
      rw[hq]at h;cases h;obtain⟨hlen,hel⟩:=vH hq;cases hv with
      | fr hv=>cases hv
      | mp _ _ _ b hb =>
       obtain⟨g,f,ha⟩:=xv hSA hr hb;have hrow:rows[i]? = some (rows.getD i []):=by simp[List.getD,bI hi]
       obtain⟨hrl,hcell⟩:=hS.row ha hb hrow;have cellAt : ∀j pv,row'[j]? = some pv→∃u,w.cell? ((⟨b.b,i*b.sz+off,none⟩:Addr).add j)=some u∧FR w (Av X A' μ) pv u:=by
        intro j pv hj;obtain⟨pv0,h3,h4⟩:=hel j pv hj;rw[pY]at h3;obtain⟨u,hu1,hu2,hu3⟩:=hcell _ pv0 h3;refine⟨u,by rw[wB,aN];exact hu1,ih pv0 u pv h4 hu3 (fun k hk=>hf k (YP d (by simp[PV.refs]) hr hrow h3 k hk))⟩
       refine .cp row' _ (fun j=>(w.cell? ((⟨b.b,i*b.sz+off,none⟩:Addr).add j)).getD undef) (fun j pv hj=>?_) (fun j pv hj=>?_)
       ·obtain⟨u,h1,_⟩:=cellAt j pv hj;rw[h1];exact⟨rfl,notIn id _ b ha hb (hf id (Vo _ (by simp[PV.refs])))⟩
       ·obtain⟨u,h1,h2⟩:=cellAt j pv hj;simp only[h1,BS];exact h2
    ·cases h
  case fn f x y =>
   cases x <;> cases y <;> simp only[yu,reduceCtorEq,Option.some.injEq]at h
   subst h;cases hv with
   | fr hv=>exact hv.less hle
   | fn _ _ _ u v hx hy rx ry =>
    have e1:u = #[]:=BN (by simpa using hx.symm);have e2:v = #[]:=BN (by simpa using hy.symm);subst e1;subst e2;exact .fn f
def Wf:Mu:=fun _=>none
theorem Z2 (hS:SR w X A n μ) (hSA:vG S A μ) {ids:List Nat} {pv pv':PV} {v:Value} (h:yZ S pv=some pv') (hv:VR w (Av X (A) μ) μ pv v)
  (hf : ∀id∈yq S 8 pv.refs,id∈ids):VR w (Av X (frz (A) ids) μ) Wf pv' v:=by
 have key:=We hS hSA (A':=frz (A) ids) (fun id a ha=>by obtain⟨a0,e1,e2,e3⟩:=wK ha;exact⟨a0,e1,fun h=>(e3 h).1⟩) (fun b hb=>hb.frz) 8;have fz : ∀id,id∈ids→∀a,frz (A) ids id=some a→a.f=true:=by
  intro id hid a ha;unfold frz at ha
  cases hA:A id with
  | none=>rw[hA]at ha;cases ha
  | some a0=>rw[hA]at ha;simp[hid]at ha;subst ha;rfl
 by_cases hnil:pv=.sl [] true
 ·subst hnil;simp only[yZ,Option.some.injEq]at h;subst h;cases hv with
  | fr hv =>
   cases hv with
   | sl _ _ a cap ad sz c hcap hex ha had hsz hc hr =>
    exact .fr (.sl [] true a cap ad sz c hcap hex ha (fun h=>absurd rfl h) (by simp) (by simp) (by simp))
 cases pv <;> simp only[yZ]at h
 case agg cs =>
  cases hq:yG (yu S 8) cs with
  | none=>rw[hq]at h;cases h
  | some cs' =>
   rw[hq]at h;cases h;obtain⟨h1,h2⟩:=vH hq;cases hv with
   | fr hv=>cases hv
   | agg _ us hn hfl hr =>
    refine .agg _ us (by omega) hfl (fun j pv v hp hv=>?_);obtain⟨pv0,e1,e2⟩:=h2 j pv hp;refine .fr (key pv0 v pv e2 (hr j pv0 v e1 hv) (fun k hk=>fz k (hf k ?_)));exact uW 8 _ _ (fun m hm=>by simp only[PV.refs];exact xi e1 hm) k hk
 case sl rows ex =>
  have h2:yu S 8 (.sl rows ex)=some pv':=by
   cases rows with
   | nil=>cases ex with
    | true=>exact absurd rfl hnil
    | false=>exact h
   | cons r rs=>exact h
  exact .fr (key _ v pv' h2 hv (fun k hk=>fz k (hf k hk)))
 all_goals exact .fr (key _ v pv' h hv (fun k hk=>fz k (hf k hk)))
theorem jr (hS:SR w X A n μ) (hSA:vG S A μ) {ids:List Nat} {pv pv':PV} {v:Value} (h:ym S pv=some pv') (hv:VR w (Av X (A) μ) μ pv v)
  (hf : ∀id∈yq S 8 pv.refs,id∈ids):VR w (Av X (frz (A) ids) μ) Wf pv' v:=by
 cases pv <;> simp only[ym]at h
 case tup vs =>
  cases hq:yG (yZ S) vs with
  | none=>rw[hq]at h;cases h
  | some vs' =>
   rw[hq]at h;cases h;obtain⟨h1,h2⟩:=vH hq;cases hv with
   | fr hv=>cases hv
   | tup _ us hn hr =>
    refine .tup _ us (by omega) (fun j pv v hp hv=>?_);obtain⟨pv0,e1,e2⟩:=h2 j pv hp;exact Z2 hS hSA e2 (hr j pv0 v e1 hv) (fun k hk=>hf k (uW 8 _ _ (fun m hm=>by simp only[PV.refs];exact xi e1 hm) k hk))
 all_goals exact Z2 hS hSA h hv hf
end
end Go.Vs
end
section
namespace Go.Vs
open Go
section
variable {P:Program} {w:World} {X:Nat→Prop} {A:yT} {n:Nat} {μ : Mu} {av:Nat→Prop}
theorem wC {pv:PV} {v:Value} (hv:VR w av μ pv v) (hc:pv.cells.all PV.cell=true):pv.cells.length=v.cells.size ∧
  (∀(j:Nat) (p:PV) (u:Value),pv.cells[j]? = some p→v.cells[j]? = some u→VR w av μ p u)∧∀(j:Nat) (u:Value),v.cells[j]? = some u→flat u=true:=by
 by_cases ha : ∃cs,pv=.agg cs
 ·obtain⟨cs,rfl⟩:=ha;cases hv with
  | fr hv=>cases hv
  | agg _ us hn hfl hr=>exact⟨hn,hr,hfl⟩
 ·have h1:pv.cells=[pv]:=by
   unfold PV.cells;split
   ·rename_i cs;exact absurd ⟨cs,rfl⟩ ha
   ·rfl
  rw[h1]at hc ⊢;simp at hc;have hfl:=hv.flat_of_cell hc;have h2:v.cells = #[v]:=by cases v <;> first | rfl | cases hfl
  rw[h2];refine⟨rfl,fun j p u hp hu=>?_,fun j u hu=>?_⟩
  ·cases j with
   | zero=>simp at hp hu;subst hp;subst hu;exact hv
   | succ j=>simp at hp
  ·cases j with
   | zero=>simp at hu;subst hu;exact hfl
   | succ j=>simp at hu
theorem VR.mp00 {id:Nat} {b:Blk} (h : μ id=some b) {N:Nat} (hN:b.b=N):VR w av μ (.mp id 0 0) (.pointer (some ⟨N,0,none⟩)):=by
 subst hN;have:=VR.mp (w:=w) (av:=av) (μ := μ) id 0 0 b h
 simpa using this
theorem Xh (hS:SR w X A n μ) {nid n':Nat} (hA:A nid=none) (hμ : μ nid=none) (hn:nid<n') (hnn:n≤n') {base:Nat} (hb:base≤nid) {el:TypeId} {pv:PV} {v:Value}
  (hv:VR w (Av X A μ) μ pv v) (hc:pv.cells.all PV.cell=true) : ∃w' μ',(Instr.box el v).run P w=.ok (.pointer (some ⟨w.heap.size,0,none⟩)) w' ∧
   SR w' X (upd A nid ⟨[pv.cells],none,false⟩) n' μ'∧Tr base w A μ w' (upd A nid ⟨[pv.cells],none,false⟩) μ'∧(∀i,i≠nid → μ' i = μ i) ∧
   VR w' (Av X (upd A nid ⟨[pv.cells],none,false⟩) μ') μ' (.mp nid 0 0) (.pointer (some ⟨w.heap.size,0,none⟩)):=by
 obtain⟨h1,h2,h3⟩:=wC hv hc;obtain⟨k1,k2,k3⟩:=hS.new hA hμ hn hnn (rows:=[pv.cells]) (g:=none) (cells:=v.cells) (el:=el) (sz:=pv.cells.length) (by simp) (by simp) (by simp;omega)
  (fun i row j p hi hj=>by
   cases i with
   | succ i=>simp at hi
   | zero =>
    simp at hi;subst hi;have hlt:=(bL.1 hj).1;have hu:v.cells[j]? = some (v.cells[j]'(by omega)):=bR (by omega);exact⟨_,by simp,h3 j _ hu,h2 j p _ hj hu⟩) hb
 refine⟨_,_,?_,k1,k2,k3,?_⟩
 ·simp[Instr.box,newVar,newRow]
 ·exact VR.mp00 (zM μ nid _) rfl
theorem vr {t:TypeId} {z:List PV} (h:(tyi P t).zero=some z) : ∃i v,P.info? t=some i∧i.zero=some v∧z=(vl v).cells:=by
 have h':((P.info? t).bind (·.zero)).map (fun v=>(vl v).cells)=some z:=h
 cases hi:P.info? t with
 | none=>rw[hi]at h';simp at h'
 | some i =>
  rw[hi]at h';simp only[bC]at h'
  cases hz:i.zero with
  | none=>rw[hz]at h';cases h'
  | some v=>rw[hz]at h';simp at h';exact⟨i,v,rfl,hz,h'.symm⟩
theorem Vp {t:TypeId} (h:(tyi P t).zero.isSome=true) : ∃i v,P.info? t=some i∧i.zero=some v:=by
 obtain⟨z,hz⟩:=Option.isSome_iff_exists.1 h;obtain⟨i,v,h1,h2,_⟩:=vr hz;exact⟨i,v,h1,h2⟩
theorem ZH {t:TypeId} {i:TypeInfo} (h:P.info? t=some i):i.size=(tyi P t).size∧i.bytes=(tyi P t).bytes:=by simp[tyi,Program.cellsOf,Program.bytesOf,h]
theorem Vq (hS:SR w X A n μ) {nid n':Nat} (hA:A nid=none) (hμ : μ nid=none) (hn:nid<n') (hnn:n≤n') {base:Nat} (hb:base≤nid) {el:TypeId} {z:List PV} (old:Value)
  (hz:(tyi P el).zero=some z) (hc:z.all PV.cell=true) : ∃w' μ',(Instr.alloc el true old).run P w=.ok (.pointer (some ⟨w.heap.size,0,none⟩)) w' ∧
   SR w' X (upd A nid ⟨[z],none,false⟩) n' μ'∧Tr base w A μ w' (upd A nid ⟨[z],none,false⟩) μ'∧(∀i,i≠nid → μ' i = μ i) ∧
   VR w' (Av X (upd A nid ⟨[z],none,false⟩) μ') μ' (.mp nid 0 0) (.pointer (some ⟨w.heap.size,0,none⟩)):=by
 obtain⟨i,v,h1,h2,rfl⟩:=vr hz;obtain⟨w',μ',k1,k2,k3,k4,k5⟩:=Xh (P:=P) hS hA hμ hn hnn hb (el:=el) (xk v) hc;refine⟨w',μ',?_,k2,k3,k4,k5⟩;rw[←k1];simp[Instr.alloc,Instr.box,zeroValue,typeInfo,h1,h2]
theorem jZ {fs:List (Nat × Nat × Bool)} {ρ : Operand→PV} {σ : Operand→Value} (hρ : ∀x,VR w av μ (ρ x) (σ x)) (places:Nat→Option (Nat × Nat)) (hp : ∀i o k g,fs[i]? = some (o,k,g)→places i=some (o,k)) :
  ∀(parts:List (Nat × Operand)) (cs:List PV) (us:Array Value) (r:List PV),xd fs ρ cs parts=some r→cs.length=us.size→(∀(j:Nat) (p:PV) (u:Value),cs[j]? = some p→us[j]? = some u→VR w av μ p u)→(∀(j:Nat) (u:Value),us[j]? = some u→flat u=true) →
  ∃us',Instr.fill places us (parts.map fun x=>(x.1,σ x.2))=some us'∧r.length=us'.size∧(∀(j:Nat) (p:PV) (u:Value),r[j]? = some p→us'[j]? = some u→VR w av μ p u)∧(∀(j:Nat) (u:Value),us'[j]? = some u→flat u=true):=by
 intro parts
 induction parts with
 | nil=>intro cs us r h h1 h2 h3;simp[xd]at h;subst h;exact⟨us,rfl,h1,h2,h3⟩
 | cons q parts ih =>
  obtain⟨i,x⟩:=q;intro cs us r h h1 h2 h3;simp only[xd]at h
  cases hf:fs[i]? with
  | none=>rw[hf]at h;cases h
  | some y =>
   obtain⟨o,k,g⟩:=y;rw[hf]at h;simp only at h
   split at h
   ·rename_i hc;obtain⟨c1,c2,c3⟩:=hc;obtain⟨e1,e2,e3⟩:=wC (hρ x) c2;obtain⟨f1,f2⟩:=Great.foldl_set o (σ x).cells.toList 0 us;have hlen:(cs.take o++(ρ x).cells++cs.drop (o+k)).length=cs.length:=by simp;omega
    obtain⟨us',g1,g2,g3,g4⟩:=ih _ (((σ x).cells.toList.zipIdx 0).foldl (fun cs (x:Value × Nat)=>cs.setIfInBounds (o+x.2) x.1) us) r h (by rw[hlen,f1,h1])
     (fun j p u hp' hu=>by
      rw[f2 j]at hu;have hjl:=(bL.1 hp').1;rw[hlen]at hjl;by_cases hin:o≤j∧j<o+k
      ·rw[hZ (by simp;omega)]at hu;rw[aG,pG (by simp;omega),pP (by simp;omega)]at hp';have hm:min o cs.length=o:=by omega
       simp only[pJ,hm]at hp';simp only[sC,pE]at hu;exact e2 _ p u hp' hu
      ·rw[hI (by simp;omega)]at hu;refine h2 j p u ?_ hu;by_cases hlo:j<o
       ·rw[aG,pP (by simp;omega),sR hlo]at hp';exact hp'
       ·rw[pG (by simp;omega),pY]at hp';rw[←hp'];congr 1;simp only[bO,pJ];omega)
     (fun j u hu=>by
      rw[f2 j]at hu
      split at hu
      ·rw[pE]at hu;exact e3 _ u hu
      ·exact h3 j u hu)
    refine⟨us',?_,g2,g3,g4⟩;simp only[pF,Instr.fill,hp i o k g hf];have hk:(σ x).cells.size=k:=by omega
    have ho : ¬(o+(σ x).cells.size > us.size):=by omega
    rw[hI (by simp only[hk];simp only[hk]at ho;simp[ho]),←g1,←Array.foldl_toList,Array.toList_zipIdx]
   ·cases h
end
end Go.Vs
end

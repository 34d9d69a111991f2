import Derived.Shelf.Strings.Builder1
import Derived.Test.YtkaeejkajfinhaaGreatChecked
import Derived.WalkKit
import Derived.Test.YtkaeejkajfinhaaGreatRows
import Derived.Test.YtkaeejkajfinhaaGreatMD7
import Derived.Test.YtkaeejkajfinhaaGreatMD9
import Derived.Test.YtkaeejkajfinhaaGreatMD19
import Derived.Test.YtkaeejkajfinhaaGreatMD22
set_option linter.unusedVariables false
set_option linter.unusedSimpArgs false
section
namespace Go.Vs
open Go Go.Proofs
mutual
theorem zHP (p q:Int→Bool) : ∀n:Node,n.has (fun o=>p o||q o)=(n.has p||n.has q)
 | .mk o nm ng nu de f=>by
  have h:=zIQ p q f;simp only[Node.has,h]
  cases p o <;> cases q o <;> cases Node.hass p f <;> simp
theorem zIQ (p q:Int→Bool) : ∀l:List Node,Node.hass (fun o=>p o||q o) l=(Node.hass p l||Node.hass q l)
 | []=>rfl
 | n::r=>by
  have h1:=zHP p q n;have h2:=zIQ p q r;simp only[Node.hass,h1,h2]
  cases n.has p <;> cases n.has q <;> cases Node.hass p r <;> simp
end
theorem zNs (n:Node):n.has (xw kz)=(n.has yi||(n.has (ys 12)||n.has (ys 3))):=by
 rw[←zHP,←zHP]
 congr 1
 funext o
 simp[xw,kz,yi,ys,Bool.or_assoc]
theorem zIR (n:Node):n.has (xw [13])=n.has (ys 13):=by
 congr 1
 funext o
 simp[xw,ys]
theorem qV : ∀(l:List Node) (s:List Int) (a b c:Bool),Node.formeds l s a b c=true→l.length=s.length→(∀d∈s,d=1)→∀k∈l,zv k.op=1∧k.formed a b c=true
 | [],s,a,b,c,_,_,_=>by simp
 | n::r,[],a,b,c,h,hl,_=>by simp at hl
 | n::r,d::s,a,b,c,h,hl,hs=>by
  simp only[Node.formeds,bP,bR,PA,List.tail_cons]at h;obtain⟨h1,h2,h3⟩:=h;intro k hk
  rcases aF.1 hk with rfl | hk
  ·exact⟨by rw[h1];exact hs d (by simp),h2⟩
  ·exact qV r s a b c h3 (by simpa using hl) (fun x hx=>hs x (by simp[hx])) k hk
theorem qN {o:Int} (h:1≤o∧o≤13) (m:Nat) : ∀d∈yU o m,d=1:=by
 unfold yU;by_cases h10:o=10∨o=37
 ·rw[bA h10];intro d hd;exact PD hd
 ·rw[hZ h10,hZ (by omega)];unfold zP;by_cases h1:o=4∨o=12
  ·rw[bA h1];simp
  ·rw[hZ h1,hZ (by omega),hZ (by omega)];by_cases h2:(5≤o∧o≤9)∨(22≤o∧o≤27)
   ·rw[bA h2];simp
   ·rw[hZ h2,hZ (by omega),hZ (by omega),hZ (by omega),hZ (by omega),hZ (by omega)];simp
theorem Z4 {o:Int} (h:zv o=1):1≤o∧o≤13:=by
 unfold zv at h;by_cases h1:1≤o∧o≤13
 ·exact h1
 ·rw[hZ h1]at h
  repeat' split at h
  all_goals omega
theorem ZB : ∀n:Node,∀a b c,n.formed a b c=true→zv n.op=1→n.has yi=false:=by
 refine Node.ind' fun n ih a b c h hs=>?_;have ho:=Z4 hs;rw[Node.formed_eq]at h;simp only[bP,bR]at h;obtain⟨_,_,hl,hf,_⟩:=h;have hk:=qV _ _ _ _ _ hf hl (qN ho _);rw[Node.has_eq,Node.hass_any];have e:yi n.op=false:=by
  unfold yi;rw[bI (by omega),bI (by omega),bI (by omega),bI (by omega),bI (by omega)];rfl
 rw[e,bX,List.any_eq_false];intro k hk';have:=hk k hk';rw[ih k hk' _ _ _ this.2 this.1];simp
theorem uu {n:Node} {w:Int} (h:n.check w=0):n.small=true∧zv n.op=w∧n.formed false false false=true:=by
 unfold Node.check at h;by_cases h1:w<1∨3<w
 ·rw[bA h1]at h;cases h
 rw[hZ h1]at h
 cases h2:n.small
 ·rw[bA h2]at h;cases h
 rw[hZ (by rw[h2];simp)]at h;by_cases h3:zv n.op=w
 ·rw[hZ (by simpa using h3)]at h
  cases h4:n.formed false false false
  ·rw[bA h4]at h;cases h
  ·exact⟨rfl,h3,rfl⟩
 ·rw[bA h3]at h;cases h
theorem zEx {n:Node} {w:Int} (hw:1≤w∧w≤3) (h1:n.small=true) (h2:zv n.op=w):decide (n.check w=0)=n.formed false false false:=by
 unfold Node.check;rw[hZ (by omega),hZ (by rw[h1];simp),hZ (by simpa using h2)]
 cases n.formed false false false <;> simp
theorem zEy {o:Int} (nm:ByteArray) (h:o=10∨o=11∨o=37∨o=38):(J8 o nm).formed false false false=yQ nm:=by
 rcases h with rfl | rfl | rfl | rfl <;> simp[J8,Node.formed,uq,wU,yU,zP,Node.formeds,xF,yS]
theorem zEz {o:Int} (nm:ByteArray) (h:o=10∨o=37):(zCV o nm).formed false false false=yQ nm:=by
 have e0:yd ⟨#[]⟩=true:=by unfold yd;simp
 rcases h with rfl | rfl <;> simp[zCV,J5,Node.formed,uq,wU,yU,zP,Node.formeds,xF,yS,zv,Node.op,e0]
theorem Q5 {o:Int} (nm:ByteArray) (h:yP o=true):(J8 o nm).isSymbol=yQ nm:=by
 simp[J8,Node.isSymbol,Node.op,Node.name,Node.neg,Node.num,Node.den,Node.kids,h]
theorem Q6 {o:Int} (nm:ByteArray) (h:o=10∨o=37):(zCV o nm).isSymbol=yQ nm:=by
 have e:J5.cmp J5=0:=(cmp_eq _ _).2 rfl;have:yP o=true:=by rcases h with h | h <;> rw[h] <;> rfl
 rcases h with rfl | rfl <;> simp[zCV,Node.isSymbol,Node.op,Node.name,Node.neg,Node.num,Node.den,Node.kids,this,e]
theorem Q7 {n:Node} (h:n.isSymbol=true):n.sym=n:=by
 obtain⟨o,nm,ng,nu,de,ks⟩:=n;simp only[Node.isSymbol,Node.op,Node.name,Node.neg,Node.num,Node.den,Node.kids,bP,HD,BI,bR]at h;obtain⟨⟨h1,h2,h3,h4,h5⟩,h6⟩:=h;obtain rfl:=pL (HK h4);obtain rfl:=pL (HK h5);subst h3;unfold Node.sym;simp only[Node.op,Node.name,Node.kids,h1,if_true]
 rcases h6 with h6 | ⟨h6,h7,h8⟩
 ·obtain rfl:=pL (HK h6);simp
 ·obtain⟨k,rfl⟩:=BT.1 (HK h6);have:=(cmp_eq _ _).1 (HK h8);simp only[PA]at this;subst this;have h9:(o=10∨o=37)∧[J5].length≠0:=⟨h7.imp HK HK,by simp⟩;exact congrArg _ (bA h9)
theorem zFA {n:Node} (h:n.op=10∨n.op=11∨n.op=37∨n.op=38):(decide (n.check (vw n.op)=0)&&decide (n.sym.cmp n=0))=n.isSymbol:=by
 have hw:1≤vw n.op∧vw n.op≤3:=by
  rcases h with h | h | h | h <;> rw[h] <;> decide
 have hso:zv n.op=vw n.op:=by
  rcases h with h | h | h | h <;> rw[h] <;> rfl
 have hsy:yP n.op=true:=by
  rcases h with h | h | h | h <;> rw[h] <;> rfl
 by_cases e:n.sym=n
 ·rw[bH ((cmp_eq _ _).2 e),pD];have form:n=J8 n.op n.name∨(n=zCV n.op n.name∧(n.op=10∨n.op=37)):=by
   by_cases hf:n.op=10∨n.op=37
   ·rw[Xc hf]at e;unfold Node.head at e
    split at e
    ·exact .inr ⟨e.symm,hf⟩
    ·exact .inl e.symm
   ·rw[qp (by omega)]at e;exact .inl e.symm
  rcases form with f | ⟨f,hf⟩
  ·have sm:n.small=true:=by rw[f];simp[Node.small,J8,Node.count,Node.counts,Node.depth,Node.depths]
   rw[zEx hw sm hso];rw[show n.formed false false false=yQ n.name by (conv=>lhs;rw[f]);exact zEy _ h];rw[show n.isSymbol=yQ n.name by (conv=>lhs;rw[f]);exact Q5 _ hsy]
  ·have sm:n.small=true:=by rw[f];simp[Node.small,zCV,J5,Node.count,Node.counts,Node.depth,Node.depths]
   rw[zEx hw sm hso];rw[show n.formed false false false=yQ n.name by (conv=>lhs;rw[f]);exact zEz _ hf];rw[show n.isSymbol=yQ n.name by (conv=>lhs;rw[f]);exact Q6 _ hf]
 ·rw[bI (fun h=>e ((cmp_eq _ _).1 h)),bQ]
  cases hq:n.isSymbol
  ·rfl
  ·exact absurd (Q7 hq) e
theorem zNt (I:List Pr) (i:Nat) (p:Pr):okP I i p=okR I i p:=by
 have ht:XN I i p=Y7 I i p:=by
  unfold XN Y7
  congr 1
  funext q
  have:q.what.cmp p.what=0↔p.what.cmp q.what=0:=by rw[cmp_eq,cmp_eq];exact eq_comm
  by_cases h:q.what.cmp p.what=0
  ·rw[bH h,bH (this.1 h)]
  ·rw[bI h,bI (fun x=>h (this.2 x))]
 unfold okP okR;rw[ht,zNs,zIR];by_cases hop:p.what.op=10∨p.what.op=11∨p.what.op=37∨p.what.op=38
 case neg =>
  have h1:vw p.what.op=0:=by unfold vw;rw[hZ (by omega),hZ (by omega)]
  have h2:uH p=false:=by unfold uH;rw[hZ (by omega),hZ (by omega)]
  rw[h1,h2];simp
 have hs:=zFA hop;have h1:decide (vw p.what.op≠0)=true:=by
  rcases hop with h | h | h | h <;> rw[h] <;> rfl
 rw[h1,←hs];have hwith:(decide (p.wth.check (vw p.what.op)=0) && !(p.wth.has yi||(p.wth.has (ys 12)||p.wth.has (ys 3))))=(uH p&&(!p.wth.has (ys 12) && !p.wth.has (ys 3))):=by
  unfold uH;by_cases h10:p.what.op=10∨p.what.op=11
  ·have hw:vw p.what.op=1:=by unfold vw;rw[bA h10]
   rw[hw,bA h10];by_cases hc:p.wth.check 1=0
   ·obtain⟨_,c1,c2⟩:=uu hc;rw[ZB _ _ _ _ c2 c1];simp
   ·simp[hc]
  ·have hw:vw p.what.op=2:=by unfold vw;rw[hZ h10,bA (by omega)]
   rw[hw,hZ h10,bA (by omega)]
   cases p.wth.has yi <;> cases p.wth.has (ys 12) <;> simp
 generalize decide (p.what.check (vw p.what.op)=0)=a1 at *;generalize decide (p.what.sym.cmp p.what=0)=a2 at *;generalize decide (p.wth.check (vw p.what.op)=0)=a3 at *;generalize p.wth.has yi=a4 at *;generalize p.wth.has (ys 12)=a5 at *;generalize p.wth.has (ys 3)=a6 at *;generalize p.wth.has yP=a7 at *;generalize uH p=a8 at *;generalize decide (p.rates.length=0)=a9 at *;generalize (!Y7 I i p)=a10 at *;generalize (!(decide (p.what.kids.length=0)&&p.wth.has (ys 13)))=a11 at *;clear hs h1 ht hop
 revert hwith
 cases a1 <;> cases a2 <;> cases a9 <;> cases a10 <;> simp
 cases a3 <;> cases a4 <;> cases a5 <;> cases a6 <;> cases a7 <;> cases a8 <;> cases a11 <;> simp
theorem zFB (I:List Pr) : ∀(m i:Nat),zCZ I m i=W1 I m i
 | 0,_=>rfl
 | m+1,i=>by rw[zCZ,W1,zNt,zFB I m (i+1)]
theorem zFC (I:List Pr):qZ I=qa I:=by unfold qZ qa;rw[zFB]
end Go.Vs
end
section
set_option maxRecDepth 100000
namespace Go.Vs
open Go Go.Proofs
section
attribute [local irreducible] Vs.callL Vs.callRL tyi zO zn zg zR zY za zI zZ zA zK ze zX zG zJ zW zr yJ zq zL zf Vs.gc zH
end
end Go.Vs
end
section
set_option maxRecDepth 100000
namespace Go.Vs
open Go Go.Proofs
section
attribute [local irreducible] Vs.callL Vs.callRL tyi zO zn zg zR zY za zI zZ zA zK ze zX zG zJ zW zr yJ zq zL zf Vs.gc zH
end
end Go.Vs
end
section
set_option maxRecDepth 100000
namespace Go.Vs
open Go Go.Proofs
section
attribute [local irreducible] Vs.callL Vs.callRL tyi zO zn zg zR zY za zI zZ zA zK ze zX zG zJ zW zr yJ zq zL zf Vs.gc zH
end
end Go.Vs
end
section
set_option maxRecDepth 100000
namespace Go.Vs
open Go Go.Proofs
section
attribute [local irreducible] Vs.callL Vs.callRL tyi zO zn zg zR zY za zI zZ zA zK ze zX zG zJ zW zr yJ zq zL zf Vs.gc zH
end
end Go.Vs
end
section
set_option maxRecDepth 100000
namespace Go.Vs
open Go Go.Proofs
section
attribute [local irreducible] Vs.callL Vs.callRL tyi zO zn zg zR zY za zI zZ zA zK ze zX zG zJ zW zr yJ zq zL zf Vs.gc zH
end
end Go.Vs
end
section
set_option maxRecDepth 100000
namespace Go.Vs
open Go Go.Proofs
def s0:ByteArray:=⟨#[]⟩
def zPt (l:List ByteArray):List (List PV):=l.map fun s=>[.str s]
def zLt (l:List ByteArray):Prop:=∀s∈l,s.size≤maxLen
theorem zLt.at {l:List ByteArray} (h:zLt l) {i:Nat} (hi:i<l.length):(l.getD i s0).size≤maxLen:=by
 rw[ZZ hi];exact h _ (PO hi)
section
attribute [local irreducible] Vs.callL Vs.callRL tyi zO zn zg zR zY za zI zZ zA zK ze zX zG zJ zW zr yJ zq zL zf Vs.gc zH
end
end Go.Vs
end
section
set_option maxRecDepth 100000
namespace Go.Vs
open Go Go.Proofs
section
attribute [local irreducible] Vs.callL Vs.callRL tyi zO zn zg zR zY za zI zZ zA zK ze zX zG zJ zW zr yJ zq zL zf Vs.gc zH
end
end Go.Vs
end
section
set_option maxRecDepth 100000
namespace Go.Vs
open Go Go.Proofs
def Jf (a b:RV):Bool:=decide (a.neg=b.neg∧a.num=b.num∧a.den=b.den)
theorem zFD (a:RV):Jf a a=true:=by simp[Jf]
structure RV.fine (v:RV):Prop where
 n:v.num.length≤400
 d:v.den.length≤400
 q : ∃q:Rat,.agg v.cells=xY q∧v.neg=yT q∧v.num=words q.num.natAbs∧v.den=words q.den∧wB q 400
theorem zNu {v:RV} (h:v.ok) (hf:v.fit=true):v.fine:=by
 have hf':=hf;unfold RV.fit at hf';simp only[bP,bR]at hf';exact⟨hf'.1.1,hf'.1.2,zIL h hf⟩
theorem zLu:rv0.fine:=by
 have h0:words 0=[]:=(vL WB2).2 rfl;have h1:words 1=[1]:=jP;refine⟨by decide,by decide,0,UG.symm,rfl,h0.symm,h1.symm,?_,?_⟩
 ·show (words 0).length≤400
  rw[h0];decide
 ·show (words 1).length≤400
  rw[h1];decide
theorem qE {nm:ByteArray} : ∀ {L:List Bd},WZ L→(∀b∈L,b.good)→(YC nm L).fine
 | [],_,_=>zLu
 | b::r,h,g=>by
  simp only[YC]
  split
  ·exact zNu (h b (by simp)).v (g b (by simp)).fit
  ·exact qE (fun c hc=>h c (by simp[hc])) fun c hc=>g c (by simp[hc])
section
attribute [local irreducible] Vs.callL Vs.callRL tyi zO zn zg zR zY za zI zZ zA zK ze zX zG zJ zW zr yJ zq zL zf Vs.gc zH
noncomputable def zSc:FX:=⟨Tryz.f16,zD.of 16,[]⟩
instance ok16_:zSc.ok 16:=FX.mk'
theorem V5 (a b:RV) (h1:a.num.length≤3000000) (h2:a.den.length≤3000000):callL Tryz.prog zD 16 [.agg a.cells,.agg b.cells]=some (.bool (Jf a b)):=by
 have cs:=fun S=>zF (S:=S) (zBc a.neg b.neg a.num a.den b.num b.den h1 h2) (by simp;exact⟨kW a,kW b⟩);unfold ku at cs;refine FX.callL (r:=(.bool (Jf a b),[.arr [a.cells] none false,.arr [b.cells] none false])) ok16_ 1000 rfl rfl ?_ rfl;unfold RV.cells Jf;((repeat((conv=>lhs;whnf);simp only[go_sem,simprocAttr,cs]));try rfl)
end
end Go.Vs
end
section
set_option maxRecDepth 100000
namespace Go.Vs
open Go Go.Proofs
section
attribute [local irreducible] Vs.callL Vs.callRL tyi zO zn zg zR zY za zI zZ zA zK ze zX zG zJ zW zr yJ zq zL zf Vs.gc zH
end
end Go.Vs
end
section
set_option maxRecDepth 100000
namespace Go.Vs
open Go Go.Proofs
section
attribute [local irreducible] Vs.callL Vs.callRL tyi zO zn zg zR zY za zI zZ zA zK ze zX zG zJ zW zr yJ zq zL zf Vs.gc zH
end
end Go.Vs
end
section
set_option maxRecDepth 100000
namespace Go.Vs
open Go Go.Proofs
end Go.Vs
end
section
namespace Go.Vs
open Go Go.Proofs
theorem zJp:ZL Tryz.prog zD 60 8 []=some (.bool true):=by kernel_rfl
theorem zNv:callL Tryz.prog zD 8 []=some (.bool true):=Qz zJp
end Go.Vs
end
section
set_option maxRecDepth 100000
namespace Go.Vs
open Go Go.Proofs
section
attribute [local irreducible] Vs.callL Vs.callRL tyi zO zn zg zR zY za zI zZ zA zK ze zX zG zJ zW zr yJ zq zL zf Vs.gc zH
end
end Go.Vs
end
section
namespace Go.Proofs
open Go.RowKit
theorem Tryz.sizeBuilder:(Tryz.prog.info? 166).map (·.size)=some 2:=by kernel_rfl
theorem Tryz.liesBuilder:liesAt Tryz.prog Tryz.prog.depth 166 (2 / Tryz.prog.cellsOf 166) 0 166 1=true:=by kernel_rfl
theorem Tryz.infoByte:(Tryz.prog.info? 5).map (fun i=>(i.zero,i.size,i.bytes))=some (some (.int .u8 0),1,1):=by kernel_rfl
theorem Tryz.cellsByte:Tryz.prog.cellsOf 5=1:=by kernel_rfl
set_option maxHeartbeats 1000000 in
set_option maxRecDepth 100000 in
theorem Tryz.Builder_String (B b:Nat) (l:List UInt8) (w:World) (h:Lib.IsBuilder 166 5 B b (Lib.byteCells l) w) (h0:l≠[]) :
  Calls Tryz.prog 158 #[.pointer (some ⟨b,0,none⟩)] w fun e w'=>e=.returned (.string ⟨l.toArray⟩)∧Below B w w':=by
 obtain⟨p,hB,v,hbk,hown,hne⟩ : ∃p,Lib.BuilderAt 166 5 B b p (Lib.byteCells l) w:=by
  rcases h with h | h
  ·exact⟨_,h⟩
  ·exact⟨_,h⟩
 have hl0:l.length≠0:=by simpa using h0
 rw[Lib.byteCells_length]at hown;obtain⟨g,cap,cur,rfl,hbg,hg,hnc,hcm,hcs,htake⟩ : ∃g cap cur,v=.slice (some ⟨g,0,none⟩) l.length cap∧B≤g∧w.heap[g]? = some (.cells cur 5 (0,0))∧l.length≤cap∧cap≤maxLen∧cur.size=cap*1∧cur.toList.take (l.length*1)=Lib.byteCells l:=by
  rcases hown.2 with⟨_,hz⟩ | ⟨g,cap,cur,hv,r⟩
  ·exact absurd hz hl0
  ·exact⟨g,cap,cur,hv,r⟩
 have c1:w.drew.cell? ⟨b,1,none⟩=some (.slice (some ⟨g,0,none⟩) l.length cap):=by
  have:w.drew.heap[b]? = some (.cells #[p,.slice (some ⟨g,0,none⟩) l.length cap] 166 (0,0)):=hbk;rw[Lib.cell_of_heap this];rfl
 have hSD:(Builtin.unsafeSliceData_ #[144] 188 #[.slice (some ⟨g,0,none⟩) l.length cap]).run Tryz.prog w.drew=.ok (.pointer (some ⟨g,0,none⟩)) w.drew :=
  Lib.run_unsafeSliceData_row _ _ _ _ _ _ (by omega)
 have hUS:(Builtin.unsafeString_ #[188,3] 9 #[.pointer (some ⟨g,0,none⟩),.int .i64 l.length]).run Tryz.prog w.drew=.ok (.string ⟨l.toArray⟩) (w.drew.freeze ⟨g,0,none⟩ l.length):=by
  refine Lib.run_unsafeString_row w.drew 188 3 9 5 Tryz.underlying188 Tryz.cellsByte g cur.size (by have hg':w.drew.heap[g]? = some (.cells cur 5 (0,0)):=hg;simp[World.shape?,hg']) l h0 (by omega) (by unfold maxLen at hcm;omega) ?_;intro j x hx;have:=hown.cells (g:=g) rfl j (.int .u8 x.toNat) (by simp[Lib.byteCells,hx]);exact this
 go_enter Tryz.func158,Tryz.ntmps158
 go_wp2
 go_region
 all_goals (go_wp2;go_ret;exact⟨rfl,Lib.below_freeze (Below.drew (Below.refl B w)) (p:=⟨g,0,none⟩) hbg _⟩)
set_option maxHeartbeats 1000000 in
set_option maxRecDepth 100000 in
theorem Tryz.copyCheck_fresh (b:Nat) (w:World) (h0:w.cell? ⟨b,0,none⟩=some (.pointer none)) (hsh:w.shape? b=some (166,2)) (hfz:w.frozen? ⟨b,0,none⟩=false) :
  Calls Tryz.prog 174 #[.pointer (some ⟨b,0,none⟩)] w fun e w'=>e=.returned (.tuple #[])∧w'=w.setCell ⟨b,0,none⟩ (.pointer (some ⟨b,0,none⟩)):=by
 obtain⟨j,hj,hjs⟩:=Option.map_eq_some_iff.1 Tryz.sizeBuilder
 go_enter Tryz.func174,Tryz.ntmps174
 go_wp2
 rw[Lib.run_to_unsafe w ⟨b,0,none⟩ Tryz.underlying164 Tryz.underlying197 hj (by rw[hjs];decide) hsh (Nat.zero_lt_succ 1)];simp only[Result.andThen];rw[Oper.upon_value]
 go_wp2
 rw[run_callFunc_extern Tryz.func188 (by kernel_rfl) (by kernel_rfl) (by kernel_rfl) (e:=Extern.AbiNoEscape.same) (by kernel_rfl)];rw[Lib.run_noEscape];simp only[Result.andThen];rw[Oper.upon_value]
 go_wp2
 rw[Lib.run_from_unsafe w ⟨b,0,none⟩ Tryz.underlying197 Tryz.underlying164 hj hsh Tryz.liesBuilder];simp only[Result.andThen];rw[Oper.upon_value]
 go_wp2
 go_end0
 exact⟨rfl,rfl⟩
set_option maxHeartbeats 2000000 in
set_option maxRecDepth 100000 in
theorem Tryz.WriteString_fresh (B b:Nat) (bs:List Value) (s:ByteArray) (w:World) (h:Lib.BuilderAt 166 5 B b (.pointer none) bs w) (hlen:bs.length+s.size≤140737488355328) (hBw:B≤w.heap.size) :
  Calls Tryz.prog 156 #[.pointer (some ⟨b,0,none⟩),.string s] w fun e w'=>e=.returned (.tuple #[.int .i64 s.size,.nilIface])∧(Lib.BuilderAt 166 5 B b (.pointer (some ⟨b,0,none⟩)) (bs++Lib.strCells s) w'∧Below B w w'):=by
 obtain⟨i0,hi,hz0,hz1,hz2⟩:=info_parts Tryz.infoByte
 go_enter Tryz.func156,Tryz.ntmps156
 go_wp2_with (go_at_call 174;refine (Tryz.copyCheck_fresh b _ h.cell0 h.shape h.frozen0).mono ?_)
 rintro e w1 ⟨rfl,rfl⟩
 have h1:=h.used (.pointer (some ⟨b,0,none⟩));have hb1:Below B w (w.setCell ⟨b,0,none⟩ (.pointer (some ⟨b,0,none⟩))):=(Below.refl B w).setCell (p:=⟨b,0,none⟩) h.1 _;generalize w.setCell ⟨b,0,none⟩ (.pointer (some ⟨b,0,none⟩))=w1 at h1 hb1 ⊢;obtain⟨hB,v,hbk,hown,hne⟩:=h1;have c0:w1.cell? ⟨b,0,none⟩=some (.pointer (some ⟨b,0,none⟩)):=by rw[Lib.cell_of_heap hbk];rfl
 have c1:w1.cell? ⟨b,1,none⟩=some v:=by rw[Lib.cell_of_heap hbk];rfl
 go_wp2_with (at_builtin;refine Lib.wpList_append_own_string _ rfl _ _ 144 9 rfl B 5 i0 Tryz.underlying144 Tryz.underlying9 hi hz0 hz1 hz2 _ _ _ rfl hown s rfl ?c3 ?c4 ?c5 ?_)
 case c3=>unfold maxLen;omega
 case c4=>omega
 case c5=>have:=hb1.size;omega
 intro v' w2 hown' hgrow _;have hlt:b<w1.heap.size:=by
  rcases Nat.lt_or_ge b w1.heap.size with h' | h'
  ·exact h'
  ·simp[Array.getElem?_eq_none h']at hbk
 have hb2:w2.heap[b]? = some (.cells #[.pointer (some ⟨b,0,none⟩),v] 166 (0,0)):=by
  rw[hgrow.block b hlt (fun e=>hne e.symm)];exact hbk
 have d0:w2.cell? ⟨b,0,none⟩=some (.pointer (some ⟨b,0,none⟩)):=by rw[Lib.cell_of_heap hb2];rfl
 have d1:w2.cell? ⟨b,1,none⟩=some v:=by rw[Lib.cell_of_heap hb2];rfl
 have f1:w2.frozen? ⟨b,1,none⟩=false:=Lib.frozen_of_heap hb2 1;obtain⟨ao,n',cap,rfl⟩ : ∃ao n' cap,v'=.slice ao n' cap:=by
  rcases hown'.2 with⟨hv,_⟩ | ⟨g,cap,cur,hv,_⟩
  ·exact⟨_,_,_,hv⟩
  ·exact⟨_,_,_,hv⟩
 go_wp2
 go_ret2
 refine⟨rfl,?_,?_⟩
 ·exact Lib.BuilderAt.put (T:=166) (e:=5) hB hb2 (bs':=bs++Lib.strCells s) (by simpa [Lib.strCells_length] using hown') (by decide)
 ·exact (hb1.grown hgrow (by have:=hb1.size;omega) (fun k hk=>(hown.lt k hk).1)).setCell (p:=⟨b,1,none⟩) hB _
end Go.Proofs
end
section
namespace Go.Vs
open Go Go.Proofs Go.RowKit
def Jg:Hints := {zD with orc:=fun _=>none}
theorem zFE:U0 Tryz.prog Jg:=U0.none fun _=>rfl
theorem V6 {B b:Nat} {p:Value} {bs:List Value} {w w':World} (h:Lib.BuilderAt 166 5 B b p bs w) (hk : ∀k,k<w.heap.size→w'.heap[k]? = w.heap[k]?):Lib.BuilderAt 166 5 B b p bs w':=by
 have hlt:=h.lt;obtain⟨hB,v,hb,ho,hn⟩:=h;refine⟨hB,v,by rw[hk b hlt];exact hb,⟨ho.1,?_⟩,hn⟩
 rcases ho.2 with h1 | ⟨g,cap,cur,h1,h2,h3,h4⟩
 ·exact .inl h1
 ·exact .inr ⟨g,cap,cur,h1,h2,by rw[hk g (sW.1 h3).1];exact h3,h4⟩
theorem Grown.trans {a b c:World} (h:Grown a b) (k:Grown b c):Grown a c:=⟨k.os.trans h.os,k.tape.trans h.tape,k.output.trans h.output,bO h.size k.size,fun i hi=>(k.keep i (HC hi h.size)).trans (h.keep i hi)⟩
theorem Grown.alloc (w:World) (o:Go.Obj):Grown w (w.alloc o):=by
 have h:=(Below.refl w.heap.size w).alloc (bF _) o;exact⟨h.os,h.tape,h.output,h.size,h.block⟩
theorem XO {w w':World} {Y:Nat→Prop} (hg : ∀k,k<w.heap.size→w'.heap[k]? = w.heap[k]?):uO w Y w' Y:=fun a v h hn=>by
 refine⟨?_,hn⟩;have hlt:a.block<w.heap.size:=by
  rcases BH a.block w.heap.size with h' | h'
  ·exact h'
  ·simp[World.cell?,Array.getElem?_eq_none h']at h
 rw[World.cell?_of_block (w:=w) (hg a.block hlt)];exact h
def two (x y:Bool):PV:=.agg [.bool false,.sl [[.int .u32 2]] x,.sl [[.int .u32 1]] y]
theorem zJq (x y:Bool):ZL Tryz.prog Jg 60 109 [two x y]=some (.bool true):=by cases x <;> cases y <;> kernel_rfl
theorem zLv (x:Bool):ZL Tryz.prog Jg 60 155 [.sl [[.int .u32 2]] x]=some (.tup [.str ⟨#[50]⟩,.int .i64 0]):=by cases x <;> kernel_rfl
theorem zJr (x y:Bool):ZL Tryz.prog Jg 60 157 [two x y]=some (.bool true):=by cases x <;> cases y <;> kernel_rfl
theorem zNw {w:World} {Y:Nat→Prop} {x y:Bool} {v:Value} (h:VR w Y Z6 (two x y) v) : ∃v1 v2,v=.agg #[.bool false,v1,v2]∧flat v1=true∧flat v2=true∧VR w Y Z6 (.sl [[.int .u32 2]] x) v1∧VR w Y Z6 (.sl [[.int .u32 1]] y) v2:=by
 unfold two at h;cases h with
 | fr h=>cases h
 | agg cells cs hn hf hr =>
  obtain⟨l⟩:=cs
  match l,hn with
  | [a,b,c],_ =>
   have h0:=hr 0 _ a rfl rfl;have h1:=hr 1 _ b rfl rfl;have h2:=hr 2 _ c rfl rfl;have e0:a=.bool false:=by
    cases h0 with
    | fr h=>cases h;rfl
   exact⟨b,c,by rw[e0],hf 1 b rfl,hf 2 c rfl,h1,h2⟩
theorem zLw {w:World} {Y:Nat→Prop} {x y:Bool} {v1 v2:Value} (f1:flat v1=true) (f2:flat v2=true) (h1:VR w Y Z6 (.sl [[.int .u32 2]] x) v1) (h2:VR w Y Z6 (.sl [[.int .u32 1]] y) v2):VR w Y Z6 (two x y) (.agg #[.bool false,v1,v2]) :=
 .agg _ _ rfl (fun j v hj=>by
  match j,hj with
  | 0,hj=>simp at hj;subst hj;rfl
  | 1,hj=>simp at hj;subst hj;exact f1
  | 2,hj=>simp at hj;subst hj;exact f2) (fun j pv v hp hv=>by
  match j,hp,hv with
  | 0,hp,hv=>simp at hp hv;subst hp hv;exact .fr (.bool _)
  | 1,hp,hv=>simp at hp hv;subst hp hv;exact h1
  | 2,hp,hv=>simp at hp hv;subst hp hv;exact h2)
theorem zLx {f:FuncId} {a r:PV} {k:Nat} (hr:ZL Tryz.prog Jg k f [a]=some r) {w:World} {Y:Nat→Prop} (hY : ∀b,Y b→b<w.heap.size) {v:Value} (hv:VR w Y Z6 a v):Calls Tryz.prog f #[v] w fun e w'=>∃u,e=.returned u∧Grown w w'∧VR w' Y Z6 r u:=by
 obtain⟨_,_,_,_,_,h⟩:=U1 Tryz.checked.mixed zFE k f [a] r hr;exact h w Y #[v] hY rfl fun j pv u hp hu=>by
  match j,hp,hu with
  | 0,hp,hu=>simp at hp hu;subst hp hu;exact hv
theorem zIS {w:World} {Y:Nat→Prop} {b:Bool} {u:Value} (h:VR w Y Z6 (.bool b) u):u=.bool b:=by
 cases h with
 | fr h=>cases h;rfl
theorem zNx {w:World} {Y:Nat→Prop} {s:ByteArray} {n:Int} {u:Value} (h:VR w Y Z6 (.tup [.str s,.int .i64 n]) u):u=.tuple #[.string s,.int .i64 n]:=by
 cases h with
 | fr h=>cases h
 | tup vs us hn hr =>
  obtain⟨l⟩:=us
  match l,hn with
  | [a,b],_ =>
   have h0:=hr 0 _ a rfl rfl;have h1:=hr 1 _ b rfl rfl;cases h0 with
   | fr h=>cases h;cases h1 with
    | fr h=>cases h;rfl
set_option maxHeartbeats 4000000 in
set_option maxRecDepth 1000000 in
theorem zHQ {w:World} {Y:Nat→Prop} (hY : ∀b,Y b→b<w.heap.size) {x y:Bool} {v:Value} (hv:VR w Y Z6 (two x y) v):Calls Tryz.prog 121 #[v] w fun e w'=>∃u,e=.returned u∧Grown w w'∧VR w' Y Z6 (.tup [.str ⟨#[50]⟩,.int .i64 0]) u:=by
 obtain⟨v1,v2,rfl,f1,f2,r1,r2⟩:=zNw hv
 go_enter Tryz.func121,Tryz.ntmps121
 go_wp2_with (go_at_call 109;refine (zLx (zJq x y) (Y:=Y) ?hY1 ?hv1).mono ?_)
 case hY1=>intro b hb;exact HC (hY b hb) (Grown.alloc w _).size
 case hv1=>exact zLw f1 f2 (r1.mono (XO (Grown.alloc w _).keep) fun _ _ _ h=>by cases h) (r2.mono (XO (Grown.alloc w _).keep) fun _ _ _ h=>by cases h)
 rintro e w1 ⟨u,rfl,g1,hu⟩
 cases zIS hu;have k1:w1.heap[w.heap.size]? = some (.cells #[.bool false,v1,v2] 27 (0,0)):=by
  rw[g1.keep _ (by simp)];exact jH
 have g1':Grown w w1:=(Grown.alloc w _).trans g1;have lt1:w.heap.size<w1.heap.size:=(sW.1 k1).1;have k2:=Lib.alloc_old w1 (.cells #[.pointer none,.slice none 0 0] 166) _ lt1;have hf:=Lib.fresh_isBuilder 166 5 w1;have g2:Grown w (w1.alloc (.cells #[.pointer none,.slice none 0 0] 166)):=Grown.trans g1' (Grown.alloc _ _);have z2:(w1.alloc (.cells #[.pointer none,.slice none 0 0] 166)).heap.size=w1.heap.size+1:=by simp
 rw[k1]at k2;have a0:(w1.alloc (.cells #[.pointer none,.slice none 0 0] 166)).cell? ⟨w.heap.size,0,none⟩=some (.bool false):=by rw[Lib.cell_of_heap k2];rfl
 have a1:(w1.alloc (.cells #[.pointer none,.slice none 0 0] 166)).cell? ⟨w.heap.size,1,none⟩=some v1:=by rw[Lib.cell_of_heap k2];rfl
 go_wp2_with (go_at_call 155;refine (zLx (zLv x) (Y:=Y) ?hY1 ?hv1).mono ?_)
 case hY1=>intro b hb;exact HC (hY b hb) g2.size
 case hv1=>exact r1.mono (XO g2.keep) fun _ _ _ h=>by cases h
 rintro e w2 ⟨u,rfl,g3,hu⟩
 cases zNx hu;have b0:Lib.BuilderAt 166 5 w1.heap.size w1.heap.size (.pointer none) [] w2:=by
  rcases hf with hf | hf
  ·exact V6 hf g3.keep
  ·exfalso
   obtain⟨_,v,hb,_⟩:=hf;have:=(jH (w:=w1)).symm.trans hb;cases this
 have g4:Grown w w2:=g2.trans g3;have z4:w1.heap.size+1≤w2.heap.size:=by rw[←z2];exact g3.size
 have k4:w2.heap[w.heap.size]? = some (.cells #[.bool false,v1,v2] 27 (0,0)):=by rw[g3.keep _ (by omega)];exact k2
 go_wp2_with (go_at_call 156;refine (Tryz.WriteString_fresh _ _ _ _ _ b0 ?hl1 ?hB1).mono ?_)
 case hl1=>decide
 case hB1=>omega
 rintro e w3 ⟨rfl,b1,g5⟩
 have k5:w3.heap[w.heap.size]? = some (.cells #[.bool false,v1,v2] 27 (0,0)):=by rw[g5.block _ lt1];exact k4
 have g6:Grown w w3:=⟨g5.os.trans g4.os,g5.tape.trans g4.tape,g5.output.trans g4.output,bO g4.size g5.size,fun b hb=>(g5.block b (by have:=g1'.size;omega)).trans (g4.keep b hb)⟩;have a0:w3.cell? ⟨w.heap.size,0,none⟩=some (.bool false):=by rw[Lib.cell_of_heap k5];rfl
 have a1:w3.cell? ⟨w.heap.size,1,none⟩=some v1:=by rw[Lib.cell_of_heap k5];rfl
 have a2:w3.cell? ⟨w.heap.size,2,none⟩=some v2:=by rw[Lib.cell_of_heap k5];rfl
 go_wp2_with (go_at_call 157;refine (zLx (zJr x y) (Y:=Y) ?hY1 ?hv1).mono ?_)
 case hY1=>intro b hb;exact HC (hY b hb) g6.size
 case hv1=>exact zLw f1 f2 (r1.mono (XO g6.keep) fun _ _ _ h=>by cases h) (r2.mono (XO g6.keep) fun _ _ _ h=>by cases h)
 rintro e w4 ⟨u,rfl,g7,hu⟩
 cases zIS hu;have b2:Lib.IsBuilder 166 5 w1.heap.size w1.heap.size (Lib.byteCells [50]) w4:=.inr (V6 b1 g7.keep)
 have g8:Grown w w4:=g6.trans g7
 go_wp2_with (go_at_call 158;refine (Tryz.Builder_String _ _ [50] _ b2 (by decide)).mono ?_)
 rintro e w5 ⟨rfl,g9⟩
 have g10:Grown w w5:=⟨g9.os.trans g8.os,g9.tape.trans g8.tape,g9.output.trans g8.output,bO g8.size g9.size,fun b hb=>(g9.block b (by have:=g1'.size;omega)).trans (g8.keep b hb)⟩
 go_wp2
 go_ret2
 refine⟨_,rfl,g10,.tup _ _ rfl fun j pv v hp hv=>?_⟩
 match j,hp,hv with
 | 0,hp,hv=>simp at hp hv;subst hp hv;exact .fr (.str _)
 | 1,hp,hv=>simp at hp hv;subst hp hv;exact .fr (.int _ _)
theorem Q8 {args:List PV} {r:PV} (h:Yx args=some r) : ∃x y,args=[two x y]∧r=.tup [.str ⟨#[50]⟩,.int .i64 0]:=by
 unfold Yx at h
 split at h
 ·rename_i x y;exact⟨x,y,rfl,(Option.some.inj h).symm⟩
 ·cases h
theorem zJs:U0 Tryz.prog zD:=by
 intro f args r hr;have ho:zD.orc f=if f=121 then some Yx else none:=by
  show ([(121,Yx)]:List (Nat × _)).lookup f=_
  by_cases hf:f=121
  ·subst hf;rfl
  ·rw[hZ hf,List.lookup_cons,beq_eq_false_iff_ne.2 hf];rfl
 simp only[ho]at hr;by_cases hf:f=121
 ·subst hf;rw[bA rfl,bG]at hr;obtain⟨x,y,rfl,rfl⟩:=Q8 hr;refine⟨_,_,Tryz.func121,rfl,by decide,fun w Y vs hY hn hv=>?_⟩;obtain⟨l⟩:=vs
  match l,hn with
  | [v],_=>exact zHQ hY (hv 0 _ _ rfl rfl)
 ·rw[hZ hf,BA]at hr;cases hr
end Go.Vs
end
section
namespace Go.Vs
open Go Go.Proofs
def vh (P:Program) (t:TypeId):Option (List TypeId):=match P.underlying t with
 | some (.struct fs)=>some (fs.toList.map Field.type)
 | _=>none
theorem zFF {α β γ:Type} {R:γ→β→Prop} {f:α→γ} : ∀ {x:List α} {y:List β},All2 (fun a b=>R (f a) b) x y→All2 R (x.map f) y
 | _,_,.nil=>.nil
 | _,_,.cons h t=>.cons h (zFF t)
theorem Dt.struct {P:Program} {k:Nat} {t:TypeId} {ts:List TypeId} {pvs:List PV} (hf:vh P t=some ts) (h:Dt P k t pvs) : ∃k',k=k'+1∧∃pss:List (List PV),pvs=pss.flatten∧All2 (fun t ps=>Dt P k' t ps) ts pss:=by
 cases k with
 | zero=>simp only[Dt]at h
 | succ k =>
  unfold vh at hf
  split at hf
  ·rename_i fs hu;simp only[Dt,hu]at h;obtain⟨pss,h1,h2⟩:=h;simp only[Option.some.injEq]at hf;subst hf;exact⟨k,rfl,pss,h1,zFF (R:=fun t ps=>Dt P k t ps) h2⟩
  ·cases hf
theorem Dt.slice {P:Program} {k:Nat} {t e:TypeId} {pvs:List PV} (hu:P.underlying t=some (.slice e)) (h:Dt P k t pvs) : ∃k',k=k'+1∧∃rows,pvs=[.sl rows false]∧rows.length≤maxLen∧∀r∈rows,Dt P k' e r:=by
 cases k with
 | zero=>simp only[Dt]at h
 | succ k =>
  simp only[Dt,hu]at h;exact⟨k,rfl,h⟩
theorem Dt.int {P:Program} {k:Nat} {t:TypeId} {kd:IntKind} {pvs:List PV} (hu:P.underlying t=some (.int kd)) (h:Dt P k t pvs) : ∃n,(Lit.int kd n).wf=true∧pvs=[.int kd n]:=by
 cases k with
 | zero=>simp only[Dt]at h
 | succ k=>simpa only[Dt,hu] using h
theorem Dt.bool {P:Program} {k:Nat} {t:TypeId} {pvs:List PV} (hu:P.underlying t=some .bool) (h:Dt P k t pvs) : ∃b,pvs=[.bool b]:=by
 cases k with
 | zero=>simp only[Dt]at h
 | succ k=>simpa only[Dt,hu] using h
theorem Dt.str {P:Program} {k:Nat} {t:TypeId} {pvs:List PV} (hu:P.underlying t=some .string) (h:Dt P k t pvs) : ∃s:ByteArray,s.size≤maxLen∧pvs=[.str s]:=by
 cases k with
 | zero=>simp only[Dt]at h
 | succ k=>simpa only[Dt,hu] using h
theorem All2.inv {α β:Type} {R:α→β→Prop} {a:α} {x:List α} {y:List β} (h:All2 R (a::x) y) : ∃b z,y=b::z∧R a b∧All2 R x z:=by
 cases h with
 | cons h t=>exact⟨_,_,rfl,h,t⟩
theorem All2.inv0 {α β:Type} {R:α→β→Prop} {y:List β} (h:All2 R [] y):y=[]:=by cases h;rfl
theorem uv {α:Type} {P:List PV→Prop} {Q:α→Prop} {f:α→List PV} (h : ∀r,P r→∃a,Q a∧r=f a) : ∀rows:List (List PV),(∀r∈rows,P r)→∃l:List α,(∀a∈l,Q a)∧rows=l.map f
 | [],_=>⟨[],by simp,rfl⟩
 | r::rows,hr=>by
  obtain⟨a,h1,h2⟩:=h r (hr r (by simp));obtain⟨l,h3,h4⟩:=uv h rows fun x hx=>hr x (by simp[hx]);exact⟨a::l,by simpa using ⟨h1,h3⟩,by simp[h2,h4]⟩
theorem zPu {n:Int} (h:(Lit.int .u32 n).wf=true):0≤n∧n≤4294967295:=by
 simpa [Lit.wf,IntKind.min,IntKind.max,IntKind.signed,IntKind.bits] using h
section
variable {P:Program} {k:Nat} {t:TypeId} {pv:PV} {pvs:List PV}
theorem Arg.str (hu:P.underlying t=some .string) (h:Arg P k t pv) : ∃s:ByteArray,s.size≤maxLen∧pv=.str s:=by
 simp only[Arg,hu]at h;cases k with
 | zero=>simp only[Dt]at h
 | succ k =>
  simp only[Dt,hu]at h;obtain⟨s,h1,h2⟩:=h;exact⟨s,h1,by simpa using h2⟩
theorem Arg.int {kd:IntKind} (hu:P.underlying t=some (.int kd)) (h:Arg P k t pv) : ∃n,(Lit.int kd n).wf=true∧pv=.int kd n:=by
 simp only[Arg,hu]at h;cases k with
 | zero=>simp only[Dt]at h
 | succ k =>
  simp only[Dt,hu]at h;obtain⟨s,h1,h2⟩:=h;exact⟨s,h1,by simpa using h2⟩
theorem zBH.nil_inv (h:zBH P [] pvs):pvs=[]:=by cases h;rfl
theorem zBH.cons_inv {ts:List TypeId} (h:zBH P (t::ts) pvs) : ∃pv r k,pvs=pv::r∧Arg P k t pv∧zBH P ts r:=by
 cases h with
 | cons h r =>
  obtain⟨k,h⟩:=h;exact⟨_,_,k,rfl,h,r⟩
end
theorem zPv:Tryz.prog.underlying 25=some (.slice 126):=by kernel_rfl
theorem zNy:Tryz.prog.underlying 126=some (.int .u32):=by kernel_rfl
theorem zC2:Tryz.prog.underlying 9=some .string:=by kernel_rfl
theorem zFG:Tryz.prog.underlying 4=some .bool:=by kernel_rfl
theorem zPw:Tryz.prog.underlying 45=some (.slice 9):=by kernel_rfl
theorem zLy:Tryz.prog.underlying 35=some (.slice 98):=by kernel_rfl
theorem zLz:vh Tryz.prog 27=some [4,25,25]:=by kernel_rfl
theorem zNz:vh Tryz.prog 98=some [9,27]:=by kernel_rfl
theorem zMA:vh Tryz.prog 47=some [4,45]:=by kernel_rfl
theorem zPx {l:List Int} (h : ∀w∈l,0≤w∧w≤4294967295):OkD WB l:=fun w hw=>by
 have:=h w hw;exact⟨this.1,by show w<4294967296;omega⟩
theorem Dt.wordsK {k:Nat} {pvs:List PV} (h:Dt Tryz.prog k 25 pvs) : ∃l:List Int,l.length≤maxLen∧OkD WB l∧pvs=[.sl (zE .u32 l) false]:=by
 obtain⟨k',rfl,rows,rfl,h1,h2⟩:=h.slice zPv;obtain⟨l,h3,h4⟩:=uv (Q:=fun w=>0≤w∧w≤4294967295) (f:=fun w:Int=>[.int .u32 w]) (fun r hr=>by
  obtain⟨n,h5,h6⟩:=Dt.int zNy hr;exact⟨n,zPu h5,h6⟩) rows h2
 subst h4;exact⟨l,by simpa using h1,zPx h3,rfl⟩
theorem Dt.rat {k:Nat} {pvs:List PV} (h:Dt Tryz.prog k 27 pvs) : ∃v:RV,v.ok∧pvs=v.cells:=by
 obtain⟨k',rfl,pss,rfl,h1⟩:=h.struct zLz;obtain⟨p1,r1,rfl,a1,h2⟩:=h1.inv;obtain⟨p2,r2,rfl,a2,h3⟩:=h2.inv;obtain⟨p3,r3,rfl,a3,h4⟩:=h3.inv;cases h4.inv0;obtain⟨b,rfl⟩:=Dt.bool zFG a1;obtain⟨N,n1,n2,rfl⟩:=Dt.wordsK a2;obtain⟨D,d1,d2,rfl⟩:=Dt.wordsK a3;exact⟨⟨b,N,D⟩,⟨n2,d2,n1,d1⟩,rfl⟩
theorem Dt.bind {k:Nat} {pvs:List PV} (h:Dt Tryz.prog k 98 pvs) : ∃b:Bd,b.ok∧pvs=b.cells:=by
 obtain⟨k',rfl,pss,rfl,h1⟩:=h.struct zNz;obtain⟨p1,r1,rfl,a1,h2⟩:=h1.inv;obtain⟨p2,r2,rfl,a2,h3⟩:=h2.inv;cases h3.inv0;obtain⟨s,s1,rfl⟩:=Dt.str zC2 a1;obtain⟨v,v1,rfl⟩:=Dt.rat a2;exact⟨⟨s,v⟩,⟨s1,v1⟩,rfl⟩
theorem Arg.rat {k:Nat} {pv:PV} (h:Arg Tryz.prog k 27 pv) : ∃v:RV,v.ok∧pv=.agg v.cells:=by
 have hf:=zLz;unfold vh at hf
 split at hf
 ·rename_i fs hu;simp only[Arg,hu]at h;obtain⟨cells,rfl,h⟩:=h;obtain⟨n,h1,h2⟩:=Dt.rat h;exact⟨n,h1,by rw[h2]⟩
 ·cases hf
theorem Arg.names {k:Nat} {pv:PV} (h:Arg Tryz.prog k 47 pv) : ∃(al:Bool) (l:List ByteArray),zLt l∧pv=.agg [.bool al,.sl (zPt l) false]:=by
 have hf:=zMA;unfold vh at hf
 split at hf
 ·rename_i fs hu;simp only[Arg,hu]at h;obtain⟨cells,rfl,h⟩:=h;obtain⟨k',rfl,pss,rfl,h1⟩:=Dt.struct zMA h;obtain⟨p1,r1,rfl,a1,h2⟩:=h1.inv;obtain⟨p2,r2,rfl,a2,h3⟩:=h2.inv;cases h3.inv0;obtain⟨b,rfl⟩:=Dt.bool zFG a1;obtain⟨k',rfl,rows,rfl,g1,g2⟩:=Dt.slice zPw a2;obtain⟨l,g3,g4⟩:=uv (Q:=fun s:ByteArray=>s.size≤maxLen) (f:=fun s:ByteArray=>[.str s]) (fun r hr=>Dt.str zC2 hr) rows g2;subst g4;exact⟨b,l,g3,rfl⟩
 ·cases hf
theorem Arg.state {k:Nat} {pv:PV} (h:Arg Tryz.prog k 35 pv) : ∃L:List Bd,L.length≤maxLen∧WZ L∧pv=.sl (yC L) false:=by
 simp only[Arg,zLy]at h;obtain⟨k',rfl,rows,h0,h1,h2⟩:=h.slice zLy;obtain⟨l,h3,h4⟩:=uv (Q:=Bd.ok) (f:=Bd.cells) (fun r hr=>Dt.bind hr) rows h2;subst h4;exact⟨l,by simpa using h1,h3,by simpa [yC] using h0⟩
end Go.Vs
end
section
namespace Go.Vs
open Go Go.RowKit Go.Proofs
mutual
def pvB:PV→Nat
 | .sl rows _=>ZC rows+1
 | .agg ps=>uw ps
 | .str s=>s.size+1
 | _=>1
def uw:List PV→Nat
 | []=>0
 | p::r=>pvB p+uw r
def ZC:List (List PV)→Nat
 | []=>0
 | p::r=>uw p+ZC r
end
theorem V7 : ∀a b:List PV,uw (a++b)=uw a+uw b
 | [],b=>by simp[uw]
 | x::a,b=>by simp[uw,V7 a b,HO]
open Go.Proofs.YtkaeejkajfinhaaGreat.Rows
section
variable {H:Type}
theorem Ud {P:Program} {w:World} {k:Nat} {cs:List Value} : ∀(fs:List Field) (xs:List (DataW H × List MemPlace)) (o:Nat),Qs P o fs=true→o+Yv P fs=cs.length→xs.length=fs.length →
  (∀(i:Nat) (f:Field),fs[i]? = some f→∃b,xs[i]? = some b∧∃ps,Dt P k f.type ps∧Rel w ps ((cs.drop f.offset).take (P.cellsOf f.type))∧uw ps≤uptoBulk b.1) →
  ∃pss:List (List PV),All2 (fun (f:Field) ps=>Dt P k f.type ps) fs pss∧Rel w pss.flatten (cs.drop o)∧uw pss.flatten≤uptoBulkAll (xs.map (·.1))
 | [],[],o,_,hl,_,_=>⟨[],.nil,by
  simp only[Yv]at hl;rw[bU (by omega)];exact Rel.nil,by simp[uw,uptoBulkAll]⟩
 | f::r,x::xs,o,ht,hl,hx,h=>by
  simp only[Qs,bP,beq_iff_eq]at ht;simp only[Yv]at hl;obtain⟨b,hb,ps,h1,h2,h2'⟩:=h 0 f rfl;simp only[SU,Option.some.injEq]at hb;subst hb;obtain⟨pss,h3,h4,h5⟩:=Ud (cs:=cs) r xs (o+P.cellsOf f.type) ht.2 (by omega) (by simpa using hx) fun i g hg=>by
   have:=h (i+1) g (by simpa using hg)
   simpa using this
  refine⟨ps::pss,.cons h1 h3,?_,?_⟩
  ·have e:cs.drop o=(cs.drop f.offset).take (P.cellsOf f.type)++cs.drop (o+P.cellsOf f.type):=by
    rw[ht.1,←List.drop_drop,HR]
   rw[e,List.flatten_cons];exact h2.app h4
  ·rw[List.flatten_cons,V7,sD];simp only[uptoBulkAll];omega
 | [],_::_,_,_,_,hx,_=>by simp at hx
 | _::_,[],_,_,_,hx,_=>by simp at hx
theorem zAc {n:Nat} {g:Nat→List PV} : ∀ {l:List (DataW H × List MemPlace)} (o:Nat),(∀i b,l[i]? = some b→uw (g (o+i))≤uptoBulk b.1)→ZC ((List.range' o l.length).map g)≤uptoBulkAll (l.map (·.1))
 | [],o,_=>by simp[ZC]
 | x::l,o,h=>by
  have h0:=h 0 x rfl;have h1:=zAc (n:=n) (g:=g) (l:=l) (o+1) fun i b hb=>by
   have:=h (i+1) b (by simpa using hb);rw[show o+(i+1)=o+1+i by omega]at this;exact this
  simp only[bL,List.range'_succ,sD,ZC,uptoBulkAll];simp only[aT]at h0;omega
theorem zJt {enc:TypeId × Value→H} {P:Program} {w:World} {base:Nat} {sp:Nat→Bool} {held:Bool} {L:List TypeId} (hL:YL P L=true) : ∀(fuel:Nat) {t:TypeId} {cs:List Value} {x:DataW H × List MemPlace},t∈L →
  DataW.trod enc P w base sp held fuel t cs=some x→∃pvs,Dt P fuel t pvs∧Rel w pvs cs∧uw pvs≤uptoBulk x.1:=by
 intro fuel
 induction fuel with
 | zero=>intro t cs x _ h;cases h
 | succ k ih =>
  intro t cs x ht h;have hc:=(pH.1 hL) t ht;unfold DataW.trod at h;simp only[Dt]
  cases hu:P.underlying t with
  | none=>rw[hu]at hc;cases hc
  | some d =>
   rw[hu]at hc h
   cases d <;> simp only[reduceCtorEq,bZ]at hc
   case bool =>
    split at h <;> try (first | (cases h;done) | (rename_i hq;cases hq;done))
    rename_i hq;cases hq;cases h;exact⟨_,⟨_,rfl⟩,.one (.bool _),by simp[uw,pvB,uptoBulk]⟩
   case int kd =>
    split at h <;> try (first | (cases h;done) | (rename_i hq;cases hq;done))
    rename_i hq;cases hq
    split at h
    ·rename_i hw;obtain⟨rfl,hw⟩:=hw;cases h;exact⟨_,⟨_,hw,rfl⟩,.one (.int _ _),by simp[uw,pvB,uptoBulk]⟩
    ·cases h
   case string =>
    split at h <;> try (first | (cases h;done) | (rename_i hq;cases hq;done))
    rename_i hq;cases hq
    split at h
    ·rename_i hw;cases h;exact⟨_,⟨_,hw,rfl⟩,.one (.str _),by
      simp only[uw,pvB,uptoBulk,aO];exact bF _⟩
    ·cases h
   case slice e =>
    simp only[bP,SE,beq_iff_eq]at hc
    split at h <;> try (first | (cases h;done) | (rename_i hq;cases hq;done))
    ·have key:=FR.sl (w:=w) (av:=Vm) [] false none 0 default 0 (fun _ _=>Go.undef) (bF _) (by simp) (fun _=>rfl) (fun h=>absurd rfl h) (by simp) (by simp) (by simp);cases h;exact⟨_,⟨[],rfl,by simp,by simp⟩,.one key,by simp[uw,pvB,ZC,uptoBulk]⟩
    ·rename_i e0 a len cap hq;cases hq
     split at h
     case isFalse=>cases h
     rename_i hcap;obtain⟨elems,h2,h2'⟩:=bind_some h;obtain⟨h3,h4⟩:=YM h2;rw[SV]at h3;have each : ∀i,i<len→∃ps,Dt P k e ps∧ps.length=P.cellsOf e∧(∀j pv,ps[j]? = some pv→∃u,w.cell? (a.add (i*P.cellsOf e+j))=some u∧FR w Vm pv u)∧∀b,elems[i]? = some b→uw ps≤uptoBulk b.1:=by
      intro i hi;obtain⟨b,hb,hb'⟩:=h4 i i (by simp[hi]);obtain⟨cs,hcs,hb⟩:=bind_some hb;obtain⟨ps,p1,p2,p3⟩:=ih hc.1 hb;unfold World.cells? at hcs
      split at hcs
      ·obtain⟨q1,q2⟩:=YM hcs;rw[SV]at q1;refine⟨ps,p1,by rw[p2.1,q1],fun j pv hj=>?_,fun b' hb2=>?_⟩
       ·have hjl:=(bS.1 hj).1;rw[p2.1,q1]at hjl;obtain⟨u,hu1,hu2⟩:=q2 j j (by simp[hjl]);rw[Wc]at hu1;exact⟨u,hu1,p2.2 j pv u hj hu2⟩
       ·rw[hb']at hb2;cases hb2;exact p3
      ·cases hcs
     have pick : ∀i:Nat,∃ps:List PV,i<len→Dt P k e ps∧ps.length=P.cellsOf e∧(∀j pv,ps[j]? = some pv→∃u,w.cell? (a.add (i*P.cellsOf e+j))=some u∧FR w Vm pv u)∧∀b,elems[i]? = some b→uw ps≤uptoBulk b.1:=fun i=>by
      by_cases hi:i<len
      ·obtain⟨ps,hps⟩:=each i hi;exact⟨ps,fun _=>hps⟩
      ·exact⟨[],fun h=>absurd h hi⟩
     obtain⟨g,hg⟩:=Classical.axiomOfChoice pick;have hrows : ∀i row,((List.range len).map g)[i]? = some row→i<len∧row=g i:=fun i row hi=>by
      rw[sC]at hi;by_cases hlt:i<len
      ·rw[BG hlt]at hi;simp at hi;exact⟨hlt,hi.symm⟩
      ·rw[sE (by simpa using hlt)]at hi;cases hi
     have hlen:((List.range len).map g).length=len:=by simp
     have hbulk:ZC ((List.range len).map g)≤uptoBulkAll (elems.map (·.1)):=by
      rw[List.range_eq_range',←h3];refine zAc (n:=0) 0 fun i b hb=>?_;rw[pC];refine (hg i ?_).2.2.2 b hb;rw[←h3];exact (bS.1 hb).1
     obtain⟨rest,_,hx⟩:=map_some h2';refine⟨_,⟨(List.range len).map g,rfl,by rw[hlen];omega,fun row hrow=>?_⟩,?_,?_⟩
     ·obtain⟨i,hi⟩:=HJ hrow;obtain⟨hlt,rfl⟩:=hrows i row hi;exact (hg i hlt).1
     ·have key:=FR.sl (w:=w) (av:=Vm) ((List.range len).map g) false (some a) cap a (P.cellsOf e) (fun i j=>(w.cell? (a.add (i*P.cellsOf e+j))).getD Go.undef) (by rw[hlen];exact hcap.2.1) (by simp) (by simp) (fun _=>rfl)
       (fun row hrow=>by
        obtain⟨i,hi⟩:=HJ hrow;obtain⟨hlt,rfl⟩:=hrows i row hi;exact (hg i hlt).2.1)
       (fun i row j pv hi hj=>by
        obtain⟨hlt,rfl⟩:=hrows i row hi;obtain⟨u,u1,u2⟩:=(hg i hlt).2.2.1 j pv hj;rw[u1];exact⟨rfl,fun h=>h⟩)
       (fun i row j pv hi hj=>by
        obtain⟨hlt,rfl⟩:=hrows i row hi;obtain⟨u,u1,u2⟩:=(hg i hlt).2.2.1 j pv hj;simp only[u1,BM];exact u2)
      rw[hlen]at key;exact .one key
     ·subst hx;simp only[uw,pvB,uptoBulk];omega
   case struct fs =>
    simp only[bP,pH,SE,beq_iff_eq]at hc
    replace h:(if cs.length=P.cellsOf t then (fs.toList.mapM fun f=>DataW.trod enc P w base sp held k f.type ((cs.drop f.offset).take (P.cellsOf f.type))).map fun xs=>(.agg (xs.map (·.1)),xs.flatMap (·.2)) else none)=some x:=h
    split at h
    case isFalse=>cases h
    rename_i hlen;obtain⟨xs,h2,hx⟩:=map_some h;obtain⟨h3,h4⟩:=YM h2;obtain⟨pss,q1,q2,q3⟩:=Ud (P:=P) (w:=w) (k:=k) (cs:=cs) fs.toList xs 0 hc.1.1 (by rw[pC,hc.1.2,hlen]) h3 (fun i f hf=>by
     obtain⟨b,hb,hb'⟩:=h4 i f hf;exact⟨b,hb',ih (hc.2 f (pF hf)) hb⟩)
    subst hx;exact⟨_,⟨pss,rfl,q1⟩,by simpa using q2,by simp only[uptoBulk];omega⟩
theorem zOA {enc:TypeId × Value→H} {P:Program} {W:World} {base base':Nat} {sp:Nat→Bool} {held:Bool} {L:List TypeId} (hL:YL P L=true) {t:TypeId} (ht:t∈L) {v:Value} {d:DataW H} {p:List MemPlace}
  (hok:Value.okWide P W .any base' t v) (h:DataW.Trod enc P W base sp held t v d p) : ∃k pv,Arg P k t pv∧VR W Vm Z6 pv v∧pvB pv≤uptoBulk d:=by
 obtain⟨fuel,h⟩:=h;obtain⟨pvs,h1,h2,h3⟩:=zJt hL fuel ht h
 rcases zDJ hL ht hok with⟨fs,cs,hu,rfl⟩ | ⟨hu,hv⟩
 ·refine⟨fuel,.agg pvs,by unfold Arg;rw[hu];exact⟨pvs,rfl,h1⟩,.agg _ _ (by rw[h2.1];rfl) (fun j v hv=>?_) (fun j pv v hp hv=>.fr (h2.2 j pv v hp (by rw[←hv];exact sJ))),by simpa only[pvB] using h3⟩;have hlt:=(sW.1 hv).1;have hp:pvs[j]? = some (pvs[j]'(by rw[h2.1];exact hlt)):=pR _;exact FR.flat _ _ (h2.2 j _ v hp (by rw[←hv];exact sJ))
 ·rw[hv]at h2;obtain⟨pv,rfl⟩ : ∃pv,pvs=[pv]:=by
   have:=h2.1;cases pvs with
   | nil=>simp at this
   | cons a l=>cases l with
    | nil=>exact⟨a,rfl⟩
    | cons _ _=>simp at this
  refine⟨fuel,pv,?_,.fr (h2.2 0 pv v rfl rfl),by simpa [uw] using h3⟩;unfold Arg
  split
  ·rename_i fs hq;exact absurd hq (hu fs)
  ·exact h1
theorem zFH {enc:TypeId × Value→H} {P:Program} {W:World} {base base':Nat} {sp:Nat→Bool} {held:Bool} {L:List TypeId} (hL:YL P L=true) : ∀ {ts:List TypeId} {vs:List Value} {ds:List (DataW H)} {p:List MemPlace},(∀t∈ts,t∈L) →
  (∀(j:Nat) (t:TypeId) (v:Value),ts[j]? = some t→vs[j]? = some v→Value.okWide P W .any base' t v)→DataW.TrodAll enc P W base sp held ts vs ds p →
  ∃pvs,zBH P ts pvs∧pvs.length=vs.length∧(∀(j:Nat) (pv:PV) (v:Value),pvs[j]? = some pv→vs[j]? = some v→VR W Vm Z6 pv v)∧uw pvs≤uptoBulkAll ds
 | [],[],[],_,_,_,_=>⟨[],.nil,rfl,by simp,by simp[uw,uptoBulkAll]⟩
 | t::ts,v::vs,d::ds,_,hsub,hok,⟨p,q,h1,h2,_⟩=>by
  obtain⟨k,pv,a1,a2,a3⟩:=zOA hL (hsub t (by simp)) (hok 0 t v rfl rfl) h1;obtain⟨pvs,b1,b2,b3,b4⟩:=zFH hL (fun t ht=>hsub t (by simp[ht])) (fun j t v h1 h2=>hok (j+1) t v h1 h2) h2;refine⟨pv::pvs,.cons ⟨k,a1⟩ b1,by simp[b2],fun j pv' v' hp hv=>?_,by simp only[uw,uptoBulkAll];omega⟩;cases j with
  | zero=>simp at hp hv;subst hp;subst hv;exact a2
  | succ j=>simp at hp hv;exact b3 j pv' v' hp hv
 | [],[],_::_,_,_,_,h=>h.elim
 | [],_::_,_,_,_,_,h=>h.elim
 | _::_,[],_,_,_,_,h=>h.elim
 | _::_,_::_,[],_,_,_,h=>h.elim
theorem zHR {P:Program} {Hn:Hints} (hm:P.follows .mixedOrders=true) (hO:U0 P Hn) {f:FuncId} {ts:List TypeId} {n:Nat} (law : ∀pvs,zBH P ts pvs→uw pvs≤n→∃n,ZL P Hn n f pvs=some (.bool true)) {L:List TypeId} (hL:YL P L=true) (hsub : ∀t∈ts,t∈L)
  {enc:TypeId × Value→H} {W:World} {base base':Nat} {sp:Nat→Bool} {held:Bool} {args:Array Value} {ds:List (DataW H)} {p:List MemPlace} (hn:uptoBulkAll ds≤n)
  (hok : ∀(j:Nat) (t:TypeId) (v:Value),ts[j]? = some t→args[j]? = some v→Value.okWide P W .any base' t v) (h:DataW.TrodAll enc P W base sp held ts args.toList ds p) :
  Calls P f args W fun e W'=>e=.returned (.bool true)∧Below W.heap.size W W':=by
 obtain⟨pvs,a1,a2,a3,a4⟩:=zFH hL hsub (fun j t v h1 h2=>hok j t v h1 (by rw[←sJ];exact h2)) h;obtain⟨n,hn⟩:=law pvs a1 (by omega);obtain⟨fn,c,e1,e2,e3,e4⟩:=U1 hm hO n f pvs _ hn;refine (e4 W Vm args (fun b h=>h.elim) (by rw[a2];exact aO) (fun j pv v hp hv=>a3 j pv v hp (by rw[sJ];exact hv))).mono ?_
 rintro e w' ⟨v,rfl,hg,hv⟩
 exact⟨by rw[hv.bool_inv],Grown.below hg⟩
end
end Go.Vs
end
section
namespace Go.Vs
open Go Go.Proofs
theorem zOB:Tryz.prog.underlying 3=some (.int .i64):=by kernel_rfl
theorem zIT:Tryz.prog.underlying 28=some (.slice 30):=by kernel_rfl
theorem zIU:Tryz.prog.underlying 22=some (.slice 69):=by kernel_rfl
theorem zOb:vh Tryz.prog 30=some [3,9,27,28]:=by kernel_rfl
theorem zOC:vh Tryz.prog 69=some [30,30,28]:=by kernel_rfl
theorem zPy {n:Int} (h:(Lit.int .i64 n).wf=true) : -9223372036854775808≤n∧n≤9223372036854775807:=by
 simpa [Lit.wf,IntKind.min,IntKind.max,IntKind.signed,IntKind.bits] using h
theorem Dt.node : ∀(k:Nat) {pvs:List PV},Dt Tryz.prog k 30 pvs→∃n:Node,n.ok∧pvs=n.cells:=by
 intro k
 induction k using Nat.strongRecOn with
 | ind k ih =>
  intro pvs h;obtain⟨k1,rfl,pss,rfl,s0⟩:=h.struct zOb;obtain⟨p1,z1,rfl,h1,s1⟩:=s0.inv;obtain⟨p2,z2,rfl,h2,s2⟩:=s1.inv;obtain⟨p3,z3,rfl,h3,s3⟩:=s2.inv;obtain⟨p4,z4,rfl,h4,s4⟩:=s3.inv;obtain rfl:=s4.inv0;obtain⟨a,ha,rfl⟩:=h1.int zOB;obtain⟨b,hb,rfl⟩:=h2.str zC2;obtain⟨v,hv,rfl⟩:=h3.rat;obtain⟨k3,hk3,rows,rfl,h5,h6⟩:=h4.slice zIT;obtain⟨f,h7,rfl⟩:=uv (Q:=Node.ok) (f:=Node.cells) (fun r hr=>ih k3 (by omega) hr) rows h6;refine⟨.mk a b v.neg v.num v.den f,⟨zPy ha,hb,hv,by simpa using h5,Node.oks_iff.2 h7⟩,?_⟩;simp[Node.cells,Node.rows_eq,RV.cells]
theorem Arg.node {k:Nat} {pv:PV} (h:Arg Tryz.prog k 30 pv) : ∃n:Node,n.ok∧pv=.agg n.cells:=by
 have hf:=zOb;unfold vh at hf
 split at hf
 ·rename_i fs hu;simp only[Arg,hu]at h;obtain⟨cells,rfl,h⟩:=h;obtain⟨n,h1,h2⟩:=Dt.node k h;exact⟨n,h1,by rw[h2]⟩
 ·cases hf
theorem Dt.pair {k:Nat} {pvs:List PV} (h:Dt Tryz.prog k 69 pvs) : ∃p:Pr,p.ok∧pvs=p.cells:=by
 obtain⟨k1,rfl,pss,rfl,s0⟩:=h.struct zOC;obtain⟨p1,z1,rfl,h1,s1⟩:=s0.inv;obtain⟨p2,z2,rfl,h2,s2⟩:=s1.inv;obtain⟨p3,z3,rfl,h3,s3⟩:=s2.inv;obtain rfl:=s3.inv0;obtain⟨a,ha,rfl⟩:=Dt.node _ h1;obtain⟨b,hb,rfl⟩:=Dt.node _ h2;obtain⟨k3,hk3,rows,rfl,h5,h6⟩:=h3.slice zIT;obtain⟨f,h7,rfl⟩:=uv (Q:=Node.ok) (f:=Node.cells) (fun r hr=>Dt.node _ hr) rows h6;exact⟨⟨a,b,f⟩,⟨ha,hb,by simpa using h5⟩,by simp[Pr.cells,Node.rows_eq]⟩
theorem Arg.prs {k:Nat} {pv:PV} (h:Arg Tryz.prog k 22 pv) : ∃I:List Pr,I.length≤maxLen∧(∀p∈I,p.ok)∧pv=.sl (zS I) false:=by
 simp only[Arg,zIU]at h;obtain⟨k',rfl,rows,h0,h1,h2⟩:=h.slice zIU;obtain⟨l,h3,rfl⟩:=uv (Q:=Pr.ok) (f:=Pr.cells) (fun r hr=>Dt.pair hr) rows h2;exact⟨l,by simpa using h1,h3,by simpa [zS] using h0⟩
mutual
theorem ZD : ∀n:Node,n.count≤uw n.cells
 | .mk a b c d e f=>by
  have:=Ue f;simp only[Node.count,Node.cells,uw,pvB];omega
theorem Ue : ∀l:List Node,Node.counts l≤ZC (Node.rows l)
 | []=>by simp[Node.counts,Node.rows,ZC]
 | x::l=>by
  have h1:=ZD x;have h2:=Ue l;simp only[Node.counts,Node.rows,ZC];omega
end
theorem zFI : ∀(I:List Pr),∀p∈I,p.wth.count≤ZC (zS I)∧p.what.count≤ZC (zS I)
 | []=>by simp
 | q::I=>by
  intro p hp;have e:ZC (zS (q::I))=uw q.cells+ZC (zS I):=by simp[zS,ZC]
  rw[e]
  rcases aF.1 hp with rfl | hp
  ·have h1:=ZD p.what;have h2:=ZD p.wth;have e2:uw p.cells=uw p.what.cells+(uw p.wth.cells+uw [.sl (Node.rows p.rates) false]):=by rw[Pr.cells,V7,V7]
   omega
  ·have:=zFI I p hp;omega
section
attribute [local irreducible] Vs.callL Vs.callRL tyi zO zn zg zR zY za zI zZ zA zK ze zX zG zJ zW zr yJ zq zL zf Vs.gc zH
theorem Xe (S:zB):zO (callL Tryz.prog zD) S 8 []=some {v:=.bool true} := zF zNv (by simp)
end
end Go.Vs
end

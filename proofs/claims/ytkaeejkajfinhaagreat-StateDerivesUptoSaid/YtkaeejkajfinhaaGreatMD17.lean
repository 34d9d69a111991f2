import Derived.Laws.Strings
import Derived.Test.YtkaeejkajfinhaaGreatMD14
import Derived.Test.YtkaeejkajfinhaaGreatMD16
set_option linter.unusedVariables false
set_option linter.unusedSimpArgs false
set_option maxRecDepth 100000
namespace Go.Vs
open Go Go.Proofs
def zv (n:Int):Int:=if 1≤n∧n≤13 then 1 else if 20≤n∧n≤39 then 2 else if n=55∨n=56 then 4 else if 50≤n∧n≤62 then 3 else 0
mutual
def Node.size:Node→Int
 | .mk _ _ _ _ _ f=>Node.sizes 1 f
def Node.sizes:Int→List Node→Int
 | a,[]=>a
 | a,n::r=>Node.sizes (IntKind.i64.wrap (a+n.size)) r
end
mutual
def Node.levels:Node→Int
 | .mk _ _ _ _ _ f=>IntKind.i64.wrap (Node.most 0 f+1)
def Node.most:Int→List Node→Int
 | a,[]=>a
 | a,n::r=>Node.most (if a<n.levels then n.levels else a) r
end
theorem Node.size_eq (n:Node):Node.sizes 1 n.kids=n.size:=by cases n;rfl
theorem Node.levels_eq (n:Node):IntKind.i64.wrap (Node.most 0 n.kids+1)=n.levels:=by cases n;rfl
def WX (b:Bool):Int:=if b=true then -1 else 1
def qz (x y:Int):Int:=if x≠0 then x else y
def UA (a b:ByteArray):Int:=if a.toList≠b.toList then WX (Op.bytesLess a.toList b.toList) else 0
def UB (a b:Bool):Int:=if a≠b then WX b else 0
def jU (a b:List Int):Nat→Int
 | 0=>0
 | m+1=>qz (ul (a.getD m 0) (b.getD m 0)) (jU a b m)
def wM (a b:List Int):Int:=qz (ul a.length b.length) (jU a b a.length)
mutual
def Node.cmp:Node→Node→Int
 | .mk a b c d e f,m=>qz (ul a m.op) (qz (UA b m.name) (qz (UB c m.neg) (qz (wM d m.num) (qz (wM e m.den) (qz (ul f.length m.kids.length) (Node.cmps f m.kids))))))
def Node.cmps:List Node→List Node→Int
 | [],_=>0
 | _::_,[]=>0
 | n::r,m::s=>qz (n.cmp m) (Node.cmps r s)
end
theorem Node.cmp_eq (n m:Node):n.cmp m=qz (ul n.op m.op) (qz (UA n.name m.name) (qz (UB n.neg m.neg) (qz (wM n.num m.num) (qz (wM n.den m.den) (qz (ul n.kids.length m.kids.length) (Node.cmps n.kids m.kids)))))):=by cases n;rfl
def JP (l:List Int):Bool:=decide (l.length=0)||decide (l.getD (l.length-1) 0≠0)
def vt (neg:Bool) (num den:List Int):Bool := !neg&&(decide (den.length=1)&&(decide (den.getD 0 0=1)&&(decide (num.length≤20)&&JP num)))
def VL (o:Int):Bool:=decide (o=20)||decide (o=21)||decide (22≤o∧o≤27)||decide (o=37)||decide (o=38)
mutual
def Node.diff:Node→Bool
 | .mk o _ _ _ _ f=>VL o||((decide (o=29)||decide (o=30))&&Node.diffs f)
def Node.diffs:List Node→Bool
 | []=>true
 | n::r=>n.diff&&Node.diffs r
end
theorem Node.diff_eq (n:Node):n.diff=(VL n.op||((decide (n.op=29)||decide (n.op=30))&&Node.diffs n.kids)):=by cases n;rfl
def zP (o:Int):List Int :=
 if o=4∨o=12 then [1] else if o=59∨o=60 then [3] else if o=53∨o=28∨o=39 then [2] else
 if (5≤o∧o≤9)∨(22≤o∧o≤27) then [1,1] else if 29≤o∧o≤32 then [2,2] else if o=33∨o=34 then [2] else
 if o=35∨o=36 then [3,2] else if o=50∨o=51∨o=55 then [1] else if o=57∨o=58 then [3,3] else []
def yS (o:Int):Bool:=decide (o=2∨o=3∨o=11∨o=33∨o=34∨o=38∨o=50∨o=51∨o=52∨o=55∨o=56∨o=61∨o=62)
theorem Xy {o:Int} (h1:o≠4∧o≠12∧o≠59∧o≠60∧o≠53∧o≠28∧o≠39) (h2 : ¬(5≤o∧o≤9)∧¬(22≤o∧o≤27)∧¬(29≤o∧o≤36)) (h3 : ¬(50≤o∧o≤51)∧o≠55∧o≠57∧o≠58):zP o=[]:=by
 unfold zP
 repeat' (refine zRS (fun _=>?_) (fun _=>?_))
 all_goals first | rfl | (exfalso;omega)
mutual
def Node.within:Node→Int→Int→Bool × Int
 | .mk _ _ _ _ _ f,left,lv=>if left-1<0∨lv≤0 then (false,left-1) else Node.withins f (left-1) (lv-1)
def Node.withins:List Node→Int→Int→Bool × Int
 | [],left,_=>(true,left)
 | n::r,left,lv=>if (n.within left lv).1=true then Node.withins r (n.within left lv).2 lv else (false,(n.within left lv).2)
end
theorem Node.within_eq (n:Node) (left lv:Int):n.within left lv=if left-1<0∨lv≤0 then (false,left-1) else Node.withins n.kids (left-1) (lv-1):=by cases n;rfl
theorem zBf {l:List Node} {i:Nat} (h:i<l.length) (left lv:Int):Node.withins (l.drop i) left lv=if ((l.getD i nd0).within left lv).1=true then Node.withins (l.drop (i+1)) ((l.getD i nd0).within left lv).2 lv else (false,((l.getD i nd0).within left lv).2):=by
 rw[xO h];rfl
mutual
theorem Y3 : ∀(n:Node) (left lv:Int),0≤left→(n.within left lv).2≤left ∧ -1≤(n.within left lv).2∧((n.within left lv).1=true→0≤(n.within left lv).2)
 | .mk a b c d e f,left,lv,h=>by
  simp only[Node.within]
  split
  ·refine⟨by simp only;omega,by simp only;omega,fun h=>by cases h⟩
  ·have:=Xz f (left-1) (lv-1) (by omega);exact⟨by omega,this.2.1,this.2.2⟩
theorem Xz : ∀(l:List Node) (left lv:Int),0≤left→(Node.withins l left lv).2≤left ∧ -1≤(Node.withins l left lv).2∧((Node.withins l left lv).1=true→0≤(Node.withins l left lv).2)
 | [],left,lv,h=>by simp only[Node.withins];exact⟨by omega,by omega,fun _=>h⟩
 | n::r,left,lv,h=>by
  have h1:=Y3 n left lv h;simp only[Node.withins]
  split
  ·rename_i hok;have:=Xz r (n.within left lv).2 lv (h1.2.2 hok);exact⟨by omega,this.2.1,this.2.2⟩
  ·exact⟨h1.1,h1.2.1,fun h=>by cases h⟩
end
mutual
def Node.count:Node→Nat
 | .mk _ _ _ _ _ f=>Node.counts f+1
def Node.counts:List Node→Nat
 | []=>0
 | n::r=>n.count+Node.counts r
end
mutual
def Node.depth:Node→Nat
 | .mk _ _ _ _ _ f=>Node.depths f+1
def Node.depths:List Node→Nat
 | []=>0
 | n::r=>max n.depth (Node.depths r)
end
mutual
theorem JQ : ∀(n:Node) (left lv:Int),0≤left→0≤lv→((n.within left lv).1=true↔(n.count:Int)≤left∧(n.depth:Int)≤lv)∧((n.within left lv).1=true→(n.within left lv).2=left-n.count)
 | .mk a b c d e f,left,lv,h,hl=>by
  simp only[Node.within,Node.count,Node.depth]
  split
  ·rename_i hc;refine⟨⟨(fun h=>by cases h),fun h=>?_⟩,fun h=>by cases h⟩
   exfalso;omega
  ·rename_i hc;have h1:=U9 f (left-1) (lv-1) (by omega) (by omega);refine⟨h1.1.trans ?_,fun h=>?_⟩
   ·constructor <;> (intro h;omega)
   ·rw[h1.2 h];omega
theorem U9 : ∀(l:List Node) (left lv:Int),0≤left→0≤lv→((Node.withins l left lv).1=true↔(Node.counts l:Int)≤left∧(Node.depths l:Int)≤lv)∧((Node.withins l left lv).1=true→(Node.withins l left lv).2=left-Node.counts l)
 | [],left,lv,h,hl=>by
  simp only[Node.withins,Node.counts,Node.depths,true_iff];exact⟨⟨by omega,by omega⟩,fun _=>by omega⟩
 | n::r,left,lv,h,hl=>by
  have h1:=JQ n left lv h hl;simp only[Node.withins,Node.counts,Node.depths]
  split
  ·rename_i hok;have h2:=U9 r (n.within left lv).2 lv ((Y3 n left lv h).2.2 hok) hl;have h3:=h1.1.1 hok;have h4:=h1.2 hok;refine⟨h2.1.trans ?_,fun h=>?_⟩
   ·rw[h4];omega
   ·rw[h2.2 h,h4];omega
  ·rename_i hok;refine⟨⟨(fun h=>by cases h),fun h=>?_⟩,fun h=>by cases h⟩;exact absurd (h1.1.2 (by omega)) hok
end
def yd (s:ByteArray):Bool:=s.toList == (⟨#[]⟩:ByteArray).toList
def yU (o:Int) (m:Nat):List Int:=if o=10∨o=37 then List.replicate m 1 else if o=54 then List.replicate (m-1) 4++[2] else zP o
def xF (o:Int) (f:List Node):Bool :=
 if o=8 then decide ((f.getD 1 nd0).op=1)&&decide (0<(f.getD 1 nd0).num.length)
 else if o=9 then decide ((f.getD 1 nd0).op=1)&&(decide ((f.getD 1 nd0).num.length=0)||(decide ((f.getD 1 nd0).num.length=1)&&decide ((f.getD 1 nd0).num.getD 0 0≤20)))
 else true
def ve (k o:Node):Bool := !(decide (k.op=55)&&(o.name.toList == k.name.toList))
def zBg (f:List Node) (last i:Nat):Bool :=
 (decide ((f.getD i nd0).op=55)||(decide ((f.getD i nd0).op=56)&&decide (i=last-1)))&&(f.take i).all (ve (f.getD i nd0))
def uo (f:List Node) (last:Nat):Nat→Nat→Bool
 | 0,_=>true
 | m+1,i=>zBg f last i&&uo f last m (i+1)
def WY (f:List Node):Bool:=uo f (f.length-1) (f.length-1) 0
def uq (o:Int) (nm:ByteArray) (ng:Bool) (nu de:List Int):Bool :=
 (if o=1 then vt ng nu de else (!ng&&(decide (nu.length=0)&&decide (de.length=0)))) &&
 !((yS o && !yQ nm)||(!yS o&&(!yd nm&&(decide (o≠10)&&decide (o≠37)))))
def wU (o:Int) (nm:ByteArray) (f:List Node) (a b c:Bool):Bool :=
 if o=10∨o=37 then yQ nm&&decide (f.length≤1)
 else if o=54 then yd nm&&(decide (2≤f.length)&&WY f)
 else if o=3 then !(a||(b||c))
 else if o=12 then !(a||c)
 else if o=39 then !c&&(decide (f.length=1)&&(f.getD 0 nd0).diff)
 else true
mutual
def Node.formed:Node→Bool→Bool→Bool→Bool
 | .mk o nm ng nu de f,a,b,c=>uq o nm ng nu de&&(wU o nm f a b c&&(decide (f.length=(yU o f.length).length)&&(Node.formeds f (yU o f.length) (a||decide (o=12)) (b||decide (o=39)) (c||decide (o=54))&&xF o f)))
def Node.formeds:List Node→List Int→Bool→Bool→Bool→Bool
 | [],_,_,_,_=>true
 | n::r,s,a,b,c=>decide (zv n.op=s.getD 0 0)&&(n.formed a b c&&Node.formeds r s.tail a b c)
end
theorem Node.formed_eq (n:Node) (a b c:Bool):n.formed a b c=(uq n.op n.name n.neg n.num n.den&&(wU n.op n.name n.kids a b c&&(decide (n.kids.length=(yU n.op n.kids.length).length)&&(Node.formeds n.kids (yU n.op n.kids.length) (a||decide (n.op=12)) (b||decide (n.op=39)) (c||decide (n.op=54))&&xF n.op n.kids)))):=by cases n;rfl
theorem zBh {l:List Node} {i:Nat} (h:i<l.length) (s:List Int) (a b c:Bool):Node.formeds (l.drop i) (s.drop i) a b c=(decide (zv (l.getD i nd0).op=s.getD i 0)&&((l.getD i nd0).formed a b c&&Node.formeds (l.drop (i+1)) (s.drop (i+1)) a b c)):=by
 rw[xO h];simp only[Node.formeds,PP];have:(s.drop i).getD 0 0=s.getD i 0:=by simp[bM]
 rw[this]
def Node.rest (n:Node) (a b c:Bool):Bool:=wU n.op n.name n.kids a b c&&(decide (n.kids.length=(yU n.op n.kids.length).length)&&(Node.formeds n.kids (yU n.op n.kids.length) (a||decide (n.op=12)) (b||decide (n.op=39)) (c||decide (n.op=54))&&xF n.op n.kids))
theorem XH {l:List Node} {i j:Nat} (hj:j<i) (hi:i≤l.length):(l.take i).drop j=l.getD j nd0::(l.take i).drop (j+1):=by
 have h:j<(l.take i).length:=by simp;omega
 rw[xO h]
 congr 1
 simp[bM,HE,hj]
theorem zJR {l:List Node} {i j:Nat} (hj:j<i):(l.take i).getD j nd0=l.getD j nd0:=by
 simp[bM,HE,hj]
theorem zA2 : ∀(l:List Node),∀k∈l,k.count≤Node.counts l
 | [],k,h=>by cases h
 | n::r,k,h=>by
  simp only[Node.counts]
  rcases aF.1 h with rfl | h
  ·omega
  ·have:=zA2 r k h;omega
theorem zJS (n:Node):1≤n.count:=by cases n;simp[Node.count]
theorem JR : ∀(l:List Node),l.length≤Node.counts l
 | []=>by simp
 | n::r=>by
  have:=JR r;have:=zJS n;simp only[Node.counts,bL];omega
theorem JS (n:Node):n.count=Node.counts n.kids+1:=by cases n;rfl
def Node.small (n:Node):Bool:=decide (n.count≤4000)&&decide (n.depth≤60)
def Node.check (n:Node) (sort:Int):Int :=
 if sort<1∨3<sort then 1 else if n.small=false then 2 else if zv n.op≠sort then 80 else if n.formed false false false=false then 3 else 0
def ye (o:Int):Bool:=yS o||(decide (o=10)||decide (o=37))
theorem zEM {o:Int} (h:o≠2∧o≠3∧o≠10∧o≠11∧o≠33∧o≠34∧o≠37∧o≠38∧o≠50∧o≠51∧o≠52∧o≠55∧o≠56∧o≠61∧o≠62):ye o=false:=by
 have h1:yS o=false:=by simp only[yS,decide_eq_false_iff_not];omega
 rw[ye,h1,bI h.2.2.1,bI h.2.2.2.2.2.2.1];rfl
def uM (l:List Int):ByteArray:=⟨(l.map fun d=>UInt8.ofNat (48+d.toNat)).toArray⟩
def vg (num:List Int) (most:Int):Int:=if num.length=0 then 0 else if 1<num.length∨most<num.getD 0 0 then -1 else num.getD 0 0
mutual
def Node.primed:Node→Bool
 | .mk o _ _ _ _ f=>(decide (o=3)||(decide (o=12)||decide (o=39)))||Node.primeds f
def Node.primeds:List Node→Bool
 | []=>false
 | n::r=>n.primed||Node.primeds r
end
theorem Node.primed_eq (n:Node):n.primed=((decide (n.op=3)||(decide (n.op=12)||decide (n.op=39)))||Node.primeds n.kids):=by cases n;rfl
def yl (o:Int) (m:Nat):List Int:=if (o=10∨o=37)∧m=1 then [1] else zP o
def xM (o:Int) (f:List Node):Bool :=
 if o=8 then decide ((f.getD 1 nd0).op=1)&&decide (0<(f.getD 1 nd0).num.length)
 else if o=9 then decide ((f.getD 1 nd0).op=1)&&decide (0≤vg (f.getD 1 nd0).num 20)
 else if o=39 then (f.getD 0 nd0).diff
 else true
mutual
def Node.well:Node→Int→Bool→Bool→Bool
 | .mk o nm ng nu de fs,s,t,f =>
  (decide (zv o=s)&&(decide (ye o=yQ nm)&&(ye o||yd nm))) &&
  ((if o=1 then vt ng nu de else (!ng&&(decide (nu.length=0)&&decide (de.length=0)))) &&
  (!((t&&decide (o=12))||((t||f)&&decide (o=3))) &&
  (if o=54 then decide (2≤fs.length)&&(!((decide (o=3)||(decide (o=12)||decide (o=39)))||Node.primeds fs)&&(Node.wells fs (List.replicate (fs.length-1) 4++[2]) t f&&WY fs))
   else decide ((yl o fs.length).length=fs.length)&&(Node.wells fs (yl o fs.length) (t||decide (o=12)) (f||decide (o=39))&&xM o fs))))
def Node.wells:List Node→List Int→Bool→Bool→Bool
 | [],_,_,_=>true
 | n::r,s,t,f=>n.well (s.getD 0 0) t f&&Node.wells r s.tail t f
end
def qK (n:Node) (t f:Bool):Bool:=decide (2≤n.kids.length)&&(!n.primed&&(Node.wells n.kids (List.replicate (n.kids.length-1) 4++[2]) t f&&WY n.kids))
theorem Node.well_eq (n:Node) (s:Int) (t f:Bool):n.well s t f=((decide (zv n.op=s)&&(decide (ye n.op=yQ n.name)&&(ye n.op||yd n.name))) &&
  ((if n.op=1 then vt n.neg n.num n.den else (!n.neg&&(decide (n.num.length=0)&&decide (n.den.length=0)))) &&
  (!((t&&decide (n.op=12))||((t||f)&&decide (n.op=3))) &&
  (if n.op=54 then qK n t f
   else decide ((yl n.op n.kids.length).length=n.kids.length)&&(Node.wells n.kids (yl n.op n.kids.length) (t||decide (n.op=12)) (f||decide (n.op=39))&&xM n.op n.kids))))):=by
 cases n;simp only[Node.well,qK,Node.primed,Node.op,Node.name,Node.neg,Node.num,Node.den,Node.kids]
 rfl
def jV (f:List Node) (last:Nat) (t u:Bool):Nat→Nat→Bool
 | 0,_=>true
 | m+1,i=>((decide ((f.getD i nd0).op=55)||(decide ((f.getD i nd0).op=56)&&decide (i=last-1)))&&(f.getD i nd0).well 4 t u)&&((f.take i).all (ve (f.getD i nd0))&&jV f last t u m (i+1))
theorem zG8 (l:List Node) (last:Nat) (hlast:last+1=l.length) (t f:Bool) : ∀(m i:Nat),i+m=last →
  (Node.wells (l.drop i) (List.replicate m 4++[2]) t f&&uo l last m i)=((l.getD last nd0).well 2 t f&&jV l last t f m i):=by
 intro m
 induction m with
 | zero =>
  intro i hi;obtain rfl:i=last:=by omega
  rw[xO (by omega),bU (l:=l) (by omega)];simp only[BB,pG,Node.wells,PA,uo,jV,pD]
 | succ m hm =>
  intro i hi;have h:=hm (i+1) (by omega);rw[xO (by omega)];simp only[HH,sB,Node.wells,PA,List.tail_cons,uo,jV,zBg];generalize (l.getD i nd0).well 4 t f=a at *;generalize (decide ((l.getD i nd0).op=55)||(decide ((l.getD i nd0).op=56)&&decide (i=last-1)))=c at *;generalize (l.take i).all (ve (l.getD i nd0))=d at *
  cases a <;> cases c <;> cases d <;> simp[h]
@[go_sem] theorem yK (l:List Int):(uM l).size=l.length:=by simp[uM,ByteArray.size]
theorem zJT {l:List Int} {i:Nat} (h:i<l.length) (hd:0≤l.getD i 0∧l.getD i 0≤100):xn (uM l) i=48+l.getD i 0:=by
 have e:(uM l).data.toList.getD i 0=UInt8.ofNat (48+(l.getD i 0).toNat):=by
  simp[uM,bM,h]
 simp only[xn,e];generalize l.getD i 0=d at hd ⊢;have:(UInt8.ofNat (48+d.toNat)).toNat=48+d.toNat:=by
  simp;omega
 rw[this];omega
theorem zNc {α:Type} {P:α→Prop} {c:Prop} [Decidable c] {a b:α} (h1:c→P a) (h2 : ¬c→P b):P (if c then a else b):=by
 by_cases h:c
 ·rw[bA h];exact h1 h
 ·rw[hZ h];exact h2 h
theorem XI (o:Int) : ∀d∈zP o,0≤d∧d≤100:=by
 have key : ∀l:List Int,l=[1]∨l=[2]∨l=[3]∨l=[1,1]∨l=[2,2]∨l=[3,2]∨l=[3,3]∨l=[]→∀d∈l,0≤d∧d≤100:=by
  intro l h d hd
  rcases h with rfl | rfl | rfl | rfl | rfl | rfl | rfl | rfl <;> simp at hd <;> omega
 refine key _ ?_;unfold zP
 repeat' (first | (apply zNc (P:=fun l:List Int=>l=[1]∨l=[2]∨l=[3]∨l=[1,1]∨l=[2,2]∨l=[3,2]∨l=[3,3]∨l=[]) <;> intro _))
 all_goals simp
def Node.wellKids (n:Node) (t f:Bool):Bool:=decide ((yl n.op n.kids.length).length=n.kids.length)&&(Node.wells n.kids (yl n.op n.kids.length) (t||decide (n.op=12)) (f||decide (n.op=39))&&xM n.op n.kids)
def Node.checkRef (n:Node) (sort:Int):Int :=
 if sort<1∨3<sort then 1 else if 4000<n.size∨60<n.levels then 2 else if zv n.op≠sort then 80 else if n.well sort false false=false then 3 else 0
mutual
theorem ky : ∀n:Node,n.count≤1000000000→n.size=n.count
 | .mk a b c d e f,h=>by
  simp only[Node.count]at h ⊢;simp only[Node.size];rw[VM f 1 (by omega) (by omega)];omega
theorem VM : ∀(l:List Node) (a:Int),0≤a→a+Node.counts l≤1000000000→Node.sizes a l=a+Node.counts l
 | [],a,h0,h=>by simp only[Node.sizes,Node.counts];omega
 | n::r,a,h0,h=>by
  simp only[Node.counts]at h ⊢;simp only[Node.sizes];have hs:=ky n (by omega);have hw:IntKind.i64.wrap (a+n.size)=a+n.count:=by rw[hs,bE];omega
  rw[hw,VM r (a+n.count) (by omega) (by omega)];omega
end
mutual
theorem zEN : ∀n:Node,n.depth≤n.count
 | .mk a b c d e f=>by
  have:=Zc f;simp only[Node.depth,Node.count];omega
theorem Zc : ∀l:List Node,Node.depths l≤Node.counts l
 | []=>by simp[Node.depths,Node.counts]
 | n::r=>by
  have:=zEN n;have:=Zc r;simp only[Node.depths,Node.counts];omega
end
mutual
theorem VN : ∀n:Node,n.count≤1000000000→n.levels=n.depth
 | .mk a b c d e f,h=>by
  simp only[Node.count]at h;have hd:=Zc f;simp only[Node.levels,Node.depth];rw[Ua f 0 (by omega) (by omega),bE];omega
theorem Ua : ∀(l:List Node) (a:Int),0≤a→Node.counts l≤1000000000→Node.most a l=max a (Node.depths l)
 | [],a,h0,h=>by simp only[Node.most,Node.depths];omega
 | n::r,a,h0,h=>by
  simp only[Node.counts]at h;simp only[Node.most,Node.depths];rw[VN n (by omega)];rw[Ua r _ (by split <;> omega) (by omega)]
  split <;> omega
end
theorem zG9 {s:ByteArray} (h:yd s=true):yQ s=false:=by
 have h1:s.toList=(⟨#[]⟩:ByteArray).toList:=by simpa only[yd,beq_iff_eq] using h
 rw[ByteArray.toList_eq,ByteArray.toList_eq]at h1;have h2:s.size=0:=by
  have e:s.data.toList.length=s.size:=rfl;rw[←e,h1];rfl
 simp only[yQ,h2];rfl
theorem zEO : ∀n:Node,∀a b,n.formed a b true=(n.formed a b false && !n.primed):=by
 refine Node.ind' fun n ih a b=>?_;have kids : ∀(l:List Node),(∀k∈l,k∈n.kids)→∀s a b,Node.formeds l s a b true=(Node.formeds l s a b false && !Node.primeds l):=by
  intro l
  induction l with
  | nil=>intro _ s a b;rfl
  | cons k r ihr =>
   intro hsub s a b;simp only[Node.formeds,Node.primeds,ih k (hsub k (by simp)),ihr (fun x hx=>hsub x (by simp[hx]))]
   cases decide (zv k.op=s.getD 0 0) <;> cases k.formed a b false <;> cases k.primed <;> simp
 have hk:=kids n.kids (fun k hk=>hk);rw[Node.formed_eq,Node.formed_eq,Node.primed_eq];simp only[wU];by_cases h1:n.op=10∨n.op=37
 ·have h3 : ¬n.op=3:=by omega
  have h12 : ¬n.op=12:=by omega
  have h39 : ¬n.op=39:=by omega
  have h54 : ¬n.op=54:=by omega
  simp only[h1,h3,h12,h39,h54,if_true,decide_false,pJ,pI,bX,hk];generalize uq n.op n.name n.neg n.num n.den=x1;generalize Node.formeds n.kids (yU n.op n.kids.length) a b false=x2;generalize xF n.op n.kids=x3
  cases x1 <;> cases x2 <;> cases x3 <;> cases Node.primeds n.kids <;> simp
 by_cases h54:n.op=54
 ·have h3 : ¬n.op=3:=by omega
  have h12 : ¬n.op=12:=by omega
  have h39 : ¬n.op=39:=by omega
  simp only[h1,h3,h12,h39,h54,if_true,if_false,decide_false,decide_true,pJ,sU,pI,bX,hk,Int.reduceEq,or_self];generalize uq 54 n.name n.neg n.num n.den=x1;generalize Node.formeds n.kids (yU 54 n.kids.length) a b false=x2;generalize xF 54 n.kids=x3
  cases x1 <;> cases x2 <;> cases x3 <;> cases Node.primeds n.kids <;> simp
 by_cases h3:n.op=3
 ·simp[h3]
 by_cases h12:n.op=12
 ·simp[h12]
 by_cases h39:n.op=39
 ·simp[h39]
 ·simp only[h1,h3,h12,h39,h54,if_false,decide_false,pJ,pI,bX,hk];generalize uq n.op n.name n.neg n.num n.den=x1;generalize Node.formeds n.kids (yU n.op n.kids.length) a b false=x2;generalize xF n.op n.kids=x3
  cases x1 <;> cases x2 <;> cases x3 <;> cases Node.primeds n.kids <;> simp
theorem VO : ∀(l:List Node) (s:List Int) (a b:Bool),Node.formeds l s a b true=(Node.formeds l s a b false && !Node.primeds l)
 | [],s,a,b=>rfl
 | k::r,s,a,b=>by
  simp only[Node.formeds,Node.primeds,zEO k,VO r]
  cases decide (zv k.op=s.getD 0 0) <;> cases k.formed a b false <;> cases k.primed <;> simp
theorem UC (n:Node) (hn:n.ok) (h:n.op=9→n.kids.length=2) (h39:n.op≠39):xM n.op n.kids=xF n.op n.kids:=by
 unfold xM xF;by_cases h8:n.op=8
 ·rw[bA h8,bA h8]
 by_cases h9:n.op=9
 ·rw[hZ h8,hZ h8,bA h9,bA h9];have hl:=h h9;have hk:=hn.kids _ (yA (l:=n.kids) (i:=1) (by omega));generalize n.kids.getD 1 nd0=k at hk ⊢;have hw : ∀w∈k.num,0≤w∧w≤4294967295:=fun w hm=>by have:=hk.val.n w hm;unfold WB at this;omega
  congr 1
  unfold vg;by_cases l0:k.num.length=0
  ·rw[bA l0];simp[l0]
  ·rw[hZ l0];have hmem:k.num.getD 0 0∈k.num:=by
    have:0<k.num.length:=by omega
    simp[bM,this]
   have hb:=hw _ hmem;generalize k.num.getD 0 0=w at hb ⊢;by_cases l1:k.num.length=1
   ·by_cases hw20:w≤20
    ·have : ¬(1<k.num.length∨20<w):=by omega
     rw[hZ this];simp[l1,hw20,hb.1]
    ·have:1<k.num.length∨20<w:=by omega
     rw[bA this];simp[l1,hw20]
   ·have:1<k.num.length∨20<w:=by omega
    rw[bA this];simp[l0,l1]
 ·rw[hZ h8,hZ h8,hZ h9,hZ h9,hZ h39]
theorem zJU (o:Int) (nm:ByteArray) (h:o≠10∧o≠37):(decide (ye o=yQ nm)&&(ye o||yd nm)) = !((yS o && !yQ nm)||(!yS o&&(!yd nm&&(decide (o≠10)&&decide (o≠37))))):=by
 have e:ye o=yS o:=by simp[ye,h.1,h.2]
 rw[e];have := @zG9 nm;simp only[ne_eq,h.1,h.2,not_false_eq_true,decide_true,pD]
 revert this
 cases yS o <;> cases yQ nm <;> cases yd nm <;> simp
theorem zEP : ∀n:Node,n.ok→∀s t f,n.well s t f=(decide (zv n.op=s)&&n.formed t f false):=by
 refine Node.ind' fun n ih hn s t f=>?_;have kids : ∀(l:List Node),(∀k∈l,k∈n.kids)→∀s t f,Node.wells l s t f=Node.formeds l s t f false:=by
  intro l
  induction l with
  | nil=>intro _ s t f;rfl
  | cons k r ihr =>
   intro hsub s t f;simp only[Node.wells,Node.formeds,ih k (hsub k (by simp)) (hn.kids k (hsub k (by simp))),ihr (fun x hx=>hsub x (by simp[hx])),Bool.and_assoc]
 have hk:=kids n.kids (fun k hk=>hk);rw[Node.well_eq,Node.formed_eq];simp only[uq,wU];generalize decide (zv n.op=s)=x0;generalize hnum:(if n.op=1 then vt n.neg n.num n.den else (!n.neg&&(decide (n.num.length=0)&&decide (n.den.length=0))))=x1;by_cases h1:n.op=10∨n.op=37
 ·have h3 : ¬n.op=3:=by omega
  have h12 : ¬n.op=12:=by omega
  have h39 : ¬n.op=39:=by omega
  have h54 : ¬n.op=54:=by omega
  have e1:ye n.op=true:=by rcases h1 with h | h <;> rw[h] <;> rfl
  have e2:yS n.op=false:=by rcases h1 with h | h <;> rw[h] <;> rfl
  have e3:(decide (n.op≠10)&&decide (n.op≠37))=false:=by rcases h1 with h | h <;> rw[h] <;> rfl
  have e4:xM n.op n.kids=true:=by unfold xM;rw[hZ (by omega),hZ (by omega),hZ h39]
  have e5:xF n.op n.kids=true:=by unfold xF;rw[hZ (by omega),hZ (by omega)]
  have e6:yU n.op n.kids.length=List.replicate n.kids.length 1:=by unfold yU;rw[bA h1]
  have e7:zP n.op=[]:=by rcases h1 with h | h <;> rw[h] <;> rfl
  simp only[h1,h3,h12,h39,h54,if_true,if_false,decide_false,pJ,bX,bQ,e1,e2,e3,e4,e5,e6,pI,pD,bB,bK,bC,hk];by_cases l0:n.kids.length=0
  ·have:n.kids=[]:=pL l0;simp only[this,yl,e7,bV]
   cases x0 <;> cases x1 <;> cases yQ n.name <;> simp[Node.formeds]
  ·by_cases l1:n.kids.length=1
   ·have:yl n.op n.kids.length=[1]:=by simp[yl,h1,l1]
    rw[this,l1]
    cases x0 <;> cases x1 <;> cases yQ n.name <;> simp
   ·have:yl n.op n.kids.length=[]:=by simp[yl,l1,e7]
    have l2 : ¬n.kids.length≤1:=by omega
    rw[this]
    cases x0 <;> cases x1 <;> cases yQ n.name <;> simp[l2,l0] <;> omega
 have hne:n.op≠10∧n.op≠37:=⟨fun h=>h1 (.inl h),fun h=>h1 (.inr h)⟩;rw[zJU n.op n.name hne];generalize hname:(!((yS n.op && !yQ n.name)||(!yS n.op&&(!yd n.name&&(decide (n.op≠10)&&decide (n.op≠37))))))=x2;have e6:n.op≠54→yU n.op n.kids.length=zP n.op:=fun h=>by unfold yU;rw[hZ h1,hZ h]
 have e8:yl n.op n.kids.length=zP n.op:=by unfold yl;rw[hZ (by intro h;exact h1 h.1)]
 have hsym:decide ((zP n.op).length=n.kids.length)=decide (n.kids.length=(zP n.op).length):=by
  by_cases h:n.kids.length=(zP n.op).length
  ·simp[h]
  ·have h' : ¬(zP n.op).length=n.kids.length:=fun e=>h e.symm;simp[h,h']
 by_cases h54:n.op=54
 ·have h3 : ¬n.op=3:=by omega
  have h12 : ¬n.op=12:=by omega
  have h39 : ¬n.op=39:=by omega
  have ex2:x2=yd n.name:=by
   rw[←hname,h54];have:yS 54=false:=rfl;rw[this]
   cases yd n.name <;> simp
  have e1:n.primed=Node.primeds n.kids:=by rw[Node.primed_eq];simp[h3,h12,h39]
  have e2:yU n.op n.kids.length=List.replicate (n.kids.length-1) 4++[2]:=by unfold yU;rw[hZ h1,bA h54]
  have e3:xF n.op n.kids=true:=by unfold xF;rw[hZ (by omega),hZ (by omega)]
  have e4:decide (n.op=54)=true:=by simp[h54]
  rw[ex2];simp only[h1,if_false,h3,h12,h39,decide_false,bQ,pJ,bK,bC,e2,e3,e4,sU,bA h54,qK,e1,hk,VO,pD];by_cases l2:2≤n.kids.length
  ·have l3:n.kids.length=(List.replicate (n.kids.length-1) (4:Int)++[2]).length:=by simp;omega
   rw[bH l2,bH l3];generalize Node.formeds n.kids (List.replicate (n.kids.length-1) 4++[2]) t f false=x3;generalize Node.primeds n.kids=x4;generalize WY n.kids=x5
   cases x0 <;> cases x1 <;> cases yd n.name <;> cases x3 <;> cases x4 <;> cases x5 <;> rfl
  ·rw[bI l2]
   cases x0 <;> cases x1 <;> cases yd n.name <;> simp
 rw[e8,hsym,e6 h54];have d54:decide (n.op=54)=false:=by simp[h54]
 by_cases hl:n.kids.length=(zP n.op).length
 case neg =>
  rw[bI hl];simp only[hZ h54,bB,bQ]
 rw[bH hl];by_cases h3:n.op=3
 ·have ht:xM n.op n.kids=xF n.op n.kids:=UC n hn (by omega) (by omega);rw[ht];simp only[h1,h54,if_false,hk,h3,if_true,decide_true,Int.reduceEq,decide_false,bQ,pD,pJ,bX,or_self,bC];generalize Node.formeds n.kids (zP 3) t f false=x3;generalize xF 3 n.kids=x4
  cases x0 <;> cases x1 <;> cases x2 <;> cases x3 <;> cases x4 <;> cases t <;> cases f <;> rfl
 by_cases h12:n.op=12
 ·have ht:xM n.op n.kids=xF n.op n.kids:=UC n hn (by omega) (by omega);rw[ht];simp only[h1,h54,h3,if_false,hk,h12,if_true,decide_true,Int.reduceEq,decide_false,bQ,pD,pJ,bX,sU,or_self,bC];generalize Node.formeds n.kids (zP 12) true f false=x3;generalize xF 12 n.kids=x4
  cases x0 <;> cases x1 <;> cases x2 <;> cases x3 <;> cases x4 <;> cases t <;> cases f <;> rfl
 by_cases h39:n.op=39
 ·have l1:n.kids.length=1:=by rw[hl,h39];rfl
  have e3:xF n.op n.kids=true:=by unfold xF;rw[hZ (by omega),hZ (by omega)]
  have e4:xM n.op n.kids=(n.kids.getD 0 nd0).diff:=by unfold xM;rw[hZ (by omega),hZ (by omega),bA h39]
  rw[e3,e4];simp only[h1,h54,h3,h12,if_false,hk,h39,if_true,decide_true,Int.reduceEq,decide_false,bQ,pD,pJ,bX,sU,or_self,bC,l1,bK];generalize Node.formeds n.kids (zP 39) t true false=x3;generalize (n.kids.getD 0 nd0).diff=x4
  cases x0 <;> cases x1 <;> cases x2 <;> cases x3 <;> cases x4 <;> rfl
 ·have ht:xM n.op n.kids=xF n.op n.kids:=UC n hn (fun h=>by rw[hl,h];rfl) h39;simp only[h1,h54,h3,h12,h39,if_false,ht,hk,decide_false,bQ,pJ,bK,bC];generalize Node.formeds n.kids (zP n.op) t f false=x3;generalize xF n.op n.kids=x4
  cases x0 <;> cases x1 <;> cases x2 <;> cases x3 <;> cases x4 <;> rfl
theorem zGa (n:Node) (hn:n.ok) (hc:n.count≤1000000000) (s:Int):n.checkRef s=n.check s:=by
 have e1:=ky n hc;have e2:=VN n hc;have hs:(4000<n.size∨60<n.levels)↔n.small=false:=by
  rw[e1,e2];simp only[Node.small];by_cases h1:n.count≤4000 <;> by_cases h2:n.depth≤60 <;> simp[h1,h2] <;> omega
 unfold Node.checkRef Node.check;by_cases h1:s<1∨3<s
 ·rw[bA h1,bA h1]
 rw[hZ h1,hZ h1];by_cases h2:n.small=false
 ·rw[bA h2,bA (hs.2 h2)]
 rw[hZ h2,hZ (fun h=>h2 (hs.1 h))];by_cases h3:zv n.op=s
 ·simp only[h3,ne_eq,not_true_eq_false,if_false,zEP n hn,decide_true,bC]
 ·rw[bA h3,bA h3]
section
theorem FX.callV {F:FX} {f:FuncId} (ok:F.ok f) (n:Nat) {args:List PV} (ha:Nat.ble args.length F.fn.ntmps=true) {e:Env} (he:(List.range args.length).zip args=e) {v:PV} {r:PV × zB} (h1:run 0 F n (.at 0 1) [] e []=some r) (h2:vI r.2 r.1=some v):Vs.callL Tryz.prog zD f args=some v:=FX.callL ok n ha he h1 h2
theorem FX.callB2 {F:FX} {f:FuncId} (ok:F.ok f) (n:Nat) {args:List PV} (ha:Nat.ble args.length F.fn.ntmps=true) {e:Env} (he:(List.range args.length).zip args=e) {b:Bool} {S':zB} (h1:run 0 F n (.at 0 1) [] e []=some (.bool b,S')):Vs.callL Tryz.prog zD f args=some (.bool b):=FX.callL ok n ha he h1 rfl
def xV (l:List Int):PV:=.sl (zE .i64 l) l.isEmpty
theorem zGb {N D:List Int} (hn:N.length≤20) (hd:D.length=1) (h1:D.getD 0 0=1):um false N D 4096=JP N:=by
 have e:D=[1]:=(YW hd).2 h1;subst e;have g:nv [1]=1:=by decide
 have t:decide (xd [1])=true:=bH (.inr (by decide));have n1:decide ((N.length:Int)≤4096)=true:=bH (by omega);unfold um JP;rw[t,n1,g];by_cases h0:N.length=0
 ·have:N=[]:=pL h0;subst this
  decide
 ·have t2:decide (xd N)=decide (N.getD (N.length-1) 0≠0):=by
   have:xd N↔N.getD (N.length-1) 0≠0:=by
    constructor
    ·rintro (h | h)
     ·rw[h]at h0;exact absurd rfl h0
     ·exact h
    ·exact .inr
   simp only[this]
  rw[t2];simp[h0]
@[go_sem] theorem zQk (ng:Bool) (N D:List Int) (r:List PV):part (tyi Tryz.prog 27) (.bool ng :: .sl (zE .u32 N) false :: .sl (zE .u32 D) false::r)=some (.agg [.bool ng,.sl (zE .u32 N) false,.sl (zE .u32 D) false]):=by
 simp[part,Vv,TI.isAgg,jC,Ku]
section
attribute [local irreducible] Vs.callL Vs.callRL tyi zO zn zg zR zY za zI zZ zA zK ze zX zG zJ zW zr yJ zq zL zf Vs.gc zH
noncomputable def zPf:FX:=⟨Tryz.f122,zD.of 122,[]⟩
instance ok122_:zPf.ok 122:=FX.mk'
theorem zBi (v:RV) (h:v.ok):callL Tryz.prog zD 122 [.agg v.cells]=some (.bool (vt v.neg v.num v.den)):=by
 have hM:=xZ;have l1:=h.ln;have l2:=h.ld;have cv:=fun S=>zF (S:=S) (XE v.neg v.num v.den h.n h.d (by omega) (by omega)) (by simp;exact ju _ _ _);unfold ku at cv;obtain⟨ng,N,D⟩:=v;unfold RV.cells;simp only at *;refine FX.callL (r:=(.bool (vt ng N D),[.arr [[.bool ng,.sl (zE .u32 N) false,.sl (zE .u32 D) false]] none false])) ok122_ 1000 rfl rfl ?_ rfl;unfold vt;cases ng with
 | true =>
  simp only[bT,bB];((repeat((conv=>lhs;whnf);simp only[go_sem,simprocAttr]));try rfl)
 | false =>
  simp only[bK,bC];by_cases hd:D.length=1
  ·have hd':(D.length:Int)=1:=by omega
   by_cases h1:D.getD 0 0=1
   ·by_cases hn:N.length≤20
    ·have hn':(N.length:Int)≤20:=by omega
     rw[zGb hn hd h1]at cv;simp only[hd,h1,hn,decide_true,bC];((repeat((conv=>lhs;whnf);simp only[go_sem,simprocAttr,hd,hd',h1,hn,hn',cv]));try rfl)
    ·have hn' : ¬(N.length:Int)≤20:=by omega
     simp only[hd,h1,hn,decide_true,decide_false,bC,bB];((repeat((conv=>lhs;whnf);simp only[go_sem,simprocAttr,hd,hd',h1,hn,hn']));try rfl)
   ·simp only[hd,h1,decide_true,decide_false,bC,bB];((repeat((conv=>lhs;whnf);simp only[go_sem,simprocAttr,hd,hd',h1]));try rfl)
  ·have hd' : ¬(D.length:Int)=1:=by omega
   simp only[hd,decide_false,bB];((repeat((conv=>lhs;whnf);simp only[go_sem,simprocAttr,hd,hd']));try rfl)
theorem zA3 (S:zB) (n:Node) (h:n.ok):zO (callL Tryz.prog zD) S 122 [.agg [.bool n.neg,.sl (zE .u32 n.num) false,.sl (zE .u32 n.den) false]]=some {v:=.bool (vt n.neg n.num n.den)} := zF (zBi n.val h.val) (by simp;exact kW n.val)
noncomputable def zPg:FX:=⟨Tryz.f130,zD.of 130,[]⟩
instance ok130_:zPg.ok 130:=FX.mk'
theorem QM (v:RV) (h:v.ok):callL Tryz.prog zD 130 [.agg v.cells]=some (.bool (vt v.neg v.num v.den)):=by
 have hM:=xZ;have l1:=h.ln;have l2:=h.ld;obtain⟨ng,N,D⟩:=v;unfold RV.cells;simp only at *;refine FX.callL (r:=(.bool (vt ng N D),[.arr [[.bool ng,.sl (zE .u32 N) false,.sl (zE .u32 D) false]] none false])) ok130_ 1000 rfl rfl ?_ rfl;unfold vt;cases ng with
 | true =>
  simp only[bT,bB];((repeat((conv=>lhs;whnf);simp only[go_sem,simprocAttr]));try rfl)
 | false =>
  simp only[bK,bC];by_cases hd:D.length=1
  ·have hd':(D.length:Int)=1:=by omega
   by_cases h1:D.getD 0 0=1
   ·by_cases hn:N.length≤20
    ·have hn' : ¬ 20<(N.length:Int):=by omega
     unfold JP;simp only[hd,h1,hn,decide_true,bC];by_cases h0:N.length=0
     ·have h0':(N.length:Int)=0:=by omega
      simp only[h0,decide_true,pI];((repeat((conv=>lhs;whnf);simp only[go_sem,simprocAttr,hd,hd',h1,hn,hn',h0,h0']));try rfl)
     ·have h0' : ¬(N.length:Int)=0:=by omega
      have w:IntKind.i64.wrap ((N.length:Int)-1)=((N.length-1:Nat):Int):=by rw[bE];omega
      have x:0≤((N.length-1:Nat):Int)∧((N.length-1:Nat):Int)<(N.length:Int):=⟨by omega,by omega⟩;simp only[h0,decide_false,bX];by_cases h2:N.getD (N.length-1) 0=0
      ·simp only[h2,ne_eq,not_true,decide_false];((repeat((conv=>lhs;whnf);simp only[go_sem,simprocAttr,hd,hd',h1,hn,hn',h0,h0',w,x,bD,h2]));try rfl)
      ·simp only[h2,ne_eq,not_false_eq_true,decide_true];((repeat((conv=>lhs;whnf);simp only[go_sem,simprocAttr,hd,hd',h1,hn,hn',h0,h0',w,x,bD,h2]));try rfl)
    ·have hn':20<(N.length:Int):=by omega
     simp only[hd,h1,hn,decide_true,decide_false,bC,bB];((repeat((conv=>lhs;whnf);simp only[go_sem,simprocAttr,hd,hd',h1,hn,hn']));try rfl)
   ·simp only[hd,h1,decide_true,decide_false,bC,bB];((repeat((conv=>lhs;whnf);simp only[go_sem,simprocAttr,hd,hd',h1]));try rfl)
  ·have hd' : ¬(D.length:Int)=1:=by omega
   simp only[hd,decide_false,bB];((repeat((conv=>lhs;whnf);simp only[go_sem,simprocAttr,hd,hd']));try rfl)
theorem JT (S:zB) (n:Node) (h:n.ok):zO (callL Tryz.prog zD) S 130 [.agg [.bool n.neg,.sl (zE .u32 n.num) false,.sl (zE .u32 n.den) false]]=some {v:=.bool (vt n.neg n.num n.den)} := zF (QM n.val h.val) (by simp;exact kW n.val)
@[go_sem] theorem zKH (S:zB) (k:IntKind) (n:Int):zL Tryz.prog 126 2 S (.int k n)=some (.int .i64 (IntKind.i64.wrap n)):=by
 simp[zL,show (tyi Tryz.prog 126).known=true by kernel_rfl,xN,show (tyi Tryz.prog 2).d=.int .i64 by kernel_rfl]
noncomputable def zSI:FX:=⟨Tryz.f94,zD.of 94,[]⟩
instance ok94_:zSI.ok 94:=FX.mk'
theorem QN (v:RV) (h:v.ok) (m:Int):callL Tryz.prog zD 94 [.agg v.cells,.int .i64 m]=some (.int .i64 (vg v.num m)):=by
 have hw:=h.n;obtain⟨ng,N,D⟩:=v;unfold RV.cells;simp only at *;refine FX.callL (r:=(.int .i64 (vg N m),[.arr [[.bool ng,.sl (zE .u32 N) false,.sl (zE .u32 D) false]] none false])) ok94_ 1000 rfl rfl ?_ rfl;unfold vg;by_cases h0:N.length=0
 ·have h0':(N.length:Int)=0:=by omega
  rw[bA h0];((repeat((conv=>lhs;whnf);simp only[go_sem,simprocAttr,h0,h0']));try rfl)
 ·have h0' : ¬(N.length:Int)=0:=by omega
  have hp:(0:Int)<(N.length:Int):=by omega
  have hb:0≤N.getD 0 0∧N.getD 0 0<4294967296:=by
   have:N.getD 0 0∈N:=by
    have:0<N.length:=by omega
    simp[bM,this]
   exact hw _ this
  have hwr:IntKind.i64.wrap (N.getD 0 0)=N.getD 0 0:=by rw[bE];omega
  rw[hZ h0];by_cases h1:1<N.length
  ·have h1':1<(N.length:Int):=by omega
   rw[bA (.inl h1)];((repeat((conv=>lhs;whnf);simp only[go_sem,simprocAttr,h0,h0',h1']));try rfl)
  ·have h1' : ¬ 1<(N.length:Int):=by omega
   by_cases h2:m<N.getD 0 0
   ·rw[bA (.inr h2)];((repeat((conv=>lhs;whnf);simp only[go_sem,simprocAttr,h0,h0',h1',hp,hwr,h2]));try rfl)
   ·rw[hZ (fun h=>h.elim h1 h2)];((repeat((conv=>lhs;whnf);simp only[go_sem,simprocAttr,h0,h0',h1',hp,hwr,h2]));try rfl)
theorem JU (S:zB) (n:Node) (h:n.ok) (m:Int):zO (callL Tryz.prog zD) S 94 [.agg [.bool n.neg,.sl (zE .u32 n.num) false,.sl (zE .u32 n.den) false],.int .i64 m]=some {v:=.int .i64 (vg n.num m)} := zF (QN n.val h.val m) (by simp[zh.int];exact kW n.val)
end
end
section
section
attribute [local irreducible] Vs.callL Vs.callRL tyi zO zn zg zR zY za zI zZ zA zK ze zX zG zJ zW zr yJ zq zL zf Vs.gc zH
noncomputable def zPh:FX:=⟨Tryz.f123,zD.of 123,[]⟩
instance ok123_:zPh.ok 123:=FX.mk'
theorem zBj (o:Int) (h:1≤o∧o≤7):callL Tryz.prog zD 123 [.int .i64 o]=some (.tup [.bool (yS o),xV (zP o)]):=by
 have e:o=1∨o=2∨o=3∨o=4∨o=5∨o=6∨o=7:=by omega
 rcases e with rfl | rfl | rfl | rfl | rfl | rfl | rfl <;> (apply FX.callV ok123_ 1000 rfl rfl;((repeat((conv=>lhs;whnf);simp only[go_sem,simprocAttr]));try rfl))
theorem zBk (o:Int) (h:8≤o∧o≤13):callL Tryz.prog zD 123 [.int .i64 o]=some (.tup [.bool (yS o),xV (zP o)]):=by
 have e:o=8∨o=9∨o=10∨o=11∨o=12∨o=13:=by omega
 rcases e with rfl | rfl | rfl | rfl | rfl | rfl <;> (apply FX.callV ok123_ 1000 rfl rfl;((repeat((conv=>lhs;whnf);simp only[go_sem,simprocAttr]));try rfl))
theorem zBl (o:Int) (h:20≤o∧o≤26):callL Tryz.prog zD 123 [.int .i64 o]=some (.tup [.bool (yS o),xV (zP o)]):=by
 have e:o=20∨o=21∨o=22∨o=23∨o=24∨o=25∨o=26:=by omega
 rcases e with rfl | rfl | rfl | rfl | rfl | rfl | rfl <;> (apply FX.callV ok123_ 1000 rfl rfl;((repeat((conv=>lhs;whnf);simp only[go_sem,simprocAttr]));try rfl))
theorem zBm (o:Int) (h:27≤o∧o≤33):callL Tryz.prog zD 123 [.int .i64 o]=some (.tup [.bool (yS o),xV (zP o)]):=by
 have e:o=27∨o=28∨o=29∨o=30∨o=31∨o=32∨o=33:=by omega
 rcases e with rfl | rfl | rfl | rfl | rfl | rfl | rfl <;> (apply FX.callV ok123_ 1000 rfl rfl;((repeat((conv=>lhs;whnf);simp only[go_sem,simprocAttr]));try rfl))
theorem zBn (o:Int) (h:34≤o∧o≤39):callL Tryz.prog zD 123 [.int .i64 o]=some (.tup [.bool (yS o),xV (zP o)]):=by
 have e:o=34∨o=35∨o=36∨o=37∨o=38∨o=39:=by omega
 rcases e with rfl | rfl | rfl | rfl | rfl | rfl <;> (apply FX.callV ok123_ 1000 rfl rfl;((repeat((conv=>lhs;whnf);simp only[go_sem,simprocAttr]));try rfl))
theorem zBo (o:Int) (h:50≤o∧o≤56):callL Tryz.prog zD 123 [.int .i64 o]=some (.tup [.bool (yS o),xV (zP o)]):=by
 have e:o=50∨o=51∨o=52∨o=53∨o=54∨o=55∨o=56:=by omega
 rcases e with rfl | rfl | rfl | rfl | rfl | rfl | rfl <;> (apply FX.callV ok123_ 1000 rfl rfl;((repeat((conv=>lhs;whnf);simp only[go_sem,simprocAttr]));try rfl))
theorem zBp (o:Int) (h:57≤o∧o≤62):callL Tryz.prog zD 123 [.int .i64 o]=some (.tup [.bool (yS o),xV (zP o)]):=by
 have e:o=57∨o=58∨o=59∨o=60∨o=61∨o=62:=by omega
 rcases e with rfl | rfl | rfl | rfl | rfl | rfl <;> (apply FX.callV ok123_ 1000 rfl rfl;((repeat((conv=>lhs;whnf);simp only[go_sem,simprocAttr]));try rfl))
theorem zBq (o:Int) (h:(o<1∨13<o)∧(o<20∨39<o)∧(o<50∨62<o)):callL Tryz.prog zD 123 [.int .i64 o]=some (.tup [.bool (yS o),xV (zP o)]):=by
 have e1 : ¬o=1:=by omega
 have e2 : ¬o=2:=by omega
 have e3 : ¬o=3:=by omega
 have e4 : ¬o=4:=by omega
 have e5 : ¬o=5:=by omega
 have e6 : ¬o=6:=by omega
 have e7 : ¬o=7:=by omega
 have e8 : ¬o=8:=by omega
 have e9 : ¬o=9:=by omega
 have e10 : ¬o=10:=by omega
 have e11 : ¬o=11:=by omega
 have e12 : ¬o=12:=by omega
 have e13 : ¬o=13:=by omega
 have e20 : ¬o=20:=by omega
 have e21 : ¬o=21:=by omega
 have e22 : ¬o=22:=by omega
 have e23 : ¬o=23:=by omega
 have e24 : ¬o=24:=by omega
 have e25 : ¬o=25:=by omega
 have e26 : ¬o=26:=by omega
 have e27 : ¬o=27:=by omega
 have e28 : ¬o=28:=by omega
 have e29 : ¬o=29:=by omega
 have e30 : ¬o=30:=by omega
 have e31 : ¬o=31:=by omega
 have e32 : ¬o=32:=by omega
 have e33 : ¬o=33:=by omega
 have e34 : ¬o=34:=by omega
 have e35 : ¬o=35:=by omega
 have e36 : ¬o=36:=by omega
 have e37 : ¬o=37:=by omega
 have e38 : ¬o=38:=by omega
 have e39 : ¬o=39:=by omega
 have e50 : ¬o=50:=by omega
 have e51 : ¬o=51:=by omega
 have e52 : ¬o=52:=by omega
 have e53 : ¬o=53:=by omega
 have e54 : ¬o=54:=by omega
 have e55 : ¬o=55:=by omega
 have e56 : ¬o=56:=by omega
 have e57 : ¬o=57:=by omega
 have e58 : ¬o=58:=by omega
 have e59 : ¬o=59:=by omega
 have e60 : ¬o=60:=by omega
 have e61 : ¬o=61:=by omega
 have e62 : ¬o=62:=by omega
 clear h;have hk:zP o=[]:=Xy ⟨e4,e12,e59,e60,e53,e28,e39⟩ ⟨by omega,by omega,by omega⟩ ⟨by omega,e55,e57,e58⟩;have hh:yS o=false:=by simp only[yS,decide_eq_false_iff_not];omega
 rw[hk,hh];apply FX.callV ok123_ 1000 rfl rfl
 ·((repeat((conv=>lhs;whnf);simp only[go_sem,simprocAttr,e1,e2,e3,e4,e5,e6,e7,e8,e9,e10,e11,e12,e13,e20,e21,e22,e23,e24,e25,e26,e27,e28,e29,e30,e31,e32,e33,e34,e35,e36,e37,e38,e39,e50,e51,e52,e53,e54,e55,e56,e57,e58,e59,e60,e61,e62]));try rfl)
 ·rfl
theorem zGc (o:Int):callL Tryz.prog zD 123 [.int .i64 o]=some (.tup [.bool (yS o),xV (zP o)]):=by
 by_cases ha:1≤o∧o≤7
 ·exact zBj o ha
 by_cases hb:8≤o∧o≤13
 ·exact zBk o hb
 by_cases hc:20≤o∧o≤26
 ·exact zBl o hc
 by_cases hd:27≤o∧o≤33
 ·exact zBm o hd
 by_cases he:34≤o∧o≤39
 ·exact zBn o he
 by_cases hf:50≤o∧o≤56
 ·exact zBo o hf
 by_cases hg:57≤o∧o≤62
 ·exact zBp o hg
 exact zBq o (by omega)
theorem yX (S:zB) (o:Int):zO (callL Tryz.prog zD) S 123 [.int .i64 o]=some {v:=.tup [.bool (yS o),xV (zP o)]} := zF (zGc o) (by simp[zh.int])
noncomputable def zPi:FX:=⟨Tryz.f129,zD.of 129,[]⟩
instance ok129_:zPi.ok 129:=FX.mk'
theorem QO (o:Int) (h:1≤o∧o≤7):callL Tryz.prog zD 129 [.int .i64 o]=some (.bool (ye o)):=by
 have e:o=1∨o=2∨o=3∨o=4∨o=5∨o=6∨o=7:=by omega
 rcases e with rfl | rfl | rfl | rfl | rfl | rfl | rfl <;> (refine FX.callL (r:=(.bool _,[])) ok129_ 1000 rfl rfl ?_ rfl;((repeat((conv=>lhs;whnf);simp only[go_sem,simprocAttr]));try rfl))
theorem QP (o:Int) (h:8≤o∧o≤13):callL Tryz.prog zD 129 [.int .i64 o]=some (.bool (ye o)):=by
 have e:o=8∨o=9∨o=10∨o=11∨o=12∨o=13:=by omega
 rcases e with rfl | rfl | rfl | rfl | rfl | rfl <;> (refine FX.callL (r:=(.bool _,[])) ok129_ 1000 rfl rfl ?_ rfl;((repeat((conv=>lhs;whnf);simp only[go_sem,simprocAttr]));try rfl))
theorem QQ (o:Int) (h:20≤o∧o≤26):callL Tryz.prog zD 129 [.int .i64 o]=some (.bool (ye o)):=by
 have e:o=20∨o=21∨o=22∨o=23∨o=24∨o=25∨o=26:=by omega
 rcases e with rfl | rfl | rfl | rfl | rfl | rfl | rfl <;> (refine FX.callL (r:=(.bool _,[])) ok129_ 1000 rfl rfl ?_ rfl;((repeat((conv=>lhs;whnf);simp only[go_sem,simprocAttr]));try rfl))
theorem QR (o:Int) (h:27≤o∧o≤33):callL Tryz.prog zD 129 [.int .i64 o]=some (.bool (ye o)):=by
 have e:o=27∨o=28∨o=29∨o=30∨o=31∨o=32∨o=33:=by omega
 rcases e with rfl | rfl | rfl | rfl | rfl | rfl | rfl <;> (refine FX.callL (r:=(.bool _,[])) ok129_ 1000 rfl rfl ?_ rfl;((repeat((conv=>lhs;whnf);simp only[go_sem,simprocAttr]));try rfl))
theorem QS (o:Int) (h:34≤o∧o≤39):callL Tryz.prog zD 129 [.int .i64 o]=some (.bool (ye o)):=by
 have e:o=34∨o=35∨o=36∨o=37∨o=38∨o=39:=by omega
 rcases e with rfl | rfl | rfl | rfl | rfl | rfl <;> (refine FX.callL (r:=(.bool _,[])) ok129_ 1000 rfl rfl ?_ rfl;((repeat((conv=>lhs;whnf);simp only[go_sem,simprocAttr]));try rfl))
theorem QT (o:Int) (h:50≤o∧o≤56):callL Tryz.prog zD 129 [.int .i64 o]=some (.bool (ye o)):=by
 have e:o=50∨o=51∨o=52∨o=53∨o=54∨o=55∨o=56:=by omega
 rcases e with rfl | rfl | rfl | rfl | rfl | rfl | rfl <;> (refine FX.callL (r:=(.bool _,[])) ok129_ 1000 rfl rfl ?_ rfl;((repeat((conv=>lhs;whnf);simp only[go_sem,simprocAttr]));try rfl))
theorem QU (o:Int) (h:57≤o∧o≤62):callL Tryz.prog zD 129 [.int .i64 o]=some (.bool (ye o)):=by
 have e:o=57∨o=58∨o=59∨o=60∨o=61∨o=62:=by omega
 rcases e with rfl | rfl | rfl | rfl | rfl | rfl <;> (refine FX.callL (r:=(.bool _,[])) ok129_ 1000 rfl rfl ?_ rfl;((repeat((conv=>lhs;whnf);simp only[go_sem,simprocAttr]));try rfl))
theorem QV (o:Int) (h:(o<1∨13<o)∧(o<20∨39<o)∧(o<50∨62<o)):callL Tryz.prog zD 129 [.int .i64 o]=some (.bool (ye o)):=by
 have e1 : ¬o=1:=by omega
 have e2 : ¬o=2:=by omega
 have e3 : ¬o=3:=by omega
 have e4 : ¬o=4:=by omega
 have e5 : ¬o=5:=by omega
 have e6 : ¬o=6:=by omega
 have e7 : ¬o=7:=by omega
 have e8 : ¬o=8:=by omega
 have e9 : ¬o=9:=by omega
 have e10 : ¬o=10:=by omega
 have e11 : ¬o=11:=by omega
 have e12 : ¬o=12:=by omega
 have e13 : ¬o=13:=by omega
 have e20 : ¬o=20:=by omega
 have e21 : ¬o=21:=by omega
 have e22 : ¬o=22:=by omega
 have e23 : ¬o=23:=by omega
 have e24 : ¬o=24:=by omega
 have e25 : ¬o=25:=by omega
 have e26 : ¬o=26:=by omega
 have e27 : ¬o=27:=by omega
 have e28 : ¬o=28:=by omega
 have e29 : ¬o=29:=by omega
 have e30 : ¬o=30:=by omega
 have e31 : ¬o=31:=by omega
 have e32 : ¬o=32:=by omega
 have e33 : ¬o=33:=by omega
 have e34 : ¬o=34:=by omega
 have e35 : ¬o=35:=by omega
 have e36 : ¬o=36:=by omega
 have e37 : ¬o=37:=by omega
 have e38 : ¬o=38:=by omega
 have e39 : ¬o=39:=by omega
 have e50 : ¬o=50:=by omega
 have e51 : ¬o=51:=by omega
 have e52 : ¬o=52:=by omega
 have e53 : ¬o=53:=by omega
 have e54 : ¬o=54:=by omega
 have e55 : ¬o=55:=by omega
 have e56 : ¬o=56:=by omega
 have e57 : ¬o=57:=by omega
 have e58 : ¬o=58:=by omega
 have e59 : ¬o=59:=by omega
 have e60 : ¬o=60:=by omega
 have e61 : ¬o=61:=by omega
 have e62 : ¬o=62:=by omega
 clear h;rw[zEM ⟨e2,e3,e10,e11,e33,e34,e37,e38,e50,e51,e52,e55,e56,e61,e62⟩];refine FX.callL (r:=(.bool false,[])) ok129_ 1000 rfl rfl ?_ rfl;((repeat((conv=>lhs;whnf);simp only[go_sem,simprocAttr,e1,e2,e3,e4,e5,e6,e7,e8,e9,e10,e11,e12,e13,e20,e21,e22,e23,e24,e25,e26,e27,e28,e29,e30,e31,e32,e33,e34,e35,e36,e37,e38,e39,e50,e51,e52,e53,e54,e55,e56,e57,e58,e59,e60,e61,e62]));try rfl)
theorem zEQ (o:Int):callL Tryz.prog zD 129 [.int .i64 o]=some (.bool (ye o)):=by
 by_cases ha:1≤o∧o≤7
 ·exact QO o ha
 by_cases hb:8≤o∧o≤13
 ·exact QP o hb
 by_cases hc:20≤o∧o≤26
 ·exact QQ o hc
 by_cases hd:27≤o∧o≤33
 ·exact QR o hd
 by_cases he:34≤o∧o≤39
 ·exact QS o he
 by_cases hf:50≤o∧o≤56
 ·exact QT o hf
 by_cases hg:57≤o∧o≤62
 ·exact QU o hg
 exact QV o (by omega)
theorem yV (S:zB) (o:Int):zO (callL Tryz.prog zD) S 129 [.int .i64 o]=some {v:=.bool (ye o)} := zF (zEQ o) (by simp[zh.int])
noncomputable def zPj:FX:=⟨Tryz.f132,zD.of 132,[]⟩
instance ok132_:zPj.ok 132:=FX.mk'
theorem zBr (o:Int) (h:1≤o∧o≤7):callL Tryz.prog zD 132 [.int .i64 o]=some (.str (uM (zP o))):=by
 have e:o=1∨o=2∨o=3∨o=4∨o=5∨o=6∨o=7:=by omega
 rcases e with rfl | rfl | rfl | rfl | rfl | rfl | rfl <;> (refine FX.callL (r:=(.str _,[])) ok132_ 1000 rfl rfl ?_ rfl;((repeat((conv=>lhs;whnf);simp only[go_sem,simprocAttr]));try rfl))
theorem zBs (o:Int) (h:8≤o∧o≤13):callL Tryz.prog zD 132 [.int .i64 o]=some (.str (uM (zP o))):=by
 have e:o=8∨o=9∨o=10∨o=11∨o=12∨o=13:=by omega
 rcases e with rfl | rfl | rfl | rfl | rfl | rfl <;> (refine FX.callL (r:=(.str _,[])) ok132_ 1000 rfl rfl ?_ rfl;((repeat((conv=>lhs;whnf);simp only[go_sem,simprocAttr]));try rfl))
theorem zBt (o:Int) (h:20≤o∧o≤26):callL Tryz.prog zD 132 [.int .i64 o]=some (.str (uM (zP o))):=by
 have e:o=20∨o=21∨o=22∨o=23∨o=24∨o=25∨o=26:=by omega
 rcases e with rfl | rfl | rfl | rfl | rfl | rfl | rfl <;> (refine FX.callL (r:=(.str _,[])) ok132_ 1000 rfl rfl ?_ rfl;((repeat((conv=>lhs;whnf);simp only[go_sem,simprocAttr]));try rfl))
theorem zBu (o:Int) (h:27≤o∧o≤33):callL Tryz.prog zD 132 [.int .i64 o]=some (.str (uM (zP o))):=by
 have e:o=27∨o=28∨o=29∨o=30∨o=31∨o=32∨o=33:=by omega
 rcases e with rfl | rfl | rfl | rfl | rfl | rfl | rfl <;> (refine FX.callL (r:=(.str _,[])) ok132_ 1000 rfl rfl ?_ rfl;((repeat((conv=>lhs;whnf);simp only[go_sem,simprocAttr]));try rfl))
theorem zBv (o:Int) (h:34≤o∧o≤39):callL Tryz.prog zD 132 [.int .i64 o]=some (.str (uM (zP o))):=by
 have e:o=34∨o=35∨o=36∨o=37∨o=38∨o=39:=by omega
 rcases e with rfl | rfl | rfl | rfl | rfl | rfl <;> (refine FX.callL (r:=(.str _,[])) ok132_ 1000 rfl rfl ?_ rfl;((repeat((conv=>lhs;whnf);simp only[go_sem,simprocAttr]));try rfl))
theorem zBw (o:Int) (h:50≤o∧o≤56):callL Tryz.prog zD 132 [.int .i64 o]=some (.str (uM (zP o))):=by
 have e:o=50∨o=51∨o=52∨o=53∨o=54∨o=55∨o=56:=by omega
 rcases e with rfl | rfl | rfl | rfl | rfl | rfl | rfl <;> (refine FX.callL (r:=(.str _,[])) ok132_ 1000 rfl rfl ?_ rfl;((repeat((conv=>lhs;whnf);simp only[go_sem,simprocAttr]));try rfl))
theorem zBx (o:Int) (h:57≤o∧o≤62):callL Tryz.prog zD 132 [.int .i64 o]=some (.str (uM (zP o))):=by
 have e:o=57∨o=58∨o=59∨o=60∨o=61∨o=62:=by omega
 rcases e with rfl | rfl | rfl | rfl | rfl | rfl <;> (refine FX.callL (r:=(.str _,[])) ok132_ 1000 rfl rfl ?_ rfl;((repeat((conv=>lhs;whnf);simp only[go_sem,simprocAttr]));try rfl))
theorem zBy (o:Int) (h:(o<1∨13<o)∧(o<20∨39<o)∧(o<50∨62<o)):callL Tryz.prog zD 132 [.int .i64 o]=some (.str (uM (zP o))):=by
 have e1 : ¬o=1:=by omega
 have e2 : ¬o=2:=by omega
 have e3 : ¬o=3:=by omega
 have e4 : ¬o=4:=by omega
 have e5 : ¬o=5:=by omega
 have e6 : ¬o=6:=by omega
 have e7 : ¬o=7:=by omega
 have e8 : ¬o=8:=by omega
 have e9 : ¬o=9:=by omega
 have e10 : ¬o=10:=by omega
 have e11 : ¬o=11:=by omega
 have e12 : ¬o=12:=by omega
 have e13 : ¬o=13:=by omega
 have e20 : ¬o=20:=by omega
 have e21 : ¬o=21:=by omega
 have e22 : ¬o=22:=by omega
 have e23 : ¬o=23:=by omega
 have e24 : ¬o=24:=by omega
 have e25 : ¬o=25:=by omega
 have e26 : ¬o=26:=by omega
 have e27 : ¬o=27:=by omega
 have e28 : ¬o=28:=by omega
 have e29 : ¬o=29:=by omega
 have e30 : ¬o=30:=by omega
 have e31 : ¬o=31:=by omega
 have e32 : ¬o=32:=by omega
 have e33 : ¬o=33:=by omega
 have e34 : ¬o=34:=by omega
 have e35 : ¬o=35:=by omega
 have e36 : ¬o=36:=by omega
 have e37 : ¬o=37:=by omega
 have e38 : ¬o=38:=by omega
 have e39 : ¬o=39:=by omega
 have e50 : ¬o=50:=by omega
 have e51 : ¬o=51:=by omega
 have e52 : ¬o=52:=by omega
 have e53 : ¬o=53:=by omega
 have e54 : ¬o=54:=by omega
 have e55 : ¬o=55:=by omega
 have e56 : ¬o=56:=by omega
 have e57 : ¬o=57:=by omega
 have e58 : ¬o=58:=by omega
 have e59 : ¬o=59:=by omega
 have e60 : ¬o=60:=by omega
 have e61 : ¬o=61:=by omega
 have e62 : ¬o=62:=by omega
 clear h;have hk:zP o=[]:=Xy ⟨e4,e12,e59,e60,e53,e28,e39⟩ ⟨by omega,by omega,by omega⟩ ⟨by omega,e55,e57,e58⟩;rw[hk];refine FX.callL (r:=(.str _,[])) ok132_ 1000 rfl rfl ?_ rfl;((repeat((conv=>lhs;whnf);simp only[go_sem,simprocAttr,e1,e2,e3,e4,e5,e6,e7,e8,e9,e10,e11,e12,e13,e20,e21,e22,e23,e24,e25,e26,e27,e28,e29,e30,e31,e32,e33,e34,e35,e36,e37,e38,e39,e50,e51,e52,e53,e54,e55,e56,e57,e58,e59,e60,e61,e62]));try rfl)
theorem zGd (o:Int):callL Tryz.prog zD 132 [.int .i64 o]=some (.str (uM (zP o))):=by
 by_cases ha:1≤o∧o≤7
 ·exact zBr o ha
 by_cases hb:8≤o∧o≤13
 ·exact zBs o hb
 by_cases hc:20≤o∧o≤26
 ·exact zBt o hc
 by_cases hd:27≤o∧o≤33
 ·exact zBu o hd
 by_cases he:34≤o∧o≤39
 ·exact zBv o he
 by_cases hf:50≤o∧o≤56
 ·exact zBw o hf
 by_cases hg:57≤o∧o≤62
 ·exact zBx o hg
 exact zBy o (by omega)
theorem xj (S:zB) (o:Int):zO (callL Tryz.prog zD) S 132 [.int .i64 o]=some {v:=.str (uM (zP o))} := zF (zGd o) (by simp[zh.int])
end
end
end Go.Vs

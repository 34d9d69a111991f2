
import Derived.Test.YtkaeejkajfinhaaGreatMD9
set_option linter.unusedVariables false
set_option linter.unusedSimpArgs false
set_option maxRecDepth 100000
namespace Go.Vs
open Go Go.Proofs
section
structure SlT (t el:TypeId) (sz bytes:Nat):Prop where
 d:(tyi Tryz.prog t).d=.slice el
 k:(tyi Tryz.prog el).known=true
 s:(tyi Tryz.prog el).size=sz
 b:(tyi Tryz.prog el).bytes=bytes
 z:qW (tyi Tryz.prog el)=true
theorem SlT.el {t el:TypeId} {sz bytes:Nat} (h:SlT t el sz bytes):xx (tyi Tryz.prog t)=el:=by simp[xx,h.d]
theorem SlT.is {t el:TypeId} {sz bytes:Nat} (h:SlT t el sz bytes):kA (tyi Tryz.prog t)=true:=by simp[kA,h.d]
theorem SlT.len {t el:TypeId} {sz bytes:Nat} (h:SlT t el sz bytes) (r:List (List PV)) (ex:Bool):yJ (tyi Tryz.prog t) (.sl r ex)=some (.int .i64 r.length):=zNR _ h.d r ex
theorem SlT.lenm {t el:TypeId} {sz bytes:Nat} (h:SlT t el sz bytes) (i o l:Nat) (ex:Bool):yJ (tyi Tryz.prog t) (.msl i o l ex)=some (.int .i64 l):=zKg _ h.d i o l ex
section
variable {α:Type} {t el:TypeId} {sz bytes:Nat} {enc:α→List PV}
theorem zFn (he : ∀a,(enc a).length=sz) (L:List α):yO sz (L.map enc)=true:=by
 simp[yO,he]
theorem zBM (L:List α) (d:α) {i:Nat} (h:i<L.length):(L.map enc).getD i []=enc (L.getD i d):=by
 simp[bM,h]
theorem SlT.idx (h:SlT t el sz bytes) (he : ∀a,(enc a).length=sz) (d:α) (S:zB) (L:List α) (ex:Bool) (i:Int):zI Tryz.prog t S (.sl (L.map enc) ex) (.int .i64 i)=if 0≤i∧i<L.length then some (.cp (enc (L.getD i.toNat d))) else none:=by
 simp only[zI,h.el,h.is,h.k,h.s,and_self,if_true,uF,BX]
 split
 ·rename_i hh;rw[zBM L d (by omega),bA (he _)]
 ·rfl
theorem SlT.idxm (h:SlT t el sz bytes) {S:zB} {id off n:Nat} {ex:Bool} {rows:List (List PV)} (i:Nat) (hS:zl S id=some rows) (hl:off+n≤rows.length) (h2:yO sz rows=true) (hi:i<n):zI Tryz.prog t S (.msl id off n ex) (.int .i64 i)=some (.mp id (off+i) 0):=by
 simp only[zI,h.el,h.is,h.k,h.s,and_self,if_true,uF,hS,bG];rw[bA ⟨by omega,by omega⟩,bA ⟨h2,hl⟩,bD]
theorem SlT.make (h:SlT t el sz bytes) {z:List PV} (hz:(tyi Tryz.prog el).zero=some z) (id n:Nat) (hn:bytes*n≤281474976710656) (hn2:n≤9223372036854775807):zJ Tryz.prog t id (.int .i64 n) (.int .i64 n)=some {v:=.msl id 0 n true,new:=some (List.replicate n z,some (some sz))} := by
 have hq:=h.z;simp only[qW,hz,h.s,bP,beq_iff_eq]at hq;simp only[zJ,h.d,hz,bG,h.b,h.s];have e:((bytes:Int)*(n:Int))≤281474976710656:=by
  have:((bytes*n:Nat):Int)=(bytes:Int)*(n:Int):=sR _ _;omega
 rw[bA ⟨by omega,by omega,e,by omega,hq.1,hq.2⟩];simp
theorem SlT.buildSlice (h:SlT t el sz bytes) (h0:0<sz) (id n:Nat) (is:List Nat) (rows:List (List PV)):zG Tryz.prog t id n is rows=if is=List.range n∧yO sz rows=true∧(rows.all fun r=>r.all PV.cell)=true∧n*sz≤16777216 then some {v:=.msl id 0 n true,new:=some (rows,some (some sz))} else none:=by
 have hq:=h.z;have e:(tyi Tryz.prog el).zero.isSome=true:=by
  unfold qW at hq
  split at hq
  ·rename_i z hz;rw[hz];rfl
  ·cases hq
 simp[zG,h.d,h.s,e,h0]
inductive RowsV (S:zB):PV→List (List PV)→Prop
 | sl (rows:List (List PV)) (ex:Bool):RowsV S (.sl rows ex) rows
 | msl (id:Nat) (rows:List (List PV)) (ex:Bool) (g:Option (Option Nat)) (f:Bool) (h:S[id]? = some (.arr rows g f)):RowsV S (.msl id 0 rows.length ex) rows
theorem RowsV.rowsIn {S:zB} {p:PV} {rows:List (List PV)} (h:RowsV S p rows):Vs.rowsIn S p=some rows:=by
 cases h with
 | sl rows ex=>rfl
 | msl id rows ex g f h =>
  rw[YP,xH h];simp
theorem RowsV.rowsS {S:zB} {p:PV} {rows:List (List PV)} (h:RowsV S p rows):Vs.rowsS S p=some rows:=by
 have:=h.rowsIn
 cases h <;> exact this
theorem SlT.appNil (h:SlT t el sz bytes) (b:Nat) (S:zB) {p:PV} {rows:List (List PV)} (hp:RowsV S p rows) (h2:yO sz rows=true) (h3:rows.length*bytes≤140737488355328) (h4:rows.length≤9223372036854775807):zR Tryz.prog b t t S (.sl [] true) p=some {v:=.msl S.length 0 rows.length false,S:=S++[.arr rows (some (some sz)) false]} := by
 have e5:wR bytes sz S S.length (.sl [] true) p=some {v:=.msl S.length 0 rows.length false,new:=some (rows,some (some sz))} := by
  have e6:Vs.rowsIn S (.sl [] true)=some []:=rfl;have e7:exact (.sl [] true)=true:=rfl;simp only[wR,e7,if_true,e6,hp.rowsS,bG,bV,pC];rw[bA ⟨rfl,h2,h3,h4⟩];by_cases h0:rows.length=0
  ·have:rows=[]:=pL h0;subst this;rfl
  ·rw[hZ h0];simp
 simp only[zR,exact,if_true,Ux,h.d,Vg,h.z,and_self,h.b,h.s,e5,pE,ub]
theorem SlT.app (h:SlT t el sz bytes) {b:Nat} {S:zB} {id:Nat} {rows new:List (List PV)} {g:Option Nat} {p:PV} (hS:S[id]? = some (.arr rows (some g) false)) (hb:b≤id) (hg:g=none∨g=some sz) (hp:RowsV S p new) (h1:yO sz rows=true) (h2:yO sz new=true) (h3:(rows.length+new.length)*bytes≤140737488355328) (h4:rows.length+new.length≤9223372036854775807) (h5:id ∉ zV rows) (h6:id ∉ zV new) :
  zR Tryz.prog b t t S (.msl id 0 rows.length false) p=some {v:=.msl id 0 (rows.length+new.length) false,S:=(S.map (yu [id])).set id (.arr (rows++new) (some (some sz)) false),kill:=[id]} := by
 have hk:=Wx (b:=b) (bytes:=bytes) (esz:=sz) (ex:=false) hS hp.rowsS hb rfl hg h1 h2 h3 h4 (by simp[h5,h6]);rw[←hk];simp only[zR,exact,bZ,if_false,h.d,Vg,h.z,and_self,if_true,h.b,h.s]
theorem SlT.copy (h:SlT t el sz bytes) {S:zB} {id n:Nat} {ex:Bool} {rows new:List (List PV)} {g:Option (Option Nat)} {p:PV} (hS:S[id]? = some (.arr rows g false)) (h1:rows.length=n) (h2:yO sz rows=true) (hp:RowsV S p new) (h4:yO sz new=true) (h3:new.length≤n) :
  zq Tryz.prog t t S (.msl id 0 n ex) p=some {v:=.int .i64 new.length,S:=S.set id (.arr (new++rows.drop new.length) g false)} := by
 simp only[zq,h.d,h.k,if_true,h.s,Yl,hS,hp.rowsIn,bG];rw[bA ⟨by omega,h2,h4⟩];have e1:new.take n=new:=aW h3;rw[e1,Nat.min_eq_left h3];simp
theorem SlT.firsts (h:SlT t el sz bytes) (S:zB) {rows:List (List PV)} (ex:Bool) (i:Nat) (hi:i≤rows.length) (h2:yO sz rows=true):zZ Tryz.prog t S (.sl rows ex) none (some (.int .i64 i)) none=some (.sl (rows.take i) false):=by
 simp[zZ,h.el,h.is,h.k,h.s,jG,h.d,vG,hi,h2]
end
def zE (k:IntKind) (L:List Int):List (List PV):=L.map fun w=>[.int k w]
@[go_sem] theorem zQ (k:IntKind) (L:List Int):(zE k L).length=L.length:=nr (by simp[zE])
@[go_sem] theorem xp (k:IntKind) (L:List Int):yO 1 (zE k L)=true:=nr (zFn (enc:=fun w:Int=>[.int k w]) (fun _=>rfl) L)
@[go_sem] theorem zm (k:IntKind) : ∀L:List Int,zV (zE k L)=[]
 | []=>rfl
 | a::r=>by
  have:=zm k r;simp only[zE,sD,yq]at this ⊢;rw[this];rfl
theorem yE (k:IntKind):zE k []=[]:=rfl
theorem xi (k:IntKind) (a:Int) (l:List Int):zE k (a::l)=[.int k a]::zE k l:=rfl
theorem qk (k:IntKind) (a b:List Int):zE k (a++b)=zE k a++zE k b:=by simp[zE]
theorem Yb (k:IntKind) (n:Nat) (x:Int):List.replicate n [PV.int k x]=zE k (List.replicate n x):=by simp[zE]
theorem xc (k:IntKind) (L:List Int) (i:Nat) (x:Int):(zE k L).set i [.int k x]=zE k (L.set i x):=by simp[zE,List.map_set]
theorem yt (k:IntKind) (L:List Int) {i:Nat} (h:i<L.length):(zE k L).getD i []=[.int k (L.getD i 0)]:=zBM L 0 h
theorem Ki (k:IntKind) (L:List Int) (n:Nat):(zE k L).take n=zE k (L.take n):=by simp[zE,List.map_take]
theorem zFo (k:IntKind) (L:List Int) (n:Nat):(zE k L).drop n=zE k (L.drop n):=by simp[zE,List.map_drop]
theorem SlT.idxk {t el:TypeId} {bytes:Nat} (h:SlT t el 1 bytes) (k:IntKind) (S:zB) (L:List Int) (ex:Bool) (i:Int):zI Tryz.prog t S (.sl (zE k L) ex) (.int .i64 i)=if 0≤i∧i<L.length then some (.cp [.int k (L.getD i.toNat 0)]) else none:=h.idx (fun _=>rfl) 0 S L ex i
theorem SlT.idxmk {t el:TypeId} {bytes:Nat} (h:SlT t el 1 bytes) (k:IntKind) {S:zB} {id off n:Nat} {ex:Bool} {L:List Int} (i:Nat) (hS:zl S id=some (zE k L)) (hl:off+n≤L.length) (hi:i<n):zI Tryz.prog t S (.msl id off n ex) (.int .i64 i)=some (.mp id (off+i) 0):=h.idxm i hS (by rw[zQ];exact hl) (xp k L) hi
theorem zIn (S:zB) (d:Nat) (k:IntKind) (L:List Int):xf (xf (vH S (d+1))) (zE k L)=some (zE k L):=by
 have:=Wy (f:=xf (vH S (d+1))) (g:=fun x=>x) (l:=zE k L) (fun a ha=>by
  obtain⟨w,_,rfl⟩:=aU.1 ha;rfl)
 simpa using this
theorem Wz {S:zB} {id n:Nat} {k:IntKind} {L:List Int} {ex:Bool} (h:zl S id=some (zE k L)) (hn:L.length=n) (d:Nat):vH S (d+2) (.msl id 0 n ex)=some (.sl (zE k L) false):=by
 have e1:rowsIn S (.msl id 0 n false)=some (zE k L):=by
  rw[YP,h];simp only[bG,pC,bY,zQ,hn,bF,if_true];rw[←hn,←zQ k L,SF]
 show ((rowsIn S (.msl id 0 n false)).bind fun rows=>(xf (xf (vH S (d+1))) rows).map fun rows=>PV.sl rows false)=_
 rw[e1];simp only[bG,zIn,pE]
theorem uV {S:zB} {id n:Nat} {k:IntKind} {L:List Int} {ex:Bool} (h:zl S id=some (zE k L)) (hn:L.length=n):vI S (.msl id 0 n ex)=some (.sl (zE k L) false):=Wz (ex:=ex) h hn 6
theorem zAF {S:zB} {id:Nat} {rows:List (List PV)} (h:zl S id=some rows) (hr:zV rows=[]) (d:Nat):wV S (d+1) [id]=[id]:=by
 simp[zKo,h,hr,zFm]
theorem wW {S:zB} {f:FuncId} {id n:Nat} {k:IntKind} {L:List Int} {ex:Bool} {v:PV} (hc:callL Tryz.prog zD f [.sl (zE k L) false]=some v) (h:zl S id=some (zE k L)) (hn:L.length=n) (hid:id<S.length):zO (callL Tryz.prog zD) S f [.msl id 0 n ex]=some {v,fz:=[id]} := by
 have e:(List.flatMap PV.refs [PV.msl id 0 n ex])=[id]:=rfl;unfold zO;rw[e,zAF h (zm k L)];simp only[HY,BP,pD,bH hid,if_true,xf,uV h hn,bG,hc,pE]
end
def zM (b:Nat):List Int→Int
 | []=>0
 | w::r=>w+b*zM b r
def OkD (b:Nat) (l:List Int):Prop:=∀w∈l,0≤w∧w<b
def wx:List Int→List Int
 | []=>[]
 | w::r=>if wx r=[]∧w=0 then [] else w::wx r
def xy (b:Nat) (n:Nat):List Int:=if h:n=0∨b<2 then [] else ((n % b:Nat):Int)::xy b (n / b)
termination_by n
decreasing_by exact SG (by omega) (by omega)
theorem xI (b:Nat):xy b 0=[]:=by rw[xy];simp
theorem vp {b n:Nat} (hb:2≤b) (hn:n≠0):xy b n=((n % b:Nat):Int)::xy b (n / b):=by
 rw[xy,dif_neg (by omega)]
theorem OkD.tail {b:Nat} {w:Int} {l:List Int} (h:OkD b (w::l)):OkD b l:=fun x hx=>h x (List.mem_cons_of_mem _ hx)
theorem OkD.head {b:Nat} {w:Int} {l:List Int} (h:OkD b (w::l)):0≤w∧w<b:=h w (by simp)
theorem OkD.cons {b:Nat} {w:Int} {l:List Int} (h:0≤w∧w<b) (hl:OkD b l):OkD b (w::l):=fun x hx=>by
 rcases aF.1 hx with rfl | hx
 ·exact h
 ·exact hl x hx
theorem OkD.nil (b:Nat):OkD b []:=fun x hx=>by cases hx
theorem OkD.append {b:Nat} {l m:List Int} (h:OkD b l) (hm:OkD b m):OkD b (l++m):=fun x hx=>by
 rcases sG.1 hx with hx | hx
 ·exact h x hx
 ·exact hm x hx
theorem OkD.getD {b:Nat} {l:List Int} (h:OkD b l) (hb:0<b) (i:Nat):0≤l.getD i 0∧l.getD i 0<b:=by
 by_cases hi:i<l.length
 ·have:=h (l.getD i 0) (by simp[bM,hi]);exact this
 ·rw[bM,sE (by omega)];exact⟨HS 0,by simp;omega⟩
theorem yn {b:Nat} : ∀ {l:List Int},OkD b l→0≤zM b l
 | [],_=>HS 0
 | w::r,h=>by
  have h1:=h.head;have h2:=yn h.tail;have h3:0≤(b:Int)*zM b r:=aH (by omega) h2;rw[zM];omega
theorem zw (b:Nat) : ∀(l m:List Int),zM b (l++m)=zM b l+(b:Int)^l.length*zM b m
 | [],m=>by simp[zM]
 | w::l,m=>by
  rw[sB,zM,zw b l m,zM,bL,aA];rw[bW,PQ,←pM,pK ((b:Int)^l.length) b]
theorem uc {b:Nat} : ∀ {l:List Int},OkD b l→zM b l<(b:Int)^l.length
 | [],_=>by simp[zM]
 | w::r,h=>by
  have h1:=h.head;have h2:=uc h.tail;have h3:(b:Int)*(zM b r+1)≤(b:Int)*(b:Int)^r.length:=sL (by omega) (by omega);rw[bW]at h3;rw[zM,bL,aA,pK ((b:Int)^r.length)];omega
theorem zAG (b:Nat) : ∀l:List Int,zM b (wx l)=zM b l
 | []=>rfl
 | w::r=>by
  have ih:=zAG b r;rw[wx]
  split
  ·rename_i h;rw[h.1]at ih
   show 0=w+b*zM b r
   rw[←ih,h.2];simp[zM]
  ·rw[zM,zM,ih]
theorem YQ : ∀l:List Int,(wx l).length≤l.length
 | []=>bF 0
 | w::r=>by
  have:=YQ r;rw[wx]
  split
  ·simp
  ·simp only[bL];omega
theorem ZP : ∀l:List Int,wx (l++[0])=wx l
 | []=>by simp[wx]
 | w::r=>by rw[sB,wx,wx,ZP r]
theorem YR {x:Int} (hx:x≠0) : ∀l:List Int,wx (l++[x])=l++[x]
 | []=>by simp[wx,hx]
 | w::r=>by
  rw[sB,wx,YR hx r,hZ];intro h;have:=h.1;simp at this
theorem kt {b:Nat} (hb:2≤b) : ∀ {l:List Int},OkD b l→wx l=xy b (zM b l).toNat
 | [],_=>by rw[wx,zM];exact (xI b).symm
 | w::r,h=>by
  have ih:=kt hb h.tail;have h1:=h.head;have h2:=yn h.tail;have h3:0≤(b:Int)*zM b r:=aH (by omega) h2;rw[wx];by_cases hc:wx r=[]∧w=0
  ·rw[bA hc];have:zM b r=0:=by rw[←zAG b r,hc.1];rfl
   rw[zM,this,hc.2];simp[xI]
  ·rw[hZ hc];have hne:(zM b (w::r)).toNat≠0:=by
    intro h0;have e:w+b*zM b r=0:=by rw[zM]at h0;omega
    have hw:w=0:=by omega
    have hbr:(b:Int)*zM b r=0:=by omega
    have hr:zM b r=0:=by
     rcases Int.mul_eq_zero.1 hbr with h | h
     ·omega
     ·exact h
    refine hc ⟨?_,hw⟩;rw[ih,hr];exact xI b
   rw[vp hb hne,ih];have e1:(zM b (w::r)).toNat=w.toNat+b*(zM b r).toNat:=by
    rw[zM];have e2:((b*(zM b r).toNat:Nat):Int)=(b:Int)*zM b r:=by
     rw[sR,Int.toNat_of_nonneg h2]
    omega
   have hwb:w.toNat<b:=by omega
   rw[e1]
   congr 1
   ·rw[Nat.add_mul_mod_self_left,aP hwb];omega
   ·rw[Nat.add_mul_div_left _ _ (by omega),HQ hwb,pC]
theorem Uy {b:Nat} (hb:2≤b) (n:Nat):OkD b (xy b n):=by
 induction n using Nat.strongRecOn with
 | ind n ih =>
  by_cases h:n=0
  ·subst h;rw[xI];exact .nil b
  ·rw[vp hb h];exact .cons ⟨by omega,by have:=aV n (show 0<b by omega);omega⟩ (ih _ (SG (by omega) (by omega)))
theorem Zp {b:Nat} (hb:2≤b) (n:Nat):zM b (xy b n)=n:=by
 induction n using Nat.strongRecOn with
 | ind n ih =>
  by_cases h:n=0
  ·subst h;rw[xI];rfl
  ·rw[vp hb h,zM,ih _ (SG (by omega) (by omega))];have:=Nat.mod_add_div n b;have e:((b*(n / b):Nat):Int)=(b:Int)*((n / b:Nat):Int):=sR _ _;omega
theorem zAH {b:Nat} (hb:2≤b) (n:Nat):wx (xy b n)=xy b n:=by
 rw[kt hb (Uy hb n),Zp hb,bD]
theorem zNV {b:Nat} (hb:2≤b) {l:List Int} (h:OkD b l) (hl : ∀x r,l=r++[x]→x≠0):l=xy b (zM b l).toNat:=by
 rw[←kt hb h]
 rcases List.eq_nil_or_concat l with rfl | ⟨r,x,rfl⟩
 ·rfl
 ·rw[List.concat_eq_append]at hl ⊢;rw[YR (hl x r rfl)]
theorem vL {b n:Nat} (hb:2≤b):xy b n=[]↔n=0:=by
 constructor
 ·intro h;by_cases h0:n=0
  ·exact h0
  ·rw[vp hb h0]at h;cases h
 ·rintro rfl;exact xI b
theorem xS {b:Nat} (hb:2≤b) : ∀(k n:Nat),(xy b n).length≤k↔n<b^k
 | 0,n=>by
  rw[Nat.pow_zero,Nat.le_zero,AD,vL hb];omega
 | k+1,n=>by
  by_cases h:n=0
  ·subst h;rw[xI];simp;exact HG (by omega)
  ·rw[vp hb h,bL,Nat.add_le_add_iff_right,xS hb k (n / b),Nat.pow_succ,PK (by omega)]
theorem vE {b m n:Nat} (hb:2≤b) (h:m≤n):(xy b m).length≤(xy b n).length :=
 (xS hb _ m).2 (Nat.lt_of_le_of_lt h ((xS hb _ n).1 (bF _)))
theorem zHv {b:Nat} (hb:2≤b) (n:Nat):n<b^(xy b n).length:=(xS hb _ n).1 (bF _)
theorem zD1 {b m n k:Nat} (hb:2≤b) (hm:(xy b m).length≤k) (hn:(xy b n).length≤k):(xy b (m+n)).length≤k+1:=by
 rw[xS hb]at *;rw[Nat.pow_succ];have:b^k*2≤b^k*b:=SH _ hb;omega
theorem zD2 {b m n j k:Nat} (hb:2≤b) (hm:(xy b m).length≤j) (hn:(xy b n).length≤k):(xy b (m*n)).length≤j+k:=by
 rw[xS hb]at *;rw[HL];exact Nat.mul_lt_mul'' hm hn
theorem XZ {b n:Nat} (hb:2≤b) (h:n≠0):(xy b n).getD ((xy b n).length-1) 0≠0:=by
 have hne:xy b n≠[]:=fun e=>h ((vL hb).1 e)
 rcases List.eq_nil_or_concat (xy b n) with e | ⟨r,x,e⟩
 ·exact absurd e hne
 ·rw[List.concat_eq_append]at e;rw[e];have hx:x≠0:=by
   intro hx;subst hx;have a:=zAH hb n;rw[e,ZP]at a;have:=YQ r;rw[a]at this;simp at this;omega
  simpa [bM] using hx
theorem zKr {b m n:Nat} (hb:2≤b) (h:xy b m=xy b n):m=n:=by
 have a:=Zp hb m;rw[h,Zp hb]at a;omega
theorem zD3 {b:Nat} : ∀ {l m:List Int},OkD b l→OkD b m→l.length=m.length→∀ {x y:Int},0≤x→x<b→0≤y→y<b→x<y→zM b (l++[x])<zM b (m++[y]):=by
 intro l m hl hm he x y hx hx' hy hy' hlt;rw[zw,zw,he];have h1:=uc hl;have h2:=yn hm;rw[he]at h1;have h3:(b:Int)^m.length*(x+1)≤(b:Int)^m.length*y:=sL (by omega) (Int.pow_nonneg (by omega));rw[bW,Int.mul_one]at h3;simp only[zM,HM,PR];omega
section
theorem wC:SlT 25 126 1 4:=⟨by kernel_rfl,by kernel_rfl,by kernel_rfl,by kernel_rfl,by kernel_rfl⟩
@[go_sem] theorem zU8 (r:List (List PV)) (ex:Bool):yJ (tyi Tryz.prog 25) (.sl r ex)=some (.int .i64 r.length):=wC.len r ex
@[go_sem] theorem zTY (i o l:Nat) (ex:Bool):yJ (tyi Tryz.prog 25) (.msl i o l ex)=some (.int .i64 l):=wC.lenm i o l ex
@[go_sem] theorem zU9 (S:zB) (L:List Int) (ex:Bool) (i:Int):zI Tryz.prog 25 S (.sl (zE .u32 L) ex) (.int .i64 i)=if 0≤i∧i<L.length then some (.cp [.int .u32 (L.getD i.toNat 0)]) else none:=wC.idxk .u32 S L ex i
@[go_sem] theorem Vp:(tyi Tryz.prog 126).known=true:=nr (by kernel_rfl)
@[go_sem] theorem zRV:(tyi Tryz.prog 126).size=1:=nr (by kernel_rfl)
@[go_sem] theorem zRW (v:PV) (r:List PV):part (tyi Tryz.prog 126) (v::r)=some v:=by
 have e:(tyi Tryz.prog 126).isAgg=false:=by kernel_rfl
 simp[part,Vp,e]
theorem zRX:(tyi Tryz.prog 126).d=.int .u32:=by kernel_rfl
theorem zOT:(tyi Tryz.prog 161).d=.int .u64:=by kernel_rfl
theorem zAI:(tyi Tryz.prog 161).known=true:=by kernel_rfl
@[go_sem] theorem zNW (S:zB) (k:IntKind) (n:Int):zL Tryz.prog 126 161 S (.int k n)=some (.int .u64 (IntKind.u64.wrap n)):=by simp[zL,Vp,xN,zOT]
@[go_sem] theorem zNX (S:zB) (k:IntKind) (n:Int):zL Tryz.prog 161 126 S (.int k n)=some (.int .u32 (IntKind.u32.wrap n)):=by simp[zL,zAI,xN,zRX]
@[go_sem] theorem zRY (id n:Nat) (is:List Nat) (rows:List (List PV)):zG Tryz.prog 25 id n is rows=if is=List.range n∧yO 1 rows=true∧(rows.all fun r=>r.all PV.cell)=true∧n*1≤16777216 then some {v:=.msl id 0 n true,new:=some (rows,some (some 1))} else none:=wC.buildSlice (by decide) id n is rows
theorem zKs:(tyi Tryz.prog 126).zero=some [.int .u32 0]:=by kernel_rfl
theorem ZQ (id n:Nat) (hn:n≤40000000000000):zJ Tryz.prog 25 id (.int .i64 n) (.int .i64 n)=some {v:=.msl id 0 n true,new:=some (zE .u32 (List.replicate n 0),some (some 1))} := by
 rw[wC.make zKs id n (by omega) (by omega),Yb]
abbrev WB:Nat:=4294967296
def words (n:Nat):List Int:=xy WB n
def yM (n:Nat):PV:=.sl (zE .u32 (words n)) false
theorem WB2:2≤WB:=by decide
section
attribute [local irreducible] Vs.callL Vs.callRL tyi zO zn zg zR zY za zI zZ zA zK ze zX zG zJ zW zr yJ zq zL zf Vs.gc zH
noncomputable def zFp:FX:=⟨Tryz.f152,zD.of 152,[]⟩
instance ok152_:zFp.ok 152:=FX.mk'
theorem zIo (fs:List Fr) {z:PV × zB} : ∀(n:Nat) (L:List Int),L.length=n→n≤maxLen→yB 0 zFp 0 fs [(0,.sl (zE .u32 (wx L)) false),(14,.undef)] []=some z→zU 0 zFp 0 24 0 fs [(0,.sl (zE .u32 L) false)] []=some z:=by
 have hm:=xZ;intro n
 induction n with
 | zero =>
  intro L hL hn hz;obtain rfl:L=[]:=pL hL;apply zC;(repeat((conv=>lhs;whnf);simp only[go_sem,simprocAttr,yE]));exact hz
 | succ n ih =>
  intro L hL hn hz
  rcases List.eq_nil_or_concat L with rfl | ⟨r,x,rfl⟩
  ·simp at hL
  ·rw[List.concat_eq_append]at hL hz ⊢;have hr:r.length=n:=by simpa using hL
   have h0:(0:Int)<(r.length:Int)+1:=by omega
   have w1:IntKind.i64.wrap ((r.length:Int)+1-1)=(r.length:Int):=by rw[bE];omega
   have h1:0≤(r.length:Int)∧(r.length:Int)<(r.length:Int)+1:=⟨by omega,by omega⟩;have g1:(r++[x]).getD r.length 0=x:=by simp[bM]
   have t1:(zE .u32 (r++[x])).take r.length=zE .u32 r:=by rw[Ki];simp
   have sl:=wC.firsts [] (rows:=zE .u32 (r++[x])) false r.length (by rw[zQ,bN];omega) (xp .u32 _);rw[t1]at sl;apply zC;by_cases hx:x=0
   ·subst hx;rw[ZP]at hz;have key:=ih r hr (by omega) hz;(repeat((conv=>lhs;whnf);simp only[go_sem,simprocAttr,bN,BQ,Int.cast_ofNat_Int,h0,w1,h1,bD,g1,sl]));exact key
   ·rw[YR hx]at hz;(repeat((conv=>lhs;whnf);simp only[go_sem,simprocAttr,bN,BQ,Int.cast_ofNat_Int,h0,w1,h1,bD,g1,hx]));exact hz
theorem zIp (L:List Int) (hL:L.length≤maxLen):callL Tryz.prog zD 152 [.sl (zE .u32 L) false]=some (.sl (zE .u32 (wx L)) false):=by
 refine FX.callL (r:=(.sl (zE .u32 (wx L)) false,[])) ok152_ 1000 rfl rfl ?_ (wr _ _);(repeat((conv=>lhs;whnf);simp only[go_sem,simprocAttr]));refine zIo _ L.length L rfl hL ?_;apply zN;((repeat((conv=>lhs;whnf);simp only[go_sem,simprocAttr]));try rfl)
theorem ws {L:List Int} (hL:L.length≤maxLen) (h:OkD WB L):callL Tryz.prog zD 152 [.sl (zE .u32 L) false]=some (yM (zM WB L).toNat):=by
 rw[zIp L hL,kt WB2 h];rfl
end
end
section
theorem xL (n:Int):IntKind.u64.wrap n=n % 18446744073709551616:=by
 simp[IntKind.wrap,IntKind.bits,IntKind.signed]
@[go_sem] theorem zQ4:(2:Int)^min 32 64=4294967296:=nr (by decide)
@[go_sem] theorem zQ5:(2:Int)^min 63 64=9223372036854775808:=nr (by decide)
@[go_sem] theorem zTZ (a:Int):a.fdiv 4294967296=a / 4294967296:=PB _ (by decide)
@[go_sem] theorem zT0 (a:Int):a.fdiv 9223372036854775808=a / 9223372036854775808:=PB _ (by decide)
def bor (k:IntKind) (a b:Int):Int:=k.wrap (BitVec.ofInt k.bits a ||| BitVec.ofInt k.bits b).toNat
@[go_sem ↓] theorem zRZ (k:IntKind) (a b:Int):k.wrap (BitVec.ofInt k.bits a ||| BitVec.ofInt k.bits b).toNat=bor k a b:=rfl
theorem Zq {h l:Int} (hh:0≤h∧h<4294967296) (hl:0≤l∧l<4294967296):bor .u64 (h*4294967296) l=h*4294967296+l:=by
 obtain⟨a,rfl⟩ : ∃a:Nat,h=a:=⟨h.toNat,by omega⟩;obtain⟨b,rfl⟩ : ∃b:Nat,l=b:=⟨l.toNat,by omega⟩;have e1:((a:Int)*4294967296)=((a*4294967296:Nat):Int):=by omega
 rw[e1]
 show IntKind.u64.wrap (((BitVec.ofInt 64 ((a*4294967296:Nat):Int) ||| BitVec.ofInt 64 (b:Int)).toNat:Nat):Int)=_
 rw[BitVec.toNat_or,PS,PS,PT,PT,aP (by omega),aP (by omega)];have e2:a*4294967296 ||| b=a*4294967296+b:=by
  have:=Nat.shiftLeft_add_eq_or_of_lt (i:=32) (b:=b) (by omega) a;rw[Nat.shiftLeft_eq]at this;exact this.symm
 rw[e2,xL];omega
theorem xG (n:Nat):OkD WB (words n):=Uy WB2 n
theorem xU (n:Nat):zM WB (words n)=n:=Zp WB2 n
def yD (n:Nat) (ex:Bool):PV:=.sl (zE .u32 (words n)) ex
section
attribute [local irreducible] Vs.callL Vs.callRL tyi zO zn zg zR zY za zI zZ zA zK ze zX zG zJ zW zr yJ zq zL zf Vs.gc zH
noncomputable def zPC:FX:=⟨Tryz.f170,zD.of 170,[]⟩
instance ok170_:zPC.ok 170:=FX.mk'
theorem zAJ (n:Nat) (hn:n<18446744073709551616):callL Tryz.prog zD 170 [.int .u64 n]=some (yM n):=by
 have e1:IntKind.u32.wrap (n:Int)=((n % 4294967296:Nat):Int):=by rw[pV];omega
 have e2:IntKind.u32.wrap ((n:Int) / 4294967296)=((n / 4294967296:Nat):Int):=by rw[pV];omega
 have hL:OkD WB [((n % 4294967296:Nat):Int),((n / 4294967296:Nat):Int)]:=.cons ⟨by omega,by show _<((4294967296:Nat):Int);omega⟩ (.cons ⟨by omega,by show _<((4294967296:Nat):Int);omega⟩ (.nil _));have ct:=ws (L:=[((n % 4294967296:Nat):Int),((n / 4294967296:Nat):Int)]) (show 2≤maxLen by decide) hL;have ev:(zM WB [((n % 4294967296:Nat):Int),((n / 4294967296:Nat):Int)]).toNat=n:=by
  show (((n % 4294967296:Nat):Int)+((4294967296:Nat):Int)*(((n / 4294967296:Nat):Int)+((4294967296:Nat):Int)*0)).toNat=n
  omega
 rw[ev]at ct;have c1:=wW (S:=[.arr (zE .u32 [((n % 4294967296:Nat):Int),((n / 4294967296:Nat):Int)]) (some (some 1)) false]) (id:=0) (n:=2) (ex:=true) ct rfl rfl (by simp);have er:[[PV.int .u32 ((n % 4294967296:Nat):Int)],[PV.int .u32 ((n / 4294967296:Nat):Int)]]=zE .u32 [((n % 4294967296:Nat):Int),((n / 4294967296:Nat):Int)]:=rfl;refine FX.callL (r:=(yM n,zH [.arr (zE .u32 [((n % 4294967296:Nat):Int),((n / 4294967296:Nat):Int)]) (some (some 1)) false] [0])) ok170_ 1000 rfl rfl ?_ (wr _ _);((repeat((conv=>lhs;whnf);simp only[go_sem,simprocAttr,e1,e2,er,c1]));try rfl)
noncomputable def zPD:FX:=⟨Tryz.f176,zD.of 176,[]⟩
instance ok176_:zPD.ok 176:=FX.mk'
theorem zFq (n:Nat) (ex:Bool):callL Tryz.prog zD 176 [yD n ex]=some (if n<18446744073709551616 then .tup [.int .u64 n,.bool true] else .tup [.int .u64 0,.bool false]):=by
 have ho:=xG n;have hv:=xU n;have hl:=xS WB2 2 n;have hl':(words n).length≤2↔n<18446744073709551616:=hl;unfold yD;generalize words n=L at *
 rcases L with _ | ⟨a,_ | ⟨b,_ | ⟨c,L⟩⟩⟩
 ·rw[bA (hl'.1 (by simp))];have e:n=0:=by
   have:(n:Int)=0:=hv.symm;omega
  subst e;refine FX.callL (r:=(.tup [.int .u64 0,.bool true],[])) ok176_ 1000 rfl rfl ?_ rfl;((repeat((conv=>lhs;whnf);simp only[go_sem,simprocAttr]));try rfl)
 ·rw[bA (hl'.1 (by simp))];have h1:=ho.head;have e:(n:Int)=a:=by
   have:a+((4294967296:Nat):Int)*0=(n:Int):=hv;omega
  rw[e];have w:IntKind.u64.wrap a=a:=by
   have:a<((4294967296:Nat):Int):=h1.2;rw[xL];omega
  refine FX.callL (r:=(.tup [.int .u64 a,.bool true],[])) ok176_ 1000 rfl rfl ?_ rfl;have g0:([a]:List Int).getD (Int.toNat 0) 0=a:=rfl;((repeat((conv=>lhs;whnf);simp only[go_sem,simprocAttr,w,g0]));try rfl)
 ·rw[bA (hl'.1 (by simp))];have h1:=ho.head;have h2:=ho.tail.head;have h1':a<4294967296:=h1.2;have h2':b<4294967296:=h2.2;have e:(n:Int)=b*4294967296+a:=by
   have:a+((4294967296:Nat):Int)*(b+((4294967296:Nat):Int)*0)=(n:Int):=hv;omega
  rw[e];have w:IntKind.u64.wrap a=a:=by rw[xL];omega
  have w2:IntKind.u64.wrap b=b:=by rw[xL];omega
  have w3:IntKind.u64.wrap (b*4294967296)=b*4294967296:=by rw[xL];omega
  have o:=Zq ⟨h2.1,h2'⟩ ⟨h1.1,h1'⟩;refine FX.callL (r:=(.tup [.int .u64 (b*4294967296+a),.bool true],[])) ok176_ 1000 rfl rfl ?_ rfl;have g0:([a,b]:List Int).getD 0 0=a:=rfl;have g1:([a,b]:List Int).getD 1 0=b:=rfl;have l0:(0:Int)≤0∧(0:Int)<((2:Nat):Int):=by decide
  have l1:(0:Int)≤1∧(1:Int)<((2:Nat):Int):=by decide
  ((repeat((conv=>lhs;whnf);simp only[go_sem,simprocAttr,w,w2,w3,g0,g1,o]));try rfl)
 ·rw[hZ (fun h=>by have:=hl'.2 h;simp at this)];have z0 : ¬((L.length:Int)+1+1+1=0):=by omega
  have z1 : ¬((L.length:Int)+1+1+1=1):=by omega
  have z2 : ¬((L.length:Int)+1+1+1=2):=by omega
  refine FX.callL (r:=(.tup [.int .u64 0,.bool false],[])) ok176_ 1000 rfl rfl ?_ rfl;((repeat((conv=>lhs;whnf);simp only[go_sem,simprocAttr,BQ,Int.cast_ofNat_Int,z0,z1,z2]));try rfl)
end
end
section
def xt (m n:Nat):Int:=if m<n then -1 else if n<m then 1 else 0
def ul (m n:Int):Int:=if m<n then -1 else if n<m then 1 else 0
theorem zAK (m n:Nat):ul m n=xt m n:=by
 unfold ul xt;by_cases h:m<n
 ·rw[bA h,bA (by omega)]
 ·rw[hZ h,hZ (by omega)];by_cases h2:n<m
  ·rw[bA h2,bA (by omega)]
  ·rw[hZ h2,hZ (by omega)]
theorem YS (L:List Int) {k:Nat} (h:k<L.length):L=L.take k++[L.getD k 0]++L.drop (k+1):=by
 have:L.drop k=L.getD k 0::L.drop (k+1):=by
  rw[PU h];simp[bM,h]
 rw[pB,List.singleton_append,←this,HR]
theorem xA (L:List Int) {k:Nat} (h:k<L.length):L.drop k=L.getD k 0::L.drop (k+1):=by
 rw[PU h];simp[bM,h]
theorem OkD.take {b:Nat} {l:List Int} (h:OkD b l) (k:Nat):OkD b (l.take k):=fun x hx=>h x (HW hx)
theorem OkD.drop {b:Nat} {l:List Int} (h:OkD b l) (k:Nat):OkD b (l.drop k):=fun x hx=>h x (BV hx)
theorem zAL {A B:List Int} (hA:OkD WB A) (hB:OkD WB B) (hl:A.length=B.length) {k:Nat} (hk:k<A.length) (hs:A.drop (k+1)=B.drop (k+1)) (hlt:A.getD k 0<B.getD k 0):zM WB A<zM WB B:=by
 have eA:zM WB A=_:=(congrArg (zM WB) (YS A hk)).trans (zw WB _ _);have eB:zM WB B=_:=(congrArg (zM WB) (YS B (k:=k) (by omega))).trans (zw WB _ _);rw[eA,eB,hs];have ha:=hA.getD (by decide) k;have hb:=hB.getD (by decide) k;have h:=zD3 (hA.take k) (hB.take k) (by simp;omega) ha.1 ha.2 hb.1 hb.2 hlt;have e:(A.take k++[A.getD k 0]).length=(B.take k++[B.getD k 0]).length:=by simp;omega
 rw[e];omega
section
attribute [local irreducible] Vs.callL Vs.callRL tyi zO zn zg zR zY za zI zZ zA zK ze zX zG zJ zW zr yJ zq zL zf Vs.gc zH
noncomputable def zKt:FX:=⟨Tryz.f115,zD.of 115,[]⟩
instance ok115_:zKt.ok 115:=FX.mk'
theorem zKu (A B:List Int) (e1 e2:Bool) (hA:OkD WB A) (hB:OkD WB B) (hl:A.length=B.length) (hm:A.length≤maxLen) : ∀(k:Nat) (i:Int),i=(k:Int)-1→k≤A.length→A.drop k=B.drop k→zU 0 zKt 0 116 0 [.blk 0,.seq 0 15] [(0,.sl (zE .u32 A) e1),(1,.sl (zE .u32 B) e2),(5,.int .i64 i)] []=some (.int .i64 (ul (zM WB A) (zM WB B)),[]):=by
 have hM:=xZ;intro k
 induction k with
 | zero =>
  intro i hi hk hs;have c : ¬ 0≤i:=by omega
  have e:A=B:=by simpa using hs
  subst e;have z:ul (zM WB A) (zM WB A)=0:=by unfold ul;rw[hZ (by omega),hZ (by omega)]
  rw[z];apply zC;(repeat((conv=>lhs;whnf);simp only[go_sem,simprocAttr,c]));apply zN;((repeat((conv=>lhs;whnf);simp only[go_sem,simprocAttr]));try rfl)
 | succ k ih =>
  intro i hi hk hs;have hi':i=(k:Int):=by omega
  subst hi';have c:(0:Int)≤(k:Int):=by omega
  have x1:0≤(k:Int)∧(k:Int)<(A.length:Int):=⟨by omega,by omega⟩;have x2:0≤(k:Int)∧(k:Int)<(B.length:Int):=⟨by omega,by omega⟩;have w:IntKind.i64.wrap ((k:Int)-1)=(k:Int)-1:=by rw[bE];omega
  apply zC;by_cases h1:A.getD k 0=B.getD k 0
  ·have key:=ih _ rfl (by omega) (by rw[xA A (by omega),xA B (by omega),h1,hs]);(repeat((conv=>lhs;whnf);simp only[go_sem,simprocAttr,c,x1,x2,bD,h1,w]));exact key
  ·by_cases h2:A.getD k 0<B.getD k 0
   ·have hv:=zAL hA hB hl (k:=k) (by omega) hs h2;have z:ul (zM WB A) (zM WB B) = -1:=by unfold ul;rw[bA hv]
    rw[z];((repeat((conv=>lhs;whnf);simp only[go_sem,simprocAttr,c,x1,x2,bD,h1,h2]));try rfl)
   ·have hv:=zAL hB hA hl.symm (k:=k) (by omega) hs.symm (by omega);have z:ul (zM WB A) (zM WB B)=1:=by unfold ul;rw[hZ (by omega),bA hv]
    rw[z];((repeat((conv=>lhs;whnf);simp only[go_sem,simprocAttr,c,x1,x2,bD,h1,h2]));try rfl)
theorem VA (m n:Nat) (e1 e2:Bool) (hm:(words m).length≤maxLen) (hn:(words n).length≤maxLen):callL Tryz.prog zD 115 [yD m e1,yD n e2]=some (.int .i64 (xt m n)):=by
 have hM:=xZ;unfold yD;by_cases hl:(words m).length=(words n).length
 ·have key:=zKu (words m) (words n) e1 e2 (xG m) (xG n) hl hm (words m).length ((words m).length-1) rfl (bF _) (by rw[HT,hl,HT]);rw[xU,xU,zAK]at key;have w:IntKind.i64.wrap (((words m).length:Int)-1)=((words m).length:Int)-1:=by rw[bE];omega
  have c:((words m).length:Int)=((words n).length:Int):=by omega
  rw[c]at w;rw[c]at key;refine FX.callL (r:=(.int .i64 (xt m n),[])) ok115_ 1000 rfl rfl ?_ rfl;(repeat((conv=>lhs;whnf);simp only[go_sem,simprocAttr,c,w]));exact key
 ·have c : ¬((words m).length:Int)=((words n).length:Int):=by omega
  by_cases h2:(words m).length<(words n).length
  ·have hmn:m<n:=by
    by_cases h:m<n
    ·exact h
    ·have:=vE WB2 (show n≤m by omega);unfold words at h2;omega
   have z:xt m n = -1:=by unfold xt;rw[bA hmn]
   rw[z];have c2:((words m).length:Int)<((words n).length:Int):=by omega
   refine FX.callL (r:=(.int .i64 (-1),[])) ok115_ 1000 rfl rfl ?_ rfl;((repeat((conv=>lhs;whnf);simp only[go_sem,simprocAttr,c,c2]));try rfl)
  ·have hmn:n<m:=by
    by_cases h:n<m
    ·exact h
    ·have:=vE WB2 (show m≤n by omega);unfold words at h2 hl;omega
   have z:xt m n=1:=by unfold xt;rw[hZ (by omega),bA hmn]
   rw[z];have c2 : ¬((words m).length:Int)<((words n).length:Int):=by omega
   refine FX.callL (r:=(.int .i64 1,[])) ok115_ 1000 rfl rfl ?_ rfl;((repeat((conv=>lhs;whnf);simp only[go_sem,simprocAttr,c,c2]));try rfl)
end
def Zr:List Int→List Int→Int→List Int
 | [],_,_=>[]
 | x::a,b,c=>(x-c-b.headD 0) % 4294967296::Zr a b.tail (if x-c-b.headD 0<0 then 1 else 0)
def zBN:List Int→List Int→Int→Int
 | [],_,c=>c
 | x::a,b,c=>zBN a b.tail (if x-c-b.headD 0<0 then 1 else 0)
theorem Kj {b:List Int} (h:OkD WB b):0≤b.headD 0∧b.headD 0<4294967296:=by
 cases b with
 | nil=>exact⟨HS 0,by simp⟩
 | cons x b=>exact h.head
theorem zBO {b:List Int} (h:OkD WB b):OkD WB b.tail:=by
 cases b with
 | nil=>exact h
 | cons x b=>exact h.tail
theorem zBP (b:List Int):zM WB b=b.headD 0+4294967296*zM WB b.tail:=by
 cases b with
 | nil=>simp[zM]
 | cons x b=>rfl
theorem zD4 : ∀(a b:List Int) (c:Int),OkD WB a→OkD WB b→b.length≤a.length→(c=0∨c=1)→OkD WB (Zr a b c)∧(Zr a b c).length=a.length∧(zBN a b c=0∨zBN a b c=1)∧zM WB (Zr a b c)=zM WB a-zM WB b-c+(4294967296:Int)^a.length*zBN a b c
 | [],b,c,ha,hb,hl,hc=>by
  have:b=[]:=pL (by simpa using hl);subst this;refine⟨.nil _,rfl,hc,?_⟩;simp[Zr,zBN,zM];omega
 | x::a,b,c,ha,hb,hl,hc=>by
  have hx:=ha.head;have hx':x<4294967296:=hx.2;have hh:=Kj hb;have hbt:b.tail.length≤a.length:=by simp only[bL]at hl;rw[SY];omega
  obtain⟨i1,i2,i3,i4⟩:=zD4 a b.tail (if x-c-b.headD 0<0 then 1 else 0) ha.tail (zBO hb) hbt (by split <;> simp);refine⟨.cons ⟨by omega,by show _<((4294967296:Nat):Int);omega⟩ i1,by simp only[Zr,bL,i2],i3,?_⟩;have e1:zM WB (x::a)=x+4294967296*zM WB a:=rfl;have e2:=zBP b;have e3:zM WB (Zr (x::a) b c)=(x-c-b.headD 0) % 4294967296+4294967296*zM WB (Zr a b.tail (if x-c-b.headD 0<0 then 1 else 0)):=rfl;have e4:zBN (x::a) b c=zBN a b.tail (if x-c-b.headD 0<0 then 1 else 0):=rfl;rw[e3,i4,e4,e1,e2,bL,aA];generalize zBN a b.tail (if x-c-b.headD 0<0 then 1 else 0)=s at *;generalize hp:(4294967296:Int)^a.length=P at *;rw[pK P 4294967296,pM];generalize P*s=Q
  split <;> omega
section
attribute [local irreducible] Vs.callL Vs.callRL tyi zO zn zg zR zY za zI zZ zA zK ze zX zG zJ zW zr yJ zq zL zf Vs.gc zH
noncomputable def zFr:FX:=⟨Tryz.f167,zD.of 167,[]⟩
instance ok167_:zFr.ok 167:=FX.mk'
theorem zKv (A B:List Int) (e1 e2:Bool) (hA:OkD WB A) (hB:OkD WB B) (hl:B.length≤A.length) (hm:A.length≤maxLen) (fs:List Fr) {z:PV × zB} (hz : ∀c:Int,yB 0 zFr 0 fs [(1,.undef),(5,.msl 0 0 A.length true),(6,.undef),(13,.undef),(14,.undef),(15,.undef),(16,.undef)] [.arr (zE .u32 (Zr A B 0)) (some (some 1)) false]=some z) : ∀(m i:Nat),i+m=A.length→∀(D:List Int) (c:Int),D.length=i→(c=0∨c=1)→D++Zr (A.drop i) (B.drop i) c=Zr A B 0 →
  zU 0 zFr 0 244 1 fs [(1,.sl (zE .u32 B) e2),(5,.msl 0 0 A.length true),(6,.int .u64 c),(13,.sl (zE .u32 A) e1),(14,.int .i64 A.length),(15,.int .i64 i)] [.arr (zE .u32 (D++List.replicate m 0)) (some (some 1)) false]=some z:=by
 have hM:=xZ;intro m
 induction m with
 | zero =>
  intro i hi D c hD hc hs;have h1 : ¬(i:Int)<(A.length:Int):=by omega
  have hd:A.drop i=[]:=bU (by omega);rw[hd]at hs;simp only[Zr,pX]at hs;subst hs;apply zC;simp only[BB,pX];(repeat((conv=>lhs;whnf);simp only[go_sem,simprocAttr,h1]));exact hz c
 | succ m ih =>
  intro i hi D c hD hc hs;have h1:(i:Int)<(A.length:Int):=by omega
  have w1:=zi (i:=i) (n:=A.length) (by omega) hm;have x1:0≤(i:Int)∧(i:Int)<(A.length:Int):=⟨by omega,h1⟩;have ha:=hA.getD (by decide) i;have hb:=hB.getD (by decide) i;have ha':A.getD i 0<4294967296:=ha.2;have hb':B.getD i 0<4294967296:=hb.2;have hd:=xA A (k:=i) (by omega);have hbh:(B.drop i).headD 0=B.getD i 0:=by
   by_cases hib:i<B.length
   ·rw[xA B hib];rfl
   ·rw[bU (by omega),bM,sE (by omega)];rfl
  have hbt:(B.drop i).tail=B.drop (i+1):=PP;rw[hd]at hs;have es:Zr (A.getD i 0::A.drop (i+1)) (B.drop i) c=(A.getD i 0-c-B.getD i 0) % 4294967296::Zr (A.drop (i+1)) (B.drop (i+1)) (if A.getD i 0-c-B.getD i 0<0 then 1 else 0):=by
   rw[Zr,hbh,hbt]
  rw[es]at hs;have key:=ih (i+1) (by omega) (D++[(A.getD i 0-c-B.getD i 0) % 4294967296]) (if A.getD i 0-c-B.getD i 0<0 then 1 else 0) (by simp[hD]) (by split <;> simp) (by simpa using hs);have set : ∀v:Int,(zE .u32 (D++List.replicate (m+1) 0)).set i [.int .u32 v]=zE .u32 ((D++[v])++List.replicate m 0):=fun v=>by
   rw[xc]
   congr 1
   rw[aD,hZ (by omega),hD,aB,HH,aG];simp
  have xm : ∀S:zB,zl S 0=some (zE .u32 (D++List.replicate (m+1) 0))→zI Tryz.prog 25 S (.msl 0 0 A.length true) (.int .i64 i)=some (.mp 0 (0+i) 0):=fun S hS=>wC.idxmk .u32 i hS (by simp;omega) (by omega);have xm':=xm [.arr (zE .u32 (D++List.replicate (m+1) 0)) (some (some 1)) false] rfl;have len:i<(D++List.replicate (m+1) (0:Int)).length:=by simp;omega
  have len1:((zE .u32 (D++List.replicate (m+1) 0)).getD i []).length=1:=by
   rw[yt _ _ (by simp;omega)];rfl
  have cu:IntKind.u64.wrap (A.getD i 0)=A.getD i 0:=by rw[xL];omega
  have cb:IntKind.u64.wrap (B.getD i 0)=B.getD i 0:=by rw[xL];omega
  apply zC;by_cases hib:i<B.length
  ·have h2:(i:Int)<(B.length:Int):=by omega
   have x2:0≤(i:Int)∧(i:Int)<(B.length:Int):=⟨by omega,h2⟩;have v1:IntKind.u32.wrap (IntKind.u64.wrap (IntKind.u64.wrap (A.getD i 0-c)-B.getD i 0))=(A.getD i 0-c-B.getD i 0) % 4294967296:=by
    rw[pV,xL,xL];omega
   have v2:IntKind.u64.wrap (IntKind.u64.wrap (A.getD i 0-c)-B.getD i 0) / 9223372036854775808=(if A.getD i 0-c-B.getD i 0<0 then 1 else 0):=by
    rw[xL,xL];split <;> omega
   (repeat((conv=>lhs;whnf);simp only[go_sem,simprocAttr,h1,x1,bD,cu,cb,h2,x2,xm',v1,v2,set,len,len1,w1,zQ,zm]));exact key
  ·have h2 : ¬(i:Int)<(B.length:Int):=by omega
   have hb0:B.getD i 0=0:=by rw[bM,sE (by omega)];rfl
   rw[hb0,Int.sub_zero]at key;have v1:IntKind.u32.wrap (IntKind.u64.wrap (A.getD i 0-c))=(A.getD i 0-c) % 4294967296:=by
    rw[pV,xL];omega
   have v2:IntKind.u64.wrap (A.getD i 0-c) / 9223372036854775808=(if A.getD i 0-c<0 then 1 else 0):=by
    rw[xL];split <;> omega
   (repeat((conv=>lhs;whnf);simp only[go_sem,simprocAttr,h1,x1,bD,cu,h2,xm',v1,v2,set,len,len1,w1,zQ,zm]));exact key
theorem zKw (m n:Nat) (e1 e2:Bool) (hmn:n≤m) (hm:(words m).length≤1000000):callL Tryz.prog zD 167 [yD m e1,yD n e2]=some (yM (m-n)):=by
 have hM:2000000≤maxLen:=by decide
 have hl:(words n).length≤(words m).length:=vE WB2 hmn;obtain⟨i1,i2,i3,i4⟩:=zD4 (words m) (words n) 0 (xG m) (xG n) hl (.inl rfl);have hb:zBN (words m) (words n) 0=0:=by
  have h1:=uc i1;rw[i2,i4,xU,xU]at h1
  rcases i3 with h | h
  ·exact h
  ·rw[h]at h1;have:(((4294967296:Nat):Int))=(4294967296:Int):=rfl;rw[this]at h1;omega
 have hv:(zM WB (Zr (words m) (words n) 0)).toNat=m-n:=by
  rw[i4,hb,xU,xU];omega
 have ct:=ws (L:=Zr (words m) (words n) 0) (by rw[i2];omega) i1;rw[hv]at ct;have c1:=wW (S:=[.arr (zE .u32 (Zr (words m) (words n) 0)) (some (some 1)) false]) (id:=0) (n:=(words m).length) (ex:=true) ct rfl i2 (by simp);have mk:=fun id=>ZQ id (words m).length (by omega);unfold yD;have key:=zKv (words m) (words n) e1 e2 (xG m) (xG n) hl (by omega) [.blk 0,.seq 0 31] (z:=(yM (m-n),[.arr (zE .u32 (Zr (words m) (words n) 0)) (some (some 1)) true])) (fun c=>by
  apply zN;((repeat((conv=>lhs;whnf);simp only[go_sem,simprocAttr,c1]));try rfl)) (words m).length 0 (by omega) [] 0 rfl (.inl rfl) (by simp)
 refine FX.callL (r:=(yM (m-n),[.arr (zE .u32 (Zr (words m) (words n) 0)) (some (some 1)) true])) ok167_ 1000 rfl rfl ?_ (wr _ _);(repeat((conv=>lhs;whnf);simp only[go_sem,simprocAttr,mk]));exact key
end
end
section
def Uo (x:Int):List Int→List Int→Int→List Int
 | [],_,_=>[]
 | y::b,o,c=>(c+(x*y+o.headD 0)) % 4294967296::Uo x b o.tail ((c+(x*y+o.headD 0)) / 4294967296)
def Up (x:Int):List Int→List Int→Int→Int
 | [],_,c=>c
 | y::b,o,c=>Up x b o.tail ((c+(x*y+o.headD 0)) / 4294967296)
theorem zAM {x y:Int} (hx:0≤x∧x<4294967296) (hy:0≤y∧y<4294967296):0≤x*y∧x*y≤18446744065119617025:=by
 refine⟨aH hx.1 hy.1,?_⟩;have h1:x*y≤4294967295*y:=aE (by omega) hy.1;omega
theorem zD5 (x:Int) (hx:0≤x∧x<4294967296) : ∀(b o:List Int) (c:Int),OkD WB b→OkD WB o→o.length=b.length→0≤c∧c<4294967296→OkD WB (Uo x b o c)∧(Uo x b o c).length=b.length∧(0≤Up x b o c∧Up x b o c<4294967296)∧zM WB (Uo x b o c)+(4294967296:Int)^b.length*Up x b o c=c+x*zM WB b+zM WB o
 | [],o,c,hb,ho,hl,hc=>by
  have:o=[]:=pL (by simpa using hl);subst this;refine⟨.nil _,rfl,hc,?_⟩;simp[Uo,Up,zM]
 | y::b,o,c,hb,ho,hl,hc=>by
  have hy:=hb.head;have hy':y<4294967296:=hy.2;have hh:=Kj ho;have hs:=zAM hx ⟨hy.1,hy'⟩;have hq:0≤(c+(x*y+o.headD 0)) / 4294967296∧(c+(x*y+o.headD 0)) / 4294967296<4294967296:=by omega
  obtain⟨i1,i2,i3,i4⟩:=zD5 x hx b o.tail _ hb.tail (zBO ho) (by rw[SY];simp only[bL]at hl;omega) hq;refine⟨.cons ⟨by omega,by show _<((4294967296:Nat):Int);omega⟩ i1,by simp only[Uo,bL,i2],i3,?_⟩;have e2:=zBP o;have e1:zM WB (y::b)=y+4294967296*zM WB b:=rfl;have e3:zM WB (Uo x (y::b) o c)=(c+(x*y+o.headD 0)) % 4294967296+4294967296*zM WB (Uo x b o.tail ((c+(x*y+o.headD 0)) / 4294967296)):=rfl;have e4:Up x (y::b) o c=Up x b o.tail ((c+(x*y+o.headD 0)) / 4294967296):=rfl;rw[e3,e4,e1,e2,bL,aA,bW,BK x];generalize (4294967296:Int)^b.length=P at *;rw[pK P 4294967296,pM];generalize P*Up x b o.tail ((c+(x*y+o.headD 0)) / 4294967296)=Q at *;generalize x*zM WB b=R at *;generalize x*y=T at *;omega
section
attribute [local irreducible] Vs.callL Vs.callRL tyi zO zn zg zR zY za zI zZ zA zK ze zX zG zJ zW zr yJ zq zL zf Vs.gc zH
noncomputable def Kk:FX:=⟨Tryz.f116,zD.of 116,[]⟩
instance ok116_:Kk.ok 116:=FX.mk'
theorem zIq (B:List Int) (e2:Bool) (hB:OkD WB B) (hm:B.length≤1000000) (x:Int) (hx:0≤x∧x<4294967296) (n i:Nat) (hi:i+B.length≤n) (hn:n≤2000000) (x25 x26 x27:PV) (P Z:List Int) (hP:P.length=i) (fs:List Fr) {z:PV × zB} : ∀(m k:Nat),k+m=B.length→∀(D W:List Int) (c:Int),D.length=k→W.length=m→OkD WB W→(0≤c∧c<4294967296)→n=i+B.length+Z.length →
  yB 0 Kk 2 fs [(1,.sl (zE .u32 B) e2),(5,.msl 0 0 n true),(6,.int .i64 i),(7,.undef),(8,.int .u64 (Up x (B.drop k) W c)),(25,x25),(26,x26),(27,x27),(32,.undef),(33,.undef),(34,.undef),(35,.undef)] [.arr (zE .u32 (P++(D++Uo x (B.drop k) W c)++Z)) (some (some 1)) false]=some z →
  zU 0 Kk 2 250676 1 fs [(1,.sl (zE .u32 B) e2),(5,.msl 0 0 n true),(6,.int .i64 i),(7,.int .u32 x),(8,.int .u64 c),(25,x25),(26,x26),(27,x27),(32,.sl (zE .u32 B) e2),(33,.int .i64 B.length),(34,.int .i64 k)] [.arr (zE .u32 (P++(D++W)++Z)) (some (some 1)) false]=some z:=by
 have hM:2000000≤maxLen:=by decide
 intro m
 induction m with
 | zero =>
  intro k hk D W c hD hW hWo hc hl hz;have h1 : ¬(k:Int)<(B.length:Int):=by omega
  have hd:B.drop k=[]:=bU (by omega);have hw:W=[]:=pL hW;subst hw;rw[hd]at hz;simp only[Uo,Up,pX]at hz;apply zC;(repeat((conv=>lhs;whnf);simp only[go_sem,simprocAttr,h1]));exact hz
 | succ m ih =>
  intro k hk D W c hD hW hWo hc hl hz;have h1:(k:Int)<(B.length:Int):=by omega
  have w1:=zi (i:=k) (n:=B.length) (by omega) (by omega);have x1:0≤(k:Int)∧(k:Int)<(B.length:Int):=⟨by omega,h1⟩;obtain⟨w,W',rfl⟩ : ∃w W',W=w::W':=by
   cases W with
   | nil=>simp at hW
   | cons w W'=>exact⟨w,W',rfl⟩
  have hb:=hB.getD (by decide) k;have hb':B.getD k 0<4294967296:=hb.2;have hw:=hWo.head;have hw':w<4294967296:=hw.2;have hs:=zAM hx ⟨hb.1,hb'⟩;have hd:=xA B (k:=k) (by omega);rw[hd]at hz;have key:=ih (k+1) (by omega) (D++[(c+(x*B.getD k 0+w)) % 4294967296]) W' ((c+(x*B.getD k 0+w)) / 4294967296) (by simp[hD]) (by simpa using hW) hWo.tail (by omega) hl (by
   simp only[Up,Uo,List.headD_cons,List.tail_cons]at hz
   simpa using hz)
  have hlen:(P++(D++w::W')++Z).length=n:=by simp only[bN,bL]at hW ⊢;omega
  have get:(P++(D++w::W')++Z).getD (i+k) 0=w:=by
   have e:P++(D++w::W')++Z=(P++D)++w::(W'++Z):=by simp
   rw[e,bM,pA (by simp;omega)];have:i+k-(P++D).length=0:=by simp;omega
   rw[this];rfl
  have set : ∀v:Int,(zE .u32 (P++(D++w::W')++Z)).set (i+k) [.int .u32 v]=zE .u32 (P++((D++[v])++W')++Z):=fun v=>by
   rw[xc]
   congr 1
   have e:P++(D++w::W')++Z=(P++D)++w::(W'++Z):=by simp
   rw[e,aD,hZ (by simp;omega)];have:i+k-(P++D).length=0:=by simp;omega
   rw[this,aG];simp
  have wi:IntKind.i64.wrap ((i:Int)+(k:Int))=((i+k:Nat):Int):=by rw[bE];omega
  have xm:=wC.idxmk .u32 (S:=[.arr (zE .u32 (P++(D++w::W')++Z)) (some (some 1)) false]) (id:=0) (off:=0) (n:=n) (ex:=true) (L:=P++(D++w::W')++Z) (i+k) rfl (by omega) (by omega);rw[pC]at xm;have len:i+k<(P++(D++w::W')++Z).length:=by omega
  have gk:=yt .u32 (P++(D++w::W')++Z) len;rw[get]at gk;have cx:IntKind.u64.wrap x=x:=by rw[xL];omega
  have cb:IntKind.u64.wrap (B.getD k 0)=B.getD k 0:=by rw[xL];omega
  have cw:IntKind.u64.wrap w=w:=by rw[xL];omega
  have m1:IntKind.u64.wrap (x*B.getD k 0)=x*B.getD k 0:=by rw[xL];omega
  have m2:IntKind.u64.wrap (x*B.getD k 0+w)=x*B.getD k 0+w:=by rw[xL];omega
  have m3:IntKind.u64.wrap (c+(x*B.getD k 0+w))=c+(x*B.getD k 0+w):=by rw[xL];omega
  have m4:IntKind.u32.wrap (c+(x*B.getD k 0+w))=(c+(x*B.getD k 0+w)) % 4294967296:=by rw[pV]
  apply zC;(repeat((conv=>lhs;whnf);simp only[go_sem,simprocAttr,h1,x1,bD,cx,cb,cw,wi,xm,gk,len,m1,m2,m3,m4,set,w1]));exact key
theorem zIr (A B:List Int) (e1 e2:Bool) (hA:OkD WB A) (hB:OkD WB B) (hB0:B≠[]) (ha:A.length≤1000000) (hb:B.length≤1000000) (fs:List Fr) : ∀(r i:Nat),i+r=A.length→∀(P W:List Int),P.length=i→W.length=B.length→OkD WB P→OkD WB W→zM WB P+(4294967296:Int)^i*zM WB W=zM WB (A.take i)*zM WB B →
  ∃O:List Int,OkD WB O∧O.length=A.length+B.length∧zM WB O=zM WB A*zM WB B∧∀z:PV × zB,yB 0 Kk 0 fs [(1,.undef),(5,.msl 0 0 (A.length+B.length) true),(25,.undef),(26,.undef),(27,.undef),(28,.undef)] [.arr (zE .u32 O) (some (some 1)) false]=some z →
  zU 0 Kk 0 244 1 fs [(1,.sl (zE .u32 B) e2),(5,.msl 0 0 (A.length+B.length) true),(25,.sl (zE .u32 A) e1),(26,.int .i64 A.length),(27,.int .i64 i)] [.arr (zE .u32 (P++W++List.replicate r 0)) (some (some 1)) false]=some z:=by
 have hM:2000000≤maxLen:=by decide
 intro r
 induction r with
 | zero =>
  intro i hi P W hP hW hPo hWo hv;refine⟨P++W,hPo.append hWo,by simp[hP,hW];omega,?_,fun z hz=>?_⟩
  ·rw[zw,hP];have:(((WB:Nat):Int))=(4294967296:Int):=rfl;rw[this,hv,aW (by omega)]
  ·have h1 : ¬(i:Int)<(A.length:Int):=by omega
   apply zC;simp only[BB,pX];(repeat((conv=>lhs;whnf);simp only[go_sem,simprocAttr,h1]));exact hz
 | succ r ih =>
  intro i hi P W hP hW hPo hWo hv;have h1:(i:Int)<(A.length:Int):=by omega
  have w1:=zi (i:=i) (n:=A.length) (by omega) (by omega);have x1:0≤(i:Int)∧(i:Int)<(A.length:Int):=⟨by omega,h1⟩;have hx:=hA.getD (by decide) i;have hx':A.getD i 0<4294967296:=hx.2;obtain⟨j1,j2,j3,j4⟩:=zD5 (A.getD i 0) ⟨hx.1,hx'⟩ B W 0 hB hWo hW ⟨by omega,by omega⟩;generalize hc:Up (A.getD i 0) B W 0=c at *;generalize hD:Uo (A.getD i 0) B W 0=D at *;obtain⟨d,D',rfl⟩ : ∃d D',D=d::D':=by
   cases D with
   | nil=>exact absurd (pL (by rw[←j2];rfl)) hB0
   | cons d D'=>exact⟨d,D',rfl⟩
  have hBl:B.length=D'.length+1:=by rw[←j2];rfl
  obtain⟨O,o1,o2,o3,o4⟩:=ih (i+1) (by omega) (P++[d]) (D'++[c]) (by simp[hP]) (by simp[hBl]) (hPo.append (.cons j1.head (.nil _))) (j1.tail.append (.cons j3 (.nil _))) (by
   have e0:(((WB:Nat):Int))=(4294967296:Int):=rfl;have et:A.take (i+1)=A.take i++[A.getD i 0]:=by
    rw[BR];have:A[i]? = some (A.getD i 0):=by rw[pR (by omega)];simp[bM,show i<A.length by omega]
    rw[this];rfl
   rw[et,zw,zw,zw,hP,e0];have hti:(A.take i).length=i:=by simp;omega
   rw[hti,BC,←hv];have s1:zM WB [A.getD i 0]=A.getD i 0:=by simp[zM]
   have s2:zM WB [d]=d:=by simp[zM]
   have s3:zM WB [c]=c:=by simp[zM]
   rw[s1,s2,s3];have j5:d+4294967296*zM WB D'+(4294967296:Int)^B.length*c=A.getD i 0*zM WB B+zM WB W:=by
    have:zM WB (d::D')=d+4294967296*zM WB D':=rfl;rw[this]at j4;omega
   rw[hBl,aA]at j5;rw[aA];have q1:(4294967296:Int)^i*4294967296*(zM WB D'+4294967296^D'.length*c)=(4294967296:Int)^i*(4294967296*zM WB D'+4294967296^D'.length*4294967296*c):=by
    rw[pM,bW,BK 4294967296,←pM (4294967296^D'.length) 4294967296 c]
   rw[q1];have q2:4294967296*zM WB D'+(4294967296:Int)^D'.length*4294967296*c=A.getD i 0*zM WB B+zM WB W-d:=by omega
   rw[q2,Int.mul_sub,bW,pM];omega)
  refine⟨O,o1,o2,o3,fun z hz=>?_⟩;have key:=o4 z hz;have set:(zE .u32 (P++(d::D')++List.replicate (r+1) 0)).set (i+B.length) [.int .u32 c]=zE .u32 ((P++[d])++(D'++[c])++List.replicate r 0):=by
   rw[xc]
   congr 1
   have e:P++(d::D')++List.replicate (r+1) 0=(P++(d::D'))++0::List.replicate r 0:=by simp[HH]
   rw[e,aD,hZ (by simp;omega)];have:i+B.length-(P++(d::D')).length=0:=by simp;omega
   rw[this,aG];simp
  have hlen:(P++(d::D')++List.replicate (r+1) (0:Int)).length=A.length+B.length:=by simp;omega
  have wi:IntKind.i64.wrap ((i:Int)+(B.length:Int))=((i+B.length:Nat):Int):=by rw[bE];omega
  have xm:=wC.idxmk .u32 (S:=[.arr (zE .u32 (P++(d::D')++List.replicate (r+1) 0)) (some (some 1)) false]) (id:=0) (off:=0) (n:=A.length+B.length) (ex:=true) (L:=P++(d::D')++List.replicate (r+1) 0) (i+B.length) rfl (by omega) (by omega);rw[pC]at xm;have len:i+B.length<(P++(d::D')++List.replicate (r+1) (0:Int)).length:=by omega
  have gk:((zE .u32 (P++(d::D')++List.replicate (r+1) 0)).getD (i+B.length) []).length=1:=by rw[yt _ _ len];rfl
  have cc:IntKind.u32.wrap c=c:=by rw[pV];omega
  have inner:=zIq B e2 hB hb (A.getD i 0) ⟨hx.1,hx'⟩ (A.length+B.length) i (by omega) (by omega) (.sl (zE .u32 A) e1) (.int .i64 A.length) (.int .i64 i) P (List.replicate (r+1) 0) hP (.blk 2 :: .seq 1 31335 :: .blk 1 :: .seq 0 1959 :: .lop 0 244 1::fs) (z:=z) B.length 0 (by omega) [] W 0 rfl hW hWo ⟨by omega,by omega⟩ (by simp;omega) (by
   rw[bY,hc,hD];apply zN;(repeat((conv=>lhs;whnf);simp only[go_sem,simprocAttr,wi,xm,len,gk,cc,set,w1]));exact key)
  simp only[pG]at inner;apply zC;(repeat((conv=>lhs;whnf);simp only[go_sem,simprocAttr,h1,x1,bD]));exact inner
theorem zKx (m n:Nat) (e1 e2:Bool) (hm:(words m).length≤1000000) (hn:(words n).length≤1000000):callL Tryz.prog zD 116 [yD m e1,yD n e2]=some (if m=0∨n=0 then .sl [] true else yM (m*n)):=by
 have hM:2000000≤maxLen:=by decide
 by_cases h:m=0∨n=0
 ·rw[bA h];refine FX.callL (r:=(.sl [] true,[])) ok116_ 1000 rfl rfl ?_ rfl;unfold yD;by_cases hm0:m=0
  ·have c:((words m).length:Int)=0:=by rw[hm0];unfold words;rw[xI];rfl
   ((repeat((conv=>lhs;whnf);simp only[go_sem,simprocAttr,c]));try rfl)
  ·have hn0:n=0:=by omega
   have c : ¬((words m).length:Int)=0:=by
    have:words m≠[]:=fun e=>hm0 ((vL WB2).1 e);have:=PC.2 this;omega
   have c2:((words n).length:Int)=0:=by rw[hn0];unfold words;rw[xI];rfl
   ((repeat((conv=>lhs;whnf);simp only[go_sem,simprocAttr,c,c2]));try rfl)
 ·rw[hZ h];have hne : ∀k,k≠0→words k≠[]:=fun k hk e=>hk ((vL WB2).1 e);have c : ¬((words m).length:Int)=0:=by
   have:=PC.2 (hne m (by omega));omega
  have c2 : ¬((words n).length:Int)=0:=by
   have:=PC.2 (hne n (by omega));omega
  obtain⟨O,o1,o2,o3,o4⟩:=zIr (words m) (words n) e1 e2 (xG m) (xG n) (hne n (by omega)) hm hn [.blk 0,.seq 0 31] (words m).length 0 (by omega) [] (List.replicate (words n).length 0) rfl (by simp) (.nil _) (fun x hx=>by
   rw[PD hx];exact⟨HS 0,by decide⟩) (by
   have:zM WB (List.replicate (words n).length 0)=0:=by
    generalize (words n).length=k
    induction k with
    | zero=>rfl
    | succ k ih=>rw[HH,zM,ih];simp
   rw[this];simp[zM])
  have ct:=ws (L:=O) (by omega) o1;have hv:(zM WB O).toNat=m*n:=by rw[o3,xU,xU,←sR,bD]
  rw[hv]at ct;have cc:=wW (S:=[.arr (zE .u32 O) (some (some 1)) false]) (id:=0) (n:=(words m).length+(words n).length) (ex:=true) ct rfl o2 (by simp);have mk:=fun id=>ZQ id ((words m).length+(words n).length) (by omega);have wi:IntKind.i64.wrap (((words m).length:Int)+((words n).length:Int))=(((words m).length+(words n).length:Nat):Int):=by rw[bE];omega
  have key:=o4 (yM (m*n),[.arr (zE .u32 O) (some (some 1)) true]) (by
   apply zN;((repeat((conv=>lhs;whnf);simp only[go_sem,simprocAttr,cc]));try rfl))
  have er:List.replicate ((words m).length+(words n).length) (0:Int)=[]++List.replicate (words n).length 0++List.replicate (words m).length 0:=by
   rw[pG,AE,Nat.add_comm]
  refine FX.callL (r:=(yM (m*n),[.arr (zE .u32 O) (some (some 1)) true])) ok116_ 1000 rfl rfl ?_ (wr _ _);unfold yD;rw[←er]at key;(repeat((conv=>lhs;whnf);simp only[go_sem,simprocAttr,c,c2,wi,mk]));exact key
end
end
end Go.Vs


import Derived.Test.YtkaeejkajfinhaaGreatMV9
set_option linter.unusedVariables false
set_option linter.unusedSimpArgs false
set_option maxRecDepth 100000
namespace Go.Vs
open Go Go.Proofs
section
structure SlT (t el:TypeId) (sz bytes:Nat):Prop where
 d:(tyi Tryz.prog t).d=.slice el
 k:(tyi Tryz.prog el).known=true
 s:(tyi Tryz.prog el).size=sz
 b:(tyi Tryz.prog el).bytes=bytes
 z:qB (tyi Tryz.prog el)=true
theorem SlT.el {t el:TypeId} {sz bytes:Nat} (h:SlT t el sz bytes):xp (tyi Tryz.prog t)=el:=by simp[xp,h.d]
theorem SlT.is {t el:TypeId} {sz bytes:Nat} (h:SlT t el sz bytes):ui (tyi Tryz.prog t)=true:=by simp[ui,h.d]
theorem SlT.len {t el:TypeId} {sz bytes:Nat} (h:SlT t el sz bytes) (r:List (List PV)) (ex:Bool):yI (tyi Tryz.prog t) (.sl r ex)=some (.int .i64 r.length):=zM5 _ h.d r ex
theorem SlT.lenm {t el:TypeId} {sz bytes:Nat} (h:SlT t el sz bytes) (i o l:Nat) (ex:Bool):yI (tyi Tryz.prog t) (.msl i o l ex)=some (.int .i64 l):=zJy _ h.d i o l ex
section
variable {α:Type} {t el:TypeId} {sz bytes:Nat} {enc:α→List PV}
theorem zFD (he : ∀a,(enc a).length=sz) (L:List α):yM sz (L.map enc)=true:=by
 simp[yM,he]
theorem zA2 (L:List α) (d:α) {i:Nat} (h:i<L.length):(L.map enc).getD i []=enc (L.getD i d):=by
 simp[bL,h]
theorem SlT.idx (h:SlT t el sz bytes) (he : ∀a,(enc a).length=sz) (d:α) (S:zB) (L:List α) (ex:Bool) (i:Int):zI Tryz.prog t S (.sl (L.map enc) ex) (.int .i64 i)=if 0≤i∧i<L.length then some (.cp (enc (L.getD i.toNat d))) else none:=by
 simp only[zI,h.el,h.is,h.k,h.s,and_self,if_true,vr,BP]
 split
 ·rename_i hh;rw[zA2 L d (by omega),bA (he _)]
 ·rfl
theorem SlT.idxm (h:SlT t el sz bytes) {S:zB} {id off n:Nat} {ex:Bool} {rows:List (List PV)} (i:Nat) (hS:zj S id=some rows) (hl:off+n≤rows.length) (h2:yM sz rows=true) (hi:i<n):zI Tryz.prog t S (.msl id off n ex) (.int .i64 i)=some (.mp id (off+i) 0):=by
 simp only[zI,h.el,h.is,h.k,h.s,and_self,if_true,vr,hS,bI];rw[bA ⟨by omega,by omega⟩,bA ⟨h2,hl⟩,bD]
theorem SlT.make (h:SlT t el sz bytes) {z:List PV} (hz:(tyi Tryz.prog el).zero=some z) (id n:Nat) (hn:bytes*n≤281474976710656) (hn2:n≤9223372036854775807):zJ Tryz.prog t id (.int .i64 n) (.int .i64 n)=some {v:=.msl id 0 n true,new:=some (List.replicate n z,some (some sz))} := by
 have hq:=h.z;simp only[qB,hz,h.s,bO,beq_iff_eq]at hq;simp only[zJ,h.d,hz,bI,h.b,h.s];have e:((bytes:Int)*(n:Int))≤281474976710656:=by
  have:((bytes*n:Nat):Int)=(bytes:Int)*(n:Int):=sL _ _;omega
 rw[bA ⟨by omega,by omega,e,by omega,hq.1,hq.2⟩];simp
theorem SlT.buildSlice (h:SlT t el sz bytes) (h0:0<sz) (id n:Nat) (is:List Nat) (rows:List (List PV)):zG Tryz.prog t id n is rows=if is=List.range n∧yM sz rows=true∧(rows.all fun r=>r.all PV.cell)=true∧n*sz≤16777216 then some {v:=.msl id 0 n true,new:=some (rows,some (some sz))} else none:=by
 have hq:=h.z;have e:(tyi Tryz.prog el).zero.isSome=true:=by
  unfold qB at hq
  split at hq
  ·rename_i z hz;rw[hz];rfl
  ·cases hq
 simp[zG,h.d,h.s,e,h0]
inductive RowsV (S:zB):PV→List (List PV)→Prop
 | sl (rows:List (List PV)) (ex:Bool):RowsV S (.sl rows ex) rows
 | msl (id:Nat) (rows:List (List PV)) (ex:Bool) (g:Option (Option Nat)) (f:Bool) (h:S[id]? = some (.arr rows g f)):RowsV S (.msl id 0 rows.length ex) rows
theorem RowsV.rowsIn {S:zB} {p:PV} {rows:List (List PV)} (h:RowsV S p rows):Vs.rowsIn S p=some rows:=by
 cases h with
 | sl rows ex=>rfl
 | msl id rows ex g f h =>
  rw[Zq,xE h];simp
theorem RowsV.rowsS {S:zB} {p:PV} {rows:List (List PV)} (h:RowsV S p rows):Vs.rowsS S p=some rows:=by
 have:=h.rowsIn
 cases h <;> exact this
theorem SlT.appNil (h:SlT t el sz bytes) (b:Nat) (S:zB) {p:PV} {rows:List (List PV)} (hp:RowsV S p rows) (h2:yM sz rows=true) (h3:rows.length*bytes≤140737488355328) (h4:rows.length≤9223372036854775807):zR Tryz.prog b t t S (.sl [] true) p=some {v:=.msl S.length 0 rows.length false,S:=S++[.arr rows (some (some sz)) false]} := by
 have e5:wI bytes sz S S.length (.sl [] true) p=some {v:=.msl S.length 0 rows.length false,new:=some (rows,some (some sz))} := by
  have e6:Vs.rowsIn S (.sl [] true)=some []:=rfl;have e7:exact (.sl [] true)=true:=rfl;simp only[wI,e7,if_true,e6,hp.rowsS,bI,bU,pC];rw[bA ⟨rfl,h2,h3,h4⟩];by_cases h0:rows.length=0
  ·have:rows=[]:=pL h0;subst this;rfl
  ·rw[hZ h0];simp
 simp only[zR,exact,if_true,U1,h.d,VO,h.z,and_self,h.b,h.s,e5,pE,uP]
theorem SlT.app (h:SlT t el sz bytes) {b:Nat} {S:zB} {id:Nat} {rows new:List (List PV)} {g:Option Nat} {p:PV} (hS:S[id]? = some (.arr rows (some g) false)) (hb:b≤id) (hg:g=none∨g=some sz) (hp:RowsV S p new) (h1:yM sz rows=true) (h2:yM sz new=true) (h3:(rows.length+new.length)*bytes≤140737488355328) (h4:rows.length+new.length≤9223372036854775807) (h5:id ∉ zT rows) (h6:id ∉ zT new) :
  zR Tryz.prog b t t S (.msl id 0 rows.length false) p=some {v:=.msl id 0 (rows.length+new.length) false,S:=(S.map (yr [id])).set id (.arr (rows++new) (some (some sz)) false),kill:=[id]} := by
 have hk:=W7 (b:=b) (bytes:=bytes) (esz:=sz) (ex:=false) hS hp.rowsS hb rfl hg h1 h2 h3 h4 (by simp[h5,h6]);rw[←hk];simp only[zR,exact,bY,if_false,h.d,VO,h.z,and_self,if_true,h.b,h.s]
theorem SlT.copy (h:SlT t el sz bytes) {S:zB} {id n:Nat} {ex:Bool} {rows new:List (List PV)} {g:Option (Option Nat)} {p:PV} (hS:S[id]? = some (.arr rows g false)) (h1:rows.length=n) (h2:yM sz rows=true) (hp:RowsV S p new) (h4:yM sz new=true) (h3:new.length≤n) :
  zm Tryz.prog t t S (.msl id 0 n ex) p=some {v:=.int .i64 new.length,S:=S.set id (.arr (new++rows.drop new.length) g false)} := by
 simp only[zm,h.d,h.k,if_true,h.s,YZ,hS,hp.rowsIn,bI];rw[bA ⟨by omega,h2,h4⟩];have e1:new.take n=new:=aN h3;rw[e1,Nat.min_eq_left h3];simp
theorem SlT.firsts (h:SlT t el sz bytes) (S:zB) {rows:List (List PV)} (ex:Bool) (i:Nat) (hi:i≤rows.length) (h2:yM sz rows=true):zY Tryz.prog t S (.sl rows ex) none (some (.int .i64 i)) none=some (.sl (rows.take i) false):=by
 simp[zY,h.el,h.is,h.k,h.s,kb,h.d,ww,hi,h2]
end
def zD (k:IntKind) (L:List Int):List (List PV):=L.map fun w=>[.int k w]
@[go_sem] theorem zQ (k:IntKind) (L:List Int):(zD k L).length=L.length:=nr (by simp[zD])
@[go_sem] theorem xg (k:IntKind) (L:List Int):yM 1 (zD k L)=true:=nr (zFD (enc:=fun w:Int=>[.int k w]) (fun _=>rfl) L)
@[go_sem] theorem zk (k:IntKind) : ∀L:List Int,zT (zD k L)=[]
 | []=>rfl
 | a::r=>by
  have:=zk k r;simp only[zD,pZ,yn]at this ⊢;rw[this];rfl
theorem yD (k:IntKind):zD k []=[]:=rfl
theorem xa (k:IntKind) (a:Int) (l:List Int):zD k (a::l)=[.int k a]::zD k l:=rfl
theorem qN (k:IntKind) (a b:List Int):zD k (a++b)=zD k a++zD k b:=by simp[zD]
theorem YN (k:IntKind) (n:Nat) (x:Int):List.replicate n [PV.int k x]=zD k (List.replicate n x):=by simp[zD]
theorem xW (k:IntKind) (L:List Int) (i:Nat) (x:Int):(zD k L).set i [.int k x]=zD k (L.set i x):=by simp[zD,List.map_set]
theorem yq (k:IntKind) (L:List Int) {i:Nat} (h:i<L.length):(zD k L).getD i []=[.int k (L.getD i 0)]:=zA2 L 0 h
theorem KG (k:IntKind) (L:List Int) (n:Nat):(zD k L).take n=zD k (L.take n):=by simp[zD,List.map_take]
theorem zFE (k:IntKind) (L:List Int) (n:Nat):(zD k L).drop n=zD k (L.drop n):=by simp[zD,List.map_drop]
theorem SlT.idxk {t el:TypeId} {bytes:Nat} (h:SlT t el 1 bytes) (k:IntKind) (S:zB) (L:List Int) (ex:Bool) (i:Int):zI Tryz.prog t S (.sl (zD k L) ex) (.int .i64 i)=if 0≤i∧i<L.length then some (.cp [.int k (L.getD i.toNat 0)]) else none:=h.idx (fun _=>rfl) 0 S L ex i
theorem SlT.idxmk {t el:TypeId} {bytes:Nat} (h:SlT t el 1 bytes) (k:IntKind) {S:zB} {id off n:Nat} {ex:Bool} {L:List Int} (i:Nat) (hS:zj S id=some (zD k L)) (hl:off+n≤L.length) (hi:i<n):zI Tryz.prog t S (.msl id off n ex) (.int .i64 i)=some (.mp id (off+i) 0):=h.idxm i hS (by rw[zQ];exact hl) (xg k L) hi
theorem zIE (S:zB) (d:Nat) (k:IntKind) (L:List Int):xY (xY (wx S (d+1))) (zD k L)=some (zD k L):=by
 have:=W8 (f:=xY (wx S (d+1))) (g:=fun x=>x) (l:=zD k L) (fun a ha=>by
  obtain⟨w,_,rfl⟩:=aL.1 ha;rfl)
 simpa using this
theorem W9 {S:zB} {id n:Nat} {k:IntKind} {L:List Int} {ex:Bool} (h:zj S id=some (zD k L)) (hn:L.length=n) (d:Nat):wx S (d+2) (.msl id 0 n ex)=some (.sl (zD k L) false):=by
 have e1:rowsIn S (.msl id 0 n false)=some (zD k L):=by
  rw[Zq,h];simp only[bI,pC,bX,zQ,hn,bF,if_true];rw[←hn,←zQ k L,PX]
 show ((rowsIn S (.msl id 0 n false)).bind fun rows=>(xY (xY (wx S (d+1))) rows).map fun rows=>PV.sl rows false)=_
 rw[e1];simp only[bI,zIE,pE]
theorem uJ {S:zB} {id n:Nat} {k:IntKind} {L:List Int} {ex:Bool} (h:zj S id=some (zD k L)) (hn:L.length=n):wy S (.msl id 0 n ex)=some (.sl (zD k L) false):=W9 (ex:=ex) h hn 6
theorem QX {S:zB} {id:Nat} {rows:List (List PV)} (h:zj S id=some rows) (hr:zT rows=[]) (d:Nat):wO S (d+1) [id]=[id]:=by
 simp[zKG,h,hr,zFC]
theorem wP {S:zB} {f:FuncId} {id n:Nat} {k:IntKind} {L:List Int} {ex:Bool} {v:PV} (hc:callL Tryz.prog zE f [.sl (zD k L) false]=some v) (h:zj S id=some (zD k L)) (hn:L.length=n) (hid:id<S.length):zO (callL Tryz.prog zE) S f [.msl id 0 n ex]=some {v,fz:=[id]} := by
 have e:(List.flatMap PV.refs [PV.msl id 0 n ex])=[id]:=rfl;unfold zO;rw[e,QX h (zk k L)];simp only[HP,BH,pD,bG hid,if_true,xY,uJ h hn,bI,hc,pE]
end
def zM (b:Nat):List Int→Int
 | []=>0
 | w::r=>w+b*zM b r
def OkD (b:Nat) (l:List Int):Prop:=∀w∈l,0≤w∧w<b
def wn:List Int→List Int
 | []=>[]
 | w::r=>if wn r=[]∧w=0 then [] else w::wn r
def xr (b:Nat) (n:Nat):List Int:=if h:n=0∨b<2 then [] else ((n % b:Nat):Int)::xr b (n / b)
termination_by n
decreasing_by exact PY (by omega) (by omega)
theorem xF (b:Nat):xr b 0=[]:=by rw[xr];simp
theorem ve {b n:Nat} (hb:2≤b) (hn:n≠0):xr b n=((n % b:Nat):Int)::xr b (n / b):=by
 rw[xr,dif_neg (by omega)]
theorem OkD.tail {b:Nat} {w:Int} {l:List Int} (h:OkD b (w::l)):OkD b l:=fun x hx=>h x (List.mem_cons_of_mem _ hx)
theorem OkD.head {b:Nat} {w:Int} {l:List Int} (h:OkD b (w::l)):0≤w∧w<b:=h w (by simp)
theorem OkD.cons {b:Nat} {w:Int} {l:List Int} (h:0≤w∧w<b) (hl:OkD b l):OkD b (w::l):=fun x hx=>by
 rcases sW.1 hx with rfl | hx
 ·exact h
 ·exact hl x hx
theorem OkD.nil (b:Nat):OkD b []:=fun x hx=>by cases hx
theorem OkD.append {b:Nat} {l m:List Int} (h:OkD b l) (hm:OkD b m):OkD b (l++m):=fun x hx=>by
 rcases sB.1 hx with hx | hx
 ·exact h x hx
 ·exact hm x hx
theorem OkD.getD {b:Nat} {l:List Int} (h:OkD b l) (hb:0<b) (i:Nat):0≤l.getD i 0∧l.getD i 0<b:=by
 by_cases hi:i<l.length
 ·have:=h (l.getD i 0) (by simp[bL,hi]);exact this
 ·rw[bL,sA (by omega)];exact⟨HK 0,by simp;omega⟩
theorem yl {b:Nat} : ∀ {l:List Int},OkD b l→0≤zM b l
 | [],_=>HK 0
 | w::r,h=>by
  have h1:=h.head;have h2:=yl h.tail;have h3:0≤(b:Int)*zM b r:=sY (by omega) h2;rw[zM];omega
theorem zv (b:Nat) : ∀(l m:List Int),zM b (l++m)=zM b l+(b:Int)^l.length*zM b m
 | [],m=>by simp[zM]
 | w::l,m=>by
  rw[pX,zM,zv b l m,zM,bK,sP];rw[bV,PG,←pM,pK ((b:Int)^l.length) b]
theorem uQ {b:Nat} : ∀ {l:List Int},OkD b l→zM b l<(b:Int)^l.length
 | [],_=>by simp[zM]
 | w::r,h=>by
  have h1:=h.head;have h2:=uQ h.tail;have h3:(b:Int)*(zM b r+1)≤(b:Int)*(b:Int)^r.length:=sH (by omega) (by omega);rw[bV]at h3;rw[zM,bK,sP,pK ((b:Int)^r.length)];omega
theorem QY (b:Nat) : ∀l:List Int,zM b (wn l)=zM b l
 | []=>rfl
 | w::r=>by
  have ih:=QY b r;rw[wn]
  split
  ·rename_i h;rw[h.1]at ih
   show 0=w+b*zM b r
   rw[←ih,h.2];simp[zM]
  ·rw[zM,zM,ih]
theorem Zr : ∀l:List Int,(wn l).length≤l.length
 | []=>bF 0
 | w::r=>by
  have:=Zr r;rw[wn]
  split
  ·simp
  ·simp only[bK];omega
theorem qq : ∀l:List Int,wn (l++[0])=wn l
 | []=>by simp[wn]
 | w::r=>by rw[pX,wn,wn,qq r]
theorem Zs {x:Int} (hx:x≠0) : ∀l:List Int,wn (l++[x])=l++[x]
 | []=>by simp[wn,hx]
 | w::r=>by
  rw[pX,wn,Zs hx r,hZ];intro h;have:=h.1;simp at this
theorem kQ {b:Nat} (hb:2≤b) : ∀ {l:List Int},OkD b l→wn l=xr b (zM b l).toNat
 | [],_=>by rw[wn,zM];exact (xF b).symm
 | w::r,h=>by
  have ih:=kQ hb h.tail;have h1:=h.head;have h2:=yl h.tail;have h3:0≤(b:Int)*zM b r:=sY (by omega) h2;rw[wn];by_cases hc:wn r=[]∧w=0
  ·rw[bA hc];have:zM b r=0:=by rw[←QY b r,hc.1];rfl
   rw[zM,this,hc.2];simp[xF]
  ·rw[hZ hc];have hne:(zM b (w::r)).toNat≠0:=by
    intro h0;have e:w+b*zM b r=0:=by rw[zM]at h0;omega
    have hw:w=0:=by omega
    have hbr:(b:Int)*zM b r=0:=by omega
    have hr:zM b r=0:=by
     rcases Int.mul_eq_zero.1 hbr with h | h
     ·omega
     ·exact h
    refine hc ⟨?_,hw⟩;rw[ih,hr];exact xF b
   rw[ve hb hne,ih];have e1:(zM b (w::r)).toNat=w.toNat+b*(zM b r).toNat:=by
    rw[zM];have e2:((b*(zM b r).toNat:Nat):Int)=(b:Int)*zM b r:=by
     rw[sL,Int.toNat_of_nonneg h2]
    omega
   have hwb:w.toNat<b:=by omega
   rw[e1]
   congr 1
   ·rw[Nat.add_mul_mod_self_left,aH hwb];omega
   ·rw[Nat.add_mul_div_left _ _ (by omega),HI hwb,pC]
theorem U2 {b:Nat} (hb:2≤b) (n:Nat):OkD b (xr b n):=by
 induction n using Nat.strongRecOn with
 | ind n ih =>
  by_cases h:n=0
  ·subst h;rw[xF];exact .nil b
  ·rw[ve hb h];exact .cons ⟨by omega,by have:=aM n (show 0<b by omega);omega⟩ (ih _ (PY (by omega) (by omega)))
theorem Z0 {b:Nat} (hb:2≤b) (n:Nat):zM b (xr b n)=n:=by
 induction n using Nat.strongRecOn with
 | ind n ih =>
  by_cases h:n=0
  ·subst h;rw[xF];rfl
  ·rw[ve hb h,zM,ih _ (PY (by omega) (by omega))];have:=Nat.mod_add_div n b;have e:((b*(n / b):Nat):Int)=(b:Int)*((n / b:Nat):Int):=sL _ _;omega
theorem QZ {b:Nat} (hb:2≤b) (n:Nat):wn (xr b n)=xr b n:=by
 rw[kQ hb (U2 hb n),Z0 hb,bD]
theorem zM9 {b:Nat} (hb:2≤b) {l:List Int} (h:OkD b l) (hl : ∀x r,l=r++[x]→x≠0):l=xr b (zM b l).toNat:=by
 rw[←kQ hb h]
 rcases List.eq_nil_or_concat l with rfl | ⟨r,x,rfl⟩
 ·rfl
 ·rw[List.concat_eq_append]at hl ⊢;rw[Zs (hl x r rfl)]
theorem vD {b n:Nat} (hb:2≤b):xr b n=[]↔n=0:=by
 constructor
 ·intro h;by_cases h0:n=0
  ·exact h0
  ·rw[ve hb h0]at h;cases h
 ·rintro rfl;exact xF b
theorem xO {b:Nat} (hb:2≤b) : ∀(k n:Nat),(xr b n).length≤k↔n<b^k
 | 0,n=>by
  rw[Nat.pow_zero,Nat.le_zero,SV,vD hb];omega
 | k+1,n=>by
  by_cases h:n=0
  ·subst h;rw[xF];simp;exact aY (by omega)
  ·rw[ve hb h,bK,Nat.add_le_add_iff_right,xO hb k (n / b),Nat.pow_succ,PA (by omega)]
theorem wu {b m n:Nat} (hb:2≤b) (h:m≤n):(xr b m).length≤(xr b n).length :=
 (xO hb _ m).2 (Nat.lt_of_le_of_lt h ((xO hb _ n).1 (bF _)))
theorem zHK {b:Nat} (hb:2≤b) (n:Nat):n<b^(xr b n).length:=(xO hb _ n).1 (bF _)
theorem zCk {b m n k:Nat} (hb:2≤b) (hm:(xr b m).length≤k) (hn:(xr b n).length≤k):(xr b (m+n)).length≤k+1:=by
 rw[xO hb]at *;rw[Nat.pow_succ];have:b^k*2≤b^k*b:=PZ _ hb;omega
theorem zCl {b m n j k:Nat} (hb:2≤b) (hm:(xr b m).length≤j) (hn:(xr b n).length≤k):(xr b (m*n)).length≤j+k:=by
 rw[xO hb]at *;rw[HD];exact Nat.mul_lt_mul'' hm hn
theorem XE {b n:Nat} (hb:2≤b) (h:n≠0):(xr b n).getD ((xr b n).length-1) 0≠0:=by
 have hne:xr b n≠[]:=fun e=>h ((vD hb).1 e)
 rcases List.eq_nil_or_concat (xr b n) with e | ⟨r,x,e⟩
 ·exact absurd e hne
 ·rw[List.concat_eq_append]at e;rw[e];have hx:x≠0:=by
   intro hx;subst hx;have a:=QZ hb n;rw[e,qq]at a;have:=Zr r;rw[a]at this;simp at this;omega
  simpa [bL] using hx
theorem zKJ {b m n:Nat} (hb:2≤b) (h:xr b m=xr b n):m=n:=by
 have a:=Z0 hb m;rw[h,Z0 hb]at a;omega
theorem zCm {b:Nat} : ∀ {l m:List Int},OkD b l→OkD b m→l.length=m.length→∀ {x y:Int},0≤x→x<b→0≤y→y<b→x<y→zM b (l++[x])<zM b (m++[y]):=by
 intro l m hl hm he x y hx hx' hy hy' hlt;rw[zv,zv,he];have h1:=uQ hl;have h2:=yl hm;rw[he]at h1;have h3:(b:Int)^m.length*(x+1)≤(b:Int)^m.length*y:=sH (by omega) (Int.pow_nonneg (by omega));rw[bV,Int.mul_one]at h3;simp only[zM,HE,PH];omega
section
theorem xv:SlT 25 126 1 4:=⟨by kernel_rfl,by kernel_rfl,by kernel_rfl,by kernel_rfl,by kernel_rfl⟩
@[go_sem] theorem zTh (r:List (List PV)) (ex:Bool):yI (tyi Tryz.prog 25) (.sl r ex)=some (.int .i64 r.length):=xv.len r ex
@[go_sem] theorem zS7 (i o l:Nat) (ex:Bool):yI (tyi Tryz.prog 25) (.msl i o l ex)=some (.int .i64 l):=xv.lenm i o l ex
@[go_sem] theorem zTi (S:zB) (L:List Int) (ex:Bool) (i:Int):zI Tryz.prog 25 S (.sl (zD .u32 L) ex) (.int .i64 i)=if 0≤i∧i<L.length then some (.cp [.int .u32 (L.getD i.toNat 0)]) else none:=xv.idxk .u32 S L ex i
@[go_sem] theorem VY:(tyi Tryz.prog 126).known=true:=nr (by kernel_rfl)
@[go_sem] theorem zQ6:(tyi Tryz.prog 126).size=1:=nr (by kernel_rfl)
@[go_sem] theorem zQ7 (v:PV) (r:List PV):part (tyi Tryz.prog 126) (v::r)=some v:=by
 have e:(tyi Tryz.prog 126).isAgg=false:=by kernel_rfl
 simp[part,VY,e]
theorem zQ8:(tyi Tryz.prog 126).d=.int .u32:=by kernel_rfl
theorem zN6:(tyi Tryz.prog 161).d=.int .u64:=by kernel_rfl
theorem Q0:(tyi Tryz.prog 161).known=true:=by kernel_rfl
@[go_sem] theorem zMa (S:zB) (k:IntKind) (n:Int):zL Tryz.prog 126 161 S (.int k n)=some (.int .u64 (IntKind.u64.wrap n)):=by simp[zL,VY,xL,zN6]
@[go_sem] theorem zMb (S:zB) (k:IntKind) (n:Int):zL Tryz.prog 161 126 S (.int k n)=some (.int .u32 (IntKind.u32.wrap n)):=by simp[zL,Q0,xL,zQ8]
@[go_sem] theorem zQ9 (id n:Nat) (is:List Nat) (rows:List (List PV)):zG Tryz.prog 25 id n is rows=if is=List.range n∧yM 1 rows=true∧(rows.all fun r=>r.all PV.cell)=true∧n*1≤16777216 then some {v:=.msl id 0 n true,new:=some (rows,some (some 1))} else none:=xv.buildSlice (by decide) id n is rows
theorem zKK:(tyi Tryz.prog 126).zero=some [.int .u32 0]:=by kernel_rfl
theorem qr (id n:Nat) (hn:n≤40000000000000):zJ Tryz.prog 25 id (.int .i64 n) (.int .i64 n)=some {v:=.msl id 0 n true,new:=some (zD .u32 (List.replicate n 0),some (some 1))} := by
 rw[xv.make zKK id n (by omega) (by omega),YN]
abbrev WB:Nat:=4294967296
def words (n:Nat):List Int:=xr WB n
def yL (n:Nat):PV:=.sl (zD .u32 (words n)) false
theorem WB2:2≤WB:=by decide
section
attribute [local irreducible] Vs.callL Vs.callRL tyi zO zl zf zR zW za zI zY zA zK zb zV zG zJ zU zn yI zm zL ze Vs.gc zH
noncomputable def zFF:FX:=⟨Tryz.f152,zE.of 152,[]⟩
instance ok152_:zFF.ok 152:=FX.mk'
theorem zIF (fs:List Fr) {z:PV × zB} : ∀(n:Nat) (L:List Int),L.length=n→n≤maxLen→yB 0 zFF 0 fs [(0,.sl (zD .u32 (wn L)) false),(14,.undef)] []=some z→zS 0 zFF 0 24 0 fs [(0,.sl (zD .u32 L) false)] []=some z:=by
 have hm:=xV;intro n
 induction n with
 | zero =>
  intro L hL hn hz;obtain rfl:L=[]:=pL hL;apply zC;(repeat((conv=>lhs;whnf);simp only[go_sem,simprocAttr,yD]));exact hz
 | succ n ih =>
  intro L hL hn hz
  rcases List.eq_nil_or_concat L with rfl | ⟨r,x,rfl⟩
  ·simp at hL
  ·rw[List.concat_eq_append]at hL hz ⊢;have hr:r.length=n:=by simpa using hL
   have h0:(0:Int)<(r.length:Int)+1:=by omega
   have w1:IntKind.i64.wrap ((r.length:Int)+1-1)=(r.length:Int):=by rw[bE];omega
   have h1:0≤(r.length:Int)∧(r.length:Int)<(r.length:Int)+1:=⟨by omega,by omega⟩;have g1:(r++[x]).getD r.length 0=x:=by simp[bL]
   have t1:(zD .u32 (r++[x])).take r.length=zD .u32 r:=by rw[KG];simp
   have sl:=xv.firsts [] (rows:=zD .u32 (r++[x])) false r.length (by rw[zQ,bM];omega) (xg .u32 _);rw[t1]at sl;apply zC;by_cases hx:x=0
   ·subst hx;rw[qq]at hz;have key:=ih r hr (by omega) hz;(repeat((conv=>lhs;whnf);simp only[go_sem,simprocAttr,bM,BI,Int.cast_ofNat_Int,h0,w1,h1,bD,g1,sl]));exact key
   ·rw[Zs hx]at hz;(repeat((conv=>lhs;whnf);simp only[go_sem,simprocAttr,bM,BI,Int.cast_ofNat_Int,h0,w1,h1,bD,g1,hx]));exact hz
theorem zIG (L:List Int) (hL:L.length≤maxLen):callL Tryz.prog zE 152 [.sl (zD .u32 L) false]=some (.sl (zD .u32 (wn L)) false):=by
 refine FX.callL (r:=(.sl (zD .u32 (wn L)) false,[])) ok152_ 1000 rfl rfl ?_ (wY _ _);(repeat((conv=>lhs;whnf);simp only[go_sem,simprocAttr]));refine zIF _ L.length L rfl hL ?_;apply zN;((repeat((conv=>lhs;whnf);simp only[go_sem,simprocAttr]));try rfl)
theorem wZ {L:List Int} (hL:L.length≤maxLen) (h:OkD WB L):callL Tryz.prog zE 152 [.sl (zD .u32 L) false]=some (yL (zM WB L).toNat):=by
 rw[zIG L hL,kQ WB2 h];rfl
end
end
section
theorem xJ (n:Int):IntKind.u64.wrap n=n % 18446744073709551616:=by
 simp[IntKind.wrap,IntKind.bits,IntKind.signed]
@[go_sem] theorem zPf:(2:Int)^min 32 64=4294967296:=nr (by decide)
@[go_sem] theorem zPg:(2:Int)^min 63 64=9223372036854775808:=nr (by decide)
@[go_sem] theorem zS8 (a:Int):a.fdiv 4294967296=a / 4294967296:=BS _ (by decide)
@[go_sem] theorem zS9 (a:Int):a.fdiv 9223372036854775808=a / 9223372036854775808:=BS _ (by decide)
def bor (k:IntKind) (a b:Int):Int:=k.wrap (BitVec.ofInt k.bits a ||| BitVec.ofInt k.bits b).toNat
@[go_sem ↓] theorem zQa (k:IntKind) (a b:Int):k.wrap (BitVec.ofInt k.bits a ||| BitVec.ofInt k.bits b).toNat=bor k a b:=rfl
theorem Z1 {h l:Int} (hh:0≤h∧h<4294967296) (hl:0≤l∧l<4294967296):bor .u64 (h*4294967296) l=h*4294967296+l:=by
 obtain⟨a,rfl⟩ : ∃a:Nat,h=a:=⟨h.toNat,by omega⟩;obtain⟨b,rfl⟩ : ∃b:Nat,l=b:=⟨l.toNat,by omega⟩;have e1:((a:Int)*4294967296)=((a*4294967296:Nat):Int):=by omega
 rw[e1]
 show IntKind.u64.wrap (((BitVec.ofInt 64 ((a*4294967296:Nat):Int) ||| BitVec.ofInt 64 (b:Int)).toNat:Nat):Int)=_
 rw[BitVec.toNat_or,PI,PI,PJ,PJ,aH (by omega),aH (by omega)];have e2:a*4294967296 ||| b=a*4294967296+b:=by
  have:=Nat.shiftLeft_add_eq_or_of_lt (i:=32) (b:=b) (by omega) a;rw[Nat.shiftLeft_eq]at this;exact this.symm
 rw[e2,xJ];omega
theorem xD (n:Nat):OkD WB (words n):=U2 WB2 n
theorem xQ (n:Nat):zM WB (words n)=n:=Z0 WB2 n
def yC (n:Nat) (ex:Bool):PV:=.sl (zD .u32 (words n)) ex
section
attribute [local irreducible] Vs.callL Vs.callRL tyi zO zl zf zR zW za zI zY zA zK zb zV zG zJ zU zn yI zm zL ze Vs.gc zH
noncomputable def zOP:FX:=⟨Tryz.f170,zE.of 170,[]⟩
instance ok170_:zOP.ok 170:=FX.mk'
theorem Q1 (n:Nat) (hn:n<18446744073709551616):callL Tryz.prog zE 170 [.int .u64 n]=some (yL n):=by
 have e1:IntKind.u32.wrap (n:Int)=((n % 4294967296:Nat):Int):=by rw[pR];omega
 have e2:IntKind.u32.wrap ((n:Int) / 4294967296)=((n / 4294967296:Nat):Int):=by rw[pR];omega
 have hL:OkD WB [((n % 4294967296:Nat):Int),((n / 4294967296:Nat):Int)]:=.cons ⟨by omega,by show _<((4294967296:Nat):Int);omega⟩ (.cons ⟨by omega,by show _<((4294967296:Nat):Int);omega⟩ (.nil _));have ct:=wZ (L:=[((n % 4294967296:Nat):Int),((n / 4294967296:Nat):Int)]) (show 2≤maxLen by decide) hL;have ev:(zM WB [((n % 4294967296:Nat):Int),((n / 4294967296:Nat):Int)]).toNat=n:=by
  show (((n % 4294967296:Nat):Int)+((4294967296:Nat):Int)*(((n / 4294967296:Nat):Int)+((4294967296:Nat):Int)*0)).toNat=n
  omega
 rw[ev]at ct;have c1:=wP (S:=[.arr (zD .u32 [((n % 4294967296:Nat):Int),((n / 4294967296:Nat):Int)]) (some (some 1)) false]) (id:=0) (n:=2) (ex:=true) ct rfl rfl (by simp);have er:[[PV.int .u32 ((n % 4294967296:Nat):Int)],[PV.int .u32 ((n / 4294967296:Nat):Int)]]=zD .u32 [((n % 4294967296:Nat):Int),((n / 4294967296:Nat):Int)]:=rfl;refine FX.callL (r:=(yL n,zH [.arr (zD .u32 [((n % 4294967296:Nat):Int),((n / 4294967296:Nat):Int)]) (some (some 1)) false] [0])) ok170_ 1000 rfl rfl ?_ (wY _ _);((repeat((conv=>lhs;whnf);simp only[go_sem,simprocAttr,e1,e2,er,c1]));try rfl)
noncomputable def zOQ:FX:=⟨Tryz.f176,zE.of 176,[]⟩
instance ok176_:zOQ.ok 176:=FX.mk'
theorem zFG (n:Nat) (ex:Bool):callL Tryz.prog zE 176 [yC n ex]=some (if n<18446744073709551616 then .tup [.int .u64 n,.bool true] else .tup [.int .u64 0,.bool false]):=by
 have ho:=xD n;have hv:=xQ n;have hl:=xO WB2 2 n;have hl':(words n).length≤2↔n<18446744073709551616:=hl;unfold yC;generalize words n=L at *
 rcases L with _ | ⟨a,_ | ⟨b,_ | ⟨c,L⟩⟩⟩
 ·rw[bA (hl'.1 (by simp))];have e:n=0:=by
   have:(n:Int)=0:=hv.symm;omega
  subst e;refine FX.callL (r:=(.tup [.int .u64 0,.bool true],[])) ok176_ 1000 rfl rfl ?_ rfl;((repeat((conv=>lhs;whnf);simp only[go_sem,simprocAttr]));try rfl)
 ·rw[bA (hl'.1 (by simp))];have h1:=ho.head;have e:(n:Int)=a:=by
   have:a+((4294967296:Nat):Int)*0=(n:Int):=hv;omega
  rw[e];have w:IntKind.u64.wrap a=a:=by
   have:a<((4294967296:Nat):Int):=h1.2;rw[xJ];omega
  refine FX.callL (r:=(.tup [.int .u64 a,.bool true],[])) ok176_ 1000 rfl rfl ?_ rfl;have g0:([a]:List Int).getD (Int.toNat 0) 0=a:=rfl;((repeat((conv=>lhs;whnf);simp only[go_sem,simprocAttr,w,g0]));try rfl)
 ·rw[bA (hl'.1 (by simp))];have h1:=ho.head;have h2:=ho.tail.head;have h1':a<4294967296:=h1.2;have h2':b<4294967296:=h2.2;have e:(n:Int)=b*4294967296+a:=by
   have:a+((4294967296:Nat):Int)*(b+((4294967296:Nat):Int)*0)=(n:Int):=hv;omega
  rw[e];have w:IntKind.u64.wrap a=a:=by rw[xJ];omega
  have w2:IntKind.u64.wrap b=b:=by rw[xJ];omega
  have w3:IntKind.u64.wrap (b*4294967296)=b*4294967296:=by rw[xJ];omega
  have o:=Z1 ⟨h2.1,h2'⟩ ⟨h1.1,h1'⟩;refine FX.callL (r:=(.tup [.int .u64 (b*4294967296+a),.bool true],[])) ok176_ 1000 rfl rfl ?_ rfl;have g0:([a,b]:List Int).getD 0 0=a:=rfl;have g1:([a,b]:List Int).getD 1 0=b:=rfl;have l0:(0:Int)≤0∧(0:Int)<((2:Nat):Int):=by decide
  have l1:(0:Int)≤1∧(1:Int)<((2:Nat):Int):=by decide
  ((repeat((conv=>lhs;whnf);simp only[go_sem,simprocAttr,w,w2,w3,g0,g1,o]));try rfl)
 ·rw[hZ (fun h=>by have:=hl'.2 h;simp at this)];have z0 : ¬((L.length:Int)+1+1+1=0):=by omega
  have z1 : ¬((L.length:Int)+1+1+1=1):=by omega
  have z2 : ¬((L.length:Int)+1+1+1=2):=by omega
  refine FX.callL (r:=(.tup [.int .u64 0,.bool false],[])) ok176_ 1000 rfl rfl ?_ rfl;((repeat((conv=>lhs;whnf);simp only[go_sem,simprocAttr,BI,Int.cast_ofNat_Int,z0,z1,z2]));try rfl)
end
end
section
def xi (m n:Nat):Int:=if m<n then -1 else if n<m then 1 else 0
def uZ (m n:Int):Int:=if m<n then -1 else if n<m then 1 else 0
theorem Q2 (m n:Nat):uZ m n=xi m n:=by
 unfold uZ xi;by_cases h:m<n
 ·rw[bA h,bA (by omega)]
 ·rw[hZ h,hZ (by omega)];by_cases h2:n<m
  ·rw[bA h2,bA (by omega)]
  ·rw[hZ h2,hZ (by omega)]
theorem Zt (L:List Int) {k:Nat} (h:k<L.length):L=L.take k++[L.getD k 0]++L.drop (k+1):=by
 have:L.drop k=L.getD k 0::L.drop (k+1):=by
  rw[PK h];simp[bL,h]
 rw[pB,List.singleton_append,←this,HJ]
theorem yu (L:List Int) {k:Nat} (h:k<L.length):L.drop k=L.getD k 0::L.drop (k+1):=by
 rw[PK h];simp[bL,h]
theorem OkD.take {b:Nat} {l:List Int} (h:OkD b l) (k:Nat):OkD b (l.take k):=fun x hx=>h x (HN hx)
theorem OkD.drop {b:Nat} {l:List Int} (h:OkD b l) (k:Nat):OkD b (l.drop k):=fun x hx=>h x (BN hx)
theorem Q3 {A B:List Int} (hA:OkD WB A) (hB:OkD WB B) (hl:A.length=B.length) {k:Nat} (hk:k<A.length) (hs:A.drop (k+1)=B.drop (k+1)) (hlt:A.getD k 0<B.getD k 0):zM WB A<zM WB B:=by
 have eA:zM WB A=_:=(congrArg (zM WB) (Zt A hk)).trans (zv WB _ _);have eB:zM WB B=_:=(congrArg (zM WB) (Zt B (k:=k) (by omega))).trans (zv WB _ _);rw[eA,eB,hs];have ha:=hA.getD (by decide) k;have hb:=hB.getD (by decide) k;have h:=zCm (hA.take k) (hB.take k) (by simp;omega) ha.1 ha.2 hb.1 hb.2 hlt;have e:(A.take k++[A.getD k 0]).length=(B.take k++[B.getD k 0]).length:=by simp;omega
 rw[e];omega
section
attribute [local irreducible] Vs.callL Vs.callRL tyi zO zl zf zR zW za zI zY zA zK zb zV zG zJ zU zn yI zm zL ze Vs.gc zH
noncomputable def zKL:FX:=⟨Tryz.f115,zE.of 115,[]⟩
instance ok115_:zKL.ok 115:=FX.mk'
theorem zKM (A B:List Int) (e1 e2:Bool) (hA:OkD WB A) (hB:OkD WB B) (hl:A.length=B.length) (hm:A.length≤maxLen) : ∀(k:Nat) (i:Int),i=(k:Int)-1→k≤A.length→A.drop k=B.drop k→zS 0 zKL 0 116 0 [.blk 0,.seq 0 15] [(0,.sl (zD .u32 A) e1),(1,.sl (zD .u32 B) e2),(5,.int .i64 i)] []=some (.int .i64 (uZ (zM WB A) (zM WB B)),[]):=by
 have hM:=xV;intro k
 induction k with
 | zero =>
  intro i hi hk hs;have c : ¬ 0≤i:=by omega
  have e:A=B:=by simpa using hs
  subst e;have z:uZ (zM WB A) (zM WB A)=0:=by unfold uZ;rw[hZ (by omega),hZ (by omega)]
  rw[z];apply zC;(repeat((conv=>lhs;whnf);simp only[go_sem,simprocAttr,c]));apply zN;((repeat((conv=>lhs;whnf);simp only[go_sem,simprocAttr]));try rfl)
 | succ k ih =>
  intro i hi hk hs;have hi':i=(k:Int):=by omega
  subst hi';have c:(0:Int)≤(k:Int):=by omega
  have x1:0≤(k:Int)∧(k:Int)<(A.length:Int):=⟨by omega,by omega⟩;have x2:0≤(k:Int)∧(k:Int)<(B.length:Int):=⟨by omega,by omega⟩;have w:IntKind.i64.wrap ((k:Int)-1)=(k:Int)-1:=by rw[bE];omega
  apply zC;by_cases h1:A.getD k 0=B.getD k 0
  ·have key:=ih _ rfl (by omega) (by rw[yu A (by omega),yu B (by omega),h1,hs]);(repeat((conv=>lhs;whnf);simp only[go_sem,simprocAttr,c,x1,x2,bD,h1,w]));exact key
  ·by_cases h2:A.getD k 0<B.getD k 0
   ·have hv:=Q3 hA hB hl (k:=k) (by omega) hs h2;have z:uZ (zM WB A) (zM WB B) = -1:=by unfold uZ;rw[bA hv]
    rw[z];((repeat((conv=>lhs;whnf);simp only[go_sem,simprocAttr,c,x1,x2,bD,h1,h2]));try rfl)
   ·have hv:=Q3 hB hA hl.symm (k:=k) (by omega) hs.symm (by omega);have z:uZ (zM WB A) (zM WB B)=1:=by unfold uZ;rw[hZ (by omega),bA hv]
    rw[z];((repeat((conv=>lhs;whnf);simp only[go_sem,simprocAttr,c,x1,x2,bD,h1,h2]));try rfl)
theorem Wa (m n:Nat) (e1 e2:Bool) (hm:(words m).length≤maxLen) (hn:(words n).length≤maxLen):callL Tryz.prog zE 115 [yC m e1,yC n e2]=some (.int .i64 (xi m n)):=by
 have hM:=xV;unfold yC;by_cases hl:(words m).length=(words n).length
 ·have key:=zKM (words m) (words n) e1 e2 (xD m) (xD n) hl hm (words m).length ((words m).length-1) rfl (bF _) (by rw[HL,hl,HL]);rw[xQ,xQ,Q2]at key;have w:IntKind.i64.wrap (((words m).length:Int)-1)=((words m).length:Int)-1:=by rw[bE];omega
  have c:((words m).length:Int)=((words n).length:Int):=by omega
  rw[c]at w;rw[c]at key;refine FX.callL (r:=(.int .i64 (xi m n),[])) ok115_ 1000 rfl rfl ?_ rfl;(repeat((conv=>lhs;whnf);simp only[go_sem,simprocAttr,c,w]));exact key
 ·have c : ¬((words m).length:Int)=((words n).length:Int):=by omega
  by_cases h2:(words m).length<(words n).length
  ·have hmn:m<n:=by
    by_cases h:m<n
    ·exact h
    ·have:=wu WB2 (show n≤m by omega);unfold words at h2;omega
   have z:xi m n = -1:=by unfold xi;rw[bA hmn]
   rw[z];have c2:((words m).length:Int)<((words n).length:Int):=by omega
   refine FX.callL (r:=(.int .i64 (-1),[])) ok115_ 1000 rfl rfl ?_ rfl;((repeat((conv=>lhs;whnf);simp only[go_sem,simprocAttr,c,c2]));try rfl)
  ·have hmn:n<m:=by
    by_cases h:n<m
    ·exact h
    ·have:=wu WB2 (show m≤n by omega);unfold words at h2 hl;omega
   have z:xi m n=1:=by unfold xi;rw[hZ (by omega),bA hmn]
   rw[z];have c2 : ¬((words m).length:Int)<((words n).length:Int):=by omega
   refine FX.callL (r:=(.int .i64 1,[])) ok115_ 1000 rfl rfl ?_ rfl;((repeat((conv=>lhs;whnf);simp only[go_sem,simprocAttr,c,c2]));try rfl)
end
def Z2:List Int→List Int→Int→List Int
 | [],_,_=>[]
 | x::a,b,c=>(x-c-b.headD 0) % 4294967296::Z2 a b.tail (if x-c-b.headD 0<0 then 1 else 0)
def zA3:List Int→List Int→Int→Int
 | [],_,c=>c
 | x::a,b,c=>zA3 a b.tail (if x-c-b.headD 0<0 then 1 else 0)
theorem KH {b:List Int} (h:OkD WB b):0≤b.headD 0∧b.headD 0<4294967296:=by
 cases b with
 | nil=>exact⟨HK 0,by simp⟩
 | cons x b=>exact h.head
theorem zA4 {b:List Int} (h:OkD WB b):OkD WB b.tail:=by
 cases b with
 | nil=>exact h
 | cons x b=>exact h.tail
theorem zA5 (b:List Int):zM WB b=b.headD 0+4294967296*zM WB b.tail:=by
 cases b with
 | nil=>simp[zM]
 | cons x b=>rfl
theorem zCn : ∀(a b:List Int) (c:Int),OkD WB a→OkD WB b→b.length≤a.length→(c=0∨c=1)→OkD WB (Z2 a b c)∧(Z2 a b c).length=a.length∧(zA3 a b c=0∨zA3 a b c=1)∧zM WB (Z2 a b c)=zM WB a-zM WB b-c+(4294967296:Int)^a.length*zA3 a b c
 | [],b,c,ha,hb,hl,hc=>by
  have:b=[]:=pL (by simpa using hl);subst this;refine⟨.nil _,rfl,hc,?_⟩;simp[Z2,zA3,zM];omega
 | x::a,b,c,ha,hb,hl,hc=>by
  have hx:=ha.head;have hx':x<4294967296:=hx.2;have hh:=KH hb;have hbt:b.tail.length≤a.length:=by simp only[bK]at hl;rw[SP];omega
  obtain⟨i1,i2,i3,i4⟩:=zCn a b.tail (if x-c-b.headD 0<0 then 1 else 0) ha.tail (zA4 hb) hbt (by split <;> simp);refine⟨.cons ⟨by omega,by show _<((4294967296:Nat):Int);omega⟩ i1,by simp only[Z2,bK,i2],i3,?_⟩;have e1:zM WB (x::a)=x+4294967296*zM WB a:=rfl;have e2:=zA5 b;have e3:zM WB (Z2 (x::a) b c)=(x-c-b.headD 0) % 4294967296+4294967296*zM WB (Z2 a b.tail (if x-c-b.headD 0<0 then 1 else 0)):=rfl;have e4:zA3 (x::a) b c=zA3 a b.tail (if x-c-b.headD 0<0 then 1 else 0):=rfl;rw[e3,i4,e4,e1,e2,bK,sP];generalize zA3 a b.tail (if x-c-b.headD 0<0 then 1 else 0)=s at *;generalize hp:(4294967296:Int)^a.length=P at *;rw[pK P 4294967296,pM];generalize P*s=Q
  split <;> omega
section
attribute [local irreducible] Vs.callL Vs.callRL tyi zO zl zf zR zW za zI zY zA zK zb zV zG zJ zU zn yI zm zL ze Vs.gc zH
noncomputable def zFH:FX:=⟨Tryz.f167,zE.of 167,[]⟩
instance ok167_:zFH.ok 167:=FX.mk'
theorem zKN (A B:List Int) (e1 e2:Bool) (hA:OkD WB A) (hB:OkD WB B) (hl:B.length≤A.length) (hm:A.length≤maxLen) (fs:List Fr) {z:PV × zB} (hz : ∀c:Int,yB 0 zFH 0 fs [(1,.undef),(5,.msl 0 0 A.length true),(6,.undef),(13,.undef),(14,.undef),(15,.undef),(16,.undef)] [.arr (zD .u32 (Z2 A B 0)) (some (some 1)) false]=some z) : ∀(m i:Nat),i+m=A.length→∀(D:List Int) (c:Int),D.length=i→(c=0∨c=1)→D++Z2 (A.drop i) (B.drop i) c=Z2 A B 0 →
  zS 0 zFH 0 244 1 fs [(1,.sl (zD .u32 B) e2),(5,.msl 0 0 A.length true),(6,.int .u64 c),(13,.sl (zD .u32 A) e1),(14,.int .i64 A.length),(15,.int .i64 i)] [.arr (zD .u32 (D++List.replicate m 0)) (some (some 1)) false]=some z:=by
 have hM:=xV;intro m
 induction m with
 | zero =>
  intro i hi D c hD hc hs;have h1 : ¬(i:Int)<(A.length:Int):=by omega
  have hd:A.drop i=[]:=bT (by omega);rw[hd]at hs;simp only[Z2,pU]at hs;subst hs;apply zC;simp only[HS,pU];(repeat((conv=>lhs;whnf);simp only[go_sem,simprocAttr,h1]));exact hz c
 | succ m ih =>
  intro i hi D c hD hc hs;have h1:(i:Int)<(A.length:Int):=by omega
  have w1:=zg (i:=i) (n:=A.length) (by omega) hm;have x1:0≤(i:Int)∧(i:Int)<(A.length:Int):=⟨by omega,h1⟩;have ha:=hA.getD (by decide) i;have hb:=hB.getD (by decide) i;have ha':A.getD i 0<4294967296:=ha.2;have hb':B.getD i 0<4294967296:=hb.2;have hd:=yu A (k:=i) (by omega);have hbh:(B.drop i).headD 0=B.getD i 0:=by
   by_cases hib:i<B.length
   ·rw[yu B hib];rfl
   ·rw[bT (by omega),bL,sA (by omega)];rfl
  have hbt:(B.drop i).tail=B.drop (i+1):=PF;rw[hd]at hs;have es:Z2 (A.getD i 0::A.drop (i+1)) (B.drop i) c=(A.getD i 0-c-B.getD i 0) % 4294967296::Z2 (A.drop (i+1)) (B.drop (i+1)) (if A.getD i 0-c-B.getD i 0<0 then 1 else 0):=by
   rw[Z2,hbh,hbt]
  rw[es]at hs;have key:=ih (i+1) (by omega) (D++[(A.getD i 0-c-B.getD i 0) % 4294967296]) (if A.getD i 0-c-B.getD i 0<0 then 1 else 0) (by simp[hD]) (by split <;> simp) (by simpa using hs);have set : ∀v:Int,(zD .u32 (D++List.replicate (m+1) 0)).set i [.int .u32 v]=zD .u32 ((D++[v])++List.replicate m 0):=fun v=>by
   rw[xW]
   congr 1
   rw[sS,hZ (by omega),hD,sQ,aZ,sX];simp
  have xm : ∀S:zB,zj S 0=some (zD .u32 (D++List.replicate (m+1) 0))→zI Tryz.prog 25 S (.msl 0 0 A.length true) (.int .i64 i)=some (.mp 0 (0+i) 0):=fun S hS=>xv.idxmk .u32 i hS (by simp;omega) (by omega);have xm':=xm [.arr (zD .u32 (D++List.replicate (m+1) 0)) (some (some 1)) false] rfl;have len:i<(D++List.replicate (m+1) (0:Int)).length:=by simp;omega
  have len1:((zD .u32 (D++List.replicate (m+1) 0)).getD i []).length=1:=by
   rw[yq _ _ (by simp;omega)];rfl
  have cu:IntKind.u64.wrap (A.getD i 0)=A.getD i 0:=by rw[xJ];omega
  have cb:IntKind.u64.wrap (B.getD i 0)=B.getD i 0:=by rw[xJ];omega
  apply zC;by_cases hib:i<B.length
  ·have h2:(i:Int)<(B.length:Int):=by omega
   have x2:0≤(i:Int)∧(i:Int)<(B.length:Int):=⟨by omega,h2⟩;have v1:IntKind.u32.wrap (IntKind.u64.wrap (IntKind.u64.wrap (A.getD i 0-c)-B.getD i 0))=(A.getD i 0-c-B.getD i 0) % 4294967296:=by
    rw[pR,xJ,xJ];omega
   have v2:IntKind.u64.wrap (IntKind.u64.wrap (A.getD i 0-c)-B.getD i 0) / 9223372036854775808=(if A.getD i 0-c-B.getD i 0<0 then 1 else 0):=by
    rw[xJ,xJ];split <;> omega
   (repeat((conv=>lhs;whnf);simp only[go_sem,simprocAttr,h1,x1,bD,cu,cb,h2,x2,xm',v1,v2,set,len,len1,w1,zQ,zk]));exact key
  ·have h2 : ¬(i:Int)<(B.length:Int):=by omega
   have hb0:B.getD i 0=0:=by rw[bL,sA (by omega)];rfl
   rw[hb0,Int.sub_zero]at key;have v1:IntKind.u32.wrap (IntKind.u64.wrap (A.getD i 0-c))=(A.getD i 0-c) % 4294967296:=by
    rw[pR,xJ];omega
   have v2:IntKind.u64.wrap (A.getD i 0-c) / 9223372036854775808=(if A.getD i 0-c<0 then 1 else 0):=by
    rw[xJ];split <;> omega
   (repeat((conv=>lhs;whnf);simp only[go_sem,simprocAttr,h1,x1,bD,cu,h2,xm',v1,v2,set,len,len1,w1,zQ,zk]));exact key
theorem zKO (m n:Nat) (e1 e2:Bool) (hmn:n≤m) (hm:(words m).length≤1000000):callL Tryz.prog zE 167 [yC m e1,yC n e2]=some (yL (m-n)):=by
 have hM:2000000≤maxLen:=by decide
 have hl:(words n).length≤(words m).length:=wu WB2 hmn;obtain⟨i1,i2,i3,i4⟩:=zCn (words m) (words n) 0 (xD m) (xD n) hl (.inl rfl);have hb:zA3 (words m) (words n) 0=0:=by
  have h1:=uQ i1;rw[i2,i4,xQ,xQ]at h1
  rcases i3 with h | h
  ·exact h
  ·rw[h]at h1;have:(((4294967296:Nat):Int))=(4294967296:Int):=rfl;rw[this]at h1;omega
 have hv:(zM WB (Z2 (words m) (words n) 0)).toNat=m-n:=by
  rw[i4,hb,xQ,xQ];omega
 have ct:=wZ (L:=Z2 (words m) (words n) 0) (by rw[i2];omega) i1;rw[hv]at ct;have c1:=wP (S:=[.arr (zD .u32 (Z2 (words m) (words n) 0)) (some (some 1)) false]) (id:=0) (n:=(words m).length) (ex:=true) ct rfl i2 (by simp);have mk:=fun id=>qr id (words m).length (by omega);unfold yC;have key:=zKN (words m) (words n) e1 e2 (xD m) (xD n) hl (by omega) [.blk 0,.seq 0 31] (z:=(yL (m-n),[.arr (zD .u32 (Z2 (words m) (words n) 0)) (some (some 1)) true])) (fun c=>by
  apply zN;((repeat((conv=>lhs;whnf);simp only[go_sem,simprocAttr,c1]));try rfl)) (words m).length 0 (by omega) [] 0 rfl (.inl rfl) (by simp)
 refine FX.callL (r:=(yL (m-n),[.arr (zD .u32 (Z2 (words m) (words n) 0)) (some (some 1)) true])) ok167_ 1000 rfl rfl ?_ (wY _ _);(repeat((conv=>lhs;whnf);simp only[go_sem,simprocAttr,mk]));exact key
end
end
section
def UT (x:Int):List Int→List Int→Int→List Int
 | [],_,_=>[]
 | y::b,o,c=>(c+(x*y+o.headD 0)) % 4294967296::UT x b o.tail ((c+(x*y+o.headD 0)) / 4294967296)
def UU (x:Int):List Int→List Int→Int→Int
 | [],_,c=>c
 | y::b,o,c=>UU x b o.tail ((c+(x*y+o.headD 0)) / 4294967296)
theorem Q4 {x y:Int} (hx:0≤x∧x<4294967296) (hy:0≤y∧y<4294967296):0≤x*y∧x*y≤18446744065119617025:=by
 refine⟨sY hx.1 hy.1,?_⟩;have h1:x*y≤4294967295*y:=sU (by omega) hy.1;omega
theorem zCo (x:Int) (hx:0≤x∧x<4294967296) : ∀(b o:List Int) (c:Int),OkD WB b→OkD WB o→o.length=b.length→0≤c∧c<4294967296→OkD WB (UT x b o c)∧(UT x b o c).length=b.length∧(0≤UU x b o c∧UU x b o c<4294967296)∧zM WB (UT x b o c)+(4294967296:Int)^b.length*UU x b o c=c+x*zM WB b+zM WB o
 | [],o,c,hb,ho,hl,hc=>by
  have:o=[]:=pL (by simpa using hl);subst this;refine⟨.nil _,rfl,hc,?_⟩;simp[UT,UU,zM]
 | y::b,o,c,hb,ho,hl,hc=>by
  have hy:=hb.head;have hy':y<4294967296:=hy.2;have hh:=KH ho;have hs:=Q4 hx ⟨hy.1,hy'⟩;have hq:0≤(c+(x*y+o.headD 0)) / 4294967296∧(c+(x*y+o.headD 0)) / 4294967296<4294967296:=by omega
  obtain⟨i1,i2,i3,i4⟩:=zCo x hx b o.tail _ hb.tail (zA4 ho) (by rw[SP];simp only[bK]at hl;omega) hq;refine⟨.cons ⟨by omega,by show _<((4294967296:Nat):Int);omega⟩ i1,by simp only[UT,bK,i2],i3,?_⟩;have e2:=zA5 o;have e1:zM WB (y::b)=y+4294967296*zM WB b:=rfl;have e3:zM WB (UT x (y::b) o c)=(c+(x*y+o.headD 0)) % 4294967296+4294967296*zM WB (UT x b o.tail ((c+(x*y+o.headD 0)) / 4294967296)):=rfl;have e4:UU x (y::b) o c=UU x b o.tail ((c+(x*y+o.headD 0)) / 4294967296):=rfl;rw[e3,e4,e1,e2,bK,sP,bV,BB x];generalize (4294967296:Int)^b.length=P at *;rw[pK P 4294967296,pM];generalize P*UU x b o.tail ((c+(x*y+o.headD 0)) / 4294967296)=Q at *;generalize x*zM WB b=R at *;generalize x*y=T at *;omega
section
attribute [local irreducible] Vs.callL Vs.callRL tyi zO zl zf zR zW za zI zY zA zK zb zV zG zJ zU zn yI zm zL ze Vs.gc zH
noncomputable def KI:FX:=⟨Tryz.f116,zE.of 116,[]⟩
instance ok116_:KI.ok 116:=FX.mk'
theorem zIH (B:List Int) (e2:Bool) (hB:OkD WB B) (hm:B.length≤1000000) (x:Int) (hx:0≤x∧x<4294967296) (n i:Nat) (hi:i+B.length≤n) (hn:n≤2000000) (x25 x26 x27:PV) (P Z:List Int) (hP:P.length=i) (fs:List Fr) {z:PV × zB} : ∀(m k:Nat),k+m=B.length→∀(D W:List Int) (c:Int),D.length=k→W.length=m→OkD WB W→(0≤c∧c<4294967296)→n=i+B.length+Z.length →
  yB 0 KI 2 fs [(1,.sl (zD .u32 B) e2),(5,.msl 0 0 n true),(6,.int .i64 i),(7,.undef),(8,.int .u64 (UU x (B.drop k) W c)),(25,x25),(26,x26),(27,x27),(32,.undef),(33,.undef),(34,.undef),(35,.undef)] [.arr (zD .u32 (P++(D++UT x (B.drop k) W c)++Z)) (some (some 1)) false]=some z →
  zS 0 KI 2 250676 1 fs [(1,.sl (zD .u32 B) e2),(5,.msl 0 0 n true),(6,.int .i64 i),(7,.int .u32 x),(8,.int .u64 c),(25,x25),(26,x26),(27,x27),(32,.sl (zD .u32 B) e2),(33,.int .i64 B.length),(34,.int .i64 k)] [.arr (zD .u32 (P++(D++W)++Z)) (some (some 1)) false]=some z:=by
 have hM:2000000≤maxLen:=by decide
 intro m
 induction m with
 | zero =>
  intro k hk D W c hD hW hWo hc hl hz;have h1 : ¬(k:Int)<(B.length:Int):=by omega
  have hd:B.drop k=[]:=bT (by omega);have hw:W=[]:=pL hW;subst hw;rw[hd]at hz;simp only[UT,UU,pU]at hz;apply zC;(repeat((conv=>lhs;whnf);simp only[go_sem,simprocAttr,h1]));exact hz
 | succ m ih =>
  intro k hk D W c hD hW hWo hc hl hz;have h1:(k:Int)<(B.length:Int):=by omega
  have w1:=zg (i:=k) (n:=B.length) (by omega) (by omega);have x1:0≤(k:Int)∧(k:Int)<(B.length:Int):=⟨by omega,h1⟩;obtain⟨w,W',rfl⟩ : ∃w W',W=w::W':=by
   cases W with
   | nil=>simp at hW
   | cons w W'=>exact⟨w,W',rfl⟩
  have hb:=hB.getD (by decide) k;have hb':B.getD k 0<4294967296:=hb.2;have hw:=hWo.head;have hw':w<4294967296:=hw.2;have hs:=Q4 hx ⟨hb.1,hb'⟩;have hd:=yu B (k:=k) (by omega);rw[hd]at hz;have key:=ih (k+1) (by omega) (D++[(c+(x*B.getD k 0+w)) % 4294967296]) W' ((c+(x*B.getD k 0+w)) / 4294967296) (by simp[hD]) (by simpa using hW) hWo.tail (by omega) hl (by
   simp only[UU,UT,List.headD_cons,List.tail_cons]at hz
   simpa using hz)
  have hlen:(P++(D++w::W')++Z).length=n:=by simp only[bM,bK]at hW ⊢;omega
  have get:(P++(D++w::W')++Z).getD (i+k) 0=w:=by
   have e:P++(D++w::W')++Z=(P++D)++w::(W'++Z):=by simp
   rw[e,bL,bZ (by simp;omega)];have:i+k-(P++D).length=0:=by simp;omega
   rw[this];rfl
  have set : ∀v:Int,(zD .u32 (P++(D++w::W')++Z)).set (i+k) [.int .u32 v]=zD .u32 (P++((D++[v])++W')++Z):=fun v=>by
   rw[xW]
   congr 1
   have e:P++(D++w::W')++Z=(P++D)++w::(W'++Z):=by simp
   rw[e,sS,hZ (by simp;omega)];have:i+k-(P++D).length=0:=by simp;omega
   rw[this,sX];simp
  have wi:IntKind.i64.wrap ((i:Int)+(k:Int))=((i+k:Nat):Int):=by rw[bE];omega
  have xm:=xv.idxmk .u32 (S:=[.arr (zD .u32 (P++(D++w::W')++Z)) (some (some 1)) false]) (id:=0) (off:=0) (n:=n) (ex:=true) (L:=P++(D++w::W')++Z) (i+k) rfl (by omega) (by omega);rw[pC]at xm;have len:i+k<(P++(D++w::W')++Z).length:=by omega
  have gk:=yq .u32 (P++(D++w::W')++Z) len;rw[get]at gk;have cx:IntKind.u64.wrap x=x:=by rw[xJ];omega
  have cb:IntKind.u64.wrap (B.getD k 0)=B.getD k 0:=by rw[xJ];omega
  have cw:IntKind.u64.wrap w=w:=by rw[xJ];omega
  have m1:IntKind.u64.wrap (x*B.getD k 0)=x*B.getD k 0:=by rw[xJ];omega
  have m2:IntKind.u64.wrap (x*B.getD k 0+w)=x*B.getD k 0+w:=by rw[xJ];omega
  have m3:IntKind.u64.wrap (c+(x*B.getD k 0+w))=c+(x*B.getD k 0+w):=by rw[xJ];omega
  have m4:IntKind.u32.wrap (c+(x*B.getD k 0+w))=(c+(x*B.getD k 0+w)) % 4294967296:=by rw[pR]
  apply zC;(repeat((conv=>lhs;whnf);simp only[go_sem,simprocAttr,h1,x1,bD,cx,cb,cw,wi,xm,gk,len,m1,m2,m3,m4,set,w1]));exact key
theorem zII (A B:List Int) (e1 e2:Bool) (hA:OkD WB A) (hB:OkD WB B) (hB0:B≠[]) (ha:A.length≤1000000) (hb:B.length≤1000000) (fs:List Fr) : ∀(r i:Nat),i+r=A.length→∀(P W:List Int),P.length=i→W.length=B.length→OkD WB P→OkD WB W→zM WB P+(4294967296:Int)^i*zM WB W=zM WB (A.take i)*zM WB B →
  ∃O:List Int,OkD WB O∧O.length=A.length+B.length∧zM WB O=zM WB A*zM WB B∧∀z:PV × zB,yB 0 KI 0 fs [(1,.undef),(5,.msl 0 0 (A.length+B.length) true),(25,.undef),(26,.undef),(27,.undef),(28,.undef)] [.arr (zD .u32 O) (some (some 1)) false]=some z →
  zS 0 KI 0 244 1 fs [(1,.sl (zD .u32 B) e2),(5,.msl 0 0 (A.length+B.length) true),(25,.sl (zD .u32 A) e1),(26,.int .i64 A.length),(27,.int .i64 i)] [.arr (zD .u32 (P++W++List.replicate r 0)) (some (some 1)) false]=some z:=by
 have hM:2000000≤maxLen:=by decide
 intro r
 induction r with
 | zero =>
  intro i hi P W hP hW hPo hWo hv;refine⟨P++W,hPo.append hWo,by simp[hP,hW];omega,?_,fun z hz=>?_⟩
  ·rw[zv,hP];have:(((WB:Nat):Int))=(4294967296:Int):=rfl;rw[this,hv,aN (by omega)]
  ·have h1 : ¬(i:Int)<(A.length:Int):=by omega
   apply zC;simp only[HS,pU];(repeat((conv=>lhs;whnf);simp only[go_sem,simprocAttr,h1]));exact hz
 | succ r ih =>
  intro i hi P W hP hW hPo hWo hv;have h1:(i:Int)<(A.length:Int):=by omega
  have w1:=zg (i:=i) (n:=A.length) (by omega) (by omega);have x1:0≤(i:Int)∧(i:Int)<(A.length:Int):=⟨by omega,h1⟩;have hx:=hA.getD (by decide) i;have hx':A.getD i 0<4294967296:=hx.2;obtain⟨j1,j2,j3,j4⟩:=zCo (A.getD i 0) ⟨hx.1,hx'⟩ B W 0 hB hWo hW ⟨by omega,by omega⟩;generalize hc:UU (A.getD i 0) B W 0=c at *;generalize hD:UT (A.getD i 0) B W 0=D at *;obtain⟨d,D',rfl⟩ : ∃d D',D=d::D':=by
   cases D with
   | nil=>exact absurd (pL (by rw[←j2];rfl)) hB0
   | cons d D'=>exact⟨d,D',rfl⟩
  have hBl:B.length=D'.length+1:=by rw[←j2];rfl
  obtain⟨O,o1,o2,o3,o4⟩:=ih (i+1) (by omega) (P++[d]) (D'++[c]) (by simp[hP]) (by simp[hBl]) (hPo.append (.cons j1.head (.nil _))) (j1.tail.append (.cons j3 (.nil _))) (by
   have e0:(((WB:Nat):Int))=(4294967296:Int):=rfl;have et:A.take (i+1)=A.take i++[A.getD i 0]:=by
    rw[BJ];have:A[i]? = some (A.getD i 0):=by rw[pP (by omega)];simp[bL,show i<A.length by omega]
    rw[this];rfl
   rw[et,zv,zv,zv,hP,e0];have hti:(A.take i).length=i:=by simp;omega
   rw[hti,HT,←hv];have s1:zM WB [A.getD i 0]=A.getD i 0:=by simp[zM]
   have s2:zM WB [d]=d:=by simp[zM]
   have s3:zM WB [c]=c:=by simp[zM]
   rw[s1,s2,s3];have j5:d+4294967296*zM WB D'+(4294967296:Int)^B.length*c=A.getD i 0*zM WB B+zM WB W:=by
    have:zM WB (d::D')=d+4294967296*zM WB D':=rfl;rw[this]at j4;omega
   rw[hBl,sP]at j5;rw[sP];have q1:(4294967296:Int)^i*4294967296*(zM WB D'+4294967296^D'.length*c)=(4294967296:Int)^i*(4294967296*zM WB D'+4294967296^D'.length*4294967296*c):=by
    rw[pM,bV,BB 4294967296,←pM (4294967296^D'.length) 4294967296 c]
   rw[q1];have q2:4294967296*zM WB D'+(4294967296:Int)^D'.length*4294967296*c=A.getD i 0*zM WB B+zM WB W-d:=by omega
   rw[q2,Int.mul_sub,bV,pM];omega)
  refine⟨O,o1,o2,o3,fun z hz=>?_⟩;have key:=o4 z hz;have set:(zD .u32 (P++(d::D')++List.replicate (r+1) 0)).set (i+B.length) [.int .u32 c]=zD .u32 ((P++[d])++(D'++[c])++List.replicate r 0):=by
   rw[xW]
   congr 1
   have e:P++(d::D')++List.replicate (r+1) 0=(P++(d::D'))++0::List.replicate r 0:=by simp[aZ]
   rw[e,sS,hZ (by simp;omega)];have:i+B.length-(P++(d::D')).length=0:=by simp;omega
   rw[this,sX];simp
  have hlen:(P++(d::D')++List.replicate (r+1) (0:Int)).length=A.length+B.length:=by simp;omega
  have wi:IntKind.i64.wrap ((i:Int)+(B.length:Int))=((i+B.length:Nat):Int):=by rw[bE];omega
  have xm:=xv.idxmk .u32 (S:=[.arr (zD .u32 (P++(d::D')++List.replicate (r+1) 0)) (some (some 1)) false]) (id:=0) (off:=0) (n:=A.length+B.length) (ex:=true) (L:=P++(d::D')++List.replicate (r+1) 0) (i+B.length) rfl (by omega) (by omega);rw[pC]at xm;have len:i+B.length<(P++(d::D')++List.replicate (r+1) (0:Int)).length:=by omega
  have gk:((zD .u32 (P++(d::D')++List.replicate (r+1) 0)).getD (i+B.length) []).length=1:=by rw[yq _ _ len];rfl
  have cc:IntKind.u32.wrap c=c:=by rw[pR];omega
  have inner:=zIH B e2 hB hb (A.getD i 0) ⟨hx.1,hx'⟩ (A.length+B.length) i (by omega) (by omega) (.sl (zD .u32 A) e1) (.int .i64 A.length) (.int .i64 i) P (List.replicate (r+1) 0) hP (.blk 2 :: .seq 1 31335 :: .blk 1 :: .seq 0 1959 :: .lop 0 244 1::fs) (z:=z) B.length 0 (by omega) [] W 0 rfl hW hWo ⟨by omega,by omega⟩ (by simp;omega) (by
   rw[bX,hc,hD];apply zN;(repeat((conv=>lhs;whnf);simp only[go_sem,simprocAttr,wi,xm,len,gk,cc,set,w1]));exact key)
  simp only[pG]at inner;apply zC;(repeat((conv=>lhs;whnf);simp only[go_sem,simprocAttr,h1,x1,bD]));exact inner
theorem zKP (m n:Nat) (e1 e2:Bool) (hm:(words m).length≤1000000) (hn:(words n).length≤1000000):callL Tryz.prog zE 116 [yC m e1,yC n e2]=some (if m=0∨n=0 then .sl [] true else yL (m*n)):=by
 have hM:2000000≤maxLen:=by decide
 by_cases h:m=0∨n=0
 ·rw[bA h];refine FX.callL (r:=(.sl [] true,[])) ok116_ 1000 rfl rfl ?_ rfl;unfold yC;by_cases hm0:m=0
  ·have c:((words m).length:Int)=0:=by rw[hm0];unfold words;rw[xF];rfl
   ((repeat((conv=>lhs;whnf);simp only[go_sem,simprocAttr,c]));try rfl)
  ·have hn0:n=0:=by omega
   have c : ¬((words m).length:Int)=0:=by
    have:words m≠[]:=fun e=>hm0 ((vD WB2).1 e);have:=BT.2 this;omega
   have c2:((words n).length:Int)=0:=by rw[hn0];unfold words;rw[xF];rfl
   ((repeat((conv=>lhs;whnf);simp only[go_sem,simprocAttr,c,c2]));try rfl)
 ·rw[hZ h];have hne : ∀k,k≠0→words k≠[]:=fun k hk e=>hk ((vD WB2).1 e);have c : ¬((words m).length:Int)=0:=by
   have:=BT.2 (hne m (by omega));omega
  have c2 : ¬((words n).length:Int)=0:=by
   have:=BT.2 (hne n (by omega));omega
  obtain⟨O,o1,o2,o3,o4⟩:=zII (words m) (words n) e1 e2 (xD m) (xD n) (hne n (by omega)) hm hn [.blk 0,.seq 0 31] (words m).length 0 (by omega) [] (List.replicate (words n).length 0) rfl (by simp) (.nil _) (fun x hx=>by
   rw[BU hx];exact⟨HK 0,by decide⟩) (by
   have:zM WB (List.replicate (words n).length 0)=0:=by
    generalize (words n).length=k
    induction k with
    | zero=>rfl
    | succ k ih=>rw[aZ,zM,ih];simp
   rw[this];simp[zM])
  have ct:=wZ (L:=O) (by omega) o1;have hv:(zM WB O).toNat=m*n:=by rw[o3,xQ,xQ,←sL,bD]
  rw[hv]at ct;have cc:=wP (S:=[.arr (zD .u32 O) (some (some 1)) false]) (id:=0) (n:=(words m).length+(words n).length) (ex:=true) ct rfl o2 (by simp);have mk:=fun id=>qr id ((words m).length+(words n).length) (by omega);have wi:IntKind.i64.wrap (((words m).length:Int)+((words n).length:Int))=(((words m).length+(words n).length:Nat):Int):=by rw[bE];omega
  have key:=o4 (yL (m*n),[.arr (zD .u32 O) (some (some 1)) true]) (by
   apply zN;((repeat((conv=>lhs;whnf);simp only[go_sem,simprocAttr,cc]));try rfl))
  have er:List.replicate ((words m).length+(words n).length) (0:Int)=[]++List.replicate (words n).length 0++List.replicate (words m).length 0:=by
   rw[pG,SW,Nat.add_comm]
  refine FX.callL (r:=(yL (m*n),[.arr (zD .u32 O) (some (some 1)) true])) ok116_ 1000 rfl rfl ?_ (wY _ _);unfold yC;rw[←er]at key;(repeat((conv=>lhs;whnf);simp only[go_sem,simprocAttr,c,c2,wi,mk]));exact key
end
end
end Go.Vs

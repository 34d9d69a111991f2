
import Derived.Test.YtfbkajadbjbfiaaGreatMA9
set_option linter.unusedVariables false
set_option linter.unusedSimpArgs false
set_option maxRecDepth 100000
namespace Go.Vs
open Go Go.Proofs
section
structure SlT (t el:TypeId) (sz bytes:Nat):Prop where
 d:(tyi Tryz.prog t).d=.slice el
 k:(tyi Tryz.prog el).known=true
 s:(tyi Tryz.prog el).size=sz
 b:(tyi Tryz.prog el).bytes=bytes
 z:vf (tyi Tryz.prog el)=true
theorem SlT.el {t el:TypeId} {sz bytes:Nat} (h:SlT t el sz bytes):yW (tyi Tryz.prog t)=el:=by simp[yW,h.d]
theorem SlT.is {t el:TypeId} {sz bytes:Nat} (h:SlT t el sz bytes):wT (tyi Tryz.prog t)=true:=by simp[wT,h.d]
theorem SlT.len {t el:TypeId} {sz bytes:Nat} (h:SlT t el sz bytes) (r:List (List PV)) (ex:Bool):yO (tyi Tryz.prog t) (.sl r ex)=some (.int .i64 r.length):=zDA _ h.d r ex
theorem SlT.lenm {t el:TypeId} {sz bytes:Nat} (h:SlT t el sz bytes) (i o l:Nat) (ex:Bool):yO (tyi Tryz.prog t) (.msl i o l ex)=some (.int .i64 l):=zBP _ h.d i o l ex
section
variable {α:Type} {t el:TypeId} {sz bytes:Nat} {enc:α→List PV}
theorem zB1 (he : ∀a,(enc a).length=sz) (L:List α):zq sz (L.map enc)=true:=by
 simp[zq,he]
theorem Ww (L:List α) (d:α) {i:Nat} (h:i<L.length):(L.map enc).getD i []=enc (L.getD i d):=by
 simp[bE,h]
theorem SlT.idx (h:SlT t el sz bytes) (he : ∀a,(enc a).length=sz) (d:α) (S:zA) (L:List α) (ex:Bool) (i:Int):zK Tryz.prog t S (.sl (L.map enc) ex) (.int .i64 i)=if 0≤i∧i<L.length then some (.cp (enc (L.getD i.toNat d))) else none:=by
 simp only[zK,h.el,h.is,h.k,h.s,and_self,if_true,xb,sS]
 split
 ·rename_i hh;rw[Ww L d (by omega),hZ (he _)]
 ·rfl
theorem SlT.idxm (h:SlT t el sz bytes) {S:zA} {id off n:Nat} {ex:Bool} {rows:List (List PV)} (i:Nat) (hS:zz S id=some rows) (hl:off+n≤rows.length) (h2:zq sz rows=true) (hi:i<n):zK Tryz.prog t S (.msl id off n ex) (.int .i64 i)=some (.mp id (off+i) 0):=by
 simp only[zK,h.el,h.is,h.k,h.s,and_self,if_true,xb,hS,bC];rw[hZ ⟨by omega,by omega⟩,hZ ⟨h2,hl⟩,bD]
theorem SlT.make (h:SlT t el sz bytes) {z:List PV} (hz:(tyi Tryz.prog el).zero=some z) (id n:Nat) (hn:bytes*n≤281474976710656) (hn2:n≤9223372036854775807):zL Tryz.prog t id (.int .i64 n) (.int .i64 n)=some {v:=.msl id 0 n true,new:=some (List.replicate n z,some (some sz))} := by
 have hq:=h.z;simp only[vf,hz,h.s,bS,beq_iff_eq]at hq;simp only[zL,h.d,hz,bC,h.b,h.s];have e:((bytes:Int)*(n:Int))≤281474976710656:=by
  have:((bytes*n:Nat):Int)=(bytes:Int)*(n:Int):=pL _ _;omega
 rw[hZ ⟨by omega,by omega,e,by omega,hq.1,hq.2⟩];simp
theorem SlT.buildSlice (h:SlT t el sz bytes) (h0:0<sz) (id n:Nat) (is:List Nat) (rows:List (List PV)):zJ Tryz.prog t id n is rows=if is=List.range n∧zq sz rows=true∧(rows.all fun r=>r.all PV.cell)=true∧n*sz≤16777216 then some {v:=.msl id 0 n true,new:=some (rows,some (some sz))} else none:=by
 have hq:=h.z;have e:(tyi Tryz.prog el).zero.isSome=true:=by
  unfold vf at hq
  split at hq
  ·rename_i z hz;rw[hz];rfl
  ·cases hq
 simp[zJ,h.d,h.s,e,h0]
inductive RowsV (S:zA):PV→List (List PV)→Prop
 | sl (rows:List (List PV)) (ex:Bool):RowsV S (.sl rows ex) rows
 | msl (id:Nat) (rows:List (List PV)) (ex:Bool) (g:Option (Option Nat)) (f:Bool) (h:S[id]? = some (.arr rows g f)):RowsV S (.msl id 0 rows.length ex) rows
theorem RowsV.rowsIn {S:zA} {p:PV} {rows:List (List PV)} (h:RowsV S p rows):Vs.rowsIn S p=some rows:=by
 cases h with
 | sl rows ex=>rfl
 | msl id rows ex g f h =>
  rw[qA,Xz h];simp
theorem RowsV.rowsS {S:zA} {p:PV} {rows:List (List PV)} (h:RowsV S p rows):Vs.rowsS S p=some rows:=by
 have:=h.rowsIn
 cases h <;> exact this
theorem SlT.appNil (h:SlT t el sz bytes) (b:Nat) (S:zA) {p:PV} {rows:List (List PV)} (hp:RowsV S p rows) (h2:zq sz rows=true) (h3:rows.length*bytes≤140737488355328) (h4:rows.length≤9223372036854775807):zV Tryz.prog b t t S (.sl [] true) p=some {v:=.msl S.length 0 rows.length false,S:=S++[.arr rows (some (some sz)) false]} := by
 have e5:yn bytes sz S S.length (.sl [] true) p=some {v:=.msl S.length 0 rows.length false,new:=some (rows,some (some sz))} := by
  have e6:Vs.rowsIn S (.sl [] true)=some []:=rfl;have e7:exact (.sl [] true)=true:=rfl;simp only[yn,e7,if_true,e6,hp.rowsS,bC,HR,bW];rw[hZ ⟨rfl,h2,h3,h4⟩];by_cases h0:rows.length=0
  ·have:rows=[]:=bT h0;subst this;rfl
  ·rw[hI h0];simp
 simp only[zV,exact,if_true,Zx,h.d,Zi,h.z,and_self,h.b,h.s,e5,bJ,xn]
theorem SlT.app (h:SlT t el sz bytes) {b:Nat} {S:zA} {id:Nat} {rows new:List (List PV)} {g:Option Nat} {p:PV} (hS:S[id]? = some (.arr rows (some g) false)) (hb:b≤id) (hg:g=none∨g=some sz) (hp:RowsV S p new) (h1:zq sz rows=true) (h2:zq sz new=true) (h3:(rows.length+new.length)*bytes≤140737488355328) (h4:rows.length+new.length≤9223372036854775807) (h5:id ∉ zd rows) (h6:id ∉ zd new) :
  zV Tryz.prog b t t S (.msl id 0 rows.length false) p=some {v:=.msl id 0 (rows.length+new.length) false,S:=(S.map (yF [id])).set id (.arr (rows++new) (some (some sz)) false),kill:=[id]} := by
 have hk:=Wv (b:=b) (bytes:=bytes) (esz:=sz) (ex:=false) hS hp.rowsS hb rfl hg h1 h2 h3 h4 (by simp[h5,h6]);rw[←hk];simp only[zV,exact,bH,if_false,h.d,Zi,h.z,and_self,if_true,h.b,h.s]
theorem SlT.copy (h:SlT t el sz bytes) {S:zA} {id n:Nat} {ex:Bool} {rows new:List (List PV)} {g:Option (Option Nat)} {p:PV} (hS:S[id]? = some (.arr rows g false)) (h1:rows.length=n) (h2:zq sz rows=true) (hp:RowsV S p new) (h4:zq sz new=true) (h3:new.length≤n) :
  yD Tryz.prog t t S (.msl id 0 n ex) p=some {v:=.int .i64 new.length,S:=S.set id (.arr (new++rows.drop new.length) g false)} := by
 simp only[yD,h.d,h.k,if_true,h.s,jo,hS,hp.rowsIn,bC];rw[hZ ⟨by omega,h2,h4⟩];have e1:new.take n=new:=pZ h3;rw[e1,BV h3];simp
theorem SlT.firsts (h:SlT t el sz bytes) (S:zA) {rows:List (List PV)} (ex:Bool) (i:Nat) (hi:i≤rows.length) (h2:zq sz rows=true):zf Tryz.prog t S (.sl rows ex) none (some (.int .i64 i)) none=some (.sl (rows.take i) false):=by
 simp[zf,h.el,h.is,h.k,h.s,vm,h.d,xg,hi,h2]
end
def zB (k:IntKind) (L:List Int):List (List PV):=L.map fun w=>[.int k w]
@[go_sem] theorem zI (k:IntKind) (L:List Int):(zB k L).length=L.length:=nr (by simp[zB])
@[go_sem] theorem ya (k:IntKind) (L:List Int):zq 1 (zB k L)=true:=nr (zB1 (enc:=fun w:Int=>[.int k w]) (fun _=>rfl) L)
@[go_sem] theorem zY (k:IntKind) : ∀L:List Int,zd (zB k L)=[]
 | []=>rfl
 | a::r=>by
  have:=zY k r;simp only[zB,pF,yP]at this ⊢;rw[this];rfl
theorem zAB (k:IntKind):zB k []=[]:=rfl
theorem Kx (k:IntKind) (a:Int) (l:List Int):zB k (a::l)=[.int k a]::zB k l:=rfl
theorem uz (k:IntKind) (a b:List Int):zB k (a++b)=zB k a++zB k b:=by simp[zB]
theorem kU (k:IntKind) (n:Nat) (x:Int):List.replicate n [PV.int k x]=zB k (List.replicate n x):=by simp[zB]
theorem yR (k:IntKind) (L:List Int) (i:Nat) (x:Int):(zB k L).set i [.int k x]=zB k (L.set i x):=by simp[zB,List.map_set]
theorem zy (k:IntKind) (L:List Int) {i:Nat} (h:i<L.length):(zB k L).getD i []=[.int k (L.getD i 0)]:=Ww L 0 h
theorem Yc (k:IntKind) (L:List Int) (n:Nat):(zB k L).take n=zB k (L.take n):=by simp[zB,List.map_take]
theorem Ky (k:IntKind) (L:List Int) (n:Nat):(zB k L).drop n=zB k (L.drop n):=by simp[zB,List.map_drop]
theorem SlT.idxk {t el:TypeId} {bytes:Nat} (h:SlT t el 1 bytes) (k:IntKind) (S:zA) (L:List Int) (ex:Bool) (i:Int):zK Tryz.prog t S (.sl (zB k L) ex) (.int .i64 i)=if 0≤i∧i<L.length then some (.cp [.int k (L.getD i.toNat 0)]) else none:=h.idx (fun _=>rfl) 0 S L ex i
theorem SlT.idxmk {t el:TypeId} {bytes:Nat} (h:SlT t el 1 bytes) (k:IntKind) {S:zA} {id off n:Nat} {ex:Bool} {L:List Int} (i:Nat) (hS:zz S id=some (zB k L)) (hl:off+n≤L.length) (hi:i<n):zK Tryz.prog t S (.msl id off n ex) (.int .i64 i)=some (.mp id (off+i) 0):=h.idxm i hS (by rw[zI];exact hl) (ya k L) hi
theorem zAC (S:zA) (d:Nat) (k:IntKind) (L:List Int):yG (yG (yu S (d+1))) (zB k L)=some (zB k L):=by
 have:=qh (f:=yG (yu S (d+1))) (g:=fun x=>x) (l:=zB k L) (fun a ha=>by
  obtain⟨w,_,rfl⟩:=sH.1 ha;rfl)
 simpa using this
theorem qi {S:zA} {id n:Nat} {k:IntKind} {L:List Int} {ex:Bool} (h:zz S id=some (zB k L)) (hn:L.length=n) (d:Nat):yu S (d+2) (.msl id 0 n ex)=some (.sl (zB k L) false):=by
 have e1:rowsIn S (.msl id 0 n false)=some (zB k L):=by
  rw[qA,h];simp only[bC,bW,pH,zI,hn,bB,if_true];rw[←hn,←zI k L,PN]
 show ((rowsIn S (.msl id 0 n false)).bind fun rows=>(yG (yG (yu S (d+1))) rows).map fun rows=>PV.sl rows false)=_
 rw[e1];simp only[bC,zAC,bJ]
theorem vL {S:zA} {id n:Nat} {k:IntKind} {L:List Int} {ex:Bool} (h:zz S id=some (zB k L)) (hn:L.length=n):ym S (.msl id 0 n ex)=some (.sl (zB k L) false):=qi (ex:=ex) h hn 6
theorem WA {S:zA} {id:Nat} {rows:List (List PV)} (h:zz S id=some rows) (hr:zd rows=[]) (d:Nat):yq S (d+1) [id]=[id]:=by
 simp[zBZ,h,hr,Kw]
theorem ys {S:zA} {f:FuncId} {id n:Nat} {k:IntKind} {L:List Int} {ex:Bool} {v:PV} (hc:callL Tryz.prog zD f [.sl (zB k L) false]=some v) (h:zz S id=some (zB k L)) (hn:L.length=n) (hid:id<S.length):zQ (callL Tryz.prog zD) S f [.msl id 0 n ex]=some {v,fz:=[id]} := by
 have e:(List.flatMap PV.refs [PV.msl id 0 n ex])=[id]:=rfl;unfold zQ;rw[e,WA h (zY k L)];simp only[aY,List.all_nil,BF,pM hid,if_true,yG,vL h hn,bC,hc,bJ]
end
def zG (b:Nat):List Int→Int
 | []=>0
 | w::r=>w+b*zG b r
def OkD (b:Nat) (l:List Int):Prop:=∀w∈l,0≤w∧w<b
def xC:List Int→List Int
 | []=>[]
 | w::r=>if xC r=[]∧w=0 then [] else w::xC r
def yX (b:Nat) (n:Nat):List Int:=if h:n=0∨b<2 then [] else ((n % b:Nat):Int)::yX b (n / b)
termination_by n
decreasing_by exact BZ (by omega) (by omega)
theorem yH (b:Nat):yX b 0=[]:=by rw[yX];simp
theorem xW {b n:Nat} (hb:2≤b) (hn:n≠0):yX b n=((n % b:Nat):Int)::yX b (n / b):=by
 rw[yX,dif_neg (by omega)]
theorem OkD.tail {b:Nat} {w:Int} {l:List Int} (h:OkD b (w::l)):OkD b l:=fun x hx=>h x (List.mem_cons_of_mem _ hx)
theorem OkD.head {b:Nat} {w:Int} {l:List Int} (h:OkD b (w::l)):0≤w∧w<b:=h w (by simp)
theorem OkD.cons {b:Nat} {w:Int} {l:List Int} (h:0≤w∧w<b) (hl:OkD b l):OkD b (w::l):=fun x hx=>by
 rcases BD.1 hx with rfl | hx
 ·exact h
 ·exact hl x hx
theorem OkD.nil (b:Nat):OkD b []:=fun x hx=>by cases hx
theorem OkD.append {b:Nat} {l m:List Int} (h:OkD b l) (hm:OkD b m):OkD b (l++m):=fun x hx=>by
 rcases sB.1 hx with hx | hx
 ·exact h x hx
 ·exact hm x hx
theorem OkD.getD {b:Nat} {l:List Int} (h:OkD b l) (hb:0<b) (i:Nat):0≤l.getD i 0∧l.getD i 0<b:=by
 by_cases hi:i<l.length
 ·have:=h (l.getD i 0) (by simp[bE,hi]);exact this
 ·rw[bE,bY (by omega)];exact⟨aJ 0,by simp;omega⟩
theorem zv {b:Nat} : ∀ {l:List Int},OkD b l→0≤zG b l
 | [],_=>aJ 0
 | w::r,h=>by
  have h1:=h.head;have h2:=zv h.tail;have h3:0≤(b:Int)*zG b r:=pW (by omega) h2;rw[zG];omega
theorem zX (b:Nat) : ∀(l m:List Int),zG b (l++m)=zG b l+(b:Int)^l.length*zG b m
 | [],m=>by simp[zG]
 | w::l,m=>by
  rw[HC,zG,zX b l m,zG,bP,pO];rw[bG,BG,←bN,bM ((b:Int)^l.length) b]
theorem xr {b:Nat} : ∀ {l:List Int},OkD b l→zG b l<(b:Int)^l.length
 | [],_=>by simp[zG]
 | w::r,h=>by
  have h1:=h.head;have h2:=xr h.tail;have h3:(b:Int)*(zG b r+1)≤(b:Int)*(b:Int)^r.length:=pI (by omega) (by omega);rw[bG]at h3;rw[zG,bP,pO,bM ((b:Int)^r.length)];omega
theorem WC (b:Nat) : ∀l:List Int,zG b (xC l)=zG b l
 | []=>rfl
 | w::r=>by
  have ih:=WC b r;rw[xC]
  split
  ·rename_i h;rw[h.1]at ih
   show 0=w+b*zG b r
   rw[←ih,h.2];simp[zG]
  ·rw[zG,zG,ih]
theorem kA : ∀l:List Int,(xC l).length≤l.length
 | []=>bB 0
 | w::r=>by
  have:=kA r;rw[xC]
  split
  ·simp
  ·simp only[bP];omega
theorem uM : ∀l:List Int,xC (l++[0])=xC l
 | []=>by simp[xC]
 | w::r=>by rw[HC,xC,xC,uM r]
theorem kB {x:Int} (hx:x≠0) : ∀l:List Int,xC (l++[x])=l++[x]
 | []=>by simp[xC,hx]
 | w::r=>by
  rw[HC,xC,kB hx r,hI];intro h;have:=h.1;simp at this
theorem we {b:Nat} (hb:2≤b) : ∀ {l:List Int},OkD b l→xC l=yX b (zG b l).toNat
 | [],_=>by rw[xC,zG];exact (yH b).symm
 | w::r,h=>by
  have ih:=we hb h.tail;have h1:=h.head;have h2:=zv h.tail;have h3:0≤(b:Int)*zG b r:=pW (by omega) h2;rw[xC];by_cases hc:xC r=[]∧w=0
  ·rw[hZ hc];have:zG b r=0:=by rw[←WC b r,hc.1];rfl
   rw[zG,this,hc.2];simp[yH]
  ·rw[hI hc];have hne:(zG b (w::r)).toNat≠0:=by
    intro h0;have e:w+b*zG b r=0:=by rw[zG]at h0;omega
    have hw:w=0:=by omega
    have hbr:(b:Int)*zG b r=0:=by omega
    have hr:zG b r=0:=by
     rcases Int.mul_eq_zero.1 hbr with h | h
     ·omega
     ·exact h
    refine hc ⟨?_,hw⟩;rw[ih,hr];exact yH b
   rw[xW hb hne,ih];have e1:(zG b (w::r)).toNat=w.toNat+b*(zG b r).toNat:=by
    rw[zG];have e2:((b*(zG b r).toNat:Nat):Int)=(b:Int)*zG b r:=by
     rw[pL,Int.toNat_of_nonneg h2]
    omega
   have hwb:w.toNat<b:=by omega
   rw[e1]
   congr 1
   ·rw[Nat.add_mul_mod_self_left,sE hwb];omega
   ·rw[Nat.add_mul_div_left _ _ (by omega),aI hwb,bW]
theorem Zz {b:Nat} (hb:2≤b) (n:Nat):OkD b (yX b n):=by
 induction n using Nat.strongRecOn with
 | ind n ih =>
  by_cases h:n=0
  ·subst h;rw[yH];exact .nil b
  ·rw[xW hb h];exact .cons ⟨by omega,by have:=sJ n (show 0<b by omega);omega⟩ (ih _ (BZ (by omega) (by omega)))
theorem ua {b:Nat} (hb:2≤b) (n:Nat):zG b (yX b n)=n:=by
 induction n using Nat.strongRecOn with
 | ind n ih =>
  by_cases h:n=0
  ·subst h;rw[yH];rfl
  ·rw[xW hb h,zG,ih _ (BZ (by omega) (by omega))];have:=Nat.mod_add_div n b;have e:((b*(n / b):Nat):Int)=(b:Int)*((n / b:Nat):Int):=pL _ _;omega
theorem WD {b:Nat} (hb:2≤b) (n:Nat):xC (yX b n)=yX b n:=by
 rw[we hb (Zz hb n),ua hb,bD]
theorem zDI {b:Nat} (hb:2≤b) {l:List Int} (h:OkD b l) (hl : ∀x r,l=r++[x]→x≠0):l=yX b (zG b l).toNat:=by
 rw[←we hb h]
 rcases List.eq_nil_or_concat l with rfl | ⟨r,x,rfl⟩
 ·rfl
 ·rw[List.concat_eq_append]at hl ⊢;rw[kB (hl x r rfl)]
theorem xI {b n:Nat} (hb:2≤b):yX b n=[]↔n=0:=by
 constructor
 ·intro h;by_cases h0:n=0
  ·exact h0
  ·rw[xW hb h0]at h;cases h
 ·rintro rfl;exact yH b
theorem yI {b:Nat} (hb:2≤b) : ∀(k n:Nat),(yX b n).length≤k↔n<b^k
 | 0,n=>by
  rw[Nat.pow_zero,Nat.le_zero,PT,xI hb];omega
 | k+1,n=>by
  by_cases h:n=0
  ·subst h;rw[yH];simp;exact sT (by omega)
  ·rw[xW hb h,bP,Nat.add_le_add_iff_right,yI hb k (n / b),Nat.pow_succ,BA (by omega)]
theorem wm {b m n:Nat} (hb:2≤b) (h:m≤n):(yX b m).length≤(yX b n).length :=
 (yI hb _ m).2 (BH h ((yI hb _ n).1 (bB _)))
theorem QU {b:Nat} (hb:2≤b) (n:Nat):n<b^(yX b n).length:=(yI hb _ n).1 (bB _)
theorem UT {b m n k:Nat} (hb:2≤b) (hm:(yX b m).length≤k) (hn:(yX b n).length≤k):(yX b (m+n)).length≤k+1:=by
 rw[yI hb]at *;rw[Nat.pow_succ];have:b^k*2≤b^k*b:=PA _ hb;omega
theorem UU {b m n j k:Nat} (hb:2≤b) (hm:(yX b m).length≤j) (hn:(yX b n).length≤k):(yX b (m*n)).length≤j+k:=by
 rw[yI hb]at *;rw[aC];exact Nat.mul_lt_mul'' hm hn
theorem jN {b n:Nat} (hb:2≤b) (h:n≠0):(yX b n).getD ((yX b n).length-1) 0≠0:=by
 have hne:yX b n≠[]:=fun e=>h ((xI hb).1 e)
 rcases List.eq_nil_or_concat (yX b n) with e | ⟨r,x,e⟩
 ·exact absurd e hne
 ·rw[List.concat_eq_append]at e;rw[e];have hx:x≠0:=by
   intro hx;subst hx;have a:=WD hb n;rw[e,uM]at a;have:=kA r;rw[a]at this;simp at this;omega
  simpa [bE] using hx
theorem zB2 {b m n:Nat} (hb:2≤b) (h:yX b m=yX b n):m=n:=by
 have a:=ua hb m;rw[h,ua hb]at a;omega
theorem UV {b:Nat} : ∀ {l m:List Int},OkD b l→OkD b m→l.length=m.length→∀ {x y:Int},0≤x→x<b→0≤y→y<b→x<y→zG b (l++[x])<zG b (m++[y]):=by
 intro l m hl hm he x y hx hx' hy hy' hlt;rw[zX,zX,he];have h1:=xr hl;have h2:=zv hm;rw[he]at h1;have h3:(b:Int)^m.length*(x+1)≤(b:Int)^m.length*y:=pI (by omega) (Int.pow_nonneg (by omega));rw[bG,Int.mul_one]at h3;simp only[zG,aD,BI];omega
section
theorem yb:SlT 40 96 1 4:=⟨by kernel_rfl,by kernel_rfl,by kernel_rfl,by kernel_rfl,by kernel_rfl⟩
@[go_sem] theorem zHn (r:List (List PV)) (ex:Bool):yO (tyi Tryz.prog 40) (.sl r ex)=some (.int .i64 r.length):=yb.len r ex
@[go_sem] theorem zHF (i o l:Nat) (ex:Bool):yO (tyi Tryz.prog 40) (.msl i o l ex)=some (.int .i64 l):=yb.lenm i o l ex
@[go_sem] theorem zHo (S:zA) (L:List Int) (ex:Bool) (i:Int):zK Tryz.prog 40 S (.sl (zB .u32 L) ex) (.int .i64 i)=if 0≤i∧i<L.length then some (.cp [.int .u32 (L.getD i.toNat 0)]) else none:=yb.idxk .u32 S L ex i
@[go_sem] theorem ZP:(tyi Tryz.prog 96).known=true:=nr (by kernel_rfl)
@[go_sem] theorem zGC:(tyi Tryz.prog 96).size=1:=nr (by kernel_rfl)
@[go_sem] theorem zGD (v:PV) (r:List PV):part (tyi Tryz.prog 96) (v::r)=some v:=by
 have e:(tyi Tryz.prog 96).isAgg=false:=by kernel_rfl
 simp[part,ZP,e]
theorem zGE:(tyi Tryz.prog 96).d=.int .u32:=by kernel_rfl
theorem zDv:(tyi Tryz.prog 123).d=.int .u64:=by kernel_rfl
theorem WE:(tyi Tryz.prog 123).known=true:=by kernel_rfl
@[go_sem] theorem zDJ (S:zA) (k:IntKind) (n:Int):zN Tryz.prog 96 123 S (.int k n)=some (.int .u64 (IntKind.u64.wrap n)):=by simp[zN,ZP,yS,zDv]
@[go_sem] theorem zDK (S:zA) (k:IntKind) (n:Int):zN Tryz.prog 123 96 S (.int k n)=some (.int .u32 (IntKind.u32.wrap n)):=by simp[zN,WE,yS,zGE]
@[go_sem] theorem zGF (id n:Nat) (is:List Nat) (rows:List (List PV)):zJ Tryz.prog 40 id n is rows=if is=List.range n∧zq 1 rows=true∧(rows.all fun r=>r.all PV.cell)=true∧n*1≤16777216 then some {v:=.msl id 0 n true,new:=some (rows,some (some 1))} else none:=yb.buildSlice (by decide) id n is rows
theorem zB3:(tyi Tryz.prog 96).zero=some [.int .u32 0]:=by kernel_rfl
theorem uN (id n:Nat) (hn:n≤40000000000000):zL Tryz.prog 40 id (.int .i64 n) (.int .i64 n)=some {v:=.msl id 0 n true,new:=some (zB .u32 (List.replicate n 0),some (some 1))} := by
 rw[yb.make zB3 id n (by omega) (by omega),kU]
abbrev WB:Nat:=4294967296
def words (n:Nat):List Int:=yX WB n
def zc (n:Nat):PV:=.sl (zB .u32 (words n)) false
theorem WB2:2≤WB:=by decide
section
attribute [local irreducible] Vs.callL Vs.callRL tyi zQ yE zm zV zk zb zK zf zF zT zl zi zJ zL zj yB yO yD zN zh Vs.gc zH
noncomputable def Kz:FX:=⟨Tryz.f127,zD.of 127,[]⟩
instance ok127_:Kz.ok 127:=FX.mk'
theorem zAD (fs:List Fr) {z:PV × zA} : ∀(n:Nat) (L:List Int),L.length=n→n≤maxLen→zZ 0 Kz 0 fs [(0,.sl (zB .u32 (xC L)) false),(14,.undef)] []=some z→zS 0 Kz 0 24 0 fs [(0,.sl (zB .u32 L) false)] []=some z:=by
 have hm:=vt;intro n
 induction n with
 | zero =>
  intro L hL hn hz;obtain rfl:L=[]:=bT hL;apply zC;(repeat((conv=>lhs;whnf);simp only[go_sem,simprocAttr,zAB]));exact hz
 | succ n ih =>
  intro L hL hn hz
  rcases List.eq_nil_or_concat L with rfl | ⟨r,x,rfl⟩
  ·simp at hL
  ·rw[List.concat_eq_append]at hL hz ⊢;have hr:r.length=n:=by simpa using hL
   have h0:(0:Int)<(r.length:Int)+1:=by omega
   have w1:IntKind.i64.wrap ((r.length:Int)+1-1)=(r.length:Int):=by rw[bA];omega
   have h1:0≤(r.length:Int)∧(r.length:Int)<(r.length:Int)+1:=⟨by omega,by omega⟩;have g1:(r++[x]).getD r.length 0=x:=by simp[bE]
   have t1:(zB .u32 (r++[x])).take r.length=zB .u32 r:=by rw[Yc];simp
   have sl:=yb.firsts [] (rows:=zB .u32 (r++[x])) false r.length (by rw[zI,bO];omega) (ya .u32 _);rw[t1]at sl;apply zC;by_cases hx:x=0
   ·subst hx;rw[uM]at hz;have key:=ih r hr (by omega) hz;(repeat((conv=>lhs;whnf);simp only[go_sem,simprocAttr,bO,HK,Int.cast_ofNat_Int,h0,w1,h1,bD,g1,sl]));exact key
   ·rw[kB hx]at hz;(repeat((conv=>lhs;whnf);simp only[go_sem,simprocAttr,bO,HK,Int.cast_ofNat_Int,h0,w1,h1,bD,g1,hx]));exact hz
theorem zAE (L:List Int) (hL:L.length≤maxLen):callL Tryz.prog zD 127 [.sl (zB .u32 L) false]=some (.sl (zB .u32 (xC L)) false):=by
 refine FX.callL (r:=(.sl (zB .u32 (xC L)) false,[])) ok127_ 1000 rfl rfl ?_ (xA _ _);(repeat((conv=>lhs;whnf);simp only[go_sem,simprocAttr]));refine zAD _ L.length L rfl hL ?_;apply zR;((repeat((conv=>lhs;whnf);simp only[go_sem,simprocAttr]));try rfl)
theorem xB {L:List Int} (hL:L.length≤maxLen) (h:OkD WB L):callL Tryz.prog zD 127 [.sl (zB .u32 L) false]=some (zc (zG WB L).toNat):=by
 rw[zAE L hL,we WB2 h];rfl
end
end
section
theorem yK (n:Int):IntKind.u64.wrap n=n % 18446744073709551616:=by
 simp[IntKind.wrap,IntKind.bits,IntKind.signed]
@[go_sem] theorem zF6:(2:Int)^min 32 64=4294967296:=nr (by decide)
@[go_sem] theorem zF7:(2:Int)^min 63 64=9223372036854775808:=nr (by decide)
@[go_sem] theorem zHG (a:Int):a.fdiv 4294967296=a / 4294967296:=PB _ (by decide)
@[go_sem] theorem zHH (a:Int):a.fdiv 9223372036854775808=a / 9223372036854775808:=PB _ (by decide)
def bor (k:IntKind) (a b:Int):Int:=k.wrap (BitVec.ofInt k.bits a ||| BitVec.ofInt k.bits b).toNat
@[go_sem ↓] theorem zGG (k:IntKind) (a b:Int):k.wrap (BitVec.ofInt k.bits a ||| BitVec.ofInt k.bits b).toNat=bor k a b:=rfl
theorem ub {h l:Int} (hh:0≤h∧h<4294967296) (hl:0≤l∧l<4294967296):bor .u64 (h*4294967296) l=h*4294967296+l:=by
 obtain⟨a,rfl⟩ : ∃a:Nat,h=a:=⟨h.toNat,by omega⟩;obtain⟨b,rfl⟩ : ∃b:Nat,l=b:=⟨l.toNat,by omega⟩;have e1:((a:Int)*4294967296)=((a*4294967296:Nat):Int):=by omega
 rw[e1]
 show IntKind.u64.wrap (((BitVec.ofInt 64 ((a*4294967296:Nat):Int) ||| BitVec.ofInt 64 (b:Int)).toNat:Nat):Int)=_
 rw[BitVec.toNat_or,BJ,BJ,BK,BK,sE (by omega),sE (by omega)];have e2:a*4294967296 ||| b=a*4294967296+b:=by
  have:=Nat.shiftLeft_add_eq_or_of_lt (i:=32) (b:=b) (by omega) a;rw[Nat.shiftLeft_eq]at this;exact this.symm
 rw[e2,yK];omega
theorem yC (n:Nat):OkD WB (words n):=Zz WB2 n
theorem yM (n:Nat):zG WB (words n)=n:=ua WB2 n
def zo (n:Nat) (ex:Bool):PV:=.sl (zB .u32 (words n)) ex
section
attribute [local irreducible] Vs.callL Vs.callRL tyi zQ yE zm zV zk zb zK zf zF zT zl zi zJ zL zj yB yO yD zN zh Vs.gc zH
noncomputable def zE4:FX:=⟨Tryz.f116,zD.of 116,[]⟩
instance ok116_:zE4.ok 116:=FX.mk'
theorem WF (n:Nat) (hn:n<18446744073709551616):callL Tryz.prog zD 116 [.int .u64 n]=some (zc n):=by
 have e1:IntKind.u32.wrap (n:Int)=((n % 4294967296:Nat):Int):=by rw[bU];omega
 have e2:IntKind.u32.wrap ((n:Int) / 4294967296)=((n / 4294967296:Nat):Int):=by rw[bU];omega
 have hL:OkD WB [((n % 4294967296:Nat):Int),((n / 4294967296:Nat):Int)]:=.cons ⟨by omega,by show _<((4294967296:Nat):Int);omega⟩ (.cons ⟨by omega,by show _<((4294967296:Nat):Int);omega⟩ (.nil _));have ct:=xB (L:=[((n % 4294967296:Nat):Int),((n / 4294967296:Nat):Int)]) (show 2≤maxLen by decide) hL;have ev:(zG WB [((n % 4294967296:Nat):Int),((n / 4294967296:Nat):Int)]).toNat=n:=by
  show (((n % 4294967296:Nat):Int)+((4294967296:Nat):Int)*(((n / 4294967296:Nat):Int)+((4294967296:Nat):Int)*0)).toNat=n
  omega
 rw[ev]at ct;have c1:=ys (S:=[.arr (zB .u32 [((n % 4294967296:Nat):Int),((n / 4294967296:Nat):Int)]) (some (some 1)) false]) (id:=0) (n:=2) (ex:=true) ct rfl rfl (by simp);have er:[[PV.int .u32 ((n % 4294967296:Nat):Int)],[PV.int .u32 ((n / 4294967296:Nat):Int)]]=zB .u32 [((n % 4294967296:Nat):Int),((n / 4294967296:Nat):Int)]:=rfl;refine FX.callL (r:=(zc n,zH [.arr (zB .u32 [((n % 4294967296:Nat):Int),((n / 4294967296:Nat):Int)]) (some (some 1)) false] [0])) ok116_ 1000 rfl rfl ?_ (xA _ _);((repeat((conv=>lhs;whnf);simp only[go_sem,simprocAttr,e1,e2,er,c1]));try rfl)
noncomputable def zE5:FX:=⟨Tryz.f130,zD.of 130,[]⟩
instance ok130_:zE5.ok 130:=FX.mk'
theorem JA (n:Nat) (ex:Bool):callL Tryz.prog zD 130 [zo n ex]=some (if n<18446744073709551616 then .tup [.int .u64 n,.bool true] else .tup [.int .u64 0,.bool false]):=by
 have ho:=yC n;have hv:=yM n;have hl:=yI WB2 2 n;have hl':(words n).length≤2↔n<18446744073709551616:=hl;unfold zo;generalize words n=L at *
 rcases L with _ | ⟨a,_ | ⟨b,_ | ⟨c,L⟩⟩⟩
 ·rw[hZ (hl'.1 (by simp))];have e:n=0:=by
   have:(n:Int)=0:=hv.symm;omega
  subst e;refine FX.callL (r:=(.tup [.int .u64 0,.bool true],[])) ok130_ 1000 rfl rfl ?_ rfl;((repeat((conv=>lhs;whnf);simp only[go_sem,simprocAttr]));try rfl)
 ·rw[hZ (hl'.1 (by simp))];have h1:=ho.head;have e:(n:Int)=a:=by
   have:a+((4294967296:Nat):Int)*0=(n:Int):=hv;omega
  rw[e];have w:IntKind.u64.wrap a=a:=by
   have:a<((4294967296:Nat):Int):=h1.2;rw[yK];omega
  refine FX.callL (r:=(.tup [.int .u64 a,.bool true],[])) ok130_ 1000 rfl rfl ?_ rfl;have g0:([a]:List Int).getD (Int.toNat 0) 0=a:=rfl;((repeat((conv=>lhs;whnf);simp only[go_sem,simprocAttr,w,g0]));try rfl)
 ·rw[hZ (hl'.1 (by simp))];have h1:=ho.head;have h2:=ho.tail.head;have h1':a<4294967296:=h1.2;have h2':b<4294967296:=h2.2;have e:(n:Int)=b*4294967296+a:=by
   have:a+((4294967296:Nat):Int)*(b+((4294967296:Nat):Int)*0)=(n:Int):=hv;omega
  rw[e];have w:IntKind.u64.wrap a=a:=by rw[yK];omega
  have w2:IntKind.u64.wrap b=b:=by rw[yK];omega
  have w3:IntKind.u64.wrap (b*4294967296)=b*4294967296:=by rw[yK];omega
  have o:=ub ⟨h2.1,h2'⟩ ⟨h1.1,h1'⟩;refine FX.callL (r:=(.tup [.int .u64 (b*4294967296+a),.bool true],[])) ok130_ 1000 rfl rfl ?_ rfl;have g0:([a,b]:List Int).getD 0 0=a:=rfl;have g1:([a,b]:List Int).getD 1 0=b:=rfl;have l0:(0:Int)≤0∧(0:Int)<((2:Nat):Int):=by decide
  have l1:(0:Int)≤1∧(1:Int)<((2:Nat):Int):=by decide
  ((repeat((conv=>lhs;whnf);simp only[go_sem,simprocAttr,w,w2,w3,g0,g1,o]));try rfl)
 ·rw[hI (fun h=>by have:=hl'.2 h;simp at this)];have z0 : ¬((L.length:Int)+1+1+1=0):=by omega
  have z1 : ¬((L.length:Int)+1+1+1=1):=by omega
  have z2 : ¬((L.length:Int)+1+1+1=2):=by omega
  refine FX.callL (r:=(.tup [.int .u64 0,.bool false],[])) ok130_ 1000 rfl rfl ?_ rfl;((repeat((conv=>lhs;whnf);simp only[go_sem,simprocAttr,HK,Int.cast_ofNat_Int,z0,z1,z2]));try rfl)
end
end
section
def yU (m n:Nat):Int:=if m<n then -1 else if n<m then 1 else 0
def jW (m n:Int):Int:=if m<n then -1 else if n<m then 1 else 0
theorem WG (m n:Nat):jW m n=yU m n:=by
 unfold jW yU;by_cases h:m<n
 ·rw[hZ h,hZ (by omega)]
 ·rw[hI h,hI (by omega)];by_cases h2:n<m
  ·rw[hZ h2,hZ (by omega)]
  ·rw[hI h2,hI (by omega)]
theorem kC (L:List Int) {k:Nat} (h:k<L.length):L=L.take k++[L.getD k 0]++L.drop (k+1):=by
 have:L.drop k=L.getD k 0::L.drop (k+1):=by
  rw[PC h];simp[bE,h]
 rw[aG,List.singleton_append,←this,HB]
theorem yA (L:List Int) {k:Nat} (h:k<L.length):L.drop k=L.getD k 0::L.drop (k+1):=by
 rw[PC h];simp[bE,h]
theorem OkD.take {b:Nat} {l:List Int} (h:OkD b l) (k:Nat):OkD b (l.take k):=fun x hx=>h x (HH hx)
theorem OkD.drop {b:Nat} {l:List Int} (h:OkD b l) (k:Nat):OkD b (l.drop k):=fun x hx=>h x (BP hx)
theorem WH {A B:List Int} (hA:OkD WB A) (hB:OkD WB B) (hl:A.length=B.length) {k:Nat} (hk:k<A.length) (hs:A.drop (k+1)=B.drop (k+1)) (hlt:A.getD k 0<B.getD k 0):zG WB A<zG WB B:=by
 have eA:zG WB A=_:=(congrArg (zG WB) (kC A hk)).trans (zX WB _ _);have eB:zG WB B=_:=(congrArg (zG WB) (kC B (k:=k) (by omega))).trans (zX WB _ _);rw[eA,eB,hs];have ha:=hA.getD (by decide) k;have hb:=hB.getD (by decide) k;have h:=UV (hA.take k) (hB.take k) (by simp;omega) ha.1 ha.2 hb.1 hb.2 hlt;have e:(A.take k++[A.getD k 0]).length=(B.take k++[B.getD k 0]).length:=by simp;omega
 rw[e];omega
section
attribute [local irreducible] Vs.callL Vs.callRL tyi zQ yE zm zV zk zb zK zf zF zT zl zi zJ zL zj yB yO yD zN zh Vs.gc zH
noncomputable def zB4:FX:=⟨Tryz.f108,zD.of 108,[]⟩
instance ok108_:zB4.ok 108:=FX.mk'
theorem zB5 (A B:List Int) (e1 e2:Bool) (hA:OkD WB A) (hB:OkD WB B) (hl:A.length=B.length) (hm:A.length≤maxLen) : ∀(k:Nat) (i:Int),i=(k:Int)-1→k≤A.length→A.drop k=B.drop k→zS 0 zB4 0 116 0 [.blk 0,.seq 0 15] [(0,.sl (zB .u32 A) e1),(1,.sl (zB .u32 B) e2),(5,.int .i64 i)] []=some (.int .i64 (jW (zG WB A) (zG WB B)),[]):=by
 have hM:=vt;intro k
 induction k with
 | zero =>
  intro i hi hk hs;have c : ¬ 0≤i:=by omega
  have e:A=B:=by simpa using hs
  subst e;have z:jW (zG WB A) (zG WB A)=0:=by unfold jW;rw[hI (by omega),hI (by omega)]
  rw[z];apply zC;(repeat((conv=>lhs;whnf);simp only[go_sem,simprocAttr,c]));apply zR;((repeat((conv=>lhs;whnf);simp only[go_sem,simprocAttr]));try rfl)
 | succ k ih =>
  intro i hi hk hs;have hi':i=(k:Int):=by omega
  subst hi';have c:(0:Int)≤(k:Int):=by omega
  have x1:0≤(k:Int)∧(k:Int)<(A.length:Int):=⟨by omega,by omega⟩;have x2:0≤(k:Int)∧(k:Int)<(B.length:Int):=⟨by omega,by omega⟩;have w:IntKind.i64.wrap ((k:Int)-1)=(k:Int)-1:=by rw[bA];omega
  apply zC;by_cases h1:A.getD k 0=B.getD k 0
  ·have key:=ih _ rfl (by omega) (by rw[yA A (by omega),yA B (by omega),h1,hs]);(repeat((conv=>lhs;whnf);simp only[go_sem,simprocAttr,c,x1,x2,bD,h1,w]));exact key
  ·by_cases h2:A.getD k 0<B.getD k 0
   ·have hv:=WH hA hB hl (k:=k) (by omega) hs h2;have z:jW (zG WB A) (zG WB B) = -1:=by unfold jW;rw[hZ hv]
    rw[z];((repeat((conv=>lhs;whnf);simp only[go_sem,simprocAttr,c,x1,x2,bD,h1,h2]));try rfl)
   ·have hv:=WH hB hA hl.symm (k:=k) (by omega) hs.symm (by omega);have z:jW (zG WB A) (zG WB B)=1:=by unfold jW;rw[hI (by omega),hZ hv]
    rw[z];((repeat((conv=>lhs;whnf);simp only[go_sem,simprocAttr,c,x1,x2,bD,h1,h2]));try rfl)
theorem qj (m n:Nat) (e1 e2:Bool) (hm:(words m).length≤maxLen) (hn:(words n).length≤maxLen):callL Tryz.prog zD 108 [zo m e1,zo n e2]=some (.int .i64 (yU m n)):=by
 have hM:=vt;unfold zo;by_cases hl:(words m).length=(words n).length
 ·have key:=zB5 (words m) (words n) e1 e2 (yC m) (yC n) hl hm (words m).length ((words m).length-1) rfl (bB _) (by rw[sU,hl,sU]);rw[yM,yM,WG]at key;have w:IntKind.i64.wrap (((words m).length:Int)-1)=((words m).length:Int)-1:=by rw[bA];omega
  have c:((words m).length:Int)=((words n).length:Int):=by omega
  rw[c]at w;rw[c]at key;refine FX.callL (r:=(.int .i64 (yU m n),[])) ok108_ 1000 rfl rfl ?_ rfl;(repeat((conv=>lhs;whnf);simp only[go_sem,simprocAttr,c,w]));exact key
 ·have c : ¬((words m).length:Int)=((words n).length:Int):=by omega
  by_cases h2:(words m).length<(words n).length
  ·have hmn:m<n:=by
    by_cases h:m<n
    ·exact h
    ·have:=wm WB2 (show n≤m by omega);unfold words at h2;omega
   have z:yU m n = -1:=by unfold yU;rw[hZ hmn]
   rw[z];have c2:((words m).length:Int)<((words n).length:Int):=by omega
   refine FX.callL (r:=(.int .i64 (-1),[])) ok108_ 1000 rfl rfl ?_ rfl;((repeat((conv=>lhs;whnf);simp only[go_sem,simprocAttr,c,c2]));try rfl)
  ·have hmn:n<m:=by
    by_cases h:n<m
    ·exact h
    ·have:=wm WB2 (show m≤n by omega);unfold words at h2 hl;omega
   have z:yU m n=1:=by unfold yU;rw[hI (by omega),hZ hmn]
   rw[z];have c2 : ¬((words m).length:Int)<((words n).length:Int):=by omega
   refine FX.callL (r:=(.int .i64 1,[])) ok108_ 1000 rfl rfl ?_ rfl;((repeat((conv=>lhs;whnf);simp only[go_sem,simprocAttr,c,c2]));try rfl)
end
def uc:List Int→List Int→Int→List Int
 | [],_,_=>[]
 | x::a,b,c=>(x-c-b.headD 0) % 4294967296::uc a b.tail (if x-c-b.headD 0<0 then 1 else 0)
def Wx:List Int→List Int→Int→Int
 | [],_,c=>c
 | x::a,b,c=>Wx a b.tail (if x-c-b.headD 0<0 then 1 else 0)
theorem Yd {b:List Int} (h:OkD WB b):0≤b.headD 0∧b.headD 0<4294967296:=by
 cases b with
 | nil=>exact⟨aJ 0,by simp⟩
 | cons x b=>exact h.head
theorem Wy {b:List Int} (h:OkD WB b):OkD WB b.tail:=by
 cases b with
 | nil=>exact h
 | cons x b=>exact h.tail
theorem Wz (b:List Int):zG WB b=b.headD 0+4294967296*zG WB b.tail:=by
 cases b with
 | nil=>simp[zG]
 | cons x b=>rfl
theorem UW : ∀(a b:List Int) (c:Int),OkD WB a→OkD WB b→b.length≤a.length→(c=0∨c=1)→OkD WB (uc a b c)∧(uc a b c).length=a.length∧(Wx a b c=0∨Wx a b c=1)∧zG WB (uc a b c)=zG WB a-zG WB b-c+(4294967296:Int)^a.length*Wx a b c
 | [],b,c,ha,hb,hl,hc=>by
  have:b=[]:=bT (by simpa using hl);subst this;refine⟨.nil _,rfl,hc,?_⟩;simp[uc,Wx,zG];omega
 | x::a,b,c,ha,hb,hl,hc=>by
  have hx:=ha.head;have hx':x<4294967296:=hx.2;have hh:=Yd hb;have hbt:b.tail.length≤a.length:=by simp only[bP]at hl;rw[PO];omega
  obtain⟨i1,i2,i3,i4⟩:=UW a b.tail (if x-c-b.headD 0<0 then 1 else 0) ha.tail (Wy hb) hbt (by split <;> simp);refine⟨.cons ⟨by omega,by show _<((4294967296:Nat):Int);omega⟩ i1,by simp only[uc,bP,i2],i3,?_⟩;have e1:zG WB (x::a)=x+4294967296*zG WB a:=rfl;have e2:=Wz b;have e3:zG WB (uc (x::a) b c)=(x-c-b.headD 0) % 4294967296+4294967296*zG WB (uc a b.tail (if x-c-b.headD 0<0 then 1 else 0)):=rfl;have e4:Wx (x::a) b c=Wx a b.tail (if x-c-b.headD 0<0 then 1 else 0):=rfl;rw[e3,i4,e4,e1,e2,bP,pO];generalize Wx a b.tail (if x-c-b.headD 0<0 then 1 else 0)=s at *;generalize hp:(4294967296:Int)^a.length=P at *;rw[bM P 4294967296,bN];generalize P*s=Q
  split <;> omega
section
attribute [local irreducible] Vs.callL Vs.callRL tyi zQ yE zm zV zk zb zK zf zF zT zl zi zJ zL zj yB yO yD zN zh Vs.gc zH
noncomputable def JB:FX:=⟨Tryz.f110,zD.of 110,[]⟩
instance ok110_:JB.ok 110:=FX.mk'
theorem zB6 (A B:List Int) (e1 e2:Bool) (hA:OkD WB A) (hB:OkD WB B) (hl:B.length≤A.length) (hm:A.length≤maxLen) (fs:List Fr) {z:PV × zA} (hz : ∀c:Int,zZ 0 JB 0 fs [(1,.undef),(5,.msl 0 0 A.length true),(6,.undef),(13,.undef),(14,.undef),(15,.undef),(16,.undef)] [.arr (zB .u32 (uc A B 0)) (some (some 1)) false]=some z) : ∀(m i:Nat),i+m=A.length→∀(D:List Int) (c:Int),D.length=i→(c=0∨c=1)→D++uc (A.drop i) (B.drop i) c=uc A B 0 →
  zS 0 JB 0 244 1 fs [(1,.sl (zB .u32 B) e2),(5,.msl 0 0 A.length true),(6,.int .u64 c),(13,.sl (zB .u32 A) e1),(14,.int .i64 A.length),(15,.int .i64 i)] [.arr (zB .u32 (D++List.replicate m 0)) (some (some 1)) false]=some z:=by
 have hM:=vt;intro m
 induction m with
 | zero =>
  intro i hi D c hD hc hs;have h1 : ¬(i:Int)<(A.length:Int):=by omega
  have hd:A.drop i=[]:=pA (by omega);rw[hd]at hs;simp only[uc,pD]at hs;subst hs;apply zC;simp only[HE,pD];(repeat((conv=>lhs;whnf);simp only[go_sem,simprocAttr,h1]));exact hz c
 | succ m ih =>
  intro i hi D c hD hc hs;have h1:(i:Int)<(A.length:Int):=by omega
  have w1:=xF (i:=i) (n:=A.length) (by omega) hm;have x1:0≤(i:Int)∧(i:Int)<(A.length:Int):=⟨by omega,h1⟩;have ha:=hA.getD (by decide) i;have hb:=hB.getD (by decide) i;have ha':A.getD i 0<4294967296:=ha.2;have hb':B.getD i 0<4294967296:=hb.2;have hd:=yA A (k:=i) (by omega);have hbh:(B.drop i).headD 0=B.getD i 0:=by
   by_cases hib:i<B.length
   ·rw[yA B hib];rfl
   ·rw[pA (by omega),bE,bY (by omega)];rfl
  have hbt:(B.drop i).tail=B.drop (i+1):=List.tail_drop;rw[hd]at hs;have es:uc (A.getD i 0::A.drop (i+1)) (B.drop i) c=(A.getD i 0-c-B.getD i 0) % 4294967296::uc (A.drop (i+1)) (B.drop (i+1)) (if A.getD i 0-c-B.getD i 0<0 then 1 else 0):=by
   rw[uc,hbh,hbt]
  rw[es]at hs;have key:=ih (i+1) (by omega) (D++[(A.getD i 0-c-B.getD i 0) % 4294967296]) (if A.getD i 0-c-B.getD i 0<0 then 1 else 0) (by simp[hD]) (by split <;> simp) (by simpa using hs);have set : ∀v:Int,(zB .u32 (D++List.replicate (m+1) 0)).set i [.int .u32 v]=zB .u32 ((D++[v])++List.replicate m 0):=fun v=>by
   rw[yR]
   congr 1
   rw[pT,hI (by omega),hD,sM,sV,pV];simp
  have xm : ∀S:zA,zz S 0=some (zB .u32 (D++List.replicate (m+1) 0))→zK Tryz.prog 40 S (.msl 0 0 A.length true) (.int .i64 i)=some (.mp 0 (0+i) 0):=fun S hS=>yb.idxmk .u32 i hS (by simp;omega) (by omega);have xm':=xm [.arr (zB .u32 (D++List.replicate (m+1) 0)) (some (some 1)) false] rfl;have len:i<(D++List.replicate (m+1) (0:Int)).length:=by simp;omega
  have len1:((zB .u32 (D++List.replicate (m+1) 0)).getD i []).length=1:=by
   rw[zy _ _ (by simp;omega)];rfl
  have cu:IntKind.u64.wrap (A.getD i 0)=A.getD i 0:=by rw[yK];omega
  have cb:IntKind.u64.wrap (B.getD i 0)=B.getD i 0:=by rw[yK];omega
  apply zC;by_cases hib:i<B.length
  ·have h2:(i:Int)<(B.length:Int):=by omega
   have x2:0≤(i:Int)∧(i:Int)<(B.length:Int):=⟨by omega,h2⟩;have v1:IntKind.u32.wrap (IntKind.u64.wrap (IntKind.u64.wrap (A.getD i 0-c)-B.getD i 0))=(A.getD i 0-c-B.getD i 0) % 4294967296:=by
    rw[bU,yK,yK];omega
   have v2:IntKind.u64.wrap (IntKind.u64.wrap (A.getD i 0-c)-B.getD i 0) / 9223372036854775808=(if A.getD i 0-c-B.getD i 0<0 then 1 else 0):=by
    rw[yK,yK];split <;> omega
   (repeat((conv=>lhs;whnf);simp only[go_sem,simprocAttr,h1,x1,bD,cu,cb,h2,x2,xm',v1,v2,set,len,len1,w1,zI,zY]));exact key
  ·have h2 : ¬(i:Int)<(B.length:Int):=by omega
   have hb0:B.getD i 0=0:=by rw[bE,bY (by omega)];rfl
   rw[hb0,Int.sub_zero]at key;have v1:IntKind.u32.wrap (IntKind.u64.wrap (A.getD i 0-c))=(A.getD i 0-c) % 4294967296:=by
    rw[bU,yK];omega
   have v2:IntKind.u64.wrap (A.getD i 0-c) / 9223372036854775808=(if A.getD i 0-c<0 then 1 else 0):=by
    rw[yK];split <;> omega
   (repeat((conv=>lhs;whnf);simp only[go_sem,simprocAttr,h1,x1,bD,cu,h2,xm',v1,v2,set,len,len1,w1,zI,zY]));exact key
theorem zB7 (m n:Nat) (e1 e2:Bool) (hmn:n≤m) (hm:(words m).length≤1000000):callL Tryz.prog zD 110 [zo m e1,zo n e2]=some (zc (m-n)):=by
 have hM:2000000≤maxLen:=by decide
 have hl:(words n).length≤(words m).length:=wm WB2 hmn;obtain⟨i1,i2,i3,i4⟩:=UW (words m) (words n) 0 (yC m) (yC n) hl (.inl rfl);have hb:Wx (words m) (words n) 0=0:=by
  have h1:=xr i1;rw[i2,i4,yM,yM]at h1
  rcases i3 with h | h
  ·exact h
  ·rw[h]at h1;have:(((4294967296:Nat):Int))=(4294967296:Int):=rfl;rw[this]at h1;omega
 have hv:(zG WB (uc (words m) (words n) 0)).toNat=m-n:=by
  rw[i4,hb,yM,yM];omega
 have ct:=xB (L:=uc (words m) (words n) 0) (by rw[i2];omega) i1;rw[hv]at ct;have c1:=ys (S:=[.arr (zB .u32 (uc (words m) (words n) 0)) (some (some 1)) false]) (id:=0) (n:=(words m).length) (ex:=true) ct rfl i2 (by simp);have mk:=fun id=>uN id (words m).length (by omega);unfold zo;have key:=zB6 (words m) (words n) e1 e2 (yC m) (yC n) hl (by omega) [.blk 0,.seq 0 31] (z:=(zc (m-n),[.arr (zB .u32 (uc (words m) (words n) 0)) (some (some 1)) true])) (fun c=>by
  apply zR;((repeat((conv=>lhs;whnf);simp only[go_sem,simprocAttr,c1]));try rfl)) (words m).length 0 (by omega) [] 0 rfl (.inl rfl) (by simp)
 refine FX.callL (r:=(zc (m-n),[.arr (zB .u32 (uc (words m) (words n) 0)) (some (some 1)) true])) ok110_ 1000 rfl rfl ?_ (xA _ _);(repeat((conv=>lhs;whnf);simp only[go_sem,simprocAttr,mk]));exact key
end
end
section
def Zq (x:Int):List Int→List Int→Int→List Int
 | [],_,_=>[]
 | y::b,o,c=>(c+(x*y+o.headD 0)) % 4294967296::Zq x b o.tail ((c+(x*y+o.headD 0)) / 4294967296)
def Zr (x:Int):List Int→List Int→Int→Int
 | [],_,c=>c
 | y::b,o,c=>Zr x b o.tail ((c+(x*y+o.headD 0)) / 4294967296)
theorem WI {x y:Int} (hx:0≤x∧x<4294967296) (hy:0≤y∧y<4294967296):0≤x*y∧x*y≤18446744065119617025:=by
 refine⟨pW hx.1 hy.1,?_⟩;have h1:x*y≤4294967295*y:=pU (by omega) hy.1;omega
theorem UX (x:Int) (hx:0≤x∧x<4294967296) : ∀(b o:List Int) (c:Int),OkD WB b→OkD WB o→o.length=b.length→0≤c∧c<4294967296→OkD WB (Zq x b o c)∧(Zq x b o c).length=b.length∧(0≤Zr x b o c∧Zr x b o c<4294967296)∧zG WB (Zq x b o c)+(4294967296:Int)^b.length*Zr x b o c=c+x*zG WB b+zG WB o
 | [],o,c,hb,ho,hl,hc=>by
  have:o=[]:=bT (by simpa using hl);subst this;refine⟨.nil _,rfl,hc,?_⟩;simp[Zq,Zr,zG]
 | y::b,o,c,hb,ho,hl,hc=>by
  have hy:=hb.head;have hy':y<4294967296:=hy.2;have hh:=Yd ho;have hs:=WI hx ⟨hy.1,hy'⟩;have hq:0≤(c+(x*y+o.headD 0)) / 4294967296∧(c+(x*y+o.headD 0)) / 4294967296<4294967296:=by omega
  obtain⟨i1,i2,i3,i4⟩:=UX x hx b o.tail _ hb.tail (Wy ho) (by rw[PO];simp only[bP]at hl;omega) hq;refine⟨.cons ⟨by omega,by show _<((4294967296:Nat):Int);omega⟩ i1,by simp only[Zq,bP,i2],i3,?_⟩;have e2:=Wz o;have e1:zG WB (y::b)=y+4294967296*zG WB b:=rfl;have e3:zG WB (Zq x (y::b) o c)=(c+(x*y+o.headD 0)) % 4294967296+4294967296*zG WB (Zq x b o.tail ((c+(x*y+o.headD 0)) / 4294967296)):=rfl;have e4:Zr x (y::b) o c=Zr x b o.tail ((c+(x*y+o.headD 0)) / 4294967296):=rfl;rw[e3,e4,e1,e2,bP,pO,bG,HF x];generalize (4294967296:Int)^b.length=P at *;rw[bM P 4294967296,bN];generalize P*Zr x b o.tail ((c+(x*y+o.headD 0)) / 4294967296)=Q at *;generalize x*zG WB b=R at *;generalize x*y=T at *;omega
section
attribute [local irreducible] Vs.callL Vs.callRL tyi zQ yE zm zV zk zb zK zf zF zT zl zi zJ zL zj yB yO yD zN zh Vs.gc zH
noncomputable def Ye:FX:=⟨Tryz.f105,zD.of 105,[]⟩
instance ok105_:Ye.ok 105:=FX.mk'
theorem zAF (B:List Int) (e2:Bool) (hB:OkD WB B) (hm:B.length≤1000000) (x:Int) (hx:0≤x∧x<4294967296) (n i:Nat) (hi:i+B.length≤n) (hn:n≤2000000) (x25 x26 x27:PV) (P Z:List Int) (hP:P.length=i) (fs:List Fr) {z:PV × zA} : ∀(m k:Nat),k+m=B.length→∀(D W:List Int) (c:Int),D.length=k→W.length=m→OkD WB W→(0≤c∧c<4294967296)→n=i+B.length+Z.length →
  zZ 0 Ye 2 fs [(1,.sl (zB .u32 B) e2),(5,.msl 0 0 n true),(6,.int .i64 i),(7,.undef),(8,.int .u64 (Zr x (B.drop k) W c)),(25,x25),(26,x26),(27,x27),(32,.undef),(33,.undef),(34,.undef),(35,.undef)] [.arr (zB .u32 (P++(D++Zq x (B.drop k) W c)++Z)) (some (some 1)) false]=some z →
  zS 0 Ye 2 250676 1 fs [(1,.sl (zB .u32 B) e2),(5,.msl 0 0 n true),(6,.int .i64 i),(7,.int .u32 x),(8,.int .u64 c),(25,x25),(26,x26),(27,x27),(32,.sl (zB .u32 B) e2),(33,.int .i64 B.length),(34,.int .i64 k)] [.arr (zB .u32 (P++(D++W)++Z)) (some (some 1)) false]=some z:=by
 have hM:2000000≤maxLen:=by decide
 intro m
 induction m with
 | zero =>
  intro k hk D W c hD hW hWo hc hl hz;have h1 : ¬(k:Int)<(B.length:Int):=by omega
  have hd:B.drop k=[]:=pA (by omega);have hw:W=[]:=bT hW;subst hw;rw[hd]at hz;simp only[Zq,Zr,pD]at hz;apply zC;(repeat((conv=>lhs;whnf);simp only[go_sem,simprocAttr,h1]));exact hz
 | succ m ih =>
  intro k hk D W c hD hW hWo hc hl hz;have h1:(k:Int)<(B.length:Int):=by omega
  have w1:=xF (i:=k) (n:=B.length) (by omega) (by omega);have x1:0≤(k:Int)∧(k:Int)<(B.length:Int):=⟨by omega,h1⟩;obtain⟨w,W',rfl⟩ : ∃w W',W=w::W':=by
   cases W with
   | nil=>simp at hW
   | cons w W'=>exact⟨w,W',rfl⟩
  have hb:=hB.getD (by decide) k;have hb':B.getD k 0<4294967296:=hb.2;have hw:=hWo.head;have hw':w<4294967296:=hw.2;have hs:=WI hx ⟨hb.1,hb'⟩;have hd:=yA B (k:=k) (by omega);rw[hd]at hz;have key:=ih (k+1) (by omega) (D++[(c+(x*B.getD k 0+w)) % 4294967296]) W' ((c+(x*B.getD k 0+w)) / 4294967296) (by simp[hD]) (by simpa using hW) hWo.tail (by omega) hl (by
   simp only[Zr,Zq,List.headD_cons,List.tail_cons]at hz
   simpa using hz)
  have hlen:(P++(D++w::W')++Z).length=n:=by simp only[bO,bP]at hW ⊢;omega
  have get:(P++(D++w::W')++Z).getD (i+k) 0=w:=by
   have e:P++(D++w::W')++Z=(P++D)++w::(W'++Z):=by simp
   rw[e,bE,pG (by simp;omega)];have:i+k-(P++D).length=0:=by simp;omega
   rw[this];rfl
  have set : ∀v:Int,(zB .u32 (P++(D++w::W')++Z)).set (i+k) [.int .u32 v]=zB .u32 (P++((D++[v])++W')++Z):=fun v=>by
   rw[yR]
   congr 1
   have e:P++(D++w::W')++Z=(P++D)++w::(W'++Z):=by simp
   rw[e,pT,hI (by simp;omega)];have:i+k-(P++D).length=0:=by simp;omega
   rw[this,pV];simp
  have wi:IntKind.i64.wrap ((i:Int)+(k:Int))=((i+k:Nat):Int):=by rw[bA];omega
  have xm:=yb.idxmk .u32 (S:=[.arr (zB .u32 (P++(D++w::W')++Z)) (some (some 1)) false]) (id:=0) (off:=0) (n:=n) (ex:=true) (L:=P++(D++w::W')++Z) (i+k) rfl (by omega) (by omega);rw[bW]at xm;have len:i+k<(P++(D++w::W')++Z).length:=by omega
  have gk:=zy .u32 (P++(D++w::W')++Z) len;rw[get]at gk;have cx:IntKind.u64.wrap x=x:=by rw[yK];omega
  have cb:IntKind.u64.wrap (B.getD k 0)=B.getD k 0:=by rw[yK];omega
  have cw:IntKind.u64.wrap w=w:=by rw[yK];omega
  have m1:IntKind.u64.wrap (x*B.getD k 0)=x*B.getD k 0:=by rw[yK];omega
  have m2:IntKind.u64.wrap (x*B.getD k 0+w)=x*B.getD k 0+w:=by rw[yK];omega
  have m3:IntKind.u64.wrap (c+(x*B.getD k 0+w))=c+(x*B.getD k 0+w):=by rw[yK];omega
  have m4:IntKind.u32.wrap (c+(x*B.getD k 0+w))=(c+(x*B.getD k 0+w)) % 4294967296:=by rw[bU]
  apply zC;(repeat((conv=>lhs;whnf);simp only[go_sem,simprocAttr,h1,x1,bD,cx,cb,cw,wi,xm,gk,len,m1,m2,m3,m4,set,w1]));exact key
theorem zAG (A B:List Int) (e1 e2:Bool) (hA:OkD WB A) (hB:OkD WB B) (hB0:B≠[]) (ha:A.length≤1000000) (hb:B.length≤1000000) (fs:List Fr) : ∀(r i:Nat),i+r=A.length→∀(P W:List Int),P.length=i→W.length=B.length→OkD WB P→OkD WB W→zG WB P+(4294967296:Int)^i*zG WB W=zG WB (A.take i)*zG WB B →
  ∃O:List Int,OkD WB O∧O.length=A.length+B.length∧zG WB O=zG WB A*zG WB B∧∀z:PV × zA,zZ 0 Ye 0 fs [(1,.undef),(5,.msl 0 0 (A.length+B.length) true),(25,.undef),(26,.undef),(27,.undef),(28,.undef)] [.arr (zB .u32 O) (some (some 1)) false]=some z →
  zS 0 Ye 0 244 1 fs [(1,.sl (zB .u32 B) e2),(5,.msl 0 0 (A.length+B.length) true),(25,.sl (zB .u32 A) e1),(26,.int .i64 A.length),(27,.int .i64 i)] [.arr (zB .u32 (P++W++List.replicate r 0)) (some (some 1)) false]=some z:=by
 have hM:2000000≤maxLen:=by decide
 intro r
 induction r with
 | zero =>
  intro i hi P W hP hW hPo hWo hv;refine⟨P++W,hPo.append hWo,by simp[hP,hW];omega,?_,fun z hz=>?_⟩
  ·rw[zX,hP];have:(((WB:Nat):Int))=(4294967296:Int):=rfl;rw[this,hv,pZ (by omega)]
  ·have h1 : ¬(i:Int)<(A.length:Int):=by omega
   apply zC;simp only[HE,pD];(repeat((conv=>lhs;whnf);simp only[go_sem,simprocAttr,h1]));exact hz
 | succ r ih =>
  intro i hi P W hP hW hPo hWo hv;have h1:(i:Int)<(A.length:Int):=by omega
  have w1:=xF (i:=i) (n:=A.length) (by omega) (by omega);have x1:0≤(i:Int)∧(i:Int)<(A.length:Int):=⟨by omega,h1⟩;have hx:=hA.getD (by decide) i;have hx':A.getD i 0<4294967296:=hx.2;obtain⟨j1,j2,j3,j4⟩:=UX (A.getD i 0) ⟨hx.1,hx'⟩ B W 0 hB hWo hW ⟨by omega,by omega⟩;generalize hc:Zr (A.getD i 0) B W 0=c at *;generalize hD:Zq (A.getD i 0) B W 0=D at *;obtain⟨d,D',rfl⟩ : ∃d D',D=d::D':=by
   cases D with
   | nil=>exact absurd (bT (by rw[←j2];rfl)) hB0
   | cons d D'=>exact⟨d,D',rfl⟩
  have hBl:B.length=D'.length+1:=by rw[←j2];rfl
  obtain⟨O,o1,o2,o3,o4⟩:=ih (i+1) (by omega) (P++[d]) (D'++[c]) (by simp[hP]) (by simp[hBl]) (hPo.append (.cons j1.head (.nil _))) (j1.tail.append (.cons j3 (.nil _))) (by
   have e0:(((WB:Nat):Int))=(4294967296:Int):=rfl;have et:A.take (i+1)=A.take i++[A.getD i 0]:=by
    rw[aK];have:A[i]? = some (A.getD i 0):=by rw[bI (by omega)];simp[bE,show i<A.length by omega]
    rw[this];rfl
   rw[et,zX,zX,zX,hP,e0];have hti:(A.take i).length=i:=by simp;omega
   rw[hti,aQ,←hv];have s1:zG WB [A.getD i 0]=A.getD i 0:=by simp[zG]
   have s2:zG WB [d]=d:=by simp[zG]
   have s3:zG WB [c]=c:=by simp[zG]
   rw[s1,s2,s3];have j5:d+4294967296*zG WB D'+(4294967296:Int)^B.length*c=A.getD i 0*zG WB B+zG WB W:=by
    have:zG WB (d::D')=d+4294967296*zG WB D':=rfl;rw[this]at j4;omega
   rw[hBl,pO]at j5;rw[pO];have q1:(4294967296:Int)^i*4294967296*(zG WB D'+4294967296^D'.length*c)=(4294967296:Int)^i*(4294967296*zG WB D'+4294967296^D'.length*4294967296*c):=by
    rw[bN,bG,HF 4294967296,←bN (4294967296^D'.length) 4294967296 c]
   rw[q1];have q2:4294967296*zG WB D'+(4294967296:Int)^D'.length*4294967296*c=A.getD i 0*zG WB B+zG WB W-d:=by omega
   rw[q2,Int.mul_sub,bG,bN];omega)
  refine⟨O,o1,o2,o3,fun z hz=>?_⟩;have key:=o4 z hz;have set:(zB .u32 (P++(d::D')++List.replicate (r+1) 0)).set (i+B.length) [.int .u32 c]=zB .u32 ((P++[d])++(D'++[c])++List.replicate r 0):=by
   rw[yR]
   congr 1
   have e:P++(d::D')++List.replicate (r+1) 0=(P++(d::D'))++0::List.replicate r 0:=by simp[sV]
   rw[e,pT,hI (by simp;omega)];have:i+B.length-(P++(d::D')).length=0:=by simp;omega
   rw[this,pV];simp
  have hlen:(P++(d::D')++List.replicate (r+1) (0:Int)).length=A.length+B.length:=by simp;omega
  have wi:IntKind.i64.wrap ((i:Int)+(B.length:Int))=((i+B.length:Nat):Int):=by rw[bA];omega
  have xm:=yb.idxmk .u32 (S:=[.arr (zB .u32 (P++(d::D')++List.replicate (r+1) 0)) (some (some 1)) false]) (id:=0) (off:=0) (n:=A.length+B.length) (ex:=true) (L:=P++(d::D')++List.replicate (r+1) 0) (i+B.length) rfl (by omega) (by omega);rw[bW]at xm;have len:i+B.length<(P++(d::D')++List.replicate (r+1) (0:Int)).length:=by omega
  have gk:((zB .u32 (P++(d::D')++List.replicate (r+1) 0)).getD (i+B.length) []).length=1:=by rw[zy _ _ len];rfl
  have cc:IntKind.u32.wrap c=c:=by rw[bU];omega
  have inner:=zAF B e2 hB hb (A.getD i 0) ⟨hx.1,hx'⟩ (A.length+B.length) i (by omega) (by omega) (.sl (zB .u32 A) e1) (.int .i64 A.length) (.int .i64 i) P (List.replicate (r+1) 0) hP (.blk 2 :: .seq 1 31335 :: .blk 1 :: .seq 0 1959 :: .lop 0 244 1::fs) (z:=z) B.length 0 (by omega) [] W 0 rfl hW hWo ⟨by omega,by omega⟩ (by simp;omega) (by
   rw[pH,hc,hD];apply zR;(repeat((conv=>lhs;whnf);simp only[go_sem,simprocAttr,wi,xm,len,gk,cc,set,w1]));exact key)
  simp only[pC]at inner;apply zC;(repeat((conv=>lhs;whnf);simp only[go_sem,simprocAttr,h1,x1,bD]));exact inner
theorem UY (m n:Nat) (e1 e2:Bool) (hm:(words m).length≤1000000) (hn:(words n).length≤1000000):callL Tryz.prog zD 105 [zo m e1,zo n e2]=some (if m=0∨n=0 then .sl [] true else zc (m*n)):=by
 have hM:2000000≤maxLen:=by decide
 by_cases h:m=0∨n=0
 ·rw[hZ h];refine FX.callL (r:=(.sl [] true,[])) ok105_ 1000 rfl rfl ?_ rfl;unfold zo;by_cases hm0:m=0
  ·have c:((words m).length:Int)=0:=by rw[hm0];unfold words;rw[yH];rfl
   ((repeat((conv=>lhs;whnf);simp only[go_sem,simprocAttr,c]));try rfl)
  ·have hn0:n=0:=by omega
   have c : ¬((words m).length:Int)=0:=by
    have:words m≠[]:=fun e=>hm0 ((xI WB2).1 e);have:=aR.2 this;omega
   have c2:((words n).length:Int)=0:=by rw[hn0];unfold words;rw[yH];rfl
   ((repeat((conv=>lhs;whnf);simp only[go_sem,simprocAttr,c,c2]));try rfl)
 ·rw[hI h];have hne : ∀k,k≠0→words k≠[]:=fun k hk e=>hk ((xI WB2).1 e);have c : ¬((words m).length:Int)=0:=by
   have:=aR.2 (hne m (by omega));omega
  have c2 : ¬((words n).length:Int)=0:=by
   have:=aR.2 (hne n (by omega));omega
  obtain⟨O,o1,o2,o3,o4⟩:=zAG (words m) (words n) e1 e2 (yC m) (yC n) (hne n (by omega)) hm hn [.blk 0,.seq 0 31] (words m).length 0 (by omega) [] (List.replicate (words n).length 0) rfl (by simp) (.nil _) (fun x hx=>by
   rw[HS hx];exact⟨aJ 0,by decide⟩) (by
   have:zG WB (List.replicate (words n).length 0)=0:=by
    generalize (words n).length=k
    induction k with
    | zero=>rfl
    | succ k ih=>rw[sV,zG,ih];simp
   rw[this];simp[zG])
  have ct:=xB (L:=O) (by omega) o1;have hv:(zG WB O).toNat=m*n:=by rw[o3,yM,yM,←pL,bD]
  rw[hv]at ct;have cc:=ys (S:=[.arr (zB .u32 O) (some (some 1)) false]) (id:=0) (n:=(words m).length+(words n).length) (ex:=true) ct rfl o2 (by simp);have mk:=fun id=>uN id ((words m).length+(words n).length) (by omega);have wi:IntKind.i64.wrap (((words m).length:Int)+((words n).length:Int))=(((words m).length+(words n).length:Nat):Int):=by rw[bA];omega
  have key:=o4 (zc (m*n),[.arr (zB .u32 O) (some (some 1)) true]) (by
   apply zR;((repeat((conv=>lhs;whnf);simp only[go_sem,simprocAttr,cc]));try rfl))
  have er:List.replicate ((words m).length+(words n).length) (0:Int)=[]++List.replicate (words n).length 0++List.replicate (words m).length 0:=by
   rw[pC,PP,Nat.add_comm]
  refine FX.callL (r:=(zc (m*n),[.arr (zB .u32 O) (some (some 1)) true])) ok105_ 1000 rfl rfl ?_ (xA _ _);unfold zo;rw[←er]at key;(repeat((conv=>lhs;whnf);simp only[go_sem,simprocAttr,c,c2,wi,mk]));exact key
end
end
end Go.Vs

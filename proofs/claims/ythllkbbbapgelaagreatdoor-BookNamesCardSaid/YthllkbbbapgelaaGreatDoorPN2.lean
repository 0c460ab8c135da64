/-
  Texts of this claim, packed by a program: Math MA VA Region.
-/
import Derived.Test.YthllkbbbapgelaaGreatDoorPN0
import Derived.WalkKit
import Derived.WalkLawsBesides
import Derived.WalkSpells
import Derived.Outline
import Derived.Handy
import Derived.KernelRfl
import Derived.Lib.Hide
import Derived.Orders
import Derived.OrdersIn
import Derived.Below
import Derived.Tactics
set_option maxHeartbeats 8000000
set_option maxRecDepth 100000
set_option linter.all false
theorem _root_.zb2 {P:Prop} (h:P:=by
 by_cases h:i<n
 ·rw[aG h,aG ϑ]
 ·rw[ak h,ak ϑ]):P:=h
theorem _root_.za1 {P:Prop} (h:P:=by
 intro l;induction l with
 |nil=>intro k j hk;simp at hk
 |cons x l ih=>
  intro k j hk hj;cases k with
  |zero=>simp[List.flatMap_cons,sD (show j<(f x).length by rw[hf];exact hj)]
  |succ k=>
   have e:(k+1)*sz+j=(f x).length+(k*sz+j):=by rw[hf,Nat.add_mul];omega
   rw[List.flatMap_cons,e,mD ϑ,Nat.add_sub_cancel_left,ih k j (by simpa using hk) hj];rfl):P:=h
theorem _root_.zbL {P:Prop} (h:P:=by
 rw[eG hk,List.filter_append,cu];simp[hp]):P:=h
theorem _root_.zcd {P:Prop} (h:P:=by
 rw[ih (fun j hj=>h j ϑ),iX (env:=env) (env':=env') (fun j hj=>h j ϑ),h t ϑ]):P:=h
theorem _root_.zck {P:Prop} (h:P:=by
 rw[<-U9 hc (hl j hj) (fun x _ hx=>he x (qV hd (eF (hl j hj) hc.kn) hj hx)), <-he j hj];exact h):P:=h
theorem _root_.zbk {P:Prop} (h:P:=by
 intro W hW _;have hW':Ext Ms W0 W:=by
  unfold jH at hW;rw[ak hmi] at hW;exact hW
 refine gH _ (he W fun b off hb hm=>hW'.cell b off hb hm) ⟨⟨_,rfl⟩,⟨_,rfl,eU hB hW'.size,heap_alloc_new W _⟩,II (R1:=Ext Ms) (W0:=W0) (Ext.ax ?_)⟩;exact(aF _ _).alloc (ah _) _):P:=h
theorem _root_.zbP {P:Prop} (h:P:=by
 rintro v W W' ⟨b,hb,hle,hc⟩ hE;unfold jH at hE;rw[ak hmi] at hE;exact⟨b,hb,hle,(hE.block b (aN.1 hc).1 (fun h=>by have:=η b h;omega)).trans hc⟩):P:=h
section
namespace gK
abbrev dF:=Int×Int
abbrev zW:=Int×Int×Int
structure bS where
 last:Int
 size:Int
 aZ:Int
 die:Int
 ny:Int
 start:dF
 bJ:List dF
 turns:List Int
 readings:List zW
def lV (n lo hi:Int):Bool:=decide (lo<=n)&&decide (n<=hi)
def tZ (r:dF) (hi:Int):Bool:=decide (0<=r.1)&&decide (r.1<=r.2)&&decide (r.2<=hi)
def wP (last:Int):Int->List Int->Bool
 |_,[]=>true
 |p,n::l=>lV n (p+1) last&&wP last n l
def mf (last:Int) (l:List Int):Bool:=wP last (-1) l
def yT (last:Int) (x:zW):Bool:=lV x.1 0 last&&lV x.2.1 0 1000&&lV x.2.2 0 50
def eu (h:bS):Bool:=
 decide (0<=h.last)&&lV h.size 0 20&&lV h.aZ 0 100&&decide (0<=h.die)&&lV h.ny h.die 500&&tZ h.start 500
def valid (h:bS):Bool:=
 eu h&&decide ((h.bJ.length:Int)=h.last+1)&&mf h.last h.turns&&h.bJ.all (tZ · 20)&&h.readings.all (yT h.last)
def dQ (r:dF):Int:=r.2-r.1+1
def rz (l:List dF):Int:=l.foldr (fun r n=>dQ r*n) 1
def tQ (h:bS):Int:=
 if 9<h.last∨5<h.readings.length then 3 else if valid h=false then 1 else if 2000<rz (h.start::h.bJ) then 3 else 0
def kH (aZ n:Int) (turned:Bool):Int:=if turned then n-n*aZ/100 else n
def UJ (size aZ:Int) (turns:List Int) (i:Nat) (n w:Int):Int:=kH aZ n (turns.contains (i:Int))+size*w/10
def oZ (size aZ:Int) (turns:List Int) (start:Int) (bJ:List Int):Nat->Int
 |0=>start
 |k+1=>UJ size aZ turns k (oZ size aZ turns start bJ k) (bJ.getD k 0)
def oz (size aZ:Int) (turns:List Int) (start:Int) (bJ:List Int) (n:Nat):List Int:=
 (List.range 10).map fun j=>if j<n then oZ size aZ turns start bJ (j+1) else 0
def jZ (h:bS) (t:Int×List Int) (turns:List Int):List Int:=oz h.size h.aZ turns t.1 t.2 t.2.length
def Aj (x:zW) (l:List Int):Bool:=lV (l.getD x.1.toNat 0-x.2.1) (-x.2.2) x.2.2
def qE (r:dF):List Int:=(List.range (dQ r).toNat).map fun(k:Nat)=>r.1+(k:Int)
def ed:List dF->List (List Int)
 |[]=>[[]]
 |r::rs=>(qE r).flatMap fun x=>(ed rs).map (x:: ·)
def Xr (last p:Int) (l:List Int) (k:Nat):Bool:=lV (l.getD k 0) ((p::l).getD k 0+1) last
theorem Fq (last:Int): ∀(l:List Int) (p:Int),wP last p l=(List.range l.length).all (Xr last p l):=by
 intro l;induction l with
 |nil=>intro p;rfl
 |cons n l ih=>
  intro p;rw[List.length_cons,List.range_succ_eq_map,List.all_cons,List.all_map,wP,ih n];congr 1
theorem Tp (last:Int) (h0:0<=last) (l:List Int): ∀k,(∀j,j<k->Xr last (-1) l j=true)->k<=l.length-> -1<=((-1:Int)::l).getD k 0/\((-1:Int)::l).getD k 0<=last:=by
 intro k;induction k with
 |zero=>intro _ _;simp;omega
 |succ k ih=>
  intro h hk;have h1:=h k ϑ;have h2:=ih (fun j hj=>h j ϑ) ϑ;simp only[Xr,lV,dU,dZ] at h1;rw[List.getD_cons_succ];omega
theorem iM {α:Type} (l:List α) (p:α->Bool):(if l.any (fun k=>!p k) then false else true)=l.all p:=by
 rw[List.all_eq_not_any_not];cases l.any (fun k=>!p k) <;>rfl
def pX (m:Int) (r:dF):Int:=min (m*dQ r) 2001
def rU (l:List dF) (k:Nat):Int:=(l.take k).foldl pX 1
theorem Ez (l:List dF) (k:Nat) (hk:k<l.length):rU l (k+1)=pX (rU l k) l[k]:=by
 unfold rU;rw[eG hk,List.foldl_append];rfl
theorem Km (l:List dF) (h: ∀r∈l,1<=dQ r):1<=rz l:=by
 induction l with
 |nil=>simp[rz]
 |cons r l ih=>
  have h1:=h r ϕ;have h2:=ih (fun x hx=>h x (by simp[hx]));show 1<=dQ r*rz l;have:=Int.mul_le_mul h1 h2 ϑ ϑ;omega
theorem Mc (l:List dF) (h: ∀r∈l,1<=dQ r): ∀m,1<=m->m<=2001->l.foldl pX m=min (m*rz l) 2001:=by
 induction l with
 |nil=>intro m h1 h2;simp[rz];omega
 |cons r l ih=>
  intro m h1 h2;have hr:=h r ϕ;have hp:=Km l (fun x hx=>h x (by simp[hx]));rw[List.foldl_cons];have hm:1<=m*dQ r:=by have:=Int.mul_le_mul h1 hr ϑ ϑ;omega
  rw[ih (fun x hx=>h x (by simp[hx])) _ (by unfold pX;omega) (by unfold pX;omega)];show min (pX m r*rz l) 2001=min (m*(dQ r*rz l)) 2001;rw[<-Int.mul_assoc];unfold pX;by_cases hc:m*dQ r<=2001
  ·rw[Int.min_eq_left hc]
  ·have h3:2001<=m*dQ r*rz l:=by have:=Int.mul_le_mul (show(2001:Int)<=m*dQ r by omega) hp ϑ ϑ;omega
   have h4:2001<=2001*rz l:=ϑ;rw[Int.min_eq_right (show 2001<=m*dQ r by omega)];omega
theorem Md (l:List dF) (h: ∀r∈l,1<=dQ r) (k:Nat):1<=rU l k/\rU l k<=2001:=by
 unfold rU;have ht: ∀r∈l.take k,1<=dQ r:=fun r hr=>h r (mi hr);rw[Mc _ ht 1 ϑ ϑ];have:=Km _ ht;omega
theorem Hm (l:List dF) (h: ∀r∈l,1<=dQ r):(2000<rU l l.length)↔2000<rz l:=by
 unfold rU;rw[List.take_length,Mc _ h 1 ϑ ϑ];omega
theorem vV {r:dF} {n:Int} (h:tZ r n=true):0<=r.1/\r.1<=r.2/\r.2<=n/\1<=dQ r/\dQ r<=n+1:=by
 simp only[tZ,dU,dZ] at h;unfold dQ;omega
theorem Hf {aZ n:Int} (hc0:0<=aZ) (hc1:aZ<=100) (hn:0<=n) (t:Bool):0<=kH aZ n t/\kH aZ n t<=n:=by
 unfold kH;cases t
 ·simp;omega
 ·simp only[if_true];have h1:0<=n*aZ:=Int.mul_nonneg hn hc0;have h2:n*aZ<=n*100:=Int.mul_le_mul_of_nonneg_left hc1 hn;omega
theorem GZ {size aZ:Int} (turns:List Int) {start:Int} (bJ:List Int) (hs0:0<=size) (hs1:size<=20) (hc0:0<=aZ) (hc1:aZ<=100) (h0:0<=start) (h1:start<=500) (hw: ∀x∈bJ,0<=x/\x<=20):
 ∀k:Nat,0<=oZ size aZ turns start bJ k/\oZ size aZ turns start bJ k<=500+40*k:=by
 intro k;induction k with
 |zero=>simp[oZ];omega
 |succ k ih=>
  have hb:=Hf hc0 hc1 ih.1 (turns.contains (k:Int));have hx:0<=bJ.getD k 0/\bJ.getD k 0<=20:=by
   by_cases hk:k<bJ.length
   ·rw[fK,dn hk];exact hw _ (bZ _)
   ·rw[fK,List.getElem?_eq_none ϑ];simp
  have h2:0<=size*bJ.getD k 0:=Int.mul_nonneg hs0 hx.1;have h3:size*bJ.getD k 0<=20*20:=Int.mul_le_mul hs1 hx.2 hx.1 ϑ;simp only[oZ,UJ];generalize bJ.getD k 0=x at*
  generalize size*x=y at*
  push_cast
  omega
theorem jK (size aZ:Int) (turns:List Int) (start:Int) (bJ:List Int) (n:Nat):(oz size aZ turns start bJ n).length=10:=by simp[oz]
theorem Ja (size aZ:Int) (turns:List Int) (start:Int) (bJ:List Int) (n:Nat) (_hn:n<10):
 oz size aZ turns start bJ (n+1)=(oz size aZ turns start bJ n).set n (oZ size aZ turns start bJ (n+1)):=by
 apply List.ext_getElem
 ·simp[oz]
 ·intro i h1 h2;have hi:i<10:=by simpa [oz] using h1
  simp only[oz,List.getElem_map,List.getElem_range,List.getElem_set];by_cases e:n=i
  ·subst e;simp
  ·rw[ak e];exact zb2
theorem K9 {h:bS} {t:Int×List Int} (turns:List Int) (hs0:0<=h.size) (hs1:h.size<=20) (hc0:0<=h.aZ) (hc1:h.aZ<=100) (h0:0<=t.1) (h1:t.1<=500) (hw: ∀x∈t.2,0<=x/\x<=20) (_hl:t.2.length<=10):
 ∀x∈jZ h t turns,0<=x/\x<=900:=by
 intro x hx;obtain⟨j,hj,rfl⟩:=gW.1 hx;have hj':j<10:=by simpa using hj
 split
 ·have:=GZ turns t.2 hs0 hs1 hc0 hc1 h0 h1 hw (j+1);omega
 ·omega
theorem Af {α:Type} {l:List α} (h:l.length=10): ∃a b c d e f g i j k,l=[a,b,c,d,e,f,g,i,j,k]:=by
 match l,h with
 |[a,b,c,d,e,f,g,i,j,k],_=>exact⟨a,b,c,d,e,f,g,i,j,k,rfl⟩
structure Sound (h:bS):Prop where
 GN:0<=h.last
 zb:h.last<=9
 J5:0<=h.size
 J4:h.size<=20
 LC:0<=h.aZ
 LB:h.aZ<=100
 apt:0<=h.die
 amC:h.die<=h.ny
 amB:h.ny<=500
 UN:0<=h.start.1
 UM:h.start.1<=h.start.2
 UK:h.start.2<=500
 Cv:(h.bJ.length:Int)=h.last+1
 turns:mf h.last h.turns=true
 bJ: ∀r∈h.bJ,0<=r.1/\r.1<=r.2/\r.2<=20
 rdg: ∀x∈h.readings,(0<=x.1/\x.1<=h.last)/\(0<=x.2.1/\x.2.1<=1000)/\0<=x.2.2/\x.2.2<=50
 aiB:h.readings.length<=5
 many:rz (h.start::h.bJ)<=2000
theorem CO {h:bS} (hf:tQ h=0):Sound h:=by
 unfold tQ at hf;split at hf
 ·omega
 ·split at hf
  ·omega
  ·split at hf
   ·omega
   ·rename_i h1 h2 h3;have h2':valid h=true:=by simpa using h2
    simp only[valid,eu,tZ,lV,dU,dZ,jh] at h2';obtain⟨⟨⟨⟨⟨⟨⟨⟨⟨a1,a2⟩,a3⟩,a4⟩,a5⟩,a6⟩,a7⟩,a8⟩,a9⟩,a10⟩:=h2';refine⟨a1,by omega,a2.1,a2.2,a3.1,a3.2,a4,a5.1,a5.2,a6.1.1,a6.1.2,a6.2,a7,a8,fun r hr=>?_,fun x hx=>?_,by omega,by omega⟩
    ·have:=a9 r hr;exact⟨this.1.1,this.1.2,this.2⟩
    ·have:=a10 x hx;simp only[yT,lV,dU,dZ] at this;exact⟨this.1.1,this.1.2,this.2⟩
theorem ZJ {α β:Type} (f:α->List β) (sz:Nat) (hf: ∀x,(f x).length=sz): ∀(l:List α) (k j:Nat) (hk:k<l.length),j<sz->(l.flatMap f)[k*sz+j]? =(f l[k])[j]? :=za1
theorem xH (r:dF):(qE r).length=(dQ r).toNat:=by simp[qE]
theorem Nt (r:dF) (c:Nat) (hc:c<(qE r).length):(qE r)[c]=r.1+(c:Int):=by simp[qE]
theorem yR (r:dF) (rs:List dF):(ed (r::rs)).length=(dQ r).toNat*(ed rs).length:=by
 rw[ed,List.length_flatMap];simp only[kJ,List.map_const',List.sum_replicate_nat];rw[xH]
theorem Rq (r:dF) (rs:List dF) (c j:Nat) (hc:c<(dQ r).toNat) (hj:j<(ed rs).length):
 (ed (r::rs))[c*(ed rs).length+j]? =some ((r.1+(c:Int))::(ed rs)[j]):=by
 rw[ed,ZJ _ (ed rs).length (fun x=>ϕ) (qE r) c j (by rw[xH];exact hc) hj,Nt];simp[hj]
theorem Rp: ∀(rs:List dF), ∀x∈ed rs,x.length=rs.length:=by
 intro rs;induction rs with
 |nil=>intro x hx;simp[ed] at hx;subst hx;rfl
 |cons r rs ih=>
  intro x hx;simp only[ed,nW,gW] at hx;obtain⟨y,_,z,hz,rfl⟩:=hx;simp[ih z hz]
def iO (R:List dF) (i k:Nat) (Ρ:List Int):Prop:= ∀j s,(ed (R.drop i))[j]? =some s->(ed R)[k+j]? =some (Ρ++s)
theorem iO.zero (R:List dF):iO R 0 0 []:=fun j s h=>by simpa using h
theorem iO.next {R:List dF} {i k:Nat} {Ρ:List Int} (h:iO R i k Ρ) (hi:i<R.length) (c:Nat) (hc:c<(dQ R[i]).toNat):
 iO R (i+1) (k+c*(ed (R.drop (i+1))).length) (Ρ++[R[i].1+(c:Int)]):=by
 intro j s hs;obtain⟨hj,rfl⟩:=iy.1 hs;have:=h (c*(ed (R.drop (i+1))).length+j) _ (by rw[su hi];exact Rq _ _ c j hc hj);rw[Nat.add_assoc,this];simp
theorem iO.count {R:List dF} {i:Nat} (hi:i<R.length):(ed (R.drop i)).length=(dQ R[i]).toNat*(ed (R.drop (i+1))).length:=by
 rw[su hi,yR]
theorem iO.last {R:List dF} {i k:Nat} {Ρ:List Int} (h:iO R i k Ρ) (hi:i=R.length):(ed (R.drop i)).length=1/\ ∃hk:k<(ed R).length,(ed R)[k]=Ρ:=by
 have e:R.drop i=[]:=List.drop_eq_nil_of_le ϑ;rw[e];have:=h 0 [] (by rw[e];rfl);simp only[Nat.add_zero,List.append_nil] at this;obtain⟨hk,hx⟩:=iy.1 this;exact⟨rfl,hk,hx⟩
def QY (l:List Int):Int×List Int:=(l.headD 0,l.tail)
def ND (h:bS) (out:List Int) (t:Int×List Int) (i:Nat):Bool:=out.contains (i:Int) ||Aj (h.readings.getD i (0,0,0)) (jZ h t h.turns)
def okT (h:bS) (out:List Int) (t:Int×List Int):Bool:=(List.range h.readings.length).all (ND h out t)
def pz (h:bS):List (List Int):=ed (h.start::h.bJ)
def dH (h:bS) (out:List Int):List (Int×List Int):=((pz h).filter fun l=>okT h out (QY l)).map QY
def cnt (h:bS) (out:List Int) (k:Nat):Nat:=(((pz h).take k).filter fun l=>okT h out (QY l)).length
theorem ZT (h:bS) (out:List Int):cnt h out (pz h).length=(dH h out).length:=by
 unfold cnt dH;rw[List.take_length,kJ]
theorem acL {h:bS} {out:List Int} {k:Nat} (hk:k<(pz h).length) (hp:okT h out (QY (pz h)[k])=false):cnt h out (k+1)=cnt h out k:=by
 unfold cnt;exact zbL
theorem ZR {h:bS} {out:List Int} {k:Nat} (hk:k<(pz h).length) (hp:okT h out (QY (pz h)[k])=true):cnt h out (k+1)=cnt h out k+1:=by
 unfold cnt;exact zbL
theorem AL {α β:Type} (p:α->Bool) (f:α->β): ∀(l:List α) (k:Nat) (hk:k<l.length),p l[k]=true->((l.filter p).map f)[((l.take k).filter p).length]? =some (f l[k]):=by
 intro l;induction l with
 |nil=>intro k hk;simp at hk
 |cons x l ih=>
  intro k hk hp;cases k with
  |zero=>
   have hp':p x=true:=hp;simp[hp']
  |succ k=>
   have:=ih k (by simpa using hk) hp;by_cases hx:p x=true
   ·simp only[List.filter_cons,hx,if_true,List.map_cons,List.take_succ_cons,List.length_cons,List.getElem?_cons_succ,List.getElem_cons_succ];exact this
   ·simp only[List.filter_cons,hx,if_false,List.take_succ_cons,List.getElem_cons_succ,Bool.false_eq_true];exact this
theorem M5 {h:bS} {out:List Int} {k:Nat} (hk:k<(pz h).length) (hp:okT h out (QY (pz h)[k])=true):
 ∃hc:cnt h out k<(dH h out).length,(dH h out)[cnt h out k]=QY (pz h)[k]:=by
 have:=AL (fun l=>okT h out (QY l)) QY (pz h) k hk hp;obtain⟨hc,hx⟩:=iy.1 this;exact⟨hc,hx⟩
theorem Aq: ∀(rs:List dF) (x:List Int),x∈ed rs->x.length=rs.length/\ ∀i,i<rs.length->(rs.getD i (0,0)).1<=x.getD i 0/\x.getD i 0<=(rs.getD i (0,0)).2:=by
 intro rs;induction rs with
 |nil=>intro x hx;simp[ed] at hx;subst hx;exact⟨rfl,fun i hi=>by simp at hi⟩
 |cons r rs ih=>
  intro x hx;simp only[ed,nW,gW] at hx;obtain⟨y,hy,z,hz,rfl⟩:=hx;obtain⟨h1,h2⟩:=ih z hz;refine⟨by simp[h1],fun i hi=>?_⟩;cases i with
  |zero=>
   obtain⟨c,hc,rfl⟩:=gW.1 hy;have:c<(dQ r).toNat:=by simpa using hc
   unfold dQ at this;simp;omega
  |succ i=>simpa using h2 i (by simpa using hi)
theorem Dm {h:bS} (hS:Sound h) {x:List Int} (hx:x∈pz h): ∃s rest,x=s::rest/\rest.length=h.bJ.length/\(0<=s/\s<=500)/\ ∀y∈rest,0<=y/\y<=20:=by
 obtain⟨hl,hb⟩:=Aq _ _ hx;cases x with
 |nil=>simp at hl
 |cons s rest=>
  have h0:=hb 0 ϕ;simp at h0;have:=hS.UN;have:=hS.UK;refine⟨s,rest,rfl,by simpa using hl,by omega,fun y hy=>?_⟩;obtain⟨i,hi,rfl⟩:=lK hy;have hi':i<h.bJ.length:=by simp at hl;omega
  have h1:=hb (i+1) (by simpa using hi');simp only[List.getD_cons_succ] at h1;rw[show rest.getD i 0=rest[i] from by simp[hi],show h.bJ.getD i (0,0)=h.bJ[i] from by simp[hi']] at h1
  have:=hS.bJ _ (bZ hi');omega
def iQ (below:Nat):Nat->Nat->List (List Int)
 |0,_=>[[]]
 |m+1,f=>(List.range (below-m-f)).flatMap fun j=>(iQ below m (f+j+1)).map fun x=>((f+j:Nat):Int)::x
def lG (below:Nat) (p:List Int->Bool):Option (List Int):=((List.range (below+1)).flatMap fun m=>iQ below m 0).find? p
theorem pq {α β:Type} (p:β->Bool) (f:α->List β): ∀(l:List α) (k:Nat) (hk:k<l.length) (c:β),(∀j (hj:j<k),(f (l[j]' ϑ)).find? p=none)->(f l[k]).find? p=some c->(l.flatMap f).find? p=some c:=by
 intro l;induction l with
 |nil=>intro k hk;simp at hk
 |cons x l ih=>
  intro k hk c h1 h2;rw[List.flatMap_cons,List.find?_append];cases k with
  |zero=>
   have h2':(f x).find? p=some c:=h2;rw[h2'];rfl
  |succ k=>
   have h0:(f x).find? p=none:=h1 0 ϑ;rw[h0];exact ih k (by simpa using hk) c (fun j hj=>h1 (j+1) ϑ) h2
theorem qO {α β:Type} (p:β->Bool) (f:α->List β) (l:List α) (h: ∀j (hj:j<l.length),(f l[j]).find? p=none):(l.flatMap f).find? p=none:=by
 rw[List.find?_eq_none];intro x hx;obtain⟨y,hy,hxy⟩:=nW.1 hx;obtain⟨j,hj,rfl⟩:=lK hy;have:=h j hj;rw[List.find?_eq_none] at this;exact this x hxy
def MO (below:Nat):Nat->List Int->Prop
 |_,[]=>True
 |f,a::x=> ∃n:Nat,a=n/\f<=n/\n<below/\MO below (n+1) x
theorem MO.len {below:Nat}: ∀(x:List Int) (f:Nat),MO below f x->x.length<=below-f:=by
 intro x;induction x with
 |nil=>intro f _;simp
 |cons a x ih=>
  rintro f ⟨n,_,h1,h2,h3⟩;have:=ih _ h3;simp only[List.length_cons];omega
theorem qf {below:Nat}: ∀(m f:Nat) (x:List Int),x∈iQ below m f↔x.length=m/\MO below f x:=by
 intro m;induction m with
 |zero=>
  intro f x;simp only[iQ,dX];constructor
  ·rintro rfl;exact⟨rfl,trivial⟩
  ·rintro⟨h,_⟩;exact jl h
 |succ m ih=>
  intro f x;simp only[iQ,nW,jQ,gW];constructor
  ·rintro⟨j,hj,y,hy,rfl⟩;obtain⟨h1,h2⟩:=(ih _ _).1 hy;exact⟨by simp[h1],f+j,rfl,by omega,by omega,h2⟩
  ·rintro⟨hl,hi⟩;cases x with
   |nil=>simp at hl
   |cons a x=>
    obtain⟨n,rfl,h1,h2,h3⟩:=hi;have:=h3.len;simp only[List.length_cons] at hl;refine⟨n-f,by omega,x,(ih _ _).2 ⟨by omega,?_⟩,?_⟩
    ·rw[show f+(n-f)+1=n+1 by omega];exact h3
    ·rw[show f+(n-f)=n by omega]
def before:List Int->List Int->Bool
 |[],b=>!b.isEmpty
 |_::_,[]=>false
 |x::a,y::b=>if x=y then before a b else decide (x<y)
def lZ (a b:List Int):Bool:=decide (a.length<b.length) ||(decide (a.length=b.length)&&before a b)
theorem before_irrefl: ∀a,before a a=false:=by
 intro a;induction a with
 |nil=>rfl
 |cons x a ih=>simp[before,ih]
theorem Jt: ∀a b,before a b=true->before b a=false:=by
 intro a;induction a with
 |nil=>intro b h;cases b <;>simp[before] at h⊢
 |cons x a ih=>
  intro b h;cases b with
  |nil=>simp[before] at h
  |cons y b=>
   simp only[before] at h⊢;by_cases e:x=y
   ·subst e;simp only[if_true] at h⊢;exact ih _ h
   ·rw[ak e] at h;rw[ak (fun e'=>e e'.symm)];simp only[dZ,decide_eq_false_iff_not] at h⊢;omega
theorem CP (a:List Int):lZ a a=false:=by simp[lZ,before_irrefl]
theorem Fz {a b:List Int} (h:lZ a b=true):lZ b a=false:=by
 simp only[lZ,Bool.or_eq_true,dU,dZ,Bool.or_eq_false_iff,Bool.and_eq_false_iff,decide_eq_false_iff_not] at h⊢;rcases h with h|⟨h,hb⟩
 ·exact⟨by omega,.inl ϑ⟩
 ·exact⟨by omega,.inr (Jt _ _ hb)⟩
theorem Ow {α:Type} (R:α->α->Prop) (p:α->Bool): ∀(l:List α),l.Pairwise R-> ∀c,l.find? p=some c->p c=true/\c∈l/\ ∀x∈l,p x=true->x=c∨R c x:=by
 intro l;induction l with
 |nil=>intro _ c h;simp at h
 |cons y l ih=>
  intro hp c h;rw[List.pairwise_cons] at hp;rw[List.find?_cons] at h;cases hy:p y with
  |true=>
   rw[hy] at h;cases h;refine⟨hy,by simp,fun x hx _=>?_⟩;rcases eQ.1 hx with rfl|hx
   ·exact .inl rfl
   ·exact .inr (hp.1 _ hx)
  |false=>
   rw[hy] at h;obtain⟨h1,h2,h3⟩:=ih hp.2 c h;refine⟨h1,by simp[h2],fun x hx hpx=>?_⟩;rcases eQ.1 hx with rfl|hx
   ·rw[hy] at hpx;cases hpx
   ·exact h3 x hx hpx
theorem rY {α β:Type} (R:β->β->Prop) (f:α->List β): ∀(l:List α),(∀x∈l,(f x).Pairwise R)->l.Pairwise (fun x y=> ∀a∈f x, ∀b∈f y,R a b)->(l.flatMap f).Pairwise R:=by
 intro l;induction l with
 |nil=>intro _ _;simp
 |cons x l ih=>
  intro h1 h2;rw[List.pairwise_cons] at h2;rw[List.flatMap_cons,List.pairwise_append];refine⟨h1 x ϕ,ih (fun y hy=>h1 y (by simp[hy])) h2.2,fun a ha b hb=>?_⟩;obtain⟨y,hy,hby⟩:=nW.1 hb;exact h2.1 y hy a ha b hby
theorem Jk (below:Nat): ∀(m f:Nat),(iQ below m f).Pairwise fun a b=>before a b=true:=by
 intro m;induction m with
 |zero=>intro f;simp[iQ]
 |succ m ih=>
  intro f;unfold iQ;refine rY _ _ _ (fun j _=>?_) ?_
  ·rw[List.pairwise_map];exact(ih (f+j+1)).imp fun h=>by simpa [before] using h
  ·refine List.pairwise_lt_range.imp fun {i j} hij=>?_;intro a ha b hb;obtain⟨x,_,rfl⟩:=gW.1 ha;obtain⟨y,_,rfl⟩:=gW.1 hb;simp only[before];rw[ak ϑ];simp;omega
theorem BQ (below:Nat):((List.range (below+1)).flatMap fun m=>iQ below m 0).Pairwise fun a b=>lZ a b=true:=by
 refine rY _ _ _ (fun m _=>?_) ?_
 ·refine List.Pairwise.imp_of_mem ?_ (Jk below m 0);intro a b ha hb h;simp[lZ,((qf _ _ _).1 ha).1,((qf _ _ _).1 hb).1,h]
 ·refine List.pairwise_lt_range.imp fun {i j} hij=>?_;intro a ha b hb;simp[lZ,((qf _ _ _).1 ha).1,((qf _ _ _).1 hb).1,hij]
theorem uz (below:Nat) (x:List Int):x∈((List.range (below+1)).flatMap fun m=>iQ below m 0)↔MO below 0 x:=by
 rw[nW];constructor
 ·rintro⟨m,_,h⟩;exact((qf _ _ _).1 h).2
 ·intro h;have:=h.len;exact⟨x.length,by simp;omega,(qf _ _ _).2 ⟨rfl,h⟩⟩
theorem J7 {below:Nat} {p:List Int->Bool} {c:List Int} (h:lG below p=some c):p c=true/\MO below 0 c/\ ∀x,MO below 0 x->p x=true->lZ x c=false:=by
 obtain⟨h1,h2,h3⟩:=Ow _ p _ (BQ below) c h;refine⟨h1,(uz _ _).1 h2,fun x hx hp=>?_⟩;rcases h3 x ((uz _ _).2 hx) hp with rfl|hr
 ·exact CP _
 ·exact Fz hr
theorem J8 {below:Nat} {p:List Int->Bool} (h:lG below p=none): ∀x,MO below 0 x->p x=false:=by
 intro x hx;unfold lG at h;rw[List.find?_eq_none] at h;simpa using h x ((uz _ _).2 hx)
def kg (acc:List (List Int)) (x:List Int):List (List Int):=if acc.getLast? =some x then acc else acc++[x]
def iL (h:bS) (turns:List Int):List (List Int):=(dH h []).foldl (fun acc t=>kg acc (jZ h t turns)) []
def iC (h:bS) (turns:List Int) (k:Nat):List (List Int):=((dH h []).take k).foldl (fun acc t=>kg acc (jZ h t turns)) []
theorem zA {h:bS} {turns:List Int} {k:Nat} (hk:k<(dH h []).length):iC h turns (k+1)=kg (iC h turns k) (jZ h (dH h [])[k] turns):=by
 unfold iC;rw[eG hk,List.foldl_append];rfl
theorem wD (h:bS) (turns:List Int):iC h turns (dH h []).length=iL h turns:=by unfold iC;rw[List.take_length];rfl
theorem RI (acc:List (List Int)) (x y:List Int):y∈kg acc x↔y∈acc∨y=x:=by
 unfold kg;split
 ·rename_i h;constructor
  ·exact .inl
  ·rintro(h1|rfl)
   ·exact h1
   ·exact List.mem_of_getLast? h
 ·simp
theorem yY {α:Type} (f:α->List Int): ∀(l:List α) (acc:List (List Int)) (y:List Int),y∈l.foldl (fun acc t=>kg acc (f t)) acc↔y∈acc∨ ∃t∈l,y=f t:=by
 intro l;induction l with
 |nil=>intro acc y;simp
 |cons a l ih=>
  intro acc y;rw[List.foldl_cons,ih,RI];simp only[eQ,exists_eq_or_imp,or_assoc]
theorem Dh (h:bS) (turns:List Int) (y:List Int):y∈iL h turns↔ ∃t∈dH h [],y=jZ h t turns:=by
 unfold iL;rw[yY];simp
theorem KA {h:bS} {turns:List Int} {k:Nat} {y:List Int} (hy:y∈iC h turns k): ∃t∈dH h [],y=jZ h t turns:=by
 unfold iC at hy;rw[yY] at hy;simp only[List.not_mem_nil,false_or] at hy;obtain⟨t,ht,rfl⟩:=hy;exact⟨t,mi ht,rfl⟩
theorem BG {h:bS} {turns:List Int} {k:Nat}: ∀y∈iC h turns k,y.length=10:=by
 intro y hy;obtain⟨t,_,rfl⟩:=KA hy;exact jK _ _ _ _ _ _
theorem Ep {h:bS} {turns:List Int}: ∀y∈iL h turns,y.length=10:=by
 rw[<-wD];exact BG
theorem Gh (acc:List (List Int)) (x:List Int):(kg acc x).length<=acc.length+1:=by
 unfold kg;split <;>simp
theorem BH (h:bS) (turns:List Int): ∀k,(iC h turns k).length<=k:=by
 intro k;induction k with
 |zero=>simp[iC]
 |succ k ih=>
  by_cases hk:k<(dH h []).length
  ·rw[zA hk];have:=Gh (iC h turns k) (jZ h (dH h [])[k] turns);omega
  ·have e:iC h turns (k+1)=iC h turns k:=by
    unfold iC;rw[ji ϑ,ji ϑ]
   rw[e];omega
theorem OA (h:bS) (turns:List Int):(iL h turns).length<=(dH h []).length:=by
 rw[<-wD];exact BH _ _ _
theorem Oz {h:bS} {turns:List Int} (hn:dH h []≠[]):iL h turns≠[]:=by
 intro he;obtain⟨t,ht⟩:=List.exists_mem_of_ne_nil _ hn;have:=(Dh h turns (jZ h t turns)).2 ⟨t,ht,rfl⟩;rw[he] at this;cases this
theorem vS (rs:List dF) (hr: ∀r∈rs,1<=dQ r):((ed rs).length:Int)=rz rs:=by
 induction rs with
 |nil=>rfl
 |cons r rs ih=>
  rw[yR];have h1:=hr r ϕ;have ih':=ih (fun x hx=>hr x (by simp[hx]));show(((dQ r).toNat*(ed rs).length:Nat):Int)=dQ r*rz rs;rw[Int.natCast_mul,ih',Int.toNat_of_nonneg ϑ]
theorem vL {h:bS} (hS:Sound h) (out:List Int):(dH h out).length<=2000:=by
 have h1:(dH h out).length<=(pz h).length:=by unfold dH;rw[kJ];exact List.length_filter_le _ _
 have h2:=vS (h.start::h.bJ) (fun r hr=>by
  rcases eQ.1 hr with rfl|hr
  ·have:=hS.UM;unfold dQ;omega
  ·have:=hS.bJ r hr;unfold dQ;omega)
 have h3:=hS.many;unfold pz at h1;omega
def wid (r:dF) (x:Int):dF:=(min r.1 x,max r.2 x)
def dV (n k:Nat) (R:List dF) (l:List Int) (i:Nat):List dF:=
 if k=0 then(List.range i).map fun j=>(l.getD j 0,l.getD j 0) else(List.range n).map fun j=>if j<i then wid (R.getD j (0,0)) (l.getD j 0) else R.getD j (0,0)
def bB (n:Nat) (ls:List (List Int)):Nat->List dF
 |0=>[]
 |k+1=>dV n k (bB n ls k) (ls.getD k []) n
def pY (n:Nat) (ls:List (List Int)):List dF:=bB n ls ls.length
theorem qF (n:Nat) (R:List dF) (l:List Int) (i:Nat):(dV n 0 R l i).length=i:=by simp[dV]
theorem sU (n k:Nat) (R:List dF) (l:List Int) (i:Nat) (hk:k≠0):(dV n k R l i).length=n:=by simp[dV,hk]
theorem nz (n:Nat) (ls:List (List Int)) (k:Nat) (hk:k≠0):(bB n ls k).length=n:=by
 cases k with
 |zero=>exact absurd rfl hk
 |succ k=>
  unfold bB;by_cases h:k=0
  ·subst h;exact qF _ _ _ _
  ·exact sU _ _ _ _ _ h
theorem Nz {n k:Nat} {R:List dF} {l:List Int} (hR:k≠0->R.length=n) (h0:k=0->R=[]):dV n k R l 0=R:=by
 unfold dV;split
 ·rename_i h;rw[h0 h];rfl
 ·rename_i h;apply List.ext_getElem
  ·simp[hR h]
  ·intro i h1 h2;simp[List.getD,h2]
theorem Ru {n:Nat} {R:List dF} {l:List Int} {i:Nat}:dV n 0 R l i++[(l.getD i 0,l.getD i 0)]=dV n 0 R l (i+1):=by
 simp[dV,List.range_succ]
theorem NA {n:Nat} {R:List dF} {l:List Int} {i:Nat}:(dV n 0 R l (i+1)).set i (wid ((dV n 0 R l (i+1)).getD i (0,0)) (l.getD i 0))=dV n 0 R l (i+1):=by
 apply List.ext_getElem
 ·simp
 ·intro j h1 h2;rw[List.getElem_set];split
  ·rename_i h;subst h;simp[dV,wid,List.getD]
  ·rfl
theorem Rt {j k:Nat} {R:List dF} {l:List Int} {n:Nat} (hk:k≠0) (hi:n<j):(dV j k R l n).set n (wid ((dV j k R l n).getD n (0,0)) (l.getD n 0))=dV j k R l (n+1):=by
 apply List.ext_getElem
 ·simp[dV,hk]
 ·intro i h1 h2;have hj:i<j:=by simpa [dV,hk] using h2
  rw[List.getElem_set];split
  ·rename_i h3;subst h3;simp[dV,hk,hi]
  ·rename_i h3;simp only[dV,hk,if_false,List.getElem_map,List.getElem_range];exact zb2
def upto (n:Nat):List Int:=(List.range n).map fun(i:Nat)=>(i:Int)
theorem Sc: ∀(n f below:Nat),f+n<=below->MO below f ((List.range' f n).map fun(i:Nat)=>(i:Int)):=by
 intro n;induction n with
 |zero=>intro f below _;trivial
 |succ n ih=>
  intro f below h;rw[List.range'_succ,List.map_cons];exact⟨f,rfl,ah _,by omega,ih (f+1) below ϑ⟩
end gK
end
section
namespace gK
theorem NL {r:dF} {x:Int}:x∈qE r↔r.1<=x/\x<=r.2:=by
 unfold qE dQ;rw[gW];constructor
 ·rintro⟨k,hk,rfl⟩;have:=jQ.1 hk;omega
 ·rintro⟨h1,h2⟩;exact⟨(x-r.1).toNat,jQ.2 ϑ,by omega⟩
end gK
namespace gK
theorem IZ {below:Nat}: ∀(l:List Int) (f:Nat),MO below f l↔l.Pairwise (· < ·)/\ ∀x∈l,(f:Int)<=x/\x<below:=by
 intro l;induction l with
 |nil=>intro f;simp[MO]
 |cons x l ih=>
  intro f;unfold MO;rw[List.pairwise_cons];constructor
  ·rintro⟨n,rfl,h1,h2,h3⟩;obtain⟨h4,h5⟩:=(ih _).1 h3;refine⟨⟨fun y hy=>by have:=h5 y hy;omega,h4⟩,fun y hy=>?_⟩;rcases eQ.1 hy with rfl|hy
   ·omega
   ·have:=h5 y hy;omega
  ·rintro⟨⟨h1,h2⟩,h3⟩;have hx:=h3 x ϕ;refine⟨x.toNat,by omega,by omega,by omega,(ih _).2 ⟨h2,fun y hy=>⟨?_,(h3 y (by simp[hy])).2⟩⟩⟩;have:=h1 y hy;omega
end gK
namespace gK
end gK
end
section
namespace Go.Proofs.Z
open gK
abbrev FZ:=Int×Int×Int×dF
structure bL where
 rows:Int
 aJ:Int
 left:dF
 aj:List FZ
def mZ (f:bL) (t:FZ):Bool:=lV t.1 0 (f.aJ-1)&&lV t.2.1 0 (f.rows-1)&&lV t.2.2.1 0 (f.rows-1)&&decide (t.2.1<=t.2.2.1)&&tZ t.2.2.2 f.rows
def iZ (f:bL):Int:=
 if 7<f.rows∨3<f.aJ∨5<f.aj.length then 3
 else if f.rows<1∨f.aJ<1∨tZ f.left f.rows=false∨f.aj.all (mZ f)=false then 1
 else if 2500<(f.aJ+1)^f.rows.toNat then 3 else 0
structure pG (f:bL):Prop where
 xG:1<=f.rows
 oG:f.rows<=7
 xD:1<=f.aJ
 uU:f.aJ<=3
 Ag:f.aj.length<=5
 left:0<=f.left.1/\f.left.1<=f.left.2/\f.left.2<=f.rows
 sG: ∀t∈f.aj,(0<=t.1/\t.1<f.aJ)/\(0<=t.2.1/\t.2.1<=t.2.2.1/\t.2.2.1<f.rows)/\(0<=t.2.2.2.1/\t.2.2.2.1<=t.2.2.2.2/\t.2.2.2.2<=f.rows)
 many:(f.aJ+1)^f.rows.toNat<=2500
theorem gu {f:bL} (hf:iZ f=0):pG f:=by
 unfold iZ at hf;split at hf
 ·omega
 ·rename_i h1;split at hf
  ·omega
  ·rename_i h2;split at hf
   ·omega
   ·rename_i h3;simp only[not_or] at h1 h2;obtain⟨a1,a2,a3⟩:=h1;obtain⟨b1,b2,b3,b4⟩:=h2;have b3':tZ f.left f.rows=true:=by simpa using b3
    have b4':f.aj.all (mZ f)=true:=by simpa using b4
    rw[jh] at b4';simp only[tZ,dU,dZ] at b3';refine⟨by omega,by omega,by omega,by omega,by omega,⟨by omega,by omega,by omega⟩,fun t ht=>?_,by omega⟩;have:=b4' t ht;simp only[mZ,lV,tZ,dU,dZ] at this;omega
def xy (l:List Int) (who:Int) (a n:Nat):Int:=((List.range' a n).countP fun i=>l.getD i 0==who:Nat)
def Eu (l:List Int) (who lo hi:Int):Int:=xy l who lo.toNat (hi+1-lo).toNat
def xS (l:List Int) (t:FZ):Bool:=lV (Eu l t.1 t.2.1 t.2.2.1) t.2.2.2.1 t.2.2.2.2
def il (f:bL) (out:List Int) (l:List Int):Bool:=
 ((List.range f.aj.length).all fun i=>out.contains (i:Int) ||xS l (f.aj.getD i (0,0,0,(0,0))))&&lV (Eu l (-1) 0 (f.rows-1)) f.left.1 f.left.2
def dY (f:bL):List dF:=List.replicate f.rows.toNat (-1,f.aJ-1)
def nU (f:bL):List (List Int):=ed (dY f)
def bN (f:bL) (out:List Int):List (List Int):=(nU f).filter (il f out)
theorem Ns {f:bL} (hS:pG f): ∀r∈dY f,1<=dQ r:=fun r hr=>by
 obtain rfl:=List.eq_of_mem_replicate hr;have:=hS.xD;unfold dQ;simp only;omega
theorem Ro: ∀(rs:List dF) (x:List Int),x.length=rs.length->(∀i,i<rs.length->(rs.getD i (0,0)).1<=x.getD i 0/\x.getD i 0<=(rs.getD i (0,0)).2)->x∈ed rs:=by
 intro rs;induction rs with
 |nil=>intro x hx _;obtain rfl:=jl hx;simp[ed]
 |cons r rs ih=>
  intro x hx hb;cases x with
  |nil=>simp at hx
  |cons a x=>
   have h0:=hb 0 ϕ;simp only[ed,nW,gW];exact⟨a,NL.2 (by simpa using h0),x,ih x (by simpa using hx) (fun i hi=>by simpa using hb (i+1) (by simpa using hi)),rfl⟩
theorem Di {f:bL} {l:List Int}:l∈nU f↔l.length=f.rows.toNat/\ ∀i,i<f.rows.toNat-> -1<=l.getD i 0/\l.getD i 0<=f.aJ-1:=by
 have hg: ∀i,i<f.rows.toNat->(dY f).getD i (0,0)=(-1,f.aJ-1):=fun i hi=>by
  unfold dY;rw[fK,List.getElem?_replicate,aG hi];rfl
 have hl:(dY f).length=f.rows.toNat:=by unfold dY;simp
 unfold nU;constructor
 ·intro hm;obtain⟨h1,h2⟩:=Aq _ _ hm;rw[hl] at h1 h2;refine⟨h1,fun i hi=>?_⟩;have:=h2 i hi;rw[hg i hi] at this;exact this
 ·rintro⟨h1,h2⟩;refine Ro _ _ (by rw[hl];exact h1) fun i hi=>?_;rw[hl] at hi;rw[hg i hi];exact h2 i hi
theorem IE (f:bL):rz (dY f)=(f.aJ+1)^f.rows.toNat:=by
 unfold dY;induction f.rows.toNat with
 |zero=>simp[rz]
 |succ k ih=>
  rw[List.replicate_succ];show dQ (-1,f.aJ-1)*rz (List.replicate k (-1,f.aJ-1))=_;rw[ih,Int.pow_succ,Int.mul_comm];congr 1;unfold dQ;simp only;omega
end Go.Proofs.Z
namespace Go.Proofs.Z
open gK
def Ni (rows:List Int) (a b:List Int):Bool:=rows.all fun r=>a.getD r.toNat 0==b.getD r.toNat 0
def kL (f:bL) (a:List Int) (who:Int):Int:=Eu a who 0 (f.rows-1)
def J9 (f:bL) (w:Int) (rows:List Int):Bool:=(bN f []).all fun a=>(bN f []).all fun b=>!Ni rows a b ||kL f a w==kL f b w
theorem Yz {f:bL} {w:Int} {rows:List Int}:J9 f w rows=true↔ ∀a∈bN f [], ∀b∈bN f [],Ni rows a b=true->kL f a w=kL f b w:=by
 unfold J9;simp only[jh,Bool.or_eq_true,Bool.not_eq_true',beq_iff_eq];constructor
 ·intro h a ha b hb hs;rcases h a ha b hb with h1|h1
  ·rw[hs] at h1;cases h1
  ·exact h1
 ·intro h a ha b hb;cases hs:Ni rows a b
  ·exact .inl rfl
  ·exact .inr (h a ha b hb hs)
theorem Bf {f:bL} {out a:List Int} (h:a∈bN f out):a∈nU f/\il f out a=true:=List.mem_filter.1 h
theorem mF {f:bL} {out a:List Int} (h:a∈bN f out):a.length=f.rows.toNat:=(Di.1 (Bf h).1).1
theorem VF (n:Nat):MO n 0 (upto n):=by
 have:=Sc n 0 n ϑ;unfold upto;rw[<-List.range_eq_range'] at this;exact this
theorem yZ {a b:List Int} (h:lZ a b=false):b.length<=a.length:=by
 unfold lZ at h;simp only[Bool.or_eq_false_iff,decide_eq_false_iff_not] at h;omega
end Go.Proofs.Z
namespace Go.Proofs.Z
open gK
structure aO where
 field:bL
 rate:Int
 box:dF
 notes:List (Int×dF)
def qU (r x:dF):dF:=(max r.1 x.1,min r.2 x.2)
def ni (l:aO) (out:List Int) (i:Nat) (due:Int):dF:=
 ((List.range l.notes.length).filter fun(k:Nat)=>!out.contains (k:Int)&&(l.notes.getD k (0,(0,0))).1==(i:Int)).foldl (fun r k=>qU r (l.notes.getD k (0,(0,0))).2) (0,due)
def xm (l:List Int):Int:=l.foldr (· + ·) 0
theorem sN (x:Int) (l:List Int):xm (x::l)=x+xm l:=rfl
def nA (l:aO) (out:List Int) (AR:List Int):List dF:=(List.range l.field.aJ.toNat).map fun i=>ni l out i (AR.getD i 0)
def FK (l:aO) (out AR:List Int):Int:=xm ((nA l out AR).map (·.1))
def xI (l:aO) (out AR:List Int):Int:=xm ((nA l out AR).map (·.2))
def iI (l:aO) (out AR:List Int):Bool:=(nA l out AR).all (fun r=>decide (r.1<=r.2))&&decide (FK l out AR<=l.box.2)&&decide (l.box.1<=xI l out AR)
def jB (l:aO) (out AR:List Int):List dF:=
 (nA l out AR).map fun r=>qU r (l.box.1-(xI l out AR-r.2),l.box.2-(FK l out AR-r.1))
end Go.Proofs.Z
namespace Go.Proofs.Z
open gK
def ku (rate:Int) (rows:List Int):List Int:=(List.range 3).map fun(i:Nat)=>rate*(rows.count (i:Int):Int)
theorem jN (rate:Int) (rows:List Int):(ku rate rows).length=3:=by simp[ku]
theorem qi (rate:Int) (rows:List Int) {i:Nat} (hi:i<3):(ku rate rows).getD i 0=rate*(rows.count (i:Int):Int):=by
 unfold ku;rw[fK,nX,List.getElem?_range hi];rfl
theorem agz {a b:List Int} (ha:a.length=3) (hb:b.length=3) (h: ∀i,i<3->a.getD i 0=b.getD i 0):a=b:=by
 refine List.ext_getElem ϑ fun i h1 h2=>?_;have:=h i ϑ;simpa [List.getD,h1,h2] using this
theorem SK (rate:Int):ku rate []=[0,0,0]:=by simp[ku,List.range_succ]
theorem OC (rate:Int) (rs:List Int) (n:Nat) (hn:n<3):(ku rate rs).set n ((ku rate rs).getD n 0+rate)=ku rate (rs++[(n:Int)]):=by
 refine agz (by simp[jN]) (jN _ _) fun i hi=>?_;rw[qi _ _ hi,List.count_append];by_cases e:n=i
 ·subst e;rw[List.getD_eq_getElem?_getD,List.getElem?_set_self (by rw[jN];omega),Option.getD_some,qi _ _ hn];simp[Int.mul_add]
 ·rw[List.getD_eq_getElem?_getD,List.getElem?_set_ne e, <-List.getD_eq_getElem?_getD,qi _ _ hi];have:List.count (i:Int) [(n:Int)]=0:=by
   rw[List.count_eq_zero];simp;omega
  rw[this,Nat.add_zero]
theorem OD (rate:Int) (rs:List Int) (x:Int) (hx:x<0):ku rate (rs++[x])=ku rate rs:=by
 refine agz (jN _ _) (jN _ _) fun i hi=>?_;rw[qi _ _ hi,qi _ _ hi,List.count_append];have:List.count (i:Int) [x]=0:=by
  rw[List.count_eq_zero];simp;omega
 rw[this,Nat.add_zero]
theorem Er {rate:Int} (h0:0<=rate) (h1:rate<=50) (rs:List Int) (hl:rs.length<=7) (i:Nat) (hi:i<3):0<=(ku rate rs).getD i 0/\(ku rate rs).getD i 0<=350:=by
 rw[qi _ _ hi];have hc:(List.count (i:Int) rs:Int)<=7:=by
  have:=List.count_le_length (a:=(i:Int)) (l:=rs);omega
 have hc0:(0:Int)<=(List.count (i:Int) rs:Int):=ϑ;refine⟨Int.mul_nonneg h0 hc0,?_⟩;calc rate*(List.count (i:Int) rs:Int)<=50*7:=Int.mul_le_mul h1 hc hc0 ϑ
  _=350:=rfl
end Go.Proofs.Z
namespace Go.Proofs.Z
open gK
def j4 (l:aO) (out:List Int) (k:Nat):List (Int×dF):=((List.range k).filter fun(i:Nat)=>!out.contains (i:Int)).map fun i=>l.notes.getD i (0,(0,0))
def Bt (l:aO) (out:List Int):List (Int×dF):=j4 l out l.notes.length
theorem NT {l:aO} {out:List Int} {k:Nat} (h:out.contains (k:Int)=false):j4 l out (k+1)=j4 l out k++[l.notes.getD k (0,(0,0))]:=by
 unfold j4;rw[List.range_succ,List.filter_append,List.map_append];congr 1;rw[List.filter_cons_of_pos (by rw[h];rfl)];rfl
theorem RZ {l:aO} {out:List Int} {k:Nat} (h:out.contains (k:Int)=true):j4 l out (k+1)=j4 l out k:=by
 unfold j4;rw[List.range_succ,List.filter_append,List.map_append,List.filter_cons_of_neg (by rw[h];simp)];simp
theorem Dp (l:aO) (out:List Int) (k:Nat):(j4 l out k).length<=k:=by
 unfold j4;rw[kJ];have:=List.length_filter_le (fun(i:Nat)=>!out.contains (i:Int)) (List.range k);simpa using this
def ve (ns:List (Int×dF)) (key:Int×Int) (k:Nat):dF:=(ns.take k).foldl (fun r n=>if n.1=key.1 then qU r n.2 else r) (0,key.2)
def kn (ns:List (Int×dF)) (key:Int×Int):dF:=ve ns key ns.length
theorem GU {ns:List (Int×dF)} {key:Int×Int} {k:Nat} (hk:k<ns.length):ve ns key (k+1)=if ns[k].1=key.1 then qU (ve ns key k) ns[k].2 else ve ns key k:=by
 unfold ve;rw[eG hk,List.foldl_append];rfl
theorem KP (l:aO) (out:List Int) (i:Nat) (due:Int):kn (Bt l out) ((i:Int),due)=ni l out i due:=by
 unfold kn ve ni Bt j4;rw[List.take_length,List.foldl_map];generalize List.range l.notes.length=ks;have: ∀(ks:List Nat) (r:dF),(ks.filter fun(k:Nat)=>!out.contains (k:Int)).foldl (fun r k=>if(l.notes.getD k (0,(0,0))).1=(i:Int) then qU r (l.notes.getD k (0,(0,0))).2 else r) r=
  (ks.filter fun(k:Nat)=>!out.contains (k:Int)&&(l.notes.getD k (0,(0,0))).1==(i:Int)).foldl (fun r k=>qU r (l.notes.getD k (0,(0,0))).2) r:=by
  intro ks;induction ks with
  |nil=>intro r;rfl
  |cons k ks ih=>
   intro r;cases hc:out.contains (k:Int)
   ·by_cases hn:(l.notes.getD k (0,(0,0))).1=(i:Int)
    ·simp only[List.filter_cons,hc,hn,Bool.not_false,if_true,beq_self_eq_true,Bool.and_self,List.foldl_cons];exact ih _
    ·have hnb:((l.notes.getD k (0,(0,0))).1==(i:Int))=false:=by simpa using hn
     simp only[List.filter_cons,hc,hnb,hn,Bool.not_false,if_true,if_false,Bool.and_false,Bool.false_eq_true,List.foldl_cons];exact ih _
   ·simp only[List.filter_cons,hc,Bool.not_true,Bool.false_and,Bool.false_eq_true,if_false];exact ih _
 exact this ks (0,due)
theorem Q5 (xs:List Int) (x:Int):xm (xs++[x])=xm xs+x:=by
 induction xs with
 |nil=>simp[xm]
 |cons y xs ih=>rw[List.cons_append,sN,sN,ih];omega
def jW (f:dF->Int) (rs:List dF) (k:Nat):Int:=xm ((rs.take k).map f)
theorem qz (f:dF->Int) {rs:List dF} {k:Nat} (hk:k<rs.length):jW f rs (k+1)=jW f rs k+f rs[k]:=by
 unfold jW;rw[eG hk,List.map_append,List.map_singleton,Q5]
theorem vM (f:dF->Int) (rs:List dF) (h: ∀r∈rs,0<=f r/\f r<=2000): ∀k,k<=rs.length->0<=jW f rs k/\jW f rs k<=2000*k:=by
 intro k;induction k with
 |zero=>intro _;simp[jW,xm]
 |succ k ih=>
  intro hk;have:=ih ϑ;have:=h rs[k] (bZ _);rw[qz f ϑ];omega
theorem wR (f:dF->Int) (rs:List dF):jW f rs rs.length=xm (rs.map f):=by unfold jW;rw[List.take_length]
theorem Y4 {ns:List (Int×dF)} (hn: ∀x∈ns,0<=x.2.1/\x.2.1<=2000/\0<=x.2.2/\x.2.2<=2000) {key:Int×Int} (h0:0<=key.2) (_h1:key.2<=2000): ∀k,k<=ns.length->0<=(ve ns key k).1/\(ve ns key k).1<=2000/\0<=(ve ns key k).2/\(ve ns key k).2<=key.2:=by
 intro k;induction k with
 |zero=>intro _;simp[ve];omega
 |succ k ih=>
  intro hk;have h:=ih ϑ;have hx:=hn ns[k] (bZ _);rw[GU ϑ];split
  ·unfold qU;simp only;omega
  ·exact h
theorem R3 {l:aO} {out:List Int} {x:Int×dF} (h:x∈Bt l out):x∈l.notes:=by
 unfold Bt j4 at h;obtain⟨i,hi,rfl⟩:=gW.1 h;have:=jQ.1 (List.mem_filter.1 hi).1;rw[show l.notes.getD i (0,(0,0))=l.notes[i] from by simp[List.getD,this]]
 exact bZ _
structure nD (l:aO):Prop where
 field:iZ l.field=0
 some:bN l.field []≠[]
 rate:1<=l.rate/\l.rate<=50
 box:0<=l.box.1/\l.box.1<=l.box.2/\l.box.2<=2000
 many:l.notes.length<=5
 notes: ∀x∈l.notes,(0<=x.1/\x.1<l.field.aJ)/\(0<=x.2.1/\x.2.1<=x.2.2/\x.2.2<=2000)
theorem KO {l:aO} (hS:nD l) (out:List Int) (i:Nat) {due:Int} (h0:0<=due) (h1:due<=2000):0<=(ni l out i due).1/\(ni l out i due).1<=2000/\0<=(ni l out i due).2/\(ni l out i due).2<=due:=by
 rw[<-KP];exact Y4 (fun x hx=>by have:=hS.notes x (R3 hx);omega) h0 h1 _ (ah _)
theorem xh (l:aO) (out d:List Int):(nA l out d).length=l.field.aJ.toNat:=by simp[nA]
theorem A7 (l:aO) (out d:List Int) {i:Nat} (hi:i<l.field.aJ.toNat):(nA l out d).getD i (0,0)=ni l out i (d.getD i 0):=by
 unfold nA;rw[fK,nX,List.getElem?_range hi];rfl
end Go.Proofs.Z
namespace Go.Proofs.Z
open gK
def vJ (r x:dF):dF:=(min r.1 x.1,max r.2 x.2)
def mH (due:Int) (r:dF):dF:=(due-r.2,due-r.1)
def pO (p:Int->dF->dF) (l:aO) (d:List Int):List dF:=(List.range l.field.aJ.toNat).map fun i=>p (d.getD i 0) ((jB l [] d).getD i (0,0))
def jr (acc kU:List dF) (i:Nat):List dF:=if acc=[] then kU.take i else(List.zipWith vJ acc kU).take i++acc.drop i
def FY (acc kU:List dF):List dF:=if acc=[] then kU else List.zipWith vJ acc kU
def rV (p:Int->dF->dF) (l:aO) (acc:List dF) (d:List Int):List dF:=if iI l [] d=true then FY acc (pO p l d) else acc
def ky (p:Int->dF->dF) (l:aO) (k:Nat) (ds:List (List Int)):List dF:=(ds.take k).foldl (rV p l) []
def zL (p:Int->dF->dF) (l:aO) (ds:List (List Int)):List dF:=ky p l ds.length ds
theorem Gy (l:aO) (out d:List Int):(jB l out d).length=l.field.aJ.toNat:=by simp[jB,xh]
theorem mM (p:Int->dF->dF) (l:aO) (d:List Int):(pO p l d).length=l.field.aJ.toNat:=by simp[pO]
theorem GK (p:Int->dF->dF) (l:aO) (d:List Int) {i:Nat} (hi:i<(pO p l d).length):(pO p l d)[i]=p (d.getD i 0) ((jB l [] d).getD i (0,0)):=by
 simp[pO]
theorem yD (p:Int->dF->dF) (l:aO) {k:Nat} {ds:List (List Int)} (hk:k<ds.length):ky p l (k+1) ds=rV p l (ky p l k ds) ds[k]:=by
 unfold ky;rw[eG hk,List.foldl_append];rfl
theorem Xz {acc kU:List dF} (h:acc=[]∨acc.length=kU.length):(FY acc kU).length=kU.length:=by
 unfold FY;split
 ·rfl
 ·rcases h with h|h
  ·contradiction
  ·simp[h]
theorem Hr (p:Int->dF->dF) (l:aO) (ds:List (List Int)): ∀k,k<=ds.length->ky p l k ds=[]∨(ky p l k ds).length=l.field.aJ.toNat:=by
 intro k;induction k with
 |zero=>intro _;exact .inl rfl
 |succ k ih=>
  intro hk;rw[yD p l ϑ];have h:=ih ϑ;unfold rV;split
  ·right;rw[Xz (by rw[mM];exact h),mM]
  ·exact h
theorem uP (acc kU:List dF):jr acc kU 0=acc:=by
 unfold jr;split
 ·rename_i h;rw[h];rfl
 ·simp
theorem TC {acc kU:List dF} (h:acc=[]∨acc.length=kU.length):jr acc kU kU.length=FY acc kU:=by
 unfold jr FY;split
 ·simp
 ·rcases h with h|h
  ·contradiction
  ·rw[ji ϗ,List.drop_of_length_le ϑ,List.append_nil]
theorem TA {acc kU:List dF} {i:Nat} (h:acc=[]∨acc.length=kU.length) (hi:i<=kU.length):(jr acc kU i).length=if acc=[] then i else kU.length:=by
 unfold jr;by_cases e:acc=[]
 ·rw[aG e,aG e];simp;omega
 ·rw[ak e,ak e];rcases h with h|h
  ·contradiction
  ·simp;omega
theorem Tz {kU:List dF} {i:Nat} (hi:i<kU.length):jr [] kU (i+1)=jr [] kU i++[kU[i]]:=by
 unfold jr;rw[aG rfl,aG rfl,eG hi]
theorem Ty {acc kU:List dF} {i:Nat} (ha:acc≠[]) (h:acc.length=kU.length) (hi:i<kU.length):
 (jr acc kU i)[i]? =acc[i]?/\jr acc kU (i+1)=(jr acc kU i).set i (vJ (acc.getD i (0,0)) kU[i]):=by
 unfold jr;rw[ak ha,ak ha];have hz:((List.zipWith vJ acc kU).take i).length=i:=by simp;omega
 refine⟨?_,?_⟩
 ·rw[mD ϑ,hz,List.getElem?_drop,Nat.sub_self,Nat.add_zero]
 ·rw[nZ _ _ ϑ,hz,Nat.sub_self,su (by omega:i<acc.length),List.set_cons_zero,
   eG ϗ,jg,List.singleton_append]
  simp[List.getD,h,hi]
structure q9 (S:dF->Prop) (r:dF):Prop where
 low:(∃x,S x/\x.1=r.1)/\ ∀x,S x->r.1<=x.1
 high:(∃x,S x/\x.2=r.2)/\ ∀x,S x->x.2<=r.2
theorem q9.one (x:dF):q9 (fun y=>y=x) x:=⟨⟨⟨x,rfl,rfl⟩,fun y h=>by rw[h];exact Int.le_refl _⟩,⟨x,rfl,rfl⟩,fun y h=>by rw[h];exact Int.le_refl _⟩
theorem q9.add {S:dF->Prop} {r:dF} (h:q9 S r) (x:dF):q9 (fun y=>S y∨y=x) (vJ r x):=by
 obtain⟨⟨⟨a,ha,ha'⟩,h1⟩,⟨b,hb,hb'⟩,h2⟩:=h;unfold vJ;refine⟨⟨?_,?_⟩,?_,?_⟩
 ·by_cases e:r.1<=x.1
  ·exact⟨a,.inl ha,by simp only;omega⟩
  ·exact⟨x,.inr rfl,by simp only;omega⟩
 ·rintro y (hy|rfl)
  ·have:=h1 y hy;simp only;omega
  ·simp only;omega
 ·by_cases e:x.2<=r.2
  ·exact⟨b,.inl hb,by simp only;omega⟩
  ·exact⟨x,.inr rfl,by simp only;omega⟩
 ·rintro y (hy|rfl)
  ·have:=h2 y hy;simp only;omega
  ·simp only;omega
theorem q9.congr {S T:dF->Prop} {r:dF} (h:q9 S r) (e: ∀x,S x↔T x):q9 T r:=by
 obtain⟨⟨⟨a,ha,ha'⟩,h1⟩,⟨b,hb,hb'⟩,h2⟩:=h;exact⟨⟨⟨a,(e a).1 ha,ha'⟩,fun x hx=>h1 x ((e x).2 hx)⟩,⟨b,(e b).1 hb,hb'⟩,fun x hx=>h2 x ((e x).2 hx)⟩
theorem EN (p:Int->dF->dF) (l:aO) (ds:List (List Int)) {i:Nat} (hi:i<l.field.aJ.toNat): ∀k,k<=ds.length->
 (ky p l k ds=[]/\ ∀d∈ds.take k,iI l [] d=false)∨((ky p l k ds).length=l.field.aJ.toNat/\q9 (fun y=> ∃d∈ds.take k,iI l [] d=true/\y=p (d.getD i 0) ((jB l [] d).getD i (0,0))) ((ky p l k ds).getD i (0,0))):=by
 intro k;induction k with
 |zero=>intro _;exact .inl ⟨rfl,fun d hd=>by simp at hd⟩
 |succ k ih=>
  intro hk;have Y9:k<ds.length:=ϑ;rw[yD p l Y9,eG Y9];have hn: ∀d,(pO p l d).getD i (0,0)=p (d.getD i 0) ((jB l [] d).getD i (0,0)):=fun d=>by
   have hi':i<(pO p l d).length:=by rw[mM];exact hi
   rw[fK,dn hi',Option.getD_some,GK p l d hi']
  cases hc:iI l [] ds[k] with
  |false=>
   have hs:rV p l (ky p l k ds) ds[k]=ky p l k ds:=by unfold rV;rw[hc];rfl
   rw[hs];rcases ih ϑ with⟨h1,h2⟩|⟨h1,h2⟩
   ·refine .inl ⟨h1,fun d hd=>?_⟩;rcases gq.1 hd with h|h
    ·exact h2 d h
    ·rw[dX.1 h];exact hc
   ·refine .inr ⟨h1,h2.congr fun x=>⟨fun⟨d,hd,a,b⟩=>⟨d,mq _ hd,a,b⟩,fun⟨d,hd,a,b⟩=>?_⟩⟩;rcases gq.1 hd with h|h
    ·exact⟨d,h,a,b⟩
    ·rw[dX.1 h,hc] at a;cases a
  |true=>
   have hs:rV p l (ky p l k ds) ds[k]=FY (ky p l k ds) (pO p l ds[k]):=by unfold rV;rw[hc];rfl
   rw[hs];right;rcases ih ϑ with⟨h1,h2⟩|⟨h1,h2⟩
   ·rw[h1];have ha:FY [] (pO p l ds[k])=pO p l ds[k]:=by unfold FY;rw[aG rfl]
    rw[ha];refine⟨mM _ _ _,?_⟩;rw[hn];refine(q9.one _).congr fun x=>⟨fun e=>⟨ds[k],qX _ (dX.2 rfl),hc,e⟩,fun⟨d,hd,a,b⟩=>?_⟩;rcases gq.1 hd with h|h
    ·rw[h2 d h] at a;cases a
    ·rw[dX.1 h] at b;exact b
   ·have hne:ky p l k ds≠[]:=fun e=>by rw[e] at h1;simp at h1;omega
    have ha:FY (ky p l k ds) (pO p l ds[k])=List.zipWith vJ (ky p l k ds) (pO p l ds[k]):=by unfold FY;rw[ak hne]
    rw[ha];refine⟨by simp[h1,mM],?_⟩;have hg:(List.zipWith vJ (ky p l k ds) (pO p l ds[k])).getD i (0,0)=vJ ((ky p l k ds).getD i (0,0)) (p (ds[k].getD i 0) ((jB l [] ds[k]).getD i (0,0))):=by
     rw[<-hn ds[k]];have h3:i<(ky p l k ds).length:=ϑ;have h4:i<(pO p l ds[k]).length:=by rw[mM];exact hi
     simp only[fK,List.getElem?_zipWith,dn h3,dn h4,Option.getD_some]
    rw[hg];refine(h2.add _).congr fun x=>⟨?_,?_⟩
    ·rintro(⟨d,hd,a,b⟩|e)
     ·exact⟨d,mq _ hd,a,b⟩
     ·exact⟨ds[k],qX _ (dX.2 rfl),hc,e⟩
    ·rintro⟨d,hd,a,b⟩;rcases gq.1 hd with h|h
     ·exact .inl ⟨d,h,a,b⟩
     ·rw[dX.1 h] at b;exact .inr b
theorem Yy {rs:List dF} (h: ∀r∈rs,r.1<=r.2):xm (rs.map (·.1))<=xm (rs.map (·.2)):=by
 induction rs with
 |nil=>exact Int.le_refl _
 |cons x rs ih=>
  have h1:=h x List.mem_cons_self;have h2:=ih (fun y hy=>h y (nY _ hy));simp only[List.map_cons,sN];omega
theorem JZ {l:List Int} {i:Nat} (hi:i<l.length) (x:Int):xm (l.set i x)=xm l-l.getD i 0+x:=by
 induction l generalizing i with
 |nil=>simp at hi
 |cons y l ih=>
  cases i with
  |zero=>simp only[List.set_cons_zero,sN,List.getD_cons_zero];omega
  |succ i=>
   have:=ih (i:=i) (by simpa using hi);simp only[List.set_cons_succ,sN,List.getD_cons_succ];omega
theorem Gz (l:aO) (out d:List Int) {i:Nat} (hi:i<l.field.aJ.toNat):
 (jB l out d).getD i (0,0)=qU (ni l out i (d.getD i 0)) (l.box.1-(xI l out d-(ni l out i (d.getD i 0)).2),l.box.2-(FK l out d-(ni l out i (d.getD i 0)).1)):=by
 have ha:=A7 l out d hi;have hl:i<(nA l out d).length:=by rw[xh];exact hi
 rw[fK,dn hl,Option.getD_some] at ha;unfold jB;rw[fK,nX,dn hl,ha];rfl
theorem NB {l:aO} {out d:List Int} {i:Nat} (hi:i<l.field.aJ.toNat) (hb:l.box.1<=l.box.2) (hc:iI l out d=true):((jB l out d).getD i (0,0)).1<=((jB l out d).getD i (0,0)).2:=by
 rw[Gz l out d hi];have hl:i<(nA l out d).length:=by rw[xh];exact hi
 have ha:=A7 l out d hi;unfold iI at hc;simp only[dU,jh,dZ] at hc;obtain⟨⟨h1,h2⟩,h3⟩:=hc;have e1:xm (((nA l out d).set i (0,0)).map (·.1))=FK l out d-(ni l out i (d.getD i 0)).1:=by
  rw[List.map_set,JZ (by simpa using hl)];unfold FK;rw[<-ha,fK,fK,nX,dn hl];simp
 have e2:xm (((nA l out d).set i (0,0)).map (·.2))=xI l out d-(ni l out i (d.getD i 0)).2:=by
  rw[List.map_set,JZ (by simpa using hl)];unfold xI;rw[<-ha,fK,fK,nX,dn hl];simp
 have e3:=Yy (rs:=(nA l out d).set i (0,0)) (fun r hr=>by
  rcases List.mem_or_eq_of_mem_set hr with h|h
  ·exact h1 r h
  ·rw[h];exact Int.le_refl _)
 have e4:=h1 _ (by rw[fK,dn hl,Option.getD_some] at ha;rw[<-ha];exact bZ hl:ni l out i (d.getD i 0)∈nA l out d)
 rw[e1,e2] at e3;unfold qU;simp only;omega
end Go.Proofs.Z
namespace Go.Proofs.Z
open gK
end Go.Proofs.Z
namespace Go.Proofs.Z
open gK
end Go.Proofs.Z
end
section
namespace Go.RG
open Go.RowKit
structure Ext (Ms:List Nat) (w w':World):Prop where
 os:w'.os=w.os
 tape:w'.tape=w.tape
 output:w'.output=w.output
 size:w.heap.size<=w'.heap.size
 block: ∀k,k<w.heap.size->k∉Ms->w'.heap[k]? =w.heap[k]?
theorem Ext.refl (Ms:List Nat) (w:World):Ext Ms w w:=⟨rfl,rfl,rfl,ah _,fun _ _ _=>rfl⟩
theorem Ext.trans {Ms:List Nat} {a b c:World} (h:Ext Ms a b) (k:Ext Ms b c):Ext Ms a c:=
 ⟨k.os.trans h.os,k.tape.trans h.tape,k.output.trans h.output,eU h.size k.size,
   fun i hi hm=>(k.block i (eF hi h.size) hm).trans (h.block i hi hm)⟩
theorem Ext.more {Ms jc:List Nat} {w w':World} (h:Ext Ms w w') (hs: ∀x,x∈Ms->x∈jc):Ext jc w w':=
 ⟨h.os,h.tape,h.output,h.size,fun k hk hm=>h.block k hk (fun e=>hm (hs k e))⟩
theorem Ext.nil {Ms:List Nat} {w w':World} (h:Ext [] w w'):Ext Ms w w':=h.more ϕ
theorem Ext.ax {Ms:List Nat} {w w':World} (h:Ϙ w w'):Ext Ms w w':=
 ⟨h.os,h.tape,h.output,h.size,fun k hk _=>h.block k hk⟩
theorem Ext.below {w w':World} (h:Ext [] w w'):Ϙ w w':=
 ⟨h.os,h.tape,h.output,h.size,fun k hk=>h.block k hk ϕ⟩
theorem Ext.drew {Ms:List Nat} {a w:World} (h:Ext Ms a w):Ext Ms a w.drew:=⟨h.os,h.tape,h.output,h.size,h.block⟩
theorem Ext.cell {Ms:List Nat} {w w':World} (h:Ext Ms w w') (b o:Nat) (hb:b<w.heap.size) (hm:b∉Ms):w'.cell? ⟨b,o,none⟩=w.cell? ⟨b,o,none⟩:=
 gX (w:=w) (h.block b hb hm)
def Does (P:Program) (o:Oper) (ρ:Operand->Value) (W:World) (R:Value->World->Prop):Prop:=
 match (execOp ρ o).run P W with
 | .ok (.value v) w'=>R v w'
 | .ok .skip w'=>R undef w'
 | .ok (.enter f args) w'=>Calls P f args w' (fun e w''=> ∃v,e= .returned v/\R v w'')
 |_=>False
structure Spec where
 pure:List Value->Value->Prop
 world:List Value->Value->World->Prop
abbrev Facts:=List (Nat×(World->Prop))
def lH (o:Oper) (a:Act):List Value:=o.op.operands.toList.map a.eval
def jC (ops:Array Oper) (j i:Nat):Bool:=((Region.before ops).getD i 0).testBit j
structure EW (R0 R1:World->World->Prop):Prop where
 refl: ∀w,R0 w w
 abe: ∀{a b c},R0 a b->R0 b c->R0 a c
 abd: ∀{a b c},R1 a b->R1 b c->R1 a c
 sub: ∀{a b},R0 a b->R1 a b
def uW (R0 R1:World->World->Prop) (m:Option Nat) (i:Nat):World->World->Prop:=if m=some i then R1 else R0
def jH (R0 R1:World->World->Prop) (m:Option Nat) (i:Nat):World->World->Prop:=if m=some i then R0 else R1
theorem EW.YV {R0 R1:World->World->Prop} (h:EW R0 R1) {m:Option Nat} (i:Nat) (w:World):jH R0 R1 m i w w:=by
 unfold jH;split
 ·exact h.refl w
 ·exact h.sub (h.refl w)
theorem yP (Ms:List Nat):EW (Ext []) (Ext Ms):=⟨Ext.refl [],Ext.trans,Ext.trans,Ext.nil⟩
abbrev rH:=Nat->List Value->Value->World->Prop
def Kz:rH:=fun _ _ _ _=>True
def Pj (ops:Array Oper) (R0 R1:World->World->Prop) (m:Option Nat) (W0:World) (F G:Facts) (i:Nat) (W:World):Prop:=
 jH R0 R1 m i W0 W/\(∀f∈F,jC ops f.1 i=true->f.2 W)/\(m=some i-> ∀g∈G,jC ops g.1 i=true->g.2 W)
def pg (n t:Nat):Array Bool:=((List.range n).map (fun i=>decide (i<t))).toArray
def Te (ops:Array Oper) (k:Nat):Bool:=
 let n:=ops.size
 let at_ (i:Nat):Oper:=ops.getD i default
 decide (k<=n)&&
 (List.range n).all (fun i=>(at_ i).after.toList.all fun e=>!Region.binds .any e ||decide (e.on<i))&&
 (List.range k).all (fun i=>(List.range k).all fun j=>i==j ||(at_ i).dst.isNone ||(at_ i).dst !=(at_ j).dst)&&
 (List.range k).all (fun i=>((at_ i).looksAt ops).all fun t=>(List.range k).all fun j=>
   (at_ j).dst !=some t ||i==j ||(decide (j<i)&&jC ops j i) ||(decide (i<j)&&jC ops i j))&&
 (List.range n).all (fun i=>decide (i<k) ||(List.range k).all fun j=>jC ops j i)&&
 (List.range n).all (fun i=>match (at_ i).op with| .select .. =>false|_=>true)&&
 (List.range (n-k)).all (fun t=>Region.ready .any ops (pg n (k+t))==[k+t])&&
 Region.ready .any ops (pg n n)==[]
def Down (ops:Array Oper) (D:Nat->Prop):Prop:= ∀i o,ops[i]? =some o->D i-> ∀e∈o.after,Region.binds .any e=true->D e.on
theorem RN (acc:Array Nat) (j:Nat) (l:List Edge) (s:Nat)
 (h:(l.foldl (fun s e=>if Region.binds .any e then s |||2^e.on |||acc.getD e.on 0 else s) s).testBit j=true):
 s.testBit j=true∨ ∃e∈l,Region.binds .any e=true/\(j=e.on∨(acc.getD e.on 0).testBit j=true):=by
 induction l generalizing s with
 |nil=>exact .inl h
 |cons e l ih=>
  simp only[List.foldl_cons] at h;rcases ih _ h with h1|⟨e',he',hb,hj⟩
  ·by_cases hb:Region.binds .any e=true
   ·rw[aG hb] at h1;simp only[Nat.testBit_or,Bool.or_eq_true,Nat.testBit_two_pow,dZ] at h1;rcases h1 with(h1|h1)|h1
    ·exact .inl h1
    ·exact .inr ⟨e,by simp,hb,.inl h1.symm⟩
    ·exact .inr ⟨e,by simp,hb,.inr h1⟩
   ·rw[ak hb] at h1;exact .inl h1
  ·exact .inr ⟨e',by simp[he'],hb,hj⟩
def masks (l:List Oper):Array Nat:=
 l.foldl (fun acc o=>acc.push (o.after.foldl (fun s e=>if Region.binds .any e then s |||2^e.on |||acc.getD e.on 0 else s) 0)) #[]
theorem Tn (ops:Array Oper):Region.before ops=masks ops.toList:=by
 simp only[Region.before,masks,Array.foldl_toList]
theorem Dj (l:List Oper) (o:Oper):masks (l++[o])=(masks l).push (o.after.foldl (fun s e=>if Region.binds .any e then s |||2^e.on |||(masks l).getD e.on 0 else s) 0):=by
 simp[masks,List.foldl_append]
theorem mX {α:Type} {p:List α->Prop} (h0:p []) (h1: ∀l a,p l->p (l++[a])) (l:List α):p l:=by
 rw[<-l.reverse_reverse];induction l.reverse with
 |nil=>exact h0
 |cons a t ih=>rw[List.reverse_cons];exact h1 _ _ ih
theorem x9 (l:List Oper):(masks l).size=l.length:=by
 induction l using mX with
 |h0=>rfl
 |h1 l o ih=>simp[Dj,ih]
theorem RL (l:List Oper) (D:Nat->Prop) (hD: ∀i o,l[i]? =some o->D i-> ∀e∈o.after,Region.binds .any e=true->D e.on):
 ∀i j,i<l.length->D i->((masks l).getD i 0).testBit j=true->D j:=by
 induction l using mX with
 |h0=>intro i j hi;simp at hi
 |h1 l o ih=>
  have ih':=ih (fun i o' hi=>hD i o' (by
   have:=(iy.1 hi).1;rw[sD this];exact hi))
  intro i j hi hDi h;rw[Dj] at h;by_cases uM:i<l.length
  ·rw[Array.getD_eq_getD_getElem?,Array.getElem?_push,ak (by rw[x9];omega), <-Array.getD_eq_getD_getElem?] at h;exact ih' i j uM hDi h
  ·have hi':i=l.length:=by simp at hi;omega
   subst hi';rw[Array.getD_eq_getD_getElem?,Array.getElem?_push,aG (by rw[x9])] at h;simp only[Option.getD_some] at h;rw[<-Array.foldl_toList] at h;rcases RN _ j _ _ h with h1|⟨e,he,hb,hj⟩
   ·simp at h1
   ·have hDe:D e.on:=hD l.length o ϕ hDi e (by simpa using he) hb;rcases hj with rfl|hj
    ·exact hDe
    ·by_cases hlt':e.on<l.length
     ·exact ih' e.on j hlt' hDe hj
     ·rw[Array.getD_eq_getD_getElem?,Array.getElem?_eq_none (by rw[x9];omega)] at hj;simp at hj
theorem qV {ops:Array Oper} {D:Nat->Prop} (hD:Down ops D) {i j:Nat} (hi:i<ops.size) (hDi:D i) (h:jC ops j i=true):D j:=by
 unfold jC at h;rw[Tn] at h;exact RL ops.toList D (fun i o hi=>hD i o (by simpa using hi)) i j (by simpa using hi) hDi h
theorem Tq {ops:Array Oper} {D:Nat->Prop} (hD:Down ops D) {i j:Nat} {o:Oper} (ho:ops[i]? =some o)
 (hr: ∀e∈o.after,Region.binds .any e=true->D e.on) (h:jC ops j i=true) (hij:j≠i):D j:=by
 have hD':Down ops (fun t=>D t∨t=i):=by
  intro t o' ht hDt e he hb;rcases hDt with hDt|rfl
  ·exact .inl (hD t o' ht hDt e he hb)
  ·rw[ho] at ht;cases ht;exact .inl (hr e he hb)
 exact(qV hD' (aN.1 ho).1 (.inr rfl) h).resolve_right hij
section
variable {P : Program} {ops : Array Oper}
def lX (ops:Array Oper) (i:Nat):Option Tmp:=(ops[i]?).bind (·.dst)
def jd (ops:Array Oper) (env:Nat->Value) (a0:Act) (l:List Nat):Act:=l.foldl (fun a i=>a.put (lX ops i) (env i)) a0
theorem jX (env:Nat->Value) (a0:Act) (l:List Nat) (i:Nat):jd ops env a0 (l++[i])=(jd ops env a0 l).put (lX ops i) (env i):=by
 simp[jd,List.foldl_append]
theorem put_defers (a:Act) (d:Option Tmp) (v:Value):(a.put d v).defers=a.defers:=by cases d <;>rfl
theorem UZ (a:Act) (d:Option Tmp) (v:Value):(a.put d v).tmps.size=a.tmps.size:=by cases d <;>simp[Act.put]
theorem P8 (a:Act) (d:Option Tmp) (v:Value) (t:Nat):(a.put d v).tmps[t]? =if d=some t then(if t<a.tmps.size then some v else none) else a.tmps[t]? :=by
 cases d with
 |none=>simp[Act.put]
 |some d=>
  by_cases h:d=t
  ·subst h;simp[Act.put,Array.getElem?_setIfInBounds]
  ·have h':some d≠some t:=fun e=>h (iJ e);rw[ak h'];simp[Act.put,Array.getElem?_setIfInBounds_ne h]
theorem kD (env:Nat->Value) (a0:Act) (l:List Nat):(jd ops env a0 l).defers=a0.defers:=by
 induction l using mX with
 |h0=>rfl
 |h1 l i ih=>rw[jX,put_defers,ih]
theorem Kk (env:Nat->Value) (a0:Act) (l:List Nat):(jd ops env a0 l).tmps.size=a0.tmps.size:=by
 induction l using mX with
 |h0=>rfl
 |h1 l i ih=>rw[jX,UZ,ih]
theorem Bl (env:Nat->Value) (a0:Act) (t:Nat) (l:List Nat) (h: ∀i∈l,lX ops i≠some t):(jd ops env a0 l).tmps[t]? =a0.tmps[t]? :=by
 induction l using mX with
 |h0=>rfl
 |h1 l i ih=>rw[jX,P8,ak (h i ϕ),ih (fun j hj=>h j (by simp[hj]))]
theorem Bj (env:Nat->Value) (a0:Act) (t i:Nat) (l:List Nat) (hi:i∈l) (hd:lX ops i=some t) (hu: ∀j∈l,lX ops j=some t->j=i):
 (jd ops env a0 l).tmps[t]? =if t<a0.tmps.size then some (env i) else none:=by
 induction l using mX with
 |h0=>simp at hi
 |h1 l j ih=>
  rw[jX,P8,Kk];by_cases hj:lX ops j=some t
  ·rw[aG hj,hu j ϕ hj]
  ·rw[ak hj];refine ih ?_ (fun x hx=>hu x (by simp[hx]));rcases gq.1 hi with h|h
   ·exact h
   ·simp at h;subst h;exact absurd hd hj
theorem agree {env env':Nat->Value} {a0:Act} {l l':List Nat} (t:Nat) (hm: ∀i,lX ops i=some t->(i∈l↔i∈l')) (he: ∀i∈l,lX ops i=some t->env i=env' i)
 (hu: ∀i j,i∈l->j∈l->lX ops i=some t->lX ops j=some t->i=j):(jd ops env a0 l).tmps[t]? =(jd ops env' a0 l').tmps[t]? :=by
 by_cases h: ∃i∈l,lX ops i=some t
 ·obtain⟨i,hi,hd⟩:=h;rw[Bj env a0 t i l hi hd (fun j hj hdj=>hu j i hj hi hdj hd),Bj env' a0 t i l' ((hm i hd).1 hi) hd (fun j hj hdj=>hu j i ((hm j hdj).2 hj) hi hdj hd),he i hi hd]
 ·have h1: ∀i∈l,lX ops i≠some t:=fun i hi hd=>h ⟨i,hi,hd⟩;have h2: ∀i∈l',lX ops i≠some t:=fun i hi hd=>h ⟨i,(hm i hd).2 hi,hd⟩;rw[Bl _ _ _ _ h1,Bl _ _ _ _ h2]
theorem yQ {env env':Nat->Value} {a0:Act} {l:List Nat} (he: ∀i∈l,env i=env' i):jd ops env a0 l=jd ops env' a0 l:=by
 induction l using mX with
 |h0=>rfl
 |h1 l i ih=>rw[jX,jX,ih (fun j hj=>he j (by simp[hj])),he i ϕ]
theorem QE {a b:Act} (hd:a.defers=b.defers) (ht: ∀t:Nat,a.tmps[t]? =b.tmps[t]?):a=b:=by
 obtain⟨x,d⟩:=a;obtain⟨y,d'⟩:=b;simp only at hd ht;subst hd;congr 1;exact Array.ext_getElem? ht
def jU (ops:Array Oper) (o:Oper) (a b:Act):Prop:= ∀t∈o.looksAt ops,a.tmps[t]? =b.tmps[t]?
theorem jU.eval {o:Oper} {a b:Act} (h:jU ops o a b): ∀x∈o.op.operands,a.eval x=b.eval x:=by
 intro x hx;cases x with
 |tmp t=>
  have:=h t (mq _ (List.mem_filterMap.2 ⟨.tmp t,by simpa using hx,rfl⟩));simp[Act.eval,yE,this]
 |_=>rfl
theorem jU.exec {o:Oper} {a b:Act} (h:jU ops o a b) (hs: ∀cs b,o.op≠ .select cs b):execOp a.eval o=execOp b.eval o:=execOp_congr o hs h.eval
theorem jU.lH {o:Oper} {a b:Act} (h:jU ops o a b):lH o a=lH o b:=List.map_congr_left fun x hx=>h.eval x (by simpa using hx)
theorem jU.wanted {o:Oper} {a b:Act} (h:jU ops o a b):Region.wanted o (yielded ops a.tmps)=Region.wanted o (yielded ops b.tmps):=by
 unfold Region.wanted;cases hg:o.guard with
 |none=>rfl
 |some gw=>
  obtain⟨g,want⟩:=gw;have hy:yielded ops a.tmps g=yielded ops b.tmps g:=by
   unfold yielded;cases ht:(ops[g]?).bind (·.dst) with
   |none=>rfl
   |some t=>
    have:=h t (qX _ (by simp[hg,ht]));simp[this]
  simp only[hy]
end
structure Chk (ops:Array Oper) (k:Nat):Prop where
 kn:k<=ops.size
 lt: ∀(i:Nat) (o:Oper),ops[i]? =some o-> ∀e∈o.after,Region.binds .any e=true->e.on<i
 ZM: ∀i j,i<k->j<k-> ∀t,lX ops i=some t->lX ops j=some t->i=j
 look: ∀(i:Nat) (o:Oper),i<k->ops[i]? =some o-> ∀t∈o.looksAt ops, ∀j,j<k->lX ops j=some t->i≠j->(j<i/\jC ops j i=true)∨(i<j/\jC ops i j=true)
 tail: ∀i,k<=i->i<ops.size-> ∀j,j<k->jC ops j i=true
 sel: ∀(i:Nat) (o:Oper),ops[i]? =some o-> ∀cs b,o.op≠ .select cs b
 rdy: ∀t,k<=t->t<ops.size->Region.ready .any ops (pg ops.size t)=[t]
 fin:Region.ready .any ops (pg ops.size ops.size)=[]
theorem pW {ops:Array Oper} {i:Nat} {o:Oper} (h:ops[i]? =some o):ops.getD i default=o:=by
 rw[yE,h];rfl
theorem wF {ops:Array Oper} {i:Nat} {o:Oper} (h:ops[i]? =some o):lX ops i=o.dst:=by simp[lX,h]
theorem Ew {ops:Array Oper} {k:Nat} (h:Te ops k=true):Chk ops k:=by
 simp only[Te,dU,dZ,jh,jQ,Bool.or_eq_true,beq_iff_eq,bne_iff_ne,ne_eq,Bool.not_eq_true'] at h;obtain⟨⟨⟨⟨⟨⟨⟨h1,h2⟩,h3⟩,h4⟩,h5⟩,h6⟩,h7⟩,h8⟩:=h;have uM: ∀{i:Nat} {o:Oper},ops[i]? =some o->i<ops.size:=fun h=>(aN.1 h).1;have hget: ∀{i:Nat},i<ops.size->ops[i]? =some (ops.getD i default):=fun {i} hi=>by
  rw[uO hi,yE,uO hi];rfl
 refine⟨h1,?_,?_,?_,?_,?_,?_,h8⟩
 ·intro i o ho e he hb;have:=h2 i (uM ho) e (by rw[pW ho];simpa using he);rcases this with h|h
  ·rw[hb] at h;cases h
  ·exact h
 ·intro i j hi hj t hdi hdj;have:=h3 i hi j hj;have ei:=hget (eF hi h1);have ej:=hget (eF hj h1);rw[wF ei] at hdi;rw[wF ej] at hdj;rcases this with(h|h)|h
  ·exact h
  ·rw[hdi] at h;cases h
  ·rw[hdi,hdj] at h;exact absurd rfl h
 ·intro i o hi ho t ht j hj hdj hij;have:=h4 i hi t (by rw[pW ho];exact ht) j hj;rw[wF (hget (eF hj h1))] at hdj;rcases this with((h|h)|h)|h
  ·exact absurd hdj h
  ·exact absurd h hij
  ·exact .inl h
  ·exact .inr h
 ·intro i hk hi j hj;rcases h5 i hi with h|h
  ·omega
  ·exact h j hj
 ·intro i o ho cs b e;have:=h6 i (uM ho);rw[pW ho,e] at this;cases this
 ·intro t hk ht;have:=h7 (t-k) ϑ;rw[show k+(t-k)=t from by omega] at this;exact this
section
variable {Ps : rH} {P : Program} {ops : Array Oper} {R0 R1 : World → World → Prop} {m : Option Nat} {Ss : List (Nat × Spec)} {W0 : World} {a0 : Act}
abbrev pf (ops:Array Oper) (a0:Act) (env:Nat->Value) (i:Nat):Act:=jd ops env a0 (List.range i)
theorem P9 (env:Nat->Value) (i:Nat):pf ops a0 env (i+1)=(pf ops a0 env i).put (lX ops i) (env i):=by
 unfold pf;rw[List.range_succ,jX]
theorem iX {env env':Nat->Value} {i:Nat} (h: ∀j,j<i->env j=env' j):pf ops a0 env i=pf ops a0 env' i:=
 yQ fun j hj=>h j (by simpa using hj)
def Left (ops:Array Oper) (a0:Act) (env:Nat->Value) (j:Nat) (s:Spec) (W:World):Prop:=s.world (lH (ops.getD j default) (pf ops a0 env j)) (env j) W
def rW (Ps:rH) (ops:Array Oper) (a0:Act) (env:Nat->Value) (j:Nat) (W:World):Prop:=Ps j (lH (ops.getD j default) (pf ops a0 env j)) (env j) W
def pI (Ps:rH) (ops:Array Oper) (R0 R1:World->World->Prop) (m:Option Nat) (Ss:List (Nat×Spec)) (W0:World) (a0:Act) (env:Nat->Value) (i:Nat) (W:World):Prop:=
 jH R0 R1 m i W0 W/\(∀j s,Ss.lookup j=some s->j<i->jC ops j i=true->Left ops a0 env j s W)/\
  (m=some i-> ∀j s,Ss.lookup j=some s->j<i->jC ops j i=true->rW Ps ops a0 env j W)
theorem Pn {env env':Nat->Value} {j:Nat} {s:Spec} {W:World} (h: ∀i,i<=j->env i=env' i) (hl:Left ops a0 env j s W):Left ops a0 env' j s W:=by
 unfold Left at*
 rw[iX (fun i hi=>(h i ϑ).symm), <-h j (ah _)];exact hl
theorem Mw {env env':Nat->Value} {j:Nat} {W:World} (h: ∀i,i<=j->env i=env' i) (hl:rW Ps ops a0 env j W):rW Ps ops a0 env' j W:=by
 unfold rW at*
 rw[iX (fun i hi=>(h i ϑ).symm), <-h j (ah _)];exact hl
theorem qb {env env':Nat->Value} {i:Nat} {W:World} (h: ∀j,j<i->env j=env' j) (hr:pI Ps ops R0 R1 m Ss W0 a0 env i W):pI Ps ops R0 R1 m Ss W0 a0 env' i W:=
 ⟨hr.1,fun j s hs hj ha=>Pn (fun t ht=>h t ϑ) (hr.2.1 j s hs hj ha),fun hm j s hs hj ha=>Mw (fun t ht=>h t ϑ) (hr.2.2 hm j s hs hj ha)⟩
def Fs (ops:Array Oper) (Ss:List (Nat×Spec)) (a0:Act) (env:Nat->Value):Nat->Facts
 |0=>[]
 |t+1=>match Ss.lookup t with
  |none=>Fs ops Ss a0 env t
  |some s=>(t,s.world (lH (ops.getD t default) (pf ops a0 env t)) (env t))::Fs ops Ss a0 env t
theorem Vo {env:Nat->Value} {t:Nat} {f:Nat×(World->Prop)}:f∈Fs ops Ss a0 env t↔ ∃j s,j<t/\Ss.lookup j=some s/\f=(j,Left ops a0 env j s):=by
 induction t with
 |zero=>simp[Fs]
 |succ t ih=>
  unfold Fs;cases hs:Ss.lookup t with
  |none=>
   simp only[ih];constructor
   ·rintro⟨j,s,hj,h1,h2⟩;exact⟨j,s,by omega,h1,h2⟩
   ·rintro⟨j,s,hj,h1,h2⟩;have:j≠t:=fun e=>by subst e;rw[hs] at h1;cases h1
    exact⟨j,s,by omega,h1,h2⟩
  |some s0=>
   simp only[eQ,ih];constructor
   ·rintro(rfl|⟨j,s,hj,h1,h2⟩)
    ·exact⟨t,s0,by omega,hs,rfl⟩
    ·exact⟨j,s,by omega,h1,h2⟩
   ·rintro⟨j,s,hj,h1,h2⟩;by_cases e:j=t
    ·subst e;rw[hs] at h1;cases h1;exact .inl h2
    ·exact .inr ⟨j,s,by omega,h1,h2⟩
theorem MG {env env':Nat->Value} {t:Nat} (h: ∀j,j<t->env j=env' j):Fs ops Ss a0 env t=Fs ops Ss a0 env' t:=by
 induction t with
 |zero=>rfl
 |succ t ih=>
  unfold Fs;exact zcd
def Gs (Ps:rH) (ops:Array Oper) (Ss:List (Nat×Spec)) (a0:Act) (env:Nat->Value):Nat->Facts
 |0=>[]
 |t+1=>match Ss.lookup t with
  |none=>Gs Ps ops Ss a0 env t
  |some _=>(t,Ps t (lH (ops.getD t default) (pf ops a0 env t)) (env t))::Gs Ps ops Ss a0 env t
theorem abr {env:Nat->Value} {t:Nat} {f:Nat×(World->Prop)}:f∈Gs Ps ops Ss a0 env t-> ∃j s,j<t/\Ss.lookup j=some s/\f=(j,rW Ps ops a0 env j):=by
 induction t with
 |zero=>simp[Gs]
 |succ t ih=>
  unfold Gs;cases hs:Ss.lookup t with
  |none=>exact fun h=>by obtain⟨j,s,hj,h1,h2⟩:=ih h;exact⟨j,s,by omega,h1,h2⟩
  |some s0=>
   simp only[eQ];rintro(rfl|h)
   ·exact⟨t,s0,by omega,hs,rfl⟩
   ·obtain⟨j,s,hj,h1,h2⟩:=ih h;exact⟨j,s,by omega,h1,h2⟩
theorem MF {env env':Nat->Value} {t:Nat} (h: ∀j,j<t->env j=env' j):Gs Ps ops Ss a0 env t=Gs Ps ops Ss a0 env' t:=by
 induction t with
 |zero=>rfl
 |succ t ih=>
  unfold Gs;exact zcd
theorem IC {env:Nat->Value} {i:Nat} {W:World} (h:pI Ps ops R0 R1 m Ss W0 a0 env i W):Pj ops R0 R1 m W0 (Fs ops Ss a0 env i) (Gs Ps ops Ss a0 env i) i W:=
 ⟨h.1,fun f hf ha=>by
   obtain⟨j,s,hj,hs,rfl⟩:=Vo.1 hf;exact h.2.1 j s hs hj ha,fun hm f hf ha=>by
   obtain⟨j,s,hj,hs,rfl⟩:=abr hf;exact h.2.2 hm j s hs hj ha⟩
def Rec (Ps:rH) (P:Program) (ops:Array Oper) (R0 R1:World->World->Prop) (m:Option Nat) (Ss:List (Nat×Spec)) (W0:World) (a0:Act) (env:Nat->Value) (i:Nat) (o:Oper):Prop:=
 match Ss.lookup i with
 |none=>(Region.wanted o (yielded ops (pf ops a0 env i).tmps)=true/\ ∃W,pI Ps ops R0 R1 m Ss W0 a0 env i W/\(execOp (pf ops a0 env i).eval o).run P W= .ok (.value (env i)) W)∨
   (Region.wanted o (yielded ops (pf ops a0 env i).tmps)=false/\env i=undef)
 |some s=>s.pure (lH o (pf ops a0 env i)) (env i)
variable {k : Nat} (hc : Chk ops k)
include hc
theorem Cj {env env':Nat->Value} {i:Nat} {o:Oper} (hi:i<k) (ho:ops[i]? =some o) (h: ∀j,j<i->jC ops j i=true->env j=env' j):
 jU ops o (pf ops a0 env i) (pf ops a0 env' i):=by
 intro t ht;refine agree t (fun _ _=>Iff.rfl) ?_ ?_
 ·intro j hj hd;have hj':j<i:=by simpa using hj
  rcases hc.look i o hi ho t ht j ϑ hd ϑ with h1|h1
  ·exact h j hj' h1.2
  ·omega
 ·intro x y hx hy hdx hdy;have hx':x<i:=by simpa using hx
  have hy':y<i:=by simpa using hy
  exact hc.ZM x y ϑ ϑ t hdx hdy
theorem U9 {env env':Nat->Value} {i:Nat} (hi:i<k) (h: ∀j,j<i->jC ops j i=true->env j=env' j):
 lH (ops.getD i default) (pf ops a0 env i)=lH (ops.getD i default) (pf ops a0 env' i):=by
 have uM:i<ops.size:=eF hi hc.kn;have ho:ops[i]? =some (ops.getD i default):=by
  rw[uO uM,yE,uO uM];rfl
 exact(Cj hc hi ho h).lH
theorem xk {env env':Nat->Value} {l:List Nat} (hl: ∀i∈l,i<k) (hd:Down ops (· ∈l)) (he: ∀i∈l,env i=env' i) {j:Nat} (hj:j∈l) {s:Spec} {W:World}
 (h:Left ops a0 env j s W):Left ops a0 env' j s W:=by
 unfold Left at*
 exact zck
theorem zP {env env':Nat->Value} {l:List Nat} (hl: ∀i∈l,i<k) (hd:Down ops (· ∈l)) (he: ∀i∈l,env i=env' i) {j:Nat} (hj:j∈l) {W:World}
 (h:rW Ps ops a0 env j W):rW Ps ops a0 env' j W:=by
 unfold rW at*
 exact zck
theorem Hz {env env':Nat->Value} {l:List Nat} (hl: ∀i∈l,i<k) (hd:Down ops (· ∈l)) (he: ∀i∈l,env i=env' i) {i:Nat} (ha: ∀j,j<i->jC ops j i=true->j∈l) {W:World}
 (h:pI Ps ops R0 R1 m Ss W0 a0 env i W):pI Ps ops R0 R1 m Ss W0 a0 env' i W:=
 ⟨h.1,fun j s hs hj hji=>xk hc hl hd he (ha j hj hji) (h.2.1 j s hs hj hji),fun hm j s hs hj hji=>zP hc hl hd he (ha j hj hji) (h.2.2 hm j s hs hj hji)⟩
theorem acY {env env':Nat->Value} {l:List Nat} (hl: ∀i∈l,i<k) (hd:Down ops (· ∈l)) (he: ∀i∈l,env i=env' i) {i:Nat} {o:Oper} (hi:i∈l) (ho:ops[i]? =some o)
 (h:Rec Ps P ops R0 R1 m Ss W0 a0 env i o):Rec Ps P ops R0 R1 m Ss W0 a0 env' i o:=by
 have hik:i<k:=hl i hi;have zq: ∀j,jC ops j i=true->j∈l:=fun j hj=>qV hd (eF hik hc.kn) hi hj;have hL:jU ops o (pf ops a0 env i) (pf ops a0 env' i):=Cj hc hik ho (fun j _ hj=>he j (zq j hj));unfold Rec at*
 rw[<-hL.wanted, <-hL.lH, <-he i hi, <-hL.exec (hc.sel i o ho)];cases hs:Ss.lookup i with
 |none=>
  simp only[hs] at h⊢;exact h.imp (fun x=>⟨x.1,by obtain⟨W,hW,hr⟩:=x.2;exact⟨W,Hz hc hl hd he (fun j _=>zq j) hW,hr⟩⟩) id
 |some s=>
  simp only[hs] at h⊢;exact h
end
def Any (gL:Nat->(Act->World->Prop)->Act->World->Prop) (ops:Array Oper) (Qn:Act->World->Prop):Nat->Array Bool->Act->World->Prop
 |0,l,a,w=>Region.ready .any ops l=[]/\Qn a w
 |fuel+1,l,a,w=>(Region.ready .any ops l=[]->Qn a w)/\ ∀i∈Region.ready .any ops l,gL i (Any gL ops Qn fuel (l.setIfInBounds i true)) a w
def Seq (gL:Nat->(Act->World->Prop)->Act->World->Prop) (Qn:Act->World->Prop):List Nat->Act->World->Prop
 |[]=>Qn
 |i::r=>gL i (Seq gL Qn r)
def RP (n:Nat) (l:List Nat):Array Bool:=l.foldl (fun a i=>a.setIfInBounds i true) (Array.replicate n false)
theorem Dk (n:Nat) (l:List Nat) (i:Nat):RP n (l++[i])=(RP n l).setIfInBounds i true:=by simp[RP,List.foldl_append]
theorem Qc (n:Nat) (l:List Nat) (i:Nat):(RP n l)[i]? =if i<n then some (decide (i∈l)) else none:=by
 have hsize: ∀l:List Nat,(RP n l).size=n:=by
  intro l;induction l using mX with
  |h0=>simp[RP]
  |h1 l j ih=>rw[Dk];simp[ih]
 induction l using mX with
 |h0=>simp[RP,Array.getElem?_replicate]
 |h1 l j ih=>
  rw[Dk,Array.getElem?_setIfInBounds,hsize,ih];by_cases e:j=i
  ·subst e;by_cases h:j<n <;>simp[h]
  ·rw[ak e];have:i≠j:=fun h=>e h.symm;simp[this]
theorem yw (n t i:Nat):(pg n t)[i]? =if i<n then some (decide (i<t)) else none:=by
 unfold pg;rw[List.getElem?_toArray,nX];by_cases h:i<n
 ·rw[List.getElem?_range h,aG h];rfl
 ·rw[List.getElem?_eq_none (by simpa using h),ak h];rfl
theorem Dl {n k:Nat} {l:List Nat} (h: ∀i,i∈l↔i<k):RP n l=pg n k:=by
 refine Array.ext_getElem? fun i=>?_;rw[Qc,yw];simp[h]
theorem mem_ready {ops:Array Oper} {l:List Nat} {i:Nat}:i∈Region.ready .any ops (RP ops.size l)↔
 i<ops.size/\i∉l/\ ∀o,ops[i]? =some o-> ∀e∈o.after,Region.binds .any e=true->e.on∈l/\e.on<ops.size:=by
 unfold Region.ready;simp only[List.mem_filter,jQ,dU,Bool.not_eq_true',yE,Qc];constructor
 ·rintro⟨hi,h1,h2⟩;rw[aG hi] at h1;refine⟨hi,by simpa using h1,fun o ho e he hb=>?_⟩;rw[ho] at h2;simp only[Option.map_some,Option.getD_some] at h2;have:=(jk.1 h2) e he;rw[hb] at this;simp only[Bool.not_true,Bool.false_or] at this;by_cases uM:e.on<ops.size
  ·rw[aG uM] at this;exact⟨by simpa using this,uM⟩
  ·rw[ak uM] at this;cases this
 ·rintro⟨hi,h1,h2⟩;refine⟨hi,by rw[aG hi];simpa using h1,?_⟩;obtain⟨o,ho⟩: ∃o,ops[i]? =some o:=⟨_,uO hi⟩;rw[ho];simp only[Option.map_some,Option.getD_some];refine jk.2 fun e he=>?_;by_cases hb:Region.binds .any e=true
  ·obtain⟨h3,h4⟩:=h2 o ho e he hb;rw[aG h4];simp[h3]
  ·simp[hb]
section
variable {gL : Nat → (Act → World → Prop) → Act → World → Prop} {ops : Array Oper} {Qn : Act → World → Prop} {k : Nat}
theorem Ml (hc:Chk ops k) (hmono: ∀i (K K':Act->World->Prop) a w,(∀a w,K a w->K' a w)->gL i K a w->gL i K' a w):
 ∀j t a w,t+j=ops.size->k<=t->Seq gL Qn (List.range' t j) a w->Any gL ops Qn j (pg ops.size t) a w:=by
 intro j;induction j with
 |zero=>
  intro t a w ht _ h;have:t=ops.size:=ϑ;subst this;exact⟨hc.fin,h⟩
 |succ j ih=>
  intro t a w ht hk h;have hr:=hc.rdy t hk ϑ;refine⟨fun e=>(by rw[hr] at e;cases e),fun i hi=>?_⟩;rw[hr] at hi;have:i=t:=by simpa using hi
  subst this;rw[List.range'_succ] at h;refine hmono _ _ _ _ _ (fun a w hs=>?_) h;have e:(pg ops.size i).setIfInBounds i true=pg ops.size (i+1):=by
   refine Array.ext_getElem? fun x=>?_;have τ:(pg ops.size i).size=ops.size:=by simp[pg]
   rw[Array.getElem?_setIfInBounds,τ,yw,yw];by_cases e:i=x
   ·subst e;simp
   ·rw[ak e];by_cases hx:x<ops.size
    ·simp only[hx,if_true,Option.some.injEq,decide_eq_decide];omega
    ·simp[hx]
  rw[e];exact ih (i+1) a w ϑ ϑ hs
end
theorem all_in {k:Nat} {l:List Nat} (hn:l.Nodup) (h1: ∀i∈l,i<k) (h2:k<=l.length): ∀i,i<k->i∈l:=by
 intro i hi;refine Classical.byContradiction fun h=>?_;have:=List.Nodup.length_le_of_subset (l₁:=i::l) (l₂:=List.range k) (List.nodup_cons.2 ⟨h,hn⟩) (fun x hx=>by
  rcases eQ.1 hx with rfl|hx
  ·simpa using hi
  ·simpa using h1 x hx)
 simp at this;omega
theorem Vw {k:Nat} {l:List Nat} (hn:l.Nodup) (h1: ∀i∈l,i<k):l.length<=k:=by
 have:=List.Nodup.length_le_of_subset (l₁:=l) (l₂:=List.range k) hn (fun x hx=>by simpa using h1 x hx);simpa using this
end Go.RG
namespace Go.RX
open Go.RowKit Go.RG
def Does (X:List PanicEntry->World->Prop) (P:Program) (o:Oper) (ρ:Operand->Value) (W:World) (R:Value->World->Prop):Prop:=
 match (execOp ρ o).run P W with
 | .ok (.value v) w'=>R v w'
 | .ok .skip w'=>R undef w'
 | .ok (.enter f args) w'=>Calls P f args w' (fun e w''=>(∃v,e= .returned v/\R v w'')∨ ∃ps,e= .panicked ps/\X ps w'')
 |_=>False
def gy (X:List PanicEntry->World->Prop) (Ps:rH) (P:Program) (ops:Array Oper) (R0 R1:World->World->Prop) (m:Option Nat) (Ss:List (Nat×RG.Spec)) (Fin:Act->World->Prop) (W0:World):
 List Oper->Nat->Act->Facts->Facts->Prop
 |[],_,a,F,_=> ∀W,R1 W0 W->(∀f∈F,f.2 W)->Fin a W
 |o::rest,i,a,F,G=>
  match Ss.lookup i with
  |none=> ∃v,((Region.wanted o (yielded ops a.tmps)=true/\ ∀W,Pj ops R0 R1 m W0 F G i W->(execOp a.eval o).run P W= .ok (.value v) W)∨
    (Region.wanted o (yielded ops a.tmps)=false/\v=undef))/\gy X Ps P ops R0 R1 m Ss Fin W0 rest (i+1) (a.put o.dst v) F G
  |some s=>Region.wanted o (yielded ops a.tmps)=true/\(∃v,s.pure (lH o a) v)/\
    (∀W,Pj ops R0 R1 m W0 F G i W->Does X P o a.eval W (fun v W'=>s.pure (lH o a) v/\s.world (lH o a) v W'/\uW R0 R1 m i W W'/\Ps i (lH o a) v W'))/\
    ((∀v W W',s.world (lH o a) v W->jH R0 R1 m i W W'->s.world (lH o a) v W')/\(∀v W W',Ps i (lH o a) v W->R0 W W'->Ps i (lH o a) v W'))/\
    ∀v,s.pure (lH o a) v->gy X Ps P ops R0 R1 m Ss Fin W0 rest (i+1) (a.put o.dst v) ((i,s.world (lH o a) v)::F) ((i,Ps i (lH o a) v)::G)
section
variable {X : List PanicEntry → World → Prop} {Ps : rH} {P : Program} {ops : Array Oper} {R0 R1 : World → World → Prop} {m : Option Nat} {Ss : List (Nat × RG.Spec)} {W0 : World} {a0 : Act}
def Node (X:List PanicEntry->World->Prop) (Ps:rH) (P:Program) (ops:Array Oper) (R0 R1:World->World->Prop) (m:Option Nat) (Ss:List (Nat×RG.Spec)) (W0:World) (a0:Act) (env:Nat->Value) (i:Nat) (o:Oper):Prop:=
 match Ss.lookup i with
 |none=>(Region.wanted o (yielded ops (pf ops a0 env i).tmps)=true/\ ∀W,pI Ps ops R0 R1 m Ss W0 a0 env i W->(execOp (pf ops a0 env i).eval o).run P W= .ok (.value (env i)) W)∨
   (Region.wanted o (yielded ops (pf ops a0 env i).tmps)=false/\env i=undef)
 |some s=>Region.wanted o (yielded ops (pf ops a0 env i).tmps)=true/\s.pure (lH o (pf ops a0 env i)) (env i)/\
   (∀W,pI Ps ops R0 R1 m Ss W0 a0 env i W->Does X P o (pf ops a0 env i).eval W (fun v W'=>s.pure (lH o (pf ops a0 env i)) v/\s.world (lH o (pf ops a0 env i)) v W'/\uW R0 R1 m i W W'/\Ps i (lH o (pf ops a0 env i)) v W'))/\
   (∀v W W',s.world (lH o (pf ops a0 env i)) v W->jH R0 R1 m i W W'->s.world (lH o (pf ops a0 env i)) v W')/\
   (∀v W W',Ps i (lH o (pf ops a0 env i)) v W->R0 W W'->Ps i (lH o (pf ops a0 env i)) v W')
theorem Pm {env env':Nat->Value} {i:Nat} {o:Oper} (h: ∀j,j<=i->env j=env' j) (hn:Node X Ps P ops R0 R1 m Ss W0 a0 env i o):Node X Ps P ops R0 R1 m Ss W0 a0 env' i o:=by
 have hp:pf ops a0 env i=pf ops a0 env' i:=iX fun j hj=>h j ϑ;have hr: ∀W,pI Ps ops R0 R1 m Ss W0 a0 env' i W->pI Ps ops R0 R1 m Ss W0 a0 env i W:=fun W=>qb fun j hj=>(h j ϑ).symm;unfold Node at*
 rw[<-hp, <-h i (ah _)];cases hs:Ss.lookup i with
 |none=>
  simp only[hs] at hn⊢;exact hn.imp (fun x=>⟨x.1,fun W hW=>x.2 W (hr W hW)⟩) id
 |some s=>
  simp only[hs] at hn⊢;exact⟨hn.1,hn.2.1,fun W hW=>hn.2.2.1 W (hr W hW),hn.2.2.2⟩
variable {k : Nat} (hc : Chk ops k)
include hc
theorem along {Fin:Act->World->Prop} {env:Nat->Value} {l:List Nat} (hl: ∀i∈l,i<k) (hd:Down ops (· ∈l))
 (ι: ∀i∈l, ∀o,ops[i]? =some o->Rec Ps P ops R0 R1 m Ss W0 a0 env i o)
 (Bz:gy X Ps P ops R0 R1 m Ss Fin W0 (ops.toList.take k) 0 a0 [] []):
 ∃env',(∀i∈l,env' i=env i)/\(∀i o,i<k->ops[i]? =some o->Node X Ps P ops R0 R1 m Ss W0 a0 env' i o)/\
  (∀W,R1 W0 W->(∀j s,Ss.lookup j=some s->j<k->RG.Left ops a0 env' j s W)->Fin (pf ops a0 env' k) W):=by
 have IY:(ops.toList.take k).length=k:=by have:=hc.kn;simp[fJ];omega
 have go: ∀t,t<=k-> ∃env',(∀i∈l,env' i=env i)/\(∀i o,i<t->ops[i]? =some o->Node X Ps P ops R0 R1 m Ss W0 a0 env' i o)/\
  gy X Ps P ops R0 R1 m Ss Fin W0 ((ops.toList.take k).drop t) t (pf ops a0 env' t) (Fs ops Ss a0 env' t) (Gs Ps ops Ss a0 env' t):=by
  intro t;induction t with
  |zero=>exact fun _=>⟨env,fun _ _=>rfl,fun i o hi=>ϑ,by simpa [Fs,Gs,pf,jd] using Bz⟩
  |succ t ih=>
   intro ht;obtain⟨env',h1,h2,h3⟩:=ih ϑ;have htk:t<k:=ϑ;have uM:t<ops.size:=eF htk hc.kn;obtain⟨o,ho⟩: ∃o,ops[t]? =some o:=⟨_,uO uM⟩;have Qo:(ops.toList.take k).drop t=o::(ops.toList.take k).drop (t+1):=by
    rw[su ϑ];congr 1;have:(ops.toList.take k)[t]? =some o:=by rw[List.getElem?_take,aG htk];simpa using ho
    rw[dn ϑ] at this;exact iJ this
   rw[Qo] at h3;unfold gy at h3;have hdst:lX ops t=o.dst:=wF ho;have gL: ∀v,(t∈l->v=env t)->(∀e:Nat->Value,(∀j,j<t->e j=env' j)->e t=v->Node X Ps P ops R0 R1 m Ss W0 a0 e t o)->
    (∀e:Nat->Value,(∀j,j<t->e j=env' j)->e t=v->gy X Ps P ops R0 R1 m Ss Fin W0 ((ops.toList.take k).drop (t+1)) (t+1) (pf ops a0 e (t+1)) (Fs ops Ss a0 e (t+1)) (Gs Ps ops Ss a0 e (t+1)))->
    ∃wE,(∀i∈l,wE i=env i)/\(∀i o,i<t+1->ops[i]? =some o->Node X Ps P ops R0 R1 m Ss W0 a0 wE i o)/\
     gy X Ps P ops R0 R1 m Ss Fin W0 ((ops.toList.take k).drop (t+1)) (t+1) (pf ops a0 wE (t+1)) (Fs ops Ss a0 wE (t+1)) (Gs Ps ops Ss a0 wE (t+1)):=by
    intro v hv hN hT;refine⟨fun j=>if j=t then v else env' j,?_,?_,?_⟩
    ·intro i hi;by_cases e:i=t
     ·subst e;simp only[aG];exact hv hi
     ·simp only[ak e];exact h1 i hi
    ·intro i o' hi ho';by_cases e:i=t
     ·subst e;rw[ho] at ho';cases ho';exact hN _ (fun j hj=>ak ϑ) (aG rfl)
     ·exact Pm (fun j hj=>(ak ϑ).symm) (h2 i o' ϑ ho')
    ·exact hT _ (fun j hj=>ak ϑ) (aG rfl)
   cases hs:Ss.lookup t with
   |none=>
    simp only[hs] at h3;obtain⟨v,hv,hT⟩:=h3;refine gL v ?_ ?_ ?_
    ·intro htl;have hR:=ι t htl o ho;have zq: ∀j,jC ops j t=true->j∈l:=fun j hj=>qV hd uM htl hj;have hL:jU ops o (pf ops a0 env t) (pf ops a0 env' t):=Cj hc htk ho (fun j _ hj=>(h1 j (zq j hj)).symm);unfold Rec at hR;simp only[hs] at hR;rw[hL.wanted,hL.exec (hc.sel t o ho)] at hR;rcases hv with⟨hw,hv⟩|⟨hw,hv⟩
     ·rcases hR with⟨_,W,hW,hr⟩|⟨hw',_⟩
      ·have:=hv W (IC (Hz hc hl hd (fun i hi=>(h1 i hi).symm) (fun j _=>zq j) hW));rw[hr] at this;injection this with e1 _;injection e1 with e2;exact e2.symm
      ·rw[hw] at hw';cases hw'
     ·rcases hR with⟨hw',_⟩|⟨_,hu⟩
      ·rw[hw] at hw';cases hw'
      ·rw[hv,hu]
    ·intro e he het;have hp:pf ops a0 e t=pf ops a0 env' t:=iX he;unfold Node;simp only[hs];rw[hp,het];exact hv.imp (fun x=>⟨x.1,fun W hW=>x.2 W (IC (qb he hW))⟩) id
    ·intro e he het;rw[P9,hdst,het,iX he];have:Fs ops Ss a0 e (t+1)=Fs ops Ss a0 env' t:=by
      show(match Ss.lookup t with|none=>_|some s=>_)=_;simp only[hs];exact MG he
     rw[this];have:Gs Ps ops Ss a0 e (t+1)=Gs Ps ops Ss a0 env' t:=by
      show(match Ss.lookup t with|none=>_|some s=>_)=_;simp only[hs];exact MF he
     rw[this];exact hT
   |some s=>
    simp only[hs] at h3;obtain⟨hw,⟨v0,hv0⟩,BB,Y6,hT⟩:=h3;have key: ∀v,s.pure (lH o (pf ops a0 env' t)) v->(t∈l->v=env t)-> ∃wE,(∀i∈l,wE i=env i)/\(∀i o,i<t+1->ops[i]? =some o->Node X Ps P ops R0 R1 m Ss W0 a0 wE i o)/\
     gy X Ps P ops R0 R1 m Ss Fin W0 ((ops.toList.take k).drop (t+1)) (t+1) (pf ops a0 wE (t+1)) (Fs ops Ss a0 wE (t+1)) (Gs Ps ops Ss a0 wE (t+1)):=by
     intro v hv hvl;refine gL v hvl ?_ ?_
     ·intro e he het;have hp:pf ops a0 e t=pf ops a0 env' t:=iX he;unfold Node;simp only[hs];rw[hp,het];exact⟨hw,hv,fun W hW=>BB W (IC (qb he hW)),Y6⟩
     ·intro e he het;rw[P9,hdst,het,iX he];have:Fs ops Ss a0 e (t+1)=(t,s.world (lH o (pf ops a0 env' t)) v)::Fs ops Ss a0 env' t:=by
       show(match Ss.lookup t with|none=>_|some s=>_)=_;simp only[hs];rw[MG he,iX he,het,pW ho]
      rw[this];have:Gs Ps ops Ss a0 e (t+1)=(t,Ps t (lH o (pf ops a0 env' t)) v)::Gs Ps ops Ss a0 env' t:=by
       show(match Ss.lookup t with|none=>_|some s=>_)=_;simp only[hs];rw[MF he,iX he,het,pW ho]
      rw[this];exact hT v hv
    by_cases htl:t∈l
    ·have hR:=ι t htl o ho;have zq: ∀j,jC ops j t=true->j∈l:=fun j hj=>qV hd uM htl hj;have hL:jU ops o (pf ops a0 env t) (pf ops a0 env' t):=Cj hc htk ho (fun j _ hj=>(h1 j (zq j hj)).symm);unfold Rec at hR;simp only[hs] at hR;rw[hL.lH] at hR;exact key (env t) hR (fun _=>rfl)
    ·exact key v0 hv0 (fun h=>absurd h htl)
 obtain⟨env',h1,h2,h3⟩:=go k (ah _);refine⟨env',h1,h2,fun W hW hF=>?_⟩;rw[List.drop_of_length_le ϑ] at h3;unfold gy at h3;exact h3 W hW (fun f hf=>by
  obtain⟨j,s,hj,hs,rfl⟩:=Vo.1 hf;exact hF j s hs hj)
end
section
variable {X : List PanicEntry → World → Prop} {gL : Nat → (Act → World → Prop) → Act → World → Prop} {P : Program} {ops : Array Oper} {Qn : Act → World → Prop} {Ps : rH} {R0 R1 : World → World → Prop} {m : Option Nat} {Ss : List (Nat × RG.Spec)} {W0 : World} {a0 : Act} {k : Nat}
theorem Z0 (hR:EW R0 R1) (hc:Chk ops k) (hmono: ∀i (K K':Act->World->Prop) a w,(∀a w,K a w->K' a w)->gL i K a w->gL i K' a w)
 (BB: ∀(i:Nat) (o:Oper) (K:Act->World->Prop) (a:Act) (W:World) (R:Value->World->Prop),a.defers=a0.defers->ops[i]? =some o->Region.wanted o (yielded ops a.tmps)=true->Does X P o a.eval W R->(∀v W',R v W'->K (a.put o.dst v) W')->gL i K a W)
 (K3: ∀(i:Nat) (o:Oper) (K:Act->World->Prop) (a:Act) (W:World),ops[i]? =some o->Region.wanted o (yielded ops a.tmps)=false->K (a.put o.dst undef) W->gL i K a W)
 (Bz:gy X Ps P ops R0 R1 m Ss (Seq gL Qn (List.range' k (ops.size-k))) W0 (ops.toList.take k) 0 a0 [] []):
 ∀(fuel:Nat) (l:List Nat) (env:Nat->Value) (W:World),l.length+fuel=ops.size->l.Nodup->(∀i∈l,i<k)->Down ops (· ∈l)->
  (∀i∈l, ∀o,ops[i]? =some o->Rec Ps P ops R0 R1 m Ss W0 a0 env i o)->(∀j s,Ss.lookup j=some s->j∈l->RG.Left ops a0 env j s W)->
  R1 W0 W->((∀i,m=some i->i∉l)->R0 W0 W/\ ∀j s,Ss.lookup j=some s->j∈l->rW Ps ops a0 env j W)->Any gL ops Qn fuel (RP ops.size l) (jd ops env a0 l) W:=by
 intro fuel;induction fuel with
 |zero=>
  intro l env W IY hnd hl hd ι hleft yt _;have hk:k=ops.size:=by
   have h1:=Vw hnd hl;have:=hc.kn;omega
  have hall:=all_in hnd hl ϑ;obtain⟨env',he,_,hfin⟩:=along (P:=P) hc hl hd ι Bz;have hf:=hfin W yt (fun j s hs hj=>RG.xk hc hl hd (fun i hi=>(he i hi).symm) (hall j hj) (hleft j s hs (hall j hj)));have ea:jd ops env a0 l=pf ops a0 env' k:=QE (by rw[kD,kD]) fun t=>
   agree t (fun i hi=>⟨fun h=>by simpa using hl i h,fun h=>hall i (by simpa using h)⟩) (fun i hi _=>(he i hi).symm) (fun i j hi hj=>hc.ZM i j (hl i hi) (hl j hj) t)
  rw[Dl (k:=k) (fun i=>⟨hl i,hall i⟩),ea,hk];rw[show ops.size-k=0 from by omega] at hf;rw[hk] at hf;exact RG.Ml hc hmono 0 ops.size _ _ ϑ ϑ hf
 |succ fuel ih=>
  intro l env W IY hnd hl hd ι hleft yt hnil;obtain⟨env',he,V7,hfin⟩:=along (P:=P) hc hl hd ι Bz;have hes: ∀i∈l,env i=env' i:=fun i hi=>(he i hi).symm;by_cases hfull:k<=l.length
  ·have hall:=all_in hnd hl hfull;have hk:l.length=k:=by have:=Vw hnd hl;omega
   have hf:=hfin W yt (fun j s hs hj=>RG.xk hc hl hd hes (hall j hj) (hleft j s hs (hall j hj)));have ea:jd ops env a0 l=pf ops a0 env' k:=QE (by rw[kD,kD]) fun t=>
    agree t (fun i hi=>⟨fun h=>by simpa using hl i h,fun h=>hall i (by simpa using h)⟩) (fun i hi _=>hes i hi) (fun i j hi hj=>hc.ZM i j (hl i hi) (hl j hj) t)
   rw[Dl (k:=k) (fun i=>⟨hl i,hall i⟩),ea];have e:fuel+1=ops.size-k:=ϑ;rw[e];exact RG.Ml hc hmono (ops.size-k) k _ _ (by have:=hc.kn;omega) (ah _) hf
  ·--one more of the first k comes up
   have hex: ∃i,i<k/\i∉l/\ ∀j,j<i->j∈l:=by
    have h0: ∃i,i<k/\i∉l:=Classical.byContradiction fun IB=>by
     have hall: ∀i,i<k->i∈l:=fun i hi=>Classical.byContradiction fun h=>IB ⟨i,hi,h⟩;have:=List.Nodup.length_le_of_subset (l₁:=List.range k) (l₂:=l) List.nodup_range (fun x hx=>hall x (by simpa using hx));simp at this;omega
    obtain⟨i,hi,hil⟩:=h0;induction i using Nat.strongRecOn with
    |_ i ihh=>
     by_cases hj: ∃j,j<i/\j∉l
     ·obtain⟨j,hji,hjl⟩:=hj;exact ihh j hji ϑ hjl
     ·exact⟨i,hi,hil,fun j hji=>Classical.byContradiction fun h=>hj ⟨j,hji,h⟩⟩
   refine⟨fun e=>?_,fun i hi=>?_⟩
   ·obtain⟨i,hi,hil,hbelow⟩:=hex;have:i∈Region.ready .any ops (RP ops.size l):=RG.mem_ready.2 ⟨eF hi hc.kn,hil,fun o ho e he hb=>by
     have:=hc.lt i o ho e he hb;exact⟨hbelow _ this,by have:=hc.kn;omega⟩⟩
    rw[e] at this;cases this
   ·obtain⟨hin,hil,VQ⟩:=RG.mem_ready.1 hi;obtain⟨o,ho⟩: ∃o,ops[i]? =some o:=⟨_,uO hin⟩;have zq: ∀j,jC ops j i=true->j≠i->j∈l:=fun j hj hne=>Tq hd ho (fun e he hb=>(VQ o ho e he hb).1) hj hne;have hik:i<k:=Classical.byContradiction fun hge=>by
     obtain⟨j,hj,hjl,_⟩:=hex;exact hjl (zq j (hc.tail i ϑ hin j hj) ϑ)
    have hN:=V7 i o hik ho;have hL:jU ops o (jd ops env a0 l) (pf ops a0 env' i):=by
     intro t ht;refine agree t ?_ (fun j hj _=>hes j hj) (fun x y hx hy=>hc.ZM x y (hl x hx) (hl y hy) t);intro j hd';by_cases hji:j=i
     ·subst hji;simp[hil]
     ·constructor
      ·intro hjl;rcases hc.look i o hik ho t ht j (hl j hjl) hd' (fun e=>hji e.symm) with h|h
       ·simpa using h.1
       ·exact absurd (qV hd (eF (hl j hjl) hc.kn) hjl h.2) hil
      ·intro hjr;have aoN:j<i:=by simpa using hjr
       rcases hc.look i o hik ho t ht j ϑ hd' (fun e=>hji e.symm) with h|h
       ·exact zq j h.2 hji
       ·omega
    have Dz:pI Ps ops R0 R1 m Ss W0 a0 env' i W:=by
     refine⟨?_,fun j s hs hj ha=>RG.xk hc hl hd hes (zq j ha ϑ) (hleft j s hs (zq j ha ϑ)),fun hm j s hs hj ha=>
      zP hc hl hd hes (zq j ha ϑ) ((hnil (fun x hx=>by rw[hm] at hx;cases hx;exact hil)).2 j s hs (zq j ha ϑ))⟩
     unfold jH;by_cases hm:m=some i
     ·rw[aG hm];exact(hnil (fun x hx=>by rw[hm] at hx;cases hx;exact hil)).1
     ·rw[ak hm];exact yt
    have ho':lX ops i=o.dst:=wF ho;have hnd':(l++[i]).Nodup:=by
     rw[List.nodup_append];refine⟨hnd,by simp,fun x hx y hy=>?_⟩;have:y=i:=by simpa using hy
     subst this;exact fun e=>hil (e▸hx)
    have hl': ∀x∈l++[i],x<k:=fun x hx=>by
     rcases gq.1 hx with h|h
     ·exact hl x h
     ·have:x=i:=by simpa using h
      omega
    have hd':Down ops (· ∈l++[i]):=by
     intro x ox hox hx e he hb;rcases gq.1 hx with h|h
     ·exact mq _ (hd x ox hox h e he hb)
     ·have:x=i:=by simpa using h
      subst this;rw[ho] at hox;cases hox;exact mq _ (VQ o ho e he hb).1
    have hlen':(l++[i]).length+fuel=ops.size:=by simp;omega
    have close: ∀v W',(∀e:Nat->Value,(∀j,j<i->e j=env' j)->e i=v->Rec Ps P ops R0 R1 m Ss W0 a0 e i o)->
     (∀e:Nat->Value,(∀j,j∈l->e j=env' j)->(∀j,j<i->e j=env' j)->e i=v-> ∀j s,Ss.lookup j=some s->j∈l++[i]->RG.Left ops a0 e j s W')->R1 W0 W'->((∀x,m=some x->x∉l++[i])->R0 W0 W')->
     ((∀x,m=some x->x∉l++[i])-> ∀e:Nat->Value,(∀j,j∈l->e j=env' j)->(∀j,j<i->e j=env' j)->e i=v-> ∀j s,Ss.lookup j=some s->j∈l++[i]->rW Ps ops a0 e j W')->
     Any gL ops Qn fuel ((RP ops.size l).setIfInBounds i true) ((jd ops env a0 l).put o.dst v) W':=by
     intro v W' hR hLf hE hE0 hLp;have e1:jd ops (fun j=>if j=i then v else env' j) a0 (l++[i])=(jd ops env a0 l).put o.dst v:=by
      rw[jX,ho',aG rfl];congr 1;exact yQ fun j hj=>by
       have:j≠i:=fun e=>hil (e▸hj);rw[ak this];exact he j hj
     rw[<-e1, <-Dk];have hag: ∀j∈l,env j=(fun j=>if j=i then v else env' j) j:=fun j hj=>by
      have:j≠i:=fun e=>hil (e▸hj);simp only[ak this];exact hes j hj
     refine ih (l++[i]) _ W' hlen' hnd' hl' hd' ?_ ?_ hE (fun IB=>⟨hE0 IB,hLp IB _ (fun j hj=>ak (fun(e:j=i)=>hil (by rw[<-e];exact hj))) (fun j hj=>ak ϑ) (aG rfl)⟩)
     ·intro x hx ox hox;rcases gq.1 hx with h|h
      ·exact acY hc hl hd hag h hox (ι x h ox hox)
      ·have:x=i:=by simpa using h
       subst this;rw[ho] at hox;cases hox;exact hR _ (fun j hj=>ak ϑ) (aG rfl)
     ·exact hLf _ (fun j hj=>ak (fun(e:j=i)=>hil (by rw[<-e];exact hj))) (fun j hj=>ak ϑ) (aG rfl)
    have old: ∀(e:Nat->Value),(∀j,j∈l->e j=env' j)-> ∀j s W',Ss.lookup j=some s->j∈l->jH R0 R1 m j W W'->RG.Left ops a0 e j s W':=by
     intro e Ay j s W' hs hj hE;have hNj: ∃oj,ops[j]? =some oj:=⟨_,uO (eF (hl j hj) hc.kn)⟩;obtain⟨oj,hoj⟩:=hNj;have Y6:=V7 j oj (hl j hj) hoj;unfold Node at Y6;simp only[hs] at Y6;have h1:RG.Left ops a0 env' j s W:=RG.xk hc hl hd hes hj (hleft j s hs hj);refine RG.xk hc hl hd (fun x hx=>(Ay x hx).symm) hj ?_;unfold RG.Left at h1⊢;rw[pW hoj] at h1⊢;exact Y6.2.2.2.1 _ W W' h1 hE
    have aeh:(∀x,m=some x->x∉l)-> ∀(e:Nat->Value),(∀j,j∈l->e j=env' j)-> ∀j s W',Ss.lookup j=some s->j∈l->R0 W W'->rW Ps ops a0 e j W':=by
     intro IB e Ay j s W' hs hj hE;have hNj: ∃oj,ops[j]? =some oj:=⟨_,uO (eF (hl j hj) hc.kn)⟩;obtain⟨oj,hoj⟩:=hNj;have Y6:=V7 j oj (hl j hj) hoj;unfold Node at Y6;simp only[hs] at Y6;have h1:rW Ps ops a0 env' j W:=zP hc hl hd hes hj ((hnil IB).2 j s hs hj);refine zP hc hl hd (fun x hx=>(Ay x hx).symm) hj ?_;unfold rW at h1⊢;rw[pW hoj] at h1⊢;exact Y6.2.2.2.2 _ W W' h1 hE
    unfold Node at hN;cases hs:Ss.lookup i with
    |none=>
     simp only[hs] at hN;have same: ∀v,v=env' i->((Region.wanted o (yielded ops (pf ops a0 env' i).tmps)=true/\ ∃W,pI Ps ops R0 R1 m Ss W0 a0 env' i W/\(execOp (pf ops a0 env' i).eval o).run P W= .ok (.value (env' i)) W)∨
      (Region.wanted o (yielded ops (pf ops a0 env' i).tmps)=false/\env' i=undef))->Any gL ops Qn fuel ((RP ops.size l).setIfInBounds i true) ((jd ops env a0 l).put o.dst v) W:=by
      intro v hv θ;refine close v W ?_ ?_ yt ?_ ?_
      ·intro e Ay Zu;have hp:pf ops a0 e i=pf ops a0 env' i:=iX Ay;unfold Rec;simp only[hs];rw[hp,Zu,hv];exact θ.imp (fun x=>⟨x.1,by obtain⟨Wx,h1,h2⟩:=x.2;exact⟨Wx,qb (fun j hj=>(Ay j hj).symm) h1,h2⟩⟩) id
      ·intro e hel Ay Zu j s hjs hj;rcases gq.1 hj with h|h
       ·exact old e hel j s W hjs h (hR.YV j W)
       ·have:j=i:=by simpa using h
        subst this;rw[hs] at hjs;cases hjs
      ·intro IB;exact(hnil (fun x hx hxl=>IB x hx (mq _ hxl))).1
      ·intro IB e hel Ay Zu j s hjs hj;rcases gq.1 hj with h|h
       ·exact aeh (fun x hx hxl=>IB x hx (mq _ hxl)) e hel j s W hjs h (hR.refl W)
       ·have:j=i:=by simpa using h
        subst this;rw[hs] at hjs;cases hjs
     rcases hN with⟨hw,hrun⟩|⟨hw,hu⟩
     ·refine BB i o _ _ W (fun v W'=>v=env' i/\W'=W) (kD env a0 l) ho (by rw[hL.wanted];exact hw) ?_ ?_
      ·unfold Does;rw[hL.exec (hc.sel i o ho),hrun W Dz];exact⟨rfl,rfl⟩
      ·rintro v W' ⟨hv,rfl⟩;exact same v hv (.inl ⟨hw,_,Dz,hrun _ Dz⟩)
     ·refine K3 i o _ _ W ho (by rw[hL.wanted];exact hw) ?_;exact same undef hu.symm (.inr ⟨hw,hu⟩)
    |some s=>
     simp only[hs] at hN;obtain⟨hw,_,hdo,Y6⟩:=hN;have afK:=hdo W Dz;have afJ:Does X P o (jd ops env a0 l).eval W (fun v W'=>s.pure (lH o (pf ops a0 env' i)) v/\s.world (lH o (pf ops a0 env' i)) v W'/\uW R0 R1 m i W W'/\Ps i (lH o (pf ops a0 env' i)) v W'):=by
      unfold Does at afK⊢;rw[hL.exec (hc.sel i o ho)];exact afK
     refine BB i o _ _ W _ (kD env a0 l) ho (by rw[hL.wanted];exact hw) afJ ?_;rintro v W' ⟨aeR,hworld,hE,hpre⟩;refine close v W' ?_ ?_ ?_ ?_ ?_
     ·intro e Ay Zu;have hp:pf ops a0 e i=pf ops a0 env' i:=iX Ay;unfold Rec;simp only[hs];rw[hp,Zu];exact aeR
     ·intro e hel Ay Zu j s' hjs hj;rcases gq.1 hj with h|h
      ·refine old e hel j s' W' hjs h ?_;have hji:j≠i:=fun x=>hil (x▸h);unfold uW at hE;unfold jH;by_cases hm:m=some i
       ·rw[aG hm] at hE;rw[ak (by rw[hm];exact fun x=>hji (iJ x).symm)]
        exact hE
       ·rw[ak hm] at hE;split
        ·exact hE
        ·exact hR.sub hE
      ·have:j=i:=by simpa using h
       subst this;rw[hs] at hjs;cases hjs;unfold RG.Left;rw[pW ho,iX Ay,Zu];exact hworld
     ·refine hR.abd yt ?_;unfold uW at hE;split at hE
      ·exact hE
      ·exact hR.sub hE
     ·intro IB;have hm:m≠some i:=fun hm=>IB i hm ϕ;unfold uW at hE;rw[ak hm] at hE;exact hR.abe (hnil (fun x hx hxl=>IB x hx (mq _ hxl))).1 hE
     ·intro IB e hel Ay Zu j s' hjs hj;have hm:m≠some i:=fun hm=>IB i hm ϕ;unfold uW at hE;rw[ak hm] at hE;rcases gq.1 hj with h|h
      ·exact aeh (fun x hx hxl=>IB x hx (mq _ hxl)) e hel j s' W' hjs h hE
      ·have:j=i:=by simpa using h
       subst this;unfold rW;rw[pW ho,iX Ay,Zu];exact hpre
end
theorem xg {X:List PanicEntry->World->Prop} {gL:Nat->(Act->World->Prop)->Act->World->Prop} {P:Program} {ops:Array Oper} {Qn:Act->World->Prop} {Ps:rH} {R0 R1:World->World->Prop} {m:Option Nat} {Ss:List (Nat×RG.Spec)} {W0 W:World} {a0:Act} {k:Nat}
 (hR:EW R0 R1) (hc:Te ops k=true) (hmono: ∀i (K K':Act->World->Prop) a w,(∀a w,K a w->K' a w)->gL i K a w->gL i K' a w)
 (BB: ∀(i:Nat) (o:Oper) (K:Act->World->Prop) (a:Act) (W:World) (R:Value->World->Prop),a.defers=a0.defers->ops[i]? =some o->Region.wanted o (yielded ops a.tmps)=true->Does X P o a.eval W R->(∀v W',R v W'->K (a.put o.dst v) W')->gL i K a W)
 (K3: ∀(i:Nat) (o:Oper) (K:Act->World->Prop) (a:Act) (W:World),ops[i]? =some o->Region.wanted o (yielded ops a.tmps)=false->K (a.put o.dst undef) W->gL i K a W)
 (hW:R0 W0 W)
 (Bz:gy X Ps P ops R0 R1 m Ss (Seq gL Qn (List.range' k (ops.size-k))) W0 (ops.toList.take k) 0 a0 [] []):
 Any gL ops Qn ops.size (Array.replicate ops.size false) a0 W:=
 Z0 hR (RG.Ew hc) hmono BB K3 Bz ops.size [] (fun _=>undef) W ϕ List.nodup_nil ϕ (fun i o _ h=>by cases h) ϕ ϕ (hR.sub hW) (fun _=>⟨hW,by simp⟩)
end Go.RX
namespace Go.RG
open Go.RowKit
theorem OI {X:List PanicEntry->World->Prop} {P:Program} {o:Oper} {ρ:Operand->Value} {W:World} {R:Value->World->Prop} (h:Does P o ρ W R):RX.Does X P o ρ W R:=by
 unfold Does at h;unfold RX.Does;generalize (execOp ρ o).run P W=r at*
 cases r with
 |ok x w'=>cases x <;>first|exact h|exact Calls.mono h fun _ _=> .inl
 |halt x w'=>exact h
theorem aiD {P:Program} {o:Oper} {ρ:Operand->Value} {W:World} {R:Value->World->Prop} (h:RX.Does (fun _ _=>False) P o ρ W R):Does P o ρ W R:=by
 unfold RX.Does at h;unfold Does;generalize (execOp ρ o).run P W=r at*
 cases r with
 |ok x w'=>cases x <;>first|exact h|exact Calls.mono h fun _ _ h=>h.elim id fun⟨_,_,h⟩=>h.elim
 |halt x w'=>exact h
abbrev gy:=RX.gy (fun _ _=>False)
theorem xg {gL:Nat->(Act->World->Prop)->Act->World->Prop} {P:Program} {ops:Array Oper} {Qn:Act->World->Prop} {Ps:rH} {R0 R1:World->World->Prop} {m:Option Nat} {Ss:List (Nat×Spec)} {W0 W:World} {a0:Act} {k:Nat}
 (hR:EW R0 R1) (hc:Te ops k=true) (hmono: ∀i (K K':Act->World->Prop) a w,(∀a w,K a w->K' a w)->gL i K a w->gL i K' a w)
 (BB: ∀(i:Nat) (o:Oper) (K:Act->World->Prop) (a:Act) (W:World) (R:Value->World->Prop),ops[i]? =some o->Region.wanted o (yielded ops a.tmps)=true->Does P o a.eval W R->(∀v W',R v W'->K (a.put o.dst v) W')->gL i K a W)
 (K3: ∀(i:Nat) (o:Oper) (K:Act->World->Prop) (a:Act) (W:World),ops[i]? =some o->Region.wanted o (yielded ops a.tmps)=false->K (a.put o.dst undef) W->gL i K a W)
 (hW:R0 W0 W)
 (Bz:gy Ps P ops R0 R1 m Ss (Seq gL Qn (List.range' k (ops.size-k))) W0 (ops.toList.take k) 0 a0 [] []):
 Any gL ops Qn ops.size (Array.replicate ops.size false) a0 W:=
 RX.xg hR hc hmono (fun i o K a W R _ ho hw hd hK=>BB i o K a W R ho hw (aiD hd) hK) K3 hW Bz
theorem any_eq {P:Program} {ops:Array Oper} {Q:Exit->Act->World->Prop}: ∀(fuel:Nat) (l:Array Bool) (a:Act) (w:World),Any (wpOp P ops Q) ops (Q .normal) fuel l a w->wpAny P .any ops Q fuel l a w:=by
 intro fuel;induction fuel with
 |zero=>exact fun l a w h=>h
 |succ fuel ih=>exact fun l a w h=>⟨h.1,fun i hi=>wpOp_mono (fun a w=>ih _ a w) (h.2 i hi)⟩
theorem seq_eq {P:Program} {ops:Array Oper} {Q:Exit->Act->World->Prop} (l:List Nat):Seq (wpOp P ops Q) (Q .normal) l=wpOps P ops Q l:=by
 induction l with
 |nil=>rfl
 |cons i l ih=>funext a w;rw[wpOps_cons, <-ih];rfl
theorem uI {P:Program} {o:Oper} {a:Act} {W:World} {R:Value->World->Prop} {K:Act->World->Prop} {Q:Exit->Act->World->Prop} (h:Does P o a.eval W R) (hK: ∀v W',R v W'->K (a.put o.dst v) W'):o.wp P a W K Q:=by
 unfold Does at h;unfold Oper.wp;generalize (execOp a.eval o).run P W=r at*
 cases r with
 |ok x w'=>
  cases x <;>simp only[Oper.upon] at h⊢ <;>first|exact hK _ _ h|exact h.elim|skip
  exact Calls.mono h (fun e w'' ⟨v,he,hr⟩=>by subst he;exact hK _ _ hr)
 |halt x w'=>exact h.elim
end Go.RG
namespace Go.RX
open Go.RowKit Go.RG
theorem uI {X:List PanicEntry->World->Prop} {P:Program} {o:Oper} {a:Act} {W:World} {R:Value->World->Prop} {K:Act->World->Prop} {Q:Exit->Act->World->Prop} (h:Does X P o a.eval W R) (hK: ∀v W',R v W'->K (a.put o.dst v) W') (hX: ∀ps W,X ps W->Q (.panic ps) a W):o.wp P a W K Q:=by
 unfold Does at h;unfold Oper.wp;generalize (execOp a.eval o).run P W=r at*
 cases r with
 |ok x w'=>
  cases x <;>simp only[Oper.upon] at h⊢ <;>first|exact hK _ _ h|exact h.elim|skip
  exact Calls.mono h (fun e w'' h=>by
   rcases h with⟨v,he,hr⟩|⟨ps,he,hx⟩
   ·subst he;exact hK _ _ hr
   ·subst he;exact hX _ _ hx)
 |halt x w'=>exact h.elim
theorem jF {X:List PanicEntry->World->Prop} {R0 R1:World->World->Prop} (hR:EW R0 R1) {Ps:rH} {P:Program} {id:Nat} {ops:List Oper} {Q:Exit->Act->World->Prop} {a:Act} {w:World} (hdr:R0 w w.drew) (k:Nat) (m:Option Nat) (Ss:List (Nat×RG.Spec))
 (hX: ∀ps a1 W,a1.defers=a.defers->X ps W->Q (.panic ps) a1 W) (hm:P.follows .mixedOrders=true) (hc:Te ops.toArray k=true)
 (h:gy X Ps P ops.toArray R0 R1 m Ss (fun a w=>wpList P ops.toArray Q (ops.drop k) a w) w (ops.take k) 0 a [] []):(Code.region id ops.toArray true).wp P Q a w:=by
 refine wp_region_any hm (any_eq _ _ _ _ ?_);refine xg (X:=X) (Ps:=Ps) (P:=P) (R0:=R0) (R1:=R1) (m:=m) (Ss:=Ss) (W0:=w) hR hc (fun i K K' a w h hs=>wpOp_mono h hs) ?_ ?_ hdr ?_
 ·intro i o K a W R hdf ho hw hd hK;unfold wpOp;simp only[ho];rw[aG hw];exact .inl (uI hd hK (fun ps W=>hX ps _ W hdf))
 ·intro i o K a W ho hw hK;unfold wpOp;simp only[ho];rw[ak (by rw[hw];simp)];exact hK
 ·have e:(fun a w=>wpList P ops.toArray Q (ops.drop k) a w)=Seq (wpOp P ops.toArray Q) (Q .normal) (List.range' k (ops.toArray.size-k)):=by
   funext a w;rw[seq_eq];have hkn:=(RG.Ew hc).kn;have IY:ops.toArray.size-k=(ops.drop k).length:=ϕ;rw[IY,wpOps_eq_wpList (ops.drop k) k (fun j=>ϕ)]
  rw[<-e];exact h
theorem fw (X:List PanicEntry->World->Prop) {P:Program} {id:Nat} {ops:List Oper} {Q:Exit->Act->World->Prop} {a:Act} {w:World} (k:Nat) (Ms:List Nat) (m:Option Nat) (Ss:List (Nat×RG.Spec))
 (hX: ∀ps a1 W,a1.defers=a.defers->X ps W->Q (.panic ps) a1 W) (hm:P.follows .mixedOrders=true) (hc:Te ops.toArray k=true)
 (h:gy X Kz P ops.toArray (Ext []) (Ext Ms) m Ss (fun a w=>wpList P ops.toArray Q (ops.drop k) a w) w (ops.take k) 0 a [] []):(Code.region id ops.toArray true).wp P Q a w:=
 jF (yP Ms) ((Ext.refl [] w).drew) k m Ss hX hm hc h
end Go.RX
namespace Go.RG
open Go.RowKit
theorem jF {R0 R1:World->World->Prop} (hR:EW R0 R1) {Ps:rH} {P:Program} {id:Nat} {ops:List Oper} {Q:Exit->Act->World->Prop} {a:Act} {w:World} (hdr:R0 w w.drew) (k:Nat) (m:Option Nat) (Ss:List (Nat×Spec))
 (hm:P.follows .mixedOrders=true) (hc:Te ops.toArray k=true)
 (h:gy Ps P ops.toArray R0 R1 m Ss (fun a w=>wpList P ops.toArray Q (ops.drop k) a w) w (ops.take k) 0 a [] []):(Code.region id ops.toArray true).wp P Q a w:=
 RX.jF hR hdr k m Ss (fun _ _ _ _ h=>h.elim) hm hc h
theorem fw {P:Program} {id:Nat} {ops:List Oper} {Q:Exit->Act->World->Prop} {a:Act} {w:World} (k:Nat) (Ms:List Nat) (m:Option Nat) (Ss:List (Nat×Spec))
 (hm:P.follows .mixedOrders=true) (hc:Te ops.toArray k=true)
 (h:gy Kz P ops.toArray (Ext []) (Ext Ms) m Ss (fun a w=>wpList P ops.toArray Q (ops.drop k) a w) w (ops.take k) 0 a [] []):(Code.region id ops.toArray true).wp P Q a w:=
 jF (yP Ms) ((Ext.refl [] w).drew) k m Ss hm hc h
structure rJ (B:Nat) (Ms:List Nat) (w w':World):Prop where
 os:w'.os=w.os
 tape:w'.tape=w.tape
 output:w'.output=w.output
 size:w.heap.size<=w'.heap.size
 block: ∀(k:Nat),k<w.heap.size->k<B->k∉Ms->w'.heap[k]? =w.heap[k]?
theorem rJ.uy {B:Nat} {Ms:List Nat} {w w':World} (h:Ext [] w w'):rJ B Ms w w':=
 ⟨h.os,h.tape,h.output,h.size,fun k hk _ _=>h.block k hk ϕ⟩
theorem rJ.trans {B:Nat} {Ms:List Nat} {a b c:World} (h:rJ B Ms a b) (k:rJ B Ms b c):rJ B Ms a c:=
 ⟨k.os.trans h.os,k.tape.trans h.tape,k.output.trans h.output,eU h.size k.size,
   fun i hi hb hm=>(k.block i (eF hi h.size) hb hm).trans (h.block i hi hb hm)⟩
theorem Rk (B:Nat) (Ms:List Nat):EW (Ext []) (rJ B Ms):=⟨Ext.refl [],Ext.trans,rJ.trans,rJ.uy⟩
theorem og {P:Program} {id:Nat} {ops:List Oper} {Q:Exit->Act->World->Prop} {a:Act} {w:World} (k:Nat) (Ms:List Nat) (m:Option Nat) (Ss:List (Nat×Spec)) (Ps:rH)
 (hm:P.follows .mixedOrders=true) (hc:Te ops.toArray k=true)
 (h:gy Ps P ops.toArray (Ext []) (rJ w.heap.size Ms) m Ss (fun a w=>wpList P ops.toArray Q (ops.drop k) a w) w (ops.take k) 0 a [] []):(Code.region id ops.toArray true).wp P Q a w:=
 jF (Rk _ _) ((Ext.refl [] w).drew) k m Ss hm hc h
class Kept (R1:World->World->Prop) (Ms:outParam (List Nat)) (W0:World):Prop where
 nil: ∀{a b},Ext [] a b->R1 a b
 ext: ∀{W},R1 W0 W->Ext Ms W0 W
instance (Ms:List Nat) (W0:World):Kept (Ext Ms) Ms W0:=⟨Ext.nil,id⟩
instance (Ms:List Nat) (W0:World):Kept (rJ W0.heap.size Ms) Ms W0:=⟨rJ.uy,fun h=>⟨h.os,h.tape,h.output,h.size,fun k hk hm=>h.block k hk hk hm⟩⟩
section
variable {P : Program} {ops : Array Oper} {R1 : World → World → Prop} {Ms : List Nat} {m : Option Nat} {Ss : List (Nat × Spec)} {Fin : Act → World → Prop} {W0 : World} {o : Oper} {rest : List Oper} {i : Nat} {a : Act} {F G : Facts} {Ps : rH}
theorem Pj.ext [Kept R1 Ms W0] {W:World} (h:Pj ops (Ext []) R1 m W0 F G i W):Ext Ms W0 W:=by
 have h1:=h.1;unfold jH at h1;split at h1
 ·exact h1.nil
 ·exact Kept.ext h1
theorem II [Kept R1 Ms W0] {W W':World} (h:Ext [] W W'):uW (Ext []) R1 m i W W':=by
 unfold uW;split
 ·exact Kept.nil (R1:=R1) (W0:=W0) h
 ·exact h
def Spec.block (B:Nat) (cs:Array Value) (t:TypeId):Spec:=
 ⟨fun _ v=> ∃b:Nat,v= .pointer (some ⟨b,0,none⟩),fun _ v W=> ∃b:Nat,v= .pointer (some ⟨b,0,none⟩)/\B<=b/\W.heap[b]? =some (.cells cs t (0,0))⟩
def Spec.slice (B:Nat) (cs:Array Value) (t:TypeId) (n:Nat):Spec:=
 ⟨fun _ v=> ∃b:Nat,v= .slice (some ⟨b,0,none⟩) n n,fun _ v W=> ∃b:Nat,v= .slice (some ⟨b,0,none⟩) n n/\B<=b/\W.heap[b]? =some (.cells cs t (0,0))⟩
end
end Go.RG
namespace Go.RX
open Go.RowKit Go.RG
section
variable {X : List PanicEntry → World → Prop} {P : Program} {ops : Array Oper} {R1 : World → World → Prop} {Ms : List Nat} {m : Option Nat} {Ss : List (Nat × RG.Spec)} {Fin : Act → World → Prop} {W0 : World} {o : Oper} {rest : List Oper} {i : Nat} {a : Act} {F G : Facts} {Ps : rH}
theorem eY [Kept R1 Ms W0] (hs:Ss.lookup i=none) (v:Value) (hw:Region.wanted o (yielded ops a.tmps)=true)
 (hr: ∀W:World,(∀b off,b<W0.heap.size->b∉Ms->W.cell? ⟨b,off,none⟩=W0.cell? ⟨b,off,none⟩)->(execOp a.eval o).run P W= .ok (.value v) W)
 (ht:gy X Ps P ops (Ext []) R1 m Ss Fin W0 rest (i+1) (a.put o.dst v) F G):gy X Ps P ops (Ext []) R1 m Ss Fin W0 (o::rest) i a F G:=by
 unfold gy;simp only[hs];exact⟨v,.inl ⟨hw,fun W hW=>hr W fun b off hb hm=>hW.ext.cell b off hb hm⟩,ht⟩
theorem eX [Kept R1 Ms W0] (hs:Ss.lookup i=none) (v:Value) (hw:Region.wanted o (yielded ops a.tmps)=true)
 (hr: ∀W:World,Ext Ms W0 W->(∀f∈F,jC ops f.1 i=true->f.2 W)->(execOp a.eval o).run P W= .ok (.value v) W)
 (ht:gy X Ps P ops (Ext []) R1 m Ss Fin W0 rest (i+1) (a.put o.dst v) F G):gy X Ps P ops (Ext []) R1 m Ss Fin W0 (o::rest) i a F G:=by
 unfold gy;simp only[hs];exact⟨v,.inl ⟨hw,fun W hW=>hr W hW.ext hW.2.1⟩,ht⟩
theorem Ad (hs:Ss.lookup i=none) (hw:Region.wanted o (yielded ops a.tmps)=false)
 (ht:gy X Ps P ops (Ext []) R1 m Ss Fin W0 rest (i+1) (a.put o.dst undef) F G):gy X Ps P ops (Ext []) R1 m Ss Fin W0 (o::rest) i a F G:=by
 unfold gy;simp only[hs];exact⟨undef,.inr ⟨hw,rfl⟩,ht⟩
theorem aY (s:RG.Spec) (hs:Ss.lookup i=some s) (hw:Region.wanted o (yielded ops a.tmps)=true) (hex: ∃v,s.pure (lH o a) v)
 (hdo: ∀W:World,jH (Ext []) R1 m i W0 W->(∀f∈F,jC ops f.1 i=true->f.2 W)->Does X P o a.eval W (fun v W'=>s.pure (lH o a) v/\s.world (lH o a) v W'/\uW (Ext []) R1 m i W W'))
 (Y6: ∀v W W',s.world (lH o a) v W->jH (Ext []) R1 m i W W'->s.world (lH o a) v W')
 (ht: ∀v,s.pure (lH o a) v->gy X Ps P ops (Ext []) R1 m Ss Fin W0 rest (i+1) (a.put o.dst v) ((i,s.world (lH o a) v)::F) ((i,Ps i (lH o a) v)::G)) (hps: ∀x v W,Ps i x v W:=by intro _ _ _;exact True.intro):gy X Ps P ops (Ext []) R1 m Ss Fin W0 (o::rest) i a F G:=by
 unfold gy;simp only[hs];refine⟨hw,hex,fun W hW=>?_,⟨Y6,fun v' _ W' _ _=>hps _ _ _⟩,ht⟩;have:=hdo W hW.1 hW.2.1;unfold Does at this⊢;split at this
 ·exact⟨this.1,this.2.1,this.2.2,hps _ _ _⟩
 ·exact⟨this.1,this.2.1,this.2.2,hps _ _ _⟩
 ·exact this.mono fun e w' h=>h.imp (fun⟨v,h1,h2,h3,h4⟩=>⟨v,h1,h2,h3,h4,hps _ _ _⟩) id
 ·exact this.elim
theorem bM {ρ:Operand->Value} {W:World} {R:Value->World->Prop} (f:FuncId) (args:Array Value) (he:(execOp ρ o).run P W= .ok (.enter f args) W)
 (h:Calls P f args W (fun e W'=>(∃v,e= .returned v/\R v W')∨ ∃ps,e= .panicked ps/\X ps W')):Does X P o ρ W R:=by
 unfold Does;rw[he];exact h
theorem gH {ρ:Operand->Value} {W W':World} {R:Value->World->Prop} (v:Value) (he:(execOp ρ o).run P W= .ok (.value v) W') (h:R v W'):Does X P o ρ W R:=by
 unfold Does;rw[he];exact h
theorem gQ (B:Nat) (cs:Array Value) (t:TypeId) (hs:Ss.lookup i=some (RG.Spec.block B cs t)) (hB:B<=W0.heap.size) (hw:Region.wanted o (yielded ops a.tmps)=true) (η: ∀x∈Ms,x<B) (hmi:m≠some i)
 (he: ∀W:World,(∀b off,b<W0.heap.size->b∉Ms->W.cell? ⟨b,off,none⟩=W0.cell? ⟨b,off,none⟩)->(execOp a.eval o).run P W= .ok (.value (.pointer (some ⟨W.heap.size,0,none⟩))) (W.alloc (.cells cs t)))
 (ht: ∀b:Nat,gy X Ps P ops (Ext []) (Ext Ms) m Ss Fin W0 rest (i+1) (a.put o.dst (.pointer (some ⟨b,0,none⟩))) ((i,fun W=> ∃c:Nat,Value.pointer (some ⟨b,0,none⟩)= .pointer (some ⟨c,0,none⟩)/\B<=c/\W.heap[c]? =some (.cells cs t (0,0)))::F) ((i,Ps i (lH o a) (.pointer (some ⟨b,0,none⟩)))::G)) (hps: ∀x v W,Ps i x v W:=by intro _ _ _;exact True.intro):
 gy X Ps P ops (Ext []) (Ext Ms) m Ss Fin W0 (o::rest) i a F G:=by
 refine aY _ hs hw ⟨.pointer (some ⟨0,0,none⟩),0,rfl⟩ ?_ ?_ ?_ ?_
 ·exact zbk
 ·exact zbP
 ·rintro v ⟨b,rfl⟩;exact ht b
 ·exact hps
theorem cB (B:Nat) (cs:Array Value) (t:TypeId) (n:Nat) (hs:Ss.lookup i=some (RG.Spec.slice B cs t n)) (hB:B<=W0.heap.size) (hw:Region.wanted o (yielded ops a.tmps)=true) (η: ∀x∈Ms,x<B) (hmi:m≠some i)
 (he: ∀W:World,(∀b off,b<W0.heap.size->b∉Ms->W.cell? ⟨b,off,none⟩=W0.cell? ⟨b,off,none⟩)->(execOp a.eval o).run P W= .ok (.value (.slice (some ⟨W.heap.size,0,none⟩) n n)) (W.alloc (.cells cs t)))
 (ht: ∀b:Nat,gy X Ps P ops (Ext []) (Ext Ms) m Ss Fin W0 rest (i+1) (a.put o.dst (.slice (some ⟨b,0,none⟩) n n)) ((i,fun W=> ∃c:Nat,Value.slice (some ⟨b,0,none⟩) n n= .slice (some ⟨c,0,none⟩) n n/\B<=c/\W.heap[c]? =some (.cells cs t (0,0)))::F) ((i,Ps i (lH o a) (.slice (some ⟨b,0,none⟩) n n))::G)) (hps: ∀x v W,Ps i x v W:=by intro _ _ _;exact True.intro):
 gy X Ps P ops (Ext []) (Ext Ms) m Ss Fin W0 (o::rest) i a F G:=by
 refine aY _ hs hw ⟨.slice (some ⟨0,0,none⟩) n n,0,rfl⟩ ?_ ?_ ?_ ?_
 ·exact zbk
 ·exact zbP
 ·rintro v ⟨b,rfl⟩;exact ht b
 ·exact hps
end
section
variable {X : List PanicEntry → World → Prop} {P : Program} {ops : Array Oper} {R1 : World → World → Prop} {Ms : List Nat} {m : Option Nat} {Ss : List (Nat × RG.Spec)} {Fin : Act → World → Prop} {W0 : World} {o : Oper} {rest : List Oper} {i : Nat} {a : Act} {F G : Facts} {Ps : rH}
theorem zd [Kept R1 Ms W0] {v:Value} (ht:gy X Ps P ops (Ext []) R1 m Ss Fin W0 rest (i+1) (a.put o.dst v) F G) (hs:Ss.lookup i=none:=by rfl) (hw:Region.wanted o (yielded ops a.tmps)=true:=by rfl)
 (hr: ∀W:World,(∀b off,b<W0.heap.size->b∉Ms->W.cell? ⟨b,off,none⟩=W0.cell? ⟨b,off,none⟩)->(execOp a.eval o).run P W= .ok (.value v) W:=by
   intro W hW;go_simp;(try simp(disch:=omega) only[IntWalk.i64_in,Int.tdiv_eq_ediv_of_nonneg]);try rfl):gy X Ps P ops (Ext []) R1 m Ss Fin W0 (o::rest) i a F G:=
 eY hs v hw hr ht
end
end Go.RX
namespace Go.RG
open Go.RowKit
section
variable {P : Program} {ops : Array Oper} {R1 : World → World → Prop} {Ms : List Nat} {m : Option Nat} {Ss : List (Nat × Spec)} {Fin : Act → World → Prop} {W0 : World} {o : Oper} {rest : List Oper} {i : Nat} {a : Act} {F G : Facts} {Ps : rH}
abbrev eY:= @RX.eY fun _ _=>False
abbrev eX:= @RX.eX fun _ _=>False
abbrev Ad:= @RX.Ad fun _ _=>False
def Spec.val (v:Value):Spec:=⟨fun _ x=>x=v,fun _ _ _=>True⟩
theorem dL [Kept R1 Ms W0] (v:Value) (hs:Ss.lookup i=some (Spec.val v)) (hw:Region.wanted o (yielded ops a.tmps)=true) (f:FuncId) (args:Array Value)
 (he: ∀W:World,(∀b off,b<W0.heap.size->b∉Ms->W.cell? ⟨b,off,none⟩=W0.cell? ⟨b,off,none⟩)->(execOp a.eval o).run P W= .ok (.enter f args) W)
 (qY: ∀W:World,Ext Ms W0 W->(∀f∈F,jC ops f.1 i=true->f.2 W)->Calls P f args W (fun e W'=>e= .returned v/\Ϙ W W'))
 (ht:gy Ps P ops (Ext []) R1 m Ss Fin W0 rest (i+1) (a.put o.dst v) F G) (hps: ∀x v W,Ps i x v W:=by intro _ _ _;exact True.intro):gy Ps P ops (Ext []) R1 m Ss Fin W0 (o::rest) i a F G:=by
 have mono: ∀(rest:List Oper) (i:Nat) (a:Act) (F F' G G':Facts),(∀f,f∈F'->f∈F∨ ∀W,f.2 W)->(∀f,f∈F->f∈F')->(∀f,f∈G->f∈G')->gy Ps P ops (Ext []) R1 m Ss Fin W0 rest i a F G->gy Ps P ops (Ext []) R1 m Ss Fin W0 rest i a F' G':=by
  intro rest;induction rest with
  |nil=>
   intro i a F F' G G' h1 h2 h3 h W hW hF;exact h W hW (fun f hf=>hF f (h2 f hf))
  |cons o rest ih=>
   intro i a F F' G G' h1 h2 h3 h;have Dz: ∀W,Pj ops (Ext []) R1 m W0 F' G' i W->Pj ops (Ext []) R1 m W0 F G i W:=fun W hW=>⟨hW.1,fun f hf ha=>hW.2.1 f (h2 f hf) ha,fun hm f hf ha=>hW.2.2 hm f (h3 f hf) ha⟩;have Qo: ∀(x:Nat×(World->Prop)) (A B:Facts),(∀f,f∈A->f∈B)-> ∀f,f∈x::A->f∈x::B:=by
    intro x A B hAB f hf;rcases eQ.1 hf with rfl|hf
    ·simp
    ·simp[hAB f hf]
   unfold gy RX.gy at h⊢;cases hs:Ss.lookup i with
   |none=>
    simp only[hs] at h⊢;obtain⟨v,hv,ht⟩:=h;exact⟨v,hv.imp (fun x=>⟨x.1,fun W hW=>x.2 W (Dz W hW)⟩) id,ih _ _ _ _ _ _ h1 h2 h3 ht⟩
   |some s=>
    simp only[hs] at h⊢;obtain⟨x1,x2,x3,x4,x5⟩:=h;refine⟨x1,x2,fun W hW=>x3 W (Dz W hW),x4,fun v hv=>ih _ _ _ _ _ _ ?_ (Qo _ _ _ h2) (Qo _ _ _ h3) (x5 v hv)⟩;intro f hf;rcases eQ.1 hf with rfl|hf
    ·exact .inl ϕ
    ·exact(h1 f hf).imp (fun h=>by simp[h]) id
 unfold gy RX.gy;simp only[hs];refine⟨hw,⟨v,rfl⟩,fun W hW=>?_,⟨fun _ _ _ _ _=>trivial,fun v' _ W' _ _=>hps _ _ _⟩,fun v' hv=>?_⟩
 ·refine OI ?_;unfold Does;rw[he W (fun b off hb hm=>hW.ext.cell b off hb hm)];exact(qY W hW.ext hW.2.1).mono fun e W' ⟨h1,h2⟩=>⟨v,h1,rfl,trivial,II (R1:=R1) (W0:=W0) (Ext.ax h2),hps _ _ _⟩
 ·have:v'=v:=hv;subst this;refine mono _ _ _ _ _ _ _ ?_ ?_ ?_ ht
  ·intro f hf;rcases eQ.1 hf with rfl|hf
   ·exact .inr (fun _=>trivial)
   ·exact .inl hf
  ·intro f hf;simp[hf]
  ·intro f hf;simp[hf]
theorem aY (s:Spec) (hs:Ss.lookup i=some s) (hw:Region.wanted o (yielded ops a.tmps)=true) (hex: ∃v,s.pure (lH o a) v)
 (hdo: ∀W:World,jH (Ext []) R1 m i W0 W->(∀f∈F,jC ops f.1 i=true->f.2 W)->Does P o a.eval W (fun v W'=>s.pure (lH o a) v/\s.world (lH o a) v W'/\uW (Ext []) R1 m i W W'))
 (Y6: ∀v W W',s.world (lH o a) v W->jH (Ext []) R1 m i W W'->s.world (lH o a) v W')
 (ht: ∀v,s.pure (lH o a) v->gy Ps P ops (Ext []) R1 m Ss Fin W0 rest (i+1) (a.put o.dst v) ((i,s.world (lH o a) v)::F) ((i,Ps i (lH o a) v)::G)) (hps: ∀x v W,Ps i x v W:=by intro _ _ _;exact True.intro):gy Ps P ops (Ext []) R1 m Ss Fin W0 (o::rest) i a F G:=
 RX.aY s hs hw hex (fun W a b=>OI (hdo W a b)) Y6 ht hps
theorem jG (s:Spec) (hs:Ss.lookup i=some s) (hw:Region.wanted o (yielded ops a.tmps)=true) (hex: ∃v,s.pure (lH o a) v)
 (hdo: ∀W:World,jH (Ext []) R1 m i W0 W->(∀f∈F,jC ops f.1 i=true->f.2 W)->(m=some i-> ∀g∈G,jC ops g.1 i=true->g.2 W)->
   Does P o a.eval W (fun v W'=>s.pure (lH o a) v/\s.world (lH o a) v W'/\uW (Ext []) R1 m i W W'/\Ps i (lH o a) v W'))
 (Y6: ∀v W W',s.world (lH o a) v W->jH (Ext []) R1 m i W W'->s.world (lH o a) v W') (hsp: ∀v W W',Ps i (lH o a) v W->Ext [] W W'->Ps i (lH o a) v W')
 (ht: ∀v,s.pure (lH o a) v->gy Ps P ops (Ext []) R1 m Ss Fin W0 rest (i+1) (a.put o.dst v) ((i,s.world (lH o a) v)::F) ((i,Ps i (lH o a) v)::G)):gy Ps P ops (Ext []) R1 m Ss Fin W0 (o::rest) i a F G:=by
 unfold gy RX.gy;simp only[hs];exact⟨hw,hex,fun W hW=>OI (hdo W hW.1 hW.2.1 hW.2.2),⟨Y6,hsp⟩,ht⟩
theorem bM {ρ:Operand->Value} {W:World} {R:Value->World->Prop} (f:FuncId) (args:Array Value) (he:(execOp ρ o).run P W= .ok (.enter f args) W)
 (h:Calls P f args W (fun e W'=> ∃v,e= .returned v/\R v W')):Does P o ρ W R:=by
 unfold Does;rw[he];exact h
theorem gH {ρ:Operand->Value} {W W':World} {R:Value->World->Prop} (v:Value) (he:(execOp ρ o).run P W= .ok (.value v) W') (h:R v W'):Does P o ρ W R:=by
 unfold Does;rw[he];exact h
abbrev gQ:= @RX.gQ fun _ _=>False
abbrev cB:= @RX.cB fun _ _=>False
end
section
variable {P : Program} {ops : Array Oper} {R1 : World → World → Prop} {Ms : List Nat} {m : Option Nat} {Ss : List (Nat × Spec)} {Fin : Act → World → Prop} {W0 : World} {o : Oper} {rest : List Oper} {i : Nat} {a : Act} {F G : Facts} {Ps : rH}
theorem zd [Kept R1 Ms W0] {v:Value} (ht:gy Ps P ops (Ext []) R1 m Ss Fin W0 rest (i+1) (a.put o.dst v) F G) (hs:Ss.lookup i=none:=by rfl) (hw:Region.wanted o (yielded ops a.tmps)=true:=by rfl)
 (hr: ∀W:World,(∀b off,b<W0.heap.size->b∉Ms->W.cell? ⟨b,off,none⟩=W0.cell? ⟨b,off,none⟩)->(execOp a.eval o).run P W= .ok (.value v) W:=by
   intro W hW;go_simp;(try simp(disch:=omega) only[IntWalk.i64_in,Int.tdiv_eq_ediv_of_nonneg]);try rfl):gy Ps P ops (Ext []) R1 m Ss Fin W0 (o::rest) i a F G:=
 eY hs v hw hr ht
theorem zn [Kept R1 Ms W0] {v:Value} (ht:gy Ps P ops (Ext []) R1 m Ss Fin W0 rest (i+1) (a.put o.dst v) F G) (hs:Ss.lookup i=none:=by rfl) (hw:Region.wanted o (yielded ops a.tmps)=true:=by rfl)
 (hr: ∀W:World,(∀b off,b<W0.heap.size->b∉Ms->W.cell? ⟨b,off,none⟩=W0.cell? ⟨b,off,none⟩)->(execOp a.eval o).run P W= .ok (.value v) W:=by
   intro W hW;go_simp;(try simp(disch:=omega) only[IntWalk.i64_in]);try rfl):gy Ps P ops (Ext []) R1 m Ss Fin W0 (o::rest) i a F G:=
 eY hs v hw hr ht
theorem zk (ht:gy Ps P ops (Ext []) R1 m Ss Fin W0 rest (i+1) (a.put o.dst undef) F G) (hs:Ss.lookup i=none:=by rfl) (hw:Region.wanted o (yielded ops a.tmps)=false:=by rfl):gy Ps P ops (Ext []) R1 m Ss Fin W0 (o::rest) i a F G:=
 Ad hs hw ht
theorem zv [Kept R1 Ms W0] {v:Value} (f:FuncId) {args:Array Value} (hs:Ss.lookup i=some (Spec.val v):=by rfl) (hw:Region.wanted o (yielded ops a.tmps)=true:=by rfl)
 (he: ∀W:World,(∀b off,b<W0.heap.size->b∉Ms->W.cell? ⟨b,off,none⟩=W0.cell? ⟨b,off,none⟩)->(execOp a.eval o).run P W= .ok (.enter f args) W:=by
   intro W hW;go_simp;(try simp(disch:=omega) only[IntWalk.i64_in,Int.tdiv_eq_ediv_of_nonneg]);try rfl)
 (h: ∀W:World,Ext Ms W0 W->(∀f∈F,jC ops f.1 i=true->f.2 W)->Calls P f args W (fun e W'=>e= .returned v/\Ϙ W W'))
 (t:gy Ps P ops (Ext []) R1 m Ss Fin W0 rest (i+1) (a.put o.dst v) F G) (hps: ∀x v W,Ps i x v W:=by intro _ _ _;exact True.intro):gy Ps P ops (Ext []) R1 m Ss Fin W0 (o::rest) i a F G:=
 dL v hs hw f args he h t hps
theorem zw [Kept R1 Ms W0] {v:Value} (f:FuncId) {args:Array Value} (hs:Ss.lookup i=some (Spec.val v):=by rfl) (hw:Region.wanted o (yielded ops a.tmps)=true:=by rfl)
 (he: ∀W:World,(∀b off,b<W0.heap.size->b∉Ms->W.cell? ⟨b,off,none⟩=W0.cell? ⟨b,off,none⟩)->(execOp a.eval o).run P W= .ok (.enter f args) W:=by
   intro W hW;go_simp;try rfl)
 (h: ∀W:World,Ext Ms W0 W->(∀f∈F,jC ops f.1 i=true->f.2 W)->Calls P f args W (fun e W'=>e= .returned v/\Ϙ W W'))
 (t:gy Ps P ops (Ext []) R1 m Ss Fin W0 rest (i+1) (a.put o.dst v) F G) (hps: ∀x v W,Ps i x v W:=by intro _ _ _;exact True.intro):gy Ps P ops (Ext []) R1 m Ss Fin W0 (o::rest) i a F G:=
 dL v hs hw f args he h t hps
theorem zg {P:Program} {id:Nat} {ops:List Oper} {Q:Exit->Act->World->Prop} {a:Act} {w:World} (k:Nat) (Ms:List Nat) (m:Option Nat) (Ss:List (Nat×Spec))
 (h:gy Kz P ops.toArray (Ext []) (Ext Ms) m Ss (fun a w=>wpList P ops.toArray Q (ops.drop k) a w) w (ops.take k) 0 a [] [])
 (hm:P.follows .mixedOrders=true:=by as_aux_lemma=>kernel_rfl) (hc:Te ops.toArray k=true:=by as_aux_lemma=>kernel_rfl):(Code.region id ops.toArray true).wp P Q a w:=
 fw k Ms m Ss hm hc h
end
end Go.RG
namespace Go
theorem zp:(∀(a:Act) (d:Tmp) (v:Value),a.put (some d) v={a with tmps:=a.tmps.setIfInBounds d v})/\(∀(a:Act) (v:Value),a.put none v=a)/\
 (∀(l:List Value) (i:Nat) (v:Value),l.toArray.setIfInBounds i v=(l.set i v).toArray)/\(∀(x:Value) (xs:List Value) (n:Nat) (v:Value),(x::xs).set (n+1) v=x::xs.set n v)/\(∀(x:Value) (xs:List Value) (v:Value),(x::xs).set 0 v=v::xs):=
 ⟨fun _ _ _=>rfl,fun _ _=>rfl,fun _ _ _=>nC ..,fun _ _ _ _=>rfl,fun _ _ _=>rfl⟩
theorem zt:(∀(i:Nat) (x:Oper) (xs:List Oper),List.take (i+1) (x::xs)=x::List.take i xs)/\(∀xs:List Oper,List.take 0 xs=[])/\
 (∀(i:Nat) (x:Oper) (xs:List Oper),List.drop (i+1) (x::xs)=List.drop i xs)/\(∀xs:List Oper,List.drop 0 xs=xs):=
 ⟨fun _ _ _=>rfl,fun _=>rfl,fun _ _ _=>rfl,fun _=>rfl⟩
end Go
end

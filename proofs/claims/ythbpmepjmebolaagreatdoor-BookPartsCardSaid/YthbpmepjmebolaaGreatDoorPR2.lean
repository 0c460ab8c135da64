/-
  Texts of this claim, packed by a program: Math MA VA Region.
-/
import Derived.Test.YthbpmepjmebolaaGreatDoorPR0
import Derived.WalkKit
import Derived.WalkLawsBesides
import Derived.WalkSpells
import Derived.Outline
import Derived.Handy
import Derived.KernelRfl
import Derived.Lib.Hide
import Derived.Orders
import Derived.OrdersIn
import Derived.Below
import Derived.Tactics
set_option maxHeartbeats 8000000
set_option maxRecDepth 100000
set_option linter.all false
section
namespace jv
abbrev dY:=Int×Int
abbrev Fv:=Int×Int×Int
structure dh where
 last:Int
 size:Int
 bn:Int
 die:Int
 uK:Int
 start:dY
 bU:List dY
 turns:List Int
 readings:List Fv
def og (n lo hi:Int):Bool:=decide (lo<=n)&&decide (n<=hi)
def wJ (r:dY) (hi:Int):Bool:=decide (0<=r.1)&&decide (r.1<=r.2)&&decide (r.2<=hi)
def zi (last:Int):Int->List Int->Bool
 |_,[]=>true
 |p,n::l=>og n (p+1) last&&zi last n l
def oI (last:Int) (l:List Int):Bool:=zi last (-1) l
def BF (last:Int) (x:Fv):Bool:=og x.1 0 last&&og x.2.1 0 1000&&og x.2.2 0 50
def fQ (h:dh):Bool:=
 decide (0<=h.last)&&og h.size 0 20&&og h.bn 0 100&&decide (0<=h.die)&&og h.uK h.die 500&&wJ h.start 500
def valid (h:dh):Bool:=
 fQ h&&decide ((h.bU.length:Int)=h.last+1)&&oI h.last h.turns&&h.bU.all (wJ · 20)&&h.readings.all (BF h.last)
def eU (r:dY):Int:=r.2-r.1+1
def uD (l:List dY):Int:=l.foldr (fun r n=>eU r*n) 1
def wC (h:dh):Int:=
 if 9<h.last∨5<h.readings.length then 3 else if valid h=false then 1 else if 2000<uD (h.start::h.bU) then 3 else 0
def mi (bn n:Int) (turned:Bool):Int:=if turned then n-n*bn/100 else n
def Zo (size bn:Int) (turns:List Int) (i:Nat) (n w:Int):Int:=mi bn n (turns.contains (i:Int))+size*w/10
def qY (size bn:Int) (turns:List Int) (start:Int) (bU:List Int):Nat->Int
 |0=>start
 |k+1=>Zo size bn turns k (qY size bn turns start bU k) (bU.getD k 0)
def qL (size bn:Int) (turns:List Int) (start:Int) (bU:List Int) (n:Nat):List Int:=
 (List.range 10).map fun j=>if j<n then qY size bn turns start bU (j+1) else 0
def lH (h:dh) (t:Int×List Int) (turns:List Int):List Int:=qL h.size h.bn turns t.1 t.2 t.2.length
def Dq (x:Fv) (l:List Int):Bool:=og (l.getD x.1.toNat 0-x.2.1) (-x.2.2) x.2.2
def sW (r:dY):List Int:=(List.range (eU r).toNat).map fun(k:Nat)=>r.1+(k:Int)
def fM:List dY->List (List Int)
 |[]=>[[]]
 |r::rs=>(sW r).flatMap fun x=>(fM rs).map (x:: ·)
def abg (last p:Int) (l:List Int) (k:Nat):Bool:=og (l.getD k 0) ((p::l).getD k 0+1) last
theorem I5 (last:Int): ∀(l:List Int) (p:Int),zi last p l=(List.range l.length).all (abg last p l):=by
 intro l
 induction l with
 |nil=>intro p;rfl
 |cons n l ih=>
  intro p
  rw[List.length_cons,List.range_succ_eq_map,List.all_cons,List.all_map,zi,ih n]
  congr 1
theorem Yh (last:Int) (h0:0<=last) (l:List Int): ∀k,(∀j,j<k->abg last (-1) l j=true)->k<=l.length-> -1<=((-1:Int)::l).getD k 0/\((-1:Int)::l).getD k 0<=last:=by
 intro k
 induction k with
 |zero=>intro _ _;simp;omega
 |succ k ih=>
  intro h hk
  have h1:=h k (by omega)
  have h2:=ih (fun j hj=>h j (by omega)) (by omega)
  simp only[abg,og,fH,fB] at h1
  rw[List.getD_cons_succ]
  omega
theorem jK {α:Type} (l:List α) (p:α->Bool):(if l.any (fun k=>!p k) then false else true)=l.all p:=by
 rw[List.all_eq_not_any_not]
 cases l.any (fun k=>!p k) <;>rfl
def rQ (m:Int) (r:dY):Int:=min (m*eU r) 2001
def uX (l:List dY) (k:Nat):Int:=(l.take k).foldl rQ 1
theorem Iu (l:List dY) (k:Nat) (hk:k<l.length):uX l (k+1)=rQ (uX l k) l[k]:=by
 unfold uX
 rw[iE hk,List.foldl_append]
 rfl
theorem OI (l:List dY) (h: ∀r∈l,1<=eU r):1<=uD l:=by
 induction l with
 |nil=>simp[uD]
 |cons r l ih=>
  have h1:=h r (by simp)
  have h2:=ih (fun x hx=>h x (by simp[hx]))
  show 1<=eU r*uD l
  have:=Int.mul_le_mul h1 h2 (by omega) (by omega)
  omega
theorem QK (l:List dY) (h: ∀r∈l,1<=eU r): ∀m,1<=m->m<=2001->l.foldl rQ m=min (m*uD l) 2001:=by
 induction l with
 |nil=>intro m h1 h2;simp[uD];omega
 |cons r l ih=>
  intro m h1 h2
  have hr:=h r (by simp)
  have hp:=OI l (fun x hx=>h x (by simp[hx]))
  rw[List.foldl_cons]
  have hm:1<=m*eU r:=by have:=Int.mul_le_mul h1 hr (by omega) (by omega);omega
  rw[ih (fun x hx=>h x (by simp[hx])) _ (by unfold rQ;omega) (by unfold rQ;omega)]
  show min (rQ m r*uD l) 2001=min (m*(eU r*uD l)) 2001
  rw[<-Int.mul_assoc]
  unfold rQ
  by_cases hc:m*eU r<=2001
  ·rw[Int.min_eq_left hc]
  ·have h3:2001<=m*eU r*uD l:=by have:=Int.mul_le_mul (show(2001:Int)<=m*eU r by omega) hp (by omega) (by omega);omega
   have h4:2001<=2001*uD l:=by omega
   rw[Int.min_eq_right (show 2001<=m*eU r by omega)]
   omega
theorem QL (l:List dY) (h: ∀r∈l,1<=eU r) (k:Nat):1<=uX l k/\uX l k<=2001:=by
 unfold uX
 have ht: ∀r∈l.take k,1<=eU r:=fun r hr=>h r (pV hr)
 rw[QK _ ht 1 (by omega) (by omega)]
 have:=OI _ ht
 omega
theorem KW (l:List dY) (h: ∀r∈l,1<=eU r):(2000<uX l l.length)↔2000<uD l:=by
 unfold uX
 rw[List.take_length,QK _ h 1 (by omega) (by omega)]
 omega
theorem yz {r:dY} {n:Int} (h:wJ r n=true):0<=r.1/\r.1<=r.2/\r.2<=n/\1<=eU r/\eU r<=n+1:=by
 simp only[wJ,fH,fB] at h
 unfold eU
 omega
theorem KU {bn n:Int} (hc0:0<=bn) (hc1:bn<=100) (hn:0<=n) (t:Bool):0<=mi bn n t/\mi bn n t<=n:=by
 unfold mi
 cases t
 ·simp;omega
 ·simp only[if_true]
  have h1:0<=n*bn:=Int.mul_nonneg hn hc0
  have h2:n*bn<=n*100:=Int.mul_le_mul_of_nonneg_left hc1 hn
  omega
theorem KD {size bn:Int} (turns:List Int) {start:Int} (bU:List Int) (hs0:0<=size) (hs1:size<=20) (hc0:0<=bn) (hc1:bn<=100) (h0:0<=start) (h1:start<=500) (hw: ∀x∈bU,0<=x/\x<=20):
 ∀k:Nat,0<=qY size bn turns start bU k/\qY size bn turns start bU k<=500+40*k:=by
 intro k
 induction k with
 |zero=>simp[qY];omega
 |succ k ih=>
  have hb:=KU hc0 hc1 ih.1 (turns.contains (k:Int))
  have hx:0<=bU.getD k 0/\bU.getD k 0<=20:=by
   by_cases hk:k<bU.length
   ·rw[iH,dP hk];exact hw _ (cZ _)
   ·rw[iH,List.getElem?_eq_none (by omega)];simp
  have h2:0<=size*bU.getD k 0:=Int.mul_nonneg hs0 hx.1
  have h3:size*bU.getD k 0<=20*20:=Int.mul_le_mul hs1 hx.2 hx.1 (by omega)
  simp only[qY,Zo]
  generalize bU.getD k 0=x at*
  generalize size*x=y at*
  push_cast
  omega
theorem kZ (size bn:Int) (turns:List Int) (start:Int) (bU:List Int) (n:Nat):(qL size bn turns start bU n).length=10:=by simp[qL]
theorem Na (size bn:Int) (turns:List Int) (start:Int) (bU:List Int) (n:Nat) (_hn:n<10):
 qL size bn turns start bU (n+1)=(qL size bn turns start bU n).set n (qY size bn turns start bU (n+1)):=by
 apply List.ext_getElem
 ·simp[qL]
 ·intro i h1 h2
  have hi:i<10:=by simpa [qL] using h1
  simp only[qL,List.getElem_map,List.getElem_range,List.getElem_set]
  by_cases e:n=i
  ·subst e;simp
  ·rw[ak e]
   by_cases h:i<n
   ·rw[aF h,aF (by omega)]
   ·rw[ak h,ak (by omega)]
theorem PU {h:dh} {t:Int×List Int} (turns:List Int) (hs0:0<=h.size) (hs1:h.size<=20) (hc0:0<=h.bn) (hc1:h.bn<=100) (h0:0<=t.1) (h1:t.1<=500) (hw: ∀x∈t.2,0<=x/\x<=20) (_hl:t.2.length<=10):
 ∀x∈lH h t turns,0<=x/\x<=900:=by
 intro x hx
 obtain⟨j,hj,rfl⟩:=jd.1 hx
 have hj':j<10:=by simpa using hj
 split
 ·have:=KD turns t.2 hs0 hs1 hc0 hc1 h0 h1 hw (j+1)
  omega
 ·omega
theorem Dl {α:Type} {l:List α} (h:l.length=10): ∃a b c d e f g i j k,l=[a,b,c,d,e,f,g,i,j,k]:=by
 match l,h with
 |[a,b,c,d,e,f,g,i,j,k],_=>exact⟨a,b,c,d,e,f,g,i,j,k,rfl⟩
structure Sound (h:dh):Prop where
 Kw:0<=h.last
 BM:h.last<=9
 Ot:0<=h.size
 Oq:h.size<=20
 Qm:0<=h.bn
 Ql:h.bn<=100
 apV:0<=h.die
 anz:h.die<=h.uK
 anx:h.uK<=500
 Zr:0<=h.start.1
 Zq:h.start.1<=h.start.2
 Zp:h.start.2<=500
 Gg:(h.bU.length:Int)=h.last+1
 turns:oI h.last h.turns=true
 bU: ∀r∈h.bU,0<=r.1/\r.1<=r.2/\r.2<=20
 rdg: ∀x∈h.readings,(0<=x.1/\x.1<=h.last)/\(0<=x.2.1/\x.2.1<=1000)/\0<=x.2.2/\x.2.2<=50
 ajV:h.readings.length<=5
 many:uD (h.start::h.bU)<=2000
theorem Gn {h:dh} (hf:wC h=0):Sound h:=by
 unfold wC at hf
 split at hf
 ·omega
 ·split at hf
  ·omega
  ·split at hf
   ·omega
   ·rename_i h1 h2 h3
    have h2':valid h=true:=by simpa using h2
    simp only[valid,fQ,wJ,og,fH,fB,jR] at h2'
    obtain⟨⟨⟨⟨⟨⟨⟨⟨⟨a1,a2⟩,a3⟩,a4⟩,a5⟩,a6⟩,a7⟩,a8⟩,a9⟩,a10⟩:=h2'
    refine⟨a1,by omega,a2.1,a2.2,a3.1,a3.2,a4,a5.1,a5.2,a6.1.1,a6.1.2,a6.2,a7,a8,fun r hr=>?_,fun x hx=>?_,by omega,by omega⟩
    ·have:=a9 r hr;exact⟨this.1.1,this.1.2,this.2⟩
    ·have:=a10 x hx
     simp only[BF,og,fH,fB] at this
     exact⟨this.1.1,this.1.2,this.2⟩
theorem acR {α β:Type} (f:α->List β) (sz:Nat) (hf: ∀x,(f x).length=sz): ∀(l:List α) (k j:Nat) (hk:k<l.length),j<sz->(l.flatMap f)[k*sz+j]? =(f l[k])[j]? :=by
 intro l
 induction l with
 |nil=>intro k j hk;simp at hk
 |cons x l ih=>
  intro k j hk hj
  cases k with
  |zero=>simp[List.flatMap_cons,vJ (show j<(f x).length by rw[hf];exact hj)]
  |succ k=>
   have e:(k+1)*sz+j=(f x).length+(k*sz+j):=by rw[hf,Nat.add_mul];omega
   rw[List.flatMap_cons,e,nG (by omega),Nat.add_sub_cancel_left,ih k j (by simpa using hk) hj]
   rfl
theorem zW (r:dY):(sW r).length=(eU r).toNat:=by simp[sW]
theorem Sv (r:dY) (c:Nat) (hc:c<(sW r).length):(sW r)[c]=r.1+(c:Int):=by simp[sW]
theorem BD (r:dY) (rs:List dY):(fM (r::rs)).length=(eU r).toNat*(fM rs).length:=by
 rw[fM,List.length_flatMap]
 simp only[mF,List.map_const',List.sum_replicate_nat]
 rw[zW]
theorem WQ (r:dY) (rs:List dY) (c j:Nat) (hc:c<(eU r).toNat) (hj:j<(fM rs).length):
 (fM (r::rs))[c*(fM rs).length+j]? =some ((r.1+(c:Int))::(fM rs)[j]):=by
 rw[fM,acR _ (fM rs).length (fun x=>by simp) (sW r) c j (by rw[zW];exact hc) hj,Sv]
 simp[hj]
theorem WO: ∀(rs:List dY), ∀x∈fM rs,x.length=rs.length:=by
 intro rs
 induction rs with
 |nil=>intro x hx;simp[fM] at hx;subst hx;rfl
 |cons r rs ih=>
  intro x hx
  simp only[fM,qE,jd] at hx
  obtain⟨y,_,z,hz,rfl⟩:=hx
  simp[ih z hz]
def jL (R:List dY) (i k:Nat) (pre:List Int):Prop:= ∀j s,(fM (R.drop i))[j]? =some s->(fM R)[k+j]? =some (pre++s)
theorem jL.zero (R:List dY):jL R 0 0 []:=fun j s h=>by simpa using h
theorem jL.next {R:List dY} {i k:Nat} {pre:List Int} (h:jL R i k pre) (hi:i<R.length) (c:Nat) (hc:c<(eU R[i]).toNat):
 jL R (i+1) (k+c*(fM (R.drop (i+1))).length) (pre++[R[i].1+(c:Int)]):=by
 intro j s hs
 obtain⟨hj,rfl⟩:=jf.1 hs
 have:=h (c*(fM (R.drop (i+1))).length+j) _ (by rw[Bc hi];exact WQ _ _ c j hc hj)
 rw[Nat.add_assoc,this]
 simp
theorem jL.count {R:List dY} {i:Nat} (hi:i<R.length):(fM (R.drop i)).length=(eU R[i]).toNat*(fM (R.drop (i+1))).length:=by
 rw[Bc hi,BD]
theorem jL.last {R:List dY} {i k:Nat} {pre:List Int} (h:jL R i k pre) (hi:i=R.length):(fM (R.drop i)).length=1/\ ∃hk:k<(fM R).length,(fM R)[k]=pre:=by
 have e:R.drop i=[]:=List.drop_eq_nil_of_le (by omega)
 rw[e]
 have:=h 0 [] (by rw[e];rfl)
 simp only[Nat.add_zero,List.append_nil] at this
 obtain⟨hk,hx⟩:=jf.1 this
 exact⟨rfl,hk,hx⟩
def Wh (l:List Int):Int×List Int:=(l.headD 0,l.tail)
def SI (h:dh) (out:List Int) (t:Int×List Int) (i:Nat):Bool:=out.contains (i:Int) ||Dq (h.readings.getD i (0,0,0)) (lH h t h.turns)
def okT (h:dh) (out:List Int) (t:Int×List Int):Bool:=(List.range h.readings.length).all (SI h out t)
def ru (h:dh):List (List Int):=fM (h.start::h.bU)
def dX (h:dh) (out:List Int):List (Int×List Int):=((ru h).filter fun l=>okT h out (Wh l)).map Wh
def cnt (h:dh) (out:List Int) (k:Nat):Nat:=(((ru h).take k).filter fun l=>okT h out (Wh l)).length
theorem acY (h:dh) (out:List Int):cnt h out (ru h).length=(dX h out).length:=by
 unfold cnt dX
 rw[List.take_length,mF]
theorem afb {h:dh} {out:List Int} {k:Nat} (hk:k<(ru h).length) (hp:okT h out (Wh (ru h)[k])=false):cnt h out (k+1)=cnt h out k:=by
 unfold cnt
 rw[iE hk,List.filter_append,dD]
 simp[hp]
theorem acX {h:dh} {out:List Int} {k:Nat} (hk:k<(ru h).length) (hp:okT h out (Wh (ru h)[k])=true):cnt h out (k+1)=cnt h out k+1:=by
 unfold cnt
 rw[iE hk,List.filter_append,dD]
 simp[hp]
theorem D9 {α β:Type} (p:α->Bool) (f:α->β): ∀(l:List α) (k:Nat) (hk:k<l.length),p l[k]=true->((l.filter p).map f)[((l.take k).filter p).length]? =some (f l[k]):=by
 intro l
 induction l with
 |nil=>intro k hk;simp at hk
 |cons x l ih=>
  intro k hk hp
  cases k with
  |zero=>
   have hp':p x=true:=hp
   simp[hp']
  |succ k=>
   have:=ih k (by simpa using hk) hp
   by_cases hx:p x=true
   ·simp only[List.filter_cons,hx,if_true,List.map_cons,List.take_succ_cons,List.length_cons,List.getElem?_cons_succ,List.getElem_cons_succ]
    exact this
   ·simp only[List.filter_cons,hx,if_false,List.take_succ_cons,List.getElem_cons_succ,Bool.false_eq_true]
    exact this
theorem Rz {h:dh} {out:List Int} {k:Nat} (hk:k<(ru h).length) (hp:okT h out (Wh (ru h)[k])=true):
 ∃hc:cnt h out k<(dX h out).length,(dX h out)[cnt h out k]=Wh (ru h)[k]:=by
 have:=D9 (fun l=>okT h out (Wh l)) Wh (ru h) k hk hp
 obtain⟨hc,hx⟩:=jf.1 this
 exact⟨hc,hx⟩
theorem Dw: ∀(rs:List dY) (x:List Int),x∈fM rs->x.length=rs.length/\ ∀i,i<rs.length->(rs.getD i (0,0)).1<=x.getD i 0/\x.getD i 0<=(rs.getD i (0,0)).2:=by
 intro rs
 induction rs with
 |nil=>intro x hx;simp[fM] at hx;subst hx;exact⟨rfl,fun i hi=>by simp at hi⟩
 |cons r rs ih=>
  intro x hx
  simp only[fM,qE,jd] at hx
  obtain⟨y,hy,z,hz,rfl⟩:=hx
  obtain⟨h1,h2⟩:=ih z hz
  refine⟨by simp[h1],fun i hi=>?_⟩
  cases i with
  |zero=>
   obtain⟨c,hc,rfl⟩:=jd.1 hy
   have:c<(eU r).toNat:=by simpa using hc
   unfold eU at this
   simp
   omega
  |succ i=>simpa using h2 i (by simpa using hi)
theorem GZ {h:dh} (hS:Sound h) {x:List Int} (hx:x∈ru h): ∃s rest,x=s::rest/\rest.length=h.bU.length/\(0<=s/\s<=500)/\ ∀y∈rest,0<=y/\y<=20:=by
 obtain⟨hl,hb⟩:=Dw _ _ hx
 cases x with
 |nil=>simp at hl
 |cons s rest=>
  have h0:=hb 0 (by simp)
  simp at h0
  have:=hS.Zr
  have:=hS.Zp
  refine⟨s,rest,rfl,by simpa using hl,by omega,fun y hy=>?_⟩
  obtain⟨i,hi,rfl⟩:=mG hy
  have hi':i<h.bU.length:=by simp at hl;omega
  have h1:=hb (i+1) (by simpa using hi')
  simp only[List.getD_cons_succ] at h1
  rw[show rest.getD i 0=rest[i] from by simp[hi],show h.bU.getD i (0,0)=h.bU[i] from by simp[hi']] at h1
  have:=hS.bU _ (cZ hi')
  omega
def jP (below:Nat):Nat->Nat->List (List Int)
 |0,_=>[[]]
 |m+1,f=>(List.range (below-m-f)).flatMap fun j=>(jP below m (f+j+1)).map fun x=>((f+j:Nat):Int)::x
def nO (below:Nat) (p:List Int->Bool):Option (List Int):=((List.range (below+1)).flatMap fun m=>jP below m 0).find? p
theorem rf {α β:Type} (p:β->Bool) (f:α->List β): ∀(l:List α) (k:Nat) (hk:k<l.length) (c:β),(∀j (hj:j<k),(f (l[j]'(by omega))).find? p=none)->(f l[k]).find? p=some c->(l.flatMap f).find? p=some c:=by
 intro l
 induction l with
 |nil=>intro k hk;simp at hk
 |cons x l ih=>
  intro k hk c h1 h2
  rw[List.flatMap_cons,List.find?_append]
  cases k with
  |zero=>
   have h2':(f x).find? p=some c:=h2
   rw[h2'];rfl
  |succ k=>
   have h0:(f x).find? p=none:=h1 0 (by omega)
   rw[h0]
   exact ih k (by simpa using hk) c (fun j hj=>h1 (j+1) (by omega)) h2
theorem tX {α β:Type} (p:β->Bool) (f:α->List β) (l:List α) (h: ∀j (hj:j<l.length),(f l[j]).find? p=none):(l.flatMap f).find? p=none:=by
 rw[List.find?_eq_none]
 intro x hx
 obtain⟨y,hy,hxy⟩:=qE.1 hx
 obtain⟨j,hj,rfl⟩:=mG hy
 have:=h j hj
 rw[List.find?_eq_none] at this
 exact this x hxy
def Inc (below:Nat):Nat->List Int->Prop
 |_,[]=>True
 |f,a::x=> ∃n:Nat,a=n/\f<=n/\n<below/\Inc below (n+1) x
theorem Inc.len {below:Nat}: ∀(x:List Int) (f:Nat),Inc below f x->x.length<=below-f:=by
 intro x
 induction x with
 |nil=>intro f _;simp
 |cons a x ih=>
  rintro f ⟨n,_,h1,h2,h3⟩
  have:=ih _ h3
  simp only[List.length_cons]
  omega
theorem rZ {below:Nat}: ∀(m f:Nat) (x:List Int),x∈jP below m f↔x.length=m/\Inc below f x:=by
 intro m
 induction m with
 |zero=>
  intro f x
  simp only[jP,fK]
  constructor
  ·rintro rfl;exact⟨rfl,trivial⟩
  ·rintro⟨h,_⟩;exact kG h
 |succ m ih=>
  intro f x
  simp only[jP,qE,mD,jd]
  constructor
  ·rintro⟨j,hj,y,hy,rfl⟩
   obtain⟨h1,h2⟩:=(ih _ _).1 hy
   exact⟨by simp[h1],f+j,rfl,by omega,by omega,h2⟩
  ·rintro⟨hl,hi⟩
   cases x with
   |nil=>simp at hl
   |cons a x=>
    obtain⟨n,rfl,h1,h2,h3⟩:=hi
    have:=h3.len
    simp only[List.length_cons] at hl
    refine⟨n-f,by omega,x,(ih _ _).2 ⟨by omega,?_⟩,?_⟩
    ·rw[show f+(n-f)+1=n+1 by omega];exact h3
    ·rw[show f+(n-f)=n by omega]
def before:List Int->List Int->Bool
 |[],b=>!b.isEmpty
 |_::_,[]=>false
 |x::a,y::b=>if x=y then before a b else decide (x<y)
def oG (a b:List Int):Bool:=decide (a.length<b.length) ||(decide (a.length=b.length)&&before a b)
theorem before_irrefl: ∀a,before a a=false:=by
 intro a
 induction a with
 |nil=>rfl
 |cons x a ih=>simp[before,ih]
theorem NF: ∀a b,before a b=true->before b a=false:=by
 intro a
 induction a with
 |nil=>intro b h;cases b <;>simp[before] at h⊢
 |cons x a ih=>
  intro b h
  cases b with
  |nil=>simp[before] at h
  |cons y b=>
   simp only[before] at h⊢
   by_cases e:x=y
   ·subst e;simp only[if_true] at h⊢;exact ih _ h
   ·rw[ak e] at h;rw[ak (fun e'=>e e'.symm)]
    simp only[fB,decide_eq_false_iff_not] at h⊢;omega
theorem Gp (a:List Int):oG a a=false:=by simp[oG,before_irrefl]
theorem I9 {a b:List Int} (h:oG a b=true):oG b a=false:=by
 simp only[oG,Bool.or_eq_true,fH,fB,Bool.or_eq_false_iff,Bool.and_eq_false_iff,decide_eq_false_iff_not] at h⊢
 rcases h with h|⟨h,hb⟩
 ·exact⟨by omega,.inl (by omega)⟩
 ·exact⟨by omega,.inr (NF _ _ hb)⟩
theorem TV {α:Type} (R:α->α->Prop) (p:α->Bool): ∀(l:List α),l.Pairwise R-> ∀c,l.find? p=some c->p c=true/\c∈l/\ ∀x∈l,p x=true->x=c∨R c x:=by
 intro l
 induction l with
 |nil=>intro _ c h;simp at h
 |cons y l ih=>
  intro hp c h
  rw[List.pairwise_cons] at hp
  rw[List.find?_cons] at h
  cases hy:p y with
  |true=>
   rw[hy] at h
   cases h
   refine⟨hy,by simp,fun x hx _=>?_⟩
   rcases gY.1 hx with rfl|hx
   ·exact .inl rfl
   ·exact .inr (hp.1 _ hx)
  |false=>
   rw[hy] at h
   obtain⟨h1,h2,h3⟩:=ih hp.2 c h
   refine⟨h1,by simp[h2],fun x hx hpx=>?_⟩
   rcases gY.1 hx with rfl|hx
   ·rw[hy] at hpx;cases hpx
   ·exact h3 x hx hpx
theorem vF {α β:Type} (R:β->β->Prop) (f:α->List β): ∀(l:List α),(∀x∈l,(f x).Pairwise R)->l.Pairwise (fun x y=> ∀a∈f x, ∀b∈f y,R a b)->(l.flatMap f).Pairwise R:=by
 intro l
 induction l with
 |nil=>intro _ _;simp
 |cons x l ih=>
  intro h1 h2
  rw[List.pairwise_cons] at h2
  rw[List.flatMap_cons,List.pairwise_append]
  refine⟨h1 x (by simp),ih (fun y hy=>h1 y (by simp[hy])) h2.2,fun a ha b hb=>?_⟩
  obtain⟨y,hy,hby⟩:=qE.1 hb
  exact h2.1 y hy a ha b hby
theorem Ns (below:Nat): ∀(m f:Nat),(jP below m f).Pairwise fun a b=>before a b=true:=by
 intro m
 induction m with
 |zero=>intro f;simp[jP]
 |succ m ih=>
  intro f
  unfold jP
  refine vF _ _ _ (fun j _=>?_) ?_
  ·rw[List.pairwise_map]
   exact(ih (f+j+1)).imp fun h=>by simpa [before] using h
  ·refine List.pairwise_lt_range.imp fun {i j} hij=>?_
   intro a ha b hb
   obtain⟨x,_,rfl⟩:=jd.1 ha
   obtain⟨y,_,rfl⟩:=jd.1 hb
   simp only[before]
   rw[ak (by omega)]
   simp;omega
theorem FK (below:Nat):((List.range (below+1)).flatMap fun m=>jP below m 0).Pairwise fun a b=>oG a b=true:=by
 refine vF _ _ _ (fun m _=>?_) ?_
 ·refine List.Pairwise.imp_of_mem ?_ (Ns below m 0)
  intro a b ha hb h
  simp[oG,((rZ _ _ _).1 ha).1,((rZ _ _ _).1 hb).1,h]
 ·refine List.pairwise_lt_range.imp fun {i j} hij=>?_
  intro a ha b hb
  simp[oG,((rZ _ _ _).1 ha).1,((rZ _ _ _).1 hb).1,hij]
theorem wR (below:Nat) (x:List Int):x∈((List.range (below+1)).flatMap fun m=>jP below m 0)↔Inc below 0 x:=by
 rw[qE]
 constructor
 ·rintro⟨m,_,h⟩;exact((rZ _ _ _).1 h).2
 ·intro h
  have:=h.len
  exact⟨x.length,by simp;omega,(rZ _ _ _).2 ⟨rfl,h⟩⟩
theorem Ov {below:Nat} {p:List Int->Bool} {c:List Int} (h:nO below p=some c):p c=true/\Inc below 0 c/\ ∀x,Inc below 0 x->p x=true->oG x c=false:=by
 obtain⟨h1,h2,h3⟩:=TV _ p _ (FK below) c h
 refine⟨h1,(wR _ _).1 h2,fun x hx hp=>?_⟩
 rcases h3 x ((wR _ _).2 hx) hp with rfl|hr
 ·exact Gp _
 ·exact I9 hr
theorem Ox {below:Nat} {p:List Int->Bool} (h:nO below p=none): ∀x,Inc below 0 x->p x=false:=by
 intro x hx
 unfold nO at h
 rw[List.find?_eq_none] at h
 simpa using h x ((wR _ _).2 hx)
def lQ (acc:List (List Int)) (x:List Int):List (List Int):=if acc.getLast? =some x then acc else acc++[x]
def jJ (h:dh) (turns:List Int):List (List Int):=(dX h []).foldl (fun acc t=>lQ acc (lH h t turns)) []
def jw (h:dh) (turns:List Int) (k:Nat):List (List Int):=((dX h []).take k).foldl (fun acc t=>lQ acc (lH h t turns)) []
theorem Cb {h:dh} {turns:List Int} {k:Nat} (hk:k<(dX h []).length):jw h turns (k+1)=lQ (jw h turns k) (lH h (dX h [])[k] turns):=by
 unfold jw
 rw[iE hk,List.foldl_append]
 rfl
theorem yN (h:dh) (turns:List Int):jw h turns (dX h []).length=jJ h turns:=by unfold jw;rw[List.take_length];rfl
theorem Xa (acc:List (List Int)) (x y:List Int):y∈lQ acc x↔y∈acc∨y=x:=by
 unfold lQ
 split
 ·rename_i h
  constructor
  ·exact .inl
  ·rintro(h1|rfl)
   ·exact h1
   ·exact List.mem_of_getLast? h
 ·simp
theorem BJ {α:Type} (f:α->List Int): ∀(l:List α) (acc:List (List Int)) (y:List Int),y∈l.foldl (fun acc t=>lQ acc (f t)) acc↔y∈acc∨ ∃t∈l,y=f t:=by
 intro l
 induction l with
 |nil=>intro acc y;simp
 |cons a l ih=>
  intro acc y
  rw[List.foldl_cons,ih,Xa]
  simp only[gY,exists_eq_or_imp,or_assoc]
theorem GN (h:dh) (turns:List Int) (y:List Int):y∈jJ h turns↔ ∃t∈dX h [],y=lH h t turns:=by
 unfold jJ;rw[BJ];simp
theorem O5 {h:dh} {turns:List Int} {k:Nat} {y:List Int} (hy:y∈jw h turns k): ∃t∈dX h [],y=lH h t turns:=by
 unfold jw at hy
 rw[BJ] at hy
 simp only[List.not_mem_nil,false_or] at hy
 obtain⟨t,ht,rfl⟩:=hy
 exact⟨t,pV ht,rfl⟩
theorem E8 {h:dh} {turns:List Int} {k:Nat}: ∀y∈jw h turns k,y.length=10:=by
 intro y hy
 obtain⟨t,_,rfl⟩:=O5 hy
 exact kZ _ _ _ _ _ _
theorem Ih {h:dh} {turns:List Int}: ∀y∈jJ h turns,y.length=10:=by
 rw[<-yN];exact E8
theorem JL (acc:List (List Int)) (x:List Int):(lQ acc x).length<=acc.length+1:=by
 unfold lQ;split <;>simp
theorem Fa (h:dh) (turns:List Int): ∀k,(jw h turns k).length<=k:=by
 intro k
 induction k with
 |zero=>simp[jw]
 |succ k ih=>
  by_cases hk:k<(dX h []).length
  ·rw[Cb hk]
   have:=JL (jw h turns k) (lH h (dX h [])[k] turns)
   omega
  ·have e:jw h turns (k+1)=jw h turns k:=by
    unfold jw;rw[kN (by omega),kN (by omega)]
   rw[e];omega
theorem TZ (h:dh) (turns:List Int):(jJ h turns).length<=(dX h []).length:=by
 rw[<-yN];exact Fa _ _ _
theorem TY {h:dh} {turns:List Int} (hn:dX h []≠[]):jJ h turns≠[]:=by
 intro he
 obtain⟨t,ht⟩:=List.exists_mem_of_ne_nil _ hn
 have:=(GN h turns (lH h t turns)).2 ⟨t,ht,rfl⟩
 rw[he] at this
 cases this
theorem yu (rs:List dY) (hr: ∀r∈rs,1<=eU r):((fM rs).length:Int)=uD rs:=by
 induction rs with
 |nil=>rfl
 |cons r rs ih=>
  rw[BD]
  have h1:=hr r (by simp)
  have ih':=ih (fun x hx=>hr x (by simp[hx]))
  show(((eU r).toNat*(fM rs).length:Nat):Int)=eU r*uD rs
  rw[Int.natCast_mul,ih',Int.toNat_of_nonneg (by omega)]
theorem yf {h:dh} (hS:Sound h) (out:List Int):(dX h out).length<=2000:=by
 have h1:(dX h out).length<=(ru h).length:=by unfold dX;rw[mF];exact List.length_filter_le _ _
 have h2:=yu (h.start::h.bU) (fun r hr=>by
  rcases gY.1 hr with rfl|hr
  ·have:=hS.Zq;unfold eU;omega
  ·have:=hS.bU r hr;unfold eU;omega)
 have h3:=hS.many
 unfold ru at h1
 omega
def wid (r:dY) (x:Int):dY:=(min r.1 x,max r.2 x)
def fC (n k:Nat) (R:List dY) (l:List Int) (i:Nat):List dY:=
 if k=0 then(List.range i).map fun j=>(l.getD j 0,l.getD j 0) else(List.range n).map fun j=>if j<i then wid (R.getD j (0,0)) (l.getD j 0) else R.getD j (0,0)
def bF (n:Nat) (ls:List (List Int)):Nat->List dY
 |0=>[]
 |k+1=>fC n k (bF n ls k) (ls.getD k []) n
def rU (n:Nat) (ls:List (List Int)):List dY:=bF n ls ls.length
theorem sZ (n:Nat) (R:List dY) (l:List Int) (i:Nat):(fC n 0 R l i).length=i:=by simp[fC]
theorem vV (n k:Nat) (R:List dY) (l:List Int) (i:Nat) (hk:k≠0):(fC n k R l i).length=n:=by simp[fC,hk]
theorem pU (n:Nat) (ls:List (List Int)) (k:Nat) (hk:k≠0):(bF n ls k).length=n:=by
 cases k with
 |zero=>exact absurd rfl hk
 |succ k=>
  unfold bF
  by_cases h:k=0
  ·subst h;exact sZ _ _ _ _
  ·exact vV _ _ _ _ _ h
theorem SB {n k:Nat} {R:List dY} {l:List Int} (hR:k≠0->R.length=n) (h0:k=0->R=[]):fC n k R l 0=R:=by
 unfold fC
 split
 ·rename_i h;rw[h0 h];rfl
 ·rename_i h
  apply List.ext_getElem
  ·simp[hR h]
  ·intro i h1 h2;simp[List.getD,h2]
theorem WU {n:Nat} {R:List dY} {l:List Int} {i:Nat}:fC n 0 R l i++[(l.getD i 0,l.getD i 0)]=fC n 0 R l (i+1):=by
 simp[fC,List.range_succ]
theorem SC {n:Nat} {R:List dY} {l:List Int} {i:Nat}:(fC n 0 R l (i+1)).set i (wid ((fC n 0 R l (i+1)).getD i (0,0)) (l.getD i 0))=fC n 0 R l (i+1):=by
 apply List.ext_getElem
 ·simp
 ·intro j h1 h2
  rw[List.getElem_set]
  split
  ·rename_i h;subst h;simp[fC,wid,List.getD]
  ·rfl
theorem WT {n k:Nat} {R:List dY} {l:List Int} {i:Nat} (hk:k≠0) (hi:i<n):(fC n k R l i).set i (wid ((fC n k R l i).getD i (0,0)) (l.getD i 0))=fC n k R l (i+1):=by
 apply List.ext_getElem
 ·simp[fC,hk]
 ·intro j h1 h2
  have hj:j<n:=by simpa [fC,hk] using h2
  rw[List.getElem_set]
  split
  ·rename_i h;subst h;simp[fC,hk,hi]
  ·rename_i h
   simp only[fC,hk,if_false,List.getElem_map,List.getElem_range]
   by_cases h3:j<i
   ·rw[aF h3,aF (by omega)]
   ·rw[ak h3,ak (by omega)]
def upto (n:Nat):List Int:=(List.range n).map fun(i:Nat)=>(i:Int)
theorem Xr: ∀(n f below:Nat),f+n<=below->Inc below f ((List.range' f n).map fun(i:Nat)=>(i:Int)):=by
 intro n
 induction n with
 |zero=>intro f below _;trivial
 |succ n ih=>
  intro f below h
  rw[List.range'_succ,List.map_cons]
  exact⟨f,rfl,ai _,by omega,ih (f+1) below (by omega)⟩
end jv
end
section
namespace jv
theorem SY {r:dY} {x:Int}:x∈sW r↔r.1<=x/\x<=r.2:=by
 unfold sW eU
 rw[jd]
 constructor
 ·rintro⟨k,hk,rfl⟩
  have:=mD.1 hk
  omega
 ·rintro⟨h1,h2⟩
  exact⟨(x-r.1).toNat,mD.2 (by omega),by omega⟩
end jv
namespace jv
theorem MR {below:Nat}: ∀(l:List Int) (f:Nat),Inc below f l↔l.Pairwise (· < ·)/\ ∀x∈l,(f:Int)<=x/\x<below:=by
 intro l
 induction l with
 |nil=>intro f;simp[Inc]
 |cons x l ih=>
  intro f
  unfold Inc
  rw[List.pairwise_cons]
  constructor
  ·rintro⟨n,rfl,h1,h2,h3⟩
   obtain⟨h4,h5⟩:=(ih _).1 h3
   refine⟨⟨fun y hy=>by have:=h5 y hy;omega,h4⟩,fun y hy=>?_⟩
   rcases gY.1 hy with rfl|hy
   ·omega
   ·have:=h5 y hy;omega
  ·rintro⟨⟨h1,h2⟩,h3⟩
   have hx:=h3 x (by simp)
   refine⟨x.toNat,by omega,by omega,by omega,(ih _).2 ⟨h2,fun y hy=>⟨?_,(h3 y (by simp[hy])).2⟩⟩⟩
   have:=h1 y hy
   omega
end jv
namespace jv
end jv
end
section
namespace Go.Proofs.YthbpmepjmebolaaGreatDoor
open jv
abbrev NK:=Int×Int×Int×dY
structure bV where
 rows:Int
 aO:Int
 left:dY
 az:List NK
def pK (f:bV) (t:NK):Bool:=og t.1 0 (f.aO-1)&&og t.2.1 0 (f.rows-1)&&og t.2.2.1 0 (f.rows-1)&&decide (t.2.1<=t.2.2.1)&&wJ t.2.2.2 f.rows
def ku (f:bV):Int:=
 if 7<f.rows∨3<f.aO∨5<f.az.length then 3
 else if f.rows<1∨f.aO<1∨wJ f.left f.rows=false∨f.az.all (pK f)=false then 1
 else if 2500<(f.aO+1)^f.rows.toNat then 3 else 0
structure rC (f:bV):Prop where
 zV:1<=f.rows
 qN:f.rows<=7
 zT:1<=f.aO
 xG:f.aO<=3
 FI:f.az.length<=5
 left:0<=f.left.1/\f.left.1<=f.left.2/\f.left.2<=f.rows
 uB: ∀t∈f.az,(0<=t.1/\t.1<f.aO)/\(0<=t.2.1/\t.2.1<=t.2.2.1/\t.2.2.1<f.rows)/\(0<=t.2.2.2.1/\t.2.2.2.1<=t.2.2.2.2/\t.2.2.2.2<=f.rows)
 many:(f.aO+1)^f.rows.toNat<=2500
theorem iJ {f:bV} (hf:ku f=0):rC f:=by
 unfold ku at hf
 split at hf
 ·omega
 ·rename_i h1
  split at hf
  ·omega
  ·rename_i h2
   split at hf
   ·omega
   ·rename_i h3
    simp only[not_or] at h1 h2
    obtain⟨a1,a2,a3⟩:=h1
    obtain⟨b1,b2,b3,b4⟩:=h2
    have b3':wJ f.left f.rows=true:=by simpa using b3
    have b4':f.az.all (pK f)=true:=by simpa using b4
    rw[jR] at b4'
    simp only[wJ,fH,fB] at b3'
    refine⟨by omega,by omega,by omega,by omega,by omega,⟨by omega,by omega,by omega⟩,fun t ht=>?_,by omega⟩
    have:=b4' t ht
    simp only[pK,og,wJ,fH,fB] at this
    omega
def zN (l:List Int) (who:Int) (a n:Nat):Int:=((List.range' a n).countP fun i=>l.getD i 0==who:Nat)
def Il (l:List Int) (who lo hi:Int):Int:=zN l who lo.toNat (hi+1-lo).toNat
def Ag (l:List Int) (t:NK):Bool:=og (Il l t.1 t.2.1 t.2.2.1) t.2.2.2.1 t.2.2.2.2
def jk (f:bV) (out:List Int) (l:List Int):Bool:=
 ((List.range f.az.length).all fun i=>out.contains (i:Int) ||Ag l (f.az.getD i (0,0,0,(0,0))))&&og (Il l (-1) 0 (f.rows-1)) f.left.1 f.left.2
def fJ (f:bV):List dY:=List.replicate f.rows.toNat (-1,f.aO-1)
def qB (f:bV):List (List Int):=fM (fJ f)
def bW (f:bV) (out:List Int):List (List Int):=(qB f).filter (jk f out)
theorem Su {f:bV} (hS:rC f): ∀r∈fJ f,1<=eU r:=fun r hr=>by
 obtain rfl:=List.eq_of_mem_replicate hr
 have:=hS.zT
 unfold eU
 simp only
 omega
theorem WN: ∀(rs:List dY) (x:List Int),x.length=rs.length->(∀i,i<rs.length->(rs.getD i (0,0)).1<=x.getD i 0/\x.getD i 0<=(rs.getD i (0,0)).2)->x∈fM rs:=by
 intro rs
 induction rs with
 |nil=>intro x hx _;obtain rfl:=kG hx;simp[fM]
 |cons r rs ih=>
  intro x hx hb
  cases x with
  |nil=>simp at hx
  |cons a x=>
   have h0:=hb 0 (by simp)
   simp only[fM,qE,jd]
   exact⟨a,SY.2 (by simpa using h0),x,ih x (by simpa using hx) (fun i hi=>by simpa using hb (i+1) (by simpa using hi)),rfl⟩
theorem GU {f:bV} {l:List Int}:l∈qB f↔l.length=f.rows.toNat/\ ∀i,i<f.rows.toNat-> -1<=l.getD i 0/\l.getD i 0<=f.aO-1:=by
 have hg: ∀i,i<f.rows.toNat->(fJ f).getD i (0,0)=(-1,f.aO-1):=fun i hi=>by
  unfold fJ
  rw[iH,List.getElem?_replicate,aF hi]
  rfl
 have hl:(fJ f).length=f.rows.toNat:=by unfold fJ;simp
 unfold qB
 constructor
 ·intro hm
  obtain⟨h1,h2⟩:=Dw _ _ hm
  rw[hl] at h1 h2
  refine⟨h1,fun i hi=>?_⟩
  have:=h2 i hi
  rw[hg i hi] at this
  exact this
 ·rintro⟨h1,h2⟩
  refine WN _ _ (by rw[hl];exact h1) fun i hi=>?_
  rw[hl] at hi
  rw[hg i hi]
  exact h2 i hi
theorem L8 (f:bV):uD (fJ f)=(f.aO+1)^f.rows.toNat:=by
 unfold fJ
 induction f.rows.toNat with
 |zero=>simp[uD]
 |succ k ih=>
  rw[List.replicate_succ]
  show eU (-1,f.aO-1)*uD (List.replicate k (-1,f.aO-1))=_
  rw[ih,Int.pow_succ,Int.mul_comm]
  congr 1
  unfold eU
  simp only
  omega
end Go.Proofs.YthbpmepjmebolaaGreatDoor
namespace Go.Proofs.YthbpmepjmebolaaGreatDoor
open jv
def RV (rows:List Int) (a b:List Int):Bool:=rows.all fun r=>a.getD r.toNat 0==b.getD r.toNat 0
def mP (f:bV) (a:List Int) (who:Int):Int:=Il a who 0 (f.rows-1)
def Oy (f:bV) (w:Int) (rows:List Int):Bool:=(bW f []).all fun a=>(bW f []).all fun b=>!RV rows a b ||mP f a w==mP f b w
theorem ab8 {f:bV} {w:Int} {rows:List Int}:Oy f w rows=true↔ ∀a∈bW f [], ∀b∈bW f [],RV rows a b=true->mP f a w=mP f b w:=by
 unfold Oy
 simp only[jR,Bool.or_eq_true,Bool.not_eq_true',beq_iff_eq]
 constructor
 ·intro h a ha b hb hs
  rcases h a ha b hb with h1|h1
  ·rw[hs] at h1;cases h1
  ·exact h1
 ·intro h a ha b hb
  cases hs:RV rows a b
  ·exact .inl rfl
  ·exact .inr (h a ha b hb hs)
theorem Em {f:bV} {out a:List Int} (h:a∈bW f out):a∈qB f/\jk f out a=true:=List.mem_filter.1 h
theorem oL {f:bV} {out a:List Int} (h:a∈bW f out):a.length=f.rows.toNat:=(GU.1 (Em h).1).1
theorem aac (n:Nat):Inc n 0 (upto n):=by
 have:=Xr n 0 n (by omega)
 unfold upto
 rw[<-List.range_eq_range'] at this
 exact this
theorem BK {a b:List Int} (h:oG a b=false):b.length<=a.length:=by
 unfold oG at h
 simp only[Bool.or_eq_false_iff,decide_eq_false_iff_not] at h
 omega
end Go.Proofs.YthbpmepjmebolaaGreatDoor
namespace Go.Proofs.YthbpmepjmebolaaGreatDoor
open jv
structure aQ where
 field:bV
 rate:Int
 box:dY
 notes:List (Int×dY)
def ug (r x:dY):dY:=(max r.1 x.1,min r.2 x.2)
def pM (l:aQ) (out:List Int) (i:Nat) (due:Int):dY:=
 ((List.range l.notes.length).filter fun(k:Nat)=>!out.contains (k:Int)&&(l.notes.getD k (0,(0,0))).1==(i:Int)).foldl (fun r k=>ug r (l.notes.getD k (0,(0,0))).2) (0,due)
def zI (l:List Int):Int:=l.foldr (· + ·) 0
theorem vU (x:Int) (l:List Int):zI (x::l)=x+zI l:=rfl
def pq (l:aQ) (out:List Int) (Ec:List Int):List dY:=(List.range l.field.aO.toNat).map fun i=>pM l out i (Ec.getD i 0)
def Jf (l:aQ) (out Ec:List Int):Int:=zI ((pq l out Ec).map (·.1))
def zX (l:aQ) (out Ec:List Int):Int:=zI ((pq l out Ec).map (·.2))
def jF (l:aQ) (out Ec:List Int):Bool:=(pq l out Ec).all (fun r=>decide (r.1<=r.2))&&decide (Jf l out Ec<=l.box.2)&&decide (l.box.1<=zX l out Ec)
def kP (l:aQ) (out Ec:List Int):List dY:=
 (pq l out Ec).map fun r=>ug r (l.box.1-(zX l out Ec-r.2),l.box.2-(Jf l out Ec-r.1))
end Go.Proofs.YthbpmepjmebolaaGreatDoor
namespace Go.Proofs.YthbpmepjmebolaaGreatDoor
open jv
def lW (rate:Int) (rows:List Int):List Int:=(List.range 3).map fun(i:Nat)=>rate*(rows.count (i:Int):Int)
theorem lg (rate:Int) (rows:List Int):(lW rate rows).length=3:=by simp[lW]
theorem sD (rate:Int) (rows:List Int) {i:Nat} (hi:i<3):(lW rate rows).getD i 0=rate*(rows.count (i:Int):Int):=by
 unfold lW
 rw[iH,qF,List.getElem?_range hi]
 rfl
theorem aic {a b:List Int} (ha:a.length=3) (hb:b.length=3) (h: ∀i,i<3->a.getD i 0=b.getD i 0):a=b:=by
 refine List.ext_getElem (by omega) fun i h1 h2=>?_
 have:=h i (by omega)
 simpa [List.getD,h1,h2] using this
theorem XO (rate:Int):lW rate []=[0,0,0]:=by simp[lW,List.range_succ]
theorem Ub (rate:Int) (rs:List Int) (n:Nat) (hn:n<3):(lW rate rs).set n ((lW rate rs).getD n 0+rate)=lW rate (rs++[(n:Int)]):=by
 refine aic (by simp[lg]) (lg _ _) fun i hi=>?_
 rw[sD _ _ hi,List.count_append]
 by_cases e:n=i
 ·subst e
  rw[List.getD_eq_getElem?_getD,List.getElem?_set_self (by rw[lg];omega),Option.getD_some,sD _ _ hn]
  simp[Int.mul_add]
 ·rw[List.getD_eq_getElem?_getD,List.getElem?_set_ne e, <-List.getD_eq_getElem?_getD,sD _ _ hi]
  have:List.count (i:Int) [(n:Int)]=0:=by
   rw[List.count_eq_zero]
   simp;omega
  rw[this,Nat.add_zero]
theorem Uc (rate:Int) (rs:List Int) (x:Int) (hx:x<0):lW rate (rs++[x])=lW rate rs:=by
 refine aic (lg _ _) (lg _ _) fun i hi=>?_
 rw[sD _ _ hi,sD _ _ hi,List.count_append]
 have:List.count (i:Int) [x]=0:=by
  rw[List.count_eq_zero]
  simp;omega
 rw[this,Nat.add_zero]
theorem Ii {rate:Int} (h0:0<=rate) (h1:rate<=50) (rs:List Int) (hl:rs.length<=7) (i:Nat) (hi:i<3):0<=(lW rate rs).getD i 0/\(lW rate rs).getD i 0<=350:=by
 rw[sD _ _ hi]
 have hc:(List.count (i:Int) rs:Int)<=7:=by
  have:=List.count_le_length (a:=(i:Int)) (l:=rs)
  omega
 have hc0:(0:Int)<=(List.count (i:Int) rs:Int):=by omega
 refine⟨Int.mul_nonneg h0 hc0,?_⟩
 calc rate*(List.count (i:Int) rs:Int)<=50*7:=Int.mul_le_mul h1 hc hc0 (by omega)
  _=350:=rfl
end Go.Proofs.YthbpmepjmebolaaGreatDoor
namespace Go.Proofs.YthbpmepjmebolaaGreatDoor
open jv
def lJ (l:aQ) (out:List Int) (k:Nat):List (Int×dY):=((List.range k).filter fun(i:Nat)=>!out.contains (i:Int)).map fun i=>l.notes.getD i (0,(0,0))
def EI (l:aQ) (out:List Int):List (Int×dY):=lJ l out l.notes.length
theorem Tj {l:aQ} {out:List Int} {k:Nat} (h:out.contains (k:Int)=false):lJ l out (k+1)=lJ l out k++[l.notes.getD k (0,(0,0))]:=by
 unfold lJ
 rw[List.range_succ,List.filter_append,List.map_append]
 congr 1
 rw[List.filter_cons_of_pos (by rw[h];rfl)]
 rfl
theorem Xi {l:aQ} {out:List Int} {k:Nat} (h:out.contains (k:Int)=true):lJ l out (k+1)=lJ l out k:=by
 unfold lJ
 rw[List.range_succ,List.filter_append,List.map_append,List.filter_cons_of_neg (by rw[h];simp)]
 simp
theorem G5 (l:aQ) (out:List Int) (k:Nat):(lJ l out k).length<=k:=by
 unfold lJ
 rw[mF]
 have:=List.length_filter_le (fun(i:Nat)=>!out.contains (i:Int)) (List.range k)
 simpa using this
def xP (ns:List (Int×dY)) (key:Int×Int) (k:Nat):dY:=(ns.take k).foldl (fun r n=>if n.1=key.1 then ug r n.2 else r) (0,key.2)
def kn (ns:List (Int×dY)) (key:Int×Int):dY:=xP ns key ns.length
theorem Kz {ns:List (Int×dY)} {key:Int×Int} {k:Nat} (hk:k<ns.length):xP ns key (k+1)=if ns[k].1=key.1 then ug (xP ns key k) ns[k].2 else xP ns key k:=by
 unfold xP
 rw[iE hk,List.foldl_append]
 rfl
theorem Pv (l:aQ) (out:List Int) (i:Nat) (due:Int):kn (EI l out) ((i:Int),due)=pM l out i due:=by
 unfold kn xP pM EI lJ
 rw[List.take_length,List.foldl_map]
 generalize List.range l.notes.length=ks
 have: ∀(ks:List Nat) (r:dY),(ks.filter fun(k:Nat)=>!out.contains (k:Int)).foldl (fun r k=>if(l.notes.getD k (0,(0,0))).1=(i:Int) then ug r (l.notes.getD k (0,(0,0))).2 else r) r=
  (ks.filter fun(k:Nat)=>!out.contains (k:Int)&&(l.notes.getD k (0,(0,0))).1==(i:Int)).foldl (fun r k=>ug r (l.notes.getD k (0,(0,0))).2) r:=by
  intro ks
  induction ks with
  |nil=>intro r;rfl
  |cons k ks ih=>
   intro r
   cases hc:out.contains (k:Int)
   ·by_cases hn:(l.notes.getD k (0,(0,0))).1=(i:Int)
    ·simp only[List.filter_cons,hc,hn,Bool.not_false,if_true,beq_self_eq_true,Bool.and_self,List.foldl_cons]
     exact ih _
    ·have hnb:((l.notes.getD k (0,(0,0))).1==(i:Int))=false:=by simpa using hn
     simp only[List.filter_cons,hc,hnb,hn,Bool.not_false,if_true,if_false,Bool.and_false,Bool.false_eq_true,List.foldl_cons]
     exact ih _
   ·simp only[List.filter_cons,hc,Bool.not_true,Bool.false_and,Bool.false_eq_true,if_false]
    exact ih _
 exact this ks (0,due)
theorem Wl (xs:List Int) (x:Int):zI (xs++[x])=zI xs+x:=by
 induction xs with
 |nil=>simp[zI]
 |cons y xs ih=>rw[List.cons_append,vU,vU,ih];omega
def lD (f:dY->Int) (rs:List dY) (k:Nat):Int:=zI ((rs.take k).map f)
theorem sO (f:dY->Int) {rs:List dY} {k:Nat} (hk:k<rs.length):lD f rs (k+1)=lD f rs k+f rs[k]:=by
 unfold lD
 rw[iE hk,List.map_append,List.map_singleton,Wl]
theorem yg (f:dY->Int) (rs:List dY) (h: ∀r∈rs,0<=f r/\f r<=2000): ∀k,k<=rs.length->0<=lD f rs k/\lD f rs k<=2000*k:=by
 intro k
 induction k with
 |zero=>intro _;simp[lD,zI]
 |succ k ih=>
  intro hk
  have:=ih (by omega)
  have:=h rs[k] (cZ _)
  rw[sO f (by omega)]
  omega
theorem zq (f:dY->Int) (rs:List dY):lD f rs rs.length=zI (rs.map f):=by unfold lD;rw[List.take_length]
theorem aco {ns:List (Int×dY)} (hn: ∀x∈ns,0<=x.2.1/\x.2.1<=2000/\0<=x.2.2/\x.2.2<=2000) {key:Int×Int} (h0:0<=key.2) (_h1:key.2<=2000): ∀k,k<=ns.length->0<=(xP ns key k).1/\(xP ns key k).1<=2000/\0<=(xP ns key k).2/\(xP ns key k).2<=key.2:=by
 intro k
 induction k with
 |zero=>intro _;simp[xP];omega
 |succ k ih=>
  intro hk
  have h:=ih (by omega)
  have hx:=hn ns[k] (cZ _)
  rw[Kz (by omega)]
  split
  ·unfold ug
   simp only
   omega
  ·exact h
theorem Xj {l:aQ} {out:List Int} {x:Int×dY} (h:x∈EI l out):x∈l.notes:=by
 unfold EI lJ at h
 obtain⟨i,hi,rfl⟩:=jd.1 h
 have:=mD.1 (List.mem_filter.1 hi).1
 rw[show l.notes.getD i (0,(0,0))=l.notes[i] from by simp[List.getD,this]]
 exact cZ _
structure pX (l:aQ):Prop where
 field:ku l.field=0
 some:bW l.field []≠[]
 rate:1<=l.rate/\l.rate<=50
 box:0<=l.box.1/\l.box.1<=l.box.2/\l.box.2<=2000
 many:l.notes.length<=5
 notes: ∀x∈l.notes,(0<=x.1/\x.1<l.field.aO)/\(0<=x.2.1/\x.2.1<=x.2.2/\x.2.2<=2000)
theorem Pq {l:aQ} (hS:pX l) (out:List Int) (i:Nat) {due:Int} (h0:0<=due) (h1:due<=2000):0<=(pM l out i due).1/\(pM l out i due).1<=2000/\0<=(pM l out i due).2/\(pM l out i due).2<=due:=by
 rw[<-Pv]
 exact aco (fun x hx=>by have:=hS.notes x (Xj hx);omega) h0 h1 _ (ai _)
theorem zG (l:aQ) (out d:List Int):(pq l out d).length=l.field.aO.toNat:=by simp[pq]
theorem Ef (l:aQ) (out d:List Int) {i:Nat} (hi:i<l.field.aO.toNat):(pq l out d).getD i (0,0)=pM l out i (d.getD i 0):=by
 unfold pq
 rw[iH,qF,List.getElem?_range hi]
 rfl
end Go.Proofs.YthbpmepjmebolaaGreatDoor
namespace Go.Proofs.YthbpmepjmebolaaGreatDoor
open jv
def xZ (r x:dY):dY:=(min r.1 x.1,max r.2 x.2)
def oP (due:Int) (r:dY):dY:=(due-r.2,due-r.1)
def rH (p:Int->dY->dY) (l:aQ) (d:List Int):List dY:=(List.range l.field.aO.toNat).map fun i=>p (d.getD i 0) ((kP l [] d).getD i (0,0))
def kJ (acc mZ:List dY) (i:Nat):List dY:=if acc=[] then mZ.take i else(List.zipWith xZ acc mZ).take i++acc.drop i
def Js (acc mZ:List dY):List dY:=if acc=[] then mZ else List.zipWith xZ acc mZ
def uZ (p:Int->dY->dY) (l:aQ) (acc:List dY) (d:List Int):List dY:=if jF l [] d=true then Js acc (rH p l d) else acc
def lX (p:Int->dY->dY) (l:aQ) (k:Nat) (ds:List (List Int)):List dY:=(ds.take k).foldl (uZ p l) []
def CS (p:Int->dY->dY) (l:aQ) (ds:List (List Int)):List dY:=lX p l ds.length ds
theorem JX (l:aQ) (out d:List Int):(kP l out d).length=l.field.aO.toNat:=by simp[kP,zG]
theorem oW (p:Int->dY->dY) (l:aQ) (d:List Int):(rH p l d).length=l.field.aO.toNat:=by simp[rH]
theorem Ko (p:Int->dY->dY) (l:aQ) (d:List Int) {i:Nat} (hi:i<(rH p l d).length):(rH p l d)[i]=p (d.getD i 0) ((kP l [] d).getD i (0,0)):=by
 simp[rH]
theorem Ba (p:Int->dY->dY) (l:aQ) {k:Nat} {ds:List (List Int)} (hk:k<ds.length):lX p l (k+1) ds=uZ p l (lX p l k ds) ds[k]:=by
 unfold lX
 rw[iE hk,List.foldl_append]
 rfl
theorem abo {acc mZ:List dY} (h:acc=[]∨acc.length=mZ.length):(Js acc mZ).length=mZ.length:=by
 unfold Js
 split
 ·rfl
 ·rcases h with h|h
  ·contradiction
  ·simp[h]
theorem KZ (p:Int->dY->dY) (l:aQ) (ds:List (List Int)): ∀k,k<=ds.length->lX p l k ds=[]∨(lX p l k ds).length=l.field.aO.toNat:=by
 intro k
 induction k with
 |zero=>intro _;exact .inl rfl
 |succ k ih=>
  intro hk
  rw[Ba p l (by omega)]
  have h:=ih (by omega)
  unfold uZ
  split
  ·right
   rw[abo (by rw[oW];exact h),oW]
  ·exact h
theorem xx (acc mZ:List dY):kJ acc mZ 0=acc:=by
 unfold kJ
 split
 ·rename_i h;rw[h];rfl
 ·simp
theorem Yr {acc mZ:List dY} (h:acc=[]∨acc.length=mZ.length):kJ acc mZ mZ.length=Js acc mZ:=by
 unfold kJ Js
 split
 ·simp
 ·rcases h with h|h
  ·contradiction
  ·rw[kN (by simp;omega),List.drop_of_length_le (by omega),List.append_nil]
theorem Yq {acc mZ:List dY} {i:Nat} (h:acc=[]∨acc.length=mZ.length) (hi:i<=mZ.length):(kJ acc mZ i).length=if acc=[] then i else mZ.length:=by
 unfold kJ
 by_cases e:acc=[]
 ·rw[aF e,aF e];simp;omega
 ·rw[ak e,ak e]
  rcases h with h|h
  ·contradiction
  ·simp;omega
theorem Yp {mZ:List dY} {i:Nat} (hi:i<mZ.length):kJ [] mZ (i+1)=kJ [] mZ i++[mZ[i]]:=by
 unfold kJ
 rw[aF rfl,aF rfl,iE hi]
theorem Yo {acc mZ:List dY} {i:Nat} (ha:acc≠[]) (h:acc.length=mZ.length) (hi:i<mZ.length):
 (kJ acc mZ i)[i]? =acc[i]?/\kJ acc mZ (i+1)=(kJ acc mZ i).set i (xZ (acc.getD i (0,0)) mZ[i]):=by
 unfold kJ
 rw[ak ha,ak ha]
 have hz:((List.zipWith xZ acc mZ).take i).length=i:=by simp;omega
 refine⟨?_,?_⟩
 ·rw[nG (by omega),hz,List.getElem?_drop,Nat.sub_self,Nat.add_zero]
 ·rw[qH _ _ (by omega),hz,Nat.sub_self,Bc (by omega:i<acc.length),List.set_cons_zero,
   iE (by simp;omega),nC,List.singleton_append]
  simp[List.getD,h,hi]
structure uz (S:dY->Prop) (r:dY):Prop where
 low:(∃x,S x/\x.1=r.1)/\ ∀x,S x->r.1<=x.1
 high:(∃x,S x/\x.2=r.2)/\ ∀x,S x->x.2<=r.2
theorem uz.one (x:dY):uz (fun y=>y=x) x:=⟨⟨⟨x,rfl,rfl⟩,fun y h=>by rw[h];exact Int.le_refl _⟩,⟨x,rfl,rfl⟩,fun y h=>by rw[h];exact Int.le_refl _⟩
theorem uz.add {S:dY->Prop} {r:dY} (h:uz S r) (x:dY):uz (fun y=>S y∨y=x) (xZ r x):=by
 obtain⟨⟨⟨a,ha,ha'⟩,h1⟩,⟨b,hb,hb'⟩,h2⟩:=h
 unfold xZ
 refine⟨⟨?_,?_⟩,?_,?_⟩
 ·by_cases e:r.1<=x.1
  ·exact⟨a,.inl ha,by simp only;omega⟩
  ·exact⟨x,.inr rfl,by simp only;omega⟩
 ·rintro y (hy|rfl)
  ·have:=h1 y hy;simp only;omega
  ·simp only;omega
 ·by_cases e:x.2<=r.2
  ·exact⟨b,.inl hb,by simp only;omega⟩
  ·exact⟨x,.inr rfl,by simp only;omega⟩
 ·rintro y (hy|rfl)
  ·have:=h2 y hy;simp only;omega
  ·simp only;omega
theorem uz.congr {S T:dY->Prop} {r:dY} (h:uz S r) (e: ∀x,S x↔T x):uz T r:=by
 obtain⟨⟨⟨a,ha,ha'⟩,h1⟩,⟨b,hb,hb'⟩,h2⟩:=h
 exact⟨⟨⟨a,(e a).1 ha,ha'⟩,fun x hx=>h1 x ((e x).2 hx)⟩,⟨b,(e b).1 hb,hb'⟩,fun x hx=>h2 x ((e x).2 hx)⟩
theorem IA (p:Int->dY->dY) (l:aQ) (ds:List (List Int)) {i:Nat} (hi:i<l.field.aO.toNat): ∀k,k<=ds.length->
 (lX p l k ds=[]/\ ∀d∈ds.take k,jF l [] d=false)∨((lX p l k ds).length=l.field.aO.toNat/\uz (fun y=> ∃d∈ds.take k,jF l [] d=true/\y=p (d.getD i 0) ((kP l [] d).getD i (0,0))) ((lX p l k ds).getD i (0,0))):=by
 intro k
 induction k with
 |zero=>intro _;exact .inl ⟨rfl,fun d hd=>by simp at hd⟩
 |succ k ih=>
  intro hk
  have hkl:k<ds.length:=by omega
  rw[Ba p l hkl,iE hkl]
  have hn: ∀d,(rH p l d).getD i (0,0)=p (d.getD i 0) ((kP l [] d).getD i (0,0)):=fun d=>by
   have hi':i<(rH p l d).length:=by rw[oW];exact hi
   rw[iH,dP hi',Option.getD_some,Ko p l d hi']
  cases hc:jF l [] ds[k] with
  |false=>
   have hs:uZ p l (lX p l k ds) ds[k]=lX p l k ds:=by unfold uZ;rw[hc];rfl
   rw[hs]
   rcases ih (by omega) with⟨h1,h2⟩|⟨h1,h2⟩
   ·refine .inl ⟨h1,fun d hd=>?_⟩
    rcases iT.1 hd with h|h
    ·exact h2 d h
    ·rw[fK.1 h];exact hc
   ·refine .inr ⟨h1,h2.congr fun x=>⟨fun⟨d,hd,a,b⟩=>⟨d,nT _ hd,a,b⟩,fun⟨d,hd,a,b⟩=>?_⟩⟩
    rcases iT.1 hd with h|h
    ·exact⟨d,h,a,b⟩
    ·rw[fK.1 h,hc] at a;cases a
  |true=>
   have hs:uZ p l (lX p l k ds) ds[k]=Js (lX p l k ds) (rH p l ds[k]):=by unfold uZ;rw[hc];rfl
   rw[hs]
   right
   rcases ih (by omega) with⟨h1,h2⟩|⟨h1,h2⟩
   ·rw[h1]
    have ha:Js [] (rH p l ds[k])=rH p l ds[k]:=by unfold Js;rw[aF rfl]
    rw[ha]
    refine⟨oW _ _ _,?_⟩
    rw[hn]
    refine(uz.one _).congr fun x=>⟨fun e=>⟨ds[k],um _ (fK.2 rfl),hc,e⟩,fun⟨d,hd,a,b⟩=>?_⟩
    rcases iT.1 hd with h|h
    ·rw[h2 d h] at a;cases a
    ·rw[fK.1 h] at b;exact b
   ·have hne:lX p l k ds≠[]:=fun e=>by rw[e] at h1;simp at h1;omega
    have ha:Js (lX p l k ds) (rH p l ds[k])=List.zipWith xZ (lX p l k ds) (rH p l ds[k]):=by unfold Js;rw[ak hne]
    rw[ha]
    refine⟨by simp[h1,oW],?_⟩
    have hg:(List.zipWith xZ (lX p l k ds) (rH p l ds[k])).getD i (0,0)=xZ ((lX p l k ds).getD i (0,0)) (p (ds[k].getD i 0) ((kP l [] ds[k]).getD i (0,0))):=by
     rw[<-hn ds[k]]
     have h3:i<(lX p l k ds).length:=by omega
     have h4:i<(rH p l ds[k]).length:=by rw[oW];exact hi
     simp only[iH,List.getElem?_zipWith,dP h3,dP h4,Option.getD_some]
    rw[hg]
    refine(h2.add _).congr fun x=>⟨?_,?_⟩
    ·rintro(⟨d,hd,a,b⟩|e)
     ·exact⟨d,nT _ hd,a,b⟩
     ·exact⟨ds[k],um _ (fK.2 rfl),hc,e⟩
    ·rintro⟨d,hd,a,b⟩
     rcases iT.1 hd with h|h
     ·exact .inl ⟨d,h,a,b⟩
     ·rw[fK.1 h] at b;exact .inr b
theorem ab7 {rs:List dY} (h: ∀r∈rs,r.1<=r.2):zI (rs.map (·.1))<=zI (rs.map (·.2)):=by
 induction rs with
 |nil=>exact Int.le_refl _
 |cons x rs ih=>
  have h1:=h x List.mem_cons_self
  have h2:=ih (fun y hy=>h y (qG _ hy))
  simp only[List.map_cons,vU]
  omega
theorem Om {l:List Int} {i:Nat} (hi:i<l.length) (x:Int):zI (l.set i x)=zI l-l.getD i 0+x:=by
 induction l generalizing i with
 |nil=>simp at hi
 |cons y l ih=>
  cases i with
  |zero=>simp only[List.set_cons_zero,vU,List.getD_cons_zero];omega
  |succ i=>
   have:=ih (i:=i) (by simpa using hi)
   simp only[List.set_cons_succ,vU,List.getD_cons_succ]
   omega
theorem JY (l:aQ) (out d:List Int) {i:Nat} (hi:i<l.field.aO.toNat):
 (kP l out d).getD i (0,0)=ug (pM l out i (d.getD i 0)) (l.box.1-(zX l out d-(pM l out i (d.getD i 0)).2),l.box.2-(Jf l out d-(pM l out i (d.getD i 0)).1)):=by
 have ha:=Ef l out d hi
 have hl:i<(pq l out d).length:=by rw[zG];exact hi
 rw[iH,dP hl,Option.getD_some] at ha
 unfold kP
 rw[iH,qF,dP hl,ha]
 rfl
theorem SG {l:aQ} {out d:List Int} {i:Nat} (hi:i<l.field.aO.toNat) (hb:l.box.1<=l.box.2) (hc:jF l out d=true):((kP l out d).getD i (0,0)).1<=((kP l out d).getD i (0,0)).2:=by
 rw[JY l out d hi]
 have hl:i<(pq l out d).length:=by rw[zG];exact hi
 have ha:=Ef l out d hi
 unfold jF at hc
 simp only[fH,jR,fB] at hc
 obtain⟨⟨h1,h2⟩,h3⟩:=hc
 have e1:zI (((pq l out d).set i (0,0)).map (·.1))=Jf l out d-(pM l out i (d.getD i 0)).1:=by
  rw[List.map_set,Om (by simpa using hl)]
  unfold Jf
  rw[<-ha,iH,iH,qF,dP hl]
  simp
 have e2:zI (((pq l out d).set i (0,0)).map (·.2))=zX l out d-(pM l out i (d.getD i 0)).2:=by
  rw[List.map_set,Om (by simpa using hl)]
  unfold zX
  rw[<-ha,iH,iH,qF,dP hl]
  simp
 have e3:=ab7 (rs:=(pq l out d).set i (0,0)) (fun r hr=>by
  rcases List.mem_or_eq_of_mem_set hr with h|h
  ·exact h1 r h
  ·rw[h];exact Int.le_refl _)
 have e4:=h1 _ (by rw[iH,dP hl,Option.getD_some] at ha;rw[<-ha];exact cZ hl:pM l out i (d.getD i 0)∈pq l out d)
 rw[e1,e2] at e3
 unfold ug
 simp only
 omega
end Go.Proofs.YthbpmepjmebolaaGreatDoor
namespace Go.Proofs.YthbpmepjmebolaaGreatDoor
open jv
end Go.Proofs.YthbpmepjmebolaaGreatDoor
namespace Go.Proofs.YthbpmepjmebolaaGreatDoor
open jv
end Go.Proofs.YthbpmepjmebolaaGreatDoor
end
section
namespace Go.RG
open Go.RowKit
structure Ext (Ms:List Nat) (w w':World):Prop where
 os:w'.os=w.os
 tape:w'.tape=w.tape
 output:w'.output=w.output
 size:w.heap.size<=w'.heap.size
 block: ∀k,k<w.heap.size->k∉Ms->w'.heap[k]? =w.heap[k]?
theorem Ext.refl (Ms:List Nat) (w:World):Ext Ms w w:=⟨rfl,rfl,rfl,ai _,fun _ _ _=>rfl⟩
theorem Ext.trans {Ms:List Nat} {a b c:World} (h:Ext Ms a b) (k:Ext Ms b c):Ext Ms a c:=
 ⟨k.os.trans h.os,k.tape.trans h.tape,k.output.trans h.output,ji h.size k.size,
   fun i hi hm=>(k.block i (eu hi h.size) hm).trans (h.block i hi hm)⟩
theorem Ext.more {Ms Ms':List Nat} {w w':World} (h:Ext Ms w w') (hs: ∀x,x∈Ms->x∈Ms'):Ext Ms' w w':=
 ⟨h.os,h.tape,h.output,h.size,fun k hk hm=>h.block k hk (fun e=>hm (hs k e))⟩
theorem Ext.nil {Ms:List Nat} {w w':World} (h:Ext [] w w'):Ext Ms w w':=h.more (by simp)
theorem Ext.aA {Ms:List Nat} {w w':World} (h:Below w.heap.size w w'):Ext Ms w w':=
 ⟨h.os,h.tape,h.output,h.size,fun k hk _=>h.block k hk⟩
theorem Ext.below {w w':World} (h:Ext [] w w'):Below w.heap.size w w':=
 ⟨h.os,h.tape,h.output,h.size,fun k hk=>h.block k hk (by simp)⟩
theorem Ext.drew {Ms:List Nat} {a w:World} (h:Ext Ms a w):Ext Ms a w.drew:=⟨h.os,h.tape,h.output,h.size,h.block⟩
theorem Ext.cell {Ms:List Nat} {w w':World} (h:Ext Ms w w') (b o:Nat) (hb:b<w.heap.size) (hm:b∉Ms):w'.cell? ⟨b,o,none⟩=w.cell? ⟨b,o,none⟩:=
 je (w:=w) (h.block b hb hm)
def Does (P:Program) (o:Oper) (ρ:Operand->Value) (W:World) (R:Value->World->Prop):Prop:=
 match (execOp ρ o).run P W with
 | .ok (.value v) w'=>R v w'
 | .ok .skip w'=>R undef w'
 | .ok (.enter f args) w'=>Calls P f args w' (fun e w''=> ∃v,e= .returned v/\R v w'')
 |_=>False
structure Spec where
 pure:List Value->Value->Prop
 world:List Value->Value->World->Prop
abbrev Facts:=List (Nat×(World->Prop))
def nP (o:Oper) (a:Act):List Value:=o.op.operands.toList.map a.eval
def kQ (ops:Array Oper) (j i:Nat):Bool:=((Region.before ops).getD i 0).testBit j
structure II (R0 R1:World->World->Prop):Prop where
 refl: ∀w,R0 w w
 aea: ∀{a b c},R0 a b->R0 b c->R0 a c
 ad9: ∀{a b c},R1 a b->R1 b c->R1 a c
 sub: ∀{a b},R0 a b->R1 a b
def xH (R0 R1:World->World->Prop) (m:Option Nat) (i:Nat):World->World->Prop:=if m=some i then R1 else R0
def kW (R0 R1:World->World->Prop) (m:Option Nat) (i:Nat):World->World->Prop:=if m=some i then R0 else R1
theorem II.aci {R0 R1:World->World->Prop} (h:II R0 R1) {m:Option Nat} (i:Nat) (w:World):kW R0 R1 m i w w:=by
 unfold kW
 split
 ·exact h.refl w
 ·exact h.sub (h.refl w)
theorem BB (Ms:List Nat):II (Ext []) (Ext Ms):=⟨Ext.refl [],Ext.trans,Ext.trans,Ext.nil⟩
abbrev uN:=Nat->List Value->Value->World->Prop
def O4:uN:=fun _ _ _ _=>True
def UQ (ops:Array Oper) (R0 R1:World->World->Prop) (m:Option Nat) (W0:World) (F G:Facts) (i:Nat) (W:World):Prop:=
 kW R0 R1 m i W0 W/\(∀f∈F,kQ ops f.1 i=true->f.2 W)/\(m=some i-> ∀g∈G,kQ ops g.1 i=true->g.2 W)
def qZ (n t:Nat):Array Bool:=((List.range n).map (fun i=>decide (i<t))).toArray
def chk (ops:Array Oper) (k:Nat):Bool:=
 let n:=ops.size
 let at_ (i:Nat):Oper:=ops.getD i default
 decide (k<=n)&&
 (List.range n).all (fun i=>(at_ i).after.toList.all fun e=>!Region.binds .any e ||decide (e.on<i))&&
 (List.range k).all (fun i=>(List.range k).all fun j=>i==j ||(at_ i).dst.isNone ||(at_ i).dst !=(at_ j).dst)&&
 (List.range k).all (fun i=>((at_ i).looksAt ops).all fun t=>(List.range k).all fun j=>
   (at_ j).dst !=some t ||i==j ||(decide (j<i)&&kQ ops j i) ||(decide (i<j)&&kQ ops i j))&&
 (List.range n).all (fun i=>decide (i<k) ||(List.range k).all fun j=>kQ ops j i)&&
 (List.range n).all (fun i=>match (at_ i).op with| .select .. =>false|_=>true)&&
 (List.range (n-k)).all (fun t=>Region.ready .any ops (qZ n (k+t))==[k+t])&&
 Region.ready .any ops (qZ n n)==[]
def Down (ops:Array Oper) (D:Nat->Prop):Prop:= ∀i o,ops[i]? =some o->D i-> ∀e∈o.after,Region.binds .any e=true->D e.on
theorem Xd (acc:Array Nat) (j:Nat) (l:List Edge) (s:Nat)
 (h:(l.foldl (fun s e=>if Region.binds .any e then s |||2^e.on |||acc.getD e.on 0 else s) s).testBit j=true):
 s.testBit j=true∨ ∃e∈l,Region.binds .any e=true/\(j=e.on∨(acc.getD e.on 0).testBit j=true):=by
 induction l generalizing s with
 |nil=>exact .inl h
 |cons e l ih=>
  simp only[List.foldl_cons] at h
  rcases ih _ h with h1|⟨e',he',hb,hj⟩
  ·by_cases hb:Region.binds .any e=true
   ·rw[aF hb] at h1
    simp only[Nat.testBit_or,Bool.or_eq_true,Nat.testBit_two_pow,fB] at h1
    rcases h1 with(h1|h1)|h1
    ·exact .inl h1
    ·exact .inr ⟨e,by simp,hb,.inl h1.symm⟩
    ·exact .inr ⟨e,by simp,hb,.inr h1⟩
   ·rw[ak hb] at h1
    exact .inl h1
  ·exact .inr ⟨e',by simp[he'],hb,hj⟩
def masks (l:List Oper):Array Nat:=
 l.foldl (fun acc o=>acc.push (o.after.foldl (fun s e=>if Region.binds .any e then s |||2^e.on |||acc.getD e.on 0 else s) 0)) #[]
theorem Yf (ops:Array Oper):Region.before ops=masks ops.toList:=by
 simp only[Region.before,masks,Array.foldl_toList]
theorem GV (l:List Oper) (o:Oper):masks (l++[o])=(masks l).push (o.after.foldl (fun s e=>if Region.binds .any e then s |||2^e.on |||(masks l).getD e.on 0 else s) 0):=by
 simp[masks,List.foldl_append]
theorem pG {α:Type} {p:List α->Prop} (h0:p []) (h1: ∀l a,p l->p (l++[a])) (l:List α):p l:=by
 rw[<-l.reverse_reverse]
 induction l.reverse with
 |nil=>exact h0
 |cons a t ih=>rw[List.reverse_cons];exact h1 _ _ ih
theorem Aq (l:List Oper):(masks l).size=l.length:=by
 induction l using pG with
 |h0=>rfl
 |h1 l o ih=>simp[GV,ih]
theorem Xc (l:List Oper) (D:Nat->Prop) (hD: ∀i o,l[i]? =some o->D i-> ∀e∈o.after,Region.binds .any e=true->D e.on):
 ∀i j,i<l.length->D i->((masks l).getD i 0).testBit j=true->D j:=by
 induction l using pG with
 |h0=>intro i j hi;simp at hi
 |h1 l o ih=>
  have ih':=ih (fun i o' hi=>hD i o' (by
   have:=(jf.1 hi).1
   rw[vJ this];exact hi))
  intro i j hi hDi h
  rw[GV] at h
  by_cases hlt:i<l.length
  ·rw[Array.getD_eq_getD_getElem?,Array.getElem?_push,ak (by rw[Aq];omega), <-Array.getD_eq_getD_getElem?] at h
   exact ih' i j hlt hDi h
  ·have hi':i=l.length:=by simp at hi;omega
   subst hi'
   rw[Array.getD_eq_getD_getElem?,Array.getElem?_push,aF (by rw[Aq])] at h
   simp only[Option.getD_some] at h
   rw[<-Array.foldl_toList] at h
   rcases Xd _ j _ _ h with h1|⟨e,he,hb,hj⟩
   ·simp at h1
   ·have hDe:D e.on:=hD l.length o (by simp) hDi e (by simpa using he) hb
    rcases hj with rfl|hj
    ·exact hDe
    ·by_cases hlt':e.on<l.length
     ·exact ih' e.on j hlt' hDe hj
     ·rw[Array.getD_eq_getD_getElem?,Array.getElem?_eq_none (by rw[Aq];omega)] at hj
      simp at hj
theorem ui {ops:Array Oper} {D:Nat->Prop} (hD:Down ops D) {i j:Nat} (hi:i<ops.size) (hDi:D i) (h:kQ ops j i=true):D j:=by
 unfold kQ at h
 rw[Yf] at h
 exact Xc ops.toList D (fun i o hi=>hD i o (by simpa using hi)) i j (by simpa using hi) hDi h
theorem Yi {ops:Array Oper} {D:Nat->Prop} (hD:Down ops D) {i j:Nat} {o:Oper} (ho:ops[i]? =some o)
 (hr: ∀e∈o.after,Region.binds .any e=true->D e.on) (h:kQ ops j i=true) (hij:j≠i):D j:=by
 have hD':Down ops (fun t=>D t∨t=i):=by
  intro t o' ht hDt e he hb
  rcases hDt with hDt|rfl
  ·exact .inl (hD t o' ht hDt e he hb)
  ·rw[ho] at ht;cases ht
   exact .inl (hr e he hb)
 exact(ui hD' (aV.1 ho).1 (.inr rfl) h).resolve_right hij
section
variable {P : Program} {ops : Array Oper}
def oz (ops:Array Oper) (i:Nat):Option Tmp:=(ops[i]?).bind (·.dst)
def kC (ops:Array Oper) (env:Nat->Value) (a0:Act) (l:List Nat):Act:=l.foldl (fun a i=>a.put (oz ops i) (env i)) a0
theorem lG (env:Nat->Value) (a0:Act) (l:List Nat) (i:Nat):kC ops env a0 (l++[i])=(kC ops env a0 l).put (oz ops i) (env i):=by
 simp[kC,List.foldl_append]
theorem put_defers (a:Act) (d:Option Tmp) (v:Value):(a.put d v).defers=a.defers:=by cases d <;>rfl
theorem ZB (a:Act) (d:Option Tmp) (v:Value):(a.put d v).tmps.size=a.tmps.size:=by cases d <;>simp[Act.put]
theorem Vg (a:Act) (d:Option Tmp) (v:Value) (t:Nat):(a.put d v).tmps[t]? =if d=some t then(if t<a.tmps.size then some v else none) else a.tmps[t]? :=by
 cases d with
 |none=>simp[Act.put]
 |some d=>
  by_cases h:d=t
  ·subst h;simp[Act.put,Array.getElem?_setIfInBounds]
  ·have h':some d≠some t:=fun e=>h (jG e)
   rw[ak h']
   simp[Act.put,Array.getElem?_setIfInBounds_ne h]
theorem mf (env:Nat->Value) (a0:Act) (l:List Nat):(kC ops env a0 l).defers=a0.defers:=by
 induction l using pG with
 |h0=>rfl
 |h1 l i ih=>rw[lG,put_defers,ih]
theorem OE (env:Nat->Value) (a0:Act) (l:List Nat):(kC ops env a0 l).tmps.size=a0.tmps.size:=by
 induction l using pG with
 |h0=>rfl
 |h1 l i ih=>rw[lG,ZB,ih]
theorem Et (env:Nat->Value) (a0:Act) (t:Nat) (l:List Nat) (h: ∀i∈l,oz ops i≠some t):(kC ops env a0 l).tmps[t]? =a0.tmps[t]? :=by
 induction l using pG with
 |h0=>rfl
 |h1 l i ih=>rw[lG,Vg,ak (h i (by simp)),ih (fun j hj=>h j (by simp[hj]))]
theorem Es (env:Nat->Value) (a0:Act) (t i:Nat) (l:List Nat) (hi:i∈l) (hd:oz ops i=some t) (hu: ∀j∈l,oz ops j=some t->j=i):
 (kC ops env a0 l).tmps[t]? =if t<a0.tmps.size then some (env i) else none:=by
 induction l using pG with
 |h0=>simp at hi
 |h1 l j ih=>
  rw[lG,Vg,OE]
  by_cases hj:oz ops j=some t
  ·rw[aF hj,hu j (by simp) hj]
  ·rw[ak hj]
   refine ih ?_ (fun x hx=>hu x (by simp[hx]))
   rcases iT.1 hi with h|h
   ·exact h
   ·simp at h;subst h;exact absurd hd hj
theorem agree {env env':Nat->Value} {a0:Act} {l l':List Nat} (t:Nat) (hm: ∀i,oz ops i=some t->(i∈l↔i∈l')) (he: ∀i∈l,oz ops i=some t->env i=env' i)
 (hu: ∀i j,i∈l->j∈l->oz ops i=some t->oz ops j=some t->i=j):(kC ops env a0 l).tmps[t]? =(kC ops env' a0 l').tmps[t]? :=by
 by_cases h: ∃i∈l,oz ops i=some t
 ·obtain⟨i,hi,hd⟩:=h
  rw[Es env a0 t i l hi hd (fun j hj hdj=>hu j i hj hi hdj hd),Es env' a0 t i l' ((hm i hd).1 hi) hd (fun j hj hdj=>hu j i ((hm j hdj).2 hj) hi hdj hd),he i hi hd]
 ·have h1: ∀i∈l,oz ops i≠some t:=fun i hi hd=>h ⟨i,hi,hd⟩
  have h2: ∀i∈l',oz ops i≠some t:=fun i hi hd=>h ⟨i,(hm i hd).2 hi,hd⟩
  rw[Et _ _ _ _ h1,Et _ _ _ _ h2]
theorem BC {env env':Nat->Value} {a0:Act} {l:List Nat} (he: ∀i∈l,env i=env' i):kC ops env a0 l=kC ops env' a0 l:=by
 induction l using pG with
 |h0=>rfl
 |h1 l i ih=>rw[lG,lG,ih (fun j hj=>he j (by simp[hj])),he i (by simp)]
theorem VP {a b:Act} (hd:a.defers=b.defers) (ht: ∀t:Nat,a.tmps[t]? =b.tmps[t]?):a=b:=by
 obtain⟨x,d⟩:=a;obtain⟨y,d'⟩:=b
 simp only at hd ht
 subst hd
 congr 1
 exact Array.ext_getElem? ht
def lq (ops:Array Oper) (o:Oper) (a b:Act):Prop:= ∀t∈o.looksAt ops,a.tmps[t]? =b.tmps[t]?
theorem lq.eval {o:Oper} {a b:Act} (h:lq ops o a b): ∀x∈o.op.operands,a.eval x=b.eval x:=by
 intro x hx
 cases x with
 |tmp t=>
  have:=h t (nT _ (List.mem_filterMap.2 ⟨.tmp t,by simpa using hx,rfl⟩))
  simp[Act.eval,Bd,this]
 |_=>rfl
theorem lq.exec {o:Oper} {a b:Act} (h:lq ops o a b) (hs: ∀cs b,o.op≠ .select cs b):execOp a.eval o=execOp b.eval o:=execOp_congr o hs h.eval
theorem lq.nP {o:Oper} {a b:Act} (h:lq ops o a b):nP o a=nP o b:=List.map_congr_left fun x hx=>h.eval x (by simpa using hx)
theorem lq.wanted {o:Oper} {a b:Act} (h:lq ops o a b):Region.wanted o (yielded ops a.tmps)=Region.wanted o (yielded ops b.tmps):=by
 unfold Region.wanted
 cases hg:o.guard with
 |none=>rfl
 |some gw=>
  obtain⟨g,want⟩:=gw
  have hy:yielded ops a.tmps g=yielded ops b.tmps g:=by
   unfold yielded
   cases ht:(ops[g]?).bind (·.dst) with
   |none=>rfl
   |some t=>
    have:=h t (um _ (by simp[hg,ht]))
    simp[this]
  simp only[hy]
end
structure Chk (ops:Array Oper) (k:Nat):Prop where
 kn:k<=ops.size
 lt: ∀(i:Nat) (o:Oper),ops[i]? =some o-> ∀e∈o.after,Region.binds .any e=true->e.on<i
 acU: ∀i j,i<k->j<k-> ∀t,oz ops i=some t->oz ops j=some t->i=j
 look: ∀(i:Nat) (o:Oper),i<k->ops[i]? =some o-> ∀t∈o.looksAt ops, ∀j,j<k->oz ops j=some t->i≠j->(j<i/\kQ ops j i=true)∨(i<j/\kQ ops i j=true)
 tail: ∀i,k<=i->i<ops.size-> ∀j,j<k->kQ ops j i=true
 sel: ∀(i:Nat) (o:Oper),ops[i]? =some o-> ∀cs b,o.op≠ .select cs b
 rdy: ∀t,k<=t->t<ops.size->Region.ready .any ops (qZ ops.size t)=[t]
 fin:Region.ready .any ops (qZ ops.size ops.size)=[]
theorem rP {ops:Array Oper} {i:Nat} {o:Oper} (h:ops[i]? =some o):ops.getD i default=o:=by
 rw[Bd,h];rfl
theorem yP {ops:Array Oper} {i:Nat} {o:Oper} (h:ops[i]? =some o):oz ops i=o.dst:=by simp[oz,h]
theorem Ip {ops:Array Oper} {k:Nat} (h:chk ops k=true):Chk ops k:=by
 simp only[chk,fH,fB,jR,mD,Bool.or_eq_true,beq_iff_eq,bne_iff_ne,ne_eq,Bool.not_eq_true'] at h
 obtain⟨⟨⟨⟨⟨⟨⟨h1,h2⟩,h3⟩,h4⟩,h5⟩,h6⟩,h7⟩,h8⟩:=h
 have hlt: ∀{i:Nat} {o:Oper},ops[i]? =some o->i<ops.size:=fun h=>(aV.1 h).1
 have hget: ∀{i:Nat},i<ops.size->ops[i]? =some (ops.getD i default):=fun {i} hi=>by
  rw[xw hi,Bd,xw hi];rfl
 refine⟨h1,?_,?_,?_,?_,?_,?_,h8⟩
 ·intro i o ho e he hb
  have:=h2 i (hlt ho) e (by rw[rP ho];simpa using he)
  rcases this with h|h
  ·rw[hb] at h;cases h
  ·exact h
 ·intro i j hi hj t hdi hdj
  have:=h3 i hi j hj
  have ei:=hget (eu hi h1)
  have ej:=hget (eu hj h1)
  rw[yP ei] at hdi
  rw[yP ej] at hdj
  rcases this with(h|h)|h
  ·exact h
  ·rw[hdi] at h;cases h
  ·rw[hdi,hdj] at h;exact absurd rfl h
 ·intro i o hi ho t ht j hj hdj hij
  have:=h4 i hi t (by rw[rP ho];exact ht) j hj
  rw[yP (hget (eu hj h1))] at hdj
  rcases this with((h|h)|h)|h
  ·exact absurd hdj h
  ·exact absurd h hij
  ·exact .inl h
  ·exact .inr h
 ·intro i hk hi j hj
  rcases h5 i hi with h|h
  ·omega
  ·exact h j hj
 ·intro i o ho cs b e
  have:=h6 i (hlt ho)
  rw[rP ho,e] at this
  cases this
 ·intro t hk ht
  have:=h7 (t-k) (by omega)
  rw[show k+(t-k)=t from by omega] at this
  exact this
section
variable {Ps : uN} {P : Program} {ops : Array Oper} {R0 R1 : World → World → Prop} {m : Option Nat} {Ss : List (Nat × Spec)} {W0 : World} {a0 : Act}
abbrev pf (ops:Array Oper) (a0:Act) (env:Nat->Value) (i:Nat):Act:=kC ops env a0 (List.range i)
theorem Vh (env:Nat->Value) (i:Nat):pf ops a0 env (i+1)=(pf ops a0 env i).put (oz ops i) (env i):=by
 unfold pf;rw[List.range_succ,lG]
theorem jZ {env env':Nat->Value} {i:Nat} (h: ∀j,j<i->env j=env' j):pf ops a0 env i=pf ops a0 env' i:=
 BC fun j hj=>h j (by simpa using hj)
def Left (ops:Array Oper) (a0:Act) (env:Nat->Value) (j:Nat) (s:Spec) (W:World):Prop:=s.world (nP (ops.getD j default) (pf ops a0 env j)) (env j) W
def vg (Ps:uN) (ops:Array Oper) (a0:Act) (env:Nat->Value) (j:Nat) (W:World):Prop:=Ps j (nP (ops.getD j default) (pf ops a0 env j)) (env j) W
def rD (Ps:uN) (ops:Array Oper) (R0 R1:World->World->Prop) (m:Option Nat) (Ss:List (Nat×Spec)) (W0:World) (a0:Act) (env:Nat->Value) (i:Nat) (W:World):Prop:=
 kW R0 R1 m i W0 W/\(∀j s,Ss.lookup j=some s->j<i->kQ ops j i=true->Left ops a0 env j s W)/\
  (m=some i-> ∀j s,Ss.lookup j=some s->j<i->kQ ops j i=true->vg Ps ops a0 env j W)
theorem UU {env env':Nat->Value} {j:Nat} {s:Spec} {W:World} (h: ∀i,i<=j->env i=env' i) (hl:Left ops a0 env j s W):Left ops a0 env' j s W:=by
 unfold Left at*
 rw[jZ (fun i hi=>(h i (by omega)).symm), <-h j (ai _)]
 exact hl
theorem QY {env env':Nat->Value} {j:Nat} {W:World} (h: ∀i,i<=j->env i=env' i) (hl:vg Ps ops a0 env j W):vg Ps ops a0 env' j W:=by
 unfold vg at*
 rw[jZ (fun i hi=>(h i (by omega)).symm), <-h j (ai _)]
 exact hl
theorem rV {env env':Nat->Value} {i:Nat} {W:World} (h: ∀j,j<i->env j=env' j) (hr:rD Ps ops R0 R1 m Ss W0 a0 env i W):rD Ps ops R0 R1 m Ss W0 a0 env' i W:=
 ⟨hr.1,fun j s hs hj ha=>UU (fun t ht=>h t (by omega)) (hr.2.1 j s hs hj ha),fun hm j s hs hj ha=>QY (fun t ht=>h t (by omega)) (hr.2.2 hm j s hs hj ha)⟩
def Fs (ops:Array Oper) (Ss:List (Nat×Spec)) (a0:Act) (env:Nat->Value):Nat->Facts
 |0=>[]
 |t+1=>match Ss.lookup t with
  |none=>Fs ops Ss a0 env t
  |some s=>(t,s.world (nP (ops.getD t default) (pf ops a0 env t)) (env t))::Fs ops Ss a0 env t
theorem ZT {env:Nat->Value} {t:Nat} {f:Nat×(World->Prop)}:f∈Fs ops Ss a0 env t↔ ∃j s,j<t/\Ss.lookup j=some s/\f=(j,Left ops a0 env j s):=by
 induction t with
 |zero=>simp[Fs]
 |succ t ih=>
  unfold Fs
  cases hs:Ss.lookup t with
  |none=>
   simp only[ih]
   constructor
   ·rintro⟨j,s,hj,h1,h2⟩;exact⟨j,s,by omega,h1,h2⟩
   ·rintro⟨j,s,hj,h1,h2⟩
    have:j≠t:=fun e=>by subst e;rw[hs] at h1;cases h1
    exact⟨j,s,by omega,h1,h2⟩
  |some s0=>
   simp only[gY,ih]
   constructor
   ·rintro(rfl|⟨j,s,hj,h1,h2⟩)
    ·exact⟨t,s0,by omega,hs,rfl⟩
    ·exact⟨j,s,by omega,h1,h2⟩
   ·rintro⟨j,s,hj,h1,h2⟩
    by_cases e:j=t
    ·subst e;rw[hs] at h1;cases h1;exact .inl h2
    ·exact .inr ⟨j,s,by omega,h1,h2⟩
theorem Q7 {env env':Nat->Value} {t:Nat} (h: ∀j,j<t->env j=env' j):Fs ops Ss a0 env t=Fs ops Ss a0 env' t:=by
 induction t with
 |zero=>rfl
 |succ t ih=>
  unfold Fs
  rw[ih (fun j hj=>h j (by omega)),jZ (env:=env) (env':=env') (fun j hj=>h j (by omega)),h t (by omega)]
def Gs (Ps:uN) (ops:Array Oper) (Ss:List (Nat×Spec)) (a0:Act) (env:Nat->Value):Nat->Facts
 |0=>[]
 |t+1=>match Ss.lookup t with
  |none=>Gs Ps ops Ss a0 env t
  |some _=>(t,Ps t (nP (ops.getD t default) (pf ops a0 env t)) (env t))::Gs Ps ops Ss a0 env t
theorem aef {env:Nat->Value} {t:Nat} {f:Nat×(World->Prop)}:f∈Gs Ps ops Ss a0 env t-> ∃j s,j<t/\Ss.lookup j=some s/\f=(j,vg Ps ops a0 env j):=by
 induction t with
 |zero=>simp[Gs]
 |succ t ih=>
  unfold Gs
  cases hs:Ss.lookup t with
  |none=>exact fun h=>by obtain⟨j,s,hj,h1,h2⟩:=ih h;exact⟨j,s,by omega,h1,h2⟩
  |some s0=>
   simp only[gY]
   rintro(rfl|h)
   ·exact⟨t,s0,by omega,hs,rfl⟩
   ·obtain⟨j,s,hj,h1,h2⟩:=ih h;exact⟨j,s,by omega,h1,h2⟩
theorem Q5 {env env':Nat->Value} {t:Nat} (h: ∀j,j<t->env j=env' j):Gs Ps ops Ss a0 env t=Gs Ps ops Ss a0 env' t:=by
 induction t with
 |zero=>rfl
 |succ t ih=>
  unfold Gs
  rw[ih (fun j hj=>h j (by omega)),jZ (env:=env) (env':=env') (fun j hj=>h j (by omega)),h t (by omega)]
theorem LZ {env:Nat->Value} {i:Nat} {W:World} (h:rD Ps ops R0 R1 m Ss W0 a0 env i W):UQ ops R0 R1 m W0 (Fs ops Ss a0 env i) (Gs Ps ops Ss a0 env i) i W:=
 ⟨h.1,fun f hf ha=>by
   obtain⟨j,s,hj,hs,rfl⟩:=ZT.1 hf
   exact h.2.1 j s hs hj ha,fun hm f hf ha=>by
   obtain⟨j,s,hj,hs,rfl⟩:=aef hf
   exact h.2.2 hm j s hs hj ha⟩
def Rec (Ps:uN) (P:Program) (ops:Array Oper) (R0 R1:World->World->Prop) (m:Option Nat) (Ss:List (Nat×Spec)) (W0:World) (a0:Act) (env:Nat->Value) (i:Nat) (o:Oper):Prop:=
 match Ss.lookup i with
 |none=>(Region.wanted o (yielded ops (pf ops a0 env i).tmps)=true/\ ∃W,rD Ps ops R0 R1 m Ss W0 a0 env i W/\(execOp (pf ops a0 env i).eval o).run P W= .ok (.value (env i)) W)∨
   (Region.wanted o (yielded ops (pf ops a0 env i).tmps)=false/\env i=undef)
 |some s=>s.pure (nP o (pf ops a0 env i)) (env i)
variable {k : Nat} (hc : Chk ops k)
include hc
theorem FX {env env':Nat->Value} {i:Nat} {o:Oper} (hi:i<k) (ho:ops[i]? =some o) (h: ∀j,j<i->kQ ops j i=true->env j=env' j):
 lq ops o (pf ops a0 env i) (pf ops a0 env' i):=by
 intro t ht
 refine agree t (fun _ _=>Iff.rfl) ?_ ?_
 ·intro j hj hd
  have hj':j<i:=by simpa using hj
  rcases hc.look i o hi ho t ht j (by omega) hd (by omega) with h1|h1
  ·exact h j hj' h1.2
  ·omega
 ·intro x y hx hy hdx hdy
  have hx':x<i:=by simpa using hx
  have hy':y<i:=by simpa using hy
  exact hc.acU x y (by omega) (by omega) t hdx hdy
theorem ZJ {env env':Nat->Value} {i:Nat} (hi:i<k) (h: ∀j,j<i->kQ ops j i=true->env j=env' j):
 nP (ops.getD i default) (pf ops a0 env i)=nP (ops.getD i default) (pf ops a0 env' i):=by
 have hlt:i<ops.size:=eu hi hc.kn
 have ho:ops[i]? =some (ops.getD i default):=by
  rw[xw hlt,Bd,xw hlt];rfl
 exact(FX hc hi ho h).nP
theorem zH {env env':Nat->Value} {l:List Nat} (hl: ∀i∈l,i<k) (hd:Down ops (· ∈l)) (he: ∀i∈l,env i=env' i) {j:Nat} (hj:j∈l) {s:Spec} {W:World}
 (h:Left ops a0 env j s W):Left ops a0 env' j s W:=by
 unfold Left at*
 rw[<-ZJ hc (hl j hj) (fun x _ hx=>he x (ui hd (eu (hl j hj) hc.kn) hj hx)), <-he j hj]
 exact h
theorem CX {env env':Nat->Value} {l:List Nat} (hl: ∀i∈l,i<k) (hd:Down ops (· ∈l)) (he: ∀i∈l,env i=env' i) {j:Nat} (hj:j∈l) {W:World}
 (h:vg Ps ops a0 env j W):vg Ps ops a0 env' j W:=by
 unfold vg at*
 rw[<-ZJ hc (hl j hj) (fun x _ hx=>he x (ui hd (eu (hl j hj) hc.kn) hj hx)), <-he j hj]
 exact h
theorem Lh {env env':Nat->Value} {l:List Nat} (hl: ∀i∈l,i<k) (hd:Down ops (· ∈l)) (he: ∀i∈l,env i=env' i) {i:Nat} (ha: ∀j,j<i->kQ ops j i=true->j∈l) {W:World}
 (h:rD Ps ops R0 R1 m Ss W0 a0 env i W):rD Ps ops R0 R1 m Ss W0 a0 env' i W:=
 ⟨h.1,fun j s hs hj hji=>zH hc hl hd he (ha j hj hji) (h.2.1 j s hs hj hji),fun hm j s hs hj hji=>CX hc hl hd he (ha j hj hji) (h.2.2 hm j s hs hj hji)⟩
theorem afn {env env':Nat->Value} {l:List Nat} (hl: ∀i∈l,i<k) (hd:Down ops (· ∈l)) (he: ∀i∈l,env i=env' i) {i:Nat} {o:Oper} (hi:i∈l) (ho:ops[i]? =some o)
 (h:Rec Ps P ops R0 R1 m Ss W0 a0 env i o):Rec Ps P ops R0 R1 m Ss W0 a0 env' i o:=by
 have hik:i<k:=hl i hi
 have BU: ∀j,kQ ops j i=true->j∈l:=fun j hj=>ui hd (eu hik hc.kn) hi hj
 have hL:lq ops o (pf ops a0 env i) (pf ops a0 env' i):=FX hc hik ho (fun j _ hj=>he j (BU j hj))
 unfold Rec at*
 rw[<-hL.wanted, <-hL.nP, <-he i hi, <-hL.exec (hc.sel i o ho)]
 cases hs:Ss.lookup i with
 |none=>
  simp only[hs] at h⊢
  exact h.imp (fun x=>⟨x.1,by obtain⟨W,hW,hr⟩:=x.2;exact⟨W,Lh hc hl hd he (fun j _=>BU j) hW,hr⟩⟩) id
 |some s=>
  simp only[hs] at h⊢
  exact h
end
def Any (ja:Nat->(Act->World->Prop)->Act->World->Prop) (ops:Array Oper) (Qn:Act->World->Prop):Nat->Array Bool->Act->World->Prop
 |0,l,a,w=>Region.ready .any ops l=[]/\Qn a w
 |fuel+1,l,a,w=>(Region.ready .any ops l=[]->Qn a w)/\ ∀i∈Region.ready .any ops l,ja i (Any ja ops Qn fuel (l.setIfInBounds i true)) a w
def Seq (ja:Nat->(Act->World->Prop)->Act->World->Prop) (Qn:Act->World->Prop):List Nat->Act->World->Prop
 |[]=>Qn
 |i::r=>ja i (Seq ja Qn r)
def lst (n:Nat) (l:List Nat):Array Bool:=l.foldl (fun a i=>a.setIfInBounds i true) (Array.replicate n false)
theorem GX (n:Nat) (l:List Nat) (i:Nat):lst n (l++[i])=(lst n l).setIfInBounds i true:=by simp[lst,List.foldl_append]
theorem Vp (n:Nat) (l:List Nat) (i:Nat):(lst n l)[i]? =if i<n then some (decide (i∈l)) else none:=by
 have hsize: ∀l:List Nat,(lst n l).size=n:=by
  intro l
  induction l using pG with
  |h0=>simp[lst]
  |h1 l j ih=>rw[GX];simp[ih]
 induction l using pG with
 |h0=>simp[lst,Array.getElem?_replicate]
 |h1 l j ih=>
  rw[GX,Array.getElem?_setIfInBounds,hsize,ih]
  by_cases e:j=i
  ·subst e;by_cases h:j<n <;>simp[h]
  ·rw[ak e]
   have:i≠j:=fun h=>e h.symm
   simp[this]
theorem AV (n t i:Nat):(qZ n t)[i]? =if i<n then some (decide (i<t)) else none:=by
 unfold qZ
 rw[List.getElem?_toArray,qF]
 by_cases h:i<n
 ·rw[List.getElem?_range h,aF h];rfl
 ·rw[List.getElem?_eq_none (by simpa using h),ak h];rfl
theorem GY {n k:Nat} {l:List Nat} (h: ∀i,i∈l↔i<k):lst n l=qZ n k:=by
 refine Array.ext_getElem? fun i=>?_
 rw[Vp,AV]
 simp[h]
theorem mem_ready {ops:Array Oper} {l:List Nat} {i:Nat}:i∈Region.ready .any ops (lst ops.size l)↔
 i<ops.size/\i∉l/\ ∀o,ops[i]? =some o-> ∀e∈o.after,Region.binds .any e=true->e.on∈l/\e.on<ops.size:=by
 unfold Region.ready
 simp only[List.mem_filter,mD,fH,Bool.not_eq_true',Bd,Vp]
 constructor
 ·rintro⟨hi,h1,h2⟩
  rw[aF hi] at h1
  refine⟨hi,by simpa using h1,fun o ho e he hb=>?_⟩
  rw[ho] at h2
  simp only[Option.map_some,Option.getD_some] at h2
  have:=(kF.1 h2) e he
  rw[hb] at this
  simp only[Bool.not_true,Bool.false_or] at this
  by_cases hlt:e.on<ops.size
  ·rw[aF hlt] at this
   exact⟨by simpa using this,hlt⟩
  ·rw[ak hlt] at this;cases this
 ·rintro⟨hi,h1,h2⟩
  refine⟨hi,by rw[aF hi];simpa using h1,?_⟩
  obtain⟨o,ho⟩: ∃o,ops[i]? =some o:=⟨_,xw hi⟩
  rw[ho]
  simp only[Option.map_some,Option.getD_some]
  refine kF.2 fun e he=>?_
  by_cases hb:Region.binds .any e=true
  ·obtain⟨h3,h4⟩:=h2 o ho e he hb
   rw[aF h4]
   simp[h3]
  ·simp[hb]
section
variable {ja : Nat → (Act → World → Prop) → Act → World → Prop} {ops : Array Oper} {Qn : Act → World → Prop} {k : Nat}
theorem QR (hc:Chk ops k) (hmono: ∀i (K K':Act->World->Prop) a w,(∀a w,K a w->K' a w)->ja i K a w->ja i K' a w):
 ∀j t a w,t+j=ops.size->k<=t->Seq ja Qn (List.range' t j) a w->Any ja ops Qn j (qZ ops.size t) a w:=by
 intro j
 induction j with
 |zero=>
  intro t a w ht _ h
  have:t=ops.size:=by omega
  subst this
  exact⟨hc.fin,h⟩
 |succ j ih=>
  intro t a w ht hk h
  have hr:=hc.rdy t hk (by omega)
  refine⟨fun e=>(by rw[hr] at e;cases e),fun i hi=>?_⟩
  rw[hr] at hi
  have:i=t:=by simpa using hi
  subst this
  rw[List.range'_succ] at h
  refine hmono _ _ _ _ _ (fun a w hs=>?_) h
  have e:(qZ ops.size i).setIfInBounds i true=qZ ops.size (i+1):=by
   refine Array.ext_getElem? fun x=>?_
   have hsz:(qZ ops.size i).size=ops.size:=by simp[qZ]
   rw[Array.getElem?_setIfInBounds,hsz,AV,AV]
   by_cases e:i=x
   ·subst e;simp
   ·rw[ak e]
    by_cases hx:x<ops.size
    ·simp only[hx,if_true,Option.some.injEq,decide_eq_decide];omega
    ·simp[hx]
  rw[e]
  exact ih (i+1) a w (by omega) (by omega) hs
end
theorem all_in {k:Nat} {l:List Nat} (hn:l.Nodup) (h1: ∀i∈l,i<k) (h2:k<=l.length): ∀i,i<k->i∈l:=by
 intro i hi
 refine Classical.byContradiction fun h=>?_
 have:=List.Nodup.length_le_of_subset (l₁:=i::l) (l₂:=List.range k) (List.nodup_cons.2 ⟨h,hn⟩) (fun x hx=>by
  rcases gY.1 hx with rfl|hx
  ·simpa using hi
  ·simpa using h1 x hx)
 simp at this;omega
theorem Z4 {k:Nat} {l:List Nat} (hn:l.Nodup) (h1: ∀i∈l,i<k):l.length<=k:=by
 have:=List.Nodup.length_le_of_subset (l₁:=l) (l₂:=List.range k) hn (fun x hx=>by simpa using h1 x hx)
 simpa using this
end Go.RG
namespace Go.RX
open Go.RowKit Go.RG
def Does (X:List PanicEntry->World->Prop) (P:Program) (o:Oper) (ρ:Operand->Value) (W:World) (R:Value->World->Prop):Prop:=
 match (execOp ρ o).run P W with
 | .ok (.value v) w'=>R v w'
 | .ok .skip w'=>R undef w'
 | .ok (.enter f args) w'=>Calls P f args w' (fun e w''=>(∃v,e= .returned v/\R v w'')∨ ∃ps,e= .panicked ps/\X ps w'')
 |_=>False
def iM (X:List PanicEntry->World->Prop) (Ps:uN) (P:Program) (ops:Array Oper) (R0 R1:World->World->Prop) (m:Option Nat) (Ss:List (Nat×RG.Spec)) (Fin:Act->World->Prop) (W0:World):
 List Oper->Nat->Act->Facts->Facts->Prop
 |[],_,a,F,_=> ∀W,R1 W0 W->(∀f∈F,f.2 W)->Fin a W
 |o::rest,i,a,F,G=>
  match Ss.lookup i with
  |none=> ∃v,((Region.wanted o (yielded ops a.tmps)=true/\ ∀W,UQ ops R0 R1 m W0 F G i W->(execOp a.eval o).run P W= .ok (.value v) W)∨
    (Region.wanted o (yielded ops a.tmps)=false/\v=undef))/\iM X Ps P ops R0 R1 m Ss Fin W0 rest (i+1) (a.put o.dst v) F G
  |some s=>Region.wanted o (yielded ops a.tmps)=true/\(∃v,s.pure (nP o a) v)/\
    (∀W,UQ ops R0 R1 m W0 F G i W->Does X P o a.eval W (fun v W'=>s.pure (nP o a) v/\s.world (nP o a) v W'/\xH R0 R1 m i W W'/\Ps i (nP o a) v W'))/\
    ((∀v W W',s.world (nP o a) v W->kW R0 R1 m i W W'->s.world (nP o a) v W')/\(∀v W W',Ps i (nP o a) v W->R0 W W'->Ps i (nP o a) v W'))/\
    ∀v,s.pure (nP o a) v->iM X Ps P ops R0 R1 m Ss Fin W0 rest (i+1) (a.put o.dst v) ((i,s.world (nP o a) v)::F) ((i,Ps i (nP o a) v)::G)
section
variable {X : List PanicEntry → World → Prop} {Ps : uN} {P : Program} {ops : Array Oper} {R0 R1 : World → World → Prop} {m : Option Nat} {Ss : List (Nat × RG.Spec)} {W0 : World} {a0 : Act}
def Node (X:List PanicEntry->World->Prop) (Ps:uN) (P:Program) (ops:Array Oper) (R0 R1:World->World->Prop) (m:Option Nat) (Ss:List (Nat×RG.Spec)) (W0:World) (a0:Act) (env:Nat->Value) (i:Nat) (o:Oper):Prop:=
 match Ss.lookup i with
 |none=>(Region.wanted o (yielded ops (pf ops a0 env i).tmps)=true/\ ∀W,rD Ps ops R0 R1 m Ss W0 a0 env i W->(execOp (pf ops a0 env i).eval o).run P W= .ok (.value (env i)) W)∨
   (Region.wanted o (yielded ops (pf ops a0 env i).tmps)=false/\env i=undef)
 |some s=>Region.wanted o (yielded ops (pf ops a0 env i).tmps)=true/\s.pure (nP o (pf ops a0 env i)) (env i)/\
   (∀W,rD Ps ops R0 R1 m Ss W0 a0 env i W->Does X P o (pf ops a0 env i).eval W (fun v W'=>s.pure (nP o (pf ops a0 env i)) v/\s.world (nP o (pf ops a0 env i)) v W'/\xH R0 R1 m i W W'/\Ps i (nP o (pf ops a0 env i)) v W'))/\
   (∀v W W',s.world (nP o (pf ops a0 env i)) v W->kW R0 R1 m i W W'->s.world (nP o (pf ops a0 env i)) v W')/\
   (∀v W W',Ps i (nP o (pf ops a0 env i)) v W->R0 W W'->Ps i (nP o (pf ops a0 env i)) v W')
theorem UT {env env':Nat->Value} {i:Nat} {o:Oper} (h: ∀j,j<=i->env j=env' j) (hn:Node X Ps P ops R0 R1 m Ss W0 a0 env i o):Node X Ps P ops R0 R1 m Ss W0 a0 env' i o:=by
 have hp:pf ops a0 env i=pf ops a0 env' i:=jZ fun j hj=>h j (by omega)
 have hr: ∀W,rD Ps ops R0 R1 m Ss W0 a0 env' i W->rD Ps ops R0 R1 m Ss W0 a0 env i W:=fun W=>rV fun j hj=>(h j (by omega)).symm
 unfold Node at*
 rw[<-hp, <-h i (ai _)]
 cases hs:Ss.lookup i with
 |none=>
  simp only[hs] at hn⊢
  exact hn.imp (fun x=>⟨x.1,fun W hW=>x.2 W (hr W hW)⟩) id
 |some s=>
  simp only[hs] at hn⊢
  exact⟨hn.1,hn.2.1,fun W hW=>hn.2.2.1 W (hr W hW),hn.2.2.2⟩
variable {k : Nat} (hc : Chk ops k)
include hc
theorem along {Fin:Act->World->Prop} {env:Nat->Value} {l:List Nat} (hl: ∀i∈l,i<k) (hd:Down ops (· ∈l))
 (hrec: ∀i∈l, ∀o,ops[i]? =some o->Rec Ps P ops R0 R1 m Ss W0 a0 env i o)
 (EU:iM X Ps P ops R0 R1 m Ss Fin W0 (ops.toList.take k) 0 a0 [] []):
 ∃env',(∀i∈l,env' i=env i)/\(∀i o,i<k->ops[i]? =some o->Node X Ps P ops R0 R1 m Ss W0 a0 env' i o)/\
  (∀W,R1 W0 W->(∀j s,Ss.lookup j=some s->j<k->RG.Left ops a0 env' j s W)->Fin (pf ops a0 env' k) W):=by
 have hlen:(ops.toList.take k).length=k:=by have:=hc.kn;simp[gu];omega
 have go: ∀t,t<=k-> ∃env',(∀i∈l,env' i=env i)/\(∀i o,i<t->ops[i]? =some o->Node X Ps P ops R0 R1 m Ss W0 a0 env' i o)/\
  iM X Ps P ops R0 R1 m Ss Fin W0 ((ops.toList.take k).drop t) t (pf ops a0 env' t) (Fs ops Ss a0 env' t) (Gs Ps ops Ss a0 env' t):=by
  intro t
  induction t with
  |zero=>exact fun _=>⟨env,fun _ _=>rfl,fun i o hi=>by omega,by simpa [Fs,Gs,pf,kC] using EU⟩
  |succ t ih=>
   intro ht
   obtain⟨env',h1,h2,h3⟩:=ih (by omega)
   have htk:t<k:=by omega
   have hlt:t<ops.size:=eu htk hc.kn
   obtain⟨o,ho⟩: ∃o,ops[t]? =some o:=⟨_,xw hlt⟩
   have hcons:(ops.toList.take k).drop t=o::(ops.toList.take k).drop (t+1):=by
    rw[Bc (by omega)]
    congr 1
    have:(ops.toList.take k)[t]? =some o:=by rw[List.getElem?_take,aF htk];simpa using ho
    rw[dP (by omega)] at this
    exact jG this
   rw[hcons] at h3
   unfold iM at h3
   have hdst:oz ops t=o.dst:=yP ho
   have ja: ∀v,(t∈l->v=env t)->(∀e:Nat->Value,(∀j,j<t->e j=env' j)->e t=v->Node X Ps P ops R0 R1 m Ss W0 a0 e t o)->
    (∀e:Nat->Value,(∀j,j<t->e j=env' j)->e t=v->iM X Ps P ops R0 R1 m Ss Fin W0 ((ops.toList.take k).drop (t+1)) (t+1) (pf ops a0 e (t+1)) (Fs ops Ss a0 e (t+1)) (Gs Ps ops Ss a0 e (t+1)))->
    ∃yO,(∀i∈l,yO i=env i)/\(∀i o,i<t+1->ops[i]? =some o->Node X Ps P ops R0 R1 m Ss W0 a0 yO i o)/\
     iM X Ps P ops R0 R1 m Ss Fin W0 ((ops.toList.take k).drop (t+1)) (t+1) (pf ops a0 yO (t+1)) (Fs ops Ss a0 yO (t+1)) (Gs Ps ops Ss a0 yO (t+1)):=by
    intro v hv hN hT
    refine⟨fun j=>if j=t then v else env' j,?_,?_,?_⟩
    ·intro i hi
     by_cases e:i=t
     ·subst e;simp only[aF];exact hv hi
     ·simp only[ak e];exact h1 i hi
    ·intro i o' hi ho'
     by_cases e:i=t
     ·subst e;rw[ho] at ho';cases ho'
      exact hN _ (fun j hj=>ak (by omega)) (aF rfl)
     ·exact UT (fun j hj=>(ak (by omega)).symm) (h2 i o' (by omega) ho')
    ·exact hT _ (fun j hj=>ak (by omega)) (aF rfl)
   cases hs:Ss.lookup t with
   |none=>
    simp only[hs] at h3
    obtain⟨v,hv,hT⟩:=h3
    refine ja v ?_ ?_ ?_
    ·intro htl
     have hR:=hrec t htl o ho
     have BU: ∀j,kQ ops j t=true->j∈l:=fun j hj=>ui hd hlt htl hj
     have hL:lq ops o (pf ops a0 env t) (pf ops a0 env' t):=FX hc htk ho (fun j _ hj=>(h1 j (BU j hj)).symm)
     unfold Rec at hR
     simp only[hs] at hR
     rw[hL.wanted,hL.exec (hc.sel t o ho)] at hR
     rcases hv with⟨hw,hv⟩|⟨hw,hv⟩
     ·rcases hR with⟨_,W,hW,hr⟩|⟨hw',_⟩
      ·have:=hv W (LZ (Lh hc hl hd (fun i hi=>(h1 i hi).symm) (fun j _=>BU j) hW))
       rw[hr] at this
       injection this with e1 _
       injection e1 with e2
       exact e2.symm
      ·rw[hw] at hw';cases hw'
     ·rcases hR with⟨hw',_⟩|⟨_,hu⟩
      ·rw[hw] at hw';cases hw'
      ·rw[hv,hu]
    ·intro e he het
     have hp:pf ops a0 e t=pf ops a0 env' t:=jZ he
     unfold Node
     simp only[hs]
     rw[hp,het]
     exact hv.imp (fun x=>⟨x.1,fun W hW=>x.2 W (LZ (rV he hW))⟩) id
    ·intro e he het
     rw[Vh,hdst,het,jZ he]
     have:Fs ops Ss a0 e (t+1)=Fs ops Ss a0 env' t:=by
      show(match Ss.lookup t with|none=>_|some s=>_)=_
      simp only[hs]
      exact Q7 he
     rw[this]
     have:Gs Ps ops Ss a0 e (t+1)=Gs Ps ops Ss a0 env' t:=by
      show(match Ss.lookup t with|none=>_|some s=>_)=_
      simp only[hs]
      exact Q5 he
     rw[this]
     exact hT
   |some s=>
    simp only[hs] at h3
    obtain⟨hw,⟨v0,hv0⟩,EZ,hst,hT⟩:=h3
    have key: ∀v,s.pure (nP o (pf ops a0 env' t)) v->(t∈l->v=env t)-> ∃yO,(∀i∈l,yO i=env i)/\(∀i o,i<t+1->ops[i]? =some o->Node X Ps P ops R0 R1 m Ss W0 a0 yO i o)/\
     iM X Ps P ops R0 R1 m Ss Fin W0 ((ops.toList.take k).drop (t+1)) (t+1) (pf ops a0 yO (t+1)) (Fs ops Ss a0 yO (t+1)) (Gs Ps ops Ss a0 yO (t+1)):=by
     intro v hv hvl
     refine ja v hvl ?_ ?_
     ·intro e he het
      have hp:pf ops a0 e t=pf ops a0 env' t:=jZ he
      unfold Node
      simp only[hs]
      rw[hp,het]
      exact⟨hw,hv,fun W hW=>EZ W (LZ (rV he hW)),hst⟩
     ·intro e he het
      rw[Vh,hdst,het,jZ he]
      have:Fs ops Ss a0 e (t+1)=(t,s.world (nP o (pf ops a0 env' t)) v)::Fs ops Ss a0 env' t:=by
       show(match Ss.lookup t with|none=>_|some s=>_)=_
       simp only[hs]
       rw[Q7 he,jZ he,het,rP ho]
      rw[this]
      have:Gs Ps ops Ss a0 e (t+1)=(t,Ps t (nP o (pf ops a0 env' t)) v)::Gs Ps ops Ss a0 env' t:=by
       show(match Ss.lookup t with|none=>_|some s=>_)=_
       simp only[hs]
       rw[Q5 he,jZ he,het,rP ho]
      rw[this]
      exact hT v hv
    by_cases htl:t∈l
    ·have hR:=hrec t htl o ho
     have BU: ∀j,kQ ops j t=true->j∈l:=fun j hj=>ui hd hlt htl hj
     have hL:lq ops o (pf ops a0 env t) (pf ops a0 env' t):=FX hc htk ho (fun j _ hj=>(h1 j (BU j hj)).symm)
     unfold Rec at hR
     simp only[hs] at hR
     rw[hL.nP] at hR
     exact key (env t) hR (fun _=>rfl)
    ·exact key v0 hv0 (fun h=>absurd h htl)
 obtain⟨env',h1,h2,h3⟩:=go k (ai _)
 refine⟨env',h1,h2,fun W hW hF=>?_⟩
 rw[List.drop_of_length_le (by omega)] at h3
 unfold iM at h3
 exact h3 W hW (fun f hf=>by
  obtain⟨j,s,hj,hs,rfl⟩:=ZT.1 hf
  exact hF j s hs hj)
end
section
variable {X : List PanicEntry → World → Prop} {ja : Nat → (Act → World → Prop) → Act → World → Prop} {P : Program} {ops : Array Oper} {Qn : Act → World → Prop} {Ps : uN} {R0 R1 : World → World → Prop} {m : Option Nat} {Ss : List (Nat × RG.Spec)} {W0 : World} {a0 : Act} {k : Nat}
theorem ac5 (hR:II R0 R1) (hc:Chk ops k) (hmono: ∀i (K K':Act->World->Prop) a w,(∀a w,K a w->K' a w)->ja i K a w->ja i K' a w)
 (EZ: ∀(i:Nat) (o:Oper) (K:Act->World->Prop) (a:Act) (W:World) (R:Value->World->Prop),a.defers=a0.defers->ops[i]? =some o->Region.wanted o (yielded ops a.tmps)=true->Does X P o a.eval W R->(∀v W',R v W'->K (a.put o.dst v) W')->ja i K a W)
 (PO: ∀(i:Nat) (o:Oper) (K:Act->World->Prop) (a:Act) (W:World),ops[i]? =some o->Region.wanted o (yielded ops a.tmps)=false->K (a.put o.dst undef) W->ja i K a W)
 (EU:iM X Ps P ops R0 R1 m Ss (Seq ja Qn (List.range' k (ops.size-k))) W0 (ops.toList.take k) 0 a0 [] []):
 ∀(fuel:Nat) (l:List Nat) (env:Nat->Value) (W:World),l.length+fuel=ops.size->l.Nodup->(∀i∈l,i<k)->Down ops (· ∈l)->
  (∀i∈l, ∀o,ops[i]? =some o->Rec Ps P ops R0 R1 m Ss W0 a0 env i o)->(∀j s,Ss.lookup j=some s->j∈l->RG.Left ops a0 env j s W)->
  R1 W0 W->((∀i,m=some i->i∉l)->R0 W0 W/\ ∀j s,Ss.lookup j=some s->j∈l->vg Ps ops a0 env j W)->Any ja ops Qn fuel (lst ops.size l) (kC ops env a0 l) W:=by
 intro fuel
 induction fuel with
 |zero=>
  intro l env W hlen hnd hl hd hrec hleft AP _
  have hk:k=ops.size:=by
   have h1:=Z4 hnd hl
   have:=hc.kn;omega
  have hall:=all_in hnd hl (by omega)
  obtain⟨env',he,_,hfin⟩:=along (P:=P) hc hl hd hrec EU
  have hf:=hfin W AP (fun j s hs hj=>RG.zH hc hl hd (fun i hi=>(he i hi).symm) (hall j hj) (hleft j s hs (hall j hj)))
  have ea:kC ops env a0 l=pf ops a0 env' k:=VP (by rw[mf,mf]) fun t=>
   agree t (fun i hi=>⟨fun h=>by simpa using hl i h,fun h=>hall i (by simpa using h)⟩) (fun i hi _=>(he i hi).symm) (fun i j hi hj=>hc.acU i j (hl i hi) (hl j hj) t)
  rw[GY (k:=k) (fun i=>⟨hl i,hall i⟩),ea,hk]
  rw[show ops.size-k=0 from by omega] at hf
  rw[hk] at hf
  exact RG.QR hc hmono 0 ops.size _ _ (by omega) (by omega) hf
 |succ fuel ih=>
  intro l env W hlen hnd hl hd hrec hleft AP hnil
  obtain⟨env',he,aat,hfin⟩:=along (P:=P) hc hl hd hrec EU
  have hes: ∀i∈l,env i=env' i:=fun i hi=>(he i hi).symm
  by_cases hfull:k<=l.length
  ·have hall:=all_in hnd hl hfull
   have hk:l.length=k:=by have:=Z4 hnd hl;omega
   have hf:=hfin W AP (fun j s hs hj=>RG.zH hc hl hd hes (hall j hj) (hleft j s hs (hall j hj)))
   have ea:kC ops env a0 l=pf ops a0 env' k:=VP (by rw[mf,mf]) fun t=>
    agree t (fun i hi=>⟨fun h=>by simpa using hl i h,fun h=>hall i (by simpa using h)⟩) (fun i hi _=>hes i hi) (fun i j hi hj=>hc.acU i j (hl i hi) (hl j hj) t)
   rw[GY (k:=k) (fun i=>⟨hl i,hall i⟩),ea]
   have e:fuel+1=ops.size-k:=by omega
   rw[e]
   exact RG.QR hc hmono (ops.size-k) k _ _ (by have:=hc.kn;omega) (ai _) hf
  ·--one more of the first k comes up
   have hex: ∃i,i<k/\i∉l/\ ∀j,j<i->j∈l:=by
    have h0: ∃i,i<k/\i∉l:=Classical.byContradiction fun hno=>by
     have hall: ∀i,i<k->i∈l:=fun i hi=>Classical.byContradiction fun h=>hno ⟨i,hi,h⟩
     have:=List.Nodup.length_le_of_subset (l₁:=List.range k) (l₂:=l) List.nodup_range (fun x hx=>hall x (by simpa using hx))
     simp at this;omega
    obtain⟨i,hi,hil⟩:=h0
    induction i using Nat.strongRecOn with
    |_ i ihh=>
     by_cases hj: ∃j,j<i/\j∉l
     ·obtain⟨j,hji,hjl⟩:=hj
      exact ihh j hji (by omega) hjl
     ·exact⟨i,hi,hil,fun j hji=>Classical.byContradiction fun h=>hj ⟨j,hji,h⟩⟩
   refine⟨fun e=>?_,fun i hi=>?_⟩
   ·obtain⟨i,hi,hil,hbelow⟩:=hex
    have:i∈Region.ready .any ops (lst ops.size l):=RG.mem_ready.2 ⟨eu hi hc.kn,hil,fun o ho e he hb=>by
     have:=hc.lt i o ho e he hb
     exact⟨hbelow _ this,by have:=hc.kn;omega⟩⟩
    rw[e] at this;cases this
   ·obtain⟨hin,hil,aag⟩:=RG.mem_ready.1 hi
    obtain⟨o,ho⟩: ∃o,ops[i]? =some o:=⟨_,xw hin⟩
    have BU: ∀j,kQ ops j i=true->j≠i->j∈l:=fun j hj hne=>Yi hd ho (fun e he hb=>(aag o ho e he hb).1) hj hne
    have hik:i<k:=Classical.byContradiction fun hge=>by
     obtain⟨j,hj,hjl,_⟩:=hex
     exact hjl (BU j (hc.tail i (by omega) hin j hj) (by omega))
    have hN:=aat i o hik ho
    have hL:lq ops o (kC ops env a0 l) (pf ops a0 env' i):=by
     intro t ht
     refine agree t ?_ (fun j hj _=>hes j hj) (fun x y hx hy=>hc.acU x y (hl x hx) (hl y hy) t)
     intro j hd'
     by_cases hji:j=i
     ·subst hji;simp[hil]
     ·constructor
      ·intro hjl
       rcases hc.look i o hik ho t ht j (hl j hjl) hd' (fun e=>hji e.symm) with h|h
       ·simpa using h.1
       ·exact absurd (ui hd (eu (hl j hjl) hc.kn) hjl h.2) hil
      ·intro hjr
       have apl:j<i:=by simpa using hjr
       rcases hc.look i o hik ho t ht j (by omega) hd' (fun e=>hji e.symm) with h|h
       ·exact BU j h.2 hji
       ·omega
    have Hf:rD Ps ops R0 R1 m Ss W0 a0 env' i W:=by
     refine⟨?_,fun j s hs hj ha=>RG.zH hc hl hd hes (BU j ha (by omega)) (hleft j s hs (BU j ha (by omega))),fun hm j s hs hj ha=>
      CX hc hl hd hes (BU j ha (by omega)) ((hnil (fun x hx=>by rw[hm] at hx;cases hx;exact hil)).2 j s hs (BU j ha (by omega)))⟩
     unfold kW
     by_cases hm:m=some i
     ·rw[aF hm];exact(hnil (fun x hx=>by rw[hm] at hx;cases hx;exact hil)).1
     ·rw[ak hm];exact AP
    have ho':oz ops i=o.dst:=yP ho
    have hnd':(l++[i]).Nodup:=by
     rw[List.nodup_append]
     refine⟨hnd,by simp,fun x hx y hy=>?_⟩
     have:y=i:=by simpa using hy
     subst this
     exact fun e=>hil (e▸hx)
    have hl': ∀x∈l++[i],x<k:=fun x hx=>by
     rcases iT.1 hx with h|h
     ·exact hl x h
     ·have:x=i:=by simpa using h
      omega
    have hd':Down ops (· ∈l++[i]):=by
     intro x ox hox hx e he hb
     rcases iT.1 hx with h|h
     ·exact nT _ (hd x ox hox h e he hb)
     ·have:x=i:=by simpa using h
      subst this
      rw[ho] at hox;cases hox
      exact nT _ (aag o ho e he hb).1
    have hlen':(l++[i]).length+fuel=ops.size:=by simp;omega
    have close: ∀v W',(∀e:Nat->Value,(∀j,j<i->e j=env' j)->e i=v->Rec Ps P ops R0 R1 m Ss W0 a0 e i o)->
     (∀e:Nat->Value,(∀j,j∈l->e j=env' j)->(∀j,j<i->e j=env' j)->e i=v-> ∀j s,Ss.lookup j=some s->j∈l++[i]->RG.Left ops a0 e j s W')->R1 W0 W'->((∀x,m=some x->x∉l++[i])->R0 W0 W')->
     ((∀x,m=some x->x∉l++[i])-> ∀e:Nat->Value,(∀j,j∈l->e j=env' j)->(∀j,j<i->e j=env' j)->e i=v-> ∀j s,Ss.lookup j=some s->j∈l++[i]->vg Ps ops a0 e j W')->
     Any ja ops Qn fuel ((lst ops.size l).setIfInBounds i true) ((kC ops env a0 l).put o.dst v) W':=by
     intro v W' hR hLf hE hE0 hLp
     have e1:kC ops (fun j=>if j=i then v else env' j) a0 (l++[i])=(kC ops env a0 l).put o.dst v:=by
      rw[lG,ho',aF rfl]
      congr 1
      exact BC fun j hj=>by
       have:j≠i:=fun e=>hil (e▸hj)
       rw[ak this];exact he j hj
     rw[<-e1, <-GX]
     have hag: ∀j∈l,env j=(fun j=>if j=i then v else env' j) j:=fun j hj=>by
      have:j≠i:=fun e=>hil (e▸hj)
      simp only[ak this];exact hes j hj
     refine ih (l++[i]) _ W' hlen' hnd' hl' hd' ?_ ?_ hE (fun hno=>⟨hE0 hno,hLp hno _ (fun j hj=>ak (fun(e:j=i)=>hil (by rw[<-e];exact hj))) (fun j hj=>ak (by omega)) (aF rfl)⟩)
     ·intro x hx ox hox
      rcases iT.1 hx with h|h
      ·exact afn hc hl hd hag h hox (hrec x h ox hox)
      ·have:x=i:=by simpa using h
       subst this
       rw[ho] at hox;cases hox
       exact hR _ (fun j hj=>ak (by omega)) (aF rfl)
     ·exact hLf _ (fun j hj=>ak (fun(e:j=i)=>hil (by rw[<-e];exact hj))) (fun j hj=>ak (by omega)) (aF rfl)
    have old: ∀(e:Nat->Value),(∀j,j∈l->e j=env' j)-> ∀j s W',Ss.lookup j=some s->j∈l->kW R0 R1 m j W W'->RG.Left ops a0 e j s W':=by
     intro e D5 j s W' hs hj hE
     have hNj: ∃oj,ops[j]? =some oj:=⟨_,xw (eu (hl j hj) hc.kn)⟩
     obtain⟨oj,hoj⟩:=hNj
     have hst:=aat j oj (hl j hj) hoj
     unfold Node at hst
     simp only[hs] at hst
     have h1:RG.Left ops a0 env' j s W:=RG.zH hc hl hd hes hj (hleft j s hs hj)
     refine RG.zH hc hl hd (fun x hx=>(D5 x hx).symm) hj ?_
     unfold RG.Left at h1⊢
     rw[rP hoj] at h1⊢
     exact hst.2.2.2.1 _ W W' h1 hE
    have agm:(∀x,m=some x->x∉l)-> ∀(e:Nat->Value),(∀j,j∈l->e j=env' j)-> ∀j s W',Ss.lookup j=some s->j∈l->R0 W W'->vg Ps ops a0 e j W':=by
     intro hno e D5 j s W' hs hj hE
     have hNj: ∃oj,ops[j]? =some oj:=⟨_,xw (eu (hl j hj) hc.kn)⟩
     obtain⟨oj,hoj⟩:=hNj
     have hst:=aat j oj (hl j hj) hoj
     unfold Node at hst
     simp only[hs] at hst
     have h1:vg Ps ops a0 env' j W:=CX hc hl hd hes hj ((hnil hno).2 j s hs hj)
     refine CX hc hl hd (fun x hx=>(D5 x hx).symm) hj ?_
     unfold vg at h1⊢
     rw[rP hoj] at h1⊢
     exact hst.2.2.2.2 _ W W' h1 hE
    unfold Node at hN
    cases hs:Ss.lookup i with
    |none=>
     simp only[hs] at hN
     have same: ∀v,v=env' i->((Region.wanted o (yielded ops (pf ops a0 env' i).tmps)=true/\ ∃W,rD Ps ops R0 R1 m Ss W0 a0 env' i W/\(execOp (pf ops a0 env' i).eval o).run P W= .ok (.value (env' i)) W)∨
      (Region.wanted o (yielded ops (pf ops a0 env' i).tmps)=false/\env' i=undef))->Any ja ops Qn fuel ((lst ops.size l).setIfInBounds i true) ((kC ops env a0 l).put o.dst v) W:=by
      intro v hv hcase
      refine close v W ?_ ?_ AP ?_ ?_
      ·intro e D5 hei
       have hp:pf ops a0 e i=pf ops a0 env' i:=jZ D5
       unfold Rec
       simp only[hs]
       rw[hp,hei,hv]
       exact hcase.imp (fun x=>⟨x.1,by obtain⟨Wx,h1,h2⟩:=x.2;exact⟨Wx,rV (fun j hj=>(D5 j hj).symm) h1,h2⟩⟩) id
      ·intro e hel D5 hei j s hjs hj
       rcases iT.1 hj with h|h
       ·exact old e hel j s W hjs h (hR.aci j W)
       ·have:j=i:=by simpa using h
        subst this
        rw[hs] at hjs;cases hjs
      ·intro hno
       exact(hnil (fun x hx hxl=>hno x hx (nT _ hxl))).1
      ·intro hno e hel D5 hei j s hjs hj
       rcases iT.1 hj with h|h
       ·exact agm (fun x hx hxl=>hno x hx (nT _ hxl)) e hel j s W hjs h (hR.refl W)
       ·have:j=i:=by simpa using h
        subst this
        rw[hs] at hjs;cases hjs
     rcases hN with⟨hw,hrun⟩|⟨hw,hu⟩
     ·refine EZ i o _ _ W (fun v W'=>v=env' i/\W'=W) (mf env a0 l) ho (by rw[hL.wanted];exact hw) ?_ ?_
      ·unfold Does
       rw[hL.exec (hc.sel i o ho),hrun W Hf]
       exact⟨rfl,rfl⟩
      ·rintro v W' ⟨hv,rfl⟩
       exact same v hv (.inl ⟨hw,_,Hf,hrun _ Hf⟩)
     ·refine PO i o _ _ W ho (by rw[hL.wanted];exact hw) ?_
      exact same undef hu.symm (.inr ⟨hw,hu⟩)
    |some s=>
     simp only[hs] at hN
     obtain⟨hw,_,hdo,hst⟩:=hN
     have ahx:=hdo W Hf
     have ahw:Does X P o (kC ops env a0 l).eval W (fun v W'=>s.pure (nP o (pf ops a0 env' i)) v/\s.world (nP o (pf ops a0 env' i)) v W'/\xH R0 R1 m i W W'/\Ps i (nP o (pf ops a0 env' i)) v W'):=by
      unfold Does at ahx⊢
      rw[hL.exec (hc.sel i o ho)]
      exact ahx
     refine EZ i o _ _ W _ (mf env a0 l) ho (by rw[hL.wanted];exact hw) ahw ?_
     rintro v W' ⟨agT,hworld,hE,hpre⟩
     refine close v W' ?_ ?_ ?_ ?_ ?_
     ·intro e D5 hei
      have hp:pf ops a0 e i=pf ops a0 env' i:=jZ D5
      unfold Rec
      simp only[hs]
      rw[hp,hei]
      exact agT
     ·intro e hel D5 hei j s' hjs hj
      rcases iT.1 hj with h|h
      ·refine old e hel j s' W' hjs h ?_
       have hji:j≠i:=fun x=>hil (x▸h)
       unfold xH at hE
       unfold kW
       by_cases hm:m=some i
       ·rw[aF hm] at hE
        rw[ak (by rw[hm];exact fun x=>hji (jG x).symm)]
        exact hE
       ·rw[ak hm] at hE
        split
        ·exact hE
        ·exact hR.sub hE
      ·have:j=i:=by simpa using h
       subst this
       rw[hs] at hjs;cases hjs
       unfold RG.Left
       rw[rP ho,jZ D5,hei]
       exact hworld
     ·refine hR.ad9 AP ?_
      unfold xH at hE
      split at hE
      ·exact hE
      ·exact hR.sub hE
     ·intro hno
      have hm:m≠some i:=fun hm=>hno i hm (by simp)
      unfold xH at hE
      rw[ak hm] at hE
      exact hR.aea (hnil (fun x hx hxl=>hno x hx (nT _ hxl))).1 hE
     ·intro hno e hel D5 hei j s' hjs hj
      have hm:m≠some i:=fun hm=>hno i hm (by simp)
      unfold xH at hE
      rw[ak hm] at hE
      rcases iT.1 hj with h|h
      ·exact agm (fun x hx hxl=>hno x hx (nT _ hxl)) e hel j s' W' hjs h hE
      ·have:j=i:=by simpa using h
       subst this
       unfold vg
       rw[rP ho,jZ D5,hei]
       exact hpre
end
theorem zF {X:List PanicEntry->World->Prop} {ja:Nat->(Act->World->Prop)->Act->World->Prop} {P:Program} {ops:Array Oper} {Qn:Act->World->Prop} {Ps:uN} {R0 R1:World->World->Prop} {m:Option Nat} {Ss:List (Nat×RG.Spec)} {W0 W:World} {a0:Act} {k:Nat}
 (hR:II R0 R1) (hc:chk ops k=true) (hmono: ∀i (K K':Act->World->Prop) a w,(∀a w,K a w->K' a w)->ja i K a w->ja i K' a w)
 (EZ: ∀(i:Nat) (o:Oper) (K:Act->World->Prop) (a:Act) (W:World) (R:Value->World->Prop),a.defers=a0.defers->ops[i]? =some o->Region.wanted o (yielded ops a.tmps)=true->Does X P o a.eval W R->(∀v W',R v W'->K (a.put o.dst v) W')->ja i K a W)
 (PO: ∀(i:Nat) (o:Oper) (K:Act->World->Prop) (a:Act) (W:World),ops[i]? =some o->Region.wanted o (yielded ops a.tmps)=false->K (a.put o.dst undef) W->ja i K a W)
 (hW:R0 W0 W)
 (EU:iM X Ps P ops R0 R1 m Ss (Seq ja Qn (List.range' k (ops.size-k))) W0 (ops.toList.take k) 0 a0 [] []):
 Any ja ops Qn ops.size (Array.replicate ops.size false) a0 W:=
 ac5 hR (RG.Ip hc) hmono EZ PO EU ops.size [] (fun _=>undef) W (by simp) List.nodup_nil (by simp) (fun i o _ h=>by cases h) (by simp) (by simp) (hR.sub hW) (fun _=>⟨hW,by simp⟩)
end Go.RX
namespace Go.RG
open Go.RowKit
theorem Uf {X:List PanicEntry->World->Prop} {P:Program} {o:Oper} {ρ:Operand->Value} {W:World} {R:Value->World->Prop} (h:Does P o ρ W R):RX.Does X P o ρ W R:=by
 unfold Does at h;unfold RX.Does
 generalize (execOp ρ o).run P W=r at*
 cases r with
 |ok x w'=>cases x <;>first|exact h|exact Calls.mono h fun _ _=> .inl
 |halt x w'=>exact h
theorem ajX {P:Program} {o:Oper} {ρ:Operand->Value} {W:World} {R:Value->World->Prop} (h:RX.Does (fun _ _=>False) P o ρ W R):Does P o ρ W R:=by
 unfold RX.Does at h;unfold Does
 generalize (execOp ρ o).run P W=r at*
 cases r with
 |ok x w'=>cases x <;>first|exact h|exact Calls.mono h fun _ _ h=>h.elim id fun⟨_,_,h⟩=>h.elim
 |halt x w'=>exact h
abbrev iM:=RX.iM (fun _ _=>False)
theorem zF {ja:Nat->(Act->World->Prop)->Act->World->Prop} {P:Program} {ops:Array Oper} {Qn:Act->World->Prop} {Ps:uN} {R0 R1:World->World->Prop} {m:Option Nat} {Ss:List (Nat×Spec)} {W0 W:World} {a0:Act} {k:Nat}
 (hR:II R0 R1) (hc:chk ops k=true) (hmono: ∀i (K K':Act->World->Prop) a w,(∀a w,K a w->K' a w)->ja i K a w->ja i K' a w)
 (EZ: ∀(i:Nat) (o:Oper) (K:Act->World->Prop) (a:Act) (W:World) (R:Value->World->Prop),ops[i]? =some o->Region.wanted o (yielded ops a.tmps)=true->Does P o a.eval W R->(∀v W',R v W'->K (a.put o.dst v) W')->ja i K a W)
 (PO: ∀(i:Nat) (o:Oper) (K:Act->World->Prop) (a:Act) (W:World),ops[i]? =some o->Region.wanted o (yielded ops a.tmps)=false->K (a.put o.dst undef) W->ja i K a W)
 (hW:R0 W0 W)
 (EU:iM Ps P ops R0 R1 m Ss (Seq ja Qn (List.range' k (ops.size-k))) W0 (ops.toList.take k) 0 a0 [] []):
 Any ja ops Qn ops.size (Array.replicate ops.size false) a0 W:=
 RX.zF hR hc hmono (fun i o K a W R _ ho hw hd hK=>EZ i o K a W R ho hw (ajX hd) hK) PO hW EU
theorem any_eq {P:Program} {ops:Array Oper} {Q:Exit->Act->World->Prop}: ∀(fuel:Nat) (l:Array Bool) (a:Act) (w:World),Any (wpOp P ops Q) ops (Q .normal) fuel l a w->wpAny P .any ops Q fuel l a w:=by
 intro fuel
 induction fuel with
 |zero=>exact fun l a w h=>h
 |succ fuel ih=>exact fun l a w h=>⟨h.1,fun i hi=>wpOp_mono (fun a w=>ih _ a w) (h.2 i hi)⟩
theorem seq_eq {P:Program} {ops:Array Oper} {Q:Exit->Act->World->Prop} (l:List Nat):Seq (wpOp P ops Q) (Q .normal) l=wpOps P ops Q l:=by
 induction l with
 |nil=>rfl
 |cons i l ih=>funext a w;rw[wpOps_cons, <-ih];rfl
theorem zD {P:Program} {o:Oper} {a:Act} {W:World} {R:Value->World->Prop} {K:Act->World->Prop} {Q:Exit->Act->World->Prop} (h:Does P o a.eval W R) (hK: ∀v W',R v W'->K (a.put o.dst v) W'):o.wp P a W K Q:=by
 unfold Does at h
 unfold Oper.wp
 generalize (execOp a.eval o).run P W=r at*
 cases r with
 |ok x w'=>
  cases x <;>simp only[Oper.upon] at h⊢ <;>first|exact hK _ _ h|exact h.elim|skip
  exact Calls.mono h (fun e w'' ⟨v,he,hr⟩=>by subst he;exact hK _ _ hr)
 |halt x w'=>exact h.elim
end Go.RG
namespace Go.RX
open Go.RowKit Go.RG
theorem zD {X:List PanicEntry->World->Prop} {P:Program} {o:Oper} {a:Act} {W:World} {R:Value->World->Prop} {K:Act->World->Prop} {Q:Exit->Act->World->Prop} (h:Does X P o a.eval W R) (hK: ∀v W',R v W'->K (a.put o.dst v) W') (hX: ∀ps W,X ps W->Q (.panic ps) a W):o.wp P a W K Q:=by
 unfold Does at h
 unfold Oper.wp
 generalize (execOp a.eval o).run P W=r at*
 cases r with
 |ok x w'=>
  cases x <;>simp only[Oper.upon] at h⊢ <;>first|exact hK _ _ h|exact h.elim|skip
  exact Calls.mono h (fun e w'' h=>by
   rcases h with⟨v,he,hr⟩|⟨ps,he,hx⟩
   ·subst he;exact hK _ _ hr
   ·subst he;exact hX _ _ hx)
 |halt x w'=>exact h.elim
theorem kT {X:List PanicEntry->World->Prop} {R0 R1:World->World->Prop} (hR:II R0 R1) {Ps:uN} {P:Program} {id:Nat} {ops:List Oper} {Q:Exit->Act->World->Prop} {a:Act} {w:World} (hdr:R0 w w.drew) (k:Nat) (m:Option Nat) (Ss:List (Nat×RG.Spec))
 (hX: ∀ps a1 W,a1.defers=a.defers->X ps W->Q (.panic ps) a1 W) (hm:P.follows .mixedOrders=true) (hc:chk ops.toArray k=true)
 (h:iM X Ps P ops.toArray R0 R1 m Ss (fun a w=>wpList P ops.toArray Q (ops.drop k) a w) w (ops.take k) 0 a [] []):(Code.region id ops.toArray true).wp P Q a w:=by
 refine wp_region_any hm (any_eq _ _ _ _ ?_)
 refine zF (X:=X) (Ps:=Ps) (P:=P) (R0:=R0) (R1:=R1) (m:=m) (Ss:=Ss) (W0:=w) hR hc (fun i K K' a w h hs=>wpOp_mono h hs) ?_ ?_ hdr ?_
 ·intro i o K a W R hdf ho hw hd hK
  unfold wpOp
  simp only[ho]
  rw[aF hw]
  exact .inl (zD hd hK (fun ps W=>hX ps _ W hdf))
 ·intro i o K a W ho hw hK
  unfold wpOp
  simp only[ho]
  rw[ak (by rw[hw];simp)]
  exact hK
 ·have e:(fun a w=>wpList P ops.toArray Q (ops.drop k) a w)=Seq (wpOp P ops.toArray Q) (Q .normal) (List.range' k (ops.toArray.size-k)):=by
   funext a w
   rw[seq_eq]
   have hkn:=(RG.Ip hc).kn
   have hlen:ops.toArray.size-k=(ops.drop k).length:=by simp
   rw[hlen,wpOps_eq_wpList (ops.drop k) k (fun j=>by simp)]
  rw[<-e]
  exact h
theorem gG (X:List PanicEntry->World->Prop) {P:Program} {id:Nat} {ops:List Oper} {Q:Exit->Act->World->Prop} {a:Act} {w:World} (k:Nat) (Ms:List Nat) (m:Option Nat) (Ss:List (Nat×RG.Spec))
 (hX: ∀ps a1 W,a1.defers=a.defers->X ps W->Q (.panic ps) a1 W) (hm:P.follows .mixedOrders=true) (hc:chk ops.toArray k=true)
 (h:iM X O4 P ops.toArray (Ext []) (Ext Ms) m Ss (fun a w=>wpList P ops.toArray Q (ops.drop k) a w) w (ops.take k) 0 a [] []):(Code.region id ops.toArray true).wp P Q a w:=
 kT (BB Ms) ((Ext.refl [] w).drew) k m Ss hX hm hc h
end Go.RX
namespace Go.RG
open Go.RowKit
theorem kT {R0 R1:World->World->Prop} (hR:II R0 R1) {Ps:uN} {P:Program} {id:Nat} {ops:List Oper} {Q:Exit->Act->World->Prop} {a:Act} {w:World} (hdr:R0 w w.drew) (k:Nat) (m:Option Nat) (Ss:List (Nat×Spec))
 (hm:P.follows .mixedOrders=true) (hc:chk ops.toArray k=true)
 (h:iM Ps P ops.toArray R0 R1 m Ss (fun a w=>wpList P ops.toArray Q (ops.drop k) a w) w (ops.take k) 0 a [] []):(Code.region id ops.toArray true).wp P Q a w:=
 RX.kT hR hdr k m Ss (fun _ _ _ _ h=>h.elim) hm hc h
theorem gG {P:Program} {id:Nat} {ops:List Oper} {Q:Exit->Act->World->Prop} {a:Act} {w:World} (k:Nat) (Ms:List Nat) (m:Option Nat) (Ss:List (Nat×Spec))
 (hm:P.follows .mixedOrders=true) (hc:chk ops.toArray k=true)
 (h:iM O4 P ops.toArray (Ext []) (Ext Ms) m Ss (fun a w=>wpList P ops.toArray Q (ops.drop k) a w) w (ops.take k) 0 a [] []):(Code.region id ops.toArray true).wp P Q a w:=
 kT (BB Ms) ((Ext.refl [] w).drew) k m Ss hm hc h
structure uO (B:Nat) (Ms:List Nat) (w w':World):Prop where
 os:w'.os=w.os
 tape:w'.tape=w.tape
 output:w'.output=w.output
 size:w.heap.size<=w'.heap.size
 block: ∀(k:Nat),k<w.heap.size->k<B->k∉Ms->w'.heap[k]? =w.heap[k]?
theorem uO.wQ {B:Nat} {Ms:List Nat} {w w':World} (h:Ext [] w w'):uO B Ms w w':=
 ⟨h.os,h.tape,h.output,h.size,fun k hk _ _=>h.block k hk (by simp)⟩
theorem uO.trans {B:Nat} {Ms:List Nat} {a b c:World} (h:uO B Ms a b) (k:uO B Ms b c):uO B Ms a c:=
 ⟨k.os.trans h.os,k.tape.trans h.tape,k.output.trans h.output,ji h.size k.size,
   fun i hi hb hm=>(k.block i (eu hi h.size) hb hm).trans (h.block i hi hb hm)⟩
theorem WJ (B:Nat) (Ms:List Nat):II (Ext []) (uO B Ms):=⟨Ext.refl [],Ext.trans,uO.trans,uO.wQ⟩
theorem qI {P:Program} {id:Nat} {ops:List Oper} {Q:Exit->Act->World->Prop} {a:Act} {w:World} (k:Nat) (Ms:List Nat) (m:Option Nat) (Ss:List (Nat×Spec)) (Ps:uN)
 (hm:P.follows .mixedOrders=true) (hc:chk ops.toArray k=true)
 (h:iM Ps P ops.toArray (Ext []) (uO w.heap.size Ms) m Ss (fun a w=>wpList P ops.toArray Q (ops.drop k) a w) w (ops.take k) 0 a [] []):(Code.region id ops.toArray true).wp P Q a w:=
 kT (WJ _ _) ((Ext.refl [] w).drew) k m Ss hm hc h
class Kept (R1:World->World->Prop) (Ms:outParam (List Nat)) (W0:World):Prop where
 nil: ∀{a b},Ext [] a b->R1 a b
 ext: ∀{W},R1 W0 W->Ext Ms W0 W
instance (Ms:List Nat) (W0:World):Kept (Ext Ms) Ms W0:=⟨Ext.nil,id⟩
instance (Ms:List Nat) (W0:World):Kept (uO W0.heap.size Ms) Ms W0:=⟨uO.wQ,fun h=>⟨h.os,h.tape,h.output,h.size,fun k hk hm=>h.block k hk hk hm⟩⟩
section
variable {P : Program} {ops : Array Oper} {R1 : World → World → Prop} {Ms : List Nat} {m : Option Nat} {Ss : List (Nat × Spec)} {Fin : Act → World → Prop} {W0 : World} {o : Oper} {rest : List Oper} {i : Nat} {a : Act} {F G : Facts} {Ps : uN}
theorem UQ.ext [Kept R1 Ms W0] {W:World} (h:UQ ops (Ext []) R1 m W0 F G i W):Ext Ms W0 W:=by
 have h1:=h.1
 unfold kW at h1
 split at h1
 ·exact h1.nil
 ·exact Kept.ext h1
theorem L9 [Kept R1 Ms W0] {W W':World} (h:Ext [] W W'):xH (Ext []) R1 m i W W':=by
 unfold xH
 split
 ·exact Kept.nil (R1:=R1) (W0:=W0) h
 ·exact h
def Spec.block (B:Nat) (cs:Array Value) (t:TypeId):Spec:=
 ⟨fun _ v=> ∃b:Nat,v= .pointer (some ⟨b,0,none⟩),fun _ v W=> ∃b:Nat,v= .pointer (some ⟨b,0,none⟩)/\B<=b/\W.heap[b]? =some (.cells cs t (0,0))⟩
def Spec.slice (B:Nat) (cs:Array Value) (t:TypeId) (n:Nat):Spec:=
 ⟨fun _ v=> ∃b:Nat,v= .slice (some ⟨b,0,none⟩) n n,fun _ v W=> ∃b:Nat,v= .slice (some ⟨b,0,none⟩) n n/\B<=b/\W.heap[b]? =some (.cells cs t (0,0))⟩
end
end Go.RG
namespace Go.RX
open Go.RowKit Go.RG
section
variable {X : List PanicEntry → World → Prop} {P : Program} {ops : Array Oper} {R1 : World → World → Prop} {Ms : List Nat} {m : Option Nat} {Ss : List (Nat × RG.Spec)} {Fin : Act → World → Prop} {W0 : World} {o : Oper} {rest : List Oper} {i : Nat} {a : Act} {F G : Facts} {Ps : uN}
theorem gW [Kept R1 Ms W0] (hs:Ss.lookup i=none) (v:Value) (hw:Region.wanted o (yielded ops a.tmps)=true)
 (hr: ∀W:World,(∀b off,b<W0.heap.size->b∉Ms->W.cell? ⟨b,off,none⟩=W0.cell? ⟨b,off,none⟩)->(execOp a.eval o).run P W= .ok (.value v) W)
 (ht:iM X Ps P ops (Ext []) R1 m Ss Fin W0 rest (i+1) (a.put o.dst v) F G):iM X Ps P ops (Ext []) R1 m Ss Fin W0 (o::rest) i a F G:=by
 unfold iM
 simp only[hs]
 exact⟨v,.inl ⟨hw,fun W hW=>hr W fun b off hb hm=>hW.ext.cell b off hb hm⟩,ht⟩
theorem iF [Kept R1 Ms W0] (hs:Ss.lookup i=none) (v:Value) (hw:Region.wanted o (yielded ops a.tmps)=true)
 (hr: ∀W:World,Ext Ms W0 W->(∀f∈F,kQ ops f.1 i=true->f.2 W)->(execOp a.eval o).run P W= .ok (.value v) W)
 (ht:iM X Ps P ops (Ext []) R1 m Ss Fin W0 rest (i+1) (a.put o.dst v) F G):iM X Ps P ops (Ext []) R1 m Ss Fin W0 (o::rest) i a F G:=by
 unfold iM
 simp only[hs]
 exact⟨v,.inl ⟨hw,fun W hW=>hr W hW.ext hW.2.1⟩,ht⟩
theorem Dk (hs:Ss.lookup i=none) (hw:Region.wanted o (yielded ops a.tmps)=false)
 (ht:iM X Ps P ops (Ext []) R1 m Ss Fin W0 rest (i+1) (a.put o.dst undef) F G):iM X Ps P ops (Ext []) R1 m Ss Fin W0 (o::rest) i a F G:=by
 unfold iM
 simp only[hs]
 exact⟨undef,.inr ⟨hw,rfl⟩,ht⟩
theorem bK (s:RG.Spec) (hs:Ss.lookup i=some s) (hw:Region.wanted o (yielded ops a.tmps)=true) (hex: ∃v,s.pure (nP o a) v)
 (hdo: ∀W:World,kW (Ext []) R1 m i W0 W->(∀f∈F,kQ ops f.1 i=true->f.2 W)->Does X P o a.eval W (fun v W'=>s.pure (nP o a) v/\s.world (nP o a) v W'/\xH (Ext []) R1 m i W W'))
 (hst: ∀v W W',s.world (nP o a) v W->kW (Ext []) R1 m i W W'->s.world (nP o a) v W')
 (ht: ∀v,s.pure (nP o a) v->iM X Ps P ops (Ext []) R1 m Ss Fin W0 rest (i+1) (a.put o.dst v) ((i,s.world (nP o a) v)::F) ((i,Ps i (nP o a) v)::G)) (hps: ∀x v W,Ps i x v W:=by intro _ _ _;exact True.intro):iM X Ps P ops (Ext []) R1 m Ss Fin W0 (o::rest) i a F G:=by
 unfold iM
 simp only[hs]
 refine⟨hw,hex,fun W hW=>?_,⟨hst,fun v' _ W' _ _=>hps _ _ _⟩,ht⟩
 have:=hdo W hW.1 hW.2.1
 unfold Does at this⊢
 split at this
 ·exact⟨this.1,this.2.1,this.2.2,hps _ _ _⟩
 ·exact⟨this.1,this.2.1,this.2.2,hps _ _ _⟩
 ·exact this.mono fun e w' h=>h.imp (fun⟨v,h1,h2,h3,h4⟩=>⟨v,h1,h2,h3,h4,hps _ _ _⟩) id
 ·exact this.elim
theorem dF {ρ:Operand->Value} {W:World} {R:Value->World->Prop} (f:FuncId) (args:Array Value) (he:(execOp ρ o).run P W= .ok (.enter f args) W)
 (h:Calls P f args W (fun e W'=>(∃v,e= .returned v/\R v W')∨ ∃ps,e= .panicked ps/\X ps W')):Does X P o ρ W R:=by
 unfold Does;rw[he];exact h
theorem jm {ρ:Operand->Value} {W W':World} {R:Value->World->Prop} (v:Value) (he:(execOp ρ o).run P W= .ok (.value v) W') (h:R v W'):Does X P o ρ W R:=by
 unfold Does;rw[he];exact h
theorem jX (B:Nat) (cs:Array Value) (t:TypeId) (hs:Ss.lookup i=some (RG.Spec.block B cs t)) (hB:B<=W0.heap.size) (hw:Region.wanted o (yielded ops a.tmps)=true) (hMs: ∀x∈Ms,x<B) (hmi:m≠some i)
 (he: ∀W:World,(∀b off,b<W0.heap.size->b∉Ms->W.cell? ⟨b,off,none⟩=W0.cell? ⟨b,off,none⟩)->(execOp a.eval o).run P W= .ok (.value (.pointer (some ⟨W.heap.size,0,none⟩))) (W.alloc (.cells cs t)))
 (ht: ∀b:Nat,iM X Ps P ops (Ext []) (Ext Ms) m Ss Fin W0 rest (i+1) (a.put o.dst (.pointer (some ⟨b,0,none⟩))) ((i,fun W=> ∃c:Nat,Value.pointer (some ⟨b,0,none⟩)= .pointer (some ⟨c,0,none⟩)/\B<=c/\W.heap[c]? =some (.cells cs t (0,0)))::F) ((i,Ps i (nP o a) (.pointer (some ⟨b,0,none⟩)))::G)) (hps: ∀x v W,Ps i x v W:=by intro _ _ _;exact True.intro):
 iM X Ps P ops (Ext []) (Ext Ms) m Ss Fin W0 (o::rest) i a F G:=by
 refine bK _ hs hw ⟨.pointer (some ⟨0,0,none⟩),0,rfl⟩ ?_ ?_ ?_ ?_
 ·intro W hW _
  have hW':Ext Ms W0 W:=by
   unfold kW at hW
   rw[ak hmi] at hW
   exact hW
  refine jm _ (he W fun b off hb hm=>hW'.cell b off hb hm) ⟨⟨_,rfl⟩,⟨_,rfl,ji hB hW'.size,heap_alloc_new W _⟩,L9 (R1:=Ext Ms) (W0:=W0) (Ext.aA ?_)⟩
  exact(aG _ _).alloc (ai _) _
 ·rintro v W W' ⟨b,hb,hle,hc⟩ hE
  unfold kW at hE
  rw[ak hmi] at hE
  exact⟨b,hb,hle,(hE.block b (aV.1 hc).1 (fun h=>by have:=hMs b h;omega)).trans hc⟩
 ·rintro v ⟨b,rfl⟩
  exact ht b
 ·exact hps
theorem eH (B:Nat) (cs:Array Value) (t:TypeId) (n:Nat) (hs:Ss.lookup i=some (RG.Spec.slice B cs t n)) (hB:B<=W0.heap.size) (hw:Region.wanted o (yielded ops a.tmps)=true) (hMs: ∀x∈Ms,x<B) (hmi:m≠some i)
 (he: ∀W:World,(∀b off,b<W0.heap.size->b∉Ms->W.cell? ⟨b,off,none⟩=W0.cell? ⟨b,off,none⟩)->(execOp a.eval o).run P W= .ok (.value (.slice (some ⟨W.heap.size,0,none⟩) n n)) (W.alloc (.cells cs t)))
 (ht: ∀b:Nat,iM X Ps P ops (Ext []) (Ext Ms) m Ss Fin W0 rest (i+1) (a.put o.dst (.slice (some ⟨b,0,none⟩) n n)) ((i,fun W=> ∃c:Nat,Value.slice (some ⟨b,0,none⟩) n n= .slice (some ⟨c,0,none⟩) n n/\B<=c/\W.heap[c]? =some (.cells cs t (0,0)))::F) ((i,Ps i (nP o a) (.slice (some ⟨b,0,none⟩) n n))::G)) (hps: ∀x v W,Ps i x v W:=by intro _ _ _;exact True.intro):
 iM X Ps P ops (Ext []) (Ext Ms) m Ss Fin W0 (o::rest) i a F G:=by
 refine bK _ hs hw ⟨.slice (some ⟨0,0,none⟩) n n,0,rfl⟩ ?_ ?_ ?_ ?_
 ·intro W hW _
  have hW':Ext Ms W0 W:=by
   unfold kW at hW
   rw[ak hmi] at hW
   exact hW
  refine jm _ (he W fun b off hb hm=>hW'.cell b off hb hm) ⟨⟨_,rfl⟩,⟨_,rfl,ji hB hW'.size,heap_alloc_new W _⟩,L9 (R1:=Ext Ms) (W0:=W0) (Ext.aA ?_)⟩
  exact(aG _ _).alloc (ai _) _
 ·rintro v W W' ⟨b,hb,hle,hc⟩ hE
  unfold kW at hE
  rw[ak hmi] at hE
  exact⟨b,hb,hle,(hE.block b (aV.1 hc).1 (fun h=>by have:=hMs b h;omega)).trans hc⟩
 ·rintro v ⟨b,rfl⟩
  exact ht b
 ·exact hps
end
section
variable {X : List PanicEntry → World → Prop} {P : Program} {ops : Array Oper} {R1 : World → World → Prop} {Ms : List Nat} {m : Option Nat} {Ss : List (Nat × RG.Spec)} {Fin : Act → World → Prop} {W0 : World} {o : Oper} {rest : List Oper} {i : Nat} {a : Act} {F G : Facts} {Ps : uN}
theorem zd [Kept R1 Ms W0] {v:Value} (ht:iM X Ps P ops (Ext []) R1 m Ss Fin W0 rest (i+1) (a.put o.dst v) F G) (hs:Ss.lookup i=none:=by rfl) (hw:Region.wanted o (yielded ops a.tmps)=true:=by rfl)
 (hr: ∀W:World,(∀b off,b<W0.heap.size->b∉Ms->W.cell? ⟨b,off,none⟩=W0.cell? ⟨b,off,none⟩)->(execOp a.eval o).run P W= .ok (.value v) W:=by
   intro W hW;go_simp;(try simp(disch:=omega) only[IntWalk.i64_in,Int.tdiv_eq_ediv_of_nonneg]);try rfl):iM X Ps P ops (Ext []) R1 m Ss Fin W0 (o::rest) i a F G:=
 gW hs v hw hr ht
end
end Go.RX
namespace Go.RG
open Go.RowKit
section
variable {P : Program} {ops : Array Oper} {R1 : World → World → Prop} {Ms : List Nat} {m : Option Nat} {Ss : List (Nat × Spec)} {Fin : Act → World → Prop} {W0 : World} {o : Oper} {rest : List Oper} {i : Nat} {a : Act} {F G : Facts} {Ps : uN}
abbrev gW:= @RX.gW fun _ _=>False
abbrev iF:= @RX.iF fun _ _=>False
abbrev Dk:= @RX.Dk fun _ _=>False
def Spec.val (v:Value):Spec:=⟨fun _ x=>x=v,fun _ _ _=>True⟩
theorem eX [Kept R1 Ms W0] (v:Value) (hs:Ss.lookup i=some (Spec.val v)) (hw:Region.wanted o (yielded ops a.tmps)=true) (f:FuncId) (args:Array Value)
 (he: ∀W:World,(∀b off,b<W0.heap.size->b∉Ms->W.cell? ⟨b,off,none⟩=W0.cell? ⟨b,off,none⟩)->(execOp a.eval o).run P W= .ok (.enter f args) W)
 (hcall: ∀W:World,Ext Ms W0 W->(∀f∈F,kQ ops f.1 i=true->f.2 W)->Calls P f args W (fun e W'=>e= .returned v/\Below W.heap.size W W'))
 (ht:iM Ps P ops (Ext []) R1 m Ss Fin W0 rest (i+1) (a.put o.dst v) F G) (hps: ∀x v W,Ps i x v W:=by intro _ _ _;exact True.intro):iM Ps P ops (Ext []) R1 m Ss Fin W0 (o::rest) i a F G:=by
 have mono: ∀(rest:List Oper) (i:Nat) (a:Act) (F F' G G':Facts),(∀f,f∈F'->f∈F∨ ∀W,f.2 W)->(∀f,f∈F->f∈F')->(∀f,f∈G->f∈G')->iM Ps P ops (Ext []) R1 m Ss Fin W0 rest i a F G->iM Ps P ops (Ext []) R1 m Ss Fin W0 rest i a F' G':=by
  intro rest
  induction rest with
  |nil=>
   intro i a F F' G G' h1 h2 h3 h W hW hF
   exact h W hW (fun f hf=>hF f (h2 f hf))
  |cons o rest ih=>
   intro i a F F' G G' h1 h2 h3 h
   have Hf: ∀W,UQ ops (Ext []) R1 m W0 F' G' i W->UQ ops (Ext []) R1 m W0 F G i W:=fun W hW=>⟨hW.1,fun f hf ha=>hW.2.1 f (h2 f hf) ha,fun hm f hf ha=>hW.2.2 hm f (h3 f hf) ha⟩
   have hcons: ∀(x:Nat×(World->Prop)) (A B:Facts),(∀f,f∈A->f∈B)-> ∀f,f∈x::A->f∈x::B:=by
    intro x A B hAB f hf
    rcases gY.1 hf with rfl|hf
    ·simp
    ·simp[hAB f hf]
   unfold iM RX.iM at h⊢
   cases hs:Ss.lookup i with
   |none=>
    simp only[hs] at h⊢
    obtain⟨v,hv,ht⟩:=h
    exact⟨v,hv.imp (fun x=>⟨x.1,fun W hW=>x.2 W (Hf W hW)⟩) id,ih _ _ _ _ _ _ h1 h2 h3 ht⟩
   |some s=>
    simp only[hs] at h⊢
    obtain⟨x1,x2,x3,x4,x5⟩:=h
    refine⟨x1,x2,fun W hW=>x3 W (Hf W hW),x4,fun v hv=>ih _ _ _ _ _ _ ?_ (hcons _ _ _ h2) (hcons _ _ _ h3) (x5 v hv)⟩
    intro f hf
    rcases gY.1 hf with rfl|hf
    ·exact .inl (by simp)
    ·exact(h1 f hf).imp (fun h=>by simp[h]) id
 unfold iM RX.iM
 simp only[hs]
 refine⟨hw,⟨v,rfl⟩,fun W hW=>?_,⟨fun _ _ _ _ _=>trivial,fun v' _ W' _ _=>hps _ _ _⟩,fun v' hv=>?_⟩
 ·refine Uf ?_
  unfold Does
  rw[he W (fun b off hb hm=>hW.ext.cell b off hb hm)]
  exact(hcall W hW.ext hW.2.1).mono fun e W' ⟨h1,h2⟩=>⟨v,h1,rfl,trivial,L9 (R1:=R1) (W0:=W0) (Ext.aA h2),hps _ _ _⟩
 ·have:v'=v:=hv
  subst this
  refine mono _ _ _ _ _ _ _ ?_ ?_ ?_ ht
  ·intro f hf
   rcases gY.1 hf with rfl|hf
   ·exact .inr (fun _=>trivial)
   ·exact .inl hf
  ·intro f hf
   simp[hf]
  ·intro f hf
   simp[hf]
theorem bK (s:Spec) (hs:Ss.lookup i=some s) (hw:Region.wanted o (yielded ops a.tmps)=true) (hex: ∃v,s.pure (nP o a) v)
 (hdo: ∀W:World,kW (Ext []) R1 m i W0 W->(∀f∈F,kQ ops f.1 i=true->f.2 W)->Does P o a.eval W (fun v W'=>s.pure (nP o a) v/\s.world (nP o a) v W'/\xH (Ext []) R1 m i W W'))
 (hst: ∀v W W',s.world (nP o a) v W->kW (Ext []) R1 m i W W'->s.world (nP o a) v W')
 (ht: ∀v,s.pure (nP o a) v->iM Ps P ops (Ext []) R1 m Ss Fin W0 rest (i+1) (a.put o.dst v) ((i,s.world (nP o a) v)::F) ((i,Ps i (nP o a) v)::G)) (hps: ∀x v W,Ps i x v W:=by intro _ _ _;exact True.intro):iM Ps P ops (Ext []) R1 m Ss Fin W0 (o::rest) i a F G:=
 RX.bK s hs hw hex (fun W a b=>Uf (hdo W a b)) hst ht hps
theorem kV (s:Spec) (hs:Ss.lookup i=some s) (hw:Region.wanted o (yielded ops a.tmps)=true) (hex: ∃v,s.pure (nP o a) v)
 (hdo: ∀W:World,kW (Ext []) R1 m i W0 W->(∀f∈F,kQ ops f.1 i=true->f.2 W)->(m=some i-> ∀g∈G,kQ ops g.1 i=true->g.2 W)->
   Does P o a.eval W (fun v W'=>s.pure (nP o a) v/\s.world (nP o a) v W'/\xH (Ext []) R1 m i W W'/\Ps i (nP o a) v W'))
 (hst: ∀v W W',s.world (nP o a) v W->kW (Ext []) R1 m i W W'->s.world (nP o a) v W') (hsp: ∀v W W',Ps i (nP o a) v W->Ext [] W W'->Ps i (nP o a) v W')
 (ht: ∀v,s.pure (nP o a) v->iM Ps P ops (Ext []) R1 m Ss Fin W0 rest (i+1) (a.put o.dst v) ((i,s.world (nP o a) v)::F) ((i,Ps i (nP o a) v)::G)):iM Ps P ops (Ext []) R1 m Ss Fin W0 (o::rest) i a F G:=by
 unfold iM RX.iM
 simp only[hs]
 exact⟨hw,hex,fun W hW=>Uf (hdo W hW.1 hW.2.1 hW.2.2),⟨hst,hsp⟩,ht⟩
theorem dF {ρ:Operand->Value} {W:World} {R:Value->World->Prop} (f:FuncId) (args:Array Value) (he:(execOp ρ o).run P W= .ok (.enter f args) W)
 (h:Calls P f args W (fun e W'=> ∃v,e= .returned v/\R v W')):Does P o ρ W R:=by
 unfold Does;rw[he];exact h
theorem jm {ρ:Operand->Value} {W W':World} {R:Value->World->Prop} (v:Value) (he:(execOp ρ o).run P W= .ok (.value v) W') (h:R v W'):Does P o ρ W R:=by
 unfold Does;rw[he];exact h
abbrev jX:= @RX.jX fun _ _=>False
abbrev eH:= @RX.eH fun _ _=>False
end
section
variable {P : Program} {ops : Array Oper} {R1 : World → World → Prop} {Ms : List Nat} {m : Option Nat} {Ss : List (Nat × Spec)} {Fin : Act → World → Prop} {W0 : World} {o : Oper} {rest : List Oper} {i : Nat} {a : Act} {F G : Facts} {Ps : uN}
theorem zd [Kept R1 Ms W0] {v:Value} (ht:iM Ps P ops (Ext []) R1 m Ss Fin W0 rest (i+1) (a.put o.dst v) F G) (hs:Ss.lookup i=none:=by rfl) (hw:Region.wanted o (yielded ops a.tmps)=true:=by rfl)
 (hr: ∀W:World,(∀b off,b<W0.heap.size->b∉Ms->W.cell? ⟨b,off,none⟩=W0.cell? ⟨b,off,none⟩)->(execOp a.eval o).run P W= .ok (.value v) W:=by
   intro W hW;go_simp;(try simp(disch:=omega) only[IntWalk.i64_in,Int.tdiv_eq_ediv_of_nonneg]);try rfl):iM Ps P ops (Ext []) R1 m Ss Fin W0 (o::rest) i a F G:=
 gW hs v hw hr ht
theorem zn [Kept R1 Ms W0] {v:Value} (ht:iM Ps P ops (Ext []) R1 m Ss Fin W0 rest (i+1) (a.put o.dst v) F G) (hs:Ss.lookup i=none:=by rfl) (hw:Region.wanted o (yielded ops a.tmps)=true:=by rfl)
 (hr: ∀W:World,(∀b off,b<W0.heap.size->b∉Ms->W.cell? ⟨b,off,none⟩=W0.cell? ⟨b,off,none⟩)->(execOp a.eval o).run P W= .ok (.value v) W:=by
   intro W hW;go_simp;(try simp(disch:=omega) only[IntWalk.i64_in]);try rfl):iM Ps P ops (Ext []) R1 m Ss Fin W0 (o::rest) i a F G:=
 gW hs v hw hr ht
theorem zk (ht:iM Ps P ops (Ext []) R1 m Ss Fin W0 rest (i+1) (a.put o.dst undef) F G) (hs:Ss.lookup i=none:=by rfl) (hw:Region.wanted o (yielded ops a.tmps)=false:=by rfl):iM Ps P ops (Ext []) R1 m Ss Fin W0 (o::rest) i a F G:=
 Dk hs hw ht
theorem zv [Kept R1 Ms W0] {v:Value} (f:FuncId) {args:Array Value} (hs:Ss.lookup i=some (Spec.val v):=by rfl) (hw:Region.wanted o (yielded ops a.tmps)=true:=by rfl)
 (he: ∀W:World,(∀b off,b<W0.heap.size->b∉Ms->W.cell? ⟨b,off,none⟩=W0.cell? ⟨b,off,none⟩)->(execOp a.eval o).run P W= .ok (.enter f args) W:=by
   intro W hW;go_simp;(try simp(disch:=omega) only[IntWalk.i64_in,Int.tdiv_eq_ediv_of_nonneg]);try rfl)
 (h: ∀W:World,Ext Ms W0 W->(∀f∈F,kQ ops f.1 i=true->f.2 W)->Calls P f args W (fun e W'=>e= .returned v/\Below W.heap.size W W'))
 (t:iM Ps P ops (Ext []) R1 m Ss Fin W0 rest (i+1) (a.put o.dst v) F G) (hps: ∀x v W,Ps i x v W:=by intro _ _ _;exact True.intro):iM Ps P ops (Ext []) R1 m Ss Fin W0 (o::rest) i a F G:=
 eX v hs hw f args he h t hps
theorem zw [Kept R1 Ms W0] {v:Value} (f:FuncId) {args:Array Value} (hs:Ss.lookup i=some (Spec.val v):=by rfl) (hw:Region.wanted o (yielded ops a.tmps)=true:=by rfl)
 (he: ∀W:World,(∀b off,b<W0.heap.size->b∉Ms->W.cell? ⟨b,off,none⟩=W0.cell? ⟨b,off,none⟩)->(execOp a.eval o).run P W= .ok (.enter f args) W:=by
   intro W hW;go_simp;try rfl)
 (h: ∀W:World,Ext Ms W0 W->(∀f∈F,kQ ops f.1 i=true->f.2 W)->Calls P f args W (fun e W'=>e= .returned v/\Below W.heap.size W W'))
 (t:iM Ps P ops (Ext []) R1 m Ss Fin W0 rest (i+1) (a.put o.dst v) F G) (hps: ∀x v W,Ps i x v W:=by intro _ _ _;exact True.intro):iM Ps P ops (Ext []) R1 m Ss Fin W0 (o::rest) i a F G:=
 eX v hs hw f args he h t hps
theorem zg {P:Program} {id:Nat} {ops:List Oper} {Q:Exit->Act->World->Prop} {a:Act} {w:World} (k:Nat) (Ms:List Nat) (m:Option Nat) (Ss:List (Nat×Spec))
 (h:iM O4 P ops.toArray (Ext []) (Ext Ms) m Ss (fun a w=>wpList P ops.toArray Q (ops.drop k) a w) w (ops.take k) 0 a [] [])
 (hm:P.follows .mixedOrders=true:=by as_aux_lemma=>kernel_rfl) (hc:chk ops.toArray k=true:=by as_aux_lemma=>kernel_rfl):(Code.region id ops.toArray true).wp P Q a w:=
 gG k Ms m Ss hm hc h
end
end Go.RG
namespace Go
theorem zp:(∀(a:Act) (d:Tmp) (v:Value),a.put (some d) v={a with tmps:=a.tmps.setIfInBounds d v})/\(∀(a:Act) (v:Value),a.put none v=a)/\
 (∀(l:List Value) (i:Nat) (v:Value),l.toArray.setIfInBounds i v=(l.set i v).toArray)/\(∀(x:Value) (xs:List Value) (n:Nat) (v:Value),(x::xs).set (n+1) v=x::xs.set n v)/\(∀(x:Value) (xs:List Value) (v:Value),(x::xs).set 0 v=v::xs):=
 ⟨fun _ _ _=>rfl,fun _ _=>rfl,fun _ _ _=>uj ..,fun _ _ _ _=>rfl,fun _ _ _=>rfl⟩
theorem zt:(∀(i:Nat) (x:Oper) (xs:List Oper),List.take (i+1) (x::xs)=x::List.take i xs)/\(∀xs:List Oper,List.take 0 xs=[])/\
 (∀(i:Nat) (x:Oper) (xs:List Oper),List.drop (i+1) (x::xs)=List.drop i xs)/\(∀xs:List Oper,List.drop 0 xs=xs):=
 ⟨fun _ _ _=>rfl,fun _=>rfl,fun _ _ _=>rfl,fun _=>rfl⟩
end Go
end

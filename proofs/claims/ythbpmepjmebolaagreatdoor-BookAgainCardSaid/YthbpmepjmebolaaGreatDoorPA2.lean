/-
  Texts of this claim, packed by a program: Math MA VA Region.
-/
import Derived.Test.YthbpmepjmebolaaGreatDoorPA0
import Derived.WalkKit
import Derived.WalkLawsBesides
import Derived.WalkSpells
import Derived.Outline
import Derived.Handy
import Derived.KernelRfl
import Derived.Lib.Hide
import Derived.Orders
import Derived.OrdersIn
import Derived.Below
import Derived.Tactics
set_option maxHeartbeats 8000000
set_option maxRecDepth 100000
set_option linter.all false
section
namespace jC
abbrev dY:=Int×Int
abbrev Ff:=Int×Int×Int
structure dn where
 last:Int
 size:Int
 bn:Int
 die:Int
 uT:Int
 start:dY
 bQ:List dY
 turns:List Int
 readings:List Ff
def nZ (n lo hi:Int):Bool:=decide (lo<=n)&&decide (n<=hi)
def wP (r:dY) (hi:Int):Bool:=decide (0<=r.1)&&decide (r.1<=r.2)&&decide (r.2<=hi)
def zi (last:Int):Int->List Int->Bool
 |_,[]=>true
 |p,n::l=>nZ n (p+1) last&&zi last n l
def oI (last:Int) (l:List Int):Bool:=zi last (-1) l
def BA (last:Int) (x:Ff):Bool:=nZ x.1 0 last&&nZ x.2.1 0 1000&&nZ x.2.2 0 50
def fO (h:dn):Bool:=
 decide (0<=h.last)&&nZ h.size 0 20&&nZ h.bn 0 100&&decide (0<=h.die)&&nZ h.uT h.die 500&&wP h.start 500
def valid (h:dn):Bool:=
 fO h&&decide ((h.bQ.length:Int)=h.last+1)&&oI h.last h.turns&&h.bQ.all (wP · 20)&&h.readings.all (BA h.last)
def eQ (r:dY):Int:=r.2-r.1+1
def uM (l:List dY):Int:=l.foldr (fun r n=>eQ r*n) 1
def wH (h:dn):Int:=
 if 9<h.last∨5<h.readings.length then 3 else if valid h=false then 1 else if 2000<uM (h.start::h.bQ) then 3 else 0
def mi (bn n:Int) (turned:Bool):Int:=if turned then n-n*bn/100 else n
def Zo (size bn:Int) (turns:List Int) (i:Nat) (n w:Int):Int:=mi bn n (turns.contains (i:Int))+size*w/10
def ru (size bn:Int) (turns:List Int) (start:Int) (bQ:List Int):Nat->Int
 |0=>start
 |k+1=>Zo size bn turns k (ru size bn turns start bQ k) (bQ.getD k 0)
def qN (size bn:Int) (turns:List Int) (start:Int) (bQ:List Int) (n:Nat):List Int:=
 (List.range 10).map fun j=>if j<n then ru size bn turns start bQ (j+1) else 0
def lH (h:dn) (t:Int×List Int) (turns:List Int):List Int:=qN h.size h.bn turns t.1 t.2 t.2.length
def Dj (x:Ff) (l:List Int):Bool:=nZ (l.getD x.1.toNat 0-x.2.1) (-x.2.2) x.2.2
def tK (r:dY):List Int:=(List.range (eQ r).toNat).map fun(k:Nat)=>r.1+(k:Int)
def fJ:List dY->List (List Int)
 |[]=>[[]]
 |r::rs=>(tK r).flatMap fun x=>(fJ rs).map (x:: ·)
def abj (last p:Int) (l:List Int) (k:Nat):Bool:=nZ (l.getD k 0) ((p::l).getD k 0+1) last
theorem Jc (last:Int): ∀(l:List Int) (p:Int),zi last p l=(List.range l.length).all (abj last p l):=by
 intro l
 induction l with
 |nil=>intro p;rfl
 |cons n l ih=>
  intro p
  rw[List.length_cons,List.range_succ_eq_map,List.all_cons,List.all_map,zi,ih n]
  congr 1
theorem Yc (last:Int) (h0:0<=last) (l:List Int): ∀k,(∀j,j<k->abj last (-1) l j=true)->k<=l.length-> -1<=((-1:Int)::l).getD k 0/\((-1:Int)::l).getD k 0<=last:=by
 intro k
 induction k with
 |zero=>intro _ _;simp;omega
 |succ k ih=>
  intro h hk
  have h1:=h k (by omega)
  have h2:=ih (fun j hj=>h j (by omega)) (by omega)
  simp only[abj,nZ,fG,eX] at h1
  rw[List.getD_cons_succ]
  omega
theorem jL {α:Type} (l:List α) (p:α->Bool):(if l.any (fun k=>!p k) then false else true)=l.all p:=by
 rw[List.all_eq_not_any_not]
 cases l.any (fun k=>!p k) <;>rfl
def rY (m:Int) (r:dY):Int:=min (m*eQ r) 2001
def vF (l:List dY) (k:Nat):Int:=(l.take k).foldl rY 1
theorem IB (l:List dY) (k:Nat) (hk:k<l.length):vF l (k+1)=rY (vF l k) l[k]:=by
 unfold vF
 rw[iy hk,List.foldl_append]
 rfl
theorem Oy (l:List dY) (h: ∀r∈l,1<=eQ r):1<=uM l:=by
 induction l with
 |nil=>simp[uM]
 |cons r l ih=>
  have h1:=h r (by simp)
  have h2:=ih (fun x hx=>h x (by simp[hx]))
  show 1<=eQ r*uM l
  have:=Int.mul_le_mul h1 h2 (by omega) (by omega)
  omega
theorem Qu (l:List dY) (h: ∀r∈l,1<=eQ r): ∀m,1<=m->m<=2001->l.foldl rY m=min (m*uM l) 2001:=by
 induction l with
 |nil=>intro m h1 h2;simp[uM];omega
 |cons r l ih=>
  intro m h1 h2
  have hr:=h r (by simp)
  have hp:=Oy l (fun x hx=>h x (by simp[hx]))
  rw[List.foldl_cons]
  have hm:1<=m*eQ r:=by have:=Int.mul_le_mul h1 hr (by omega) (by omega);omega
  rw[ih (fun x hx=>h x (by simp[hx])) _ (by unfold rY;omega) (by unfold rY;omega)]
  show min (rY m r*uM l) 2001=min (m*(eQ r*uM l)) 2001
  rw[<-Int.mul_assoc]
  unfold rY
  by_cases hc:m*eQ r<=2001
  ·rw[Int.min_eq_left hc]
  ·have h3:2001<=m*eQ r*uM l:=by have:=Int.mul_le_mul (show(2001:Int)<=m*eQ r by omega) hp (by omega) (by omega);omega
   have h4:2001<=2001*uM l:=by omega
   rw[Int.min_eq_right (show 2001<=m*eQ r by omega)]
   omega
theorem Qv (l:List dY) (h: ∀r∈l,1<=eQ r) (k:Nat):1<=vF l k/\vF l k<=2001:=by
 unfold vF
 have ht: ∀r∈l.take k,1<=eQ r:=fun r hr=>h r (oM hr)
 rw[Qu _ ht 1 (by omega) (by omega)]
 have:=Oy _ ht
 omega
theorem KX (l:List dY) (h: ∀r∈l,1<=eQ r):(2000<vF l l.length)↔2000<uM l:=by
 unfold vF
 rw[List.take_length,Qu _ h 1 (by omega) (by omega)]
 omega
theorem yB {r:dY} {n:Int} (h:wP r n=true):0<=r.1/\r.1<=r.2/\r.2<=n/\1<=eQ r/\eQ r<=n+1:=by
 simp only[wP,fG,eX] at h
 unfold eQ
 omega
theorem KW {bn n:Int} (hc0:0<=bn) (hc1:bn<=100) (hn:0<=n) (t:Bool):0<=mi bn n t/\mi bn n t<=n:=by
 unfold mi
 cases t
 ·simp;omega
 ·simp only[if_true]
  have h1:0<=n*bn:=Int.mul_nonneg hn hc0
  have h2:n*bn<=n*100:=Int.mul_le_mul_of_nonneg_left hc1 hn
  omega
theorem KI {size bn:Int} (turns:List Int) {start:Int} (bQ:List Int) (hs0:0<=size) (hs1:size<=20) (hc0:0<=bn) (hc1:bn<=100) (h0:0<=start) (h1:start<=500) (hw: ∀x∈bQ,0<=x/\x<=20):
 ∀k:Nat,0<=ru size bn turns start bQ k/\ru size bn turns start bQ k<=500+40*k:=by
 intro k
 induction k with
 |zero=>simp[ru];omega
 |succ k ih=>
  have hb:=KW hc0 hc1 ih.1 (turns.contains (k:Int))
  have hx:0<=bQ.getD k 0/\bQ.getD k 0<=20:=by
   by_cases hk:k<bQ.length
   ·rw[eY,dA hk];exact hw _ (bT _)
   ·rw[eY,List.getElem?_eq_none (by omega)];simp
  have h2:0<=size*bQ.getD k 0:=Int.mul_nonneg hs0 hx.1
  have h3:size*bQ.getD k 0<=20*20:=Int.mul_le_mul hs1 hx.2 hx.1 (by omega)
  simp only[ru,Zo]
  generalize bQ.getD k 0=x at*
  generalize size*x=y at*
  push_cast
  omega
theorem kX (size bn:Int) (turns:List Int) (start:Int) (bQ:List Int) (n:Nat):(qN size bn turns start bQ n).length=10:=by simp[qN]
theorem MR (size bn:Int) (turns:List Int) (start:Int) (bQ:List Int) (n:Nat) (_hn:n<10):
 qN size bn turns start bQ (n+1)=(qN size bn turns start bQ n).set n (ru size bn turns start bQ (n+1)):=by
 apply List.ext_getElem
 ·simp[qN]
 ·intro i h1 h2
  have hi:i<10:=by simpa [qN] using h1
  simp only[qN,List.getElem_map,List.getElem_range,List.getElem_set]
  by_cases e:n=i
  ·subst e;simp
  ·rw[aj e]
   by_cases h:i<n
   ·rw[aC h,aC (by omega)]
   ·rw[aj h,aj (by omega)]
theorem Py {h:dn} {t:Int×List Int} (turns:List Int) (hs0:0<=h.size) (hs1:h.size<=20) (hc0:0<=h.bn) (hc1:h.bn<=100) (h0:0<=t.1) (h1:t.1<=500) (hw: ∀x∈t.2,0<=x/\x<=20) (_hl:t.2.length<=10):
 ∀x∈lH h t turns,0<=x/\x<=900:=by
 intro x hx
 obtain⟨j,hj,rfl⟩:=iV.1 hx
 have hj':j<10:=by simpa using hj
 split
 ·have:=KI turns t.2 hs0 hs1 hc0 hc1 h0 h1 hw (j+1)
  omega
 ·omega
theorem Dc {α:Type} {l:List α} (h:l.length=10): ∃a b c d e f g i j k,l=[a,b,c,d,e,f,g,i,j,k]:=by
 match l,h with
 |[a,b,c,d,e,f,g,i,j,k],_=>exact⟨a,b,c,d,e,f,g,i,j,k,rfl⟩
structure Sound (h:dn):Prop where
 KA:0<=h.last
 BI:h.last<=9
 Og:0<=h.size
 Oe:h.size<=20
 PZ:0<=h.bn
 PY:h.bn<=100
 aqt:0<=h.die
 an2:h.die<=h.uT
 an1:h.uT<=500
 Zr:0<=h.start.1
 Zq:h.start.1<=h.start.2
 Zp:h.start.2<=500
 Gg:(h.bQ.length:Int)=h.last+1
 turns:oI h.last h.turns=true
 bQ: ∀r∈h.bQ,0<=r.1/\r.1<=r.2/\r.2<=20
 rdg: ∀x∈h.readings,(0<=x.1/\x.1<=h.last)/\(0<=x.2.1/\x.2.1<=1000)/\0<=x.2.2/\x.2.2<=50
 akl:h.readings.length<=5
 many:uM (h.start::h.bQ)<=2000
theorem Gn {h:dn} (hf:wH h=0):Sound h:=by
 unfold wH at hf
 split at hf
 ·omega
 ·split at hf
  ·omega
  ·split at hf
   ·omega
   ·rename_i h1 h2 h3
    have h2':valid h=true:=by simpa using h2
    simp only[valid,fO,wP,nZ,fG,eX,jS] at h2'
    obtain⟨⟨⟨⟨⟨⟨⟨⟨⟨a1,a2⟩,a3⟩,a4⟩,a5⟩,a6⟩,a7⟩,a8⟩,a9⟩,a10⟩:=h2'
    refine⟨a1,by omega,a2.1,a2.2,a3.1,a3.2,a4,a5.1,a5.2,a6.1.1,a6.1.2,a6.2,a7,a8,fun r hr=>?_,fun x hx=>?_,by omega,by omega⟩
    ·have:=a9 r hr;exact⟨this.1.1,this.1.2,this.2⟩
    ·have:=a10 x hx
     simp only[BA,nZ,fG,eX] at this
     exact⟨this.1.1,this.1.2,this.2⟩
theorem ac7 {α β:Type} (f:α->List β) (sz:Nat) (hf: ∀x,(f x).length=sz): ∀(l:List α) (k j:Nat) (hk:k<l.length),j<sz->(l.flatMap f)[k*sz+j]? =(f l[k])[j]? :=by
 intro l
 induction l with
 |nil=>intro k j hk;simp at hk
 |cons x l ih=>
  intro k j hk hj
  cases k with
  |zero=>simp[List.flatMap_cons,vP (show j<(f x).length by rw[hf];exact hj)]
  |succ k=>
   have e:(k+1)*sz+j=(f x).length+(k*sz+j):=by rw[hf,Nat.add_mul];omega
   rw[List.flatMap_cons,e,nT (by omega),Nat.add_sub_cancel_left,ih k j (by simpa using hk) hj]
   rfl
theorem zX (r:dY):(tK r).length=(eQ r).toNat:=by simp[tK]
theorem Sj (r:dY) (c:Nat) (hc:c<(tK r).length):(tK r)[c]=r.1+(c:Int):=by simp[tK]
theorem Bz (r:dY) (rs:List dY):(fJ (r::rs)).length=(eQ r).toNat*(fJ rs).length:=by
 rw[fJ,List.length_flatMap]
 simp only[lJ,List.map_const',List.sum_replicate_nat]
 rw[zX]
theorem WH (r:dY) (rs:List dY) (c j:Nat) (hc:c<(eQ r).toNat) (hj:j<(fJ rs).length):
 (fJ (r::rs))[c*(fJ rs).length+j]? =some ((r.1+(c:Int))::(fJ rs)[j]):=by
 rw[fJ,ac7 _ (fJ rs).length (fun x=>by simp) (tK r) c j (by rw[zX];exact hc) hj,Sj]
 simp[hj]
theorem WG: ∀(rs:List dY), ∀x∈fJ rs,x.length=rs.length:=by
 intro rs
 induction rs with
 |nil=>intro x hx;simp[fJ] at hx;subst hx;rfl
 |cons r rs ih=>
  intro x hx
  simp only[fJ,qI,iV] at hx
  obtain⟨y,_,z,hz,rfl⟩:=hx
  simp[ih z hz]
def jM (R:List dY) (i k:Nat) (pre:List Int):Prop:= ∀j s,(fJ (R.drop i))[j]? =some s->(fJ R)[k+j]? =some (pre++s)
theorem jM.zero (R:List dY):jM R 0 0 []:=fun j s h=>by simpa using h
theorem jM.next {R:List dY} {i k:Nat} {pre:List Int} (h:jM R i k pre) (hi:i<R.length) (c:Nat) (hc:c<(eQ R[i]).toNat):
 jM R (i+1) (k+c*(fJ (R.drop (i+1))).length) (pre++[R[i].1+(c:Int)]):=by
 intro j s hs
 obtain⟨hj,rfl⟩:=jq.1 hs
 have:=h (c*(fJ (R.drop (i+1))).length+j) _ (by rw[A7 hi];exact WH _ _ c j hc hj)
 rw[Nat.add_assoc,this]
 simp
theorem jM.count {R:List dY} {i:Nat} (hi:i<R.length):(fJ (R.drop i)).length=(eQ R[i]).toNat*(fJ (R.drop (i+1))).length:=by
 rw[A7 hi,Bz]
theorem jM.last {R:List dY} {i k:Nat} {pre:List Int} (h:jM R i k pre) (hi:i=R.length):(fJ (R.drop i)).length=1/\ ∃hk:k<(fJ R).length,(fJ R)[k]=pre:=by
 have e:R.drop i=[]:=List.drop_eq_nil_of_le (by omega)
 rw[e]
 have:=h 0 [] (by rw[e];rfl)
 simp only[Nat.add_zero,List.append_nil] at this
 obtain⟨hk,hx⟩:=jq.1 this
 exact⟨rfl,hk,hx⟩
def V5 (l:List Int):Int×List Int:=(l.headD 0,l.tail)
def SC (h:dn) (out:List Int) (t:Int×List Int) (i:Nat):Bool:=out.contains (i:Int) ||Dj (h.readings.getD i (0,0,0)) (lH h t h.turns)
def okT (h:dn) (out:List Int) (t:Int×List Int):Bool:=(List.range h.readings.length).all (SC h out t)
def rE (h:dn):List (List Int):=fJ (h.start::h.bQ)
def dX (h:dn) (out:List Int):List (Int×List Int):=((rE h).filter fun l=>okT h out (V5 l)).map V5
def cnt (h:dn) (out:List Int) (k:Nat):Nat:=(((rE h).take k).filter fun l=>okT h out (V5 l)).length
theorem adg (h:dn) (out:List Int):cnt h out (rE h).length=(dX h out).length:=by
 unfold cnt dX
 rw[List.take_length,lJ]
theorem afu {h:dn} {out:List Int} {k:Nat} (hk:k<(rE h).length) (hp:okT h out (V5 (rE h)[k])=false):cnt h out (k+1)=cnt h out k:=by
 unfold cnt
 rw[iy hk,List.filter_append,dE]
 simp[hp]
theorem adf {h:dn} {out:List Int} {k:Nat} (hk:k<(rE h).length) (hp:okT h out (V5 (rE h)[k])=true):cnt h out (k+1)=cnt h out k+1:=by
 unfold cnt
 rw[iy hk,List.filter_append,dE]
 simp[hp]
theorem Dy {α β:Type} (p:α->Bool) (f:α->β): ∀(l:List α) (k:Nat) (hk:k<l.length),p l[k]=true->((l.filter p).map f)[((l.take k).filter p).length]? =some (f l[k]):=by
 intro l
 induction l with
 |nil=>intro k hk;simp at hk
 |cons x l ih=>
  intro k hk hp
  cases k with
  |zero=>
   have hp':p x=true:=hp
   simp[hp']
  |succ k=>
   have:=ih k (by simpa using hk) hp
   by_cases hx:p x=true
   ·simp only[List.filter_cons,hx,if_true,List.map_cons,List.take_succ_cons,List.length_cons,List.getElem?_cons_succ,List.getElem_cons_succ]
    exact this
   ·simp only[List.filter_cons,hx,if_false,List.take_succ_cons,List.getElem_cons_succ,Bool.false_eq_true]
    exact this
theorem Ro {h:dn} {out:List Int} {k:Nat} (hk:k<(rE h).length) (hp:okT h out (V5 (rE h)[k])=true):
 ∃hc:cnt h out k<(dX h out).length,(dX h out)[cnt h out k]=V5 (rE h)[k]:=by
 have:=Dy (fun l=>okT h out (V5 l)) V5 (rE h) k hk hp
 obtain⟨hc,hx⟩:=jq.1 this
 exact⟨hc,hx⟩
theorem Dp: ∀(rs:List dY) (x:List Int),x∈fJ rs->x.length=rs.length/\ ∀i,i<rs.length->(rs.getD i (0,0)).1<=x.getD i 0/\x.getD i 0<=(rs.getD i (0,0)).2:=by
 intro rs
 induction rs with
 |nil=>intro x hx;simp[fJ] at hx;subst hx;exact⟨rfl,fun i hi=>by simp at hi⟩
 |cons r rs ih=>
  intro x hx
  simp only[fJ,qI,iV] at hx
  obtain⟨y,hy,z,hz,rfl⟩:=hx
  obtain⟨h1,h2⟩:=ih z hz
  refine⟨by simp[h1],fun i hi=>?_⟩
  cases i with
  |zero=>
   obtain⟨c,hc,rfl⟩:=iV.1 hy
   have:c<(eQ r).toNat:=by simpa using hc
   unfold eQ at this
   simp
   omega
  |succ i=>simpa using h2 i (by simpa using hi)
theorem G8 {h:dn} (hS:Sound h) {x:List Int} (hx:x∈rE h): ∃s rest,x=s::rest/\rest.length=h.bQ.length/\(0<=s/\s<=500)/\ ∀y∈rest,0<=y/\y<=20:=by
 obtain⟨hl,hb⟩:=Dp _ _ hx
 cases x with
 |nil=>simp at hl
 |cons s rest=>
  have h0:=hb 0 (by simp)
  simp at h0
  have:=hS.Zr
  have:=hS.Zp
  refine⟨s,rest,rfl,by simpa using hl,by omega,fun y hy=>?_⟩
  obtain⟨i,hi,rfl⟩:=mF hy
  have hi':i<h.bQ.length:=by simp at hl;omega
  have h1:=hb (i+1) (by simpa using hi')
  simp only[List.getD_cons_succ] at h1
  rw[show rest.getD i 0=rest[i] from by simp[hi],show h.bQ.getD i (0,0)=h.bQ[i] from by simp[hi']] at h1
  have:=hS.bQ _ (bT hi')
  omega
def jQ (below:Nat):Nat->Nat->List (List Int)
 |0,_=>[[]]
 |m+1,f=>(List.range (below-m-f)).flatMap fun j=>(jQ below m (f+j+1)).map fun x=>((f+j:Nat):Int)::x
def nN (below:Nat) (p:List Int->Bool):Option (List Int):=((List.range (below+1)).flatMap fun m=>jQ below m 0).find? p
theorem rD {α β:Type} (p:β->Bool) (f:α->List β): ∀(l:List α) (k:Nat) (hk:k<l.length) (c:β),(∀j (hj:j<k),(f (l[j]'(by omega))).find? p=none)->(f l[k]).find? p=some c->(l.flatMap f).find? p=some c:=by
 intro l
 induction l with
 |nil=>intro k hk;simp at hk
 |cons x l ih=>
  intro k hk c h1 h2
  rw[List.flatMap_cons,List.find?_append]
  cases k with
  |zero=>
   have h2':(f x).find? p=some c:=h2
   rw[h2'];rfl
  |succ k=>
   have h0:(f x).find? p=none:=h1 0 (by omega)
   rw[h0]
   exact ih k (by simpa using hk) c (fun j hj=>h1 (j+1) (by omega)) h2
theorem uq {α β:Type} (p:β->Bool) (f:α->List β) (l:List α) (h: ∀j (hj:j<l.length),(f l[j]).find? p=none):(l.flatMap f).find? p=none:=by
 rw[List.find?_eq_none]
 intro x hx
 obtain⟨y,hy,hxy⟩:=qI.1 hx
 obtain⟨j,hj,rfl⟩:=mF hy
 have:=h j hj
 rw[List.find?_eq_none] at this
 exact this x hxy
def Inc (below:Nat):Nat->List Int->Prop
 |_,[]=>True
 |f,a::x=> ∃n:Nat,a=n/\f<=n/\n<below/\Inc below (n+1) x
theorem Inc.len {below:Nat}: ∀(x:List Int) (f:Nat),Inc below f x->x.length<=below-f:=by
 intro x
 induction x with
 |nil=>intro f _;simp
 |cons a x ih=>
  rintro f ⟨n,_,h1,h2,h3⟩
  have:=ih _ h3
  simp only[List.length_cons]
  omega
theorem sH {below:Nat}: ∀(m f:Nat) (x:List Int),x∈jQ below m f↔x.length=m/\Inc below f x:=by
 intro m
 induction m with
 |zero=>
  intro f x
  simp only[jQ,dZ]
  constructor
  ·rintro rfl;exact⟨rfl,trivial⟩
  ·rintro⟨h,_⟩;exact kF h
 |succ m ih=>
  intro f x
  simp only[jQ,qI,mD,iV]
  constructor
  ·rintro⟨j,hj,y,hy,rfl⟩
   obtain⟨h1,h2⟩:=(ih _ _).1 hy
   exact⟨by simp[h1],f+j,rfl,by omega,by omega,h2⟩
  ·rintro⟨hl,hi⟩
   cases x with
   |nil=>simp at hl
   |cons a x=>
    obtain⟨n,rfl,h1,h2,h3⟩:=hi
    have:=h3.len
    simp only[List.length_cons] at hl
    refine⟨n-f,by omega,x,(ih _ _).2 ⟨by omega,?_⟩,?_⟩
    ·rw[show f+(n-f)+1=n+1 by omega];exact h3
    ·rw[show f+(n-f)=n by omega]
def before:List Int->List Int->Bool
 |[],b=>!b.isEmpty
 |_::_,[]=>false
 |x::a,y::b=>if x=y then before a b else decide (x<y)
def oG (a b:List Int):Bool:=decide (a.length<b.length) ||(decide (a.length=b.length)&&before a b)
theorem before_irrefl: ∀a,before a a=false:=by
 intro a
 induction a with
 |nil=>rfl
 |cons x a ih=>simp[before,ih]
theorem Nv: ∀a b,before a b=true->before b a=false:=by
 intro a
 induction a with
 |nil=>intro b h;cases b <;>simp[before] at h⊢
 |cons x a ih=>
  intro b h
  cases b with
  |nil=>simp[before] at h
  |cons y b=>
   simp only[before] at h⊢
   by_cases e:x=y
   ·subst e;simp only[if_true] at h⊢;exact ih _ h
   ·rw[aj e] at h;rw[aj (fun e'=>e e'.symm)]
    simp only[eX,decide_eq_false_iff_not] at h⊢;omega
theorem Gp (a:List Int):oG a a=false:=by simp[oG,before_irrefl]
theorem Jg {a b:List Int} (h:oG a b=true):oG b a=false:=by
 simp only[oG,Bool.or_eq_true,fG,eX,Bool.or_eq_false_iff,Bool.and_eq_false_iff,decide_eq_false_iff_not] at h⊢
 rcases h with h|⟨h,hb⟩
 ·exact⟨by omega,.inl (by omega)⟩
 ·exact⟨by omega,.inr (Nv _ _ hb)⟩
theorem TT {α:Type} (R:α->α->Prop) (p:α->Bool): ∀(l:List α),l.Pairwise R-> ∀c,l.find? p=some c->p c=true/\c∈l/\ ∀x∈l,p x=true->x=c∨R c x:=by
 intro l
 induction l with
 |nil=>intro _ c h;simp at h
 |cons y l ih=>
  intro hp c h
  rw[List.pairwise_cons] at hp
  rw[List.find?_cons] at h
  cases hy:p y with
  |true=>
   rw[hy] at h
   cases h
   refine⟨hy,by simp,fun x hx _=>?_⟩
   rcases gK.1 hx with rfl|hx
   ·exact .inl rfl
   ·exact .inr (hp.1 _ hx)
  |false=>
   rw[hy] at h
   obtain⟨h1,h2,h3⟩:=ih hp.2 c h
   refine⟨h1,by simp[h2],fun x hx hpx=>?_⟩
   rcases gK.1 hx with rfl|hx
   ·rw[hy] at hpx;cases hpx
   ·exact h3 x hx hpx
theorem vM {α β:Type} (R:β->β->Prop) (f:α->List β): ∀(l:List α),(∀x∈l,(f x).Pairwise R)->l.Pairwise (fun x y=> ∀a∈f x, ∀b∈f y,R a b)->(l.flatMap f).Pairwise R:=by
 intro l
 induction l with
 |nil=>intro _ _;simp
 |cons x l ih=>
  intro h1 h2
  rw[List.pairwise_cons] at h2
  rw[List.flatMap_cons,List.pairwise_append]
  refine⟨h1 x (by simp),ih (fun y hy=>h1 y (by simp[hy])) h2.2,fun a ha b hb=>?_⟩
  obtain⟨y,hy,hby⟩:=qI.1 hb
  exact h2.1 y hy a ha b hby
theorem Nk (below:Nat): ∀(m f:Nat),(jQ below m f).Pairwise fun a b=>before a b=true:=by
 intro m
 induction m with
 |zero=>intro f;simp[jQ]
 |succ m ih=>
  intro f
  unfold jQ
  refine vM _ _ _ (fun j _=>?_) ?_
  ·rw[List.pairwise_map]
   exact(ih (f+j+1)).imp fun h=>by simpa [before] using h
  ·refine List.pairwise_lt_range.imp fun {i j} hij=>?_
   intro a ha b hb
   obtain⟨x,_,rfl⟩:=iV.1 ha
   obtain⟨y,_,rfl⟩:=iV.1 hb
   simp only[before]
   rw[aj (by omega)]
   simp;omega
theorem Fp (below:Nat):((List.range (below+1)).flatMap fun m=>jQ below m 0).Pairwise fun a b=>oG a b=true:=by
 refine vM _ _ _ (fun m _=>?_) ?_
 ·refine List.Pairwise.imp_of_mem ?_ (Nk below m 0)
  intro a b ha hb h
  simp[oG,((sH _ _ _).1 ha).1,((sH _ _ _).1 hb).1,h]
 ·refine List.pairwise_lt_range.imp fun {i j} hij=>?_
  intro a ha b hb
  simp[oG,((sH _ _ _).1 ha).1,((sH _ _ _).1 hb).1,hij]
theorem wX (below:Nat) (x:List Int):x∈((List.range (below+1)).flatMap fun m=>jQ below m 0)↔Inc below 0 x:=by
 rw[qI]
 constructor
 ·rintro⟨m,_,h⟩;exact((sH _ _ _).1 h).2
 ·intro h
  have:=h.len
  exact⟨x.length,by simp;omega,(sH _ _ _).2 ⟨rfl,h⟩⟩
theorem Oi {below:Nat} {p:List Int->Bool} {c:List Int} (h:nN below p=some c):p c=true/\Inc below 0 c/\ ∀x,Inc below 0 x->p x=true->oG x c=false:=by
 obtain⟨h1,h2,h3⟩:=TT _ p _ (Fp below) c h
 refine⟨h1,(wX _ _).1 h2,fun x hx hp=>?_⟩
 rcases h3 x ((wX _ _).2 hx) hp with rfl|hr
 ·exact Gp _
 ·exact Jg hr
theorem Oj {below:Nat} {p:List Int->Bool} (h:nN below p=none): ∀x,Inc below 0 x->p x=false:=by
 intro x hx
 unfold nN at h
 rw[List.find?_eq_none] at h
 simpa using h x ((wX _ _).2 hx)
def lT (acc:List (List Int)) (x:List Int):List (List Int):=if acc.getLast? =some x then acc else acc++[x]
def jK (h:dn) (turns:List Int):List (List Int):=(dX h []).foldl (fun acc t=>lT acc (lH h t turns)) []
def jv (h:dn) (turns:List Int) (k:Nat):List (List Int):=((dX h []).take k).foldl (fun acc t=>lT acc (lH h t turns)) []
theorem BR {h:dn} {turns:List Int} {k:Nat} (hk:k<(dX h []).length):jv h turns (k+1)=lT (jv h turns k) (lH h (dX h [])[k] turns):=by
 unfold jv
 rw[iy hk,List.foldl_append]
 rfl
theorem yM (h:dn) (turns:List Int):jv h turns (dX h []).length=jK h turns:=by unfold jv;rw[List.take_length];rfl
theorem WU (acc:List (List Int)) (x y:List Int):y∈lT acc x↔y∈acc∨y=x:=by
 unfold lT
 split
 ·rename_i h
  constructor
  ·exact .inl
  ·rintro(h1|rfl)
   ·exact h1
   ·exact List.mem_of_getLast? h
 ·simp
theorem BF {α:Type} (f:α->List Int): ∀(l:List α) (acc:List (List Int)) (y:List Int),y∈l.foldl (fun acc t=>lT acc (f t)) acc↔y∈acc∨ ∃t∈l,y=f t:=by
 intro l
 induction l with
 |nil=>intro acc y;simp
 |cons a l ih=>
  intro acc y
  rw[List.foldl_cons,ih,WU]
  simp only[gK,exists_eq_or_imp,or_assoc]
theorem GV (h:dn) (turns:List Int) (y:List Int):y∈jK h turns↔ ∃t∈dX h [],y=lH h t turns:=by
 unfold jK;rw[BF];simp
theorem OU {h:dn} {turns:List Int} {k:Nat} {y:List Int} (hy:y∈jv h turns k): ∃t∈dX h [],y=lH h t turns:=by
 unfold jv at hy
 rw[BF] at hy
 simp only[List.not_mem_nil,false_or] at hy
 obtain⟨t,ht,rfl⟩:=hy
 exact⟨t,oM ht,rfl⟩
theorem EX {h:dn} {turns:List Int} {k:Nat}: ∀y∈jv h turns k,y.length=10:=by
 intro y hy
 obtain⟨t,_,rfl⟩:=OU hy
 exact kX _ _ _ _ _ _
theorem Ik {h:dn} {turns:List Int}: ∀y∈jK h turns,y.length=10:=by
 rw[<-yM];exact EX
theorem JR (acc:List (List Int)) (x:List Int):(lT acc x).length<=acc.length+1:=by
 unfold lT;split <;>simp
theorem EY (h:dn) (turns:List Int): ∀k,(jv h turns k).length<=k:=by
 intro k
 induction k with
 |zero=>simp[jv]
 |succ k ih=>
  by_cases hk:k<(dX h []).length
  ·rw[BR hk]
   have:=JR (jv h turns k) (lH h (dX h [])[k] turns)
   omega
  ·have e:jv h turns (k+1)=jv h turns k:=by
    unfold jv;rw[kK (by omega),kK (by omega)]
   rw[e];omega
theorem TY (h:dn) (turns:List Int):(jK h turns).length<=(dX h []).length:=by
 rw[<-yM];exact EY _ _ _
theorem TW {h:dn} {turns:List Int} (hn:dX h []≠[]):jK h turns≠[]:=by
 intro he
 obtain⟨t,ht⟩:=List.exists_mem_of_ne_nil _ hn
 have:=(GV h turns (lH h t turns)).2 ⟨t,ht,rfl⟩
 rw[he] at this
 cases this
theorem yx (rs:List dY) (hr: ∀r∈rs,1<=eQ r):((fJ rs).length:Int)=uM rs:=by
 induction rs with
 |nil=>rfl
 |cons r rs ih=>
  rw[Bz]
  have h1:=hr r (by simp)
  have ih':=ih (fun x hx=>hr x (by simp[hx]))
  show(((eQ r).toNat*(fJ rs).length:Nat):Int)=eQ r*uM rs
  rw[Int.natCast_mul,ih',Int.toNat_of_nonneg (by omega)]
theorem yh {h:dn} (hS:Sound h) (out:List Int):(dX h out).length<=2000:=by
 have h1:(dX h out).length<=(rE h).length:=by unfold dX;rw[lJ];exact List.length_filter_le _ _
 have h2:=yx (h.start::h.bQ) (fun r hr=>by
  rcases gK.1 hr with rfl|hr
  ·have:=hS.Zq;unfold eQ;omega
  ·have:=hS.bQ r hr;unfold eQ;omega)
 have h3:=hS.many
 unfold rE at h1
 omega
def wid (r:dY) (x:Int):dY:=(min r.1 x,max r.2 x)
def fC (n k:Nat) (R:List dY) (l:List Int) (i:Nat):List dY:=
 if k=0 then(List.range i).map fun j=>(l.getD j 0,l.getD j 0) else(List.range n).map fun j=>if j<i then wid (R.getD j (0,0)) (l.getD j 0) else R.getD j (0,0)
def bG (n:Nat) (ls:List (List Int)):Nat->List dY
 |0=>[]
 |k+1=>fC n k (bG n ls k) (ls.getD k []) n
def rZ (n:Nat) (ls:List (List Int)):List dY:=bG n ls ls.length
theorem tN (n:Nat) (R:List dY) (l:List Int) (i:Nat):(fC n 0 R l i).length=i:=by simp[fC]
theorem wu (n k:Nat) (R:List dY) (l:List Int) (i:Nat) (hk:k≠0):(fC n k R l i).length=n:=by simp[fC,hk]
theorem qg (n:Nat) (ls:List (List Int)) (k:Nat) (hk:k≠0):(bG n ls k).length=n:=by
 cases k with
 |zero=>exact absurd rfl hk
 |succ k=>
  unfold bG
  by_cases h:k=0
  ·subst h;exact tN _ _ _ _
  ·exact wu _ _ _ _ _ h
theorem Sm {n k:Nat} {R:List dY} {l:List Int} (hR:k≠0->R.length=n) (h0:k=0->R=[]):fC n k R l 0=R:=by
 unfold fC
 split
 ·rename_i h;rw[h0 h];rfl
 ·rename_i h
  apply List.ext_getElem
  ·simp[hR h]
  ·intro i h1 h2;simp[List.getD,h2]
theorem WN {n:Nat} {R:List dY} {l:List Int} {i:Nat}:fC n 0 R l i++[(l.getD i 0,l.getD i 0)]=fC n 0 R l (i+1):=by
 simp[fC,List.range_succ]
theorem Sr {n:Nat} {R:List dY} {l:List Int} {i:Nat}:(fC n 0 R l (i+1)).set i (wid ((fC n 0 R l (i+1)).getD i (0,0)) (l.getD i 0))=fC n 0 R l (i+1):=by
 apply List.ext_getElem
 ·simp
 ·intro j h1 h2
  rw[List.getElem_set]
  split
  ·rename_i h;subst h;simp[fC,wid,List.getD]
  ·rfl
theorem WM {n k:Nat} {R:List dY} {l:List Int} {i:Nat} (hk:k≠0) (hi:i<n):(fC n k R l i).set i (wid ((fC n k R l i).getD i (0,0)) (l.getD i 0))=fC n k R l (i+1):=by
 apply List.ext_getElem
 ·simp[fC,hk]
 ·intro j h1 h2
  have hj:j<n:=by simpa [fC,hk] using h2
  rw[List.getElem_set]
  split
  ·rename_i h;subst h;simp[fC,hk,hi]
  ·rename_i h
   simp only[fC,hk,if_false,List.getElem_map,List.getElem_range]
   by_cases h3:j<i
   ·rw[aC h3,aC (by omega)]
   ·rw[aj h3,aj (by omega)]
def upto (n:Nat):List Int:=(List.range n).map fun(i:Nat)=>(i:Int)
theorem Xm: ∀(n f below:Nat),f+n<=below->Inc below f ((List.range' f n).map fun(i:Nat)=>(i:Int)):=by
 intro n
 induction n with
 |zero=>intro f below _;trivial
 |succ n ih=>
  intro f below h
  rw[List.range'_succ,List.map_cons]
  exact⟨f,rfl,ai _,by omega,ih (f+1) below (by omega)⟩
end jC
end
section
namespace jC
theorem SN {r:dY} {x:Int}:x∈tK r↔r.1<=x/\x<=r.2:=by
 unfold tK eQ
 rw[iV]
 constructor
 ·rintro⟨k,hk,rfl⟩
  have:=mD.1 hk
  omega
 ·rintro⟨h1,h2⟩
  exact⟨(x-r.1).toNat,mD.2 (by omega),by omega⟩
end jC
namespace jC
theorem MN {below:Nat}: ∀(l:List Int) (f:Nat),Inc below f l↔l.Pairwise (· < ·)/\ ∀x∈l,(f:Int)<=x/\x<below:=by
 intro l
 induction l with
 |nil=>intro f;simp[Inc]
 |cons x l ih=>
  intro f
  unfold Inc
  rw[List.pairwise_cons]
  constructor
  ·rintro⟨n,rfl,h1,h2,h3⟩
   obtain⟨h4,h5⟩:=(ih _).1 h3
   refine⟨⟨fun y hy=>by have:=h5 y hy;omega,h4⟩,fun y hy=>?_⟩
   rcases gK.1 hy with rfl|hy
   ·omega
   ·have:=h5 y hy;omega
  ·rintro⟨⟨h1,h2⟩,h3⟩
   have hx:=h3 x (by simp)
   refine⟨x.toNat,by omega,by omega,by omega,(ih _).2 ⟨h2,fun y hy=>⟨?_,(h3 y (by simp[hy])).2⟩⟩⟩
   have:=h1 y hy
   omega
end jC
namespace jC
end jC
end
section
namespace Go.Proofs.YthbpmepjmebolaaGreatDoor
open jC
abbrev ND:=Int×Int×Int×dY
structure cZ where
 rows:Int
 aO:Int
 left:dY
 au:List ND
def pY (f:cZ) (t:ND):Bool:=nZ t.1 0 (f.aO-1)&&nZ t.2.1 0 (f.rows-1)&&nZ t.2.2.1 0 (f.rows-1)&&decide (t.2.1<=t.2.2.1)&&wP t.2.2.2 f.rows
def kz (f:cZ):Int:=
 if 7<f.rows∨3<f.aO∨5<f.au.length then 3
 else if f.rows<1∨f.aO<1∨wP f.left f.rows=false∨f.au.all (pY f)=false then 1
 else if 2500<(f.aO+1)^f.rows.toNat then 3 else 0
structure rG (f:cZ):Prop where
 zW:1<=f.rows
 qP:f.rows<=7
 zV:1<=f.aO
 xH:f.aO<=3
 Ah:f.au.length<=5
 left:0<=f.left.1/\f.left.1<=f.left.2/\f.left.2<=f.rows
 uK: ∀t∈f.au,(0<=t.1/\t.1<f.aO)/\(0<=t.2.1/\t.2.1<=t.2.2.1/\t.2.2.1<f.rows)/\(0<=t.2.2.2.1/\t.2.2.2.1<=t.2.2.2.2/\t.2.2.2.2<=f.rows)
 many:(f.aO+1)^f.rows.toNat<=2500
theorem iI {f:cZ} (hf:kz f=0):rG f:=by
 unfold kz at hf
 split at hf
 ·omega
 ·rename_i h1
  split at hf
  ·omega
  ·rename_i h2
   split at hf
   ·omega
   ·rename_i h3
    simp only[not_or] at h1 h2
    obtain⟨a1,a2,a3⟩:=h1
    obtain⟨b1,b2,b3,b4⟩:=h2
    have b3':wP f.left f.rows=true:=by simpa using b3
    have b4':f.au.all (pY f)=true:=by simpa using b4
    rw[jS] at b4'
    simp only[wP,fG,eX] at b3'
    refine⟨by omega,by omega,by omega,by omega,by omega,⟨by omega,by omega,by omega⟩,fun t ht=>?_,by omega⟩
    have:=b4' t ht
    simp only[pY,nZ,wP,fG,eX] at this
    omega
def zQ (l:List Int) (who:Int) (a n:Nat):Int:=((List.range' a n).countP fun i=>l.getD i 0==who:Nat)
def Iq (l:List Int) (who lo hi:Int):Int:=zQ l who lo.toNat (hi+1-lo).toNat
def Ai (l:List Int) (t:ND):Bool:=nZ (Iq l t.1 t.2.1 t.2.2.1) t.2.2.2.1 t.2.2.2.2
def jg (f:cZ) (out:List Int) (l:List Int):Bool:=
 ((List.range f.au.length).all fun i=>out.contains (i:Int) ||Ai l (f.au.getD i (0,0,0,(0,0))))&&nZ (Iq l (-1) 0 (f.rows-1)) f.left.1 f.left.2
def fH (f:cZ):List dY:=List.replicate f.rows.toNat (-1,f.aO-1)
def qG (f:cZ):List (List Int):=fJ (fH f)
def df (f:cZ) (out:List Int):List (List Int):=(qG f).filter (jg f out)
theorem Si {f:cZ} (hS:rG f): ∀r∈fH f,1<=eQ r:=fun r hr=>by
 obtain rfl:=List.eq_of_mem_replicate hr
 have:=hS.zV
 unfold eQ
 simp only
 omega
theorem Wy: ∀(rs:List dY) (x:List Int),x.length=rs.length->(∀i,i<rs.length->(rs.getD i (0,0)).1<=x.getD i 0/\x.getD i 0<=(rs.getD i (0,0)).2)->x∈fJ rs:=by
 intro rs
 induction rs with
 |nil=>intro x hx _;obtain rfl:=kF hx;simp[fJ]
 |cons r rs ih=>
  intro x hx hb
  cases x with
  |nil=>simp at hx
  |cons a x=>
   have h0:=hb 0 (by simp)
   simp only[fJ,qI,iV]
   exact⟨a,SN.2 (by simpa using h0),x,ih x (by simpa using hx) (fun i hi=>by simpa using hb (i+1) (by simpa using hi)),rfl⟩
theorem GZ {f:cZ} {l:List Int}:l∈qG f↔l.length=f.rows.toNat/\ ∀i,i<f.rows.toNat-> -1<=l.getD i 0/\l.getD i 0<=f.aO-1:=by
 have hg: ∀i,i<f.rows.toNat->(fH f).getD i (0,0)=(-1,f.aO-1):=fun i hi=>by
  unfold fH
  rw[eY,List.getElem?_replicate,aC hi]
  rfl
 have hl:(fH f).length=f.rows.toNat:=by unfold fH;simp
 unfold qG
 constructor
 ·intro hm
  obtain⟨h1,h2⟩:=Dp _ _ hm
  rw[hl] at h1 h2
  refine⟨h1,fun i hi=>?_⟩
  have:=h2 i hi
  rw[hg i hi] at this
  exact this
 ·rintro⟨h1,h2⟩
  refine Wy _ _ (by rw[hl];exact h1) fun i hi=>?_
  rw[hl] at hi
  rw[hg i hi]
  exact h2 i hi
theorem L9 (f:cZ):uM (fH f)=(f.aO+1)^f.rows.toNat:=by
 unfold fH
 induction f.rows.toNat with
 |zero=>simp[uM]
 |succ k ih=>
  rw[List.replicate_succ]
  show eQ (-1,f.aO-1)*uM (List.replicate k (-1,f.aO-1))=_
  rw[ih,Int.pow_succ,Int.mul_comm]
  congr 1
  unfold eQ
  simp only
  omega
end Go.Proofs.YthbpmepjmebolaaGreatDoor
namespace Go.Proofs.YthbpmepjmebolaaGreatDoor
open jC
def RJ (rows:List Int) (a b:List Int):Bool:=rows.all fun r=>a.getD r.toNat 0==b.getD r.toNat 0
def mP (f:cZ) (a:List Int) (who:Int):Int:=Iq a who 0 (f.rows-1)
def Ol (f:cZ) (w:Int) (rows:List Int):Bool:=(df f []).all fun a=>(df f []).all fun b=>!RJ rows a b ||mP f a w==mP f b w
theorem ack {f:cZ} {w:Int} {rows:List Int}:Ol f w rows=true↔ ∀a∈df f [], ∀b∈df f [],RJ rows a b=true->mP f a w=mP f b w:=by
 unfold Ol
 simp only[jS,Bool.or_eq_true,Bool.not_eq_true',beq_iff_eq]
 constructor
 ·intro h a ha b hb hs
  rcases h a ha b hb with h1|h1
  ·rw[hs] at h1;cases h1
  ·exact h1
 ·intro h a ha b hb
  cases hs:RJ rows a b
  ·exact .inl rfl
  ·exact .inr (h a ha b hb hs)
theorem Ef {f:cZ} {out a:List Int} (h:a∈df f out):a∈qG f/\jg f out a=true:=List.mem_filter.1 h
theorem oQ {f:cZ} {out a:List Int} (h:a∈df f out):a.length=f.rows.toNat:=(GZ.1 (Ef h).1).1
theorem aaf (n:Nat):Inc n 0 (upto n):=by
 have:=Xm n 0 n (by omega)
 unfold upto
 rw[<-List.range_eq_range'] at this
 exact this
theorem BG {a b:List Int} (h:oG a b=false):b.length<=a.length:=by
 unfold oG at h
 simp only[Bool.or_eq_false_iff,decide_eq_false_iff_not] at h
 omega
end Go.Proofs.YthbpmepjmebolaaGreatDoor
namespace Go.Proofs.YthbpmepjmebolaaGreatDoor
open jC
structure aS where
 field:cZ
 rate:Int
 box:dY
 notes:List (Int×dY)
def uB (r x:dY):dY:=(max r.1 x.1,min r.2 x.2)
def qc (l:aS) (out:List Int) (i:Nat) (due:Int):dY:=
 ((List.range l.notes.length).filter fun(k:Nat)=>!out.contains (k:Int)&&(l.notes.getD k (0,(0,0))).1==(i:Int)).foldl (fun r k=>uB r (l.notes.getD k (0,(0,0))).2) (0,due)
def zK (l:List Int):Int:=l.foldr (· + ·) 0
theorem vZ (x:Int) (l:List Int):zK (x::l)=x+zK l:=rfl
def qi (l:aS) (out:List Int) (D6:List Int):List dY:=(List.range l.field.aO.toNat).map fun i=>qc l out i (D6.getD i 0)
def Jl (l:aS) (out D6:List Int):Int:=zK ((qi l out D6).map (·.1))
def zY (l:aS) (out D6:List Int):Int:=zK ((qi l out D6).map (·.2))
def jG (l:aS) (out D6:List Int):Bool:=(qi l out D6).all (fun r=>decide (r.1<=r.2))&&decide (Jl l out D6<=l.box.2)&&decide (l.box.1<=zY l out D6)
def kL (l:aS) (out D6:List Int):List dY:=
 (qi l out D6).map fun r=>uB r (l.box.1-(zY l out D6-r.2),l.box.2-(Jl l out D6-r.1))
end Go.Proofs.YthbpmepjmebolaaGreatDoor
namespace Go.Proofs.YthbpmepjmebolaaGreatDoor
open jC
def lW (rate:Int) (rows:List Int):List Int:=(List.range 3).map fun(i:Nat)=>rate*(rows.count (i:Int):Int)
theorem kZ (rate:Int) (rows:List Int):(lW rate rows).length=3:=by simp[lW]
theorem sK (rate:Int) (rows:List Int) {i:Nat} (hi:i<3):(lW rate rows).getD i 0=rate*(rows.count (i:Int):Int):=by
 unfold lW
 rw[eY,qJ,List.getElem?_range hi]
 rfl
theorem aiF {a b:List Int} (ha:a.length=3) (hb:b.length=3) (h: ∀i,i<3->a.getD i 0=b.getD i 0):a=b:=by
 refine List.ext_getElem (by omega) fun i h1 h2=>?_
 have:=h i (by omega)
 simpa [List.getD,h1,h2] using this
theorem XI (rate:Int):lW rate []=[0,0,0]:=by simp[lW,List.range_succ]
theorem Ua (rate:Int) (rs:List Int) (n:Nat) (hn:n<3):(lW rate rs).set n ((lW rate rs).getD n 0+rate)=lW rate (rs++[(n:Int)]):=by
 refine aiF (by simp[kZ]) (kZ _ _) fun i hi=>?_
 rw[sK _ _ hi,List.count_append]
 by_cases e:n=i
 ·subst e
  rw[List.getD_eq_getElem?_getD,List.getElem?_set_self (by rw[kZ];omega),Option.getD_some,sK _ _ hn]
  simp[Int.mul_add]
 ·rw[List.getD_eq_getElem?_getD,List.getElem?_set_ne e, <-List.getD_eq_getElem?_getD,sK _ _ hi]
  have:List.count (i:Int) [(n:Int)]=0:=by
   rw[List.count_eq_zero]
   simp;omega
  rw[this,Nat.add_zero]
theorem Ub (rate:Int) (rs:List Int) (x:Int) (hx:x<0):lW rate (rs++[x])=lW rate rs:=by
 refine aiF (kZ _ _) (kZ _ _) fun i hi=>?_
 rw[sK _ _ hi,sK _ _ hi,List.count_append]
 have:List.count (i:Int) [x]=0:=by
  rw[List.count_eq_zero]
  simp;omega
 rw[this,Nat.add_zero]
theorem Il {rate:Int} (h0:0<=rate) (h1:rate<=50) (rs:List Int) (hl:rs.length<=7) (i:Nat) (hi:i<3):0<=(lW rate rs).getD i 0/\(lW rate rs).getD i 0<=350:=by
 rw[sK _ _ hi]
 have hc:(List.count (i:Int) rs:Int)<=7:=by
  have:=List.count_le_length (a:=(i:Int)) (l:=rs)
  omega
 have hc0:(0:Int)<=(List.count (i:Int) rs:Int):=by omega
 refine⟨Int.mul_nonneg h0 hc0,?_⟩
 calc rate*(List.count (i:Int) rs:Int)<=50*7:=Int.mul_le_mul h1 hc hc0 (by omega)
  _=350:=rfl
end Go.Proofs.YthbpmepjmebolaaGreatDoor
namespace Go.Proofs.YthbpmepjmebolaaGreatDoor
open jC
def lI (l:aS) (out:List Int) (k:Nat):List (Int×dY):=((List.range k).filter fun(i:Nat)=>!out.contains (i:Int)).map fun i=>l.notes.getD i (0,(0,0))
def Eu (l:aS) (out:List Int):List (Int×dY):=lI l out l.notes.length
theorem Tf {l:aS} {out:List Int} {k:Nat} (h:out.contains (k:Int)=false):lI l out (k+1)=lI l out k++[l.notes.getD k (0,(0,0))]:=by
 unfold lI
 rw[List.range_succ,List.filter_append,List.map_append]
 congr 1
 rw[List.filter_cons_of_pos (by rw[h];rfl)]
 rfl
theorem Xc {l:aS} {out:List Int} {k:Nat} (h:out.contains (k:Int)=true):lI l out (k+1)=lI l out k:=by
 unfold lI
 rw[List.range_succ,List.filter_append,List.map_append,List.filter_cons_of_neg (by rw[h];simp)]
 simp
theorem G9 (l:aS) (out:List Int) (k:Nat):(lI l out k).length<=k:=by
 unfold lI
 rw[lJ]
 have:=List.length_filter_le (fun(i:Nat)=>!out.contains (i:Int)) (List.range k)
 simpa using this
def xQ (ns:List (Int×dY)) (key:Int×Int) (k:Nat):dY:=(ns.take k).foldl (fun r n=>if n.1=key.1 then uB r n.2 else r) (0,key.2)
def kn (ns:List (Int×dY)) (key:Int×Int):dY:=xQ ns key ns.length
theorem KF {ns:List (Int×dY)} {key:Int×Int} {k:Nat} (hk:k<ns.length):xQ ns key (k+1)=if ns[k].1=key.1 then uB (xQ ns key k) ns[k].2 else xQ ns key k:=by
 unfold xQ
 rw[iy hk,List.foldl_append]
 rfl
theorem O5 (l:aS) (out:List Int) (i:Nat) (due:Int):kn (Eu l out) ((i:Int),due)=qc l out i due:=by
 unfold kn xQ qc Eu lI
 rw[List.take_length,List.foldl_map]
 generalize List.range l.notes.length=ks
 have: ∀(ks:List Nat) (r:dY),(ks.filter fun(k:Nat)=>!out.contains (k:Int)).foldl (fun r k=>if(l.notes.getD k (0,(0,0))).1=(i:Int) then uB r (l.notes.getD k (0,(0,0))).2 else r) r=
  (ks.filter fun(k:Nat)=>!out.contains (k:Int)&&(l.notes.getD k (0,(0,0))).1==(i:Int)).foldl (fun r k=>uB r (l.notes.getD k (0,(0,0))).2) r:=by
  intro ks
  induction ks with
  |nil=>intro r;rfl
  |cons k ks ih=>
   intro r
   cases hc:out.contains (k:Int)
   ·by_cases hn:(l.notes.getD k (0,(0,0))).1=(i:Int)
    ·simp only[List.filter_cons,hc,hn,Bool.not_false,if_true,beq_self_eq_true,Bool.and_self,List.foldl_cons]
     exact ih _
    ·have hnb:((l.notes.getD k (0,(0,0))).1==(i:Int))=false:=by simpa using hn
     simp only[List.filter_cons,hc,hnb,hn,Bool.not_false,if_true,if_false,Bool.and_false,Bool.false_eq_true,List.foldl_cons]
     exact ih _
   ·simp only[List.filter_cons,hc,Bool.not_true,Bool.false_and,Bool.false_eq_true,if_false]
    exact ih _
 exact this ks (0,due)
theorem V7 (xs:List Int) (x:Int):zK (xs++[x])=zK xs+x:=by
 induction xs with
 |nil=>simp[zK]
 |cons y xs ih=>rw[List.cons_append,vZ,vZ,ih];omega
def lD (f:dY->Int) (rs:List dY) (k:Nat):Int:=zK ((rs.take k).map f)
theorem sW (f:dY->Int) {rs:List dY} {k:Nat} (hk:k<rs.length):lD f rs (k+1)=lD f rs k+f rs[k]:=by
 unfold lD
 rw[iy hk,List.map_append,List.map_singleton,V7]
theorem yj (f:dY->Int) (rs:List dY) (h: ∀r∈rs,0<=f r/\f r<=2000): ∀k,k<=rs.length->0<=lD f rs k/\lD f rs k<=2000*k:=by
 intro k
 induction k with
 |zero=>intro _;simp[lD,zK]
 |succ k ih=>
  intro hk
  have:=ih (by omega)
  have:=h rs[k] (bT _)
  rw[sW f (by omega)]
  omega
theorem zq (f:dY->Int) (rs:List dY):lD f rs rs.length=zK (rs.map f):=by unfold lD;rw[List.take_length]
theorem acC {ns:List (Int×dY)} (hn: ∀x∈ns,0<=x.2.1/\x.2.1<=2000/\0<=x.2.2/\x.2.2<=2000) {key:Int×Int} (h0:0<=key.2) (_h1:key.2<=2000): ∀k,k<=ns.length->0<=(xQ ns key k).1/\(xQ ns key k).1<=2000/\0<=(xQ ns key k).2/\(xQ ns key k).2<=key.2:=by
 intro k
 induction k with
 |zero=>intro _;simp[xQ];omega
 |succ k ih=>
  intro hk
  have h:=ih (by omega)
  have hx:=hn ns[k] (bT _)
  rw[KF (by omega)]
  split
  ·unfold uB
   simp only
   omega
  ·exact h
theorem Xd {l:aS} {out:List Int} {x:Int×dY} (h:x∈Eu l out):x∈l.notes:=by
 unfold Eu lI at h
 obtain⟨i,hi,rfl⟩:=iV.1 h
 have:=mD.1 (List.mem_filter.1 hi).1
 rw[show l.notes.getD i (0,(0,0))=l.notes[i] from by simp[List.getD,this]]
 exact bT _
structure ql (l:aS):Prop where
 field:kz l.field=0
 some:df l.field []≠[]
 rate:1<=l.rate/\l.rate<=50
 box:0<=l.box.1/\l.box.1<=l.box.2/\l.box.2<=2000
 many:l.notes.length<=5
 notes: ∀x∈l.notes,(0<=x.1/\x.1<l.field.aO)/\(0<=x.2.1/\x.2.1<=x.2.2/\x.2.2<=2000)
theorem O4 {l:aS} (hS:ql l) (out:List Int) (i:Nat) {due:Int} (h0:0<=due) (h1:due<=2000):0<=(qc l out i due).1/\(qc l out i due).1<=2000/\0<=(qc l out i due).2/\(qc l out i due).2<=due:=by
 rw[<-O5]
 exact acC (fun x hx=>by have:=hS.notes x (Xd hx);omega) h0 h1 _ (ai _)
theorem zI (l:aS) (out d:List Int):(qi l out d).length=l.field.aO.toNat:=by simp[qi]
theorem Ea (l:aS) (out d:List Int) {i:Nat} (hi:i<l.field.aO.toNat):(qi l out d).getD i (0,0)=qc l out i (d.getD i 0):=by
 unfold qi
 rw[eY,qJ,List.getElem?_range hi]
 rfl
end Go.Proofs.YthbpmepjmebolaaGreatDoor
namespace Go.Proofs.YthbpmepjmebolaaGreatDoor
open jC
def yf (r x:dY):dY:=(min r.1 x.1,max r.2 x.2)
def oZ (due:Int) (r:dY):dY:=(due-r.2,due-r.1)
def rP (p:Int->dY->dY) (l:aS) (d:List Int):List dY:=(List.range l.field.aO.toNat).map fun i=>p (d.getD i 0) ((kL l [] d).getD i (0,0))
def kH (acc ng:List dY) (i:Nat):List dY:=if acc=[] then ng.take i else(List.zipWith yf acc ng).take i++acc.drop i
def Jz (acc ng:List dY):List dY:=if acc=[] then ng else List.zipWith yf acc ng
def vH (p:Int->dY->dY) (l:aS) (acc:List dY) (d:List Int):List dY:=if jG l [] d=true then Jz acc (rP p l d) else acc
def lX (p:Int->dY->dY) (l:aS) (k:Nat) (ds:List (List Int)):List dY:=(ds.take k).foldl (vH p l) []
def Ci (p:Int->dY->dY) (l:aS) (ds:List (List Int)):List dY:=lX p l ds.length ds
theorem J5 (l:aS) (out d:List Int):(kL l out d).length=l.field.aO.toNat:=by simp[kL,zI]
theorem pG (p:Int->dY->dY) (l:aS) (d:List Int):(rP p l d).length=l.field.aO.toNat:=by simp[rP]
theorem Kv (p:Int->dY->dY) (l:aS) (d:List Int) {i:Nat} (hi:i<(rP p l d).length):(rP p l d)[i]=p (d.getD i 0) ((kL l [] d).getD i (0,0)):=by
 simp[rP]
theorem AZ (p:Int->dY->dY) (l:aS) {k:Nat} {ds:List (List Int)} (hk:k<ds.length):lX p l (k+1) ds=vH p l (lX p l k ds) ds[k]:=by
 unfold lX
 rw[iy hk,List.foldl_append]
 rfl
theorem abq {acc ng:List dY} (h:acc=[]∨acc.length=ng.length):(Jz acc ng).length=ng.length:=by
 unfold Jz
 split
 ·rfl
 ·rcases h with h|h
  ·contradiction
  ·simp[h]
theorem La (p:Int->dY->dY) (l:aS) (ds:List (List Int)): ∀k,k<=ds.length->lX p l k ds=[]∨(lX p l k ds).length=l.field.aO.toNat:=by
 intro k
 induction k with
 |zero=>intro _;exact .inl rfl
 |succ k ih=>
  intro hk
  rw[AZ p l (by omega)]
  have h:=ih (by omega)
  unfold vH
  split
  ·right
   rw[abq (by rw[pG];exact h),pG]
  ·exact h
theorem xA (acc ng:List dY):kH acc ng 0=acc:=by
 unfold kH
 split
 ·rename_i h;rw[h];rfl
 ·simp
theorem Yo {acc ng:List dY} (h:acc=[]∨acc.length=ng.length):kH acc ng ng.length=Jz acc ng:=by
 unfold kH Jz
 split
 ·simp
 ·rcases h with h|h
  ·contradiction
  ·rw[kK (by simp;omega),List.drop_of_length_le (by omega),List.append_nil]
theorem Yn {acc ng:List dY} {i:Nat} (h:acc=[]∨acc.length=ng.length) (hi:i<=ng.length):(kH acc ng i).length=if acc=[] then i else ng.length:=by
 unfold kH
 by_cases e:acc=[]
 ·rw[aC e,aC e];simp;omega
 ·rw[aj e,aj e]
  rcases h with h|h
  ·contradiction
  ·simp;omega
theorem Ym {ng:List dY} {i:Nat} (hi:i<ng.length):kH [] ng (i+1)=kH [] ng i++[ng[i]]:=by
 unfold kH
 rw[aC rfl,aC rfl,iy hi]
theorem Yl {acc ng:List dY} {i:Nat} (ha:acc≠[]) (h:acc.length=ng.length) (hi:i<ng.length):
 (kH acc ng i)[i]? =acc[i]?/\kH acc ng (i+1)=(kH acc ng i).set i (yf (acc.getD i (0,0)) ng[i]):=by
 unfold kH
 rw[aj ha,aj ha]
 have hz:((List.zipWith yf acc ng).take i).length=i:=by simp;omega
 refine⟨?_,?_⟩
 ·rw[nT (by omega),hz,List.getElem?_drop,Nat.sub_self,Nat.add_zero]
 ·rw[qK _ _ (by omega),hz,Nat.sub_self,A7 (by omega:i<acc.length),List.set_cons_zero,
   iy (by simp;omega),nS,List.singleton_append]
  simp[List.getD,h,hi]
structure uH (S:dY->Prop) (r:dY):Prop where
 low:(∃x,S x/\x.1=r.1)/\ ∀x,S x->r.1<=x.1
 high:(∃x,S x/\x.2=r.2)/\ ∀x,S x->x.2<=r.2
theorem uH.one (x:dY):uH (fun y=>y=x) x:=⟨⟨⟨x,rfl,rfl⟩,fun y h=>by rw[h];exact Int.le_refl _⟩,⟨x,rfl,rfl⟩,fun y h=>by rw[h];exact Int.le_refl _⟩
theorem uH.add {S:dY->Prop} {r:dY} (h:uH S r) (x:dY):uH (fun y=>S y∨y=x) (yf r x):=by
 obtain⟨⟨⟨a,ha,ha'⟩,h1⟩,⟨b,hb,hb'⟩,h2⟩:=h
 unfold yf
 refine⟨⟨?_,?_⟩,?_,?_⟩
 ·by_cases e:r.1<=x.1
  ·exact⟨a,.inl ha,by simp only;omega⟩
  ·exact⟨x,.inr rfl,by simp only;omega⟩
 ·rintro y (hy|rfl)
  ·have:=h1 y hy;simp only;omega
  ·simp only;omega
 ·by_cases e:x.2<=r.2
  ·exact⟨b,.inl hb,by simp only;omega⟩
  ·exact⟨x,.inr rfl,by simp only;omega⟩
 ·rintro y (hy|rfl)
  ·have:=h2 y hy;simp only;omega
  ·simp only;omega
theorem uH.congr {S T:dY->Prop} {r:dY} (h:uH S r) (e: ∀x,S x↔T x):uH T r:=by
 obtain⟨⟨⟨a,ha,ha'⟩,h1⟩,⟨b,hb,hb'⟩,h2⟩:=h
 exact⟨⟨⟨a,(e a).1 ha,ha'⟩,fun x hx=>h1 x ((e x).2 hx)⟩,⟨b,(e b).1 hb,hb'⟩,fun x hx=>h2 x ((e x).2 hx)⟩
theorem II (p:Int->dY->dY) (l:aS) (ds:List (List Int)) {i:Nat} (hi:i<l.field.aO.toNat): ∀k,k<=ds.length->
 (lX p l k ds=[]/\ ∀d∈ds.take k,jG l [] d=false)∨((lX p l k ds).length=l.field.aO.toNat/\uH (fun y=> ∃d∈ds.take k,jG l [] d=true/\y=p (d.getD i 0) ((kL l [] d).getD i (0,0))) ((lX p l k ds).getD i (0,0))):=by
 intro k
 induction k with
 |zero=>intro _;exact .inl ⟨rfl,fun d hd=>by simp at hd⟩
 |succ k ih=>
  intro hk
  have hkl:k<ds.length:=by omega
  rw[AZ p l hkl,iy hkl]
  have hn: ∀d,(rP p l d).getD i (0,0)=p (d.getD i 0) ((kL l [] d).getD i (0,0)):=fun d=>by
   have hi':i<(rP p l d).length:=by rw[pG];exact hi
   rw[eY,dA hi',Option.getD_some,Kv p l d hi']
  cases hc:jG l [] ds[k] with
  |false=>
   have hs:vH p l (lX p l k ds) ds[k]=lX p l k ds:=by unfold vH;rw[hc];rfl
   rw[hs]
   rcases ih (by omega) with⟨h1,h2⟩|⟨h1,h2⟩
   ·refine .inl ⟨h1,fun d hd=>?_⟩
    rcases iE.1 hd with h|h
    ·exact h2 d h
    ·rw[dZ.1 h];exact hc
   ·refine .inr ⟨h1,h2.congr fun x=>⟨fun⟨d,hd,a,b⟩=>⟨d,oN _ hd,a,b⟩,fun⟨d,hd,a,b⟩=>?_⟩⟩
    rcases iE.1 hd with h|h
    ·exact⟨d,h,a,b⟩
    ·rw[dZ.1 h,hc] at a;cases a
  |true=>
   have hs:vH p l (lX p l k ds) ds[k]=Jz (lX p l k ds) (rP p l ds[k]):=by unfold vH;rw[hc];rfl
   rw[hs]
   right
   rcases ih (by omega) with⟨h1,h2⟩|⟨h1,h2⟩
   ·rw[h1]
    have ha:Jz [] (rP p l ds[k])=rP p l ds[k]:=by unfold Jz;rw[aC rfl]
    rw[ha]
    refine⟨pG _ _ _,?_⟩
    rw[hn]
    refine(uH.one _).congr fun x=>⟨fun e=>⟨ds[k],uF _ (dZ.2 rfl),hc,e⟩,fun⟨d,hd,a,b⟩=>?_⟩
    rcases iE.1 hd with h|h
    ·rw[h2 d h] at a;cases a
    ·rw[dZ.1 h] at b;exact b
   ·have hne:lX p l k ds≠[]:=fun e=>by rw[e] at h1;simp at h1;omega
    have ha:Jz (lX p l k ds) (rP p l ds[k])=List.zipWith yf (lX p l k ds) (rP p l ds[k]):=by unfold Jz;rw[aj hne]
    rw[ha]
    refine⟨by simp[h1,pG],?_⟩
    have hg:(List.zipWith yf (lX p l k ds) (rP p l ds[k])).getD i (0,0)=yf ((lX p l k ds).getD i (0,0)) (p (ds[k].getD i 0) ((kL l [] ds[k]).getD i (0,0))):=by
     rw[<-hn ds[k]]
     have h3:i<(lX p l k ds).length:=by omega
     have h4:i<(rP p l ds[k]).length:=by rw[pG];exact hi
     simp only[eY,List.getElem?_zipWith,dA h3,dA h4,Option.getD_some]
    rw[hg]
    refine(h2.add _).congr fun x=>⟨?_,?_⟩
    ·rintro(⟨d,hd,a,b⟩|e)
     ·exact⟨d,oN _ hd,a,b⟩
     ·exact⟨ds[k],uF _ (dZ.2 rfl),hc,e⟩
    ·rintro⟨d,hd,a,b⟩
     rcases iE.1 hd with h|h
     ·exact .inl ⟨d,h,a,b⟩
     ·rw[dZ.1 h] at b;exact .inr b
theorem acj {rs:List dY} (h: ∀r∈rs,r.1<=r.2):zK (rs.map (·.1))<=zK (rs.map (·.2)):=by
 induction rs with
 |nil=>exact Int.le_refl _
 |cons x rs ih=>
  have h1:=h x List.mem_cons_self
  have h2:=ih (fun y hy=>h y (qj _ hy))
  simp only[List.map_cons,vZ]
  omega
theorem Ob {l:List Int} {i:Nat} (hi:i<l.length) (x:Int):zK (l.set i x)=zK l-l.getD i 0+x:=by
 induction l generalizing i with
 |nil=>simp at hi
 |cons y l ih=>
  cases i with
  |zero=>simp only[List.set_cons_zero,vZ,List.getD_cons_zero];omega
  |succ i=>
   have:=ih (i:=i) (by simpa using hi)
   simp only[List.set_cons_succ,vZ,List.getD_cons_succ]
   omega
theorem J6 (l:aS) (out d:List Int) {i:Nat} (hi:i<l.field.aO.toNat):
 (kL l out d).getD i (0,0)=uB (qc l out i (d.getD i 0)) (l.box.1-(zY l out d-(qc l out i (d.getD i 0)).2),l.box.2-(Jl l out d-(qc l out i (d.getD i 0)).1)):=by
 have ha:=Ea l out d hi
 have hl:i<(qi l out d).length:=by rw[zI];exact hi
 rw[eY,dA hl,Option.getD_some] at ha
 unfold kL
 rw[eY,qJ,dA hl,ha]
 rfl
theorem Sz {l:aS} {out d:List Int} {i:Nat} (hi:i<l.field.aO.toNat) (hb:l.box.1<=l.box.2) (hc:jG l out d=true):((kL l out d).getD i (0,0)).1<=((kL l out d).getD i (0,0)).2:=by
 rw[J6 l out d hi]
 have hl:i<(qi l out d).length:=by rw[zI];exact hi
 have ha:=Ea l out d hi
 unfold jG at hc
 simp only[fG,jS,eX] at hc
 obtain⟨⟨h1,h2⟩,h3⟩:=hc
 have e1:zK (((qi l out d).set i (0,0)).map (·.1))=Jl l out d-(qc l out i (d.getD i 0)).1:=by
  rw[List.map_set,Ob (by simpa using hl)]
  unfold Jl
  rw[<-ha,eY,eY,qJ,dA hl]
  simp
 have e2:zK (((qi l out d).set i (0,0)).map (·.2))=zY l out d-(qc l out i (d.getD i 0)).2:=by
  rw[List.map_set,Ob (by simpa using hl)]
  unfold zY
  rw[<-ha,eY,eY,qJ,dA hl]
  simp
 have e3:=acj (rs:=(qi l out d).set i (0,0)) (fun r hr=>by
  rcases List.mem_or_eq_of_mem_set hr with h|h
  ·exact h1 r h
  ·rw[h];exact Int.le_refl _)
 have e4:=h1 _ (by rw[eY,dA hl,Option.getD_some] at ha;rw[<-ha];exact bT hl:qc l out i (d.getD i 0)∈qi l out d)
 rw[e1,e2] at e3
 unfold uB
 simp only
 omega
end Go.Proofs.YthbpmepjmebolaaGreatDoor
namespace Go.Proofs.YthbpmepjmebolaaGreatDoor
open jC
end Go.Proofs.YthbpmepjmebolaaGreatDoor
namespace Go.Proofs.YthbpmepjmebolaaGreatDoor
open jC
end Go.Proofs.YthbpmepjmebolaaGreatDoor
end
section
namespace Go.RG
open Go.RowKit
structure Ext (Ms:List Nat) (w w':World):Prop where
 os:w'.os=w.os
 tape:w'.tape=w.tape
 output:w'.output=w.output
 size:w.heap.size<=w'.heap.size
 block: ∀k,k<w.heap.size->k∉Ms->w'.heap[k]? =w.heap[k]?
theorem Ext.refl (Ms:List Nat) (w:World):Ext Ms w w:=⟨rfl,rfl,rfl,ai _,fun _ _ _=>rfl⟩
theorem Ext.trans {Ms:List Nat} {a b c:World} (h:Ext Ms a b) (k:Ext Ms b c):Ext Ms a c:=
 ⟨k.os.trans h.os,k.tape.trans h.tape,k.output.trans h.output,jo h.size k.size,
   fun i hi hm=>(k.block i (fP hi h.size) hm).trans (h.block i hi hm)⟩
theorem Ext.more {Ms Ms':List Nat} {w w':World} (h:Ext Ms w w') (hs: ∀x,x∈Ms->x∈Ms'):Ext Ms' w w':=
 ⟨h.os,h.tape,h.output,h.size,fun k hk hm=>h.block k hk (fun e=>hm (hs k e))⟩
theorem Ext.nil {Ms:List Nat} {w w':World} (h:Ext [] w w'):Ext Ms w w':=h.more (by simp)
theorem Ext.az {Ms:List Nat} {w w':World} (h:Below w.heap.size w w'):Ext Ms w w':=
 ⟨h.os,h.tape,h.output,h.size,fun k hk _=>h.block k hk⟩
theorem Ext.below {w w':World} (h:Ext [] w w'):Below w.heap.size w w':=
 ⟨h.os,h.tape,h.output,h.size,fun k hk=>h.block k hk (by simp)⟩
theorem Ext.drew {Ms:List Nat} {a w:World} (h:Ext Ms a w):Ext Ms a w.drew:=⟨h.os,h.tape,h.output,h.size,h.block⟩
theorem Ext.cell {Ms:List Nat} {w w':World} (h:Ext Ms w w') (b o:Nat) (hb:b<w.heap.size) (hm:b∉Ms):w'.cell? ⟨b,o,none⟩=w.cell? ⟨b,o,none⟩:=
 jd (w:=w) (h.block b hb hm)
def Does (P:Program) (o:Oper) (ρ:Operand->Value) (W:World) (R:Value->World->Prop):Prop:=
 match (execOp ρ o).run P W with
 | .ok (.value v) w'=>R v w'
 | .ok .skip w'=>R undef w'
 | .ok (.enter f args) w'=>Calls P f args w' (fun e w''=> ∃v,e= .returned v/\R v w'')
 |_=>False
structure Spec where
 pure:List Value->Value->Prop
 world:List Value->Value->World->Prop
abbrev Facts:=List (Nat×(World->Prop))
def nO (o:Oper) (a:Act):List Value:=o.op.operands.toList.map a.eval
def kM (ops:Array Oper) (j i:Nat):Bool:=((Region.before ops).getD i 0).testBit j
structure IP (R0 R1:World->World->Prop):Prop where
 refl: ∀w,R0 w w
 aeq: ∀{a b c},R0 a b->R0 b c->R0 a c
 aep: ∀{a b c},R1 a b->R1 b c->R1 a c
 sub: ∀{a b},R0 a b->R1 a b
def xI (R0 R1:World->World->Prop) (m:Option Nat) (i:Nat):World->World->Prop:=if m=some i then R1 else R0
def kT (R0 R1:World->World->Prop) (m:Option Nat) (i:Nat):World->World->Prop:=if m=some i then R0 else R1
theorem IP.acw {R0 R1:World->World->Prop} (h:IP R0 R1) {m:Option Nat} (i:Nat) (w:World):kT R0 R1 m i w w:=by
 unfold kT
 split
 ·exact h.refl w
 ·exact h.sub (h.refl w)
theorem Bq (Ms:List Nat):IP (Ext []) (Ext Ms):=⟨Ext.refl [],Ext.trans,Ext.trans,Ext.nil⟩
abbrev uV:=Nat->List Value->Value->World->Prop
def OT:uV:=fun _ _ _ _=>True
def UJ (ops:Array Oper) (R0 R1:World->World->Prop) (m:Option Nat) (W0:World) (F G:Facts) (i:Nat) (W:World):Prop:=
 kT R0 R1 m i W0 W/\(∀f∈F,kM ops f.1 i=true->f.2 W)/\(m=some i-> ∀g∈G,kM ops g.1 i=true->g.2 W)
def rC (n t:Nat):Array Bool:=((List.range n).map (fun i=>decide (i<t))).toArray
def chk (ops:Array Oper) (k:Nat):Bool:=
 let n:=ops.size
 let at_ (i:Nat):Oper:=ops.getD i default
 decide (k<=n)&&
 (List.range n).all (fun i=>(at_ i).after.toList.all fun e=>!Region.binds .any e ||decide (e.on<i))&&
 (List.range k).all (fun i=>(List.range k).all fun j=>i==j ||(at_ i).dst.isNone ||(at_ i).dst !=(at_ j).dst)&&
 (List.range k).all (fun i=>((at_ i).looksAt ops).all fun t=>(List.range k).all fun j=>
   (at_ j).dst !=some t ||i==j ||(decide (j<i)&&kM ops j i) ||(decide (i<j)&&kM ops i j))&&
 (List.range n).all (fun i=>decide (i<k) ||(List.range k).all fun j=>kM ops j i)&&
 (List.range n).all (fun i=>match (at_ i).op with| .select .. =>false|_=>true)&&
 (List.range (n-k)).all (fun t=>Region.ready .any ops (rC n (k+t))==[k+t])&&
 Region.ready .any ops (rC n n)==[]
def Down (ops:Array Oper) (D:Nat->Prop):Prop:= ∀i o,ops[i]? =some o->D i-> ∀e∈o.after,Region.binds .any e=true->D e.on
theorem WX (acc:Array Nat) (j:Nat) (l:List Edge) (s:Nat)
 (h:(l.foldl (fun s e=>if Region.binds .any e then s |||2^e.on |||acc.getD e.on 0 else s) s).testBit j=true):
 s.testBit j=true∨ ∃e∈l,Region.binds .any e=true/\(j=e.on∨(acc.getD e.on 0).testBit j=true):=by
 induction l generalizing s with
 |nil=>exact .inl h
 |cons e l ih=>
  simp only[List.foldl_cons] at h
  rcases ih _ h with h1|⟨e',he',hb,hj⟩
  ·by_cases hb:Region.binds .any e=true
   ·rw[aC hb] at h1
    simp only[Nat.testBit_or,Bool.or_eq_true,Nat.testBit_two_pow,eX] at h1
    rcases h1 with(h1|h1)|h1
    ·exact .inl h1
    ·exact .inr ⟨e,by simp,hb,.inl h1.symm⟩
    ·exact .inr ⟨e,by simp,hb,.inr h1⟩
   ·rw[aj hb] at h1
    exact .inl h1
  ·exact .inr ⟨e',by simp[he'],hb,hj⟩
def masks (l:List Oper):Array Nat:=
 l.foldl (fun acc o=>acc.push (o.after.foldl (fun s e=>if Region.binds .any e then s |||2^e.on |||acc.getD e.on 0 else s) 0)) #[]
theorem Ya (ops:Array Oper):Region.before ops=masks ops.toList:=by
 simp only[Region.before,masks,Array.foldl_toList]
theorem G5 (l:List Oper) (o:Oper):masks (l++[o])=(masks l).push (o.after.foldl (fun s e=>if Region.binds .any e then s |||2^e.on |||(masks l).getD e.on 0 else s) 0):=by
 simp[masks,List.foldl_append]
theorem pV {α:Type} {p:List α->Prop} (h0:p []) (h1: ∀l a,p l->p (l++[a])) (l:List α):p l:=by
 rw[<-l.reverse_reverse]
 induction l.reverse with
 |nil=>exact h0
 |cons a t ih=>rw[List.reverse_cons];exact h1 _ _ ih
theorem Am (l:List Oper):(masks l).size=l.length:=by
 induction l using pV with
 |h0=>rfl
 |h1 l o ih=>simp[G5,ih]
theorem WW (l:List Oper) (D:Nat->Prop) (hD: ∀i o,l[i]? =some o->D i-> ∀e∈o.after,Region.binds .any e=true->D e.on):
 ∀i j,i<l.length->D i->((masks l).getD i 0).testBit j=true->D j:=by
 induction l using pV with
 |h0=>intro i j hi;simp at hi
 |h1 l o ih=>
  have ih':=ih (fun i o' hi=>hD i o' (by
   have:=(jq.1 hi).1
   rw[vP this];exact hi))
  intro i j hi hDi h
  rw[G5] at h
  by_cases hlt:i<l.length
  ·rw[Array.getD_eq_getD_getElem?,Array.getElem?_push,aj (by rw[Am];omega), <-Array.getD_eq_getD_getElem?] at h
   exact ih' i j hlt hDi h
  ·have hi':i=l.length:=by simp at hi;omega
   subst hi'
   rw[Array.getD_eq_getD_getElem?,Array.getElem?_push,aC (by rw[Am])] at h
   simp only[Option.getD_some] at h
   rw[<-Array.foldl_toList] at h
   rcases WX _ j _ _ h with h1|⟨e,he,hb,hj⟩
   ·simp at h1
   ·have hDe:D e.on:=hD l.length o (by simp) hDi e (by simpa using he) hb
    rcases hj with rfl|hj
    ·exact hDe
    ·by_cases hlt':e.on<l.length
     ·exact ih' e.on j hlt' hDe hj
     ·rw[Array.getD_eq_getD_getElem?,Array.getElem?_eq_none (by rw[Am];omega)] at hj
      simp at hj
theorem uC {ops:Array Oper} {D:Nat->Prop} (hD:Down ops D) {i j:Nat} (hi:i<ops.size) (hDi:D i) (h:kM ops j i=true):D j:=by
 unfold kM at h
 rw[Ya] at h
 exact WW ops.toList D (fun i o hi=>hD i o (by simpa using hi)) i j (by simpa using hi) hDi h
theorem Yd {ops:Array Oper} {D:Nat->Prop} (hD:Down ops D) {i j:Nat} {o:Oper} (ho:ops[i]? =some o)
 (hr: ∀e∈o.after,Region.binds .any e=true->D e.on) (h:kM ops j i=true) (hij:j≠i):D j:=by
 have hD':Down ops (fun t=>D t∨t=i):=by
  intro t o' ht hDt e he hb
  rcases hDt with hDt|rfl
  ·exact .inl (hD t o' ht hDt e he hb)
  ·rw[ho] at ht;cases ht
   exact .inl (hr e he hb)
 exact(uC hD' (aV.1 ho).1 (.inr rfl) h).resolve_right hij
section
variable {P : Program} {ops : Array Oper}
def oz (ops:Array Oper) (i:Nat):Option Tmp:=(ops[i]?).bind (·.dst)
def ji (ops:Array Oper) (env:Nat->Value) (a0:Act) (l:List Nat):Act:=l.foldl (fun a i=>a.put (oz ops i) (env i)) a0
theorem lG (env:Nat->Value) (a0:Act) (l:List Nat) (i:Nat):ji ops env a0 (l++[i])=(ji ops env a0 l).put (oz ops i) (env i):=by
 simp[ji,List.foldl_append]
theorem put_defers (a:Act) (d:Option Tmp) (v:Value):(a.put d v).defers=a.defers:=by cases d <;>rfl
theorem ZB (a:Act) (d:Option Tmp) (v:Value):(a.put d v).tmps.size=a.tmps.size:=by cases d <;>simp[Act.put]
theorem U7 (a:Act) (d:Option Tmp) (v:Value) (t:Nat):(a.put d v).tmps[t]? =if d=some t then(if t<a.tmps.size then some v else none) else a.tmps[t]? :=by
 cases d with
 |none=>simp[Act.put]
 |some d=>
  by_cases h:d=t
  ·subst h;simp[Act.put,Array.getElem?_setIfInBounds]
  ·have h':some d≠some t:=fun e=>h (jH e)
   rw[aj h']
   simp[Act.put,Array.getElem?_setIfInBounds_ne h]
theorem mf (env:Nat->Value) (a0:Act) (l:List Nat):(ji ops env a0 l).defers=a0.defers:=by
 induction l using pV with
 |h0=>rfl
 |h1 l i ih=>rw[lG,put_defers,ih]
theorem Ov (env:Nat->Value) (a0:Act) (l:List Nat):(ji ops env a0 l).tmps.size=a0.tmps.size:=by
 induction l using pV with
 |h0=>rfl
 |h1 l i ih=>rw[lG,ZB,ih]
theorem Em (env:Nat->Value) (a0:Act) (t:Nat) (l:List Nat) (h: ∀i∈l,oz ops i≠some t):(ji ops env a0 l).tmps[t]? =a0.tmps[t]? :=by
 induction l using pV with
 |h0=>rfl
 |h1 l i ih=>rw[lG,U7,aj (h i (by simp)),ih (fun j hj=>h j (by simp[hj]))]
theorem Ej (env:Nat->Value) (a0:Act) (t i:Nat) (l:List Nat) (hi:i∈l) (hd:oz ops i=some t) (hu: ∀j∈l,oz ops j=some t->j=i):
 (ji ops env a0 l).tmps[t]? =if t<a0.tmps.size then some (env i) else none:=by
 induction l using pV with
 |h0=>simp at hi
 |h1 l j ih=>
  rw[lG,U7,Ov]
  by_cases hj:oz ops j=some t
  ·rw[aC hj,hu j (by simp) hj]
  ·rw[aj hj]
   refine ih ?_ (fun x hx=>hu x (by simp[hx]))
   rcases iE.1 hi with h|h
   ·exact h
   ·simp at h;subst h;exact absurd hd hj
theorem agree {env env':Nat->Value} {a0:Act} {l l':List Nat} (t:Nat) (hm: ∀i,oz ops i=some t->(i∈l↔i∈l')) (he: ∀i∈l,oz ops i=some t->env i=env' i)
 (hu: ∀i j,i∈l->j∈l->oz ops i=some t->oz ops j=some t->i=j):(ji ops env a0 l).tmps[t]? =(ji ops env' a0 l').tmps[t]? :=by
 by_cases h: ∃i∈l,oz ops i=some t
 ·obtain⟨i,hi,hd⟩:=h
  rw[Ej env a0 t i l hi hd (fun j hj hdj=>hu j i hj hi hdj hd),Ej env' a0 t i l' ((hm i hd).1 hi) hd (fun j hj hdj=>hu j i ((hm j hdj).2 hj) hi hdj hd),he i hi hd]
 ·have h1: ∀i∈l,oz ops i≠some t:=fun i hi hd=>h ⟨i,hi,hd⟩
  have h2: ∀i∈l',oz ops i≠some t:=fun i hi hd=>h ⟨i,(hm i hd).2 hi,hd⟩
  rw[Em _ _ _ _ h1,Em _ _ _ _ h2]
theorem Bv {env env':Nat->Value} {a0:Act} {l:List Nat} (he: ∀i∈l,env i=env' i):ji ops env a0 l=ji ops env' a0 l:=by
 induction l using pV with
 |h0=>rfl
 |h1 l i ih=>rw[lG,lG,ih (fun j hj=>he j (by simp[hj])),he i (by simp)]
theorem VH {a b:Act} (hd:a.defers=b.defers) (ht: ∀t:Nat,a.tmps[t]? =b.tmps[t]?):a=b:=by
 obtain⟨x,d⟩:=a;obtain⟨y,d'⟩:=b
 simp only at hd ht
 subst hd
 congr 1
 exact Array.ext_getElem? ht
def lq (ops:Array Oper) (o:Oper) (a b:Act):Prop:= ∀t∈o.looksAt ops,a.tmps[t]? =b.tmps[t]?
theorem lq.eval {o:Oper} {a b:Act} (h:lq ops o a b): ∀x∈o.op.operands,a.eval x=b.eval x:=by
 intro x hx
 cases x with
 |tmp t=>
  have:=h t (oN _ (List.mem_filterMap.2 ⟨.tmp t,by simpa using hx,rfl⟩))
  simp[Act.eval,A8,this]
 |_=>rfl
theorem lq.exec {o:Oper} {a b:Act} (h:lq ops o a b) (hs: ∀cs b,o.op≠ .select cs b):execOp a.eval o=execOp b.eval o:=execOp_congr o hs h.eval
theorem lq.nO {o:Oper} {a b:Act} (h:lq ops o a b):nO o a=nO o b:=List.map_congr_left fun x hx=>h.eval x (by simpa using hx)
theorem lq.wanted {o:Oper} {a b:Act} (h:lq ops o a b):Region.wanted o (yielded ops a.tmps)=Region.wanted o (yielded ops b.tmps):=by
 unfold Region.wanted
 cases hg:o.guard with
 |none=>rfl
 |some gw=>
  obtain⟨g,want⟩:=gw
  have hy:yielded ops a.tmps g=yielded ops b.tmps g:=by
   unfold yielded
   cases ht:(ops[g]?).bind (·.dst) with
   |none=>rfl
   |some t=>
    have:=h t (uF _ (by simp[hg,ht]))
    simp[this]
  simp only[hy]
end
structure Chk (ops:Array Oper) (k:Nat):Prop where
 kn:k<=ops.size
 lt: ∀(i:Nat) (o:Oper),ops[i]? =some o-> ∀e∈o.after,Region.binds .any e=true->e.on<i
 ada: ∀i j,i<k->j<k-> ∀t,oz ops i=some t->oz ops j=some t->i=j
 look: ∀(i:Nat) (o:Oper),i<k->ops[i]? =some o-> ∀t∈o.looksAt ops, ∀j,j<k->oz ops j=some t->i≠j->(j<i/\kM ops j i=true)∨(i<j/\kM ops i j=true)
 tail: ∀i,k<=i->i<ops.size-> ∀j,j<k->kM ops j i=true
 sel: ∀(i:Nat) (o:Oper),ops[i]? =some o-> ∀cs b,o.op≠ .select cs b
 rdy: ∀t,k<=t->t<ops.size->Region.ready .any ops (rC ops.size t)=[t]
 fin:Region.ready .any ops (rC ops.size ops.size)=[]
theorem rX {ops:Array Oper} {i:Nat} {o:Oper} (h:ops[i]? =some o):ops.getD i default=o:=by
 rw[A8,h];rfl
theorem yO {ops:Array Oper} {i:Nat} {o:Oper} (h:ops[i]? =some o):oz ops i=o.dst:=by simp[oz,h]
theorem Iy {ops:Array Oper} {k:Nat} (h:chk ops k=true):Chk ops k:=by
 simp only[chk,fG,eX,jS,mD,Bool.or_eq_true,beq_iff_eq,bne_iff_ne,ne_eq,Bool.not_eq_true'] at h
 obtain⟨⟨⟨⟨⟨⟨⟨h1,h2⟩,h3⟩,h4⟩,h5⟩,h6⟩,h7⟩,h8⟩:=h
 have hlt: ∀{i:Nat} {o:Oper},ops[i]? =some o->i<ops.size:=fun h=>(aV.1 h).1
 have hget: ∀{i:Nat},i<ops.size->ops[i]? =some (ops.getD i default):=fun {i} hi=>by
  rw[xy hi,A8,xy hi];rfl
 refine⟨h1,?_,?_,?_,?_,?_,?_,h8⟩
 ·intro i o ho e he hb
  have:=h2 i (hlt ho) e (by rw[rX ho];simpa using he)
  rcases this with h|h
  ·rw[hb] at h;cases h
  ·exact h
 ·intro i j hi hj t hdi hdj
  have:=h3 i hi j hj
  have ei:=hget (fP hi h1)
  have ej:=hget (fP hj h1)
  rw[yO ei] at hdi
  rw[yO ej] at hdj
  rcases this with(h|h)|h
  ·exact h
  ·rw[hdi] at h;cases h
  ·rw[hdi,hdj] at h;exact absurd rfl h
 ·intro i o hi ho t ht j hj hdj hij
  have:=h4 i hi t (by rw[rX ho];exact ht) j hj
  rw[yO (hget (fP hj h1))] at hdj
  rcases this with((h|h)|h)|h
  ·exact absurd hdj h
  ·exact absurd h hij
  ·exact .inl h
  ·exact .inr h
 ·intro i hk hi j hj
  rcases h5 i hi with h|h
  ·omega
  ·exact h j hj
 ·intro i o ho cs b e
  have:=h6 i (hlt ho)
  rw[rX ho,e] at this
  cases this
 ·intro t hk ht
  have:=h7 (t-k) (by omega)
  rw[show k+(t-k)=t from by omega] at this
  exact this
section
variable {Ps : uV} {P : Program} {ops : Array Oper} {R0 R1 : World → World → Prop} {m : Option Nat} {Ss : List (Nat × Spec)} {W0 : World} {a0 : Act}
abbrev pf (ops:Array Oper) (a0:Act) (env:Nat->Value) (i:Nat):Act:=ji ops env a0 (List.range i)
theorem U8 (env:Nat->Value) (i:Nat):pf ops a0 env (i+1)=(pf ops a0 env i).put (oz ops i) (env i):=by
 unfold pf;rw[List.range_succ,lG]
theorem ku {env env':Nat->Value} {i:Nat} (h: ∀j,j<i->env j=env' j):pf ops a0 env i=pf ops a0 env' i:=
 Bv fun j hj=>h j (by simpa using hj)
def Left (ops:Array Oper) (a0:Act) (env:Nat->Value) (j:Nat) (s:Spec) (W:World):Prop:=s.world (nO (ops.getD j default) (pf ops a0 env j)) (env j) W
def vI (Ps:uV) (ops:Array Oper) (a0:Act) (env:Nat->Value) (j:Nat) (W:World):Prop:=Ps j (nO (ops.getD j default) (pf ops a0 env j)) (env j) W
def rH (Ps:uV) (ops:Array Oper) (R0 R1:World->World->Prop) (m:Option Nat) (Ss:List (Nat×Spec)) (W0:World) (a0:Act) (env:Nat->Value) (i:Nat) (W:World):Prop:=
 kT R0 R1 m i W0 W/\(∀j s,Ss.lookup j=some s->j<i->kM ops j i=true->Left ops a0 env j s W)/\
  (m=some i-> ∀j s,Ss.lookup j=some s->j<i->kM ops j i=true->vI Ps ops a0 env j W)
theorem UM {env env':Nat->Value} {j:Nat} {s:Spec} {W:World} (h: ∀i,i<=j->env i=env' i) (hl:Left ops a0 env j s W):Left ops a0 env' j s W:=by
 unfold Left at*
 rw[ku (fun i hi=>(h i (by omega)).symm), <-h j (ai _)]
 exact hl
theorem QN {env env':Nat->Value} {j:Nat} {W:World} (h: ∀i,i<=j->env i=env' i) (hl:vI Ps ops a0 env j W):vI Ps ops a0 env' j W:=by
 unfold vI at*
 rw[ku (fun i hi=>(h i (by omega)).symm), <-h j (ai _)]
 exact hl
theorem su {env env':Nat->Value} {i:Nat} {W:World} (h: ∀j,j<i->env j=env' j) (hr:rH Ps ops R0 R1 m Ss W0 a0 env i W):rH Ps ops R0 R1 m Ss W0 a0 env' i W:=
 ⟨hr.1,fun j s hs hj ha=>UM (fun t ht=>h t (by omega)) (hr.2.1 j s hs hj ha),fun hm j s hs hj ha=>QN (fun t ht=>h t (by omega)) (hr.2.2 hm j s hs hj ha)⟩
def Fs (ops:Array Oper) (Ss:List (Nat×Spec)) (a0:Act) (env:Nat->Value):Nat->Facts
 |0=>[]
 |t+1=>match Ss.lookup t with
  |none=>Fs ops Ss a0 env t
  |some s=>(t,s.world (nO (ops.getD t default) (pf ops a0 env t)) (env t))::Fs ops Ss a0 env t
theorem ZV {env:Nat->Value} {t:Nat} {f:Nat×(World->Prop)}:f∈Fs ops Ss a0 env t↔ ∃j s,j<t/\Ss.lookup j=some s/\f=(j,Left ops a0 env j s):=by
 induction t with
 |zero=>simp[Fs]
 |succ t ih=>
  unfold Fs
  cases hs:Ss.lookup t with
  |none=>
   simp only[ih]
   constructor
   ·rintro⟨j,s,hj,h1,h2⟩;exact⟨j,s,by omega,h1,h2⟩
   ·rintro⟨j,s,hj,h1,h2⟩
    have:j≠t:=fun e=>by subst e;rw[hs] at h1;cases h1
    exact⟨j,s,by omega,h1,h2⟩
  |some s0=>
   simp only[gK,ih]
   constructor
   ·rintro(rfl|⟨j,s,hj,h1,h2⟩)
    ·exact⟨t,s0,by omega,hs,rfl⟩
    ·exact⟨j,s,by omega,h1,h2⟩
   ·rintro⟨j,s,hj,h1,h2⟩
    by_cases e:j=t
    ·subst e;rw[hs] at h1;cases h1;exact .inl h2
    ·exact .inr ⟨j,s,by omega,h1,h2⟩
theorem QS {env env':Nat->Value} {t:Nat} (h: ∀j,j<t->env j=env' j):Fs ops Ss a0 env t=Fs ops Ss a0 env' t:=by
 induction t with
 |zero=>rfl
 |succ t ih=>
  unfold Fs
  rw[ih (fun j hj=>h j (by omega)),ku (env:=env) (env':=env') (fun j hj=>h j (by omega)),h t (by omega)]
def Gs (Ps:uV) (ops:Array Oper) (Ss:List (Nat×Spec)) (a0:Act) (env:Nat->Value):Nat->Facts
 |0=>[]
 |t+1=>match Ss.lookup t with
  |none=>Gs Ps ops Ss a0 env t
  |some _=>(t,Ps t (nO (ops.getD t default) (pf ops a0 env t)) (env t))::Gs Ps ops Ss a0 env t
theorem aev {env:Nat->Value} {t:Nat} {f:Nat×(World->Prop)}:f∈Gs Ps ops Ss a0 env t-> ∃j s,j<t/\Ss.lookup j=some s/\f=(j,vI Ps ops a0 env j):=by
 induction t with
 |zero=>simp[Gs]
 |succ t ih=>
  unfold Gs
  cases hs:Ss.lookup t with
  |none=>exact fun h=>by obtain⟨j,s,hj,h1,h2⟩:=ih h;exact⟨j,s,by omega,h1,h2⟩
  |some s0=>
   simp only[gK]
   rintro(rfl|h)
   ·exact⟨t,s0,by omega,hs,rfl⟩
   ·obtain⟨j,s,hj,h1,h2⟩:=ih h;exact⟨j,s,by omega,h1,h2⟩
theorem QR {env env':Nat->Value} {t:Nat} (h: ∀j,j<t->env j=env' j):Gs Ps ops Ss a0 env t=Gs Ps ops Ss a0 env' t:=by
 induction t with
 |zero=>rfl
 |succ t ih=>
  unfold Gs
  rw[ih (fun j hj=>h j (by omega)),ku (env:=env) (env':=env') (fun j hj=>h j (by omega)),h t (by omega)]
theorem L6 {env:Nat->Value} {i:Nat} {W:World} (h:rH Ps ops R0 R1 m Ss W0 a0 env i W):UJ ops R0 R1 m W0 (Fs ops Ss a0 env i) (Gs Ps ops Ss a0 env i) i W:=
 ⟨h.1,fun f hf ha=>by
   obtain⟨j,s,hj,hs,rfl⟩:=ZV.1 hf
   exact h.2.1 j s hs hj ha,fun hm f hf ha=>by
   obtain⟨j,s,hj,hs,rfl⟩:=aev hf
   exact h.2.2 hm j s hs hj ha⟩
def Rec (Ps:uV) (P:Program) (ops:Array Oper) (R0 R1:World->World->Prop) (m:Option Nat) (Ss:List (Nat×Spec)) (W0:World) (a0:Act) (env:Nat->Value) (i:Nat) (o:Oper):Prop:=
 match Ss.lookup i with
 |none=>(Region.wanted o (yielded ops (pf ops a0 env i).tmps)=true/\ ∃W,rH Ps ops R0 R1 m Ss W0 a0 env i W/\(execOp (pf ops a0 env i).eval o).run P W= .ok (.value (env i)) W)∨
   (Region.wanted o (yielded ops (pf ops a0 env i).tmps)=false/\env i=undef)
 |some s=>s.pure (nO o (pf ops a0 env i)) (env i)
variable {k : Nat} (hc : Chk ops k)
include hc
theorem FV {env env':Nat->Value} {i:Nat} {o:Oper} (hi:i<k) (ho:ops[i]? =some o) (h: ∀j,j<i->kM ops j i=true->env j=env' j):
 lq ops o (pf ops a0 env i) (pf ops a0 env' i):=by
 intro t ht
 refine agree t (fun _ _=>Iff.rfl) ?_ ?_
 ·intro j hj hd
  have hj':j<i:=by simpa using hj
  rcases hc.look i o hi ho t ht j (by omega) hd (by omega) with h1|h1
  ·exact h j hj' h1.2
  ·omega
 ·intro x y hx hy hdx hdy
  have hx':x<i:=by simpa using hx
  have hy':y<i:=by simpa using hy
  exact hc.ada x y (by omega) (by omega) t hdx hdy
theorem ZK {env env':Nat->Value} {i:Nat} (hi:i<k) (h: ∀j,j<i->kM ops j i=true->env j=env' j):
 nO (ops.getD i default) (pf ops a0 env i)=nO (ops.getD i default) (pf ops a0 env' i):=by
 have hlt:i<ops.size:=fP hi hc.kn
 have ho:ops[i]? =some (ops.getD i default):=by
  rw[xy hlt,A8,xy hlt];rfl
 exact(FV hc hi ho h).nO
theorem zJ {env env':Nat->Value} {l:List Nat} (hl: ∀i∈l,i<k) (hd:Down ops (· ∈l)) (he: ∀i∈l,env i=env' i) {j:Nat} (hj:j∈l) {s:Spec} {W:World}
 (h:Left ops a0 env j s W):Left ops a0 env' j s W:=by
 unfold Left at*
 rw[<-ZK hc (hl j hj) (fun x _ hx=>he x (uC hd (fP (hl j hj) hc.kn) hj hx)), <-he j hj]
 exact h
theorem CO {env env':Nat->Value} {l:List Nat} (hl: ∀i∈l,i<k) (hd:Down ops (· ∈l)) (he: ∀i∈l,env i=env' i) {j:Nat} (hj:j∈l) {W:World}
 (h:vI Ps ops a0 env j W):vI Ps ops a0 env' j W:=by
 unfold vI at*
 rw[<-ZK hc (hl j hj) (fun x _ hx=>he x (uC hd (fP (hl j hj) hc.kn) hj hx)), <-he j hj]
 exact h
theorem Lh {env env':Nat->Value} {l:List Nat} (hl: ∀i∈l,i<k) (hd:Down ops (· ∈l)) (he: ∀i∈l,env i=env' i) {i:Nat} (ha: ∀j,j<i->kM ops j i=true->j∈l) {W:World}
 (h:rH Ps ops R0 R1 m Ss W0 a0 env i W):rH Ps ops R0 R1 m Ss W0 a0 env' i W:=
 ⟨h.1,fun j s hs hj hji=>zJ hc hl hd he (ha j hj hji) (h.2.1 j s hs hj hji),fun hm j s hs hj hji=>CO hc hl hd he (ha j hj hji) (h.2.2 hm j s hs hj hji)⟩
theorem afK {env env':Nat->Value} {l:List Nat} (hl: ∀i∈l,i<k) (hd:Down ops (· ∈l)) (he: ∀i∈l,env i=env' i) {i:Nat} {o:Oper} (hi:i∈l) (ho:ops[i]? =some o)
 (h:Rec Ps P ops R0 R1 m Ss W0 a0 env i o):Rec Ps P ops R0 R1 m Ss W0 a0 env' i o:=by
 have hik:i<k:=hl i hi
 have BO: ∀j,kM ops j i=true->j∈l:=fun j hj=>uC hd (fP hik hc.kn) hi hj
 have hL:lq ops o (pf ops a0 env i) (pf ops a0 env' i):=FV hc hik ho (fun j _ hj=>he j (BO j hj))
 unfold Rec at*
 rw[<-hL.wanted, <-hL.nO, <-he i hi, <-hL.exec (hc.sel i o ho)]
 cases hs:Ss.lookup i with
 |none=>
  simp only[hs] at h⊢
  exact h.imp (fun x=>⟨x.1,by obtain⟨W,hW,hr⟩:=x.2;exact⟨W,Lh hc hl hd he (fun j _=>BO j) hW,hr⟩⟩) id
 |some s=>
  simp only[hs] at h⊢
  exact h
end
def Any (ja:Nat->(Act->World->Prop)->Act->World->Prop) (ops:Array Oper) (Qn:Act->World->Prop):Nat->Array Bool->Act->World->Prop
 |0,l,a,w=>Region.ready .any ops l=[]/\Qn a w
 |fuel+1,l,a,w=>(Region.ready .any ops l=[]->Qn a w)/\ ∀i∈Region.ready .any ops l,ja i (Any ja ops Qn fuel (l.setIfInBounds i true)) a w
def Seq (ja:Nat->(Act->World->Prop)->Act->World->Prop) (Qn:Act->World->Prop):List Nat->Act->World->Prop
 |[]=>Qn
 |i::r=>ja i (Seq ja Qn r)
def lst (n:Nat) (l:List Nat):Array Bool:=l.foldl (fun a i=>a.setIfInBounds i true) (Array.replicate n false)
theorem G6 (n:Nat) (l:List Nat) (i:Nat):lst n (l++[i])=(lst n l).setIfInBounds i true:=by simp[lst,List.foldl_append]
theorem Vk (n:Nat) (l:List Nat) (i:Nat):(lst n l)[i]? =if i<n then some (decide (i∈l)) else none:=by
 have hsize: ∀l:List Nat,(lst n l).size=n:=by
  intro l
  induction l using pV with
  |h0=>simp[lst]
  |h1 l j ih=>rw[G6];simp[ih]
 induction l using pV with
 |h0=>simp[lst,Array.getElem?_replicate]
 |h1 l j ih=>
  rw[G6,Array.getElem?_setIfInBounds,hsize,ih]
  by_cases e:j=i
  ·subst e;by_cases h:j<n <;>simp[h]
  ·rw[aj e]
   have:i≠j:=fun h=>e h.symm
   simp[this]
theorem AQ (n t i:Nat):(rC n t)[i]? =if i<n then some (decide (i<t)) else none:=by
 unfold rC
 rw[List.getElem?_toArray,qJ]
 by_cases h:i<n
 ·rw[List.getElem?_range h,aC h];rfl
 ·rw[List.getElem?_eq_none (by simpa using h),aj h];rfl
theorem G7 {n k:Nat} {l:List Nat} (h: ∀i,i∈l↔i<k):lst n l=rC n k:=by
 refine Array.ext_getElem? fun i=>?_
 rw[Vk,AQ]
 simp[h]
theorem mem_ready {ops:Array Oper} {l:List Nat} {i:Nat}:i∈Region.ready .any ops (lst ops.size l)↔
 i<ops.size/\i∉l/\ ∀o,ops[i]? =some o-> ∀e∈o.after,Region.binds .any e=true->e.on∈l/\e.on<ops.size:=by
 unfold Region.ready
 simp only[List.mem_filter,mD,fG,Bool.not_eq_true',A8,Vk]
 constructor
 ·rintro⟨hi,h1,h2⟩
  rw[aC hi] at h1
  refine⟨hi,by simpa using h1,fun o ho e he hb=>?_⟩
  rw[ho] at h2
  simp only[Option.map_some,Option.getD_some] at h2
  have:=(nD.1 h2) e he
  rw[hb] at this
  simp only[Bool.not_true,Bool.false_or] at this
  by_cases hlt:e.on<ops.size
  ·rw[aC hlt] at this
   exact⟨by simpa using this,hlt⟩
  ·rw[aj hlt] at this;cases this
 ·rintro⟨hi,h1,h2⟩
  refine⟨hi,by rw[aC hi];simpa using h1,?_⟩
  obtain⟨o,ho⟩: ∃o,ops[i]? =some o:=⟨_,xy hi⟩
  rw[ho]
  simp only[Option.map_some,Option.getD_some]
  refine nD.2 fun e he=>?_
  by_cases hb:Region.binds .any e=true
  ·obtain⟨h3,h4⟩:=h2 o ho e he hb
   rw[aC h4]
   simp[h3]
  ·simp[hb]
section
variable {ja : Nat → (Act → World → Prop) → Act → World → Prop} {ops : Array Oper} {Qn : Act → World → Prop} {k : Nat}
theorem QE (hc:Chk ops k) (hmono: ∀i (K K':Act->World->Prop) a w,(∀a w,K a w->K' a w)->ja i K a w->ja i K' a w):
 ∀j t a w,t+j=ops.size->k<=t->Seq ja Qn (List.range' t j) a w->Any ja ops Qn j (rC ops.size t) a w:=by
 intro j
 induction j with
 |zero=>
  intro t a w ht _ h
  have:t=ops.size:=by omega
  subst this
  exact⟨hc.fin,h⟩
 |succ j ih=>
  intro t a w ht hk h
  have hr:=hc.rdy t hk (by omega)
  refine⟨fun e=>(by rw[hr] at e;cases e),fun i hi=>?_⟩
  rw[hr] at hi
  have:i=t:=by simpa using hi
  subst this
  rw[List.range'_succ] at h
  refine hmono _ _ _ _ _ (fun a w hs=>?_) h
  have e:(rC ops.size i).setIfInBounds i true=rC ops.size (i+1):=by
   refine Array.ext_getElem? fun x=>?_
   have hsz:(rC ops.size i).size=ops.size:=by simp[rC]
   rw[Array.getElem?_setIfInBounds,hsz,AQ,AQ]
   by_cases e:i=x
   ·subst e;simp
   ·rw[aj e]
    by_cases hx:x<ops.size
    ·simp only[hx,if_true,Option.some.injEq,decide_eq_decide];omega
    ·simp[hx]
  rw[e]
  exact ih (i+1) a w (by omega) (by omega) hs
end
theorem all_in {k:Nat} {l:List Nat} (hn:l.Nodup) (h1: ∀i∈l,i<k) (h2:k<=l.length): ∀i,i<k->i∈l:=by
 intro i hi
 refine Classical.byContradiction fun h=>?_
 have:=List.Nodup.length_le_of_subset (l₁:=i::l) (l₂:=List.range k) (List.nodup_cons.2 ⟨h,hn⟩) (fun x hx=>by
  rcases gK.1 hx with rfl|hx
  ·simpa using hi
  ·simpa using h1 x hx)
 simp at this;omega
theorem Z7 {k:Nat} {l:List Nat} (hn:l.Nodup) (h1: ∀i∈l,i<k):l.length<=k:=by
 have:=List.Nodup.length_le_of_subset (l₁:=l) (l₂:=List.range k) hn (fun x hx=>by simpa using h1 x hx)
 simpa using this
end Go.RG
namespace Go.RX
open Go.RowKit Go.RG
def Does (X:List PanicEntry->World->Prop) (P:Program) (o:Oper) (ρ:Operand->Value) (W:World) (R:Value->World->Prop):Prop:=
 match (execOp ρ o).run P W with
 | .ok (.value v) w'=>R v w'
 | .ok .skip w'=>R undef w'
 | .ok (.enter f args) w'=>Calls P f args w' (fun e w''=>(∃v,e= .returned v/\R v w'')∨ ∃ps,e= .panicked ps/\X ps w'')
 |_=>False
def iK (X:List PanicEntry->World->Prop) (Ps:uV) (P:Program) (ops:Array Oper) (R0 R1:World->World->Prop) (m:Option Nat) (Ss:List (Nat×RG.Spec)) (Fin:Act->World->Prop) (W0:World):
 List Oper->Nat->Act->Facts->Facts->Prop
 |[],_,a,F,_=> ∀W,R1 W0 W->(∀f∈F,f.2 W)->Fin a W
 |o::rest,i,a,F,G=>
  match Ss.lookup i with
  |none=> ∃v,((Region.wanted o (yielded ops a.tmps)=true/\ ∀W,UJ ops R0 R1 m W0 F G i W->(execOp a.eval o).run P W= .ok (.value v) W)∨
    (Region.wanted o (yielded ops a.tmps)=false/\v=undef))/\iK X Ps P ops R0 R1 m Ss Fin W0 rest (i+1) (a.put o.dst v) F G
  |some s=>Region.wanted o (yielded ops a.tmps)=true/\(∃v,s.pure (nO o a) v)/\
    (∀W,UJ ops R0 R1 m W0 F G i W->Does X P o a.eval W (fun v W'=>s.pure (nO o a) v/\s.world (nO o a) v W'/\xI R0 R1 m i W W'/\Ps i (nO o a) v W'))/\
    ((∀v W W',s.world (nO o a) v W->kT R0 R1 m i W W'->s.world (nO o a) v W')/\(∀v W W',Ps i (nO o a) v W->R0 W W'->Ps i (nO o a) v W'))/\
    ∀v,s.pure (nO o a) v->iK X Ps P ops R0 R1 m Ss Fin W0 rest (i+1) (a.put o.dst v) ((i,s.world (nO o a) v)::F) ((i,Ps i (nO o a) v)::G)
section
variable {X : List PanicEntry → World → Prop} {Ps : uV} {P : Program} {ops : Array Oper} {R0 R1 : World → World → Prop} {m : Option Nat} {Ss : List (Nat × RG.Spec)} {W0 : World} {a0 : Act}
def Node (X:List PanicEntry->World->Prop) (Ps:uV) (P:Program) (ops:Array Oper) (R0 R1:World->World->Prop) (m:Option Nat) (Ss:List (Nat×RG.Spec)) (W0:World) (a0:Act) (env:Nat->Value) (i:Nat) (o:Oper):Prop:=
 match Ss.lookup i with
 |none=>(Region.wanted o (yielded ops (pf ops a0 env i).tmps)=true/\ ∀W,rH Ps ops R0 R1 m Ss W0 a0 env i W->(execOp (pf ops a0 env i).eval o).run P W= .ok (.value (env i)) W)∨
   (Region.wanted o (yielded ops (pf ops a0 env i).tmps)=false/\env i=undef)
 |some s=>Region.wanted o (yielded ops (pf ops a0 env i).tmps)=true/\s.pure (nO o (pf ops a0 env i)) (env i)/\
   (∀W,rH Ps ops R0 R1 m Ss W0 a0 env i W->Does X P o (pf ops a0 env i).eval W (fun v W'=>s.pure (nO o (pf ops a0 env i)) v/\s.world (nO o (pf ops a0 env i)) v W'/\xI R0 R1 m i W W'/\Ps i (nO o (pf ops a0 env i)) v W'))/\
   (∀v W W',s.world (nO o (pf ops a0 env i)) v W->kT R0 R1 m i W W'->s.world (nO o (pf ops a0 env i)) v W')/\
   (∀v W W',Ps i (nO o (pf ops a0 env i)) v W->R0 W W'->Ps i (nO o (pf ops a0 env i)) v W')
theorem UL {env env':Nat->Value} {i:Nat} {o:Oper} (h: ∀j,j<=i->env j=env' j) (hn:Node X Ps P ops R0 R1 m Ss W0 a0 env i o):Node X Ps P ops R0 R1 m Ss W0 a0 env' i o:=by
 have hp:pf ops a0 env i=pf ops a0 env' i:=ku fun j hj=>h j (by omega)
 have hr: ∀W,rH Ps ops R0 R1 m Ss W0 a0 env' i W->rH Ps ops R0 R1 m Ss W0 a0 env i W:=fun W=>su fun j hj=>(h j (by omega)).symm
 unfold Node at*
 rw[<-hp, <-h i (ai _)]
 cases hs:Ss.lookup i with
 |none=>
  simp only[hs] at hn⊢
  exact hn.imp (fun x=>⟨x.1,fun W hW=>x.2 W (hr W hW)⟩) id
 |some s=>
  simp only[hs] at hn⊢
  exact⟨hn.1,hn.2.1,fun W hW=>hn.2.2.1 W (hr W hW),hn.2.2.2⟩
variable {k : Nat} (hc : Chk ops k)
include hc
theorem along {Fin:Act->World->Prop} {env:Nat->Value} {l:List Nat} (hl: ∀i∈l,i<k) (hd:Down ops (· ∈l))
 (hrec: ∀i∈l, ∀o,ops[i]? =some o->Rec Ps P ops R0 R1 m Ss W0 a0 env i o)
 (Ez:iK X Ps P ops R0 R1 m Ss Fin W0 (ops.toList.take k) 0 a0 [] []):
 ∃env',(∀i∈l,env' i=env i)/\(∀i o,i<k->ops[i]? =some o->Node X Ps P ops R0 R1 m Ss W0 a0 env' i o)/\
  (∀W,R1 W0 W->(∀j s,Ss.lookup j=some s->j<k->RG.Left ops a0 env' j s W)->Fin (pf ops a0 env' k) W):=by
 have hlen:(ops.toList.take k).length=k:=by have:=hc.kn;simp[gX];omega
 have go: ∀t,t<=k-> ∃env',(∀i∈l,env' i=env i)/\(∀i o,i<t->ops[i]? =some o->Node X Ps P ops R0 R1 m Ss W0 a0 env' i o)/\
  iK X Ps P ops R0 R1 m Ss Fin W0 ((ops.toList.take k).drop t) t (pf ops a0 env' t) (Fs ops Ss a0 env' t) (Gs Ps ops Ss a0 env' t):=by
  intro t
  induction t with
  |zero=>exact fun _=>⟨env,fun _ _=>rfl,fun i o hi=>by omega,by simpa [Fs,Gs,pf,ji] using Ez⟩
  |succ t ih=>
   intro ht
   obtain⟨env',h1,h2,h3⟩:=ih (by omega)
   have htk:t<k:=by omega
   have hlt:t<ops.size:=fP htk hc.kn
   obtain⟨o,ho⟩: ∃o,ops[t]? =some o:=⟨_,xy hlt⟩
   have hcons:(ops.toList.take k).drop t=o::(ops.toList.take k).drop (t+1):=by
    rw[A7 (by omega)]
    congr 1
    have:(ops.toList.take k)[t]? =some o:=by rw[List.getElem?_take,aC htk];simpa using ho
    rw[dA (by omega)] at this
    exact jH this
   rw[hcons] at h3
   unfold iK at h3
   have hdst:oz ops t=o.dst:=yO ho
   have ja: ∀v,(t∈l->v=env t)->(∀e:Nat->Value,(∀j,j<t->e j=env' j)->e t=v->Node X Ps P ops R0 R1 m Ss W0 a0 e t o)->
    (∀e:Nat->Value,(∀j,j<t->e j=env' j)->e t=v->iK X Ps P ops R0 R1 m Ss Fin W0 ((ops.toList.take k).drop (t+1)) (t+1) (pf ops a0 e (t+1)) (Fs ops Ss a0 e (t+1)) (Gs Ps ops Ss a0 e (t+1)))->
    ∃yN,(∀i∈l,yN i=env i)/\(∀i o,i<t+1->ops[i]? =some o->Node X Ps P ops R0 R1 m Ss W0 a0 yN i o)/\
     iK X Ps P ops R0 R1 m Ss Fin W0 ((ops.toList.take k).drop (t+1)) (t+1) (pf ops a0 yN (t+1)) (Fs ops Ss a0 yN (t+1)) (Gs Ps ops Ss a0 yN (t+1)):=by
    intro v hv hN hT
    refine⟨fun j=>if j=t then v else env' j,?_,?_,?_⟩
    ·intro i hi
     by_cases e:i=t
     ·subst e;simp only[aC];exact hv hi
     ·simp only[aj e];exact h1 i hi
    ·intro i o' hi ho'
     by_cases e:i=t
     ·subst e;rw[ho] at ho';cases ho'
      exact hN _ (fun j hj=>aj (by omega)) (aC rfl)
     ·exact UL (fun j hj=>(aj (by omega)).symm) (h2 i o' (by omega) ho')
    ·exact hT _ (fun j hj=>aj (by omega)) (aC rfl)
   cases hs:Ss.lookup t with
   |none=>
    simp only[hs] at h3
    obtain⟨v,hv,hT⟩:=h3
    refine ja v ?_ ?_ ?_
    ·intro htl
     have hR:=hrec t htl o ho
     have BO: ∀j,kM ops j t=true->j∈l:=fun j hj=>uC hd hlt htl hj
     have hL:lq ops o (pf ops a0 env t) (pf ops a0 env' t):=FV hc htk ho (fun j _ hj=>(h1 j (BO j hj)).symm)
     unfold Rec at hR
     simp only[hs] at hR
     rw[hL.wanted,hL.exec (hc.sel t o ho)] at hR
     rcases hv with⟨hw,hv⟩|⟨hw,hv⟩
     ·rcases hR with⟨_,W,hW,hr⟩|⟨hw',_⟩
      ·have:=hv W (L6 (Lh hc hl hd (fun i hi=>(h1 i hi).symm) (fun j _=>BO j) hW))
       rw[hr] at this
       injection this with e1 _
       injection e1 with e2
       exact e2.symm
      ·rw[hw] at hw';cases hw'
     ·rcases hR with⟨hw',_⟩|⟨_,hu⟩
      ·rw[hw] at hw';cases hw'
      ·rw[hv,hu]
    ·intro e he het
     have hp:pf ops a0 e t=pf ops a0 env' t:=ku he
     unfold Node
     simp only[hs]
     rw[hp,het]
     exact hv.imp (fun x=>⟨x.1,fun W hW=>x.2 W (L6 (su he hW))⟩) id
    ·intro e he het
     rw[U8,hdst,het,ku he]
     have:Fs ops Ss a0 e (t+1)=Fs ops Ss a0 env' t:=by
      show(match Ss.lookup t with|none=>_|some s=>_)=_
      simp only[hs]
      exact QS he
     rw[this]
     have:Gs Ps ops Ss a0 e (t+1)=Gs Ps ops Ss a0 env' t:=by
      show(match Ss.lookup t with|none=>_|some s=>_)=_
      simp only[hs]
      exact QR he
     rw[this]
     exact hT
   |some s=>
    simp only[hs] at h3
    obtain⟨hw,⟨v0,hv0⟩,EU,hst,hT⟩:=h3
    have key: ∀v,s.pure (nO o (pf ops a0 env' t)) v->(t∈l->v=env t)-> ∃yN,(∀i∈l,yN i=env i)/\(∀i o,i<t+1->ops[i]? =some o->Node X Ps P ops R0 R1 m Ss W0 a0 yN i o)/\
     iK X Ps P ops R0 R1 m Ss Fin W0 ((ops.toList.take k).drop (t+1)) (t+1) (pf ops a0 yN (t+1)) (Fs ops Ss a0 yN (t+1)) (Gs Ps ops Ss a0 yN (t+1)):=by
     intro v hv hvl
     refine ja v hvl ?_ ?_
     ·intro e he het
      have hp:pf ops a0 e t=pf ops a0 env' t:=ku he
      unfold Node
      simp only[hs]
      rw[hp,het]
      exact⟨hw,hv,fun W hW=>EU W (L6 (su he hW)),hst⟩
     ·intro e he het
      rw[U8,hdst,het,ku he]
      have:Fs ops Ss a0 e (t+1)=(t,s.world (nO o (pf ops a0 env' t)) v)::Fs ops Ss a0 env' t:=by
       show(match Ss.lookup t with|none=>_|some s=>_)=_
       simp only[hs]
       rw[QS he,ku he,het,rX ho]
      rw[this]
      have:Gs Ps ops Ss a0 e (t+1)=(t,Ps t (nO o (pf ops a0 env' t)) v)::Gs Ps ops Ss a0 env' t:=by
       show(match Ss.lookup t with|none=>_|some s=>_)=_
       simp only[hs]
       rw[QR he,ku he,het,rX ho]
      rw[this]
      exact hT v hv
    by_cases htl:t∈l
    ·have hR:=hrec t htl o ho
     have BO: ∀j,kM ops j t=true->j∈l:=fun j hj=>uC hd hlt htl hj
     have hL:lq ops o (pf ops a0 env t) (pf ops a0 env' t):=FV hc htk ho (fun j _ hj=>(h1 j (BO j hj)).symm)
     unfold Rec at hR
     simp only[hs] at hR
     rw[hL.nO] at hR
     exact key (env t) hR (fun _=>rfl)
    ·exact key v0 hv0 (fun h=>absurd h htl)
 obtain⟨env',h1,h2,h3⟩:=go k (ai _)
 refine⟨env',h1,h2,fun W hW hF=>?_⟩
 rw[List.drop_of_length_le (by omega)] at h3
 unfold iK at h3
 exact h3 W hW (fun f hf=>by
  obtain⟨j,s,hj,hs,rfl⟩:=ZV.1 hf
  exact hF j s hs hj)
end
section
variable {X : List PanicEntry → World → Prop} {ja : Nat → (Act → World → Prop) → Act → World → Prop} {P : Program} {ops : Array Oper} {Qn : Act → World → Prop} {Ps : uV} {R0 R1 : World → World → Prop} {m : Option Nat} {Ss : List (Nat × RG.Spec)} {W0 : World} {a0 : Act} {k : Nat}
theorem adp (hR:IP R0 R1) (hc:Chk ops k) (hmono: ∀i (K K':Act->World->Prop) a w,(∀a w,K a w->K' a w)->ja i K a w->ja i K' a w)
 (EU: ∀(i:Nat) (o:Oper) (K:Act->World->Prop) (a:Act) (W:World) (R:Value->World->Prop),a.defers=a0.defers->ops[i]? =some o->Region.wanted o (yielded ops a.tmps)=true->Does X P o a.eval W R->(∀v W',R v W'->K (a.put o.dst v) W')->ja i K a W)
 (Pq: ∀(i:Nat) (o:Oper) (K:Act->World->Prop) (a:Act) (W:World),ops[i]? =some o->Region.wanted o (yielded ops a.tmps)=false->K (a.put o.dst undef) W->ja i K a W)
 (Ez:iK X Ps P ops R0 R1 m Ss (Seq ja Qn (List.range' k (ops.size-k))) W0 (ops.toList.take k) 0 a0 [] []):
 ∀(fuel:Nat) (l:List Nat) (env:Nat->Value) (W:World),l.length+fuel=ops.size->l.Nodup->(∀i∈l,i<k)->Down ops (· ∈l)->
  (∀i∈l, ∀o,ops[i]? =some o->Rec Ps P ops R0 R1 m Ss W0 a0 env i o)->(∀j s,Ss.lookup j=some s->j∈l->RG.Left ops a0 env j s W)->
  R1 W0 W->((∀i,m=some i->i∉l)->R0 W0 W/\ ∀j s,Ss.lookup j=some s->j∈l->vI Ps ops a0 env j W)->Any ja ops Qn fuel (lst ops.size l) (ji ops env a0 l) W:=by
 intro fuel
 induction fuel with
 |zero=>
  intro l env W hlen hnd hl hd hrec hleft AB _
  have hk:k=ops.size:=by
   have h1:=Z7 hnd hl
   have:=hc.kn;omega
  have hall:=all_in hnd hl (by omega)
  obtain⟨env',he,_,hfin⟩:=along (P:=P) hc hl hd hrec Ez
  have hf:=hfin W AB (fun j s hs hj=>RG.zJ hc hl hd (fun i hi=>(he i hi).symm) (hall j hj) (hleft j s hs (hall j hj)))
  have ea:ji ops env a0 l=pf ops a0 env' k:=VH (by rw[mf,mf]) fun t=>
   agree t (fun i hi=>⟨fun h=>by simpa using hl i h,fun h=>hall i (by simpa using h)⟩) (fun i hi _=>(he i hi).symm) (fun i j hi hj=>hc.ada i j (hl i hi) (hl j hj) t)
  rw[G7 (k:=k) (fun i=>⟨hl i,hall i⟩),ea,hk]
  rw[show ops.size-k=0 from by omega] at hf
  rw[hk] at hf
  exact RG.QE hc hmono 0 ops.size _ _ (by omega) (by omega) hf
 |succ fuel ih=>
  intro l env W hlen hnd hl hd hrec hleft AB hnil
  obtain⟨env',he,aaw,hfin⟩:=along (P:=P) hc hl hd hrec Ez
  have hes: ∀i∈l,env i=env' i:=fun i hi=>(he i hi).symm
  by_cases hfull:k<=l.length
  ·have hall:=all_in hnd hl hfull
   have hk:l.length=k:=by have:=Z7 hnd hl;omega
   have hf:=hfin W AB (fun j s hs hj=>RG.zJ hc hl hd hes (hall j hj) (hleft j s hs (hall j hj)))
   have ea:ji ops env a0 l=pf ops a0 env' k:=VH (by rw[mf,mf]) fun t=>
    agree t (fun i hi=>⟨fun h=>by simpa using hl i h,fun h=>hall i (by simpa using h)⟩) (fun i hi _=>hes i hi) (fun i j hi hj=>hc.ada i j (hl i hi) (hl j hj) t)
   rw[G7 (k:=k) (fun i=>⟨hl i,hall i⟩),ea]
   have e:fuel+1=ops.size-k:=by omega
   rw[e]
   exact RG.QE hc hmono (ops.size-k) k _ _ (by have:=hc.kn;omega) (ai _) hf
  ·--one more of the first k comes up
   have hex: ∃i,i<k/\i∉l/\ ∀j,j<i->j∈l:=by
    have h0: ∃i,i<k/\i∉l:=Classical.byContradiction fun hno=>by
     have hall: ∀i,i<k->i∈l:=fun i hi=>Classical.byContradiction fun h=>hno ⟨i,hi,h⟩
     have:=List.Nodup.length_le_of_subset (l₁:=List.range k) (l₂:=l) List.nodup_range (fun x hx=>hall x (by simpa using hx))
     simp at this;omega
    obtain⟨i,hi,hil⟩:=h0
    induction i using Nat.strongRecOn with
    |_ i ihh=>
     by_cases hj: ∃j,j<i/\j∉l
     ·obtain⟨j,hji,hjl⟩:=hj
      exact ihh j hji (by omega) hjl
     ·exact⟨i,hi,hil,fun j hji=>Classical.byContradiction fun h=>hj ⟨j,hji,h⟩⟩
   refine⟨fun e=>?_,fun i hi=>?_⟩
   ·obtain⟨i,hi,hil,hbelow⟩:=hex
    have:i∈Region.ready .any ops (lst ops.size l):=RG.mem_ready.2 ⟨fP hi hc.kn,hil,fun o ho e he hb=>by
     have:=hc.lt i o ho e he hb
     exact⟨hbelow _ this,by have:=hc.kn;omega⟩⟩
    rw[e] at this;cases this
   ·obtain⟨hin,hil,aaj⟩:=RG.mem_ready.1 hi
    obtain⟨o,ho⟩: ∃o,ops[i]? =some o:=⟨_,xy hin⟩
    have BO: ∀j,kM ops j i=true->j≠i->j∈l:=fun j hj hne=>Yd hd ho (fun e he hb=>(aaj o ho e he hb).1) hj hne
    have hik:i<k:=Classical.byContradiction fun hge=>by
     obtain⟨j,hj,hjl,_⟩:=hex
     exact hjl (BO j (hc.tail i (by omega) hin j hj) (by omega))
    have hN:=aaw i o hik ho
    have hL:lq ops o (ji ops env a0 l) (pf ops a0 env' i):=by
     intro t ht
     refine agree t ?_ (fun j hj _=>hes j hj) (fun x y hx hy=>hc.ada x y (hl x hx) (hl y hy) t)
     intro j hd'
     by_cases hji:j=i
     ·subst hji;simp[hil]
     ·constructor
      ·intro hjl
       rcases hc.look i o hik ho t ht j (hl j hjl) hd' (fun e=>hji e.symm) with h|h
       ·simpa using h.1
       ·exact absurd (uC hd (fP (hl j hjl) hc.kn) hjl h.2) hil
      ·intro hjr
       have apO:j<i:=by simpa using hjr
       rcases hc.look i o hik ho t ht j (by omega) hd' (fun e=>hji e.symm) with h|h
       ·exact BO j h.2 hji
       ·omega
    have Hm:rH Ps ops R0 R1 m Ss W0 a0 env' i W:=by
     refine⟨?_,fun j s hs hj ha=>RG.zJ hc hl hd hes (BO j ha (by omega)) (hleft j s hs (BO j ha (by omega))),fun hm j s hs hj ha=>
      CO hc hl hd hes (BO j ha (by omega)) ((hnil (fun x hx=>by rw[hm] at hx;cases hx;exact hil)).2 j s hs (BO j ha (by omega)))⟩
     unfold kT
     by_cases hm:m=some i
     ·rw[aC hm];exact(hnil (fun x hx=>by rw[hm] at hx;cases hx;exact hil)).1
     ·rw[aj hm];exact AB
    have ho':oz ops i=o.dst:=yO ho
    have hnd':(l++[i]).Nodup:=by
     rw[List.nodup_append]
     refine⟨hnd,by simp,fun x hx y hy=>?_⟩
     have:y=i:=by simpa using hy
     subst this
     exact fun e=>hil (e▸hx)
    have hl': ∀x∈l++[i],x<k:=fun x hx=>by
     rcases iE.1 hx with h|h
     ·exact hl x h
     ·have:x=i:=by simpa using h
      omega
    have hd':Down ops (· ∈l++[i]):=by
     intro x ox hox hx e he hb
     rcases iE.1 hx with h|h
     ·exact oN _ (hd x ox hox h e he hb)
     ·have:x=i:=by simpa using h
      subst this
      rw[ho] at hox;cases hox
      exact oN _ (aaj o ho e he hb).1
    have hlen':(l++[i]).length+fuel=ops.size:=by simp;omega
    have close: ∀v W',(∀e:Nat->Value,(∀j,j<i->e j=env' j)->e i=v->Rec Ps P ops R0 R1 m Ss W0 a0 e i o)->
     (∀e:Nat->Value,(∀j,j∈l->e j=env' j)->(∀j,j<i->e j=env' j)->e i=v-> ∀j s,Ss.lookup j=some s->j∈l++[i]->RG.Left ops a0 e j s W')->R1 W0 W'->((∀x,m=some x->x∉l++[i])->R0 W0 W')->
     ((∀x,m=some x->x∉l++[i])-> ∀e:Nat->Value,(∀j,j∈l->e j=env' j)->(∀j,j<i->e j=env' j)->e i=v-> ∀j s,Ss.lookup j=some s->j∈l++[i]->vI Ps ops a0 e j W')->
     Any ja ops Qn fuel ((lst ops.size l).setIfInBounds i true) ((ji ops env a0 l).put o.dst v) W':=by
     intro v W' hR hLf hE hE0 hLp
     have e1:ji ops (fun j=>if j=i then v else env' j) a0 (l++[i])=(ji ops env a0 l).put o.dst v:=by
      rw[lG,ho',aC rfl]
      congr 1
      exact Bv fun j hj=>by
       have:j≠i:=fun e=>hil (e▸hj)
       rw[aj this];exact he j hj
     rw[<-e1, <-G6]
     have hag: ∀j∈l,env j=(fun j=>if j=i then v else env' j) j:=fun j hj=>by
      have:j≠i:=fun e=>hil (e▸hj)
      simp only[aj this];exact hes j hj
     refine ih (l++[i]) _ W' hlen' hnd' hl' hd' ?_ ?_ hE (fun hno=>⟨hE0 hno,hLp hno _ (fun j hj=>aj (fun(e:j=i)=>hil (by rw[<-e];exact hj))) (fun j hj=>aj (by omega)) (aC rfl)⟩)
     ·intro x hx ox hox
      rcases iE.1 hx with h|h
      ·exact afK hc hl hd hag h hox (hrec x h ox hox)
      ·have:x=i:=by simpa using h
       subst this
       rw[ho] at hox;cases hox
       exact hR _ (fun j hj=>aj (by omega)) (aC rfl)
     ·exact hLf _ (fun j hj=>aj (fun(e:j=i)=>hil (by rw[<-e];exact hj))) (fun j hj=>aj (by omega)) (aC rfl)
    have old: ∀(e:Nat->Value),(∀j,j∈l->e j=env' j)-> ∀j s W',Ss.lookup j=some s->j∈l->kT R0 R1 m j W W'->RG.Left ops a0 e j s W':=by
     intro e Du j s W' hs hj hE
     have hNj: ∃oj,ops[j]? =some oj:=⟨_,xy (fP (hl j hj) hc.kn)⟩
     obtain⟨oj,hoj⟩:=hNj
     have hst:=aaw j oj (hl j hj) hoj
     unfold Node at hst
     simp only[hs] at hst
     have h1:RG.Left ops a0 env' j s W:=RG.zJ hc hl hd hes hj (hleft j s hs hj)
     refine RG.zJ hc hl hd (fun x hx=>(Du x hx).symm) hj ?_
     unfold RG.Left at h1⊢
     rw[rX hoj] at h1⊢
     exact hst.2.2.2.1 _ W W' h1 hE
    have agO:(∀x,m=some x->x∉l)-> ∀(e:Nat->Value),(∀j,j∈l->e j=env' j)-> ∀j s W',Ss.lookup j=some s->j∈l->R0 W W'->vI Ps ops a0 e j W':=by
     intro hno e Du j s W' hs hj hE
     have hNj: ∃oj,ops[j]? =some oj:=⟨_,xy (fP (hl j hj) hc.kn)⟩
     obtain⟨oj,hoj⟩:=hNj
     have hst:=aaw j oj (hl j hj) hoj
     unfold Node at hst
     simp only[hs] at hst
     have h1:vI Ps ops a0 env' j W:=CO hc hl hd hes hj ((hnil hno).2 j s hs hj)
     refine CO hc hl hd (fun x hx=>(Du x hx).symm) hj ?_
     unfold vI at h1⊢
     rw[rX hoj] at h1⊢
     exact hst.2.2.2.2 _ W W' h1 hE
    unfold Node at hN
    cases hs:Ss.lookup i with
    |none=>
     simp only[hs] at hN
     have same: ∀v,v=env' i->((Region.wanted o (yielded ops (pf ops a0 env' i).tmps)=true/\ ∃W,rH Ps ops R0 R1 m Ss W0 a0 env' i W/\(execOp (pf ops a0 env' i).eval o).run P W= .ok (.value (env' i)) W)∨
      (Region.wanted o (yielded ops (pf ops a0 env' i).tmps)=false/\env' i=undef))->Any ja ops Qn fuel ((lst ops.size l).setIfInBounds i true) ((ji ops env a0 l).put o.dst v) W:=by
      intro v hv hcase
      refine close v W ?_ ?_ AB ?_ ?_
      ·intro e Du hei
       have hp:pf ops a0 e i=pf ops a0 env' i:=ku Du
       unfold Rec
       simp only[hs]
       rw[hp,hei,hv]
       exact hcase.imp (fun x=>⟨x.1,by obtain⟨Wx,h1,h2⟩:=x.2;exact⟨Wx,su (fun j hj=>(Du j hj).symm) h1,h2⟩⟩) id
      ·intro e hel Du hei j s hjs hj
       rcases iE.1 hj with h|h
       ·exact old e hel j s W hjs h (hR.acw j W)
       ·have:j=i:=by simpa using h
        subst this
        rw[hs] at hjs;cases hjs
      ·intro hno
       exact(hnil (fun x hx hxl=>hno x hx (oN _ hxl))).1
      ·intro hno e hel Du hei j s hjs hj
       rcases iE.1 hj with h|h
       ·exact agO (fun x hx hxl=>hno x hx (oN _ hxl)) e hel j s W hjs h (hR.refl W)
       ·have:j=i:=by simpa using h
        subst this
        rw[hs] at hjs;cases hjs
     rcases hN with⟨hw,hrun⟩|⟨hw,hu⟩
     ·refine EU i o _ _ W (fun v W'=>v=env' i/\W'=W) (mf env a0 l) ho (by rw[hL.wanted];exact hw) ?_ ?_
      ·unfold Does
       rw[hL.exec (hc.sel i o ho),hrun W Hm]
       exact⟨rfl,rfl⟩
      ·rintro v W' ⟨hv,rfl⟩
       exact same v hv (.inl ⟨hw,_,Hm,hrun _ Hm⟩)
     ·refine Pq i o _ _ W ho (by rw[hL.wanted];exact hw) ?_
      exact same undef hu.symm (.inr ⟨hw,hu⟩)
    |some s=>
     simp only[hs] at hN
     obtain⟨hw,_,hdo,hst⟩:=hN
     have ahY:=hdo W Hm
     have ahX:Does X P o (ji ops env a0 l).eval W (fun v W'=>s.pure (nO o (pf ops a0 env' i)) v/\s.world (nO o (pf ops a0 env' i)) v W'/\xI R0 R1 m i W W'/\Ps i (nO o (pf ops a0 env' i)) v W'):=by
      unfold Does at ahY⊢
      rw[hL.exec (hc.sel i o ho)]
      exact ahY
     refine EU i o _ _ W _ (mf env a0 l) ho (by rw[hL.wanted];exact hw) ahX ?_
     rintro v W' ⟨ahi,hworld,hE,hpre⟩
     refine close v W' ?_ ?_ ?_ ?_ ?_
     ·intro e Du hei
      have hp:pf ops a0 e i=pf ops a0 env' i:=ku Du
      unfold Rec
      simp only[hs]
      rw[hp,hei]
      exact ahi
     ·intro e hel Du hei j s' hjs hj
      rcases iE.1 hj with h|h
      ·refine old e hel j s' W' hjs h ?_
       have hji:j≠i:=fun x=>hil (x▸h)
       unfold xI at hE
       unfold kT
       by_cases hm:m=some i
       ·rw[aC hm] at hE
        rw[aj (by rw[hm];exact fun x=>hji (jH x).symm)]
        exact hE
       ·rw[aj hm] at hE
        split
        ·exact hE
        ·exact hR.sub hE
      ·have:j=i:=by simpa using h
       subst this
       rw[hs] at hjs;cases hjs
       unfold RG.Left
       rw[rX ho,ku Du,hei]
       exact hworld
     ·refine hR.aep AB ?_
      unfold xI at hE
      split at hE
      ·exact hE
      ·exact hR.sub hE
     ·intro hno
      have hm:m≠some i:=fun hm=>hno i hm (by simp)
      unfold xI at hE
      rw[aj hm] at hE
      exact hR.aeq (hnil (fun x hx hxl=>hno x hx (oN _ hxl))).1 hE
     ·intro hno e hel Du hei j s' hjs hj
      have hm:m≠some i:=fun hm=>hno i hm (by simp)
      unfold xI at hE
      rw[aj hm] at hE
      rcases iE.1 hj with h|h
      ·exact agO (fun x hx hxl=>hno x hx (oN _ hxl)) e hel j s' W' hjs h hE
      ·have:j=i:=by simpa using h
       subst this
       unfold vI
       rw[rX ho,ku Du,hei]
       exact hpre
end
theorem zH {X:List PanicEntry->World->Prop} {ja:Nat->(Act->World->Prop)->Act->World->Prop} {P:Program} {ops:Array Oper} {Qn:Act->World->Prop} {Ps:uV} {R0 R1:World->World->Prop} {m:Option Nat} {Ss:List (Nat×RG.Spec)} {W0 W:World} {a0:Act} {k:Nat}
 (hR:IP R0 R1) (hc:chk ops k=true) (hmono: ∀i (K K':Act->World->Prop) a w,(∀a w,K a w->K' a w)->ja i K a w->ja i K' a w)
 (EU: ∀(i:Nat) (o:Oper) (K:Act->World->Prop) (a:Act) (W:World) (R:Value->World->Prop),a.defers=a0.defers->ops[i]? =some o->Region.wanted o (yielded ops a.tmps)=true->Does X P o a.eval W R->(∀v W',R v W'->K (a.put o.dst v) W')->ja i K a W)
 (Pq: ∀(i:Nat) (o:Oper) (K:Act->World->Prop) (a:Act) (W:World),ops[i]? =some o->Region.wanted o (yielded ops a.tmps)=false->K (a.put o.dst undef) W->ja i K a W)
 (hW:R0 W0 W)
 (Ez:iK X Ps P ops R0 R1 m Ss (Seq ja Qn (List.range' k (ops.size-k))) W0 (ops.toList.take k) 0 a0 [] []):
 Any ja ops Qn ops.size (Array.replicate ops.size false) a0 W:=
 adp hR (RG.Iy hc) hmono EU Pq Ez ops.size [] (fun _=>undef) W (by simp) List.nodup_nil (by simp) (fun i o _ h=>by cases h) (by simp) (by simp) (hR.sub hW) (fun _=>⟨hW,by simp⟩)
end Go.RX
namespace Go.RG
open Go.RowKit
theorem Ue {X:List PanicEntry->World->Prop} {P:Program} {o:Oper} {ρ:Operand->Value} {W:World} {R:Value->World->Prop} (h:Does P o ρ W R):RX.Does X P o ρ W R:=by
 unfold Does at h;unfold RX.Does
 generalize (execOp ρ o).run P W=r at*
 cases r with
 |ok x w'=>cases x <;>first|exact h|exact Calls.mono h fun _ _=> .inl
 |halt x w'=>exact h
theorem akn {P:Program} {o:Oper} {ρ:Operand->Value} {W:World} {R:Value->World->Prop} (h:RX.Does (fun _ _=>False) P o ρ W R):Does P o ρ W R:=by
 unfold RX.Does at h;unfold Does
 generalize (execOp ρ o).run P W=r at*
 cases r with
 |ok x w'=>cases x <;>first|exact h|exact Calls.mono h fun _ _ h=>h.elim id fun⟨_,_,h⟩=>h.elim
 |halt x w'=>exact h
abbrev iK:=RX.iK (fun _ _=>False)
theorem zH {ja:Nat->(Act->World->Prop)->Act->World->Prop} {P:Program} {ops:Array Oper} {Qn:Act->World->Prop} {Ps:uV} {R0 R1:World->World->Prop} {m:Option Nat} {Ss:List (Nat×Spec)} {W0 W:World} {a0:Act} {k:Nat}
 (hR:IP R0 R1) (hc:chk ops k=true) (hmono: ∀i (K K':Act->World->Prop) a w,(∀a w,K a w->K' a w)->ja i K a w->ja i K' a w)
 (EU: ∀(i:Nat) (o:Oper) (K:Act->World->Prop) (a:Act) (W:World) (R:Value->World->Prop),ops[i]? =some o->Region.wanted o (yielded ops a.tmps)=true->Does P o a.eval W R->(∀v W',R v W'->K (a.put o.dst v) W')->ja i K a W)
 (Pq: ∀(i:Nat) (o:Oper) (K:Act->World->Prop) (a:Act) (W:World),ops[i]? =some o->Region.wanted o (yielded ops a.tmps)=false->K (a.put o.dst undef) W->ja i K a W)
 (hW:R0 W0 W)
 (Ez:iK Ps P ops R0 R1 m Ss (Seq ja Qn (List.range' k (ops.size-k))) W0 (ops.toList.take k) 0 a0 [] []):
 Any ja ops Qn ops.size (Array.replicate ops.size false) a0 W:=
 RX.zH hR hc hmono (fun i o K a W R _ ho hw hd hK=>EU i o K a W R ho hw (akn hd) hK) Pq hW Ez
theorem any_eq {P:Program} {ops:Array Oper} {Q:Exit->Act->World->Prop}: ∀(fuel:Nat) (l:Array Bool) (a:Act) (w:World),Any (wpOp P ops Q) ops (Q .normal) fuel l a w->wpAny P .any ops Q fuel l a w:=by
 intro fuel
 induction fuel with
 |zero=>exact fun l a w h=>h
 |succ fuel ih=>exact fun l a w h=>⟨h.1,fun i hi=>wpOp_mono (fun a w=>ih _ a w) (h.2 i hi)⟩
theorem seq_eq {P:Program} {ops:Array Oper} {Q:Exit->Act->World->Prop} (l:List Nat):Seq (wpOp P ops Q) (Q .normal) l=wpOps P ops Q l:=by
 induction l with
 |nil=>rfl
 |cons i l ih=>funext a w;rw[wpOps_cons, <-ih];rfl
theorem zF {P:Program} {o:Oper} {a:Act} {W:World} {R:Value->World->Prop} {K:Act->World->Prop} {Q:Exit->Act->World->Prop} (h:Does P o a.eval W R) (hK: ∀v W',R v W'->K (a.put o.dst v) W'):o.wp P a W K Q:=by
 unfold Does at h
 unfold Oper.wp
 generalize (execOp a.eval o).run P W=r at*
 cases r with
 |ok x w'=>
  cases x <;>simp only[Oper.upon] at h⊢ <;>first|exact hK _ _ h|exact h.elim|skip
  exact Calls.mono h (fun e w'' ⟨v,he,hr⟩=>by subst he;exact hK _ _ hr)
 |halt x w'=>exact h.elim
end Go.RG
namespace Go.RX
open Go.RowKit Go.RG
theorem zF {X:List PanicEntry->World->Prop} {P:Program} {o:Oper} {a:Act} {W:World} {R:Value->World->Prop} {K:Act->World->Prop} {Q:Exit->Act->World->Prop} (h:Does X P o a.eval W R) (hK: ∀v W',R v W'->K (a.put o.dst v) W') (hX: ∀ps W,X ps W->Q (.panic ps) a W):o.wp P a W K Q:=by
 unfold Does at h
 unfold Oper.wp
 generalize (execOp a.eval o).run P W=r at*
 cases r with
 |ok x w'=>
  cases x <;>simp only[Oper.upon] at h⊢ <;>first|exact hK _ _ h|exact h.elim|skip
  exact Calls.mono h (fun e w'' h=>by
   rcases h with⟨v,he,hr⟩|⟨ps,he,hx⟩
   ·subst he;exact hK _ _ hr
   ·subst he;exact hX _ _ hx)
 |halt x w'=>exact h.elim
theorem kP {X:List PanicEntry->World->Prop} {R0 R1:World->World->Prop} (hR:IP R0 R1) {Ps:uV} {P:Program} {id:Nat} {ops:List Oper} {Q:Exit->Act->World->Prop} {a:Act} {w:World} (hdr:R0 w w.drew) (k:Nat) (m:Option Nat) (Ss:List (Nat×RG.Spec))
 (hX: ∀ps a1 W,a1.defers=a.defers->X ps W->Q (.panic ps) a1 W) (hm:P.follows .mixedOrders=true) (hc:chk ops.toArray k=true)
 (h:iK X Ps P ops.toArray R0 R1 m Ss (fun a w=>wpList P ops.toArray Q (ops.drop k) a w) w (ops.take k) 0 a [] []):(Code.region id ops.toArray true).wp P Q a w:=by
 refine wp_region_any hm (any_eq _ _ _ _ ?_)
 refine zH (X:=X) (Ps:=Ps) (P:=P) (R0:=R0) (R1:=R1) (m:=m) (Ss:=Ss) (W0:=w) hR hc (fun i K K' a w h hs=>wpOp_mono h hs) ?_ ?_ hdr ?_
 ·intro i o K a W R hdf ho hw hd hK
  unfold wpOp
  simp only[ho]
  rw[aC hw]
  exact .inl (zF hd hK (fun ps W=>hX ps _ W hdf))
 ·intro i o K a W ho hw hK
  unfold wpOp
  simp only[ho]
  rw[aj (by rw[hw];simp)]
  exact hK
 ·have e:(fun a w=>wpList P ops.toArray Q (ops.drop k) a w)=Seq (wpOp P ops.toArray Q) (Q .normal) (List.range' k (ops.toArray.size-k)):=by
   funext a w
   rw[seq_eq]
   have hkn:=(RG.Iy hc).kn
   have hlen:ops.toArray.size-k=(ops.drop k).length:=by simp
   rw[hlen,wpOps_eq_wpList (ops.drop k) k (fun j=>by simp)]
  rw[<-e]
  exact h
theorem gG (X:List PanicEntry->World->Prop) {P:Program} {id:Nat} {ops:List Oper} {Q:Exit->Act->World->Prop} {a:Act} {w:World} (k:Nat) (Ms:List Nat) (m:Option Nat) (Ss:List (Nat×RG.Spec))
 (hX: ∀ps a1 W,a1.defers=a.defers->X ps W->Q (.panic ps) a1 W) (hm:P.follows .mixedOrders=true) (hc:chk ops.toArray k=true)
 (h:iK X OT P ops.toArray (Ext []) (Ext Ms) m Ss (fun a w=>wpList P ops.toArray Q (ops.drop k) a w) w (ops.take k) 0 a [] []):(Code.region id ops.toArray true).wp P Q a w:=
 kP (Bq Ms) ((Ext.refl [] w).drew) k m Ss hX hm hc h
end Go.RX
namespace Go.RG
open Go.RowKit
theorem kP {R0 R1:World->World->Prop} (hR:IP R0 R1) {Ps:uV} {P:Program} {id:Nat} {ops:List Oper} {Q:Exit->Act->World->Prop} {a:Act} {w:World} (hdr:R0 w w.drew) (k:Nat) (m:Option Nat) (Ss:List (Nat×Spec))
 (hm:P.follows .mixedOrders=true) (hc:chk ops.toArray k=true)
 (h:iK Ps P ops.toArray R0 R1 m Ss (fun a w=>wpList P ops.toArray Q (ops.drop k) a w) w (ops.take k) 0 a [] []):(Code.region id ops.toArray true).wp P Q a w:=
 RX.kP hR hdr k m Ss (fun _ _ _ _ h=>h.elim) hm hc h
theorem gG {P:Program} {id:Nat} {ops:List Oper} {Q:Exit->Act->World->Prop} {a:Act} {w:World} (k:Nat) (Ms:List Nat) (m:Option Nat) (Ss:List (Nat×Spec))
 (hm:P.follows .mixedOrders=true) (hc:chk ops.toArray k=true)
 (h:iK OT P ops.toArray (Ext []) (Ext Ms) m Ss (fun a w=>wpList P ops.toArray Q (ops.drop k) a w) w (ops.take k) 0 a [] []):(Code.region id ops.toArray true).wp P Q a w:=
 kP (Bq Ms) ((Ext.refl [] w).drew) k m Ss hm hc h
structure uX (B:Nat) (Ms:List Nat) (w w':World):Prop where
 os:w'.os=w.os
 tape:w'.tape=w.tape
 output:w'.output=w.output
 size:w.heap.size<=w'.heap.size
 block: ∀(k:Nat),k<w.heap.size->k<B->k∉Ms->w'.heap[k]? =w.heap[k]?
theorem uX.wW {B:Nat} {Ms:List Nat} {w w':World} (h:Ext [] w w'):uX B Ms w w':=
 ⟨h.os,h.tape,h.output,h.size,fun k hk _ _=>h.block k hk (by simp)⟩
theorem uX.trans {B:Nat} {Ms:List Nat} {a b c:World} (h:uX B Ms a b) (k:uX B Ms b c):uX B Ms a c:=
 ⟨k.os.trans h.os,k.tape.trans h.tape,k.output.trans h.output,jo h.size k.size,
   fun i hi hb hm=>(k.block i (fP hi h.size) hb hm).trans (h.block i hi hb hm)⟩
theorem Ws (B:Nat) (Ms:List Nat):IP (Ext []) (uX B Ms):=⟨Ext.refl [],Ext.trans,uX.trans,uX.wW⟩
theorem qL {P:Program} {id:Nat} {ops:List Oper} {Q:Exit->Act->World->Prop} {a:Act} {w:World} (k:Nat) (Ms:List Nat) (m:Option Nat) (Ss:List (Nat×Spec)) (Ps:uV)
 (hm:P.follows .mixedOrders=true) (hc:chk ops.toArray k=true)
 (h:iK Ps P ops.toArray (Ext []) (uX w.heap.size Ms) m Ss (fun a w=>wpList P ops.toArray Q (ops.drop k) a w) w (ops.take k) 0 a [] []):(Code.region id ops.toArray true).wp P Q a w:=
 kP (Ws _ _) ((Ext.refl [] w).drew) k m Ss hm hc h
class Kept (R1:World->World->Prop) (Ms:outParam (List Nat)) (W0:World):Prop where
 nil: ∀{a b},Ext [] a b->R1 a b
 ext: ∀{W},R1 W0 W->Ext Ms W0 W
instance (Ms:List Nat) (W0:World):Kept (Ext Ms) Ms W0:=⟨Ext.nil,id⟩
instance (Ms:List Nat) (W0:World):Kept (uX W0.heap.size Ms) Ms W0:=⟨uX.wW,fun h=>⟨h.os,h.tape,h.output,h.size,fun k hk hm=>h.block k hk hk hm⟩⟩
section
variable {P : Program} {ops : Array Oper} {R1 : World → World → Prop} {Ms : List Nat} {m : Option Nat} {Ss : List (Nat × Spec)} {Fin : Act → World → Prop} {W0 : World} {o : Oper} {rest : List Oper} {i : Nat} {a : Act} {F G : Facts} {Ps : uV}
theorem UJ.ext [Kept R1 Ms W0] {W:World} (h:UJ ops (Ext []) R1 m W0 F G i W):Ext Ms W0 W:=by
 have h1:=h.1
 unfold kT at h1
 split at h1
 ·exact h1.nil
 ·exact Kept.ext h1
theorem Mc [Kept R1 Ms W0] {W W':World} (h:Ext [] W W'):xI (Ext []) R1 m i W W':=by
 unfold xI
 split
 ·exact Kept.nil (R1:=R1) (W0:=W0) h
 ·exact h
def Spec.block (B:Nat) (cs:Array Value) (t:TypeId):Spec:=
 ⟨fun _ v=> ∃b:Nat,v= .pointer (some ⟨b,0,none⟩),fun _ v W=> ∃b:Nat,v= .pointer (some ⟨b,0,none⟩)/\B<=b/\W.heap[b]? =some (.cells cs t (0,0))⟩
def Spec.slice (B:Nat) (cs:Array Value) (t:TypeId) (n:Nat):Spec:=
 ⟨fun _ v=> ∃b:Nat,v= .slice (some ⟨b,0,none⟩) n n,fun _ v W=> ∃b:Nat,v= .slice (some ⟨b,0,none⟩) n n/\B<=b/\W.heap[b]? =some (.cells cs t (0,0))⟩
end
end Go.RG
namespace Go.RX
open Go.RowKit Go.RG
section
variable {X : List PanicEntry → World → Prop} {P : Program} {ops : Array Oper} {R1 : World → World → Prop} {Ms : List Nat} {m : Option Nat} {Ss : List (Nat × RG.Spec)} {Fin : Act → World → Prop} {W0 : World} {o : Oper} {rest : List Oper} {i : Nat} {a : Act} {F G : Facts} {Ps : uV}
theorem gq [Kept R1 Ms W0] (hs:Ss.lookup i=none) (v:Value) (hw:Region.wanted o (yielded ops a.tmps)=true)
 (hr: ∀W:World,(∀b off,b<W0.heap.size->b∉Ms->W.cell? ⟨b,off,none⟩=W0.cell? ⟨b,off,none⟩)->(execOp a.eval o).run P W= .ok (.value v) W)
 (ht:iK X Ps P ops (Ext []) R1 m Ss Fin W0 rest (i+1) (a.put o.dst v) F G):iK X Ps P ops (Ext []) R1 m Ss Fin W0 (o::rest) i a F G:=by
 unfold iK
 simp only[hs]
 exact⟨v,.inl ⟨hw,fun W hW=>hr W fun b off hb hm=>hW.ext.cell b off hb hm⟩,ht⟩
theorem iH [Kept R1 Ms W0] (hs:Ss.lookup i=none) (v:Value) (hw:Region.wanted o (yielded ops a.tmps)=true)
 (hr: ∀W:World,Ext Ms W0 W->(∀f∈F,kM ops f.1 i=true->f.2 W)->(execOp a.eval o).run P W= .ok (.value v) W)
 (ht:iK X Ps P ops (Ext []) R1 m Ss Fin W0 rest (i+1) (a.put o.dst v) F G):iK X Ps P ops (Ext []) R1 m Ss Fin W0 (o::rest) i a F G:=by
 unfold iK
 simp only[hs]
 exact⟨v,.inl ⟨hw,fun W hW=>hr W hW.ext hW.2.1⟩,ht⟩
theorem C9 (hs:Ss.lookup i=none) (hw:Region.wanted o (yielded ops a.tmps)=false)
 (ht:iK X Ps P ops (Ext []) R1 m Ss Fin W0 rest (i+1) (a.put o.dst undef) F G):iK X Ps P ops (Ext []) R1 m Ss Fin W0 (o::rest) i a F G:=by
 unfold iK
 simp only[hs]
 exact⟨undef,.inr ⟨hw,rfl⟩,ht⟩
theorem bJ (s:RG.Spec) (hs:Ss.lookup i=some s) (hw:Region.wanted o (yielded ops a.tmps)=true) (hex: ∃v,s.pure (nO o a) v)
 (hdo: ∀W:World,kT (Ext []) R1 m i W0 W->(∀f∈F,kM ops f.1 i=true->f.2 W)->Does X P o a.eval W (fun v W'=>s.pure (nO o a) v/\s.world (nO o a) v W'/\xI (Ext []) R1 m i W W'))
 (hst: ∀v W W',s.world (nO o a) v W->kT (Ext []) R1 m i W W'->s.world (nO o a) v W')
 (ht: ∀v,s.pure (nO o a) v->iK X Ps P ops (Ext []) R1 m Ss Fin W0 rest (i+1) (a.put o.dst v) ((i,s.world (nO o a) v)::F) ((i,Ps i (nO o a) v)::G)) (hps: ∀x v W,Ps i x v W:=by intro _ _ _;exact True.intro):iK X Ps P ops (Ext []) R1 m Ss Fin W0 (o::rest) i a F G:=by
 unfold iK
 simp only[hs]
 refine⟨hw,hex,fun W hW=>?_,⟨hst,fun v' _ W' _ _=>hps _ _ _⟩,ht⟩
 have:=hdo W hW.1 hW.2.1
 unfold Does at this⊢
 split at this
 ·exact⟨this.1,this.2.1,this.2.2,hps _ _ _⟩
 ·exact⟨this.1,this.2.1,this.2.2,hps _ _ _⟩
 ·exact this.mono fun e w' h=>h.imp (fun⟨v,h1,h2,h3,h4⟩=>⟨v,h1,h2,h3,h4,hps _ _ _⟩) id
 ·exact this.elim
theorem dG {ρ:Operand->Value} {W:World} {R:Value->World->Prop} (f:FuncId) (args:Array Value) (he:(execOp ρ o).run P W= .ok (.enter f args) W)
 (h:Calls P f args W (fun e W'=>(∃v,e= .returned v/\R v W')∨ ∃ps,e= .panicked ps/\X ps W')):Does X P o ρ W R:=by
 unfold Does;rw[he];exact h
theorem jl {ρ:Operand->Value} {W W':World} {R:Value->World->Prop} (v:Value) (he:(execOp ρ o).run P W= .ok (.value v) W') (h:R v W'):Does X P o ρ W R:=by
 unfold Does;rw[he];exact h
theorem jZ (B:Nat) (cs:Array Value) (t:TypeId) (hs:Ss.lookup i=some (RG.Spec.block B cs t)) (hB:B<=W0.heap.size) (hw:Region.wanted o (yielded ops a.tmps)=true) (hMs: ∀x∈Ms,x<B) (hmi:m≠some i)
 (he: ∀W:World,(∀b off,b<W0.heap.size->b∉Ms->W.cell? ⟨b,off,none⟩=W0.cell? ⟨b,off,none⟩)->(execOp a.eval o).run P W= .ok (.value (.pointer (some ⟨W.heap.size,0,none⟩))) (W.alloc (.cells cs t)))
 (ht: ∀b:Nat,iK X Ps P ops (Ext []) (Ext Ms) m Ss Fin W0 rest (i+1) (a.put o.dst (.pointer (some ⟨b,0,none⟩))) ((i,fun W=> ∃c:Nat,Value.pointer (some ⟨b,0,none⟩)= .pointer (some ⟨c,0,none⟩)/\B<=c/\W.heap[c]? =some (.cells cs t (0,0)))::F) ((i,Ps i (nO o a) (.pointer (some ⟨b,0,none⟩)))::G)) (hps: ∀x v W,Ps i x v W:=by intro _ _ _;exact True.intro):
 iK X Ps P ops (Ext []) (Ext Ms) m Ss Fin W0 (o::rest) i a F G:=by
 refine bJ _ hs hw ⟨.pointer (some ⟨0,0,none⟩),0,rfl⟩ ?_ ?_ ?_ ?_
 ·intro W hW _
  have hW':Ext Ms W0 W:=by
   unfold kT at hW
   rw[aj hmi] at hW
   exact hW
  refine jl _ (he W fun b off hb hm=>hW'.cell b off hb hm) ⟨⟨_,rfl⟩,⟨_,rfl,jo hB hW'.size,heap_alloc_new W _⟩,Mc (R1:=Ext Ms) (W0:=W0) (Ext.az ?_)⟩
  exact(aG _ _).alloc (ai _) _
 ·rintro v W W' ⟨b,hb,hle,hc⟩ hE
  unfold kT at hE
  rw[aj hmi] at hE
  exact⟨b,hb,hle,(hE.block b (aV.1 hc).1 (fun h=>by have:=hMs b h;omega)).trans hc⟩
 ·rintro v ⟨b,rfl⟩
  exact ht b
 ·exact hps
theorem cu (B:Nat) (cs:Array Value) (t:TypeId) (n:Nat) (hs:Ss.lookup i=some (RG.Spec.slice B cs t n)) (hB:B<=W0.heap.size) (hw:Region.wanted o (yielded ops a.tmps)=true) (hMs: ∀x∈Ms,x<B) (hmi:m≠some i)
 (he: ∀W:World,(∀b off,b<W0.heap.size->b∉Ms->W.cell? ⟨b,off,none⟩=W0.cell? ⟨b,off,none⟩)->(execOp a.eval o).run P W= .ok (.value (.slice (some ⟨W.heap.size,0,none⟩) n n)) (W.alloc (.cells cs t)))
 (ht: ∀b:Nat,iK X Ps P ops (Ext []) (Ext Ms) m Ss Fin W0 rest (i+1) (a.put o.dst (.slice (some ⟨b,0,none⟩) n n)) ((i,fun W=> ∃c:Nat,Value.slice (some ⟨b,0,none⟩) n n= .slice (some ⟨c,0,none⟩) n n/\B<=c/\W.heap[c]? =some (.cells cs t (0,0)))::F) ((i,Ps i (nO o a) (.slice (some ⟨b,0,none⟩) n n))::G)) (hps: ∀x v W,Ps i x v W:=by intro _ _ _;exact True.intro):
 iK X Ps P ops (Ext []) (Ext Ms) m Ss Fin W0 (o::rest) i a F G:=by
 refine bJ _ hs hw ⟨.slice (some ⟨0,0,none⟩) n n,0,rfl⟩ ?_ ?_ ?_ ?_
 ·intro W hW _
  have hW':Ext Ms W0 W:=by
   unfold kT at hW
   rw[aj hmi] at hW
   exact hW
  refine jl _ (he W fun b off hb hm=>hW'.cell b off hb hm) ⟨⟨_,rfl⟩,⟨_,rfl,jo hB hW'.size,heap_alloc_new W _⟩,Mc (R1:=Ext Ms) (W0:=W0) (Ext.az ?_)⟩
  exact(aG _ _).alloc (ai _) _
 ·rintro v W W' ⟨b,hb,hle,hc⟩ hE
  unfold kT at hE
  rw[aj hmi] at hE
  exact⟨b,hb,hle,(hE.block b (aV.1 hc).1 (fun h=>by have:=hMs b h;omega)).trans hc⟩
 ·rintro v ⟨b,rfl⟩
  exact ht b
 ·exact hps
end
section
variable {X : List PanicEntry → World → Prop} {P : Program} {ops : Array Oper} {R1 : World → World → Prop} {Ms : List Nat} {m : Option Nat} {Ss : List (Nat × RG.Spec)} {Fin : Act → World → Prop} {W0 : World} {o : Oper} {rest : List Oper} {i : Nat} {a : Act} {F G : Facts} {Ps : uV}
theorem zd [Kept R1 Ms W0] {v:Value} (ht:iK X Ps P ops (Ext []) R1 m Ss Fin W0 rest (i+1) (a.put o.dst v) F G) (hs:Ss.lookup i=none:=by rfl) (hw:Region.wanted o (yielded ops a.tmps)=true:=by rfl)
 (hr: ∀W:World,(∀b off,b<W0.heap.size->b∉Ms->W.cell? ⟨b,off,none⟩=W0.cell? ⟨b,off,none⟩)->(execOp a.eval o).run P W= .ok (.value v) W:=by
   intro W hW;go_simp;(try simp(disch:=omega) only[IntWalk.i64_in,Int.tdiv_eq_ediv_of_nonneg]);try rfl):iK X Ps P ops (Ext []) R1 m Ss Fin W0 (o::rest) i a F G:=
 gq hs v hw hr ht
end
end Go.RX
namespace Go.RG
open Go.RowKit
section
variable {P : Program} {ops : Array Oper} {R1 : World → World → Prop} {Ms : List Nat} {m : Option Nat} {Ss : List (Nat × Spec)} {Fin : Act → World → Prop} {W0 : World} {o : Oper} {rest : List Oper} {i : Nat} {a : Act} {F G : Facts} {Ps : uV}
abbrev gq:= @RX.gq fun _ _=>False
abbrev iH:= @RX.iH fun _ _=>False
abbrev C9:= @RX.C9 fun _ _=>False
def Spec.val (v:Value):Spec:=⟨fun _ x=>x=v,fun _ _ _=>True⟩
theorem dK [Kept R1 Ms W0] (v:Value) (hs:Ss.lookup i=some (Spec.val v)) (hw:Region.wanted o (yielded ops a.tmps)=true) (f:FuncId) (args:Array Value)
 (he: ∀W:World,(∀b off,b<W0.heap.size->b∉Ms->W.cell? ⟨b,off,none⟩=W0.cell? ⟨b,off,none⟩)->(execOp a.eval o).run P W= .ok (.enter f args) W)
 (hcall: ∀W:World,Ext Ms W0 W->(∀f∈F,kM ops f.1 i=true->f.2 W)->Calls P f args W (fun e W'=>e= .returned v/\Below W.heap.size W W'))
 (ht:iK Ps P ops (Ext []) R1 m Ss Fin W0 rest (i+1) (a.put o.dst v) F G) (hps: ∀x v W,Ps i x v W:=by intro _ _ _;exact True.intro):iK Ps P ops (Ext []) R1 m Ss Fin W0 (o::rest) i a F G:=by
 have mono: ∀(rest:List Oper) (i:Nat) (a:Act) (F F' G G':Facts),(∀f,f∈F'->f∈F∨ ∀W,f.2 W)->(∀f,f∈F->f∈F')->(∀f,f∈G->f∈G')->iK Ps P ops (Ext []) R1 m Ss Fin W0 rest i a F G->iK Ps P ops (Ext []) R1 m Ss Fin W0 rest i a F' G':=by
  intro rest
  induction rest with
  |nil=>
   intro i a F F' G G' h1 h2 h3 h W hW hF
   exact h W hW (fun f hf=>hF f (h2 f hf))
  |cons o rest ih=>
   intro i a F F' G G' h1 h2 h3 h
   have Hm: ∀W,UJ ops (Ext []) R1 m W0 F' G' i W->UJ ops (Ext []) R1 m W0 F G i W:=fun W hW=>⟨hW.1,fun f hf ha=>hW.2.1 f (h2 f hf) ha,fun hm f hf ha=>hW.2.2 hm f (h3 f hf) ha⟩
   have hcons: ∀(x:Nat×(World->Prop)) (A B:Facts),(∀f,f∈A->f∈B)-> ∀f,f∈x::A->f∈x::B:=by
    intro x A B hAB f hf
    rcases gK.1 hf with rfl|hf
    ·simp
    ·simp[hAB f hf]
   unfold iK RX.iK at h⊢
   cases hs:Ss.lookup i with
   |none=>
    simp only[hs] at h⊢
    obtain⟨v,hv,ht⟩:=h
    exact⟨v,hv.imp (fun x=>⟨x.1,fun W hW=>x.2 W (Hm W hW)⟩) id,ih _ _ _ _ _ _ h1 h2 h3 ht⟩
   |some s=>
    simp only[hs] at h⊢
    obtain⟨x1,x2,x3,x4,x5⟩:=h
    refine⟨x1,x2,fun W hW=>x3 W (Hm W hW),x4,fun v hv=>ih _ _ _ _ _ _ ?_ (hcons _ _ _ h2) (hcons _ _ _ h3) (x5 v hv)⟩
    intro f hf
    rcases gK.1 hf with rfl|hf
    ·exact .inl (by simp)
    ·exact(h1 f hf).imp (fun h=>by simp[h]) id
 unfold iK RX.iK
 simp only[hs]
 refine⟨hw,⟨v,rfl⟩,fun W hW=>?_,⟨fun _ _ _ _ _=>trivial,fun v' _ W' _ _=>hps _ _ _⟩,fun v' hv=>?_⟩
 ·refine Ue ?_
  unfold Does
  rw[he W (fun b off hb hm=>hW.ext.cell b off hb hm)]
  exact(hcall W hW.ext hW.2.1).mono fun e W' ⟨h1,h2⟩=>⟨v,h1,rfl,trivial,Mc (R1:=R1) (W0:=W0) (Ext.az h2),hps _ _ _⟩
 ·have:v'=v:=hv
  subst this
  refine mono _ _ _ _ _ _ _ ?_ ?_ ?_ ht
  ·intro f hf
   rcases gK.1 hf with rfl|hf
   ·exact .inr (fun _=>trivial)
   ·exact .inl hf
  ·intro f hf
   simp[hf]
  ·intro f hf
   simp[hf]
theorem bJ (s:Spec) (hs:Ss.lookup i=some s) (hw:Region.wanted o (yielded ops a.tmps)=true) (hex: ∃v,s.pure (nO o a) v)
 (hdo: ∀W:World,kT (Ext []) R1 m i W0 W->(∀f∈F,kM ops f.1 i=true->f.2 W)->Does P o a.eval W (fun v W'=>s.pure (nO o a) v/\s.world (nO o a) v W'/\xI (Ext []) R1 m i W W'))
 (hst: ∀v W W',s.world (nO o a) v W->kT (Ext []) R1 m i W W'->s.world (nO o a) v W')
 (ht: ∀v,s.pure (nO o a) v->iK Ps P ops (Ext []) R1 m Ss Fin W0 rest (i+1) (a.put o.dst v) ((i,s.world (nO o a) v)::F) ((i,Ps i (nO o a) v)::G)) (hps: ∀x v W,Ps i x v W:=by intro _ _ _;exact True.intro):iK Ps P ops (Ext []) R1 m Ss Fin W0 (o::rest) i a F G:=
 RX.bJ s hs hw hex (fun W a b=>Ue (hdo W a b)) hst ht hps
theorem kR (s:Spec) (hs:Ss.lookup i=some s) (hw:Region.wanted o (yielded ops a.tmps)=true) (hex: ∃v,s.pure (nO o a) v)
 (hdo: ∀W:World,kT (Ext []) R1 m i W0 W->(∀f∈F,kM ops f.1 i=true->f.2 W)->(m=some i-> ∀g∈G,kM ops g.1 i=true->g.2 W)->
   Does P o a.eval W (fun v W'=>s.pure (nO o a) v/\s.world (nO o a) v W'/\xI (Ext []) R1 m i W W'/\Ps i (nO o a) v W'))
 (hst: ∀v W W',s.world (nO o a) v W->kT (Ext []) R1 m i W W'->s.world (nO o a) v W') (hsp: ∀v W W',Ps i (nO o a) v W->Ext [] W W'->Ps i (nO o a) v W')
 (ht: ∀v,s.pure (nO o a) v->iK Ps P ops (Ext []) R1 m Ss Fin W0 rest (i+1) (a.put o.dst v) ((i,s.world (nO o a) v)::F) ((i,Ps i (nO o a) v)::G)):iK Ps P ops (Ext []) R1 m Ss Fin W0 (o::rest) i a F G:=by
 unfold iK RX.iK
 simp only[hs]
 exact⟨hw,hex,fun W hW=>Ue (hdo W hW.1 hW.2.1 hW.2.2),⟨hst,hsp⟩,ht⟩
theorem dG {ρ:Operand->Value} {W:World} {R:Value->World->Prop} (f:FuncId) (args:Array Value) (he:(execOp ρ o).run P W= .ok (.enter f args) W)
 (h:Calls P f args W (fun e W'=> ∃v,e= .returned v/\R v W')):Does P o ρ W R:=by
 unfold Does;rw[he];exact h
theorem jl {ρ:Operand->Value} {W W':World} {R:Value->World->Prop} (v:Value) (he:(execOp ρ o).run P W= .ok (.value v) W') (h:R v W'):Does P o ρ W R:=by
 unfold Does;rw[he];exact h
abbrev jZ:= @RX.jZ fun _ _=>False
abbrev cu:= @RX.cu fun _ _=>False
end
section
variable {P : Program} {ops : Array Oper} {R1 : World → World → Prop} {Ms : List Nat} {m : Option Nat} {Ss : List (Nat × Spec)} {Fin : Act → World → Prop} {W0 : World} {o : Oper} {rest : List Oper} {i : Nat} {a : Act} {F G : Facts} {Ps : uV}
theorem zd [Kept R1 Ms W0] {v:Value} (ht:iK Ps P ops (Ext []) R1 m Ss Fin W0 rest (i+1) (a.put o.dst v) F G) (hs:Ss.lookup i=none:=by rfl) (hw:Region.wanted o (yielded ops a.tmps)=true:=by rfl)
 (hr: ∀W:World,(∀b off,b<W0.heap.size->b∉Ms->W.cell? ⟨b,off,none⟩=W0.cell? ⟨b,off,none⟩)->(execOp a.eval o).run P W= .ok (.value v) W:=by
   intro W hW;go_simp;(try simp(disch:=omega) only[IntWalk.i64_in,Int.tdiv_eq_ediv_of_nonneg]);try rfl):iK Ps P ops (Ext []) R1 m Ss Fin W0 (o::rest) i a F G:=
 gq hs v hw hr ht
theorem zn [Kept R1 Ms W0] {v:Value} (ht:iK Ps P ops (Ext []) R1 m Ss Fin W0 rest (i+1) (a.put o.dst v) F G) (hs:Ss.lookup i=none:=by rfl) (hw:Region.wanted o (yielded ops a.tmps)=true:=by rfl)
 (hr: ∀W:World,(∀b off,b<W0.heap.size->b∉Ms->W.cell? ⟨b,off,none⟩=W0.cell? ⟨b,off,none⟩)->(execOp a.eval o).run P W= .ok (.value v) W:=by
   intro W hW;go_simp;(try simp(disch:=omega) only[IntWalk.i64_in]);try rfl):iK Ps P ops (Ext []) R1 m Ss Fin W0 (o::rest) i a F G:=
 gq hs v hw hr ht
theorem zk (ht:iK Ps P ops (Ext []) R1 m Ss Fin W0 rest (i+1) (a.put o.dst undef) F G) (hs:Ss.lookup i=none:=by rfl) (hw:Region.wanted o (yielded ops a.tmps)=false:=by rfl):iK Ps P ops (Ext []) R1 m Ss Fin W0 (o::rest) i a F G:=
 C9 hs hw ht
theorem zv [Kept R1 Ms W0] {v:Value} (f:FuncId) {args:Array Value} (hs:Ss.lookup i=some (Spec.val v):=by rfl) (hw:Region.wanted o (yielded ops a.tmps)=true:=by rfl)
 (he: ∀W:World,(∀b off,b<W0.heap.size->b∉Ms->W.cell? ⟨b,off,none⟩=W0.cell? ⟨b,off,none⟩)->(execOp a.eval o).run P W= .ok (.enter f args) W:=by
   intro W hW;go_simp;(try simp(disch:=omega) only[IntWalk.i64_in,Int.tdiv_eq_ediv_of_nonneg]);try rfl)
 (h: ∀W:World,Ext Ms W0 W->(∀f∈F,kM ops f.1 i=true->f.2 W)->Calls P f args W (fun e W'=>e= .returned v/\Below W.heap.size W W'))
 (t:iK Ps P ops (Ext []) R1 m Ss Fin W0 rest (i+1) (a.put o.dst v) F G) (hps: ∀x v W,Ps i x v W:=by intro _ _ _;exact True.intro):iK Ps P ops (Ext []) R1 m Ss Fin W0 (o::rest) i a F G:=
 dK v hs hw f args he h t hps
theorem zw [Kept R1 Ms W0] {v:Value} (f:FuncId) {args:Array Value} (hs:Ss.lookup i=some (Spec.val v):=by rfl) (hw:Region.wanted o (yielded ops a.tmps)=true:=by rfl)
 (he: ∀W:World,(∀b off,b<W0.heap.size->b∉Ms->W.cell? ⟨b,off,none⟩=W0.cell? ⟨b,off,none⟩)->(execOp a.eval o).run P W= .ok (.enter f args) W:=by
   intro W hW;go_simp;try rfl)
 (h: ∀W:World,Ext Ms W0 W->(∀f∈F,kM ops f.1 i=true->f.2 W)->Calls P f args W (fun e W'=>e= .returned v/\Below W.heap.size W W'))
 (t:iK Ps P ops (Ext []) R1 m Ss Fin W0 rest (i+1) (a.put o.dst v) F G) (hps: ∀x v W,Ps i x v W:=by intro _ _ _;exact True.intro):iK Ps P ops (Ext []) R1 m Ss Fin W0 (o::rest) i a F G:=
 dK v hs hw f args he h t hps
theorem zg {P:Program} {id:Nat} {ops:List Oper} {Q:Exit->Act->World->Prop} {a:Act} {w:World} (k:Nat) (Ms:List Nat) (m:Option Nat) (Ss:List (Nat×Spec))
 (h:iK OT P ops.toArray (Ext []) (Ext Ms) m Ss (fun a w=>wpList P ops.toArray Q (ops.drop k) a w) w (ops.take k) 0 a [] [])
 (hm:P.follows .mixedOrders=true:=by as_aux_lemma=>kernel_rfl) (hc:chk ops.toArray k=true:=by as_aux_lemma=>kernel_rfl):(Code.region id ops.toArray true).wp P Q a w:=
 gG k Ms m Ss hm hc h
end
end Go.RG
namespace Go
theorem zp:(∀(a:Act) (d:Tmp) (v:Value),a.put (some d) v={a with tmps:=a.tmps.setIfInBounds d v})/\(∀(a:Act) (v:Value),a.put none v=a)/\
 (∀(l:List Value) (i:Nat) (v:Value),l.toArray.setIfInBounds i v=(l.set i v).toArray)/\(∀(x:Value) (xs:List Value) (n:Nat) (v:Value),(x::xs).set (n+1) v=x::xs.set n v)/\(∀(x:Value) (xs:List Value) (v:Value),(x::xs).set 0 v=v::xs):=
 ⟨fun _ _ _=>rfl,fun _ _=>rfl,fun _ _ _=>uD ..,fun _ _ _ _=>rfl,fun _ _ _=>rfl⟩
theorem zt:(∀(i:Nat) (x:Oper) (xs:List Oper),List.take (i+1) (x::xs)=x::List.take i xs)/\(∀xs:List Oper,List.take 0 xs=[])/\
 (∀(i:Nat) (x:Oper) (xs:List Oper),List.drop (i+1) (x::xs)=List.drop i xs)/\(∀xs:List Oper,List.drop 0 xs=xs):=
 ⟨fun _ _ _=>rfl,fun _=>rfl,fun _ _ _=>rfl,fun _=>rfl⟩
end Go
end

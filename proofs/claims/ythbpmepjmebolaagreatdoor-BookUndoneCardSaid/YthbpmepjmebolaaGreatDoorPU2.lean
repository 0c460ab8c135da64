/-
  Texts of this claim, packed by a program: Math MA VA Region.
-/
import Derived.Test.YthbpmepjmebolaaGreatDoorPU0
import Derived.WalkKit
import Derived.WalkLawsBesides
import Derived.WalkSpells
import Derived.Outline
import Derived.Handy
import Derived.KernelRfl
import Derived.Lib.Hide
import Derived.Orders
import Derived.OrdersIn
import Derived.Below
import Derived.Tactics
set_option maxHeartbeats 8000000
set_option maxRecDepth 100000
set_option linter.all false
section
namespace jv
abbrev dX:=Int×Int
abbrev Fe:=Int×Int×Int
structure df where
 last:Int
 size:Int
 bg:Int
 die:Int
 uK:Int
 start:dX
 bW:List dX
 turns:List Int
 readings:List Fe
def ou (n lo hi:Int):Bool:=decide (lo<=n)&&decide (n<=hi)
def wH (r:dX) (hi:Int):Bool:=decide (0<=r.1)&&decide (r.1<=r.2)&&decide (r.2<=hi)
def yY (last:Int):Int->List Int->Bool
 |_,[]=>true
 |p,n::l=>ou n (p+1) last&&yY last n l
def oJ (last:Int) (l:List Int):Bool:=yY last (-1) l
def Bo (last:Int) (x:Fe):Bool:=ou x.1 0 last&&ou x.2.1 0 1000&&ou x.2.2 0 50
def fP (h:df):Bool:=
 decide (0<=h.last)&&ou h.size 0 20&&ou h.bg 0 100&&decide (0<=h.die)&&ou h.uK h.die 500&&wH h.start 500
def valid (h:df):Bool:=
 fP h&&decide ((h.bW.length:Int)=h.last+1)&&oJ h.last h.turns&&h.bW.all (wH · 20)&&h.readings.all (Bo h.last)
def eH (r:dX):Int:=r.2-r.1+1
def uD (l:List dX):Int:=l.foldr (fun r n=>eH r*n) 1
def wz (h:df):Int:=
 if 9<h.last∨5<h.readings.length then 3 else if valid h=false then 1 else if 2000<uD (h.start::h.bW) then 3 else 0
def mG (bg n:Int) (turned:Bool):Int:=if turned then n-n*bg/100 else n
def Zb (size bg:Int) (turns:List Int) (i:Nat) (n w:Int):Int:=mG bg n (turns.contains (i:Int))+size*w/10
def qW (size bg:Int) (turns:List Int) (start:Int) (bW:List Int):Nat->Int
 |0=>start
 |k+1=>Zb size bg turns k (qW size bg turns start bW k) (bW.getD k 0)
def qH (size bg:Int) (turns:List Int) (start:Int) (bW:List Int) (n:Nat):List Int:=
 (List.range 10).map fun j=>if j<n then qW size bg turns start bW (j+1) else 0
def lK (h:df) (t:Int×List Int) (turns:List Int):List Int:=qH h.size h.bg turns t.1 t.2 t.2.length
def Dc (x:Fe) (l:List Int):Bool:=ou (l.getD x.1.toNat 0-x.2.1) (-x.2.2) x.2.2
def sW (r:dX):List Int:=(List.range (eH r).toNat).map fun(k:Nat)=>r.1+(k:Int)
def fM:List dX->List (List Int)
 |[]=>[[]]
 |r::rs=>(sW r).flatMap fun x=>(fM rs).map (x:: ·)
def aa3 (last p:Int) (l:List Int) (k:Nat):Bool:=ou (l.getD k 0) ((p::l).getD k 0+1) last
theorem IW (last:Int): ∀(l:List Int) (p:Int),yY last p l=(List.range l.length).all (aa3 last p l):=by
 intro l
 induction l with
 |nil=>intro p;rfl
 |cons n l ih=>
  intro p
  rw[List.length_cons,List.range_succ_eq_map,List.all_cons,List.all_map,yY,ih n]
  congr 1
theorem XV (last:Int) (h0:0<=last) (l:List Int): ∀k,(∀j,j<k->aa3 last (-1) l j=true)->k<=l.length-> -1<=((-1:Int)::l).getD k 0/\((-1:Int)::l).getD k 0<=last:=by
 intro k
 induction k with
 |zero=>intro _ _;simp;omega
 |succ k ih=>
  intro h hk
  have h1:=h k (by omega)
  have h2:=ih (fun j hj=>h j (by omega)) (by omega)
  simp only[aa3,ou,fH,eY] at h1
  rw[List.getD_cons_succ]
  omega
theorem jJ {α:Type} (l:List α) (p:α->Bool):(if l.any (fun k=>!p k) then false else true)=l.all p:=by
 rw[List.all_eq_not_any_not]
 cases l.any (fun k=>!p k) <;>rfl
def rQ (m:Int) (r:dX):Int:=min (m*eH r) 2001
def uV (l:List dX) (k:Nat):Int:=(l.take k).foldl rQ 1
theorem Ik (l:List dX) (k:Nat) (hk:k<l.length):uV l (k+1)=rQ (uV l k) l[k]:=by
 unfold uV
 rw[iE hk,List.foldl_append]
 rfl
theorem Oc (l:List dX) (h: ∀r∈l,1<=eH r):1<=uD l:=by
 induction l with
 |nil=>simp[uD]
 |cons r l ih=>
  have h1:=h r (by simp)
  have h2:=ih (fun x hx=>h x (by simp[hx]))
  show 1<=eH r*uD l
  have:=Int.mul_le_mul h1 h2 (by omega) (by omega)
  omega
theorem Qg (l:List dX) (h: ∀r∈l,1<=eH r): ∀m,1<=m->m<=2001->l.foldl rQ m=min (m*uD l) 2001:=by
 induction l with
 |nil=>intro m h1 h2;simp[uD];omega
 |cons r l ih=>
  intro m h1 h2
  have hr:=h r (by simp)
  have hp:=Oc l (fun x hx=>h x (by simp[hx]))
  rw[List.foldl_cons]
  have hm:1<=m*eH r:=by have:=Int.mul_le_mul h1 hr (by omega) (by omega);omega
  rw[ih (fun x hx=>h x (by simp[hx])) _ (by unfold rQ;omega) (by unfold rQ;omega)]
  show min (rQ m r*uD l) 2001=min (m*(eH r*uD l)) 2001
  rw[<-Int.mul_assoc]
  unfold rQ
  by_cases hc:m*eH r<=2001
  ·rw[Int.min_eq_left hc]
  ·have h3:2001<=m*eH r*uD l:=by have:=Int.mul_le_mul (show(2001:Int)<=m*eH r by omega) hp (by omega) (by omega);omega
   have h4:2001<=2001*uD l:=by omega
   rw[Int.min_eq_right (show 2001<=m*eH r by omega)]
   omega
theorem Qh (l:List dX) (h: ∀r∈l,1<=eH r) (k:Nat):1<=uV l k/\uV l k<=2001:=by
 unfold uV
 have ht: ∀r∈l.take k,1<=eH r:=fun r hr=>h r (pW hr)
 rw[Qg _ ht 1 (by omega) (by omega)]
 have:=Oc _ ht
 omega
theorem KC (l:List dX) (h: ∀r∈l,1<=eH r):(2000<uV l l.length)↔2000<uD l:=by
 unfold uV
 rw[List.take_length,Qg _ h 1 (by omega) (by omega)]
 omega
theorem yx {r:dX} {n:Int} (h:wH r n=true):0<=r.1/\r.1<=r.2/\r.2<=n/\1<=eH r/\eH r<=n+1:=by
 simp only[wH,fH,eY] at h
 unfold eH
 omega
theorem KA {bg n:Int} (hc0:0<=bg) (hc1:bg<=100) (hn:0<=n) (t:Bool):0<=mG bg n t/\mG bg n t<=n:=by
 unfold mG
 cases t
 ·simp;omega
 ·simp only[if_true]
  have h1:0<=n*bg:=Int.mul_nonneg hn hc0
  have h2:n*bg<=n*100:=Int.mul_le_mul_of_nonneg_left hc1 hn
  omega
theorem J9 {size bg:Int} (turns:List Int) {start:Int} (bW:List Int) (hs0:0<=size) (hs1:size<=20) (hc0:0<=bg) (hc1:bg<=100) (h0:0<=start) (h1:start<=500) (hw: ∀x∈bW,0<=x/\x<=20):
 ∀k:Nat,0<=qW size bg turns start bW k/\qW size bg turns start bW k<=500+40*k:=by
 intro k
 induction k with
 |zero=>simp[qW];omega
 |succ k ih=>
  have hb:=KA hc0 hc1 ih.1 (turns.contains (k:Int))
  have hx:0<=bW.getD k 0/\bW.getD k 0<=20:=by
   by_cases hk:k<bW.length
   ·rw[iF,dP hk];exact hw _ (cZ _)
   ·rw[iF,List.getElem?_eq_none (by omega)];simp
  have h2:0<=size*bW.getD k 0:=Int.mul_nonneg hs0 hx.1
  have h3:size*bW.getD k 0<=20*20:=Int.mul_le_mul hs1 hx.2 hx.1 (by omega)
  simp only[qW,Zb]
  generalize bW.getD k 0=x at*
  generalize size*x=y at*
  push_cast
  omega
theorem lh (size bg:Int) (turns:List Int) (start:Int) (bW:List Int) (n:Nat):(qH size bg turns start bW n).length=10:=by simp[qH]
theorem Me (size bg:Int) (turns:List Int) (start:Int) (bW:List Int) (n:Nat) (_hn:n<10):
 qH size bg turns start bW (n+1)=(qH size bg turns start bW n).set n (qW size bg turns start bW (n+1)):=by
 apply List.ext_getElem
 ·simp[qH]
 ·intro i h1 h2
  have hi:i<10:=by simpa [qH] using h1
  simp only[qH,List.getElem_map,List.getElem_range,List.getElem_set]
  by_cases e:n=i
  ·subst e;simp
  ·rw[ai e]
   by_cases h:i<n
   ·rw[aA h,aA (by omega)]
   ·rw[ai h,ai (by omega)]
theorem O8 {h:df} {t:Int×List Int} (turns:List Int) (hs0:0<=h.size) (hs1:h.size<=20) (hc0:0<=h.bg) (hc1:h.bg<=100) (h0:0<=t.1) (h1:t.1<=500) (hw: ∀x∈t.2,0<=x/\x<=20) (_hl:t.2.length<=10):
 ∀x∈lK h t turns,0<=x/\x<=900:=by
 intro x hx
 obtain⟨j,hj,rfl⟩:=iZ.1 hx
 have hj':j<10:=by simpa using hj
 split
 ·have:=J9 turns t.2 hs0 hs1 hc0 hc1 h0 h1 hw (j+1)
  omega
 ·omega
theorem CY {α:Type} {l:List α} (h:l.length=10): ∃a b c d e f g i j k,l=[a,b,c,d,e,f,g,i,j,k]:=by
 match l,h with
 |[a,b,c,d,e,f,g,i,j,k],_=>exact⟨a,b,c,d,e,f,g,i,j,k,rfl⟩
structure Sound (h:df):Prop where
 J3:0<=h.last
 BF:h.last<=9
 NS:0<=h.size
 NR:h.size<=20
 PM:0<=h.bg
 PL:h.bg<=100
 aqu:0<=h.die
 anZ:h.die<=h.uK
 anY:h.uK<=500
 Ze:0<=h.start.1
 Zd:h.start.1<=h.start.2
 Zc:h.start.2<=500
 FZ:(h.bW.length:Int)=h.last+1
 turns:oJ h.last h.turns=true
 bW: ∀r∈h.bW,0<=r.1/\r.1<=r.2/\r.2<=20
 rdg: ∀x∈h.readings,(0<=x.1/\x.1<=h.last)/\(0<=x.2.1/\x.2.1<=1000)/\0<=x.2.2/\x.2.2<=50
 aj9:h.readings.length<=5
 many:uD (h.start::h.bW)<=2000
theorem Gf {h:df} (hf:wz h=0):Sound h:=by
 unfold wz at hf
 split at hf
 ·omega
 ·split at hf
  ·omega
  ·split at hf
   ·omega
   ·rename_i h1 h2 h3
    have h2':valid h=true:=by simpa using h2
    simp only[valid,fP,wH,ou,fH,eY,jR] at h2'
    obtain⟨⟨⟨⟨⟨⟨⟨⟨⟨a1,a2⟩,a3⟩,a4⟩,a5⟩,a6⟩,a7⟩,a8⟩,a9⟩,a10⟩:=h2'
    refine⟨a1,by omega,a2.1,a2.2,a3.1,a3.2,a4,a5.1,a5.2,a6.1.1,a6.1.2,a6.2,a7,a8,fun r hr=>?_,fun x hx=>?_,by omega,by omega⟩
    ·have:=a9 r hr;exact⟨this.1.1,this.1.2,this.2⟩
    ·have:=a10 x hx
     simp only[Bo,ou,fH,eY] at this
     exact⟨this.1.1,this.1.2,this.2⟩
theorem acK {α β:Type} (f:α->List β) (sz:Nat) (hf: ∀x,(f x).length=sz): ∀(l:List α) (k j:Nat) (hk:k<l.length),j<sz->(l.flatMap f)[k*sz+j]? =(f l[k])[j]? :=by
 intro l
 induction l with
 |nil=>intro k j hk;simp at hk
 |cons x l ih=>
  intro k j hk hj
  cases k with
  |zero=>simp[List.flatMap_cons,vH (show j<(f x).length by rw[hf];exact hj)]
  |succ k=>
   have e:(k+1)*sz+j=(f x).length+(k*sz+j):=by rw[hf,Nat.add_mul];omega
   rw[List.flatMap_cons,e,nK (by omega),Nat.add_sub_cancel_left,ih k j (by simpa using hk) hj]
   rfl
theorem zS (r:dX):(sW r).length=(eH r).toNat:=by simp[sW]
theorem RH (r:dX) (c:Nat) (hc:c<(sW r).length):(sW r)[c]=r.1+(c:Int):=by simp[sW]
theorem Bl (r:dX) (rs:List dX):(fM (r::rs)).length=(eH r).toNat*(fM rs).length:=by
 rw[fM,List.length_flatMap]
 simp only[lN,List.map_const',List.sum_replicate_nat]
 rw[zS]
theorem Wi (r:dX) (rs:List dX) (c j:Nat) (hc:c<(eH r).toNat) (hj:j<(fM rs).length):
 (fM (r::rs))[c*(fM rs).length+j]? =some ((r.1+(c:Int))::(fM rs)[j]):=by
 rw[fM,acK _ (fM rs).length (fun x=>by simp) (sW r) c j (by rw[zS];exact hc) hj,RH]
 simp[hj]
theorem Wh: ∀(rs:List dX), ∀x∈fM rs,x.length=rs.length:=by
 intro rs
 induction rs with
 |nil=>intro x hx;simp[fM] at hx;subst hx;rfl
 |cons r rs ih=>
  intro x hx
  simp only[fM,qB,iZ] at hx
  obtain⟨y,_,z,hz,rfl⟩:=hx
  simp[ih z hz]
def jK (R:List dX) (i k:Nat) (pre:List Int):Prop:= ∀j s,(fM (R.drop i))[j]? =some s->(fM R)[k+j]? =some (pre++s)
theorem jK.zero (R:List dX):jK R 0 0 []:=fun j s h=>by simpa using h
theorem jK.next {R:List dX} {i k:Nat} {pre:List Int} (h:jK R i k pre) (hi:i<R.length) (c:Nat) (hc:c<(eH R[i]).toNat):
 jK R (i+1) (k+c*(fM (R.drop (i+1))).length) (pre++[R[i].1+(c:Int)]):=by
 intro j s hs
 obtain⟨hj,rfl⟩:=ji.1 hs
 have:=h (c*(fM (R.drop (i+1))).length+j) _ (by rw[AX hi];exact Wi _ _ c j hc hj)
 rw[Nat.add_assoc,this]
 simp
theorem jK.count {R:List dX} {i:Nat} (hi:i<R.length):(fM (R.drop i)).length=(eH R[i]).toNat*(fM (R.drop (i+1))).length:=by
 rw[AX hi,Bl]
theorem jK.last {R:List dX} {i k:Nat} {pre:List Int} (h:jK R i k pre) (hi:i=R.length):(fM (R.drop i)).length=1/\ ∃hk:k<(fM R).length,(fM R)[k]=pre:=by
 have e:R.drop i=[]:=List.drop_eq_nil_of_le (by omega)
 rw[e]
 have:=h 0 [] (by rw[e];rfl)
 simp only[Nat.add_zero,List.append_nil] at this
 obtain⟨hk,hx⟩:=ji.1 this
 exact⟨rfl,hk,hx⟩
def VR (l:List Int):Int×List Int:=(l.headD 0,l.tail)
def RY (h:df) (out:List Int) (t:Int×List Int) (i:Nat):Bool:=out.contains (i:Int) ||Dc (h.readings.getD i (0,0,0)) (lK h t h.turns)
def okT (h:df) (out:List Int) (t:Int×List Int):Bool:=(List.range h.readings.length).all (RY h out t)
def qZ (h:df):List (List Int):=fM (h.start::h.bW)
def dW (h:df) (out:List Int):List (Int×List Int):=((qZ h).filter fun l=>okT h out (VR l)).map VR
def cnt (h:df) (out:List Int) (k:Nat):Nat:=(((qZ h).take k).filter fun l=>okT h out (VR l)).length
theorem acR (h:df) (out:List Int):cnt h out (qZ h).length=(dW h out).length:=by
 unfold cnt dW
 rw[List.take_length,lN]
theorem ae8 {h:df} {out:List Int} {k:Nat} (hk:k<(qZ h).length) (hp:okT h out (VR (qZ h)[k])=false):cnt h out (k+1)=cnt h out k:=by
 unfold cnt
 rw[iE hk,List.filter_append,dA]
 simp[hp]
theorem acQ {h:df} {out:List Int} {k:Nat} (hk:k<(qZ h).length) (hp:okT h out (VR (qZ h)[k])=true):cnt h out (k+1)=cnt h out k+1:=by
 unfold cnt
 rw[iE hk,List.filter_append,dA]
 simp[hp]
theorem Dv {α β:Type} (p:α->Bool) (f:α->β): ∀(l:List α) (k:Nat) (hk:k<l.length),p l[k]=true->((l.filter p).map f)[((l.take k).filter p).length]? =some (f l[k]):=by
 intro l
 induction l with
 |nil=>intro k hk;simp at hk
 |cons x l ih=>
  intro k hk hp
  cases k with
  |zero=>
   have hp':p x=true:=hp
   simp[hp']
  |succ k=>
   have:=ih k (by simpa using hk) hp
   by_cases hx:p x=true
   ·simp only[List.filter_cons,hx,if_true,List.map_cons,List.take_succ_cons,List.length_cons,List.getElem?_cons_succ,List.getElem_cons_succ]
    exact this
   ·simp only[List.filter_cons,hx,if_false,List.take_succ_cons,List.getElem_cons_succ,Bool.false_eq_true]
    exact this
theorem Q4 {h:df} {out:List Int} {k:Nat} (hk:k<(qZ h).length) (hp:okT h out (VR (qZ h)[k])=true):
 ∃hc:cnt h out k<(dW h out).length,(dW h out)[cnt h out k]=VR (qZ h)[k]:=by
 have:=Dv (fun l=>okT h out (VR l)) VR (qZ h) k hk hp
 obtain⟨hc,hx⟩:=ji.1 this
 exact⟨hc,hx⟩
theorem Dk: ∀(rs:List dX) (x:List Int),x∈fM rs->x.length=rs.length/\ ∀i,i<rs.length->(rs.getD i (0,0)).1<=x.getD i 0/\x.getD i 0<=(rs.getD i (0,0)).2:=by
 intro rs
 induction rs with
 |nil=>intro x hx;simp[fM] at hx;subst hx;exact⟨rfl,fun i hi=>by simp at hi⟩
 |cons r rs ih=>
  intro x hx
  simp only[fM,qB,iZ] at hx
  obtain⟨y,hy,z,hz,rfl⟩:=hx
  obtain⟨h1,h2⟩:=ih z hz
  refine⟨by simp[h1],fun i hi=>?_⟩
  cases i with
  |zero=>
   obtain⟨c,hc,rfl⟩:=iZ.1 hy
   have:c<(eH r).toNat:=by simpa using hc
   unfold eH at this
   simp
   omega
  |succ i=>simpa using h2 i (by simpa using hi)
theorem GL {h:df} (hS:Sound h) {x:List Int} (hx:x∈qZ h): ∃s rest,x=s::rest/\rest.length=h.bW.length/\(0<=s/\s<=500)/\ ∀y∈rest,0<=y/\y<=20:=by
 obtain⟨hl,hb⟩:=Dk _ _ hx
 cases x with
 |nil=>simp at hl
 |cons s rest=>
  have h0:=hb 0 (by simp)
  simp at h0
  have:=hS.Ze
  have:=hS.Zc
  refine⟨s,rest,rfl,by simpa using hl,by omega,fun y hy=>?_⟩
  obtain⟨i,hi,rfl⟩:=mJ hy
  have hi':i<h.bW.length:=by simp at hl;omega
  have h1:=hb (i+1) (by simpa using hi')
  simp only[List.getD_cons_succ] at h1
  rw[show rest.getD i 0=rest[i] from by simp[hi],show h.bW.getD i (0,0)=h.bW[i] from by simp[hi']] at h1
  have:=hS.bW _ (cZ hi')
  omega
def jO (below:Nat):Nat->Nat->List (List Int)
 |0,_=>[[]]
 |m+1,f=>(List.range (below-m-f)).flatMap fun j=>(jO below m (f+j+1)).map fun x=>((f+j:Nat):Int)::x
def nR (below:Nat) (p:List Int->Bool):Option (List Int):=((List.range (below+1)).flatMap fun m=>jO below m 0).find? p
theorem qY {α β:Type} (p:β->Bool) (f:α->List β): ∀(l:List α) (k:Nat) (hk:k<l.length) (c:β),(∀j (hj:j<k),(f (l[j]'(by omega))).find? p=none)->(f l[k]).find? p=some c->(l.flatMap f).find? p=some c:=by
 intro l
 induction l with
 |nil=>intro k hk;simp at hk
 |cons x l ih=>
  intro k hk c h1 h2
  rw[List.flatMap_cons,List.find?_append]
  cases k with
  |zero=>
   have h2':(f x).find? p=some c:=h2
   rw[h2'];rfl
  |succ k=>
   have h0:(f x).find? p=none:=h1 0 (by omega)
   rw[h0]
   exact ih k (by simpa using hk) c (fun j hj=>h1 (j+1) (by omega)) h2
theorem tZ {α β:Type} (p:β->Bool) (f:α->List β) (l:List α) (h: ∀j (hj:j<l.length),(f l[j]).find? p=none):(l.flatMap f).find? p=none:=by
 rw[List.find?_eq_none]
 intro x hx
 obtain⟨y,hy,hxy⟩:=qB.1 hx
 obtain⟨j,hj,rfl⟩:=mJ hy
 have:=h j hj
 rw[List.find?_eq_none] at this
 exact this x hxy
def Inc (below:Nat):Nat->List Int->Prop
 |_,[]=>True
 |f,a::x=> ∃n:Nat,a=n/\f<=n/\n<below/\Inc below (n+1) x
theorem Inc.len {below:Nat}: ∀(x:List Int) (f:Nat),Inc below f x->x.length<=below-f:=by
 intro x
 induction x with
 |nil=>intro f _;simp
 |cons a x ih=>
  rintro f ⟨n,_,h1,h2,h3⟩
  have:=ih _ h3
  simp only[List.length_cons]
  omega
theorem rZ {below:Nat}: ∀(m f:Nat) (x:List Int),x∈jO below m f↔x.length=m/\Inc below f x:=by
 intro m
 induction m with
 |zero=>
  intro f x
  simp only[jO,eU]
  constructor
  ·rintro rfl;exact⟨rfl,trivial⟩
  ·rintro⟨h,_⟩;exact kD h
 |succ m ih=>
  intro f x
  simp only[jO,qB,lM,iZ]
  constructor
  ·rintro⟨j,hj,y,hy,rfl⟩
   obtain⟨h1,h2⟩:=(ih _ _).1 hy
   exact⟨by simp[h1],f+j,rfl,by omega,by omega,h2⟩
  ·rintro⟨hl,hi⟩
   cases x with
   |nil=>simp at hl
   |cons a x=>
    obtain⟨n,rfl,h1,h2,h3⟩:=hi
    have:=h3.len
    simp only[List.length_cons] at hl
    refine⟨n-f,by omega,x,(ih _ _).2 ⟨by omega,?_⟩,?_⟩
    ·rw[show f+(n-f)+1=n+1 by omega];exact h3
    ·rw[show f+(n-f)=n by omega]
def before:List Int->List Int->Bool
 |[],b=>!b.isEmpty
 |_::_,[]=>false
 |x::a,y::b=>if x=y then before a b else decide (x<y)
def oH (a b:List Int):Bool:=decide (a.length<b.length) ||(decide (a.length=b.length)&&before a b)
theorem before_irrefl: ∀a,before a a=false:=by
 intro a
 induction a with
 |nil=>rfl
 |cons x a ih=>simp[before,ih]
theorem MV: ∀a b,before a b=true->before b a=false:=by
 intro a
 induction a with
 |nil=>intro b h;cases b <;>simp[before] at h⊢
 |cons x a ih=>
  intro b h
  cases b with
  |nil=>simp[before] at h
  |cons y b=>
   simp only[before] at h⊢
   by_cases e:x=y
   ·subst e;simp only[if_true] at h⊢;exact ih _ h
   ·rw[ai e] at h;rw[ai (fun e'=>e e'.symm)]
    simp only[eY,decide_eq_false_iff_not] at h⊢;omega
theorem Gg (a:List Int):oH a a=false:=by simp[oH,before_irrefl]
theorem I4 {a b:List Int} (h:oH a b=true):oH b a=false:=by
 simp only[oH,Bool.or_eq_true,fH,eY,Bool.or_eq_false_iff,Bool.and_eq_false_iff,decide_eq_false_iff_not] at h⊢
 rcases h with h|⟨h,hb⟩
 ·exact⟨by omega,.inl (by omega)⟩
 ·exact⟨by omega,.inr (MV _ _ hb)⟩
theorem TC {α:Type} (R:α->α->Prop) (p:α->Bool): ∀(l:List α),l.Pairwise R-> ∀c,l.find? p=some c->p c=true/\c∈l/\ ∀x∈l,p x=true->x=c∨R c x:=by
 intro l
 induction l with
 |nil=>intro _ c h;simp at h
 |cons y l ih=>
  intro hp c h
  rw[List.pairwise_cons] at hp
  rw[List.find?_cons] at h
  cases hy:p y with
  |true=>
   rw[hy] at h
   cases h
   refine⟨hy,by simp,fun x hx _=>?_⟩
   rcases iy.1 hx with rfl|hx
   ·exact .inl rfl
   ·exact .inr (hp.1 _ hx)
  |false=>
   rw[hy] at h
   obtain⟨h1,h2,h3⟩:=ih hp.2 c h
   refine⟨h1,by simp[h2],fun x hx hpx=>?_⟩
   rcases iy.1 hx with rfl|hx
   ·rw[hy] at hpx;cases hpx
   ·exact h3 x hx hpx
theorem vC {α β:Type} (R:β->β->Prop) (f:α->List β): ∀(l:List α),(∀x∈l,(f x).Pairwise R)->l.Pairwise (fun x y=> ∀a∈f x, ∀b∈f y,R a b)->(l.flatMap f).Pairwise R:=by
 intro l
 induction l with
 |nil=>intro _ _;simp
 |cons x l ih=>
  intro h1 h2
  rw[List.pairwise_cons] at h2
  rw[List.flatMap_cons,List.pairwise_append]
  refine⟨h1 x (by simp),ih (fun y hy=>h1 y (by simp[hy])) h2.2,fun a ha b hb=>?_⟩
  obtain⟨y,hy,hby⟩:=qB.1 hb
  exact h2.1 y hy a ha b hby
theorem MM (below:Nat): ∀(m f:Nat),(jO below m f).Pairwise fun a b=>before a b=true:=by
 intro m
 induction m with
 |zero=>intro f;simp[jO]
 |succ m ih=>
  intro f
  unfold jO
  refine vC _ _ _ (fun j _=>?_) ?_
  ·rw[List.pairwise_map]
   exact(ih (f+j+1)).imp fun h=>by simpa [before] using h
  ·refine List.pairwise_lt_range.imp fun {i j} hij=>?_
   intro a ha b hb
   obtain⟨x,_,rfl⟩:=iZ.1 ha
   obtain⟨y,_,rfl⟩:=iZ.1 hb
   simp only[before]
   rw[ai (by omega)]
   simp;omega
theorem Fh (below:Nat):((List.range (below+1)).flatMap fun m=>jO below m 0).Pairwise fun a b=>oH a b=true:=by
 refine vC _ _ _ (fun m _=>?_) ?_
 ·refine List.Pairwise.imp_of_mem ?_ (MM below m 0)
  intro a b ha hb h
  simp[oH,((rZ _ _ _).1 ha).1,((rZ _ _ _).1 hb).1,h]
 ·refine List.pairwise_lt_range.imp fun {i j} hij=>?_
  intro a ha b hb
  simp[oH,((rZ _ _ _).1 ha).1,((rZ _ _ _).1 hb).1,hij]
theorem wP (below:Nat) (x:List Int):x∈((List.range (below+1)).flatMap fun m=>jO below m 0)↔Inc below 0 x:=by
 rw[qB]
 constructor
 ·rintro⟨m,_,h⟩;exact((rZ _ _ _).1 h).2
 ·intro h
  have:=h.len
  exact⟨x.length,by simp;omega,(rZ _ _ _).2 ⟨rfl,h⟩⟩
theorem NU {below:Nat} {p:List Int->Bool} {c:List Int} (h:nR below p=some c):p c=true/\Inc below 0 c/\ ∀x,Inc below 0 x->p x=true->oH x c=false:=by
 obtain⟨h1,h2,h3⟩:=TC _ p _ (Fh below) c h
 refine⟨h1,(wP _ _).1 h2,fun x hx hp=>?_⟩
 rcases h3 x ((wP _ _).2 hx) hp with rfl|hr
 ·exact Gg _
 ·exact I4 hr
theorem NV {below:Nat} {p:List Int->Bool} (h:nR below p=none): ∀x,Inc below 0 x->p x=false:=by
 intro x hx
 unfold nR at h
 rw[List.find?_eq_none] at h
 simpa using h x ((wP _ _).2 hx)
def lW (acc:List (List Int)) (x:List Int):List (List Int):=if acc.getLast? =some x then acc else acc++[x]
def jI (h:df) (turns:List Int):List (List Int):=(dW h []).foldl (fun acc t=>lW acc (lK h t turns)) []
def jw (h:df) (turns:List Int) (k:Nat):List (List Int):=((dW h []).take k).foldl (fun acc t=>lW acc (lK h t turns)) []
theorem BP {h:df} {turns:List Int} {k:Nat} (hk:k<(dW h []).length):jw h turns (k+1)=lW (jw h turns k) (lK h (dW h [])[k] turns):=by
 unfold jw
 rw[iE hk,List.foldl_append]
 rfl
theorem yK (h:df) (turns:List Int):jw h turns (dW h []).length=jI h turns:=by unfold jw;rw[List.take_length];rfl
theorem WG (acc:List (List Int)) (x y:List Int):y∈lW acc x↔y∈acc∨y=x:=by
 unfold lW
 split
 ·rename_i h
  constructor
  ·exact .inl
  ·rintro(h1|rfl)
   ·exact h1
   ·exact List.mem_of_getLast? h
 ·simp
theorem BB {α:Type} (f:α->List Int): ∀(l:List α) (acc:List (List Int)) (y:List Int),y∈l.foldl (fun acc t=>lW acc (f t)) acc↔y∈acc∨ ∃t∈l,y=f t:=by
 intro l
 induction l with
 |nil=>intro acc y;simp
 |cons a l ih=>
  intro acc y
  rw[List.foldl_cons,ih,WG]
  simp only[iy,exists_eq_or_imp,or_assoc]
theorem Gz (h:df) (turns:List Int) (y:List Int):y∈jI h turns↔ ∃t∈dW h [],y=lK h t turns:=by
 unfold jI;rw[BB];simp
theorem Oz {h:df} {turns:List Int} {k:Nat} {y:List Int} (hy:y∈jw h turns k): ∃t∈dW h [],y=lK h t turns:=by
 unfold jw at hy
 rw[BB] at hy
 simp only[List.not_mem_nil,false_or] at hy
 obtain⟨t,ht,rfl⟩:=hy
 exact⟨t,pW ht,rfl⟩
theorem EW {h:df} {turns:List Int} {k:Nat}: ∀y∈jw h turns k,y.length=10:=by
 intro y hy
 obtain⟨t,_,rfl⟩:=Oz hy
 exact lh _ _ _ _ _ _
theorem Hy {h:df} {turns:List Int}: ∀y∈jI h turns,y.length=10:=by
 rw[<-yK];exact EW
theorem JD (acc:List (List Int)) (x:List Int):(lW acc x).length<=acc.length+1:=by
 unfold lW;split <;>simp
theorem EX (h:df) (turns:List Int): ∀k,(jw h turns k).length<=k:=by
 intro k
 induction k with
 |zero=>simp[jw]
 |succ k ih=>
  by_cases hk:k<(dW h []).length
  ·rw[BP hk]
   have:=JD (jw h turns k) (lK h (dW h [])[k] turns)
   omega
  ·have e:jw h turns (k+1)=jw h turns k:=by
    unfold jw;rw[kL (by omega),kL (by omega)]
   rw[e];omega
theorem TI (h:df) (turns:List Int):(jI h turns).length<=(dW h []).length:=by
 rw[<-yK];exact EX _ _ _
theorem TG {h:df} {turns:List Int} (hn:dW h []≠[]):jI h turns≠[]:=by
 intro he
 obtain⟨t,ht⟩:=List.exists_mem_of_ne_nil _ hn
 have:=(Gz h turns (lK h t turns)).2 ⟨t,ht,rfl⟩
 rw[he] at this
 cases this
theorem yt (rs:List dX) (hr: ∀r∈rs,1<=eH r):((fM rs).length:Int)=uD rs:=by
 induction rs with
 |nil=>rfl
 |cons r rs ih=>
  rw[Bl]
  have h1:=hr r (by simp)
  have ih':=ih (fun x hx=>hr x (by simp[hx]))
  show(((eH r).toNat*(fM rs).length:Nat):Int)=eH r*uD rs
  rw[Int.natCast_mul,ih',Int.toNat_of_nonneg (by omega)]
theorem xZ {h:df} (hS:Sound h) (out:List Int):(dW h out).length<=2000:=by
 have h1:(dW h out).length<=(qZ h).length:=by unfold dW;rw[lN];exact List.length_filter_le _ _
 have h2:=yt (h.start::h.bW) (fun r hr=>by
  rcases iy.1 hr with rfl|hr
  ·have:=hS.Zd;unfold eH;omega
  ·have:=hS.bW r hr;unfold eH;omega)
 have h3:=hS.many
 unfold qZ at h1
 omega
def wid (r:dX) (x:Int):dX:=(min r.1 x,max r.2 x)
def fB (n k:Nat) (R:List dX) (l:List Int) (i:Nat):List dX:=
 if k=0 then(List.range i).map fun j=>(l.getD j 0,l.getD j 0) else(List.range n).map fun j=>if j<i then wid (R.getD j (0,0)) (l.getD j 0) else R.getD j (0,0)
def bH (n:Nat) (ls:List (List Int)):Nat->List dX
 |0=>[]
 |k+1=>fB n k (bH n ls k) (ls.getD k []) n
def rU (n:Nat) (ls:List (List Int)):List dX:=bH n ls ls.length
theorem sZ (n:Nat) (R:List dX) (l:List Int) (i:Nat):(fB n 0 R l i).length=i:=by simp[fB]
theorem vT (n k:Nat) (R:List dX) (l:List Int) (i:Nat) (hk:k≠0):(fB n k R l i).length=n:=by simp[fB,hk]
theorem pR (n:Nat) (ls:List (List Int)) (k:Nat) (hk:k≠0):(bH n ls k).length=n:=by
 cases k with
 |zero=>exact absurd rfl hk
 |succ k=>
  unfold bH
  by_cases h:k=0
  ·subst h;exact sZ _ _ _ _
  ·exact vT _ _ _ _ _ h
theorem RN {n k:Nat} {R:List dX} {l:List Int} (hR:k≠0->R.length=n) (h0:k=0->R=[]):fB n k R l 0=R:=by
 unfold fB
 split
 ·rename_i h;rw[h0 h];rfl
 ·rename_i h
  apply List.ext_getElem
  ·simp[hR h]
  ·intro i h1 h2;simp[List.getD,h2]
theorem Wn {n:Nat} {R:List dX} {l:List Int} {i:Nat}:fB n 0 R l i++[(l.getD i 0,l.getD i 0)]=fB n 0 R l (i+1):=by
 simp[fB,List.range_succ]
theorem RP {n:Nat} {R:List dX} {l:List Int} {i:Nat}:(fB n 0 R l (i+1)).set i (wid ((fB n 0 R l (i+1)).getD i (0,0)) (l.getD i 0))=fB n 0 R l (i+1):=by
 apply List.ext_getElem
 ·simp
 ·intro j h1 h2
  rw[List.getElem_set]
  split
  ·rename_i h;subst h;simp[fB,wid,List.getD]
  ·rfl
theorem Wl {n k:Nat} {R:List dX} {l:List Int} {i:Nat} (hk:k≠0) (hi:i<n):(fB n k R l i).set i (wid ((fB n k R l i).getD i (0,0)) (l.getD i 0))=fB n k R l (i+1):=by
 apply List.ext_getElem
 ·simp[fB,hk]
 ·intro j h1 h2
  have hj:j<n:=by simpa [fB,hk] using h2
  rw[List.getElem_set]
  split
  ·rename_i h;subst h;simp[fB,hk,hi]
  ·rename_i h
   simp only[fB,hk,if_false,List.getElem_map,List.getElem_range]
   by_cases h3:j<i
   ·rw[aA h3,aA (by omega)]
   ·rw[ai h3,ai (by omega)]
def upto (n:Nat):List Int:=(List.range n).map fun(i:Nat)=>(i:Int)
theorem Xc: ∀(n f below:Nat),f+n<=below->Inc below f ((List.range' f n).map fun(i:Nat)=>(i:Int)):=by
 intro n
 induction n with
 |zero=>intro f below _;trivial
 |succ n ih=>
  intro f below h
  rw[List.range'_succ,List.map_cons]
  exact⟨f,rfl,ak _,by omega,ih (f+1) below (by omega)⟩
end jv
end
section
namespace jv
theorem Sr {r:dX} {x:Int}:x∈sW r↔r.1<=x/\x<=r.2:=by
 unfold sW eH
 rw[iZ]
 constructor
 ·rintro⟨k,hk,rfl⟩
  have:=lM.1 hk
  omega
 ·rintro⟨h1,h2⟩
  exact⟨(x-r.1).toNat,lM.2 (by omega),by omega⟩
end jv
namespace jv
theorem L6 {below:Nat}: ∀(l:List Int) (f:Nat),Inc below f l↔l.Pairwise (· < ·)/\ ∀x∈l,(f:Int)<=x/\x<below:=by
 intro l
 induction l with
 |nil=>intro f;simp[Inc]
 |cons x l ih=>
  intro f
  unfold Inc
  rw[List.pairwise_cons]
  constructor
  ·rintro⟨n,rfl,h1,h2,h3⟩
   obtain⟨h4,h5⟩:=(ih _).1 h3
   refine⟨⟨fun y hy=>by have:=h5 y hy;omega,h4⟩,fun y hy=>?_⟩
   rcases iy.1 hy with rfl|hy
   ·omega
   ·have:=h5 y hy;omega
  ·rintro⟨⟨h1,h2⟩,h3⟩
   have hx:=h3 x (by simp)
   refine⟨x.toNat,by omega,by omega,by omega,(ih _).2 ⟨h2,fun y hy=>⟨?_,(h3 y (by simp[hy])).2⟩⟩⟩
   have:=h1 y hy
   omega
end jv
namespace jv
end jv
end
section
namespace Go.Proofs.YthbpmepjmebolaaGreatDoor
open jv
abbrev Nb:=Int×Int×Int×dX
structure bV where
 rows:Int
 aO:Int
 left:dX
 ax:List Nb
def pK (f:bV) (t:Nb):Bool:=ou t.1 0 (f.aO-1)&&ou t.2.1 0 (f.rows-1)&&ou t.2.2.1 0 (f.rows-1)&&decide (t.2.1<=t.2.2.1)&&wH t.2.2.2 f.rows
def jZ (f:bV):Int:=
 if 7<f.rows∨3<f.aO∨5<f.ax.length then 3
 else if f.rows<1∨f.aO<1∨wH f.left f.rows=false∨f.ax.all (pK f)=false then 1
 else if 2500<(f.aO+1)^f.rows.toNat then 3 else 0
structure ru (f:bV):Prop where
 zQ:1<=f.rows
 qK:f.rows<=7
 zO:1<=f.aO
 xC:f.aO<=3
 Ae:f.ax.length<=5
 left:0<=f.left.1/\f.left.1<=f.left.2/\f.left.2<=f.rows
 vO: ∀t∈f.ax,(0<=t.1/\t.1<f.aO)/\(0<=t.2.1/\t.2.1<=t.2.2.1/\t.2.2.1<f.rows)/\(0<=t.2.2.2.1/\t.2.2.2.1<=t.2.2.2.2/\t.2.2.2.2<=f.rows)
 many:(f.aO+1)^f.rows.toNat<=2500
theorem iK {f:bV} (hf:jZ f=0):ru f:=by
 unfold jZ at hf
 split at hf
 ·omega
 ·rename_i h1
  split at hf
  ·omega
  ·rename_i h2
   split at hf
   ·omega
   ·rename_i h3
    simp only[not_or] at h1 h2
    obtain⟨a1,a2,a3⟩:=h1
    obtain⟨b1,b2,b3,b4⟩:=h2
    have b3':wH f.left f.rows=true:=by simpa using b3
    have b4':f.ax.all (pK f)=true:=by simpa using b4
    rw[jR] at b4'
    simp only[wH,fH,eY] at b3'
    refine⟨by omega,by omega,by omega,by omega,by omega,⟨by omega,by omega,by omega⟩,fun t ht=>?_,by omega⟩
    have:=b4' t ht
    simp only[pK,ou,wH,fH,eY] at this
    omega
def zL (l:List Int) (who:Int) (a n:Nat):Int:=((List.range' a n).countP fun i=>l.getD i 0==who:Nat)
def Ic (l:List Int) (who lo hi:Int):Int:=zL l who lo.toNat (hi+1-lo).toNat
def Af (l:List Int) (t:Nb):Bool:=ou (Ic l t.1 t.2.1 t.2.2.1) t.2.2.2.1 t.2.2.2.2
def jm (f:bV) (out:List Int) (l:List Int):Bool:=
 ((List.range f.ax.length).all fun i=>out.contains (i:Int) ||Af l (f.ax.getD i (0,0,0,(0,0))))&&ou (Ic l (-1) 0 (f.rows-1)) f.left.1 f.left.2
def fJ (f:bV):List dX:=List.replicate f.rows.toNat (-1,f.aO-1)
def qy (f:bV):List (List Int):=fM (fJ f)
def bY (f:bV) (out:List Int):List (List Int):=(qy f).filter (jm f out)
theorem RF {f:bV} (hS:ru f): ∀r∈fJ f,1<=eH r:=fun r hr=>by
 obtain rfl:=List.eq_of_mem_replicate hr
 have:=hS.zO
 unfold eH
 simp only
 omega
theorem We: ∀(rs:List dX) (x:List Int),x.length=rs.length->(∀i,i<rs.length->(rs.getD i (0,0)).1<=x.getD i 0/\x.getD i 0<=(rs.getD i (0,0)).2)->x∈fM rs:=by
 intro rs
 induction rs with
 |nil=>intro x hx _;obtain rfl:=kD hx;simp[fM]
 |cons r rs ih=>
  intro x hx hb
  cases x with
  |nil=>simp at hx
  |cons a x=>
   have h0:=hb 0 (by simp)
   simp only[fM,qB,iZ]
   exact⟨a,Sr.2 (by simpa using h0),x,ih x (by simpa using hx) (fun i hi=>by simpa using hb (i+1) (by simpa using hi)),rfl⟩
theorem GG {f:bV} {l:List Int}:l∈qy f↔l.length=f.rows.toNat/\ ∀i,i<f.rows.toNat-> -1<=l.getD i 0/\l.getD i 0<=f.aO-1:=by
 have hg: ∀i,i<f.rows.toNat->(fJ f).getD i (0,0)=(-1,f.aO-1):=fun i hi=>by
  unfold fJ
  rw[iF,List.getElem?_replicate,aA hi]
  rfl
 have hl:(fJ f).length=f.rows.toNat:=by unfold fJ;simp
 unfold qy
 constructor
 ·intro hm
  obtain⟨h1,h2⟩:=Dk _ _ hm
  rw[hl] at h1 h2
  refine⟨h1,fun i hi=>?_⟩
  have:=h2 i hi
  rw[hg i hi] at this
  exact this
 ·rintro⟨h1,h2⟩
  refine We _ _ (by rw[hl];exact h1) fun i hi=>?_
  rw[hl] at hi
  rw[hg i hi]
  exact h2 i hi
theorem LD (f:bV):uD (fJ f)=(f.aO+1)^f.rows.toNat:=by
 unfold fJ
 induction f.rows.toNat with
 |zero=>simp[uD]
 |succ k ih=>
  rw[List.replicate_succ]
  show eH (-1,f.aO-1)*uD (List.replicate k (-1,f.aO-1))=_
  rw[ih,Int.pow_succ,Int.mul_comm]
  congr 1
  unfold eH
  simp only
  omega
end Go.Proofs.YthbpmepjmebolaaGreatDoor
namespace Go.Proofs.YthbpmepjmebolaaGreatDoor
open jv
def Ro (rows:List Int) (a b:List Int):Bool:=rows.all fun r=>a.getD r.toNat 0==b.getD r.toNat 0
def mV (f:bV) (a:List Int) (who:Int):Int:=Ic a who 0 (f.rows-1)
def NW (f:bV) (w:Int) (rows:List Int):Bool:=(bY f []).all fun a=>(bY f []).all fun b=>!Ro rows a b ||mV f a w==mV f b w
theorem abX {f:bV} {w:Int} {rows:List Int}:NW f w rows=true↔ ∀a∈bY f [], ∀b∈bY f [],Ro rows a b=true->mV f a w=mV f b w:=by
 unfold NW
 simp only[jR,Bool.or_eq_true,Bool.not_eq_true',beq_iff_eq]
 constructor
 ·intro h a ha b hb hs
  rcases h a ha b hb with h1|h1
  ·rw[hs] at h1;cases h1
  ·exact h1
 ·intro h a ha b hb
  cases hs:Ro rows a b
  ·exact .inl rfl
  ·exact .inr (h a ha b hb hs)
theorem Ed {f:bV} {out a:List Int} (h:a∈bY f out):a∈qy f/\jm f out a=true:=List.mem_filter.1 h
theorem oM {f:bV} {out a:List Int} (h:a∈bY f out):a.length=f.rows.toNat:=(GG.1 (Ed h).1).1
theorem ZY (n:Nat):Inc n 0 (upto n):=by
 have:=Xc n 0 n (by omega)
 unfold upto
 rw[<-List.range_eq_range'] at this
 exact this
theorem BC {a b:List Int} (h:oH a b=false):b.length<=a.length:=by
 unfold oH at h
 simp only[Bool.or_eq_false_iff,decide_eq_false_iff_not] at h
 omega
end Go.Proofs.YthbpmepjmebolaaGreatDoor
namespace Go.Proofs.YthbpmepjmebolaaGreatDoor
open jv
structure aQ where
 field:bV
 rate:Int
 box:dX
 notes:List (Int×dX)
def uj (r x:dX):dX:=(max r.1 x.1,min r.2 x.2)
def pM (l:aQ) (out:List Int) (i:Nat) (due:Int):dX:=
 ((List.range l.notes.length).filter fun(k:Nat)=>!out.contains (k:Int)&&(l.notes.getD k (0,(0,0))).1==(i:Int)).foldl (fun r k=>uj r (l.notes.getD k (0,(0,0))).2) (0,due)
def zG (l:List Int):Int:=l.foldr (· + ·) 0
theorem vS (x:Int) (l:List Int):zG (x::l)=x+zG l:=rfl
def pU (l:aQ) (out:List Int) (Dy:List Int):List dX:=(List.range l.field.aO.toNat).map fun i=>pM l out i (Dy.getD i 0)
def Ja (l:aQ) (out Dy:List Int):Int:=zG ((pU l out Dy).map (·.1))
def zT (l:aQ) (out Dy:List Int):Int:=zG ((pU l out Dy).map (·.2))
def jE (l:aQ) (out Dy:List Int):Bool:=(pU l out Dy).all (fun r=>decide (r.1<=r.2))&&decide (Ja l out Dy<=l.box.2)&&decide (l.box.1<=zT l out Dy)
def kM (l:aQ) (out Dy:List Int):List dX:=
 (pU l out Dy).map fun r=>uj r (l.box.1-(zT l out Dy-r.2),l.box.2-(Ja l out Dy-r.1))
end Go.Proofs.YthbpmepjmebolaaGreatDoor
namespace Go.Proofs.YthbpmepjmebolaaGreatDoor
open jv
def lZ (rate:Int) (rows:List Int):List Int:=(List.range 3).map fun(i:Nat)=>rate*(rows.count (i:Int):Int)
theorem lu (rate:Int) (rows:List Int):(lZ rate rows).length=3:=by simp[lZ]
theorem sD (rate:Int) (rows:List Int) {i:Nat} (hi:i<3):(lZ rate rows).getD i 0=rate*(rows.count (i:Int):Int):=by
 unfold lZ
 rw[iF,qC,List.getElem?_range hi]
 rfl
theorem aim {a b:List Int} (ha:a.length=3) (hb:b.length=3) (h: ∀i,i<3->a.getD i 0=b.getD i 0):a=b:=by
 refine List.ext_getElem (by omega) fun i h1 h2=>?_
 have:=h i (by omega)
 simpa [List.getD,h1,h2] using this
theorem XA (rate:Int):lZ rate []=[0,0,0]:=by simp[lZ,List.range_succ]
theorem TK (rate:Int) (rs:List Int) (n:Nat) (hn:n<3):(lZ rate rs).set n ((lZ rate rs).getD n 0+rate)=lZ rate (rs++[(n:Int)]):=by
 refine aim (by simp[lu]) (lu _ _) fun i hi=>?_
 rw[sD _ _ hi,List.count_append]
 by_cases e:n=i
 ·subst e
  rw[List.getD_eq_getElem?_getD,List.getElem?_set_self (by rw[lu];omega),Option.getD_some,sD _ _ hn]
  simp[Int.mul_add]
 ·rw[List.getD_eq_getElem?_getD,List.getElem?_set_ne e, <-List.getD_eq_getElem?_getD,sD _ _ hi]
  have:List.count (i:Int) [(n:Int)]=0:=by
   rw[List.count_eq_zero]
   simp;omega
  rw[this,Nat.add_zero]
theorem TL (rate:Int) (rs:List Int) (x:Int) (hx:x<0):lZ rate (rs++[x])=lZ rate rs:=by
 refine aim (lu _ _) (lu _ _) fun i hi=>?_
 rw[sD _ _ hi,sD _ _ hi,List.count_append]
 have:List.count (i:Int) [x]=0:=by
  rw[List.count_eq_zero]
  simp;omega
 rw[this,Nat.add_zero]
theorem Hz {rate:Int} (h0:0<=rate) (h1:rate<=50) (rs:List Int) (hl:rs.length<=7) (i:Nat) (hi:i<3):0<=(lZ rate rs).getD i 0/\(lZ rate rs).getD i 0<=350:=by
 rw[sD _ _ hi]
 have hc:(List.count (i:Int) rs:Int)<=7:=by
  have:=List.count_le_length (a:=(i:Int)) (l:=rs)
  omega
 have hc0:(0:Int)<=(List.count (i:Int) rs:Int):=by omega
 refine⟨Int.mul_nonneg h0 hc0,?_⟩
 calc rate*(List.count (i:Int) rs:Int)<=50*7:=Int.mul_le_mul h1 hc hc0 (by omega)
  _=350:=rfl
end Go.Proofs.YthbpmepjmebolaaGreatDoor
namespace Go.Proofs.YthbpmepjmebolaaGreatDoor
open jv
def lL (l:aQ) (out:List Int) (k:Nat):List (Int×dX):=((List.range k).filter fun(i:Nat)=>!out.contains (i:Int)).map fun i=>l.notes.getD i (0,(0,0))
def Et (l:aQ) (out:List Int):List (Int×dX):=lL l out l.notes.length
theorem SC {l:aQ} {out:List Int} {k:Nat} (h:out.contains (k:Int)=false):lL l out (k+1)=lL l out k++[l.notes.getD k (0,(0,0))]:=by
 unfold lL
 rw[List.range_succ,List.filter_append,List.map_append]
 congr 1
 rw[List.filter_cons_of_pos (by rw[h];rfl)]
 rfl
theorem WS {l:aQ} {out:List Int} {k:Nat} (h:out.contains (k:Int)=true):lL l out (k+1)=lL l out k:=by
 unfold lL
 rw[List.range_succ,List.filter_append,List.map_append,List.filter_cons_of_neg (by rw[h];simp)]
 simp
theorem GM (l:aQ) (out:List Int) (k:Nat):(lL l out k).length<=k:=by
 unfold lL
 rw[lN]
 have:=List.length_filter_le (fun(i:Nat)=>!out.contains (i:Int)) (List.range k)
 simpa using this
def xM (ns:List (Int×dX)) (key:Int×Int) (k:Nat):dX:=(ns.take k).foldl (fun r n=>if n.1=key.1 then uj r n.2 else r) (0,key.2)
def kn (ns:List (Int×dX)) (key:Int×Int):dX:=xM ns key ns.length
theorem J6 {ns:List (Int×dX)} {key:Int×Int} {k:Nat} (hk:k<ns.length):xM ns key (k+1)=if ns[k].1=key.1 then uj (xM ns key k) ns[k].2 else xM ns key k:=by
 unfold xM
 rw[iE hk,List.foldl_append]
 rfl
theorem OO (l:aQ) (out:List Int) (i:Nat) (due:Int):kn (Et l out) ((i:Int),due)=pM l out i due:=by
 unfold kn xM pM Et lL
 rw[List.take_length,List.foldl_map]
 generalize List.range l.notes.length=ks
 have: ∀(ks:List Nat) (r:dX),(ks.filter fun(k:Nat)=>!out.contains (k:Int)).foldl (fun r k=>if(l.notes.getD k (0,(0,0))).1=(i:Int) then uj r (l.notes.getD k (0,(0,0))).2 else r) r=
  (ks.filter fun(k:Nat)=>!out.contains (k:Int)&&(l.notes.getD k (0,(0,0))).1==(i:Int)).foldl (fun r k=>uj r (l.notes.getD k (0,(0,0))).2) r:=by
  intro ks
  induction ks with
  |nil=>intro r;rfl
  |cons k ks ih=>
   intro r
   cases hc:out.contains (k:Int)
   ·by_cases hn:(l.notes.getD k (0,(0,0))).1=(i:Int)
    ·simp only[List.filter_cons,hc,hn,Bool.not_false,if_true,beq_self_eq_true,Bool.and_self,List.foldl_cons]
     exact ih _
    ·have hnb:((l.notes.getD k (0,(0,0))).1==(i:Int))=false:=by simpa using hn
     simp only[List.filter_cons,hc,hnb,hn,Bool.not_false,if_true,if_false,Bool.and_false,Bool.false_eq_true,List.foldl_cons]
     exact ih _
   ·simp only[List.filter_cons,hc,Bool.not_true,Bool.false_and,Bool.false_eq_true,if_false]
    exact ih _
 exact this ks (0,due)
theorem VT (xs:List Int) (x:Int):zG (xs++[x])=zG xs+x:=by
 induction xs with
 |nil=>simp[zG]
 |cons y xs ih=>rw[List.cons_append,vS,vS,ih];omega
def lI (f:dX->Int) (rs:List dX) (k:Nat):Int:=zG ((rs.take k).map f)
theorem sO (f:dX->Int) {rs:List dX} {k:Nat} (hk:k<rs.length):lI f rs (k+1)=lI f rs k+f rs[k]:=by
 unfold lI
 rw[iE hk,List.map_append,List.map_singleton,VT]
theorem x9 (f:dX->Int) (rs:List dX) (h: ∀r∈rs,0<=f r/\f r<=2000): ∀k,k<=rs.length->0<=lI f rs k/\lI f rs k<=2000*k:=by
 intro k
 induction k with
 |zero=>intro _;simp[lI,zG]
 |succ k ih=>
  intro hk
  have:=ih (by omega)
  have:=h rs[k] (cZ _)
  rw[sO f (by omega)]
  omega
theorem zf (f:dX->Int) (rs:List dX):lI f rs rs.length=zG (rs.map f):=by unfold lI;rw[List.take_length]
theorem aca {ns:List (Int×dX)} (hn: ∀x∈ns,0<=x.2.1/\x.2.1<=2000/\0<=x.2.2/\x.2.2<=2000) {key:Int×Int} (h0:0<=key.2) (_h1:key.2<=2000): ∀k,k<=ns.length->0<=(xM ns key k).1/\(xM ns key k).1<=2000/\0<=(xM ns key k).2/\(xM ns key k).2<=key.2:=by
 intro k
 induction k with
 |zero=>intro _;simp[xM];omega
 |succ k ih=>
  intro hk
  have h:=ih (by omega)
  have hx:=hn ns[k] (cZ _)
  rw[J6 (by omega)]
  split
  ·unfold uj
   simp only
   omega
  ·exact h
theorem WT {l:aQ} {out:List Int} {x:Int×dX} (h:x∈Et l out):x∈l.notes:=by
 unfold Et lL at h
 obtain⟨i,hi,rfl⟩:=iZ.1 h
 have:=lM.1 (List.mem_filter.1 hi).1
 rw[show l.notes.getD i (0,(0,0))=l.notes[i] from by simp[List.getD,this]]
 exact cZ _
structure pX (l:aQ):Prop where
 field:jZ l.field=0
 some:bY l.field []≠[]
 rate:1<=l.rate/\l.rate<=50
 box:0<=l.box.1/\l.box.1<=l.box.2/\l.box.2<=2000
 many:l.notes.length<=5
 notes: ∀x∈l.notes,(0<=x.1/\x.1<l.field.aO)/\(0<=x.2.1/\x.2.1<=x.2.2/\x.2.2<=2000)
theorem OM {l:aQ} (hS:pX l) (out:List Int) (i:Nat) {due:Int} (h0:0<=due) (h1:due<=2000):0<=(pM l out i due).1/\(pM l out i due).1<=2000/\0<=(pM l out i due).2/\(pM l out i due).2<=due:=by
 rw[<-OO]
 exact aca (fun x hx=>by have:=hS.notes x (WT hx);omega) h0 h1 _ (ak _)
theorem zC (l:aQ) (out d:List Int):(pU l out d).length=l.field.aO.toNat:=by simp[pU]
theorem D7 (l:aQ) (out d:List Int) {i:Nat} (hi:i<l.field.aO.toNat):(pU l out d).getD i (0,0)=pM l out i (d.getD i 0):=by
 unfold pU
 rw[iF,qC,List.getElem?_range hi]
 rfl
end Go.Proofs.YthbpmepjmebolaaGreatDoor
namespace Go.Proofs.YthbpmepjmebolaaGreatDoor
open jv
def xX (r x:dX):dX:=(min r.1 x.1,max r.2 x.2)
def oP (due:Int) (r:dX):dX:=(due-r.2,due-r.1)
def rF (p:Int->dX->dX) (l:aQ) (d:List Int):List dX:=(List.range l.field.aO.toNat).map fun i=>p (d.getD i 0) ((kM l [] d).getD i (0,0))
def kH (acc ny:List dX) (i:Nat):List dX:=if acc=[] then ny.take i else(List.zipWith xX acc ny).take i++acc.drop i
def Jn (acc ny:List dX):List dX:=if acc=[] then ny else List.zipWith xX acc ny
def uY (p:Int->dX->dX) (l:aQ) (acc:List dX) (d:List Int):List dX:=if jE l [] d=true then Jn acc (rF p l d) else acc
def mf (p:Int->dX->dX) (l:aQ) (k:Nat) (ds:List (List Int)):List dX:=(ds.take k).foldl (uY p l) []
def Ce (p:Int->dX->dX) (l:aQ) (ds:List (List Int)):List dX:=mf p l ds.length ds
theorem JO (l:aQ) (out d:List Int):(kM l out d).length=l.field.aO.toNat:=by simp[kM,zC]
theorem oW (p:Int->dX->dX) (l:aQ) (d:List Int):(rF p l d).length=l.field.aO.toNat:=by simp[rF]
theorem JY (p:Int->dX->dX) (l:aQ) (d:List Int) {i:Nat} (hi:i<(rF p l d).length):(rF p l d)[i]=p (d.getD i 0) ((kM l [] d).getD i (0,0)):=by
 simp[rF]
theorem AV (p:Int->dX->dX) (l:aQ) {k:Nat} {ds:List (List Int)} (hk:k<ds.length):mf p l (k+1) ds=uY p l (mf p l k ds) ds[k]:=by
 unfold mf
 rw[iE hk,List.foldl_append]
 rfl
theorem aba {acc ny:List dX} (h:acc=[]∨acc.length=ny.length):(Jn acc ny).length=ny.length:=by
 unfold Jn
 split
 ·rfl
 ·rcases h with h|h
  ·contradiction
  ·simp[h]
theorem KG (p:Int->dX->dX) (l:aQ) (ds:List (List Int)): ∀k,k<=ds.length->mf p l k ds=[]∨(mf p l k ds).length=l.field.aO.toNat:=by
 intro k
 induction k with
 |zero=>intro _;exact .inl rfl
 |succ k ih=>
  intro hk
  rw[AV p l (by omega)]
  have h:=ih (by omega)
  unfold uY
  split
  ·right
   rw[aba (by rw[oW];exact h),oW]
  ·exact h
theorem xw (acc ny:List dX):kH acc ny 0=acc:=by
 unfold kH
 split
 ·rename_i h;rw[h];rfl
 ·simp
theorem Ye {acc ny:List dX} (h:acc=[]∨acc.length=ny.length):kH acc ny ny.length=Jn acc ny:=by
 unfold kH Jn
 split
 ·simp
 ·rcases h with h|h
  ·contradiction
  ·rw[kL (by simp;omega),List.drop_of_length_le (by omega),List.append_nil]
theorem Yd {acc ny:List dX} {i:Nat} (h:acc=[]∨acc.length=ny.length) (hi:i<=ny.length):(kH acc ny i).length=if acc=[] then i else ny.length:=by
 unfold kH
 by_cases e:acc=[]
 ·rw[aA e,aA e];simp;omega
 ·rw[ai e,ai e]
  rcases h with h|h
  ·contradiction
  ·simp;omega
theorem Yc {ny:List dX} {i:Nat} (hi:i<ny.length):kH [] ny (i+1)=kH [] ny i++[ny[i]]:=by
 unfold kH
 rw[aA rfl,aA rfl,iE hi]
theorem Yb {acc ny:List dX} {i:Nat} (ha:acc≠[]) (h:acc.length=ny.length) (hi:i<ny.length):
 (kH acc ny i)[i]? =acc[i]?/\kH acc ny (i+1)=(kH acc ny i).set i (xX (acc.getD i (0,0)) ny[i]):=by
 unfold kH
 rw[ai ha,ai ha]
 have hz:((List.zipWith xX acc ny).take i).length=i:=by simp;omega
 refine⟨?_,?_⟩
 ·rw[nK (by omega),hz,List.getElem?_drop,Nat.sub_self,Nat.add_zero]
 ·rw[qE _ _ (by omega),hz,Nat.sub_self,AX (by omega:i<acc.length),List.set_cons_zero,
   iE (by simp;omega),nV,List.singleton_append]
  simp[List.getD,h,hi]
structure uB (S:dX->Prop) (r:dX):Prop where
 low:(∃x,S x/\x.1=r.1)/\ ∀x,S x->r.1<=x.1
 high:(∃x,S x/\x.2=r.2)/\ ∀x,S x->x.2<=r.2
theorem uB.one (x:dX):uB (fun y=>y=x) x:=⟨⟨⟨x,rfl,rfl⟩,fun y h=>by rw[h];exact Int.le_refl _⟩,⟨x,rfl,rfl⟩,fun y h=>by rw[h];exact Int.le_refl _⟩
theorem uB.add {S:dX->Prop} {r:dX} (h:uB S r) (x:dX):uB (fun y=>S y∨y=x) (xX r x):=by
 obtain⟨⟨⟨a,ha,ha'⟩,h1⟩,⟨b,hb,hb'⟩,h2⟩:=h
 unfold xX
 refine⟨⟨?_,?_⟩,?_,?_⟩
 ·by_cases e:r.1<=x.1
  ·exact⟨a,.inl ha,by simp only;omega⟩
  ·exact⟨x,.inr rfl,by simp only;omega⟩
 ·rintro y (hy|rfl)
  ·have:=h1 y hy;simp only;omega
  ·simp only;omega
 ·by_cases e:x.2<=r.2
  ·exact⟨b,.inl hb,by simp only;omega⟩
  ·exact⟨x,.inr rfl,by simp only;omega⟩
 ·rintro y (hy|rfl)
  ·have:=h2 y hy;simp only;omega
  ·simp only;omega
theorem uB.congr {S T:dX->Prop} {r:dX} (h:uB S r) (e: ∀x,S x↔T x):uB T r:=by
 obtain⟨⟨⟨a,ha,ha'⟩,h1⟩,⟨b,hb,hb'⟩,h2⟩:=h
 exact⟨⟨⟨a,(e a).1 ha,ha'⟩,fun x hx=>h1 x ((e x).2 hx)⟩,⟨b,(e b).1 hb,hb'⟩,fun x hx=>h2 x ((e x).2 hx)⟩
theorem Iq (p:Int->dX->dX) (l:aQ) (ds:List (List Int)) {i:Nat} (hi:i<l.field.aO.toNat): ∀k,k<=ds.length->
 (mf p l k ds=[]/\ ∀d∈ds.take k,jE l [] d=false)∨((mf p l k ds).length=l.field.aO.toNat/\uB (fun y=> ∃d∈ds.take k,jE l [] d=true/\y=p (d.getD i 0) ((kM l [] d).getD i (0,0))) ((mf p l k ds).getD i (0,0))):=by
 intro k
 induction k with
 |zero=>intro _;exact .inl ⟨rfl,fun d hd=>by simp at hd⟩
 |succ k ih=>
  intro hk
  have hkl:k<ds.length:=by omega
  rw[AV p l hkl,iE hkl]
  have hn: ∀d,(rF p l d).getD i (0,0)=p (d.getD i 0) ((kM l [] d).getD i (0,0)):=fun d=>by
   have hi':i<(rF p l d).length:=by rw[oW];exact hi
   rw[iF,dP hi',Option.getD_some,JY p l d hi']
  cases hc:jE l [] ds[k] with
  |false=>
   have hs:uY p l (mf p l k ds) ds[k]=mf p l k ds:=by unfold uY;rw[hc];rfl
   rw[hs]
   rcases ih (by omega) with⟨h1,h2⟩|⟨h1,h2⟩
   ·refine .inl ⟨h1,fun d hd=>?_⟩
    rcases iI.1 hd with h|h
    ·exact h2 d h
    ·rw[eU.1 h];exact hc
   ·refine .inr ⟨h1,h2.congr fun x=>⟨fun⟨d,hd,a,b⟩=>⟨d,nI _ hd,a,b⟩,fun⟨d,hd,a,b⟩=>?_⟩⟩
    rcases iI.1 hd with h|h
    ·exact⟨d,h,a,b⟩
    ·rw[eU.1 h,hc] at a;cases a
  |true=>
   have hs:uY p l (mf p l k ds) ds[k]=Jn (mf p l k ds) (rF p l ds[k]):=by unfold uY;rw[hc];rfl
   rw[hs]
   right
   rcases ih (by omega) with⟨h1,h2⟩|⟨h1,h2⟩
   ·rw[h1]
    have ha:Jn [] (rF p l ds[k])=rF p l ds[k]:=by unfold Jn;rw[aA rfl]
    rw[ha]
    refine⟨oW _ _ _,?_⟩
    rw[hn]
    refine(uB.one _).congr fun x=>⟨fun e=>⟨ds[k],uy _ (eU.2 rfl),hc,e⟩,fun⟨d,hd,a,b⟩=>?_⟩
    rcases iI.1 hd with h|h
    ·rw[h2 d h] at a;cases a
    ·rw[eU.1 h] at b;exact b
   ·have hne:mf p l k ds≠[]:=fun e=>by rw[e] at h1;simp at h1;omega
    have ha:Jn (mf p l k ds) (rF p l ds[k])=List.zipWith xX (mf p l k ds) (rF p l ds[k]):=by unfold Jn;rw[ai hne]
    rw[ha]
    refine⟨by simp[h1,oW],?_⟩
    have hg:(List.zipWith xX (mf p l k ds) (rF p l ds[k])).getD i (0,0)=xX ((mf p l k ds).getD i (0,0)) (p (ds[k].getD i 0) ((kM l [] ds[k]).getD i (0,0))):=by
     rw[<-hn ds[k]]
     have h3:i<(mf p l k ds).length:=by omega
     have h4:i<(rF p l ds[k]).length:=by rw[oW];exact hi
     simp only[iF,List.getElem?_zipWith,dP h3,dP h4,Option.getD_some]
    rw[hg]
    refine(h2.add _).congr fun x=>⟨?_,?_⟩
    ·rintro(⟨d,hd,a,b⟩|e)
     ·exact⟨d,nI _ hd,a,b⟩
     ·exact⟨ds[k],uy _ (eU.2 rfl),hc,e⟩
    ·rintro⟨d,hd,a,b⟩
     rcases iI.1 hd with h|h
     ·exact .inl ⟨d,h,a,b⟩
     ·rw[eU.1 h] at b;exact .inr b
theorem abW {rs:List dX} (h: ∀r∈rs,r.1<=r.2):zG (rs.map (·.1))<=zG (rs.map (·.2)):=by
 induction rs with
 |nil=>exact Int.le_refl _
 |cons x rs ih=>
  have h1:=h x List.mem_cons_self
  have h2:=ih (fun y hy=>h y (pV _ hy))
  simp only[List.map_cons,vS]
  omega
theorem NP {l:List Int} {i:Nat} (hi:i<l.length) (x:Int):zG (l.set i x)=zG l-l.getD i 0+x:=by
 induction l generalizing i with
 |nil=>simp at hi
 |cons y l ih=>
  cases i with
  |zero=>simp only[List.set_cons_zero,vS,List.getD_cons_zero];omega
  |succ i=>
   have:=ih (i:=i) (by simpa using hi)
   simp only[List.set_cons_succ,vS,List.getD_cons_succ]
   omega
theorem JP (l:aQ) (out d:List Int) {i:Nat} (hi:i<l.field.aO.toNat):
 (kM l out d).getD i (0,0)=uj (pM l out i (d.getD i 0)) (l.box.1-(zT l out d-(pM l out i (d.getD i 0)).2),l.box.2-(Ja l out d-(pM l out i (d.getD i 0)).1)):=by
 have ha:=D7 l out d hi
 have hl:i<(pU l out d).length:=by rw[zC];exact hi
 rw[iF,dP hl,Option.getD_some] at ha
 unfold kM
 rw[iF,qC,dP hl,ha]
 rfl
theorem RS {l:aQ} {out d:List Int} {i:Nat} (hi:i<l.field.aO.toNat) (hb:l.box.1<=l.box.2) (hc:jE l out d=true):((kM l out d).getD i (0,0)).1<=((kM l out d).getD i (0,0)).2:=by
 rw[JP l out d hi]
 have hl:i<(pU l out d).length:=by rw[zC];exact hi
 have ha:=D7 l out d hi
 unfold jE at hc
 simp only[fH,jR,eY] at hc
 obtain⟨⟨h1,h2⟩,h3⟩:=hc
 have e1:zG (((pU l out d).set i (0,0)).map (·.1))=Ja l out d-(pM l out i (d.getD i 0)).1:=by
  rw[List.map_set,NP (by simpa using hl)]
  unfold Ja
  rw[<-ha,iF,iF,qC,dP hl]
  simp
 have e2:zG (((pU l out d).set i (0,0)).map (·.2))=zT l out d-(pM l out i (d.getD i 0)).2:=by
  rw[List.map_set,NP (by simpa using hl)]
  unfold zT
  rw[<-ha,iF,iF,qC,dP hl]
  simp
 have e3:=abW (rs:=(pU l out d).set i (0,0)) (fun r hr=>by
  rcases List.mem_or_eq_of_mem_set hr with h|h
  ·exact h1 r h
  ·rw[h];exact Int.le_refl _)
 have e4:=h1 _ (by rw[iF,dP hl,Option.getD_some] at ha;rw[<-ha];exact cZ hl:pM l out i (d.getD i 0)∈pU l out d)
 rw[e1,e2] at e3
 unfold uj
 simp only
 omega
end Go.Proofs.YthbpmepjmebolaaGreatDoor
namespace Go.Proofs.YthbpmepjmebolaaGreatDoor
open jv
end Go.Proofs.YthbpmepjmebolaaGreatDoor
namespace Go.Proofs.YthbpmepjmebolaaGreatDoor
open jv
end Go.Proofs.YthbpmepjmebolaaGreatDoor
end
section
namespace Go.RG
open Go.RowKit
structure Ext (Ms:List Nat) (w w':World):Prop where
 os:w'.os=w.os
 tape:w'.tape=w.tape
 output:w'.output=w.output
 size:w.heap.size<=w'.heap.size
 block: ∀k,k<w.heap.size->k∉Ms->w'.heap[k]? =w.heap[k]?
theorem Ext.refl (Ms:List Nat) (w:World):Ext Ms w w:=⟨rfl,rfl,rfl,ak _,fun _ _ _=>rfl⟩
theorem Ext.trans {Ms:List Nat} {a b c:World} (h:Ext Ms a b) (k:Ext Ms b c):Ext Ms a c:=
 ⟨k.os.trans h.os,k.tape.trans h.tape,k.output.trans h.output,jq h.size k.size,
   fun i hi hm=>(k.block i (fZ hi h.size) hm).trans (h.block i hi hm)⟩
theorem Ext.more {Ms Ms':List Nat} {w w':World} (h:Ext Ms w w') (hs: ∀x,x∈Ms->x∈Ms'):Ext Ms' w w':=
 ⟨h.os,h.tape,h.output,h.size,fun k hk hm=>h.block k hk (fun e=>hm (hs k e))⟩
theorem Ext.nil {Ms:List Nat} {w w':World} (h:Ext [] w w'):Ext Ms w w':=h.more (by simp)
theorem Ext.az {Ms:List Nat} {w w':World} (h:Below w.heap.size w w'):Ext Ms w w':=
 ⟨h.os,h.tape,h.output,h.size,fun k hk _=>h.block k hk⟩
theorem Ext.below {w w':World} (h:Ext [] w w'):Below w.heap.size w w':=
 ⟨h.os,h.tape,h.output,h.size,fun k hk=>h.block k hk (by simp)⟩
theorem Ext.drew {Ms:List Nat} {a w:World} (h:Ext Ms a w):Ext Ms a w.drew:=⟨h.os,h.tape,h.output,h.size,h.block⟩
theorem Ext.cell {Ms:List Nat} {w w':World} (h:Ext Ms w w') (b o:Nat) (hb:b<w.heap.size) (hm:b∉Ms):w'.cell? ⟨b,o,none⟩=w.cell? ⟨b,o,none⟩:=
 jh (w:=w) (h.block b hb hm)
def Does (P:Program) (o:Oper) (ρ:Operand->Value) (W:World) (R:Value->World->Prop):Prop:=
 match (execOp ρ o).run P W with
 | .ok (.value v) w'=>R v w'
 | .ok .skip w'=>R undef w'
 | .ok (.enter f args) w'=>Calls P f args w' (fun e w''=> ∃v,e= .returned v/\R v w'')
 |_=>False
structure Spec where
 pure:List Value->Value->Prop
 world:List Value->Value->World->Prop
abbrev Facts:=List (Nat×(World->Prop))
def nS (o:Oper) (a:Act):List Value:=o.op.operands.toList.map a.eval
def kP (ops:Array Oper) (j i:Nat):Bool:=((Region.before ops).getD i 0).testBit j
structure Iz (R0 R1:World->World->Prop):Prop where
 refl: ∀w,R0 w w
 ad4: ∀{a b c},R0 a b->R0 b c->R0 a c
 ad3: ∀{a b c},R1 a b->R1 b c->R1 a c
 sub: ∀{a b},R0 a b->R1 a b
def xE (R0 R1:World->World->Prop) (m:Option Nat) (i:Nat):World->World->Prop:=if m=some i then R1 else R0
def kX (R0 R1:World->World->Prop) (m:Option Nat) (i:Nat):World->World->Prop:=if m=some i then R0 else R1
theorem Iz.ab6 {R0 R1:World->World->Prop} (h:Iz R0 R1) {m:Option Nat} (i:Nat) (w:World):kX R0 R1 m i w w:=by
 unfold kX
 split
 ·exact h.refl w
 ·exact h.sub (h.refl w)
theorem Bi (Ms:List Nat):Iz (Ext []) (Ext Ms):=⟨Ext.refl [],Ext.trans,Ext.trans,Ext.nil⟩
abbrev uN:=Nat->List Value->Value->World->Prop
def Oy:uN:=fun _ _ _ _=>True
def Us (ops:Array Oper) (R0 R1:World->World->Prop) (m:Option Nat) (W0:World) (F G:Facts) (i:Nat) (W:World):Prop:=
 kX R0 R1 m i W0 W/\(∀f∈F,kP ops f.1 i=true->f.2 W)/\(m=some i-> ∀g∈G,kP ops g.1 i=true->g.2 W)
def qX (n t:Nat):Array Bool:=((List.range n).map (fun i=>decide (i<t))).toArray
def chk (ops:Array Oper) (k:Nat):Bool:=
 let n:=ops.size
 let at_ (i:Nat):Oper:=ops.getD i default
 decide (k<=n)&&
 (List.range n).all (fun i=>(at_ i).after.toList.all fun e=>!Region.binds .any e ||decide (e.on<i))&&
 (List.range k).all (fun i=>(List.range k).all fun j=>i==j ||(at_ i).dst.isNone ||(at_ i).dst !=(at_ j).dst)&&
 (List.range k).all (fun i=>((at_ i).looksAt ops).all fun t=>(List.range k).all fun j=>
   (at_ j).dst !=some t ||i==j ||(decide (j<i)&&kP ops j i) ||(decide (i<j)&&kP ops i j))&&
 (List.range n).all (fun i=>decide (i<k) ||(List.range k).all fun j=>kP ops j i)&&
 (List.range n).all (fun i=>match (at_ i).op with| .select .. =>false|_=>true)&&
 (List.range (n-k)).all (fun t=>Region.ready .any ops (qX n (k+t))==[k+t])&&
 Region.ready .any ops (qX n n)==[]
def Down (ops:Array Oper) (D:Nat->Prop):Prop:= ∀i o,ops[i]? =some o->D i-> ∀e∈o.after,Region.binds .any e=true->D e.on
theorem WJ (acc:Array Nat) (j:Nat) (l:List Edge) (s:Nat)
 (h:(l.foldl (fun s e=>if Region.binds .any e then s |||2^e.on |||acc.getD e.on 0 else s) s).testBit j=true):
 s.testBit j=true∨ ∃e∈l,Region.binds .any e=true/\(j=e.on∨(acc.getD e.on 0).testBit j=true):=by
 induction l generalizing s with
 |nil=>exact .inl h
 |cons e l ih=>
  simp only[List.foldl_cons] at h
  rcases ih _ h with h1|⟨e',he',hb,hj⟩
  ·by_cases hb:Region.binds .any e=true
   ·rw[aA hb] at h1
    simp only[Nat.testBit_or,Bool.or_eq_true,Nat.testBit_two_pow,eY] at h1
    rcases h1 with(h1|h1)|h1
    ·exact .inl h1
    ·exact .inr ⟨e,by simp,hb,.inl h1.symm⟩
    ·exact .inr ⟨e,by simp,hb,.inr h1⟩
   ·rw[ai hb] at h1
    exact .inl h1
  ·exact .inr ⟨e',by simp[he'],hb,hj⟩
def masks (l:List Oper):Array Nat:=
 l.foldl (fun acc o=>acc.push (o.after.foldl (fun s e=>if Region.binds .any e then s |||2^e.on |||acc.getD e.on 0 else s) 0)) #[]
theorem XT (ops:Array Oper):Region.before ops=masks ops.toList:=by
 simp only[Region.before,masks,Array.foldl_toList]
theorem GH (l:List Oper) (o:Oper):masks (l++[o])=(masks l).push (o.after.foldl (fun s e=>if Region.binds .any e then s |||2^e.on |||(masks l).getD e.on 0 else s) 0):=by
 simp[masks,List.foldl_append]
theorem pG {α:Type} {p:List α->Prop} (h0:p []) (h1: ∀l a,p l->p (l++[a])) (l:List α):p l:=by
 rw[<-l.reverse_reverse]
 induction l.reverse with
 |nil=>exact h0
 |cons a t ih=>rw[List.reverse_cons];exact h1 _ _ ih
theorem Aj (l:List Oper):(masks l).size=l.length:=by
 induction l using pG with
 |h0=>rfl
 |h1 l o ih=>simp[GH,ih]
theorem WI (l:List Oper) (D:Nat->Prop) (hD: ∀i o,l[i]? =some o->D i-> ∀e∈o.after,Region.binds .any e=true->D e.on):
 ∀i j,i<l.length->D i->((masks l).getD i 0).testBit j=true->D j:=by
 induction l using pG with
 |h0=>intro i j hi;simp at hi
 |h1 l o ih=>
  have ih':=ih (fun i o' hi=>hD i o' (by
   have:=(ji.1 hi).1
   rw[vH this];exact hi))
  intro i j hi hDi h
  rw[GH] at h
  by_cases hlt:i<l.length
  ·rw[Array.getD_eq_getD_getElem?,Array.getElem?_push,ai (by rw[Aj];omega), <-Array.getD_eq_getD_getElem?] at h
   exact ih' i j hlt hDi h
  ·have hi':i=l.length:=by simp at hi;omega
   subst hi'
   rw[Array.getD_eq_getD_getElem?,Array.getElem?_push,aA (by rw[Aj])] at h
   simp only[Option.getD_some] at h
   rw[<-Array.foldl_toList] at h
   rcases WJ _ j _ _ h with h1|⟨e,he,hb,hj⟩
   ·simp at h1
   ·have hDe:D e.on:=hD l.length o (by simp) hDi e (by simpa using he) hb
    rcases hj with rfl|hj
    ·exact hDe
    ·by_cases hlt':e.on<l.length
     ·exact ih' e.on j hlt' hDe hj
     ·rw[Array.getD_eq_getD_getElem?,Array.getElem?_eq_none (by rw[Aj];omega)] at hj
      simp at hj
theorem um {ops:Array Oper} {D:Nat->Prop} (hD:Down ops D) {i j:Nat} (hi:i<ops.size) (hDi:D i) (h:kP ops j i=true):D j:=by
 unfold kP at h
 rw[XT] at h
 exact WI ops.toList D (fun i o hi=>hD i o (by simpa using hi)) i j (by simpa using hi) hDi h
theorem XW {ops:Array Oper} {D:Nat->Prop} (hD:Down ops D) {i j:Nat} {o:Oper} (ho:ops[i]? =some o)
 (hr: ∀e∈o.after,Region.binds .any e=true->D e.on) (h:kP ops j i=true) (hij:j≠i):D j:=by
 have hD':Down ops (fun t=>D t∨t=i):=by
  intro t o' ht hDt e he hb
  rcases hDt with hDt|rfl
  ·exact .inl (hD t o' ht hDt e he hb)
  ·rw[ho] at ht;cases ht
   exact .inl (hr e he hb)
 exact(um hD' (aV.1 ho).1 (.inr rfl) h).resolve_right hij
section
variable {P : Program} {ops : Array Oper}
def oD (ops:Array Oper) (i:Nat):Option Tmp:=(ops[i]?).bind (·.dst)
def kz (ops:Array Oper) (env:Nat->Value) (a0:Act) (l:List Nat):Act:=l.foldl (fun a i=>a.put (oD ops i) (env i)) a0
theorem lJ (env:Nat->Value) (a0:Act) (l:List Nat) (i:Nat):kz ops env a0 (l++[i])=(kz ops env a0 l).put (oD ops i) (env i):=by
 simp[kz,List.foldl_append]
theorem put_defers (a:Act) (d:Option Tmp) (v:Value):(a.put d v).defers=a.defers:=by cases d <;>rfl
theorem Zn (a:Act) (d:Option Tmp) (v:Value):(a.put d v).tmps.size=a.tmps.size:=by cases d <;>simp[Act.put]
theorem UU (a:Act) (d:Option Tmp) (v:Value) (t:Nat):(a.put d v).tmps[t]? =if d=some t then(if t<a.tmps.size then some v else none) else a.tmps[t]? :=by
 cases d with
 |none=>simp[Act.put]
 |some d=>
  by_cases h:d=t
  ·subst h;simp[Act.put,Array.getElem?_setIfInBounds]
  ·have h':some d≠some t:=fun e=>h (iV e)
   rw[ai h']
   simp[Act.put,Array.getElem?_setIfInBounds_ne h]
theorem mD (env:Nat->Value) (a0:Act) (l:List Nat):(kz ops env a0 l).defers=a0.defers:=by
 induction l using pG with
 |h0=>rfl
 |h1 l i ih=>rw[lJ,put_defers,ih]
theorem Oa (env:Nat->Value) (a0:Act) (l:List Nat):(kz ops env a0 l).tmps.size=a0.tmps.size:=by
 induction l using pG with
 |h0=>rfl
 |h1 l i ih=>rw[lJ,Zn,ih]
theorem Ej (env:Nat->Value) (a0:Act) (t:Nat) (l:List Nat) (h: ∀i∈l,oD ops i≠some t):(kz ops env a0 l).tmps[t]? =a0.tmps[t]? :=by
 induction l using pG with
 |h0=>rfl
 |h1 l i ih=>rw[lJ,UU,ai (h i (by simp)),ih (fun j hj=>h j (by simp[hj]))]
theorem Ei (env:Nat->Value) (a0:Act) (t i:Nat) (l:List Nat) (hi:i∈l) (hd:oD ops i=some t) (hu: ∀j∈l,oD ops j=some t->j=i):
 (kz ops env a0 l).tmps[t]? =if t<a0.tmps.size then some (env i) else none:=by
 induction l using pG with
 |h0=>simp at hi
 |h1 l j ih=>
  rw[lJ,UU,Oa]
  by_cases hj:oD ops j=some t
  ·rw[aA hj,hu j (by simp) hj]
  ·rw[ai hj]
   refine ih ?_ (fun x hx=>hu x (by simp[hx]))
   rcases iI.1 hi with h|h
   ·exact h
   ·simp at h;subst h;exact absurd hd hj
theorem agree {env env':Nat->Value} {a0:Act} {l l':List Nat} (t:Nat) (hm: ∀i,oD ops i=some t->(i∈l↔i∈l')) (he: ∀i∈l,oD ops i=some t->env i=env' i)
 (hu: ∀i j,i∈l->j∈l->oD ops i=some t->oD ops j=some t->i=j):(kz ops env a0 l).tmps[t]? =(kz ops env' a0 l').tmps[t]? :=by
 by_cases h: ∃i∈l,oD ops i=some t
 ·obtain⟨i,hi,hd⟩:=h
  rw[Ei env a0 t i l hi hd (fun j hj hdj=>hu j i hj hi hdj hd),Ei env' a0 t i l' ((hm i hd).1 hi) hd (fun j hj hdj=>hu j i ((hm j hdj).2 hj) hi hdj hd),he i hi hd]
 ·have h1: ∀i∈l,oD ops i≠some t:=fun i hi hd=>h ⟨i,hi,hd⟩
  have h2: ∀i∈l',oD ops i≠some t:=fun i hi hd=>h ⟨i,(hm i hd).2 hi,hd⟩
  rw[Ej _ _ _ _ h1,Ej _ _ _ _ h2]
theorem Bj {env env':Nat->Value} {a0:Act} {l:List Nat} (he: ∀i∈l,env i=env' i):kz ops env a0 l=kz ops env' a0 l:=by
 induction l using pG with
 |h0=>rfl
 |h1 l i ih=>rw[lJ,lJ,ih (fun j hj=>he j (by simp[hj])),he i (by simp)]
theorem Vu {a b:Act} (hd:a.defers=b.defers) (ht: ∀t:Nat,a.tmps[t]? =b.tmps[t]?):a=b:=by
 obtain⟨x,d⟩:=a;obtain⟨y,d'⟩:=b
 simp only at hd ht
 subst hd
 congr 1
 exact Array.ext_getElem? ht
def lH (ops:Array Oper) (o:Oper) (a b:Act):Prop:= ∀t∈o.looksAt ops,a.tmps[t]? =b.tmps[t]?
theorem lH.eval {o:Oper} {a b:Act} (h:lH ops o a b): ∀x∈o.op.operands,a.eval x=b.eval x:=by
 intro x hx
 cases x with
 |tmp t=>
  have:=h t (nI _ (List.mem_filterMap.2 ⟨.tmp t,by simpa using hx,rfl⟩))
  simp[Act.eval,AY,this]
 |_=>rfl
theorem lH.exec {o:Oper} {a b:Act} (h:lH ops o a b) (hs: ∀cs b,o.op≠ .select cs b):execOp a.eval o=execOp b.eval o:=execOp_congr o hs h.eval
theorem lH.nS {o:Oper} {a b:Act} (h:lH ops o a b):nS o a=nS o b:=List.map_congr_left fun x hx=>h.eval x (by simpa using hx)
theorem lH.wanted {o:Oper} {a b:Act} (h:lH ops o a b):Region.wanted o (yielded ops a.tmps)=Region.wanted o (yielded ops b.tmps):=by
 unfold Region.wanted
 cases hg:o.guard with
 |none=>rfl
 |some gw=>
  obtain⟨g,want⟩:=gw
  have hy:yielded ops a.tmps g=yielded ops b.tmps g:=by
   unfold yielded
   cases ht:(ops[g]?).bind (·.dst) with
   |none=>rfl
   |some t=>
    have:=h t (uy _ (by simp[hg,ht]))
    simp[this]
  simp only[hy]
end
structure Chk (ops:Array Oper) (k:Nat):Prop where
 kn:k<=ops.size
 lt: ∀(i:Nat) (o:Oper),ops[i]? =some o-> ∀e∈o.after,Region.binds .any e=true->e.on<i
 acN: ∀i j,i<k->j<k-> ∀t,oD ops i=some t->oD ops j=some t->i=j
 look: ∀(i:Nat) (o:Oper),i<k->ops[i]? =some o-> ∀t∈o.looksAt ops, ∀j,j<k->oD ops j=some t->i≠j->(j<i/\kP ops j i=true)∨(i<j/\kP ops i j=true)
 tail: ∀i,k<=i->i<ops.size-> ∀j,j<k->kP ops j i=true
 sel: ∀(i:Nat) (o:Oper),ops[i]? =some o-> ∀cs b,o.op≠ .select cs b
 rdy: ∀t,k<=t->t<ops.size->Region.ready .any ops (qX ops.size t)=[t]
 fin:Region.ready .any ops (qX ops.size ops.size)=[]
theorem rP {ops:Array Oper} {i:Nat} {o:Oper} (h:ops[i]? =some o):ops.getD i default=o:=by
 rw[AY,h];rfl
theorem yM {ops:Array Oper} {i:Nat} {o:Oper} (h:ops[i]? =some o):oD ops i=o.dst:=by simp[oD,h]
theorem Ih {ops:Array Oper} {k:Nat} (h:chk ops k=true):Chk ops k:=by
 simp only[chk,fH,eY,jR,lM,Bool.or_eq_true,beq_iff_eq,bne_iff_ne,ne_eq,Bool.not_eq_true'] at h
 obtain⟨⟨⟨⟨⟨⟨⟨h1,h2⟩,h3⟩,h4⟩,h5⟩,h6⟩,h7⟩,h8⟩:=h
 have hlt: ∀{i:Nat} {o:Oper},ops[i]? =some o->i<ops.size:=fun h=>(aV.1 h).1
 have hget: ∀{i:Nat},i<ops.size->ops[i]? =some (ops.getD i default):=fun {i} hi=>by
  rw[xu hi,AY,xu hi];rfl
 refine⟨h1,?_,?_,?_,?_,?_,?_,h8⟩
 ·intro i o ho e he hb
  have:=h2 i (hlt ho) e (by rw[rP ho];simpa using he)
  rcases this with h|h
  ·rw[hb] at h;cases h
  ·exact h
 ·intro i j hi hj t hdi hdj
  have:=h3 i hi j hj
  have ei:=hget (fZ hi h1)
  have ej:=hget (fZ hj h1)
  rw[yM ei] at hdi
  rw[yM ej] at hdj
  rcases this with(h|h)|h
  ·exact h
  ·rw[hdi] at h;cases h
  ·rw[hdi,hdj] at h;exact absurd rfl h
 ·intro i o hi ho t ht j hj hdj hij
  have:=h4 i hi t (by rw[rP ho];exact ht) j hj
  rw[yM (hget (fZ hj h1))] at hdj
  rcases this with((h|h)|h)|h
  ·exact absurd hdj h
  ·exact absurd h hij
  ·exact .inl h
  ·exact .inr h
 ·intro i hk hi j hj
  rcases h5 i hi with h|h
  ·omega
  ·exact h j hj
 ·intro i o ho cs b e
  have:=h6 i (hlt ho)
  rw[rP ho,e] at this
  cases this
 ·intro t hk ht
  have:=h7 (t-k) (by omega)
  rw[show k+(t-k)=t from by omega] at this
  exact this
section
variable {Ps : uN} {P : Program} {ops : Array Oper} {R0 R1 : World → World → Prop} {m : Option Nat} {Ss : List (Nat × Spec)} {W0 : World} {a0 : Act}
abbrev pf (ops:Array Oper) (a0:Act) (env:Nat->Value) (i:Nat):Act:=kz ops env a0 (List.range i)
theorem UW (env:Nat->Value) (i:Nat):pf ops a0 env (i+1)=(pf ops a0 env i).put (oD ops i) (env i):=by
 unfold pf;rw[List.range_succ,lJ]
theorem jY {env env':Nat->Value} {i:Nat} (h: ∀j,j<i->env j=env' j):pf ops a0 env i=pf ops a0 env' i:=
 Bj fun j hj=>h j (by simpa using hj)
def Left (ops:Array Oper) (a0:Act) (env:Nat->Value) (j:Nat) (s:Spec) (W:World):Prop:=s.world (nS (ops.getD j default) (pf ops a0 env j)) (env j) W
def ve (Ps:uN) (ops:Array Oper) (a0:Act) (env:Nat->Value) (j:Nat) (W:World):Prop:=Ps j (nS (ops.getD j default) (pf ops a0 env j)) (env j) W
def ry (Ps:uN) (ops:Array Oper) (R0 R1:World->World->Prop) (m:Option Nat) (Ss:List (Nat×Spec)) (W0:World) (a0:Act) (env:Nat->Value) (i:Nat) (W:World):Prop:=
 kX R0 R1 m i W0 W/\(∀j s,Ss.lookup j=some s->j<i->kP ops j i=true->Left ops a0 env j s W)/\
  (m=some i-> ∀j s,Ss.lookup j=some s->j<i->kP ops j i=true->ve Ps ops a0 env j W)
theorem Uw {env env':Nat->Value} {j:Nat} {s:Spec} {W:World} (h: ∀i,i<=j->env i=env' i) (hl:Left ops a0 env j s W):Left ops a0 env' j s W:=by
 unfold Left at*
 rw[jY (fun i hi=>(h i (by omega)).symm), <-h j (ak _)]
 exact hl
theorem Qy {env env':Nat->Value} {j:Nat} {W:World} (h: ∀i,i<=j->env i=env' i) (hl:ve Ps ops a0 env j W):ve Ps ops a0 env' j W:=by
 unfold ve at*
 rw[jY (fun i hi=>(h i (by omega)).symm), <-h j (ak _)]
 exact hl
theorem rV {env env':Nat->Value} {i:Nat} {W:World} (h: ∀j,j<i->env j=env' j) (hr:ry Ps ops R0 R1 m Ss W0 a0 env i W):ry Ps ops R0 R1 m Ss W0 a0 env' i W:=
 ⟨hr.1,fun j s hs hj ha=>Uw (fun t ht=>h t (by omega)) (hr.2.1 j s hs hj ha),fun hm j s hs hj ha=>Qy (fun t ht=>h t (by omega)) (hr.2.2 hm j s hs hj ha)⟩
def Fs (ops:Array Oper) (Ss:List (Nat×Spec)) (a0:Act) (env:Nat->Value):Nat->Facts
 |0=>[]
 |t+1=>match Ss.lookup t with
  |none=>Fs ops Ss a0 env t
  |some s=>(t,s.world (nS (ops.getD t default) (pf ops a0 env t)) (env t))::Fs ops Ss a0 env t
theorem ZJ {env:Nat->Value} {t:Nat} {f:Nat×(World->Prop)}:f∈Fs ops Ss a0 env t↔ ∃j s,j<t/\Ss.lookup j=some s/\f=(j,Left ops a0 env j s):=by
 induction t with
 |zero=>simp[Fs]
 |succ t ih=>
  unfold Fs
  cases hs:Ss.lookup t with
  |none=>
   simp only[ih]
   constructor
   ·rintro⟨j,s,hj,h1,h2⟩;exact⟨j,s,by omega,h1,h2⟩
   ·rintro⟨j,s,hj,h1,h2⟩
    have:j≠t:=fun e=>by subst e;rw[hs] at h1;cases h1
    exact⟨j,s,by omega,h1,h2⟩
  |some s0=>
   simp only[iy,ih]
   constructor
   ·rintro(rfl|⟨j,s,hj,h1,h2⟩)
    ·exact⟨t,s0,by omega,hs,rfl⟩
    ·exact⟨j,s,by omega,h1,h2⟩
   ·rintro⟨j,s,hj,h1,h2⟩
    by_cases e:j=t
    ·subst e;rw[hs] at h1;cases h1;exact .inl h2
    ·exact .inr ⟨j,s,by omega,h1,h2⟩
theorem QG {env env':Nat->Value} {t:Nat} (h: ∀j,j<t->env j=env' j):Fs ops Ss a0 env t=Fs ops Ss a0 env' t:=by
 induction t with
 |zero=>rfl
 |succ t ih=>
  unfold Fs
  rw[ih (fun j hj=>h j (by omega)),jY (env:=env) (env':=env') (fun j hj=>h j (by omega)),h t (by omega)]
def Gs (Ps:uN) (ops:Array Oper) (Ss:List (Nat×Spec)) (a0:Act) (env:Nat->Value):Nat->Facts
 |0=>[]
 |t+1=>match Ss.lookup t with
  |none=>Gs Ps ops Ss a0 env t
  |some _=>(t,Ps t (nS (ops.getD t default) (pf ops a0 env t)) (env t))::Gs Ps ops Ss a0 env t
theorem ad9 {env:Nat->Value} {t:Nat} {f:Nat×(World->Prop)}:f∈Gs Ps ops Ss a0 env t-> ∃j s,j<t/\Ss.lookup j=some s/\f=(j,ve Ps ops a0 env j):=by
 induction t with
 |zero=>simp[Gs]
 |succ t ih=>
  unfold Gs
  cases hs:Ss.lookup t with
  |none=>exact fun h=>by obtain⟨j,s,hj,h1,h2⟩:=ih h;exact⟨j,s,by omega,h1,h2⟩
  |some s0=>
   simp only[iy]
   rintro(rfl|h)
   ·exact⟨t,s0,by omega,hs,rfl⟩
   ·obtain⟨j,s,hj,h1,h2⟩:=ih h;exact⟨j,s,by omega,h1,h2⟩
theorem QE {env env':Nat->Value} {t:Nat} (h: ∀j,j<t->env j=env' j):Gs Ps ops Ss a0 env t=Gs Ps ops Ss a0 env' t:=by
 induction t with
 |zero=>rfl
 |succ t ih=>
  unfold Gs
  rw[ih (fun j hj=>h j (by omega)),jY (env:=env) (env':=env') (fun j hj=>h j (by omega)),h t (by omega)]
theorem Lu {env:Nat->Value} {i:Nat} {W:World} (h:ry Ps ops R0 R1 m Ss W0 a0 env i W):Us ops R0 R1 m W0 (Fs ops Ss a0 env i) (Gs Ps ops Ss a0 env i) i W:=
 ⟨h.1,fun f hf ha=>by
   obtain⟨j,s,hj,hs,rfl⟩:=ZJ.1 hf
   exact h.2.1 j s hs hj ha,fun hm f hf ha=>by
   obtain⟨j,s,hj,hs,rfl⟩:=ad9 hf
   exact h.2.2 hm j s hs hj ha⟩
def Rec (Ps:uN) (P:Program) (ops:Array Oper) (R0 R1:World->World->Prop) (m:Option Nat) (Ss:List (Nat×Spec)) (W0:World) (a0:Act) (env:Nat->Value) (i:Nat) (o:Oper):Prop:=
 match Ss.lookup i with
 |none=>(Region.wanted o (yielded ops (pf ops a0 env i).tmps)=true/\ ∃W,ry Ps ops R0 R1 m Ss W0 a0 env i W/\(execOp (pf ops a0 env i).eval o).run P W= .ok (.value (env i)) W)∨
   (Region.wanted o (yielded ops (pf ops a0 env i).tmps)=false/\env i=undef)
 |some s=>s.pure (nS o (pf ops a0 env i)) (env i)
variable {k : Nat} (hc : Chk ops k)
include hc
theorem FN {env env':Nat->Value} {i:Nat} {o:Oper} (hi:i<k) (ho:ops[i]? =some o) (h: ∀j,j<i->kP ops j i=true->env j=env' j):
 lH ops o (pf ops a0 env i) (pf ops a0 env' i):=by
 intro t ht
 refine agree t (fun _ _=>Iff.rfl) ?_ ?_
 ·intro j hj hd
  have hj':j<i:=by simpa using hj
  rcases hc.look i o hi ho t ht j (by omega) hd (by omega) with h1|h1
  ·exact h j hj' h1.2
  ·omega
 ·intro x y hx hy hdx hdy
  have hx':x<i:=by simpa using hx
  have hy':y<i:=by simpa using hy
  exact hc.acN x y (by omega) (by omega) t hdx hdy
theorem Zx {env env':Nat->Value} {i:Nat} (hi:i<k) (h: ∀j,j<i->kP ops j i=true->env j=env' j):
 nS (ops.getD i default) (pf ops a0 env i)=nS (ops.getD i default) (pf ops a0 env' i):=by
 have hlt:i<ops.size:=fZ hi hc.kn
 have ho:ops[i]? =some (ops.getD i default):=by
  rw[xu hlt,AY,xu hlt];rfl
 exact(FN hc hi ho h).nS
theorem zD {env env':Nat->Value} {l:List Nat} (hl: ∀i∈l,i<k) (hd:Down ops (· ∈l)) (he: ∀i∈l,env i=env' i) {j:Nat} (hj:j∈l) {s:Spec} {W:World}
 (h:Left ops a0 env j s W):Left ops a0 env' j s W:=by
 unfold Left at*
 rw[<-Zx hc (hl j hj) (fun x _ hx=>he x (um hd (fZ (hl j hj) hc.kn) hj hx)), <-he j hj]
 exact h
theorem CJ {env env':Nat->Value} {l:List Nat} (hl: ∀i∈l,i<k) (hd:Down ops (· ∈l)) (he: ∀i∈l,env i=env' i) {j:Nat} (hj:j∈l) {W:World}
 (h:ve Ps ops a0 env j W):ve Ps ops a0 env' j W:=by
 unfold ve at*
 rw[<-Zx hc (hl j hj) (fun x _ hx=>he x (um hd (fZ (hl j hj) hc.kn) hj hx)), <-he j hj]
 exact h
theorem KJ {env env':Nat->Value} {l:List Nat} (hl: ∀i∈l,i<k) (hd:Down ops (· ∈l)) (he: ∀i∈l,env i=env' i) {i:Nat} (ha: ∀j,j<i->kP ops j i=true->j∈l) {W:World}
 (h:ry Ps ops R0 R1 m Ss W0 a0 env i W):ry Ps ops R0 R1 m Ss W0 a0 env' i W:=
 ⟨h.1,fun j s hs hj hji=>zD hc hl hd he (ha j hj hji) (h.2.1 j s hs hj hji),fun hm j s hs hj hji=>CJ hc hl hd he (ha j hj hji) (h.2.2 hm j s hs hj hji)⟩
theorem afq {env env':Nat->Value} {l:List Nat} (hl: ∀i∈l,i<k) (hd:Down ops (· ∈l)) (he: ∀i∈l,env i=env' i) {i:Nat} {o:Oper} (hi:i∈l) (ho:ops[i]? =some o)
 (h:Rec Ps P ops R0 R1 m Ss W0 a0 env i o):Rec Ps P ops R0 R1 m Ss W0 a0 env' i o:=by
 have hik:i<k:=hl i hi
 have BK: ∀j,kP ops j i=true->j∈l:=fun j hj=>um hd (fZ hik hc.kn) hi hj
 have hL:lH ops o (pf ops a0 env i) (pf ops a0 env' i):=FN hc hik ho (fun j _ hj=>he j (BK j hj))
 unfold Rec at*
 rw[<-hL.wanted, <-hL.nS, <-he i hi, <-hL.exec (hc.sel i o ho)]
 cases hs:Ss.lookup i with
 |none=>
  simp only[hs] at h⊢
  exact h.imp (fun x=>⟨x.1,by obtain⟨W,hW,hr⟩:=x.2;exact⟨W,KJ hc hl hd he (fun j _=>BK j) hW,hr⟩⟩) id
 |some s=>
  simp only[hs] at h⊢
  exact h
end
def Any (jd:Nat->(Act->World->Prop)->Act->World->Prop) (ops:Array Oper) (Qn:Act->World->Prop):Nat->Array Bool->Act->World->Prop
 |0,l,a,w=>Region.ready .any ops l=[]/\Qn a w
 |fuel+1,l,a,w=>(Region.ready .any ops l=[]->Qn a w)/\ ∀i∈Region.ready .any ops l,jd i (Any jd ops Qn fuel (l.setIfInBounds i true)) a w
def Seq (jd:Nat->(Act->World->Prop)->Act->World->Prop) (Qn:Act->World->Prop):List Nat->Act->World->Prop
 |[]=>Qn
 |i::r=>jd i (Seq jd Qn r)
def lst (n:Nat) (l:List Nat):Array Bool:=l.foldl (fun a i=>a.setIfInBounds i true) (Array.replicate n false)
theorem GI (n:Nat) (l:List Nat) (i:Nat):lst n (l++[i])=(lst n l).setIfInBounds i true:=by simp[lst,List.foldl_append]
theorem U3 (n:Nat) (l:List Nat) (i:Nat):(lst n l)[i]? =if i<n then some (decide (i∈l)) else none:=by
 have hsize: ∀l:List Nat,(lst n l).size=n:=by
  intro l
  induction l using pG with
  |h0=>simp[lst]
  |h1 l j ih=>rw[GI];simp[ih]
 induction l using pG with
 |h0=>simp[lst,Array.getElem?_replicate]
 |h1 l j ih=>
  rw[GI,Array.getElem?_setIfInBounds,hsize,ih]
  by_cases e:j=i
  ·subst e;by_cases h:j<n <;>simp[h]
  ·rw[ai e]
   have:i≠j:=fun h=>e h.symm
   simp[this]
theorem AB (n t i:Nat):(qX n t)[i]? =if i<n then some (decide (i<t)) else none:=by
 unfold qX
 rw[List.getElem?_toArray,qC]
 by_cases h:i<n
 ·rw[List.getElem?_range h,aA h];rfl
 ·rw[List.getElem?_eq_none (by simpa using h),ai h];rfl
theorem GK {n k:Nat} {l:List Nat} (h: ∀i,i∈l↔i<k):lst n l=qX n k:=by
 refine Array.ext_getElem? fun i=>?_
 rw[U3,AB]
 simp[h]
theorem mem_ready {ops:Array Oper} {l:List Nat} {i:Nat}:i∈Region.ready .any ops (lst ops.size l)↔
 i<ops.size/\i∉l/\ ∀o,ops[i]? =some o-> ∀e∈o.after,Region.binds .any e=true->e.on∈l/\e.on<ops.size:=by
 unfold Region.ready
 simp only[List.mem_filter,lM,fH,Bool.not_eq_true',AY,U3]
 constructor
 ·rintro⟨hi,h1,h2⟩
  rw[aA hi] at h1
  refine⟨hi,by simpa using h1,fun o ho e he hb=>?_⟩
  rw[ho] at h2
  simp only[Option.map_some,Option.getD_some] at h2
  have:=(mM.1 h2) e he
  rw[hb] at this
  simp only[Bool.not_true,Bool.false_or] at this
  by_cases hlt:e.on<ops.size
  ·rw[aA hlt] at this
   exact⟨by simpa using this,hlt⟩
  ·rw[ai hlt] at this;cases this
 ·rintro⟨hi,h1,h2⟩
  refine⟨hi,by rw[aA hi];simpa using h1,?_⟩
  obtain⟨o,ho⟩: ∃o,ops[i]? =some o:=⟨_,xu hi⟩
  rw[ho]
  simp only[Option.map_some,Option.getD_some]
  refine mM.2 fun e he=>?_
  by_cases hb:Region.binds .any e=true
  ·obtain⟨h3,h4⟩:=h2 o ho e he hb
   rw[aA h4]
   simp[h3]
  ·simp[hb]
section
variable {jd : Nat → (Act → World → Prop) → Act → World → Prop} {ops : Array Oper} {Qn : Act → World → Prop} {k : Nat}
theorem Qp (hc:Chk ops k) (hmono: ∀i (K K':Act->World->Prop) a w,(∀a w,K a w->K' a w)->jd i K a w->jd i K' a w):
 ∀j t a w,t+j=ops.size->k<=t->Seq jd Qn (List.range' t j) a w->Any jd ops Qn j (qX ops.size t) a w:=by
 intro j
 induction j with
 |zero=>
  intro t a w ht _ h
  have:t=ops.size:=by omega
  subst this
  exact⟨hc.fin,h⟩
 |succ j ih=>
  intro t a w ht hk h
  have hr:=hc.rdy t hk (by omega)
  refine⟨fun e=>(by rw[hr] at e;cases e),fun i hi=>?_⟩
  rw[hr] at hi
  have:i=t:=by simpa using hi
  subst this
  rw[List.range'_succ] at h
  refine hmono _ _ _ _ _ (fun a w hs=>?_) h
  have e:(qX ops.size i).setIfInBounds i true=qX ops.size (i+1):=by
   refine Array.ext_getElem? fun x=>?_
   have hsz:(qX ops.size i).size=ops.size:=by simp[qX]
   rw[Array.getElem?_setIfInBounds,hsz,AB,AB]
   by_cases e:i=x
   ·subst e;simp
   ·rw[ai e]
    by_cases hx:x<ops.size
    ·simp only[hx,if_true,Option.some.injEq,decide_eq_decide];omega
    ·simp[hx]
  rw[e]
  exact ih (i+1) a w (by omega) (by omega) hs
end
theorem all_in {k:Nat} {l:List Nat} (hn:l.Nodup) (h1: ∀i∈l,i<k) (h2:k<=l.length): ∀i,i<k->i∈l:=by
 intro i hi
 refine Classical.byContradiction fun h=>?_
 have:=List.Nodup.length_le_of_subset (l₁:=i::l) (l₂:=List.range k) (List.nodup_cons.2 ⟨h,hn⟩) (fun x hx=>by
  rcases iy.1 hx with rfl|hx
  ·simpa using hi
  ·simpa using h1 x hx)
 simp at this;omega
theorem ZQ {k:Nat} {l:List Nat} (hn:l.Nodup) (h1: ∀i∈l,i<k):l.length<=k:=by
 have:=List.Nodup.length_le_of_subset (l₁:=l) (l₂:=List.range k) hn (fun x hx=>by simpa using h1 x hx)
 simpa using this
end Go.RG
namespace Go.RX
open Go.RowKit Go.RG
def Does (X:List PanicEntry->World->Prop) (P:Program) (o:Oper) (ρ:Operand->Value) (W:World) (R:Value->World->Prop):Prop:=
 match (execOp ρ o).run P W with
 | .ok (.value v) w'=>R v w'
 | .ok .skip w'=>R undef w'
 | .ok (.enter f args) w'=>Calls P f args w' (fun e w''=>(∃v,e= .returned v/\R v w'')∨ ∃ps,e= .panicked ps/\X ps w'')
 |_=>False
def iP (X:List PanicEntry->World->Prop) (Ps:uN) (P:Program) (ops:Array Oper) (R0 R1:World->World->Prop) (m:Option Nat) (Ss:List (Nat×RG.Spec)) (Fin:Act->World->Prop) (W0:World):
 List Oper->Nat->Act->Facts->Facts->Prop
 |[],_,a,F,_=> ∀W,R1 W0 W->(∀f∈F,f.2 W)->Fin a W
 |o::rest,i,a,F,G=>
  match Ss.lookup i with
  |none=> ∃v,((Region.wanted o (yielded ops a.tmps)=true/\ ∀W,Us ops R0 R1 m W0 F G i W->(execOp a.eval o).run P W= .ok (.value v) W)∨
    (Region.wanted o (yielded ops a.tmps)=false/\v=undef))/\iP X Ps P ops R0 R1 m Ss Fin W0 rest (i+1) (a.put o.dst v) F G
  |some s=>Region.wanted o (yielded ops a.tmps)=true/\(∃v,s.pure (nS o a) v)/\
    (∀W,Us ops R0 R1 m W0 F G i W->Does X P o a.eval W (fun v W'=>s.pure (nS o a) v/\s.world (nS o a) v W'/\xE R0 R1 m i W W'/\Ps i (nS o a) v W'))/\
    ((∀v W W',s.world (nS o a) v W->kX R0 R1 m i W W'->s.world (nS o a) v W')/\(∀v W W',Ps i (nS o a) v W->R0 W W'->Ps i (nS o a) v W'))/\
    ∀v,s.pure (nS o a) v->iP X Ps P ops R0 R1 m Ss Fin W0 rest (i+1) (a.put o.dst v) ((i,s.world (nS o a) v)::F) ((i,Ps i (nS o a) v)::G)
section
variable {X : List PanicEntry → World → Prop} {Ps : uN} {P : Program} {ops : Array Oper} {R0 R1 : World → World → Prop} {m : Option Nat} {Ss : List (Nat × RG.Spec)} {W0 : World} {a0 : Act}
def Node (X:List PanicEntry->World->Prop) (Ps:uN) (P:Program) (ops:Array Oper) (R0 R1:World->World->Prop) (m:Option Nat) (Ss:List (Nat×RG.Spec)) (W0:World) (a0:Act) (env:Nat->Value) (i:Nat) (o:Oper):Prop:=
 match Ss.lookup i with
 |none=>(Region.wanted o (yielded ops (pf ops a0 env i).tmps)=true/\ ∀W,ry Ps ops R0 R1 m Ss W0 a0 env i W->(execOp (pf ops a0 env i).eval o).run P W= .ok (.value (env i)) W)∨
   (Region.wanted o (yielded ops (pf ops a0 env i).tmps)=false/\env i=undef)
 |some s=>Region.wanted o (yielded ops (pf ops a0 env i).tmps)=true/\s.pure (nS o (pf ops a0 env i)) (env i)/\
   (∀W,ry Ps ops R0 R1 m Ss W0 a0 env i W->Does X P o (pf ops a0 env i).eval W (fun v W'=>s.pure (nS o (pf ops a0 env i)) v/\s.world (nS o (pf ops a0 env i)) v W'/\xE R0 R1 m i W W'/\Ps i (nS o (pf ops a0 env i)) v W'))/\
   (∀v W W',s.world (nS o (pf ops a0 env i)) v W->kX R0 R1 m i W W'->s.world (nS o (pf ops a0 env i)) v W')/\
   (∀v W W',Ps i (nS o (pf ops a0 env i)) v W->R0 W W'->Ps i (nS o (pf ops a0 env i)) v W')
theorem Uu {env env':Nat->Value} {i:Nat} {o:Oper} (h: ∀j,j<=i->env j=env' j) (hn:Node X Ps P ops R0 R1 m Ss W0 a0 env i o):Node X Ps P ops R0 R1 m Ss W0 a0 env' i o:=by
 have hp:pf ops a0 env i=pf ops a0 env' i:=jY fun j hj=>h j (by omega)
 have hr: ∀W,ry Ps ops R0 R1 m Ss W0 a0 env' i W->ry Ps ops R0 R1 m Ss W0 a0 env i W:=fun W=>rV fun j hj=>(h j (by omega)).symm
 unfold Node at*
 rw[<-hp, <-h i (ak _)]
 cases hs:Ss.lookup i with
 |none=>
  simp only[hs] at hn⊢
  exact hn.imp (fun x=>⟨x.1,fun W hW=>x.2 W (hr W hW)⟩) id
 |some s=>
  simp only[hs] at hn⊢
  exact⟨hn.1,hn.2.1,fun W hW=>hn.2.2.1 W (hr W hW),hn.2.2.2⟩
variable {k : Nat} (hc : Chk ops k)
include hc
theorem along {Fin:Act->World->Prop} {env:Nat->Value} {l:List Nat} (hl: ∀i∈l,i<k) (hd:Down ops (· ∈l))
 (hrec: ∀i∈l, ∀o,ops[i]? =some o->Rec Ps P ops R0 R1 m Ss W0 a0 env i o)
 (Ey:iP X Ps P ops R0 R1 m Ss Fin W0 (ops.toList.take k) 0 a0 [] []):
 ∃env',(∀i∈l,env' i=env i)/\(∀i o,i<k->ops[i]? =some o->Node X Ps P ops R0 R1 m Ss W0 a0 env' i o)/\
  (∀W,R1 W0 W->(∀j s,Ss.lookup j=some s->j<k->RG.Left ops a0 env' j s W)->Fin (pf ops a0 env' k) W):=by
 have hlen:(ops.toList.take k).length=k:=by have:=hc.kn;simp[gY];omega
 have go: ∀t,t<=k-> ∃env',(∀i∈l,env' i=env i)/\(∀i o,i<t->ops[i]? =some o->Node X Ps P ops R0 R1 m Ss W0 a0 env' i o)/\
  iP X Ps P ops R0 R1 m Ss Fin W0 ((ops.toList.take k).drop t) t (pf ops a0 env' t) (Fs ops Ss a0 env' t) (Gs Ps ops Ss a0 env' t):=by
  intro t
  induction t with
  |zero=>exact fun _=>⟨env,fun _ _=>rfl,fun i o hi=>by omega,by simpa [Fs,Gs,pf,kz] using Ey⟩
  |succ t ih=>
   intro ht
   obtain⟨env',h1,h2,h3⟩:=ih (by omega)
   have htk:t<k:=by omega
   have hlt:t<ops.size:=fZ htk hc.kn
   obtain⟨o,ho⟩: ∃o,ops[t]? =some o:=⟨_,xu hlt⟩
   have hcons:(ops.toList.take k).drop t=o::(ops.toList.take k).drop (t+1):=by
    rw[AX (by omega)]
    congr 1
    have:(ops.toList.take k)[t]? =some o:=by rw[List.getElem?_take,aA htk];simpa using ho
    rw[dP (by omega)] at this
    exact iV this
   rw[hcons] at h3
   unfold iP at h3
   have hdst:oD ops t=o.dst:=yM ho
   have jd: ∀v,(t∈l->v=env t)->(∀e:Nat->Value,(∀j,j<t->e j=env' j)->e t=v->Node X Ps P ops R0 R1 m Ss W0 a0 e t o)->
    (∀e:Nat->Value,(∀j,j<t->e j=env' j)->e t=v->iP X Ps P ops R0 R1 m Ss Fin W0 ((ops.toList.take k).drop (t+1)) (t+1) (pf ops a0 e (t+1)) (Fs ops Ss a0 e (t+1)) (Gs Ps ops Ss a0 e (t+1)))->
    ∃yL,(∀i∈l,yL i=env i)/\(∀i o,i<t+1->ops[i]? =some o->Node X Ps P ops R0 R1 m Ss W0 a0 yL i o)/\
     iP X Ps P ops R0 R1 m Ss Fin W0 ((ops.toList.take k).drop (t+1)) (t+1) (pf ops a0 yL (t+1)) (Fs ops Ss a0 yL (t+1)) (Gs Ps ops Ss a0 yL (t+1)):=by
    intro v hv hN hT
    refine⟨fun j=>if j=t then v else env' j,?_,?_,?_⟩
    ·intro i hi
     by_cases e:i=t
     ·subst e;simp only[aA];exact hv hi
     ·simp only[ai e];exact h1 i hi
    ·intro i o' hi ho'
     by_cases e:i=t
     ·subst e;rw[ho] at ho';cases ho'
      exact hN _ (fun j hj=>ai (by omega)) (aA rfl)
     ·exact Uu (fun j hj=>(ai (by omega)).symm) (h2 i o' (by omega) ho')
    ·exact hT _ (fun j hj=>ai (by omega)) (aA rfl)
   cases hs:Ss.lookup t with
   |none=>
    simp only[hs] at h3
    obtain⟨v,hv,hT⟩:=h3
    refine jd v ?_ ?_ ?_
    ·intro htl
     have hR:=hrec t htl o ho
     have BK: ∀j,kP ops j t=true->j∈l:=fun j hj=>um hd hlt htl hj
     have hL:lH ops o (pf ops a0 env t) (pf ops a0 env' t):=FN hc htk ho (fun j _ hj=>(h1 j (BK j hj)).symm)
     unfold Rec at hR
     simp only[hs] at hR
     rw[hL.wanted,hL.exec (hc.sel t o ho)] at hR
     rcases hv with⟨hw,hv⟩|⟨hw,hv⟩
     ·rcases hR with⟨_,W,hW,hr⟩|⟨hw',_⟩
      ·have:=hv W (Lu (KJ hc hl hd (fun i hi=>(h1 i hi).symm) (fun j _=>BK j) hW))
       rw[hr] at this
       injection this with e1 _
       injection e1 with e2
       exact e2.symm
      ·rw[hw] at hw';cases hw'
     ·rcases hR with⟨hw',_⟩|⟨_,hu⟩
      ·rw[hw] at hw';cases hw'
      ·rw[hv,hu]
    ·intro e he het
     have hp:pf ops a0 e t=pf ops a0 env' t:=jY he
     unfold Node
     simp only[hs]
     rw[hp,het]
     exact hv.imp (fun x=>⟨x.1,fun W hW=>x.2 W (Lu (rV he hW))⟩) id
    ·intro e he het
     rw[UW,hdst,het,jY he]
     have:Fs ops Ss a0 e (t+1)=Fs ops Ss a0 env' t:=by
      show(match Ss.lookup t with|none=>_|some s=>_)=_
      simp only[hs]
      exact QG he
     rw[this]
     have:Gs Ps ops Ss a0 e (t+1)=Gs Ps ops Ss a0 env' t:=by
      show(match Ss.lookup t with|none=>_|some s=>_)=_
      simp only[hs]
      exact QE he
     rw[this]
     exact hT
   |some s=>
    simp only[hs] at h3
    obtain⟨hw,⟨v0,hv0⟩,EN,hst,hT⟩:=h3
    have key: ∀v,s.pure (nS o (pf ops a0 env' t)) v->(t∈l->v=env t)-> ∃yL,(∀i∈l,yL i=env i)/\(∀i o,i<t+1->ops[i]? =some o->Node X Ps P ops R0 R1 m Ss W0 a0 yL i o)/\
     iP X Ps P ops R0 R1 m Ss Fin W0 ((ops.toList.take k).drop (t+1)) (t+1) (pf ops a0 yL (t+1)) (Fs ops Ss a0 yL (t+1)) (Gs Ps ops Ss a0 yL (t+1)):=by
     intro v hv hvl
     refine jd v hvl ?_ ?_
     ·intro e he het
      have hp:pf ops a0 e t=pf ops a0 env' t:=jY he
      unfold Node
      simp only[hs]
      rw[hp,het]
      exact⟨hw,hv,fun W hW=>EN W (Lu (rV he hW)),hst⟩
     ·intro e he het
      rw[UW,hdst,het,jY he]
      have:Fs ops Ss a0 e (t+1)=(t,s.world (nS o (pf ops a0 env' t)) v)::Fs ops Ss a0 env' t:=by
       show(match Ss.lookup t with|none=>_|some s=>_)=_
       simp only[hs]
       rw[QG he,jY he,het,rP ho]
      rw[this]
      have:Gs Ps ops Ss a0 e (t+1)=(t,Ps t (nS o (pf ops a0 env' t)) v)::Gs Ps ops Ss a0 env' t:=by
       show(match Ss.lookup t with|none=>_|some s=>_)=_
       simp only[hs]
       rw[QE he,jY he,het,rP ho]
      rw[this]
      exact hT v hv
    by_cases htl:t∈l
    ·have hR:=hrec t htl o ho
     have BK: ∀j,kP ops j t=true->j∈l:=fun j hj=>um hd hlt htl hj
     have hL:lH ops o (pf ops a0 env t) (pf ops a0 env' t):=FN hc htk ho (fun j _ hj=>(h1 j (BK j hj)).symm)
     unfold Rec at hR
     simp only[hs] at hR
     rw[hL.nS] at hR
     exact key (env t) hR (fun _=>rfl)
    ·exact key v0 hv0 (fun h=>absurd h htl)
 obtain⟨env',h1,h2,h3⟩:=go k (ak _)
 refine⟨env',h1,h2,fun W hW hF=>?_⟩
 rw[List.drop_of_length_le (by omega)] at h3
 unfold iP at h3
 exact h3 W hW (fun f hf=>by
  obtain⟨j,s,hj,hs,rfl⟩:=ZJ.1 hf
  exact hF j s hs hj)
end
section
variable {X : List PanicEntry → World → Prop} {jd : Nat → (Act → World → Prop) → Act → World → Prop} {P : Program} {ops : Array Oper} {Qn : Act → World → Prop} {Ps : uN} {R0 R1 : World → World → Prop} {m : Option Nat} {Ss : List (Nat × RG.Spec)} {W0 : World} {a0 : Act} {k : Nat}
theorem acZ (hR:Iz R0 R1) (hc:Chk ops k) (hmono: ∀i (K K':Act->World->Prop) a w,(∀a w,K a w->K' a w)->jd i K a w->jd i K' a w)
 (EN: ∀(i:Nat) (o:Oper) (K:Act->World->Prop) (a:Act) (W:World) (R:Value->World->Prop),a.defers=a0.defers->ops[i]? =some o->Region.wanted o (yielded ops a.tmps)=true->Does X P o a.eval W R->(∀v W',R v W'->K (a.put o.dst v) W')->jd i K a W)
 (O3: ∀(i:Nat) (o:Oper) (K:Act->World->Prop) (a:Act) (W:World),ops[i]? =some o->Region.wanted o (yielded ops a.tmps)=false->K (a.put o.dst undef) W->jd i K a W)
 (Ey:iP X Ps P ops R0 R1 m Ss (Seq jd Qn (List.range' k (ops.size-k))) W0 (ops.toList.take k) 0 a0 [] []):
 ∀(fuel:Nat) (l:List Nat) (env:Nat->Value) (W:World),l.length+fuel=ops.size->l.Nodup->(∀i∈l,i<k)->Down ops (· ∈l)->
  (∀i∈l, ∀o,ops[i]? =some o->Rec Ps P ops R0 R1 m Ss W0 a0 env i o)->(∀j s,Ss.lookup j=some s->j∈l->RG.Left ops a0 env j s W)->
  R1 W0 W->((∀i,m=some i->i∉l)->R0 W0 W/\ ∀j s,Ss.lookup j=some s->j∈l->ve Ps ops a0 env j W)->Any jd ops Qn fuel (lst ops.size l) (kz ops env a0 l) W:=by
 intro fuel
 induction fuel with
 |zero=>
  intro l env W hlen hnd hl hd hrec hleft Aw _
  have hk:k=ops.size:=by
   have h1:=ZQ hnd hl
   have:=hc.kn;omega
  have hall:=all_in hnd hl (by omega)
  obtain⟨env',he,_,hfin⟩:=along (P:=P) hc hl hd hrec Ey
  have hf:=hfin W Aw (fun j s hs hj=>RG.zD hc hl hd (fun i hi=>(he i hi).symm) (hall j hj) (hleft j s hs (hall j hj)))
  have ea:kz ops env a0 l=pf ops a0 env' k:=Vu (by rw[mD,mD]) fun t=>
   agree t (fun i hi=>⟨fun h=>by simpa using hl i h,fun h=>hall i (by simpa using h)⟩) (fun i hi _=>(he i hi).symm) (fun i j hi hj=>hc.acN i j (hl i hi) (hl j hj) t)
  rw[GK (k:=k) (fun i=>⟨hl i,hall i⟩),ea,hk]
  rw[show ops.size-k=0 from by omega] at hf
  rw[hk] at hf
  exact RG.Qp hc hmono 0 ops.size _ _ (by omega) (by omega) hf
 |succ fuel ih=>
  intro l env W hlen hnd hl hd hrec hleft Aw hnil
  obtain⟨env',he,aal,hfin⟩:=along (P:=P) hc hl hd hrec Ey
  have hes: ∀i∈l,env i=env' i:=fun i hi=>(he i hi).symm
  by_cases hfull:k<=l.length
  ·have hall:=all_in hnd hl hfull
   have hk:l.length=k:=by have:=ZQ hnd hl;omega
   have hf:=hfin W Aw (fun j s hs hj=>RG.zD hc hl hd hes (hall j hj) (hleft j s hs (hall j hj)))
   have ea:kz ops env a0 l=pf ops a0 env' k:=Vu (by rw[mD,mD]) fun t=>
    agree t (fun i hi=>⟨fun h=>by simpa using hl i h,fun h=>hall i (by simpa using h)⟩) (fun i hi _=>hes i hi) (fun i j hi hj=>hc.acN i j (hl i hi) (hl j hj) t)
   rw[GK (k:=k) (fun i=>⟨hl i,hall i⟩),ea]
   have e:fuel+1=ops.size-k:=by omega
   rw[e]
   exact RG.Qp hc hmono (ops.size-k) k _ _ (by have:=hc.kn;omega) (ak _) hf
  ·--one more of the first k comes up
   have hex: ∃i,i<k/\i∉l/\ ∀j,j<i->j∈l:=by
    have h0: ∃i,i<k/\i∉l:=Classical.byContradiction fun hno=>by
     have hall: ∀i,i<k->i∈l:=fun i hi=>Classical.byContradiction fun h=>hno ⟨i,hi,h⟩
     have:=List.Nodup.length_le_of_subset (l₁:=List.range k) (l₂:=l) List.nodup_range (fun x hx=>hall x (by simpa using hx))
     simp at this;omega
    obtain⟨i,hi,hil⟩:=h0
    induction i using Nat.strongRecOn with
    |_ i ihh=>
     by_cases hj: ∃j,j<i/\j∉l
     ·obtain⟨j,hji,hjl⟩:=hj
      exact ihh j hji (by omega) hjl
     ·exact⟨i,hi,hil,fun j hji=>Classical.byContradiction fun h=>hj ⟨j,hji,h⟩⟩
   refine⟨fun e=>?_,fun i hi=>?_⟩
   ·obtain⟨i,hi,hil,hbelow⟩:=hex
    have:i∈Region.ready .any ops (lst ops.size l):=RG.mem_ready.2 ⟨fZ hi hc.kn,hil,fun o ho e he hb=>by
     have:=hc.lt i o ho e he hb
     exact⟨hbelow _ this,by have:=hc.kn;omega⟩⟩
    rw[e] at this;cases this
   ·obtain⟨hin,hil,Z7⟩:=RG.mem_ready.1 hi
    obtain⟨o,ho⟩: ∃o,ops[i]? =some o:=⟨_,xu hin⟩
    have BK: ∀j,kP ops j i=true->j≠i->j∈l:=fun j hj hne=>XW hd ho (fun e he hb=>(Z7 o ho e he hb).1) hj hne
    have hik:i<k:=Classical.byContradiction fun hge=>by
     obtain⟨j,hj,hjl,_⟩:=hex
     exact hjl (BK j (hc.tail i (by omega) hin j hj) (by omega))
    have hN:=aal i o hik ho
    have hL:lH ops o (kz ops env a0 l) (pf ops a0 env' i):=by
     intro t ht
     refine agree t ?_ (fun j hj _=>hes j hj) (fun x y hx hy=>hc.acN x y (hl x hx) (hl y hy) t)
     intro j hd'
     by_cases hji:j=i
     ·subst hji;simp[hil]
     ·constructor
      ·intro hjl
       rcases hc.look i o hik ho t ht j (hl j hjl) hd' (fun e=>hji e.symm) with h|h
       ·simpa using h.1
       ·exact absurd (um hd (fZ (hl j hjl) hc.kn) hjl h.2) hil
      ·intro hjr
       have apO:j<i:=by simpa using hjr
       rcases hc.look i o hik ho t ht j (by omega) hd' (fun e=>hji e.symm) with h|h
       ·exact BK j h.2 hji
       ·omega
    have G7:ry Ps ops R0 R1 m Ss W0 a0 env' i W:=by
     refine⟨?_,fun j s hs hj ha=>RG.zD hc hl hd hes (BK j ha (by omega)) (hleft j s hs (BK j ha (by omega))),fun hm j s hs hj ha=>
      CJ hc hl hd hes (BK j ha (by omega)) ((hnil (fun x hx=>by rw[hm] at hx;cases hx;exact hil)).2 j s hs (BK j ha (by omega)))⟩
     unfold kX
     by_cases hm:m=some i
     ·rw[aA hm];exact(hnil (fun x hx=>by rw[hm] at hx;cases hx;exact hil)).1
     ·rw[ai hm];exact Aw
    have ho':oD ops i=o.dst:=yM ho
    have hnd':(l++[i]).Nodup:=by
     rw[List.nodup_append]
     refine⟨hnd,by simp,fun x hx y hy=>?_⟩
     have:y=i:=by simpa using hy
     subst this
     exact fun e=>hil (e▸hx)
    have hl': ∀x∈l++[i],x<k:=fun x hx=>by
     rcases iI.1 hx with h|h
     ·exact hl x h
     ·have:x=i:=by simpa using h
      omega
    have hd':Down ops (· ∈l++[i]):=by
     intro x ox hox hx e he hb
     rcases iI.1 hx with h|h
     ·exact nI _ (hd x ox hox h e he hb)
     ·have:x=i:=by simpa using h
      subst this
      rw[ho] at hox;cases hox
      exact nI _ (Z7 o ho e he hb).1
    have hlen':(l++[i]).length+fuel=ops.size:=by simp;omega
    have close: ∀v W',(∀e:Nat->Value,(∀j,j<i->e j=env' j)->e i=v->Rec Ps P ops R0 R1 m Ss W0 a0 e i o)->
     (∀e:Nat->Value,(∀j,j∈l->e j=env' j)->(∀j,j<i->e j=env' j)->e i=v-> ∀j s,Ss.lookup j=some s->j∈l++[i]->RG.Left ops a0 e j s W')->R1 W0 W'->((∀x,m=some x->x∉l++[i])->R0 W0 W')->
     ((∀x,m=some x->x∉l++[i])-> ∀e:Nat->Value,(∀j,j∈l->e j=env' j)->(∀j,j<i->e j=env' j)->e i=v-> ∀j s,Ss.lookup j=some s->j∈l++[i]->ve Ps ops a0 e j W')->
     Any jd ops Qn fuel ((lst ops.size l).setIfInBounds i true) ((kz ops env a0 l).put o.dst v) W':=by
     intro v W' hR hLf hE hE0 hLp
     have e1:kz ops (fun j=>if j=i then v else env' j) a0 (l++[i])=(kz ops env a0 l).put o.dst v:=by
      rw[lJ,ho',aA rfl]
      congr 1
      exact Bj fun j hj=>by
       have:j≠i:=fun e=>hil (e▸hj)
       rw[ai this];exact he j hj
     rw[<-e1, <-GI]
     have hag: ∀j∈l,env j=(fun j=>if j=i then v else env' j) j:=fun j hj=>by
      have:j≠i:=fun e=>hil (e▸hj)
      simp only[ai this];exact hes j hj
     refine ih (l++[i]) _ W' hlen' hnd' hl' hd' ?_ ?_ hE (fun hno=>⟨hE0 hno,hLp hno _ (fun j hj=>ai (fun(e:j=i)=>hil (by rw[<-e];exact hj))) (fun j hj=>ai (by omega)) (aA rfl)⟩)
     ·intro x hx ox hox
      rcases iI.1 hx with h|h
      ·exact afq hc hl hd hag h hox (hrec x h ox hox)
      ·have:x=i:=by simpa using h
       subst this
       rw[ho] at hox;cases hox
       exact hR _ (fun j hj=>ai (by omega)) (aA rfl)
     ·exact hLf _ (fun j hj=>ai (fun(e:j=i)=>hil (by rw[<-e];exact hj))) (fun j hj=>ai (by omega)) (aA rfl)
    have old: ∀(e:Nat->Value),(∀j,j∈l->e j=env' j)-> ∀j s W',Ss.lookup j=some s->j∈l->kX R0 R1 m j W W'->RG.Left ops a0 e j s W':=by
     intro e Dp j s W' hs hj hE
     have hNj: ∃oj,ops[j]? =some oj:=⟨_,xu (fZ (hl j hj) hc.kn)⟩
     obtain⟨oj,hoj⟩:=hNj
     have hst:=aal j oj (hl j hj) hoj
     unfold Node at hst
     simp only[hs] at hst
     have h1:RG.Left ops a0 env' j s W:=RG.zD hc hl hd hes hj (hleft j s hs hj)
     refine RG.zD hc hl hd (fun x hx=>(Dp x hx).symm) hj ?_
     unfold RG.Left at h1⊢
     rw[rP hoj] at h1⊢
     exact hst.2.2.2.1 _ W W' h1 hE
    have agw:(∀x,m=some x->x∉l)-> ∀(e:Nat->Value),(∀j,j∈l->e j=env' j)-> ∀j s W',Ss.lookup j=some s->j∈l->R0 W W'->ve Ps ops a0 e j W':=by
     intro hno e Dp j s W' hs hj hE
     have hNj: ∃oj,ops[j]? =some oj:=⟨_,xu (fZ (hl j hj) hc.kn)⟩
     obtain⟨oj,hoj⟩:=hNj
     have hst:=aal j oj (hl j hj) hoj
     unfold Node at hst
     simp only[hs] at hst
     have h1:ve Ps ops a0 env' j W:=CJ hc hl hd hes hj ((hnil hno).2 j s hs hj)
     refine CJ hc hl hd (fun x hx=>(Dp x hx).symm) hj ?_
     unfold ve at h1⊢
     rw[rP hoj] at h1⊢
     exact hst.2.2.2.2 _ W W' h1 hE
    unfold Node at hN
    cases hs:Ss.lookup i with
    |none=>
     simp only[hs] at hN
     have same: ∀v,v=env' i->((Region.wanted o (yielded ops (pf ops a0 env' i).tmps)=true/\ ∃W,ry Ps ops R0 R1 m Ss W0 a0 env' i W/\(execOp (pf ops a0 env' i).eval o).run P W= .ok (.value (env' i)) W)∨
      (Region.wanted o (yielded ops (pf ops a0 env' i).tmps)=false/\env' i=undef))->Any jd ops Qn fuel ((lst ops.size l).setIfInBounds i true) ((kz ops env a0 l).put o.dst v) W:=by
      intro v hv hcase
      refine close v W ?_ ?_ Aw ?_ ?_
      ·intro e Dp hei
       have hp:pf ops a0 e i=pf ops a0 env' i:=jY Dp
       unfold Rec
       simp only[hs]
       rw[hp,hei,hv]
       exact hcase.imp (fun x=>⟨x.1,by obtain⟨Wx,h1,h2⟩:=x.2;exact⟨Wx,rV (fun j hj=>(Dp j hj).symm) h1,h2⟩⟩) id
      ·intro e hel Dp hei j s hjs hj
       rcases iI.1 hj with h|h
       ·exact old e hel j s W hjs h (hR.ab6 j W)
       ·have:j=i:=by simpa using h
        subst this
        rw[hs] at hjs;cases hjs
      ·intro hno
       exact(hnil (fun x hx hxl=>hno x hx (nI _ hxl))).1
      ·intro hno e hel Dp hei j s hjs hj
       rcases iI.1 hj with h|h
       ·exact agw (fun x hx hxl=>hno x hx (nI _ hxl)) e hel j s W hjs h (hR.refl W)
       ·have:j=i:=by simpa using h
        subst this
        rw[hs] at hjs;cases hjs
     rcases hN with⟨hw,hrun⟩|⟨hw,hu⟩
     ·refine EN i o _ _ W (fun v W'=>v=env' i/\W'=W) (mD env a0 l) ho (by rw[hL.wanted];exact hw) ?_ ?_
      ·unfold Does
       rw[hL.exec (hc.sel i o ho),hrun W G7]
       exact⟨rfl,rfl⟩
      ·rintro v W' ⟨hv,rfl⟩
       exact same v hv (.inl ⟨hw,_,G7,hrun _ G7⟩)
     ·refine O3 i o _ _ W ho (by rw[hL.wanted];exact hw) ?_
      exact same undef hu.symm (.inr ⟨hw,hu⟩)
    |some s=>
     simp only[hs] at hN
     obtain⟨hw,_,hdo,hst⟩:=hN
     have ahG:=hdo W G7
     have ahF:Does X P o (kz ops env a0 l).eval W (fun v W'=>s.pure (nS o (pf ops a0 env' i)) v/\s.world (nS o (pf ops a0 env' i)) v W'/\xE R0 R1 m i W W'/\Ps i (nS o (pf ops a0 env' i)) v W'):=by
      unfold Does at ahG⊢
      rw[hL.exec (hc.sel i o ho)]
      exact ahG
     refine EN i o _ _ W _ (mD env a0 l) ho (by rw[hL.wanted];exact hw) ahF ?_
     rintro v W' ⟨ag1,hworld,hE,hpre⟩
     refine close v W' ?_ ?_ ?_ ?_ ?_
     ·intro e Dp hei
      have hp:pf ops a0 e i=pf ops a0 env' i:=jY Dp
      unfold Rec
      simp only[hs]
      rw[hp,hei]
      exact ag1
     ·intro e hel Dp hei j s' hjs hj
      rcases iI.1 hj with h|h
      ·refine old e hel j s' W' hjs h ?_
       have hji:j≠i:=fun x=>hil (x▸h)
       unfold xE at hE
       unfold kX
       by_cases hm:m=some i
       ·rw[aA hm] at hE
        rw[ai (by rw[hm];exact fun x=>hji (iV x).symm)]
        exact hE
       ·rw[ai hm] at hE
        split
        ·exact hE
        ·exact hR.sub hE
      ·have:j=i:=by simpa using h
       subst this
       rw[hs] at hjs;cases hjs
       unfold RG.Left
       rw[rP ho,jY Dp,hei]
       exact hworld
     ·refine hR.ad3 Aw ?_
      unfold xE at hE
      split at hE
      ·exact hE
      ·exact hR.sub hE
     ·intro hno
      have hm:m≠some i:=fun hm=>hno i hm (by simp)
      unfold xE at hE
      rw[ai hm] at hE
      exact hR.ad4 (hnil (fun x hx hxl=>hno x hx (nI _ hxl))).1 hE
     ·intro hno e hel Dp hei j s' hjs hj
      have hm:m≠some i:=fun hm=>hno i hm (by simp)
      unfold xE at hE
      rw[ai hm] at hE
      rcases iI.1 hj with h|h
      ·exact agw (fun x hx hxl=>hno x hx (nI _ hxl)) e hel j s' W' hjs h hE
      ·have:j=i:=by simpa using h
       subst this
       unfold ve
       rw[rP ho,jY Dp,hei]
       exact hpre
end
theorem zB {X:List PanicEntry->World->Prop} {jd:Nat->(Act->World->Prop)->Act->World->Prop} {P:Program} {ops:Array Oper} {Qn:Act->World->Prop} {Ps:uN} {R0 R1:World->World->Prop} {m:Option Nat} {Ss:List (Nat×RG.Spec)} {W0 W:World} {a0:Act} {k:Nat}
 (hR:Iz R0 R1) (hc:chk ops k=true) (hmono: ∀i (K K':Act->World->Prop) a w,(∀a w,K a w->K' a w)->jd i K a w->jd i K' a w)
 (EN: ∀(i:Nat) (o:Oper) (K:Act->World->Prop) (a:Act) (W:World) (R:Value->World->Prop),a.defers=a0.defers->ops[i]? =some o->Region.wanted o (yielded ops a.tmps)=true->Does X P o a.eval W R->(∀v W',R v W'->K (a.put o.dst v) W')->jd i K a W)
 (O3: ∀(i:Nat) (o:Oper) (K:Act->World->Prop) (a:Act) (W:World),ops[i]? =some o->Region.wanted o (yielded ops a.tmps)=false->K (a.put o.dst undef) W->jd i K a W)
 (hW:R0 W0 W)
 (Ey:iP X Ps P ops R0 R1 m Ss (Seq jd Qn (List.range' k (ops.size-k))) W0 (ops.toList.take k) 0 a0 [] []):
 Any jd ops Qn ops.size (Array.replicate ops.size false) a0 W:=
 acZ hR (RG.Ih hc) hmono EN O3 Ey ops.size [] (fun _=>undef) W (by simp) List.nodup_nil (by simp) (fun i o _ h=>by cases h) (by simp) (by simp) (hR.sub hW) (fun _=>⟨hW,by simp⟩)
end Go.RX
namespace Go.RG
open Go.RowKit
theorem TP {X:List PanicEntry->World->Prop} {P:Program} {o:Oper} {ρ:Operand->Value} {W:World} {R:Value->World->Prop} (h:Does P o ρ W R):RX.Does X P o ρ W R:=by
 unfold Does at h;unfold RX.Does
 generalize (execOp ρ o).run P W=r at*
 cases r with
 |ok x w'=>cases x <;>first|exact h|exact Calls.mono h fun _ _=> .inl
 |halt x w'=>exact h
theorem akb {P:Program} {o:Oper} {ρ:Operand->Value} {W:World} {R:Value->World->Prop} (h:RX.Does (fun _ _=>False) P o ρ W R):Does P o ρ W R:=by
 unfold RX.Does at h;unfold Does
 generalize (execOp ρ o).run P W=r at*
 cases r with
 |ok x w'=>cases x <;>first|exact h|exact Calls.mono h fun _ _ h=>h.elim id fun⟨_,_,h⟩=>h.elim
 |halt x w'=>exact h
abbrev iP:=RX.iP (fun _ _=>False)
theorem zB {jd:Nat->(Act->World->Prop)->Act->World->Prop} {P:Program} {ops:Array Oper} {Qn:Act->World->Prop} {Ps:uN} {R0 R1:World->World->Prop} {m:Option Nat} {Ss:List (Nat×Spec)} {W0 W:World} {a0:Act} {k:Nat}
 (hR:Iz R0 R1) (hc:chk ops k=true) (hmono: ∀i (K K':Act->World->Prop) a w,(∀a w,K a w->K' a w)->jd i K a w->jd i K' a w)
 (EN: ∀(i:Nat) (o:Oper) (K:Act->World->Prop) (a:Act) (W:World) (R:Value->World->Prop),ops[i]? =some o->Region.wanted o (yielded ops a.tmps)=true->Does P o a.eval W R->(∀v W',R v W'->K (a.put o.dst v) W')->jd i K a W)
 (O3: ∀(i:Nat) (o:Oper) (K:Act->World->Prop) (a:Act) (W:World),ops[i]? =some o->Region.wanted o (yielded ops a.tmps)=false->K (a.put o.dst undef) W->jd i K a W)
 (hW:R0 W0 W)
 (Ey:iP Ps P ops R0 R1 m Ss (Seq jd Qn (List.range' k (ops.size-k))) W0 (ops.toList.take k) 0 a0 [] []):
 Any jd ops Qn ops.size (Array.replicate ops.size false) a0 W:=
 RX.zB hR hc hmono (fun i o K a W R _ ho hw hd hK=>EN i o K a W R ho hw (akb hd) hK) O3 hW Ey
theorem any_eq {P:Program} {ops:Array Oper} {Q:Exit->Act->World->Prop}: ∀(fuel:Nat) (l:Array Bool) (a:Act) (w:World),Any (wpOp P ops Q) ops (Q .normal) fuel l a w->wpAny P .any ops Q fuel l a w:=by
 intro fuel
 induction fuel with
 |zero=>exact fun l a w h=>h
 |succ fuel ih=>exact fun l a w h=>⟨h.1,fun i hi=>wpOp_mono (fun a w=>ih _ a w) (h.2 i hi)⟩
theorem seq_eq {P:Program} {ops:Array Oper} {Q:Exit->Act->World->Prop} (l:List Nat):Seq (wpOp P ops Q) (Q .normal) l=wpOps P ops Q l:=by
 induction l with
 |nil=>rfl
 |cons i l ih=>funext a w;rw[wpOps_cons, <-ih];rfl
theorem xh {P:Program} {o:Oper} {a:Act} {W:World} {R:Value->World->Prop} {K:Act->World->Prop} {Q:Exit->Act->World->Prop} (h:Does P o a.eval W R) (hK: ∀v W',R v W'->K (a.put o.dst v) W'):o.wp P a W K Q:=by
 unfold Does at h
 unfold Oper.wp
 generalize (execOp a.eval o).run P W=r at*
 cases r with
 |ok x w'=>
  cases x <;>simp only[Oper.upon] at h⊢ <;>first|exact hK _ _ h|exact h.elim|skip
  exact Calls.mono h (fun e w'' ⟨v,he,hr⟩=>by subst he;exact hK _ _ hr)
 |halt x w'=>exact h.elim
end Go.RG
namespace Go.RX
open Go.RowKit Go.RG
theorem xh {X:List PanicEntry->World->Prop} {P:Program} {o:Oper} {a:Act} {W:World} {R:Value->World->Prop} {K:Act->World->Prop} {Q:Exit->Act->World->Prop} (h:Does X P o a.eval W R) (hK: ∀v W',R v W'->K (a.put o.dst v) W') (hX: ∀ps W,X ps W->Q (.panic ps) a W):o.wp P a W K Q:=by
 unfold Does at h
 unfold Oper.wp
 generalize (execOp a.eval o).run P W=r at*
 cases r with
 |ok x w'=>
  cases x <;>simp only[Oper.upon] at h⊢ <;>first|exact hK _ _ h|exact h.elim|skip
  exact Calls.mono h (fun e w'' h=>by
   rcases h with⟨v,he,hr⟩|⟨ps,he,hx⟩
   ·subst he;exact hK _ _ hr
   ·subst he;exact hX _ _ hx)
 |halt x w'=>exact h.elim
theorem kU {X:List PanicEntry->World->Prop} {R0 R1:World->World->Prop} (hR:Iz R0 R1) {Ps:uN} {P:Program} {id:Nat} {ops:List Oper} {Q:Exit->Act->World->Prop} {a:Act} {w:World} (hdr:R0 w w.drew) (k:Nat) (m:Option Nat) (Ss:List (Nat×RG.Spec))
 (hX: ∀ps a1 W,a1.defers=a.defers->X ps W->Q (.panic ps) a1 W) (hm:P.follows .mixedOrders=true) (hc:chk ops.toArray k=true)
 (h:iP X Ps P ops.toArray R0 R1 m Ss (fun a w=>wpList P ops.toArray Q (ops.drop k) a w) w (ops.take k) 0 a [] []):(Code.region id ops.toArray true).wp P Q a w:=by
 refine wp_region_any hm (any_eq _ _ _ _ ?_)
 refine zB (X:=X) (Ps:=Ps) (P:=P) (R0:=R0) (R1:=R1) (m:=m) (Ss:=Ss) (W0:=w) hR hc (fun i K K' a w h hs=>wpOp_mono h hs) ?_ ?_ hdr ?_
 ·intro i o K a W R hdf ho hw hd hK
  unfold wpOp
  simp only[ho]
  rw[aA hw]
  exact .inl (xh hd hK (fun ps W=>hX ps _ W hdf))
 ·intro i o K a W ho hw hK
  unfold wpOp
  simp only[ho]
  rw[ai (by rw[hw];simp)]
  exact hK
 ·have e:(fun a w=>wpList P ops.toArray Q (ops.drop k) a w)=Seq (wpOp P ops.toArray Q) (Q .normal) (List.range' k (ops.toArray.size-k)):=by
   funext a w
   rw[seq_eq]
   have hkn:=(RG.Ih hc).kn
   have hlen:ops.toArray.size-k=(ops.drop k).length:=by simp
   rw[hlen,wpOps_eq_wpList (ops.drop k) k (fun j=>by simp)]
  rw[<-e]
  exact h
theorem gB (X:List PanicEntry->World->Prop) {P:Program} {id:Nat} {ops:List Oper} {Q:Exit->Act->World->Prop} {a:Act} {w:World} (k:Nat) (Ms:List Nat) (m:Option Nat) (Ss:List (Nat×RG.Spec))
 (hX: ∀ps a1 W,a1.defers=a.defers->X ps W->Q (.panic ps) a1 W) (hm:P.follows .mixedOrders=true) (hc:chk ops.toArray k=true)
 (h:iP X Oy P ops.toArray (Ext []) (Ext Ms) m Ss (fun a w=>wpList P ops.toArray Q (ops.drop k) a w) w (ops.take k) 0 a [] []):(Code.region id ops.toArray true).wp P Q a w:=
 kU (Bi Ms) ((Ext.refl [] w).drew) k m Ss hX hm hc h
end Go.RX
namespace Go.RG
open Go.RowKit
theorem kU {R0 R1:World->World->Prop} (hR:Iz R0 R1) {Ps:uN} {P:Program} {id:Nat} {ops:List Oper} {Q:Exit->Act->World->Prop} {a:Act} {w:World} (hdr:R0 w w.drew) (k:Nat) (m:Option Nat) (Ss:List (Nat×Spec))
 (hm:P.follows .mixedOrders=true) (hc:chk ops.toArray k=true)
 (h:iP Ps P ops.toArray R0 R1 m Ss (fun a w=>wpList P ops.toArray Q (ops.drop k) a w) w (ops.take k) 0 a [] []):(Code.region id ops.toArray true).wp P Q a w:=
 RX.kU hR hdr k m Ss (fun _ _ _ _ h=>h.elim) hm hc h
theorem gB {P:Program} {id:Nat} {ops:List Oper} {Q:Exit->Act->World->Prop} {a:Act} {w:World} (k:Nat) (Ms:List Nat) (m:Option Nat) (Ss:List (Nat×Spec))
 (hm:P.follows .mixedOrders=true) (hc:chk ops.toArray k=true)
 (h:iP Oy P ops.toArray (Ext []) (Ext Ms) m Ss (fun a w=>wpList P ops.toArray Q (ops.drop k) a w) w (ops.take k) 0 a [] []):(Code.region id ops.toArray true).wp P Q a w:=
 kU (Bi Ms) ((Ext.refl [] w).drew) k m Ss hm hc h
structure uO (B:Nat) (Ms:List Nat) (w w':World):Prop where
 os:w'.os=w.os
 tape:w'.tape=w.tape
 output:w'.output=w.output
 size:w.heap.size<=w'.heap.size
 block: ∀(k:Nat),k<w.heap.size->k<B->k∉Ms->w'.heap[k]? =w.heap[k]?
theorem uO.wO {B:Nat} {Ms:List Nat} {w w':World} (h:Ext [] w w'):uO B Ms w w':=
 ⟨h.os,h.tape,h.output,h.size,fun k hk _ _=>h.block k hk (by simp)⟩
theorem uO.trans {B:Nat} {Ms:List Nat} {a b c:World} (h:uO B Ms a b) (k:uO B Ms b c):uO B Ms a c:=
 ⟨k.os.trans h.os,k.tape.trans h.tape,k.output.trans h.output,jq h.size k.size,
   fun i hi hb hm=>(k.block i (fZ hi h.size) hb hm).trans (h.block i hi hb hm)⟩
theorem V7 (B:Nat) (Ms:List Nat):Iz (Ext []) (uO B Ms):=⟨Ext.refl [],Ext.trans,uO.trans,uO.wO⟩
theorem qF {P:Program} {id:Nat} {ops:List Oper} {Q:Exit->Act->World->Prop} {a:Act} {w:World} (k:Nat) (Ms:List Nat) (m:Option Nat) (Ss:List (Nat×Spec)) (Ps:uN)
 (hm:P.follows .mixedOrders=true) (hc:chk ops.toArray k=true)
 (h:iP Ps P ops.toArray (Ext []) (uO w.heap.size Ms) m Ss (fun a w=>wpList P ops.toArray Q (ops.drop k) a w) w (ops.take k) 0 a [] []):(Code.region id ops.toArray true).wp P Q a w:=
 kU (V7 _ _) ((Ext.refl [] w).drew) k m Ss hm hc h
class Kept (R1:World->World->Prop) (Ms:outParam (List Nat)) (W0:World):Prop where
 nil: ∀{a b},Ext [] a b->R1 a b
 ext: ∀{W},R1 W0 W->Ext Ms W0 W
instance (Ms:List Nat) (W0:World):Kept (Ext Ms) Ms W0:=⟨Ext.nil,id⟩
instance (Ms:List Nat) (W0:World):Kept (uO W0.heap.size Ms) Ms W0:=⟨uO.wO,fun h=>⟨h.os,h.tape,h.output,h.size,fun k hk hm=>h.block k hk hk hm⟩⟩
section
variable {P : Program} {ops : Array Oper} {R1 : World → World → Prop} {Ms : List Nat} {m : Option Nat} {Ss : List (Nat × Spec)} {Fin : Act → World → Prop} {W0 : World} {o : Oper} {rest : List Oper} {i : Nat} {a : Act} {F G : Facts} {Ps : uN}
theorem Us.ext [Kept R1 Ms W0] {W:World} (h:Us ops (Ext []) R1 m W0 F G i W):Ext Ms W0 W:=by
 have h1:=h.1
 unfold kX at h1
 split at h1
 ·exact h1.nil
 ·exact Kept.ext h1
theorem LG [Kept R1 Ms W0] {W W':World} (h:Ext [] W W'):xE (Ext []) R1 m i W W':=by
 unfold xE
 split
 ·exact Kept.nil (R1:=R1) (W0:=W0) h
 ·exact h
def Spec.block (B:Nat) (cs:Array Value) (t:TypeId):Spec:=
 ⟨fun _ v=> ∃b:Nat,v= .pointer (some ⟨b,0,none⟩),fun _ v W=> ∃b:Nat,v= .pointer (some ⟨b,0,none⟩)/\B<=b/\W.heap[b]? =some (.cells cs t (0,0))⟩
def Spec.slice (B:Nat) (cs:Array Value) (t:TypeId) (n:Nat):Spec:=
 ⟨fun _ v=> ∃b:Nat,v= .slice (some ⟨b,0,none⟩) n n,fun _ v W=> ∃b:Nat,v= .slice (some ⟨b,0,none⟩) n n/\B<=b/\W.heap[b]? =some (.cells cs t (0,0))⟩
end
end Go.RG
namespace Go.RX
open Go.RowKit Go.RG
section
variable {X : List PanicEntry → World → Prop} {P : Program} {ops : Array Oper} {R1 : World → World → Prop} {Ms : List Nat} {m : Option Nat} {Ss : List (Nat × RG.Spec)} {Fin : Act → World → Prop} {W0 : World} {o : Oper} {rest : List Oper} {i : Nat} {a : Act} {F G : Facts} {Ps : uN}
theorem gW [Kept R1 Ms W0] (hs:Ss.lookup i=none) (v:Value) (hw:Region.wanted o (yielded ops a.tmps)=true)
 (hr: ∀W:World,(∀b off,b<W0.heap.size->b∉Ms->W.cell? ⟨b,off,none⟩=W0.cell? ⟨b,off,none⟩)->(execOp a.eval o).run P W= .ok (.value v) W)
 (ht:iP X Ps P ops (Ext []) R1 m Ss Fin W0 rest (i+1) (a.put o.dst v) F G):iP X Ps P ops (Ext []) R1 m Ss Fin W0 (o::rest) i a F G:=by
 unfold iP
 simp only[hs]
 exact⟨v,.inl ⟨hw,fun W hW=>hr W fun b off hb hm=>hW.ext.cell b off hb hm⟩,ht⟩
theorem iJ [Kept R1 Ms W0] (hs:Ss.lookup i=none) (v:Value) (hw:Region.wanted o (yielded ops a.tmps)=true)
 (hr: ∀W:World,Ext Ms W0 W->(∀f∈F,kP ops f.1 i=true->f.2 W)->(execOp a.eval o).run P W= .ok (.value v) W)
 (ht:iP X Ps P ops (Ext []) R1 m Ss Fin W0 rest (i+1) (a.put o.dst v) F G):iP X Ps P ops (Ext []) R1 m Ss Fin W0 (o::rest) i a F G:=by
 unfold iP
 simp only[hs]
 exact⟨v,.inl ⟨hw,fun W hW=>hr W hW.ext hW.2.1⟩,ht⟩
theorem CX (hs:Ss.lookup i=none) (hw:Region.wanted o (yielded ops a.tmps)=false)
 (ht:iP X Ps P ops (Ext []) R1 m Ss Fin W0 rest (i+1) (a.put o.dst undef) F G):iP X Ps P ops (Ext []) R1 m Ss Fin W0 (o::rest) i a F G:=by
 unfold iP
 simp only[hs]
 exact⟨undef,.inr ⟨hw,rfl⟩,ht⟩
theorem bM (s:RG.Spec) (hs:Ss.lookup i=some s) (hw:Region.wanted o (yielded ops a.tmps)=true) (hex: ∃v,s.pure (nS o a) v)
 (hdo: ∀W:World,kX (Ext []) R1 m i W0 W->(∀f∈F,kP ops f.1 i=true->f.2 W)->Does X P o a.eval W (fun v W'=>s.pure (nS o a) v/\s.world (nS o a) v W'/\xE (Ext []) R1 m i W W'))
 (hst: ∀v W W',s.world (nS o a) v W->kX (Ext []) R1 m i W W'->s.world (nS o a) v W')
 (ht: ∀v,s.pure (nS o a) v->iP X Ps P ops (Ext []) R1 m Ss Fin W0 rest (i+1) (a.put o.dst v) ((i,s.world (nS o a) v)::F) ((i,Ps i (nS o a) v)::G)) (hps: ∀x v W,Ps i x v W:=by intro _ _ _;exact True.intro):iP X Ps P ops (Ext []) R1 m Ss Fin W0 (o::rest) i a F G:=by
 unfold iP
 simp only[hs]
 refine⟨hw,hex,fun W hW=>?_,⟨hst,fun v' _ W' _ _=>hps _ _ _⟩,ht⟩
 have:=hdo W hW.1 hW.2.1
 unfold Does at this⊢
 split at this
 ·exact⟨this.1,this.2.1,this.2.2,hps _ _ _⟩
 ·exact⟨this.1,this.2.1,this.2.2,hps _ _ _⟩
 ·exact this.mono fun e w' h=>h.imp (fun⟨v,h1,h2,h3,h4⟩=>⟨v,h1,h2,h3,h4,hps _ _ _⟩) id
 ·exact this.elim
theorem dB {ρ:Operand->Value} {W:World} {R:Value->World->Prop} (f:FuncId) (args:Array Value) (he:(execOp ρ o).run P W= .ok (.enter f args) W)
 (h:Calls P f args W (fun e W'=>(∃v,e= .returned v/\R v W')∨ ∃ps,e= .panicked ps/\X ps W')):Does X P o ρ W R:=by
 unfold Does;rw[he];exact h
theorem jf {ρ:Operand->Value} {W W':World} {R:Value->World->Prop} (v:Value) (he:(execOp ρ o).run P W= .ok (.value v) W') (h:R v W'):Does X P o ρ W R:=by
 unfold Does;rw[he];exact h
theorem jX (B:Nat) (cs:Array Value) (t:TypeId) (hs:Ss.lookup i=some (RG.Spec.block B cs t)) (hB:B<=W0.heap.size) (hw:Region.wanted o (yielded ops a.tmps)=true) (hMs: ∀x∈Ms,x<B) (hmi:m≠some i)
 (he: ∀W:World,(∀b off,b<W0.heap.size->b∉Ms->W.cell? ⟨b,off,none⟩=W0.cell? ⟨b,off,none⟩)->(execOp a.eval o).run P W= .ok (.value (.pointer (some ⟨W.heap.size,0,none⟩))) (W.alloc (.cells cs t)))
 (ht: ∀b:Nat,iP X Ps P ops (Ext []) (Ext Ms) m Ss Fin W0 rest (i+1) (a.put o.dst (.pointer (some ⟨b,0,none⟩))) ((i,fun W=> ∃c:Nat,Value.pointer (some ⟨b,0,none⟩)= .pointer (some ⟨c,0,none⟩)/\B<=c/\W.heap[c]? =some (.cells cs t (0,0)))::F) ((i,Ps i (nS o a) (.pointer (some ⟨b,0,none⟩)))::G)) (hps: ∀x v W,Ps i x v W:=by intro _ _ _;exact True.intro):
 iP X Ps P ops (Ext []) (Ext Ms) m Ss Fin W0 (o::rest) i a F G:=by
 refine bM _ hs hw ⟨.pointer (some ⟨0,0,none⟩),0,rfl⟩ ?_ ?_ ?_ ?_
 ·intro W hW _
  have hW':Ext Ms W0 W:=by
   unfold kX at hW
   rw[ai hmi] at hW
   exact hW
  refine jf _ (he W fun b off hb hm=>hW'.cell b off hb hm) ⟨⟨_,rfl⟩,⟨_,rfl,jq hB hW'.size,heap_alloc_new W _⟩,LG (R1:=Ext Ms) (W0:=W0) (Ext.az ?_)⟩
  exact(aG _ _).alloc (ak _) _
 ·rintro v W W' ⟨b,hb,hle,hc⟩ hE
  unfold kX at hE
  rw[ai hmi] at hE
  exact⟨b,hb,hle,(hE.block b (aV.1 hc).1 (fun h=>by have:=hMs b h;omega)).trans hc⟩
 ·rintro v ⟨b,rfl⟩
  exact ht b
 ·exact hps
theorem eF (B:Nat) (cs:Array Value) (t:TypeId) (n:Nat) (hs:Ss.lookup i=some (RG.Spec.slice B cs t n)) (hB:B<=W0.heap.size) (hw:Region.wanted o (yielded ops a.tmps)=true) (hMs: ∀x∈Ms,x<B) (hmi:m≠some i)
 (he: ∀W:World,(∀b off,b<W0.heap.size->b∉Ms->W.cell? ⟨b,off,none⟩=W0.cell? ⟨b,off,none⟩)->(execOp a.eval o).run P W= .ok (.value (.slice (some ⟨W.heap.size,0,none⟩) n n)) (W.alloc (.cells cs t)))
 (ht: ∀b:Nat,iP X Ps P ops (Ext []) (Ext Ms) m Ss Fin W0 rest (i+1) (a.put o.dst (.slice (some ⟨b,0,none⟩) n n)) ((i,fun W=> ∃c:Nat,Value.slice (some ⟨b,0,none⟩) n n= .slice (some ⟨c,0,none⟩) n n/\B<=c/\W.heap[c]? =some (.cells cs t (0,0)))::F) ((i,Ps i (nS o a) (.slice (some ⟨b,0,none⟩) n n))::G)) (hps: ∀x v W,Ps i x v W:=by intro _ _ _;exact True.intro):
 iP X Ps P ops (Ext []) (Ext Ms) m Ss Fin W0 (o::rest) i a F G:=by
 refine bM _ hs hw ⟨.slice (some ⟨0,0,none⟩) n n,0,rfl⟩ ?_ ?_ ?_ ?_
 ·intro W hW _
  have hW':Ext Ms W0 W:=by
   unfold kX at hW
   rw[ai hmi] at hW
   exact hW
  refine jf _ (he W fun b off hb hm=>hW'.cell b off hb hm) ⟨⟨_,rfl⟩,⟨_,rfl,jq hB hW'.size,heap_alloc_new W _⟩,LG (R1:=Ext Ms) (W0:=W0) (Ext.az ?_)⟩
  exact(aG _ _).alloc (ak _) _
 ·rintro v W W' ⟨b,hb,hle,hc⟩ hE
  unfold kX at hE
  rw[ai hmi] at hE
  exact⟨b,hb,hle,(hE.block b (aV.1 hc).1 (fun h=>by have:=hMs b h;omega)).trans hc⟩
 ·rintro v ⟨b,rfl⟩
  exact ht b
 ·exact hps
end
section
variable {X : List PanicEntry → World → Prop} {P : Program} {ops : Array Oper} {R1 : World → World → Prop} {Ms : List Nat} {m : Option Nat} {Ss : List (Nat × RG.Spec)} {Fin : Act → World → Prop} {W0 : World} {o : Oper} {rest : List Oper} {i : Nat} {a : Act} {F G : Facts} {Ps : uN}
theorem zd [Kept R1 Ms W0] {v:Value} (ht:iP X Ps P ops (Ext []) R1 m Ss Fin W0 rest (i+1) (a.put o.dst v) F G) (hs:Ss.lookup i=none:=by rfl) (hw:Region.wanted o (yielded ops a.tmps)=true:=by rfl)
 (hr: ∀W:World,(∀b off,b<W0.heap.size->b∉Ms->W.cell? ⟨b,off,none⟩=W0.cell? ⟨b,off,none⟩)->(execOp a.eval o).run P W= .ok (.value v) W:=by
   intro W hW;go_simp;(try simp(disch:=omega) only[IntWalk.i64_in,Int.tdiv_eq_ediv_of_nonneg]);try rfl):iP X Ps P ops (Ext []) R1 m Ss Fin W0 (o::rest) i a F G:=
 gW hs v hw hr ht
end
end Go.RX
namespace Go.RG
open Go.RowKit
section
variable {P : Program} {ops : Array Oper} {R1 : World → World → Prop} {Ms : List Nat} {m : Option Nat} {Ss : List (Nat × Spec)} {Fin : Act → World → Prop} {W0 : World} {o : Oper} {rest : List Oper} {i : Nat} {a : Act} {F G : Facts} {Ps : uN}
abbrev gW:= @RX.gW fun _ _=>False
abbrev iJ:= @RX.iJ fun _ _=>False
abbrev CX:= @RX.CX fun _ _=>False
def Spec.val (v:Value):Spec:=⟨fun _ x=>x=v,fun _ _ _=>True⟩
theorem eQ [Kept R1 Ms W0] (v:Value) (hs:Ss.lookup i=some (Spec.val v)) (hw:Region.wanted o (yielded ops a.tmps)=true) (f:FuncId) (args:Array Value)
 (he: ∀W:World,(∀b off,b<W0.heap.size->b∉Ms->W.cell? ⟨b,off,none⟩=W0.cell? ⟨b,off,none⟩)->(execOp a.eval o).run P W= .ok (.enter f args) W)
 (hcall: ∀W:World,Ext Ms W0 W->(∀f∈F,kP ops f.1 i=true->f.2 W)->Calls P f args W (fun e W'=>e= .returned v/\Below W.heap.size W W'))
 (ht:iP Ps P ops (Ext []) R1 m Ss Fin W0 rest (i+1) (a.put o.dst v) F G) (hps: ∀x v W,Ps i x v W:=by intro _ _ _;exact True.intro):iP Ps P ops (Ext []) R1 m Ss Fin W0 (o::rest) i a F G:=by
 have mono: ∀(rest:List Oper) (i:Nat) (a:Act) (F F' G G':Facts),(∀f,f∈F'->f∈F∨ ∀W,f.2 W)->(∀f,f∈F->f∈F')->(∀f,f∈G->f∈G')->iP Ps P ops (Ext []) R1 m Ss Fin W0 rest i a F G->iP Ps P ops (Ext []) R1 m Ss Fin W0 rest i a F' G':=by
  intro rest
  induction rest with
  |nil=>
   intro i a F F' G G' h1 h2 h3 h W hW hF
   exact h W hW (fun f hf=>hF f (h2 f hf))
  |cons o rest ih=>
   intro i a F F' G G' h1 h2 h3 h
   have G7: ∀W,Us ops (Ext []) R1 m W0 F' G' i W->Us ops (Ext []) R1 m W0 F G i W:=fun W hW=>⟨hW.1,fun f hf ha=>hW.2.1 f (h2 f hf) ha,fun hm f hf ha=>hW.2.2 hm f (h3 f hf) ha⟩
   have hcons: ∀(x:Nat×(World->Prop)) (A B:Facts),(∀f,f∈A->f∈B)-> ∀f,f∈x::A->f∈x::B:=by
    intro x A B hAB f hf
    rcases iy.1 hf with rfl|hf
    ·simp
    ·simp[hAB f hf]
   unfold iP RX.iP at h⊢
   cases hs:Ss.lookup i with
   |none=>
    simp only[hs] at h⊢
    obtain⟨v,hv,ht⟩:=h
    exact⟨v,hv.imp (fun x=>⟨x.1,fun W hW=>x.2 W (G7 W hW)⟩) id,ih _ _ _ _ _ _ h1 h2 h3 ht⟩
   |some s=>
    simp only[hs] at h⊢
    obtain⟨x1,x2,x3,x4,x5⟩:=h
    refine⟨x1,x2,fun W hW=>x3 W (G7 W hW),x4,fun v hv=>ih _ _ _ _ _ _ ?_ (hcons _ _ _ h2) (hcons _ _ _ h3) (x5 v hv)⟩
    intro f hf
    rcases iy.1 hf with rfl|hf
    ·exact .inl (by simp)
    ·exact(h1 f hf).imp (fun h=>by simp[h]) id
 unfold iP RX.iP
 simp only[hs]
 refine⟨hw,⟨v,rfl⟩,fun W hW=>?_,⟨fun _ _ _ _ _=>trivial,fun v' _ W' _ _=>hps _ _ _⟩,fun v' hv=>?_⟩
 ·refine TP ?_
  unfold Does
  rw[he W (fun b off hb hm=>hW.ext.cell b off hb hm)]
  exact(hcall W hW.ext hW.2.1).mono fun e W' ⟨h1,h2⟩=>⟨v,h1,rfl,trivial,LG (R1:=R1) (W0:=W0) (Ext.az h2),hps _ _ _⟩
 ·have:v'=v:=hv
  subst this
  refine mono _ _ _ _ _ _ _ ?_ ?_ ?_ ht
  ·intro f hf
   rcases iy.1 hf with rfl|hf
   ·exact .inr (fun _=>trivial)
   ·exact .inl hf
  ·intro f hf
   simp[hf]
  ·intro f hf
   simp[hf]
theorem bM (s:Spec) (hs:Ss.lookup i=some s) (hw:Region.wanted o (yielded ops a.tmps)=true) (hex: ∃v,s.pure (nS o a) v)
 (hdo: ∀W:World,kX (Ext []) R1 m i W0 W->(∀f∈F,kP ops f.1 i=true->f.2 W)->Does P o a.eval W (fun v W'=>s.pure (nS o a) v/\s.world (nS o a) v W'/\xE (Ext []) R1 m i W W'))
 (hst: ∀v W W',s.world (nS o a) v W->kX (Ext []) R1 m i W W'->s.world (nS o a) v W')
 (ht: ∀v,s.pure (nS o a) v->iP Ps P ops (Ext []) R1 m Ss Fin W0 rest (i+1) (a.put o.dst v) ((i,s.world (nS o a) v)::F) ((i,Ps i (nS o a) v)::G)) (hps: ∀x v W,Ps i x v W:=by intro _ _ _;exact True.intro):iP Ps P ops (Ext []) R1 m Ss Fin W0 (o::rest) i a F G:=
 RX.bM s hs hw hex (fun W a b=>TP (hdo W a b)) hst ht hps
theorem kW (s:Spec) (hs:Ss.lookup i=some s) (hw:Region.wanted o (yielded ops a.tmps)=true) (hex: ∃v,s.pure (nS o a) v)
 (hdo: ∀W:World,kX (Ext []) R1 m i W0 W->(∀f∈F,kP ops f.1 i=true->f.2 W)->(m=some i-> ∀g∈G,kP ops g.1 i=true->g.2 W)->
   Does P o a.eval W (fun v W'=>s.pure (nS o a) v/\s.world (nS o a) v W'/\xE (Ext []) R1 m i W W'/\Ps i (nS o a) v W'))
 (hst: ∀v W W',s.world (nS o a) v W->kX (Ext []) R1 m i W W'->s.world (nS o a) v W') (hsp: ∀v W W',Ps i (nS o a) v W->Ext [] W W'->Ps i (nS o a) v W')
 (ht: ∀v,s.pure (nS o a) v->iP Ps P ops (Ext []) R1 m Ss Fin W0 rest (i+1) (a.put o.dst v) ((i,s.world (nS o a) v)::F) ((i,Ps i (nS o a) v)::G)):iP Ps P ops (Ext []) R1 m Ss Fin W0 (o::rest) i a F G:=by
 unfold iP RX.iP
 simp only[hs]
 exact⟨hw,hex,fun W hW=>TP (hdo W hW.1 hW.2.1 hW.2.2),⟨hst,hsp⟩,ht⟩
theorem dB {ρ:Operand->Value} {W:World} {R:Value->World->Prop} (f:FuncId) (args:Array Value) (he:(execOp ρ o).run P W= .ok (.enter f args) W)
 (h:Calls P f args W (fun e W'=> ∃v,e= .returned v/\R v W')):Does P o ρ W R:=by
 unfold Does;rw[he];exact h
theorem jf {ρ:Operand->Value} {W W':World} {R:Value->World->Prop} (v:Value) (he:(execOp ρ o).run P W= .ok (.value v) W') (h:R v W'):Does P o ρ W R:=by
 unfold Does;rw[he];exact h
abbrev jX:= @RX.jX fun _ _=>False
abbrev eF:= @RX.eF fun _ _=>False
end
section
variable {P : Program} {ops : Array Oper} {R1 : World → World → Prop} {Ms : List Nat} {m : Option Nat} {Ss : List (Nat × Spec)} {Fin : Act → World → Prop} {W0 : World} {o : Oper} {rest : List Oper} {i : Nat} {a : Act} {F G : Facts} {Ps : uN}
theorem zd [Kept R1 Ms W0] {v:Value} (ht:iP Ps P ops (Ext []) R1 m Ss Fin W0 rest (i+1) (a.put o.dst v) F G) (hs:Ss.lookup i=none:=by rfl) (hw:Region.wanted o (yielded ops a.tmps)=true:=by rfl)
 (hr: ∀W:World,(∀b off,b<W0.heap.size->b∉Ms->W.cell? ⟨b,off,none⟩=W0.cell? ⟨b,off,none⟩)->(execOp a.eval o).run P W= .ok (.value v) W:=by
   intro W hW;go_simp;(try simp(disch:=omega) only[IntWalk.i64_in,Int.tdiv_eq_ediv_of_nonneg]);try rfl):iP Ps P ops (Ext []) R1 m Ss Fin W0 (o::rest) i a F G:=
 gW hs v hw hr ht
theorem zn [Kept R1 Ms W0] {v:Value} (ht:iP Ps P ops (Ext []) R1 m Ss Fin W0 rest (i+1) (a.put o.dst v) F G) (hs:Ss.lookup i=none:=by rfl) (hw:Region.wanted o (yielded ops a.tmps)=true:=by rfl)
 (hr: ∀W:World,(∀b off,b<W0.heap.size->b∉Ms->W.cell? ⟨b,off,none⟩=W0.cell? ⟨b,off,none⟩)->(execOp a.eval o).run P W= .ok (.value v) W:=by
   intro W hW;go_simp;(try simp(disch:=omega) only[IntWalk.i64_in]);try rfl):iP Ps P ops (Ext []) R1 m Ss Fin W0 (o::rest) i a F G:=
 gW hs v hw hr ht
theorem zk (ht:iP Ps P ops (Ext []) R1 m Ss Fin W0 rest (i+1) (a.put o.dst undef) F G) (hs:Ss.lookup i=none:=by rfl) (hw:Region.wanted o (yielded ops a.tmps)=false:=by rfl):iP Ps P ops (Ext []) R1 m Ss Fin W0 (o::rest) i a F G:=
 CX hs hw ht
theorem zv [Kept R1 Ms W0] {v:Value} (f:FuncId) {args:Array Value} (hs:Ss.lookup i=some (Spec.val v):=by rfl) (hw:Region.wanted o (yielded ops a.tmps)=true:=by rfl)
 (he: ∀W:World,(∀b off,b<W0.heap.size->b∉Ms->W.cell? ⟨b,off,none⟩=W0.cell? ⟨b,off,none⟩)->(execOp a.eval o).run P W= .ok (.enter f args) W:=by
   intro W hW;go_simp;(try simp(disch:=omega) only[IntWalk.i64_in,Int.tdiv_eq_ediv_of_nonneg]);try rfl)
 (h: ∀W:World,Ext Ms W0 W->(∀f∈F,kP ops f.1 i=true->f.2 W)->Calls P f args W (fun e W'=>e= .returned v/\Below W.heap.size W W'))
 (t:iP Ps P ops (Ext []) R1 m Ss Fin W0 rest (i+1) (a.put o.dst v) F G) (hps: ∀x v W,Ps i x v W:=by intro _ _ _;exact True.intro):iP Ps P ops (Ext []) R1 m Ss Fin W0 (o::rest) i a F G:=
 eQ v hs hw f args he h t hps
theorem zw [Kept R1 Ms W0] {v:Value} (f:FuncId) {args:Array Value} (hs:Ss.lookup i=some (Spec.val v):=by rfl) (hw:Region.wanted o (yielded ops a.tmps)=true:=by rfl)
 (he: ∀W:World,(∀b off,b<W0.heap.size->b∉Ms->W.cell? ⟨b,off,none⟩=W0.cell? ⟨b,off,none⟩)->(execOp a.eval o).run P W= .ok (.enter f args) W:=by
   intro W hW;go_simp;try rfl)
 (h: ∀W:World,Ext Ms W0 W->(∀f∈F,kP ops f.1 i=true->f.2 W)->Calls P f args W (fun e W'=>e= .returned v/\Below W.heap.size W W'))
 (t:iP Ps P ops (Ext []) R1 m Ss Fin W0 rest (i+1) (a.put o.dst v) F G) (hps: ∀x v W,Ps i x v W:=by intro _ _ _;exact True.intro):iP Ps P ops (Ext []) R1 m Ss Fin W0 (o::rest) i a F G:=
 eQ v hs hw f args he h t hps
theorem zg {P:Program} {id:Nat} {ops:List Oper} {Q:Exit->Act->World->Prop} {a:Act} {w:World} (k:Nat) (Ms:List Nat) (m:Option Nat) (Ss:List (Nat×Spec))
 (h:iP Oy P ops.toArray (Ext []) (Ext Ms) m Ss (fun a w=>wpList P ops.toArray Q (ops.drop k) a w) w (ops.take k) 0 a [] [])
 (hm:P.follows .mixedOrders=true:=by as_aux_lemma=>kernel_rfl) (hc:chk ops.toArray k=true:=by as_aux_lemma=>kernel_rfl):(Code.region id ops.toArray true).wp P Q a w:=
 gB k Ms m Ss hm hc h
end
end Go.RG
namespace Go
theorem zp:(∀(a:Act) (d:Tmp) (v:Value),a.put (some d) v={a with tmps:=a.tmps.setIfInBounds d v})/\(∀(a:Act) (v:Value),a.put none v=a)/\
 (∀(l:List Value) (i:Nat) (v:Value),l.toArray.setIfInBounds i v=(l.set i v).toArray)/\(∀(x:Value) (xs:List Value) (n:Nat) (v:Value),(x::xs).set (n+1) v=x::xs.set n v)/\(∀(x:Value) (xs:List Value) (v:Value),(x::xs).set 0 v=v::xs):=
 ⟨fun _ _ _=>rfl,fun _ _=>rfl,fun _ _ _=>uq ..,fun _ _ _ _=>rfl,fun _ _ _=>rfl⟩
theorem zt:(∀(i:Nat) (x:Oper) (xs:List Oper),List.take (i+1) (x::xs)=x::List.take i xs)/\(∀xs:List Oper,List.take 0 xs=[])/\
 (∀(i:Nat) (x:Oper) (xs:List Oper),List.drop (i+1) (x::xs)=List.drop i xs)/\(∀xs:List Oper,List.drop 0 xs=xs):=
 ⟨fun _ _ _=>rfl,fun _=>rfl,fun _ _ _=>rfl,fun _=>rfl⟩
end Go
end

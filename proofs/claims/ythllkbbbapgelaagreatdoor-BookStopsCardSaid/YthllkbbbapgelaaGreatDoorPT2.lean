/-
  Texts of this claim, packed by a program: Math MA VA Region.
-/
import Derived.Test.YthllkbbbapgelaaGreatDoorPT0
import Derived.WalkKit
import Derived.WalkLawsBesides
import Derived.WalkSpells
import Derived.Outline
import Derived.Handy
import Derived.KernelRfl
import Derived.Lib.Hide
import Derived.Orders
import Derived.OrdersIn
import Derived.Below
import Derived.Tactics
set_option maxHeartbeats 8000000
set_option maxRecDepth 100000
set_option linter.all false
section
namespace jl
abbrev dQ:=Int×Int
abbrev Ei:=Int×Int×Int
structure bY where
 last:Int
 size:Int
 aY:Int
 die:Int
 uu:Int
 start:dQ
 bW:List dQ
 turns:List Int
 readings:List Ei
def nM (n lo hi:Int):Bool:=decide (lo<=n)&&decide (n<=hi)
def vT (r:dQ) (hi:Int):Bool:=decide (0<=r.1)&&decide (r.1<=r.2)&&decide (r.2<=hi)
def yF (last:Int):Int->List Int->Bool
 |_,[]=>true
 |p,n::l=>nM n (p+1) last&&yF last n l
def nU (last:Int) (l:List Int):Bool:=yF last (-1) l
def Az (last:Int) (x:Ei):Bool:=nM x.1 0 last&&nM x.2.1 0 1000&&nM x.2.2 0 50
def fD (h:bY):Bool:=
 decide (0<=h.last)&&nM h.size 0 20&&nM h.aY 0 100&&decide (0<=h.die)&&nM h.uu h.die 500&&vT h.start 500
def valid (h:bY):Bool:=
 fD h&&decide ((h.bW.length:Int)=h.last+1)&&nU h.last h.turns&&h.bW.all (vT · 20)&&h.readings.all (Az h.last)
def ed (r:dQ):Int:=r.2-r.1+1
def uh (l:List dQ):Int:=l.foldr (fun r n=>ed r*n) 1
def vM (h:bY):Int:=
 if 9<h.last∨5<h.readings.length then 3 else if valid h=false then 1 else if 2000<uh (h.start::h.bW) then 3 else 0
def lW (aY n:Int) (turned:Bool):Int:=if turned then n-n*aY/100 else n
def Yf (size aY:Int) (turns:List Int) (i:Nat) (n w:Int):Int:=lW aY n (turns.contains (i:Int))+size*w/10
def qQ (size aY:Int) (turns:List Int) (start:Int) (bW:List Int):Nat->Int
 |0=>start
 |k+1=>Yf size aY turns k (qQ size aY turns start bW k) (bW.getD k 0)
def qF (size aY:Int) (turns:List Int) (start:Int) (bW:List Int) (n:Nat):List Int:=
 (List.range 10).map fun j=>if j<n then qQ size aY turns start bW (j+1) else 0
def lD (h:bY) (t:Int×List Int) (turns:List Int):List Int:=qF h.size h.aY turns t.1 t.2 t.2.length
def BV (x:Ei) (l:List Int):Bool:=nM (l.getD x.1.toNat 0-x.2.1) (-x.2.2) x.2.2
def sS (r:dQ):List Int:=(List.range (ed r).toNat).map fun(k:Nat)=>r.1+(k:Int)
def fB:List dQ->List (List Int)
 |[]=>[[]]
 |r::rs=>(sS r).flatMap fun x=>(fB rs).map (x:: ·)
def aag (last p:Int) (l:List Int) (k:Nat):Bool:=nM (l.getD k 0) ((p::l).getD k 0+1) last
theorem Ig (last:Int): ∀(l:List Int) (p:Int),yF last p l=(List.range l.length).all (aag last p l):=by
 intro l
 induction l with
 |nil=>intro p;rfl
 |cons n l ih=>
  intro p
  rw[List.length_cons,List.range_succ_eq_map,List.all_cons,List.all_map,yF,ih n]
  congr 1
theorem WX (last:Int) (h0:0<=last) (l:List Int): ∀k,(∀j,j<k->aag last (-1) l j=true)->k<=l.length-> -1<=((-1:Int)::l).getD k 0/\((-1:Int)::l).getD k 0<=last:=by
 intro k
 induction k with
 |zero=>intro _ _;simp;omega
 |succ k ih=>
  intro h hk
  have h1:=h k (by omega)
  have h2:=ih (fun j hj=>h j (by omega)) (by omega)
  simp only[aag,nM,eF,eQ] at h1
  rw[List.getD_cons_succ]
  omega
theorem jC {α:Type} (l:List α) (p:α->Bool):(if l.any (fun k=>!p k) then false else true)=l.all p:=by
 rw[List.all_eq_not_any_not]
 cases l.any (fun k=>!p k) <;>rfl
def rJ (m:Int) (r:dQ):Int:=min (m*ed r) 2001
def uG (l:List dQ) (k:Nat):Int:=(l.take k).foldl rJ 1
theorem GY (l:List dQ) (k:Nat) (hk:k<l.length):uG l (k+1)=rJ (uG l k) l[k]:=by
 unfold uG
 rw[iC hk,List.foldl_append]
 rfl
theorem Nu (l:List dQ) (h: ∀r∈l,1<=ed r):1<=uh l:=by
 induction l with
 |nil=>simp[uh]
 |cons r l ih=>
  have h1:=h r (by simp)
  have h2:=ih (fun x hx=>h x (by simp[hx]))
  show 1<=ed r*uh l
  have:=Int.mul_le_mul h1 h2 (by omega) (by omega)
  omega
theorem O9 (l:List dQ) (h: ∀r∈l,1<=ed r): ∀m,1<=m->m<=2001->l.foldl rJ m=min (m*uh l) 2001:=by
 induction l with
 |nil=>intro m h1 h2;simp[uh];omega
 |cons r l ih=>
  intro m h1 h2
  have hr:=h r (by simp)
  have hp:=Nu l (fun x hx=>h x (by simp[hx]))
  rw[List.foldl_cons]
  have hm:1<=m*ed r:=by have:=Int.mul_le_mul h1 hr (by omega) (by omega);omega
  rw[ih (fun x hx=>h x (by simp[hx])) _ (by unfold rJ;omega) (by unfold rJ;omega)]
  show min (rJ m r*uh l) 2001=min (m*(ed r*uh l)) 2001
  rw[<-Int.mul_assoc]
  unfold rJ
  by_cases hc:m*ed r<=2001
  ·rw[Int.min_eq_left hc]
  ·have h3:2001<=m*ed r*uh l:=by have:=Int.mul_le_mul (show(2001:Int)<=m*ed r by omega) hp (by omega) (by omega);omega
   have h4:2001<=2001*uh l:=by omega
   rw[Int.min_eq_right (show 2001<=m*ed r by omega)]
   omega
theorem Pg (l:List dQ) (h: ∀r∈l,1<=ed r) (k:Nat):1<=uG l k/\uG l k<=2001:=by
 unfold uG
 have ht: ∀r∈l.take k,1<=ed r:=fun r hr=>h r (nZ hr)
 rw[O9 _ ht 1 (by omega) (by omega)]
 have:=Nu _ ht
 omega
theorem JR (l:List dQ) (h: ∀r∈l,1<=ed r):(2000<uG l l.length)↔2000<uh l:=by
 unfold uG
 rw[List.take_length,O9 _ h 1 (by omega) (by omega)]
 omega
theorem xO {r:dQ} {n:Int} (h:vT r n=true):0<=r.1/\r.1<=r.2/\r.2<=n/\1<=ed r/\ed r<=n+1:=by
 simp only[vT,eF,eQ] at h
 unfold ed
 omega
theorem JQ {aY n:Int} (hc0:0<=aY) (hc1:aY<=100) (hn:0<=n) (t:Bool):0<=lW aY n t/\lW aY n t<=n:=by
 unfold lW
 cases t
 ·simp;omega
 ·simp only[if_true]
  have h1:0<=n*aY:=Int.mul_nonneg hn hc0
  have h2:n*aY<=n*100:=Int.mul_le_mul_of_nonneg_left hc1 hn
  omega
theorem JH {size aY:Int} (turns:List Int) {start:Int} (bW:List Int) (hs0:0<=size) (hs1:size<=20) (hc0:0<=aY) (hc1:aY<=100) (h0:0<=start) (h1:start<=500) (hw: ∀x∈bW,0<=x/\x<=20):
 ∀k:Nat,0<=qQ size aY turns start bW k/\qQ size aY turns start bW k<=500+40*k:=by
 intro k
 induction k with
 |zero=>simp[qQ];omega
 |succ k ih=>
  have hb:=JQ hc0 hc1 ih.1 (turns.contains (k:Int))
  have hx:0<=bW.getD k 0/\bW.getD k 0<=20:=by
   by_cases hk:k<bW.length
   ·rw[gW,dn hk];exact hw _ (df _)
   ·rw[gW,List.getElem?_eq_none (by omega)];simp
  have h2:0<=size*bW.getD k 0:=Int.mul_nonneg hs0 hx.1
  have h3:size*bW.getD k 0<=20*20:=Int.mul_le_mul hs1 hx.2 hx.1 (by omega)
  simp only[qQ,Yf]
  generalize bW.getD k 0=x at*
  generalize size*x=y at*
  push_cast
  omega
theorem kU (size aY:Int) (turns:List Int) (start:Int) (bW:List Int) (n:Nat):(qF size aY turns start bW n).length=10:=by simp[qF]
theorem Lj (size aY:Int) (turns:List Int) (start:Int) (bW:List Int) (n:Nat) (_hn:n<10):
 qF size aY turns start bW (n+1)=(qF size aY turns start bW n).set n (qQ size aY turns start bW (n+1)):=by
 apply List.ext_getElem
 ·simp[qF]
 ·intro i h1 h2
  have hi:i<10:=by simpa [qF] using h1
  simp only[qF,List.getElem_map,List.getElem_range,List.getElem_set]
  by_cases e:n=i
  ·subst e;simp
  ·rw[aj e]
   by_cases h:i<n
   ·rw[aF h,aF (by omega)]
   ·rw[aj h,aj (by omega)]
theorem Om {h:bY} {t:Int×List Int} (turns:List Int) (hs0:0<=h.size) (hs1:h.size<=20) (hc0:0<=h.aY) (hc1:h.aY<=100) (h0:0<=t.1) (h1:t.1<=500) (hw: ∀x∈t.2,0<=x/\x<=20) (_hl:t.2.length<=10):
 ∀x∈lD h t turns,0<=x/\x<=900:=by
 intro x hx
 obtain⟨j,hj,rfl⟩:=iZ.1 hx
 have hj':j<10:=by simpa using hj
 split
 ·have:=JH turns t.2 hs0 hs1 hc0 hc1 h0 h1 hw (j+1)
  omega
 ·omega
theorem BQ {α:Type} {l:List α} (h:l.length=10): ∃a b c d e f g i j k,l=[a,b,c,d,e,f,g,i,j,k]:=by
 match l,h with
 |[a,b,c,d,e,f,g,i,j,k],_=>exact⟨a,b,c,d,e,f,g,i,j,k,rfl⟩
structure Sound (h:bY):Prop where
 JB:0<=h.last
 AQ:h.last<=9
 MW:0<=h.size
 MV:h.size<=20
 OM:0<=h.aY
 OL:h.aY<=100
 aoO:0<=h.die
 amy:h.die<=h.uu
 amx:h.uu<=500
 Yi:0<=h.start.1
 Yh:h.start.1<=h.start.2
 Yg:h.start.2<=500
 Fa:(h.bW.length:Int)=h.last+1
 turns:nU h.last h.turns=true
 bW: ∀r∈h.bW,0<=r.1/\r.1<=r.2/\r.2<=20
 rdg: ∀x∈h.readings,(0<=x.1/\x.1<=h.last)/\(0<=x.2.1/\x.2.1<=1000)/\0<=x.2.2/\x.2.2<=50
 ajb:h.readings.length<=5
 many:uh (h.start::h.bW)<=2000
theorem Fq {h:bY} (hf:vM h=0):Sound h:=by
 unfold vM at hf
 split at hf
 ·omega
 ·split at hf
  ·omega
  ·split at hf
   ·omega
   ·rename_i h1 h2 h3
    have h2':valid h=true:=by simpa using h2
    simp only[valid,fD,vT,nM,eF,eQ,jV] at h2'
    obtain⟨⟨⟨⟨⟨⟨⟨⟨⟨a1,a2⟩,a3⟩,a4⟩,a5⟩,a6⟩,a7⟩,a8⟩,a9⟩,a10⟩:=h2'
    refine⟨a1,by omega,a2.1,a2.2,a3.1,a3.2,a4,a5.1,a5.2,a6.1.1,a6.1.2,a6.2,a7,a8,fun r hr=>?_,fun x hx=>?_,by omega,by omega⟩
    ·have:=a9 r hr;exact⟨this.1.1,this.1.2,this.2⟩
    ·have:=a10 x hx
     simp only[Az,nM,eF,eQ] at this
     exact⟨this.1.1,this.1.2,this.2⟩
theorem abS {α β:Type} (f:α->List β) (sz:Nat) (hf: ∀x,(f x).length=sz): ∀(l:List α) (k j:Nat) (hk:k<l.length),j<sz->(l.flatMap f)[k*sz+j]? =(f l[k])[j]? :=by
 intro l
 induction l with
 |nil=>intro k j hk;simp at hk
 |cons x l ih=>
  intro k j hk hj
  cases k with
  |zero=>simp[List.flatMap_cons,uQ (show j<(f x).length by rw[hf];exact hj)]
  |succ k=>
   have e:(k+1)*sz+j=(f x).length+(k*sz+j):=by rw[hf,Nat.add_mul];omega
   rw[List.flatMap_cons,e,ou (by omega),Nat.add_sub_cancel_left,ih k j (by simpa using hk) hj]
   rfl
theorem zx (r:dQ):(sS r).length=(ed r).toNat:=by simp[sS]
theorem QG (r:dQ) (c:Nat) (hc:c<(sS r).length):(sS r)[c]=r.1+(c:Int):=by simp[sS]
theorem Aw (r:dQ) (rs:List dQ):(fB (r::rs)).length=(ed r).toNat*(fB rs).length:=by
 rw[fB,List.length_flatMap]
 simp only[lX,List.map_const',List.sum_replicate_nat]
 rw[zx]
theorem Vg (r:dQ) (rs:List dQ) (c j:Nat) (hc:c<(ed r).toNat) (hj:j<(fB rs).length):
 (fB (r::rs))[c*(fB rs).length+j]? =some ((r.1+(c:Int))::(fB rs)[j]):=by
 rw[fB,abS _ (fB rs).length (fun x=>by simp) (sS r) c j (by rw[zx];exact hc) hj,QG]
 simp[hj]
theorem Vf: ∀(rs:List dQ), ∀x∈fB rs,x.length=rs.length:=by
 intro rs
 induction rs with
 |nil=>intro x hx;simp[fB] at hx;subst hx;rfl
 |cons r rs ih=>
  intro x hx
  simp only[fB,qw,iZ] at hx
  obtain⟨y,_,z,hz,rfl⟩:=hx
  simp[ih z hz]
def jE (R:List dQ) (i k:Nat) (pre:List Int):Prop:= ∀j s,(fB (R.drop i))[j]? =some s->(fB R)[k+j]? =some (pre++s)
theorem jE.zero (R:List dQ):jE R 0 0 []:=fun j s h=>by simpa using h
theorem jE.next {R:List dQ} {i k:Nat} {pre:List Int} (h:jE R i k pre) (hi:i<R.length) (c:Nat) (hc:c<(ed R[i]).toNat):
 jE R (i+1) (k+c*(fB (R.drop (i+1))).length) (pre++[R[i].1+(c:Int)]):=by
 intro j s hs
 obtain⟨hj,rfl⟩:=ji.1 hs
 have:=h (c*(fB (R.drop (i+1))).length+j) _ (by rw[uO hi];exact Vg _ _ c j hc hj)
 rw[Nat.add_assoc,this]
 simp
theorem jE.count {R:List dQ} {i:Nat} (hi:i<R.length):(fB (R.drop i)).length=(ed R[i]).toNat*(fB (R.drop (i+1))).length:=by
 rw[uO hi,Aw]
theorem jE.last {R:List dQ} {i k:Nat} {pre:List Int} (h:jE R i k pre) (hi:i=R.length):(fB (R.drop i)).length=1/\ ∃hk:k<(fB R).length,(fB R)[k]=pre:=by
 have e:R.drop i=[]:=List.drop_eq_nil_of_le (by omega)
 rw[e]
 have:=h 0 [] (by rw[e];rfl)
 simp only[Nat.add_zero,List.append_nil] at this
 obtain⟨hk,hx⟩:=ji.1 this
 exact⟨rfl,hk,hx⟩
def UR (l:List Int):Int×List Int:=(l.headD 0,l.tail)
def QN (h:bY) (out:List Int) (t:Int×List Int) (i:Nat):Bool:=out.contains (i:Int) ||BV (h.readings.getD i (0,0,0)) (lD h t h.turns)
def okT (h:bY) (out:List Int) (t:Int×List Int):Bool:=(List.range h.readings.length).all (QN h out t)
def qV (h:bY):List (List Int):=fB (h.start::h.bW)
def dP (h:bY) (out:List Int):List (Int×List Int):=((qV h).filter fun l=>okT h out (UR l)).map UR
def cnt (h:bY) (out:List Int) (k:Nat):Nat:=(((qV h).take k).filter fun l=>okT h out (UR l)).length
theorem ab3 (h:bY) (out:List Int):cnt h out (qV h).length=(dP h out).length:=by
 unfold cnt dP
 rw[List.take_length,lX]
theorem ael {h:bY} {out:List Int} {k:Nat} (hk:k<(qV h).length) (hp:okT h out (UR (qV h)[k])=false):cnt h out (k+1)=cnt h out k:=by
 unfold cnt
 rw[iC hk,List.filter_append,dh]
 simp[hp]
theorem ab2 {h:bY} {out:List Int} {k:Nat} (hk:k<(qV h).length) (hp:okT h out (UR (qV h)[k])=true):cnt h out (k+1)=cnt h out k+1:=by
 unfold cnt
 rw[iC hk,List.filter_append,dh]
 simp[hp]
theorem CO {α β:Type} (p:α->Bool) (f:α->β): ∀(l:List α) (k:Nat) (hk:k<l.length),p l[k]=true->((l.filter p).map f)[((l.take k).filter p).length]? =some (f l[k]):=by
 intro l
 induction l with
 |nil=>intro k hk;simp at hk
 |cons x l ih=>
  intro k hk hp
  cases k with
  |zero=>
   have hp':p x=true:=hp
   simp[hp']
  |succ k=>
   have:=ih k (by simpa using hk) hp
   by_cases hx:p x=true
   ·simp only[List.filter_cons,hx,if_true,List.map_cons,List.take_succ_cons,List.length_cons,List.getElem?_cons_succ,List.getElem_cons_succ]
    exact this
   ·simp only[List.filter_cons,hx,if_false,List.take_succ_cons,List.getElem_cons_succ,Bool.false_eq_true]
    exact this
theorem Qh {h:bY} {out:List Int} {k:Nat} (hk:k<(qV h).length) (hp:okT h out (UR (qV h)[k])=true):
 ∃hc:cnt h out k<(dP h out).length,(dP h out)[cnt h out k]=UR (qV h)[k]:=by
 have:=CO (fun l=>okT h out (UR l)) UR (qV h) k hk hp
 obtain⟨hc,hx⟩:=ji.1 this
 exact⟨hc,hx⟩
theorem Cb: ∀(rs:List dQ) (x:List Int),x∈fB rs->x.length=rs.length/\ ∀i,i<rs.length->(rs.getD i (0,0)).1<=x.getD i 0/\x.getD i 0<=(rs.getD i (0,0)).2:=by
 intro rs
 induction rs with
 |nil=>intro x hx;simp[fB] at hx;subst hx;exact⟨rfl,fun i hi=>by simp at hi⟩
 |cons r rs ih=>
  intro x hx
  simp only[fB,qw,iZ] at hx
  obtain⟨y,hy,z,hz,rfl⟩:=hx
  obtain⟨h1,h2⟩:=ih z hz
  refine⟨by simp[h1],fun i hi=>?_⟩
  cases i with
  |zero=>
   obtain⟨c,hc,rfl⟩:=iZ.1 hy
   have:c<(ed r).toNat:=by simpa using hc
   unfold ed at this
   simp
   omega
  |succ i=>simpa using h2 i (by simpa using hi)
theorem F7 {h:bY} (hS:Sound h) {x:List Int} (hx:x∈qV h): ∃s rest,x=s::rest/\rest.length=h.bW.length/\(0<=s/\s<=500)/\ ∀y∈rest,0<=y/\y<=20:=by
 obtain⟨hl,hb⟩:=Cb _ _ hx
 cases x with
 |nil=>simp at hl
 |cons s rest=>
  have h0:=hb 0 (by simp)
  simp at h0
  have:=hS.Yi
  have:=hS.Yg
  refine⟨s,rest,rfl,by simpa using hl,by omega,fun y hy=>?_⟩
  obtain⟨i,hi,rfl⟩:=lY hy
  have hi':i<h.bW.length:=by simp at hl;omega
  have h1:=hb (i+1) (by simpa using hi')
  simp only[List.getD_cons_succ] at h1
  rw[show rest.getD i 0=rest[i] from by simp[hi],show h.bW.getD i (0,0)=h.bW[i] from by simp[hi']] at h1
  have:=hS.bW _ (df hi')
  omega
def jH (below:Nat):Nat->Nat->List (List Int)
 |0,_=>[[]]
 |m+1,f=>(List.range (below-m-f)).flatMap fun j=>(jH below m (f+j+1)).map fun x=>((f+j:Nat):Int)::x
def ni (below:Nat) (p:List Int->Bool):Option (List Int):=((List.range (below+1)).flatMap fun m=>jH below m 0).find? p
theorem qU {α β:Type} (p:β->Bool) (f:α->List β): ∀(l:List α) (k:Nat) (hk:k<l.length) (c:β),(∀j (hj:j<k),(f (l[j]'(by omega))).find? p=none)->(f l[k]).find? p=some c->(l.flatMap f).find? p=some c:=by
 intro l
 induction l with
 |nil=>intro k hk;simp at hk
 |cons x l ih=>
  intro k hk c h1 h2
  rw[List.flatMap_cons,List.find?_append]
  cases k with
  |zero=>
   have h2':(f x).find? p=some c:=h2
   rw[h2'];rfl
  |succ k=>
   have h0:(f x).find? p=none:=h1 0 (by omega)
   rw[h0]
   exact ih k (by simpa using hk) c (fun j hj=>h1 (j+1) (by omega)) h2
theorem tJ {α β:Type} (p:β->Bool) (f:α->List β) (l:List α) (h: ∀j (hj:j<l.length),(f l[j]).find? p=none):(l.flatMap f).find? p=none:=by
 rw[List.find?_eq_none]
 intro x hx
 obtain⟨y,hy,hxy⟩:=qw.1 hx
 obtain⟨j,hj,rfl⟩:=lY hy
 have:=h j hj
 rw[List.find?_eq_none] at this
 exact this x hxy
def Inc (below:Nat):Nat->List Int->Prop
 |_,[]=>True
 |f,a::x=> ∃n:Nat,a=n/\f<=n/\n<below/\Inc below (n+1) x
theorem Inc.len {below:Nat}: ∀(x:List Int) (f:Nat),Inc below f x->x.length<=below-f:=by
 intro x
 induction x with
 |nil=>intro f _;simp
 |cons a x ih=>
  rintro f ⟨n,_,h1,h2,h3⟩
  have:=ih _ h3
  simp only[List.length_cons]
  omega
theorem rV {below:Nat}: ∀(m f:Nat) (x:List Int),x∈jH below m f↔x.length=m/\Inc below f x:=by
 intro m
 induction m with
 |zero=>
  intro f x
  simp only[jH,fC]
  constructor
  ·rintro rfl;exact⟨rfl,trivial⟩
  ·rintro⟨h,_⟩;exact ku h
 |succ m ih=>
  intro f x
  simp only[jH,qw,kX,iZ]
  constructor
  ·rintro⟨j,hj,y,hy,rfl⟩
   obtain⟨h1,h2⟩:=(ih _ _).1 hy
   exact⟨by simp[h1],f+j,rfl,by omega,by omega,h2⟩
  ·rintro⟨hl,hi⟩
   cases x with
   |nil=>simp at hl
   |cons a x=>
    obtain⟨n,rfl,h1,h2,h3⟩:=hi
    have:=h3.len
    simp only[List.length_cons] at hl
    refine⟨n-f,by omega,x,(ih _ _).2 ⟨by omega,?_⟩,?_⟩
    ·rw[show f+(n-f)+1=n+1 by omega];exact h3
    ·rw[show f+(n-f)=n by omega]
def before:List Int->List Int->Bool
 |[],b=>!b.isEmpty
 |_::_,[]=>false
 |x::a,y::b=>if x=y then before a b else decide (x<y)
def nR (a b:List Int):Bool:=decide (a.length<b.length) ||(decide (a.length=b.length)&&before a b)
theorem before_irrefl: ∀a,before a a=false:=by
 intro a
 induction a with
 |nil=>rfl
 |cons x a ih=>simp[before,ih]
theorem LV: ∀a b,before a b=true->before b a=false:=by
 intro a
 induction a with
 |nil=>intro b h;cases b <;>simp[before] at h⊢
 |cons x a ih=>
  intro b h
  cases b with
  |nil=>simp[before] at h
  |cons y b=>
   simp only[before] at h⊢
   by_cases e:x=y
   ·subst e;simp only[if_true] at h⊢;exact ih _ h
   ·rw[aj e] at h;rw[aj (fun e'=>e e'.symm)]
    simp only[eQ,decide_eq_false_iff_not] at h⊢;omega
theorem Fz (a:List Int):nR a a=false:=by simp[nR,before_irrefl]
theorem Il {a b:List Int} (h:nR a b=true):nR b a=false:=by
 simp only[nR,Bool.or_eq_true,eF,eQ,Bool.or_eq_false_iff,Bool.and_eq_false_iff,decide_eq_false_iff_not] at h⊢
 rcases h with h|⟨h,hb⟩
 ·exact⟨by omega,.inl (by omega)⟩
 ·exact⟨by omega,.inr (LV _ _ hb)⟩
theorem RI {α:Type} (R:α->α->Prop) (p:α->Bool): ∀(l:List α),l.Pairwise R-> ∀c,l.find? p=some c->p c=true/\c∈l/\ ∀x∈l,p x=true->x=c∨R c x:=by
 intro l
 induction l with
 |nil=>intro _ c h;simp at h
 |cons y l ih=>
  intro hp c h
  rw[List.pairwise_cons] at hp
  rw[List.find?_cons] at h
  cases hy:p y with
  |true=>
   rw[hy] at h
   cases h
   refine⟨hy,by simp,fun x hx _=>?_⟩
   rcases ig.1 hx with rfl|hx
   ·exact .inl rfl
   ·exact .inr (hp.1 _ hx)
  |false=>
   rw[hy] at h
   obtain⟨h1,h2,h3⟩:=ih hp.2 c h
   refine⟨h1,by simp[h2],fun x hx hpx=>?_⟩
   rcases ig.1 hx with rfl|hx
   ·rw[hy] at hpx;cases hpx
   ·exact h3 x hx hpx
theorem uM {α β:Type} (R:β->β->Prop) (f:α->List β): ∀(l:List α),(∀x∈l,(f x).Pairwise R)->l.Pairwise (fun x y=> ∀a∈f x, ∀b∈f y,R a b)->(l.flatMap f).Pairwise R:=by
 intro l
 induction l with
 |nil=>intro _ _;simp
 |cons x l ih=>
  intro h1 h2
  rw[List.pairwise_cons] at h2
  rw[List.flatMap_cons,List.pairwise_append]
  refine⟨h1 x (by simp),ih (fun y hy=>h1 y (by simp[hy])) h2.2,fun a ha b hb=>?_⟩
  obtain⟨y,hy,hby⟩:=qw.1 hb
  exact h2.1 y hy a ha b hby
theorem LH (below:Nat): ∀(m f:Nat),(jH below m f).Pairwise fun a b=>before a b=true:=by
 intro m
 induction m with
 |zero=>intro f;simp[jH]
 |succ m ih=>
  intro f
  unfold jH
  refine uM _ _ _ (fun j _=>?_) ?_
  ·rw[List.pairwise_map]
   exact(ih (f+j+1)).imp fun h=>by simpa [before] using h
  ·refine List.pairwise_lt_range.imp fun {i j} hij=>?_
   intro a ha b hb
   obtain⟨x,_,rfl⟩:=iZ.1 ha
   obtain⟨y,_,rfl⟩:=iZ.1 hb
   simp only[before]
   rw[aj (by omega)]
   simp;omega
theorem Eo (below:Nat):((List.range (below+1)).flatMap fun m=>jH below m 0).Pairwise fun a b=>nR a b=true:=by
 refine uM _ _ _ (fun m _=>?_) ?_
 ·refine List.Pairwise.imp_of_mem ?_ (LH below m 0)
  intro a b ha hb h
  simp[nR,((rV _ _ _).1 ha).1,((rV _ _ _).1 hb).1,h]
 ·refine List.pairwise_lt_range.imp fun {i j} hij=>?_
  intro a ha b hb
  simp[nR,((rV _ _ _).1 ha).1,((rV _ _ _).1 hb).1,hij]
theorem vZ (below:Nat) (x:List Int):x∈((List.range (below+1)).flatMap fun m=>jH below m 0)↔Inc below 0 x:=by
 rw[qw]
 constructor
 ·rintro⟨m,_,h⟩;exact((rV _ _ _).1 h).2
 ·intro h
  have:=h.len
  exact⟨x.length,by simp;omega,(rV _ _ _).2 ⟨rfl,h⟩⟩
theorem MZ {below:Nat} {p:List Int->Bool} {c:List Int} (h:ni below p=some c):p c=true/\Inc below 0 c/\ ∀x,Inc below 0 x->p x=true->nR x c=false:=by
 obtain⟨h1,h2,h3⟩:=RI _ p _ (Eo below) c h
 refine⟨h1,(vZ _ _).1 h2,fun x hx hp=>?_⟩
 rcases h3 x ((vZ _ _).2 hx) hp with rfl|hr
 ·exact Fz _
 ·exact Il hr
theorem Na {below:Nat} {p:List Int->Bool} (h:ni below p=none): ∀x,Inc below 0 x->p x=false:=by
 intro x hx
 unfold ni at h
 rw[List.find?_eq_none] at h
 simpa using h x ((vZ _ _).2 hx)
def lJ (acc:List (List Int)) (x:List Int):List (List Int):=if acc.getLast? =some x then acc else acc++[x]
def jB (h:bY) (turns:List Int):List (List Int):=(dP h []).foldl (fun acc t=>lJ acc (lD h t turns)) []
def jm (h:bY) (turns:List Int) (k:Nat):List (List Int):=((dP h []).take k).foldl (fun acc t=>lJ acc (lD h t turns)) []
theorem Bc {h:bY} {turns:List Int} {k:Nat} (hk:k<(dP h []).length):jm h turns (k+1)=lJ (jm h turns k) (lD h (dP h [])[k] turns):=by
 unfold jm
 rw[iC hk,List.foldl_append]
 rfl
theorem yf (h:bY) (turns:List Int):jm h turns (dP h []).length=jB h turns:=by unfold jm;rw[List.take_length];rfl
theorem Vw (acc:List (List Int)) (x y:List Int):y∈lJ acc x↔y∈acc∨y=x:=by
 unfold lJ
 split
 ·rename_i h
  constructor
  ·exact .inl
  ·rintro(h1|rfl)
   ·exact h1
   ·exact List.mem_of_getLast? h
 ·simp
theorem AL {α:Type} (f:α->List Int): ∀(l:List α) (acc:List (List Int)) (y:List Int),y∈l.foldl (fun acc t=>lJ acc (f t)) acc↔y∈acc∨ ∃t∈l,y=f t:=by
 intro l
 induction l with
 |nil=>intro acc y;simp
 |cons a l ih=>
  intro acc y
  rw[List.foldl_cons,ih,Vw]
  simp only[ig,exists_eq_or_imp,or_assoc]
theorem FX (h:bY) (turns:List Int) (y:List Int):y∈jB h turns↔ ∃t∈dP h [],y=lD h t turns:=by
 unfold jB;rw[AL];simp
theorem NJ {h:bY} {turns:List Int} {k:Nat} {y:List Int} (hy:y∈jm h turns k): ∃t∈dP h [],y=lD h t turns:=by
 unfold jm at hy
 rw[AL] at hy
 simp only[List.not_mem_nil,false_or] at hy
 obtain⟨t,ht,rfl⟩:=hy
 exact⟨t,nZ ht,rfl⟩
theorem D9 {h:bY} {turns:List Int} {k:Nat}: ∀y∈jm h turns k,y.length=10:=by
 intro y hy
 obtain⟨t,_,rfl⟩:=NJ hy
 exact kU _ _ _ _ _ _
theorem GI {h:bY} {turns:List Int}: ∀y∈jB h turns,y.length=10:=by
 rw[<-yf];exact D9
theorem Jd (acc:List (List Int)) (x:List Int):(lJ acc x).length<=acc.length+1:=by
 unfold lJ;split <;>simp
theorem Ea (h:bY) (turns:List Int): ∀k,(jm h turns k).length<=k:=by
 intro k
 induction k with
 |zero=>simp[jm]
 |succ k ih=>
  by_cases hk:k<(dP h []).length
  ·rw[Bc hk]
   have:=Jd (jm h turns k) (lD h (dP h [])[k] turns)
   omega
  ·have e:jm h turns (k+1)=jm h turns k:=by
    unfold jm;rw[jW (by omega),jW (by omega)]
   rw[e];omega
theorem RP (h:bY) (turns:List Int):(jB h turns).length<=(dP h []).length:=by
 rw[<-yf];exact Ea _ _ _
theorem RN {h:bY} {turns:List Int} (hn:dP h []≠[]):jB h turns≠[]:=by
 intro he
 obtain⟨t,ht⟩:=List.exists_mem_of_ne_nil _ hn
 have:=(FX h turns (lD h t turns)).2 ⟨t,ht,rfl⟩
 rw[he] at this
 cases this
theorem xJ (rs:List dQ) (hr: ∀r∈rs,1<=ed r):((fB rs).length:Int)=uh rs:=by
 induction rs with
 |nil=>rfl
 |cons r rs ih=>
  rw[Aw]
  have h1:=hr r (by simp)
  have ih':=ih (fun x hx=>hr x (by simp[hx]))
  show(((ed r).toNat*(fB rs).length:Nat):Int)=ed r*uh rs
  rw[Int.natCast_mul,ih',Int.toNat_of_nonneg (by omega)]
theorem xB {h:bY} (hS:Sound h) (out:List Int):(dP h out).length<=2000:=by
 have h1:(dP h out).length<=(qV h).length:=by unfold dP;rw[lX];exact List.length_filter_le _ _
 have h2:=xJ (h.start::h.bW) (fun r hr=>by
  rcases ig.1 hr with rfl|hr
  ·have:=hS.Yh;unfold ed;omega
  ·have:=hS.bW r hr;unfold ed;omega)
 have h3:=hS.many
 unfold qV at h1
 omega
def wid (r:dQ) (x:Int):dQ:=(min r.1 x,max r.2 x)
def eH (n k:Nat) (R:List dQ) (l:List Int) (i:Nat):List dQ:=
 if k=0 then(List.range i).map fun j=>(l.getD j 0,l.getD j 0) else(List.range n).map fun j=>if j<i then wid (R.getD j (0,0)) (l.getD j 0) else R.getD j (0,0)
def bz (n:Nat) (ls:List (List Int)):Nat->List dQ
 |0=>[]
 |k+1=>eH n k (bz n ls k) (ls.getD k []) n
def rM (n:Nat) (ls:List (List Int)):List dQ:=bz n ls ls.length
theorem sU (n:Nat) (R:List dQ) (l:List Int) (i:Nat):(eH n 0 R l i).length=i:=by simp[eH]
theorem vz (n k:Nat) (R:List dQ) (l:List Int) (i:Nat) (hk:k≠0):(eH n k R l i).length=n:=by simp[eH,hk]
theorem pI (n:Nat) (ls:List (List Int)) (k:Nat) (hk:k≠0):(bz n ls k).length=n:=by
 cases k with
 |zero=>exact absurd rfl hk
 |succ k=>
  unfold bz
  by_cases h:k=0
  ·subst h;exact sU _ _ _ _
  ·exact vz _ _ _ _ _ h
theorem QI {n k:Nat} {R:List dQ} {l:List Int} (hR:k≠0->R.length=n) (h0:k=0->R=[]):eH n k R l 0=R:=by
 unfold eH
 split
 ·rename_i h;rw[h0 h];rfl
 ·rename_i h
  apply List.ext_getElem
  ·simp[hR h]
  ·intro i h1 h2;simp[List.getD,h2]
theorem Vl {n:Nat} {R:List dQ} {l:List Int} {i:Nat}:eH n 0 R l i++[(l.getD i 0,l.getD i 0)]=eH n 0 R l (i+1):=by
 simp[eH,List.range_succ]
theorem QJ {n:Nat} {R:List dQ} {l:List Int} {i:Nat}:(eH n 0 R l (i+1)).set i (wid ((eH n 0 R l (i+1)).getD i (0,0)) (l.getD i 0))=eH n 0 R l (i+1):=by
 apply List.ext_getElem
 ·simp
 ·intro j h1 h2
  rw[List.getElem_set]
  split
  ·rename_i h;subst h;simp[eH,wid,List.getD]
  ·rfl
theorem Vk {n k:Nat} {R:List dQ} {l:List Int} {i:Nat} (hk:k≠0) (hi:i<n):(eH n k R l i).set i (wid ((eH n k R l i).getD i (0,0)) (l.getD i 0))=eH n k R l (i+1):=by
 apply List.ext_getElem
 ·simp[eH,hk]
 ·intro j h1 h2
  have hj:j<n:=by simpa [eH,hk] using h2
  rw[List.getElem_set]
  split
  ·rename_i h;subst h;simp[eH,hk,hi]
  ·rename_i h
   simp only[eH,hk,if_false,List.getElem_map,List.getElem_range]
   by_cases h3:j<i
   ·rw[aF h3,aF (by omega)]
   ·rw[aj h3,aj (by omega)]
def upto (n:Nat):List Int:=(List.range n).map fun(i:Nat)=>(i:Int)
theorem VT: ∀(n f below:Nat),f+n<=below->Inc below f ((List.range' f n).map fun(i:Nat)=>(i:Int)):=by
 intro n
 induction n with
 |zero=>intro f below _;trivial
 |succ n ih=>
  intro f below h
  rw[List.range'_succ,List.map_cons]
  exact⟨f,rfl,ai _,by omega,ih (f+1) below (by omega)⟩
end jl
end
section
namespace jl
theorem QT {r:dQ} {x:Int}:x∈sS r↔r.1<=x/\x<=r.2:=by
 unfold sS ed
 rw[iZ]
 constructor
 ·rintro⟨k,hk,rfl⟩
  have:=kX.1 hk
  omega
 ·rintro⟨h1,h2⟩
  exact⟨(x-r.1).toNat,kX.2 (by omega),by omega⟩
end jl
namespace jl
theorem La {below:Nat}: ∀(l:List Int) (f:Nat),Inc below f l↔l.Pairwise (· < ·)/\ ∀x∈l,(f:Int)<=x/\x<below:=by
 intro l
 induction l with
 |nil=>intro f;simp[Inc]
 |cons x l ih=>
  intro f
  unfold Inc
  rw[List.pairwise_cons]
  constructor
  ·rintro⟨n,rfl,h1,h2,h3⟩
   obtain⟨h4,h5⟩:=(ih _).1 h3
   refine⟨⟨fun y hy=>by have:=h5 y hy;omega,h4⟩,fun y hy=>?_⟩
   rcases ig.1 hy with rfl|hy
   ·omega
   ·have:=h5 y hy;omega
  ·rintro⟨⟨h1,h2⟩,h3⟩
   have hx:=h3 x (by simp)
   refine⟨x.toNat,by omega,by omega,by omega,(ih _).2 ⟨h2,fun y hy=>⟨?_,(h3 y (by simp[hy])).2⟩⟩⟩
   have:=h1 y hy
   omega
end jl
namespace jl
end jl
end
section
namespace Go.Proofs.YthllkbbbapgelaaGreatDoor
open jl
abbrev L6:=Int×Int×Int×dQ
structure bQ where
 rows:Int
 aK:Int
 left:dQ
 ax:List L6
def pg (f:bQ) (t:L6):Bool:=nM t.1 0 (f.aK-1)&&nM t.2.1 0 (f.rows-1)&&nM t.2.2.1 0 (f.rows-1)&&decide (t.2.1<=t.2.2.1)&&vT t.2.2.2 f.rows
def jS (f:bQ):Int:=
 if 7<f.rows∨3<f.aK∨5<f.ax.length then 3
 else if f.rows<1∨f.aK<1∨vT f.left f.rows=false∨f.ax.all (pg f)=false then 1
 else if 2500<(f.aK+1)^f.rows.toNat then 3 else 0
structure qZ (f:bQ):Prop where
 zu:1<=f.rows
 qH:f.rows<=7
 zq:1<=f.aK
 wR:f.aK<=3
 En:f.ax.length<=5
 left:0<=f.left.1/\f.left.1<=f.left.2/\f.left.2<=f.rows
 xn: ∀t∈f.ax,(0<=t.1/\t.1<f.aK)/\(0<=t.2.1/\t.2.1<=t.2.2.1/\t.2.2.1<f.rows)/\(0<=t.2.2.2.1/\t.2.2.2.1<=t.2.2.2.2/\t.2.2.2.2<=f.rows)
 many:(f.aK+1)^f.rows.toNat<=2500
theorem iF {f:bQ} (hf:jS f=0):qZ f:=by
 unfold jS at hf
 split at hf
 ·omega
 ·rename_i h1
  split at hf
  ·omega
  ·rename_i h2
   split at hf
   ·omega
   ·rename_i h3
    simp only[not_or] at h1 h2
    obtain⟨a1,a2,a3⟩:=h1
    obtain⟨b1,b2,b3,b4⟩:=h2
    have b3':vT f.left f.rows=true:=by simpa using b3
    have b4':f.ax.all (pg f)=true:=by simpa using b4
    rw[jV] at b4'
    simp only[vT,eF,eQ] at b3'
    refine⟨by omega,by omega,by omega,by omega,by omega,⟨by omega,by omega,by omega⟩,fun t ht=>?_,by omega⟩
    have:=b4' t ht
    simp only[pg,nM,vT,eF,eQ] at this
    omega
def zf (l:List Int) (who:Int) (a n:Nat):Int:=((List.range' a n).countP fun i=>l.getD i 0==who:Nat)
def GN (l:List Int) (who lo hi:Int):Int:=zf l who lo.toNat (hi+1-lo).toNat
def zI (l:List Int) (t:L6):Bool:=nM (GN l t.1 t.2.1 t.2.2.1) t.2.2.2.1 t.2.2.2.2
def je (f:bQ) (out:List Int) (l:List Int):Bool:=
 ((List.range f.ax.length).all fun i=>out.contains (i:Int) ||zI l (f.ax.getD i (0,0,0,(0,0))))&&nM (GN l (-1) 0 (f.rows-1)) f.left.1 f.left.2
def eX (f:bQ):List dQ:=List.replicate f.rows.toNat (-1,f.aK-1)
def qo (f:bQ):List (List Int):=fB (eX f)
def bT (f:bQ) (out:List Int):List (List Int):=(qo f).filter (je f out)
theorem QE {f:bQ} (hS:qZ f): ∀r∈eX f,1<=ed r:=fun r hr=>by
 obtain rfl:=List.eq_of_mem_replicate hr
 have:=hS.zq
 unfold ed
 simp only
 omega
theorem Ve: ∀(rs:List dQ) (x:List Int),x.length=rs.length->(∀i,i<rs.length->(rs.getD i (0,0)).1<=x.getD i 0/\x.getD i 0<=(rs.getD i (0,0)).2)->x∈fB rs:=by
 intro rs
 induction rs with
 |nil=>intro x hx _;obtain rfl:=ku hx;simp[fB]
 |cons r rs ih=>
  intro x hx hb
  cases x with
  |nil=>simp at hx
  |cons a x=>
   have h0:=hb 0 (by simp)
   simp only[fB,qw,iZ]
   exact⟨a,QT.2 (by simpa using h0),x,ih x (by simpa using hx) (fun i hi=>by simpa using hb (i+1) (by simpa using hi)),rfl⟩
theorem FY {f:bQ} {l:List Int}:l∈qo f↔l.length=f.rows.toNat/\ ∀i,i<f.rows.toNat-> -1<=l.getD i 0/\l.getD i 0<=f.aK-1:=by
 have hg: ∀i,i<f.rows.toNat->(eX f).getD i (0,0)=(-1,f.aK-1):=fun i hi=>by
  unfold eX
  rw[gW,List.getElem?_replicate,aF hi]
  rfl
 have hl:(eX f).length=f.rows.toNat:=by unfold eX;simp
 unfold qo
 constructor
 ·intro hm
  obtain⟨h1,h2⟩:=Cb _ _ hm
  rw[hl] at h1 h2
  refine⟨h1,fun i hi=>?_⟩
  have:=h2 i hi
  rw[hg i hi] at this
  exact this
 ·rintro⟨h1,h2⟩
  refine Ve _ _ (by rw[hl];exact h1) fun i hi=>?_
  rw[hl] at hi
  rw[hg i hi]
  exact h2 i hi
theorem KI (f:bQ):uh (eX f)=(f.aK+1)^f.rows.toNat:=by
 unfold eX
 induction f.rows.toNat with
 |zero=>simp[uh]
 |succ k ih=>
  rw[List.replicate_succ]
  show ed (-1,f.aK-1)*uh (List.replicate k (-1,f.aK-1))=_
  rw[ih,Int.pow_succ,Int.mul_comm]
  congr 1
  unfold ed
  simp only
  omega
end Go.Proofs.YthllkbbbapgelaaGreatDoor
namespace Go.Proofs.YthllkbbbapgelaaGreatDoor
open jl
def Qu (rows:List Int) (a b:List Int):Bool:=rows.all fun r=>a.getD r.toNat 0==b.getD r.toNat 0
def mg (f:bQ) (a:List Int) (who:Int):Int:=GN a who 0 (f.rows-1)
def Nb (f:bQ) (w:Int) (rows:List Int):Bool:=(bT f []).all fun a=>(bT f []).all fun b=>!Qu rows a b ||mg f a w==mg f b w
theorem aa8 {f:bQ} {w:Int} {rows:List Int}:Nb f w rows=true↔ ∀a∈bT f [], ∀b∈bT f [],Qu rows a b=true->mg f a w=mg f b w:=by
 unfold Nb
 simp only[jV,Bool.or_eq_true,Bool.not_eq_true',beq_iff_eq]
 constructor
 ·intro h a ha b hb hs
  rcases h a ha b hb with h1|h1
  ·rw[hs] at h1;cases h1
  ·exact h1
 ·intro h a ha b hb
  cases hs:Qu rows a b
  ·exact .inl rfl
  ·exact .inr (h a ha b hb hs)
theorem Di {f:bQ} {out a:List Int} (h:a∈bT f out):a∈qo f/\je f out a=true:=List.mem_filter.1 h
theorem oG {f:bQ} {out a:List Int} (h:a∈bT f out):a.length=f.rows.toNat:=(FY.1 (Di h).1).1
theorem Y7 (n:Nat):Inc n 0 (upto n):=by
 have:=VT n 0 n (by omega)
 unfold upto
 rw[<-List.range_eq_range'] at this
 exact this
theorem AO {a b:List Int} (h:nR a b=false):b.length<=a.length:=by
 unfold nR at h
 simp only[Bool.or_eq_false_iff,decide_eq_false_iff_not] at h
 omega
end Go.Proofs.YthllkbbbapgelaaGreatDoor
namespace Go.Proofs.YthllkbbbapgelaaGreatDoor
open jl
structure aQ where
 field:bQ
 rate:Int
 box:dQ
 notes:List (Int×dQ)
def tN (r x:dQ):dQ:=(max r.1 x.1,min r.2 x.2)
def pz (l:aQ) (out:List Int) (i:Nat) (due:Int):dQ:=
 ((List.range l.notes.length).filter fun(k:Nat)=>!out.contains (k:Int)&&(l.notes.getD k (0,(0,0))).1==(i:Int)).foldl (fun r k=>tN r (l.notes.getD k (0,(0,0))).2) (0,due)
def yT (l:List Int):Int:=l.foldr (· + ·) 0
theorem uY (x:Int) (l:List Int):yT (x::l)=x+yT l:=rfl
def pJ (l:aQ) (out:List Int) (CS:List Int):List dQ:=(List.range l.field.aK.toNat).map fun i=>pz l out i (CS.getD i 0)
def Iu (l:aQ) (out CS:List Int):Int:=yT ((pJ l out CS).map (·.1))
def zy (l:aQ) (out CS:List Int):Int:=yT ((pJ l out CS).map (·.2))
def jw (l:aQ) (out CS:List Int):Bool:=(pJ l out CS).all (fun r=>decide (r.1<=r.2))&&decide (Iu l out CS<=l.box.2)&&decide (l.box.1<=zy l out CS)
def kJ (l:aQ) (out CS:List Int):List dQ:=
 (pJ l out CS).map fun r=>tN r (l.box.1-(zy l out CS-r.2),l.box.2-(Iu l out CS-r.1))
end Go.Proofs.YthllkbbbapgelaaGreatDoor
namespace Go.Proofs.YthllkbbbapgelaaGreatDoor
open jl
def lM (rate:Int) (rows:List Int):List Int:=(List.range 3).map fun(i:Nat)=>rate*(rows.count (i:Int):Int)
theorem kV (rate:Int) (rows:List Int):(lM rate rows).length=3:=by simp[lM]
theorem rX (rate:Int) (rows:List Int) {i:Nat} (hi:i<3):(lM rate rows).getD i 0=rate*(rows.count (i:Int):Int):=by
 unfold lM
 rw[gW,qx,List.getElem?_range hi]
 rfl
theorem ahv {a b:List Int} (ha:a.length=3) (hb:b.length=3) (h: ∀i,i<3->a.getD i 0=b.getD i 0):a=b:=by
 refine List.ext_getElem (by omega) fun i h1 h2=>?_
 have:=h i (by omega)
 simpa [List.getD,h1,h2] using this
theorem Wu (rate:Int):lM rate []=[0,0,0]:=by simp[lM,List.range_succ]
theorem RS (rate:Int) (rs:List Int) (n:Nat) (hn:n<3):(lM rate rs).set n ((lM rate rs).getD n 0+rate)=lM rate (rs++[(n:Int)]):=by
 refine ahv (by simp[kV]) (kV _ _) fun i hi=>?_
 rw[rX _ _ hi,List.count_append]
 by_cases e:n=i
 ·subst e
  rw[List.getD_eq_getElem?_getD,List.getElem?_set_self (by rw[kV];omega),Option.getD_some,rX _ _ hn]
  simp[Int.mul_add]
 ·rw[List.getD_eq_getElem?_getD,List.getElem?_set_ne e, <-List.getD_eq_getElem?_getD,rX _ _ hi]
  have:List.count (i:Int) [(n:Int)]=0:=by
   rw[List.count_eq_zero]
   simp;omega
  rw[this,Nat.add_zero]
theorem RU (rate:Int) (rs:List Int) (x:Int) (hx:x<0):lM rate (rs++[x])=lM rate rs:=by
 refine ahv (kV _ _) (kV _ _) fun i hi=>?_
 rw[rX _ _ hi,rX _ _ hi,List.count_append]
 have:List.count (i:Int) [x]=0:=by
  rw[List.count_eq_zero]
  simp;omega
 rw[this,Nat.add_zero]
theorem GK {rate:Int} (h0:0<=rate) (h1:rate<=50) (rs:List Int) (hl:rs.length<=7) (i:Nat) (hi:i<3):0<=(lM rate rs).getD i 0/\(lM rate rs).getD i 0<=350:=by
 rw[rX _ _ hi]
 have hc:(List.count (i:Int) rs:Int)<=7:=by
  have:=List.count_le_length (a:=(i:Int)) (l:=rs)
  omega
 have hc0:(0:Int)<=(List.count (i:Int) rs:Int):=by omega
 refine⟨Int.mul_nonneg h0 hc0,?_⟩
 calc rate*(List.count (i:Int) rs:Int)<=50*7:=Int.mul_le_mul h1 hc hc0 (by omega)
  _=350:=rfl
end Go.Proofs.YthllkbbbapgelaaGreatDoor
namespace Go.Proofs.YthllkbbbapgelaaGreatDoor
open jl
def lG (l:aQ) (out:List Int) (k:Nat):List (Int×dQ):=((List.range k).filter fun(i:Nat)=>!out.contains (i:Int)).map fun i=>l.notes.getD i (0,(0,0))
def Dw (l:aQ) (out:List Int):List (Int×dQ):=lG l out l.notes.length
theorem Q3 {l:aQ} {out:List Int} {k:Nat} (h:out.contains (k:Int)=false):lG l out (k+1)=lG l out k++[l.notes.getD k (0,(0,0))]:=by
 unfold lG
 rw[List.range_succ,List.filter_append,List.map_append]
 congr 1
 rw[List.filter_cons_of_pos (by rw[h];rfl)]
 rfl
theorem VF {l:aQ} {out:List Int} {k:Nat} (h:out.contains (k:Int)=true):lG l out (k+1)=lG l out k:=by
 unfold lG
 rw[List.range_succ,List.filter_append,List.map_append,List.filter_cons_of_neg (by rw[h];simp)]
 simp
theorem F9 (l:aQ) (out:List Int) (k:Nat):(lG l out k).length<=k:=by
 unfold lG
 rw[lX]
 have:=List.length_filter_le (fun(i:Nat)=>!out.contains (i:Int)) (List.range k)
 simpa using this
def wZ (ns:List (Int×dQ)) (key:Int×Int) (k:Nat):dQ:=(ns.take k).foldl (fun r n=>if n.1=key.1 then tN r n.2 else r) (0,key.2)
def kn (ns:List (Int×dQ)) (key:Int×Int):dQ:=wZ ns key ns.length
theorem JE {ns:List (Int×dQ)} {key:Int×Int} {k:Nat} (hk:k<ns.length):wZ ns key (k+1)=if ns[k].1=key.1 then tN (wZ ns key k) ns[k].2 else wZ ns key k:=by
 unfold wZ
 rw[iC hk,List.foldl_append]
 rfl
theorem NW (l:aQ) (out:List Int) (i:Nat) (due:Int):kn (Dw l out) ((i:Int),due)=pz l out i due:=by
 unfold kn wZ pz Dw lG
 rw[List.take_length,List.foldl_map]
 generalize List.range l.notes.length=ks
 have: ∀(ks:List Nat) (r:dQ),(ks.filter fun(k:Nat)=>!out.contains (k:Int)).foldl (fun r k=>if(l.notes.getD k (0,(0,0))).1=(i:Int) then tN r (l.notes.getD k (0,(0,0))).2 else r) r=
  (ks.filter fun(k:Nat)=>!out.contains (k:Int)&&(l.notes.getD k (0,(0,0))).1==(i:Int)).foldl (fun r k=>tN r (l.notes.getD k (0,(0,0))).2) r:=by
  intro ks
  induction ks with
  |nil=>intro r;rfl
  |cons k ks ih=>
   intro r
   cases hc:out.contains (k:Int)
   ·by_cases hn:(l.notes.getD k (0,(0,0))).1=(i:Int)
    ·simp only[List.filter_cons,hc,hn,Bool.not_false,if_true,beq_self_eq_true,Bool.and_self,List.foldl_cons]
     exact ih _
    ·have hnb:((l.notes.getD k (0,(0,0))).1==(i:Int))=false:=by simpa using hn
     simp only[List.filter_cons,hc,hnb,hn,Bool.not_false,if_true,if_false,Bool.and_false,Bool.false_eq_true,List.foldl_cons]
     exact ih _
   ·simp only[List.filter_cons,hc,Bool.not_true,Bool.false_and,Bool.false_eq_true,if_false]
    exact ih _
 exact this ks (0,due)
theorem UU (xs:List Int) (x:Int):yT (xs++[x])=yT xs+x:=by
 induction xs with
 |nil=>simp[yT]
 |cons y xs ih=>rw[List.cons_append,uY,uY,ih];omega
def lq (f:dQ->Int) (rs:List dQ) (k:Nat):Int:=yT ((rs.take k).map f)
theorem sJ (f:dQ->Int) {rs:List dQ} {k:Nat} (hk:k<rs.length):lq f rs (k+1)=lq f rs k+f rs[k]:=by
 unfold lq
 rw[iC hk,List.map_append,List.map_singleton,UU]
theorem xC (f:dQ->Int) (rs:List dQ) (h: ∀r∈rs,0<=f r/\f r<=2000): ∀k,k<=rs.length->0<=lq f rs k/\lq f rs k<=2000*k:=by
 intro k
 induction k with
 |zero=>intro _;simp[lq,yT]
 |succ k ih=>
  intro hk
  have:=ih (by omega)
  have:=h rs[k] (df _)
  rw[sJ f (by omega)]
  omega
theorem yH (f:dQ->Int) (rs:List dQ):lq f rs rs.length=yT (rs.map f):=by unfold lq;rw[List.take_length]
theorem abn {ns:List (Int×dQ)} (hn: ∀x∈ns,0<=x.2.1/\x.2.1<=2000/\0<=x.2.2/\x.2.2<=2000) {key:Int×Int} (h0:0<=key.2) (_h1:key.2<=2000): ∀k,k<=ns.length->0<=(wZ ns key k).1/\(wZ ns key k).1<=2000/\0<=(wZ ns key k).2/\(wZ ns key k).2<=key.2:=by
 intro k
 induction k with
 |zero=>intro _;simp[wZ];omega
 |succ k ih=>
  intro hk
  have h:=ih (by omega)
  have hx:=hn ns[k] (df _)
  rw[JE (by omega)]
  split
  ·unfold tN
   simp only
   omega
  ·exact h
theorem VG {l:aQ} {out:List Int} {x:Int×dQ} (h:x∈Dw l out):x∈l.notes:=by
 unfold Dw lG at h
 obtain⟨i,hi,rfl⟩:=iZ.1 h
 have:=kX.1 (List.mem_filter.1 hi).1
 rw[show l.notes.getD i (0,(0,0))=l.notes[i] from by simp[List.getD,this]]
 exact df _
structure pO (l:aQ):Prop where
 field:jS l.field=0
 some:bT l.field []≠[]
 rate:1<=l.rate/\l.rate<=50
 box:0<=l.box.1/\l.box.1<=l.box.2/\l.box.2<=2000
 many:l.notes.length<=5
 notes: ∀x∈l.notes,(0<=x.1/\x.1<l.field.aK)/\(0<=x.2.1/\x.2.1<=x.2.2/\x.2.2<=2000)
theorem NV {l:aQ} (hS:pO l) (out:List Int) (i:Nat) {due:Int} (h0:0<=due) (h1:due<=2000):0<=(pz l out i due).1/\(pz l out i due).1<=2000/\0<=(pz l out i due).2/\(pz l out i due).2<=due:=by
 rw[<-NW]
 exact abn (fun x hx=>by have:=hS.notes x (VG hx);omega) h0 h1 _ (ai _)
theorem yR (l:aQ) (out d:List Int):(pJ l out d).length=l.field.aK.toNat:=by simp[pJ]
theorem CZ (l:aQ) (out d:List Int) {i:Nat} (hi:i<l.field.aK.toNat):(pJ l out d).getD i (0,0)=pz l out i (d.getD i 0):=by
 unfold pJ
 rw[gW,qx,List.getElem?_range hi]
 rfl
end Go.Proofs.YthllkbbbapgelaaGreatDoor
namespace Go.Proofs.YthllkbbbapgelaaGreatDoor
open jl
def xy (r x:dQ):dQ:=(min r.1 x.1,max r.2 x.2)
def oI (due:Int) (r:dQ):dQ:=(due-r.2,due-r.1)
def rC (p:Int->dQ->dQ) (l:aQ) (d:List Int):List dQ:=(List.range l.field.aK.toNat).map fun i=>p (d.getD i 0) ((kJ l [] d).getD i (0,0))
def kC (acc mJ:List dQ) (i:Nat):List dQ:=if acc=[] then mJ.take i else(List.zipWith xy acc mJ).take i++acc.drop i
def IP (acc mJ:List dQ):List dQ:=if acc=[] then mJ else List.zipWith xy acc mJ
def uH (p:Int->dQ->dQ) (l:aQ) (acc:List dQ) (d:List Int):List dQ:=if jw l [] d=true then IP acc (rC p l d) else acc
def lN (p:Int->dQ->dQ) (l:aQ) (k:Nat) (ds:List (List Int)):List dQ:=(ds.take k).foldl (uH p l) []
def Bv (p:Int->dQ->dQ) (l:aQ) (ds:List (List Int)):List dQ:=lN p l ds.length ds
theorem Jp (l:aQ) (out d:List Int):(kJ l out d).length=l.field.aK.toNat:=by simp[kJ,yR]
theorem oM (p:Int->dQ->dQ) (l:aQ) (d:List Int):(rC p l d).length=l.field.aK.toNat:=by simp[rC]
theorem Jy (p:Int->dQ->dQ) (l:aQ) (d:List Int) {i:Nat} (hi:i<(rC p l d).length):(rC p l d)[i]=p (d.getD i 0) ((kJ l [] d).getD i (0,0)):=by
 simp[rC]
theorem Ad (p:Int->dQ->dQ) (l:aQ) {k:Nat} {ds:List (List Int)} (hk:k<ds.length):lN p l (k+1) ds=uH p l (lN p l k ds) ds[k]:=by
 unfold lN
 rw[iC hk,List.foldl_append]
 rfl
theorem aan {acc mJ:List dQ} (h:acc=[]∨acc.length=mJ.length):(IP acc mJ).length=mJ.length:=by
 unfold IP
 split
 ·rfl
 ·rcases h with h|h
  ·contradiction
  ·simp[h]
theorem JV (p:Int->dQ->dQ) (l:aQ) (ds:List (List Int)): ∀k,k<=ds.length->lN p l k ds=[]∨(lN p l k ds).length=l.field.aK.toNat:=by
 intro k
 induction k with
 |zero=>intro _;exact .inl rfl
 |succ k ih=>
  intro hk
  rw[Ad p l (by omega)]
  have h:=ih (by omega)
  unfold uH
  split
  ·right
   rw[aan (by rw[oM];exact h),oM]
  ·exact h
theorem wM (acc mJ:List dQ):kC acc mJ 0=acc:=by
 unfold kC
 split
 ·rename_i h;rw[h];rfl
 ·simp
theorem Xh {acc mJ:List dQ} (h:acc=[]∨acc.length=mJ.length):kC acc mJ mJ.length=IP acc mJ:=by
 unfold kC IP
 split
 ·simp
 ·rcases h with h|h
  ·contradiction
  ·rw[jW (by simp;omega),List.drop_of_length_le (by omega),List.append_nil]
theorem Xg {acc mJ:List dQ} {i:Nat} (h:acc=[]∨acc.length=mJ.length) (hi:i<=mJ.length):(kC acc mJ i).length=if acc=[] then i else mJ.length:=by
 unfold kC
 by_cases e:acc=[]
 ·rw[aF e,aF e];simp;omega
 ·rw[aj e,aj e]
  rcases h with h|h
  ·contradiction
  ·simp;omega
theorem Xf {mJ:List dQ} {i:Nat} (hi:i<mJ.length):kC [] mJ (i+1)=kC [] mJ i++[mJ[i]]:=by
 unfold kC
 rw[aF rfl,aF rfl,iC hi]
theorem Xe {acc mJ:List dQ} {i:Nat} (ha:acc≠[]) (h:acc.length=mJ.length) (hi:i<mJ.length):
 (kC acc mJ i)[i]? =acc[i]?/\kC acc mJ (i+1)=(kC acc mJ i).set i (xy (acc.getD i (0,0)) mJ[i]):=by
 unfold kC
 rw[aj ha,aj ha]
 have hz:((List.zipWith xy acc mJ).take i).length=i:=by simp;omega
 refine⟨?_,?_⟩
 ·rw[ou (by omega),hz,List.getElem?_drop,Nat.sub_self,Nat.add_zero]
 ·rw[qy _ _ (by omega),hz,Nat.sub_self,uO (by omega:i<acc.length),List.set_cons_zero,
   iC (by simp;omega),kZ,List.singleton_append]
  simp[List.getD,h,hi]
structure tZ (S:dQ->Prop) (r:dQ):Prop where
 low:(∃x,S x/\x.1=r.1)/\ ∀x,S x->r.1<=x.1
 high:(∃x,S x/\x.2=r.2)/\ ∀x,S x->x.2<=r.2
theorem tZ.one (x:dQ):tZ (fun y=>y=x) x:=⟨⟨⟨x,rfl,rfl⟩,fun y h=>by rw[h];exact Int.le_refl _⟩,⟨x,rfl,rfl⟩,fun y h=>by rw[h];exact Int.le_refl _⟩
theorem tZ.add {S:dQ->Prop} {r:dQ} (h:tZ S r) (x:dQ):tZ (fun y=>S y∨y=x) (xy r x):=by
 obtain⟨⟨⟨a,ha,ha'⟩,h1⟩,⟨b,hb,hb'⟩,h2⟩:=h
 unfold xy
 refine⟨⟨?_,?_⟩,?_,?_⟩
 ·by_cases e:r.1<=x.1
  ·exact⟨a,.inl ha,by simp only;omega⟩
  ·exact⟨x,.inr rfl,by simp only;omega⟩
 ·rintro y (hy|rfl)
  ·have:=h1 y hy;simp only;omega
  ·simp only;omega
 ·by_cases e:x.2<=r.2
  ·exact⟨b,.inl hb,by simp only;omega⟩
  ·exact⟨x,.inr rfl,by simp only;omega⟩
 ·rintro y (hy|rfl)
  ·have:=h2 y hy;simp only;omega
  ·simp only;omega
theorem tZ.congr {S T:dQ->Prop} {r:dQ} (h:tZ S r) (e: ∀x,S x↔T x):tZ T r:=by
 obtain⟨⟨⟨a,ha,ha'⟩,h1⟩,⟨b,hb,hb'⟩,h2⟩:=h
 exact⟨⟨⟨a,(e a).1 ha,ha'⟩,fun x hx=>h1 x ((e x).2 hx)⟩,⟨b,(e b).1 hb,hb'⟩,fun x hx=>h2 x ((e x).2 hx)⟩
theorem G7 (p:Int->dQ->dQ) (l:aQ) (ds:List (List Int)) {i:Nat} (hi:i<l.field.aK.toNat): ∀k,k<=ds.length->
 (lN p l k ds=[]/\ ∀d∈ds.take k,jw l [] d=false)∨((lN p l k ds).length=l.field.aK.toNat/\tZ (fun y=> ∃d∈ds.take k,jw l [] d=true/\y=p (d.getD i 0) ((kJ l [] d).getD i (0,0))) ((lN p l k ds).getD i (0,0))):=by
 intro k
 induction k with
 |zero=>intro _;exact .inl ⟨rfl,fun d hd=>by simp at hd⟩
 |succ k ih=>
  intro hk
  have hkl:k<ds.length:=by omega
  rw[Ad p l hkl,iC hkl]
  have hn: ∀d,(rC p l d).getD i (0,0)=p (d.getD i 0) ((kJ l [] d).getD i (0,0)):=fun d=>by
   have hi':i<(rC p l d).length:=by rw[oM];exact hi
   rw[gW,dn hi',Option.getD_some,Jy p l d hi']
  cases hc:jw l [] ds[k] with
  |false=>
   have hs:uH p l (lN p l k ds) ds[k]=lN p l k ds:=by unfold uH;rw[hc];rfl
   rw[hs]
   rcases ih (by omega) with⟨h1,h2⟩|⟨h1,h2⟩
   ·refine .inl ⟨h1,fun d hd=>?_⟩
    rcases iM.1 hd with h|h
    ·exact h2 d h
    ·rw[fC.1 h];exact hc
   ·refine .inr ⟨h1,h2.congr fun x=>⟨fun⟨d,hd,a,b⟩=>⟨d,og _ hd,a,b⟩,fun⟨d,hd,a,b⟩=>?_⟩⟩
    rcases iM.1 hd with h|h
    ·exact⟨d,h,a,b⟩
    ·rw[fC.1 h,hc] at a;cases a
  |true=>
   have hs:uH p l (lN p l k ds) ds[k]=IP (lN p l k ds) (rC p l ds[k]):=by unfold uH;rw[hc];rfl
   rw[hs]
   right
   rcases ih (by omega) with⟨h1,h2⟩|⟨h1,h2⟩
   ·rw[h1]
    have ha:IP [] (rC p l ds[k])=rC p l ds[k]:=by unfold IP;rw[aF rfl]
    rw[ha]
    refine⟨oM _ _ _,?_⟩
    rw[hn]
    refine(tZ.one _).congr fun x=>⟨fun e=>⟨ds[k],tY _ (fC.2 rfl),hc,e⟩,fun⟨d,hd,a,b⟩=>?_⟩
    rcases iM.1 hd with h|h
    ·rw[h2 d h] at a;cases a
    ·rw[fC.1 h] at b;exact b
   ·have hne:lN p l k ds≠[]:=fun e=>by rw[e] at h1;simp at h1;omega
    have ha:IP (lN p l k ds) (rC p l ds[k])=List.zipWith xy (lN p l k ds) (rC p l ds[k]):=by unfold IP;rw[aj hne]
    rw[ha]
    refine⟨by simp[h1,oM],?_⟩
    have hg:(List.zipWith xy (lN p l k ds) (rC p l ds[k])).getD i (0,0)=xy ((lN p l k ds).getD i (0,0)) (p (ds[k].getD i 0) ((kJ l [] ds[k]).getD i (0,0))):=by
     rw[<-hn ds[k]]
     have h3:i<(lN p l k ds).length:=by omega
     have h4:i<(rC p l ds[k]).length:=by rw[oM];exact hi
     simp only[gW,List.getElem?_zipWith,dn h3,dn h4,Option.getD_some]
    rw[hg]
    refine(h2.add _).congr fun x=>⟨?_,?_⟩
    ·rintro(⟨d,hd,a,b⟩|e)
     ·exact⟨d,og _ hd,a,b⟩
     ·exact⟨ds[k],tY _ (fC.2 rfl),hc,e⟩
    ·rintro⟨d,hd,a,b⟩
     rcases iM.1 hd with h|h
     ·exact .inl ⟨d,h,a,b⟩
     ·rw[fC.1 h] at b;exact .inr b
theorem aa7 {rs:List dQ} (h: ∀r∈rs,r.1<=r.2):yT (rs.map (·.1))<=yT (rs.map (·.2)):=by
 induction rs with
 |nil=>exact Int.le_refl _
 |cons x rs ih=>
  have h1:=h x List.mem_cons_self
  have h2:=ih (fun y hy=>h y (qX _ hy))
  simp only[List.map_cons,uY]
  omega
theorem MS {l:List Int} {i:Nat} (hi:i<l.length) (x:Int):yT (l.set i x)=yT l-l.getD i 0+x:=by
 induction l generalizing i with
 |nil=>simp at hi
 |cons y l ih=>
  cases i with
  |zero=>simp only[List.set_cons_zero,uY,List.getD_cons_zero];omega
  |succ i=>
   have:=ih (i:=i) (by simpa using hi)
   simp only[List.set_cons_succ,uY,List.getD_cons_succ]
   omega
theorem Jq (l:aQ) (out d:List Int) {i:Nat} (hi:i<l.field.aK.toNat):
 (kJ l out d).getD i (0,0)=tN (pz l out i (d.getD i 0)) (l.box.1-(zy l out d-(pz l out i (d.getD i 0)).2),l.box.2-(Iu l out d-(pz l out i (d.getD i 0)).1)):=by
 have ha:=CZ l out d hi
 have hl:i<(pJ l out d).length:=by rw[yR];exact hi
 rw[gW,dn hl,Option.getD_some] at ha
 unfold kJ
 rw[gW,qx,dn hl,ha]
 rfl
theorem QK {l:aQ} {out d:List Int} {i:Nat} (hi:i<l.field.aK.toNat) (hb:l.box.1<=l.box.2) (hc:jw l out d=true):((kJ l out d).getD i (0,0)).1<=((kJ l out d).getD i (0,0)).2:=by
 rw[Jq l out d hi]
 have hl:i<(pJ l out d).length:=by rw[yR];exact hi
 have ha:=CZ l out d hi
 unfold jw at hc
 simp only[eF,jV,eQ] at hc
 obtain⟨⟨h1,h2⟩,h3⟩:=hc
 have e1:yT (((pJ l out d).set i (0,0)).map (·.1))=Iu l out d-(pz l out i (d.getD i 0)).1:=by
  rw[List.map_set,MS (by simpa using hl)]
  unfold Iu
  rw[<-ha,gW,gW,qx,dn hl]
  simp
 have e2:yT (((pJ l out d).set i (0,0)).map (·.2))=zy l out d-(pz l out i (d.getD i 0)).2:=by
  rw[List.map_set,MS (by simpa using hl)]
  unfold zy
  rw[<-ha,gW,gW,qx,dn hl]
  simp
 have e3:=aa7 (rs:=(pJ l out d).set i (0,0)) (fun r hr=>by
  rcases List.mem_or_eq_of_mem_set hr with h|h
  ·exact h1 r h
  ·rw[h];exact Int.le_refl _)
 have e4:=h1 _ (by rw[gW,dn hl,Option.getD_some] at ha;rw[<-ha];exact df hl:pz l out i (d.getD i 0)∈pJ l out d)
 rw[e1,e2] at e3
 unfold tN
 simp only
 omega
end Go.Proofs.YthllkbbbapgelaaGreatDoor
namespace Go.Proofs.YthllkbbbapgelaaGreatDoor
open jl
end Go.Proofs.YthllkbbbapgelaaGreatDoor
namespace Go.Proofs.YthllkbbbapgelaaGreatDoor
open jl
end Go.Proofs.YthllkbbbapgelaaGreatDoor
end
section
namespace Go.RG
open Go.RowKit
structure Ext (Ms:List Nat) (w w':World):Prop where
 os:w'.os=w.os
 tape:w'.tape=w.tape
 output:w'.output=w.output
 size:w.heap.size<=w'.heap.size
 block: ∀k,k<w.heap.size->k∉Ms->w'.heap[k]? =w.heap[k]?
theorem Ext.refl (Ms:List Nat) (w:World):Ext Ms w w:=⟨rfl,rfl,rfl,ai _,fun _ _ _=>rfl⟩
theorem Ext.trans {Ms:List Nat} {a b c:World} (h:Ext Ms a b) (k:Ext Ms b c):Ext Ms a c:=
 ⟨k.os.trans h.os,k.tape.trans h.tape,k.output.trans h.output,iR h.size k.size,
   fun i hi hm=>(k.block i (fJ hi h.size) hm).trans (h.block i hi hm)⟩
theorem Ext.more {Ms Ms':List Nat} {w w':World} (h:Ext Ms w w') (hs: ∀x,x∈Ms->x∈Ms'):Ext Ms' w w':=
 ⟨h.os,h.tape,h.output,h.size,fun k hk hm=>h.block k hk (fun e=>hm (hs k e))⟩
theorem Ext.nil {Ms:List Nat} {w w':World} (h:Ext [] w w'):Ext Ms w w':=h.more (by simp)
theorem Ext.aA {Ms:List Nat} {w w':World} (h:Below w.heap.size w w'):Ext Ms w w':=
 ⟨h.os,h.tape,h.output,h.size,fun k hk _=>h.block k hk⟩
theorem Ext.below {w w':World} (h:Ext [] w w'):Below w.heap.size w w':=
 ⟨h.os,h.tape,h.output,h.size,fun k hk=>h.block k hk (by simp)⟩
theorem Ext.drew {Ms:List Nat} {a w:World} (h:Ext Ms a w):Ext Ms a w.drew:=⟨h.os,h.tape,h.output,h.size,h.block⟩
theorem Ext.cell {Ms:List Nat} {w w':World} (h:Ext Ms w w') (b o:Nat) (hb:b<w.heap.size) (hm:b∉Ms):w'.cell? ⟨b,o,none⟩=w.cell? ⟨b,o,none⟩:=
 ja (w:=w) (h.block b hb hm)
def Does (P:Program) (o:Oper) (ρ:Operand->Value) (W:World) (R:Value->World->Prop):Prop:=
 match (execOp ρ o).run P W with
 | .ok (.value v) w'=>R v w'
 | .ok .skip w'=>R undef w'
 | .ok (.enter f args) w'=>Calls P f args w' (fun e w''=> ∃v,e= .returned v/\R v w'')
 |_=>False
structure Spec where
 pure:List Value->Value->Prop
 world:List Value->Value->World->Prop
abbrev Facts:=List (Nat×(World->Prop))
def ny (o:Oper) (a:Act):List Value:=o.op.operands.toList.map a.eval
def kK (ops:Array Oper) (j i:Nat):Bool:=((Region.before ops).getD i 0).testBit j
structure Hg (R0 R1:World->World->Prop):Prop where
 refl: ∀w,R0 w w
 adi: ∀{a b c},R0 a b->R0 b c->R0 a c
 adh: ∀{a b c},R1 a b->R1 b c->R1 a c
 sub: ∀{a b},R0 a b->R1 a b
def wU (R0 R1:World->World->Prop) (m:Option Nat) (i:Nat):World->World->Prop:=if m=some i then R1 else R0
def kQ (R0 R1:World->World->Prop) (m:Option Nat) (i:Nat):World->World->Prop:=if m=some i then R0 else R1
theorem Hg.abj {R0 R1:World->World->Prop} (h:Hg R0 R1) {m:Option Nat} (i:Nat) (w:World):kQ R0 R1 m i w w:=by
 unfold kQ
 split
 ·exact h.refl w
 ·exact h.sub (h.refl w)
theorem Aq (Ms:List Nat):Hg (Ext []) (Ext Ms):=⟨Ext.refl [],Ext.trans,Ext.trans,Ext.nil⟩
abbrev uy:=Nat->List Value->Value->World->Prop
def NI:uy:=fun _ _ _ _=>True
def Tj (ops:Array Oper) (R0 R1:World->World->Prop) (m:Option Nat) (W0:World) (F G:Facts) (i:Nat) (W:World):Prop:=
 kQ R0 R1 m i W0 W/\(∀f∈F,kK ops f.1 i=true->f.2 W)/\(m=some i-> ∀g∈G,kK ops g.1 i=true->g.2 W)
def qR (n t:Nat):Array Bool:=((List.range n).map (fun i=>decide (i<t))).toArray
def chk (ops:Array Oper) (k:Nat):Bool:=
 let n:=ops.size
 let at_ (i:Nat):Oper:=ops.getD i default
 decide (k<=n)&&
 (List.range n).all (fun i=>(at_ i).after.toList.all fun e=>!Region.binds .any e ||decide (e.on<i))&&
 (List.range k).all (fun i=>(List.range k).all fun j=>i==j ||(at_ i).dst.isNone ||(at_ i).dst !=(at_ j).dst)&&
 (List.range k).all (fun i=>((at_ i).looksAt ops).all fun t=>(List.range k).all fun j=>
   (at_ j).dst !=some t ||i==j ||(decide (j<i)&&kK ops j i) ||(decide (i<j)&&kK ops i j))&&
 (List.range n).all (fun i=>decide (i<k) ||(List.range k).all fun j=>kK ops j i)&&
 (List.range n).all (fun i=>match (at_ i).op with| .select .. =>false|_=>true)&&
 (List.range (n-k)).all (fun t=>Region.ready .any ops (qR n (k+t))==[k+t])&&
 Region.ready .any ops (qR n n)==[]
def Down (ops:Array Oper) (D:Nat->Prop):Prop:= ∀i o,ops[i]? =some o->D i-> ∀e∈o.after,Region.binds .any e=true->D e.on
theorem Vz (acc:Array Nat) (j:Nat) (l:List Edge) (s:Nat)
 (h:(l.foldl (fun s e=>if Region.binds .any e then s |||2^e.on |||acc.getD e.on 0 else s) s).testBit j=true):
 s.testBit j=true∨ ∃e∈l,Region.binds .any e=true/\(j=e.on∨(acc.getD e.on 0).testBit j=true):=by
 induction l generalizing s with
 |nil=>exact .inl h
 |cons e l ih=>
  simp only[List.foldl_cons] at h
  rcases ih _ h with h1|⟨e',he',hb,hj⟩
  ·by_cases hb:Region.binds .any e=true
   ·rw[aF hb] at h1
    simp only[Nat.testBit_or,Bool.or_eq_true,Nat.testBit_two_pow,eQ] at h1
    rcases h1 with(h1|h1)|h1
    ·exact .inl h1
    ·exact .inr ⟨e,by simp,hb,.inl h1.symm⟩
    ·exact .inr ⟨e,by simp,hb,.inr h1⟩
   ·rw[aj hb] at h1
    exact .inl h1
  ·exact .inr ⟨e',by simp[he'],hb,hj⟩
def masks (l:List Oper):Array Nat:=
 l.foldl (fun acc o=>acc.push (o.after.foldl (fun s e=>if Region.binds .any e then s |||2^e.on |||acc.getD e.on 0 else s) 0)) #[]
theorem WV (ops:Array Oper):Region.before ops=masks ops.toList:=by
 simp only[Region.before,masks,Array.foldl_toList]
theorem FZ (l:List Oper) (o:Oper):masks (l++[o])=(masks l).push (o.after.foldl (fun s e=>if Region.binds .any e then s |||2^e.on |||(masks l).getD e.on 0 else s) 0):=by
 simp[masks,List.foldl_append]
theorem oV {α:Type} {p:List α->Prop} (h0:p []) (h1: ∀l a,p l->p (l++[a])) (l:List α):p l:=by
 rw[<-l.reverse_reverse]
 induction l.reverse with
 |nil=>exact h0
 |cons a t ih=>rw[List.reverse_cons];exact h1 _ _ ih
theorem zL (l:List Oper):(masks l).size=l.length:=by
 induction l using oV with
 |h0=>rfl
 |h1 l o ih=>simp[FZ,ih]
theorem Vy (l:List Oper) (D:Nat->Prop) (hD: ∀i o,l[i]? =some o->D i-> ∀e∈o.after,Region.binds .any e=true->D e.on):
 ∀i j,i<l.length->D i->((masks l).getD i 0).testBit j=true->D j:=by
 induction l using oV with
 |h0=>intro i j hi;simp at hi
 |h1 l o ih=>
  have ih':=ih (fun i o' hi=>hD i o' (by
   have:=(ji.1 hi).1
   rw[uQ this];exact hi))
  intro i j hi hDi h
  rw[FZ] at h
  by_cases hlt:i<l.length
  ·rw[Array.getD_eq_getD_getElem?,Array.getElem?_push,aj (by rw[zL];omega), <-Array.getD_eq_getD_getElem?] at h
   exact ih' i j hlt hDi h
  ·have hi':i=l.length:=by simp at hi;omega
   subst hi'
   rw[Array.getD_eq_getD_getElem?,Array.getElem?_push,aF (by rw[zL])] at h
   simp only[Option.getD_some] at h
   rw[<-Array.foldl_toList] at h
   rcases Vz _ j _ _ h with h1|⟨e,he,hb,hj⟩
   ·simp at h1
   ·have hDe:D e.on:=hD l.length o (by simp) hDi e (by simpa using he) hb
    rcases hj with rfl|hj
    ·exact hDe
    ·by_cases hlt':e.on<l.length
     ·exact ih' e.on j hlt' hDe hj
     ·rw[Array.getD_eq_getD_getElem?,Array.getElem?_eq_none (by rw[zL];omega)] at hj
      simp at hj
theorem tV {ops:Array Oper} {D:Nat->Prop} (hD:Down ops D) {i j:Nat} (hi:i<ops.size) (hDi:D i) (h:kK ops j i=true):D j:=by
 unfold kK at h
 rw[WV] at h
 exact Vy ops.toList D (fun i o hi=>hD i o (by simpa using hi)) i j (by simpa using hi) hDi h
theorem WY {ops:Array Oper} {D:Nat->Prop} (hD:Down ops D) {i j:Nat} {o:Oper} (ho:ops[i]? =some o)
 (hr: ∀e∈o.after,Region.binds .any e=true->D e.on) (h:kK ops j i=true) (hij:j≠i):D j:=by
 have hD':Down ops (fun t=>D t∨t=i):=by
  intro t o' ht hDt e he hb
  rcases hDt with hDt|rfl
  ·exact .inl (hD t o' ht hDt e he hb)
  ·rw[ho] at ht;cases ht
   exact .inl (hr e he hb)
 exact(tV hD' (aS.1 ho).1 (.inr rfl) h).resolve_right hij
section
variable {P : Program} {ops : Array Oper}
def nO (ops:Array Oper) (i:Nat):Option Tmp:=(ops[i]?).bind (·.dst)
def jX (ops:Array Oper) (env:Nat->Value) (a0:Act) (l:List Nat):Act:=l.foldl (fun a i=>a.put (nO ops i) (env i)) a0
theorem lu (env:Nat->Value) (a0:Act) (l:List Nat) (i:Nat):jX ops env a0 (l++[i])=(jX ops env a0 l).put (nO ops i) (env i):=by
 simp[jX,List.foldl_append]
theorem put_defers (a:Act) (d:Option Tmp) (v:Value):(a.put d v).defers=a.defers:=by cases d <;>rfl
theorem Yr (a:Act) (d:Option Tmp) (v:Value):(a.put d v).tmps.size=a.tmps.size:=by cases d <;>simp[Act.put]
theorem TV (a:Act) (d:Option Tmp) (v:Value) (t:Nat):(a.put d v).tmps[t]? =if d=some t then(if t<a.tmps.size then some v else none) else a.tmps[t]? :=by
 cases d with
 |none=>simp[Act.put]
 |some d=>
  by_cases h:d=t
  ·subst h;simp[Act.put,Array.getElem?_setIfInBounds]
  ·have h':some d≠some t:=fun e=>h (jy e)
   rw[aj h']
   simp[Act.put,Array.getElem?_setIfInBounds_ne h]
theorem lU (env:Nat->Value) (a0:Act) (l:List Nat):(jX ops env a0 l).defers=a0.defers:=by
 induction l using oV with
 |h0=>rfl
 |h1 l i ih=>rw[lu,put_defers,ih]
theorem Nr (env:Nat->Value) (a0:Act) (l:List Nat):(jX ops env a0 l).tmps.size=a0.tmps.size:=by
 induction l using oV with
 |h0=>rfl
 |h1 l i ih=>rw[lu,Yr,ih]
theorem Dn (env:Nat->Value) (a0:Act) (t:Nat) (l:List Nat) (h: ∀i∈l,nO ops i≠some t):(jX ops env a0 l).tmps[t]? =a0.tmps[t]? :=by
 induction l using oV with
 |h0=>rfl
 |h1 l i ih=>rw[lu,TV,aj (h i (by simp)),ih (fun j hj=>h j (by simp[hj]))]
theorem Dl (env:Nat->Value) (a0:Act) (t i:Nat) (l:List Nat) (hi:i∈l) (hd:nO ops i=some t) (hu: ∀j∈l,nO ops j=some t->j=i):
 (jX ops env a0 l).tmps[t]? =if t<a0.tmps.size then some (env i) else none:=by
 induction l using oV with
 |h0=>simp at hi
 |h1 l j ih=>
  rw[lu,TV,Nr]
  by_cases hj:nO ops j=some t
  ·rw[aF hj,hu j (by simp) hj]
  ·rw[aj hj]
   refine ih ?_ (fun x hx=>hu x (by simp[hx]))
   rcases iM.1 hi with h|h
   ·exact h
   ·simp at h;subst h;exact absurd hd hj
theorem agree {env env':Nat->Value} {a0:Act} {l l':List Nat} (t:Nat) (hm: ∀i,nO ops i=some t->(i∈l↔i∈l')) (he: ∀i∈l,nO ops i=some t->env i=env' i)
 (hu: ∀i j,i∈l->j∈l->nO ops i=some t->nO ops j=some t->i=j):(jX ops env a0 l).tmps[t]? =(jX ops env' a0 l').tmps[t]? :=by
 by_cases h: ∃i∈l,nO ops i=some t
 ·obtain⟨i,hi,hd⟩:=h
  rw[Dl env a0 t i l hi hd (fun j hj hdj=>hu j i hj hi hdj hd),Dl env' a0 t i l' ((hm i hd).1 hi) hd (fun j hj hdj=>hu j i ((hm j hdj).2 hj) hi hdj hd),he i hi hd]
 ·have h1: ∀i∈l,nO ops i≠some t:=fun i hi hd=>h ⟨i,hi,hd⟩
  have h2: ∀i∈l',nO ops i≠some t:=fun i hi hd=>h ⟨i,(hm i hd).2 hi,hd⟩
  rw[Dn _ _ _ _ h1,Dn _ _ _ _ h2]
theorem Au {env env':Nat->Value} {a0:Act} {l:List Nat} (he: ∀i∈l,env i=env' i):jX ops env a0 l=jX ops env' a0 l:=by
 induction l using oV with
 |h0=>rfl
 |h1 l i ih=>rw[lu,lu,ih (fun j hj=>he j (by simp[hj])),he i (by simp)]
theorem Uu {a b:Act} (hd:a.defers=b.defers) (ht: ∀t:Nat,a.tmps[t]? =b.tmps[t]?):a=b:=by
 obtain⟨x,d⟩:=a;obtain⟨y,d'⟩:=b
 simp only at hd ht
 subst hd
 congr 1
 exact Array.ext_getElem? ht
def lg (ops:Array Oper) (o:Oper) (a b:Act):Prop:= ∀t∈o.looksAt ops,a.tmps[t]? =b.tmps[t]?
theorem lg.eval {o:Oper} {a b:Act} (h:lg ops o a b): ∀x∈o.op.operands,a.eval x=b.eval x:=by
 intro x hx
 cases x with
 |tmp t=>
  have:=h t (og _ (List.mem_filterMap.2 ⟨.tmp t,by simpa using hx,rfl⟩))
  simp[Act.eval,Ae,this]
 |_=>rfl
theorem lg.exec {o:Oper} {a b:Act} (h:lg ops o a b) (hs: ∀cs b,o.op≠ .select cs b):execOp a.eval o=execOp b.eval o:=execOp_congr o hs h.eval
theorem lg.ny {o:Oper} {a b:Act} (h:lg ops o a b):ny o a=ny o b:=List.map_congr_left fun x hx=>h.eval x (by simpa using hx)
theorem lg.wanted {o:Oper} {a b:Act} (h:lg ops o a b):Region.wanted o (yielded ops a.tmps)=Region.wanted o (yielded ops b.tmps):=by
 unfold Region.wanted
 cases hg:o.guard with
 |none=>rfl
 |some gw=>
  obtain⟨g,want⟩:=gw
  have hy:yielded ops a.tmps g=yielded ops b.tmps g:=by
   unfold yielded
   cases ht:(ops[g]?).bind (·.dst) with
   |none=>rfl
   |some t=>
    have:=h t (tY _ (by simp[hg,ht]))
    simp[this]
  simp only[hy]
end
structure Chk (ops:Array Oper) (k:Nat):Prop where
 kn:k<=ops.size
 lt: ∀(i:Nat) (o:Oper),ops[i]? =some o-> ∀e∈o.after,Region.binds .any e=true->e.on<i
 abW: ∀i j,i<k->j<k-> ∀t,nO ops i=some t->nO ops j=some t->i=j
 look: ∀(i:Nat) (o:Oper),i<k->ops[i]? =some o-> ∀t∈o.looksAt ops, ∀j,j<k->nO ops j=some t->i≠j->(j<i/\kK ops j i=true)∨(i<j/\kK ops i j=true)
 tail: ∀i,k<=i->i<ops.size-> ∀j,j<k->kK ops j i=true
 sel: ∀(i:Nat) (o:Oper),ops[i]? =some o-> ∀cs b,o.op≠ .select cs b
 rdy: ∀t,k<=t->t<ops.size->Region.ready .any ops (qR ops.size t)=[t]
 fin:Region.ready .any ops (qR ops.size ops.size)=[]
theorem rH {ops:Array Oper} {i:Nat} {o:Oper} (h:ops[i]? =some o):ops.getD i default=o:=by
 rw[Ae,h];rfl
theorem yh {ops:Array Oper} {i:Nat} {o:Oper} (h:ops[i]? =some o):nO ops i=o.dst:=by simp[nO,h]
theorem GU {ops:Array Oper} {k:Nat} (h:chk ops k=true):Chk ops k:=by
 simp only[chk,eF,eQ,jV,kX,Bool.or_eq_true,beq_iff_eq,bne_iff_ne,ne_eq,Bool.not_eq_true'] at h
 obtain⟨⟨⟨⟨⟨⟨⟨h1,h2⟩,h3⟩,h4⟩,h5⟩,h6⟩,h7⟩,h8⟩:=h
 have hlt: ∀{i:Nat} {o:Oper},ops[i]? =some o->i<ops.size:=fun h=>(aS.1 h).1
 have hget: ∀{i:Nat},i<ops.size->ops[i]? =some (ops.getD i default):=fun {i} hi=>by
  rw[wL hi,Ae,wL hi];rfl
 refine⟨h1,?_,?_,?_,?_,?_,?_,h8⟩
 ·intro i o ho e he hb
  have:=h2 i (hlt ho) e (by rw[rH ho];simpa using he)
  rcases this with h|h
  ·rw[hb] at h;cases h
  ·exact h
 ·intro i j hi hj t hdi hdj
  have:=h3 i hi j hj
  have ei:=hget (fJ hi h1)
  have ej:=hget (fJ hj h1)
  rw[yh ei] at hdi
  rw[yh ej] at hdj
  rcases this with(h|h)|h
  ·exact h
  ·rw[hdi] at h;cases h
  ·rw[hdi,hdj] at h;exact absurd rfl h
 ·intro i o hi ho t ht j hj hdj hij
  have:=h4 i hi t (by rw[rH ho];exact ht) j hj
  rw[yh (hget (fJ hj h1))] at hdj
  rcases this with((h|h)|h)|h
  ·exact absurd hdj h
  ·exact absurd h hij
  ·exact .inl h
  ·exact .inr h
 ·intro i hk hi j hj
  rcases h5 i hi with h|h
  ·omega
  ·exact h j hj
 ·intro i o ho cs b e
  have:=h6 i (hlt ho)
  rw[rH ho,e] at this
  cases this
 ·intro t hk ht
  have:=h7 (t-k) (by omega)
  rw[show k+(t-k)=t from by omega] at this
  exact this
section
variable {Ps : uy} {P : Program} {ops : Array Oper} {R0 R1 : World → World → Prop} {m : Option Nat} {Ss : List (Nat × Spec)} {W0 : World} {a0 : Act}
abbrev pf (ops:Array Oper) (a0:Act) (env:Nat->Value) (i:Nat):Act:=jX ops env a0 (List.range i)
theorem TW (env:Nat->Value) (i:Nat):pf ops a0 env (i+1)=(pf ops a0 env i).put (nO ops i) (env i):=by
 unfold pf;rw[List.range_succ,lu]
theorem jR {env env':Nat->Value} {i:Nat} (h: ∀j,j<i->env j=env' j):pf ops a0 env i=pf ops a0 env' i:=
 Au fun j hj=>h j (by simpa using hj)
def Left (ops:Array Oper) (a0:Act) (env:Nat->Value) (j:Nat) (s:Spec) (W:World):Prop:=s.world (ny (ops.getD j default) (pf ops a0 env j)) (env j) W
def uI (Ps:uy) (ops:Array Oper) (a0:Act) (env:Nat->Value) (j:Nat) (W:World):Prop:=Ps j (ny (ops.getD j default) (pf ops a0 env j)) (env j) W
def rf (Ps:uy) (ops:Array Oper) (R0 R1:World->World->Prop) (m:Option Nat) (Ss:List (Nat×Spec)) (W0:World) (a0:Act) (env:Nat->Value) (i:Nat) (W:World):Prop:=
 kQ R0 R1 m i W0 W/\(∀j s,Ss.lookup j=some s->j<i->kK ops j i=true->Left ops a0 env j s W)/\
  (m=some i-> ∀j s,Ss.lookup j=some s->j<i->kK ops j i=true->uI Ps ops a0 env j W)
theorem Tq {env env':Nat->Value} {j:Nat} {s:Spec} {W:World} (h: ∀i,i<=j->env i=env' i) (hl:Left ops a0 env j s W):Left ops a0 env' j s W:=by
 unfold Left at*
 rw[jR (fun i hi=>(h i (by omega)).symm), <-h j (ai _)]
 exact hl
theorem PI {env env':Nat->Value} {j:Nat} {W:World} (h: ∀i,i<=j->env i=env' i) (hl:uI Ps ops a0 env j W):uI Ps ops a0 env' j W:=by
 unfold uI at*
 rw[jR (fun i hi=>(h i (by omega)).symm), <-h j (ai _)]
 exact hl
theorem rP {env env':Nat->Value} {i:Nat} {W:World} (h: ∀j,j<i->env j=env' j) (hr:rf Ps ops R0 R1 m Ss W0 a0 env i W):rf Ps ops R0 R1 m Ss W0 a0 env' i W:=
 ⟨hr.1,fun j s hs hj ha=>Tq (fun t ht=>h t (by omega)) (hr.2.1 j s hs hj ha),fun hm j s hs hj ha=>PI (fun t ht=>h t (by omega)) (hr.2.2 hm j s hs hj ha)⟩
def Fs (ops:Array Oper) (Ss:List (Nat×Spec)) (a0:Act) (env:Nat->Value):Nat->Facts
 |0=>[]
 |t+1=>match Ss.lookup t with
  |none=>Fs ops Ss a0 env t
  |some s=>(t,s.world (ny (ops.getD t default) (pf ops a0 env t)) (env t))::Fs ops Ss a0 env t
theorem YU {env:Nat->Value} {t:Nat} {f:Nat×(World->Prop)}:f∈Fs ops Ss a0 env t↔ ∃j s,j<t/\Ss.lookup j=some s/\f=(j,Left ops a0 env j s):=by
 induction t with
 |zero=>simp[Fs]
 |succ t ih=>
  unfold Fs
  cases hs:Ss.lookup t with
  |none=>
   simp only[ih]
   constructor
   ·rintro⟨j,s,hj,h1,h2⟩;exact⟨j,s,by omega,h1,h2⟩
   ·rintro⟨j,s,hj,h1,h2⟩
    have:j≠t:=fun e=>by subst e;rw[hs] at h1;cases h1
    exact⟨j,s,by omega,h1,h2⟩
  |some s0=>
   simp only[ig,ih]
   constructor
   ·rintro(rfl|⟨j,s,hj,h1,h2⟩)
    ·exact⟨t,s0,by omega,hs,rfl⟩
    ·exact⟨j,s,by omega,h1,h2⟩
   ·rintro⟨j,s,hj,h1,h2⟩
    by_cases e:j=t
    ·subst e;rw[hs] at h1;cases h1;exact .inl h2
    ·exact .inr ⟨j,s,by omega,h1,h2⟩
theorem PN {env env':Nat->Value} {t:Nat} (h: ∀j,j<t->env j=env' j):Fs ops Ss a0 env t=Fs ops Ss a0 env' t:=by
 induction t with
 |zero=>rfl
 |succ t ih=>
  unfold Fs
  rw[ih (fun j hj=>h j (by omega)),jR (env:=env) (env':=env') (fun j hj=>h j (by omega)),h t (by omega)]
def Gs (Ps:uy) (ops:Array Oper) (Ss:List (Nat×Spec)) (a0:Act) (env:Nat->Value):Nat->Facts
 |0=>[]
 |t+1=>match Ss.lookup t with
  |none=>Gs Ps ops Ss a0 env t
  |some _=>(t,Ps t (ny (ops.getD t default) (pf ops a0 env t)) (env t))::Gs Ps ops Ss a0 env t
theorem adp {env:Nat->Value} {t:Nat} {f:Nat×(World->Prop)}:f∈Gs Ps ops Ss a0 env t-> ∃j s,j<t/\Ss.lookup j=some s/\f=(j,uI Ps ops a0 env j):=by
 induction t with
 |zero=>simp[Gs]
 |succ t ih=>
  unfold Gs
  cases hs:Ss.lookup t with
  |none=>exact fun h=>by obtain⟨j,s,hj,h1,h2⟩:=ih h;exact⟨j,s,by omega,h1,h2⟩
  |some s0=>
   simp only[ig]
   rintro(rfl|h)
   ·exact⟨t,s0,by omega,hs,rfl⟩
   ·obtain⟨j,s,hj,h1,h2⟩:=ih h;exact⟨j,s,by omega,h1,h2⟩
theorem PM {env env':Nat->Value} {t:Nat} (h: ∀j,j<t->env j=env' j):Gs Ps ops Ss a0 env t=Gs Ps ops Ss a0 env' t:=by
 induction t with
 |zero=>rfl
 |succ t ih=>
  unfold Gs
  rw[ih (fun j hj=>h j (by omega)),jR (env:=env) (env':=env') (fun j hj=>h j (by omega)),h t (by omega)]
theorem KH {env:Nat->Value} {i:Nat} {W:World} (h:rf Ps ops R0 R1 m Ss W0 a0 env i W):Tj ops R0 R1 m W0 (Fs ops Ss a0 env i) (Gs Ps ops Ss a0 env i) i W:=
 ⟨h.1,fun f hf ha=>by
   obtain⟨j,s,hj,hs,rfl⟩:=YU.1 hf
   exact h.2.1 j s hs hj ha,fun hm f hf ha=>by
   obtain⟨j,s,hj,hs,rfl⟩:=adp hf
   exact h.2.2 hm j s hs hj ha⟩
def Rec (Ps:uy) (P:Program) (ops:Array Oper) (R0 R1:World->World->Prop) (m:Option Nat) (Ss:List (Nat×Spec)) (W0:World) (a0:Act) (env:Nat->Value) (i:Nat) (o:Oper):Prop:=
 match Ss.lookup i with
 |none=>(Region.wanted o (yielded ops (pf ops a0 env i).tmps)=true/\ ∃W,rf Ps ops R0 R1 m Ss W0 a0 env i W/\(execOp (pf ops a0 env i).eval o).run P W= .ok (.value (env i)) W)∨
   (Region.wanted o (yielded ops (pf ops a0 env i).tmps)=false/\env i=undef)
 |some s=>s.pure (ny o (pf ops a0 env i)) (env i)
variable {k : Nat} (hc : Chk ops k)
include hc
theorem EO {env env':Nat->Value} {i:Nat} {o:Oper} (hi:i<k) (ho:ops[i]? =some o) (h: ∀j,j<i->kK ops j i=true->env j=env' j):
 lg ops o (pf ops a0 env i) (pf ops a0 env' i):=by
 intro t ht
 refine agree t (fun _ _=>Iff.rfl) ?_ ?_
 ·intro j hj hd
  have hj':j<i:=by simpa using hj
  rcases hc.look i o hi ho t ht j (by omega) hd (by omega) with h1|h1
  ·exact h j hj' h1.2
  ·omega
 ·intro x y hx hy hdx hdy
  have hx':x<i:=by simpa using hx
  have hy':y<i:=by simpa using hy
  exact hc.abW x y (by omega) (by omega) t hdx hdy
theorem YL {env env':Nat->Value} {i:Nat} (hi:i<k) (h: ∀j,j<i->kK ops j i=true->env j=env' j):
 ny (ops.getD i default) (pf ops a0 env i)=ny (ops.getD i default) (pf ops a0 env' i):=by
 have hlt:i<ops.size:=fJ hi hc.kn
 have ho:ops[i]? =some (ops.getD i default):=by
  rw[wL hlt,Ae,wL hlt];rfl
 exact(EO hc hi ho h).ny
theorem yS {env env':Nat->Value} {l:List Nat} (hl: ∀i∈l,i<k) (hd:Down ops (· ∈l)) (he: ∀i∈l,env i=env' i) {j:Nat} (hj:j∈l) {s:Spec} {W:World}
 (h:Left ops a0 env j s W):Left ops a0 env' j s W:=by
 unfold Left at*
 rw[<-YL hc (hl j hj) (fun x _ hx=>he x (tV hd (fJ (hl j hj) hc.kn) hj hx)), <-he j hj]
 exact h
theorem BF {env env':Nat->Value} {l:List Nat} (hl: ∀i∈l,i<k) (hd:Down ops (· ∈l)) (he: ∀i∈l,env i=env' i) {j:Nat} (hj:j∈l) {W:World}
 (h:uI Ps ops a0 env j W):uI Ps ops a0 env' j W:=by
 unfold uI at*
 rw[<-YL hc (hl j hj) (fun x _ hx=>he x (tV hd (fJ (hl j hj) hc.kn) hj hx)), <-he j hj]
 exact h
theorem JZ {env env':Nat->Value} {l:List Nat} (hl: ∀i∈l,i<k) (hd:Down ops (· ∈l)) (he: ∀i∈l,env i=env' i) {i:Nat} (ha: ∀j,j<i->kK ops j i=true->j∈l) {W:World}
 (h:rf Ps ops R0 R1 m Ss W0 a0 env i W):rf Ps ops R0 R1 m Ss W0 a0 env' i W:=
 ⟨h.1,fun j s hs hj hji=>yS hc hl hd he (ha j hj hji) (h.2.1 j s hs hj hji),fun hm j s hs hj hji=>BF hc hl hd he (ha j hj hji) (h.2.2 hm j s hs hj hji)⟩
theorem aeA {env env':Nat->Value} {l:List Nat} (hl: ∀i∈l,i<k) (hd:Down ops (· ∈l)) (he: ∀i∈l,env i=env' i) {i:Nat} {o:Oper} (hi:i∈l) (ho:ops[i]? =some o)
 (h:Rec Ps P ops R0 R1 m Ss W0 a0 env i o):Rec Ps P ops R0 R1 m Ss W0 a0 env' i o:=by
 have hik:i<k:=hl i hi
 have AZ: ∀j,kK ops j i=true->j∈l:=fun j hj=>tV hd (fJ hik hc.kn) hi hj
 have hL:lg ops o (pf ops a0 env i) (pf ops a0 env' i):=EO hc hik ho (fun j _ hj=>he j (AZ j hj))
 unfold Rec at*
 rw[<-hL.wanted, <-hL.ny, <-he i hi, <-hL.exec (hc.sel i o ho)]
 cases hs:Ss.lookup i with
 |none=>
  simp only[hs] at h⊢
  exact h.imp (fun x=>⟨x.1,by obtain⟨W,hW,hr⟩:=x.2;exact⟨W,JZ hc hl hd he (fun j _=>AZ j) hW,hr⟩⟩) id
 |some s=>
  simp only[hs] at h⊢
  exact h
end
def Any (iQ:Nat->(Act->World->Prop)->Act->World->Prop) (ops:Array Oper) (Qn:Act->World->Prop):Nat->Array Bool->Act->World->Prop
 |0,l,a,w=>Region.ready .any ops l=[]/\Qn a w
 |fuel+1,l,a,w=>(Region.ready .any ops l=[]->Qn a w)/\ ∀i∈Region.ready .any ops l,iQ i (Any iQ ops Qn fuel (l.setIfInBounds i true)) a w
def Seq (iQ:Nat->(Act->World->Prop)->Act->World->Prop) (Qn:Act->World->Prop):List Nat->Act->World->Prop
 |[]=>Qn
 |i::r=>iQ i (Seq iQ Qn r)
def lst (n:Nat) (l:List Nat):Array Bool:=l.foldl (fun a i=>a.setIfInBounds i true) (Array.replicate n false)
theorem F5 (n:Nat) (l:List Nat) (i:Nat):lst n (l++[i])=(lst n l).setIfInBounds i true:=by simp[lst,List.foldl_append]
theorem Ua (n:Nat) (l:List Nat) (i:Nat):(lst n l)[i]? =if i<n then some (decide (i∈l)) else none:=by
 have hsize: ∀l:List Nat,(lst n l).size=n:=by
  intro l
  induction l using oV with
  |h0=>simp[lst]
  |h1 l j ih=>rw[F5];simp[ih]
 induction l using oV with
 |h0=>simp[lst,Array.getElem?_replicate]
 |h1 l j ih=>
  rw[F5,Array.getElem?_setIfInBounds,hsize,ih]
  by_cases e:j=i
  ·subst e;by_cases h:j<n <;>simp[h]
  ·rw[aj e]
   have:i≠j:=fun h=>e h.symm
   simp[this]
theorem zW (n t i:Nat):(qR n t)[i]? =if i<n then some (decide (i<t)) else none:=by
 unfold qR
 rw[List.getElem?_toArray,qx]
 by_cases h:i<n
 ·rw[List.getElem?_range h,aF h];rfl
 ·rw[List.getElem?_eq_none (by simpa using h),aj h];rfl
theorem F6 {n k:Nat} {l:List Nat} (h: ∀i,i∈l↔i<k):lst n l=qR n k:=by
 refine Array.ext_getElem? fun i=>?_
 rw[Ua,zW]
 simp[h]
theorem mem_ready {ops:Array Oper} {l:List Nat} {i:Nat}:i∈Region.ready .any ops (lst ops.size l)↔
 i<ops.size/\i∉l/\ ∀o,ops[i]? =some o-> ∀e∈o.after,Region.binds .any e=true->e.on∈l/\e.on<ops.size:=by
 unfold Region.ready
 simp only[List.mem_filter,kX,eF,Bool.not_eq_true',Ae,Ua]
 constructor
 ·rintro⟨hi,h1,h2⟩
  rw[aF hi] at h1
  refine⟨hi,by simpa using h1,fun o ho e he hb=>?_⟩
  rw[ho] at h2
  simp only[Option.map_some,Option.getD_some] at h2
  have:=(oz.1 h2) e he
  rw[hb] at this
  simp only[Bool.not_true,Bool.false_or] at this
  by_cases hlt:e.on<ops.size
  ·rw[aF hlt] at this
   exact⟨by simpa using this,hlt⟩
  ·rw[aj hlt] at this;cases this
 ·rintro⟨hi,h1,h2⟩
  refine⟨hi,by rw[aF hi];simpa using h1,?_⟩
  obtain⟨o,ho⟩: ∃o,ops[i]? =some o:=⟨_,wL hi⟩
  rw[ho]
  simp only[Option.map_some,Option.getD_some]
  refine oz.2 fun e he=>?_
  by_cases hb:Region.binds .any e=true
  ·obtain⟨h3,h4⟩:=h2 o ho e he hb
   rw[aF h4]
   simp[h3]
  ·simp[hb]
section
variable {iQ : Nat → (Act → World → Prop) → Act → World → Prop} {ops : Array Oper} {Qn : Act → World → Prop} {k : Nat}
theorem Pv (hc:Chk ops k) (hmono: ∀i (K K':Act->World->Prop) a w,(∀a w,K a w->K' a w)->iQ i K a w->iQ i K' a w):
 ∀j t a w,t+j=ops.size->k<=t->Seq iQ Qn (List.range' t j) a w->Any iQ ops Qn j (qR ops.size t) a w:=by
 intro j
 induction j with
 |zero=>
  intro t a w ht _ h
  have:t=ops.size:=by omega
  subst this
  exact⟨hc.fin,h⟩
 |succ j ih=>
  intro t a w ht hk h
  have hr:=hc.rdy t hk (by omega)
  refine⟨fun e=>(by rw[hr] at e;cases e),fun i hi=>?_⟩
  rw[hr] at hi
  have:i=t:=by simpa using hi
  subst this
  rw[List.range'_succ] at h
  refine hmono _ _ _ _ _ (fun a w hs=>?_) h
  have e:(qR ops.size i).setIfInBounds i true=qR ops.size (i+1):=by
   refine Array.ext_getElem? fun x=>?_
   have hsz:(qR ops.size i).size=ops.size:=by simp[qR]
   rw[Array.getElem?_setIfInBounds,hsz,zW,zW]
   by_cases e:i=x
   ·subst e;simp
   ·rw[aj e]
    by_cases hx:x<ops.size
    ·simp only[hx,if_true,Option.some.injEq,decide_eq_decide];omega
    ·simp[hx]
  rw[e]
  exact ih (i+1) a w (by omega) (by omega) hs
end
theorem all_in {k:Nat} {l:List Nat} (hn:l.Nodup) (h1: ∀i∈l,i<k) (h2:k<=l.length): ∀i,i<k->i∈l:=by
 intro i hi
 refine Classical.byContradiction fun h=>?_
 have:=List.Nodup.length_le_of_subset (l₁:=i::l) (l₂:=List.range k) (List.nodup_cons.2 ⟨h,hn⟩) (fun x hx=>by
  rcases ig.1 hx with rfl|hx
  ·simpa using hi
  ·simpa using h1 x hx)
 simp at this;omega
theorem Y0 {k:Nat} {l:List Nat} (hn:l.Nodup) (h1: ∀i∈l,i<k):l.length<=k:=by
 have:=List.Nodup.length_le_of_subset (l₁:=l) (l₂:=List.range k) hn (fun x hx=>by simpa using h1 x hx)
 simpa using this
end Go.RG
namespace Go.RX
open Go.RowKit Go.RG
def Does (X:List PanicEntry->World->Prop) (P:Program) (o:Oper) (ρ:Operand->Value) (W:World) (R:Value->World->Prop):Prop:=
 match (execOp ρ o).run P W with
 | .ok (.value v) w'=>R v w'
 | .ok .skip w'=>R undef w'
 | .ok (.enter f args) w'=>Calls P f args w' (fun e w''=>(∃v,e= .returned v/\R v w'')∨ ∃ps,e= .panicked ps/\X ps w'')
 |_=>False
def iG (X:List PanicEntry->World->Prop) (Ps:uy) (P:Program) (ops:Array Oper) (R0 R1:World->World->Prop) (m:Option Nat) (Ss:List (Nat×RG.Spec)) (Fin:Act->World->Prop) (W0:World):
 List Oper->Nat->Act->Facts->Facts->Prop
 |[],_,a,F,_=> ∀W,R1 W0 W->(∀f∈F,f.2 W)->Fin a W
 |o::rest,i,a,F,G=>
  match Ss.lookup i with
  |none=> ∃v,((Region.wanted o (yielded ops a.tmps)=true/\ ∀W,Tj ops R0 R1 m W0 F G i W->(execOp a.eval o).run P W= .ok (.value v) W)∨
    (Region.wanted o (yielded ops a.tmps)=false/\v=undef))/\iG X Ps P ops R0 R1 m Ss Fin W0 rest (i+1) (a.put o.dst v) F G
  |some s=>Region.wanted o (yielded ops a.tmps)=true/\(∃v,s.pure (ny o a) v)/\
    (∀W,Tj ops R0 R1 m W0 F G i W->Does X P o a.eval W (fun v W'=>s.pure (ny o a) v/\s.world (ny o a) v W'/\wU R0 R1 m i W W'/\Ps i (ny o a) v W'))/\
    ((∀v W W',s.world (ny o a) v W->kQ R0 R1 m i W W'->s.world (ny o a) v W')/\(∀v W W',Ps i (ny o a) v W->R0 W W'->Ps i (ny o a) v W'))/\
    ∀v,s.pure (ny o a) v->iG X Ps P ops R0 R1 m Ss Fin W0 rest (i+1) (a.put o.dst v) ((i,s.world (ny o a) v)::F) ((i,Ps i (ny o a) v)::G)
section
variable {X : List PanicEntry → World → Prop} {Ps : uy} {P : Program} {ops : Array Oper} {R0 R1 : World → World → Prop} {m : Option Nat} {Ss : List (Nat × RG.Spec)} {W0 : World} {a0 : Act}
def Node (X:List PanicEntry->World->Prop) (Ps:uy) (P:Program) (ops:Array Oper) (R0 R1:World->World->Prop) (m:Option Nat) (Ss:List (Nat×RG.Spec)) (W0:World) (a0:Act) (env:Nat->Value) (i:Nat) (o:Oper):Prop:=
 match Ss.lookup i with
 |none=>(Region.wanted o (yielded ops (pf ops a0 env i).tmps)=true/\ ∀W,rf Ps ops R0 R1 m Ss W0 a0 env i W->(execOp (pf ops a0 env i).eval o).run P W= .ok (.value (env i)) W)∨
   (Region.wanted o (yielded ops (pf ops a0 env i).tmps)=false/\env i=undef)
 |some s=>Region.wanted o (yielded ops (pf ops a0 env i).tmps)=true/\s.pure (ny o (pf ops a0 env i)) (env i)/\
   (∀W,rf Ps ops R0 R1 m Ss W0 a0 env i W->Does X P o (pf ops a0 env i).eval W (fun v W'=>s.pure (ny o (pf ops a0 env i)) v/\s.world (ny o (pf ops a0 env i)) v W'/\wU R0 R1 m i W W'/\Ps i (ny o (pf ops a0 env i)) v W'))/\
   (∀v W W',s.world (ny o (pf ops a0 env i)) v W->kQ R0 R1 m i W W'->s.world (ny o (pf ops a0 env i)) v W')/\
   (∀v W W',Ps i (ny o (pf ops a0 env i)) v W->R0 W W'->Ps i (ny o (pf ops a0 env i)) v W')
theorem Tn {env env':Nat->Value} {i:Nat} {o:Oper} (h: ∀j,j<=i->env j=env' j) (hn:Node X Ps P ops R0 R1 m Ss W0 a0 env i o):Node X Ps P ops R0 R1 m Ss W0 a0 env' i o:=by
 have hp:pf ops a0 env i=pf ops a0 env' i:=jR fun j hj=>h j (by omega)
 have hr: ∀W,rf Ps ops R0 R1 m Ss W0 a0 env' i W->rf Ps ops R0 R1 m Ss W0 a0 env i W:=fun W=>rP fun j hj=>(h j (by omega)).symm
 unfold Node at*
 rw[<-hp, <-h i (ai _)]
 cases hs:Ss.lookup i with
 |none=>
  simp only[hs] at hn⊢
  exact hn.imp (fun x=>⟨x.1,fun W hW=>x.2 W (hr W hW)⟩) id
 |some s=>
  simp only[hs] at hn⊢
  exact⟨hn.1,hn.2.1,fun W hW=>hn.2.2.1 W (hr W hW),hn.2.2.2⟩
variable {k : Nat} (hc : Chk ops k)
include hc
theorem along {Fin:Act->World->Prop} {env:Nat->Value} {l:List Nat} (hl: ∀i∈l,i<k) (hd:Down ops (· ∈l))
 (hrec: ∀i∈l, ∀o,ops[i]? =some o->Rec Ps P ops R0 R1 m Ss W0 a0 env i o)
 (Dz:iG X Ps P ops R0 R1 m Ss Fin W0 (ops.toList.take k) 0 a0 [] []):
 ∃env',(∀i∈l,env' i=env i)/\(∀i o,i<k->ops[i]? =some o->Node X Ps P ops R0 R1 m Ss W0 a0 env' i o)/\
  (∀W,R1 W0 W->(∀j s,Ss.lookup j=some s->j<k->RG.Left ops a0 env' j s W)->Fin (pf ops a0 env' k) W):=by
 have hlen:(ops.toList.take k).length=k:=by have:=hc.kn;simp[gJ];omega
 have go: ∀t,t<=k-> ∃env',(∀i∈l,env' i=env i)/\(∀i o,i<t->ops[i]? =some o->Node X Ps P ops R0 R1 m Ss W0 a0 env' i o)/\
  iG X Ps P ops R0 R1 m Ss Fin W0 ((ops.toList.take k).drop t) t (pf ops a0 env' t) (Fs ops Ss a0 env' t) (Gs Ps ops Ss a0 env' t):=by
  intro t
  induction t with
  |zero=>exact fun _=>⟨env,fun _ _=>rfl,fun i o hi=>by omega,by simpa [Fs,Gs,pf,jX] using Dz⟩
  |succ t ih=>
   intro ht
   obtain⟨env',h1,h2,h3⟩:=ih (by omega)
   have htk:t<k:=by omega
   have hlt:t<ops.size:=fJ htk hc.kn
   obtain⟨o,ho⟩: ∃o,ops[t]? =some o:=⟨_,wL hlt⟩
   have hcons:(ops.toList.take k).drop t=o::(ops.toList.take k).drop (t+1):=by
    rw[uO (by omega)]
    congr 1
    have:(ops.toList.take k)[t]? =some o:=by rw[List.getElem?_take,aF htk];simpa using ho
    rw[dn (by omega)] at this
    exact jy this
   rw[hcons] at h3
   unfold iG at h3
   have hdst:nO ops t=o.dst:=yh ho
   have iQ: ∀v,(t∈l->v=env t)->(∀e:Nat->Value,(∀j,j<t->e j=env' j)->e t=v->Node X Ps P ops R0 R1 m Ss W0 a0 e t o)->
    (∀e:Nat->Value,(∀j,j<t->e j=env' j)->e t=v->iG X Ps P ops R0 R1 m Ss Fin W0 ((ops.toList.take k).drop (t+1)) (t+1) (pf ops a0 e (t+1)) (Fs ops Ss a0 e (t+1)) (Gs Ps ops Ss a0 e (t+1)))->
    ∃yg,(∀i∈l,yg i=env i)/\(∀i o,i<t+1->ops[i]? =some o->Node X Ps P ops R0 R1 m Ss W0 a0 yg i o)/\
     iG X Ps P ops R0 R1 m Ss Fin W0 ((ops.toList.take k).drop (t+1)) (t+1) (pf ops a0 yg (t+1)) (Fs ops Ss a0 yg (t+1)) (Gs Ps ops Ss a0 yg (t+1)):=by
    intro v hv hN hT
    refine⟨fun j=>if j=t then v else env' j,?_,?_,?_⟩
    ·intro i hi
     by_cases e:i=t
     ·subst e;simp only[aF];exact hv hi
     ·simp only[aj e];exact h1 i hi
    ·intro i o' hi ho'
     by_cases e:i=t
     ·subst e;rw[ho] at ho';cases ho'
      exact hN _ (fun j hj=>aj (by omega)) (aF rfl)
     ·exact Tn (fun j hj=>(aj (by omega)).symm) (h2 i o' (by omega) ho')
    ·exact hT _ (fun j hj=>aj (by omega)) (aF rfl)
   cases hs:Ss.lookup t with
   |none=>
    simp only[hs] at h3
    obtain⟨v,hv,hT⟩:=h3
    refine iQ v ?_ ?_ ?_
    ·intro htl
     have hR:=hrec t htl o ho
     have AZ: ∀j,kK ops j t=true->j∈l:=fun j hj=>tV hd hlt htl hj
     have hL:lg ops o (pf ops a0 env t) (pf ops a0 env' t):=EO hc htk ho (fun j _ hj=>(h1 j (AZ j hj)).symm)
     unfold Rec at hR
     simp only[hs] at hR
     rw[hL.wanted,hL.exec (hc.sel t o ho)] at hR
     rcases hv with⟨hw,hv⟩|⟨hw,hv⟩
     ·rcases hR with⟨_,W,hW,hr⟩|⟨hw',_⟩
      ·have:=hv W (KH (JZ hc hl hd (fun i hi=>(h1 i hi).symm) (fun j _=>AZ j) hW))
       rw[hr] at this
       injection this with e1 _
       injection e1 with e2
       exact e2.symm
      ·rw[hw] at hw';cases hw'
     ·rcases hR with⟨hw',_⟩|⟨_,hu⟩
      ·rw[hw] at hw';cases hw'
      ·rw[hv,hu]
    ·intro e he het
     have hp:pf ops a0 e t=pf ops a0 env' t:=jR he
     unfold Node
     simp only[hs]
     rw[hp,het]
     exact hv.imp (fun x=>⟨x.1,fun W hW=>x.2 W (KH (rP he hW))⟩) id
    ·intro e he het
     rw[TW,hdst,het,jR he]
     have:Fs ops Ss a0 e (t+1)=Fs ops Ss a0 env' t:=by
      show(match Ss.lookup t with|none=>_|some s=>_)=_
      simp only[hs]
      exact PN he
     rw[this]
     have:Gs Ps ops Ss a0 e (t+1)=Gs Ps ops Ss a0 env' t:=by
      show(match Ss.lookup t with|none=>_|some s=>_)=_
      simp only[hs]
      exact PM he
     rw[this]
     exact hT
   |some s=>
    simp only[hs] at h3
    obtain⟨hw,⟨v0,hv0⟩,D7,hst,hT⟩:=h3
    have key: ∀v,s.pure (ny o (pf ops a0 env' t)) v->(t∈l->v=env t)-> ∃yg,(∀i∈l,yg i=env i)/\(∀i o,i<t+1->ops[i]? =some o->Node X Ps P ops R0 R1 m Ss W0 a0 yg i o)/\
     iG X Ps P ops R0 R1 m Ss Fin W0 ((ops.toList.take k).drop (t+1)) (t+1) (pf ops a0 yg (t+1)) (Fs ops Ss a0 yg (t+1)) (Gs Ps ops Ss a0 yg (t+1)):=by
     intro v hv hvl
     refine iQ v hvl ?_ ?_
     ·intro e he het
      have hp:pf ops a0 e t=pf ops a0 env' t:=jR he
      unfold Node
      simp only[hs]
      rw[hp,het]
      exact⟨hw,hv,fun W hW=>D7 W (KH (rP he hW)),hst⟩
     ·intro e he het
      rw[TW,hdst,het,jR he]
      have:Fs ops Ss a0 e (t+1)=(t,s.world (ny o (pf ops a0 env' t)) v)::Fs ops Ss a0 env' t:=by
       show(match Ss.lookup t with|none=>_|some s=>_)=_
       simp only[hs]
       rw[PN he,jR he,het,rH ho]
      rw[this]
      have:Gs Ps ops Ss a0 e (t+1)=(t,Ps t (ny o (pf ops a0 env' t)) v)::Gs Ps ops Ss a0 env' t:=by
       show(match Ss.lookup t with|none=>_|some s=>_)=_
       simp only[hs]
       rw[PM he,jR he,het,rH ho]
      rw[this]
      exact hT v hv
    by_cases htl:t∈l
    ·have hR:=hrec t htl o ho
     have AZ: ∀j,kK ops j t=true->j∈l:=fun j hj=>tV hd hlt htl hj
     have hL:lg ops o (pf ops a0 env t) (pf ops a0 env' t):=EO hc htk ho (fun j _ hj=>(h1 j (AZ j hj)).symm)
     unfold Rec at hR
     simp only[hs] at hR
     rw[hL.ny] at hR
     exact key (env t) hR (fun _=>rfl)
    ·exact key v0 hv0 (fun h=>absurd h htl)
 obtain⟨env',h1,h2,h3⟩:=go k (ai _)
 refine⟨env',h1,h2,fun W hW hF=>?_⟩
 rw[List.drop_of_length_le (by omega)] at h3
 unfold iG at h3
 exact h3 W hW (fun f hf=>by
  obtain⟨j,s,hj,hs,rfl⟩:=YU.1 hf
  exact hF j s hs hj)
end
section
variable {X : List PanicEntry → World → Prop} {iQ : Nat → (Act → World → Prop) → Act → World → Prop} {P : Program} {ops : Array Oper} {Qn : Act → World → Prop} {Ps : uy} {R0 R1 : World → World → Prop} {m : Option Nat} {Ss : List (Nat × RG.Spec)} {W0 : World} {a0 : Act} {k : Nat}
theorem acb (hR:Hg R0 R1) (hc:Chk ops k) (hmono: ∀i (K K':Act->World->Prop) a w,(∀a w,K a w->K' a w)->iQ i K a w->iQ i K' a w)
 (D7: ∀(i:Nat) (o:Oper) (K:Act->World->Prop) (a:Act) (W:World) (R:Value->World->Prop),a.defers=a0.defers->ops[i]? =some o->Region.wanted o (yielded ops a.tmps)=true->Does X P o a.eval W R->(∀v W',R v W'->K (a.put o.dst v) W')->iQ i K a W)
 (Oh: ∀(i:Nat) (o:Oper) (K:Act->World->Prop) (a:Act) (W:World),ops[i]? =some o->Region.wanted o (yielded ops a.tmps)=false->K (a.put o.dst undef) W->iQ i K a W)
 (Dz:iG X Ps P ops R0 R1 m Ss (Seq iQ Qn (List.range' k (ops.size-k))) W0 (ops.toList.take k) 0 a0 [] []):
 ∀(fuel:Nat) (l:List Nat) (env:Nat->Value) (W:World),l.length+fuel=ops.size->l.Nodup->(∀i∈l,i<k)->Down ops (· ∈l)->
  (∀i∈l, ∀o,ops[i]? =some o->Rec Ps P ops R0 R1 m Ss W0 a0 env i o)->(∀j s,Ss.lookup j=some s->j∈l->RG.Left ops a0 env j s W)->
  R1 W0 W->((∀i,m=some i->i∉l)->R0 W0 W/\ ∀j s,Ss.lookup j=some s->j∈l->uI Ps ops a0 env j W)->Any iQ ops Qn fuel (lst ops.size l) (jX ops env a0 l) W:=by
 intro fuel
 induction fuel with
 |zero=>
  intro l env W hlen hnd hl hd hrec hleft zT _
  have hk:k=ops.size:=by
   have h1:=Y0 hnd hl
   have:=hc.kn;omega
  have hall:=all_in hnd hl (by omega)
  obtain⟨env',he,_,hfin⟩:=along (P:=P) hc hl hd hrec Dz
  have hf:=hfin W zT (fun j s hs hj=>RG.yS hc hl hd (fun i hi=>(he i hi).symm) (hall j hj) (hleft j s hs (hall j hj)))
  have ea:jX ops env a0 l=pf ops a0 env' k:=Uu (by rw[lU,lU]) fun t=>
   agree t (fun i hi=>⟨fun h=>by simpa using hl i h,fun h=>hall i (by simpa using h)⟩) (fun i hi _=>(he i hi).symm) (fun i j hi hj=>hc.abW i j (hl i hi) (hl j hj) t)
  rw[F6 (k:=k) (fun i=>⟨hl i,hall i⟩),ea,hk]
  rw[show ops.size-k=0 from by omega] at hf
  rw[hk] at hf
  exact RG.Pv hc hmono 0 ops.size _ _ (by omega) (by omega) hf
 |succ fuel ih=>
  intro l env W hlen hnd hl hd hrec hleft zT hnil
  obtain⟨env',he,Zo,hfin⟩:=along (P:=P) hc hl hd hrec Dz
  have hes: ∀i∈l,env i=env' i:=fun i hi=>(he i hi).symm
  by_cases hfull:k<=l.length
  ·have hall:=all_in hnd hl hfull
   have hk:l.length=k:=by have:=Y0 hnd hl;omega
   have hf:=hfin W zT (fun j s hs hj=>RG.yS hc hl hd hes (hall j hj) (hleft j s hs (hall j hj)))
   have ea:jX ops env a0 l=pf ops a0 env' k:=Uu (by rw[lU,lU]) fun t=>
    agree t (fun i hi=>⟨fun h=>by simpa using hl i h,fun h=>hall i (by simpa using h)⟩) (fun i hi _=>hes i hi) (fun i j hi hj=>hc.abW i j (hl i hi) (hl j hj) t)
   rw[F6 (k:=k) (fun i=>⟨hl i,hall i⟩),ea]
   have e:fuel+1=ops.size-k:=by omega
   rw[e]
   exact RG.Pv hc hmono (ops.size-k) k _ _ (by have:=hc.kn;omega) (ai _) hf
  ·--one more of the first k comes up
   have hex: ∃i,i<k/\i∉l/\ ∀j,j<i->j∈l:=by
    have h0: ∃i,i<k/\i∉l:=Classical.byContradiction fun hno=>by
     have hall: ∀i,i<k->i∈l:=fun i hi=>Classical.byContradiction fun h=>hno ⟨i,hi,h⟩
     have:=List.Nodup.length_le_of_subset (l₁:=List.range k) (l₂:=l) List.nodup_range (fun x hx=>hall x (by simpa using hx))
     simp at this;omega
    obtain⟨i,hi,hil⟩:=h0
    induction i using Nat.strongRecOn with
    |_ i ihh=>
     by_cases hj: ∃j,j<i/\j∉l
     ·obtain⟨j,hji,hjl⟩:=hj
      exact ihh j hji (by omega) hjl
     ·exact⟨i,hi,hil,fun j hji=>Classical.byContradiction fun h=>hj ⟨j,hji,h⟩⟩
   refine⟨fun e=>?_,fun i hi=>?_⟩
   ·obtain⟨i,hi,hil,hbelow⟩:=hex
    have:i∈Region.ready .any ops (lst ops.size l):=RG.mem_ready.2 ⟨fJ hi hc.kn,hil,fun o ho e he hb=>by
     have:=hc.lt i o ho e he hb
     exact⟨hbelow _ this,by have:=hc.kn;omega⟩⟩
    rw[e] at this;cases this
   ·obtain⟨hin,hil,Zb⟩:=RG.mem_ready.1 hi
    obtain⟨o,ho⟩: ∃o,ops[i]? =some o:=⟨_,wL hin⟩
    have AZ: ∀j,kK ops j i=true->j≠i->j∈l:=fun j hj hne=>WY hd ho (fun e he hb=>(Zb o ho e he hb).1) hj hne
    have hik:i<k:=Classical.byContradiction fun hge=>by
     obtain⟨j,hj,hjl,_⟩:=hex
     exact hjl (AZ j (hc.tail i (by omega) hin j hj) (by omega))
    have hN:=Zo i o hik ho
    have hL:lg ops o (jX ops env a0 l) (pf ops a0 env' i):=by
     intro t ht
     refine agree t ?_ (fun j hj _=>hes j hj) (fun x y hx hy=>hc.abW x y (hl x hx) (hl y hy) t)
     intro j hd'
     by_cases hji:j=i
     ·subst hji;simp[hil]
     ·constructor
      ·intro hjl
       rcases hc.look i o hik ho t ht j (hl j hjl) hd' (fun e=>hji e.symm) with h|h
       ·simpa using h.1
       ·exact absurd (tV hd (fJ (hl j hjl) hc.kn) hjl h.2) hil
      ·intro hjr
       have aod:j<i:=by simpa using hjr
       rcases hc.look i o hik ho t ht j (by omega) hd' (fun e=>hji e.symm) with h|h
       ·exact AZ j h.2 hji
       ·omega
    have Gl:rf Ps ops R0 R1 m Ss W0 a0 env' i W:=by
     refine⟨?_,fun j s hs hj ha=>RG.yS hc hl hd hes (AZ j ha (by omega)) (hleft j s hs (AZ j ha (by omega))),fun hm j s hs hj ha=>
      BF hc hl hd hes (AZ j ha (by omega)) ((hnil (fun x hx=>by rw[hm] at hx;cases hx;exact hil)).2 j s hs (AZ j ha (by omega)))⟩
     unfold kQ
     by_cases hm:m=some i
     ·rw[aF hm];exact(hnil (fun x hx=>by rw[hm] at hx;cases hx;exact hil)).1
     ·rw[aj hm];exact zT
    have ho':nO ops i=o.dst:=yh ho
    have hnd':(l++[i]).Nodup:=by
     rw[List.nodup_append]
     refine⟨hnd,by simp,fun x hx y hy=>?_⟩
     have:y=i:=by simpa using hy
     subst this
     exact fun e=>hil (e▸hx)
    have hl': ∀x∈l++[i],x<k:=fun x hx=>by
     rcases iM.1 hx with h|h
     ·exact hl x h
     ·have:x=i:=by simpa using h
      omega
    have hd':Down ops (· ∈l++[i]):=by
     intro x ox hox hx e he hb
     rcases iM.1 hx with h|h
     ·exact og _ (hd x ox hox h e he hb)
     ·have:x=i:=by simpa using h
      subst this
      rw[ho] at hox;cases hox
      exact og _ (Zb o ho e he hb).1
    have hlen':(l++[i]).length+fuel=ops.size:=by simp;omega
    have close: ∀v W',(∀e:Nat->Value,(∀j,j<i->e j=env' j)->e i=v->Rec Ps P ops R0 R1 m Ss W0 a0 e i o)->
     (∀e:Nat->Value,(∀j,j∈l->e j=env' j)->(∀j,j<i->e j=env' j)->e i=v-> ∀j s,Ss.lookup j=some s->j∈l++[i]->RG.Left ops a0 e j s W')->R1 W0 W'->((∀x,m=some x->x∉l++[i])->R0 W0 W')->
     ((∀x,m=some x->x∉l++[i])-> ∀e:Nat->Value,(∀j,j∈l->e j=env' j)->(∀j,j<i->e j=env' j)->e i=v-> ∀j s,Ss.lookup j=some s->j∈l++[i]->uI Ps ops a0 e j W')->
     Any iQ ops Qn fuel ((lst ops.size l).setIfInBounds i true) ((jX ops env a0 l).put o.dst v) W':=by
     intro v W' hR hLf hE hE0 hLp
     have e1:jX ops (fun j=>if j=i then v else env' j) a0 (l++[i])=(jX ops env a0 l).put o.dst v:=by
      rw[lu,ho',aF rfl]
      congr 1
      exact Au fun j hj=>by
       have:j≠i:=fun e=>hil (e▸hj)
       rw[aj this];exact he j hj
     rw[<-e1, <-F5]
     have hag: ∀j∈l,env j=(fun j=>if j=i then v else env' j) j:=fun j hj=>by
      have:j≠i:=fun e=>hil (e▸hj)
      simp only[aj this];exact hes j hj
     refine ih (l++[i]) _ W' hlen' hnd' hl' hd' ?_ ?_ hE (fun hno=>⟨hE0 hno,hLp hno _ (fun j hj=>aj (fun(e:j=i)=>hil (by rw[<-e];exact hj))) (fun j hj=>aj (by omega)) (aF rfl)⟩)
     ·intro x hx ox hox
      rcases iM.1 hx with h|h
      ·exact aeA hc hl hd hag h hox (hrec x h ox hox)
      ·have:x=i:=by simpa using h
       subst this
       rw[ho] at hox;cases hox
       exact hR _ (fun j hj=>aj (by omega)) (aF rfl)
     ·exact hLf _ (fun j hj=>aj (fun(e:j=i)=>hil (by rw[<-e];exact hj))) (fun j hj=>aj (by omega)) (aF rfl)
    have old: ∀(e:Nat->Value),(∀j,j∈l->e j=env' j)-> ∀j s W',Ss.lookup j=some s->j∈l->kQ R0 R1 m j W W'->RG.Left ops a0 e j s W':=by
     intro e Ci j s W' hs hj hE
     have hNj: ∃oj,ops[j]? =some oj:=⟨_,wL (fJ (hl j hj) hc.kn)⟩
     obtain⟨oj,hoj⟩:=hNj
     have hst:=Zo j oj (hl j hj) hoj
     unfold Node at hst
     simp only[hs] at hst
     have h1:RG.Left ops a0 env' j s W:=RG.yS hc hl hd hes hj (hleft j s hs hj)
     refine RG.yS hc hl hd (fun x hx=>(Ci x hx).symm) hj ?_
     unfold RG.Left at h1⊢
     rw[rH hoj] at h1⊢
     exact hst.2.2.2.1 _ W W' h1 hE
    have afE:(∀x,m=some x->x∉l)-> ∀(e:Nat->Value),(∀j,j∈l->e j=env' j)-> ∀j s W',Ss.lookup j=some s->j∈l->R0 W W'->uI Ps ops a0 e j W':=by
     intro hno e Ci j s W' hs hj hE
     have hNj: ∃oj,ops[j]? =some oj:=⟨_,wL (fJ (hl j hj) hc.kn)⟩
     obtain⟨oj,hoj⟩:=hNj
     have hst:=Zo j oj (hl j hj) hoj
     unfold Node at hst
     simp only[hs] at hst
     have h1:uI Ps ops a0 env' j W:=BF hc hl hd hes hj ((hnil hno).2 j s hs hj)
     refine BF hc hl hd (fun x hx=>(Ci x hx).symm) hj ?_
     unfold uI at h1⊢
     rw[rH hoj] at h1⊢
     exact hst.2.2.2.2 _ W W' h1 hE
    unfold Node at hN
    cases hs:Ss.lookup i with
    |none=>
     simp only[hs] at hN
     have same: ∀v,v=env' i->((Region.wanted o (yielded ops (pf ops a0 env' i).tmps)=true/\ ∃W,rf Ps ops R0 R1 m Ss W0 a0 env' i W/\(execOp (pf ops a0 env' i).eval o).run P W= .ok (.value (env' i)) W)∨
      (Region.wanted o (yielded ops (pf ops a0 env' i).tmps)=false/\env' i=undef))->Any iQ ops Qn fuel ((lst ops.size l).setIfInBounds i true) ((jX ops env a0 l).put o.dst v) W:=by
      intro v hv hcase
      refine close v W ?_ ?_ zT ?_ ?_
      ·intro e Ci hei
       have hp:pf ops a0 e i=pf ops a0 env' i:=jR Ci
       unfold Rec
       simp only[hs]
       rw[hp,hei,hv]
       exact hcase.imp (fun x=>⟨x.1,by obtain⟨Wx,h1,h2⟩:=x.2;exact⟨Wx,rP (fun j hj=>(Ci j hj).symm) h1,h2⟩⟩) id
      ·intro e hel Ci hei j s hjs hj
       rcases iM.1 hj with h|h
       ·exact old e hel j s W hjs h (hR.abj j W)
       ·have:j=i:=by simpa using h
        subst this
        rw[hs] at hjs;cases hjs
      ·intro hno
       exact(hnil (fun x hx hxl=>hno x hx (og _ hxl))).1
      ·intro hno e hel Ci hei j s hjs hj
       rcases iM.1 hj with h|h
       ·exact afE (fun x hx hxl=>hno x hx (og _ hxl)) e hel j s W hjs h (hR.refl W)
       ·have:j=i:=by simpa using h
        subst this
        rw[hs] at hjs;cases hjs
     rcases hN with⟨hw,hrun⟩|⟨hw,hu⟩
     ·refine D7 i o _ _ W (fun v W'=>v=env' i/\W'=W) (lU env a0 l) ho (by rw[hL.wanted];exact hw) ?_ ?_
      ·unfold Does
       rw[hL.exec (hc.sel i o ho),hrun W Gl]
       exact⟨rfl,rfl⟩
      ·rintro v W' ⟨hv,rfl⟩
       exact same v hv (.inl ⟨hw,_,Gl,hrun _ Gl⟩)
     ·refine Oh i o _ _ W ho (by rw[hL.wanted];exact hw) ?_
      exact same undef hu.symm (.inr ⟨hw,hu⟩)
    |some s=>
     simp only[hs] at hN
     obtain⟨hw,_,hdo,hst⟩:=hN
     have agS:=hdo W Gl
     have agR:Does X P o (jX ops env a0 l).eval W (fun v W'=>s.pure (ny o (pf ops a0 env' i)) v/\s.world (ny o (pf ops a0 env' i)) v W'/\wU R0 R1 m i W W'/\Ps i (ny o (pf ops a0 env' i)) v W'):=by
      unfold Does at agS⊢
      rw[hL.exec (hc.sel i o ho)]
      exact agS
     refine D7 i o _ _ W _ (lU env a0 l) ho (by rw[hL.wanted];exact hw) agR ?_
     rintro v W' ⟨af9,hworld,hE,hpre⟩
     refine close v W' ?_ ?_ ?_ ?_ ?_
     ·intro e Ci hei
      have hp:pf ops a0 e i=pf ops a0 env' i:=jR Ci
      unfold Rec
      simp only[hs]
      rw[hp,hei]
      exact af9
     ·intro e hel Ci hei j s' hjs hj
      rcases iM.1 hj with h|h
      ·refine old e hel j s' W' hjs h ?_
       have hji:j≠i:=fun x=>hil (x▸h)
       unfold wU at hE
       unfold kQ
       by_cases hm:m=some i
       ·rw[aF hm] at hE
        rw[aj (by rw[hm];exact fun x=>hji (jy x).symm)]
        exact hE
       ·rw[aj hm] at hE
        split
        ·exact hE
        ·exact hR.sub hE
      ·have:j=i:=by simpa using h
       subst this
       rw[hs] at hjs;cases hjs
       unfold RG.Left
       rw[rH ho,jR Ci,hei]
       exact hworld
     ·refine hR.adh zT ?_
      unfold wU at hE
      split at hE
      ·exact hE
      ·exact hR.sub hE
     ·intro hno
      have hm:m≠some i:=fun hm=>hno i hm (by simp)
      unfold wU at hE
      rw[aj hm] at hE
      exact hR.adi (hnil (fun x hx hxl=>hno x hx (og _ hxl))).1 hE
     ·intro hno e hel Ci hei j s' hjs hj
      have hm:m≠some i:=fun hm=>hno i hm (by simp)
      unfold wU at hE
      rw[aj hm] at hE
      rcases iM.1 hj with h|h
      ·exact afE (fun x hx hxl=>hno x hx (og _ hxl)) e hel j s' W' hjs h hE
      ·have:j=i:=by simpa using h
       subst this
       unfold uI
       rw[rH ho,jR Ci,hei]
       exact hpre
end
theorem yQ {X:List PanicEntry->World->Prop} {iQ:Nat->(Act->World->Prop)->Act->World->Prop} {P:Program} {ops:Array Oper} {Qn:Act->World->Prop} {Ps:uy} {R0 R1:World->World->Prop} {m:Option Nat} {Ss:List (Nat×RG.Spec)} {W0 W:World} {a0:Act} {k:Nat}
 (hR:Hg R0 R1) (hc:chk ops k=true) (hmono: ∀i (K K':Act->World->Prop) a w,(∀a w,K a w->K' a w)->iQ i K a w->iQ i K' a w)
 (D7: ∀(i:Nat) (o:Oper) (K:Act->World->Prop) (a:Act) (W:World) (R:Value->World->Prop),a.defers=a0.defers->ops[i]? =some o->Region.wanted o (yielded ops a.tmps)=true->Does X P o a.eval W R->(∀v W',R v W'->K (a.put o.dst v) W')->iQ i K a W)
 (Oh: ∀(i:Nat) (o:Oper) (K:Act->World->Prop) (a:Act) (W:World),ops[i]? =some o->Region.wanted o (yielded ops a.tmps)=false->K (a.put o.dst undef) W->iQ i K a W)
 (hW:R0 W0 W)
 (Dz:iG X Ps P ops R0 R1 m Ss (Seq iQ Qn (List.range' k (ops.size-k))) W0 (ops.toList.take k) 0 a0 [] []):
 Any iQ ops Qn ops.size (Array.replicate ops.size false) a0 W:=
 acb hR (RG.GU hc) hmono D7 Oh Dz ops.size [] (fun _=>undef) W (by simp) List.nodup_nil (by simp) (fun i o _ h=>by cases h) (by simp) (by simp) (hR.sub hW) (fun _=>⟨hW,by simp⟩)
end Go.RX
namespace Go.RG
open Go.RowKit
theorem RZ {X:List PanicEntry->World->Prop} {P:Program} {o:Oper} {ρ:Operand->Value} {W:World} {R:Value->World->Prop} (h:Does P o ρ W R):RX.Does X P o ρ W R:=by
 unfold Does at h;unfold RX.Does
 generalize (execOp ρ o).run P W=r at*
 cases r with
 |ok x w'=>cases x <;>first|exact h|exact Calls.mono h fun _ _=> .inl
 |halt x w'=>exact h
theorem ajd {P:Program} {o:Oper} {ρ:Operand->Value} {W:World} {R:Value->World->Prop} (h:RX.Does (fun _ _=>False) P o ρ W R):Does P o ρ W R:=by
 unfold RX.Does at h;unfold Does
 generalize (execOp ρ o).run P W=r at*
 cases r with
 |ok x w'=>cases x <;>first|exact h|exact Calls.mono h fun _ _ h=>h.elim id fun⟨_,_,h⟩=>h.elim
 |halt x w'=>exact h
abbrev iG:=RX.iG (fun _ _=>False)
theorem yQ {iQ:Nat->(Act->World->Prop)->Act->World->Prop} {P:Program} {ops:Array Oper} {Qn:Act->World->Prop} {Ps:uy} {R0 R1:World->World->Prop} {m:Option Nat} {Ss:List (Nat×Spec)} {W0 W:World} {a0:Act} {k:Nat}
 (hR:Hg R0 R1) (hc:chk ops k=true) (hmono: ∀i (K K':Act->World->Prop) a w,(∀a w,K a w->K' a w)->iQ i K a w->iQ i K' a w)
 (D7: ∀(i:Nat) (o:Oper) (K:Act->World->Prop) (a:Act) (W:World) (R:Value->World->Prop),ops[i]? =some o->Region.wanted o (yielded ops a.tmps)=true->Does P o a.eval W R->(∀v W',R v W'->K (a.put o.dst v) W')->iQ i K a W)
 (Oh: ∀(i:Nat) (o:Oper) (K:Act->World->Prop) (a:Act) (W:World),ops[i]? =some o->Region.wanted o (yielded ops a.tmps)=false->K (a.put o.dst undef) W->iQ i K a W)
 (hW:R0 W0 W)
 (Dz:iG Ps P ops R0 R1 m Ss (Seq iQ Qn (List.range' k (ops.size-k))) W0 (ops.toList.take k) 0 a0 [] []):
 Any iQ ops Qn ops.size (Array.replicate ops.size false) a0 W:=
 RX.yQ hR hc hmono (fun i o K a W R _ ho hw hd hK=>D7 i o K a W R ho hw (ajd hd) hK) Oh hW Dz
theorem any_eq {P:Program} {ops:Array Oper} {Q:Exit->Act->World->Prop}: ∀(fuel:Nat) (l:Array Bool) (a:Act) (w:World),Any (wpOp P ops Q) ops (Q .normal) fuel l a w->wpAny P .any ops Q fuel l a w:=by
 intro fuel
 induction fuel with
 |zero=>exact fun l a w h=>h
 |succ fuel ih=>exact fun l a w h=>⟨h.1,fun i hi=>wpOp_mono (fun a w=>ih _ a w) (h.2 i hi)⟩
theorem seq_eq {P:Program} {ops:Array Oper} {Q:Exit->Act->World->Prop} (l:List Nat):Seq (wpOp P ops Q) (Q .normal) l=wpOps P ops Q l:=by
 induction l with
 |nil=>rfl
 |cons i l ih=>funext a w;rw[wpOps_cons, <-ih];rfl
theorem yP {P:Program} {o:Oper} {a:Act} {W:World} {R:Value->World->Prop} {K:Act->World->Prop} {Q:Exit->Act->World->Prop} (h:Does P o a.eval W R) (hK: ∀v W',R v W'->K (a.put o.dst v) W'):o.wp P a W K Q:=by
 unfold Does at h
 unfold Oper.wp
 generalize (execOp a.eval o).run P W=r at*
 cases r with
 |ok x w'=>
  cases x <;>simp only[Oper.upon] at h⊢ <;>first|exact hK _ _ h|exact h.elim|skip
  exact Calls.mono h (fun e w'' ⟨v,he,hr⟩=>by subst he;exact hK _ _ hr)
 |halt x w'=>exact h.elim
end Go.RG
namespace Go.RX
open Go.RowKit Go.RG
theorem yP {X:List PanicEntry->World->Prop} {P:Program} {o:Oper} {a:Act} {W:World} {R:Value->World->Prop} {K:Act->World->Prop} {Q:Exit->Act->World->Prop} (h:Does X P o a.eval W R) (hK: ∀v W',R v W'->K (a.put o.dst v) W') (hX: ∀ps W,X ps W->Q (.panic ps) a W):o.wp P a W K Q:=by
 unfold Does at h
 unfold Oper.wp
 generalize (execOp a.eval o).run P W=r at*
 cases r with
 |ok x w'=>
  cases x <;>simp only[Oper.upon] at h⊢ <;>first|exact hK _ _ h|exact h.elim|skip
  exact Calls.mono h (fun e w'' h=>by
   rcases h with⟨v,he,hr⟩|⟨ps,he,hx⟩
   ·subst he;exact hK _ _ hr
   ·subst he;exact hX _ _ hx)
 |halt x w'=>exact h.elim
theorem kN {X:List PanicEntry->World->Prop} {R0 R1:World->World->Prop} (hR:Hg R0 R1) {Ps:uy} {P:Program} {id:Nat} {ops:List Oper} {Q:Exit->Act->World->Prop} {a:Act} {w:World} (hdr:R0 w w.drew) (k:Nat) (m:Option Nat) (Ss:List (Nat×RG.Spec))
 (hX: ∀ps a1 W,a1.defers=a.defers->X ps W->Q (.panic ps) a1 W) (hm:P.follows .mixedOrders=true) (hc:chk ops.toArray k=true)
 (h:iG X Ps P ops.toArray R0 R1 m Ss (fun a w=>wpList P ops.toArray Q (ops.drop k) a w) w (ops.take k) 0 a [] []):(Code.region id ops.toArray true).wp P Q a w:=by
 refine wp_region_any hm (any_eq _ _ _ _ ?_)
 refine yQ (X:=X) (Ps:=Ps) (P:=P) (R0:=R0) (R1:=R1) (m:=m) (Ss:=Ss) (W0:=w) hR hc (fun i K K' a w h hs=>wpOp_mono h hs) ?_ ?_ hdr ?_
 ·intro i o K a W R hdf ho hw hd hK
  unfold wpOp
  simp only[ho]
  rw[aF hw]
  exact .inl (yP hd hK (fun ps W=>hX ps _ W hdf))
 ·intro i o K a W ho hw hK
  unfold wpOp
  simp only[ho]
  rw[aj (by rw[hw];simp)]
  exact hK
 ·have e:(fun a w=>wpList P ops.toArray Q (ops.drop k) a w)=Seq (wpOp P ops.toArray Q) (Q .normal) (List.range' k (ops.toArray.size-k)):=by
   funext a w
   rw[seq_eq]
   have hkn:=(RG.GU hc).kn
   have hlen:ops.toArray.size-k=(ops.drop k).length:=by simp
   rw[hlen,wpOps_eq_wpList (ops.drop k) k (fun j=>by simp)]
  rw[<-e]
  exact h
theorem gy (X:List PanicEntry->World->Prop) {P:Program} {id:Nat} {ops:List Oper} {Q:Exit->Act->World->Prop} {a:Act} {w:World} (k:Nat) (Ms:List Nat) (m:Option Nat) (Ss:List (Nat×RG.Spec))
 (hX: ∀ps a1 W,a1.defers=a.defers->X ps W->Q (.panic ps) a1 W) (hm:P.follows .mixedOrders=true) (hc:chk ops.toArray k=true)
 (h:iG X NI P ops.toArray (Ext []) (Ext Ms) m Ss (fun a w=>wpList P ops.toArray Q (ops.drop k) a w) w (ops.take k) 0 a [] []):(Code.region id ops.toArray true).wp P Q a w:=
 kN (Aq Ms) ((Ext.refl [] w).drew) k m Ss hX hm hc h
end Go.RX
namespace Go.RG
open Go.RowKit
theorem kN {R0 R1:World->World->Prop} (hR:Hg R0 R1) {Ps:uy} {P:Program} {id:Nat} {ops:List Oper} {Q:Exit->Act->World->Prop} {a:Act} {w:World} (hdr:R0 w w.drew) (k:Nat) (m:Option Nat) (Ss:List (Nat×Spec))
 (hm:P.follows .mixedOrders=true) (hc:chk ops.toArray k=true)
 (h:iG Ps P ops.toArray R0 R1 m Ss (fun a w=>wpList P ops.toArray Q (ops.drop k) a w) w (ops.take k) 0 a [] []):(Code.region id ops.toArray true).wp P Q a w:=
 RX.kN hR hdr k m Ss (fun _ _ _ _ h=>h.elim) hm hc h
theorem gy {P:Program} {id:Nat} {ops:List Oper} {Q:Exit->Act->World->Prop} {a:Act} {w:World} (k:Nat) (Ms:List Nat) (m:Option Nat) (Ss:List (Nat×Spec))
 (hm:P.follows .mixedOrders=true) (hc:chk ops.toArray k=true)
 (h:iG NI P ops.toArray (Ext []) (Ext Ms) m Ss (fun a w=>wpList P ops.toArray Q (ops.drop k) a w) w (ops.take k) 0 a [] []):(Code.region id ops.toArray true).wp P Q a w:=
 kN (Aq Ms) ((Ext.refl [] w).drew) k m Ss hm hc h
structure uz (B:Nat) (Ms:List Nat) (w w':World):Prop where
 os:w'.os=w.os
 tape:w'.tape=w.tape
 output:w'.output=w.output
 size:w.heap.size<=w'.heap.size
 block: ∀(k:Nat),k<w.heap.size->k<B->k∉Ms->w'.heap[k]? =w.heap[k]?
theorem uz.vY {B:Nat} {Ms:List Nat} {w w':World} (h:Ext [] w w'):uz B Ms w w':=
 ⟨h.os,h.tape,h.output,h.size,fun k hk _ _=>h.block k hk (by simp)⟩
theorem uz.trans {B:Nat} {Ms:List Nat} {a b c:World} (h:uz B Ms a b) (k:uz B Ms b c):uz B Ms a c:=
 ⟨k.os.trans h.os,k.tape.trans h.tape,k.output.trans h.output,iR h.size k.size,
   fun i hi hb hm=>(k.block i (fJ hi h.size) hb hm).trans (h.block i hi hb hm)⟩
theorem U8 (B:Nat) (Ms:List Nat):Hg (Ext []) (uz B Ms):=⟨Ext.refl [],Ext.trans,uz.trans,uz.vY⟩
theorem qA {P:Program} {id:Nat} {ops:List Oper} {Q:Exit->Act->World->Prop} {a:Act} {w:World} (k:Nat) (Ms:List Nat) (m:Option Nat) (Ss:List (Nat×Spec)) (Ps:uy)
 (hm:P.follows .mixedOrders=true) (hc:chk ops.toArray k=true)
 (h:iG Ps P ops.toArray (Ext []) (uz w.heap.size Ms) m Ss (fun a w=>wpList P ops.toArray Q (ops.drop k) a w) w (ops.take k) 0 a [] []):(Code.region id ops.toArray true).wp P Q a w:=
 kN (U8 _ _) ((Ext.refl [] w).drew) k m Ss hm hc h
class Kept (R1:World->World->Prop) (Ms:outParam (List Nat)) (W0:World):Prop where
 nil: ∀{a b},Ext [] a b->R1 a b
 ext: ∀{W},R1 W0 W->Ext Ms W0 W
instance (Ms:List Nat) (W0:World):Kept (Ext Ms) Ms W0:=⟨Ext.nil,id⟩
instance (Ms:List Nat) (W0:World):Kept (uz W0.heap.size Ms) Ms W0:=⟨uz.vY,fun h=>⟨h.os,h.tape,h.output,h.size,fun k hk hm=>h.block k hk hk hm⟩⟩
section
variable {P : Program} {ops : Array Oper} {R1 : World → World → Prop} {Ms : List Nat} {m : Option Nat} {Ss : List (Nat × Spec)} {Fin : Act → World → Prop} {W0 : World} {o : Oper} {rest : List Oper} {i : Nat} {a : Act} {F G : Facts} {Ps : uy}
theorem Tj.ext [Kept R1 Ms W0] {W:World} (h:Tj ops (Ext []) R1 m W0 F G i W):Ext Ms W0 W:=by
 have h1:=h.1
 unfold kQ at h1
 split at h1
 ·exact h1.nil
 ·exact Kept.ext h1
theorem KL [Kept R1 Ms W0] {W W':World} (h:Ext [] W W'):wU (Ext []) R1 m i W W':=by
 unfold wU
 split
 ·exact Kept.nil (R1:=R1) (W0:=W0) h
 ·exact h
def Spec.block (B:Nat) (cs:Array Value) (t:TypeId):Spec:=
 ⟨fun _ v=> ∃b:Nat,v= .pointer (some ⟨b,0,none⟩),fun _ v W=> ∃b:Nat,v= .pointer (some ⟨b,0,none⟩)/\B<=b/\W.heap[b]? =some (.cells cs t (0,0))⟩
def Spec.slice (B:Nat) (cs:Array Value) (t:TypeId) (n:Nat):Spec:=
 ⟨fun _ v=> ∃b:Nat,v= .slice (some ⟨b,0,none⟩) n n,fun _ v W=> ∃b:Nat,v= .slice (some ⟨b,0,none⟩) n n/\B<=b/\W.heap[b]? =some (.cells cs t (0,0))⟩
end
end Go.RG
namespace Go.RX
open Go.RowKit Go.RG
section
variable {X : List PanicEntry → World → Prop} {P : Program} {ops : Array Oper} {R1 : World → World → Prop} {Ms : List Nat} {m : Option Nat} {Ss : List (Nat × RG.Spec)} {Fin : Act → World → Prop} {W0 : World} {o : Oper} {rest : List Oper} {i : Nat} {a : Act} {F G : Facts} {Ps : uy}
theorem fZ [Kept R1 Ms W0] (hs:Ss.lookup i=none) (v:Value) (hw:Region.wanted o (yielded ops a.tmps)=true)
 (hr: ∀W:World,(∀b off,b<W0.heap.size->b∉Ms->W.cell? ⟨b,off,none⟩=W0.cell? ⟨b,off,none⟩)->(execOp a.eval o).run P W= .ok (.value v) W)
 (ht:iG X Ps P ops (Ext []) R1 m Ss Fin W0 rest (i+1) (a.put o.dst v) F G):iG X Ps P ops (Ext []) R1 m Ss Fin W0 (o::rest) i a F G:=by
 unfold iG
 simp only[hs]
 exact⟨v,.inl ⟨hw,fun W hW=>hr W fun b off hb hm=>hW.ext.cell b off hb hm⟩,ht⟩
theorem iE [Kept R1 Ms W0] (hs:Ss.lookup i=none) (v:Value) (hw:Region.wanted o (yielded ops a.tmps)=true)
 (hr: ∀W:World,Ext Ms W0 W->(∀f∈F,kK ops f.1 i=true->f.2 W)->(execOp a.eval o).run P W= .ok (.value v) W)
 (ht:iG X Ps P ops (Ext []) R1 m Ss Fin W0 rest (i+1) (a.put o.dst v) F G):iG X Ps P ops (Ext []) R1 m Ss Fin W0 (o::rest) i a F G:=by
 unfold iG
 simp only[hs]
 exact⟨v,.inl ⟨hw,fun W hW=>hr W hW.ext hW.2.1⟩,ht⟩
theorem BP (hs:Ss.lookup i=none) (hw:Region.wanted o (yielded ops a.tmps)=false)
 (ht:iG X Ps P ops (Ext []) R1 m Ss Fin W0 rest (i+1) (a.put o.dst undef) F G):iG X Ps P ops (Ext []) R1 m Ss Fin W0 (o::rest) i a F G:=by
 unfold iG
 simp only[hs]
 exact⟨undef,.inr ⟨hw,rfl⟩,ht⟩
theorem bG (s:RG.Spec) (hs:Ss.lookup i=some s) (hw:Region.wanted o (yielded ops a.tmps)=true) (hex: ∃v,s.pure (ny o a) v)
 (hdo: ∀W:World,kQ (Ext []) R1 m i W0 W->(∀f∈F,kK ops f.1 i=true->f.2 W)->Does X P o a.eval W (fun v W'=>s.pure (ny o a) v/\s.world (ny o a) v W'/\wU (Ext []) R1 m i W W'))
 (hst: ∀v W W',s.world (ny o a) v W->kQ (Ext []) R1 m i W W'->s.world (ny o a) v W')
 (ht: ∀v,s.pure (ny o a) v->iG X Ps P ops (Ext []) R1 m Ss Fin W0 rest (i+1) (a.put o.dst v) ((i,s.world (ny o a) v)::F) ((i,Ps i (ny o a) v)::G)) (hps: ∀x v W,Ps i x v W:=by intro _ _ _;exact True.intro):iG X Ps P ops (Ext []) R1 m Ss Fin W0 (o::rest) i a F G:=by
 unfold iG
 simp only[hs]
 refine⟨hw,hex,fun W hW=>?_,⟨hst,fun v' _ W' _ _=>hps _ _ _⟩,ht⟩
 have:=hdo W hW.1 hW.2.1
 unfold Does at this⊢
 split at this
 ·exact⟨this.1,this.2.1,this.2.2,hps _ _ _⟩
 ·exact⟨this.1,this.2.1,this.2.2,hps _ _ _⟩
 ·exact this.mono fun e w' h=>h.imp (fun⟨v,h1,h2,h3,h4⟩=>⟨v,h1,h2,h3,h4,hps _ _ _⟩) id
 ·exact this.elim
theorem dB {ρ:Operand->Value} {W:World} {R:Value->World->Prop} (f:FuncId) (args:Array Value) (he:(execOp ρ o).run P W= .ok (.enter f args) W)
 (h:Calls P f args W (fun e W'=>(∃v,e= .returned v/\R v W')∨ ∃ps,e= .panicked ps/\X ps W')):Does X P o ρ W R:=by
 unfold Does;rw[he];exact h
theorem jg {ρ:Operand->Value} {W W':World} {R:Value->World->Prop} (v:Value) (he:(execOp ρ o).run P W= .ok (.value v) W') (h:R v W'):Does X P o ρ W R:=by
 unfold Does;rw[he];exact h
theorem jQ (B:Nat) (cs:Array Value) (t:TypeId) (hs:Ss.lookup i=some (RG.Spec.block B cs t)) (hB:B<=W0.heap.size) (hw:Region.wanted o (yielded ops a.tmps)=true) (hMs: ∀x∈Ms,x<B) (hmi:m≠some i)
 (he: ∀W:World,(∀b off,b<W0.heap.size->b∉Ms->W.cell? ⟨b,off,none⟩=W0.cell? ⟨b,off,none⟩)->(execOp a.eval o).run P W= .ok (.value (.pointer (some ⟨W.heap.size,0,none⟩))) (W.alloc (.cells cs t)))
 (ht: ∀b:Nat,iG X Ps P ops (Ext []) (Ext Ms) m Ss Fin W0 rest (i+1) (a.put o.dst (.pointer (some ⟨b,0,none⟩))) ((i,fun W=> ∃c:Nat,Value.pointer (some ⟨b,0,none⟩)= .pointer (some ⟨c,0,none⟩)/\B<=c/\W.heap[c]? =some (.cells cs t (0,0)))::F) ((i,Ps i (ny o a) (.pointer (some ⟨b,0,none⟩)))::G)) (hps: ∀x v W,Ps i x v W:=by intro _ _ _;exact True.intro):
 iG X Ps P ops (Ext []) (Ext Ms) m Ss Fin W0 (o::rest) i a F G:=by
 refine bG _ hs hw ⟨.pointer (some ⟨0,0,none⟩),0,rfl⟩ ?_ ?_ ?_ ?_
 ·intro W hW _
  have hW':Ext Ms W0 W:=by
   unfold kQ at hW
   rw[aj hmi] at hW
   exact hW
  refine jg _ (he W fun b off hb hm=>hW'.cell b off hb hm) ⟨⟨_,rfl⟩,⟨_,rfl,iR hB hW'.size,heap_alloc_new W _⟩,KL (R1:=Ext Ms) (W0:=W0) (Ext.aA ?_)⟩
  exact(aH _ _).alloc (ai _) _
 ·rintro v W W' ⟨b,hb,hle,hc⟩ hE
  unfold kQ at hE
  rw[aj hmi] at hE
  exact⟨b,hb,hle,(hE.block b (aS.1 hc).1 (fun h=>by have:=hMs b h;omega)).trans hc⟩
 ·rintro v ⟨b,rfl⟩
  exact ht b
 ·exact hps
theorem dX (B:Nat) (cs:Array Value) (t:TypeId) (n:Nat) (hs:Ss.lookup i=some (RG.Spec.slice B cs t n)) (hB:B<=W0.heap.size) (hw:Region.wanted o (yielded ops a.tmps)=true) (hMs: ∀x∈Ms,x<B) (hmi:m≠some i)
 (he: ∀W:World,(∀b off,b<W0.heap.size->b∉Ms->W.cell? ⟨b,off,none⟩=W0.cell? ⟨b,off,none⟩)->(execOp a.eval o).run P W= .ok (.value (.slice (some ⟨W.heap.size,0,none⟩) n n)) (W.alloc (.cells cs t)))
 (ht: ∀b:Nat,iG X Ps P ops (Ext []) (Ext Ms) m Ss Fin W0 rest (i+1) (a.put o.dst (.slice (some ⟨b,0,none⟩) n n)) ((i,fun W=> ∃c:Nat,Value.slice (some ⟨b,0,none⟩) n n= .slice (some ⟨c,0,none⟩) n n/\B<=c/\W.heap[c]? =some (.cells cs t (0,0)))::F) ((i,Ps i (ny o a) (.slice (some ⟨b,0,none⟩) n n))::G)) (hps: ∀x v W,Ps i x v W:=by intro _ _ _;exact True.intro):
 iG X Ps P ops (Ext []) (Ext Ms) m Ss Fin W0 (o::rest) i a F G:=by
 refine bG _ hs hw ⟨.slice (some ⟨0,0,none⟩) n n,0,rfl⟩ ?_ ?_ ?_ ?_
 ·intro W hW _
  have hW':Ext Ms W0 W:=by
   unfold kQ at hW
   rw[aj hmi] at hW
   exact hW
  refine jg _ (he W fun b off hb hm=>hW'.cell b off hb hm) ⟨⟨_,rfl⟩,⟨_,rfl,iR hB hW'.size,heap_alloc_new W _⟩,KL (R1:=Ext Ms) (W0:=W0) (Ext.aA ?_)⟩
  exact(aH _ _).alloc (ai _) _
 ·rintro v W W' ⟨b,hb,hle,hc⟩ hE
  unfold kQ at hE
  rw[aj hmi] at hE
  exact⟨b,hb,hle,(hE.block b (aS.1 hc).1 (fun h=>by have:=hMs b h;omega)).trans hc⟩
 ·rintro v ⟨b,rfl⟩
  exact ht b
 ·exact hps
end
section
variable {X : List PanicEntry → World → Prop} {P : Program} {ops : Array Oper} {R1 : World → World → Prop} {Ms : List Nat} {m : Option Nat} {Ss : List (Nat × RG.Spec)} {Fin : Act → World → Prop} {W0 : World} {o : Oper} {rest : List Oper} {i : Nat} {a : Act} {F G : Facts} {Ps : uy}
theorem zd [Kept R1 Ms W0] {v:Value} (ht:iG X Ps P ops (Ext []) R1 m Ss Fin W0 rest (i+1) (a.put o.dst v) F G) (hs:Ss.lookup i=none:=by rfl) (hw:Region.wanted o (yielded ops a.tmps)=true:=by rfl)
 (hr: ∀W:World,(∀b off,b<W0.heap.size->b∉Ms->W.cell? ⟨b,off,none⟩=W0.cell? ⟨b,off,none⟩)->(execOp a.eval o).run P W= .ok (.value v) W:=by
   intro W hW;go_simp;(try simp(disch:=omega) only[IntWalk.i64_in,Int.tdiv_eq_ediv_of_nonneg]);try rfl):iG X Ps P ops (Ext []) R1 m Ss Fin W0 (o::rest) i a F G:=
 fZ hs v hw hr ht
end
end Go.RX
namespace Go.RG
open Go.RowKit
section
variable {P : Program} {ops : Array Oper} {R1 : World → World → Prop} {Ms : List Nat} {m : Option Nat} {Ss : List (Nat × Spec)} {Fin : Act → World → Prop} {W0 : World} {o : Oper} {rest : List Oper} {i : Nat} {a : Act} {F G : Facts} {Ps : uy}
abbrev fZ:= @RX.fZ fun _ _=>False
abbrev iE:= @RX.iE fun _ _=>False
abbrev BP:= @RX.BP fun _ _=>False
def Spec.val (v:Value):Spec:=⟨fun _ x=>x=v,fun _ _ _=>True⟩
theorem eu [Kept R1 Ms W0] (v:Value) (hs:Ss.lookup i=some (Spec.val v)) (hw:Region.wanted o (yielded ops a.tmps)=true) (f:FuncId) (args:Array Value)
 (he: ∀W:World,(∀b off,b<W0.heap.size->b∉Ms->W.cell? ⟨b,off,none⟩=W0.cell? ⟨b,off,none⟩)->(execOp a.eval o).run P W= .ok (.enter f args) W)
 (hcall: ∀W:World,Ext Ms W0 W->(∀f∈F,kK ops f.1 i=true->f.2 W)->Calls P f args W (fun e W'=>e= .returned v/\Below W.heap.size W W'))
 (ht:iG Ps P ops (Ext []) R1 m Ss Fin W0 rest (i+1) (a.put o.dst v) F G) (hps: ∀x v W,Ps i x v W:=by intro _ _ _;exact True.intro):iG Ps P ops (Ext []) R1 m Ss Fin W0 (o::rest) i a F G:=by
 have mono: ∀(rest:List Oper) (i:Nat) (a:Act) (F F' G G':Facts),(∀f,f∈F'->f∈F∨ ∀W,f.2 W)->(∀f,f∈F->f∈F')->(∀f,f∈G->f∈G')->iG Ps P ops (Ext []) R1 m Ss Fin W0 rest i a F G->iG Ps P ops (Ext []) R1 m Ss Fin W0 rest i a F' G':=by
  intro rest
  induction rest with
  |nil=>
   intro i a F F' G G' h1 h2 h3 h W hW hF
   exact h W hW (fun f hf=>hF f (h2 f hf))
  |cons o rest ih=>
   intro i a F F' G G' h1 h2 h3 h
   have Gl: ∀W,Tj ops (Ext []) R1 m W0 F' G' i W->Tj ops (Ext []) R1 m W0 F G i W:=fun W hW=>⟨hW.1,fun f hf ha=>hW.2.1 f (h2 f hf) ha,fun hm f hf ha=>hW.2.2 hm f (h3 f hf) ha⟩
   have hcons: ∀(x:Nat×(World->Prop)) (A B:Facts),(∀f,f∈A->f∈B)-> ∀f,f∈x::A->f∈x::B:=by
    intro x A B hAB f hf
    rcases ig.1 hf with rfl|hf
    ·simp
    ·simp[hAB f hf]
   unfold iG RX.iG at h⊢
   cases hs:Ss.lookup i with
   |none=>
    simp only[hs] at h⊢
    obtain⟨v,hv,ht⟩:=h
    exact⟨v,hv.imp (fun x=>⟨x.1,fun W hW=>x.2 W (Gl W hW)⟩) id,ih _ _ _ _ _ _ h1 h2 h3 ht⟩
   |some s=>
    simp only[hs] at h⊢
    obtain⟨x1,x2,x3,x4,x5⟩:=h
    refine⟨x1,x2,fun W hW=>x3 W (Gl W hW),x4,fun v hv=>ih _ _ _ _ _ _ ?_ (hcons _ _ _ h2) (hcons _ _ _ h3) (x5 v hv)⟩
    intro f hf
    rcases ig.1 hf with rfl|hf
    ·exact .inl (by simp)
    ·exact(h1 f hf).imp (fun h=>by simp[h]) id
 unfold iG RX.iG
 simp only[hs]
 refine⟨hw,⟨v,rfl⟩,fun W hW=>?_,⟨fun _ _ _ _ _=>trivial,fun v' _ W' _ _=>hps _ _ _⟩,fun v' hv=>?_⟩
 ·refine RZ ?_
  unfold Does
  rw[he W (fun b off hb hm=>hW.ext.cell b off hb hm)]
  exact(hcall W hW.ext hW.2.1).mono fun e W' ⟨h1,h2⟩=>⟨v,h1,rfl,trivial,KL (R1:=R1) (W0:=W0) (Ext.aA h2),hps _ _ _⟩
 ·have:v'=v:=hv
  subst this
  refine mono _ _ _ _ _ _ _ ?_ ?_ ?_ ht
  ·intro f hf
   rcases ig.1 hf with rfl|hf
   ·exact .inr (fun _=>trivial)
   ·exact .inl hf
  ·intro f hf
   simp[hf]
  ·intro f hf
   simp[hf]
theorem bG (s:Spec) (hs:Ss.lookup i=some s) (hw:Region.wanted o (yielded ops a.tmps)=true) (hex: ∃v,s.pure (ny o a) v)
 (hdo: ∀W:World,kQ (Ext []) R1 m i W0 W->(∀f∈F,kK ops f.1 i=true->f.2 W)->Does P o a.eval W (fun v W'=>s.pure (ny o a) v/\s.world (ny o a) v W'/\wU (Ext []) R1 m i W W'))
 (hst: ∀v W W',s.world (ny o a) v W->kQ (Ext []) R1 m i W W'->s.world (ny o a) v W')
 (ht: ∀v,s.pure (ny o a) v->iG Ps P ops (Ext []) R1 m Ss Fin W0 rest (i+1) (a.put o.dst v) ((i,s.world (ny o a) v)::F) ((i,Ps i (ny o a) v)::G)) (hps: ∀x v W,Ps i x v W:=by intro _ _ _;exact True.intro):iG Ps P ops (Ext []) R1 m Ss Fin W0 (o::rest) i a F G:=
 RX.bG s hs hw hex (fun W a b=>RZ (hdo W a b)) hst ht hps
theorem kP (s:Spec) (hs:Ss.lookup i=some s) (hw:Region.wanted o (yielded ops a.tmps)=true) (hex: ∃v,s.pure (ny o a) v)
 (hdo: ∀W:World,kQ (Ext []) R1 m i W0 W->(∀f∈F,kK ops f.1 i=true->f.2 W)->(m=some i-> ∀g∈G,kK ops g.1 i=true->g.2 W)->
   Does P o a.eval W (fun v W'=>s.pure (ny o a) v/\s.world (ny o a) v W'/\wU (Ext []) R1 m i W W'/\Ps i (ny o a) v W'))
 (hst: ∀v W W',s.world (ny o a) v W->kQ (Ext []) R1 m i W W'->s.world (ny o a) v W') (hsp: ∀v W W',Ps i (ny o a) v W->Ext [] W W'->Ps i (ny o a) v W')
 (ht: ∀v,s.pure (ny o a) v->iG Ps P ops (Ext []) R1 m Ss Fin W0 rest (i+1) (a.put o.dst v) ((i,s.world (ny o a) v)::F) ((i,Ps i (ny o a) v)::G)):iG Ps P ops (Ext []) R1 m Ss Fin W0 (o::rest) i a F G:=by
 unfold iG RX.iG
 simp only[hs]
 exact⟨hw,hex,fun W hW=>RZ (hdo W hW.1 hW.2.1 hW.2.2),⟨hst,hsp⟩,ht⟩
theorem dB {ρ:Operand->Value} {W:World} {R:Value->World->Prop} (f:FuncId) (args:Array Value) (he:(execOp ρ o).run P W= .ok (.enter f args) W)
 (h:Calls P f args W (fun e W'=> ∃v,e= .returned v/\R v W')):Does P o ρ W R:=by
 unfold Does;rw[he];exact h
theorem jg {ρ:Operand->Value} {W W':World} {R:Value->World->Prop} (v:Value) (he:(execOp ρ o).run P W= .ok (.value v) W') (h:R v W'):Does P o ρ W R:=by
 unfold Does;rw[he];exact h
abbrev jQ:= @RX.jQ fun _ _=>False
abbrev dX:= @RX.dX fun _ _=>False
end
section
variable {P : Program} {ops : Array Oper} {R1 : World → World → Prop} {Ms : List Nat} {m : Option Nat} {Ss : List (Nat × Spec)} {Fin : Act → World → Prop} {W0 : World} {o : Oper} {rest : List Oper} {i : Nat} {a : Act} {F G : Facts} {Ps : uy}
theorem zd [Kept R1 Ms W0] {v:Value} (ht:iG Ps P ops (Ext []) R1 m Ss Fin W0 rest (i+1) (a.put o.dst v) F G) (hs:Ss.lookup i=none:=by rfl) (hw:Region.wanted o (yielded ops a.tmps)=true:=by rfl)
 (hr: ∀W:World,(∀b off,b<W0.heap.size->b∉Ms->W.cell? ⟨b,off,none⟩=W0.cell? ⟨b,off,none⟩)->(execOp a.eval o).run P W= .ok (.value v) W:=by
   intro W hW;go_simp;(try simp(disch:=omega) only[IntWalk.i64_in,Int.tdiv_eq_ediv_of_nonneg]);try rfl):iG Ps P ops (Ext []) R1 m Ss Fin W0 (o::rest) i a F G:=
 fZ hs v hw hr ht
theorem zn [Kept R1 Ms W0] {v:Value} (ht:iG Ps P ops (Ext []) R1 m Ss Fin W0 rest (i+1) (a.put o.dst v) F G) (hs:Ss.lookup i=none:=by rfl) (hw:Region.wanted o (yielded ops a.tmps)=true:=by rfl)
 (hr: ∀W:World,(∀b off,b<W0.heap.size->b∉Ms->W.cell? ⟨b,off,none⟩=W0.cell? ⟨b,off,none⟩)->(execOp a.eval o).run P W= .ok (.value v) W:=by
   intro W hW;go_simp;(try simp(disch:=omega) only[IntWalk.i64_in]);try rfl):iG Ps P ops (Ext []) R1 m Ss Fin W0 (o::rest) i a F G:=
 fZ hs v hw hr ht
theorem zk (ht:iG Ps P ops (Ext []) R1 m Ss Fin W0 rest (i+1) (a.put o.dst undef) F G) (hs:Ss.lookup i=none:=by rfl) (hw:Region.wanted o (yielded ops a.tmps)=false:=by rfl):iG Ps P ops (Ext []) R1 m Ss Fin W0 (o::rest) i a F G:=
 BP hs hw ht
theorem zv [Kept R1 Ms W0] {v:Value} (f:FuncId) {args:Array Value} (hs:Ss.lookup i=some (Spec.val v):=by rfl) (hw:Region.wanted o (yielded ops a.tmps)=true:=by rfl)
 (he: ∀W:World,(∀b off,b<W0.heap.size->b∉Ms->W.cell? ⟨b,off,none⟩=W0.cell? ⟨b,off,none⟩)->(execOp a.eval o).run P W= .ok (.enter f args) W:=by
   intro W hW;go_simp;(try simp(disch:=omega) only[IntWalk.i64_in,Int.tdiv_eq_ediv_of_nonneg]);try rfl)
 (h: ∀W:World,Ext Ms W0 W->(∀f∈F,kK ops f.1 i=true->f.2 W)->Calls P f args W (fun e W'=>e= .returned v/\Below W.heap.size W W'))
 (t:iG Ps P ops (Ext []) R1 m Ss Fin W0 rest (i+1) (a.put o.dst v) F G) (hps: ∀x v W,Ps i x v W:=by intro _ _ _;exact True.intro):iG Ps P ops (Ext []) R1 m Ss Fin W0 (o::rest) i a F G:=
 eu v hs hw f args he h t hps
theorem zw [Kept R1 Ms W0] {v:Value} (f:FuncId) {args:Array Value} (hs:Ss.lookup i=some (Spec.val v):=by rfl) (hw:Region.wanted o (yielded ops a.tmps)=true:=by rfl)
 (he: ∀W:World,(∀b off,b<W0.heap.size->b∉Ms->W.cell? ⟨b,off,none⟩=W0.cell? ⟨b,off,none⟩)->(execOp a.eval o).run P W= .ok (.enter f args) W:=by
   intro W hW;go_simp;try rfl)
 (h: ∀W:World,Ext Ms W0 W->(∀f∈F,kK ops f.1 i=true->f.2 W)->Calls P f args W (fun e W'=>e= .returned v/\Below W.heap.size W W'))
 (t:iG Ps P ops (Ext []) R1 m Ss Fin W0 rest (i+1) (a.put o.dst v) F G) (hps: ∀x v W,Ps i x v W:=by intro _ _ _;exact True.intro):iG Ps P ops (Ext []) R1 m Ss Fin W0 (o::rest) i a F G:=
 eu v hs hw f args he h t hps
theorem zg {P:Program} {id:Nat} {ops:List Oper} {Q:Exit->Act->World->Prop} {a:Act} {w:World} (k:Nat) (Ms:List Nat) (m:Option Nat) (Ss:List (Nat×Spec))
 (h:iG NI P ops.toArray (Ext []) (Ext Ms) m Ss (fun a w=>wpList P ops.toArray Q (ops.drop k) a w) w (ops.take k) 0 a [] [])
 (hm:P.follows .mixedOrders=true:=by as_aux_lemma=>kernel_rfl) (hc:chk ops.toArray k=true:=by as_aux_lemma=>kernel_rfl):(Code.region id ops.toArray true).wp P Q a w:=
 gy k Ms m Ss hm hc h
end
end Go.RG
namespace Go
theorem zp:(∀(a:Act) (d:Tmp) (v:Value),a.put (some d) v={a with tmps:=a.tmps.setIfInBounds d v})/\(∀(a:Act) (v:Value),a.put none v=a)/\
 (∀(l:List Value) (i:Nat) (v:Value),l.toArray.setIfInBounds i v=(l.set i v).toArray)/\(∀(x:Value) (xs:List Value) (n:Nat) (v:Value),(x::xs).set (n+1) v=x::xs.set n v)/\(∀(x:Value) (xs:List Value) (v:Value),(x::xs).set 0 v=v::xs):=
 ⟨fun _ _ _=>rfl,fun _ _=>rfl,fun _ _ _=>qY ..,fun _ _ _ _=>rfl,fun _ _ _=>rfl⟩
theorem zt:(∀(i:Nat) (x:Oper) (xs:List Oper),List.take (i+1) (x::xs)=x::List.take i xs)/\(∀xs:List Oper,List.take 0 xs=[])/\
 (∀(i:Nat) (x:Oper) (xs:List Oper),List.drop (i+1) (x::xs)=List.drop i xs)/\(∀xs:List Oper,List.drop 0 xs=xs):=
 ⟨fun _ _ _=>rfl,fun _=>rfl,fun _ _ _=>rfl,fun _=>rfl⟩
end Go
end

/-
  Texts of this claim, packed by a program: Math MA VA Region.
-/
import Derived.Test.YthllkbbbapgelaaGreatDoorPW0
import Derived.WalkKit
import Derived.WalkLawsBesides
import Derived.WalkSpells
import Derived.Outline
import Derived.Handy
import Derived.KernelRfl
import Derived.Lib.Hide
import Derived.Orders
import Derived.OrdersIn
import Derived.Below
import Derived.Tactics
set_option maxHeartbeats 8000000
set_option maxRecDepth 100000
set_option linter.all false
section
namespace jy
abbrev dR:=Int×Int
abbrev EX:=Int×Int×Int
structure cZ where
 last:Int
 size:Int
 aZ:Int
 die:Int
 uF:Int
 start:dR
 bZ:List dR
 turns:List Int
 readings:List EX
def nS (n lo hi:Int):Bool:=decide (lo<=n)&&decide (n<=hi)
def wz (r:dR) (hi:Int):Bool:=decide (0<=r.1)&&decide (r.1<=r.2)&&decide (r.2<=hi)
def yQ (last:Int):Int->List Int->Bool
 |_,[]=>true
 |p,n::l=>nS n (p+1) last&&yQ last n l
def og (last:Int) (l:List Int):Bool:=yQ last (-1) l
def Be (last:Int) (x:EX):Bool:=nS x.1 0 last&&nS x.2.1 0 1000&&nS x.2.2 0 50
def fG (h:cZ):Bool:=
 decide (0<=h.last)&&nS h.size 0 20&&nS h.aZ 0 100&&decide (0<=h.die)&&nS h.uF h.die 500&&wz h.start 500
def valid (h:cZ):Bool:=
 fG h&&decide ((h.bZ.length:Int)=h.last+1)&&og h.last h.turns&&h.bZ.all (wz · 20)&&h.readings.all (Be h.last)
def eu (r:dR):Int:=r.2-r.1+1
def uw (l:List dR):Int:=l.foldr (fun r n=>eu r*n) 1
def vW (h:cZ):Int:=
 if 9<h.last∨5<h.readings.length then 3 else if valid h=false then 1 else if 2000<uw (h.start::h.bZ) then 3 else 0
def mr (aZ n:Int) (turned:Bool):Int:=if turned then n-n*aZ/100 else n
def YQ (size aZ:Int) (turns:List Int) (i:Nat) (n w:Int):Int:=mr aZ n (turns.contains (i:Int))+size*w/10
def qU (size aZ:Int) (turns:List Int) (start:Int) (bZ:List Int):Nat->Int
 |0=>start
 |k+1=>YQ size aZ turns k (qU size aZ turns start bZ k) (bZ.getD k 0)
def qF (size aZ:Int) (turns:List Int) (start:Int) (bZ:List Int) (n:Nat):List Int:=
 (List.range 10).map fun j=>if j<n then qU size aZ turns start bZ (j+1) else 0
def lL (h:cZ) (t:Int×List Int) (turns:List Int):List Int:=qF h.size h.aZ turns t.1 t.2 t.2.length
def CX (x:EX) (l:List Int):Bool:=nS (l.getD x.1.toNat 0-x.2.1) (-x.2.2) x.2.2
def sZ (r:dR):List Int:=(List.range (eu r).toNat).map fun(k:Nat)=>r.1+(k:Int)
def fB:List dR->List (List Int)
 |[]=>[[]]
 |r::rs=>(sZ r).flatMap fun x=>(fB rs).map (x:: ·)
def aaP (last p:Int) (l:List Int) (k:Nat):Bool:=nS (l.getD k 0) ((p::l).getD k 0+1) last
theorem IP (last:Int): ∀(l:List Int) (p:Int),yQ last p l=(List.range l.length).all (aaP last p l):=by
 intro l
 induction l with
 |nil=>intro p;rfl
 |cons n l ih=>
  intro p
  rw[List.length_cons,List.range_succ_eq_map,List.all_cons,List.all_map,yQ,ih n]
  congr 1
theorem Xx (last:Int) (h0:0<=last) (l:List Int): ∀k,(∀j,j<k->aaP last (-1) l j=true)->k<=l.length-> -1<=((-1:Int)::l).getD k 0/\((-1:Int)::l).getD k 0<=last:=by
 intro k
 induction k with
 |zero=>intro _ _;simp;omega
 |succ k ih=>
  intro h hk
  have h1:=h k (by omega)
  have h2:=ih (fun j hj=>h j (by omega)) (by omega)
  simp only[aaP,nS,eG,eX] at h1
  rw[List.getD_cons_succ]
  omega
theorem jH {α:Type} (l:List α) (p:α->Bool):(if l.any (fun k=>!p k) then false else true)=l.all p:=by
 rw[List.all_eq_not_any_not]
 cases l.any (fun k=>!p k) <;>rfl
def rP (m:Int) (r:dR):Int:=min (m*eu r) 2001
def uQ (l:List dR) (k:Nat):Int:=(l.take k).foldl rP 1
theorem Ib (l:List dR) (k:Nat) (hk:k<l.length):uQ l (k+1)=rP (uQ l k) l[k]:=by
 unfold uQ
 rw[iC hk,List.foldl_append]
 rfl
theorem N9 (l:List dR) (h: ∀r∈l,1<=eu r):1<=uw l:=by
 induction l with
 |nil=>simp[uw]
 |cons r l ih=>
  have h1:=h r (by simp)
  have h2:=ih (fun x hx=>h x (by simp[hx]))
  show 1<=eu r*uw l
  have:=Int.mul_le_mul h1 h2 (by omega) (by omega)
  omega
theorem PY (l:List dR) (h: ∀r∈l,1<=eu r): ∀m,1<=m->m<=2001->l.foldl rP m=min (m*uw l) 2001:=by
 induction l with
 |nil=>intro m h1 h2;simp[uw];omega
 |cons r l ih=>
  intro m h1 h2
  have hr:=h r (by simp)
  have hp:=N9 l (fun x hx=>h x (by simp[hx]))
  rw[List.foldl_cons]
  have hm:1<=m*eu r:=by have:=Int.mul_le_mul h1 hr (by omega) (by omega);omega
  rw[ih (fun x hx=>h x (by simp[hx])) _ (by unfold rP;omega) (by unfold rP;omega)]
  show min (rP m r*uw l) 2001=min (m*(eu r*uw l)) 2001
  rw[<-Int.mul_assoc]
  unfold rP
  by_cases hc:m*eu r<=2001
  ·rw[Int.min_eq_left hc]
  ·have h3:2001<=m*eu r*uw l:=by have:=Int.mul_le_mul (show(2001:Int)<=m*eu r by omega) hp (by omega) (by omega);omega
   have h4:2001<=2001*uw l:=by omega
   rw[Int.min_eq_right (show 2001<=m*eu r by omega)]
   omega
theorem PZ (l:List dR) (h: ∀r∈l,1<=eu r) (k:Nat):1<=uQ l k/\uQ l k<=2001:=by
 unfold uQ
 have ht: ∀r∈l.take k,1<=eu r:=fun r hr=>h r (kP hr)
 rw[PY _ ht 1 (by omega) (by omega)]
 have:=N9 _ ht
 omega
theorem Kz (l:List dR) (h: ∀r∈l,1<=eu r):(2000<uQ l l.length)↔2000<uw l:=by
 unfold uQ
 rw[List.take_length,PY _ h 1 (by omega) (by omega)]
 omega
theorem yg {r:dR} {n:Int} (h:wz r n=true):0<=r.1/\r.1<=r.2/\r.2<=n/\1<=eu r/\eu r<=n+1:=by
 simp only[wz,eG,eX] at h
 unfold eu
 omega
theorem Ky {aZ n:Int} (hc0:0<=aZ) (hc1:aZ<=100) (hn:0<=n) (t:Bool):0<=mr aZ n t/\mr aZ n t<=n:=by
 unfold mr
 cases t
 ·simp;omega
 ·simp only[if_true]
  have h1:0<=n*aZ:=Int.mul_nonneg hn hc0
  have h2:n*aZ<=n*100:=Int.mul_le_mul_of_nonneg_left hc1 hn
  omega
theorem J9 {size aZ:Int} (turns:List Int) {start:Int} (bZ:List Int) (hs0:0<=size) (hs1:size<=20) (hc0:0<=aZ) (hc1:aZ<=100) (h0:0<=start) (h1:start<=500) (hw: ∀x∈bZ,0<=x/\x<=20):
 ∀k:Nat,0<=qU size aZ turns start bZ k/\qU size aZ turns start bZ k<=500+40*k:=by
 intro k
 induction k with
 |zero=>simp[qU];omega
 |succ k ih=>
  have hb:=Ky hc0 hc1 ih.1 (turns.contains (k:Int))
  have hx:0<=bZ.getD k 0/\bZ.getD k 0<=20:=by
   by_cases hk:k<bZ.length
   ·rw[gV,dw hk];exact hw _ (dh _)
   ·rw[gV,List.getElem?_eq_none (by omega)];simp
  have h2:0<=size*bZ.getD k 0:=Int.mul_nonneg hs0 hx.1
  have h3:size*bZ.getD k 0<=20*20:=Int.mul_le_mul hs1 hx.2 hx.1 (by omega)
  simp only[qU,YQ]
  generalize bZ.getD k 0=x at*
  generalize size*x=y at*
  push_cast
  omega
theorem lq (size aZ:Int) (turns:List Int) (start:Int) (bZ:List Int) (n:Nat):(qF size aZ turns start bZ n).length=10:=by simp[qF]
theorem L9 (size aZ:Int) (turns:List Int) (start:Int) (bZ:List Int) (n:Nat) (_hn:n<10):
 qF size aZ turns start bZ (n+1)=(qF size aZ turns start bZ n).set n (qU size aZ turns start bZ (n+1)):=by
 apply List.ext_getElem
 ·simp[qF]
 ·intro i h1 h2
  have hi:i<10:=by simpa [qF] using h1
  simp only[qF,List.getElem_map,List.getElem_range,List.getElem_set]
  by_cases e:n=i
  ·subst e;simp
  ·rw[ak e]
   by_cases h:i<n
   ·rw[aF h,aF (by omega)]
   ·rw[ak h,ak (by omega)]
theorem OZ {h:cZ} {t:Int×List Int} (turns:List Int) (hs0:0<=h.size) (hs1:h.size<=20) (hc0:0<=h.aZ) (hc1:h.aZ<=100) (h0:0<=t.1) (h1:t.1<=500) (hw: ∀x∈t.2,0<=x/\x<=20) (_hl:t.2.length<=10):
 ∀x∈lL h t turns,0<=x/\x<=900:=by
 intro x hx
 obtain⟨j,hj,rfl⟩:=jc.1 hx
 have hj':j<10:=by simpa using hj
 split
 ·have:=J9 turns t.2 hs0 hs1 hc0 hc1 h0 h1 hw (j+1)
  omega
 ·omega
theorem CS {α:Type} {l:List α} (h:l.length=10): ∃a b c d e f g i j k,l=[a,b,c,d,e,f,g,i,j,k]:=by
 match l,h with
 |[a,b,c,d,e,f,g,i,j,k],_=>exact⟨a,b,c,d,e,f,g,i,j,k,rfl⟩
structure Sound (h:cZ):Prop where
 J4:0<=h.last
 Bl:h.last<=9
 NM:0<=h.size
 NL:h.size<=20
 Pv:0<=h.aZ
 Pq:h.aZ<=100
 apg:0<=h.die
 amY:h.die<=h.uF
 amX:h.uF<=500
 YT:0<=h.start.1
 YS:h.start.1<=h.start.2
 YR:h.start.2<=500
 FV:(h.bZ.length:Int)=h.last+1
 turns:og h.last h.turns=true
 bZ: ∀r∈h.bZ,0<=r.1/\r.1<=r.2/\r.2<=20
 rdg: ∀x∈h.readings,(0<=x.1/\x.1<=h.last)/\(0<=x.2.1/\x.2.1<=1000)/\0<=x.2.2/\x.2.2<=50
 ajA:h.readings.length<=5
 many:uw (h.start::h.bZ)<=2000
theorem F7 {h:cZ} (hf:vW h=0):Sound h:=by
 unfold vW at hf
 split at hf
 ·omega
 ·split at hf
  ·omega
  ·split at hf
   ·omega
   ·rename_i h1 h2 h3
    have h2':valid h=true:=by simpa using h2
    simp only[valid,fG,wz,nS,eG,eX,ku] at h2'
    obtain⟨⟨⟨⟨⟨⟨⟨⟨⟨a1,a2⟩,a3⟩,a4⟩,a5⟩,a6⟩,a7⟩,a8⟩,a9⟩,a10⟩:=h2'
    refine⟨a1,by omega,a2.1,a2.2,a3.1,a3.2,a4,a5.1,a5.2,a6.1.1,a6.1.2,a6.2,a7,a8,fun r hr=>?_,fun x hx=>?_,by omega,by omega⟩
    ·have:=a9 r hr;exact⟨this.1.1,this.1.2,this.2⟩
    ·have:=a10 x hx
     simp only[Be,nS,eG,eX] at this
     exact⟨this.1.1,this.1.2,this.2⟩
theorem acr {α β:Type} (f:α->List β) (sz:Nat) (hf: ∀x,(f x).length=sz): ∀(l:List α) (k j:Nat) (hk:k<l.length),j<sz->(l.flatMap f)[k*sz+j]? =(f l[k])[j]? :=by
 intro l
 induction l with
 |nil=>intro k j hk;simp at hk
 |cons x l ih=>
  intro k j hk hj
  cases k with
  |zero=>simp[List.flatMap_cons,ve (show j<(f x).length by rw[hf];exact hj)]
  |succ k=>
   have e:(k+1)*sz+j=(f x).length+(k*sz+j):=by rw[hf,Nat.add_mul];omega
   rw[List.flatMap_cons,e,oG (by omega),Nat.add_sub_cancel_left,ih k j (by simpa using hk) hj]
   rfl
theorem zN (r:dR):(sZ r).length=(eu r).toNat:=by simp[sZ]
theorem Ri (r:dR) (c:Nat) (hc:c<(sZ r).length):(sZ r)[c]=r.1+(c:Int):=by simp[sZ]
theorem Bd (r:dR) (rs:List dR):(fB (r::rs)).length=(eu r).toNat*(fB rs).length:=by
 rw[fB,List.length_flatMap]
 simp only[mD,List.map_const',List.sum_replicate_nat]
 rw[zN]
theorem VK (r:dR) (rs:List dR) (c j:Nat) (hc:c<(eu r).toNat) (hj:j<(fB rs).length):
 (fB (r::rs))[c*(fB rs).length+j]? =some ((r.1+(c:Int))::(fB rs)[j]):=by
 rw[fB,acr _ (fB rs).length (fun x=>by simp) (sZ r) c j (by rw[zN];exact hc) hj,Ri]
 simp[hj]
theorem VJ: ∀(rs:List dR), ∀x∈fB rs,x.length=rs.length:=by
 intro rs
 induction rs with
 |nil=>intro x hx;simp[fB] at hx;subst hx;rfl
 |cons r rs ih=>
  intro x hx
  simp only[fB,qx,jc] at hx
  obtain⟨y,_,z,hz,rfl⟩:=hx
  simp[ih z hz]
def jJ (R:List dR) (i k:Nat) (pre:List Int):Prop:= ∀j s,(fB (R.drop i))[j]? =some s->(fB R)[k+j]? =some (pre++s)
theorem jJ.zero (R:List dR):jJ R 0 0 []:=fun j s h=>by simpa using h
theorem jJ.next {R:List dR} {i k:Nat} {pre:List Int} (h:jJ R i k pre) (hi:i<R.length) (c:Nat) (hc:c<(eu R[i]).toNat):
 jJ R (i+1) (k+c*(fB (R.drop (i+1))).length) (pre++[R[i].1+(c:Int)]):=by
 intro j s hs
 obtain⟨hj,rfl⟩:=je.1 hs
 have:=h (c*(fB (R.drop (i+1))).length+j) _ (by rw[uj hi];exact VK _ _ c j hc hj)
 rw[Nat.add_assoc,this]
 simp
theorem jJ.count {R:List dR} {i:Nat} (hi:i<R.length):(fB (R.drop i)).length=(eu R[i]).toNat*(fB (R.drop (i+1))).length:=by
 rw[uj hi,Bd]
theorem jJ.last {R:List dR} {i k:Nat} {pre:List Int} (h:jJ R i k pre) (hi:i=R.length):(fB (R.drop i)).length=1/\ ∃hk:k<(fB R).length,(fB R)[k]=pre:=by
 have e:R.drop i=[]:=List.drop_eq_nil_of_le (by omega)
 rw[e]
 have:=h 0 [] (by rw[e];rfl)
 simp only[Nat.add_zero,List.append_nil] at this
 obtain⟨hk,hx⟩:=je.1 this
 exact⟨rfl,hk,hx⟩
def Vo (l:List Int):Int×List Int:=(l.headD 0,l.tail)
def Rt (h:cZ) (out:List Int) (t:Int×List Int) (i:Nat):Bool:=out.contains (i:Int) ||CX (h.readings.getD i (0,0,0)) (lL h t h.turns)
def okT (h:cZ) (out:List Int) (t:Int×List Int):Bool:=(List.range h.readings.length).all (Rt h out t)
def qX (h:cZ):List (List Int):=fB (h.start::h.bZ)
def dQ (h:cZ) (out:List Int):List (Int×List Int):=((qX h).filter fun l=>okT h out (Vo l)).map Vo
def cnt (h:cZ) (out:List Int) (k:Nat):Nat:=(((qX h).take k).filter fun l=>okT h out (Vo l)).length
theorem acD (h:cZ) (out:List Int):cnt h out (qX h).length=(dQ h out).length:=by
 unfold cnt dQ
 rw[List.take_length,mD]
theorem aeP {h:cZ} {out:List Int} {k:Nat} (hk:k<(qX h).length) (hp:okT h out (Vo (qX h)[k])=false):cnt h out (k+1)=cnt h out k:=by
 unfold cnt
 rw[iC hk,List.filter_append,dm]
 simp[hp]
theorem acC {h:cZ} {out:List Int} {k:Nat} (hk:k<(qX h).length) (hp:okT h out (Vo (qX h)[k])=true):cnt h out (k+1)=cnt h out k+1:=by
 unfold cnt
 rw[iC hk,List.filter_append,dm]
 simp[hp]
theorem Dp {α β:Type} (p:α->Bool) (f:α->β): ∀(l:List α) (k:Nat) (hk:k<l.length),p l[k]=true->((l.filter p).map f)[((l.take k).filter p).length]? =some (f l[k]):=by
 intro l
 induction l with
 |nil=>intro k hk;simp at hk
 |cons x l ih=>
  intro k hk hp
  cases k with
  |zero=>
   have hp':p x=true:=hp
   simp[hp']
  |succ k=>
   have:=ih k (by simpa using hk) hp
   by_cases hx:p x=true
   ·simp only[List.filter_cons,hx,if_true,List.map_cons,List.take_succ_cons,List.length_cons,List.getElem?_cons_succ,List.getElem_cons_succ]
    exact this
   ·simp only[List.filter_cons,hx,if_false,List.take_succ_cons,List.getElem_cons_succ,Bool.false_eq_true]
    exact this
theorem QP {h:cZ} {out:List Int} {k:Nat} (hk:k<(qX h).length) (hp:okT h out (Vo (qX h)[k])=true):
 ∃hc:cnt h out k<(dQ h out).length,(dQ h out)[cnt h out k]=Vo (qX h)[k]:=by
 have:=Dp (fun l=>okT h out (Vo l)) Vo (qX h) k hk hp
 obtain⟨hc,hx⟩:=je.1 this
 exact⟨hc,hx⟩
theorem C9: ∀(rs:List dR) (x:List Int),x∈fB rs->x.length=rs.length/\ ∀i,i<rs.length->(rs.getD i (0,0)).1<=x.getD i 0/\x.getD i 0<=(rs.getD i (0,0)).2:=by
 intro rs
 induction rs with
 |nil=>intro x hx;simp[fB] at hx;subst hx;exact⟨rfl,fun i hi=>by simp at hi⟩
 |cons r rs ih=>
  intro x hx
  simp only[fB,qx,jc] at hx
  obtain⟨y,hy,z,hz,rfl⟩:=hx
  obtain⟨h1,h2⟩:=ih z hz
  refine⟨by simp[h1],fun i hi=>?_⟩
  cases i with
  |zero=>
   obtain⟨c,hc,rfl⟩:=jc.1 hy
   have:c<(eu r).toNat:=by simpa using hc
   unfold eu at this
   simp
   omega
  |succ i=>simpa using h2 i (by simpa using hi)
theorem GG {h:cZ} (hS:Sound h) {x:List Int} (hx:x∈qX h): ∃s rest,x=s::rest/\rest.length=h.bZ.length/\(0<=s/\s<=500)/\ ∀y∈rest,0<=y/\y<=20:=by
 obtain⟨hl,hb⟩:=C9 _ _ hx
 cases x with
 |nil=>simp at hl
 |cons s rest=>
  have h0:=hb 0 (by simp)
  simp at h0
  have:=hS.YT
  have:=hS.YR
  refine⟨s,rest,rfl,by simpa using hl,by omega,fun y hy=>?_⟩
  obtain⟨i,hi,rfl⟩:=mF hy
  have hi':i<h.bZ.length:=by simp at hl;omega
  have h1:=hb (i+1) (by simpa using hi')
  simp only[List.getD_cons_succ] at h1
  rw[show rest.getD i 0=rest[i] from by simp[hi],show h.bZ.getD i (0,0)=h.bZ[i] from by simp[hi']] at h1
  have:=hS.bZ _ (dh hi')
  omega
def jM (below:Nat):Nat->Nat->List (List Int)
 |0,_=>[[]]
 |m+1,f=>(List.range (below-m-f)).flatMap fun j=>(jM below m (f+j+1)).map fun x=>((f+j:Nat):Int)::x
def nG (below:Nat) (p:List Int->Bool):Option (List Int):=((List.range (below+1)).flatMap fun m=>jM below m 0).find? p
theorem qW {α β:Type} (p:β->Bool) (f:α->List β): ∀(l:List α) (k:Nat) (hk:k<l.length) (c:β),(∀j (hj:j<k),(f (l[j]'(by omega))).find? p=none)->(f l[k]).find? p=some c->(l.flatMap f).find? p=some c:=by
 intro l
 induction l with
 |nil=>intro k hk;simp at hk
 |cons x l ih=>
  intro k hk c h1 h2
  rw[List.flatMap_cons,List.find?_append]
  cases k with
  |zero=>
   have h2':(f x).find? p=some c:=h2
   rw[h2'];rfl
  |succ k=>
   have h0:(f x).find? p=none:=h1 0 (by omega)
   rw[h0]
   exact ih k (by simpa using hk) c (fun j hj=>h1 (j+1) (by omega)) h2
theorem tY {α β:Type} (p:β->Bool) (f:α->List β) (l:List α) (h: ∀j (hj:j<l.length),(f l[j]).find? p=none):(l.flatMap f).find? p=none:=by
 rw[List.find?_eq_none]
 intro x hx
 obtain⟨y,hy,hxy⟩:=qx.1 hx
 obtain⟨j,hj,rfl⟩:=mF hy
 have:=h j hj
 rw[List.find?_eq_none] at this
 exact this x hxy
def Inc (below:Nat):Nat->List Int->Prop
 |_,[]=>True
 |f,a::x=> ∃n:Nat,a=n/\f<=n/\n<below/\Inc below (n+1) x
theorem Inc.len {below:Nat}: ∀(x:List Int) (f:Nat),Inc below f x->x.length<=below-f:=by
 intro x
 induction x with
 |nil=>intro f _;simp
 |cons a x ih=>
  rintro f ⟨n,_,h1,h2,h3⟩
  have:=ih _ h3
  simp only[List.length_cons]
  omega
theorem rX {below:Nat}: ∀(m f:Nat) (x:List Int),x∈jM below m f↔x.length=m/\Inc below f x:=by
 intro m
 induction m with
 |zero=>
  intro f x
  simp only[jM,fD]
  constructor
  ·rintro rfl;exact⟨rfl,trivial⟩
  ·rintro⟨h,_⟩;exact kG h
 |succ m ih=>
  intro f x
  simp only[jM,qx,kD,jc]
  constructor
  ·rintro⟨j,hj,y,hy,rfl⟩
   obtain⟨h1,h2⟩:=(ih _ _).1 hy
   exact⟨by simp[h1],f+j,rfl,by omega,by omega,h2⟩
  ·rintro⟨hl,hi⟩
   cases x with
   |nil=>simp at hl
   |cons a x=>
    obtain⟨n,rfl,h1,h2,h3⟩:=hi
    have:=h3.len
    simp only[List.length_cons] at hl
    refine⟨n-f,by omega,x,(ih _ _).2 ⟨by omega,?_⟩,?_⟩
    ·rw[show f+(n-f)+1=n+1 by omega];exact h3
    ·rw[show f+(n-f)=n by omega]
def before:List Int->List Int->Bool
 |[],b=>!b.isEmpty
 |_::_,[]=>false
 |x::a,y::b=>if x=y then before a b else decide (x<y)
def nX (a b:List Int):Bool:=decide (a.length<b.length) ||(decide (a.length=b.length)&&before a b)
theorem before_irrefl: ∀a,before a a=false:=by
 intro a
 induction a with
 |nil=>rfl
 |cons x a ih=>simp[before,ih]
theorem MV: ∀a b,before a b=true->before b a=false:=by
 intro a
 induction a with
 |nil=>intro b h;cases b <;>simp[before] at h⊢
 |cons x a ih=>
  intro b h
  cases b with
  |nil=>simp[before] at h
  |cons y b=>
   simp only[before] at h⊢
   by_cases e:x=y
   ·subst e;simp only[if_true] at h⊢;exact ih _ h
   ·rw[ak e] at h;rw[ak (fun e'=>e e'.symm)]
    simp only[eX,decide_eq_false_iff_not] at h⊢;omega
theorem F8 (a:List Int):nX a a=false:=by simp[nX,before_irrefl]
theorem IW {a b:List Int} (h:nX a b=true):nX b a=false:=by
 simp only[nX,Bool.or_eq_true,eG,eX,Bool.or_eq_false_iff,Bool.and_eq_false_iff,decide_eq_false_iff_not] at h⊢
 rcases h with h|⟨h,hb⟩
 ·exact⟨by omega,.inl (by omega)⟩
 ·exact⟨by omega,.inr (MV _ _ hb)⟩
theorem SN {α:Type} (R:α->α->Prop) (p:α->Bool): ∀(l:List α),l.Pairwise R-> ∀c,l.find? p=some c->p c=true/\c∈l/\ ∀x∈l,p x=true->x=c∨R c x:=by
 intro l
 induction l with
 |nil=>intro _ c h;simp at h
 |cons y l ih=>
  intro hp c h
  rw[List.pairwise_cons] at hp
  rw[List.find?_cons] at h
  cases hy:p y with
  |true=>
   rw[hy] at h
   cases h
   refine⟨hy,by simp,fun x hx _=>?_⟩
   rcases gZ.1 hx with rfl|hx
   ·exact .inl rfl
   ·exact .inr (hp.1 _ hx)
  |false=>
   rw[hy] at h
   obtain⟨h1,h2,h3⟩:=ih hp.2 c h
   refine⟨h1,by simp[h2],fun x hx hpx=>?_⟩
   rcases gZ.1 hx with rfl|hx
   ·rw[hy] at hpx;cases hpx
   ·exact h3 x hx hpx
theorem uX {α β:Type} (R:β->β->Prop) (f:α->List β): ∀(l:List α),(∀x∈l,(f x).Pairwise R)->l.Pairwise (fun x y=> ∀a∈f x, ∀b∈f y,R a b)->(l.flatMap f).Pairwise R:=by
 intro l
 induction l with
 |nil=>intro _ _;simp
 |cons x l ih=>
  intro h1 h2
  rw[List.pairwise_cons] at h2
  rw[List.flatMap_cons,List.pairwise_append]
  refine⟨h1 x (by simp),ih (fun y hy=>h1 y (by simp[hy])) h2.2,fun a ha b hb=>?_⟩
  obtain⟨y,hy,hby⟩:=qx.1 hb
  exact h2.1 y hy a ha b hby
theorem ML (below:Nat): ∀(m f:Nat),(jM below m f).Pairwise fun a b=>before a b=true:=by
 intro m
 induction m with
 |zero=>intro f;simp[jM]
 |succ m ih=>
  intro f
  unfold jM
  refine uX _ _ _ (fun j _=>?_) ?_
  ·rw[List.pairwise_map]
   exact(ih (f+j+1)).imp fun h=>by simpa [before] using h
  ·refine List.pairwise_lt_range.imp fun {i j} hij=>?_
   intro a ha b hb
   obtain⟨x,_,rfl⟩:=jc.1 ha
   obtain⟨y,_,rfl⟩:=jc.1 hb
   simp only[before]
   rw[ak (by omega)]
   simp;omega
theorem E8 (below:Nat):((List.range (below+1)).flatMap fun m=>jM below m 0).Pairwise fun a b=>nX a b=true:=by
 refine uX _ _ _ (fun m _=>?_) ?_
 ·refine List.Pairwise.imp_of_mem ?_ (ML below m 0)
  intro a b ha hb h
  simp[nX,((rX _ _ _).1 ha).1,((rX _ _ _).1 hb).1,h]
 ·refine List.pairwise_lt_range.imp fun {i j} hij=>?_
  intro a ha b hb
  simp[nX,((rX _ _ _).1 ha).1,((rX _ _ _).1 hb).1,hij]
theorem wI (below:Nat) (x:List Int):x∈((List.range (below+1)).flatMap fun m=>jM below m 0)↔Inc below 0 x:=by
 rw[qx]
 constructor
 ·rintro⟨m,_,h⟩;exact((rX _ _ _).1 h).2
 ·intro h
  have:=h.len
  exact⟨x.length,by simp;omega,(rX _ _ _).2 ⟨rfl,h⟩⟩
theorem NQ {below:Nat} {p:List Int->Bool} {c:List Int} (h:nG below p=some c):p c=true/\Inc below 0 c/\ ∀x,Inc below 0 x->p x=true->nX x c=false:=by
 obtain⟨h1,h2,h3⟩:=SN _ p _ (E8 below) c h
 refine⟨h1,(wI _ _).1 h2,fun x hx hp=>?_⟩
 rcases h3 x ((wI _ _).2 hx) hp with rfl|hr
 ·exact F8 _
 ·exact IW hr
theorem NR {below:Nat} {p:List Int->Bool} (h:nG below p=none): ∀x,Inc below 0 x->p x=false:=by
 intro x hx
 unfold nG at h
 rw[List.find?_eq_none] at h
 simpa using h x ((wI _ _).2 hx)
def lT (acc:List (List Int)) (x:List Int):List (List Int):=if acc.getLast? =some x then acc else acc++[x]
def jG (h:cZ) (turns:List Int):List (List Int):=(dQ h []).foldl (fun acc t=>lT acc (lL h t turns)) []
def jr (h:cZ) (turns:List Int) (k:Nat):List (List Int):=((dQ h []).take k).foldl (fun acc t=>lT acc (lL h t turns)) []
theorem BG {h:cZ} {turns:List Int} {k:Nat} (hk:k<(dQ h []).length):jr h turns (k+1)=lT (jr h turns k) (lL h (dQ h [])[k] turns):=by
 unfold jr
 rw[iC hk,List.foldl_append]
 rfl
theorem yC (h:cZ) (turns:List Int):jr h turns (dQ h []).length=jG h turns:=by unfold jr;rw[List.take_length];rfl
theorem V6 (acc:List (List Int)) (x y:List Int):y∈lT acc x↔y∈acc∨y=x:=by
 unfold lT
 split
 ·rename_i h
  constructor
  ·exact .inl
  ·rintro(h1|rfl)
   ·exact h1
   ·exact List.mem_of_getLast? h
 ·simp
theorem Bh {α:Type} (f:α->List Int): ∀(l:List α) (acc:List (List Int)) (y:List Int),y∈l.foldl (fun acc t=>lT acc (f t)) acc↔y∈acc∨ ∃t∈l,y=f t:=by
 intro l
 induction l with
 |nil=>intro acc y;simp
 |cons a l ih=>
  intro acc y
  rw[List.foldl_cons,ih,V6]
  simp only[gZ,exists_eq_or_imp,or_assoc]
theorem Gv (h:cZ) (turns:List Int) (y:List Int):y∈jG h turns↔ ∃t∈dQ h [],y=lL h t turns:=by
 unfold jG;rw[Bh];simp
theorem Oo {h:cZ} {turns:List Int} {k:Nat} {y:List Int} (hy:y∈jr h turns k): ∃t∈dQ h [],y=lL h t turns:=by
 unfold jr at hy
 rw[Bh] at hy
 simp only[List.not_mem_nil,false_or] at hy
 obtain⟨t,ht,rfl⟩:=hy
 exact⟨t,kP ht,rfl⟩
theorem EF {h:cZ} {turns:List Int} {k:Nat}: ∀y∈jr h turns k,y.length=10:=by
 intro y hy
 obtain⟨t,_,rfl⟩:=Oo hy
 exact lq _ _ _ _ _ _
theorem Ho {h:cZ} {turns:List Int}: ∀y∈jG h turns,y.length=10:=by
 rw[<-yC];exact EF
theorem JB (acc:List (List Int)) (x:List Int):(lT acc x).length<=acc.length+1:=by
 unfold lT;split <;>simp
theorem EI (h:cZ) (turns:List Int): ∀k,(jr h turns k).length<=k:=by
 intro k
 induction k with
 |zero=>simp[jr]
 |succ k ih=>
  by_cases hk:k<(dQ h []).length
  ·rw[BG hk]
   have:=JB (jr h turns k) (lL h (dQ h [])[k] turns)
   omega
  ·have e:jr h turns (k+1)=jr h turns k:=by
    unfold jr;rw[kF (by omega),kF (by omega)]
   rw[e];omega
theorem SX (h:cZ) (turns:List Int):(jG h turns).length<=(dQ h []).length:=by
 rw[<-yC];exact EI _ _ _
theorem SS {h:cZ} {turns:List Int} (hn:dQ h []≠[]):jG h turns≠[]:=by
 intro he
 obtain⟨t,ht⟩:=List.exists_mem_of_ne_nil _ hn
 have:=(Gv h turns (lL h t turns)).2 ⟨t,ht,rfl⟩
 rw[he] at this
 cases this
theorem xZ (rs:List dR) (hr: ∀r∈rs,1<=eu r):((fB rs).length:Int)=uw rs:=by
 induction rs with
 |nil=>rfl
 |cons r rs ih=>
  rw[Bd]
  have h1:=hr r (by simp)
  have ih':=ih (fun x hx=>hr x (by simp[hx]))
  show(((eu r).toNat*(fB rs).length:Nat):Int)=eu r*uw rs
  rw[Int.natCast_mul,ih',Int.toNat_of_nonneg (by omega)]
theorem xN {h:cZ} (hS:Sound h) (out:List Int):(dQ h out).length<=2000:=by
 have h1:(dQ h out).length<=(qX h).length:=by unfold dQ;rw[mD];exact List.length_filter_le _ _
 have h2:=xZ (h.start::h.bZ) (fun r hr=>by
  rcases gZ.1 hr with rfl|hr
  ·have:=hS.YS;unfold eu;omega
  ·have:=hS.bZ r hr;unfold eu;omega)
 have h3:=hS.many
 unfold qX at h1
 omega
def wid (r:dR) (x:Int):dR:=(min r.1 x,max r.2 x)
def eP (n k:Nat) (R:List dR) (l:List Int) (i:Nat):List dR:=
 if k=0 then(List.range i).map fun j=>(l.getD j 0,l.getD j 0) else(List.range n).map fun j=>if j<i then wid (R.getD j (0,0)) (l.getD j 0) else R.getD j (0,0)
def bz (n:Nat) (ls:List (List Int)):Nat->List dR
 |0=>[]
 |k+1=>eP n k (bz n ls k) (ls.getD k []) n
def rQ (n:Nat) (ls:List (List Int)):List dR:=bz n ls ls.length
theorem tq (n:Nat) (R:List dR) (l:List Int) (i:Nat):(eP n 0 R l i).length=i:=by simp[eP]
theorem vK (n k:Nat) (R:List dR) (l:List Int) (i:Nat) (hk:k≠0):(eP n k R l i).length=n:=by simp[eP,hk]
theorem pO (n:Nat) (ls:List (List Int)) (k:Nat) (hk:k≠0):(bz n ls k).length=n:=by
 cases k with
 |zero=>exact absurd rfl hk
 |succ k=>
  unfold bz
  by_cases h:k=0
  ·subst h;exact tq _ _ _ _
  ·exact vK _ _ _ _ _ h
theorem Rl {n k:Nat} {R:List dR} {l:List Int} (hR:k≠0->R.length=n) (h0:k=0->R=[]):eP n k R l 0=R:=by
 unfold eP
 split
 ·rename_i h;rw[h0 h];rfl
 ·rename_i h
  apply List.ext_getElem
  ·simp[hR h]
  ·intro i h1 h2;simp[List.getD,h2]
theorem VT {n:Nat} {R:List dR} {l:List Int} {i:Nat}:eP n 0 R l i++[(l.getD i 0,l.getD i 0)]=eP n 0 R l (i+1):=by
 simp[eP,List.range_succ]
theorem Rn {n:Nat} {R:List dR} {l:List Int} {i:Nat}:(eP n 0 R l (i+1)).set i (wid ((eP n 0 R l (i+1)).getD i (0,0)) (l.getD i 0))=eP n 0 R l (i+1):=by
 apply List.ext_getElem
 ·simp
 ·intro j h1 h2
  rw[List.getElem_set]
  split
  ·rename_i h;subst h;simp[eP,wid,List.getD]
  ·rfl
theorem VS {n k:Nat} {R:List dR} {l:List Int} {i:Nat} (hk:k≠0) (hi:i<n):(eP n k R l i).set i (wid ((eP n k R l i).getD i (0,0)) (l.getD i 0))=eP n k R l (i+1):=by
 apply List.ext_getElem
 ·simp[eP,hk]
 ·intro j h1 h2
  have hj:j<n:=by simpa [eP,hk] using h2
  rw[List.getElem_set]
  split
  ·rename_i h;subst h;simp[eP,hk,hi]
  ·rename_i h
   simp only[eP,hk,if_false,List.getElem_map,List.getElem_range]
   by_cases h3:j<i
   ·rw[aF h3,aF (by omega)]
   ·rw[ak h3,ak (by omega)]
def upto (n:Nat):List Int:=(List.range n).map fun(i:Nat)=>(i:Int)
theorem WI: ∀(n f below:Nat),f+n<=below->Inc below f ((List.range' f n).map fun(i:Nat)=>(i:Int)):=by
 intro n
 induction n with
 |zero=>intro f below _;trivial
 |succ n ih=>
  intro f below h
  rw[List.range'_succ,List.map_cons]
  exact⟨f,rfl,ai _,by omega,ih (f+1) below (by omega)⟩
end jy
end
section
namespace jy
theorem RD {r:dR} {x:Int}:x∈sZ r↔r.1<=x/\x<=r.2:=by
 unfold sZ eu
 rw[jc]
 constructor
 ·rintro⟨k,hk,rfl⟩
  have:=kD.1 hk
  omega
 ·rintro⟨h1,h2⟩
  exact⟨(x-r.1).toNat,kD.2 (by omega),by omega⟩
end jy
namespace jy
theorem LX {below:Nat}: ∀(l:List Int) (f:Nat),Inc below f l↔l.Pairwise (· < ·)/\ ∀x∈l,(f:Int)<=x/\x<below:=by
 intro l
 induction l with
 |nil=>intro f;simp[Inc]
 |cons x l ih=>
  intro f
  unfold Inc
  rw[List.pairwise_cons]
  constructor
  ·rintro⟨n,rfl,h1,h2,h3⟩
   obtain⟨h4,h5⟩:=(ih _).1 h3
   refine⟨⟨fun y hy=>by have:=h5 y hy;omega,h4⟩,fun y hy=>?_⟩
   rcases gZ.1 hy with rfl|hy
   ·omega
   ·have:=h5 y hy;omega
  ·rintro⟨⟨h1,h2⟩,h3⟩
   have hx:=h3 x (by simp)
   refine⟨x.toNat,by omega,by omega,by omega,(ih _).2 ⟨h2,fun y hy=>⟨?_,(h3 y (by simp[hy])).2⟩⟩⟩
   have:=h1 y hy
   omega
end jy
namespace jy
end jy
end
section
namespace Go.Proofs.YthllkbbbapgelaaGreatDoor
open jy
abbrev Nb:=Int×Int×Int×dR
structure bU where
 rows:Int
 aK:Int
 left:dR
 ax:List Nb
def pG (f:bU) (t:Nb):Bool:=nS t.1 0 (f.aK-1)&&nS t.2.1 0 (f.rows-1)&&nS t.2.2.1 0 (f.rows-1)&&decide (t.2.1<=t.2.2.1)&&wz t.2.2.2 f.rows
def jX (f:bU):Int:=
 if 7<f.rows∨3<f.aK∨5<f.ax.length then 3
 else if f.rows<1∨f.aK<1∨wz f.left f.rows=false∨f.ax.all (pG f)=false then 1
 else if 2500<(f.aK+1)^f.rows.toNat then 3 else 0
structure ru (f:bU):Prop where
 zM:1<=f.rows
 qH:f.rows<=7
 zK:1<=f.aK
 xm:f.aK<=3
 E5:f.ax.length<=5
 left:0<=f.left.1/\f.left.1<=f.left.2/\f.left.2<=f.rows
 xE: ∀t∈f.ax,(0<=t.1/\t.1<f.aK)/\(0<=t.2.1/\t.2.1<=t.2.2.1/\t.2.2.1<f.rows)/\(0<=t.2.2.2.1/\t.2.2.2.1<=t.2.2.2.2/\t.2.2.2.2<=f.rows)
 many:(f.aK+1)^f.rows.toNat<=2500
theorem iH {f:bU} (hf:jX f=0):ru f:=by
 unfold jX at hf
 split at hf
 ·omega
 ·rename_i h1
  split at hf
  ·omega
  ·rename_i h2
   split at hf
   ·omega
   ·rename_i h3
    simp only[not_or] at h1 h2
    obtain⟨a1,a2,a3⟩:=h1
    obtain⟨b1,b2,b3,b4⟩:=h2
    have b3':wz f.left f.rows=true:=by simpa using b3
    have b4':f.ax.all (pG f)=true:=by simpa using b4
    rw[ku] at b4'
    simp only[wz,eG,eX] at b3'
    refine⟨by omega,by omega,by omega,by omega,by omega,⟨by omega,by omega,by omega⟩,fun t ht=>?_,by omega⟩
    have:=b4' t ht
    simp only[pG,nS,wz,eG,eX] at this
    omega
def zG (l:List Int) (who:Int) (a n:Nat):Int:=((List.range' a n).countP fun i=>l.getD i 0==who:Nat)
def Hu (l:List Int) (who lo hi:Int):Int:=zG l who lo.toNat (hi+1-lo).toNat
def Aa (l:List Int) (t:Nb):Bool:=nS (Hu l t.1 t.2.1 t.2.2.1) t.2.2.2.1 t.2.2.2.2
def jk (f:bU) (out:List Int) (l:List Int):Bool:=
 ((List.range f.ax.length).all fun i=>out.contains (i:Int) ||Aa l (f.ax.getD i (0,0,0,(0,0))))&&nS (Hu l (-1) 0 (f.rows-1)) f.left.1 f.left.2
def eY (f:bU):List dR:=List.replicate f.rows.toNat (-1,f.aK-1)
def qp (f:bU):List (List Int):=fB (eY f)
def bV (f:bU) (out:List Int):List (List Int):=(qp f).filter (jk f out)
theorem Rh {f:bU} (hS:ru f): ∀r∈eY f,1<=eu r:=fun r hr=>by
 obtain rfl:=List.eq_of_mem_replicate hr
 have:=hS.zK
 unfold eu
 simp only
 omega
theorem VI: ∀(rs:List dR) (x:List Int),x.length=rs.length->(∀i,i<rs.length->(rs.getD i (0,0)).1<=x.getD i 0/\x.getD i 0<=(rs.getD i (0,0)).2)->x∈fB rs:=by
 intro rs
 induction rs with
 |nil=>intro x hx _;obtain rfl:=kG hx;simp[fB]
 |cons r rs ih=>
  intro x hx hb
  cases x with
  |nil=>simp at hx
  |cons a x=>
   have h0:=hb 0 (by simp)
   simp only[fB,qx,jc]
   exact⟨a,RD.2 (by simpa using h0),x,ih x (by simpa using hx) (fun i hi=>by simpa using hb (i+1) (by simpa using hi)),rfl⟩
theorem Gw {f:bU} {l:List Int}:l∈qp f↔l.length=f.rows.toNat/\ ∀i,i<f.rows.toNat-> -1<=l.getD i 0/\l.getD i 0<=f.aK-1:=by
 have hg: ∀i,i<f.rows.toNat->(eY f).getD i (0,0)=(-1,f.aK-1):=fun i hi=>by
  unfold eY
  rw[gV,List.getElem?_replicate,aF hi]
  rfl
 have hl:(eY f).length=f.rows.toNat:=by unfold eY;simp
 unfold qp
 constructor
 ·intro hm
  obtain⟨h1,h2⟩:=C9 _ _ hm
  rw[hl] at h1 h2
  refine⟨h1,fun i hi=>?_⟩
  have:=h2 i hi
  rw[hg i hi] at this
  exact this
 ·rintro⟨h1,h2⟩
  refine VI _ _ (by rw[hl];exact h1) fun i hi=>?_
  rw[hl] at hi
  rw[hg i hi]
  exact h2 i hi
theorem Lm (f:bU):uw (eY f)=(f.aK+1)^f.rows.toNat:=by
 unfold eY
 induction f.rows.toNat with
 |zero=>simp[uw]
 |succ k ih=>
  rw[List.replicate_succ]
  show eu (-1,f.aK-1)*uw (List.replicate k (-1,f.aK-1))=_
  rw[ih,Int.pow_succ,Int.mul_comm]
  congr 1
  unfold eu
  simp only
  omega
end Go.Proofs.YthllkbbbapgelaaGreatDoor
namespace Go.Proofs.YthllkbbbapgelaaGreatDoor
open jy
def QZ (rows:List Int) (a b:List Int):Bool:=rows.all fun r=>a.getD r.toNat 0==b.getD r.toNat 0
def mM (f:bU) (a:List Int) (who:Int):Int:=Hu a who 0 (f.rows-1)
def NS (f:bU) (w:Int) (rows:List Int):Bool:=(bV f []).all fun a=>(bV f []).all fun b=>!QZ rows a b ||mM f a w==mM f b w
theorem abJ {f:bU} {w:Int} {rows:List Int}:NS f w rows=true↔ ∀a∈bV f [], ∀b∈bV f [],QZ rows a b=true->mM f a w=mM f b w:=by
 unfold NS
 simp only[ku,Bool.or_eq_true,Bool.not_eq_true',beq_iff_eq]
 constructor
 ·intro h a ha b hb hs
  rcases h a ha b hb with h1|h1
  ·rw[hs] at h1;cases h1
  ·exact h1
 ·intro h a ha b hb
  cases hs:QZ rows a b
  ·exact .inl rfl
  ·exact .inr (h a ha b hb hs)
theorem Ea {f:bU} {out a:List Int} (h:a∈bV f out):a∈qp f/\jk f out a=true:=List.mem_filter.1 h
theorem oJ {f:bU} {out a:List Int} (h:a∈bV f out):a.length=f.rows.toNat:=(Gw.1 (Ea h).1).1
theorem Zz (n:Nat):Inc n 0 (upto n):=by
 have:=WI n 0 n (by omega)
 unfold upto
 rw[<-List.range_eq_range'] at this
 exact this
theorem Bi {a b:List Int} (h:nX a b=false):b.length<=a.length:=by
 unfold nX at h
 simp only[Bool.or_eq_false_iff,decide_eq_false_iff_not] at h
 omega
end Go.Proofs.YthllkbbbapgelaaGreatDoor
namespace Go.Proofs.YthllkbbbapgelaaGreatDoor
open jy
structure aQ where
 field:bU
 rate:Int
 box:dR
 notes:List (Int×dR)
def ug (r x:dR):dR:=(max r.1 x.1,min r.2 x.2)
def pJ (l:aQ) (out:List Int) (i:Nat) (due:Int):dR:=
 ((List.range l.notes.length).filter fun(k:Nat)=>!out.contains (k:Int)&&(l.notes.getD k (0,(0,0))).1==(i:Int)).foldl (fun r k=>ug r (l.notes.getD k (0,(0,0))).2) (0,due)
def zy (l:List Int):Int:=l.foldr (· + ·) 0
theorem vH (x:Int) (l:List Int):zy (x::l)=x+zy l:=rfl
def pR (l:aQ) (out:List Int) (Dv:List Int):List dR:=(List.range l.field.aK.toNat).map fun i=>pJ l out i (Dv.getD i 0)
def I5 (l:aQ) (out Dv:List Int):Int:=zy ((pR l out Dv).map (·.1))
def zO (l:aQ) (out Dv:List Int):Int:=zy ((pR l out Dv).map (·.2))
def jC (l:aQ) (out Dv:List Int):Bool:=(pR l out Dv).all (fun r=>decide (r.1<=r.2))&&decide (I5 l out Dv<=l.box.2)&&decide (l.box.1<=zO l out Dv)
def kT (l:aQ) (out Dv:List Int):List dR:=
 (pR l out Dv).map fun r=>ug r (l.box.1-(zO l out Dv-r.2),l.box.2-(I5 l out Dv-r.1))
end Go.Proofs.YthllkbbbapgelaaGreatDoor
namespace Go.Proofs.YthllkbbbapgelaaGreatDoor
open jy
def lW (rate:Int) (rows:List Int):List Int:=(List.range 3).map fun(i:Nat)=>rate*(rows.count (i:Int):Int)
theorem lu (rate:Int) (rows:List Int):(lW rate rows).length=3:=by simp[lW]
theorem rZ (rate:Int) (rows:List Int) {i:Nat} (hi:i<3):(lW rate rows).getD i 0=rate*(rows.count (i:Int):Int):=by
 unfold lW
 rw[gV,qy,List.getElem?_range hi]
 rfl
theorem ahU {a b:List Int} (ha:a.length=3) (hb:b.length=3) (h: ∀i,i<3->a.getD i 0=b.getD i 0):a=b:=by
 refine List.ext_getElem (by omega) fun i h1 h2=>?_
 have:=h i (by omega)
 simpa [List.getD,h1,h2] using this
theorem Xe (rate:Int):lW rate []=[0,0,0]:=by simp[lW,List.range_succ]
theorem S9 (rate:Int) (rs:List Int) (n:Nat) (hn:n<3):(lW rate rs).set n ((lW rate rs).getD n 0+rate)=lW rate (rs++[(n:Int)]):=by
 refine ahU (by simp[lu]) (lu _ _) fun i hi=>?_
 rw[rZ _ _ hi,List.count_append]
 by_cases e:n=i
 ·subst e
  rw[List.getD_eq_getElem?_getD,List.getElem?_set_self (by rw[lu];omega),Option.getD_some,rZ _ _ hn]
  simp[Int.mul_add]
 ·rw[List.getD_eq_getElem?_getD,List.getElem?_set_ne e, <-List.getD_eq_getElem?_getD,rZ _ _ hi]
  have:List.count (i:Int) [(n:Int)]=0:=by
   rw[List.count_eq_zero]
   simp;omega
  rw[this,Nat.add_zero]
theorem Tc (rate:Int) (rs:List Int) (x:Int) (hx:x<0):lW rate (rs++[x])=lW rate rs:=by
 refine ahU (lu _ _) (lu _ _) fun i hi=>?_
 rw[rZ _ _ hi,rZ _ _ hi,List.count_append]
 have:List.count (i:Int) [x]=0:=by
  rw[List.count_eq_zero]
  simp;omega
 rw[this,Nat.add_zero]
theorem Hq {rate:Int} (h0:0<=rate) (h1:rate<=50) (rs:List Int) (hl:rs.length<=7) (i:Nat) (hi:i<3):0<=(lW rate rs).getD i 0/\(lW rate rs).getD i 0<=350:=by
 rw[rZ _ _ hi]
 have hc:(List.count (i:Int) rs:Int)<=7:=by
  have:=List.count_le_length (a:=(i:Int)) (l:=rs)
  omega
 have hc0:(0:Int)<=(List.count (i:Int) rs:Int):=by omega
 refine⟨Int.mul_nonneg h0 hc0,?_⟩
 calc rate*(List.count (i:Int) rs:Int)<=50*7:=Int.mul_le_mul h1 hc hc0 (by omega)
  _=350:=rfl
end Go.Proofs.YthllkbbbapgelaaGreatDoor
namespace Go.Proofs.YthllkbbbapgelaaGreatDoor
open jy
def lM (l:aQ) (out:List Int) (k:Nat):List (Int×dR):=((List.range k).filter fun(i:Nat)=>!out.contains (i:Int)).map fun i=>l.notes.getD i (0,(0,0))
def En (l:aQ) (out:List Int):List (Int×dR):=lM l out l.notes.length
theorem RP {l:aQ} {out:List Int} {k:Nat} (h:out.contains (k:Int)=false):lM l out (k+1)=lM l out k++[l.notes.getD k (0,(0,0))]:=by
 unfold lM
 rw[List.range_succ,List.filter_append,List.map_append]
 congr 1
 rw[List.filter_cons_of_pos (by rw[h];rfl)]
 rfl
theorem Wl {l:aQ} {out:List Int} {k:Nat} (h:out.contains (k:Int)=true):lM l out (k+1)=lM l out k:=by
 unfold lM
 rw[List.range_succ,List.filter_append,List.map_append,List.filter_cons_of_neg (by rw[h];simp)]
 simp
theorem GK (l:aQ) (out:List Int) (k:Nat):(lM l out k).length<=k:=by
 unfold lM
 rw[mD]
 have:=List.length_filter_le (fun(i:Nat)=>!out.contains (i:Int)) (List.range k)
 simpa using this
def xy (ns:List (Int×dR)) (key:Int×Int) (k:Nat):dR:=(ns.take k).foldl (fun r n=>if n.1=key.1 then ug r n.2 else r) (0,key.2)
def kn (ns:List (Int×dR)) (key:Int×Int):dR:=xy ns key ns.length
theorem J6 {ns:List (Int×dR)} {key:Int×Int} {k:Nat} (hk:k<ns.length):xy ns key (k+1)=if ns[k].1=key.1 then ug (xy ns key k) ns[k].2 else xy ns key k:=by
 unfold xy
 rw[iC hk,List.foldl_append]
 rfl
theorem OD (l:aQ) (out:List Int) (i:Nat) (due:Int):kn (En l out) ((i:Int),due)=pJ l out i due:=by
 unfold kn xy pJ En lM
 rw[List.take_length,List.foldl_map]
 generalize List.range l.notes.length=ks
 have: ∀(ks:List Nat) (r:dR),(ks.filter fun(k:Nat)=>!out.contains (k:Int)).foldl (fun r k=>if(l.notes.getD k (0,(0,0))).1=(i:Int) then ug r (l.notes.getD k (0,(0,0))).2 else r) r=
  (ks.filter fun(k:Nat)=>!out.contains (k:Int)&&(l.notes.getD k (0,(0,0))).1==(i:Int)).foldl (fun r k=>ug r (l.notes.getD k (0,(0,0))).2) r:=by
  intro ks
  induction ks with
  |nil=>intro r;rfl
  |cons k ks ih=>
   intro r
   cases hc:out.contains (k:Int)
   ·by_cases hn:(l.notes.getD k (0,(0,0))).1=(i:Int)
    ·simp only[List.filter_cons,hc,hn,Bool.not_false,if_true,beq_self_eq_true,Bool.and_self,List.foldl_cons]
     exact ih _
    ·have hnb:((l.notes.getD k (0,(0,0))).1==(i:Int))=false:=by simpa using hn
     simp only[List.filter_cons,hc,hnb,hn,Bool.not_false,if_true,if_false,Bool.and_false,Bool.false_eq_true,List.foldl_cons]
     exact ih _
   ·simp only[List.filter_cons,hc,Bool.not_true,Bool.false_and,Bool.false_eq_true,if_false]
    exact ih _
 exact this ks (0,due)
theorem Vq (xs:List Int) (x:Int):zy (xs++[x])=zy xs+x:=by
 induction xs with
 |nil=>simp[zy]
 |cons y xs ih=>rw[List.cons_append,vH,vH,ih];omega
def lJ (f:dR->Int) (rs:List dR) (k:Nat):Int:=zy ((rs.take k).map f)
theorem sN (f:dR->Int) {rs:List dR} {k:Nat} (hk:k<rs.length):lJ f rs (k+1)=lJ f rs k+f rs[k]:=by
 unfold lJ
 rw[iC hk,List.map_append,List.map_singleton,Vq]
theorem xP (f:dR->Int) (rs:List dR) (h: ∀r∈rs,0<=f r/\f r<=2000): ∀k,k<=rs.length->0<=lJ f rs k/\lJ f rs k<=2000*k:=by
 intro k
 induction k with
 |zero=>intro _;simp[lJ,zy]
 |succ k ih=>
  intro hk
  have:=ih (by omega)
  have:=h rs[k] (dh _)
  rw[sN f (by omega)]
  omega
theorem yS (f:dR->Int) (rs:List dR):lJ f rs rs.length=zy (rs.map f):=by unfold lJ;rw[List.take_length]
theorem abW {ns:List (Int×dR)} (hn: ∀x∈ns,0<=x.2.1/\x.2.1<=2000/\0<=x.2.2/\x.2.2<=2000) {key:Int×Int} (h0:0<=key.2) (_h1:key.2<=2000): ∀k,k<=ns.length->0<=(xy ns key k).1/\(xy ns key k).1<=2000/\0<=(xy ns key k).2/\(xy ns key k).2<=key.2:=by
 intro k
 induction k with
 |zero=>intro _;simp[xy];omega
 |succ k ih=>
  intro hk
  have h:=ih (by omega)
  have hx:=hn ns[k] (dh _)
  rw[J6 (by omega)]
  split
  ·unfold ug
   simp only
   omega
  ·exact h
theorem Wn {l:aQ} {out:List Int} {x:Int×dR} (h:x∈En l out):x∈l.notes:=by
 unfold En lM at h
 obtain⟨i,hi,rfl⟩:=jc.1 h
 have:=kD.1 (List.mem_filter.1 hi).1
 rw[show l.notes.getD i (0,(0,0))=l.notes[i] from by simp[List.getD,this]]
 exact dh _
structure pW (l:aQ):Prop where
 field:jX l.field=0
 some:bV l.field []≠[]
 rate:1<=l.rate/\l.rate<=50
 box:0<=l.box.1/\l.box.1<=l.box.2/\l.box.2<=2000
 many:l.notes.length<=5
 notes: ∀x∈l.notes,(0<=x.1/\x.1<l.field.aK)/\(0<=x.2.1/\x.2.1<=x.2.2/\x.2.2<=2000)
theorem OC {l:aQ} (hS:pW l) (out:List Int) (i:Nat) {due:Int} (h0:0<=due) (h1:due<=2000):0<=(pJ l out i due).1/\(pJ l out i due).1<=2000/\0<=(pJ l out i due).2/\(pJ l out i due).2<=due:=by
 rw[<-OD]
 exact abW (fun x hx=>by have:=hS.notes x (Wn hx);omega) h0 h1 _ (ai _)
theorem zu (l:aQ) (out d:List Int):(pR l out d).length=l.field.aK.toNat:=by simp[pR]
theorem D5 (l:aQ) (out d:List Int) {i:Nat} (hi:i<l.field.aK.toNat):(pR l out d).getD i (0,0)=pJ l out i (d.getD i 0):=by
 unfold pR
 rw[gV,qy,List.getElem?_range hi]
 rfl
end Go.Proofs.YthllkbbbapgelaaGreatDoor
namespace Go.Proofs.YthllkbbbapgelaaGreatDoor
open jy
def xK (r x:dR):dR:=(min r.1 x.1,max r.2 x.2)
def oL (due:Int) (r:dR):dR:=(due-r.2,due-r.1)
def rE (p:Int->dR->dR) (l:aQ) (d:List Int):List dR:=(List.range l.field.aK.toNat).map fun i=>p (d.getD i 0) ((kT l [] d).getD i (0,0))
def kL (acc mW:List dR) (i:Nat):List dR:=if acc=[] then mW.take i else(List.zipWith xK acc mW).take i++acc.drop i
def Jh (acc mW:List dR):List dR:=if acc=[] then mW else List.zipWith xK acc mW
def uS (p:Int->dR->dR) (l:aQ) (acc:List dR) (d:List Int):List dR:=if jC l [] d=true then Jh acc (rE p l d) else acc
def lX (p:Int->dR->dR) (l:aQ) (k:Nat) (ds:List (List Int)):List dR:=(ds.take k).foldl (uS p l) []
def BQ (p:Int->dR->dR) (l:aQ) (ds:List (List Int)):List dR:=lX p l ds.length ds
theorem JP (l:aQ) (out d:List Int):(kT l out d).length=l.field.aK.toNat:=by simp[kT,zu]
theorem oQ (p:Int->dR->dR) (l:aQ) (d:List Int):(rE p l d).length=l.field.aK.toNat:=by simp[rE]
theorem JY (p:Int->dR->dR) (l:aQ) (d:List Int) {i:Nat} (hi:i<(rE p l d).length):(rE p l d)[i]=p (d.getD i 0) ((kT l [] d).getD i (0,0)):=by
 simp[rE]
theorem AB (p:Int->dR->dR) (l:aQ) {k:Nat} {ds:List (List Int)} (hk:k<ds.length):lX p l (k+1) ds=uS p l (lX p l k ds) ds[k]:=by
 unfold lX
 rw[iC hk,List.foldl_append]
 rfl
theorem aaW {acc mW:List dR} (h:acc=[]∨acc.length=mW.length):(Jh acc mW).length=mW.length:=by
 unfold Jh
 split
 ·rfl
 ·rcases h with h|h
  ·contradiction
  ·simp[h]
theorem KD (p:Int->dR->dR) (l:aQ) (ds:List (List Int)): ∀k,k<=ds.length->lX p l k ds=[]∨(lX p l k ds).length=l.field.aK.toNat:=by
 intro k
 induction k with
 |zero=>intro _;exact .inl rfl
 |succ k ih=>
  intro hk
  rw[AB p l (by omega)]
  have h:=ih (by omega)
  unfold uS
  split
  ·right
   rw[aaW (by rw[oQ];exact h),oQ]
  ·exact h
theorem wZ (acc mW:List dR):kL acc mW 0=acc:=by
 unfold kL
 split
 ·rename_i h;rw[h];rfl
 ·simp
theorem XH {acc mW:List dR} (h:acc=[]∨acc.length=mW.length):kL acc mW mW.length=Jh acc mW:=by
 unfold kL Jh
 split
 ·simp
 ·rcases h with h|h
  ·contradiction
  ·rw[kF (by simp;omega),List.drop_of_length_le (by omega),List.append_nil]
theorem XG {acc mW:List dR} {i:Nat} (h:acc=[]∨acc.length=mW.length) (hi:i<=mW.length):(kL acc mW i).length=if acc=[] then i else mW.length:=by
 unfold kL
 by_cases e:acc=[]
 ·rw[aF e,aF e];simp;omega
 ·rw[ak e,ak e]
  rcases h with h|h
  ·contradiction
  ·simp;omega
theorem XF {mW:List dR} {i:Nat} (hi:i<mW.length):kL [] mW (i+1)=kL [] mW i++[mW[i]]:=by
 unfold kL
 rw[aF rfl,aF rfl,iC hi]
theorem XE {acc mW:List dR} {i:Nat} (ha:acc≠[]) (h:acc.length=mW.length) (hi:i<mW.length):
 (kL acc mW i)[i]? =acc[i]?/\kL acc mW (i+1)=(kL acc mW i).set i (xK (acc.getD i (0,0)) mW[i]):=by
 unfold kL
 rw[ak ha,ak ha]
 have hz:((List.zipWith xK acc mW).take i).length=i:=by simp;omega
 refine⟨?_,?_⟩
 ·rw[oG (by omega),hz,List.getElem?_drop,Nat.sub_self,Nat.add_zero]
 ·rw[qA _ _ (by omega),hz,Nat.sub_self,uj (by omega:i<acc.length),List.set_cons_zero,
   iC (by simp;omega),jg,List.singleton_append]
  simp[List.getD,h,hi]
structure um (S:dR->Prop) (r:dR):Prop where
 low:(∃x,S x/\x.1=r.1)/\ ∀x,S x->r.1<=x.1
 high:(∃x,S x/\x.2=r.2)/\ ∀x,S x->x.2<=r.2
theorem um.one (x:dR):um (fun y=>y=x) x:=⟨⟨⟨x,rfl,rfl⟩,fun y h=>by rw[h];exact Int.le_refl _⟩,⟨x,rfl,rfl⟩,fun y h=>by rw[h];exact Int.le_refl _⟩
theorem um.add {S:dR->Prop} {r:dR} (h:um S r) (x:dR):um (fun y=>S y∨y=x) (xK r x):=by
 obtain⟨⟨⟨a,ha,ha'⟩,h1⟩,⟨b,hb,hb'⟩,h2⟩:=h
 unfold xK
 refine⟨⟨?_,?_⟩,?_,?_⟩
 ·by_cases e:r.1<=x.1
  ·exact⟨a,.inl ha,by simp only;omega⟩
  ·exact⟨x,.inr rfl,by simp only;omega⟩
 ·rintro y (hy|rfl)
  ·have:=h1 y hy;simp only;omega
  ·simp only;omega
 ·by_cases e:x.2<=r.2
  ·exact⟨b,.inl hb,by simp only;omega⟩
  ·exact⟨x,.inr rfl,by simp only;omega⟩
 ·rintro y (hy|rfl)
  ·have:=h2 y hy;simp only;omega
  ·simp only;omega
theorem um.congr {S T:dR->Prop} {r:dR} (h:um S r) (e: ∀x,S x↔T x):um T r:=by
 obtain⟨⟨⟨a,ha,ha'⟩,h1⟩,⟨b,hb,hb'⟩,h2⟩:=h
 exact⟨⟨⟨a,(e a).1 ha,ha'⟩,fun x hx=>h1 x ((e x).2 hx)⟩,⟨b,(e b).1 hb,hb'⟩,fun x hx=>h2 x ((e x).2 hx)⟩
theorem Ih (p:Int->dR->dR) (l:aQ) (ds:List (List Int)) {i:Nat} (hi:i<l.field.aK.toNat): ∀k,k<=ds.length->
 (lX p l k ds=[]/\ ∀d∈ds.take k,jC l [] d=false)∨((lX p l k ds).length=l.field.aK.toNat/\um (fun y=> ∃d∈ds.take k,jC l [] d=true/\y=p (d.getD i 0) ((kT l [] d).getD i (0,0))) ((lX p l k ds).getD i (0,0))):=by
 intro k
 induction k with
 |zero=>intro _;exact .inl ⟨rfl,fun d hd=>by simp at hd⟩
 |succ k ih=>
  intro hk
  have hkl:k<ds.length:=by omega
  rw[AB p l hkl,iC hkl]
  have hn: ∀d,(rE p l d).getD i (0,0)=p (d.getD i 0) ((kT l [] d).getD i (0,0)):=fun d=>by
   have hi':i<(rE p l d).length:=by rw[oQ];exact hi
   rw[gV,dw hi',Option.getD_some,JY p l d hi']
  cases hc:jC l [] ds[k] with
  |false=>
   have hs:uS p l (lX p l k ds) ds[k]=lX p l k ds:=by unfold uS;rw[hc];rfl
   rw[hs]
   rcases ih (by omega) with⟨h1,h2⟩|⟨h1,h2⟩
   ·refine .inl ⟨h1,fun d hd=>?_⟩
    rcases iP.1 hd with h|h
    ·exact h2 d h
    ·rw[fD.1 h];exact hc
   ·refine .inr ⟨h1,h2.congr fun x=>⟨fun⟨d,hd,a,b⟩=>⟨d,oD _ hd,a,b⟩,fun⟨d,hd,a,b⟩=>?_⟩⟩
    rcases iP.1 hd with h|h
    ·exact⟨d,h,a,b⟩
    ·rw[fD.1 h,hc] at a;cases a
  |true=>
   have hs:uS p l (lX p l k ds) ds[k]=Jh (lX p l k ds) (rE p l ds[k]):=by unfold uS;rw[hc];rfl
   rw[hs]
   right
   rcases ih (by omega) with⟨h1,h2⟩|⟨h1,h2⟩
   ·rw[h1]
    have ha:Jh [] (rE p l ds[k])=rE p l ds[k]:=by unfold Jh;rw[aF rfl]
    rw[ha]
    refine⟨oQ _ _ _,?_⟩
    rw[hn]
    refine(um.one _).congr fun x=>⟨fun e=>⟨ds[k],uk _ (fD.2 rfl),hc,e⟩,fun⟨d,hd,a,b⟩=>?_⟩
    rcases iP.1 hd with h|h
    ·rw[h2 d h] at a;cases a
    ·rw[fD.1 h] at b;exact b
   ·have hne:lX p l k ds≠[]:=fun e=>by rw[e] at h1;simp at h1;omega
    have ha:Jh (lX p l k ds) (rE p l ds[k])=List.zipWith xK (lX p l k ds) (rE p l ds[k]):=by unfold Jh;rw[ak hne]
    rw[ha]
    refine⟨by simp[h1,oQ],?_⟩
    have hg:(List.zipWith xK (lX p l k ds) (rE p l ds[k])).getD i (0,0)=xK ((lX p l k ds).getD i (0,0)) (p (ds[k].getD i 0) ((kT l [] ds[k]).getD i (0,0))):=by
     rw[<-hn ds[k]]
     have h3:i<(lX p l k ds).length:=by omega
     have h4:i<(rE p l ds[k]).length:=by rw[oQ];exact hi
     simp only[gV,List.getElem?_zipWith,dw h3,dw h4,Option.getD_some]
    rw[hg]
    refine(h2.add _).congr fun x=>⟨?_,?_⟩
    ·rintro(⟨d,hd,a,b⟩|e)
     ·exact⟨d,oD _ hd,a,b⟩
     ·exact⟨ds[k],uk _ (fD.2 rfl),hc,e⟩
    ·rintro⟨d,hd,a,b⟩
     rcases iP.1 hd with h|h
     ·exact .inl ⟨d,h,a,b⟩
     ·rw[fD.1 h] at b;exact .inr b
theorem abI {rs:List dR} (h: ∀r∈rs,r.1<=r.2):zy (rs.map (·.1))<=zy (rs.map (·.2)):=by
 induction rs with
 |nil=>exact Int.le_refl _
 |cons x rs ih=>
  have h1:=h x List.mem_cons_self
  have h2:=ih (fun y hy=>h y (qZ _ hy))
  simp only[List.map_cons,vH]
  omega
theorem NK {l:List Int} {i:Nat} (hi:i<l.length) (x:Int):zy (l.set i x)=zy l-l.getD i 0+x:=by
 induction l generalizing i with
 |nil=>simp at hi
 |cons y l ih=>
  cases i with
  |zero=>simp only[List.set_cons_zero,vH,List.getD_cons_zero];omega
  |succ i=>
   have:=ih (i:=i) (by simpa using hi)
   simp only[List.set_cons_succ,vH,List.getD_cons_succ]
   omega
theorem JQ (l:aQ) (out d:List Int) {i:Nat} (hi:i<l.field.aK.toNat):
 (kT l out d).getD i (0,0)=ug (pJ l out i (d.getD i 0)) (l.box.1-(zO l out d-(pJ l out i (d.getD i 0)).2),l.box.2-(I5 l out d-(pJ l out i (d.getD i 0)).1)):=by
 have ha:=D5 l out d hi
 have hl:i<(pR l out d).length:=by rw[zu];exact hi
 rw[gV,dw hl,Option.getD_some] at ha
 unfold kT
 rw[gV,qy,dw hl,ha]
 rfl
theorem Ro {l:aQ} {out d:List Int} {i:Nat} (hi:i<l.field.aK.toNat) (hb:l.box.1<=l.box.2) (hc:jC l out d=true):((kT l out d).getD i (0,0)).1<=((kT l out d).getD i (0,0)).2:=by
 rw[JQ l out d hi]
 have hl:i<(pR l out d).length:=by rw[zu];exact hi
 have ha:=D5 l out d hi
 unfold jC at hc
 simp only[eG,ku,eX] at hc
 obtain⟨⟨h1,h2⟩,h3⟩:=hc
 have e1:zy (((pR l out d).set i (0,0)).map (·.1))=I5 l out d-(pJ l out i (d.getD i 0)).1:=by
  rw[List.map_set,NK (by simpa using hl)]
  unfold I5
  rw[<-ha,gV,gV,qy,dw hl]
  simp
 have e2:zy (((pR l out d).set i (0,0)).map (·.2))=zO l out d-(pJ l out i (d.getD i 0)).2:=by
  rw[List.map_set,NK (by simpa using hl)]
  unfold zO
  rw[<-ha,gV,gV,qy,dw hl]
  simp
 have e3:=abI (rs:=(pR l out d).set i (0,0)) (fun r hr=>by
  rcases List.mem_or_eq_of_mem_set hr with h|h
  ·exact h1 r h
  ·rw[h];exact Int.le_refl _)
 have e4:=h1 _ (by rw[gV,dw hl,Option.getD_some] at ha;rw[<-ha];exact dh hl:pJ l out i (d.getD i 0)∈pR l out d)
 rw[e1,e2] at e3
 unfold ug
 simp only
 omega
end Go.Proofs.YthllkbbbapgelaaGreatDoor
namespace Go.Proofs.YthllkbbbapgelaaGreatDoor
open jy
end Go.Proofs.YthllkbbbapgelaaGreatDoor
namespace Go.Proofs.YthllkbbbapgelaaGreatDoor
open jy
end Go.Proofs.YthllkbbbapgelaaGreatDoor
end
section
namespace Go.RG
open Go.RowKit
structure Ext (Ms:List Nat) (w w':World):Prop where
 os:w'.os=w.os
 tape:w'.tape=w.tape
 output:w'.output=w.output
 size:w.heap.size<=w'.heap.size
 block: ∀k,k<w.heap.size->k∉Ms->w'.heap[k]? =w.heap[k]?
theorem Ext.refl (Ms:List Nat) (w:World):Ext Ms w w:=⟨rfl,rfl,rfl,ai _,fun _ _ _=>rfl⟩
theorem Ext.trans {Ms:List Nat} {a b c:World} (h:Ext Ms a b) (k:Ext Ms b c):Ext Ms a c:=
 ⟨k.os.trans h.os,k.tape.trans h.tape,k.output.trans h.output,iW h.size k.size,
   fun i hi hm=>(k.block i (fH hi h.size) hm).trans (h.block i hi hm)⟩
theorem Ext.more {Ms Ms':List Nat} {w w':World} (h:Ext Ms w w') (hs: ∀x,x∈Ms->x∈Ms'):Ext Ms' w w':=
 ⟨h.os,h.tape,h.output,h.size,fun k hk hm=>h.block k hk (fun e=>hm (hs k e))⟩
theorem Ext.nil {Ms:List Nat} {w w':World} (h:Ext [] w w'):Ext Ms w w':=h.more (by simp)
theorem Ext.aA {Ms:List Nat} {w w':World} (h:Below w.heap.size w w'):Ext Ms w w':=
 ⟨h.os,h.tape,h.output,h.size,fun k hk _=>h.block k hk⟩
theorem Ext.below {w w':World} (h:Ext [] w w'):Below w.heap.size w w':=
 ⟨h.os,h.tape,h.output,h.size,fun k hk=>h.block k hk (by simp)⟩
theorem Ext.drew {Ms:List Nat} {a w:World} (h:Ext Ms a w):Ext Ms a w.drew:=⟨h.os,h.tape,h.output,h.size,h.block⟩
theorem Ext.cell {Ms:List Nat} {w w':World} (h:Ext Ms w w') (b o:Nat) (hb:b<w.heap.size) (hm:b∉Ms):w'.cell? ⟨b,o,none⟩=w.cell? ⟨b,o,none⟩:=
 jd (w:=w) (h.block b hb hm)
def Does (P:Program) (o:Oper) (ρ:Operand->Value) (W:World) (R:Value->World->Prop):Prop:=
 match (execOp ρ o).run P W with
 | .ok (.value v) w'=>R v w'
 | .ok .skip w'=>R undef w'
 | .ok (.enter f args) w'=>Calls P f args w' (fun e w''=> ∃v,e= .returned v/\R v w'')
 |_=>False
structure Spec where
 pure:List Value->Value->Prop
 world:List Value->Value->World->Prop
abbrev Facts:=List (Nat×(World->Prop))
def nH (o:Oper) (a:Act):List Value:=o.op.operands.toList.map a.eval
def kU (ops:Array Oper) (j i:Nat):Bool:=((Region.before ops).getD i 0).testBit j
structure Ip (R0 R1:World->World->Prop):Prop where
 refl: ∀w,R0 w w
 adN: ∀{a b c},R0 a b->R0 b c->R0 a c
 adM: ∀{a b c},R1 a b->R1 b c->R1 a c
 sub: ∀{a b},R0 a b->R1 a b
def xq (R0 R1:World->World->Prop) (m:Option Nat) (i:Nat):World->World->Prop:=if m=some i then R1 else R0
def kZ (R0 R1:World->World->Prop) (m:Option Nat) (i:Nat):World->World->Prop:=if m=some i then R0 else R1
theorem Ip.abS {R0 R1:World->World->Prop} (h:Ip R0 R1) {m:Option Nat} (i:Nat) (w:World):kZ R0 R1 m i w w:=by
 unfold kZ
 split
 ·exact h.refl w
 ·exact h.sub (h.refl w)
theorem Ba (Ms:List Nat):Ip (Ext []) (Ext Ms):=⟨Ext.refl [],Ext.trans,Ext.trans,Ext.nil⟩
abbrev uH:=Nat->List Value->Value->World->Prop
def Om:uH:=fun _ _ _ _=>True
def TY (ops:Array Oper) (R0 R1:World->World->Prop) (m:Option Nat) (W0:World) (F G:Facts) (i:Nat) (W:World):Prop:=
 kZ R0 R1 m i W0 W/\(∀f∈F,kU ops f.1 i=true->f.2 W)/\(m=some i-> ∀g∈G,kU ops g.1 i=true->g.2 W)
def qV (n t:Nat):Array Bool:=((List.range n).map (fun i=>decide (i<t))).toArray
def chk (ops:Array Oper) (k:Nat):Bool:=
 let n:=ops.size
 let rG (i:Nat):Oper:=ops.getD i default
 decide (k<=n)&&
 (List.range n).all (fun i=>(rG i).after.toList.all fun e=>!Region.binds .any e ||decide (e.on<i))&&
 (List.range k).all (fun i=>(List.range k).all fun j=>i==j ||(rG i).dst.isNone ||(rG i).dst !=(rG j).dst)&&
 (List.range k).all (fun i=>((rG i).looksAt ops).all fun t=>(List.range k).all fun j=>
   (rG j).dst !=some t ||i==j ||(decide (j<i)&&kU ops j i) ||(decide (i<j)&&kU ops i j))&&
 (List.range n).all (fun i=>decide (i<k) ||(List.range k).all fun j=>kU ops j i)&&
 (List.range n).all (fun i=>match (rG i).op with| .select .. =>false|_=>true)&&
 (List.range (n-k)).all (fun t=>Region.ready .any ops (qV n (k+t))==[k+t])&&
 Region.ready .any ops (qV n n)==[]
def Down (ops:Array Oper) (D:Nat->Prop):Prop:= ∀i o,ops[i]? =some o->D i-> ∀e∈o.after,Region.binds .any e=true->D e.on
theorem V9 (acc:Array Nat) (j:Nat) (l:List Edge) (s:Nat)
 (h:(l.foldl (fun s e=>if Region.binds .any e then s |||2^e.on |||acc.getD e.on 0 else s) s).testBit j=true):
 s.testBit j=true∨ ∃e∈l,Region.binds .any e=true/\(j=e.on∨(acc.getD e.on 0).testBit j=true):=by
 induction l generalizing s with
 |nil=>exact .inl h
 |cons e l ih=>
  simp only[List.foldl_cons] at h
  rcases ih _ h with h1|⟨e',he',hb,hj⟩
  ·by_cases hb:Region.binds .any e=true
   ·rw[aF hb] at h1
    simp only[Nat.testBit_or,Bool.or_eq_true,Nat.testBit_two_pow,eX] at h1
    rcases h1 with(h1|h1)|h1
    ·exact .inl h1
    ·exact .inr ⟨e,by simp,hb,.inl h1.symm⟩
    ·exact .inr ⟨e,by simp,hb,.inr h1⟩
   ·rw[ak hb] at h1
    exact .inl h1
  ·exact .inr ⟨e',by simp[he'],hb,hj⟩
def masks (l:List Oper):Array Nat:=
 l.foldl (fun acc o=>acc.push (o.after.foldl (fun s e=>if Region.binds .any e then s |||2^e.on |||acc.getD e.on 0 else s) 0)) #[]
theorem Xv (ops:Array Oper):Region.before ops=masks ops.toList:=by
 simp only[Region.before,masks,Array.foldl_toList]
theorem Gx (l:List Oper) (o:Oper):masks (l++[o])=(masks l).push (o.after.foldl (fun s e=>if Region.binds .any e then s |||2^e.on |||(masks l).getD e.on 0 else s) 0):=by
 simp[masks,List.foldl_append]
theorem pq {α:Type} {p:List α->Prop} (h0:p []) (h1: ∀l a,p l->p (l++[a])) (l:List α):p l:=by
 rw[<-l.reverse_reverse]
 induction l.reverse with
 |nil=>exact h0
 |cons a t ih=>rw[List.reverse_cons];exact h1 _ _ ih
theorem Ae (l:List Oper):(masks l).size=l.length:=by
 induction l using pq with
 |h0=>rfl
 |h1 l o ih=>simp[Gx,ih]
theorem V8 (l:List Oper) (D:Nat->Prop) (hD: ∀i o,l[i]? =some o->D i-> ∀e∈o.after,Region.binds .any e=true->D e.on):
 ∀i j,i<l.length->D i->((masks l).getD i 0).testBit j=true->D j:=by
 induction l using pq with
 |h0=>intro i j hi;simp at hi
 |h1 l o ih=>
  have ih':=ih (fun i o' hi=>hD i o' (by
   have:=(je.1 hi).1
   rw[ve this];exact hi))
  intro i j hi hDi h
  rw[Gx] at h
  by_cases hlt:i<l.length
  ·rw[Array.getD_eq_getD_getElem?,Array.getElem?_push,ak (by rw[Ae];omega), <-Array.getD_eq_getD_getElem?] at h
   exact ih' i j hlt hDi h
  ·have hi':i=l.length:=by simp at hi;omega
   subst hi'
   rw[Array.getD_eq_getD_getElem?,Array.getElem?_push,aF (by rw[Ae])] at h
   simp only[Option.getD_some] at h
   rw[<-Array.foldl_toList] at h
   rcases V9 _ j _ _ h with h1|⟨e,he,hb,hj⟩
   ·simp at h1
   ·have hDe:D e.on:=hD l.length o (by simp) hDi e (by simpa using he) hb
    rcases hj with rfl|hj
    ·exact hDe
    ·by_cases hlt':e.on<l.length
     ·exact ih' e.on j hlt' hDe hj
     ·rw[Array.getD_eq_getD_getElem?,Array.getElem?_eq_none (by rw[Ae];omega)] at hj
      simp at hj
theorem uh {ops:Array Oper} {D:Nat->Prop} (hD:Down ops D) {i j:Nat} (hi:i<ops.size) (hDi:D i) (h:kU ops j i=true):D j:=by
 unfold kU at h
 rw[Xv] at h
 exact V8 ops.toList D (fun i o hi=>hD i o (by simpa using hi)) i j (by simpa using hi) hDi h
theorem Xy {ops:Array Oper} {D:Nat->Prop} (hD:Down ops D) {i j:Nat} {o:Oper} (ho:ops[i]? =some o)
 (hr: ∀e∈o.after,Region.binds .any e=true->D e.on) (h:kU ops j i=true) (hij:j≠i):D j:=by
 have hD':Down ops (fun t=>D t∨t=i):=by
  intro t o' ht hDt e he hb
  rcases hDt with hDt|rfl
  ·exact .inl (hD t o' ht hDt e he hb)
  ·rw[ho] at ht;cases ht
   exact .inl (hr e he hb)
 exact(uh hD' (aS.1 ho).1 (.inr rfl) h).resolve_right hij
section
variable {P : Program} {ops : Array Oper}
def nU (ops:Array Oper) (i:Nat):Option Tmp:=(ops[i]?).bind (·.dst)
def kz (ops:Array Oper) (env:Nat->Value) (a0:Act) (l:List Nat):Act:=l.foldl (fun a i=>a.put (nU ops i) (env i)) a0
theorem lK (env:Nat->Value) (a0:Act) (l:List Nat) (i:Nat):kz ops env a0 (l++[i])=(kz ops env a0 l).put (nU ops i) (env i):=by
 simp[kz,List.foldl_append]
theorem put_defers (a:Act) (d:Option Tmp) (v:Value):(a.put d v).defers=a.defers:=by cases d <;>rfl
theorem Y2 (a:Act) (d:Option Tmp) (v:Value):(a.put d v).tmps.size=a.tmps.size:=by cases d <;>simp[Act.put]
theorem UC (a:Act) (d:Option Tmp) (v:Value) (t:Nat):(a.put d v).tmps[t]? =if d=some t then(if t<a.tmps.size then some v else none) else a.tmps[t]? :=by
 cases d with
 |none=>simp[Act.put]
 |some d=>
  by_cases h:d=t
  ·subst h;simp[Act.put,Array.getElem?_setIfInBounds]
  ·have h':some d≠some t:=fun e=>h (jD e)
   rw[ak h']
   simp[Act.put,Array.getElem?_setIfInBounds_ne h]
theorem mf (env:Nat->Value) (a0:Act) (l:List Nat):(kz ops env a0 l).defers=a0.defers:=by
 induction l using pq with
 |h0=>rfl
 |h1 l i ih=>rw[lK,put_defers,ih]
theorem N7 (env:Nat->Value) (a0:Act) (l:List Nat):(kz ops env a0 l).tmps.size=a0.tmps.size:=by
 induction l using pq with
 |h0=>rfl
 |h1 l i ih=>rw[lK,Y2,ih]
theorem Ef (env:Nat->Value) (a0:Act) (t:Nat) (l:List Nat) (h: ∀i∈l,nU ops i≠some t):(kz ops env a0 l).tmps[t]? =a0.tmps[t]? :=by
 induction l using pq with
 |h0=>rfl
 |h1 l i ih=>rw[lK,UC,ak (h i (by simp)),ih (fun j hj=>h j (by simp[hj]))]
theorem Ee (env:Nat->Value) (a0:Act) (t i:Nat) (l:List Nat) (hi:i∈l) (hd:nU ops i=some t) (hu: ∀j∈l,nU ops j=some t->j=i):
 (kz ops env a0 l).tmps[t]? =if t<a0.tmps.size then some (env i) else none:=by
 induction l using pq with
 |h0=>simp at hi
 |h1 l j ih=>
  rw[lK,UC,N7]
  by_cases hj:nU ops j=some t
  ·rw[aF hj,hu j (by simp) hj]
  ·rw[ak hj]
   refine ih ?_ (fun x hx=>hu x (by simp[hx]))
   rcases iP.1 hi with h|h
   ·exact h
   ·simp at h;subst h;exact absurd hd hj
theorem agree {env env':Nat->Value} {a0:Act} {l l':List Nat} (t:Nat) (hm: ∀i,nU ops i=some t->(i∈l↔i∈l')) (he: ∀i∈l,nU ops i=some t->env i=env' i)
 (hu: ∀i j,i∈l->j∈l->nU ops i=some t->nU ops j=some t->i=j):(kz ops env a0 l).tmps[t]? =(kz ops env' a0 l').tmps[t]? :=by
 by_cases h: ∃i∈l,nU ops i=some t
 ·obtain⟨i,hi,hd⟩:=h
  rw[Ee env a0 t i l hi hd (fun j hj hdj=>hu j i hj hi hdj hd),Ee env' a0 t i l' ((hm i hd).1 hi) hd (fun j hj hdj=>hu j i ((hm j hdj).2 hj) hi hdj hd),he i hi hd]
 ·have h1: ∀i∈l,nU ops i≠some t:=fun i hi hd=>h ⟨i,hi,hd⟩
  have h2: ∀i∈l',nU ops i≠some t:=fun i hi hd=>h ⟨i,(hm i hd).2 hi,hd⟩
  rw[Ef _ _ _ _ h1,Ef _ _ _ _ h2]
theorem Bc {env env':Nat->Value} {a0:Act} {l:List Nat} (he: ∀i∈l,env i=env' i):kz ops env a0 l=kz ops env' a0 l:=by
 induction l using pq with
 |h0=>rfl
 |h1 l i ih=>rw[lK,lK,ih (fun j hj=>he j (by simp[hj])),he i (by simp)]
theorem U3 {a b:Act} (hd:a.defers=b.defers) (ht: ∀t:Nat,a.tmps[t]? =b.tmps[t]?):a=b:=by
 obtain⟨x,d⟩:=a;obtain⟨y,d'⟩:=b
 simp only at hd ht
 subst hd
 congr 1
 exact Array.ext_getElem? ht
def lH (ops:Array Oper) (o:Oper) (a b:Act):Prop:= ∀t∈o.looksAt ops,a.tmps[t]? =b.tmps[t]?
theorem lH.eval {o:Oper} {a b:Act} (h:lH ops o a b): ∀x∈o.op.operands,a.eval x=b.eval x:=by
 intro x hx
 cases x with
 |tmp t=>
  have:=h t (oD _ (List.mem_filterMap.2 ⟨.tmp t,by simpa using hx,rfl⟩))
  simp[Act.eval,AL,this]
 |_=>rfl
theorem lH.exec {o:Oper} {a b:Act} (h:lH ops o a b) (hs: ∀cs b,o.op≠ .select cs b):execOp a.eval o=execOp b.eval o:=execOp_congr o hs h.eval
theorem lH.nH {o:Oper} {a b:Act} (h:lH ops o a b):nH o a=nH o b:=List.map_congr_left fun x hx=>h.eval x (by simpa using hx)
theorem lH.wanted {o:Oper} {a b:Act} (h:lH ops o a b):Region.wanted o (yielded ops a.tmps)=Region.wanted o (yielded ops b.tmps):=by
 unfold Region.wanted
 cases hg:o.guard with
 |none=>rfl
 |some gw=>
  obtain⟨g,want⟩:=gw
  have hy:yielded ops a.tmps g=yielded ops b.tmps g:=by
   unfold yielded
   cases ht:(ops[g]?).bind (·.dst) with
   |none=>rfl
   |some t=>
    have:=h t (uk _ (by simp[hg,ht]))
    simp[this]
  simp only[hy]
end
structure Chk (ops:Array Oper) (k:Nat):Prop where
 kn:k<=ops.size
 lt: ∀(i:Nat) (o:Oper),ops[i]? =some o-> ∀e∈o.after,Region.binds .any e=true->e.on<i
 acx: ∀i j,i<k->j<k-> ∀t,nU ops i=some t->nU ops j=some t->i=j
 look: ∀(i:Nat) (o:Oper),i<k->ops[i]? =some o-> ∀t∈o.looksAt ops, ∀j,j<k->nU ops j=some t->i≠j->(j<i/\kU ops j i=true)∨(i<j/\kU ops i j=true)
 tail: ∀i,k<=i->i<ops.size-> ∀j,j<k->kU ops j i=true
 sel: ∀(i:Nat) (o:Oper),ops[i]? =some o-> ∀cs b,o.op≠ .select cs b
 rdy: ∀t,k<=t->t<ops.size->Region.ready .any ops (qV ops.size t)=[t]
 fin:Region.ready .any ops (qV ops.size ops.size)=[]
theorem rO {ops:Array Oper} {i:Nat} {o:Oper} (h:ops[i]? =some o):ops.getD i default=o:=by
 rw[AL,h];rfl
theorem yE {ops:Array Oper} {i:Nat} {o:Oper} (h:ops[i]? =some o):nU ops i=o.dst:=by simp[nU,h]
theorem Hy {ops:Array Oper} {k:Nat} (h:chk ops k=true):Chk ops k:=by
 simp only[chk,eG,eX,ku,kD,Bool.or_eq_true,beq_iff_eq,bne_iff_ne,ne_eq,Bool.not_eq_true'] at h
 obtain⟨⟨⟨⟨⟨⟨⟨h1,h2⟩,h3⟩,h4⟩,h5⟩,h6⟩,h7⟩,h8⟩:=h
 have hlt: ∀{i:Nat} {o:Oper},ops[i]? =some o->i<ops.size:=fun h=>(aS.1 h).1
 have hget: ∀{i:Nat},i<ops.size->ops[i]? =some (ops.getD i default):=fun {i} hi=>by
  rw[wY hi,AL,wY hi];rfl
 refine⟨h1,?_,?_,?_,?_,?_,?_,h8⟩
 ·intro i o ho e he hb
  have:=h2 i (hlt ho) e (by rw[rO ho];simpa using he)
  rcases this with h|h
  ·rw[hb] at h;cases h
  ·exact h
 ·intro i j hi hj t hdi hdj
  have:=h3 i hi j hj
  have ei:=hget (fH hi h1)
  have ej:=hget (fH hj h1)
  rw[yE ei] at hdi
  rw[yE ej] at hdj
  rcases this with(h|h)|h
  ·exact h
  ·rw[hdi] at h;cases h
  ·rw[hdi,hdj] at h;exact absurd rfl h
 ·intro i o hi ho t ht j hj hdj hij
  have:=h4 i hi t (by rw[rO ho];exact ht) j hj
  rw[yE (hget (fH hj h1))] at hdj
  rcases this with((h|h)|h)|h
  ·exact absurd hdj h
  ·exact absurd h hij
  ·exact .inl h
  ·exact .inr h
 ·intro i hk hi j hj
  rcases h5 i hi with h|h
  ·omega
  ·exact h j hj
 ·intro i o ho cs b e
  have:=h6 i (hlt ho)
  rw[rO ho,e] at this
  cases this
 ·intro t hk ht
  have:=h7 (t-k) (by omega)
  rw[show k+(t-k)=t from by omega] at this
  exact this
section
variable {Ps : uH} {P : Program} {ops : Array Oper} {R0 R1 : World → World → Prop} {m : Option Nat} {Ss : List (Nat × Spec)} {W0 : World} {a0 : Act}
abbrev pf (ops:Array Oper) (a0:Act) (env:Nat->Value) (i:Nat):Act:=kz ops env a0 (List.range i)
theorem UE (env:Nat->Value) (i:Nat):pf ops a0 env (i+1)=(pf ops a0 env i).put (nU ops i) (env i):=by
 unfold pf;rw[List.range_succ,lK]
theorem jW {env env':Nat->Value} {i:Nat} (h: ∀j,j<i->env j=env' j):pf ops a0 env i=pf ops a0 env' i:=
 Bc fun j hj=>h j (by simpa using hj)
def Left (ops:Array Oper) (a0:Act) (env:Nat->Value) (j:Nat) (s:Spec) (W:World):Prop:=s.world (nH (ops.getD j default) (pf ops a0 env j)) (env j) W
def uT (Ps:uH) (ops:Array Oper) (a0:Act) (env:Nat->Value) (j:Nat) (W:World):Prop:=Ps j (nH (ops.getD j default) (pf ops a0 env j)) (env j) W
def ry (Ps:uH) (ops:Array Oper) (R0 R1:World->World->Prop) (m:Option Nat) (Ss:List (Nat×Spec)) (W0:World) (a0:Act) (env:Nat->Value) (i:Nat) (W:World):Prop:=
 kZ R0 R1 m i W0 W/\(∀j s,Ss.lookup j=some s->j<i->kU ops j i=true->Left ops a0 env j s W)/\
  (m=some i-> ∀j s,Ss.lookup j=some s->j<i->kU ops j i=true->uT Ps ops a0 env j W)
theorem Ub {env env':Nat->Value} {j:Nat} {s:Spec} {W:World} (h: ∀i,i<=j->env i=env' i) (hl:Left ops a0 env j s W):Left ops a0 env' j s W:=by
 unfold Left at*
 rw[jW (fun i hi=>(h i (by omega)).symm), <-h j (ai _)]
 exact hl
theorem Qm {env env':Nat->Value} {j:Nat} {W:World} (h: ∀i,i<=j->env i=env' i) (hl:uT Ps ops a0 env j W):uT Ps ops a0 env' j W:=by
 unfold uT at*
 rw[jW (fun i hi=>(h i (by omega)).symm), <-h j (ai _)]
 exact hl
theorem rU {env env':Nat->Value} {i:Nat} {W:World} (h: ∀j,j<i->env j=env' j) (hr:ry Ps ops R0 R1 m Ss W0 a0 env i W):ry Ps ops R0 R1 m Ss W0 a0 env' i W:=
 ⟨hr.1,fun j s hs hj ha=>Ub (fun t ht=>h t (by omega)) (hr.2.1 j s hs hj ha),fun hm j s hs hj ha=>Qm (fun t ht=>h t (by omega)) (hr.2.2 hm j s hs hj ha)⟩
def Fs (ops:Array Oper) (Ss:List (Nat×Spec)) (a0:Act) (env:Nat->Value):Nat->Facts
 |0=>[]
 |t+1=>match Ss.lookup t with
  |none=>Fs ops Ss a0 env t
  |some s=>(t,s.world (nH (ops.getD t default) (pf ops a0 env t)) (env t))::Fs ops Ss a0 env t
theorem Zm {env:Nat->Value} {t:Nat} {f:Nat×(World->Prop)}:f∈Fs ops Ss a0 env t↔ ∃j s,j<t/\Ss.lookup j=some s/\f=(j,Left ops a0 env j s):=by
 induction t with
 |zero=>simp[Fs]
 |succ t ih=>
  unfold Fs
  cases hs:Ss.lookup t with
  |none=>
   simp only[ih]
   constructor
   ·rintro⟨j,s,hj,h1,h2⟩;exact⟨j,s,by omega,h1,h2⟩
   ·rintro⟨j,s,hj,h1,h2⟩
    have:j≠t:=fun e=>by subst e;rw[hs] at h1;cases h1
    exact⟨j,s,by omega,h1,h2⟩
  |some s0=>
   simp only[gZ,ih]
   constructor
   ·rintro(rfl|⟨j,s,hj,h1,h2⟩)
    ·exact⟨t,s0,by omega,hs,rfl⟩
    ·exact⟨j,s,by omega,h1,h2⟩
   ·rintro⟨j,s,hj,h1,h2⟩
    by_cases e:j=t
    ·subst e;rw[hs] at h1;cases h1;exact .inl h2
    ·exact .inr ⟨j,s,by omega,h1,h2⟩
theorem Qr {env env':Nat->Value} {t:Nat} (h: ∀j,j<t->env j=env' j):Fs ops Ss a0 env t=Fs ops Ss a0 env' t:=by
 induction t with
 |zero=>rfl
 |succ t ih=>
  unfold Fs
  rw[ih (fun j hj=>h j (by omega)),jW (env:=env) (env':=env') (fun j hj=>h j (by omega)),h t (by omega)]
def Gs (Ps:uH) (ops:Array Oper) (Ss:List (Nat×Spec)) (a0:Act) (env:Nat->Value):Nat->Facts
 |0=>[]
 |t+1=>match Ss.lookup t with
  |none=>Gs Ps ops Ss a0 env t
  |some _=>(t,Ps t (nH (ops.getD t default) (pf ops a0 env t)) (env t))::Gs Ps ops Ss a0 env t
theorem adT {env:Nat->Value} {t:Nat} {f:Nat×(World->Prop)}:f∈Gs Ps ops Ss a0 env t-> ∃j s,j<t/\Ss.lookup j=some s/\f=(j,uT Ps ops a0 env j):=by
 induction t with
 |zero=>simp[Gs]
 |succ t ih=>
  unfold Gs
  cases hs:Ss.lookup t with
  |none=>exact fun h=>by obtain⟨j,s,hj,h1,h2⟩:=ih h;exact⟨j,s,by omega,h1,h2⟩
  |some s0=>
   simp only[gZ]
   rintro(rfl|h)
   ·exact⟨t,s0,by omega,hs,rfl⟩
   ·obtain⟨j,s,hj,h1,h2⟩:=ih h;exact⟨j,s,by omega,h1,h2⟩
theorem Qq {env env':Nat->Value} {t:Nat} (h: ∀j,j<t->env j=env' j):Gs Ps ops Ss a0 env t=Gs Ps ops Ss a0 env' t:=by
 induction t with
 |zero=>rfl
 |succ t ih=>
  unfold Gs
  rw[ih (fun j hj=>h j (by omega)),jW (env:=env) (env':=env') (fun j hj=>h j (by omega)),h t (by omega)]
theorem Ll {env:Nat->Value} {i:Nat} {W:World} (h:ry Ps ops R0 R1 m Ss W0 a0 env i W):TY ops R0 R1 m W0 (Fs ops Ss a0 env i) (Gs Ps ops Ss a0 env i) i W:=
 ⟨h.1,fun f hf ha=>by
   obtain⟨j,s,hj,hs,rfl⟩:=Zm.1 hf
   exact h.2.1 j s hs hj ha,fun hm f hf ha=>by
   obtain⟨j,s,hj,hs,rfl⟩:=adT hf
   exact h.2.2 hm j s hs hj ha⟩
def Rec (Ps:uH) (P:Program) (ops:Array Oper) (R0 R1:World->World->Prop) (m:Option Nat) (Ss:List (Nat×Spec)) (W0:World) (a0:Act) (env:Nat->Value) (i:Nat) (o:Oper):Prop:=
 match Ss.lookup i with
 |none=>(Region.wanted o (yielded ops (pf ops a0 env i).tmps)=true/\ ∃W,ry Ps ops R0 R1 m Ss W0 a0 env i W/\(execOp (pf ops a0 env i).eval o).run P W= .ok (.value (env i)) W)∨
   (Region.wanted o (yielded ops (pf ops a0 env i).tmps)=false/\env i=undef)
 |some s=>s.pure (nH o (pf ops a0 env i)) (env i)
variable {k : Nat} (hc : Chk ops k)
include hc
theorem FH {env env':Nat->Value} {i:Nat} {o:Oper} (hi:i<k) (ho:ops[i]? =some o) (h: ∀j,j<i->kU ops j i=true->env j=env' j):
 lH ops o (pf ops a0 env i) (pf ops a0 env' i):=by
 intro t ht
 refine agree t (fun _ _=>Iff.rfl) ?_ ?_
 ·intro j hj hd
  have hj':j<i:=by simpa using hj
  rcases hc.look i o hi ho t ht j (by omega) hd (by omega) with h1|h1
  ·exact h j hj' h1.2
  ·omega
 ·intro x y hx hy hdx hdy
  have hx':x<i:=by simpa using hx
  have hy':y<i:=by simpa using hy
  exact hc.acx x y (by omega) (by omega) t hdx hdy
theorem Zc {env env':Nat->Value} {i:Nat} (hi:i<k) (h: ∀j,j<i->kU ops j i=true->env j=env' j):
 nH (ops.getD i default) (pf ops a0 env i)=nH (ops.getD i default) (pf ops a0 env' i):=by
 have hlt:i<ops.size:=fH hi hc.kn
 have ho:ops[i]? =some (ops.getD i default):=by
  rw[wY hlt,AL,wY hlt];rfl
 exact(FH hc hi ho h).nH
theorem zx {env env':Nat->Value} {l:List Nat} (hl: ∀i∈l,i<k) (hd:Down ops (· ∈l)) (he: ∀i∈l,env i=env' i) {j:Nat} (hj:j∈l) {s:Spec} {W:World}
 (h:Left ops a0 env j s W):Left ops a0 env' j s W:=by
 unfold Left at*
 rw[<-Zc hc (hl j hj) (fun x _ hx=>he x (uh hd (fH (hl j hj) hc.kn) hj hx)), <-he j hj]
 exact h
theorem Cb {env env':Nat->Value} {l:List Nat} (hl: ∀i∈l,i<k) (hd:Down ops (· ∈l)) (he: ∀i∈l,env i=env' i) {j:Nat} (hj:j∈l) {W:World}
 (h:uT Ps ops a0 env j W):uT Ps ops a0 env' j W:=by
 unfold uT at*
 rw[<-Zc hc (hl j hj) (fun x _ hx=>he x (uh hd (fH (hl j hj) hc.kn) hj hx)), <-he j hj]
 exact h
theorem KI {env env':Nat->Value} {l:List Nat} (hl: ∀i∈l,i<k) (hd:Down ops (· ∈l)) (he: ∀i∈l,env i=env' i) {i:Nat} (ha: ∀j,j<i->kU ops j i=true->j∈l) {W:World}
 (h:ry Ps ops R0 R1 m Ss W0 a0 env i W):ry Ps ops R0 R1 m Ss W0 a0 env' i W:=
 ⟨h.1,fun j s hs hj hji=>zx hc hl hd he (ha j hj hji) (h.2.1 j s hs hj hji),fun hm j s hs hj hji=>Cb hc hl hd he (ha j hj hji) (h.2.2 hm j s hs hj hji)⟩
theorem ae1 {env env':Nat->Value} {l:List Nat} (hl: ∀i∈l,i<k) (hd:Down ops (· ∈l)) (he: ∀i∈l,env i=env' i) {i:Nat} {o:Oper} (hi:i∈l) (ho:ops[i]? =some o)
 (h:Rec Ps P ops R0 R1 m Ss W0 a0 env i o):Rec Ps P ops R0 R1 m Ss W0 a0 env' i o:=by
 have hik:i<k:=hl i hi
 have BB: ∀j,kU ops j i=true->j∈l:=fun j hj=>uh hd (fH hik hc.kn) hi hj
 have hL:lH ops o (pf ops a0 env i) (pf ops a0 env' i):=FH hc hik ho (fun j _ hj=>he j (BB j hj))
 unfold Rec at*
 rw[<-hL.wanted, <-hL.nH, <-he i hi, <-hL.exec (hc.sel i o ho)]
 cases hs:Ss.lookup i with
 |none=>
  simp only[hs] at h⊢
  exact h.imp (fun x=>⟨x.1,by obtain⟨W,hW,hr⟩:=x.2;exact⟨W,KI hc hl hd he (fun j _=>BB j) hW,hr⟩⟩) id
 |some s=>
  simp only[hs] at h⊢
  exact h
end
def Any (iV:Nat->(Act->World->Prop)->Act->World->Prop) (ops:Array Oper) (Qn:Act->World->Prop):Nat->Array Bool->Act->World->Prop
 |0,l,a,w=>Region.ready .any ops l=[]/\Qn a w
 |fuel+1,l,a,w=>(Region.ready .any ops l=[]->Qn a w)/\ ∀i∈Region.ready .any ops l,iV i (Any iV ops Qn fuel (l.setIfInBounds i true)) a w
def Seq (iV:Nat->(Act->World->Prop)->Act->World->Prop) (Qn:Act->World->Prop):List Nat->Act->World->Prop
 |[]=>Qn
 |i::r=>iV i (Seq iV Qn r)
def lst (n:Nat) (l:List Nat):Array Bool:=l.foldl (fun a i=>a.setIfInBounds i true) (Array.replicate n false)
theorem Gy (n:Nat) (l:List Nat) (i:Nat):lst n (l++[i])=(lst n l).setIfInBounds i true:=by simp[lst,List.foldl_append]
theorem UI (n:Nat) (l:List Nat) (i:Nat):(lst n l)[i]? =if i<n then some (decide (i∈l)) else none:=by
 have hsize: ∀l:List Nat,(lst n l).size=n:=by
  intro l
  induction l using pq with
  |h0=>simp[lst]
  |h1 l j ih=>rw[Gy];simp[ih]
 induction l using pq with
 |h0=>simp[lst,Array.getElem?_replicate]
 |h1 l j ih=>
  rw[Gy,Array.getElem?_setIfInBounds,hsize,ih]
  by_cases e:j=i
  ·subst e;by_cases h:j<n <;>simp[h]
  ·rw[ak e]
   have:i≠j:=fun h=>e h.symm
   simp[this]
theorem Ar (n t i:Nat):(qV n t)[i]? =if i<n then some (decide (i<t)) else none:=by
 unfold qV
 rw[List.getElem?_toArray,qy]
 by_cases h:i<n
 ·rw[List.getElem?_range h,aF h];rfl
 ·rw[List.getElem?_eq_none (by simpa using h),ak h];rfl
theorem Gz {n k:Nat} {l:List Nat} (h: ∀i,i∈l↔i<k):lst n l=qV n k:=by
 refine Array.ext_getElem? fun i=>?_
 rw[UI,Ar]
 simp[h]
theorem mem_ready {ops:Array Oper} {l:List Nat} {i:Nat}:i∈Region.ready .any ops (lst ops.size l)↔
 i<ops.size/\i∉l/\ ∀o,ops[i]? =some o-> ∀e∈o.after,Region.binds .any e=true->e.on∈l/\e.on<ops.size:=by
 unfold Region.ready
 simp only[List.mem_filter,kD,eG,Bool.not_eq_true',AL,UI]
 constructor
 ·rintro⟨hi,h1,h2⟩
  rw[aF hi] at h1
  refine⟨hi,by simpa using h1,fun o ho e he hb=>?_⟩
  rw[ho] at h2
  simp only[Option.map_some,Option.getD_some] at h2
  have:=(oH.1 h2) e he
  rw[hb] at this
  simp only[Bool.not_true,Bool.false_or] at this
  by_cases hlt:e.on<ops.size
  ·rw[aF hlt] at this
   exact⟨by simpa using this,hlt⟩
  ·rw[ak hlt] at this;cases this
 ·rintro⟨hi,h1,h2⟩
  refine⟨hi,by rw[aF hi];simpa using h1,?_⟩
  obtain⟨o,ho⟩: ∃o,ops[i]? =some o:=⟨_,wY hi⟩
  rw[ho]
  simp only[Option.map_some,Option.getD_some]
  refine oH.2 fun e he=>?_
  by_cases hb:Region.binds .any e=true
  ·obtain⟨h3,h4⟩:=h2 o ho e he hb
   rw[aF h4]
   simp[h3]
  ·simp[hb]
section
variable {iV : Nat → (Act → World → Prop) → Act → World → Prop} {ops : Array Oper} {Qn : Act → World → Prop} {k : Nat}
theorem Qe (hc:Chk ops k) (hmono: ∀i (K K':Act->World->Prop) a w,(∀a w,K a w->K' a w)->iV i K a w->iV i K' a w):
 ∀j t a w,t+j=ops.size->k<=t->Seq iV Qn (List.range' t j) a w->Any iV ops Qn j (qV ops.size t) a w:=by
 intro j
 induction j with
 |zero=>
  intro t a w ht _ h
  have:t=ops.size:=by omega
  subst this
  exact⟨hc.fin,h⟩
 |succ j ih=>
  intro t a w ht hk h
  have hr:=hc.rdy t hk (by omega)
  refine⟨fun e=>(by rw[hr] at e;cases e),fun i hi=>?_⟩
  rw[hr] at hi
  have:i=t:=by simpa using hi
  subst this
  rw[List.range'_succ] at h
  refine hmono _ _ _ _ _ (fun a w hs=>?_) h
  have e:(qV ops.size i).setIfInBounds i true=qV ops.size (i+1):=by
   refine Array.ext_getElem? fun x=>?_
   have hsz:(qV ops.size i).size=ops.size:=by simp[qV]
   rw[Array.getElem?_setIfInBounds,hsz,Ar,Ar]
   by_cases e:i=x
   ·subst e;simp
   ·rw[ak e]
    by_cases hx:x<ops.size
    ·simp only[hx,if_true,Option.some.injEq,decide_eq_decide];omega
    ·simp[hx]
  rw[e]
  exact ih (i+1) a w (by omega) (by omega) hs
end
theorem all_in {k:Nat} {l:List Nat} (hn:l.Nodup) (h1: ∀i∈l,i<k) (h2:k<=l.length): ∀i,i<k->i∈l:=by
 intro i hi
 refine Classical.byContradiction fun h=>?_
 have:=List.Nodup.length_le_of_subset (l₁:=i::l) (l₂:=List.range k) (List.nodup_cons.2 ⟨h,hn⟩) (fun x hx=>by
  rcases gZ.1 hx with rfl|hx
  ·simpa using hi
  ·simpa using h1 x hx)
 simp at this;omega
theorem Zt {k:Nat} {l:List Nat} (hn:l.Nodup) (h1: ∀i∈l,i<k):l.length<=k:=by
 have:=List.Nodup.length_le_of_subset (l₁:=l) (l₂:=List.range k) hn (fun x hx=>by simpa using h1 x hx)
 simpa using this
end Go.RG
namespace Go.RX
open Go.RowKit Go.RG
def Does (X:List PanicEntry->World->Prop) (P:Program) (o:Oper) (ρ:Operand->Value) (W:World) (R:Value->World->Prop):Prop:=
 match (execOp ρ o).run P W with
 | .ok (.value v) w'=>R v w'
 | .ok .skip w'=>R undef w'
 | .ok (.enter f args) w'=>Calls P f args w' (fun e w''=>(∃v,e= .returned v/\R v w'')∨ ∃ps,e= .panicked ps/\X ps w'')
 |_=>False
def iI (X:List PanicEntry->World->Prop) (Ps:uH) (P:Program) (ops:Array Oper) (R0 R1:World->World->Prop) (m:Option Nat) (Ss:List (Nat×RG.Spec)) (Fin:Act->World->Prop) (W0:World):
 List Oper->Nat->Act->Facts->Facts->Prop
 |[],_,a,F,_=> ∀W,R1 W0 W->(∀f∈F,f.2 W)->Fin a W
 |o::rest,i,a,F,G=>
  match Ss.lookup i with
  |none=> ∃v,((Region.wanted o (yielded ops a.tmps)=true/\ ∀W,TY ops R0 R1 m W0 F G i W->(execOp a.eval o).run P W= .ok (.value v) W)∨
    (Region.wanted o (yielded ops a.tmps)=false/\v=undef))/\iI X Ps P ops R0 R1 m Ss Fin W0 rest (i+1) (a.put o.dst v) F G
  |some s=>Region.wanted o (yielded ops a.tmps)=true/\(∃v,s.pure (nH o a) v)/\
    (∀W,TY ops R0 R1 m W0 F G i W->Does X P o a.eval W (fun v W'=>s.pure (nH o a) v/\s.world (nH o a) v W'/\xq R0 R1 m i W W'/\Ps i (nH o a) v W'))/\
    ((∀v W W',s.world (nH o a) v W->kZ R0 R1 m i W W'->s.world (nH o a) v W')/\(∀v W W',Ps i (nH o a) v W->R0 W W'->Ps i (nH o a) v W'))/\
    ∀v,s.pure (nH o a) v->iI X Ps P ops R0 R1 m Ss Fin W0 rest (i+1) (a.put o.dst v) ((i,s.world (nH o a) v)::F) ((i,Ps i (nH o a) v)::G)
section
variable {X : List PanicEntry → World → Prop} {Ps : uH} {P : Program} {ops : Array Oper} {R0 R1 : World → World → Prop} {m : Option Nat} {Ss : List (Nat × RG.Spec)} {W0 : World} {a0 : Act}
def Node (X:List PanicEntry->World->Prop) (Ps:uH) (P:Program) (ops:Array Oper) (R0 R1:World->World->Prop) (m:Option Nat) (Ss:List (Nat×RG.Spec)) (W0:World) (a0:Act) (env:Nat->Value) (i:Nat) (o:Oper):Prop:=
 match Ss.lookup i with
 |none=>(Region.wanted o (yielded ops (pf ops a0 env i).tmps)=true/\ ∀W,ry Ps ops R0 R1 m Ss W0 a0 env i W->(execOp (pf ops a0 env i).eval o).run P W= .ok (.value (env i)) W)∨
   (Region.wanted o (yielded ops (pf ops a0 env i).tmps)=false/\env i=undef)
 |some s=>Region.wanted o (yielded ops (pf ops a0 env i).tmps)=true/\s.pure (nH o (pf ops a0 env i)) (env i)/\
   (∀W,ry Ps ops R0 R1 m Ss W0 a0 env i W->Does X P o (pf ops a0 env i).eval W (fun v W'=>s.pure (nH o (pf ops a0 env i)) v/\s.world (nH o (pf ops a0 env i)) v W'/\xq R0 R1 m i W W'/\Ps i (nH o (pf ops a0 env i)) v W'))/\
   (∀v W W',s.world (nH o (pf ops a0 env i)) v W->kZ R0 R1 m i W W'->s.world (nH o (pf ops a0 env i)) v W')/\
   (∀v W W',Ps i (nH o (pf ops a0 env i)) v W->R0 W W'->Ps i (nH o (pf ops a0 env i)) v W')
theorem Ua {env env':Nat->Value} {i:Nat} {o:Oper} (h: ∀j,j<=i->env j=env' j) (hn:Node X Ps P ops R0 R1 m Ss W0 a0 env i o):Node X Ps P ops R0 R1 m Ss W0 a0 env' i o:=by
 have hp:pf ops a0 env i=pf ops a0 env' i:=jW fun j hj=>h j (by omega)
 have hr: ∀W,ry Ps ops R0 R1 m Ss W0 a0 env' i W->ry Ps ops R0 R1 m Ss W0 a0 env i W:=fun W=>rU fun j hj=>(h j (by omega)).symm
 unfold Node at*
 rw[<-hp, <-h i (ai _)]
 cases hs:Ss.lookup i with
 |none=>
  simp only[hs] at hn⊢
  exact hn.imp (fun x=>⟨x.1,fun W hW=>x.2 W (hr W hW)⟩) id
 |some s=>
  simp only[hs] at hn⊢
  exact⟨hn.1,hn.2.1,fun W hW=>hn.2.2.1 W (hr W hW),hn.2.2.2⟩
variable {k : Nat} (hc : Chk ops k)
include hc
theorem along {Fin:Act->World->Prop} {env:Nat->Value} {l:List Nat} (hl: ∀i∈l,i<k) (hd:Down ops (· ∈l))
 (hrec: ∀i∈l, ∀o,ops[i]? =some o->Rec Ps P ops R0 R1 m Ss W0 a0 env i o)
 (Es:iI X Ps P ops R0 R1 m Ss Fin W0 (ops.toList.take k) 0 a0 [] []):
 ∃env',(∀i∈l,env' i=env i)/\(∀i o,i<k->ops[i]? =some o->Node X Ps P ops R0 R1 m Ss W0 a0 env' i o)/\
  (∀W,R1 W0 W->(∀j s,Ss.lookup j=some s->j<k->RG.Left ops a0 env' j s W)->Fin (pf ops a0 env' k) W):=by
 have hlen:(ops.toList.take k).length=k:=by have:=hc.kn;simp[gU];omega
 have go: ∀t,t<=k-> ∃env',(∀i∈l,env' i=env i)/\(∀i o,i<t->ops[i]? =some o->Node X Ps P ops R0 R1 m Ss W0 a0 env' i o)/\
  iI X Ps P ops R0 R1 m Ss Fin W0 ((ops.toList.take k).drop t) t (pf ops a0 env' t) (Fs ops Ss a0 env' t) (Gs Ps ops Ss a0 env' t):=by
  intro t
  induction t with
  |zero=>exact fun _=>⟨env,fun _ _=>rfl,fun i o hi=>by omega,by simpa [Fs,Gs,pf,kz] using Es⟩
  |succ t ih=>
   intro ht
   obtain⟨env',h1,h2,h3⟩:=ih (by omega)
   have htk:t<k:=by omega
   have hlt:t<ops.size:=fH htk hc.kn
   obtain⟨o,ho⟩: ∃o,ops[t]? =some o:=⟨_,wY hlt⟩
   have hcons:(ops.toList.take k).drop t=o::(ops.toList.take k).drop (t+1):=by
    rw[uj (by omega)]
    congr 1
    have:(ops.toList.take k)[t]? =some o:=by rw[List.getElem?_take,aF htk];simpa using ho
    rw[dw (by omega)] at this
    exact jD this
   rw[hcons] at h3
   unfold iI at h3
   have hdst:nU ops t=o.dst:=yE ho
   have iV: ∀v,(t∈l->v=env t)->(∀e:Nat->Value,(∀j,j<t->e j=env' j)->e t=v->Node X Ps P ops R0 R1 m Ss W0 a0 e t o)->
    (∀e:Nat->Value,(∀j,j<t->e j=env' j)->e t=v->iI X Ps P ops R0 R1 m Ss Fin W0 ((ops.toList.take k).drop (t+1)) (t+1) (pf ops a0 e (t+1)) (Fs ops Ss a0 e (t+1)) (Gs Ps ops Ss a0 e (t+1)))->
    ∃yD,(∀i∈l,yD i=env i)/\(∀i o,i<t+1->ops[i]? =some o->Node X Ps P ops R0 R1 m Ss W0 a0 yD i o)/\
     iI X Ps P ops R0 R1 m Ss Fin W0 ((ops.toList.take k).drop (t+1)) (t+1) (pf ops a0 yD (t+1)) (Fs ops Ss a0 yD (t+1)) (Gs Ps ops Ss a0 yD (t+1)):=by
    intro v hv hN hT
    refine⟨fun j=>if j=t then v else env' j,?_,?_,?_⟩
    ·intro i hi
     by_cases e:i=t
     ·subst e;simp only[aF];exact hv hi
     ·simp only[ak e];exact h1 i hi
    ·intro i o' hi ho'
     by_cases e:i=t
     ·subst e;rw[ho] at ho';cases ho'
      exact hN _ (fun j hj=>ak (by omega)) (aF rfl)
     ·exact Ua (fun j hj=>(ak (by omega)).symm) (h2 i o' (by omega) ho')
    ·exact hT _ (fun j hj=>ak (by omega)) (aF rfl)
   cases hs:Ss.lookup t with
   |none=>
    simp only[hs] at h3
    obtain⟨v,hv,hT⟩:=h3
    refine iV v ?_ ?_ ?_
    ·intro htl
     have hR:=hrec t htl o ho
     have BB: ∀j,kU ops j t=true->j∈l:=fun j hj=>uh hd hlt htl hj
     have hL:lH ops o (pf ops a0 env t) (pf ops a0 env' t):=FH hc htk ho (fun j _ hj=>(h1 j (BB j hj)).symm)
     unfold Rec at hR
     simp only[hs] at hR
     rw[hL.wanted,hL.exec (hc.sel t o ho)] at hR
     rcases hv with⟨hw,hv⟩|⟨hw,hv⟩
     ·rcases hR with⟨_,W,hW,hr⟩|⟨hw',_⟩
      ·have:=hv W (Ll (KI hc hl hd (fun i hi=>(h1 i hi).symm) (fun j _=>BB j) hW))
       rw[hr] at this
       injection this with e1 _
       injection e1 with e2
       exact e2.symm
      ·rw[hw] at hw';cases hw'
     ·rcases hR with⟨hw',_⟩|⟨_,hu⟩
      ·rw[hw] at hw';cases hw'
      ·rw[hv,hu]
    ·intro e he het
     have hp:pf ops a0 e t=pf ops a0 env' t:=jW he
     unfold Node
     simp only[hs]
     rw[hp,het]
     exact hv.imp (fun x=>⟨x.1,fun W hW=>x.2 W (Ll (rU he hW))⟩) id
    ·intro e he het
     rw[UE,hdst,het,jW he]
     have:Fs ops Ss a0 e (t+1)=Fs ops Ss a0 env' t:=by
      show(match Ss.lookup t with|none=>_|some s=>_)=_
      simp only[hs]
      exact Qr he
     rw[this]
     have:Gs Ps ops Ss a0 e (t+1)=Gs Ps ops Ss a0 env' t:=by
      show(match Ss.lookup t with|none=>_|some s=>_)=_
      simp only[hs]
      exact Qq he
     rw[this]
     exact hT
   |some s=>
    simp only[hs] at h3
    obtain⟨hw,⟨v0,hv0⟩,Ew,hst,hT⟩:=h3
    have key: ∀v,s.pure (nH o (pf ops a0 env' t)) v->(t∈l->v=env t)-> ∃yD,(∀i∈l,yD i=env i)/\(∀i o,i<t+1->ops[i]? =some o->Node X Ps P ops R0 R1 m Ss W0 a0 yD i o)/\
     iI X Ps P ops R0 R1 m Ss Fin W0 ((ops.toList.take k).drop (t+1)) (t+1) (pf ops a0 yD (t+1)) (Fs ops Ss a0 yD (t+1)) (Gs Ps ops Ss a0 yD (t+1)):=by
     intro v hv hvl
     refine iV v hvl ?_ ?_
     ·intro e he het
      have hp:pf ops a0 e t=pf ops a0 env' t:=jW he
      unfold Node
      simp only[hs]
      rw[hp,het]
      exact⟨hw,hv,fun W hW=>Ew W (Ll (rU he hW)),hst⟩
     ·intro e he het
      rw[UE,hdst,het,jW he]
      have:Fs ops Ss a0 e (t+1)=(t,s.world (nH o (pf ops a0 env' t)) v)::Fs ops Ss a0 env' t:=by
       show(match Ss.lookup t with|none=>_|some s=>_)=_
       simp only[hs]
       rw[Qr he,jW he,het,rO ho]
      rw[this]
      have:Gs Ps ops Ss a0 e (t+1)=(t,Ps t (nH o (pf ops a0 env' t)) v)::Gs Ps ops Ss a0 env' t:=by
       show(match Ss.lookup t with|none=>_|some s=>_)=_
       simp only[hs]
       rw[Qq he,jW he,het,rO ho]
      rw[this]
      exact hT v hv
    by_cases htl:t∈l
    ·have hR:=hrec t htl o ho
     have BB: ∀j,kU ops j t=true->j∈l:=fun j hj=>uh hd hlt htl hj
     have hL:lH ops o (pf ops a0 env t) (pf ops a0 env' t):=FH hc htk ho (fun j _ hj=>(h1 j (BB j hj)).symm)
     unfold Rec at hR
     simp only[hs] at hR
     rw[hL.nH] at hR
     exact key (env t) hR (fun _=>rfl)
    ·exact key v0 hv0 (fun h=>absurd h htl)
 obtain⟨env',h1,h2,h3⟩:=go k (ai _)
 refine⟨env',h1,h2,fun W hW hF=>?_⟩
 rw[List.drop_of_length_le (by omega)] at h3
 unfold iI at h3
 exact h3 W hW (fun f hf=>by
  obtain⟨j,s,hj,hs,rfl⟩:=Zm.1 hf
  exact hF j s hs hj)
end
section
variable {X : List PanicEntry → World → Prop} {iV : Nat → (Act → World → Prop) → Act → World → Prop} {P : Program} {ops : Array Oper} {Qn : Act → World → Prop} {Ps : uH} {R0 R1 : World → World → Prop} {m : Option Nat} {Ss : List (Nat × RG.Spec)} {W0 : World} {a0 : Act} {k : Nat}
theorem acK (hR:Ip R0 R1) (hc:Chk ops k) (hmono: ∀i (K K':Act->World->Prop) a w,(∀a w,K a w->K' a w)->iV i K a w->iV i K' a w)
 (Ew: ∀(i:Nat) (o:Oper) (K:Act->World->Prop) (a:Act) (W:World) (R:Value->World->Prop),a.defers=a0.defers->ops[i]? =some o->Region.wanted o (yielded ops a.tmps)=true->Does X P o a.eval W R->(∀v W',R v W'->K (a.put o.dst v) W')->iV i K a W)
 (OV: ∀(i:Nat) (o:Oper) (K:Act->World->Prop) (a:Act) (W:World),ops[i]? =some o->Region.wanted o (yielded ops a.tmps)=false->K (a.put o.dst undef) W->iV i K a W)
 (Es:iI X Ps P ops R0 R1 m Ss (Seq iV Qn (List.range' k (ops.size-k))) W0 (ops.toList.take k) 0 a0 [] []):
 ∀(fuel:Nat) (l:List Nat) (env:Nat->Value) (W:World),l.length+fuel=ops.size->l.Nodup->(∀i∈l,i<k)->Down ops (· ∈l)->
  (∀i∈l, ∀o,ops[i]? =some o->Rec Ps P ops R0 R1 m Ss W0 a0 env i o)->(∀j s,Ss.lookup j=some s->j∈l->RG.Left ops a0 env j s W)->
  R1 W0 W->((∀i,m=some i->i∉l)->R0 W0 W/\ ∀j s,Ss.lookup j=some s->j∈l->uT Ps ops a0 env j W)->Any iV ops Qn fuel (lst ops.size l) (kz ops env a0 l) W:=by
 intro fuel
 induction fuel with
 |zero=>
  intro l env W hlen hnd hl hd hrec hleft Am _
  have hk:k=ops.size:=by
   have h1:=Zt hnd hl
   have:=hc.kn;omega
  have hall:=all_in hnd hl (by omega)
  obtain⟨env',he,_,hfin⟩:=along (P:=P) hc hl hd hrec Es
  have hf:=hfin W Am (fun j s hs hj=>RG.zx hc hl hd (fun i hi=>(he i hi).symm) (hall j hj) (hleft j s hs (hall j hj)))
  have ea:kz ops env a0 l=pf ops a0 env' k:=U3 (by rw[mf,mf]) fun t=>
   agree t (fun i hi=>⟨fun h=>by simpa using hl i h,fun h=>hall i (by simpa using h)⟩) (fun i hi _=>(he i hi).symm) (fun i j hi hj=>hc.acx i j (hl i hi) (hl j hj) t)
  rw[Gz (k:=k) (fun i=>⟨hl i,hall i⟩),ea,hk]
  rw[show ops.size-k=0 from by omega] at hf
  rw[hk] at hf
  exact RG.Qe hc hmono 0 ops.size _ _ (by omega) (by omega) hf
 |succ fuel ih=>
  intro l env W hlen hnd hl hd hrec hleft Am hnil
  obtain⟨env',he,ZT,hfin⟩:=along (P:=P) hc hl hd hrec Es
  have hes: ∀i∈l,env i=env' i:=fun i hi=>(he i hi).symm
  by_cases hfull:k<=l.length
  ·have hall:=all_in hnd hl hfull
   have hk:l.length=k:=by have:=Zt hnd hl;omega
   have hf:=hfin W Am (fun j s hs hj=>RG.zx hc hl hd hes (hall j hj) (hleft j s hs (hall j hj)))
   have ea:kz ops env a0 l=pf ops a0 env' k:=U3 (by rw[mf,mf]) fun t=>
    agree t (fun i hi=>⟨fun h=>by simpa using hl i h,fun h=>hall i (by simpa using h)⟩) (fun i hi _=>hes i hi) (fun i j hi hj=>hc.acx i j (hl i hi) (hl j hj) t)
   rw[Gz (k:=k) (fun i=>⟨hl i,hall i⟩),ea]
   have e:fuel+1=ops.size-k:=by omega
   rw[e]
   exact RG.Qe hc hmono (ops.size-k) k _ _ (by have:=hc.kn;omega) (ai _) hf
  ·--one more of the first k comes up
   have hex: ∃i,i<k/\i∉l/\ ∀j,j<i->j∈l:=by
    have h0: ∃i,i<k/\i∉l:=Classical.byContradiction fun hno=>by
     have hall: ∀i,i<k->i∈l:=fun i hi=>Classical.byContradiction fun h=>hno ⟨i,hi,h⟩
     have:=List.Nodup.length_le_of_subset (l₁:=List.range k) (l₂:=l) List.nodup_range (fun x hx=>hall x (by simpa using hx))
     simp at this;omega
    obtain⟨i,hi,hil⟩:=h0
    induction i using Nat.strongRecOn with
    |_ i ihh=>
     by_cases hj: ∃j,j<i/\j∉l
     ·obtain⟨j,hji,hjl⟩:=hj
      exact ihh j hji (by omega) hjl
     ·exact⟨i,hi,hil,fun j hji=>Classical.byContradiction fun h=>hj ⟨j,hji,h⟩⟩
   refine⟨fun e=>?_,fun i hi=>?_⟩
   ·obtain⟨i,hi,hil,hbelow⟩:=hex
    have:i∈Region.ready .any ops (lst ops.size l):=RG.mem_ready.2 ⟨fH hi hc.kn,hil,fun o ho e he hb=>by
     have:=hc.lt i o ho e he hb
     exact⟨hbelow _ this,by have:=hc.kn;omega⟩⟩
    rw[e] at this;cases this
   ·obtain⟨hin,hil,ZF⟩:=RG.mem_ready.1 hi
    obtain⟨o,ho⟩: ∃o,ops[i]? =some o:=⟨_,wY hin⟩
    have BB: ∀j,kU ops j i=true->j≠i->j∈l:=fun j hj hne=>Xy hd ho (fun e he hb=>(ZF o ho e he hb).1) hj hne
    have hik:i<k:=Classical.byContradiction fun hge=>by
     obtain⟨j,hj,hjl,_⟩:=hex
     exact hjl (BB j (hc.tail i (by omega) hin j hj) (by omega))
    have hN:=ZT i o hik ho
    have hL:lH ops o (kz ops env a0 l) (pf ops a0 env' i):=by
     intro t ht
     refine agree t ?_ (fun j hj _=>hes j hj) (fun x y hx hy=>hc.acx x y (hl x hx) (hl y hy) t)
     intro j hd'
     by_cases hji:j=i
     ·subst hji;simp[hil]
     ·constructor
      ·intro hjl
       rcases hc.look i o hik ho t ht j (hl j hjl) hd' (fun e=>hji e.symm) with h|h
       ·simpa using h.1
       ·exact absurd (uh hd (fH (hl j hjl) hc.kn) hjl h.2) hil
      ·intro hjr
       have aoF:j<i:=by simpa using hjr
       rcases hc.look i o hik ho t ht j (by omega) hd' (fun e=>hji e.symm) with h|h
       ·exact BB j h.2 hji
       ·omega
    have GX:ry Ps ops R0 R1 m Ss W0 a0 env' i W:=by
     refine⟨?_,fun j s hs hj ha=>RG.zx hc hl hd hes (BB j ha (by omega)) (hleft j s hs (BB j ha (by omega))),fun hm j s hs hj ha=>
      Cb hc hl hd hes (BB j ha (by omega)) ((hnil (fun x hx=>by rw[hm] at hx;cases hx;exact hil)).2 j s hs (BB j ha (by omega)))⟩
     unfold kZ
     by_cases hm:m=some i
     ·rw[aF hm];exact(hnil (fun x hx=>by rw[hm] at hx;cases hx;exact hil)).1
     ·rw[ak hm];exact Am
    have ho':nU ops i=o.dst:=yE ho
    have hnd':(l++[i]).Nodup:=by
     rw[List.nodup_append]
     refine⟨hnd,by simp,fun x hx y hy=>?_⟩
     have:y=i:=by simpa using hy
     subst this
     exact fun e=>hil (e▸hx)
    have hl': ∀x∈l++[i],x<k:=fun x hx=>by
     rcases iP.1 hx with h|h
     ·exact hl x h
     ·have:x=i:=by simpa using h
      omega
    have hd':Down ops (· ∈l++[i]):=by
     intro x ox hox hx e he hb
     rcases iP.1 hx with h|h
     ·exact oD _ (hd x ox hox h e he hb)
     ·have:x=i:=by simpa using h
      subst this
      rw[ho] at hox;cases hox
      exact oD _ (ZF o ho e he hb).1
    have hlen':(l++[i]).length+fuel=ops.size:=by simp;omega
    have close: ∀v W',(∀e:Nat->Value,(∀j,j<i->e j=env' j)->e i=v->Rec Ps P ops R0 R1 m Ss W0 a0 e i o)->
     (∀e:Nat->Value,(∀j,j∈l->e j=env' j)->(∀j,j<i->e j=env' j)->e i=v-> ∀j s,Ss.lookup j=some s->j∈l++[i]->RG.Left ops a0 e j s W')->R1 W0 W'->((∀x,m=some x->x∉l++[i])->R0 W0 W')->
     ((∀x,m=some x->x∉l++[i])-> ∀e:Nat->Value,(∀j,j∈l->e j=env' j)->(∀j,j<i->e j=env' j)->e i=v-> ∀j s,Ss.lookup j=some s->j∈l++[i]->uT Ps ops a0 e j W')->
     Any iV ops Qn fuel ((lst ops.size l).setIfInBounds i true) ((kz ops env a0 l).put o.dst v) W':=by
     intro v W' hR hLf hE hE0 hLp
     have e1:kz ops (fun j=>if j=i then v else env' j) a0 (l++[i])=(kz ops env a0 l).put o.dst v:=by
      rw[lK,ho',aF rfl]
      congr 1
      exact Bc fun j hj=>by
       have:j≠i:=fun e=>hil (e▸hj)
       rw[ak this];exact he j hj
     rw[<-e1, <-Gy]
     have hag: ∀j∈l,env j=(fun j=>if j=i then v else env' j) j:=fun j hj=>by
      have:j≠i:=fun e=>hil (e▸hj)
      simp only[ak this];exact hes j hj
     refine ih (l++[i]) _ W' hlen' hnd' hl' hd' ?_ ?_ hE (fun hno=>⟨hE0 hno,hLp hno _ (fun j hj=>ak (fun(e:j=i)=>hil (by rw[<-e];exact hj))) (fun j hj=>ak (by omega)) (aF rfl)⟩)
     ·intro x hx ox hox
      rcases iP.1 hx with h|h
      ·exact ae1 hc hl hd hag h hox (hrec x h ox hox)
      ·have:x=i:=by simpa using h
       subst this
       rw[ho] at hox;cases hox
       exact hR _ (fun j hj=>ak (by omega)) (aF rfl)
     ·exact hLf _ (fun j hj=>ak (fun(e:j=i)=>hil (by rw[<-e];exact hj))) (fun j hj=>ak (by omega)) (aF rfl)
    have old: ∀(e:Nat->Value),(∀j,j∈l->e j=env' j)-> ∀j s W',Ss.lookup j=some s->j∈l->kZ R0 R1 m j W W'->RG.Left ops a0 e j s W':=by
     intro e Dj j s W' hs hj hE
     have hNj: ∃oj,ops[j]? =some oj:=⟨_,wY (fH (hl j hj) hc.kn)⟩
     obtain⟨oj,hoj⟩:=hNj
     have hst:=ZT j oj (hl j hj) hoj
     unfold Node at hst
     simp only[hs] at hst
     have h1:RG.Left ops a0 env' j s W:=RG.zx hc hl hd hes hj (hleft j s hs hj)
     refine RG.zx hc hl hd (fun x hx=>(Dj x hx).symm) hj ?_
     unfold RG.Left at h1⊢
     rw[rO hoj] at h1⊢
     exact hst.2.2.2.1 _ W W' h1 hE
    have af5:(∀x,m=some x->x∉l)-> ∀(e:Nat->Value),(∀j,j∈l->e j=env' j)-> ∀j s W',Ss.lookup j=some s->j∈l->R0 W W'->uT Ps ops a0 e j W':=by
     intro hno e Dj j s W' hs hj hE
     have hNj: ∃oj,ops[j]? =some oj:=⟨_,wY (fH (hl j hj) hc.kn)⟩
     obtain⟨oj,hoj⟩:=hNj
     have hst:=ZT j oj (hl j hj) hoj
     unfold Node at hst
     simp only[hs] at hst
     have h1:uT Ps ops a0 env' j W:=Cb hc hl hd hes hj ((hnil hno).2 j s hs hj)
     refine Cb hc hl hd (fun x hx=>(Dj x hx).symm) hj ?_
     unfold uT at h1⊢
     rw[rO hoj] at h1⊢
     exact hst.2.2.2.2 _ W W' h1 hE
    unfold Node at hN
    cases hs:Ss.lookup i with
    |none=>
     simp only[hs] at hN
     have same: ∀v,v=env' i->((Region.wanted o (yielded ops (pf ops a0 env' i).tmps)=true/\ ∃W,ry Ps ops R0 R1 m Ss W0 a0 env' i W/\(execOp (pf ops a0 env' i).eval o).run P W= .ok (.value (env' i)) W)∨
      (Region.wanted o (yielded ops (pf ops a0 env' i).tmps)=false/\env' i=undef))->Any iV ops Qn fuel ((lst ops.size l).setIfInBounds i true) ((kz ops env a0 l).put o.dst v) W:=by
      intro v hv hcase
      refine close v W ?_ ?_ Am ?_ ?_
      ·intro e Dj hei
       have hp:pf ops a0 e i=pf ops a0 env' i:=jW Dj
       unfold Rec
       simp only[hs]
       rw[hp,hei,hv]
       exact hcase.imp (fun x=>⟨x.1,by obtain⟨Wx,h1,h2⟩:=x.2;exact⟨Wx,rU (fun j hj=>(Dj j hj).symm) h1,h2⟩⟩) id
      ·intro e hel Dj hei j s hjs hj
       rcases iP.1 hj with h|h
       ·exact old e hel j s W hjs h (hR.abS j W)
       ·have:j=i:=by simpa using h
        subst this
        rw[hs] at hjs;cases hjs
      ·intro hno
       exact(hnil (fun x hx hxl=>hno x hx (oD _ hxl))).1
      ·intro hno e hel Dj hei j s hjs hj
       rcases iP.1 hj with h|h
       ·exact af5 (fun x hx hxl=>hno x hx (oD _ hxl)) e hel j s W hjs h (hR.refl W)
       ·have:j=i:=by simpa using h
        subst this
        rw[hs] at hjs;cases hjs
     rcases hN with⟨hw,hrun⟩|⟨hw,hu⟩
     ·refine Ew i o _ _ W (fun v W'=>v=env' i/\W'=W) (mf env a0 l) ho (by rw[hL.wanted];exact hw) ?_ ?_
      ·unfold Does
       rw[hL.exec (hc.sel i o ho),hrun W GX]
       exact⟨rfl,rfl⟩
      ·rintro v W' ⟨hv,rfl⟩
       exact same v hv (.inl ⟨hw,_,GX,hrun _ GX⟩)
     ·refine OV i o _ _ W ho (by rw[hL.wanted];exact hw) ?_
      exact same undef hu.symm (.inr ⟨hw,hu⟩)
    |some s=>
     simp only[hs] at hN
     obtain⟨hw,_,hdo,hst⟩:=hN
     have ahj:=hdo W GX
     have ahi:Does X P o (kz ops env a0 l).eval W (fun v W'=>s.pure (nH o (pf ops a0 env' i)) v/\s.world (nH o (pf ops a0 env' i)) v W'/\xq R0 R1 m i W W'/\Ps i (nH o (pf ops a0 env' i)) v W'):=by
      unfold Does at ahj⊢
      rw[hL.exec (hc.sel i o ho)]
      exact ahj
     refine Ew i o _ _ W _ (mf env a0 l) ho (by rw[hL.wanted];exact hw) ahi ?_
     rintro v W' ⟨agC,hworld,hE,hpre⟩
     refine close v W' ?_ ?_ ?_ ?_ ?_
     ·intro e Dj hei
      have hp:pf ops a0 e i=pf ops a0 env' i:=jW Dj
      unfold Rec
      simp only[hs]
      rw[hp,hei]
      exact agC
     ·intro e hel Dj hei j s' hjs hj
      rcases iP.1 hj with h|h
      ·refine old e hel j s' W' hjs h ?_
       have hji:j≠i:=fun x=>hil (x▸h)
       unfold xq at hE
       unfold kZ
       by_cases hm:m=some i
       ·rw[aF hm] at hE
        rw[ak (by rw[hm];exact fun x=>hji (jD x).symm)]
        exact hE
       ·rw[ak hm] at hE
        split
        ·exact hE
        ·exact hR.sub hE
      ·have:j=i:=by simpa using h
       subst this
       rw[hs] at hjs;cases hjs
       unfold RG.Left
       rw[rO ho,jW Dj,hei]
       exact hworld
     ·refine hR.adM Am ?_
      unfold xq at hE
      split at hE
      ·exact hE
      ·exact hR.sub hE
     ·intro hno
      have hm:m≠some i:=fun hm=>hno i hm (by simp)
      unfold xq at hE
      rw[ak hm] at hE
      exact hR.adN (hnil (fun x hx hxl=>hno x hx (oD _ hxl))).1 hE
     ·intro hno e hel Dj hei j s' hjs hj
      have hm:m≠some i:=fun hm=>hno i hm (by simp)
      unfold xq at hE
      rw[ak hm] at hE
      rcases iP.1 hj with h|h
      ·exact af5 (fun x hx hxl=>hno x hx (oD _ hxl)) e hel j s' W' hjs h hE
      ·have:j=i:=by simpa using h
       subst this
       unfold uT
       rw[rO ho,jW Dj,hei]
       exact hpre
end
theorem zq {X:List PanicEntry->World->Prop} {iV:Nat->(Act->World->Prop)->Act->World->Prop} {P:Program} {ops:Array Oper} {Qn:Act->World->Prop} {Ps:uH} {R0 R1:World->World->Prop} {m:Option Nat} {Ss:List (Nat×RG.Spec)} {W0 W:World} {a0:Act} {k:Nat}
 (hR:Ip R0 R1) (hc:chk ops k=true) (hmono: ∀i (K K':Act->World->Prop) a w,(∀a w,K a w->K' a w)->iV i K a w->iV i K' a w)
 (Ew: ∀(i:Nat) (o:Oper) (K:Act->World->Prop) (a:Act) (W:World) (R:Value->World->Prop),a.defers=a0.defers->ops[i]? =some o->Region.wanted o (yielded ops a.tmps)=true->Does X P o a.eval W R->(∀v W',R v W'->K (a.put o.dst v) W')->iV i K a W)
 (OV: ∀(i:Nat) (o:Oper) (K:Act->World->Prop) (a:Act) (W:World),ops[i]? =some o->Region.wanted o (yielded ops a.tmps)=false->K (a.put o.dst undef) W->iV i K a W)
 (hW:R0 W0 W)
 (Es:iI X Ps P ops R0 R1 m Ss (Seq iV Qn (List.range' k (ops.size-k))) W0 (ops.toList.take k) 0 a0 [] []):
 Any iV ops Qn ops.size (Array.replicate ops.size false) a0 W:=
 acK hR (RG.Hy hc) hmono Ew OV Es ops.size [] (fun _=>undef) W (by simp) List.nodup_nil (by simp) (fun i o _ h=>by cases h) (by simp) (by simp) (hR.sub hW) (fun _=>⟨hW,by simp⟩)
end Go.RX
namespace Go.RG
open Go.RowKit
theorem Ti {X:List PanicEntry->World->Prop} {P:Program} {o:Oper} {ρ:Operand->Value} {W:World} {R:Value->World->Prop} (h:Does P o ρ W R):RX.Does X P o ρ W R:=by
 unfold Does at h;unfold RX.Does
 generalize (execOp ρ o).run P W=r at*
 cases r with
 |ok x w'=>cases x <;>first|exact h|exact Calls.mono h fun _ _=> .inl
 |halt x w'=>exact h
theorem ajC {P:Program} {o:Oper} {ρ:Operand->Value} {W:World} {R:Value->World->Prop} (h:RX.Does (fun _ _=>False) P o ρ W R):Does P o ρ W R:=by
 unfold RX.Does at h;unfold Does
 generalize (execOp ρ o).run P W=r at*
 cases r with
 |ok x w'=>cases x <;>first|exact h|exact Calls.mono h fun _ _ h=>h.elim id fun⟨_,_,h⟩=>h.elim
 |halt x w'=>exact h
abbrev iI:=RX.iI (fun _ _=>False)
theorem zq {iV:Nat->(Act->World->Prop)->Act->World->Prop} {P:Program} {ops:Array Oper} {Qn:Act->World->Prop} {Ps:uH} {R0 R1:World->World->Prop} {m:Option Nat} {Ss:List (Nat×Spec)} {W0 W:World} {a0:Act} {k:Nat}
 (hR:Ip R0 R1) (hc:chk ops k=true) (hmono: ∀i (K K':Act->World->Prop) a w,(∀a w,K a w->K' a w)->iV i K a w->iV i K' a w)
 (Ew: ∀(i:Nat) (o:Oper) (K:Act->World->Prop) (a:Act) (W:World) (R:Value->World->Prop),ops[i]? =some o->Region.wanted o (yielded ops a.tmps)=true->Does P o a.eval W R->(∀v W',R v W'->K (a.put o.dst v) W')->iV i K a W)
 (OV: ∀(i:Nat) (o:Oper) (K:Act->World->Prop) (a:Act) (W:World),ops[i]? =some o->Region.wanted o (yielded ops a.tmps)=false->K (a.put o.dst undef) W->iV i K a W)
 (hW:R0 W0 W)
 (Es:iI Ps P ops R0 R1 m Ss (Seq iV Qn (List.range' k (ops.size-k))) W0 (ops.toList.take k) 0 a0 [] []):
 Any iV ops Qn ops.size (Array.replicate ops.size false) a0 W:=
 RX.zq hR hc hmono (fun i o K a W R _ ho hw hd hK=>Ew i o K a W R ho hw (ajC hd) hK) OV hW Es
theorem any_eq {P:Program} {ops:Array Oper} {Q:Exit->Act->World->Prop}: ∀(fuel:Nat) (l:Array Bool) (a:Act) (w:World),Any (wpOp P ops Q) ops (Q .normal) fuel l a w->wpAny P .any ops Q fuel l a w:=by
 intro fuel
 induction fuel with
 |zero=>exact fun l a w h=>h
 |succ fuel ih=>exact fun l a w h=>⟨h.1,fun i hi=>wpOp_mono (fun a w=>ih _ a w) (h.2 i hi)⟩
theorem seq_eq {P:Program} {ops:Array Oper} {Q:Exit->Act->World->Prop} (l:List Nat):Seq (wpOp P ops Q) (Q .normal) l=wpOps P ops Q l:=by
 induction l with
 |nil=>rfl
 |cons i l ih=>funext a w;rw[wpOps_cons, <-ih];rfl
theorem zi {P:Program} {o:Oper} {a:Act} {W:World} {R:Value->World->Prop} {K:Act->World->Prop} {Q:Exit->Act->World->Prop} (h:Does P o a.eval W R) (hK: ∀v W',R v W'->K (a.put o.dst v) W'):o.wp P a W K Q:=by
 unfold Does at h
 unfold Oper.wp
 generalize (execOp a.eval o).run P W=r at*
 cases r with
 |ok x w'=>
  cases x <;>simp only[Oper.upon] at h⊢ <;>first|exact hK _ _ h|exact h.elim|skip
  exact Calls.mono h (fun e w'' ⟨v,he,hr⟩=>by subst he;exact hK _ _ hr)
 |halt x w'=>exact h.elim
end Go.RG
namespace Go.RX
open Go.RowKit Go.RG
theorem zi {X:List PanicEntry->World->Prop} {P:Program} {o:Oper} {a:Act} {W:World} {R:Value->World->Prop} {K:Act->World->Prop} {Q:Exit->Act->World->Prop} (h:Does X P o a.eval W R) (hK: ∀v W',R v W'->K (a.put o.dst v) W') (hX: ∀ps W,X ps W->Q (.panic ps) a W):o.wp P a W K Q:=by
 unfold Does at h
 unfold Oper.wp
 generalize (execOp a.eval o).run P W=r at*
 cases r with
 |ok x w'=>
  cases x <;>simp only[Oper.upon] at h⊢ <;>first|exact hK _ _ h|exact h.elim|skip
  exact Calls.mono h (fun e w'' h=>by
   rcases h with⟨v,he,hr⟩|⟨ps,he,hx⟩
   ·subst he;exact hK _ _ hr
   ·subst he;exact hX _ _ hx)
 |halt x w'=>exact h.elim
theorem kX {X:List PanicEntry->World->Prop} {R0 R1:World->World->Prop} (hR:Ip R0 R1) {Ps:uH} {P:Program} {id:Nat} {ops:List Oper} {Q:Exit->Act->World->Prop} {a:Act} {w:World} (hdr:R0 w w.drew) (k:Nat) (m:Option Nat) (Ss:List (Nat×RG.Spec))
 (hX: ∀ps a1 W,a1.defers=a.defers->X ps W->Q (.panic ps) a1 W) (hm:P.follows .mixedOrders=true) (hc:chk ops.toArray k=true)
 (h:iI X Ps P ops.toArray R0 R1 m Ss (fun a w=>wpList P ops.toArray Q (ops.drop k) a w) w (ops.take k) 0 a [] []):(Code.region id ops.toArray true).wp P Q a w:=by
 refine wp_region_any hm (any_eq _ _ _ _ ?_)
 refine zq (X:=X) (Ps:=Ps) (P:=P) (R0:=R0) (R1:=R1) (m:=m) (Ss:=Ss) (W0:=w) hR hc (fun i K K' a w h hs=>wpOp_mono h hs) ?_ ?_ hdr ?_
 ·intro i o K a W R hdf ho hw hd hK
  unfold wpOp
  simp only[ho]
  rw[aF hw]
  exact .inl (zi hd hK (fun ps W=>hX ps _ W hdf))
 ·intro i o K a W ho hw hK
  unfold wpOp
  simp only[ho]
  rw[ak (by rw[hw];simp)]
  exact hK
 ·have e:(fun a w=>wpList P ops.toArray Q (ops.drop k) a w)=Seq (wpOp P ops.toArray Q) (Q .normal) (List.range' k (ops.toArray.size-k)):=by
   funext a w
   rw[seq_eq]
   have hkn:=(RG.Hy hc).kn
   have hlen:ops.toArray.size-k=(ops.drop k).length:=by simp
   rw[hlen,wpOps_eq_wpList (ops.drop k) k (fun j=>by simp)]
  rw[<-e]
  exact h
theorem gy (X:List PanicEntry->World->Prop) {P:Program} {id:Nat} {ops:List Oper} {Q:Exit->Act->World->Prop} {a:Act} {w:World} (k:Nat) (Ms:List Nat) (m:Option Nat) (Ss:List (Nat×RG.Spec))
 (hX: ∀ps a1 W,a1.defers=a.defers->X ps W->Q (.panic ps) a1 W) (hm:P.follows .mixedOrders=true) (hc:chk ops.toArray k=true)
 (h:iI X Om P ops.toArray (Ext []) (Ext Ms) m Ss (fun a w=>wpList P ops.toArray Q (ops.drop k) a w) w (ops.take k) 0 a [] []):(Code.region id ops.toArray true).wp P Q a w:=
 kX (Ba Ms) ((Ext.refl [] w).drew) k m Ss hX hm hc h
end Go.RX
namespace Go.RG
open Go.RowKit
theorem kX {R0 R1:World->World->Prop} (hR:Ip R0 R1) {Ps:uH} {P:Program} {id:Nat} {ops:List Oper} {Q:Exit->Act->World->Prop} {a:Act} {w:World} (hdr:R0 w w.drew) (k:Nat) (m:Option Nat) (Ss:List (Nat×Spec))
 (hm:P.follows .mixedOrders=true) (hc:chk ops.toArray k=true)
 (h:iI Ps P ops.toArray R0 R1 m Ss (fun a w=>wpList P ops.toArray Q (ops.drop k) a w) w (ops.take k) 0 a [] []):(Code.region id ops.toArray true).wp P Q a w:=
 RX.kX hR hdr k m Ss (fun _ _ _ _ h=>h.elim) hm hc h
theorem gy {P:Program} {id:Nat} {ops:List Oper} {Q:Exit->Act->World->Prop} {a:Act} {w:World} (k:Nat) (Ms:List Nat) (m:Option Nat) (Ss:List (Nat×Spec))
 (hm:P.follows .mixedOrders=true) (hc:chk ops.toArray k=true)
 (h:iI Om P ops.toArray (Ext []) (Ext Ms) m Ss (fun a w=>wpList P ops.toArray Q (ops.drop k) a w) w (ops.take k) 0 a [] []):(Code.region id ops.toArray true).wp P Q a w:=
 kX (Ba Ms) ((Ext.refl [] w).drew) k m Ss hm hc h
structure uI (B:Nat) (Ms:List Nat) (w w':World):Prop where
 os:w'.os=w.os
 tape:w'.tape=w.tape
 output:w'.output=w.output
 size:w.heap.size<=w'.heap.size
 block: ∀(k:Nat),k<w.heap.size->k<B->k∉Ms->w'.heap[k]? =w.heap[k]?
theorem uI.wH {B:Nat} {Ms:List Nat} {w w':World} (h:Ext [] w w'):uI B Ms w w':=
 ⟨h.os,h.tape,h.output,h.size,fun k hk _ _=>h.block k hk (by simp)⟩
theorem uI.trans {B:Nat} {Ms:List Nat} {a b c:World} (h:uI B Ms a b) (k:uI B Ms b c):uI B Ms a c:=
 ⟨k.os.trans h.os,k.tape.trans h.tape,k.output.trans h.output,iW h.size k.size,
   fun i hi hb hm=>(k.block i (fH hi h.size) hb hm).trans (h.block i hi hb hm)⟩
theorem VE (B:Nat) (Ms:List Nat):Ip (Ext []) (uI B Ms):=⟨Ext.refl [],Ext.trans,uI.trans,uI.wH⟩
theorem qB {P:Program} {id:Nat} {ops:List Oper} {Q:Exit->Act->World->Prop} {a:Act} {w:World} (k:Nat) (Ms:List Nat) (m:Option Nat) (Ss:List (Nat×Spec)) (Ps:uH)
 (hm:P.follows .mixedOrders=true) (hc:chk ops.toArray k=true)
 (h:iI Ps P ops.toArray (Ext []) (uI w.heap.size Ms) m Ss (fun a w=>wpList P ops.toArray Q (ops.drop k) a w) w (ops.take k) 0 a [] []):(Code.region id ops.toArray true).wp P Q a w:=
 kX (VE _ _) ((Ext.refl [] w).drew) k m Ss hm hc h
class Kept (R1:World->World->Prop) (Ms:outParam (List Nat)) (W0:World):Prop where
 nil: ∀{a b},Ext [] a b->R1 a b
 ext: ∀{W},R1 W0 W->Ext Ms W0 W
instance (Ms:List Nat) (W0:World):Kept (Ext Ms) Ms W0:=⟨Ext.nil,id⟩
instance (Ms:List Nat) (W0:World):Kept (uI W0.heap.size Ms) Ms W0:=⟨uI.wH,fun h=>⟨h.os,h.tape,h.output,h.size,fun k hk hm=>h.block k hk hk hm⟩⟩
section
variable {P : Program} {ops : Array Oper} {R1 : World → World → Prop} {Ms : List Nat} {m : Option Nat} {Ss : List (Nat × Spec)} {Fin : Act → World → Prop} {W0 : World} {o : Oper} {rest : List Oper} {i : Nat} {a : Act} {F G : Facts} {Ps : uH}
theorem TY.ext [Kept R1 Ms W0] {W:World} (h:TY ops (Ext []) R1 m W0 F G i W):Ext Ms W0 W:=by
 have h1:=h.1
 unfold kZ at h1
 split at h1
 ·exact h1.nil
 ·exact Kept.ext h1
theorem Lr [Kept R1 Ms W0] {W W':World} (h:Ext [] W W'):xq (Ext []) R1 m i W W':=by
 unfold xq
 split
 ·exact Kept.nil (R1:=R1) (W0:=W0) h
 ·exact h
def Spec.block (B:Nat) (cs:Array Value) (t:TypeId):Spec:=
 ⟨fun _ v=> ∃b:Nat,v= .pointer (some ⟨b,0,none⟩),fun _ v W=> ∃b:Nat,v= .pointer (some ⟨b,0,none⟩)/\B<=b/\W.heap[b]? =some (.cells cs t (0,0))⟩
def Spec.slice (B:Nat) (cs:Array Value) (t:TypeId) (n:Nat):Spec:=
 ⟨fun _ v=> ∃b:Nat,v= .slice (some ⟨b,0,none⟩) n n,fun _ v W=> ∃b:Nat,v= .slice (some ⟨b,0,none⟩) n n/\B<=b/\W.heap[b]? =some (.cells cs t (0,0))⟩
end
end Go.RG
namespace Go.RX
open Go.RowKit Go.RG
section
variable {X : List PanicEntry → World → Prop} {P : Program} {ops : Array Oper} {R1 : World → World → Prop} {Ms : List Nat} {m : Option Nat} {Ss : List (Nat × RG.Spec)} {Fin : Act → World → Prop} {W0 : World} {o : Oper} {rest : List Oper} {i : Nat} {a : Act} {F G : Facts} {Ps : uH}
theorem fZ [Kept R1 Ms W0] (hs:Ss.lookup i=none) (v:Value) (hw:Region.wanted o (yielded ops a.tmps)=true)
 (hr: ∀W:World,(∀b off,b<W0.heap.size->b∉Ms->W.cell? ⟨b,off,none⟩=W0.cell? ⟨b,off,none⟩)->(execOp a.eval o).run P W= .ok (.value v) W)
 (ht:iI X Ps P ops (Ext []) R1 m Ss Fin W0 rest (i+1) (a.put o.dst v) F G):iI X Ps P ops (Ext []) R1 m Ss Fin W0 (o::rest) i a F G:=by
 unfold iI
 simp only[hs]
 exact⟨v,.inl ⟨hw,fun W hW=>hr W fun b off hb hm=>hW.ext.cell b off hb hm⟩,ht⟩
theorem iw [Kept R1 Ms W0] (hs:Ss.lookup i=none) (v:Value) (hw:Region.wanted o (yielded ops a.tmps)=true)
 (hr: ∀W:World,Ext Ms W0 W->(∀f∈F,kU ops f.1 i=true->f.2 W)->(execOp a.eval o).run P W= .ok (.value v) W)
 (ht:iI X Ps P ops (Ext []) R1 m Ss Fin W0 rest (i+1) (a.put o.dst v) F G):iI X Ps P ops (Ext []) R1 m Ss Fin W0 (o::rest) i a F G:=by
 unfold iI
 simp only[hs]
 exact⟨v,.inl ⟨hw,fun W hW=>hr W hW.ext hW.2.1⟩,ht⟩
theorem CQ (hs:Ss.lookup i=none) (hw:Region.wanted o (yielded ops a.tmps)=false)
 (ht:iI X Ps P ops (Ext []) R1 m Ss Fin W0 rest (i+1) (a.put o.dst undef) F G):iI X Ps P ops (Ext []) R1 m Ss Fin W0 (o::rest) i a F G:=by
 unfold iI
 simp only[hs]
 exact⟨undef,.inr ⟨hw,rfl⟩,ht⟩
theorem bG (s:RG.Spec) (hs:Ss.lookup i=some s) (hw:Region.wanted o (yielded ops a.tmps)=true) (hex: ∃v,s.pure (nH o a) v)
 (hdo: ∀W:World,kZ (Ext []) R1 m i W0 W->(∀f∈F,kU ops f.1 i=true->f.2 W)->Does X P o a.eval W (fun v W'=>s.pure (nH o a) v/\s.world (nH o a) v W'/\xq (Ext []) R1 m i W W'))
 (hst: ∀v W W',s.world (nH o a) v W->kZ (Ext []) R1 m i W W'->s.world (nH o a) v W')
 (ht: ∀v,s.pure (nH o a) v->iI X Ps P ops (Ext []) R1 m Ss Fin W0 rest (i+1) (a.put o.dst v) ((i,s.world (nH o a) v)::F) ((i,Ps i (nH o a) v)::G)) (hps: ∀x v W,Ps i x v W:=by intro _ _ _;exact True.intro):iI X Ps P ops (Ext []) R1 m Ss Fin W0 (o::rest) i a F G:=by
 unfold iI
 simp only[hs]
 refine⟨hw,hex,fun W hW=>?_,⟨hst,fun v' _ W' _ _=>hps _ _ _⟩,ht⟩
 have:=hdo W hW.1 hW.2.1
 unfold Does at this⊢
 split at this
 ·exact⟨this.1,this.2.1,this.2.2,hps _ _ _⟩
 ·exact⟨this.1,this.2.1,this.2.2,hps _ _ _⟩
 ·exact this.mono fun e w' h=>h.imp (fun⟨v,h1,h2,h3,h4⟩=>⟨v,h1,h2,h3,h4,hps _ _ _⟩) id
 ·exact this.elim
theorem dE {ρ:Operand->Value} {W:World} {R:Value->World->Prop} (f:FuncId) (args:Array Value) (he:(execOp ρ o).run P W= .ok (.enter f args) W)
 (h:Calls P f args W (fun e W'=>(∃v,e= .returned v/\R v W')∨ ∃ps,e= .panicked ps/\X ps W')):Does X P o ρ W R:=by
 unfold Does;rw[he];exact h
theorem jm {ρ:Operand->Value} {W W':World} {R:Value->World->Prop} (v:Value) (he:(execOp ρ o).run P W= .ok (.value v) W') (h:R v W'):Does X P o ρ W R:=by
 unfold Does;rw[he];exact h
theorem jV (B:Nat) (cs:Array Value) (t:TypeId) (hs:Ss.lookup i=some (RG.Spec.block B cs t)) (hB:B<=W0.heap.size) (hw:Region.wanted o (yielded ops a.tmps)=true) (hMs: ∀x∈Ms,x<B) (hmi:m≠some i)
 (he: ∀W:World,(∀b off,b<W0.heap.size->b∉Ms->W.cell? ⟨b,off,none⟩=W0.cell? ⟨b,off,none⟩)->(execOp a.eval o).run P W= .ok (.value (.pointer (some ⟨W.heap.size,0,none⟩))) (W.alloc (.cells cs t)))
 (ht: ∀b:Nat,iI X Ps P ops (Ext []) (Ext Ms) m Ss Fin W0 rest (i+1) (a.put o.dst (.pointer (some ⟨b,0,none⟩))) ((i,fun W=> ∃c:Nat,Value.pointer (some ⟨b,0,none⟩)= .pointer (some ⟨c,0,none⟩)/\B<=c/\W.heap[c]? =some (.cells cs t (0,0)))::F) ((i,Ps i (nH o a) (.pointer (some ⟨b,0,none⟩)))::G)) (hps: ∀x v W,Ps i x v W:=by intro _ _ _;exact True.intro):
 iI X Ps P ops (Ext []) (Ext Ms) m Ss Fin W0 (o::rest) i a F G:=by
 refine bG _ hs hw ⟨.pointer (some ⟨0,0,none⟩),0,rfl⟩ ?_ ?_ ?_ ?_
 ·intro W hW _
  have hW':Ext Ms W0 W:=by
   unfold kZ at hW
   rw[ak hmi] at hW
   exact hW
  refine jm _ (he W fun b off hb hm=>hW'.cell b off hb hm) ⟨⟨_,rfl⟩,⟨_,rfl,iW hB hW'.size,heap_alloc_new W _⟩,Lr (R1:=Ext Ms) (W0:=W0) (Ext.aA ?_)⟩
  exact(aH _ _).alloc (ai _) _
 ·rintro v W W' ⟨b,hb,hle,hc⟩ hE
  unfold kZ at hE
  rw[ak hmi] at hE
  exact⟨b,hb,hle,(hE.block b (aS.1 hc).1 (fun h=>by have:=hMs b h;omega)).trans hc⟩
 ·rintro v ⟨b,rfl⟩
  exact ht b
 ·exact hps
theorem dY (B:Nat) (cs:Array Value) (t:TypeId) (n:Nat) (hs:Ss.lookup i=some (RG.Spec.slice B cs t n)) (hB:B<=W0.heap.size) (hw:Region.wanted o (yielded ops a.tmps)=true) (hMs: ∀x∈Ms,x<B) (hmi:m≠some i)
 (he: ∀W:World,(∀b off,b<W0.heap.size->b∉Ms->W.cell? ⟨b,off,none⟩=W0.cell? ⟨b,off,none⟩)->(execOp a.eval o).run P W= .ok (.value (.slice (some ⟨W.heap.size,0,none⟩) n n)) (W.alloc (.cells cs t)))
 (ht: ∀b:Nat,iI X Ps P ops (Ext []) (Ext Ms) m Ss Fin W0 rest (i+1) (a.put o.dst (.slice (some ⟨b,0,none⟩) n n)) ((i,fun W=> ∃c:Nat,Value.slice (some ⟨b,0,none⟩) n n= .slice (some ⟨c,0,none⟩) n n/\B<=c/\W.heap[c]? =some (.cells cs t (0,0)))::F) ((i,Ps i (nH o a) (.slice (some ⟨b,0,none⟩) n n))::G)) (hps: ∀x v W,Ps i x v W:=by intro _ _ _;exact True.intro):
 iI X Ps P ops (Ext []) (Ext Ms) m Ss Fin W0 (o::rest) i a F G:=by
 refine bG _ hs hw ⟨.slice (some ⟨0,0,none⟩) n n,0,rfl⟩ ?_ ?_ ?_ ?_
 ·intro W hW _
  have hW':Ext Ms W0 W:=by
   unfold kZ at hW
   rw[ak hmi] at hW
   exact hW
  refine jm _ (he W fun b off hb hm=>hW'.cell b off hb hm) ⟨⟨_,rfl⟩,⟨_,rfl,iW hB hW'.size,heap_alloc_new W _⟩,Lr (R1:=Ext Ms) (W0:=W0) (Ext.aA ?_)⟩
  exact(aH _ _).alloc (ai _) _
 ·rintro v W W' ⟨b,hb,hle,hc⟩ hE
  unfold kZ at hE
  rw[ak hmi] at hE
  exact⟨b,hb,hle,(hE.block b (aS.1 hc).1 (fun h=>by have:=hMs b h;omega)).trans hc⟩
 ·rintro v ⟨b,rfl⟩
  exact ht b
 ·exact hps
end
section
variable {X : List PanicEntry → World → Prop} {P : Program} {ops : Array Oper} {R1 : World → World → Prop} {Ms : List Nat} {m : Option Nat} {Ss : List (Nat × RG.Spec)} {Fin : Act → World → Prop} {W0 : World} {o : Oper} {rest : List Oper} {i : Nat} {a : Act} {F G : Facts} {Ps : uH}
theorem zd [Kept R1 Ms W0] {v:Value} (ht:iI X Ps P ops (Ext []) R1 m Ss Fin W0 rest (i+1) (a.put o.dst v) F G) (hs:Ss.lookup i=none:=by rfl) (hw:Region.wanted o (yielded ops a.tmps)=true:=by rfl)
 (hr: ∀W:World,(∀b off,b<W0.heap.size->b∉Ms->W.cell? ⟨b,off,none⟩=W0.cell? ⟨b,off,none⟩)->(execOp a.eval o).run P W= .ok (.value v) W:=by
   intro W hW;go_simp;(try simp(disch:=omega) only[IntWalk.i64_in,Int.tdiv_eq_ediv_of_nonneg]);try rfl):iI X Ps P ops (Ext []) R1 m Ss Fin W0 (o::rest) i a F G:=
 fZ hs v hw hr ht
end
end Go.RX
namespace Go.RG
open Go.RowKit
section
variable {P : Program} {ops : Array Oper} {R1 : World → World → Prop} {Ms : List Nat} {m : Option Nat} {Ss : List (Nat × Spec)} {Fin : Act → World → Prop} {W0 : World} {o : Oper} {rest : List Oper} {i : Nat} {a : Act} {F G : Facts} {Ps : uH}
abbrev fZ:= @RX.fZ fun _ _=>False
abbrev iw:= @RX.iw fun _ _=>False
abbrev CQ:= @RX.CQ fun _ _=>False
def Spec.val (v:Value):Spec:=⟨fun _ x=>x=v,fun _ _ _=>True⟩
theorem eF [Kept R1 Ms W0] (v:Value) (hs:Ss.lookup i=some (Spec.val v)) (hw:Region.wanted o (yielded ops a.tmps)=true) (f:FuncId) (args:Array Value)
 (he: ∀W:World,(∀b off,b<W0.heap.size->b∉Ms->W.cell? ⟨b,off,none⟩=W0.cell? ⟨b,off,none⟩)->(execOp a.eval o).run P W= .ok (.enter f args) W)
 (hcall: ∀W:World,Ext Ms W0 W->(∀f∈F,kU ops f.1 i=true->f.2 W)->Calls P f args W (fun e W'=>e= .returned v/\Below W.heap.size W W'))
 (ht:iI Ps P ops (Ext []) R1 m Ss Fin W0 rest (i+1) (a.put o.dst v) F G) (hps: ∀x v W,Ps i x v W:=by intro _ _ _;exact True.intro):iI Ps P ops (Ext []) R1 m Ss Fin W0 (o::rest) i a F G:=by
 have mono: ∀(rest:List Oper) (i:Nat) (a:Act) (F F' G G':Facts),(∀f,f∈F'->f∈F∨ ∀W,f.2 W)->(∀f,f∈F->f∈F')->(∀f,f∈G->f∈G')->iI Ps P ops (Ext []) R1 m Ss Fin W0 rest i a F G->iI Ps P ops (Ext []) R1 m Ss Fin W0 rest i a F' G':=by
  intro rest
  induction rest with
  |nil=>
   intro i a F F' G G' h1 h2 h3 h W hW hF
   exact h W hW (fun f hf=>hF f (h2 f hf))
  |cons o rest ih=>
   intro i a F F' G G' h1 h2 h3 h
   have GX: ∀W,TY ops (Ext []) R1 m W0 F' G' i W->TY ops (Ext []) R1 m W0 F G i W:=fun W hW=>⟨hW.1,fun f hf ha=>hW.2.1 f (h2 f hf) ha,fun hm f hf ha=>hW.2.2 hm f (h3 f hf) ha⟩
   have hcons: ∀(x:Nat×(World->Prop)) (A B:Facts),(∀f,f∈A->f∈B)-> ∀f,f∈x::A->f∈x::B:=by
    intro x A B hAB f hf
    rcases gZ.1 hf with rfl|hf
    ·simp
    ·simp[hAB f hf]
   unfold iI RX.iI at h⊢
   cases hs:Ss.lookup i with
   |none=>
    simp only[hs] at h⊢
    obtain⟨v,hv,ht⟩:=h
    exact⟨v,hv.imp (fun x=>⟨x.1,fun W hW=>x.2 W (GX W hW)⟩) id,ih _ _ _ _ _ _ h1 h2 h3 ht⟩
   |some s=>
    simp only[hs] at h⊢
    obtain⟨x1,x2,x3,x4,x5⟩:=h
    refine⟨x1,x2,fun W hW=>x3 W (GX W hW),x4,fun v hv=>ih _ _ _ _ _ _ ?_ (hcons _ _ _ h2) (hcons _ _ _ h3) (x5 v hv)⟩
    intro f hf
    rcases gZ.1 hf with rfl|hf
    ·exact .inl (by simp)
    ·exact(h1 f hf).imp (fun h=>by simp[h]) id
 unfold iI RX.iI
 simp only[hs]
 refine⟨hw,⟨v,rfl⟩,fun W hW=>?_,⟨fun _ _ _ _ _=>trivial,fun v' _ W' _ _=>hps _ _ _⟩,fun v' hv=>?_⟩
 ·refine Ti ?_
  unfold Does
  rw[he W (fun b off hb hm=>hW.ext.cell b off hb hm)]
  exact(hcall W hW.ext hW.2.1).mono fun e W' ⟨h1,h2⟩=>⟨v,h1,rfl,trivial,Lr (R1:=R1) (W0:=W0) (Ext.aA h2),hps _ _ _⟩
 ·have:v'=v:=hv
  subst this
  refine mono _ _ _ _ _ _ _ ?_ ?_ ?_ ht
  ·intro f hf
   rcases gZ.1 hf with rfl|hf
   ·exact .inr (fun _=>trivial)
   ·exact .inl hf
  ·intro f hf
   simp[hf]
  ·intro f hf
   simp[hf]
theorem bG (s:Spec) (hs:Ss.lookup i=some s) (hw:Region.wanted o (yielded ops a.tmps)=true) (hex: ∃v,s.pure (nH o a) v)
 (hdo: ∀W:World,kZ (Ext []) R1 m i W0 W->(∀f∈F,kU ops f.1 i=true->f.2 W)->Does P o a.eval W (fun v W'=>s.pure (nH o a) v/\s.world (nH o a) v W'/\xq (Ext []) R1 m i W W'))
 (hst: ∀v W W',s.world (nH o a) v W->kZ (Ext []) R1 m i W W'->s.world (nH o a) v W')
 (ht: ∀v,s.pure (nH o a) v->iI Ps P ops (Ext []) R1 m Ss Fin W0 rest (i+1) (a.put o.dst v) ((i,s.world (nH o a) v)::F) ((i,Ps i (nH o a) v)::G)) (hps: ∀x v W,Ps i x v W:=by intro _ _ _;exact True.intro):iI Ps P ops (Ext []) R1 m Ss Fin W0 (o::rest) i a F G:=
 RX.bG s hs hw hex (fun W a b=>Ti (hdo W a b)) hst ht hps
theorem kY (s:Spec) (hs:Ss.lookup i=some s) (hw:Region.wanted o (yielded ops a.tmps)=true) (hex: ∃v,s.pure (nH o a) v)
 (hdo: ∀W:World,kZ (Ext []) R1 m i W0 W->(∀f∈F,kU ops f.1 i=true->f.2 W)->(m=some i-> ∀g∈G,kU ops g.1 i=true->g.2 W)->
   Does P o a.eval W (fun v W'=>s.pure (nH o a) v/\s.world (nH o a) v W'/\xq (Ext []) R1 m i W W'/\Ps i (nH o a) v W'))
 (hst: ∀v W W',s.world (nH o a) v W->kZ (Ext []) R1 m i W W'->s.world (nH o a) v W') (hsp: ∀v W W',Ps i (nH o a) v W->Ext [] W W'->Ps i (nH o a) v W')
 (ht: ∀v,s.pure (nH o a) v->iI Ps P ops (Ext []) R1 m Ss Fin W0 rest (i+1) (a.put o.dst v) ((i,s.world (nH o a) v)::F) ((i,Ps i (nH o a) v)::G)):iI Ps P ops (Ext []) R1 m Ss Fin W0 (o::rest) i a F G:=by
 unfold iI RX.iI
 simp only[hs]
 exact⟨hw,hex,fun W hW=>Ti (hdo W hW.1 hW.2.1 hW.2.2),⟨hst,hsp⟩,ht⟩
theorem dE {ρ:Operand->Value} {W:World} {R:Value->World->Prop} (f:FuncId) (args:Array Value) (he:(execOp ρ o).run P W= .ok (.enter f args) W)
 (h:Calls P f args W (fun e W'=> ∃v,e= .returned v/\R v W')):Does P o ρ W R:=by
 unfold Does;rw[he];exact h
theorem jm {ρ:Operand->Value} {W W':World} {R:Value->World->Prop} (v:Value) (he:(execOp ρ o).run P W= .ok (.value v) W') (h:R v W'):Does P o ρ W R:=by
 unfold Does;rw[he];exact h
abbrev jV:= @RX.jV fun _ _=>False
abbrev dY:= @RX.dY fun _ _=>False
end
section
variable {P : Program} {ops : Array Oper} {R1 : World → World → Prop} {Ms : List Nat} {m : Option Nat} {Ss : List (Nat × Spec)} {Fin : Act → World → Prop} {W0 : World} {o : Oper} {rest : List Oper} {i : Nat} {a : Act} {F G : Facts} {Ps : uH}
theorem zd [Kept R1 Ms W0] {v:Value} (ht:iI Ps P ops (Ext []) R1 m Ss Fin W0 rest (i+1) (a.put o.dst v) F G) (hs:Ss.lookup i=none:=by rfl) (hw:Region.wanted o (yielded ops a.tmps)=true:=by rfl)
 (hr: ∀W:World,(∀b off,b<W0.heap.size->b∉Ms->W.cell? ⟨b,off,none⟩=W0.cell? ⟨b,off,none⟩)->(execOp a.eval o).run P W= .ok (.value v) W:=by
   intro W hW;go_simp;(try simp(disch:=omega) only[IntWalk.i64_in,Int.tdiv_eq_ediv_of_nonneg]);try rfl):iI Ps P ops (Ext []) R1 m Ss Fin W0 (o::rest) i a F G:=
 fZ hs v hw hr ht
theorem zn [Kept R1 Ms W0] {v:Value} (ht:iI Ps P ops (Ext []) R1 m Ss Fin W0 rest (i+1) (a.put o.dst v) F G) (hs:Ss.lookup i=none:=by rfl) (hw:Region.wanted o (yielded ops a.tmps)=true:=by rfl)
 (hr: ∀W:World,(∀b off,b<W0.heap.size->b∉Ms->W.cell? ⟨b,off,none⟩=W0.cell? ⟨b,off,none⟩)->(execOp a.eval o).run P W= .ok (.value v) W:=by
   intro W hW;go_simp;(try simp(disch:=omega) only[IntWalk.i64_in]);try rfl):iI Ps P ops (Ext []) R1 m Ss Fin W0 (o::rest) i a F G:=
 fZ hs v hw hr ht
theorem zk (ht:iI Ps P ops (Ext []) R1 m Ss Fin W0 rest (i+1) (a.put o.dst undef) F G) (hs:Ss.lookup i=none:=by rfl) (hw:Region.wanted o (yielded ops a.tmps)=false:=by rfl):iI Ps P ops (Ext []) R1 m Ss Fin W0 (o::rest) i a F G:=
 CQ hs hw ht
theorem zv [Kept R1 Ms W0] {v:Value} (f:FuncId) {args:Array Value} (hs:Ss.lookup i=some (Spec.val v):=by rfl) (hw:Region.wanted o (yielded ops a.tmps)=true:=by rfl)
 (he: ∀W:World,(∀b off,b<W0.heap.size->b∉Ms->W.cell? ⟨b,off,none⟩=W0.cell? ⟨b,off,none⟩)->(execOp a.eval o).run P W= .ok (.enter f args) W:=by
   intro W hW;go_simp;(try simp(disch:=omega) only[IntWalk.i64_in,Int.tdiv_eq_ediv_of_nonneg]);try rfl)
 (h: ∀W:World,Ext Ms W0 W->(∀f∈F,kU ops f.1 i=true->f.2 W)->Calls P f args W (fun e W'=>e= .returned v/\Below W.heap.size W W'))
 (t:iI Ps P ops (Ext []) R1 m Ss Fin W0 rest (i+1) (a.put o.dst v) F G) (hps: ∀x v W,Ps i x v W:=by intro _ _ _;exact True.intro):iI Ps P ops (Ext []) R1 m Ss Fin W0 (o::rest) i a F G:=
 eF v hs hw f args he h t hps
theorem zw [Kept R1 Ms W0] {v:Value} (f:FuncId) {args:Array Value} (hs:Ss.lookup i=some (Spec.val v):=by rfl) (hw:Region.wanted o (yielded ops a.tmps)=true:=by rfl)
 (he: ∀W:World,(∀b off,b<W0.heap.size->b∉Ms->W.cell? ⟨b,off,none⟩=W0.cell? ⟨b,off,none⟩)->(execOp a.eval o).run P W= .ok (.enter f args) W:=by
   intro W hW;go_simp;try rfl)
 (h: ∀W:World,Ext Ms W0 W->(∀f∈F,kU ops f.1 i=true->f.2 W)->Calls P f args W (fun e W'=>e= .returned v/\Below W.heap.size W W'))
 (t:iI Ps P ops (Ext []) R1 m Ss Fin W0 rest (i+1) (a.put o.dst v) F G) (hps: ∀x v W,Ps i x v W:=by intro _ _ _;exact True.intro):iI Ps P ops (Ext []) R1 m Ss Fin W0 (o::rest) i a F G:=
 eF v hs hw f args he h t hps
theorem zg {P:Program} {id:Nat} {ops:List Oper} {Q:Exit->Act->World->Prop} {a:Act} {w:World} (k:Nat) (Ms:List Nat) (m:Option Nat) (Ss:List (Nat×Spec))
 (h:iI Om P ops.toArray (Ext []) (Ext Ms) m Ss (fun a w=>wpList P ops.toArray Q (ops.drop k) a w) w (ops.take k) 0 a [] [])
 (hm:P.follows .mixedOrders=true:=by as_aux_lemma=>kernel_rfl) (hc:chk ops.toArray k=true:=by as_aux_lemma=>kernel_rfl):(Code.region id ops.toArray true).wp P Q a w:=
 gy k Ms m Ss hm hc h
end
end Go.RG
namespace Go
theorem zp:(∀(a:Act) (d:Tmp) (v:Value),a.put (some d) v={a with tmps:=a.tmps.setIfInBounds d v})/\(∀(a:Act) (v:Value),a.put none v=a)/\
 (∀(l:List Value) (i:Nat) (v:Value),l.toArray.setIfInBounds i v=(l.set i v).toArray)/\(∀(x:Value) (xs:List Value) (n:Nat) (v:Value),(x::xs).set (n+1) v=x::xs.set n v)/\(∀(x:Value) (xs:List Value) (v:Value),(x::xs).set 0 v=v::xs):=
 ⟨fun _ _ _=>rfl,fun _ _=>rfl,fun _ _ _=>rf ..,fun _ _ _ _=>rfl,fun _ _ _=>rfl⟩
theorem zt:(∀(i:Nat) (x:Oper) (xs:List Oper),List.take (i+1) (x::xs)=x::List.take i xs)/\(∀xs:List Oper,List.take 0 xs=[])/\
 (∀(i:Nat) (x:Oper) (xs:List Oper),List.drop (i+1) (x::xs)=List.drop i xs)/\(∀xs:List Oper,List.drop 0 xs=xs):=
 ⟨fun _ _ _=>rfl,fun _=>rfl,fun _ _ _=>rfl,fun _=>rfl⟩
end Go
end

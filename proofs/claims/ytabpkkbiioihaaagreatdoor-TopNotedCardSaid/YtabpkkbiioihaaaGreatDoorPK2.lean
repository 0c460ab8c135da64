/-
  Texts of this claim, packed by a program: Math MA VA Region.
-/
import Derived.WalkKit
import Derived.WalkLawsBesides
import Derived.WalkSpells
import Derived.Outline
import Derived.Handy
import Derived.KernelRfl
import Derived.Lib.Hide
import Derived.Orders
import Derived.OrdersIn
import Derived.Below
import Derived.Tactics
set_option maxHeartbeats 8000000
set_option maxRecDepth 100000
set_option linter.all false
section
namespace gZ
abbrev bK:=Int×Int
abbrev wP:=Int×Int×Int
structure bF where
 last:Int
 size:Int
 aY:Int
 die:Int
 pI:Int
 start:bK
 bg:List bK
 turns:List Int
 readings:List wP
def inB (n lo hi:Int):Bool:=decide (lo<=n)&&decide (n<=hi)
def okR (r:bK) (hi:Int):Bool:=decide (0<=r.1)&&decide (r.1<=r.2)&&decide (r.2<=hi)
def sG (last:Int):Int->List Int->Bool
 |_,[]=>true
 |p,n::l=>inB n (p+1) last&&sG last n l
def jP (last:Int) (l:List Int):Bool:=sG last (-1) l
def vI (last:Int) (x:wP):Bool:=inB x.1 0 last&&inB x.2.1 0 1000&&inB x.2.2 0 50
def dG (h:bF):Bool:=
 decide (0<=h.last)&&inB h.size 0 20&&inB h.aY 0 100&&decide (0<=h.die)&&inB h.pI h.die 500&&okR h.start 500
def valid (h:bF):Bool:=
 dG h&&decide ((h.bg.length:Int)=h.last+1)&&jP h.last h.turns&&h.bg.all (okR · 20)&&h.readings.all (vI h.last)
def df (r:bK):Int:=r.2-r.1+1
def prod (l:List bK):Int:=l.foldr (fun r n=>df r*n) 1
def fault (h:bF):Int:=
 if 9<h.last∨5<h.readings.length then 3 else if valid h=false then 1 else if 2000<prod (h.start::h.bg) then 3 else 0
def jr (aY n:Int) (turned:Bool):Int:=if turned then n-n*aY/100 else n
def QV (size aY:Int) (turns:List Int) (i:Nat) (n w:Int):Int:=jr aY n (turns.contains (i:Int))+size*w/10
def lI (size aY:Int) (turns:List Int) (start:Int) (bg:List Int):Nat->Int
 |0=>start
 |k+1=>QV size aY turns k (lI size aY turns start bg k) (bg.getD k 0)
def kX (size aY:Int) (turns:List Int) (start:Int) (bg:List Int) (n:Nat):List Int:=
 (List.range 10).map fun j=>if j<n then lI size aY turns start bg (j+1) else 0
def rD (h:bF) (t:Int×List Int) (turns:List Int):List Int:=kX h.size h.aY turns t.1 t.2 t.2.length
def wX (x:wP) (l:List Int):Bool:=inB (l.getD x.1.toNat 0-x.2.1) (-x.2.2) x.2.2
def nz (r:bK):List Int:=(List.range (df r).toNat).map fun(k:Nat)=>r.1+(k:Int)
def dC:List bK->List (List Int)
 |[]=>[[]]
 |r::rs=>(nz r).flatMap fun x=>(dC rs).map (x:: ·)
def Ut (last p:Int) (l:List Int) (k:Nat):Bool:=inB (l.getD k 0) ((p::l).getD k 0+1) last
theorem AY (last:Int): ∀(l:List Int) (p:Int),sG last p l=(List.range l.length).all (Ut last p l):=by
 intro l
 induction l with
 |nil=>intro p;rfl
 |cons n l ih=>
  intro p
  rw[List.length_cons,List.range_succ_eq_map,List.all_cons,List.all_map,sG,ih n]
  congr 1
theorem PR (last:Int) (h0:0<=last) (l:List Int): ∀k,(∀j,j<k->Ut last (-1) l j=true)->k<=l.length-> -1<=((-1:Int)::l).getD k 0/\((-1:Int)::l).getD k 0<=last:=by
 intro k
 induction k with
 |zero=>intro _ _;simp;omega
 |succ k ih=>
  intro h hk
  have h1:=h k (by omega)
  have h2:=ih (fun j hj=>h j (by omega)) (by omega)
  simp only[Ut,inB,Bool.and_eq_true,decide_eq_true_eq] at h1
  rw[List.getD_cons_succ]
  omega
theorem gY {α:Type} (l:List α) (p:α->Bool):(if l.any (fun k=>!p k) then false else true)=l.all p:=by
 rw[List.all_eq_not_any_not]
 cases l.any (fun k=>!p k) <;>rfl
def mr (m:Int) (r:bK):Int:=min (m*df r) 2001
def oz (l:List bK) (k:Nat):Int:=(l.take k).foldl mr 1
theorem Ad (l:List bK) (k:Nat) (hk:k<l.length):oz l (k+1)=mr (oz l k) l[k]:=by
 unfold oz
 rw[List.take_succ_eq_append_getElem hk,List.foldl_append]
 rfl
theorem Gg (l:List bK) (h: ∀r∈l,1<=df r):1<=prod l:=by
 induction l with
 |nil=>simp[prod]
 |cons r l ih=>
  have h1:=h r (by simp)
  have h2:=ih (fun x hx=>h x (by simp[hx]))
  show 1<=df r*prod l
  have:=Int.mul_le_mul h1 h2 (by omega) (by omega)
  omega
theorem IX (l:List bK) (h: ∀r∈l,1<=df r): ∀m,1<=m->m<=2001->l.foldl mr m=min (m*prod l) 2001:=by
 induction l with
 |nil=>intro m h1 h2;simp[prod];omega
 |cons r l ih=>
  intro m h1 h2
  have hr:=h r (by simp)
  have hp:=Gg l (fun x hx=>h x (by simp[hx]))
  rw[List.foldl_cons]
  have hm:1<=m*df r:=by have:=Int.mul_le_mul h1 hr (by omega) (by omega);omega
  rw[ih (fun x hx=>h x (by simp[hx])) _ (by unfold mr;omega) (by unfold mr;omega)]
  show min (mr m r*prod l) 2001=min (m*(df r*prod l)) 2001
  rw[<-Int.mul_assoc]
  unfold mr
  by_cases hc:m*df r<=2001
  ·rw[Int.min_eq_left hc]
  ·have h3:2001<=m*df r*prod l:=by have:=Int.mul_le_mul (show(2001:Int)<=m*df r by omega) hp (by omega) (by omega);omega
   have h4:2001<=2001*prod l:=by omega
   rw[Int.min_eq_right (show 2001<=m*df r by omega)]
   omega
theorem IY (l:List bK) (h: ∀r∈l,1<=df r) (k:Nat):1<=oz l k/\oz l k<=2001:=by
 unfold oz
 have ht: ∀r∈l.take k,1<=df r:=fun r hr=>h r (List.mem_of_mem_take hr)
 rw[IX _ ht 1 (by omega) (by omega)]
 have:=Gg _ ht
 omega
theorem Dh (l:List bK) (h: ∀r∈l,1<=df r):(2000<oz l l.length)↔2000<prod l:=by
 unfold oz
 rw[List.take_length,IX _ h 1 (by omega) (by omega)]
 omega
theorem qW {r:bK} {n:Int} (h:okR r n=true):0<=r.1/\r.1<=r.2/\r.2<=n/\1<=df r/\df r<=n+1:=by
 simp only[okR,Bool.and_eq_true,decide_eq_true_eq] at h
 unfold df
 omega
theorem Df {aY n:Int} (hc0:0<=aY) (hc1:aY<=100) (hn:0<=n) (t:Bool):0<=jr aY n t/\jr aY n t<=n:=by
 unfold jr
 cases t
 ·simp;omega
 ·simp only[if_true]
  have h1:0<=n*aY:=Int.mul_nonneg hn hc0
  have h2:n*aY<=n*100:=Int.mul_le_mul_of_nonneg_left hc1 hn
  omega
theorem CU {size aY:Int} (turns:List Int) {start:Int} (bg:List Int) (hs0:0<=size) (hs1:size<=20) (hc0:0<=aY) (hc1:aY<=100) (h0:0<=start) (h1:start<=500) (hw: ∀x∈bg,0<=x/\x<=20):
 ∀k:Nat,0<=lI size aY turns start bg k/\lI size aY turns start bg k<=500+40*k:=by
 intro k
 induction k with
 |zero=>simp[lI];omega
 |succ k ih=>
  have hb:=Df hc0 hc1 ih.1 (turns.contains (k:Int))
  have hx:0<=bg.getD k 0/\bg.getD k 0<=20:=by
   by_cases hk:k<bg.length
   ·rw[List.getD_eq_getElem?_getD,List.getElem?_eq_getElem hk];exact hw _ (List.getElem_mem _)
   ·rw[List.getD_eq_getElem?_getD,List.getElem?_eq_none (by omega)];simp
  have h2:0<=size*bg.getD k 0:=Int.mul_nonneg hs0 hx.1
  have h3:size*bg.getD k 0<=20*20:=Int.mul_le_mul hs1 hx.2 hx.1 (by omega)
  simp only[lI,QV]
  generalize bg.getD k 0=x at*
  generalize size*x=y at*
  push_cast
  omega
theorem jF (size aY:Int) (turns:List Int) (start:Int) (bg:List Int) (n:Nat):(kX size aY turns start bg n).length=10:=by simp[kX]
theorem EH (size aY:Int) (turns:List Int) (start:Int) (bg:List Int) (n:Nat) (_hn:n<10):
 kX size aY turns start bg (n+1)=(kX size aY turns start bg n).set n (lI size aY turns start bg (n+1)):=by
 apply List.ext_getElem
 ·simp[kX]
 ·intro i h1 h2
  have hi:i<10:=by simpa [kX] using h1
  simp only[kX,List.getElem_map,List.getElem_range,List.getElem_set]
  by_cases e:n=i
  ·subst e;simp
  ·rw[if_neg e]
   by_cases h:i<n
   ·rw[if_pos h,if_pos (by omega)]
   ·rw[if_neg h,if_neg (by omega)]
theorem TF {h:bF} {t:Int×List Int} (turns:List Int) (hs0:0<=h.size) (hs1:h.size<=20) (hc0:0<=h.aY) (hc1:h.aY<=100) (h0:0<=t.1) (h1:t.1<=500) (hw: ∀x∈t.2,0<=x/\x<=20) (_hl:t.2.length<=10):
 ∀x∈rD h t turns,0<=x/\x<=900:=by
 intro x hx
 obtain⟨j,hj,rfl⟩:=List.mem_map.1 hx
 have hj':j<10:=by simpa using hj
 split
 ·have:=CU turns t.2 hs0 hs1 hc0 hc1 h0 h1 hw (j+1)
  omega
 ·omega
theorem wS {α:Type} {l:List α} (h:l.length=10): ∃a b c d e f g i j k,l=[a,b,c,d,e,f,g,i,j,k]:=by
 match l,h with
 |[a,b,c,d,e,f,g,i,j,k],_=>exact⟨a,b,c,d,e,f,g,i,j,k,rfl⟩
structure Sound (h:bF):Prop where
 Sr:0<=h.last
 GR:h.last<=9
 Q4:0<=h.size
 Q3:h.size<=20
 Uj:0<=h.aY
 Ui:h.aY<=100
 ajc:0<=h.die
 aha:h.die<=h.pI
 ag9:h.pI<=500
 QY:0<=h.start.1
 QX:h.start.1<=h.start.2
 QW:h.start.2<=500
 Jt:(h.bg.length:Int)=h.last+1
 turns:jP h.last h.turns=true
 bg: ∀r∈h.bg,0<=r.1/\r.1<=r.2/\r.2<=20
 rdg: ∀x∈h.readings,(0<=x.1/\x.1<=h.last)/\(0<=x.2.1/\x.2.1<=1000)/\0<=x.2.2/\x.2.2<=50
 adQ:h.readings.length<=5
 many:prod (h.start::h.bg)<=2000
theorem FY {h:bF} (hf:fault h=0):Sound h:=by
 unfold fault at hf
 split at hf
 ·omega
 ·split at hf
  ·omega
  ·split at hf
   ·omega
   ·rename_i h1 h2 h3
    have h2':valid h=true:=by simpa using h2
    simp only[valid,dG,okR,inB,Bool.and_eq_true,decide_eq_true_eq,List.all_eq_true] at h2'
    obtain⟨⟨⟨⟨⟨⟨⟨⟨⟨a1,a2⟩,a3⟩,a4⟩,a5⟩,a6⟩,a7⟩,a8⟩,a9⟩,a10⟩:=h2'
    refine⟨a1,by omega,a2.1,a2.2,a3.1,a3.2,a4,a5.1,a5.2,a6.1.1,a6.1.2,a6.2,a7,a8,fun r hr=>?_,fun x hx=>?_,by omega,by omega⟩
    ·have:=a9 r hr;exact⟨this.1.1,this.1.2,this.2⟩
    ·have:=a10 x hx
     simp only[vI,inB,Bool.and_eq_true,decide_eq_true_eq] at this
     exact⟨this.1.1,this.1.2,this.2⟩
theorem Wi {α β:Type} (f:α->List β) (sz:Nat) (hf: ∀x,(f x).length=sz): ∀(l:List α) (k j:Nat) (hk:k<l.length),j<sz->(l.flatMap f)[k*sz+j]? =(f l[k])[j]? :=by
 intro l
 induction l with
 |nil=>intro k j hk;simp at hk
 |cons x l ih=>
  intro k j hk hj
  cases k with
  |zero=>simp[List.flatMap_cons,List.getElem?_append_left (show j<(f x).length by rw[hf];exact hj)]
  |succ k=>
   have e:(k+1)*sz+j=(f x).length+(k*sz+j):=by rw[hf,Nat.add_mul];omega
   rw[List.flatMap_cons,e,List.getElem?_append_right (by omega),Nat.add_sub_cancel_left,ih k j (by simpa using hk) hj]
   rfl
theorem uh (r:bK):(nz r).length=(df r).toNat:=by simp[nz]
theorem JW (r:bK) (c:Nat) (hc:c<(nz r).length):(nz r)[c]=r.1+(c:Int):=by simp[nz]
theorem vG (r:bK) (rs:List bK):(dC (r::rs)).length=(df r).toNat*(dC rs).length:=by
 rw[dC,List.length_flatMap]
 simp only[List.length_map,List.map_const',List.sum_replicate_nat]
 rw[uh]
theorem N9 (r:bK) (rs:List bK) (c j:Nat) (hc:c<(df r).toNat) (hj:j<(dC rs).length):
 (dC (r::rs))[c*(dC rs).length+j]? =some ((r.1+(c:Int))::(dC rs)[j]):=by
 rw[dC,Wi _ (dC rs).length (fun x=>by simp) (nz r) c j (by rw[uh];exact hc) hj,JW]
 simp[hj]
theorem N8: ∀(rs:List bK), ∀x∈dC rs,x.length=rs.length:=by
 intro rs
 induction rs with
 |nil=>intro x hx;simp[dC] at hx;subst hx;rfl
 |cons r rs ih=>
  intro x hx
  simp only[dC,List.mem_flatMap,List.mem_map] at hx
  obtain⟨y,_,z,hz,rfl⟩:=hx
  simp[ih z hz]
def gy (R:List bK) (i k:Nat) (pre:List Int):Prop:= ∀j s,(dC (R.drop i))[j]? =some s->(dC R)[k+j]? =some (pre++s)
theorem gy.zero (R:List bK):gy R 0 0 []:=fun j s h=>by simpa using h
theorem gy.next {R:List bK} {i k:Nat} {pre:List Int} (h:gy R i k pre) (hi:i<R.length) (c:Nat) (hc:c<(df R[i]).toNat):
 gy R (i+1) (k+c*(dC (R.drop (i+1))).length) (pre++[R[i].1+(c:Int)]):=by
 intro j s hs
 obtain⟨hj,rfl⟩:=List.getElem?_eq_some_iff.1 hs
 have:=h (c*(dC (R.drop (i+1))).length+j) _ (by rw[List.drop_eq_getElem_cons hi];exact N9 _ _ c j hc hj)
 rw[Nat.add_assoc,this]
 simp
theorem gy.count {R:List bK} {i:Nat} (hi:i<R.length):(dC (R.drop i)).length=(df R[i]).toNat*(dC (R.drop (i+1))).length:=by
 rw[List.drop_eq_getElem_cons hi,vG]
theorem gy.last {R:List bK} {i k:Nat} {pre:List Int} (h:gy R i k pre) (hi:i=R.length):(dC (R.drop i)).length=1/\ ∃hk:k<(dC R).length,(dC R)[k]=pre:=by
 have e:R.drop i=[]:=List.drop_eq_nil_of_le (by omega)
 rw[e]
 have:=h 0 [] (by rw[e];rfl)
 simp only[Nat.add_zero,List.append_nil] at this
 obtain⟨hk,hx⟩:=List.getElem?_eq_some_iff.1 this
 exact⟨rfl,hk,hx⟩
def NI (l:List Int):Int×List Int:=(l.headD 0,l.tail)
def J3 (h:bF) (out:List Int) (t:Int×List Int) (i:Nat):Bool:=out.contains (i:Int) ||wX (h.readings.getD i (0,0,0)) (rD h t h.turns)
def Xj (h:bF) (out:List Int) (t:Int×List Int):Bool:=(List.range h.readings.length).all (J3 h out t)
def allL (h:bF):List (List Int):=dC (h.start::h.bg)
def dN (h:bF) (out:List Int):List (Int×List Int):=((allL h).filter fun l=>Xj h out (NI l)).map NI
def cnt (h:bF) (out:List Int) (k:Nat):Nat:=(((allL h).take k).filter fun l=>Xj h out (NI l)).length
theorem WG (h:bF) (out:List Int):cnt h out (allL h).length=(dN h out).length:=by
 unfold cnt dN
 rw[List.take_length,List.length_map]
theorem Zh {h:bF} {out:List Int} {k:Nat} (hk:k<(allL h).length) (hp:Xj h out (NI (allL h)[k])=false):cnt h out (k+1)=cnt h out k:=by
 unfold cnt
 rw[List.take_succ_eq_append_getElem hk,List.filter_append,List.length_append]
 simp[hp]
theorem Wy {h:bF} {out:List Int} {k:Nat} (hk:k<(allL h).length) (hp:Xj h out (NI (allL h)[k])=true):cnt h out (k+1)=cnt h out k+1:=by
 unfold cnt
 rw[List.take_succ_eq_append_getElem hk,List.filter_append,List.length_append]
 simp[hp]
theorem xx {α β:Type} (p:α->Bool) (f:α->β): ∀(l:List α) (k:Nat) (hk:k<l.length),p l[k]=true->((l.filter p).map f)[((l.take k).filter p).length]? =some (f l[k]):=by
 intro l
 induction l with
 |nil=>intro k hk;simp at hk
 |cons x l ih=>
  intro k hk hp
  cases k with
  |zero=>
   have hp':p x=true:=hp
   simp[hp']
  |succ k=>
   have:=ih k (by simpa using hk) hp
   by_cases hx:p x=true
   ·simp only[List.filter_cons,hx,if_true,List.map_cons,List.take_succ_cons,List.length_cons,List.getElem?_cons_succ,List.getElem_cons_succ]
    exact this
   ·simp only[List.filter_cons,hx,if_false,List.take_succ_cons,List.getElem_cons_succ,Bool.false_eq_true]
    exact this
theorem JB {h:bF} {out:List Int} {k:Nat} (hk:k<(allL h).length) (hp:Xj h out (NI (allL h)[k])=true):
 ∃hc:cnt h out k<(dN h out).length,(dN h out)[cnt h out k]=NI (allL h)[k]:=by
 have:=xx (fun l=>Xj h out (NI l)) NI (allL h) k hk hp
 obtain⟨hc,hx⟩:=List.getElem?_eq_some_iff.1 this
 exact⟨hc,hx⟩
theorem xg: ∀(rs:List bK) (x:List Int),x∈dC rs->x.length=rs.length/\ ∀i,i<rs.length->(rs.getD i (0,0)).1<=x.getD i 0/\x.getD i 0<=(rs.getD i (0,0)).2:=by
 intro rs
 induction rs with
 |nil=>intro x hx;simp[dC] at hx;subst hx;exact⟨rfl,fun i hi=>by simp at hi⟩
 |cons r rs ih=>
  intro x hx
  simp only[dC,List.mem_flatMap,List.mem_map] at hx
  obtain⟨y,hy,z,hz,rfl⟩:=hx
  obtain⟨h1,h2⟩:=ih z hz
  refine⟨by simp[h1],fun i hi=>?_⟩
  cases i with
  |zero=>
   obtain⟨c,hc,rfl⟩:=List.mem_map.1 hy
   have:c<(df r).toNat:=by simpa using hc
   unfold df at this
   simp
   omega
  |succ i=>simpa using h2 i (by simpa using hi)
theorem zI {h:bF} (hS:Sound h) {x:List Int} (hx:x∈allL h): ∃s rest,x=s::rest/\rest.length=h.bg.length/\(0<=s/\s<=500)/\ ∀y∈rest,0<=y/\y<=20:=by
 obtain⟨hl,hb⟩:=xg _ _ hx
 cases x with
 |nil=>simp at hl
 |cons s rest=>
  have h0:=hb 0 (by simp)
  simp at h0
  have:=hS.QY
  have:=hS.QW
  refine⟨s,rest,rfl,by simpa using hl,by omega,fun y hy=>?_⟩
  obtain⟨i,hi,rfl⟩:=List.getElem_of_mem hy
  have hi':i<h.bg.length:=by simp at hl;omega
  have h1:=hb (i+1) (by simpa using hi')
  simp only[List.getD_cons_succ] at h1
  rw[show rest.getD i 0=rest[i] from by simp[hi],show h.bg.getD i (0,0)=h.bg[i] from by simp[hi']] at h1
  have:=hS.bg _ (List.getElem_mem hi')
  omega
theorem Be {α β:Type} (R:β->β->Prop) (f:α->List β): ∀(l:List α),(∀x∈l,(f x).Pairwise R)->l.Pairwise (fun x y=> ∀a∈f x, ∀b∈f y,R a b)->(l.flatMap f).Pairwise R:=by
 intro l
 induction l with
 |nil=>intro _ _;simp
 |cons x l ih=>
  intro h1 h2
  rw[List.pairwise_cons] at h2
  rw[List.flatMap_cons,List.pairwise_append]
  refine⟨h1 x (by simp),ih (fun y hy=>h1 y (by simp[hy])) h2.2,fun a ha b hb=>?_⟩
  obtain⟨y,hy,hby⟩:=List.mem_flatMap.1 hb
  exact h2.1 y hy a ha b hby
def je (acc:List (List Int)) (x:List Int):List (List Int):=if acc.getLast? =some x then acc else acc++[x]
def kW (h:bF) (turns:List Int):List (List Int):=(dN h []).foldl (fun acc t=>je acc (rD h t turns)) []
def fQ (h:bF) (turns:List Int) (k:Nat):List (List Int):=((dN h []).take k).foldl (fun acc t=>je acc (rD h t turns)) []
theorem vZ {h:bF} {turns:List Int} {k:Nat} (hk:k<(dN h []).length):fQ h turns (k+1)=je (fQ h turns k) (rD h (dN h [])[k] turns):=by
 unfold fQ
 rw[List.take_succ_eq_append_getElem hk,List.foldl_append]
 rfl
theorem yg (h:bF) (turns:List Int):fQ h turns (dN h []).length=kW h turns:=by unfold fQ;rw[List.take_length];rfl
theorem Oq (acc:List (List Int)) (x y:List Int):y∈je acc x↔y∈acc∨y=x:=by
 unfold je
 split
 ·rename_i h
  constructor
  ·exact .inl
  ·rintro(h1|rfl)
   ·exact h1
   ·exact List.mem_of_getLast? h
 ·simp
theorem zC {α:Type} (f:α->List Int): ∀(l:List α) (acc:List (List Int)) (y:List Int),y∈l.foldl (fun acc t=>je acc (f t)) acc↔y∈acc∨ ∃t∈l,y=f t:=by
 intro l
 induction l with
 |nil=>intro acc y;simp
 |cons a l ih=>
  intro acc y
  rw[List.foldl_cons,ih,Oq]
  simp only[List.mem_cons,exists_eq_or_imp,or_assoc]
theorem GH {h:bF} {turns:List Int} {k:Nat} {y:List Int} (hy:y∈fQ h turns k): ∃t∈dN h [],y=rD h t turns:=by
 unfold fQ at hy
 rw[zC] at hy
 simp only[List.not_mem_nil,false_or] at hy
 obtain⟨t,ht,rfl⟩:=hy
 exact⟨t,List.mem_of_mem_take ht,rfl⟩
theorem yf {h:bF} {turns:List Int} {k:Nat}: ∀y∈fQ h turns k,y.length=10:=by
 intro y hy
 obtain⟨t,_,rfl⟩:=GH hy
 exact jF _ _ _ _ _ _
theorem KU {h:bF} {turns:List Int}: ∀y∈kW h turns,y.length=10:=by
 rw[<-yg];exact yf
theorem BO (acc:List (List Int)) (x:List Int):(je acc x).length<=acc.length+1:=by
 unfold je;split <;>simp
theorem Ic (h:bF) (turns:List Int): ∀k,(fQ h turns k).length<=k:=by
 intro k
 induction k with
 |zero=>simp[fQ]
 |succ k ih=>
  by_cases hk:k<(dN h []).length
  ·rw[vZ hk]
   have:=BO (fQ h turns k) (rD h (dN h [])[k] turns)
   omega
  ·have e:fQ h turns (k+1)=fQ h turns k:=by
    unfold fQ;rw[List.take_of_length_le (by omega),List.take_of_length_le (by omega)]
   rw[e];omega
theorem qR (rs:List bK) (hr: ∀r∈rs,1<=df r):((dC rs).length:Int)=prod rs:=by
 induction rs with
 |nil=>rfl
 |cons r rs ih=>
  rw[vG]
  have h1:=hr r (by simp)
  have ih':=ih (fun x hx=>hr x (by simp[hx]))
  show(((df r).toNat*(dC rs).length:Nat):Int)=df r*prod rs
  rw[Int.natCast_mul,ih',Int.toNat_of_nonneg (by omega)]
theorem FV {h:bF} (hS:Sound h) (out:List Int):(dN h out).length<=2000:=by
 have h1:(dN h out).length<=(allL h).length:=by unfold dN;rw[List.length_map];exact List.length_filter_le _ _
 have h2:=qR (h.start::h.bg) (fun r hr=>by
  rcases List.mem_cons.1 hr with rfl|hr
  ·have:=hS.QX;unfold df;omega
  ·have:=hS.bg r hr;unfold df;omega)
 have h3:=hS.many
 unfold allL at h1
 omega
def wid (r:bK) (x:Int):bK:=(min r.1 x,max r.2 x)
def upto (n:Nat):List Int:=(List.range n).map fun(i:Nat)=>(i:Int)
end gZ
end
section
namespace gZ
theorem Kq {r:bK} {x:Int}:x∈nz r↔r.1<=x/\x<=r.2:=by
 unfold nz df
 rw[List.mem_map]
 constructor
 ·rintro⟨k,hk,rfl⟩
  have:=List.mem_range.1 hk
  omega
 ·rintro⟨h1,h2⟩
  exact⟨(x-r.1).toNat,List.mem_range.2 (by omega),by omega⟩
end gZ
namespace gZ
end gZ
namespace gZ
end gZ
end
section
namespace Go.Proofs.YtabpkkbiioihaaaGreatDoor
open gZ
abbrev yB:=Int×Int×Int×bK
structure aO where
 rows:Int
 ai:Int
 left:bK
 ae:List yB
def iE (f:aO) (t:yB):Bool:=inB t.1 0 (f.ai-1)&&inB t.2.1 0 (f.rows-1)&&inB t.2.2.1 0 (f.rows-1)&&decide (t.2.1<=t.2.2.1)&&okR t.2.2.2 f.rows
def fC (f:aO):Int:=
 if 7<f.rows∨3<f.ai∨5<f.ae.length then 3
 else if f.rows<1∨f.ai<1∨okR f.left f.rows=false∨f.ae.all (iE f)=false then 1
 else if 2500<(f.ai+1)^f.rows.toNat then 3 else 0
structure lK (f:aO):Prop where
 ug:1<=f.rows
 lU:f.rows<=7
 uf:1<=f.ai
 qM:f.ai<=3
 yz:f.ae.length<=5
 left:0<=f.left.1/\f.left.1<=f.left.2/\f.left.2<=f.rows
 pM: ∀t∈f.ae,(0<=t.1/\t.1<f.ai)/\(0<=t.2.1/\t.2.1<=t.2.2.1/\t.2.2.1<f.rows)/\(0<=t.2.2.2.1/\t.2.2.2.1<=t.2.2.2.2/\t.2.2.2.2<=f.rows)
 many:(f.ai+1)^f.rows.toNat<=2500
theorem fH {f:aO} (hf:fC f=0):lK f:=by
 unfold fC at hf
 split at hf
 ·omega
 ·rename_i h1
  split at hf
  ·omega
  ·rename_i h2
   split at hf
   ·omega
   ·rename_i h3
    simp only[not_or] at h1 h2
    obtain⟨a1,a2,a3⟩:=h1
    obtain⟨b1,b2,b3,b4⟩:=h2
    have b3':okR f.left f.rows=true:=by simpa using b3
    have b4':f.ae.all (iE f)=true:=by simpa using b4
    rw[List.all_eq_true] at b4'
    simp only[okR,Bool.and_eq_true,decide_eq_true_eq] at b3'
    refine⟨by omega,by omega,by omega,by omega,by omega,⟨by omega,by omega,by omega⟩,fun t ht=>?_,by omega⟩
    have:=b4' t ht
    simp only[iE,inB,okR,Bool.and_eq_true,decide_eq_true_eq] at this
    omega
def rO (l:List Int) (who:Int) (a n:Nat):Int:=((List.range' a n).countP fun i=>l.getD i 0==who:Nat)
def xA (l:List Int) (who lo hi:Int):Int:=rO l who lo.toNat (hi+1-lo).toNat
def kD (l:List Int) (t:yB):Bool:=inB (xA l t.1 t.2.1 t.2.2.1) t.2.2.2.1 t.2.2.2.2
def eF (f:aO) (out:List Int) (l:List Int):Bool:=
 ((List.range f.ae.length).all fun i=>out.contains (i:Int) ||kD l (f.ae.getD i (0,0,0,(0,0))))&&inB (xA l (-1) 0 (f.rows-1)) f.left.1 f.left.2
def dB (f:aO):List bK:=List.replicate f.rows.toNat (-1,f.ai-1)
def kH (f:aO):List (List Int):=dC (dB f)
def aG (f:aO) (out:List Int):List (List Int):=(kH f).filter (eF f out)
theorem JV {f:aO} (hS:lK f): ∀r∈dB f,1<=df r:=fun r hr=>by
 obtain rfl:=List.eq_of_mem_replicate hr
 have:=hS.uf
 unfold df
 simp only
 omega
theorem N7: ∀(rs:List bK) (x:List Int),x.length=rs.length->(∀i,i<rs.length->(rs.getD i (0,0)).1<=x.getD i 0/\x.getD i 0<=(rs.getD i (0,0)).2)->x∈dC rs:=by
 intro rs
 induction rs with
 |nil=>intro x hx _;obtain rfl:=List.eq_nil_of_length_eq_zero hx;simp[dC]
 |cons r rs ih=>
  intro x hx hb
  cases x with
  |nil=>simp at hx
  |cons a x=>
   have h0:=hb 0 (by simp)
   simp only[dC,List.mem_flatMap,List.mem_map]
   exact⟨a,Kq.2 (by simpa using h0),x,ih x (by simpa using hx) (fun i hi=>by simpa using hb (i+1) (by simpa using hi)),rfl⟩
theorem zD {f:aO} {l:List Int}:l∈kH f↔l.length=f.rows.toNat/\ ∀i,i<f.rows.toNat-> -1<=l.getD i 0/\l.getD i 0<=f.ai-1:=by
 have hg: ∀i,i<f.rows.toNat->(dB f).getD i (0,0)=(-1,f.ai-1):=fun i hi=>by
  unfold dB
  rw[List.getD_eq_getElem?_getD,List.getElem?_replicate,if_pos hi]
  rfl
 have hl:(dB f).length=f.rows.toNat:=by unfold dB;simp
 unfold kH
 constructor
 ·intro hm
  obtain⟨h1,h2⟩:=xg _ _ hm
  rw[hl] at h1 h2
  refine⟨h1,fun i hi=>?_⟩
  have:=h2 i hi
  rw[hg i hi] at this
  exact this
 ·rintro⟨h1,h2⟩
  refine N7 _ _ (by rw[hl];exact h1) fun i hi=>?_
  rw[hl] at hi
  rw[hg i hi]
  exact h2 i hi
theorem Ee (f:aO):prod (dB f)=(f.ai+1)^f.rows.toNat:=by
 unfold dB
 induction f.rows.toNat with
 |zero=>simp[prod]
 |succ k ih=>
  rw[List.replicate_succ]
  show df (-1,f.ai-1)*prod (List.replicate k (-1,f.ai-1))=_
  rw[ih,Int.pow_succ,Int.mul_comm]
  congr 1
  unfold df
  simp only
  omega
end Go.Proofs.YtabpkkbiioihaaaGreatDoor
namespace Go.Proofs.YtabpkkbiioihaaaGreatDoor
open gZ
def JO (rows:List Int) (a b:List Int):Bool:=rows.all fun r=>a.getD r.toNat 0==b.getD r.toNat 0
def fK (f:aO) (a:List Int) (who:Int):Int:=xA a who 0 (f.rows-1)
def FZ (f:aO) (w:Int) (rows:List Int):Bool:=(aG f []).all fun a=>(aG f []).all fun b=>!JO rows a b ||fK f a w==fK f b w
theorem Vp {f:aO} {w:Int} {rows:List Int}:FZ f w rows=true↔ ∀a∈aG f [], ∀b∈aG f [],JO rows a b=true->fK f a w=fK f b w:=by
 unfold FZ
 simp only[List.all_eq_true,Bool.or_eq_true,Bool.not_eq_true',beq_iff_eq]
 constructor
 ·intro h a ha b hb hs
  rcases h a ha b hb with h1|h1
  ·rw[hs] at h1;cases h1
  ·exact h1
 ·intro h a ha b hb
  cases hs:JO rows a b
  ·exact .inl rfl
  ·exact .inr (h a ha b hb hs)
theorem xJ {f:aO} {out a:List Int} (h:a∈aG f out):a∈kH f/\eF f out a=true:=List.mem_filter.1 h
theorem kY {f:aO} {out a:List Int} (h:a∈aG f out):a.length=f.rows.toNat:=(zD.1 (xJ h).1).1
end Go.Proofs.YtabpkkbiioihaaaGreatDoor
namespace Go.Proofs.YtabpkkbiioihaaaGreatDoor
open gZ
structure ax where
 field:aO
 rate:Int
 box:bK
 notes:List (Int×bK)
def bothR (r x:bK):bK:=(max r.1 x.1,min r.2 x.2)
def eX (l:ax) (out:List Int) (i:Nat) (due:Int):bK:=
 ((List.range l.notes.length).filter fun(k:Nat)=>!out.contains (k:Int)&&(l.notes.getD k (0,(0,0))).1==(i:Int)).foldl (fun r k=>bothR r (l.notes.getD k (0,(0,0))).2) (0,due)
theorem Uo {r x:bK} {n:Int}:inB n (bothR r x).1 (bothR r x).2=(inB n r.1 r.2&&inB n x.1 x.2):=by
 unfold bothR inB
 rw[Bool.eq_iff_iff]
 simp only[Bool.and_eq_true,decide_eq_true_eq]
 omega
theorem uM {ks:List Nat} {f:Nat->bK} {n:Int}: ∀r:bK,inB n (ks.foldl (fun r k=>bothR r (f k)) r).1 (ks.foldl (fun r k=>bothR r (f k)) r).2=(inB n r.1 r.2&&ks.all fun k=>inB n (f k).1 (f k).2):=by
 induction ks with
 |nil=>intro r;simp
 |cons k ks ih=>
  intro r
  rw[List.foldl_cons,ih,Uo,List.all_cons,Bool.and_assoc]
def ja (l:List Int):Int:=l.foldr (· + ·) 0
theorem iy (x:Int) (l:List Int):ja (x::l)=x+ja l:=rfl
theorem uw: ∀(rs:List bK),(∀r∈rs,r.1<=r.2)-> ∀n:Int,(ja (rs.map (·.1))<=n/\n<=ja (rs.map (·.2)))↔ ∃xs:List Int,xs.length=rs.length/\(∀i,i<rs.length->(rs.getD i (0,0)).1<=xs.getD i 0/\xs.getD i 0<=(rs.getD i (0,0)).2)/\ja xs=n:=by
 intro rs
 induction rs with
 |nil=>
  intro _ n
  constructor
  ·rintro⟨h1,h2⟩
   exact⟨[],rfl,fun i hi=>by simp at hi,by simp[ja] at h1 h2⊢;omega⟩
  ·rintro⟨xs,hx,_,hs⟩
   obtain rfl:=List.eq_nil_of_length_eq_zero hx
   simp[ja] at hs⊢
   omega
 |cons r rs ih=>
  intro hr n
  have hr0:=hr r List.mem_cons_self
  have ih':=ih (fun x hx=>hr x (List.mem_cons_of_mem _ hx))
  have hle:ja (rs.map (·.1))<=ja (rs.map (·.2)):=by
   have: ∀l:List bK,(∀r∈l,r.1<=r.2)->ja (l.map (·.1))<=ja (l.map (·.2)):=by
    intro l
    induction l with
    |nil=>intro _;exact Int.le_refl _
    |cons x l ihl=>
     intro hl
     have h1:=hl x List.mem_cons_self
     have h2:=ihl (fun y hy=>hl y (List.mem_cons_of_mem _ hy))
     simp only[List.map_cons,iy]
     omega
   exact this rs (fun x hx=>hr x (List.mem_cons_of_mem _ hx))
  simp only[List.map_cons,iy]
  constructor
  ·rintro⟨h1,h2⟩
   obtain⟨x,hx⟩: ∃x,x=max r.1 (n-ja (rs.map (·.2))):=⟨_,rfl⟩
   obtain⟨xs,k1,k2,k3⟩:=(ih' (n-x)).1 (by omega)
   refine⟨x::xs,by simp[k1],fun i hi=>?_,by rw[iy,k3];omega⟩
   cases i with
   |zero=>simp;omega
   |succ i=>simpa using k2 i (by simpa using hi)
  ·rintro⟨xs,k1,k2,k3⟩
   cases xs with
   |nil=>simp at k1
   |cons x xs=>
    have h0:=k2 0 (by simp)
    simp only[List.getD_cons_zero] at h0
    rw[iy] at k3
    have:=(ih' (n-x)).2 ⟨xs,by simpa using k1,fun i hi=>by simpa using k2 (i+1) (by simpa using hi),by omega⟩
    omega
theorem together {low high:Int} {box:bK} (h:low<=high) (hb:box.1<=box.2):(∃s,low<=s/\s<=high/\box.1<=s/\s<=box.2)↔low<=box.2/\box.1<=high:=by
 constructor
 ·rintro⟨s,h1,h2,h3,h4⟩
  omega
 ·rintro⟨h1,h2⟩
  exact⟨max low box.1,by omega,by omega,by omega,by omega⟩
def alone (l:ax) (out:List Int) (jC:List Int):List bK:=(List.range l.field.ai.toNat).map fun i=>eX l out i (jC.getD i 0)
def uB (l:ax) (out jC:List Int):Int:=ja ((alone l out jC).map (·.1))
def nJ (l:ax) (out jC:List Int):Int:=ja ((alone l out jC).map (·.2))
def eu (l:ax) (out jC:List Int):Bool:=(alone l out jC).all (fun r=>decide (r.1<=r.2))&&decide (uB l out jC<=l.box.2)&&decide (l.box.1<=nJ l out jC)
def gK (l:ax) (out jC:List Int):List bK:=
 (alone l out jC).map fun r=>bothR r (l.box.1-(nJ l out jC-r.2),l.box.2-(uB l out jC-r.1))
theorem LM {l:ax} {out jC:List Int} (hb:l.box.1<=l.box.2):eu l out jC=true↔ ∃xs:List Int,xs.length=(alone l out jC).length/\(∀i,i<(alone l out jC).length->((alone l out jC).getD i (0,0)).1<=xs.getD i 0/\xs.getD i 0<=((alone l out jC).getD i (0,0)).2)/\l.box.1<=ja xs/\ja xs<=l.box.2:=by
 unfold eu
 simp only[Bool.and_eq_true,List.all_eq_true,decide_eq_true_eq]
 have hle:(∀r∈alone l out jC,r.1<=r.2)->uB l out jC<=nJ l out jC:=fun h=>by
  unfold uB nJ
  generalize alone l out jC=rs at h
  induction rs with
  |nil=>exact Int.le_refl _
  |cons x rs ih=>
   have h1:=h x List.mem_cons_self
   have h2:=ih (fun y hy=>h y (List.mem_cons_of_mem _ hy))
   simp only[List.map_cons,iy]
   omega
 constructor
 ·rintro⟨⟨h1,h2⟩,h3⟩
  obtain⟨s,k1,k2,k3,k4⟩:=(together (hle h1) hb).2 ⟨h2,h3⟩
  obtain⟨xs,x1,x2,x3⟩:=(uw _ h1 s).1 ⟨k1,k2⟩
  exact⟨xs,x1,x2,by omega,by omega⟩
 ·rintro⟨xs,x1,x2,x3,x4⟩
  have hr: ∀r∈alone l out jC,r.1<=r.2:=fun r hr=>by
   obtain⟨i,hi,rfl⟩:=List.getElem_of_mem hr
   have:=x2 i hi
   rw[show(alone l out jC).getD i (0,0)=(alone l out jC)[i] from by simp[List.getD,hi]] at this
   omega
  obtain⟨k1,k2⟩:=(uw _ hr (ja xs)).2 ⟨xs,x1,x2,rfl⟩
  obtain⟨m1,m2⟩:=(together (hle hr) hb).1 ⟨ja xs,k1,k2,x3,x4⟩
  exact⟨⟨hr,m1⟩,m2⟩
end Go.Proofs.YtabpkkbiioihaaaGreatDoor
namespace Go.Proofs.YtabpkkbiioihaaaGreatDoor
open gZ
def bu (rate:Int) (rows:List Int):List Int:=(List.range 3).map fun(i:Nat)=>rate*(rows.count (i:Int):Int)
theorem iY (rate:Int) (rows:List Int):(bu rate rows).length=3:=by simp[bu]
theorem mO (rate:Int) (rows:List Int) {i:Nat} (hi:i<3):(bu rate rows).getD i 0=rate*(rows.count (i:Int):Int):=by
 unfold bu
 rw[List.getD_eq_getElem?_getD,List.getElem?_map,List.getElem?_range hi]
 rfl
theorem aca {a b:List Int} (ha:a.length=3) (hb:b.length=3) (h: ∀i,i<3->a.getD i 0=b.getD i 0):a=b:=by
 refine List.ext_getElem (by omega) fun i h1 h2=>?_
 have:=h i (by omega)
 simpa [List.getD,h1,h2] using this
theorem Pm (rate:Int):bu rate []=[0,0,0]:=by simp[bu,List.range_succ]
theorem KX (rate:Int) (rs:List Int) (n:Nat) (hn:n<3):(bu rate rs).set n ((bu rate rs).getD n 0+rate)=bu rate (rs++[(n:Int)]):=by
 refine aca (by simp[iY]) (iY _ _) fun i hi=>?_
 rw[mO _ _ hi,List.count_append]
 by_cases e:n=i
 ·subst e
  rw[List.getD_eq_getElem?_getD,List.getElem?_set_self (by rw[iY];omega),Option.getD_some,mO _ _ hn]
  simp[Int.mul_add]
 ·rw[List.getD_eq_getElem?_getD,List.getElem?_set_ne e, <-List.getD_eq_getElem?_getD,mO _ _ hi]
  have:List.count (i:Int) [(n:Int)]=0:=by
   rw[List.count_eq_zero]
   simp;omega
  rw[this,Nat.add_zero]
theorem KY (rate:Int) (rs:List Int) (x:Int) (hx:x<0):bu rate (rs++[x])=bu rate rs:=by
 refine aca (iY _ _) (iY _ _) fun i hi=>?_
 rw[mO _ _ hi,mO _ _ hi,List.count_append]
 have:List.count (i:Int) [x]=0:=by
  rw[List.count_eq_zero]
  simp;omega
 rw[this,Nat.add_zero]
theorem Ih {rate:Int} (h0:0<=rate) (h1:rate<=50) (rs:List Int) (hl:rs.length<=7) (i:Nat) (hi:i<3):0<=(bu rate rs).getD i 0/\(bu rate rs).getD i 0<=350:=by
 rw[mO _ _ hi]
 have hc:(List.count (i:Int) rs:Int)<=7:=by
  have:=List.count_le_length (a:=(i:Int)) (l:=rs)
  omega
 have hc0:(0:Int)<=(List.count (i:Int) rs:Int):=by omega
 refine⟨Int.mul_nonneg h0 hc0,?_⟩
 calc rate*(List.count (i:Int) rs:Int)<=50*7:=Int.mul_le_mul h1 hc hc0 (by omega)
  _=350:=rfl
end Go.Proofs.YtabpkkbiioihaaaGreatDoor
namespace Go.Proofs.YtabpkkbiioihaaaGreatDoor
open gZ
def iV (l:ax) (out:List Int) (k:Nat):List (Int×bK):=((List.range k).filter fun(i:Nat)=>!out.contains (i:Int)).map fun i=>l.notes.getD i (0,(0,0))
def lX (l:ax) (out:List Int):List (Int×bK):=iV l out l.notes.length
theorem Kw {l:ax} {out:List Int} {k:Nat} (h:out.contains (k:Int)=false):iV l out (k+1)=iV l out k++[l.notes.getD k (0,(0,0))]:=by
 unfold iV
 rw[List.range_succ,List.filter_append,List.map_append]
 congr 1
 rw[List.filter_cons_of_pos (by rw[h];rfl)]
 rfl
theorem OC {l:ax} {out:List Int} {k:Nat} (h:out.contains (k:Int)=true):iV l out (k+1)=iV l out k:=by
 unfold iV
 rw[List.range_succ,List.filter_append,List.map_append,List.filter_cons_of_neg (by rw[h];simp)]
 simp
theorem zJ (l:ax) (out:List Int) (k:Nat):(iV l out k).length<=k:=by
 unfold iV
 rw[List.length_map]
 have:=List.length_filter_le (fun(i:Nat)=>!out.contains (i:Int)) (List.range k)
 simpa using this
def qE (ns:List (Int×bK)) (key:Int×Int) (k:Nat):bK:=(ns.take k).foldl (fun r n=>if n.1=key.1 then bothR r n.2 else r) (0,key.2)
def kn (ns:List (Int×bK)) (key:Int×Int):bK:=qE ns key ns.length
theorem CS {ns:List (Int×bK)} {key:Int×Int} {k:Nat} (hk:k<ns.length):qE ns key (k+1)=if ns[k].1=key.1 then bothR (qE ns key k) ns[k].2 else qE ns key k:=by
 unfold qE
 rw[List.take_succ_eq_append_getElem hk,List.foldl_append]
 rfl
theorem vN (l:ax) (out:List Int) (i:Nat) (due:Int):kn (lX l out) ((i:Int),due)=eX l out i due:=by
 unfold kn qE eX lX iV
 rw[List.take_length,List.foldl_map]
 generalize List.range l.notes.length=ks
 have: ∀(ks:List Nat) (r:bK),(ks.filter fun(k:Nat)=>!out.contains (k:Int)).foldl (fun r k=>if(l.notes.getD k (0,(0,0))).1=(i:Int) then bothR r (l.notes.getD k (0,(0,0))).2 else r) r=
  (ks.filter fun(k:Nat)=>!out.contains (k:Int)&&(l.notes.getD k (0,(0,0))).1==(i:Int)).foldl (fun r k=>bothR r (l.notes.getD k (0,(0,0))).2) r:=by
  intro ks
  induction ks with
  |nil=>intro r;rfl
  |cons k ks ih=>
   intro r
   cases hc:out.contains (k:Int)
   ·by_cases hn:(l.notes.getD k (0,(0,0))).1=(i:Int)
    ·simp only[List.filter_cons,hc,hn,Bool.not_false,if_true,beq_self_eq_true,Bool.and_self,List.foldl_cons]
     exact ih _
    ·have hnb:((l.notes.getD k (0,(0,0))).1==(i:Int))=false:=by simpa using hn
     simp only[List.filter_cons,hc,hnb,hn,Bool.not_false,if_true,if_false,Bool.and_false,Bool.false_eq_true,List.foldl_cons]
     exact ih _
   ·simp only[List.filter_cons,hc,Bool.not_true,Bool.false_and,Bool.false_eq_true,if_false]
    exact ih _
 exact this ks (0,due)
theorem NK (xs:List Int) (x:Int):ja (xs++[x])=ja xs+x:=by
 induction xs with
 |nil=>simp[ja]
 |cons y xs ih=>rw[List.cons_append,iy,iy,ih];omega
def sumTo (f:bK->Int) (rs:List bK) (k:Nat):Int:=ja ((rs.take k).map f)
theorem mY (f:bK->Int) {rs:List bK} {k:Nat} (hk:k<rs.length):sumTo f rs (k+1)=sumTo f rs k+f rs[k]:=by
 unfold sumTo
 rw[List.take_succ_eq_append_getElem hk,List.map_append,List.map_singleton,NK]
theorem qO (f:bK->Int) (rs:List bK) (h: ∀r∈rs,0<=f r/\f r<=2000): ∀k,k<=rs.length->0<=sumTo f rs k/\sumTo f rs k<=2000*k:=by
 intro k
 induction k with
 |zero=>intro _;simp[sumTo,ja]
 |succ k ih=>
  intro hk
  have:=ih (by omega)
  have:=h rs[k] (List.getElem_mem _)
  rw[mY f (by omega)]
  omega
theorem sJ (f:bK->Int) (rs:List bK):sumTo f rs rs.length=ja (rs.map f):=by unfold sumTo;rw[List.take_length]
theorem VD {ns:List (Int×bK)} (hn: ∀x∈ns,0<=x.2.1/\x.2.1<=2000/\0<=x.2.2/\x.2.2<=2000) {key:Int×Int} (h0:0<=key.2) (_h1:key.2<=2000): ∀k,k<=ns.length->0<=(qE ns key k).1/\(qE ns key k).1<=2000/\0<=(qE ns key k).2/\(qE ns key k).2<=key.2:=by
 intro k
 induction k with
 |zero=>intro _;simp[qE];omega
 |succ k ih=>
  intro hk
  have h:=ih (by omega)
  have hx:=hn ns[k] (List.getElem_mem _)
  rw[CS (by omega)]
  split
  ·unfold bothR
   simp only
   omega
  ·exact h
theorem OD {l:ax} {out:List Int} {x:Int×bK} (h:x∈lX l out):x∈l.notes:=by
 unfold lX iV at h
 obtain⟨i,hi,rfl⟩:=List.mem_map.1 h
 have:=List.mem_range.1 (List.mem_filter.1 hi).1
 rw[show l.notes.getD i (0,(0,0))=l.notes[i] from by simp[List.getD,this]]
 exact List.getElem_mem _
structure kJ (l:ax):Prop where
 field:fC l.field=0
 some:aG l.field []≠[]
 rate:1<=l.rate/\l.rate<=50
 box:0<=l.box.1/\l.box.1<=l.box.2/\l.box.2<=2000
 many:l.notes.length<=5
 notes: ∀x∈l.notes,(0<=x.1/\x.1<l.field.ai)/\(0<=x.2.1/\x.2.1<=x.2.2/\x.2.2<=2000)
theorem GY {l:ax} (hS:kJ l) (out:List Int) (i:Nat) {due:Int} (h0:0<=due) (h1:due<=2000):0<=(eX l out i due).1/\(eX l out i due).1<=2000/\0<=(eX l out i due).2/\(eX l out i due).2<=due:=by
 rw[<-vN]
 exact VD (fun x hx=>by have:=hS.notes x (OD hx);omega) h0 h1 _ (Nat.le_refl _)
theorem jZ (l:ax) (out d:List Int):(alone l out d).length=l.field.ai.toNat:=by simp[alone]
theorem ku (l:ax) (out d:List Int) {i:Nat} (hi:i<l.field.ai.toNat):(alone l out d).getD i (0,0)=eX l out i (d.getD i 0):=by
 unfold alone
 rw[List.getD_eq_getElem?_getD,List.getElem?_map,List.getElem?_range hi]
 rfl
end Go.Proofs.YtabpkkbiioihaaaGreatDoor
namespace Go.Proofs.YtabpkkbiioihaaaGreatDoor
open gZ
def qK (r x:bK):bK:=(min r.1 x.1,max r.2 x.2)
def BV (due:Int) (_:bK):bK:=(due,due)
def kQ (_:Int) (r:bK):bK:=r
def iR (due:Int) (r:bK):bK:=(due-r.2,due-r.1)
def lV (p:Int->bK->bK) (l:ax) (d:List Int):List bK:=(List.range l.field.ai.toNat).map fun i=>p (d.getD i 0) ((gK l [] d).getD i (0,0))
def iH (acc jE:List bK) (i:Nat):List bK:=if acc=[] then jE.take i else(List.zipWith qK acc jE).take i++acc.drop i
def BA (acc jE:List bK):List bK:=if acc=[] then jE else List.zipWith qK acc jE
def oC (p:Int->bK->bK) (l:ax) (acc:List bK) (d:List Int):List bK:=if eu l [] d=true then BA acc (lV p l d) else acc
def ji (p:Int->bK->bK) (l:ax) (k:Nat) (ds:List (List Int)):List bK:=(ds.take k).foldl (oC p l) []
def jG (p:Int->bK->bK) (l:ax) (ds:List (List Int)):List bK:=ji p l ds.length ds
theorem Cb (l:ax) (out d:List Int):(gK l out d).length=l.field.ai.toNat:=by simp[gK,jZ]
theorem jX (p:Int->bK->bK) (l:ax) (d:List Int):(lV p l d).length=l.field.ai.toNat:=by simp[lV]
theorem CJ (p:Int->bK->bK) (l:ax) (d:List Int) {i:Nat} (hi:i<(lV p l d).length):(lV p l d)[i]=p (d.getD i 0) ((gK l [] d).getD i (0,0)):=by
 simp[lV]
theorem uQ (p:Int->bK->bK) (l:ax) {k:Nat} {ds:List (List Int)} (hk:k<ds.length):ji p l (k+1) ds=oC p l (ji p l k ds) ds[k]:=by
 unfold ji
 rw[List.take_succ_eq_append_getElem hk,List.foldl_append]
 rfl
theorem Uz {acc jE:List bK} (h:acc=[]∨acc.length=jE.length):(BA acc jE).length=jE.length:=by
 unfold BA
 split
 ·rfl
 ·rcases h with h|h
  ·contradiction
  ·simp[h]
theorem Dk (p:Int->bK->bK) (l:ax) (ds:List (List Int)): ∀k,k<=ds.length->ji p l k ds=[]∨(ji p l k ds).length=l.field.ai.toNat:=by
 intro k
 induction k with
 |zero=>intro _;exact .inl rfl
 |succ k ih=>
  intro hk
  rw[uQ p l (by omega)]
  have h:=ih (by omega)
  unfold oC
  split
  ·right
   rw[Uz (by rw[jX];exact h),jX]
  ·exact h
theorem qj (acc jE:List bK):iH acc jE 0=acc:=by
 unfold iH
 split
 ·rename_i h;rw[h];rfl
 ·simp
theorem P7 {acc jE:List bK} (h:acc=[]∨acc.length=jE.length):iH acc jE jE.length=BA acc jE:=by
 unfold iH BA
 split
 ·simp
 ·rcases h with h|h
  ·contradiction
  ·rw[List.take_of_length_le (by simp;omega),List.drop_of_length_le (by omega),List.append_nil]
theorem P6 {acc jE:List bK} {i:Nat} (h:acc=[]∨acc.length=jE.length) (hi:i<=jE.length):(iH acc jE i).length=if acc=[] then i else jE.length:=by
 unfold iH
 by_cases e:acc=[]
 ·rw[if_pos e,if_pos e];simp;omega
 ·rw[if_neg e,if_neg e]
  rcases h with h|h
  ·contradiction
  ·simp;omega
theorem P5 {jE:List bK} {i:Nat} (hi:i<jE.length):iH [] jE (i+1)=iH [] jE i++[jE[i]]:=by
 unfold iH
 rw[if_pos rfl,if_pos rfl,List.take_succ_eq_append_getElem hi]
theorem PZ {acc jE:List bK} {i:Nat} (ha:acc≠[]) (h:acc.length=jE.length) (hi:i<jE.length):
 (iH acc jE i)[i]? =acc[i]?/\iH acc jE (i+1)=(iH acc jE i).set i (qK (acc.getD i (0,0)) jE[i]):=by
 unfold iH
 rw[if_neg ha,if_neg ha]
 have hz:((List.zipWith qK acc jE).take i).length=i:=by simp;omega
 refine⟨?_,?_⟩
 ·rw[List.getElem?_append_right (by omega),hz,List.getElem?_drop,Nat.sub_self,Nat.add_zero]
 ·rw[List.set_append_right _ _ (by omega),hz,Nat.sub_self,List.drop_eq_getElem_cons (by omega:i<acc.length),List.set_cons_zero,
   List.take_succ_eq_append_getElem (by simp;omega),List.append_assoc,List.singleton_append]
  simp[List.getD,h,hi]
structure iw (S:bK->Prop) (r:bK):Prop where
 low:(∃x,S x/\x.1=r.1)/\ ∀x,S x->r.1<=x.1
 high:(∃x,S x/\x.2=r.2)/\ ∀x,S x->x.2<=r.2
theorem iw.unique {S:bK->Prop} {r x:bK} (h:iw S r) (k:iw S x):r=x:=by
 obtain⟨⟨⟨a,ha,ha'⟩,h1⟩,⟨b,hb,hb'⟩,h2⟩:=h
 obtain⟨⟨⟨c,hc,hc'⟩,k1⟩,⟨d,hd,hd'⟩,k2⟩:=k
 have:=h1 c hc
 have:=k1 a ha
 have:=h2 d hd
 have:=k2 b hb
 exact Prod.ext (by omega) (by omega)
theorem iw.one (x:bK):iw (fun y=>y=x) x:=⟨⟨⟨x,rfl,rfl⟩,fun y h=>by rw[h];exact Int.le_refl _⟩,⟨x,rfl,rfl⟩,fun y h=>by rw[h];exact Int.le_refl _⟩
theorem iw.add {S:bK->Prop} {r:bK} (h:iw S r) (x:bK):iw (fun y=>S y∨y=x) (qK r x):=by
 obtain⟨⟨⟨a,ha,ha'⟩,h1⟩,⟨b,hb,hb'⟩,h2⟩:=h
 unfold qK
 refine⟨⟨?_,?_⟩,?_,?_⟩
 ·by_cases e:r.1<=x.1
  ·exact⟨a,.inl ha,by simp only;omega⟩
  ·exact⟨x,.inr rfl,by simp only;omega⟩
 ·rintro y (hy|rfl)
  ·have:=h1 y hy;simp only;omega
  ·simp only;omega
 ·by_cases e:x.2<=r.2
  ·exact⟨b,.inl hb,by simp only;omega⟩
  ·exact⟨x,.inr rfl,by simp only;omega⟩
 ·rintro y (hy|rfl)
  ·have:=h2 y hy;simp only;omega
  ·simp only;omega
theorem iw.congr {S T:bK->Prop} {r:bK} (h:iw S r) (e: ∀x,S x↔T x):iw T r:=by
 obtain⟨⟨⟨a,ha,ha'⟩,h1⟩,⟨b,hb,hb'⟩,h2⟩:=h
 exact⟨⟨⟨a,(e a).1 ha,ha'⟩,fun x hx=>h1 x ((e x).2 hx)⟩,⟨b,(e b).1 hb,hb'⟩,fun x hx=>h2 x ((e x).2 hx)⟩
theorem Ai (p:Int->bK->bK) (l:ax) (ds:List (List Int)) {i:Nat} (hi:i<l.field.ai.toNat): ∀k,k<=ds.length->
 (ji p l k ds=[]/\ ∀d∈ds.take k,eu l [] d=false)∨((ji p l k ds).length=l.field.ai.toNat/\iw (fun y=> ∃d∈ds.take k,eu l [] d=true/\y=p (d.getD i 0) ((gK l [] d).getD i (0,0))) ((ji p l k ds).getD i (0,0))):=by
 intro k
 induction k with
 |zero=>intro _;exact .inl ⟨rfl,fun d hd=>by simp at hd⟩
 |succ k ih=>
  intro hk
  have hkl:k<ds.length:=by omega
  rw[uQ p l hkl,List.take_succ_eq_append_getElem hkl]
  have hn: ∀d,(lV p l d).getD i (0,0)=p (d.getD i 0) ((gK l [] d).getD i (0,0)):=fun d=>by
   have hi':i<(lV p l d).length:=by rw[jX];exact hi
   rw[List.getD_eq_getElem?_getD,List.getElem?_eq_getElem hi',Option.getD_some,CJ p l d hi']
  cases hc:eu l [] ds[k] with
  |false=>
   have hs:oC p l (ji p l k ds) ds[k]=ji p l k ds:=by unfold oC;rw[hc];rfl
   rw[hs]
   rcases ih (by omega) with⟨h1,h2⟩|⟨h1,h2⟩
   ·refine .inl ⟨h1,fun d hd=>?_⟩
    rcases List.mem_append.1 hd with h|h
    ·exact h2 d h
    ·rw[List.mem_singleton.1 h];exact hc
   ·refine .inr ⟨h1,h2.congr fun x=>⟨fun⟨d,hd,a,b⟩=>⟨d,List.mem_append_left _ hd,a,b⟩,fun⟨d,hd,a,b⟩=>?_⟩⟩
    rcases List.mem_append.1 hd with h|h
    ·exact⟨d,h,a,b⟩
    ·rw[List.mem_singleton.1 h,hc] at a;cases a
  |true=>
   have hs:oC p l (ji p l k ds) ds[k]=BA (ji p l k ds) (lV p l ds[k]):=by unfold oC;rw[hc];rfl
   rw[hs]
   right
   rcases ih (by omega) with⟨h1,h2⟩|⟨h1,h2⟩
   ·rw[h1]
    have ha:BA [] (lV p l ds[k])=lV p l ds[k]:=by unfold BA;rw[if_pos rfl]
    rw[ha]
    refine⟨jX _ _ _,?_⟩
    rw[hn]
    refine(iw.one _).congr fun x=>⟨fun e=>⟨ds[k],List.mem_append_right _ (List.mem_singleton.2 rfl),hc,e⟩,fun⟨d,hd,a,b⟩=>?_⟩
    rcases List.mem_append.1 hd with h|h
    ·rw[h2 d h] at a;cases a
    ·rw[List.mem_singleton.1 h] at b;exact b
   ·have hne:ji p l k ds≠[]:=fun e=>by rw[e] at h1;simp at h1;omega
    have ha:BA (ji p l k ds) (lV p l ds[k])=List.zipWith qK (ji p l k ds) (lV p l ds[k]):=by unfold BA;rw[if_neg hne]
    rw[ha]
    refine⟨by simp[h1,jX],?_⟩
    have hg:(List.zipWith qK (ji p l k ds) (lV p l ds[k])).getD i (0,0)=qK ((ji p l k ds).getD i (0,0)) (p (ds[k].getD i 0) ((gK l [] ds[k]).getD i (0,0))):=by
     rw[<-hn ds[k]]
     have h3:i<(ji p l k ds).length:=by omega
     have h4:i<(lV p l ds[k]).length:=by rw[jX];exact hi
     simp only[List.getD_eq_getElem?_getD,List.getElem?_zipWith,List.getElem?_eq_getElem h3,List.getElem?_eq_getElem h4,Option.getD_some]
    rw[hg]
    refine(h2.add _).congr fun x=>⟨?_,?_⟩
    ·rintro(⟨d,hd,a,b⟩|e)
     ·exact⟨d,List.mem_append_left _ hd,a,b⟩
     ·exact⟨ds[k],List.mem_append_right _ (List.mem_singleton.2 rfl),hc,e⟩
    ·rintro⟨d,hd,a,b⟩
     rcases List.mem_append.1 hd with h|h
     ·exact .inl ⟨d,h,a,b⟩
     ·rw[List.mem_singleton.1 h] at b;exact .inr b
theorem MJ {rs:List bK} (h: ∀r∈rs,r.1<=r.2):ja (rs.map (·.1))<=ja (rs.map (·.2)):=by
 induction rs with
 |nil=>exact Int.le_refl _
 |cons x rs ih=>
  have h1:=h x List.mem_cons_self
  have h2:=ih (fun y hy=>h y (List.mem_cons_of_mem _ hy))
  simp only[List.map_cons,iy]
  omega
theorem kZ {l:List Int} {i:Nat} (hi:i<l.length) (x:Int):ja (l.set i x)=ja l-l.getD i 0+x:=by
 induction l generalizing i with
 |nil=>simp at hi
 |cons y l ih=>
  cases i with
  |zero=>simp only[List.set_cons_zero,iy,List.getD_cons_zero];omega
  |succ i=>
   have:=ih (i:=i) (by simpa using hi)
   simp only[List.set_cons_succ,iy,List.getD_cons_succ]
   omega
theorem sQ (l:ax) (out d:List Int) {i:Nat} (hi:i<l.field.ai.toNat):
 (gK l out d).getD i (0,0)=bothR (eX l out i (d.getD i 0)) (l.box.1-(nJ l out d-(eX l out i (d.getD i 0)).2),l.box.2-(uB l out d-(eX l out i (d.getD i 0)).1)):=by
 have ha:=ku l out d hi
 have hl:i<(alone l out d).length:=by rw[jZ];exact hi
 rw[List.getD_eq_getElem?_getD,List.getElem?_eq_getElem hl,Option.getD_some] at ha
 unfold gK
 rw[List.getD_eq_getElem?_getD,List.getElem?_map,List.getElem?_eq_getElem hl,ha]
 rfl
theorem JY {l:ax} {out d:List Int} {i:Nat} (hi:i<l.field.ai.toNat) (hb:l.box.1<=l.box.2) (hc:eu l out d=true):((gK l out d).getD i (0,0)).1<=((gK l out d).getD i (0,0)).2:=by
 rw[sQ l out d hi]
 have hl:i<(alone l out d).length:=by rw[jZ];exact hi
 have ha:=ku l out d hi
 unfold eu at hc
 simp only[Bool.and_eq_true,List.all_eq_true,decide_eq_true_eq] at hc
 obtain⟨⟨h1,h2⟩,h3⟩:=hc
 have e1:ja (((alone l out d).set i (0,0)).map (·.1))=uB l out d-(eX l out i (d.getD i 0)).1:=by
  rw[List.map_set,kZ (by simpa using hl)]
  unfold uB
  rw[<-ha,List.getD_eq_getElem?_getD,List.getD_eq_getElem?_getD,List.getElem?_map,List.getElem?_eq_getElem hl]
  simp
 have e2:ja (((alone l out d).set i (0,0)).map (·.2))=nJ l out d-(eX l out i (d.getD i 0)).2:=by
  rw[List.map_set,kZ (by simpa using hl)]
  unfold nJ
  rw[<-ha,List.getD_eq_getElem?_getD,List.getD_eq_getElem?_getD,List.getElem?_map,List.getElem?_eq_getElem hl]
  simp
 have e3:=MJ (rs:=(alone l out d).set i (0,0)) (fun r hr=>by
  rcases List.mem_or_eq_of_mem_set hr with h|h
  ·exact h1 r h
  ·rw[h];exact Int.le_refl _)
 have e4:=h1 _ (by rw[List.getD_eq_getElem?_getD,List.getElem?_eq_getElem hl,Option.getD_some] at ha;rw[<-ha];exact List.getElem_mem hl:eX l out i (d.getD i 0)∈alone l out d)
 rw[e1,e2] at e3
 unfold bothR
 simp only
 omega
end Go.Proofs.YtabpkkbiioihaaaGreatDoor
namespace Go.Proofs.YtabpkkbiioihaaaGreatDoor
open gZ
end Go.Proofs.YtabpkkbiioihaaaGreatDoor
namespace Go.Proofs.YtabpkkbiioihaaaGreatDoor
open gZ
end Go.Proofs.YtabpkkbiioihaaaGreatDoor
end
section
namespace Go.RG
open Go.RowKit
structure Ext (Ms:List Nat) (w w':World):Prop where
 os:w'.os=w.os
 tape:w'.tape=w.tape
 output:w'.output=w.output
 size:w.heap.size<=w'.heap.size
 block: ∀k,k<w.heap.size->k∉Ms->w'.heap[k]? =w.heap[k]?
theorem Ext.refl (Ms:List Nat) (w:World):Ext Ms w w:=⟨rfl,rfl,rfl,Nat.le_refl _,fun _ _ _=>rfl⟩
theorem Ext.trans {Ms:List Nat} {a b c:World} (h:Ext Ms a b) (k:Ext Ms b c):Ext Ms a c:=
 ⟨k.os.trans h.os,k.tape.trans h.tape,k.output.trans h.output,Nat.le_trans h.size k.size,
   fun i hi hm=>(k.block i (Nat.lt_of_lt_of_le hi h.size) hm).trans (h.block i hi hm)⟩
theorem Ext.more {Ms Ms':List Nat} {w w':World} (h:Ext Ms w w') (hs: ∀x,x∈Ms->x∈Ms'):Ext Ms' w w':=
 ⟨h.os,h.tape,h.output,h.size,fun k hk hm=>h.block k hk (fun e=>hm (hs k e))⟩
theorem Ext.nil {Ms:List Nat} {w w':World} (h:Ext [] w w'):Ext Ms w w':=h.more (by simp)
theorem Ext.of_below {Ms:List Nat} {w w':World} (h:Below w.heap.size w w'):Ext Ms w w':=
 ⟨h.os,h.tape,h.output,h.size,fun k hk _=>h.block k hk⟩
theorem Ext.below {w w':World} (h:Ext [] w w'):Below w.heap.size w w':=
 ⟨h.os,h.tape,h.output,h.size,fun k hk=>h.block k hk (by simp)⟩
theorem Ext.drew {Ms:List Nat} {a w:World} (h:Ext Ms a w):Ext Ms a w.drew:=⟨h.os,h.tape,h.output,h.size,h.block⟩
theorem Ext.cell {Ms:List Nat} {w w':World} (h:Ext Ms w w') (b o:Nat) (hb:b<w.heap.size) (hm:b∉Ms):w'.cell? ⟨b,o,none⟩=w.cell? ⟨b,o,none⟩:=
 World.cell?_of_block (w:=w) (h.block b hb hm)
def Does (P:Program) (o:Oper) (ρ:Operand->Value) (W:World) (R:Value->World->Prop):Prop:=
 match (execOp ρ o).run P W with
 | .ok (.value v) w'=>R v w'
 | .ok .skip w'=>R undef w'
 | .ok (.enter f args) w'=>Calls P f args w' (fun e w''=> ∃v,e= .returned v/\R v w'')
 |_=>False
structure Spec where
 pure:List Value->Value->Prop
 world:List Value->Value->World->Prop
abbrev Facts:=List (Nat×(World->Prop))
def jH (o:Oper) (a:Act):List Value:=o.op.operands.toList.map a.eval
def iL (ops:Array Oper) (j i:Nat):Bool:=((Region.before ops).getD i 0).testBit j
structure Ap (R0 R1:World->World->Prop):Prop where
 refl: ∀w,R0 w w
 XX: ∀{a b c},R0 a b->R0 b c->R0 a c
 XW: ∀{a b c},R1 a b->R1 b c->R1 a c
 sub: ∀{a b},R0 a b->R1 a b
def qp (R0 R1:World->World->Prop) (m:Option Nat) (i:Nat):World->World->Prop:=if m=some i then R1 else R0
def iQ (R0 R1:World->World->Prop) (m:Option Nat) (i:Nat):World->World->Prop:=if m=some i then R0 else R1
theorem Ap.Vx {R0 R1:World->World->Prop} (h:Ap R0 R1) {m:Option Nat} (i:Nat) (w:World):iQ R0 R1 m i w w:=by
 unfold iQ
 split
 ·exact h.refl w
 ·exact h.sub (h.refl w)
theorem vC (Ms:List Nat):Ap (Ext []) (Ext Ms):=⟨Ext.refl [],Ext.trans,Ext.trans,Ext.nil⟩
abbrev oL:=Nat->List Value->Value->World->Prop
def Gy:oL:=fun _ _ _ _=>True
def L6 (ops:Array Oper) (R0 R1:World->World->Prop) (m:Option Nat) (W0:World) (F G:Facts) (i:Nat) (W:World):Prop:=
 iQ R0 R1 m i W0 W/\(∀f∈F,iL ops f.1 i=true->f.2 W)/\(m=some i-> ∀g∈G,iL ops g.1 i=true->g.2 W)
def lJ (n t:Nat):Array Bool:=((List.range n).map (fun i=>decide (i<t))).toArray
def chk (ops:Array Oper) (k:Nat):Bool:=
 let n:=ops.size
 let at_ (i:Nat):Oper:=ops.getD i default
 decide (k<=n)&&
 (List.range n).all (fun i=>(at_ i).after.toList.all fun e=>!Region.binds .any e ||decide (e.on<i))&&
 (List.range k).all (fun i=>(List.range k).all fun j=>i==j ||(at_ i).dst.isNone ||(at_ i).dst !=(at_ j).dst)&&
 (List.range k).all (fun i=>((at_ i).looksAt ops).all fun t=>(List.range k).all fun j=>
   (at_ j).dst !=some t ||i==j ||(decide (j<i)&&iL ops j i) ||(decide (i<j)&&iL ops i j))&&
 (List.range n).all (fun i=>decide (i<k) ||(List.range k).all fun j=>iL ops j i)&&
 (List.range n).all (fun i=>match (at_ i).op with| .select .. =>false|_=>true)&&
 (List.range (n-k)).all (fun t=>Region.ready .any ops (lJ n (k+t))==[k+t])&&
 Region.ready .any ops (lJ n n)==[]
def Down (ops:Array Oper) (D:Nat->Prop):Prop:= ∀i o,ops[i]? =some o->D i-> ∀e∈o.after,Region.binds .any e=true->D e.on
theorem Ov (acc:Array Nat) (j:Nat) (l:List Edge) (s:Nat)
 (h:(l.foldl (fun s e=>if Region.binds .any e then s |||2^e.on |||acc.getD e.on 0 else s) s).testBit j=true):
 s.testBit j=true∨ ∃e∈l,Region.binds .any e=true/\(j=e.on∨(acc.getD e.on 0).testBit j=true):=by
 induction l generalizing s with
 |nil=>exact .inl h
 |cons e l ih=>
  simp only[List.foldl_cons] at h
  rcases ih _ h with h1|⟨e',he',hb,hj⟩
  ·by_cases hb:Region.binds .any e=true
   ·rw[if_pos hb] at h1
    simp only[Nat.testBit_or,Bool.or_eq_true,Nat.testBit_two_pow,decide_eq_true_eq] at h1
    rcases h1 with(h1|h1)|h1
    ·exact .inl h1
    ·exact .inr ⟨e,by simp,hb,.inl h1.symm⟩
    ·exact .inr ⟨e,by simp,hb,.inr h1⟩
   ·rw[if_neg hb] at h1
    exact .inl h1
  ·exact .inr ⟨e',by simp[he'],hb,hj⟩
def masks (l:List Oper):Array Nat:=
 l.foldl (fun acc o=>acc.push (o.after.foldl (fun s e=>if Region.binds .any e then s |||2^e.on |||acc.getD e.on 0 else s) 0)) #[]
theorem PO (ops:Array Oper):Region.before ops=masks ops.toList:=by
 simp only[Region.before,masks,Array.foldl_toList]
theorem zF (l:List Oper) (o:Oper):masks (l++[o])=(masks l).push (o.after.foldl (fun s e=>if Region.binds .any e then s |||2^e.on |||(masks l).getD e.on 0 else s) 0):=by
 simp[masks,List.foldl_append]
theorem kF {α:Type} {p:List α->Prop} (h0:p []) (h1: ∀l a,p l->p (l++[a])) (l:List α):p l:=by
 rw[<-l.reverse_reverse]
 induction l.reverse with
 |nil=>exact h0
 |cons a t ih=>rw[List.reverse_cons];exact h1 _ _ ih
theorem uA (l:List Oper):(masks l).size=l.length:=by
 induction l using kF with
 |h0=>rfl
 |h1 l o ih=>simp[zF,ih]
theorem Ou (l:List Oper) (D:Nat->Prop) (hD: ∀i o,l[i]? =some o->D i-> ∀e∈o.after,Region.binds .any e=true->D e.on):
 ∀i j,i<l.length->D i->((masks l).getD i 0).testBit j=true->D j:=by
 induction l using kF with
 |h0=>intro i j hi;simp at hi
 |h1 l o ih=>
  have ih':=ih (fun i o' hi=>hD i o' (by
   have:=(List.getElem?_eq_some_iff.1 hi).1
   rw[List.getElem?_append_left this];exact hi))
  intro i j hi hDi h
  rw[zF] at h
  by_cases hlt:i<l.length
  ·rw[Array.getD_eq_getD_getElem?,Array.getElem?_push,if_neg (by rw[uA];omega), <-Array.getD_eq_getD_getElem?] at h
   exact ih' i j hlt hDi h
  ·have hi':i=l.length:=by simp at hi;omega
   subst hi'
   rw[Array.getD_eq_getD_getElem?,Array.getElem?_push,if_pos (by rw[uA])] at h
   simp only[Option.getD_some] at h
   rw[<-Array.foldl_toList] at h
   rcases Ov _ j _ _ h with h1|⟨e,he,hb,hj⟩
   ·simp at h1
   ·have hDe:D e.on:=hD l.length o (by simp) hDi e (by simpa using he) hb
    rcases hj with rfl|hj
    ·exact hDe
    ·by_cases hlt':e.on<l.length
     ·exact ih' e.on j hlt' hDe hj
     ·rw[Array.getD_eq_getD_getElem?,Array.getElem?_eq_none (by rw[uA];omega)] at hj
      simp at hj
theorem nP {ops:Array Oper} {D:Nat->Prop} (hD:Down ops D) {i j:Nat} (hi:i<ops.size) (hDi:D i) (h:iL ops j i=true):D j:=by
 unfold iL at h
 rw[PO] at h
 exact Ou ops.toList D (fun i o hi=>hD i o (by simpa using hi)) i j (by simpa using hi) hDi h
theorem PS {ops:Array Oper} {D:Nat->Prop} (hD:Down ops D) {i j:Nat} {o:Oper} (ho:ops[i]? =some o)
 (hr: ∀e∈o.after,Region.binds .any e=true->D e.on) (h:iL ops j i=true) (hij:j≠i):D j:=by
 have hD':Down ops (fun t=>D t∨t=i):=by
  intro t o' ht hDt e he hb
  rcases hDt with hDt|rfl
  ·exact .inl (hD t o' ht hDt e he hb)
  ·rw[ho] at ht;cases ht
   exact .inl (hr e he hb)
 exact(nP hD' (Array.getElem?_eq_some_iff.1 ho).1 (.inr rfl) h).resolve_right hij
section
variable {P : Program} {ops : Array Oper}
def jM (ops:Array Oper) (i:Nat):Option Tmp:=(ops[i]?).bind (·.dst)
def ig (ops:Array Oper) (env:Nat->Value) (a0:Act) (l:List Nat):Act:=l.foldl (fun a i=>a.put (jM ops i) (env i)) a0
theorem jc (env:Nat->Value) (a0:Act) (l:List Nat) (i:Nat):ig ops env a0 (l++[i])=(ig ops env a0 l).put (jM ops i) (env i):=by
 simp[ig,List.foldl_append]
theorem put_defers (a:Act) (d:Option Tmp) (v:Value):(a.put d v).defers=a.defers:=by cases d <;>rfl
theorem Rj (a:Act) (d:Option Tmp) (v:Value):(a.put d v).tmps.size=a.tmps.size:=by cases d <;>simp[Act.put]
theorem MM (a:Act) (d:Option Tmp) (v:Value) (t:Nat):(a.put d v).tmps[t]? =if d=some t then(if t<a.tmps.size then some v else none) else a.tmps[t]? :=by
 cases d with
 |none=>simp[Act.put]
 |some d=>
  by_cases h:d=t
  ·subst h;simp[Act.put,Array.getElem?_setIfInBounds]
  ·have h':some d≠some t:=fun e=>h (Option.some.inj e)
   rw[if_neg h']
   simp[Act.put,Array.getElem?_setIfInBounds_ne h]
theorem jo (env:Nat->Value) (a0:Act) (l:List Nat):(ig ops env a0 l).defers=a0.defers:=by
 induction l using kF with
 |h0=>rfl
 |h1 l i ih=>rw[jc,put_defers,ih]
theorem F9 (env:Nat->Value) (a0:Act) (l:List Nat):(ig ops env a0 l).tmps.size=a0.tmps.size:=by
 induction l using kF with
 |h0=>rfl
 |h1 l i ih=>rw[jc,Rj,ih]
theorem xR (env:Nat->Value) (a0:Act) (t:Nat) (l:List Nat) (h: ∀i∈l,jM ops i≠some t):(ig ops env a0 l).tmps[t]? =a0.tmps[t]? :=by
 induction l using kF with
 |h0=>rfl
 |h1 l i ih=>rw[jc,MM,if_neg (h i (by simp)),ih (fun j hj=>h j (by simp[hj]))]
theorem xQ (env:Nat->Value) (a0:Act) (t i:Nat) (l:List Nat) (hi:i∈l) (hd:jM ops i=some t) (hu: ∀j∈l,jM ops j=some t->j=i):
 (ig ops env a0 l).tmps[t]? =if t<a0.tmps.size then some (env i) else none:=by
 induction l using kF with
 |h0=>simp at hi
 |h1 l j ih=>
  rw[jc,MM,F9]
  by_cases hj:jM ops j=some t
  ·rw[if_pos hj,hu j (by simp) hj]
  ·rw[if_neg hj]
   refine ih ?_ (fun x hx=>hu x (by simp[hx]))
   rcases List.mem_append.1 hi with h|h
   ·exact h
   ·simp at h;subst h;exact absurd hd hj
theorem agree {env env':Nat->Value} {a0:Act} {l l':List Nat} (t:Nat) (hm: ∀i,jM ops i=some t->(i∈l↔i∈l')) (he: ∀i∈l,jM ops i=some t->env i=env' i)
 (hu: ∀i j,i∈l->j∈l->jM ops i=some t->jM ops j=some t->i=j):(ig ops env a0 l).tmps[t]? =(ig ops env' a0 l').tmps[t]? :=by
 by_cases h: ∃i∈l,jM ops i=some t
 ·obtain⟨i,hi,hd⟩:=h
  rw[xQ env a0 t i l hi hd (fun j hj hdj=>hu j i hj hi hdj hd),xQ env' a0 t i l' ((hm i hd).1 hi) hd (fun j hj hdj=>hu j i ((hm j hdj).2 hj) hi hdj hd),he i hi hd]
 ·have h1: ∀i∈l,jM ops i≠some t:=fun i hi hd=>h ⟨i,hi,hd⟩
  have h2: ∀i∈l',jM ops i≠some t:=fun i hi hd=>h ⟨i,(hm i hd).2 hi,hd⟩
  rw[xR _ _ _ _ h1,xR _ _ _ _ h2]
theorem vF {env env':Nat->Value} {a0:Act} {l:List Nat} (he: ∀i∈l,env i=env' i):ig ops env a0 l=ig ops env' a0 l:=by
 induction l using kF with
 |h0=>rfl
 |h1 l i ih=>rw[jc,jc,ih (fun j hj=>he j (by simp[hj])),he i (by simp)]
theorem Nv {a b:Act} (hd:a.defers=b.defers) (ht: ∀t:Nat,a.tmps[t]? =b.tmps[t]?):a=b:=by
 obtain⟨x,d⟩:=a;obtain⟨y,d'⟩:=b
 simp only at hd ht
 subst hd
 congr 1
 exact Array.ext_getElem? ht
def iZ (ops:Array Oper) (o:Oper) (a b:Act):Prop:= ∀t∈o.looksAt ops,a.tmps[t]? =b.tmps[t]?
theorem iZ.eval {o:Oper} {a b:Act} (h:iZ ops o a b): ∀x∈o.op.operands,a.eval x=b.eval x:=by
 intro x hx
 cases x with
 |tmp t=>
  have:=h t (List.mem_append_left _ (List.mem_filterMap.2 ⟨.tmp t,by simpa using hx,rfl⟩))
  simp[Act.eval,Array.getD_eq_getD_getElem?,this]
 |_=>rfl
theorem iZ.exec {o:Oper} {a b:Act} (h:iZ ops o a b) (hs: ∀cs b,o.op≠ .select cs b):execOp a.eval o=execOp b.eval o:=execOp_congr o hs h.eval
theorem iZ.jH {o:Oper} {a b:Act} (h:iZ ops o a b):jH o a=jH o b:=List.map_congr_left fun x hx=>h.eval x (by simpa using hx)
theorem iZ.wanted {o:Oper} {a b:Act} (h:iZ ops o a b):Region.wanted o (yielded ops a.tmps)=Region.wanted o (yielded ops b.tmps):=by
 unfold Region.wanted
 cases hg:o.guard with
 |none=>rfl
 |some gw=>
  obtain⟨g,want⟩:=gw
  have hy:yielded ops a.tmps g=yielded ops b.tmps g:=by
   unfold yielded
   cases ht:(ops[g]?).bind (·.dst) with
   |none=>rfl
   |some t=>
    have:=h t (List.mem_append_right _ (by simp[hg,ht]))
    simp[this]
  simp only[hy]
end
structure Chk (ops:Array Oper) (k:Nat):Prop where
 kn:k<=ops.size
 lt: ∀(i:Nat) (o:Oper),ops[i]? =some o-> ∀e∈o.after,Region.binds .any e=true->e.on<i
 Ws: ∀i j,i<k->j<k-> ∀t,jM ops i=some t->jM ops j=some t->i=j
 look: ∀(i:Nat) (o:Oper),i<k->ops[i]? =some o-> ∀t∈o.looksAt ops, ∀j,j<k->jM ops j=some t->i≠j->(j<i/\iL ops j i=true)∨(i<j/\iL ops i j=true)
 tail: ∀i,k<=i->i<ops.size-> ∀j,j<k->iL ops j i=true
 sel: ∀(i:Nat) (o:Oper),ops[i]? =some o-> ∀cs b,o.op≠ .select cs b
 rdy: ∀t,k<=t->t<ops.size->Region.ready .any ops (lJ ops.size t)=[t]
 fin:Region.ready .any ops (lJ ops.size ops.size)=[]
theorem mg {ops:Array Oper} {i:Nat} {o:Oper} (h:ops[i]? =some o):ops.getD i default=o:=by
 rw[Array.getD_eq_getD_getElem?,h];rfl
theorem rJ {ops:Array Oper} {i:Nat} {o:Oper} (h:ops[i]? =some o):jM ops i=o.dst:=by simp[jM,h]
theorem Aa {ops:Array Oper} {k:Nat} (h:chk ops k=true):Chk ops k:=by
 simp only[chk,Bool.and_eq_true,decide_eq_true_eq,List.all_eq_true,List.mem_range,Bool.or_eq_true,beq_iff_eq,bne_iff_ne,ne_eq,Bool.not_eq_true'] at h
 obtain⟨⟨⟨⟨⟨⟨⟨h1,h2⟩,h3⟩,h4⟩,h5⟩,h6⟩,h7⟩,h8⟩:=h
 have hlt: ∀{i:Nat} {o:Oper},ops[i]? =some o->i<ops.size:=fun h=>(Array.getElem?_eq_some_iff.1 h).1
 have hget: ∀{i:Nat},i<ops.size->ops[i]? =some (ops.getD i default):=fun {i} hi=>by
  rw[Array.getElem?_eq_getElem hi,Array.getD_eq_getD_getElem?,Array.getElem?_eq_getElem hi];rfl
 refine⟨h1,?_,?_,?_,?_,?_,?_,h8⟩
 ·intro i o ho e he hb
  have:=h2 i (hlt ho) e (by rw[mg ho];simpa using he)
  rcases this with h|h
  ·rw[hb] at h;cases h
  ·exact h
 ·intro i j hi hj t hdi hdj
  have:=h3 i hi j hj
  have ei:=hget (Nat.lt_of_lt_of_le hi h1)
  have ej:=hget (Nat.lt_of_lt_of_le hj h1)
  rw[rJ ei] at hdi
  rw[rJ ej] at hdj
  rcases this with(h|h)|h
  ·exact h
  ·rw[hdi] at h;cases h
  ·rw[hdi,hdj] at h;exact absurd rfl h
 ·intro i o hi ho t ht j hj hdj hij
  have:=h4 i hi t (by rw[mg ho];exact ht) j hj
  rw[rJ (hget (Nat.lt_of_lt_of_le hj h1))] at hdj
  rcases this with((h|h)|h)|h
  ·exact absurd hdj h
  ·exact absurd h hij
  ·exact .inl h
  ·exact .inr h
 ·intro i hk hi j hj
  rcases h5 i hi with h|h
  ·omega
  ·exact h j hj
 ·intro i o ho cs b e
  have:=h6 i (hlt ho)
  rw[mg ho,e] at this
  cases this
 ·intro t hk ht
  have:=h7 (t-k) (by omega)
  rw[show k+(t-k)=t from by omega] at this
  exact this
section
variable {Ps : oL} {P : Program} {ops : Array Oper} {R0 R1 : World → World → Prop} {m : Option Nat} {Ss : List (Nat × Spec)} {W0 : World} {a0 : Act}
abbrev pf (ops:Array Oper) (a0:Act) (env:Nat->Value) (i:Nat):Act:=ig ops env a0 (List.range i)
theorem MN (env:Nat->Value) (i:Nat):pf ops a0 env (i+1)=(pf ops a0 env i).put (jM ops i) (env i):=by
 unfold pf;rw[List.range_succ,jc]
theorem gX {env env':Nat->Value} {i:Nat} (h: ∀j,j<i->env j=env' j):pf ops a0 env i=pf ops a0 env' i:=
 vF fun j hj=>h j (by simpa using hj)
def Left (ops:Array Oper) (a0:Act) (env:Nat->Value) (j:Nat) (s:Spec) (W:World):Prop:=s.world (jH (ops.getD j default) (pf ops a0 env j)) (env j) W
def oD (Ps:oL) (ops:Array Oper) (a0:Act) (env:Nat->Value) (j:Nat) (W:World):Prop:=Ps j (jH (ops.getD j default) (pf ops a0 env j)) (env j) W
def lL (Ps:oL) (ops:Array Oper) (R0 R1:World->World->Prop) (m:Option Nat) (Ss:List (Nat×Spec)) (W0:World) (a0:Act) (env:Nat->Value) (i:Nat) (W:World):Prop:=
 iQ R0 R1 m i W0 W/\(∀j s,Ss.lookup j=some s->j<i->iL ops j i=true->Left ops a0 env j s W)/\
  (m=some i-> ∀j s,Ss.lookup j=some s->j<i->iL ops j i=true->oD Ps ops a0 env j W)
theorem Md {env env':Nat->Value} {j:Nat} {s:Spec} {W:World} (h: ∀i,i<=j->env i=env' i) (hl:Left ops a0 env j s W):Left ops a0 env' j s W:=by
 unfold Left at*
 rw[gX (fun i hi=>(h i (by omega)).symm), <-h j (Nat.le_refl _)]
 exact hl
theorem Jd {env env':Nat->Value} {j:Nat} {W:World} (h: ∀i,i<=j->env i=env' i) (hl:oD Ps ops a0 env j W):oD Ps ops a0 env' j W:=by
 unfold oD at*
 rw[gX (fun i hi=>(h i (by omega)).symm), <-h j (Nat.le_refl _)]
 exact hl
theorem mD {env env':Nat->Value} {i:Nat} {W:World} (h: ∀j,j<i->env j=env' j) (hr:lL Ps ops R0 R1 m Ss W0 a0 env i W):lL Ps ops R0 R1 m Ss W0 a0 env' i W:=
 ⟨hr.1,fun j s hs hj ha=>Md (fun t ht=>h t (by omega)) (hr.2.1 j s hs hj ha),fun hm j s hs hj ha=>Jd (fun t ht=>h t (by omega)) (hr.2.2 hm j s hs hj ha)⟩
def Fs (ops:Array Oper) (Ss:List (Nat×Spec)) (a0:Act) (env:Nat->Value):Nat->Facts
 |0=>[]
 |t+1=>match Ss.lookup t with
  |none=>Fs ops Ss a0 env t
  |some s=>(t,s.world (jH (ops.getD t default) (pf ops a0 env t)) (env t))::Fs ops Ss a0 env t
theorem RS {env:Nat->Value} {t:Nat} {f:Nat×(World->Prop)}:f∈Fs ops Ss a0 env t↔ ∃j s,j<t/\Ss.lookup j=some s/\f=(j,Left ops a0 env j s):=by
 induction t with
 |zero=>simp[Fs]
 |succ t ih=>
  unfold Fs
  cases hs:Ss.lookup t with
  |none=>
   simp only[ih]
   constructor
   ·rintro⟨j,s,hj,h1,h2⟩;exact⟨j,s,by omega,h1,h2⟩
   ·rintro⟨j,s,hj,h1,h2⟩
    have:j≠t:=fun e=>by subst e;rw[hs] at h1;cases h1
    exact⟨j,s,by omega,h1,h2⟩
  |some s0=>
   simp only[List.mem_cons,ih]
   constructor
   ·rintro(rfl|⟨j,s,hj,h1,h2⟩)
    ·exact⟨t,s0,by omega,hs,rfl⟩
    ·exact⟨j,s,by omega,h1,h2⟩
   ·rintro⟨j,s,hj,h1,h2⟩
    by_cases e:j=t
    ·subst e;rw[hs] at h1;cases h1;exact .inl h2
    ·exact .inr ⟨j,s,by omega,h1,h2⟩
theorem Jj {env env':Nat->Value} {t:Nat} (h: ∀j,j<t->env j=env' j):Fs ops Ss a0 env t=Fs ops Ss a0 env' t:=by
 induction t with
 |zero=>rfl
 |succ t ih=>
  unfold Fs
  rw[ih (fun j hj=>h j (by omega)),gX (env:=env) (env':=env') (fun j hj=>h j (by omega)),h t (by omega)]
def Gs (Ps:oL) (ops:Array Oper) (Ss:List (Nat×Spec)) (a0:Act) (env:Nat->Value):Nat->Facts
 |0=>[]
 |t+1=>match Ss.lookup t with
  |none=>Gs Ps ops Ss a0 env t
  |some _=>(t,Ps t (jH (ops.getD t default) (pf ops a0 env t)) (env t))::Gs Ps ops Ss a0 env t
theorem Yc {env:Nat->Value} {t:Nat} {f:Nat×(World->Prop)}:f∈Gs Ps ops Ss a0 env t-> ∃j s,j<t/\Ss.lookup j=some s/\f=(j,oD Ps ops a0 env j):=by
 induction t with
 |zero=>simp[Gs]
 |succ t ih=>
  unfold Gs
  cases hs:Ss.lookup t with
  |none=>exact fun h=>by obtain⟨j,s,hj,h1,h2⟩:=ih h;exact⟨j,s,by omega,h1,h2⟩
  |some s0=>
   simp only[List.mem_cons]
   rintro(rfl|h)
   ·exact⟨t,s0,by omega,hs,rfl⟩
   ·obtain⟨j,s,hj,h1,h2⟩:=ih h;exact⟨j,s,by omega,h1,h2⟩
theorem Ji {env env':Nat->Value} {t:Nat} (h: ∀j,j<t->env j=env' j):Gs Ps ops Ss a0 env t=Gs Ps ops Ss a0 env' t:=by
 induction t with
 |zero=>rfl
 |succ t ih=>
  unfold Gs
  rw[ih (fun j hj=>h j (by omega)),gX (env:=env) (env':=env') (fun j hj=>h j (by omega)),h t (by omega)]
theorem Ec {env:Nat->Value} {i:Nat} {W:World} (h:lL Ps ops R0 R1 m Ss W0 a0 env i W):L6 ops R0 R1 m W0 (Fs ops Ss a0 env i) (Gs Ps ops Ss a0 env i) i W:=
 ⟨h.1,fun f hf ha=>by
   obtain⟨j,s,hj,hs,rfl⟩:=RS.1 hf
   exact h.2.1 j s hs hj ha,fun hm f hf ha=>by
   obtain⟨j,s,hj,hs,rfl⟩:=Yc hf
   exact h.2.2 hm j s hs hj ha⟩
def Rec (Ps:oL) (P:Program) (ops:Array Oper) (R0 R1:World->World->Prop) (m:Option Nat) (Ss:List (Nat×Spec)) (W0:World) (a0:Act) (env:Nat->Value) (i:Nat) (o:Oper):Prop:=
 match Ss.lookup i with
 |none=>(Region.wanted o (yielded ops (pf ops a0 env i).tmps)=true/\ ∃W,lL Ps ops R0 R1 m Ss W0 a0 env i W/\(execOp (pf ops a0 env i).eval o).run P W= .ok (.value (env i)) W)∨
   (Region.wanted o (yielded ops (pf ops a0 env i).tmps)=false/\env i=undef)
 |some s=>s.pure (jH o (pf ops a0 env i)) (env i)
variable {k : Nat} (hc : Chk ops k)
include hc
theorem yI {env env':Nat->Value} {i:Nat} {o:Oper} (hi:i<k) (ho:ops[i]? =some o) (h: ∀j,j<i->iL ops j i=true->env j=env' j):
 iZ ops o (pf ops a0 env i) (pf ops a0 env' i):=by
 intro t ht
 refine agree t (fun _ _=>Iff.rfl) ?_ ?_
 ·intro j hj hd
  have hj':j<i:=by simpa using hj
  rcases hc.look i o hi ho t ht j (by omega) hd (by omega) with h1|h1
  ·exact h j hj' h1.2
  ·omega
 ·intro x y hx hy hdx hdy
  have hx':x<i:=by simpa using hx
  have hy':y<i:=by simpa using hy
  exact hc.Ws x y (by omega) (by omega) t hdx hdy
theorem Rx {env env':Nat->Value} {i:Nat} (hi:i<k) (h: ∀j,j<i->iL ops j i=true->env j=env' j):
 jH (ops.getD i default) (pf ops a0 env i)=jH (ops.getD i default) (pf ops a0 env' i):=by
 have hlt:i<ops.size:=Nat.lt_of_lt_of_le hi hc.kn
 have ho:ops[i]? =some (ops.getD i default):=by
  rw[Array.getElem?_eq_getElem hlt,Array.getD_eq_getD_getElem?,Array.getElem?_eq_getElem hlt];rfl
 exact(yI hc hi ho h).jH
theorem tK {env env':Nat->Value} {l:List Nat} (hl: ∀i∈l,i<k) (hd:Down ops (· ∈l)) (he: ∀i∈l,env i=env' i) {j:Nat} (hj:j∈l) {s:Spec} {W:World}
 (h:Left ops a0 env j s W):Left ops a0 env' j s W:=by
 unfold Left at*
 rw[<-Rx hc (hl j hj) (fun x _ hx=>he x (nP hd (Nat.lt_of_lt_of_le (hl j hj) hc.kn) hj hx)), <-he j hj]
 exact h
theorem wL {env env':Nat->Value} {l:List Nat} (hl: ∀i∈l,i<k) (hd:Down ops (· ∈l)) (he: ∀i∈l,env i=env' i) {j:Nat} (hj:j∈l) {W:World}
 (h:oD Ps ops a0 env j W):oD Ps ops a0 env' j W:=by
 unfold oD at*
 rw[<-Rx hc (hl j hj) (fun x _ hx=>he x (nP hd (Nat.lt_of_lt_of_le (hl j hj) hc.kn) hj hx)), <-he j hj]
 exact h
theorem Dp {env env':Nat->Value} {l:List Nat} (hl: ∀i∈l,i<k) (hd:Down ops (· ∈l)) (he: ∀i∈l,env i=env' i) {i:Nat} (ha: ∀j,j<i->iL ops j i=true->j∈l) {W:World}
 (h:lL Ps ops R0 R1 m Ss W0 a0 env i W):lL Ps ops R0 R1 m Ss W0 a0 env' i W:=
 ⟨h.1,fun j s hs hj hji=>tK hc hl hd he (ha j hj hji) (h.2.1 j s hs hj hji),fun hm j s hs hj hji=>wL hc hl hd he (ha j hj hji) (h.2.2 hm j s hs hj hji)⟩
theorem Zt {env env':Nat->Value} {l:List Nat} (hl: ∀i∈l,i<k) (hd:Down ops (· ∈l)) (he: ∀i∈l,env i=env' i) {i:Nat} {o:Oper} (hi:i∈l) (ho:ops[i]? =some o)
 (h:Rec Ps P ops R0 R1 m Ss W0 a0 env i o):Rec Ps P ops R0 R1 m Ss W0 a0 env' i o:=by
 have hik:i<k:=hl i hi
 have vV: ∀j,iL ops j i=true->j∈l:=fun j hj=>nP hd (Nat.lt_of_lt_of_le hik hc.kn) hi hj
 have hL:iZ ops o (pf ops a0 env i) (pf ops a0 env' i):=yI hc hik ho (fun j _ hj=>he j (vV j hj))
 unfold Rec at*
 rw[<-hL.wanted, <-hL.jH, <-he i hi, <-hL.exec (hc.sel i o ho)]
 cases hs:Ss.lookup i with
 |none=>
  simp only[hs] at h⊢
  exact h.imp (fun x=>⟨x.1,by obtain⟨W,hW,hr⟩:=x.2;exact⟨W,Dp hc hl hd he (fun j _=>vV j) hW,hr⟩⟩) id
 |some s=>
  simp only[hs] at h⊢
  exact h
end
def Any (step:Nat->(Act->World->Prop)->Act->World->Prop) (ops:Array Oper) (Qn:Act->World->Prop):Nat->Array Bool->Act->World->Prop
 |0,l,a,w=>Region.ready .any ops l=[]/\Qn a w
 |fuel+1,l,a,w=>(Region.ready .any ops l=[]->Qn a w)/\ ∀i∈Region.ready .any ops l,step i (Any step ops Qn fuel (l.setIfInBounds i true)) a w
def Seq (step:Nat->(Act->World->Prop)->Act->World->Prop) (Qn:Act->World->Prop):List Nat->Act->World->Prop
 |[]=>Qn
 |i::r=>step i (Seq step Qn r)
def lst (n:Nat) (l:List Nat):Array Bool:=l.foldl (fun a i=>a.setIfInBounds i true) (Array.replicate n false)
theorem zG (n:Nat) (l:List Nat) (i:Nat):lst n (l++[i])=(lst n l).setIfInBounds i true:=by simp[lst,List.foldl_append]
theorem MW (n:Nat) (l:List Nat) (i:Nat):(lst n l)[i]? =if i<n then some (decide (i∈l)) else none:=by
 have hsize: ∀l:List Nat,(lst n l).size=n:=by
  intro l
  induction l using kF with
  |h0=>simp[lst]
  |h1 l j ih=>rw[zG];simp[ih]
 induction l using kF with
 |h0=>simp[lst,Array.getElem?_replicate]
 |h1 l j ih=>
  rw[zG,Array.getElem?_setIfInBounds,hsize,ih]
  by_cases e:j=i
  ·subst e;by_cases h:j<n <;>simp[h]
  ·rw[if_neg e]
   have:i≠j:=fun h=>e h.symm
   simp[this]
theorem uN (n t i:Nat):(lJ n t)[i]? =if i<n then some (decide (i<t)) else none:=by
 unfold lJ
 rw[List.getElem?_toArray,List.getElem?_map]
 by_cases h:i<n
 ·rw[List.getElem?_range h,if_pos h];rfl
 ·rw[List.getElem?_eq_none (by simpa using h),if_neg h];rfl
theorem zH {n k:Nat} {l:List Nat} (h: ∀i,i∈l↔i<k):lst n l=lJ n k:=by
 refine Array.ext_getElem? fun i=>?_
 rw[MW,uN]
 simp[h]
theorem mem_ready {ops:Array Oper} {l:List Nat} {i:Nat}:i∈Region.ready .any ops (lst ops.size l)↔
 i<ops.size/\i∉l/\ ∀o,ops[i]? =some o-> ∀e∈o.after,Region.binds .any e=true->e.on∈l/\e.on<ops.size:=by
 unfold Region.ready
 simp only[List.mem_filter,List.mem_range,Bool.and_eq_true,Bool.not_eq_true',Array.getD_eq_getD_getElem?,MW]
 constructor
 ·rintro⟨hi,h1,h2⟩
  rw[if_pos hi] at h1
  refine⟨hi,by simpa using h1,fun o ho e he hb=>?_⟩
  rw[ho] at h2
  simp only[Option.map_some,Option.getD_some] at h2
  have:=(Array.all_eq_true_iff_forall_mem.1 h2) e he
  rw[hb] at this
  simp only[Bool.not_true,Bool.false_or] at this
  by_cases hlt:e.on<ops.size
  ·rw[if_pos hlt] at this
   exact⟨by simpa using this,hlt⟩
  ·rw[if_neg hlt] at this;cases this
 ·rintro⟨hi,h1,h2⟩
  refine⟨hi,by rw[if_pos hi];simpa using h1,?_⟩
  obtain⟨o,ho⟩: ∃o,ops[i]? =some o:=⟨_,Array.getElem?_eq_getElem hi⟩
  rw[ho]
  simp only[Option.map_some,Option.getD_some]
  refine Array.all_eq_true_iff_forall_mem.2 fun e he=>?_
  by_cases hb:Region.binds .any e=true
  ·obtain⟨h3,h4⟩:=h2 o ho e he hb
   rw[if_pos h4]
   simp[h3]
  ·simp[hb]
section
variable {step : Nat → (Act → World → Prop) → Act → World → Prop} {ops : Array Oper} {Qn : Act → World → Prop} {k : Nat}
theorem I7 (hc:Chk ops k) (hmono: ∀i (K K':Act->World->Prop) a w,(∀a w,K a w->K' a w)->step i K a w->step i K' a w):
 ∀j t a w,t+j=ops.size->k<=t->Seq step Qn (List.range' t j) a w->Any step ops Qn j (lJ ops.size t) a w:=by
 intro j
 induction j with
 |zero=>
  intro t a w ht _ h
  have:t=ops.size:=by omega
  subst this
  exact⟨hc.fin,h⟩
 |succ j ih=>
  intro t a w ht hk h
  have hr:=hc.rdy t hk (by omega)
  refine⟨fun e=>(by rw[hr] at e;cases e),fun i hi=>?_⟩
  rw[hr] at hi
  have:i=t:=by simpa using hi
  subst this
  rw[List.range'_succ] at h
  refine hmono _ _ _ _ _ (fun a w hs=>?_) h
  have e:(lJ ops.size i).setIfInBounds i true=lJ ops.size (i+1):=by
   refine Array.ext_getElem? fun x=>?_
   have hsz:(lJ ops.size i).size=ops.size:=by simp[lJ]
   rw[Array.getElem?_setIfInBounds,hsz,uN,uN]
   by_cases e:i=x
   ·subst e;simp
   ·rw[if_neg e]
    by_cases hx:x<ops.size
    ·simp only[hx,if_true,Option.some.injEq,decide_eq_decide];omega
    ·simp[hx]
  rw[e]
  exact ih (i+1) a w (by omega) (by omega) hs
end
theorem all_in {k:Nat} {l:List Nat} (hn:l.Nodup) (h1: ∀i∈l,i<k) (h2:k<=l.length): ∀i,i<k->i∈l:=by
 intro i hi
 refine Classical.byContradiction fun h=>?_
 have:=List.Nodup.length_le_of_subset (l₁:=i::l) (l₂:=List.range k) (List.nodup_cons.2 ⟨h,hn⟩) (fun x hx=>by
  rcases List.mem_cons.1 hx with rfl|hx
  ·simpa using hi
  ·simpa using h1 x hx)
 simp at this;omega
theorem Sl {k:Nat} {l:List Nat} (hn:l.Nodup) (h1: ∀i∈l,i<k):l.length<=k:=by
 have:=List.Nodup.length_le_of_subset (l₁:=l) (l₂:=List.range k) hn (fun x hx=>by simpa using h1 x hx)
 simpa using this
end Go.RG
namespace Go.RX
open Go.RowKit Go.RG
def Does (X:List PanicEntry->World->Prop) (P:Program) (o:Oper) (ρ:Operand->Value) (W:World) (R:Value->World->Prop):Prop:=
 match (execOp ρ o).run P W with
 | .ok (.value v) w'=>R v w'
 | .ok .skip w'=>R undef w'
 | .ok (.enter f args) w'=>Calls P f args w' (fun e w''=>(∃v,e= .returned v/\R v w'')∨ ∃ps,e= .panicked ps/\X ps w'')
 |_=>False
def Tree (X:List PanicEntry->World->Prop) (Ps:oL) (P:Program) (ops:Array Oper) (R0 R1:World->World->Prop) (m:Option Nat) (Ss:List (Nat×RG.Spec)) (Fin:Act->World->Prop) (W0:World):
 List Oper->Nat->Act->Facts->Facts->Prop
 |[],_,a,F,_=> ∀W,R1 W0 W->(∀f∈F,f.2 W)->Fin a W
 |o::rest,i,a,F,G=>
  match Ss.lookup i with
  |none=> ∃v,((Region.wanted o (yielded ops a.tmps)=true/\ ∀W,L6 ops R0 R1 m W0 F G i W->(execOp a.eval o).run P W= .ok (.value v) W)∨
    (Region.wanted o (yielded ops a.tmps)=false/\v=undef))/\Tree X Ps P ops R0 R1 m Ss Fin W0 rest (i+1) (a.put o.dst v) F G
  |some s=>Region.wanted o (yielded ops a.tmps)=true/\(∃v,s.pure (jH o a) v)/\
    (∀W,L6 ops R0 R1 m W0 F G i W->Does X P o a.eval W (fun v W'=>s.pure (jH o a) v/\s.world (jH o a) v W'/\qp R0 R1 m i W W'/\Ps i (jH o a) v W'))/\
    ((∀v W W',s.world (jH o a) v W->iQ R0 R1 m i W W'->s.world (jH o a) v W')/\(∀v W W',Ps i (jH o a) v W->R0 W W'->Ps i (jH o a) v W'))/\
    ∀v,s.pure (jH o a) v->Tree X Ps P ops R0 R1 m Ss Fin W0 rest (i+1) (a.put o.dst v) ((i,s.world (jH o a) v)::F) ((i,Ps i (jH o a) v)::G)
section
variable {X : List PanicEntry → World → Prop} {Ps : oL} {P : Program} {ops : Array Oper} {R0 R1 : World → World → Prop} {m : Option Nat} {Ss : List (Nat × RG.Spec)} {W0 : World} {a0 : Act}
def Node (X:List PanicEntry->World->Prop) (Ps:oL) (P:Program) (ops:Array Oper) (R0 R1:World->World->Prop) (m:Option Nat) (Ss:List (Nat×RG.Spec)) (W0:World) (a0:Act) (env:Nat->Value) (i:Nat) (o:Oper):Prop:=
 match Ss.lookup i with
 |none=>(Region.wanted o (yielded ops (pf ops a0 env i).tmps)=true/\ ∀W,lL Ps ops R0 R1 m Ss W0 a0 env i W->(execOp (pf ops a0 env i).eval o).run P W= .ok (.value (env i)) W)∨
   (Region.wanted o (yielded ops (pf ops a0 env i).tmps)=false/\env i=undef)
 |some s=>Region.wanted o (yielded ops (pf ops a0 env i).tmps)=true/\s.pure (jH o (pf ops a0 env i)) (env i)/\
   (∀W,lL Ps ops R0 R1 m Ss W0 a0 env i W->Does X P o (pf ops a0 env i).eval W (fun v W'=>s.pure (jH o (pf ops a0 env i)) v/\s.world (jH o (pf ops a0 env i)) v W'/\qp R0 R1 m i W W'/\Ps i (jH o (pf ops a0 env i)) v W'))/\
   (∀v W W',s.world (jH o (pf ops a0 env i)) v W->iQ R0 R1 m i W W'->s.world (jH o (pf ops a0 env i)) v W')/\
   (∀v W W',Ps i (jH o (pf ops a0 env i)) v W->R0 W W'->Ps i (jH o (pf ops a0 env i)) v W')
theorem L9 {env env':Nat->Value} {i:Nat} {o:Oper} (h: ∀j,j<=i->env j=env' j) (hn:Node X Ps P ops R0 R1 m Ss W0 a0 env i o):Node X Ps P ops R0 R1 m Ss W0 a0 env' i o:=by
 have hp:pf ops a0 env i=pf ops a0 env' i:=gX fun j hj=>h j (by omega)
 have hr: ∀W,lL Ps ops R0 R1 m Ss W0 a0 env' i W->lL Ps ops R0 R1 m Ss W0 a0 env i W:=fun W=>mD fun j hj=>(h j (by omega)).symm
 unfold Node at*
 rw[<-hp, <-h i (Nat.le_refl _)]
 cases hs:Ss.lookup i with
 |none=>
  simp only[hs] at hn⊢
  exact hn.imp (fun x=>⟨x.1,fun W hW=>x.2 W (hr W hW)⟩) id
 |some s=>
  simp only[hs] at hn⊢
  exact⟨hn.1,hn.2.1,fun W hW=>hn.2.2.1 W (hr W hW),hn.2.2.2⟩
variable {k : Nat} (hc : Chk ops k)
include hc
theorem along {Fin:Act->World->Prop} {env:Nat->Value} {l:List Nat} (hl: ∀i∈l,i<k) (hd:Down ops (· ∈l))
 (hrec: ∀i∈l, ∀o,ops[i]? =some o->Rec Ps P ops R0 R1 m Ss W0 a0 env i o)
 (x9:Tree X Ps P ops R0 R1 m Ss Fin W0 (ops.toList.take k) 0 a0 [] []):
 ∃env',(∀i∈l,env' i=env i)/\(∀i o,i<k->ops[i]? =some o->Node X Ps P ops R0 R1 m Ss W0 a0 env' i o)/\
  (∀W,R1 W0 W->(∀j s,Ss.lookup j=some s->j<k->RG.Left ops a0 env' j s W)->Fin (pf ops a0 env' k) W):=by
 have hlen:(ops.toList.take k).length=k:=by have:=hc.kn;simp[List.length_take];omega
 have go: ∀t,t<=k-> ∃env',(∀i∈l,env' i=env i)/\(∀i o,i<t->ops[i]? =some o->Node X Ps P ops R0 R1 m Ss W0 a0 env' i o)/\
  Tree X Ps P ops R0 R1 m Ss Fin W0 ((ops.toList.take k).drop t) t (pf ops a0 env' t) (Fs ops Ss a0 env' t) (Gs Ps ops Ss a0 env' t):=by
  intro t
  induction t with
  |zero=>exact fun _=>⟨env,fun _ _=>rfl,fun i o hi=>by omega,by simpa [Fs,Gs,pf,ig] using x9⟩
  |succ t ih=>
   intro ht
   obtain⟨env',h1,h2,h3⟩:=ih (by omega)
   have htk:t<k:=by omega
   have hlt:t<ops.size:=Nat.lt_of_lt_of_le htk hc.kn
   obtain⟨o,ho⟩: ∃o,ops[t]? =some o:=⟨_,Array.getElem?_eq_getElem hlt⟩
   have hcons:(ops.toList.take k).drop t=o::(ops.toList.take k).drop (t+1):=by
    rw[List.drop_eq_getElem_cons (by omega)]
    congr 1
    have:(ops.toList.take k)[t]? =some o:=by rw[List.getElem?_take,if_pos htk];simpa using ho
    rw[List.getElem?_eq_getElem (by omega)] at this
    exact Option.some.inj this
   rw[hcons] at h3
   unfold Tree at h3
   have hdst:jM ops t=o.dst:=rJ ho
   have step: ∀v,(t∈l->v=env t)->(∀e:Nat->Value,(∀j,j<t->e j=env' j)->e t=v->Node X Ps P ops R0 R1 m Ss W0 a0 e t o)->
    (∀e:Nat->Value,(∀j,j<t->e j=env' j)->e t=v->Tree X Ps P ops R0 R1 m Ss Fin W0 ((ops.toList.take k).drop (t+1)) (t+1) (pf ops a0 e (t+1)) (Fs ops Ss a0 e (t+1)) (Gs Ps ops Ss a0 e (t+1)))->
    ∃rH,(∀i∈l,rH i=env i)/\(∀i o,i<t+1->ops[i]? =some o->Node X Ps P ops R0 R1 m Ss W0 a0 rH i o)/\
     Tree X Ps P ops R0 R1 m Ss Fin W0 ((ops.toList.take k).drop (t+1)) (t+1) (pf ops a0 rH (t+1)) (Fs ops Ss a0 rH (t+1)) (Gs Ps ops Ss a0 rH (t+1)):=by
    intro v hv hN hT
    refine⟨fun j=>if j=t then v else env' j,?_,?_,?_⟩
    ·intro i hi
     by_cases e:i=t
     ·subst e;simp only[if_pos];exact hv hi
     ·simp only[if_neg e];exact h1 i hi
    ·intro i o' hi ho'
     by_cases e:i=t
     ·subst e;rw[ho] at ho';cases ho'
      exact hN _ (fun j hj=>if_neg (by omega)) (if_pos rfl)
     ·exact L9 (fun j hj=>(if_neg (by omega)).symm) (h2 i o' (by omega) ho')
    ·exact hT _ (fun j hj=>if_neg (by omega)) (if_pos rfl)
   cases hs:Ss.lookup t with
   |none=>
    simp only[hs] at h3
    obtain⟨v,hv,hT⟩:=h3
    refine step v ?_ ?_ ?_
    ·intro htl
     have hR:=hrec t htl o ho
     have vV: ∀j,iL ops j t=true->j∈l:=fun j hj=>nP hd hlt htl hj
     have hL:iZ ops o (pf ops a0 env t) (pf ops a0 env' t):=yI hc htk ho (fun j _ hj=>(h1 j (vV j hj)).symm)
     unfold Rec at hR
     simp only[hs] at hR
     rw[hL.wanted,hL.exec (hc.sel t o ho)] at hR
     rcases hv with⟨hw,hv⟩|⟨hw,hv⟩
     ·rcases hR with⟨_,W,hW,hr⟩|⟨hw',_⟩
      ·have:=hv W (Ec (Dp hc hl hd (fun i hi=>(h1 i hi).symm) (fun j _=>vV j) hW))
       rw[hr] at this
       injection this with e1 _
       injection e1 with e2
       exact e2.symm
      ·rw[hw] at hw';cases hw'
     ·rcases hR with⟨hw',_⟩|⟨_,hu⟩
      ·rw[hw] at hw';cases hw'
      ·rw[hv,hu]
    ·intro e he het
     have hp:pf ops a0 e t=pf ops a0 env' t:=gX he
     unfold Node
     simp only[hs]
     rw[hp,het]
     exact hv.imp (fun x=>⟨x.1,fun W hW=>x.2 W (Ec (mD he hW))⟩) id
    ·intro e he het
     rw[MN,hdst,het,gX he]
     have:Fs ops Ss a0 e (t+1)=Fs ops Ss a0 env' t:=by
      show(match Ss.lookup t with|none=>_|some s=>_)=_
      simp only[hs]
      exact Jj he
     rw[this]
     have:Gs Ps ops Ss a0 e (t+1)=Gs Ps ops Ss a0 env' t:=by
      show(match Ss.lookup t with|none=>_|some s=>_)=_
      simp only[hs]
      exact Ji he
     rw[this]
     exact hT
   |some s=>
    simp only[hs] at h3
    obtain⟨hw,⟨v0,hv0⟩,yc,hst,hT⟩:=h3
    have key: ∀v,s.pure (jH o (pf ops a0 env' t)) v->(t∈l->v=env t)-> ∃rH,(∀i∈l,rH i=env i)/\(∀i o,i<t+1->ops[i]? =some o->Node X Ps P ops R0 R1 m Ss W0 a0 rH i o)/\
     Tree X Ps P ops R0 R1 m Ss Fin W0 ((ops.toList.take k).drop (t+1)) (t+1) (pf ops a0 rH (t+1)) (Fs ops Ss a0 rH (t+1)) (Gs Ps ops Ss a0 rH (t+1)):=by
     intro v hv hvl
     refine step v hvl ?_ ?_
     ·intro e he het
      have hp:pf ops a0 e t=pf ops a0 env' t:=gX he
      unfold Node
      simp only[hs]
      rw[hp,het]
      exact⟨hw,hv,fun W hW=>yc W (Ec (mD he hW)),hst⟩
     ·intro e he het
      rw[MN,hdst,het,gX he]
      have:Fs ops Ss a0 e (t+1)=(t,s.world (jH o (pf ops a0 env' t)) v)::Fs ops Ss a0 env' t:=by
       show(match Ss.lookup t with|none=>_|some s=>_)=_
       simp only[hs]
       rw[Jj he,gX he,het,mg ho]
      rw[this]
      have:Gs Ps ops Ss a0 e (t+1)=(t,Ps t (jH o (pf ops a0 env' t)) v)::Gs Ps ops Ss a0 env' t:=by
       show(match Ss.lookup t with|none=>_|some s=>_)=_
       simp only[hs]
       rw[Ji he,gX he,het,mg ho]
      rw[this]
      exact hT v hv
    by_cases htl:t∈l
    ·have hR:=hrec t htl o ho
     have vV: ∀j,iL ops j t=true->j∈l:=fun j hj=>nP hd hlt htl hj
     have hL:iZ ops o (pf ops a0 env t) (pf ops a0 env' t):=yI hc htk ho (fun j _ hj=>(h1 j (vV j hj)).symm)
     unfold Rec at hR
     simp only[hs] at hR
     rw[hL.jH] at hR
     exact key (env t) hR (fun _=>rfl)
    ·exact key v0 hv0 (fun h=>absurd h htl)
 obtain⟨env',h1,h2,h3⟩:=go k (Nat.le_refl _)
 refine⟨env',h1,h2,fun W hW hF=>?_⟩
 rw[List.drop_of_length_le (by omega)] at h3
 unfold Tree at h3
 exact h3 W hW (fun f hf=>by
  obtain⟨j,s,hj,hs,rfl⟩:=RS.1 hf
  exact hF j s hs hj)
end
section
variable {X : List PanicEntry → World → Prop} {step : Nat → (Act → World → Prop) → Act → World → Prop} {P : Program} {ops : Array Oper} {Qn : Act → World → Prop} {Ps : oL} {R0 R1 : World → World → Prop} {m : Option Nat} {Ss : List (Nat × RG.Spec)} {W0 : World} {a0 : Act} {k : Nat}
theorem WO (hR:Ap R0 R1) (hc:Chk ops k) (hmono: ∀i (K K':Act->World->Prop) a w,(∀a w,K a w->K' a w)->step i K a w->step i K' a w)
 (yc: ∀(i:Nat) (o:Oper) (K:Act->World->Prop) (a:Act) (W:World) (R:Value->World->Prop),a.defers=a0.defers->ops[i]? =some o->Region.wanted o (yielded ops a.tmps)=true->Does X P o a.eval W R->(∀v W',R v W'->K (a.put o.dst v) W')->step i K a W)
 (Hl: ∀(i:Nat) (o:Oper) (K:Act->World->Prop) (a:Act) (W:World),ops[i]? =some o->Region.wanted o (yielded ops a.tmps)=false->K (a.put o.dst undef) W->step i K a W)
 (x9:Tree X Ps P ops R0 R1 m Ss (Seq step Qn (List.range' k (ops.size-k))) W0 (ops.toList.take k) 0 a0 [] []):
 ∀(fuel:Nat) (l:List Nat) (env:Nat->Value) (W:World),l.length+fuel=ops.size->l.Nodup->(∀i∈l,i<k)->Down ops (· ∈l)->
  (∀i∈l, ∀o,ops[i]? =some o->Rec Ps P ops R0 R1 m Ss W0 a0 env i o)->(∀j s,Ss.lookup j=some s->j∈l->RG.Left ops a0 env j s W)->
  R1 W0 W->((∀i,m=some i->i∉l)->R0 W0 W/\ ∀j s,Ss.lookup j=some s->j∈l->oD Ps ops a0 env j W)->Any step ops Qn fuel (lst ops.size l) (ig ops env a0 l) W:=by
 intro fuel
 induction fuel with
 |zero=>
  intro l env W hlen hnd hl hd hrec hleft uI _
  have hk:k=ops.size:=by
   have h1:=Sl hnd hl
   have:=hc.kn;omega
  have hall:=all_in hnd hl (by omega)
  obtain⟨env',he,_,hfin⟩:=along (P:=P) hc hl hd hrec x9
  have hf:=hfin W uI (fun j s hs hj=>RG.tK hc hl hd (fun i hi=>(he i hi).symm) (hall j hj) (hleft j s hs (hall j hj)))
  have ea:ig ops env a0 l=pf ops a0 env' k:=Nv (by rw[jo,jo]) fun t=>
   agree t (fun i hi=>⟨fun h=>by simpa using hl i h,fun h=>hall i (by simpa using h)⟩) (fun i hi _=>(he i hi).symm) (fun i j hi hj=>hc.Ws i j (hl i hi) (hl j hj) t)
  rw[zH (k:=k) (fun i=>⟨hl i,hall i⟩),ea,hk]
  rw[show ops.size-k=0 from by omega] at hf
  rw[hk] at hf
  exact RG.I7 hc hmono 0 ops.size _ _ (by omega) (by omega) hf
 |succ fuel ih=>
  intro l env W hlen hnd hl hd hrec hleft uI hnil
  obtain⟨env',he,Tq,hfin⟩:=along (P:=P) hc hl hd hrec x9
  have hes: ∀i∈l,env i=env' i:=fun i hi=>(he i hi).symm
  by_cases hfull:k<=l.length
  ·have hall:=all_in hnd hl hfull
   have hk:l.length=k:=by have:=Sl hnd hl;omega
   have hf:=hfin W uI (fun j s hs hj=>RG.tK hc hl hd hes (hall j hj) (hleft j s hs (hall j hj)))
   have ea:ig ops env a0 l=pf ops a0 env' k:=Nv (by rw[jo,jo]) fun t=>
    agree t (fun i hi=>⟨fun h=>by simpa using hl i h,fun h=>hall i (by simpa using h)⟩) (fun i hi _=>hes i hi) (fun i j hi hj=>hc.Ws i j (hl i hi) (hl j hj) t)
   rw[zH (k:=k) (fun i=>⟨hl i,hall i⟩),ea]
   have e:fuel+1=ops.size-k:=by omega
   rw[e]
   exact RG.I7 hc hmono (ops.size-k) k _ _ (by have:=hc.kn;omega) (Nat.le_refl _) hf
  ·--one more of the first k comes up
   have hex: ∃i,i<k/\i∉l/\ ∀j,j<i->j∈l:=by
    have h0: ∃i,i<k/\i∉l:=Classical.byContradiction fun hno=>by
     have hall: ∀i,i<k->i∈l:=fun i hi=>Classical.byContradiction fun h=>hno ⟨i,hi,h⟩
     have:=List.Nodup.length_le_of_subset (l₁:=List.range k) (l₂:=l) List.nodup_range (fun x hx=>hall x (by simpa using hx))
     simp at this;omega
    obtain⟨i,hi,hil⟩:=h0
    induction i using Nat.strongRecOn with
    |_ i ihh=>
     by_cases hj: ∃j,j<i/\j∉l
     ·obtain⟨j,hji,hjl⟩:=hj
      exact ihh j hji (by omega) hjl
     ·exact⟨i,hi,hil,fun j hji=>Classical.byContradiction fun h=>hj ⟨j,hji,h⟩⟩
   refine⟨fun e=>?_,fun i hi=>?_⟩
   ·obtain⟨i,hi,hil,hbelow⟩:=hex
    have:i∈Region.ready .any ops (lst ops.size l):=RG.mem_ready.2 ⟨Nat.lt_of_lt_of_le hi hc.kn,hil,fun o ho e he hb=>by
     have:=hc.lt i o ho e he hb
     exact⟨hbelow _ this,by have:=hc.kn;omega⟩⟩
    rw[e] at this;cases this
   ·obtain⟨hin,hil,SK⟩:=RG.mem_ready.1 hi
    obtain⟨o,ho⟩: ∃o,ops[i]? =some o:=⟨_,Array.getElem?_eq_getElem hin⟩
    have vV: ∀j,iL ops j i=true->j≠i->j∈l:=fun j hj hne=>PS hd ho (fun e he hb=>(SK o ho e he hb).1) hj hne
    have hik:i<k:=Classical.byContradiction fun hge=>by
     obtain⟨j,hj,hjl,_⟩:=hex
     exact hjl (vV j (hc.tail i (by omega) hin j hj) (by omega))
    have hN:=Tq i o hik ho
    have hL:iZ ops o (ig ops env a0 l) (pf ops a0 env' i):=by
     intro t ht
     refine agree t ?_ (fun j hj _=>hes j hj) (fun x y hx hy=>hc.Ws x y (hl x hx) (hl y hy) t)
     intro j hd'
     by_cases hji:j=i
     ·subst hji;simp[hil]
     ·constructor
      ·intro hjl
       rcases hc.look i o hik ho t ht j (hl j hjl) hd' (fun e=>hji e.symm) with h|h
       ·simpa using h.1
       ·exact absurd (nP hd (Nat.lt_of_lt_of_le (hl j hjl) hc.kn) hjl h.2) hil
      ·intro hjr
       have aiC:j<i:=by simpa using hjr
       rcases hc.look i o hik ho t ht j (by omega) hd' (fun e=>hji e.symm) with h|h
       ·exact vV j h.2 hji
       ·omega
    have zO:lL Ps ops R0 R1 m Ss W0 a0 env' i W:=by
     refine⟨?_,fun j s hs hj ha=>RG.tK hc hl hd hes (vV j ha (by omega)) (hleft j s hs (vV j ha (by omega))),fun hm j s hs hj ha=>
      wL hc hl hd hes (vV j ha (by omega)) ((hnil (fun x hx=>by rw[hm] at hx;cases hx;exact hil)).2 j s hs (vV j ha (by omega)))⟩
     unfold iQ
     by_cases hm:m=some i
     ·rw[if_pos hm];exact(hnil (fun x hx=>by rw[hm] at hx;cases hx;exact hil)).1
     ·rw[if_neg hm];exact uI
    have ho':jM ops i=o.dst:=rJ ho
    have hnd':(l++[i]).Nodup:=by
     rw[List.nodup_append]
     refine⟨hnd,by simp,fun x hx y hy=>?_⟩
     have:y=i:=by simpa using hy
     subst this
     exact fun e=>hil (e▸hx)
    have hl': ∀x∈l++[i],x<k:=fun x hx=>by
     rcases List.mem_append.1 hx with h|h
     ·exact hl x h
     ·have:x=i:=by simpa using h
      omega
    have hd':Down ops (· ∈l++[i]):=by
     intro x ox hox hx e he hb
     rcases List.mem_append.1 hx with h|h
     ·exact List.mem_append_left _ (hd x ox hox h e he hb)
     ·have:x=i:=by simpa using h
      subst this
      rw[ho] at hox;cases hox
      exact List.mem_append_left _ (SK o ho e he hb).1
    have hlen':(l++[i]).length+fuel=ops.size:=by simp;omega
    have close: ∀v W',(∀e:Nat->Value,(∀j,j<i->e j=env' j)->e i=v->Rec Ps P ops R0 R1 m Ss W0 a0 e i o)->
     (∀e:Nat->Value,(∀j,j∈l->e j=env' j)->(∀j,j<i->e j=env' j)->e i=v-> ∀j s,Ss.lookup j=some s->j∈l++[i]->RG.Left ops a0 e j s W')->R1 W0 W'->((∀x,m=some x->x∉l++[i])->R0 W0 W')->
     ((∀x,m=some x->x∉l++[i])-> ∀e:Nat->Value,(∀j,j∈l->e j=env' j)->(∀j,j<i->e j=env' j)->e i=v-> ∀j s,Ss.lookup j=some s->j∈l++[i]->oD Ps ops a0 e j W')->
     Any step ops Qn fuel ((lst ops.size l).setIfInBounds i true) ((ig ops env a0 l).put o.dst v) W':=by
     intro v W' hR hLf hE hE0 hLp
     have e1:ig ops (fun j=>if j=i then v else env' j) a0 (l++[i])=(ig ops env a0 l).put o.dst v:=by
      rw[jc,ho',if_pos rfl]
      congr 1
      exact vF fun j hj=>by
       have:j≠i:=fun e=>hil (e▸hj)
       rw[if_neg this];exact he j hj
     rw[<-e1, <-zG]
     have hag: ∀j∈l,env j=(fun j=>if j=i then v else env' j) j:=fun j hj=>by
      have:j≠i:=fun e=>hil (e▸hj)
      simp only[if_neg this];exact hes j hj
     refine ih (l++[i]) _ W' hlen' hnd' hl' hd' ?_ ?_ hE (fun hno=>⟨hE0 hno,hLp hno _ (fun j hj=>if_neg (fun(e:j=i)=>hil (by rw[<-e];exact hj))) (fun j hj=>if_neg (by omega)) (if_pos rfl)⟩)
     ·intro x hx ox hox
      rcases List.mem_append.1 hx with h|h
      ·exact Zt hc hl hd hag h hox (hrec x h ox hox)
      ·have:x=i:=by simpa using h
       subst this
       rw[ho] at hox;cases hox
       exact hR _ (fun j hj=>if_neg (by omega)) (if_pos rfl)
     ·exact hLf _ (fun j hj=>if_neg (fun(e:j=i)=>hil (by rw[<-e];exact hj))) (fun j hj=>if_neg (by omega)) (if_pos rfl)
    have old: ∀(e:Nat->Value),(∀j,j∈l->e j=env' j)-> ∀j s W',Ss.lookup j=some s->j∈l->iQ R0 R1 m j W W'->RG.Left ops a0 e j s W':=by
     intro e xn j s W' hs hj hE
     have hNj: ∃oj,ops[j]? =some oj:=⟨_,Array.getElem?_eq_getElem (Nat.lt_of_lt_of_le (hl j hj) hc.kn)⟩
     obtain⟨oj,hoj⟩:=hNj
     have hst:=Tq j oj (hl j hj) hoj
     unfold Node at hst
     simp only[hs] at hst
     have h1:RG.Left ops a0 env' j s W:=RG.tK hc hl hd hes hj (hleft j s hs hj)
     refine RG.tK hc hl hd (fun x hx=>(xn x hx).symm) hj ?_
     unfold RG.Left at h1⊢
     rw[mg hoj] at h1⊢
     exact hst.2.2.2.1 _ W W' h1 hE
    have aat:(∀x,m=some x->x∉l)-> ∀(e:Nat->Value),(∀j,j∈l->e j=env' j)-> ∀j s W',Ss.lookup j=some s->j∈l->R0 W W'->oD Ps ops a0 e j W':=by
     intro hno e xn j s W' hs hj hE
     have hNj: ∃oj,ops[j]? =some oj:=⟨_,Array.getElem?_eq_getElem (Nat.lt_of_lt_of_le (hl j hj) hc.kn)⟩
     obtain⟨oj,hoj⟩:=hNj
     have hst:=Tq j oj (hl j hj) hoj
     unfold Node at hst
     simp only[hs] at hst
     have h1:oD Ps ops a0 env' j W:=wL hc hl hd hes hj ((hnil hno).2 j s hs hj)
     refine wL hc hl hd (fun x hx=>(xn x hx).symm) hj ?_
     unfold oD at h1⊢
     rw[mg hoj] at h1⊢
     exact hst.2.2.2.2 _ W W' h1 hE
    unfold Node at hN
    cases hs:Ss.lookup i with
    |none=>
     simp only[hs] at hN
     have same: ∀v,v=env' i->((Region.wanted o (yielded ops (pf ops a0 env' i).tmps)=true/\ ∃W,lL Ps ops R0 R1 m Ss W0 a0 env' i W/\(execOp (pf ops a0 env' i).eval o).run P W= .ok (.value (env' i)) W)∨
      (Region.wanted o (yielded ops (pf ops a0 env' i).tmps)=false/\env' i=undef))->Any step ops Qn fuel ((lst ops.size l).setIfInBounds i true) ((ig ops env a0 l).put o.dst v) W:=by
      intro v hv hcase
      refine close v W ?_ ?_ uI ?_ ?_
      ·intro e xn VZ
       have hp:pf ops a0 e i=pf ops a0 env' i:=gX xn
       unfold Rec
       simp only[hs]
       rw[hp,VZ,hv]
       exact hcase.imp (fun x=>⟨x.1,by obtain⟨Wx,h1,h2⟩:=x.2;exact⟨Wx,mD (fun j hj=>(xn j hj).symm) h1,h2⟩⟩) id
      ·intro e hel xn VZ j s hjs hj
       rcases List.mem_append.1 hj with h|h
       ·exact old e hel j s W hjs h (hR.Vx j W)
       ·have:j=i:=by simpa using h
        subst this
        rw[hs] at hjs;cases hjs
      ·intro hno
       exact(hnil (fun x hx hxl=>hno x hx (List.mem_append_left _ hxl))).1
      ·intro hno e hel xn VZ j s hjs hj
       rcases List.mem_append.1 hj with h|h
       ·exact aat (fun x hx hxl=>hno x hx (List.mem_append_left _ hxl)) e hel j s W hjs h (hR.refl W)
       ·have:j=i:=by simpa using h
        subst this
        rw[hs] at hjs;cases hjs
     rcases hN with⟨hw,hrun⟩|⟨hw,hu⟩
     ·refine yc i o _ _ W (fun v W'=>v=env' i/\W'=W) (jo env a0 l) ho (by rw[hL.wanted];exact hw) ?_ ?_
      ·unfold Does
       rw[hL.exec (hc.sel i o ho),hrun W zO]
       exact⟨rfl,rfl⟩
      ·rintro v W' ⟨hv,rfl⟩
       exact same v hv (.inl ⟨hw,_,zO,hrun _ zO⟩)
     ·refine Hl i o _ _ W ho (by rw[hL.wanted];exact hw) ?_
      exact same undef hu.symm (.inr ⟨hw,hu⟩)
    |some s=>
     simp only[hs] at hN
     obtain⟨hw,_,hdo,hst⟩:=hN
     have abz:=hdo W zO
     have aby:Does X P o (ig ops env a0 l).eval W (fun v W'=>s.pure (jH o (pf ops a0 env' i)) v/\s.world (jH o (pf ops a0 env' i)) v W'/\qp R0 R1 m i W W'/\Ps i (jH o (pf ops a0 env' i)) v W'):=by
      unfold Does at abz⊢
      rw[hL.exec (hc.sel i o ho)]
      exact abz
     refine yc i o _ _ W _ (jo env a0 l) ho (by rw[hL.wanted];exact hw) aby ?_
     rintro v W' ⟨aaY,hworld,hE,hpre⟩
     refine close v W' ?_ ?_ ?_ ?_ ?_
     ·intro e xn VZ
      have hp:pf ops a0 e i=pf ops a0 env' i:=gX xn
      unfold Rec
      simp only[hs]
      rw[hp,VZ]
      exact aaY
     ·intro e hel xn VZ j s' hjs hj
      rcases List.mem_append.1 hj with h|h
      ·refine old e hel j s' W' hjs h ?_
       have hji:j≠i:=fun x=>hil (x▸h)
       unfold qp at hE
       unfold iQ
       by_cases hm:m=some i
       ·rw[if_pos hm] at hE
        rw[if_neg (by rw[hm];exact fun x=>hji (Option.some.inj x).symm)]
        exact hE
       ·rw[if_neg hm] at hE
        split
        ·exact hE
        ·exact hR.sub hE
      ·have:j=i:=by simpa using h
       subst this
       rw[hs] at hjs;cases hjs
       unfold RG.Left
       rw[mg ho,gX xn,VZ]
       exact hworld
     ·refine hR.XW uI ?_
      unfold qp at hE
      split at hE
      ·exact hE
      ·exact hR.sub hE
     ·intro hno
      have hm:m≠some i:=fun hm=>hno i hm (by simp)
      unfold qp at hE
      rw[if_neg hm] at hE
      exact hR.XX (hnil (fun x hx hxl=>hno x hx (List.mem_append_left _ hxl))).1 hE
     ·intro hno e hel xn VZ j s' hjs hj
      have hm:m≠some i:=fun hm=>hno i hm (by simp)
      unfold qp at hE
      rw[if_neg hm] at hE
      rcases List.mem_append.1 hj with h|h
      ·exact aat (fun x hx hxl=>hno x hx (List.mem_append_left _ hxl)) e hel j s' W' hjs h hE
      ·have:j=i:=by simpa using h
       subst this
       unfold oD
       rw[mg ho,gX xn,VZ]
       exact hpre
end
theorem tJ {X:List PanicEntry->World->Prop} {step:Nat->(Act->World->Prop)->Act->World->Prop} {P:Program} {ops:Array Oper} {Qn:Act->World->Prop} {Ps:oL} {R0 R1:World->World->Prop} {m:Option Nat} {Ss:List (Nat×RG.Spec)} {W0 W:World} {a0:Act} {k:Nat}
 (hR:Ap R0 R1) (hc:chk ops k=true) (hmono: ∀i (K K':Act->World->Prop) a w,(∀a w,K a w->K' a w)->step i K a w->step i K' a w)
 (yc: ∀(i:Nat) (o:Oper) (K:Act->World->Prop) (a:Act) (W:World) (R:Value->World->Prop),a.defers=a0.defers->ops[i]? =some o->Region.wanted o (yielded ops a.tmps)=true->Does X P o a.eval W R->(∀v W',R v W'->K (a.put o.dst v) W')->step i K a W)
 (Hl: ∀(i:Nat) (o:Oper) (K:Act->World->Prop) (a:Act) (W:World),ops[i]? =some o->Region.wanted o (yielded ops a.tmps)=false->K (a.put o.dst undef) W->step i K a W)
 (hW:R0 W0 W)
 (x9:Tree X Ps P ops R0 R1 m Ss (Seq step Qn (List.range' k (ops.size-k))) W0 (ops.toList.take k) 0 a0 [] []):
 Any step ops Qn ops.size (Array.replicate ops.size false) a0 W:=
 WO hR (RG.Aa hc) hmono yc Hl x9 ops.size [] (fun _=>undef) W (by simp) List.nodup_nil (by simp) (fun i o _ h=>by cases h) (by simp) (by simp) (hR.sub hW) (fun _=>⟨hW,by simp⟩)
end Go.RX
namespace Go.RG
open Go.RowKit
theorem Ld {X:List PanicEntry->World->Prop} {P:Program} {o:Oper} {ρ:Operand->Value} {W:World} {R:Value->World->Prop} (h:Does P o ρ W R):RX.Does X P o ρ W R:=by
 unfold Does at h;unfold RX.Does
 generalize (execOp ρ o).run P W=r at*
 cases r with
 |ok x w'=>cases x <;>first|exact h|exact Calls.mono h fun _ _=> .inl
 |halt x w'=>exact h
theorem adS {P:Program} {o:Oper} {ρ:Operand->Value} {W:World} {R:Value->World->Prop} (h:RX.Does (fun _ _=>False) P o ρ W R):Does P o ρ W R:=by
 unfold RX.Does at h;unfold Does
 generalize (execOp ρ o).run P W=r at*
 cases r with
 |ok x w'=>cases x <;>first|exact h|exact Calls.mono h fun _ _ h=>h.elim id fun⟨_,_,h⟩=>h.elim
 |halt x w'=>exact h
abbrev Tree:=RX.Tree (fun _ _=>False)
theorem tJ {step:Nat->(Act->World->Prop)->Act->World->Prop} {P:Program} {ops:Array Oper} {Qn:Act->World->Prop} {Ps:oL} {R0 R1:World->World->Prop} {m:Option Nat} {Ss:List (Nat×Spec)} {W0 W:World} {a0:Act} {k:Nat}
 (hR:Ap R0 R1) (hc:chk ops k=true) (hmono: ∀i (K K':Act->World->Prop) a w,(∀a w,K a w->K' a w)->step i K a w->step i K' a w)
 (yc: ∀(i:Nat) (o:Oper) (K:Act->World->Prop) (a:Act) (W:World) (R:Value->World->Prop),ops[i]? =some o->Region.wanted o (yielded ops a.tmps)=true->Does P o a.eval W R->(∀v W',R v W'->K (a.put o.dst v) W')->step i K a W)
 (Hl: ∀(i:Nat) (o:Oper) (K:Act->World->Prop) (a:Act) (W:World),ops[i]? =some o->Region.wanted o (yielded ops a.tmps)=false->K (a.put o.dst undef) W->step i K a W)
 (hW:R0 W0 W)
 (x9:Tree Ps P ops R0 R1 m Ss (Seq step Qn (List.range' k (ops.size-k))) W0 (ops.toList.take k) 0 a0 [] []):
 Any step ops Qn ops.size (Array.replicate ops.size false) a0 W:=
 RX.tJ hR hc hmono (fun i o K a W R _ ho hw hd hK=>yc i o K a W R ho hw (adS hd) hK) Hl hW x9
theorem any_eq {P:Program} {ops:Array Oper} {Q:Exit->Act->World->Prop}: ∀(fuel:Nat) (l:Array Bool) (a:Act) (w:World),Any (wpOp P ops Q) ops (Q .normal) fuel l a w->wpAny P .any ops Q fuel l a w:=by
 intro fuel
 induction fuel with
 |zero=>exact fun l a w h=>h
 |succ fuel ih=>exact fun l a w h=>⟨h.1,fun i hi=>wpOp_mono (fun a w=>ih _ a w) (h.2 i hi)⟩
theorem seq_eq {P:Program} {ops:Array Oper} {Q:Exit->Act->World->Prop} (l:List Nat):Seq (wpOp P ops Q) (Q .normal) l=wpOps P ops Q l:=by
 induction l with
 |nil=>rfl
 |cons i l ih=>funext a w;rw[wpOps_cons, <-ih];rfl
theorem tu {P:Program} {o:Oper} {a:Act} {W:World} {R:Value->World->Prop} {K:Act->World->Prop} {Q:Exit->Act->World->Prop} (h:Does P o a.eval W R) (hK: ∀v W',R v W'->K (a.put o.dst v) W'):o.wp P a W K Q:=by
 unfold Does at h
 unfold Oper.wp
 generalize (execOp a.eval o).run P W=r at*
 cases r with
 |ok x w'=>
  cases x <;>simp only[Oper.upon] at h⊢ <;>first|exact hK _ _ h|exact h.elim|skip
  exact Calls.mono h (fun e w'' ⟨v,he,hr⟩=>by subst he;exact hK _ _ hr)
 |halt x w'=>exact h.elim
end Go.RG
namespace Go.RX
open Go.RowKit Go.RG
theorem tu {X:List PanicEntry->World->Prop} {P:Program} {o:Oper} {a:Act} {W:World} {R:Value->World->Prop} {K:Act->World->Prop} {Q:Exit->Act->World->Prop} (h:Does X P o a.eval W R) (hK: ∀v W',R v W'->K (a.put o.dst v) W') (hX: ∀ps W,X ps W->Q (.panic ps) a W):o.wp P a W K Q:=by
 unfold Does at h
 unfold Oper.wp
 generalize (execOp a.eval o).run P W=r at*
 cases r with
 |ok x w'=>
  cases x <;>simp only[Oper.upon] at h⊢ <;>first|exact hK _ _ h|exact h.elim|skip
  exact Calls.mono h (fun e w'' h=>by
   rcases h with⟨v,he,hr⟩|⟨ps,he,hx⟩
   ·subst he;exact hK _ _ hr
   ·subst he;exact hX _ _ hx)
 |halt x w'=>exact h.elim
theorem iO {X:List PanicEntry->World->Prop} {R0 R1:World->World->Prop} (hR:Ap R0 R1) {Ps:oL} {P:Program} {id:Nat} {ops:List Oper} {Q:Exit->Act->World->Prop} {a:Act} {w:World} (hdr:R0 w w.drew) (k:Nat) (m:Option Nat) (Ss:List (Nat×RG.Spec))
 (hX: ∀ps a1 W,a1.defers=a.defers->X ps W->Q (.panic ps) a1 W) (hm:P.follows .mixedOrders=true) (hc:chk ops.toArray k=true)
 (h:Tree X Ps P ops.toArray R0 R1 m Ss (fun a w=>wpList P ops.toArray Q (ops.drop k) a w) w (ops.take k) 0 a [] []):(Code.region id ops.toArray true).wp P Q a w:=by
 refine wp_region_any hm (any_eq _ _ _ _ ?_)
 refine tJ (X:=X) (Ps:=Ps) (P:=P) (R0:=R0) (R1:=R1) (m:=m) (Ss:=Ss) (W0:=w) hR hc (fun i K K' a w h hs=>wpOp_mono h hs) ?_ ?_ hdr ?_
 ·intro i o K a W R hdf ho hw hd hK
  unfold wpOp
  simp only[ho]
  rw[if_pos hw]
  exact .inl (tu hd hK (fun ps W=>hX ps _ W hdf))
 ·intro i o K a W ho hw hK
  unfold wpOp
  simp only[ho]
  rw[if_neg (by rw[hw];simp)]
  exact hK
 ·have e:(fun a w=>wpList P ops.toArray Q (ops.drop k) a w)=Seq (wpOp P ops.toArray Q) (Q .normal) (List.range' k (ops.toArray.size-k)):=by
   funext a w
   rw[seq_eq]
   have hkn:=(RG.Aa hc).kn
   have hlen:ops.toArray.size-k=(ops.drop k).length:=by simp
   rw[hlen,wpOps_eq_wpList (ops.drop k) k (fun j=>by simp)]
  rw[<-e]
  exact h
theorem dM (X:List PanicEntry->World->Prop) {P:Program} {id:Nat} {ops:List Oper} {Q:Exit->Act->World->Prop} {a:Act} {w:World} (k:Nat) (Ms:List Nat) (m:Option Nat) (Ss:List (Nat×RG.Spec))
 (hX: ∀ps a1 W,a1.defers=a.defers->X ps W->Q (.panic ps) a1 W) (hm:P.follows .mixedOrders=true) (hc:chk ops.toArray k=true)
 (h:Tree X Gy P ops.toArray (Ext []) (Ext Ms) m Ss (fun a w=>wpList P ops.toArray Q (ops.drop k) a w) w (ops.take k) 0 a [] []):(Code.region id ops.toArray true).wp P Q a w:=
 iO (vC Ms) ((Ext.refl [] w).drew) k m Ss hX hm hc h
end Go.RX
namespace Go.RG
open Go.RowKit
theorem iO {R0 R1:World->World->Prop} (hR:Ap R0 R1) {Ps:oL} {P:Program} {id:Nat} {ops:List Oper} {Q:Exit->Act->World->Prop} {a:Act} {w:World} (hdr:R0 w w.drew) (k:Nat) (m:Option Nat) (Ss:List (Nat×Spec))
 (hm:P.follows .mixedOrders=true) (hc:chk ops.toArray k=true)
 (h:Tree Ps P ops.toArray R0 R1 m Ss (fun a w=>wpList P ops.toArray Q (ops.drop k) a w) w (ops.take k) 0 a [] []):(Code.region id ops.toArray true).wp P Q a w:=
 RX.iO hR hdr k m Ss (fun _ _ _ _ h=>h.elim) hm hc h
theorem dM {P:Program} {id:Nat} {ops:List Oper} {Q:Exit->Act->World->Prop} {a:Act} {w:World} (k:Nat) (Ms:List Nat) (m:Option Nat) (Ss:List (Nat×Spec))
 (hm:P.follows .mixedOrders=true) (hc:chk ops.toArray k=true)
 (h:Tree Gy P ops.toArray (Ext []) (Ext Ms) m Ss (fun a w=>wpList P ops.toArray Q (ops.drop k) a w) w (ops.take k) 0 a [] []):(Code.region id ops.toArray true).wp P Q a w:=
 iO (vC Ms) ((Ext.refl [] w).drew) k m Ss hm hc h
structure sD (B:Nat) (Ms:List Nat) (w w':World):Prop where
 os:w'.os=w.os
 tape:w'.tape=w.tape
 output:w'.output=w.output
 size:w.heap.size<=w'.heap.size
 block: ∀(k:Nat),k<w.heap.size->k<B->k∉Ms->w'.heap[k]? =w.heap[k]?
theorem sD.qX {B:Nat} {Ms:List Nat} {w w':World} (h:Ext [] w w'):sD B Ms w w':=
 ⟨h.os,h.tape,h.output,h.size,fun k hk _ _=>h.block k hk (by simp)⟩
theorem sD.trans {B:Nat} {Ms:List Nat} {a b c:World} (h:sD B Ms a b) (k:sD B Ms b c):sD B Ms a c:=
 ⟨k.os.trans h.os,k.tape.trans h.tape,k.output.trans h.output,Nat.le_trans h.size k.size,
   fun i hi hb hm=>(k.block i (Nat.lt_of_lt_of_le hi h.size) hb hm).trans (h.block i hi hb hm)⟩
theorem NW (B:Nat) (Ms:List Nat):Ap (Ext []) (sD B Ms):=⟨Ext.refl [],Ext.trans,sD.trans,sD.qX⟩
theorem tZ {P:Program} {id:Nat} {ops:List Oper} {Q:Exit->Act->World->Prop} {a:Act} {w:World} (k:Nat) (Ms:List Nat) (m:Option Nat) (Ss:List (Nat×Spec)) (Ps:oL)
 (hm:P.follows .mixedOrders=true) (hc:chk ops.toArray k=true)
 (h:Tree Ps P ops.toArray (Ext []) (sD w.heap.size Ms) m Ss (fun a w=>wpList P ops.toArray Q (ops.drop k) a w) w (ops.take k) 0 a [] []):(Code.region id ops.toArray true).wp P Q a w:=
 iO (NW _ _) ((Ext.refl [] w).drew) k m Ss hm hc h
class Kept (R1:World->World->Prop) (Ms:outParam (List Nat)) (W0:World):Prop where
 nil: ∀{a b},Ext [] a b->R1 a b
 ext: ∀{W},R1 W0 W->Ext Ms W0 W
instance (Ms:List Nat) (W0:World):Kept (Ext Ms) Ms W0:=⟨Ext.nil,id⟩
instance (Ms:List Nat) (W0:World):Kept (sD W0.heap.size Ms) Ms W0:=⟨sD.qX,fun h=>⟨h.os,h.tape,h.output,h.size,fun k hk hm=>h.block k hk hk hm⟩⟩
section
variable {P : Program} {ops : Array Oper} {R1 : World → World → Prop} {Ms : List Nat} {m : Option Nat} {Ss : List (Nat × Spec)} {Fin : Act → World → Prop} {W0 : World} {o : Oper} {rest : List Oper} {i : Nat} {a : Act} {F G : Facts} {Ps : oL}
theorem L6.ext [Kept R1 Ms W0] {W:World} (h:L6 ops (Ext []) R1 m W0 F G i W):Ext Ms W0 W:=by
 have h1:=h.1
 unfold iQ at h1
 split at h1
 ·exact h1.nil
 ·exact Kept.ext h1
theorem Eg [Kept R1 Ms W0] {W W':World} (h:Ext [] W W'):qp (Ext []) R1 m i W W':=by
 unfold qp
 split
 ·exact Kept.nil (R1:=R1) (W0:=W0) h
 ·exact h
def Spec.block (B:Nat) (cs:Array Value) (t:TypeId):Spec:=
 ⟨fun _ v=> ∃b:Nat,v= .pointer (some ⟨b,0,none⟩),fun _ v W=> ∃b:Nat,v= .pointer (some ⟨b,0,none⟩)/\B<=b/\W.heap[b]? =some (.cells cs t (0,0))⟩
def Spec.slice (B:Nat) (cs:Array Value) (t:TypeId) (n:Nat):Spec:=
 ⟨fun _ v=> ∃b:Nat,v= .slice (some ⟨b,0,none⟩) n n,fun _ v W=> ∃b:Nat,v= .slice (some ⟨b,0,none⟩) n n/\B<=b/\W.heap[b]? =some (.cells cs t (0,0))⟩
end
end Go.RG
namespace Go.RX
open Go.RowKit Go.RG
section
variable {X : List PanicEntry → World → Prop} {P : Program} {ops : Array Oper} {R1 : World → World → Prop} {Ms : List Nat} {m : Option Nat} {Ss : List (Nat × RG.Spec)} {Fin : Act → World → Prop} {W0 : World} {o : Oper} {rest : List Oper} {i : Nat} {a : Act} {F G : Facts} {Ps : oL}
theorem dS [Kept R1 Ms W0] (hs:Ss.lookup i=none) (v:Value) (hw:Region.wanted o (yielded ops a.tmps)=true)
 (hr: ∀W:World,(∀b off,b<W0.heap.size->b∉Ms->W.cell? ⟨b,off,none⟩=W0.cell? ⟨b,off,none⟩)->(execOp a.eval o).run P W= .ok (.value v) W)
 (ht:Tree X Ps P ops (Ext []) R1 m Ss Fin W0 rest (i+1) (a.put o.dst v) F G):Tree X Ps P ops (Ext []) R1 m Ss Fin W0 (o::rest) i a F G:=by
 unfold Tree
 simp only[hs]
 exact⟨v,.inl ⟨hw,fun W hW=>hr W fun b off hb hm=>hW.ext.cell b off hb hm⟩,ht⟩
theorem eG [Kept R1 Ms W0] (hs:Ss.lookup i=none) (v:Value) (hw:Region.wanted o (yielded ops a.tmps)=true)
 (hr: ∀W:World,Ext Ms W0 W->(∀f∈F,iL ops f.1 i=true->f.2 W)->(execOp a.eval o).run P W= .ok (.value v) W)
 (ht:Tree X Ps P ops (Ext []) R1 m Ss Fin W0 rest (i+1) (a.put o.dst v) F G):Tree X Ps P ops (Ext []) R1 m Ss Fin W0 (o::rest) i a F G:=by
 unfold Tree
 simp only[hs]
 exact⟨v,.inl ⟨hw,fun W hW=>hr W hW.ext hW.2.1⟩,ht⟩
theorem wR (hs:Ss.lookup i=none) (hw:Region.wanted o (yielded ops a.tmps)=false)
 (ht:Tree X Ps P ops (Ext []) R1 m Ss Fin W0 rest (i+1) (a.put o.dst undef) F G):Tree X Ps P ops (Ext []) R1 m Ss Fin W0 (o::rest) i a F G:=by
 unfold Tree
 simp only[hs]
 exact⟨undef,.inr ⟨hw,rfl⟩,ht⟩
theorem aP (s:RG.Spec) (hs:Ss.lookup i=some s) (hw:Region.wanted o (yielded ops a.tmps)=true) (hex: ∃v,s.pure (jH o a) v)
 (hdo: ∀W:World,iQ (Ext []) R1 m i W0 W->(∀f∈F,iL ops f.1 i=true->f.2 W)->Does X P o a.eval W (fun v W'=>s.pure (jH o a) v/\s.world (jH o a) v W'/\qp (Ext []) R1 m i W W'))
 (hst: ∀v W W',s.world (jH o a) v W->iQ (Ext []) R1 m i W W'->s.world (jH o a) v W')
 (ht: ∀v,s.pure (jH o a) v->Tree X Ps P ops (Ext []) R1 m Ss Fin W0 rest (i+1) (a.put o.dst v) ((i,s.world (jH o a) v)::F) ((i,Ps i (jH o a) v)::G)) (hps: ∀x v W,Ps i x v W:=by intro _ _ _;exact True.intro):Tree X Ps P ops (Ext []) R1 m Ss Fin W0 (o::rest) i a F G:=by
 unfold Tree
 simp only[hs]
 refine⟨hw,hex,fun W hW=>?_,⟨hst,fun v' _ W' _ _=>hps _ _ _⟩,ht⟩
 have:=hdo W hW.1 hW.2.1
 unfold Does at this⊢
 split at this
 ·exact⟨this.1,this.2.1,this.2.2,hps _ _ _⟩
 ·exact⟨this.1,this.2.1,this.2.2,hps _ _ _⟩
 ·exact this.mono fun e w' h=>h.imp (fun⟨v,h1,h2,h3,h4⟩=>⟨v,h1,h2,h3,h4,hps _ _ _⟩) id
 ·exact this.elim
theorem bU {ρ:Operand->Value} {W:World} {R:Value->World->Prop} (f:FuncId) (args:Array Value) (he:(execOp ρ o).run P W= .ok (.enter f args) W)
 (h:Calls P f args W (fun e W'=>(∃v,e= .returned v/\R v W')∨ ∃ps,e= .panicked ps/\X ps W')):Does X P o ρ W R:=by
 unfold Does;rw[he];exact h
theorem iK {ρ:Operand->Value} {W W':World} {R:Value->World->Prop} (v:Value) (he:(execOp ρ o).run P W= .ok (.value v) W') (h:R v W'):Does X P o ρ W R:=by
 unfold Does;rw[he];exact h
theorem gW (B:Nat) (cs:Array Value) (t:TypeId) (hs:Ss.lookup i=some (RG.Spec.block B cs t)) (hB:B<=W0.heap.size) (hw:Region.wanted o (yielded ops a.tmps)=true) (hMs: ∀x∈Ms,x<B) (hmi:m≠some i)
 (he: ∀W:World,(∀b off,b<W0.heap.size->b∉Ms->W.cell? ⟨b,off,none⟩=W0.cell? ⟨b,off,none⟩)->(execOp a.eval o).run P W= .ok (.value (.pointer (some ⟨W.heap.size,0,none⟩))) (W.alloc (.cells cs t)))
 (ht: ∀b:Nat,Tree X Ps P ops (Ext []) (Ext Ms) m Ss Fin W0 rest (i+1) (a.put o.dst (.pointer (some ⟨b,0,none⟩))) ((i,fun W=> ∃c:Nat,Value.pointer (some ⟨b,0,none⟩)= .pointer (some ⟨c,0,none⟩)/\B<=c/\W.heap[c]? =some (.cells cs t (0,0)))::F) ((i,Ps i (jH o a) (.pointer (some ⟨b,0,none⟩)))::G)) (hps: ∀x v W,Ps i x v W:=by intro _ _ _;exact True.intro):
 Tree X Ps P ops (Ext []) (Ext Ms) m Ss Fin W0 (o::rest) i a F G:=by
 refine aP _ hs hw ⟨.pointer (some ⟨0,0,none⟩),0,rfl⟩ ?_ ?_ ?_ ?_
 ·intro W hW _
  have hW':Ext Ms W0 W:=by
   unfold iQ at hW
   rw[if_neg hmi] at hW
   exact hW
  refine iK _ (he W fun b off hb hm=>hW'.cell b off hb hm) ⟨⟨_,rfl⟩,⟨_,rfl,Nat.le_trans hB hW'.size,heap_alloc_new W _⟩,Eg (R1:=Ext Ms) (W0:=W0) (Ext.of_below ?_)⟩
  exact(Below.refl _ _).alloc (Nat.le_refl _) _
 ·rintro v W W' ⟨b,hb,hle,hc⟩ hE
  unfold iQ at hE
  rw[if_neg hmi] at hE
  exact⟨b,hb,hle,(hE.block b (Array.getElem?_eq_some_iff.1 hc).1 (fun h=>by have:=hMs b h;omega)).trans hc⟩
 ·rintro v ⟨b,rfl⟩
  exact ht b
 ·exact hps
theorem bZ (B:Nat) (cs:Array Value) (t:TypeId) (n:Nat) (hs:Ss.lookup i=some (RG.Spec.slice B cs t n)) (hB:B<=W0.heap.size) (hw:Region.wanted o (yielded ops a.tmps)=true) (hMs: ∀x∈Ms,x<B) (hmi:m≠some i)
 (he: ∀W:World,(∀b off,b<W0.heap.size->b∉Ms->W.cell? ⟨b,off,none⟩=W0.cell? ⟨b,off,none⟩)->(execOp a.eval o).run P W= .ok (.value (.slice (some ⟨W.heap.size,0,none⟩) n n)) (W.alloc (.cells cs t)))
 (ht: ∀b:Nat,Tree X Ps P ops (Ext []) (Ext Ms) m Ss Fin W0 rest (i+1) (a.put o.dst (.slice (some ⟨b,0,none⟩) n n)) ((i,fun W=> ∃c:Nat,Value.slice (some ⟨b,0,none⟩) n n= .slice (some ⟨c,0,none⟩) n n/\B<=c/\W.heap[c]? =some (.cells cs t (0,0)))::F) ((i,Ps i (jH o a) (.slice (some ⟨b,0,none⟩) n n))::G)) (hps: ∀x v W,Ps i x v W:=by intro _ _ _;exact True.intro):
 Tree X Ps P ops (Ext []) (Ext Ms) m Ss Fin W0 (o::rest) i a F G:=by
 refine aP _ hs hw ⟨.slice (some ⟨0,0,none⟩) n n,0,rfl⟩ ?_ ?_ ?_ ?_
 ·intro W hW _
  have hW':Ext Ms W0 W:=by
   unfold iQ at hW
   rw[if_neg hmi] at hW
   exact hW
  refine iK _ (he W fun b off hb hm=>hW'.cell b off hb hm) ⟨⟨_,rfl⟩,⟨_,rfl,Nat.le_trans hB hW'.size,heap_alloc_new W _⟩,Eg (R1:=Ext Ms) (W0:=W0) (Ext.of_below ?_)⟩
  exact(Below.refl _ _).alloc (Nat.le_refl _) _
 ·rintro v W W' ⟨b,hb,hle,hc⟩ hE
  unfold iQ at hE
  rw[if_neg hmi] at hE
  exact⟨b,hb,hle,(hE.block b (Array.getElem?_eq_some_iff.1 hc).1 (fun h=>by have:=hMs b h;omega)).trans hc⟩
 ·rintro v ⟨b,rfl⟩
  exact ht b
 ·exact hps
end
section
variable {X : List PanicEntry → World → Prop} {P : Program} {ops : Array Oper} {R1 : World → World → Prop} {Ms : List Nat} {m : Option Nat} {Ss : List (Nat × RG.Spec)} {Fin : Act → World → Prop} {W0 : World} {o : Oper} {rest : List Oper} {i : Nat} {a : Act} {F G : Facts} {Ps : oL}
theorem zd [Kept R1 Ms W0] {v:Value} (ht:Tree X Ps P ops (Ext []) R1 m Ss Fin W0 rest (i+1) (a.put o.dst v) F G) (hs:Ss.lookup i=none:=by rfl) (hw:Region.wanted o (yielded ops a.tmps)=true:=by rfl)
 (hr: ∀W:World,(∀b off,b<W0.heap.size->b∉Ms->W.cell? ⟨b,off,none⟩=W0.cell? ⟨b,off,none⟩)->(execOp a.eval o).run P W= .ok (.value v) W:=by
   intro W hW;go_simp;(try simp(disch:=omega) only[IntWalk.i64_in,Int.tdiv_eq_ediv_of_nonneg]);try rfl):Tree X Ps P ops (Ext []) R1 m Ss Fin W0 (o::rest) i a F G:=
 dS hs v hw hr ht
end
end Go.RX
namespace Go.RG
open Go.RowKit
section
variable {P : Program} {ops : Array Oper} {R1 : World → World → Prop} {Ms : List Nat} {m : Option Nat} {Ss : List (Nat × Spec)} {Fin : Act → World → Prop} {W0 : World} {o : Oper} {rest : List Oper} {i : Nat} {a : Act} {F G : Facts} {Ps : oL}
abbrev dS:= @RX.dS fun _ _=>False
abbrev eG:= @RX.eG fun _ _=>False
abbrev wR:= @RX.wR fun _ _=>False
def Spec.val (v:Value):Spec:=⟨fun _ x=>x=v,fun _ _ _=>True⟩
theorem dh [Kept R1 Ms W0] (v:Value) (hs:Ss.lookup i=some (Spec.val v)) (hw:Region.wanted o (yielded ops a.tmps)=true) (f:FuncId) (args:Array Value)
 (he: ∀W:World,(∀b off,b<W0.heap.size->b∉Ms->W.cell? ⟨b,off,none⟩=W0.cell? ⟨b,off,none⟩)->(execOp a.eval o).run P W= .ok (.enter f args) W)
 (hcall: ∀W:World,Ext Ms W0 W->(∀f∈F,iL ops f.1 i=true->f.2 W)->Calls P f args W (fun e W'=>e= .returned v/\Below W.heap.size W W'))
 (ht:Tree Ps P ops (Ext []) R1 m Ss Fin W0 rest (i+1) (a.put o.dst v) F G) (hps: ∀x v W,Ps i x v W:=by intro _ _ _;exact True.intro):Tree Ps P ops (Ext []) R1 m Ss Fin W0 (o::rest) i a F G:=by
 have mono: ∀(rest:List Oper) (i:Nat) (a:Act) (F F' G G':Facts),(∀f,f∈F'->f∈F∨ ∀W,f.2 W)->(∀f,f∈F->f∈F')->(∀f,f∈G->f∈G')->Tree Ps P ops (Ext []) R1 m Ss Fin W0 rest i a F G->Tree Ps P ops (Ext []) R1 m Ss Fin W0 rest i a F' G':=by
  intro rest
  induction rest with
  |nil=>
   intro i a F F' G G' h1 h2 h3 h W hW hF
   exact h W hW (fun f hf=>hF f (h2 f hf))
  |cons o rest ih=>
   intro i a F F' G G' h1 h2 h3 h
   have zO: ∀W,L6 ops (Ext []) R1 m W0 F' G' i W->L6 ops (Ext []) R1 m W0 F G i W:=fun W hW=>⟨hW.1,fun f hf ha=>hW.2.1 f (h2 f hf) ha,fun hm f hf ha=>hW.2.2 hm f (h3 f hf) ha⟩
   have hcons: ∀(x:Nat×(World->Prop)) (A B:Facts),(∀f,f∈A->f∈B)-> ∀f,f∈x::A->f∈x::B:=by
    intro x A B hAB f hf
    rcases List.mem_cons.1 hf with rfl|hf
    ·simp
    ·simp[hAB f hf]
   unfold Tree RX.Tree at h⊢
   cases hs:Ss.lookup i with
   |none=>
    simp only[hs] at h⊢
    obtain⟨v,hv,ht⟩:=h
    exact⟨v,hv.imp (fun x=>⟨x.1,fun W hW=>x.2 W (zO W hW)⟩) id,ih _ _ _ _ _ _ h1 h2 h3 ht⟩
   |some s=>
    simp only[hs] at h⊢
    obtain⟨x1,x2,x3,x4,x5⟩:=h
    refine⟨x1,x2,fun W hW=>x3 W (zO W hW),x4,fun v hv=>ih _ _ _ _ _ _ ?_ (hcons _ _ _ h2) (hcons _ _ _ h3) (x5 v hv)⟩
    intro f hf
    rcases List.mem_cons.1 hf with rfl|hf
    ·exact .inl (by simp)
    ·exact(h1 f hf).imp (fun h=>by simp[h]) id
 unfold Tree RX.Tree
 simp only[hs]
 refine⟨hw,⟨v,rfl⟩,fun W hW=>?_,⟨fun _ _ _ _ _=>trivial,fun v' _ W' _ _=>hps _ _ _⟩,fun v' hv=>?_⟩
 ·refine Ld ?_
  unfold Does
  rw[he W (fun b off hb hm=>hW.ext.cell b off hb hm)]
  exact(hcall W hW.ext hW.2.1).mono fun e W' ⟨h1,h2⟩=>⟨v,h1,rfl,trivial,Eg (R1:=R1) (W0:=W0) (Ext.of_below h2),hps _ _ _⟩
 ·have:v'=v:=hv
  subst this
  refine mono _ _ _ _ _ _ _ ?_ ?_ ?_ ht
  ·intro f hf
   rcases List.mem_cons.1 hf with rfl|hf
   ·exact .inr (fun _=>trivial)
   ·exact .inl hf
  ·intro f hf
   simp[hf]
  ·intro f hf
   simp[hf]
theorem aP (s:Spec) (hs:Ss.lookup i=some s) (hw:Region.wanted o (yielded ops a.tmps)=true) (hex: ∃v,s.pure (jH o a) v)
 (hdo: ∀W:World,iQ (Ext []) R1 m i W0 W->(∀f∈F,iL ops f.1 i=true->f.2 W)->Does P o a.eval W (fun v W'=>s.pure (jH o a) v/\s.world (jH o a) v W'/\qp (Ext []) R1 m i W W'))
 (hst: ∀v W W',s.world (jH o a) v W->iQ (Ext []) R1 m i W W'->s.world (jH o a) v W')
 (ht: ∀v,s.pure (jH o a) v->Tree Ps P ops (Ext []) R1 m Ss Fin W0 rest (i+1) (a.put o.dst v) ((i,s.world (jH o a) v)::F) ((i,Ps i (jH o a) v)::G)) (hps: ∀x v W,Ps i x v W:=by intro _ _ _;exact True.intro):Tree Ps P ops (Ext []) R1 m Ss Fin W0 (o::rest) i a F G:=
 RX.aP s hs hw hex (fun W a b=>Ld (hdo W a b)) hst ht hps
theorem mX (s:Spec) (hs:Ss.lookup i=some s) (hw:Region.wanted o (yielded ops a.tmps)=true) (hex: ∃v,s.pure (jH o a) v)
 (hdo: ∀W:World,iQ (Ext []) R1 m i W0 W->(∀f∈F,iL ops f.1 i=true->f.2 W)->(m=some i-> ∀g∈G,iL ops g.1 i=true->g.2 W)->
   Does P o a.eval W (fun v W'=>s.pure (jH o a) v/\s.world (jH o a) v W'/\qp (Ext []) R1 m i W W'/\Ps i (jH o a) v W'))
 (hst: ∀v W W',s.world (jH o a) v W->iQ (Ext []) R1 m i W W'->s.world (jH o a) v W') (hsp: ∀v W W',Ps i (jH o a) v W->Ext [] W W'->Ps i (jH o a) v W')
 (ht: ∀v,s.pure (jH o a) v->Tree Ps P ops (Ext []) R1 m Ss Fin W0 rest (i+1) (a.put o.dst v) ((i,s.world (jH o a) v)::F) ((i,Ps i (jH o a) v)::G)):Tree Ps P ops (Ext []) R1 m Ss Fin W0 (o::rest) i a F G:=by
 unfold Tree RX.Tree
 simp only[hs]
 exact⟨hw,hex,fun W hW=>Ld (hdo W hW.1 hW.2.1 hW.2.2),⟨hst,hsp⟩,ht⟩
theorem bU {ρ:Operand->Value} {W:World} {R:Value->World->Prop} (f:FuncId) (args:Array Value) (he:(execOp ρ o).run P W= .ok (.enter f args) W)
 (h:Calls P f args W (fun e W'=> ∃v,e= .returned v/\R v W')):Does P o ρ W R:=by
 unfold Does;rw[he];exact h
theorem iK {ρ:Operand->Value} {W W':World} {R:Value->World->Prop} (v:Value) (he:(execOp ρ o).run P W= .ok (.value v) W') (h:R v W'):Does P o ρ W R:=by
 unfold Does;rw[he];exact h
abbrev gW:= @RX.gW fun _ _=>False
abbrev bZ:= @RX.bZ fun _ _=>False
end
section
variable {P : Program} {ops : Array Oper} {R1 : World → World → Prop} {Ms : List Nat} {m : Option Nat} {Ss : List (Nat × Spec)} {Fin : Act → World → Prop} {W0 : World} {o : Oper} {rest : List Oper} {i : Nat} {a : Act} {F G : Facts} {Ps : oL}
theorem zd [Kept R1 Ms W0] {v:Value} (ht:Tree Ps P ops (Ext []) R1 m Ss Fin W0 rest (i+1) (a.put o.dst v) F G) (hs:Ss.lookup i=none:=by rfl) (hw:Region.wanted o (yielded ops a.tmps)=true:=by rfl)
 (hr: ∀W:World,(∀b off,b<W0.heap.size->b∉Ms->W.cell? ⟨b,off,none⟩=W0.cell? ⟨b,off,none⟩)->(execOp a.eval o).run P W= .ok (.value v) W:=by
   intro W hW;go_simp;(try simp(disch:=omega) only[IntWalk.i64_in,Int.tdiv_eq_ediv_of_nonneg]);try rfl):Tree Ps P ops (Ext []) R1 m Ss Fin W0 (o::rest) i a F G:=
 dS hs v hw hr ht
theorem zn [Kept R1 Ms W0] {v:Value} (ht:Tree Ps P ops (Ext []) R1 m Ss Fin W0 rest (i+1) (a.put o.dst v) F G) (hs:Ss.lookup i=none:=by rfl) (hw:Region.wanted o (yielded ops a.tmps)=true:=by rfl)
 (hr: ∀W:World,(∀b off,b<W0.heap.size->b∉Ms->W.cell? ⟨b,off,none⟩=W0.cell? ⟨b,off,none⟩)->(execOp a.eval o).run P W= .ok (.value v) W:=by
   intro W hW;go_simp;(try simp(disch:=omega) only[IntWalk.i64_in]);try rfl):Tree Ps P ops (Ext []) R1 m Ss Fin W0 (o::rest) i a F G:=
 dS hs v hw hr ht
theorem zk (ht:Tree Ps P ops (Ext []) R1 m Ss Fin W0 rest (i+1) (a.put o.dst undef) F G) (hs:Ss.lookup i=none:=by rfl) (hw:Region.wanted o (yielded ops a.tmps)=false:=by rfl):Tree Ps P ops (Ext []) R1 m Ss Fin W0 (o::rest) i a F G:=
 wR hs hw ht
theorem zv [Kept R1 Ms W0] {v:Value} (f:FuncId) {args:Array Value} (hs:Ss.lookup i=some (Spec.val v):=by rfl) (hw:Region.wanted o (yielded ops a.tmps)=true:=by rfl)
 (he: ∀W:World,(∀b off,b<W0.heap.size->b∉Ms->W.cell? ⟨b,off,none⟩=W0.cell? ⟨b,off,none⟩)->(execOp a.eval o).run P W= .ok (.enter f args) W:=by
   intro W hW;go_simp;(try simp(disch:=omega) only[IntWalk.i64_in,Int.tdiv_eq_ediv_of_nonneg]);try rfl)
 (h: ∀W:World,Ext Ms W0 W->(∀f∈F,iL ops f.1 i=true->f.2 W)->Calls P f args W (fun e W'=>e= .returned v/\Below W.heap.size W W'))
 (t:Tree Ps P ops (Ext []) R1 m Ss Fin W0 rest (i+1) (a.put o.dst v) F G) (hps: ∀x v W,Ps i x v W:=by intro _ _ _;exact True.intro):Tree Ps P ops (Ext []) R1 m Ss Fin W0 (o::rest) i a F G:=
 dh v hs hw f args he h t hps
theorem zw [Kept R1 Ms W0] {v:Value} (f:FuncId) {args:Array Value} (hs:Ss.lookup i=some (Spec.val v):=by rfl) (hw:Region.wanted o (yielded ops a.tmps)=true:=by rfl)
 (he: ∀W:World,(∀b off,b<W0.heap.size->b∉Ms->W.cell? ⟨b,off,none⟩=W0.cell? ⟨b,off,none⟩)->(execOp a.eval o).run P W= .ok (.enter f args) W:=by
   intro W hW;go_simp;try rfl)
 (h: ∀W:World,Ext Ms W0 W->(∀f∈F,iL ops f.1 i=true->f.2 W)->Calls P f args W (fun e W'=>e= .returned v/\Below W.heap.size W W'))
 (t:Tree Ps P ops (Ext []) R1 m Ss Fin W0 rest (i+1) (a.put o.dst v) F G) (hps: ∀x v W,Ps i x v W:=by intro _ _ _;exact True.intro):Tree Ps P ops (Ext []) R1 m Ss Fin W0 (o::rest) i a F G:=
 dh v hs hw f args he h t hps
theorem zg {P:Program} {id:Nat} {ops:List Oper} {Q:Exit->Act->World->Prop} {a:Act} {w:World} (k:Nat) (Ms:List Nat) (m:Option Nat) (Ss:List (Nat×Spec))
 (h:Tree Gy P ops.toArray (Ext []) (Ext Ms) m Ss (fun a w=>wpList P ops.toArray Q (ops.drop k) a w) w (ops.take k) 0 a [] [])
 (hm:P.follows .mixedOrders=true:=by as_aux_lemma=>kernel_rfl) (hc:chk ops.toArray k=true:=by as_aux_lemma=>kernel_rfl):(Code.region id ops.toArray true).wp P Q a w:=
 dM k Ms m Ss hm hc h
end
end Go.RG
namespace Go
theorem zp:(∀(a:Act) (d:Tmp) (v:Value),a.put (some d) v={a with tmps:=a.tmps.setIfInBounds d v})/\(∀(a:Act) (v:Value),a.put none v=a)/\
 (∀(l:List Value) (i:Nat) (v:Value),l.toArray.setIfInBounds i v=(l.set i v).toArray)/\(∀(x:Value) (xs:List Value) (n:Nat) (v:Value),(x::xs).set (n+1) v=x::xs.set n v)/\(∀(x:Value) (xs:List Value) (v:Value),(x::xs).set 0 v=v::xs):=
 ⟨fun _ _ _=>rfl,fun _ _=>rfl,fun _ _ _=>List.setIfInBounds_toArray ..,fun _ _ _ _=>rfl,fun _ _ _=>rfl⟩
theorem zt:(∀(i:Nat) (x:Oper) (xs:List Oper),List.take (i+1) (x::xs)=x::List.take i xs)/\(∀xs:List Oper,List.take 0 xs=[])/\
 (∀(i:Nat) (x:Oper) (xs:List Oper),List.drop (i+1) (x::xs)=List.drop i xs)/\(∀xs:List Oper,List.drop 0 xs=xs):=
 ⟨fun _ _ _=>rfl,fun _=>rfl,fun _ _ _=>rfl,fun _=>rfl⟩
end Go
end

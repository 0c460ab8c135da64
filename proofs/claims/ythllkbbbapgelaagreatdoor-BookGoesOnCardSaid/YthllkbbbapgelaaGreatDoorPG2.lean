/-
  Texts of this claim, packed by a program: Math MA VA Region.
-/
import Derived.Test.YthllkbbbapgelaaGreatDoorPG0
import Derived.WalkKit
import Derived.WalkLawsBesides
import Derived.WalkSpells
import Derived.Outline
import Derived.Handy
import Derived.KernelRfl
import Derived.Lib.Hide
import Derived.Orders
import Derived.OrdersIn
import Derived.Below
import Derived.Tactics
set_option maxHeartbeats 8000000
set_option maxRecDepth 100000
set_option linter.all false
theorem _root_.zbZ {P:Prop} (h:P:=by
 by_cases h:i<n
 ·rw[aB h,aB ϑ]
 ·rw[aj h,aj ϑ]):P:=h
theorem _root_.za1 {P:Prop} (h:P:=by
 intro l;induction l with
 |nil=>intro k j hk;simp at hk
 |cons x l ih=>
  intro k j hk hj;cases k with
  |zero=>simp[List.flatMap_cons,rP (show j<(f x).length by rw[hf];exact hj)]
  |succ k=>
   have e:(k+1)*sz+j=(f x).length+(k*sz+j):=by rw[hf,Nat.add_mul];omega
   rw[List.flatMap_cons,e,lI ϑ,Nat.add_sub_cancel_left,ih k j (by simpa using hk) hj];rfl):P:=h
theorem _root_.zbH {P:Prop} (h:P:=by
 rw[eT hk,List.filter_append,bR];simp[hp]):P:=h
theorem _root_.zca {P:Prop} (h:P:=by
 rw[ih (fun j hj=>h j ϑ),iZ (env:=env) (env':=env') (fun j hj=>h j ϑ),h t ϑ]):P:=h
theorem _root_.zcg {P:Prop} (h:P:=by
 rw[<-Uf hc (hl j hj) (fun x _ hx=>he x (qJ hd (dU (hl j hj) hc.kn) hj hx)), <-he j hj];exact h):P:=h
theorem _root_.zbh {P:Prop} (h:P:=by
 intro W hW _;have hW':Ext Ms W0 W:=by
  unfold jE at hW;rw[aj hmi] at hW;exact hW
 refine iq _ (he W fun b off hb hm=>hW'.cell b off hb hm) ⟨⟨_,rfl⟩,⟨_,rfl,gI hB hW'.size,heap_alloc_new W _⟩,Hl (R1:=Ext Ms) (W0:=W0) (Ext.ay ?_)⟩;exact(aC _ _).alloc (ah _) _):P:=h
theorem _root_.zbL {P:Prop} (h:P:=by
 rintro v W W' ⟨b,hb,hle,hc⟩ hE;unfold jE at hE;rw[aj hmi] at hE;exact⟨b,hb,hle,(hE.block b (aP.1 hc).1 (fun h=>by have:=γ b h;omega)).trans hc⟩):P:=h
section
namespace ig
abbrev dF:=Int×Int
abbrev AV:=Int×Int×Int
structure bN where
 last:Int
 size:Int
 aX:Int
 die:Int
 qW:Int
 start:dF
 bM:List dF
 turns:List Int
 readings:List AV
def lT (n lo hi:Int):Bool:=decide (lo<=n)&&decide (n<=hi)
def sQ (r:dF) (hi:Int):Bool:=decide (0<=r.1)&&decide (r.1<=r.2)&&decide (r.2<=hi)
def vV (last:Int):Int->List Int->Bool
 |_,[]=>true
 |p,n::l=>lT n (p+1) last&&vV last n l
def ma (last:Int) (l:List Int):Bool:=vV last (-1) l
def yc (last:Int) (x:AV):Bool:=lT x.1 0 last&&lT x.2.1 0 1000&&lT x.2.2 0 50
def ek (h:bN):Bool:=
 decide (0<=h.last)&&lT h.size 0 20&&lT h.aX 0 100&&decide (0<=h.die)&&lT h.qW h.die 500&&sQ h.start 500
def valid (h:bN):Bool:=
 ek h&&decide ((h.bM.length:Int)=h.last+1)&&ma h.last h.turns&&h.bM.all (sQ · 20)&&h.readings.all (yc h.last)
def dP (r:dF):Int:=r.2-r.1+1
def qO (l:List dF):Int:=l.foldr (fun r n=>dP r*n) 1
def sK (h:bN):Int:=
 if 9<h.last∨5<h.readings.length then 3 else if valid h=false then 1 else if 2000<qO (h.start::h.bM) then 3 else 0
def kz (aX n:Int) (turned:Bool):Int:=if turned then n-n*aX/100 else n
def TK (size aX:Int) (turns:List Int) (i:Nat) (n w:Int):Int:=kz aX n (turns.contains (i:Int))+size*w/10
def oL (size aX:Int) (turns:List Int) (start:Int) (bM:List Int):Nat->Int
 |0=>start
 |k+1=>TK size aX turns k (oL size aX turns start bM k) (bM.getD k 0)
def nX (size aX:Int) (turns:List Int) (start:Int) (bM:List Int) (n:Nat):List Int:=
 (List.range 10).map fun j=>if j<n then oL size aX turns start bM (j+1) else 0
def jS (h:bN) (t:Int×List Int) (turns:List Int):List Int:=nX h.size h.aX turns t.1 t.2 t.2.length
def zy (x:AV) (l:List Int):Bool:=lT (l.getD x.1.toNat 0-x.2.1) (-x.2.2) x.2.2
def qp (r:dF):List Int:=(List.range (dP r).toNat).map fun(k:Nat)=>r.1+(k:Int)
def dZ:List dF->List (List Int)
 |[]=>[[]]
 |r::rs=>(qp r).flatMap fun x=>(dZ rs).map (x:: ·)
def VZ (last p:Int) (l:List Int) (k:Nat):Bool:=lT (l.getD k 0) ((p::l).getD k 0+1) last
theorem Ec (last:Int): ∀(l:List Int) (p:Int),vV last p l=(List.range l.length).all (VZ last p l):=by
 intro l;induction l with
 |nil=>intro p;rfl
 |cons n l ih=>
  intro p;rw[List.length_cons,List.range_succ_eq_map,List.all_cons,List.all_map,vV,ih n];congr 1
theorem R9 (last:Int) (h0:0<=last) (l:List Int): ∀k,(∀j,j<k->VZ last (-1) l j=true)->k<=l.length-> -1<=((-1:Int)::l).getD k 0/\((-1:Int)::l).getD k 0<=last:=by
 intro k;induction k with
 |zero=>intro _ _;simp;omega
 |succ k ih=>
  intro h hk;have h1:=h k ϑ;have h2:=ih (fun j hj=>h j ϑ) ϑ;simp only[VZ,lT,dL,dR] at h1;rw[List.getD_cons_succ];omega
theorem iK {α:Type} (l:List α) (p:α->Bool):(if l.any (fun k=>!p k) then false else true)=l.all p:=by
 rw[List.all_eq_not_any_not];cases l.any (fun k=>!p k) <;>rfl
def pO (m:Int) (r:dF):Int:=min (m*dP r) 2001
def rA (l:List dF) (k:Nat):Int:=(l.take k).foldl pO 1
theorem De (l:List dF) (k:Nat) (hk:k<l.length):rA l (k+1)=pO (rA l k) l[k]:=by
 unfold rA;rw[eT hk,List.foldl_append];rfl
theorem JJ (l:List dF) (h: ∀r∈l,1<=dP r):1<=qO l:=by
 induction l with
 |nil=>simp[qO]
 |cons r l ih=>
  have h1:=h r ϕ;have h2:=ih (fun x hx=>h x (by simp[hx]));show 1<=dP r*qO l;have:=Int.mul_le_mul h1 h2 ϑ ϑ;omega
theorem Lg (l:List dF) (h: ∀r∈l,1<=dP r): ∀m,1<=m->m<=2001->l.foldl pO m=min (m*qO l) 2001:=by
 induction l with
 |nil=>intro m h1 h2;simp[qO];omega
 |cons r l ih=>
  intro m h1 h2;have hr:=h r ϕ;have hp:=JJ l (fun x hx=>h x (by simp[hx]));rw[List.foldl_cons];have hm:1<=m*dP r:=by have:=Int.mul_le_mul h1 hr ϑ ϑ;omega
  rw[ih (fun x hx=>h x (by simp[hx])) _ (by unfold pO;omega) (by unfold pO;omega)];show min (pO m r*qO l) 2001=min (m*(dP r*qO l)) 2001;rw[<-Int.mul_assoc];unfold pO;by_cases hc:m*dP r<=2001
  ·rw[Int.min_eq_left hc]
  ·have h3:2001<=m*dP r*qO l:=by have:=Int.mul_le_mul (show(2001:Int)<=m*dP r by omega) hp ϑ ϑ;omega
   have h4:2001<=2001*qO l:=ϑ;rw[Int.min_eq_right (show 2001<=m*dP r by omega)];omega
theorem Lh (l:List dF) (h: ∀r∈l,1<=dP r) (k:Nat):1<=rA l k/\rA l k<=2001:=by
 unfold rA;have ht: ∀r∈l.take k,1<=dP r:=fun r hr=>h r (ny hr);rw[Lg _ ht 1 ϑ ϑ];have:=JJ _ ht;omega
theorem Gq (l:List dF) (h: ∀r∈l,1<=dP r):(2000<rA l l.length)↔2000<qO l:=by
 unfold rA;rw[List.take_length,Lg _ h 1 ϑ ϑ];omega
theorem uZ {r:dF} {n:Int} (h:sQ r n=true):0<=r.1/\r.1<=r.2/\r.2<=n/\1<=dP r/\dP r<=n+1:=by
 simp only[sQ,dL,dR] at h;unfold dP;omega
theorem Gp {aX n:Int} (hc0:0<=aX) (hc1:aX<=100) (hn:0<=n) (t:Bool):0<=kz aX n t/\kz aX n t<=n:=by
 unfold kz;cases t
 ·simp;omega
 ·simp only[if_true];have h1:0<=n*aX:=Int.mul_nonneg hn hc0;have h2:n*aX<=n*100:=Int.mul_le_mul_of_nonneg_left hc1 hn;omega
theorem Gf {size aX:Int} (turns:List Int) {start:Int} (bM:List Int) (hs0:0<=size) (hs1:size<=20) (hc0:0<=aX) (hc1:aX<=100) (h0:0<=start) (h1:start<=500) (hw: ∀x∈bM,0<=x/\x<=20):
 ∀k:Nat,0<=oL size aX turns start bM k/\oL size aX turns start bM k<=500+40*k:=by
 intro k;induction k with
 |zero=>simp[oL];omega
 |succ k ih=>
  have hb:=Gp hc0 hc1 ih.1 (turns.contains (k:Int));have hx:0<=bM.getD k 0/\bM.getD k 0<=20:=by
   by_cases hk:k<bM.length
   ·rw[fJ,bZ hk];exact hw _ (bK _)
   ·rw[fJ,List.getElem?_eq_none ϑ];simp
  have h2:0<=size*bM.getD k 0:=Int.mul_nonneg hs0 hx.1;have h3:size*bM.getD k 0<=20*20:=Int.mul_le_mul hs1 hx.2 hx.1 ϑ;simp only[oL,TK];generalize bM.getD k 0=x at*
  generalize size*x=y at*
  push_cast
  omega
theorem jH (size aX:Int) (turns:List Int) (start:Int) (bM:List Int) (n:Nat):(nX size aX turns start bM n).length=10:=by simp[nX]
theorem Im (size aX:Int) (turns:List Int) (start:Int) (bM:List Int) (n:Nat) (_hn:n<10):
 nX size aX turns start bM (n+1)=(nX size aX turns start bM n).set n (oL size aX turns start bM (n+1)):=by
 apply List.ext_getElem
 ·simp[nX]
 ·intro i h1 h2;have hi:i<10:=by simpa [nX] using h1
  simp only[nX,List.getElem_map,List.getElem_range,List.getElem_set];by_cases e:n=i
  ·subst e;simp
  ·rw[aj e];exact zbZ
theorem Kz {h:bN} {t:Int×List Int} (turns:List Int) (hs0:0<=h.size) (hs1:h.size<=20) (hc0:0<=h.aX) (hc1:h.aX<=100) (h0:0<=t.1) (h1:t.1<=500) (hw: ∀x∈t.2,0<=x/\x<=20) (_hl:t.2.length<=10):
 ∀x∈jS h t turns,0<=x/\x<=900:=by
 intro x hx;obtain⟨j,hj,rfl⟩:=gU.1 hx;have hj':j<10:=by simpa using hj
 split
 ·have:=Gf turns t.2 hs0 hs1 hc0 hc1 h0 h1 hw (j+1);omega
 ·omega
theorem zo {α:Type} {l:List α} (h:l.length=10): ∃a b c d e f g i j k,l=[a,b,c,d,e,f,g,i,j,k]:=by
 match l,h with
 |[a,b,c,d,e,f,g,i,j,k],_=>exact⟨a,b,c,d,e,f,g,i,j,k,rfl⟩
structure Sound (h:bN):Prop where
 F6:0<=h.last
 yn:h.last<=9
 Jt:0<=h.size
 Js:h.size<=20
 KV:0<=h.aX
 KU:h.aX<=100
 anG:0<=h.die
 akV:h.die<=h.qW
 akU:h.qW<=500
 TN:0<=h.start.1
 TM:h.start.1<=h.start.2
 TL:h.start.2<=500
 Bz:(h.bM.length:Int)=h.last+1
 turns:ma h.last h.turns=true
 bM: ∀r∈h.bM,0<=r.1/\r.1<=r.2/\r.2<=20
 rdg: ∀x∈h.readings,(0<=x.1/\x.1<=h.last)/\(0<=x.2.1/\x.2.1<=1000)/\0<=x.2.2/\x.2.2<=50
 agX:h.readings.length<=5
 many:qO (h.start::h.bM)<=2000
theorem BI {h:bN} (hf:sK h=0):Sound h:=by
 unfold sK at hf;split at hf
 ·omega
 ·split at hf
  ·omega
  ·split at hf
   ·omega
   ·rename_i h1 h2 h3;have h2':valid h=true:=by simpa using h2
    simp only[valid,ek,sQ,lT,dL,dR,iR] at h2';obtain⟨⟨⟨⟨⟨⟨⟨⟨⟨a1,a2⟩,a3⟩,a4⟩,a5⟩,a6⟩,a7⟩,a8⟩,a9⟩,a10⟩:=h2';refine⟨a1,by omega,a2.1,a2.2,a3.1,a3.2,a4,a5.1,a5.2,a6.1.1,a6.1.2,a6.2,a7,a8,fun r hr=>?_,fun x hx=>?_,by omega,by omega⟩
    ·have:=a9 r hr;exact⟨this.1.1,this.1.2,this.2⟩
    ·have:=a10 x hx;simp only[yc,lT,dL,dR] at this;exact⟨this.1.1,this.1.2,this.2⟩
theorem Yo {α β:Type} (f:α->List β) (sz:Nat) (hf: ∀x,(f x).length=sz): ∀(l:List α) (k j:Nat) (hk:k<l.length),j<sz->(l.flatMap f)[k*sz+j]? =(f l[k])[j]? :=za1
theorem wW (r:dF):(qp r).length=(dP r).toNat:=by simp[qp]
theorem MK (r:dF) (c:Nat) (hc:c<(qp r).length):(qp r)[c]=r.1+(c:Int):=by simp[qp]
theorem x9 (r:dF) (rs:List dF):(dZ (r::rs)).length=(dP r).toNat*(dZ rs).length:=by
 rw[dZ,List.length_flatMap];simp only[kC,List.map_const',List.sum_replicate_nat];rw[wW]
theorem QC (r:dF) (rs:List dF) (c j:Nat) (hc:c<(dP r).toNat) (hj:j<(dZ rs).length):
 (dZ (r::rs))[c*(dZ rs).length+j]? =some ((r.1+(c:Int))::(dZ rs)[j]):=by
 rw[dZ,Yo _ (dZ rs).length (fun x=>ϕ) (qp r) c j (by rw[wW];exact hc) hj,MK];simp[hj]
theorem QB: ∀(rs:List dF), ∀x∈dZ rs,x.length=rs.length:=by
 intro rs;induction rs with
 |nil=>intro x hx;simp[dZ] at hx;subst hx;rfl
 |cons r rs ih=>
  intro x hx;simp only[dZ,nR,gU] at hx;obtain⟨y,_,z,hz,rfl⟩:=hx;simp[ih z hz]
def iN (R:List dF) (i k:Nat) (Κ:List Int):Prop:= ∀j s,(dZ (R.drop i))[j]? =some s->(dZ R)[k+j]? =some (Κ++s)
theorem iN.zero (R:List dF):iN R 0 0 []:=fun j s h=>by simpa using h
theorem iN.next {R:List dF} {i k:Nat} {Κ:List Int} (h:iN R i k Κ) (hi:i<R.length) (c:Nat) (hc:c<(dP R[i]).toNat):
 iN R (i+1) (k+c*(dZ (R.drop (i+1))).length) (Κ++[R[i].1+(c:Int)]):=by
 intro j s hs;obtain⟨hj,rfl⟩:=gY.1 hs;have:=h (c*(dZ (R.drop (i+1))).length+j) _ (by rw[rM hi];exact QC _ _ c j hc hj);rw[Nat.add_assoc,this];simp
theorem iN.count {R:List dF} {i:Nat} (hi:i<R.length):(dZ (R.drop i)).length=(dP R[i]).toNat*(dZ (R.drop (i+1))).length:=by
 rw[rM hi,x9]
theorem iN.last {R:List dF} {i k:Nat} {Κ:List Int} (h:iN R i k Κ) (hi:i=R.length):(dZ (R.drop i)).length=1/\ ∃hk:k<(dZ R).length,(dZ R)[k]=Κ:=by
 have e:R.drop i=[]:=List.drop_eq_nil_of_le ϑ;rw[e];have:=h 0 [] (by rw[e];rfl);simp only[Nat.add_zero,List.append_nil] at this;obtain⟨hk,hx⟩:=gY.1 this;exact⟨rfl,hk,hx⟩
def Qd (l:List Int):Int×List Int:=(l.headD 0,l.tail)
def MS (h:bN) (out:List Int) (t:Int×List Int) (i:Nat):Bool:=out.contains (i:Int) ||zy (h.readings.getD i (0,0,0)) (jS h t h.turns)
def Zf (h:bN) (out:List Int) (t:Int×List Int):Bool:=(List.range h.readings.length).all (MS h out t)
def oP (h:bN):List (List Int):=dZ (h.start::h.bM)
def dE (h:bN) (out:List Int):List (Int×List Int):=((oP h).filter fun l=>Zf h out (Qd l)).map Qd
def cnt (h:bN) (out:List Int) (k:Nat):Nat:=(((oP h).take k).filter fun l=>Zf h out (Qd l)).length
theorem Yz (h:bN) (out:List Int):cnt h out (oP h).length=(dE h out).length:=by
 unfold cnt dE;rw[List.take_length,kC]
theorem abu {h:bN} {out:List Int} {k:Nat} (hk:k<(oP h).length) (hp:Zf h out (Qd (oP h)[k])=false):cnt h out (k+1)=cnt h out k:=by
 unfold cnt;exact zbH
theorem Yy {h:bN} {out:List Int} {k:Nat} (hk:k<(oP h).length) (hp:Zf h out (Qd (oP h)[k])=true):cnt h out (k+1)=cnt h out k+1:=by
 unfold cnt;exact zbH
theorem zM {α β:Type} (p:α->Bool) (f:α->β): ∀(l:List α) (k:Nat) (hk:k<l.length),p l[k]=true->((l.filter p).map f)[((l.take k).filter p).length]? =some (f l[k]):=by
 intro l;induction l with
 |nil=>intro k hk;simp at hk
 |cons x l ih=>
  intro k hk hp;cases k with
  |zero=>
   have hp':p x=true:=hp;simp[hp']
  |succ k=>
   have:=ih k (by simpa using hk) hp;by_cases hx:p x=true
   ·simp only[List.filter_cons,hx,if_true,List.map_cons,List.take_succ_cons,List.length_cons,List.getElem?_cons_succ,List.getElem_cons_succ];exact this
   ·simp only[List.filter_cons,hx,if_false,List.take_succ_cons,List.getElem_cons_succ,Bool.false_eq_true];exact this
theorem Mi {h:bN} {out:List Int} {k:Nat} (hk:k<(oP h).length) (hp:Zf h out (Qd (oP h)[k])=true):
 ∃hc:cnt h out k<(dE h out).length,(dE h out)[cnt h out k]=Qd (oP h)[k]:=by
 have:=zM (fun l=>Zf h out (Qd l)) Qd (oP h) k hk hp;obtain⟨hc,hx⟩:=gY.1 this;exact⟨hc,hx⟩
theorem zF: ∀(rs:List dF) (x:List Int),x∈dZ rs->x.length=rs.length/\ ∀i,i<rs.length->(rs.getD i (0,0)).1<=x.getD i 0/\x.getD i 0<=(rs.getD i (0,0)).2:=by
 intro rs;induction rs with
 |nil=>intro x hx;simp[dZ] at hx;subst hx;exact⟨rfl,fun i hi=>by simp at hi⟩
 |cons r rs ih=>
  intro x hx;simp only[dZ,nR,gU] at hx;obtain⟨y,hy,z,hz,rfl⟩:=hx;obtain⟨h1,h2⟩:=ih z hz;refine⟨by simp[h1],fun i hi=>?_⟩;cases i with
  |zero=>
   obtain⟨c,hc,rfl⟩:=gU.1 hy;have:c<(dP r).toNat:=by simpa using hc
   unfold dP at this;simp;omega
  |succ i=>simpa using h2 i (by simpa using hi)
theorem Ci {h:bN} (hS:Sound h) {x:List Int} (hx:x∈oP h): ∃s rest,x=s::rest/\rest.length=h.bM.length/\(0<=s/\s<=500)/\ ∀y∈rest,0<=y/\y<=20:=by
 obtain⟨hl,hb⟩:=zF _ _ hx;cases x with
 |nil=>simp at hl
 |cons s rest=>
  have h0:=hb 0 ϕ;simp at h0;have:=hS.TN;have:=hS.TL;refine⟨s,rest,rfl,by simpa using hl,by omega,fun y hy=>?_⟩;obtain⟨i,hi,rfl⟩:=kD hy;have hi':i<h.bM.length:=by simp at hl;omega
  have h1:=hb (i+1) (by simpa using hi');simp only[List.getD_cons_succ] at h1;rw[show rest.getD i 0=rest[i] from by simp[hi],show h.bM.getD i (0,0)=h.bM[i] from by simp[hi']] at h1
  have:=hS.bM _ (bK hi');omega
def iP (below:Nat):Nat->Nat->List (List Int)
 |0,_=>[[]]
 |m+1,f=>(List.range (below-m-f)).flatMap fun j=>(iP below m (f+j+1)).map fun x=>((f+j:Nat):Int)::x
def lu (below:Nat) (p:List Int->Bool):Option (List Int):=((List.range (below+1)).flatMap fun m=>iP below m 0).find? p
theorem oN {α β:Type} (p:β->Bool) (f:α->List β): ∀(l:List α) (k:Nat) (hk:k<l.length) (c:β),(∀j (hj:j<k),(f (l[j]' ϑ)).find? p=none)->(f l[k]).find? p=some c->(l.flatMap f).find? p=some c:=by
 intro l;induction l with
 |nil=>intro k hk;simp at hk
 |cons x l ih=>
  intro k hk c h1 h2;rw[List.flatMap_cons,List.find?_append];cases k with
  |zero=>
   have h2':(f x).find? p=some c:=h2;rw[h2'];rfl
  |succ k=>
   have h0:(f x).find? p=none:=h1 0 ϑ;rw[h0];exact ih k (by simpa using hk) c (fun j hj=>h1 (j+1) ϑ) h2
theorem qF {α β:Type} (p:β->Bool) (f:α->List β) (l:List α) (h: ∀j (hj:j<l.length),(f l[j]).find? p=none):(l.flatMap f).find? p=none:=by
 rw[List.find?_eq_none];intro x hx;obtain⟨y,hy,hxy⟩:=nR.1 hx;obtain⟨j,hj,rfl⟩:=kD hy;have:=h j hj;rw[List.find?_eq_none] at this;exact this x hxy
def LZ (below:Nat):Nat->List Int->Prop
 |_,[]=>True
 |f,a::x=> ∃n:Nat,a=n/\f<=n/\n<below/\LZ below (n+1) x
theorem LZ.len {below:Nat}: ∀(x:List Int) (f:Nat),LZ below f x->x.length<=below-f:=by
 intro x;induction x with
 |nil=>intro f _;simp
 |cons a x ih=>
  rintro f ⟨n,_,h1,h2,h3⟩;have:=ih _ h3;simp only[List.length_cons];omega
theorem pW {below:Nat}: ∀(m f:Nat) (x:List Int),x∈iP below m f↔x.length=m/\LZ below f x:=by
 intro m;induction m with
 |zero=>
  intro f x;simp only[iP,dY];constructor
  ·rintro rfl;exact⟨rfl,trivial⟩
  ·rintro⟨h,_⟩;exact jh h
 |succ m ih=>
  intro f x;simp only[iP,nR,jL,gU];constructor
  ·rintro⟨j,hj,y,hy,rfl⟩;obtain⟨h1,h2⟩:=(ih _ _).1 hy;exact⟨by simp[h1],f+j,rfl,by omega,by omega,h2⟩
  ·rintro⟨hl,hi⟩;cases x with
   |nil=>simp at hl
   |cons a x=>
    obtain⟨n,rfl,h1,h2,h3⟩:=hi;have:=h3.len;simp only[List.length_cons] at hl;refine⟨n-f,by omega,x,(ih _ _).2 ⟨by omega,?_⟩,?_⟩
    ·rw[show f+(n-f)+1=n+1 by omega];exact h3
    ·rw[show f+(n-f)=n by omega]
def before:List Int->List Int->Bool
 |[],b=>!b.isEmpty
 |_::_,[]=>false
 |x::a,y::b=>if x=y then before a b else decide (x<y)
def lX (a b:List Int):Bool:=decide (a.length<b.length) ||(decide (a.length=b.length)&&before a b)
theorem before_irrefl: ∀a,before a a=false:=by
 intro a;induction a with
 |nil=>rfl
 |cons x a ih=>simp[before,ih]
theorem IP: ∀a b,before a b=true->before b a=false:=by
 intro a;induction a with
 |nil=>intro b h;cases b <;>simp[before] at h⊢
 |cons x a ih=>
  intro b h;cases b with
  |nil=>simp[before] at h
  |cons y b=>
   simp only[before] at h⊢;by_cases e:x=y
   ·subst e;simp only[if_true] at h⊢;exact ih _ h
   ·rw[aj e] at h;rw[aj (fun e'=>e e'.symm)];simp only[dR,decide_eq_false_iff_not] at h⊢;omega
theorem BJ (a:List Int):lX a a=false:=by simp[lX,before_irrefl]
theorem Eh {a b:List Int} (h:lX a b=true):lX b a=false:=by
 simp only[lX,Bool.or_eq_true,dL,dR,Bool.or_eq_false_iff,Bool.and_eq_false_iff,decide_eq_false_iff_not] at h⊢;rcases h with h|⟨h,hb⟩
 ·exact⟨by omega,.inl ϑ⟩
 ·exact⟨by omega,.inr (IP _ _ hb)⟩
theorem ND {α:Type} (R:α->α->Prop) (p:α->Bool): ∀(l:List α),l.Pairwise R-> ∀c,l.find? p=some c->p c=true/\c∈l/\ ∀x∈l,p x=true->x=c∨R c x:=by
 intro l;induction l with
 |nil=>intro _ c h;simp at h
 |cons y l ih=>
  intro hp c h;rw[List.pairwise_cons] at hp;rw[List.find?_cons] at h;cases hy:p y with
  |true=>
   rw[hy] at h;cases h;refine⟨hy,by simp,fun x hx _=>?_⟩;rcases eB.1 hx with rfl|hx
   ·exact .inl rfl
   ·exact .inr (hp.1 _ hx)
  |false=>
   rw[hy] at h;obtain⟨h1,h2,h3⟩:=ih hp.2 c h;refine⟨h1,by simp[h2],fun x hx hpx=>?_⟩;rcases eB.1 hx with rfl|hx
   ·rw[hy] at hpx;cases hpx
   ·exact h3 x hx hpx
theorem rG {α β:Type} (R:β->β->Prop) (f:α->List β): ∀(l:List α),(∀x∈l,(f x).Pairwise R)->l.Pairwise (fun x y=> ∀a∈f x, ∀b∈f y,R a b)->(l.flatMap f).Pairwise R:=by
 intro l;induction l with
 |nil=>intro _ _;simp
 |cons x l ih=>
  intro h1 h2;rw[List.pairwise_cons] at h2;rw[List.flatMap_cons,List.pairwise_append];refine⟨h1 x ϕ,ih (fun y hy=>h1 y (by simp[hy])) h2.2,fun a ha b hb=>?_⟩;obtain⟨y,hy,hby⟩:=nR.1 hb;exact h2.1 y hy a ha b hby
theorem IE (below:Nat): ∀(m f:Nat),(iP below m f).Pairwise fun a b=>before a b=true:=by
 intro m;induction m with
 |zero=>intro f;simp[iP]
 |succ m ih=>
  intro f;unfold iP;refine rG _ _ _ (fun j _=>?_) ?_
  ·rw[List.pairwise_map];exact(ih (f+j+1)).imp fun h=>by simpa [before] using h
  ·refine List.pairwise_lt_range.imp fun {i j} hij=>?_;intro a ha b hb;obtain⟨x,_,rfl⟩:=gU.1 ha;obtain⟨y,_,rfl⟩:=gU.1 hb;simp only[before];rw[aj ϑ];simp;omega
theorem A8 (below:Nat):((List.range (below+1)).flatMap fun m=>iP below m 0).Pairwise fun a b=>lX a b=true:=by
 refine rG _ _ _ (fun m _=>?_) ?_
 ·refine List.Pairwise.imp_of_mem ?_ (IE below m 0);intro a b ha hb h;simp[lX,((pW _ _ _).1 ha).1,((pW _ _ _).1 hb).1,h]
 ·refine List.pairwise_lt_range.imp fun {i j} hij=>?_;intro a ha b hb;simp[lX,((pW _ _ _).1 ha).1,((pW _ _ _).1 hb).1,hij]
theorem tq (below:Nat) (x:List Int):x∈((List.range (below+1)).flatMap fun m=>iP below m 0)↔LZ below 0 x:=by
 rw[nR];constructor
 ·rintro⟨m,_,h⟩;exact((pW _ _ _).1 h).2
 ·intro h;have:=h.len;exact⟨x.length,by simp;omega,(pW _ _ _).2 ⟨rfl,h⟩⟩
theorem Jv {below:Nat} {p:List Int->Bool} {c:List Int} (h:lu below p=some c):p c=true/\LZ below 0 c/\ ∀x,LZ below 0 x->p x=true->lX x c=false:=by
 obtain⟨h1,h2,h3⟩:=ND _ p _ (A8 below) c h;refine⟨h1,(tq _ _).1 h2,fun x hx hp=>?_⟩;rcases h3 x ((tq _ _).2 hx) hp with rfl|hr
 ·exact BJ _
 ·exact Eh hr
theorem Jw {below:Nat} {p:List Int->Bool} (h:lu below p=none): ∀x,LZ below 0 x->p x=false:=by
 intro x hx;unfold lu at h;rw[List.find?_eq_none] at h;simpa using h x ((tq _ _).2 hx)
def jW (acc:List (List Int)) (x:List Int):List (List Int):=if acc.getLast? =some x then acc else acc++[x]
def iJ (h:bN) (turns:List Int):List (List Int):=(dE h []).foldl (fun acc t=>jW acc (jS h t turns)) []
def iA (h:bN) (turns:List Int) (k:Nat):List (List Int):=((dE h []).take k).foldl (fun acc t=>jW acc (jS h t turns)) []
theorem yE {h:bN} {turns:List Int} {k:Nat} (hk:k<(dE h []).length):iA h turns (k+1)=jW (iA h turns k) (jS h (dE h [])[k] turns):=by
 unfold iA;rw[eT hk,List.foldl_append];rfl
theorem vG (h:bN) (turns:List Int):iA h turns (dE h []).length=iJ h turns:=by unfold iA;rw[List.take_length];rfl
theorem QR (acc:List (List Int)) (x y:List Int):y∈jW acc x↔y∈acc∨y=x:=by
 unfold jW;split
 ·rename_i h;constructor
  ·exact .inl
  ·rintro(h1|rfl)
   ·exact h1
   ·exact List.mem_of_getLast? h
 ·simp
theorem yj {α:Type} (f:α->List Int): ∀(l:List α) (acc:List (List Int)) (y:List Int),y∈l.foldl (fun acc t=>jW acc (f t)) acc↔y∈acc∨ ∃t∈l,y=f t:=by
 intro l;induction l with
 |nil=>intro acc y;simp
 |cons a l ih=>
  intro acc y;rw[List.foldl_cons,ih,QR];simp only[eB,exists_eq_or_imp,or_assoc]
theorem Cc (h:bN) (turns:List Int) (y:List Int):y∈iJ h turns↔ ∃t∈dE h [],y=jS h t turns:=by
 unfold iJ;rw[yj];simp
theorem J2 {h:bN} {turns:List Int} {k:Nat} {y:List Int} (hy:y∈iA h turns k): ∃t∈dE h [],y=jS h t turns:=by
 unfold iA at hy;rw[yj] at hy;simp only[List.not_mem_nil,false_or] at hy;obtain⟨t,ht,rfl⟩:=hy;exact⟨t,ny ht,rfl⟩
theorem AA {h:bN} {turns:List Int} {k:Nat}: ∀y∈iA h turns k,y.length=10:=by
 intro y hy;obtain⟨t,_,rfl⟩:=J2 hy;exact jH _ _ _ _ _ _
theorem CW {h:bN} {turns:List Int}: ∀y∈iJ h turns,y.length=10:=by
 rw[<-vG];exact AA
theorem Fq (acc:List (List Int)) (x:List Int):(jW acc x).length<=acc.length+1:=by
 unfold jW;split <;>simp
theorem AB (h:bN) (turns:List Int): ∀k,(iA h turns k).length<=k:=by
 intro k;induction k with
 |zero=>simp[iA]
 |succ k ih=>
  by_cases hk:k<(dE h []).length
  ·rw[yE hk];have:=Fq (iA h turns k) (jS h (dE h [])[k] turns);omega
  ·have e:iA h turns (k+1)=iA h turns k:=by
    unfold iA;rw[iT ϑ,iT ϑ]
   rw[e];omega
theorem NH (h:bN) (turns:List Int):(iJ h turns).length<=(dE h []).length:=by
 rw[<-vG];exact AB _ _ _
theorem NG {h:bN} {turns:List Int} (hn:dE h []≠[]):iJ h turns≠[]:=by
 intro he;obtain⟨t,ht⟩:=List.exists_mem_of_ne_nil _ hn;have:=(Cc h turns (jS h t turns)).2 ⟨t,ht,rfl⟩;rw[he] at this;cases this
theorem uX (rs:List dF) (hr: ∀r∈rs,1<=dP r):((dZ rs).length:Int)=qO rs:=by
 induction rs with
 |nil=>rfl
 |cons r rs ih=>
  rw[x9];have h1:=hr r ϕ;have ih':=ih (fun x hx=>hr x (by simp[hx]));show(((dP r).toNat*(dZ rs).length:Nat):Int)=dP r*qO rs;rw[Int.natCast_mul,ih',Int.toNat_of_nonneg ϑ]
theorem uP {h:bN} (hS:Sound h) (out:List Int):(dE h out).length<=2000:=by
 have h1:(dE h out).length<=(oP h).length:=by unfold dE;rw[kC];exact List.length_filter_le _ _
 have h2:=uX (h.start::h.bM) (fun r hr=>by
  rcases eB.1 hr with rfl|hr
  ·have:=hS.TM;unfold dP;omega
  ·have:=hS.bM r hr;unfold dP;omega)
 have h3:=hS.many;unfold oP at h1;omega
def wid (r:dF) (x:Int):dF:=(min r.1 x,max r.2 x)
def dV (n k:Nat) (R:List dF) (l:List Int) (i:Nat):List dF:=
 if k=0 then(List.range i).map fun j=>(l.getD j 0,l.getD j 0) else(List.range n).map fun j=>if j<i then wid (R.getD j (0,0)) (l.getD j 0) else R.getD j (0,0)
def bz (n:Nat) (ls:List (List Int)):Nat->List dF
 |0=>[]
 |k+1=>dV n k (bz n ls k) (ls.getD k []) n
def pQ (n:Nat) (ls:List (List Int)):List dF:=bz n ls ls.length
theorem qw (n:Nat) (R:List dF) (l:List Int) (i:Nat):(dV n 0 R l i).length=i:=by simp[dV]
theorem sj (n k:Nat) (R:List dF) (l:List Int) (i:Nat) (hk:k≠0):(dV n k R l i).length=n:=by simp[dV,hk]
theorem ni (n:Nat) (ls:List (List Int)) (k:Nat) (hk:k≠0):(bz n ls k).length=n:=by
 cases k with
 |zero=>exact absurd rfl hk
 |succ k=>
  unfold bz;by_cases h:k=0
  ·subst h;exact qw _ _ _ _
  ·exact sj _ _ _ _ _ h
theorem MM {n k:Nat} {R:List dF} {l:List Int} (hR:k≠0->R.length=n) (h0:k=0->R=[]):dV n k R l 0=R:=by
 unfold dV;split
 ·rename_i h;rw[h0 h];rfl
 ·rename_i h;apply List.ext_getElem
  ·simp[hR h]
  ·intro i h1 h2;simp[List.getD,h2]
theorem QI {n:Nat} {R:List dF} {l:List Int} {i:Nat}:dV n 0 R l i++[(l.getD i 0,l.getD i 0)]=dV n 0 R l (i+1):=by
 simp[dV,List.range_succ]
theorem MN {n:Nat} {R:List dF} {l:List Int} {i:Nat}:(dV n 0 R l (i+1)).set i (wid ((dV n 0 R l (i+1)).getD i (0,0)) (l.getD i 0))=dV n 0 R l (i+1):=by
 apply List.ext_getElem
 ·simp
 ·intro j h1 h2;rw[List.getElem_set];split
  ·rename_i h;subst h;simp[dV,wid,List.getD]
  ·rfl
theorem QH {j k:Nat} {R:List dF} {l:List Int} {n:Nat} (hk:k≠0) (hi:n<j):(dV j k R l n).set n (wid ((dV j k R l n).getD n (0,0)) (l.getD n 0))=dV j k R l (n+1):=by
 apply List.ext_getElem
 ·simp[dV,hk]
 ·intro i h1 h2;have hj:i<j:=by simpa [dV,hk] using h2
  rw[List.getElem_set];split
  ·rename_i h3;subst h3;simp[dV,hk,hi]
  ·rename_i h3;simp only[dV,hk,if_false,List.getElem_map,List.getElem_range];exact zbZ
def upto (n:Nat):List Int:=(List.range n).map fun(i:Nat)=>(i:Int)
theorem Re: ∀(n f below:Nat),f+n<=below->LZ below f ((List.range' f n).map fun(i:Nat)=>(i:Int)):=by
 intro n;induction n with
 |zero=>intro f below _;trivial
 |succ n ih=>
  intro f below h;rw[List.range'_succ,List.map_cons];exact⟨f,rfl,ah _,by omega,ih (f+1) below ϑ⟩
end ig
end
section
namespace ig
theorem M0 {r:dF} {x:Int}:x∈qp r↔r.1<=x/\x<=r.2:=by
 unfold qp dP;rw[gU];constructor
 ·rintro⟨k,hk,rfl⟩;have:=jL.1 hk;omega
 ·rintro⟨h1,h2⟩;exact⟨(x-r.1).toNat,jL.2 ϑ,by omega⟩
end ig
namespace ig
theorem Ie {below:Nat}: ∀(l:List Int) (f:Nat),LZ below f l↔l.Pairwise (· < ·)/\ ∀x∈l,(f:Int)<=x/\x<below:=by
 intro l;induction l with
 |nil=>intro f;simp[LZ]
 |cons x l ih=>
  intro f;unfold LZ;rw[List.pairwise_cons];constructor
  ·rintro⟨n,rfl,h1,h2,h3⟩;obtain⟨h4,h5⟩:=(ih _).1 h3;refine⟨⟨fun y hy=>by have:=h5 y hy;omega,h4⟩,fun y hy=>?_⟩;rcases eB.1 hy with rfl|hy
   ·omega
   ·have:=h5 y hy;omega
  ·rintro⟨⟨h1,h2⟩,h3⟩;have hx:=h3 x ϕ;refine⟨x.toNat,by omega,by omega,by omega,(ih _).2 ⟨h2,fun y hy=>⟨?_,(h3 y (by simp[hy])).2⟩⟩⟩;have:=h1 y hy;omega
end ig
namespace ig
end ig
end
section
namespace Go.Proofs.Z
open ig
abbrev IY:=Int×Int×Int×dF
structure bG where
 rows:Int
 aJ:Int
 left:dF
 ax:List IY
def mX (f:bG) (t:IY):Bool:=lT t.1 0 (f.aJ-1)&&lT t.2.1 0 (f.rows-1)&&lT t.2.2.1 0 (f.rows-1)&&decide (t.2.1<=t.2.2.1)&&sQ t.2.2.2 f.rows
def ja (f:bG):Int:=
 if 7<f.rows∨3<f.aJ∨5<f.ax.length then 3
 else if f.rows<1∨f.aJ<1∨sQ f.left f.rows=false∨f.ax.all (mX f)=false then 1
 else if 2500<(f.aJ+1)^f.rows.toNat then 3 else 0
structure oV (f:bG):Prop where
 wV:1<=f.rows
 og:f.rows<=7
 wU:1<=f.aJ
 uj:f.aJ<=3
 A7:f.ax.length<=5
 left:0<=f.left.1/\f.left.1<=f.left.2/\f.left.2<=f.rows
 uH: ∀t∈f.ax,(0<=t.1/\t.1<f.aJ)/\(0<=t.2.1/\t.2.1<=t.2.2.1/\t.2.2.1<f.rows)/\(0<=t.2.2.2.1/\t.2.2.2.1<=t.2.2.2.2/\t.2.2.2.2<=f.rows)
 many:(f.aJ+1)^f.rows.toNat<=2500
theorem gy {f:bG} (hf:ja f=0):oV f:=by
 unfold ja at hf;split at hf
 ·omega
 ·rename_i h1;split at hf
  ·omega
  ·rename_i h2;split at hf
   ·omega
   ·rename_i h3;simp only[not_or] at h1 h2;obtain⟨a1,a2,a3⟩:=h1;obtain⟨b1,b2,b3,b4⟩:=h2;have b3':sQ f.left f.rows=true:=by simpa using b3
    have b4':f.ax.all (mX f)=true:=by simpa using b4
    rw[iR] at b4';simp only[sQ,dL,dR] at b3';refine⟨by omega,by omega,by omega,by omega,by omega,⟨by omega,by omega,by omega⟩,fun t ht=>?_,by omega⟩;have:=b4' t ht;simp only[mX,lT,sQ,dL,dR] at this;omega
def wR (l:List Int) (who:Int) (a n:Nat):Int:=((List.range' a n).countP fun i=>l.getD i 0==who:Nat)
def C8 (l:List Int) (who lo hi:Int):Int:=wR l who lo.toNat (hi+1-lo).toNat
def xm (l:List Int) (t:IY):Bool:=lT (C8 l t.1 t.2.1 t.2.2.1) t.2.2.2.1 t.2.2.2.2
def ik (f:bG) (out:List Int) (l:List Int):Bool:=
 ((List.range f.ax.length).all fun i=>out.contains (i:Int) ||xm l (f.ax.getD i (0,0,0,(0,0))))&&lT (C8 l (-1) 0 (f.rows-1)) f.left.1 f.left.2
def dX (f:bG):List dF:=List.replicate f.rows.toNat (-1,f.aJ-1)
def nP (f:bG):List (List Int):=dZ (dX f)
def bH (f:bG) (out:List Int):List (List Int):=(nP f).filter (ik f out)
theorem MJ {f:bG} (hS:oV f): ∀r∈dX f,1<=dP r:=fun r hr=>by
 obtain rfl:=List.eq_of_mem_replicate hr;have:=hS.wU;unfold dP;simp only;omega
theorem Qz: ∀(rs:List dF) (x:List Int),x.length=rs.length->(∀i,i<rs.length->(rs.getD i (0,0)).1<=x.getD i 0/\x.getD i 0<=(rs.getD i (0,0)).2)->x∈dZ rs:=by
 intro rs;induction rs with
 |nil=>intro x hx _;obtain rfl:=jh hx;simp[dZ]
 |cons r rs ih=>
  intro x hx hb;cases x with
  |nil=>simp at hx
  |cons a x=>
   have h0:=hb 0 ϕ;simp only[dZ,nR,gU];exact⟨a,M0.2 (by simpa using h0),x,ih x (by simpa using hx) (fun i hi=>by simpa using hb (i+1) (by simpa using hi)),rfl⟩
theorem Ce {f:bG} {l:List Int}:l∈nP f↔l.length=f.rows.toNat/\ ∀i,i<f.rows.toNat-> -1<=l.getD i 0/\l.getD i 0<=f.aJ-1:=by
 have hg: ∀i,i<f.rows.toNat->(dX f).getD i (0,0)=(-1,f.aJ-1):=fun i hi=>by
  unfold dX;rw[fJ,List.getElem?_replicate,aB hi];rfl
 have hl:(dX f).length=f.rows.toNat:=by unfold dX;simp
 unfold nP;constructor
 ·intro hm;obtain⟨h1,h2⟩:=zF _ _ hm;rw[hl] at h1 h2;refine⟨h1,fun i hi=>?_⟩;have:=h2 i hi;rw[hg i hi] at this;exact this
 ·rintro⟨h1,h2⟩;refine Qz _ _ (by rw[hl];exact h1) fun i hi=>?_;rw[hl] at hi;rw[hg i hi];exact h2 i hi
theorem Hf (f:bG):qO (dX f)=(f.aJ+1)^f.rows.toNat:=by
 unfold dX;induction f.rows.toNat with
 |zero=>simp[qO]
 |succ k ih=>
  rw[List.replicate_succ];show dP (-1,f.aJ-1)*qO (List.replicate k (-1,f.aJ-1))=_;rw[ih,Int.pow_succ,Int.mul_comm];congr 1;unfold dP;simp only;omega
end Go.Proofs.Z
namespace Go.Proofs.Z
open ig
def Mw (rows:List Int) (a b:List Int):Bool:=rows.all fun r=>a.getD r.toNat 0==b.getD r.toNat 0
def kI (f:bG) (a:List Int) (who:Int):Int:=C8 a who 0 (f.rows-1)
def Jy (f:bG) (w:Int) (rows:List Int):Bool:=(bH f []).all fun a=>(bH f []).all fun b=>!Mw rows a b ||kI f a w==kI f b w
theorem Xq {f:bG} {w:Int} {rows:List Int}:Jy f w rows=true↔ ∀a∈bH f [], ∀b∈bH f [],Mw rows a b=true->kI f a w=kI f b w:=by
 unfold Jy;simp only[iR,Bool.or_eq_true,Bool.not_eq_true',beq_iff_eq];constructor
 ·intro h a ha b hb hs;rcases h a ha b hb with h1|h1
  ·rw[hs] at h1;cases h1
  ·exact h1
 ·intro h a ha b hb;cases hs:Mw rows a b
  ·exact .inl rfl
  ·exact .inr (h a ha b hb hs)
theorem Aa {f:bG} {out a:List Int} (h:a∈bH f out):a∈nP f/\ik f out a=true:=List.mem_filter.1 h
theorem mr {f:bG} {out a:List Int} (h:a∈bH f out):a.length=f.rows.toNat:=(Ce.1 (Aa h).1).1
theorem UG (n:Nat):LZ n 0 (upto n):=by
 have:=Re n 0 n ϑ;unfold upto;rw[<-List.range_eq_range'] at this;exact this
theorem yl {a b:List Int} (h:lX a b=false):b.length<=a.length:=by
 unfold lX at h;simp only[Bool.or_eq_false_iff,decide_eq_false_iff_not] at h;omega
end Go.Proofs.Z
namespace Go.Proofs.Z
open ig
structure aN where
 field:bG
 rate:Int
 box:dF
 notes:List (Int×dF)
def qI (r x:dF):dF:=(max r.1 x.1,min r.2 x.2)
def mY (l:aN) (out:List Int) (i:Nat) (due:Int):dF:=
 ((List.range l.notes.length).filter fun(k:Nat)=>!out.contains (k:Int)&&(l.notes.getD k (0,(0,0))).1==(i:Int)).foldl (fun r k=>qI r (l.notes.getD k (0,(0,0))).2) (0,due)
def wL (l:List Int):Int:=l.foldr (· + ·) 0
theorem rW (x:Int) (l:List Int):wL (x::l)=x+wL l:=rfl
def nk (l:aN) (out:List Int) (zQ:List Int):List dF:=(List.range l.field.aJ.toNat).map fun i=>mY l out i (zQ.getD i 0)
def En (l:aN) (out zQ:List Int):Int:=wL ((nk l out zQ).map (·.1))
def wX (l:aN) (out zQ:List Int):Int:=wL ((nk l out zQ).map (·.2))
def iH (l:aN) (out zQ:List Int):Bool:=(nk l out zQ).all (fun r=>decide (r.1<=r.2))&&decide (En l out zQ<=l.box.2)&&decide (l.box.1<=wX l out zQ)
def jy (l:aN) (out zQ:List Int):List dF:=
 (nk l out zQ).map fun r=>qI r (l.box.1-(wX l out zQ-r.2),l.box.2-(En l out zQ-r.1))
end Go.Proofs.Z
namespace Go.Proofs.Z
open ig
def j4 (rate:Int) (rows:List Int):List Int:=(List.range 3).map fun(i:Nat)=>rate*(rows.count (i:Int):Int)
theorem jJ (rate:Int) (rows:List Int):(j4 rate rows).length=3:=by simp[j4]
theorem qa (rate:Int) (rows:List Int) {i:Nat} (hi:i<3):(j4 rate rows).getD i 0=rate*(rows.count (i:Int):Int):=by
 unfold j4;rw[fJ,nS,List.getElem?_range hi];rfl
theorem aeY {a b:List Int} (ha:a.length=3) (hb:b.length=3) (h: ∀i,i<3->a.getD i 0=b.getD i 0):a=b:=by
 refine List.ext_getElem ϑ fun i h1 h2=>?_;have:=h i ϑ;simpa [List.getD,h1,h2] using this
theorem RH (rate:Int):j4 rate []=[0,0,0]:=by simp[j4,List.range_succ]
theorem NJ (rate:Int) (rs:List Int) (n:Nat) (hn:n<3):(j4 rate rs).set n ((j4 rate rs).getD n 0+rate)=j4 rate (rs++[(n:Int)]):=by
 refine aeY (by simp[jJ]) (jJ _ _) fun i hi=>?_;rw[qa _ _ hi,List.count_append];by_cases e:n=i
 ·subst e;rw[List.getD_eq_getElem?_getD,List.getElem?_set_self (by rw[jJ];omega),Option.getD_some,qa _ _ hn];simp[Int.mul_add]
 ·rw[List.getD_eq_getElem?_getD,List.getElem?_set_ne e, <-List.getD_eq_getElem?_getD,qa _ _ hi];have:List.count (i:Int) [(n:Int)]=0:=by
   rw[List.count_eq_zero];simp;omega
  rw[this,Nat.add_zero]
theorem NK (rate:Int) (rs:List Int) (x:Int) (hx:x<0):j4 rate (rs++[x])=j4 rate rs:=by
 refine aeY (jJ _ _) (jJ _ _) fun i hi=>?_;rw[qa _ _ hi,qa _ _ hi,List.count_append];have:List.count (i:Int) [x]=0:=by
  rw[List.count_eq_zero];simp;omega
 rw[this,Nat.add_zero]
theorem CX {rate:Int} (h0:0<=rate) (h1:rate<=50) (rs:List Int) (hl:rs.length<=7) (i:Nat) (hi:i<3):0<=(j4 rate rs).getD i 0/\(j4 rate rs).getD i 0<=350:=by
 rw[qa _ _ hi];have hc:(List.count (i:Int) rs:Int)<=7:=by
  have:=List.count_le_length (a:=(i:Int)) (l:=rs);omega
 have hc0:(0:Int)<=(List.count (i:Int) rs:Int):=ϑ;refine⟨Int.mul_nonneg h0 hc0,?_⟩;calc rate*(List.count (i:Int) rs:Int)<=50*7:=Int.mul_le_mul h1 hc hc0 ϑ
  _=350:=rfl
end Go.Proofs.Z
namespace Go.Proofs.Z
open ig
def jT (l:aN) (out:List Int) (k:Nat):List (Int×dF):=((List.range k).filter fun(i:Nat)=>!out.contains (i:Int)).map fun i=>l.notes.getD i (0,(0,0))
def Al (l:aN) (out:List Int):List (Int×dF):=jT l out l.notes.length
theorem Na {l:aN} {out:List Int} {k:Nat} (h:out.contains (k:Int)=false):jT l out (k+1)=jT l out k++[l.notes.getD k (0,(0,0))]:=by
 unfold jT;rw[List.range_succ,List.filter_append,List.map_append];congr 1;rw[List.filter_cons_of_pos (by rw[h];rfl)];rfl
theorem Q3 {l:aN} {out:List Int} {k:Nat} (h:out.contains (k:Int)=true):jT l out (k+1)=jT l out k:=by
 unfold jT;rw[List.range_succ,List.filter_append,List.map_append,List.filter_cons_of_neg (by rw[h];simp)];simp
theorem Ck (l:aN) (out:List Int) (k:Nat):(jT l out k).length<=k:=by
 unfold jT;rw[kC];have:=List.length_filter_le (fun(i:Nat)=>!out.contains (i:Int)) (List.range k);simpa using this
def uA (ns:List (Int×dF)) (key:Int×Int) (k:Nat):dF:=(ns.take k).foldl (fun r n=>if n.1=key.1 then qI r n.2 else r) (0,key.2)
def kn (ns:List (Int×dF)) (key:Int×Int):dF:=uA ns key ns.length
theorem F9 {ns:List (Int×dF)} {key:Int×Int} {k:Nat} (hk:k<ns.length):uA ns key (k+1)=if ns[k].1=key.1 then qI (uA ns key k) ns[k].2 else uA ns key k:=by
 unfold uA;rw[eT hk,List.foldl_append];rfl
theorem Kg (l:aN) (out:List Int) (i:Nat) (due:Int):kn (Al l out) ((i:Int),due)=mY l out i due:=by
 unfold kn uA mY Al jT;rw[List.take_length,List.foldl_map];generalize List.range l.notes.length=ks;have: ∀(ks:List Nat) (r:dF),(ks.filter fun(k:Nat)=>!out.contains (k:Int)).foldl (fun r k=>if(l.notes.getD k (0,(0,0))).1=(i:Int) then qI r (l.notes.getD k (0,(0,0))).2 else r) r=
  (ks.filter fun(k:Nat)=>!out.contains (k:Int)&&(l.notes.getD k (0,(0,0))).1==(i:Int)).foldl (fun r k=>qI r (l.notes.getD k (0,(0,0))).2) r:=by
  intro ks;induction ks with
  |nil=>intro r;rfl
  |cons k ks ih=>
   intro r;cases hc:out.contains (k:Int)
   ·by_cases hn:(l.notes.getD k (0,(0,0))).1=(i:Int)
    ·simp only[List.filter_cons,hc,hn,Bool.not_false,if_true,beq_self_eq_true,Bool.and_self,List.foldl_cons];exact ih _
    ·have hnb:((l.notes.getD k (0,(0,0))).1==(i:Int))=false:=by simpa using hn
     simp only[List.filter_cons,hc,hnb,hn,Bool.not_false,if_true,if_false,Bool.and_false,Bool.false_eq_true,List.foldl_cons];exact ih _
   ·simp only[List.filter_cons,hc,Bool.not_true,Bool.false_and,Bool.false_eq_true,if_false];exact ih _
 exact this ks (0,due)
theorem Qf (xs:List Int) (x:Int):wL (xs++[x])=wL xs+x:=by
 induction xs with
 |nil=>simp[wL]
 |cons y xs ih=>rw[List.cons_append,rW,rW,ih];omega
def jP (f:dF->Int) (rs:List dF) (k:Nat):Int:=wL ((rs.take k).map f)
theorem qi (f:dF->Int) {rs:List dF} {k:Nat} (hk:k<rs.length):jP f rs (k+1)=jP f rs k+f rs[k]:=by
 unfold jP;rw[eT hk,List.map_append,List.map_singleton,Qf]
theorem uQ (f:dF->Int) (rs:List dF) (h: ∀r∈rs,0<=f r/\f r<=2000): ∀k,k<=rs.length->0<=jP f rs k/\jP f rs k<=2000*k:=by
 intro k;induction k with
 |zero=>intro _;simp[jP,wL]
 |succ k ih=>
  intro hk;have:=ih ϑ;have:=h rs[k] (bK _);rw[qi f ϑ];omega
theorem vX (f:dF->Int) (rs:List dF):jP f rs rs.length=wL (rs.map f):=by unfold jP;rw[List.take_length]
theorem XG {ns:List (Int×dF)} (hn: ∀x∈ns,0<=x.2.1/\x.2.1<=2000/\0<=x.2.2/\x.2.2<=2000) {key:Int×Int} (h0:0<=key.2) (_h1:key.2<=2000): ∀k,k<=ns.length->0<=(uA ns key k).1/\(uA ns key k).1<=2000/\0<=(uA ns key k).2/\(uA ns key k).2<=key.2:=by
 intro k;induction k with
 |zero=>intro _;simp[uA];omega
 |succ k ih=>
  intro hk;have h:=ih ϑ;have hx:=hn ns[k] (bK _);rw[F9 ϑ];split
  ·unfold qI;simp only;omega
  ·exact h
theorem Q4 {l:aN} {out:List Int} {x:Int×dF} (h:x∈Al l out):x∈l.notes:=by
 unfold Al jT at h;obtain⟨i,hi,rfl⟩:=gU.1 h;have:=jL.1 (List.mem_filter.1 hi).1;rw[show l.notes.getD i (0,(0,0))=l.notes[i] from by simp[List.getD,this]]
 exact bK _
structure nz (l:aN):Prop where
 field:ja l.field=0
 some:bH l.field []≠[]
 rate:1<=l.rate/\l.rate<=50
 box:0<=l.box.1/\l.box.1<=l.box.2/\l.box.2<=2000
 many:l.notes.length<=5
 notes: ∀x∈l.notes,(0<=x.1/\x.1<l.field.aJ)/\(0<=x.2.1/\x.2.1<=x.2.2/\x.2.2<=2000)
theorem Ke {l:aN} (hS:nz l) (out:List Int) (i:Nat) {due:Int} (h0:0<=due) (h1:due<=2000):0<=(mY l out i due).1/\(mY l out i due).1<=2000/\0<=(mY l out i due).2/\(mY l out i due).2<=due:=by
 rw[<-Kg];exact XG (fun x hx=>by have:=hS.notes x (Q4 hx);omega) h0 h1 _ (ah _)
theorem wI (l:aN) (out d:List Int):(nk l out d).length=l.field.aJ.toNat:=by simp[nk]
theorem zW (l:aN) (out d:List Int) {i:Nat} (hi:i<l.field.aJ.toNat):(nk l out d).getD i (0,0)=mY l out i (d.getD i 0):=by
 unfold nk;rw[fJ,nS,List.getElem?_range hi];rfl
end Go.Proofs.Z
namespace Go.Proofs.Z
open ig
def uN (r x:dF):dF:=(min r.1 x.1,max r.2 x.2)
def mE (due:Int) (r:dF):dF:=(due-r.2,due-r.1)
def pz (p:Int->dF->dF) (l:aN) (d:List Int):List dF:=(List.range l.field.aJ.toNat).map fun i=>p (d.getD i 0) ((jy l [] d).getD i (0,0))
def jk (acc kP:List dF) (i:Nat):List dF:=if acc=[] then kP.take i else(List.zipWith uN acc kP).take i++acc.drop i
def EU (acc kP:List dF):List dF:=if acc=[] then kP else List.zipWith uN acc kP
def rC (p:Int->dF->dF) (l:aN) (acc:List dF) (d:List Int):List dF:=if iH l [] d=true then EU acc (pz p l d) else acc
def j5 (p:Int->dF->dF) (l:aN) (k:Nat) (ds:List (List Int)):List dF:=(ds.take k).foldl (rC p l) []
def yP (p:Int->dF->dF) (l:aN) (ds:List (List Int)):List dF:=j5 p l ds.length ds
theorem FP (l:aN) (out d:List Int):(jy l out d).length=l.field.aJ.toNat:=by simp[jy,wI]
theorem mI (p:Int->dF->dF) (l:aN) (d:List Int):(pz p l d).length=l.field.aJ.toNat:=by simp[pz]
theorem F3 (p:Int->dF->dF) (l:aN) (d:List Int) {i:Nat} (hi:i<(pz p l d).length):(pz p l d)[i]=p (d.getD i 0) ((jy l [] d).getD i (0,0)):=by
 simp[pz]
theorem xL (p:Int->dF->dF) (l:aN) {k:Nat} {ds:List (List Int)} (hk:k<ds.length):j5 p l (k+1) ds=rC p l (j5 p l k ds) ds[k]:=by
 unfold j5;rw[eT hk,List.foldl_append];rfl
theorem We {acc kP:List dF} (h:acc=[]∨acc.length=kP.length):(EU acc kP).length=kP.length:=by
 unfold EU;split
 ·rfl
 ·rcases h with h|h
  ·contradiction
  ·simp[h]
theorem Gu (p:Int->dF->dF) (l:aN) (ds:List (List Int)): ∀k,k<=ds.length->j5 p l k ds=[]∨(j5 p l k ds).length=l.field.aJ.toNat:=by
 intro k;induction k with
 |zero=>intro _;exact .inl rfl
 |succ k ih=>
  intro hk;rw[xL p l ϑ];have h:=ih ϑ;unfold rC;split
  ·right;rw[We (by rw[mI];exact h),mI]
  ·exact h
theorem tZ (acc kP:List dF):jk acc kP 0=acc:=by
 unfold jk;split
 ·rename_i h;rw[h];rfl
 ·simp
theorem Sm {acc kP:List dF} (h:acc=[]∨acc.length=kP.length):jk acc kP kP.length=EU acc kP:=by
 unfold jk EU;split
 ·simp
 ·rcases h with h|h
  ·contradiction
  ·rw[iT ϗ,List.drop_of_length_le ϑ,List.append_nil]
theorem Sl {acc kP:List dF} {i:Nat} (h:acc=[]∨acc.length=kP.length) (hi:i<=kP.length):(jk acc kP i).length=if acc=[] then i else kP.length:=by
 unfold jk;by_cases e:acc=[]
 ·rw[aB e,aB e];simp;omega
 ·rw[aj e,aj e];rcases h with h|h
  ·contradiction
  ·simp;omega
theorem Sk {kP:List dF} {i:Nat} (hi:i<kP.length):jk [] kP (i+1)=jk [] kP i++[kP[i]]:=by
 unfold jk;rw[aB rfl,aB rfl,eT hi]
theorem Sj {acc kP:List dF} {i:Nat} (ha:acc≠[]) (h:acc.length=kP.length) (hi:i<kP.length):
 (jk acc kP i)[i]? =acc[i]?/\jk acc kP (i+1)=(jk acc kP i).set i (uN (acc.getD i (0,0)) kP[i]):=by
 unfold jk;rw[aj ha,aj ha];have hz:((List.zipWith uN acc kP).take i).length=i:=by simp;omega
 refine⟨?_,?_⟩
 ·rw[lI ϑ,hz,List.getElem?_drop,Nat.sub_self,Nat.add_zero]
 ·rw[nT _ _ ϑ,hz,Nat.sub_self,rM (by omega:i<acc.length),List.set_cons_zero,
   eT ϗ,jg,List.singleton_append]
  simp[List.getD,h,hi]
structure qM (S:dF->Prop) (r:dF):Prop where
 low:(∃x,S x/\x.1=r.1)/\ ∀x,S x->r.1<=x.1
 high:(∃x,S x/\x.2=r.2)/\ ∀x,S x->x.2<=r.2
theorem qM.one (x:dF):qM (fun y=>y=x) x:=⟨⟨⟨x,rfl,rfl⟩,fun y h=>by rw[h];exact Int.le_refl _⟩,⟨x,rfl,rfl⟩,fun y h=>by rw[h];exact Int.le_refl _⟩
theorem qM.add {S:dF->Prop} {r:dF} (h:qM S r) (x:dF):qM (fun y=>S y∨y=x) (uN r x):=by
 obtain⟨⟨⟨a,ha,ha'⟩,h1⟩,⟨b,hb,hb'⟩,h2⟩:=h;unfold uN;refine⟨⟨?_,?_⟩,?_,?_⟩
 ·by_cases e:r.1<=x.1
  ·exact⟨a,.inl ha,by simp only;omega⟩
  ·exact⟨x,.inr rfl,by simp only;omega⟩
 ·rintro y (hy|rfl)
  ·have:=h1 y hy;simp only;omega
  ·simp only;omega
 ·by_cases e:x.2<=r.2
  ·exact⟨b,.inl hb,by simp only;omega⟩
  ·exact⟨x,.inr rfl,by simp only;omega⟩
 ·rintro y (hy|rfl)
  ·have:=h2 y hy;simp only;omega
  ·simp only;omega
theorem qM.congr {S T:dF->Prop} {r:dF} (h:qM S r) (e: ∀x,S x↔T x):qM T r:=by
 obtain⟨⟨⟨a,ha,ha'⟩,h1⟩,⟨b,hb,hb'⟩,h2⟩:=h;exact⟨⟨⟨a,(e a).1 ha,ha'⟩,fun x hx=>h1 x ((e x).2 hx)⟩,⟨b,(e b).1 hb,hb'⟩,fun x hx=>h2 x ((e x).2 hx)⟩
theorem Dj (p:Int->dF->dF) (l:aN) (ds:List (List Int)) {i:Nat} (hi:i<l.field.aJ.toNat): ∀k,k<=ds.length->
 (j5 p l k ds=[]/\ ∀d∈ds.take k,iH l [] d=false)∨((j5 p l k ds).length=l.field.aJ.toNat/\qM (fun y=> ∃d∈ds.take k,iH l [] d=true/\y=p (d.getD i 0) ((jy l [] d).getD i (0,0))) ((j5 p l k ds).getD i (0,0))):=by
 intro k;induction k with
 |zero=>intro _;exact .inl ⟨rfl,fun d hd=>by simp at hd⟩
 |succ k ih=>
  intro hk;have XI:k<ds.length:=ϑ;rw[xL p l XI,eT XI];have hn: ∀d,(pz p l d).getD i (0,0)=p (d.getD i 0) ((jy l [] d).getD i (0,0)):=fun d=>by
   have hi':i<(pz p l d).length:=by rw[mI];exact hi
   rw[fJ,bZ hi',Option.getD_some,F3 p l d hi']
  cases hc:iH l [] ds[k] with
  |false=>
   have hs:rC p l (j5 p l k ds) ds[k]=j5 p l k ds:=by unfold rC;rw[hc];rfl
   rw[hs];rcases ih ϑ with⟨h1,h2⟩|⟨h1,h2⟩
   ·refine .inl ⟨h1,fun d hd=>?_⟩;rcases gz.1 hd with h|h
    ·exact h2 d h
    ·rw[dY.1 h];exact hc
   ·refine .inr ⟨h1,h2.congr fun x=>⟨fun⟨d,hd,a,b⟩=>⟨d,mi _ hd,a,b⟩,fun⟨d,hd,a,b⟩=>?_⟩⟩;rcases gz.1 hd with h|h
    ·exact⟨d,h,a,b⟩
    ·rw[dY.1 h,hc] at a;cases a
  |true=>
   have hs:rC p l (j5 p l k ds) ds[k]=EU (j5 p l k ds) (pz p l ds[k]):=by unfold rC;rw[hc];rfl
   rw[hs];right;rcases ih ϑ with⟨h1,h2⟩|⟨h1,h2⟩
   ·rw[h1];have ha:EU [] (pz p l ds[k])=pz p l ds[k]:=by unfold EU;rw[aB rfl]
    rw[ha];refine⟨mI _ _ _,?_⟩;rw[hn];refine(qM.one _).congr fun x=>⟨fun e=>⟨ds[k],qL _ (dY.2 rfl),hc,e⟩,fun⟨d,hd,a,b⟩=>?_⟩;rcases gz.1 hd with h|h
    ·rw[h2 d h] at a;cases a
    ·rw[dY.1 h] at b;exact b
   ·have hne:j5 p l k ds≠[]:=fun e=>by rw[e] at h1;simp at h1;omega
    have ha:EU (j5 p l k ds) (pz p l ds[k])=List.zipWith uN (j5 p l k ds) (pz p l ds[k]):=by unfold EU;rw[aj hne]
    rw[ha];refine⟨by simp[h1,mI],?_⟩;have hg:(List.zipWith uN (j5 p l k ds) (pz p l ds[k])).getD i (0,0)=uN ((j5 p l k ds).getD i (0,0)) (p (ds[k].getD i 0) ((jy l [] ds[k]).getD i (0,0))):=by
     rw[<-hn ds[k]];have h3:i<(j5 p l k ds).length:=ϑ;have h4:i<(pz p l ds[k]).length:=by rw[mI];exact hi
     simp only[fJ,List.getElem?_zipWith,bZ h3,bZ h4,Option.getD_some]
    rw[hg];refine(h2.add _).congr fun x=>⟨?_,?_⟩
    ·rintro(⟨d,hd,a,b⟩|e)
     ·exact⟨d,mi _ hd,a,b⟩
     ·exact⟨ds[k],qL _ (dY.2 rfl),hc,e⟩
    ·rintro⟨d,hd,a,b⟩;rcases gz.1 hd with h|h
     ·exact .inl ⟨d,h,a,b⟩
     ·rw[dY.1 h] at b;exact .inr b
theorem Xp {rs:List dF} (h: ∀r∈rs,r.1<=r.2):wL (rs.map (·.1))<=wL (rs.map (·.2)):=by
 induction rs with
 |nil=>exact Int.le_refl _
 |cons x rs ih=>
  have h1:=h x List.mem_cons_self;have h2:=ih (fun y hy=>h y (nu _ hy));simp only[List.map_cons,rW];omega
theorem Jp {l:List Int} {i:Nat} (hi:i<l.length) (x:Int):wL (l.set i x)=wL l-l.getD i 0+x:=by
 induction l generalizing i with
 |nil=>simp at hi
 |cons y l ih=>
  cases i with
  |zero=>simp only[List.set_cons_zero,rW,List.getD_cons_zero];omega
  |succ i=>
   have:=ih (i:=i) (by simpa using hi);simp only[List.set_cons_succ,rW,List.getD_cons_succ];omega
theorem FQ (l:aN) (out d:List Int) {i:Nat} (hi:i<l.field.aJ.toNat):
 (jy l out d).getD i (0,0)=qI (mY l out i (d.getD i 0)) (l.box.1-(wX l out d-(mY l out i (d.getD i 0)).2),l.box.2-(En l out d-(mY l out i (d.getD i 0)).1)):=by
 have ha:=zW l out d hi;have hl:i<(nk l out d).length:=by rw[wI];exact hi
 rw[fJ,bZ hl,Option.getD_some] at ha;unfold jy;rw[fJ,nS,bZ hl,ha];rfl
theorem MP {l:aN} {out d:List Int} {i:Nat} (hi:i<l.field.aJ.toNat) (hb:l.box.1<=l.box.2) (hc:iH l out d=true):((jy l out d).getD i (0,0)).1<=((jy l out d).getD i (0,0)).2:=by
 rw[FQ l out d hi];have hl:i<(nk l out d).length:=by rw[wI];exact hi
 have ha:=zW l out d hi;unfold iH at hc;simp only[dL,iR,dR] at hc;obtain⟨⟨h1,h2⟩,h3⟩:=hc;have e1:wL (((nk l out d).set i (0,0)).map (·.1))=En l out d-(mY l out i (d.getD i 0)).1:=by
  rw[List.map_set,Jp (by simpa using hl)];unfold En;rw[<-ha,fJ,fJ,nS,bZ hl];simp
 have e2:wL (((nk l out d).set i (0,0)).map (·.2))=wX l out d-(mY l out i (d.getD i 0)).2:=by
  rw[List.map_set,Jp (by simpa using hl)];unfold wX;rw[<-ha,fJ,fJ,nS,bZ hl];simp
 have e3:=Xp (rs:=(nk l out d).set i (0,0)) (fun r hr=>by
  rcases List.mem_or_eq_of_mem_set hr with h|h
  ·exact h1 r h
  ·rw[h];exact Int.le_refl _)
 have e4:=h1 _ (by rw[fJ,bZ hl,Option.getD_some] at ha;rw[<-ha];exact bK hl:mY l out i (d.getD i 0)∈nk l out d)
 rw[e1,e2] at e3;unfold qI;simp only;omega
end Go.Proofs.Z
namespace Go.Proofs.Z
open ig
end Go.Proofs.Z
namespace Go.Proofs.Z
open ig
end Go.Proofs.Z
end
section
namespace Go.RG
open Go.RowKit
structure Ext (Ms:List Nat) (w w':World):Prop where
 os:w'.os=w.os
 tape:w'.tape=w.tape
 output:w'.output=w.output
 size:w.heap.size<=w'.heap.size
 block: ∀k,k<w.heap.size->k∉Ms->w'.heap[k]? =w.heap[k]?
theorem Ext.refl (Ms:List Nat) (w:World):Ext Ms w w:=⟨rfl,rfl,rfl,ah _,fun _ _ _=>rfl⟩
theorem Ext.trans {Ms:List Nat} {a b c:World} (h:Ext Ms a b) (k:Ext Ms b c):Ext Ms a c:=
 ⟨k.os.trans h.os,k.tape.trans h.tape,k.output.trans h.output,gI h.size k.size,
   fun i hi hm=>(k.block i (dU hi h.size) hm).trans (h.block i hi hm)⟩
theorem Ext.more {Ms jc:List Nat} {w w':World} (h:Ext Ms w w') (hs: ∀x,x∈Ms->x∈jc):Ext jc w w':=
 ⟨h.os,h.tape,h.output,h.size,fun k hk hm=>h.block k hk (fun e=>hm (hs k e))⟩
theorem Ext.nil {Ms:List Nat} {w w':World} (h:Ext [] w w'):Ext Ms w w':=h.more ϕ
theorem Ext.ay {Ms:List Nat} {w w':World} (h:Ϙ w w'):Ext Ms w w':=
 ⟨h.os,h.tape,h.output,h.size,fun k hk _=>h.block k hk⟩
theorem Ext.below {w w':World} (h:Ext [] w w'):Ϙ w w':=
 ⟨h.os,h.tape,h.output,h.size,fun k hk=>h.block k hk ϕ⟩
theorem Ext.drew {Ms:List Nat} {a w:World} (h:Ext Ms a w):Ext Ms a w.drew:=⟨h.os,h.tape,h.output,h.size,h.block⟩
theorem Ext.cell {Ms:List Nat} {w w':World} (h:Ext Ms w w') (b o:Nat) (hb:b<w.heap.size) (hm:b∉Ms):w'.cell? ⟨b,o,none⟩=w.cell? ⟨b,o,none⟩:=
 gW (w:=w) (h.block b hb hm)
def Does (P:Program) (o:Oper) (ρ:Operand->Value) (W:World) (R:Value->World->Prop):Prop:=
 match (execOp ρ o).run P W with
 | .ok (.value v) w'=>R v w'
 | .ok .skip w'=>R undef w'
 | .ok (.enter f args) w'=>Calls P f args w' (fun e w''=> ∃v,e= .returned v/\R v w'')
 |_=>False
structure Spec where
 pure:List Value->Value->Prop
 world:List Value->Value->World->Prop
abbrev Facts:=List (Nat×(World->Prop))
def lD (o:Oper) (a:Act):List Value:=o.op.operands.toList.map a.eval
def jA (ops:Array Oper) (j i:Nat):Bool:=((Region.before ops).getD i 0).testBit j
structure Dp (R0 R1:World->World->Prop):Prop where
 refl: ∀w,R0 w w
 Z8: ∀{a b c},R0 a b->R0 b c->R0 a c
 Z7: ∀{a b c},R1 a b->R1 b c->R1 a c
 sub: ∀{a b},R0 a b->R1 a b
def um (R0 R1:World->World->Prop) (m:Option Nat) (i:Nat):World->World->Prop:=if m=some i then R1 else R0
def jE (R0 R1:World->World->Prop) (m:Option Nat) (i:Nat):World->World->Prop:=if m=some i then R0 else R1
theorem Dp.XA {R0 R1:World->World->Prop} (h:Dp R0 R1) {m:Option Nat} (i:Nat) (w:World):jE R0 R1 m i w w:=by
 unfold jE;split
 ·exact h.refl w
 ·exact h.sub (h.refl w)
theorem xY (Ms:List Nat):Dp (Ext []) (Ext Ms):=⟨Ext.refl [],Ext.trans,Ext.trans,Ext.nil⟩
abbrev qY:=Nat->List Value->Value->World->Prop
def JZ:qY:=fun _ _ _ _=>True
def Ov (ops:Array Oper) (R0 R1:World->World->Prop) (m:Option Nat) (W0:World) (F G:Facts) (i:Nat) (W:World):Prop:=
 jE R0 R1 m i W0 W/\(∀f∈F,jA ops f.1 i=true->f.2 W)/\(m=some i-> ∀g∈G,jA ops g.1 i=true->g.2 W)
def oM (n t:Nat):Array Bool:=((List.range n).map (fun i=>decide (i<t))).toArray
def RY (ops:Array Oper) (k:Nat):Bool:=
 let n:=ops.size
 let at_ (i:Nat):Oper:=ops.getD i default
 decide (k<=n)&&
 (List.range n).all (fun i=>(at_ i).after.toList.all fun e=>!Region.binds .any e ||decide (e.on<i))&&
 (List.range k).all (fun i=>(List.range k).all fun j=>i==j ||(at_ i).dst.isNone ||(at_ i).dst !=(at_ j).dst)&&
 (List.range k).all (fun i=>((at_ i).looksAt ops).all fun t=>(List.range k).all fun j=>
   (at_ j).dst !=some t ||i==j ||(decide (j<i)&&jA ops j i) ||(decide (i<j)&&jA ops i j))&&
 (List.range n).all (fun i=>decide (i<k) ||(List.range k).all fun j=>jA ops j i)&&
 (List.range n).all (fun i=>match (at_ i).op with| .select .. =>false|_=>true)&&
 (List.range (n-k)).all (fun t=>Region.ready .any ops (oM n (k+t))==[k+t])&&
 Region.ready .any ops (oM n n)==[]
def Down (ops:Array Oper) (D:Nat->Prop):Prop:= ∀i o,ops[i]? =some o->D i-> ∀e∈o.after,Region.binds .any e=true->D e.on
theorem QU (acc:Array Nat) (j:Nat) (l:List Edge) (s:Nat)
 (h:(l.foldl (fun s e=>if Region.binds .any e then s |||2^e.on |||acc.getD e.on 0 else s) s).testBit j=true):
 s.testBit j=true∨ ∃e∈l,Region.binds .any e=true/\(j=e.on∨(acc.getD e.on 0).testBit j=true):=by
 induction l generalizing s with
 |nil=>exact .inl h
 |cons e l ih=>
  simp only[List.foldl_cons] at h;rcases ih _ h with h1|⟨e',he',hb,hj⟩
  ·by_cases hb:Region.binds .any e=true
   ·rw[aB hb] at h1;simp only[Nat.testBit_or,Bool.or_eq_true,Nat.testBit_two_pow,dR] at h1;rcases h1 with(h1|h1)|h1
    ·exact .inl h1
    ·exact .inr ⟨e,by simp,hb,.inl h1.symm⟩
    ·exact .inr ⟨e,by simp,hb,.inr h1⟩
   ·rw[aj hb] at h1;exact .inl h1
  ·exact .inr ⟨e',by simp[he'],hb,hj⟩
def masks (l:List Oper):Array Nat:=
 l.foldl (fun acc o=>acc.push (o.after.foldl (fun s e=>if Region.binds .any e then s |||2^e.on |||acc.getD e.on 0 else s) 0)) #[]
theorem R7 (ops:Array Oper):Region.before ops=masks ops.toList:=by
 simp only[Region.before,masks,Array.foldl_toList]
theorem Cf (l:List Oper) (o:Oper):masks (l++[o])=(masks l).push (o.after.foldl (fun s e=>if Region.binds .any e then s |||2^e.on |||(masks l).getD e.on 0 else s) 0):=by
 simp[masks,List.foldl_append]
theorem mU {α:Type} {p:List α->Prop} (h0:p []) (h1: ∀l a,p l->p (l++[a])) (l:List α):p l:=by
 rw[<-l.reverse_reverse];induction l.reverse with
 |nil=>exact h0
 |cons a t ih=>rw[List.reverse_cons];exact h1 _ _ ih
theorem xw (l:List Oper):(masks l).size=l.length:=by
 induction l using mU with
 |h0=>rfl
 |h1 l o ih=>simp[Cf,ih]
theorem QT (l:List Oper) (D:Nat->Prop) (hD: ∀i o,l[i]? =some o->D i-> ∀e∈o.after,Region.binds .any e=true->D e.on):
 ∀i j,i<l.length->D i->((masks l).getD i 0).testBit j=true->D j:=by
 induction l using mU with
 |h0=>intro i j hi;simp at hi
 |h1 l o ih=>
  have ih':=ih (fun i o' hi=>hD i o' (by
   have:=(gY.1 hi).1;rw[rP this];exact hi))
  intro i j hi hDi h;rw[Cf] at h;by_cases tX:i<l.length
  ·rw[Array.getD_eq_getD_getElem?,Array.getElem?_push,aj (by rw[xw];omega), <-Array.getD_eq_getD_getElem?] at h;exact ih' i j tX hDi h
  ·have hi':i=l.length:=by simp at hi;omega
   subst hi';rw[Array.getD_eq_getD_getElem?,Array.getElem?_push,aB (by rw[xw])] at h;simp only[Option.getD_some] at h;rw[<-Array.foldl_toList] at h;rcases QU _ j _ _ h with h1|⟨e,he,hb,hj⟩
   ·simp at h1
   ·have hDe:D e.on:=hD l.length o ϕ hDi e (by simpa using he) hb;rcases hj with rfl|hj
    ·exact hDe
    ·by_cases hlt':e.on<l.length
     ·exact ih' e.on j hlt' hDe hj
     ·rw[Array.getD_eq_getD_getElem?,Array.getElem?_eq_none (by rw[xw];omega)] at hj;simp at hj
theorem qJ {ops:Array Oper} {D:Nat->Prop} (hD:Down ops D) {i j:Nat} (hi:i<ops.size) (hDi:D i) (h:jA ops j i=true):D j:=by
 unfold jA at h;rw[R7] at h;exact QT ops.toList D (fun i o hi=>hD i o (by simpa using hi)) i j (by simpa using hi) hDi h
theorem Sa {ops:Array Oper} {D:Nat->Prop} (hD:Down ops D) {i j:Nat} {o:Oper} (ho:ops[i]? =some o)
 (hr: ∀e∈o.after,Region.binds .any e=true->D e.on) (h:jA ops j i=true) (hij:j≠i):D j:=by
 have hD':Down ops (fun t=>D t∨t=i):=by
  intro t o' ht hDt e he hb;rcases hDt with hDt|rfl
  ·exact .inl (hD t o' ht hDt e he hb)
  ·rw[ho] at ht;cases ht;exact .inl (hr e he hb)
 exact(qJ hD' (aP.1 ho).1 (.inr rfl) h).resolve_right hij
section
variable {P : Program} {ops : Array Oper}
def lV (ops:Array Oper) (i:Nat):Option Tmp:=(ops[i]?).bind (·.dst)
def jd (ops:Array Oper) (env:Nat->Value) (a0:Act) (l:List Nat):Act:=l.foldl (fun a i=>a.put (lV ops i) (env i)) a0
theorem jQ (env:Nat->Value) (a0:Act) (l:List Nat) (i:Nat):jd ops env a0 (l++[i])=(jd ops env a0 l).put (lV ops i) (env i):=by
 simp[jd,List.foldl_append]
theorem put_defers (a:Act) (d:Option Tmp) (v:Value):(a.put d v).defers=a.defers:=by cases d <;>rfl
theorem TY (a:Act) (d:Option Tmp) (v:Value):(a.put d v).tmps.size=a.tmps.size:=by cases d <;>simp[Act.put]
theorem O0 (a:Act) (d:Option Tmp) (v:Value) (t:Nat):(a.put d v).tmps[t]? =if d=some t then(if t<a.tmps.size then some v else none) else a.tmps[t]? :=by
 cases d with
 |none=>simp[Act.put]
 |some d=>
  by_cases h:d=t
  ·subst h;simp[Act.put,Array.getElem?_setIfInBounds]
  ·have h':some d≠some t:=fun e=>h (gV e);rw[aj h'];simp[Act.put,Array.getElem?_setIfInBounds_ne h]
theorem kr (env:Nat->Value) (a0:Act) (l:List Nat):(jd ops env a0 l).defers=a0.defers:=by
 induction l using mU with
 |h0=>rfl
 |h1 l i ih=>rw[jQ,put_defers,ih]
theorem JH (env:Nat->Value) (a0:Act) (l:List Nat):(jd ops env a0 l).tmps.size=a0.tmps.size:=by
 induction l using mU with
 |h0=>rfl
 |h1 l i ih=>rw[jQ,TY,ih]
theorem Ae (env:Nat->Value) (a0:Act) (t:Nat) (l:List Nat) (h: ∀i∈l,lV ops i≠some t):(jd ops env a0 l).tmps[t]? =a0.tmps[t]? :=by
 induction l using mU with
 |h0=>rfl
 |h1 l i ih=>rw[jQ,O0,aj (h i ϕ),ih (fun j hj=>h j (by simp[hj]))]
theorem Ad (env:Nat->Value) (a0:Act) (t i:Nat) (l:List Nat) (hi:i∈l) (hd:lV ops i=some t) (hu: ∀j∈l,lV ops j=some t->j=i):
 (jd ops env a0 l).tmps[t]? =if t<a0.tmps.size then some (env i) else none:=by
 induction l using mU with
 |h0=>simp at hi
 |h1 l j ih=>
  rw[jQ,O0,JH];by_cases hj:lV ops j=some t
  ·rw[aB hj,hu j ϕ hj]
  ·rw[aj hj];refine ih ?_ (fun x hx=>hu x (by simp[hx]));rcases gz.1 hi with h|h
   ·exact h
   ·simp at h;subst h;exact absurd hd hj
theorem agree {env env':Nat->Value} {a0:Act} {l l':List Nat} (t:Nat) (hm: ∀i,lV ops i=some t->(i∈l↔i∈l')) (he: ∀i∈l,lV ops i=some t->env i=env' i)
 (hu: ∀i j,i∈l->j∈l->lV ops i=some t->lV ops j=some t->i=j):(jd ops env a0 l).tmps[t]? =(jd ops env' a0 l').tmps[t]? :=by
 by_cases h: ∃i∈l,lV ops i=some t
 ·obtain⟨i,hi,hd⟩:=h;rw[Ad env a0 t i l hi hd (fun j hj hdj=>hu j i hj hi hdj hd),Ad env' a0 t i l' ((hm i hd).1 hi) hd (fun j hj hdj=>hu j i ((hm j hdj).2 hj) hi hdj hd),he i hi hd]
 ·have h1: ∀i∈l,lV ops i≠some t:=fun i hi hd=>h ⟨i,hi,hd⟩;have h2: ∀i∈l',lV ops i≠some t:=fun i hi hd=>h ⟨i,(hm i hd).2 hi,hd⟩;rw[Ae _ _ _ _ h1,Ae _ _ _ _ h2]
theorem xZ {env env':Nat->Value} {a0:Act} {l:List Nat} (he: ∀i∈l,env i=env' i):jd ops env a0 l=jd ops env' a0 l:=by
 induction l using mU with
 |h0=>rfl
 |h1 l i ih=>rw[jQ,jQ,ih (fun j hj=>he j (by simp[hj])),he i ϕ]
theorem PK {a b:Act} (hd:a.defers=b.defers) (ht: ∀t:Nat,a.tmps[t]? =b.tmps[t]?):a=b:=by
 obtain⟨x,d⟩:=a;obtain⟨y,d'⟩:=b;simp only at hd ht;subst hd;congr 1;exact Array.ext_getElem? ht
def jN (ops:Array Oper) (o:Oper) (a b:Act):Prop:= ∀t∈o.looksAt ops,a.tmps[t]? =b.tmps[t]?
theorem jN.eval {o:Oper} {a b:Act} (h:jN ops o a b): ∀x∈o.op.operands,a.eval x=b.eval x:=by
 intro x hx;cases x with
 |tmp t=>
  have:=h t (mi _ (List.mem_filterMap.2 ⟨.tmp t,by simpa using hx,rfl⟩));simp[Act.eval,xN,this]
 |_=>rfl
theorem jN.exec {o:Oper} {a b:Act} (h:jN ops o a b) (hs: ∀cs b,o.op≠ .select cs b):execOp a.eval o=execOp b.eval o:=execOp_congr o hs h.eval
theorem jN.lD {o:Oper} {a b:Act} (h:jN ops o a b):lD o a=lD o b:=List.map_congr_left fun x hx=>h.eval x (by simpa using hx)
theorem jN.wanted {o:Oper} {a b:Act} (h:jN ops o a b):Region.wanted o (yielded ops a.tmps)=Region.wanted o (yielded ops b.tmps):=by
 unfold Region.wanted;cases hg:o.guard with
 |none=>rfl
 |some gw=>
  obtain⟨g,want⟩:=gw;have hy:yielded ops a.tmps g=yielded ops b.tmps g:=by
   unfold yielded;cases ht:(ops[g]?).bind (·.dst) with
   |none=>rfl
   |some t=>
    have:=h t (qL _ (by simp[hg,ht]));simp[this]
  simp only[hy]
end
structure Chk (ops:Array Oper) (k:Nat):Prop where
 kn:k<=ops.size
 lt: ∀(i:Nat) (o:Oper),ops[i]? =some o-> ∀e∈o.after,Region.binds .any e=true->e.on<i
 Yt: ∀i j,i<k->j<k-> ∀t,lV ops i=some t->lV ops j=some t->i=j
 look: ∀(i:Nat) (o:Oper),i<k->ops[i]? =some o-> ∀t∈o.looksAt ops, ∀j,j<k->lV ops j=some t->i≠j->(j<i/\jA ops j i=true)∨(i<j/\jA ops i j=true)
 tail: ∀i,k<=i->i<ops.size-> ∀j,j<k->jA ops j i=true
 sel: ∀(i:Nat) (o:Oper),ops[i]? =some o-> ∀cs b,o.op≠ .select cs b
 rdy: ∀t,k<=t->t<ops.size->Region.ready .any ops (oM ops.size t)=[t]
 fin:Region.ready .any ops (oM ops.size ops.size)=[]
theorem pM {ops:Array Oper} {i:Nat} {o:Oper} (h:ops[i]? =some o):ops.getD i default=o:=by
 rw[xN,h];rfl
theorem vI {ops:Array Oper} {i:Nat} {o:Oper} (h:ops[i]? =some o):lV ops i=o.dst:=by simp[lV,h]
theorem Da {ops:Array Oper} {k:Nat} (h:RY ops k=true):Chk ops k:=by
 simp only[RY,dL,dR,iR,jL,Bool.or_eq_true,beq_iff_eq,bne_iff_ne,ne_eq,Bool.not_eq_true'] at h;obtain⟨⟨⟨⟨⟨⟨⟨h1,h2⟩,h3⟩,h4⟩,h5⟩,h6⟩,h7⟩,h8⟩:=h;have tX: ∀{i:Nat} {o:Oper},ops[i]? =some o->i<ops.size:=fun h=>(aP.1 h).1;have hget: ∀{i:Nat},i<ops.size->ops[i]? =some (ops.getD i default):=fun {i} hi=>by
  rw[tY hi,xN,tY hi];rfl
 refine⟨h1,?_,?_,?_,?_,?_,?_,h8⟩
 ·intro i o ho e he hb;have:=h2 i (tX ho) e (by rw[pM ho];simpa using he);rcases this with h|h
  ·rw[hb] at h;cases h
  ·exact h
 ·intro i j hi hj t hdi hdj;have:=h3 i hi j hj;have ei:=hget (dU hi h1);have ej:=hget (dU hj h1);rw[vI ei] at hdi;rw[vI ej] at hdj;rcases this with(h|h)|h
  ·exact h
  ·rw[hdi] at h;cases h
  ·rw[hdi,hdj] at h;exact absurd rfl h
 ·intro i o hi ho t ht j hj hdj hij;have:=h4 i hi t (by rw[pM ho];exact ht) j hj;rw[vI (hget (dU hj h1))] at hdj;rcases this with((h|h)|h)|h
  ·exact absurd hdj h
  ·exact absurd h hij
  ·exact .inl h
  ·exact .inr h
 ·intro i hk hi j hj;rcases h5 i hi with h|h
  ·omega
  ·exact h j hj
 ·intro i o ho cs b e;have:=h6 i (tX ho);rw[pM ho,e] at this;cases this
 ·intro t hk ht;have:=h7 (t-k) ϑ;rw[show k+(t-k)=t from by omega] at this;exact this
section
variable {Ps : qY} {P : Program} {ops : Array Oper} {R0 R1 : World → World → Prop} {m : Option Nat} {Ss : List (Nat × Spec)} {W0 : World} {a0 : Act}
abbrev pf (ops:Array Oper) (a0:Act) (env:Nat->Value) (i:Nat):Act:=jd ops env a0 (List.range i)
theorem O1 (env:Nat->Value) (i:Nat):pf ops a0 env (i+1)=(pf ops a0 env i).put (lV ops i) (env i):=by
 unfold pf;rw[List.range_succ,jQ]
theorem iZ {env env':Nat->Value} {i:Nat} (h: ∀j,j<i->env j=env' j):pf ops a0 env i=pf ops a0 env' i:=
 xZ fun j hj=>h j (by simpa using hj)
def Left (ops:Array Oper) (a0:Act) (env:Nat->Value) (j:Nat) (s:Spec) (W:World):Prop:=s.world (lD (ops.getD j default) (pf ops a0 env j)) (env j) W
def rD (Ps:qY) (ops:Array Oper) (a0:Act) (env:Nat->Value) (j:Nat) (W:World):Prop:=Ps j (lD (ops.getD j default) (pf ops a0 env j)) (env j) W
def oW (Ps:qY) (ops:Array Oper) (R0 R1:World->World->Prop) (m:Option Nat) (Ss:List (Nat×Spec)) (W0:World) (a0:Act) (env:Nat->Value) (i:Nat) (W:World):Prop:=
 jE R0 R1 m i W0 W/\(∀j s,Ss.lookup j=some s->j<i->jA ops j i=true->Left ops a0 env j s W)/\
  (m=some i-> ∀j s,Ss.lookup j=some s->j<i->jA ops j i=true->rD Ps ops a0 env j W)
theorem Oy {env env':Nat->Value} {j:Nat} {s:Spec} {W:World} (h: ∀i,i<=j->env i=env' i) (hl:Left ops a0 env j s W):Left ops a0 env' j s W:=by
 unfold Left at*
 rw[iZ (fun i hi=>(h i ϑ).symm), <-h j (ah _)];exact hl
theorem LD {env env':Nat->Value} {j:Nat} {W:World} (h: ∀i,i<=j->env i=env' i) (hl:rD Ps ops a0 env j W):rD Ps ops a0 env' j W:=by
 unfold rD at*
 rw[iZ (fun i hi=>(h i ϑ).symm), <-h j (ah _)];exact hl
theorem pR {env env':Nat->Value} {i:Nat} {W:World} (h: ∀j,j<i->env j=env' j) (hr:oW Ps ops R0 R1 m Ss W0 a0 env i W):oW Ps ops R0 R1 m Ss W0 a0 env' i W:=
 ⟨hr.1,fun j s hs hj ha=>Oy (fun t ht=>h t ϑ) (hr.2.1 j s hs hj ha),fun hm j s hs hj ha=>LD (fun t ht=>h t ϑ) (hr.2.2 hm j s hs hj ha)⟩
def Fs (ops:Array Oper) (Ss:List (Nat×Spec)) (a0:Act) (env:Nat->Value):Nat->Facts
 |0=>[]
 |t+1=>match Ss.lookup t with
  |none=>Fs ops Ss a0 env t
  |some s=>(t,s.world (lD (ops.getD t default) (pf ops a0 env t)) (env t))::Fs ops Ss a0 env t
theorem Uo {env:Nat->Value} {t:Nat} {f:Nat×(World->Prop)}:f∈Fs ops Ss a0 env t↔ ∃j s,j<t/\Ss.lookup j=some s/\f=(j,Left ops a0 env j s):=by
 induction t with
 |zero=>simp[Fs]
 |succ t ih=>
  unfold Fs;cases hs:Ss.lookup t with
  |none=>
   simp only[ih];constructor
   ·rintro⟨j,s,hj,h1,h2⟩;exact⟨j,s,by omega,h1,h2⟩
   ·rintro⟨j,s,hj,h1,h2⟩;have:j≠t:=fun e=>by subst e;rw[hs] at h1;cases h1
    exact⟨j,s,by omega,h1,h2⟩
  |some s0=>
   simp only[eB,ih];constructor
   ·rintro(rfl|⟨j,s,hj,h1,h2⟩)
    ·exact⟨t,s0,by omega,hs,rfl⟩
    ·exact⟨j,s,by omega,h1,h2⟩
   ·rintro⟨j,s,hj,h1,h2⟩;by_cases e:j=t
    ·subst e;rw[hs] at h1;cases h1;exact .inl h2
    ·exact .inr ⟨j,s,by omega,h1,h2⟩
theorem LM {env env':Nat->Value} {t:Nat} (h: ∀j,j<t->env j=env' j):Fs ops Ss a0 env t=Fs ops Ss a0 env' t:=by
 induction t with
 |zero=>rfl
 |succ t ih=>
  unfold Fs;exact zca
def Gs (Ps:qY) (ops:Array Oper) (Ss:List (Nat×Spec)) (a0:Act) (env:Nat->Value):Nat->Facts
 |0=>[]
 |t+1=>match Ss.lookup t with
  |none=>Gs Ps ops Ss a0 env t
  |some _=>(t,Ps t (lD (ops.getD t default) (pf ops a0 env t)) (env t))::Gs Ps ops Ss a0 env t
theorem aae {env:Nat->Value} {t:Nat} {f:Nat×(World->Prop)}:f∈Gs Ps ops Ss a0 env t-> ∃j s,j<t/\Ss.lookup j=some s/\f=(j,rD Ps ops a0 env j):=by
 induction t with
 |zero=>simp[Gs]
 |succ t ih=>
  unfold Gs;cases hs:Ss.lookup t with
  |none=>exact fun h=>by obtain⟨j,s,hj,h1,h2⟩:=ih h;exact⟨j,s,by omega,h1,h2⟩
  |some s0=>
   simp only[eB];rintro(rfl|h)
   ·exact⟨t,s0,by omega,hs,rfl⟩
   ·obtain⟨j,s,hj,h1,h2⟩:=ih h;exact⟨j,s,by omega,h1,h2⟩
theorem LK {env env':Nat->Value} {t:Nat} (h: ∀j,j<t->env j=env' j):Gs Ps ops Ss a0 env t=Gs Ps ops Ss a0 env' t:=by
 induction t with
 |zero=>rfl
 |succ t ih=>
  unfold Gs;exact zca
theorem Hd {env:Nat->Value} {i:Nat} {W:World} (h:oW Ps ops R0 R1 m Ss W0 a0 env i W):Ov ops R0 R1 m W0 (Fs ops Ss a0 env i) (Gs Ps ops Ss a0 env i) i W:=
 ⟨h.1,fun f hf ha=>by
   obtain⟨j,s,hj,hs,rfl⟩:=Uo.1 hf;exact h.2.1 j s hs hj ha,fun hm f hf ha=>by
   obtain⟨j,s,hj,hs,rfl⟩:=aae hf;exact h.2.2 hm j s hs hj ha⟩
def Rec (Ps:qY) (P:Program) (ops:Array Oper) (R0 R1:World->World->Prop) (m:Option Nat) (Ss:List (Nat×Spec)) (W0:World) (a0:Act) (env:Nat->Value) (i:Nat) (o:Oper):Prop:=
 match Ss.lookup i with
 |none=>(Region.wanted o (yielded ops (pf ops a0 env i).tmps)=true/\ ∃W,oW Ps ops R0 R1 m Ss W0 a0 env i W/\(execOp (pf ops a0 env i).eval o).run P W= .ok (.value (env i)) W)∨
   (Region.wanted o (yielded ops (pf ops a0 env i).tmps)=false/\env i=undef)
 |some s=>s.pure (lD o (pf ops a0 env i)) (env i)
variable {k : Nat} (hc : Chk ops k)
include hc
theorem Bj {env env':Nat->Value} {i:Nat} {o:Oper} (hi:i<k) (ho:ops[i]? =some o) (h: ∀j,j<i->jA ops j i=true->env j=env' j):
 jN ops o (pf ops a0 env i) (pf ops a0 env' i):=by
 intro t ht;refine agree t (fun _ _=>Iff.rfl) ?_ ?_
 ·intro j hj hd;have hj':j<i:=by simpa using hj
  rcases hc.look i o hi ho t ht j ϑ hd ϑ with h1|h1
  ·exact h j hj' h1.2
  ·omega
 ·intro x y hx hy hdx hdy;have hx':x<i:=by simpa using hx
  have hy':y<i:=by simpa using hy
  exact hc.Yt x y ϑ ϑ t hdx hdy
theorem Uf {env env':Nat->Value} {i:Nat} (hi:i<k) (h: ∀j,j<i->jA ops j i=true->env j=env' j):
 lD (ops.getD i default) (pf ops a0 env i)=lD (ops.getD i default) (pf ops a0 env' i):=by
 have tX:i<ops.size:=dU hi hc.kn;have ho:ops[i]? =some (ops.getD i default):=by
  rw[tY tX,xN,tY tX];rfl
 exact(Bj hc hi ho h).lD
theorem wJ {env env':Nat->Value} {l:List Nat} (hl: ∀i∈l,i<k) (hd:Down ops (· ∈l)) (he: ∀i∈l,env i=env' i) {j:Nat} (hj:j∈l) {s:Spec} {W:World}
 (h:Left ops a0 env j s W):Left ops a0 env' j s W:=by
 unfold Left at*
 exact zcg
theorem yU {env env':Nat->Value} {l:List Nat} (hl: ∀i∈l,i<k) (hd:Down ops (· ∈l)) (he: ∀i∈l,env i=env' i) {j:Nat} (hj:j∈l) {W:World}
 (h:rD Ps ops a0 env j W):rD Ps ops a0 env' j W:=by
 unfold rD at*
 exact zcg
theorem Gz {env env':Nat->Value} {l:List Nat} (hl: ∀i∈l,i<k) (hd:Down ops (· ∈l)) (he: ∀i∈l,env i=env' i) {i:Nat} (ha: ∀j,j<i->jA ops j i=true->j∈l) {W:World}
 (h:oW Ps ops R0 R1 m Ss W0 a0 env i W):oW Ps ops R0 R1 m Ss W0 a0 env' i W:=
 ⟨h.1,fun j s hs hj hji=>wJ hc hl hd he (ha j hj hji) (h.2.1 j s hs hj hji),fun hm j s hs hj hji=>yU hc hl hd he (ha j hj hji) (h.2.2 hm j s hs hj hji)⟩
theorem abJ {env env':Nat->Value} {l:List Nat} (hl: ∀i∈l,i<k) (hd:Down ops (· ∈l)) (he: ∀i∈l,env i=env' i) {i:Nat} {o:Oper} (hi:i∈l) (ho:ops[i]? =some o)
 (h:Rec Ps P ops R0 R1 m Ss W0 a0 env i o):Rec Ps P ops R0 R1 m Ss W0 a0 env' i o:=by
 have hik:i<k:=hl i hi;have yA: ∀j,jA ops j i=true->j∈l:=fun j hj=>qJ hd (dU hik hc.kn) hi hj;have hL:jN ops o (pf ops a0 env i) (pf ops a0 env' i):=Bj hc hik ho (fun j _ hj=>he j (yA j hj));unfold Rec at*
 rw[<-hL.wanted, <-hL.lD, <-he i hi, <-hL.exec (hc.sel i o ho)];cases hs:Ss.lookup i with
 |none=>
  simp only[hs] at h⊢;exact h.imp (fun x=>⟨x.1,by obtain⟨W,hW,hr⟩:=x.2;exact⟨W,Gz hc hl hd he (fun j _=>yA j) hW,hr⟩⟩) id
 |some s=>
  simp only[hs] at h⊢;exact h
end
def Any (gM:Nat->(Act->World->Prop)->Act->World->Prop) (ops:Array Oper) (Qn:Act->World->Prop):Nat->Array Bool->Act->World->Prop
 |0,l,a,w=>Region.ready .any ops l=[]/\Qn a w
 |fuel+1,l,a,w=>(Region.ready .any ops l=[]->Qn a w)/\ ∀i∈Region.ready .any ops l,gM i (Any gM ops Qn fuel (l.setIfInBounds i true)) a w
def Seq (gM:Nat->(Act->World->Prop)->Act->World->Prop) (Qn:Act->World->Prop):List Nat->Act->World->Prop
 |[]=>Qn
 |i::r=>gM i (Seq gM Qn r)
def QV (n:Nat) (l:List Nat):Array Bool:=l.foldl (fun a i=>a.setIfInBounds i true) (Array.replicate n false)
theorem Cg (n:Nat) (l:List Nat) (i:Nat):QV n (l++[i])=(QV n l).setIfInBounds i true:=by simp[QV,List.foldl_append]
theorem O8 (n:Nat) (l:List Nat) (i:Nat):(QV n l)[i]? =if i<n then some (decide (i∈l)) else none:=by
 have hsize: ∀l:List Nat,(QV n l).size=n:=by
  intro l;induction l using mU with
  |h0=>simp[QV]
  |h1 l j ih=>rw[Cg];simp[ih]
 induction l using mU with
 |h0=>simp[QV,Array.getElem?_replicate]
 |h1 l j ih=>
  rw[Cg,Array.getElem?_setIfInBounds,hsize,ih];by_cases e:j=i
  ·subst e;by_cases h:j<n <;>simp[h]
  ·rw[aj e];have:i≠j:=fun h=>e h.symm;simp[this]
theorem xG (n t i:Nat):(oM n t)[i]? =if i<n then some (decide (i<t)) else none:=by
 unfold oM;rw[List.getElem?_toArray,nS];by_cases h:i<n
 ·rw[List.getElem?_range h,aB h];rfl
 ·rw[List.getElem?_eq_none (by simpa using h),aj h];rfl
theorem Ch {n k:Nat} {l:List Nat} (h: ∀i,i∈l↔i<k):QV n l=oM n k:=by
 refine Array.ext_getElem? fun i=>?_;rw[O8,xG];simp[h]
theorem mem_ready {ops:Array Oper} {l:List Nat} {i:Nat}:i∈Region.ready .any ops (QV ops.size l)↔
 i<ops.size/\i∉l/\ ∀o,ops[i]? =some o-> ∀e∈o.after,Region.binds .any e=true->e.on∈l/\e.on<ops.size:=by
 unfold Region.ready;simp only[List.mem_filter,jL,dL,Bool.not_eq_true',xN,O8];constructor
 ·rintro⟨hi,h1,h2⟩;rw[aB hi] at h1;refine⟨hi,by simpa using h1,fun o ho e he hb=>?_⟩;rw[ho] at h2;simp only[Option.map_some,Option.getD_some] at h2;have:=(jw.1 h2) e he;rw[hb] at this;simp only[Bool.not_true,Bool.false_or] at this;by_cases tX:e.on<ops.size
  ·rw[aB tX] at this;exact⟨by simpa using this,tX⟩
  ·rw[aj tX] at this;cases this
 ·rintro⟨hi,h1,h2⟩;refine⟨hi,by rw[aB hi];simpa using h1,?_⟩;obtain⟨o,ho⟩: ∃o,ops[i]? =some o:=⟨_,tY hi⟩;rw[ho];simp only[Option.map_some,Option.getD_some];refine jw.2 fun e he=>?_;by_cases hb:Region.binds .any e=true
  ·obtain⟨h3,h4⟩:=h2 o ho e he hb;rw[aB h4];simp[h3]
  ·simp[hb]
section
variable {gM : Nat → (Act → World → Prop) → Act → World → Prop} {ops : Array Oper} {Qn : Act → World → Prop} {k : Nat}
theorem Lt (hc:Chk ops k) (hmono: ∀i (K K':Act->World->Prop) a w,(∀a w,K a w->K' a w)->gM i K a w->gM i K' a w):
 ∀j t a w,t+j=ops.size->k<=t->Seq gM Qn (List.range' t j) a w->Any gM ops Qn j (oM ops.size t) a w:=by
 intro j;induction j with
 |zero=>
  intro t a w ht _ h;have:t=ops.size:=ϑ;subst this;exact⟨hc.fin,h⟩
 |succ j ih=>
  intro t a w ht hk h;have hr:=hc.rdy t hk ϑ;refine⟨fun e=>(by rw[hr] at e;cases e),fun i hi=>?_⟩;rw[hr] at hi;have:i=t:=by simpa using hi
  subst this;rw[List.range'_succ] at h;refine hmono _ _ _ _ _ (fun a w hs=>?_) h;have e:(oM ops.size i).setIfInBounds i true=oM ops.size (i+1):=by
   refine Array.ext_getElem? fun x=>?_;have ν:(oM ops.size i).size=ops.size:=by simp[oM]
   rw[Array.getElem?_setIfInBounds,ν,xG,xG];by_cases e:i=x
   ·subst e;simp
   ·rw[aj e];by_cases hx:x<ops.size
    ·simp only[hx,if_true,Option.some.injEq,decide_eq_decide];omega
    ·simp[hx]
  rw[e];exact ih (i+1) a w ϑ ϑ hs
end
theorem all_in {k:Nat} {l:List Nat} (hn:l.Nodup) (h1: ∀i∈l,i<k) (h2:k<=l.length): ∀i,i<k->i∈l:=by
 intro i hi;refine Classical.byContradiction fun h=>?_;have:=List.Nodup.length_le_of_subset (l₁:=i::l) (l₂:=List.range k) (List.nodup_cons.2 ⟨h,hn⟩) (fun x hx=>by
  rcases eB.1 hx with rfl|hx
  ·simpa using hi
  ·simpa using h1 x hx)
 simp at this;omega
theorem Uw {k:Nat} {l:List Nat} (hn:l.Nodup) (h1: ∀i∈l,i<k):l.length<=k:=by
 have:=List.Nodup.length_le_of_subset (l₁:=l) (l₂:=List.range k) hn (fun x hx=>by simpa using h1 x hx);simpa using this
end Go.RG
namespace Go.RX
open Go.RowKit Go.RG
def Does (X:List PanicEntry->World->Prop) (P:Program) (o:Oper) (ρ:Operand->Value) (W:World) (R:Value->World->Prop):Prop:=
 match (execOp ρ o).run P W with
 | .ok (.value v) w'=>R v w'
 | .ok .skip w'=>R undef w'
 | .ok (.enter f args) w'=>Calls P f args w' (fun e w''=>(∃v,e= .returned v/\R v w'')∨ ∃ps,e= .panicked ps/\X ps w'')
 |_=>False
def gB (X:List PanicEntry->World->Prop) (Ps:qY) (P:Program) (ops:Array Oper) (R0 R1:World->World->Prop) (m:Option Nat) (Ss:List (Nat×RG.Spec)) (Fin:Act->World->Prop) (W0:World):
 List Oper->Nat->Act->Facts->Facts->Prop
 |[],_,a,F,_=> ∀W,R1 W0 W->(∀f∈F,f.2 W)->Fin a W
 |o::rest,i,a,F,G=>
  match Ss.lookup i with
  |none=> ∃v,((Region.wanted o (yielded ops a.tmps)=true/\ ∀W,Ov ops R0 R1 m W0 F G i W->(execOp a.eval o).run P W= .ok (.value v) W)∨
    (Region.wanted o (yielded ops a.tmps)=false/\v=undef))/\gB X Ps P ops R0 R1 m Ss Fin W0 rest (i+1) (a.put o.dst v) F G
  |some s=>Region.wanted o (yielded ops a.tmps)=true/\(∃v,s.pure (lD o a) v)/\
    (∀W,Ov ops R0 R1 m W0 F G i W->Does X P o a.eval W (fun v W'=>s.pure (lD o a) v/\s.world (lD o a) v W'/\um R0 R1 m i W W'/\Ps i (lD o a) v W'))/\
    ((∀v W W',s.world (lD o a) v W->jE R0 R1 m i W W'->s.world (lD o a) v W')/\(∀v W W',Ps i (lD o a) v W->R0 W W'->Ps i (lD o a) v W'))/\
    ∀v,s.pure (lD o a) v->gB X Ps P ops R0 R1 m Ss Fin W0 rest (i+1) (a.put o.dst v) ((i,s.world (lD o a) v)::F) ((i,Ps i (lD o a) v)::G)
section
variable {X : List PanicEntry → World → Prop} {Ps : qY} {P : Program} {ops : Array Oper} {R0 R1 : World → World → Prop} {m : Option Nat} {Ss : List (Nat × RG.Spec)} {W0 : World} {a0 : Act}
def Node (X:List PanicEntry->World->Prop) (Ps:qY) (P:Program) (ops:Array Oper) (R0 R1:World->World->Prop) (m:Option Nat) (Ss:List (Nat×RG.Spec)) (W0:World) (a0:Act) (env:Nat->Value) (i:Nat) (o:Oper):Prop:=
 match Ss.lookup i with
 |none=>(Region.wanted o (yielded ops (pf ops a0 env i).tmps)=true/\ ∀W,oW Ps ops R0 R1 m Ss W0 a0 env i W->(execOp (pf ops a0 env i).eval o).run P W= .ok (.value (env i)) W)∨
   (Region.wanted o (yielded ops (pf ops a0 env i).tmps)=false/\env i=undef)
 |some s=>Region.wanted o (yielded ops (pf ops a0 env i).tmps)=true/\s.pure (lD o (pf ops a0 env i)) (env i)/\
   (∀W,oW Ps ops R0 R1 m Ss W0 a0 env i W->Does X P o (pf ops a0 env i).eval W (fun v W'=>s.pure (lD o (pf ops a0 env i)) v/\s.world (lD o (pf ops a0 env i)) v W'/\um R0 R1 m i W W'/\Ps i (lD o (pf ops a0 env i)) v W'))/\
   (∀v W W',s.world (lD o (pf ops a0 env i)) v W->jE R0 R1 m i W W'->s.world (lD o (pf ops a0 env i)) v W')/\
   (∀v W W',Ps i (lD o (pf ops a0 env i)) v W->R0 W W'->Ps i (lD o (pf ops a0 env i)) v W')
theorem Ox {env env':Nat->Value} {i:Nat} {o:Oper} (h: ∀j,j<=i->env j=env' j) (hn:Node X Ps P ops R0 R1 m Ss W0 a0 env i o):Node X Ps P ops R0 R1 m Ss W0 a0 env' i o:=by
 have hp:pf ops a0 env i=pf ops a0 env' i:=iZ fun j hj=>h j ϑ;have hr: ∀W,oW Ps ops R0 R1 m Ss W0 a0 env' i W->oW Ps ops R0 R1 m Ss W0 a0 env i W:=fun W=>pR fun j hj=>(h j ϑ).symm;unfold Node at*
 rw[<-hp, <-h i (ah _)];cases hs:Ss.lookup i with
 |none=>
  simp only[hs] at hn⊢;exact hn.imp (fun x=>⟨x.1,fun W hW=>x.2 W (hr W hW)⟩) id
 |some s=>
  simp only[hs] at hn⊢;exact⟨hn.1,hn.2.1,fun W hW=>hn.2.2.1 W (hr W hW),hn.2.2.2⟩
variable {k : Nat} (hc : Chk ops k)
include hc
theorem along {Fin:Act->World->Prop} {env:Nat->Value} {l:List Nat} (hl: ∀i∈l,i<k) (hd:Down ops (· ∈l))
 (ε: ∀i∈l, ∀o,ops[i]? =some o->Rec Ps P ops R0 R1 m Ss W0 a0 env i o)
 (Aq:gB X Ps P ops R0 R1 m Ss Fin W0 (ops.toList.take k) 0 a0 [] []):
 ∃env',(∀i∈l,env' i=env i)/\(∀i o,i<k->ops[i]? =some o->Node X Ps P ops R0 R1 m Ss W0 a0 env' i o)/\
  (∀W,R1 W0 W->(∀j s,Ss.lookup j=some s->j<k->RG.Left ops a0 env' j s W)->Fin (pf ops a0 env' k) W):=by
 have Ib:(ops.toList.take k).length=k:=by have:=hc.kn;simp[eO];omega
 have go: ∀t,t<=k-> ∃env',(∀i∈l,env' i=env i)/\(∀i o,i<t->ops[i]? =some o->Node X Ps P ops R0 R1 m Ss W0 a0 env' i o)/\
  gB X Ps P ops R0 R1 m Ss Fin W0 ((ops.toList.take k).drop t) t (pf ops a0 env' t) (Fs ops Ss a0 env' t) (Gs Ps ops Ss a0 env' t):=by
  intro t;induction t with
  |zero=>exact fun _=>⟨env,fun _ _=>rfl,fun i o hi=>ϑ,by simpa [Fs,Gs,pf,jd] using Aq⟩
  |succ t ih=>
   intro ht;obtain⟨env',h1,h2,h3⟩:=ih ϑ;have htk:t<k:=ϑ;have tX:t<ops.size:=dU htk hc.kn;obtain⟨o,ho⟩: ∃o,ops[t]? =some o:=⟨_,tY tX⟩;have Pp:(ops.toList.take k).drop t=o::(ops.toList.take k).drop (t+1):=by
    rw[rM ϑ];congr 1;have:(ops.toList.take k)[t]? =some o:=by rw[List.getElem?_take,aB htk];simpa using ho
    rw[bZ ϑ] at this;exact gV this
   rw[Pp] at h3;unfold gB at h3;have hdst:lV ops t=o.dst:=vI ho;have gM: ∀v,(t∈l->v=env t)->(∀e:Nat->Value,(∀j,j<t->e j=env' j)->e t=v->Node X Ps P ops R0 R1 m Ss W0 a0 e t o)->
    (∀e:Nat->Value,(∀j,j<t->e j=env' j)->e t=v->gB X Ps P ops R0 R1 m Ss Fin W0 ((ops.toList.take k).drop (t+1)) (t+1) (pf ops a0 e (t+1)) (Fs ops Ss a0 e (t+1)) (Gs Ps ops Ss a0 e (t+1)))->
    ∃vH,(∀i∈l,vH i=env i)/\(∀i o,i<t+1->ops[i]? =some o->Node X Ps P ops R0 R1 m Ss W0 a0 vH i o)/\
     gB X Ps P ops R0 R1 m Ss Fin W0 ((ops.toList.take k).drop (t+1)) (t+1) (pf ops a0 vH (t+1)) (Fs ops Ss a0 vH (t+1)) (Gs Ps ops Ss a0 vH (t+1)):=by
    intro v hv hN hT;refine⟨fun j=>if j=t then v else env' j,?_,?_,?_⟩
    ·intro i hi;by_cases e:i=t
     ·subst e;simp only[aB];exact hv hi
     ·simp only[aj e];exact h1 i hi
    ·intro i o' hi ho';by_cases e:i=t
     ·subst e;rw[ho] at ho';cases ho';exact hN _ (fun j hj=>aj ϑ) (aB rfl)
     ·exact Ox (fun j hj=>(aj ϑ).symm) (h2 i o' ϑ ho')
    ·exact hT _ (fun j hj=>aj ϑ) (aB rfl)
   cases hs:Ss.lookup t with
   |none=>
    simp only[hs] at h3;obtain⟨v,hv,hT⟩:=h3;refine gM v ?_ ?_ ?_
    ·intro htl;have hR:=ε t htl o ho;have yA: ∀j,jA ops j t=true->j∈l:=fun j hj=>qJ hd tX htl hj;have hL:jN ops o (pf ops a0 env t) (pf ops a0 env' t):=Bj hc htk ho (fun j _ hj=>(h1 j (yA j hj)).symm);unfold Rec at hR;simp only[hs] at hR;rw[hL.wanted,hL.exec (hc.sel t o ho)] at hR;rcases hv with⟨hw,hv⟩|⟨hw,hv⟩
     ·rcases hR with⟨_,W,hW,hr⟩|⟨hw',_⟩
      ·have:=hv W (Hd (Gz hc hl hd (fun i hi=>(h1 i hi).symm) (fun j _=>yA j) hW));rw[hr] at this;injection this with e1 _;injection e1 with e2;exact e2.symm
      ·rw[hw] at hw';cases hw'
     ·rcases hR with⟨hw',_⟩|⟨_,hu⟩
      ·rw[hw] at hw';cases hw'
      ·rw[hv,hu]
    ·intro e he het;have hp:pf ops a0 e t=pf ops a0 env' t:=iZ he;unfold Node;simp only[hs];rw[hp,het];exact hv.imp (fun x=>⟨x.1,fun W hW=>x.2 W (Hd (pR he hW))⟩) id
    ·intro e he het;rw[O1,hdst,het,iZ he];have:Fs ops Ss a0 e (t+1)=Fs ops Ss a0 env' t:=by
      show(match Ss.lookup t with|none=>_|some s=>_)=_;simp only[hs];exact LM he
     rw[this];have:Gs Ps ops Ss a0 e (t+1)=Gs Ps ops Ss a0 env' t:=by
      show(match Ss.lookup t with|none=>_|some s=>_)=_;simp only[hs];exact LK he
     rw[this];exact hT
   |some s=>
    simp only[hs] at h3;obtain⟨hw,⟨v0,hv0⟩,Aw,UC,hT⟩:=h3;have key: ∀v,s.pure (lD o (pf ops a0 env' t)) v->(t∈l->v=env t)-> ∃vH,(∀i∈l,vH i=env i)/\(∀i o,i<t+1->ops[i]? =some o->Node X Ps P ops R0 R1 m Ss W0 a0 vH i o)/\
     gB X Ps P ops R0 R1 m Ss Fin W0 ((ops.toList.take k).drop (t+1)) (t+1) (pf ops a0 vH (t+1)) (Fs ops Ss a0 vH (t+1)) (Gs Ps ops Ss a0 vH (t+1)):=by
     intro v hv hvl;refine gM v hvl ?_ ?_
     ·intro e he het;have hp:pf ops a0 e t=pf ops a0 env' t:=iZ he;unfold Node;simp only[hs];rw[hp,het];exact⟨hw,hv,fun W hW=>Aw W (Hd (pR he hW)),UC⟩
     ·intro e he het;rw[O1,hdst,het,iZ he];have:Fs ops Ss a0 e (t+1)=(t,s.world (lD o (pf ops a0 env' t)) v)::Fs ops Ss a0 env' t:=by
       show(match Ss.lookup t with|none=>_|some s=>_)=_;simp only[hs];rw[LM he,iZ he,het,pM ho]
      rw[this];have:Gs Ps ops Ss a0 e (t+1)=(t,Ps t (lD o (pf ops a0 env' t)) v)::Gs Ps ops Ss a0 env' t:=by
       show(match Ss.lookup t with|none=>_|some s=>_)=_;simp only[hs];rw[LK he,iZ he,het,pM ho]
      rw[this];exact hT v hv
    by_cases htl:t∈l
    ·have hR:=ε t htl o ho;have yA: ∀j,jA ops j t=true->j∈l:=fun j hj=>qJ hd tX htl hj;have hL:jN ops o (pf ops a0 env t) (pf ops a0 env' t):=Bj hc htk ho (fun j _ hj=>(h1 j (yA j hj)).symm);unfold Rec at hR;simp only[hs] at hR;rw[hL.lD] at hR;exact key (env t) hR (fun _=>rfl)
    ·exact key v0 hv0 (fun h=>absurd h htl)
 obtain⟨env',h1,h2,h3⟩:=go k (ah _);refine⟨env',h1,h2,fun W hW hF=>?_⟩;rw[List.drop_of_length_le ϑ] at h3;unfold gB at h3;exact h3 W hW (fun f hf=>by
  obtain⟨j,s,hj,hs,rfl⟩:=Uo.1 hf;exact hF j s hs hj)
end
section
variable {X : List PanicEntry → World → Prop} {gM : Nat → (Act → World → Prop) → Act → World → Prop} {P : Program} {ops : Array Oper} {Qn : Act → World → Prop} {Ps : qY} {R0 R1 : World → World → Prop} {m : Option Nat} {Ss : List (Nat × RG.Spec)} {W0 : World} {a0 : Act} {k : Nat}
theorem YQ (hR:Dp R0 R1) (hc:Chk ops k) (hmono: ∀i (K K':Act->World->Prop) a w,(∀a w,K a w->K' a w)->gM i K a w->gM i K' a w)
 (Aw: ∀(i:Nat) (o:Oper) (K:Act->World->Prop) (a:Act) (W:World) (R:Value->World->Prop),a.defers=a0.defers->ops[i]? =some o->Region.wanted o (yielded ops a.tmps)=true->Does X P o a.eval W R->(∀v W',R v W'->K (a.put o.dst v) W')->gM i K a W)
 (Kt: ∀(i:Nat) (o:Oper) (K:Act->World->Prop) (a:Act) (W:World),ops[i]? =some o->Region.wanted o (yielded ops a.tmps)=false->K (a.put o.dst undef) W->gM i K a W)
 (Aq:gB X Ps P ops R0 R1 m Ss (Seq gM Qn (List.range' k (ops.size-k))) W0 (ops.toList.take k) 0 a0 [] []):
 ∀(fuel:Nat) (l:List Nat) (env:Nat->Value) (W:World),l.length+fuel=ops.size->l.Nodup->(∀i∈l,i<k)->Down ops (· ∈l)->
  (∀i∈l, ∀o,ops[i]? =some o->Rec Ps P ops R0 R1 m Ss W0 a0 env i o)->(∀j s,Ss.lookup j=some s->j∈l->RG.Left ops a0 env j s W)->
  R1 W0 W->((∀i,m=some i->i∉l)->R0 W0 W/\ ∀j s,Ss.lookup j=some s->j∈l->rD Ps ops a0 env j W)->Any gM ops Qn fuel (QV ops.size l) (jd ops env a0 l) W:=by
 intro fuel;induction fuel with
 |zero=>
  intro l env W Ib hnd hl hd ε hleft xC _;have hk:k=ops.size:=by
   have h1:=Uw hnd hl;have:=hc.kn;omega
  have hall:=all_in hnd hl ϑ;obtain⟨env',he,_,hfin⟩:=along (P:=P) hc hl hd ε Aq;have hf:=hfin W xC (fun j s hs hj=>RG.wJ hc hl hd (fun i hi=>(he i hi).symm) (hall j hj) (hleft j s hs (hall j hj)));have ea:jd ops env a0 l=pf ops a0 env' k:=PK (by rw[kr,kr]) fun t=>
   agree t (fun i hi=>⟨fun h=>by simpa using hl i h,fun h=>hall i (by simpa using h)⟩) (fun i hi _=>(he i hi).symm) (fun i j hi hj=>hc.Yt i j (hl i hi) (hl j hj) t)
  rw[Ch (k:=k) (fun i=>⟨hl i,hall i⟩),ea,hk];rw[show ops.size-k=0 from by omega] at hf;rw[hk] at hf;exact RG.Lt hc hmono 0 ops.size _ _ ϑ ϑ hf
 |succ fuel ih=>
  intro l env W Ib hnd hl hd ε hleft xC hnil;obtain⟨env',he,U3,hfin⟩:=along (P:=P) hc hl hd ε Aq;have hes: ∀i∈l,env i=env' i:=fun i hi=>(he i hi).symm;by_cases hfull:k<=l.length
  ·have hall:=all_in hnd hl hfull;have hk:l.length=k:=by have:=Uw hnd hl;omega
   have hf:=hfin W xC (fun j s hs hj=>RG.wJ hc hl hd hes (hall j hj) (hleft j s hs (hall j hj)));have ea:jd ops env a0 l=pf ops a0 env' k:=PK (by rw[kr,kr]) fun t=>
    agree t (fun i hi=>⟨fun h=>by simpa using hl i h,fun h=>hall i (by simpa using h)⟩) (fun i hi _=>hes i hi) (fun i j hi hj=>hc.Yt i j (hl i hi) (hl j hj) t)
   rw[Ch (k:=k) (fun i=>⟨hl i,hall i⟩),ea];have e:fuel+1=ops.size-k:=ϑ;rw[e];exact RG.Lt hc hmono (ops.size-k) k _ _ (by have:=hc.kn;omega) (ah _) hf
  ·--one more of the first k comes up
   have hex: ∃i,i<k/\i∉l/\ ∀j,j<i->j∈l:=by
    have h0: ∃i,i<k/\i∉l:=Classical.byContradiction fun GX=>by
     have hall: ∀i,i<k->i∈l:=fun i hi=>Classical.byContradiction fun h=>GX ⟨i,hi,h⟩;have:=List.Nodup.length_le_of_subset (l₁:=List.range k) (l₂:=l) List.nodup_range (fun x hx=>hall x (by simpa using hx));simp at this;omega
    obtain⟨i,hi,hil⟩:=h0;induction i using Nat.strongRecOn with
    |_ i ihh=>
     by_cases hj: ∃j,j<i/\j∉l
     ·obtain⟨j,hji,hjl⟩:=hj;exact ihh j hji ϑ hjl
     ·exact⟨i,hi,hil,fun j hji=>Classical.byContradiction fun h=>hj ⟨j,hji,h⟩⟩
   refine⟨fun e=>?_,fun i hi=>?_⟩
   ·obtain⟨i,hi,hil,hbelow⟩:=hex;have:i∈Region.ready .any ops (QV ops.size l):=RG.mem_ready.2 ⟨dU hi hc.kn,hil,fun o ho e he hb=>by
     have:=hc.lt i o ho e he hb;exact⟨hbelow _ this,by have:=hc.kn;omega⟩⟩
    rw[e] at this;cases this
   ·obtain⟨Φ,hil,UN⟩:=RG.mem_ready.1 hi;obtain⟨o,ho⟩: ∃o,ops[i]? =some o:=⟨_,tY Φ⟩;have yA: ∀j,jA ops j i=true->j≠i->j∈l:=fun j hj hne=>Sa hd ho (fun e he hb=>(UN o ho e he hb).1) hj hne;have hik:i<k:=Classical.byContradiction fun hge=>by
     obtain⟨j,hj,hjl,_⟩:=hex;exact hjl (yA j (hc.tail i ϑ Φ j hj) ϑ)
    have hN:=U3 i o hik ho;have hL:jN ops o (jd ops env a0 l) (pf ops a0 env' i):=by
     intro t ht;refine agree t ?_ (fun j hj _=>hes j hj) (fun x y hx hy=>hc.Yt x y (hl x hx) (hl y hy) t);intro j hd';by_cases hji:j=i
     ·subst hji;simp[hil]
     ·constructor
      ·intro hjl;rcases hc.look i o hik ho t ht j (hl j hjl) hd' (fun e=>hji e.symm) with h|h
       ·simpa using h.1
       ·exact absurd (qJ hd (dU (hl j hjl) hc.kn) hjl h.2) hil
      ·intro hjr;have am0:j<i:=by simpa using hjr
       rcases hc.look i o hik ho t ht j ϑ hd' (fun e=>hji e.symm) with h|h
       ·exact yA j h.2 hji
       ·omega
    have Cu:oW Ps ops R0 R1 m Ss W0 a0 env' i W:=by
     refine⟨?_,fun j s hs hj ha=>RG.wJ hc hl hd hes (yA j ha ϑ) (hleft j s hs (yA j ha ϑ)),fun hm j s hs hj ha=>
      yU hc hl hd hes (yA j ha ϑ) ((hnil (fun x hx=>by rw[hm] at hx;cases hx;exact hil)).2 j s hs (yA j ha ϑ))⟩
     unfold jE;by_cases hm:m=some i
     ·rw[aB hm];exact(hnil (fun x hx=>by rw[hm] at hx;cases hx;exact hil)).1
     ·rw[aj hm];exact xC
    have ho':lV ops i=o.dst:=vI ho;have hnd':(l++[i]).Nodup:=by
     rw[List.nodup_append];refine⟨hnd,by simp,fun x hx y hy=>?_⟩;have:y=i:=by simpa using hy
     subst this;exact fun e=>hil (e▸hx)
    have hl': ∀x∈l++[i],x<k:=fun x hx=>by
     rcases gz.1 hx with h|h
     ·exact hl x h
     ·have:x=i:=by simpa using h
      omega
    have hd':Down ops (· ∈l++[i]):=by
     intro x ox hox hx e he hb;rcases gz.1 hx with h|h
     ·exact mi _ (hd x ox hox h e he hb)
     ·have:x=i:=by simpa using h
      subst this;rw[ho] at hox;cases hox;exact mi _ (UN o ho e he hb).1
    have hlen':(l++[i]).length+fuel=ops.size:=by simp;omega
    have close: ∀v W',(∀e:Nat->Value,(∀j,j<i->e j=env' j)->e i=v->Rec Ps P ops R0 R1 m Ss W0 a0 e i o)->
     (∀e:Nat->Value,(∀j,j∈l->e j=env' j)->(∀j,j<i->e j=env' j)->e i=v-> ∀j s,Ss.lookup j=some s->j∈l++[i]->RG.Left ops a0 e j s W')->R1 W0 W'->((∀x,m=some x->x∉l++[i])->R0 W0 W')->
     ((∀x,m=some x->x∉l++[i])-> ∀e:Nat->Value,(∀j,j∈l->e j=env' j)->(∀j,j<i->e j=env' j)->e i=v-> ∀j s,Ss.lookup j=some s->j∈l++[i]->rD Ps ops a0 e j W')->
     Any gM ops Qn fuel ((QV ops.size l).setIfInBounds i true) ((jd ops env a0 l).put o.dst v) W':=by
     intro v W' hR hLf hE hE0 hLp;have e1:jd ops (fun j=>if j=i then v else env' j) a0 (l++[i])=(jd ops env a0 l).put o.dst v:=by
      rw[jQ,ho',aB rfl];congr 1;exact xZ fun j hj=>by
       have:j≠i:=fun e=>hil (e▸hj);rw[aj this];exact he j hj
     rw[<-e1, <-Cg];have hag: ∀j∈l,env j=(fun j=>if j=i then v else env' j) j:=fun j hj=>by
      have:j≠i:=fun e=>hil (e▸hj);simp only[aj this];exact hes j hj
     refine ih (l++[i]) _ W' hlen' hnd' hl' hd' ?_ ?_ hE (fun GX=>⟨hE0 GX,hLp GX _ (fun j hj=>aj (fun(e:j=i)=>hil (by rw[<-e];exact hj))) (fun j hj=>aj ϑ) (aB rfl)⟩)
     ·intro x hx ox hox;rcases gz.1 hx with h|h
      ·exact abJ hc hl hd hag h hox (ε x h ox hox)
      ·have:x=i:=by simpa using h
       subst this;rw[ho] at hox;cases hox;exact hR _ (fun j hj=>aj ϑ) (aB rfl)
     ·exact hLf _ (fun j hj=>aj (fun(e:j=i)=>hil (by rw[<-e];exact hj))) (fun j hj=>aj ϑ) (aB rfl)
    have old: ∀(e:Nat->Value),(∀j,j∈l->e j=env' j)-> ∀j s W',Ss.lookup j=some s->j∈l->jE R0 R1 m j W W'->RG.Left ops a0 e j s W':=by
     intro e zJ j s W' hs hj hE;have hNj: ∃oj,ops[j]? =some oj:=⟨_,tY (dU (hl j hj) hc.kn)⟩;obtain⟨oj,hoj⟩:=hNj;have UC:=U3 j oj (hl j hj) hoj;unfold Node at UC;simp only[hs] at UC;have h1:RG.Left ops a0 env' j s W:=RG.wJ hc hl hd hes hj (hleft j s hs hj);refine RG.wJ hc hl hd (fun x hx=>(zJ x hx).symm) hj ?_;unfold RG.Left at h1⊢;rw[pM hoj] at h1⊢;exact UC.2.2.2.1 _ W W' h1 hE
    have acU:(∀x,m=some x->x∉l)-> ∀(e:Nat->Value),(∀j,j∈l->e j=env' j)-> ∀j s W',Ss.lookup j=some s->j∈l->R0 W W'->rD Ps ops a0 e j W':=by
     intro GX e zJ j s W' hs hj hE;have hNj: ∃oj,ops[j]? =some oj:=⟨_,tY (dU (hl j hj) hc.kn)⟩;obtain⟨oj,hoj⟩:=hNj;have UC:=U3 j oj (hl j hj) hoj;unfold Node at UC;simp only[hs] at UC;have h1:rD Ps ops a0 env' j W:=yU hc hl hd hes hj ((hnil GX).2 j s hs hj);refine yU hc hl hd (fun x hx=>(zJ x hx).symm) hj ?_;unfold rD at h1⊢;rw[pM hoj] at h1⊢;exact UC.2.2.2.2 _ W W' h1 hE
    unfold Node at hN;cases hs:Ss.lookup i with
    |none=>
     simp only[hs] at hN;have same: ∀v,v=env' i->((Region.wanted o (yielded ops (pf ops a0 env' i).tmps)=true/\ ∃W,oW Ps ops R0 R1 m Ss W0 a0 env' i W/\(execOp (pf ops a0 env' i).eval o).run P W= .ok (.value (env' i)) W)∨
      (Region.wanted o (yielded ops (pf ops a0 env' i).tmps)=false/\env' i=undef))->Any gM ops Qn fuel ((QV ops.size l).setIfInBounds i true) ((jd ops env a0 l).put o.dst v) W:=by
      intro v hv XL;refine close v W ?_ ?_ xC ?_ ?_
      ·intro e zJ Yc;have hp:pf ops a0 e i=pf ops a0 env' i:=iZ zJ;unfold Rec;simp only[hs];rw[hp,Yc,hv];exact XL.imp (fun x=>⟨x.1,by obtain⟨Wx,h1,h2⟩:=x.2;exact⟨Wx,pR (fun j hj=>(zJ j hj).symm) h1,h2⟩⟩) id
      ·intro e hel zJ Yc j s hjs hj;rcases gz.1 hj with h|h
       ·exact old e hel j s W hjs h (hR.XA j W)
       ·have:j=i:=by simpa using h
        subst this;rw[hs] at hjs;cases hjs
      ·intro GX;exact(hnil (fun x hx hxl=>GX x hx (mi _ hxl))).1
      ·intro GX e hel zJ Yc j s hjs hj;rcases gz.1 hj with h|h
       ·exact acU (fun x hx hxl=>GX x hx (mi _ hxl)) e hel j s W hjs h (hR.refl W)
       ·have:j=i:=by simpa using h
        subst this;rw[hs] at hjs;cases hjs
     rcases hN with⟨hw,hrun⟩|⟨hw,hu⟩
     ·refine Aw i o _ _ W (fun v W'=>v=env' i/\W'=W) (kr env a0 l) ho (by rw[hL.wanted];exact hw) ?_ ?_
      ·unfold Does;rw[hL.exec (hc.sel i o ho),hrun W Cu];exact⟨rfl,rfl⟩
      ·rintro v W' ⟨hv,rfl⟩;exact same v hv (.inl ⟨hw,_,Cu,hrun _ Cu⟩)
     ·refine Kt i o _ _ W ho (by rw[hL.wanted];exact hw) ?_;exact same undef hu.symm (.inr ⟨hw,hu⟩)
    |some s=>
     simp only[hs] at hN;obtain⟨hw,_,hdo,UC⟩:=hN;have aee:=hdo W Cu;have aed:Does X P o (jd ops env a0 l).eval W (fun v W'=>s.pure (lD o (pf ops a0 env' i)) v/\s.world (lD o (pf ops a0 env' i)) v W'/\um R0 R1 m i W W'/\Ps i (lD o (pf ops a0 env' i)) v W'):=by
      unfold Does at aee⊢;rw[hL.exec (hc.sel i o ho)];exact aee
     refine Aw i o _ _ W _ (kr env a0 l) ho (by rw[hL.wanted];exact hw) aed ?_;rintro v W' ⟨adu,hworld,hE,hpre⟩;refine close v W' ?_ ?_ ?_ ?_ ?_
     ·intro e zJ Yc;have hp:pf ops a0 e i=pf ops a0 env' i:=iZ zJ;unfold Rec;simp only[hs];rw[hp,Yc];exact adu
     ·intro e hel zJ Yc j s' hjs hj;rcases gz.1 hj with h|h
      ·refine old e hel j s' W' hjs h ?_;have hji:j≠i:=fun x=>hil (x▸h);unfold um at hE;unfold jE;by_cases hm:m=some i
       ·rw[aB hm] at hE;rw[aj (by rw[hm];exact fun x=>hji (gV x).symm)]
        exact hE
       ·rw[aj hm] at hE;split
        ·exact hE
        ·exact hR.sub hE
      ·have:j=i:=by simpa using h
       subst this;rw[hs] at hjs;cases hjs;unfold RG.Left;rw[pM ho,iZ zJ,Yc];exact hworld
     ·refine hR.Z7 xC ?_;unfold um at hE;split at hE
      ·exact hE
      ·exact hR.sub hE
     ·intro GX;have hm:m≠some i:=fun hm=>GX i hm ϕ;unfold um at hE;rw[aj hm] at hE;exact hR.Z8 (hnil (fun x hx hxl=>GX x hx (mi _ hxl))).1 hE
     ·intro GX e hel zJ Yc j s' hjs hj;have hm:m≠some i:=fun hm=>GX i hm ϕ;unfold um at hE;rw[aj hm] at hE;rcases gz.1 hj with h|h
      ·exact acU (fun x hx hxl=>GX x hx (mi _ hxl)) e hel j s' W' hjs h hE
      ·have:j=i:=by simpa using h
       subst this;unfold rD;rw[pM ho,iZ zJ,Yc];exact hpre
end
theorem wH {X:List PanicEntry->World->Prop} {gM:Nat->(Act->World->Prop)->Act->World->Prop} {P:Program} {ops:Array Oper} {Qn:Act->World->Prop} {Ps:qY} {R0 R1:World->World->Prop} {m:Option Nat} {Ss:List (Nat×RG.Spec)} {W0 W:World} {a0:Act} {k:Nat}
 (hR:Dp R0 R1) (hc:RY ops k=true) (hmono: ∀i (K K':Act->World->Prop) a w,(∀a w,K a w->K' a w)->gM i K a w->gM i K' a w)
 (Aw: ∀(i:Nat) (o:Oper) (K:Act->World->Prop) (a:Act) (W:World) (R:Value->World->Prop),a.defers=a0.defers->ops[i]? =some o->Region.wanted o (yielded ops a.tmps)=true->Does X P o a.eval W R->(∀v W',R v W'->K (a.put o.dst v) W')->gM i K a W)
 (Kt: ∀(i:Nat) (o:Oper) (K:Act->World->Prop) (a:Act) (W:World),ops[i]? =some o->Region.wanted o (yielded ops a.tmps)=false->K (a.put o.dst undef) W->gM i K a W)
 (hW:R0 W0 W)
 (Aq:gB X Ps P ops R0 R1 m Ss (Seq gM Qn (List.range' k (ops.size-k))) W0 (ops.toList.take k) 0 a0 [] []):
 Any gM ops Qn ops.size (Array.replicate ops.size false) a0 W:=
 YQ hR (RG.Da hc) hmono Aw Kt Aq ops.size [] (fun _=>undef) W ϕ List.nodup_nil ϕ (fun i o _ h=>by cases h) ϕ ϕ (hR.sub hW) (fun _=>⟨hW,by simp⟩)
end Go.RX
namespace Go.RG
open Go.RowKit
theorem NN {X:List PanicEntry->World->Prop} {P:Program} {o:Oper} {ρ:Operand->Value} {W:World} {R:Value->World->Prop} (h:Does P o ρ W R):RX.Does X P o ρ W R:=by
 unfold Does at h;unfold RX.Does;generalize (execOp ρ o).run P W=r at*
 cases r with
 |ok x w'=>cases x <;>first|exact h|exact Calls.mono h fun _ _=> .inl
 |halt x w'=>exact h
theorem agZ {P:Program} {o:Oper} {ρ:Operand->Value} {W:World} {R:Value->World->Prop} (h:RX.Does (fun _ _=>False) P o ρ W R):Does P o ρ W R:=by
 unfold RX.Does at h;unfold Does;generalize (execOp ρ o).run P W=r at*
 cases r with
 |ok x w'=>cases x <;>first|exact h|exact Calls.mono h fun _ _ h=>h.elim id fun⟨_,_,h⟩=>h.elim
 |halt x w'=>exact h
abbrev gB:=RX.gB (fun _ _=>False)
theorem wH {gM:Nat->(Act->World->Prop)->Act->World->Prop} {P:Program} {ops:Array Oper} {Qn:Act->World->Prop} {Ps:qY} {R0 R1:World->World->Prop} {m:Option Nat} {Ss:List (Nat×Spec)} {W0 W:World} {a0:Act} {k:Nat}
 (hR:Dp R0 R1) (hc:RY ops k=true) (hmono: ∀i (K K':Act->World->Prop) a w,(∀a w,K a w->K' a w)->gM i K a w->gM i K' a w)
 (Aw: ∀(i:Nat) (o:Oper) (K:Act->World->Prop) (a:Act) (W:World) (R:Value->World->Prop),ops[i]? =some o->Region.wanted o (yielded ops a.tmps)=true->Does P o a.eval W R->(∀v W',R v W'->K (a.put o.dst v) W')->gM i K a W)
 (Kt: ∀(i:Nat) (o:Oper) (K:Act->World->Prop) (a:Act) (W:World),ops[i]? =some o->Region.wanted o (yielded ops a.tmps)=false->K (a.put o.dst undef) W->gM i K a W)
 (hW:R0 W0 W)
 (Aq:gB Ps P ops R0 R1 m Ss (Seq gM Qn (List.range' k (ops.size-k))) W0 (ops.toList.take k) 0 a0 [] []):
 Any gM ops Qn ops.size (Array.replicate ops.size false) a0 W:=
 RX.wH hR hc hmono (fun i o K a W R _ ho hw hd hK=>Aw i o K a W R ho hw (agZ hd) hK) Kt hW Aq
theorem any_eq {P:Program} {ops:Array Oper} {Q:Exit->Act->World->Prop}: ∀(fuel:Nat) (l:Array Bool) (a:Act) (w:World),Any (wpOp P ops Q) ops (Q .normal) fuel l a w->wpAny P .any ops Q fuel l a w:=by
 intro fuel;induction fuel with
 |zero=>exact fun l a w h=>h
 |succ fuel ih=>exact fun l a w h=>⟨h.1,fun i hi=>wpOp_mono (fun a w=>ih _ a w) (h.2 i hi)⟩
theorem seq_eq {P:Program} {ops:Array Oper} {Q:Exit->Act->World->Prop} (l:List Nat):Seq (wpOp P ops Q) (Q .normal) l=wpOps P ops Q l:=by
 induction l with
 |nil=>rfl
 |cons i l ih=>funext a w;rw[wpOps_cons, <-ih];rfl
theorem wF {P:Program} {o:Oper} {a:Act} {W:World} {R:Value->World->Prop} {K:Act->World->Prop} {Q:Exit->Act->World->Prop} (h:Does P o a.eval W R) (hK: ∀v W',R v W'->K (a.put o.dst v) W'):o.wp P a W K Q:=by
 unfold Does at h;unfold Oper.wp;generalize (execOp a.eval o).run P W=r at*
 cases r with
 |ok x w'=>
  cases x <;>simp only[Oper.upon] at h⊢ <;>first|exact hK _ _ h|exact h.elim|skip
  exact Calls.mono h (fun e w'' ⟨v,he,hr⟩=>by subst he;exact hK _ _ hr)
 |halt x w'=>exact h.elim
end Go.RG
namespace Go.RX
open Go.RowKit Go.RG
theorem wF {X:List PanicEntry->World->Prop} {P:Program} {o:Oper} {a:Act} {W:World} {R:Value->World->Prop} {K:Act->World->Prop} {Q:Exit->Act->World->Prop} (h:Does X P o a.eval W R) (hK: ∀v W',R v W'->K (a.put o.dst v) W') (hX: ∀ps W,X ps W->Q (.panic ps) a W):o.wp P a W K Q:=by
 unfold Does at h;unfold Oper.wp;generalize (execOp a.eval o).run P W=r at*
 cases r with
 |ok x w'=>
  cases x <;>simp only[Oper.upon] at h⊢ <;>first|exact hK _ _ h|exact h.elim|skip
  exact Calls.mono h (fun e w'' h=>by
   rcases h with⟨v,he,hr⟩|⟨ps,he,hx⟩
   ·subst he;exact hK _ _ hr
   ·subst he;exact hX _ _ hx)
 |halt x w'=>exact h.elim
theorem jC {X:List PanicEntry->World->Prop} {R0 R1:World->World->Prop} (hR:Dp R0 R1) {Ps:qY} {P:Program} {id:Nat} {ops:List Oper} {Q:Exit->Act->World->Prop} {a:Act} {w:World} (hdr:R0 w w.drew) (k:Nat) (m:Option Nat) (Ss:List (Nat×RG.Spec))
 (hX: ∀ps a1 W,a1.defers=a.defers->X ps W->Q (.panic ps) a1 W) (hm:P.follows .mixedOrders=true) (hc:RY ops.toArray k=true)
 (h:gB X Ps P ops.toArray R0 R1 m Ss (fun a w=>wpList P ops.toArray Q (ops.drop k) a w) w (ops.take k) 0 a [] []):(Code.region id ops.toArray true).wp P Q a w:=by
 refine wp_region_any hm (any_eq _ _ _ _ ?_);refine wH (X:=X) (Ps:=Ps) (P:=P) (R0:=R0) (R1:=R1) (m:=m) (Ss:=Ss) (W0:=w) hR hc (fun i K K' a w h hs=>wpOp_mono h hs) ?_ ?_ hdr ?_
 ·intro i o K a W R hdf ho hw hd hK;unfold wpOp;simp only[ho];rw[aB hw];exact .inl (wF hd hK (fun ps W=>hX ps _ W hdf))
 ·intro i o K a W ho hw hK;unfold wpOp;simp only[ho];rw[aj (by rw[hw];simp)];exact hK
 ·have e:(fun a w=>wpList P ops.toArray Q (ops.drop k) a w)=Seq (wpOp P ops.toArray Q) (Q .normal) (List.range' k (ops.toArray.size-k)):=by
   funext a w;rw[seq_eq];have hkn:=(RG.Da hc).kn;have Ib:ops.toArray.size-k=(ops.drop k).length:=ϕ;rw[Ib,wpOps_eq_wpList (ops.drop k) k (fun j=>ϕ)]
  rw[<-e];exact h
theorem fo (X:List PanicEntry->World->Prop) {P:Program} {id:Nat} {ops:List Oper} {Q:Exit->Act->World->Prop} {a:Act} {w:World} (k:Nat) (Ms:List Nat) (m:Option Nat) (Ss:List (Nat×RG.Spec))
 (hX: ∀ps a1 W,a1.defers=a.defers->X ps W->Q (.panic ps) a1 W) (hm:P.follows .mixedOrders=true) (hc:RY ops.toArray k=true)
 (h:gB X JZ P ops.toArray (Ext []) (Ext Ms) m Ss (fun a w=>wpList P ops.toArray Q (ops.drop k) a w) w (ops.take k) 0 a [] []):(Code.region id ops.toArray true).wp P Q a w:=
 jC (xY Ms) ((Ext.refl [] w).drew) k m Ss hX hm hc h
end Go.RX
namespace Go.RG
open Go.RowKit
theorem jC {R0 R1:World->World->Prop} (hR:Dp R0 R1) {Ps:qY} {P:Program} {id:Nat} {ops:List Oper} {Q:Exit->Act->World->Prop} {a:Act} {w:World} (hdr:R0 w w.drew) (k:Nat) (m:Option Nat) (Ss:List (Nat×Spec))
 (hm:P.follows .mixedOrders=true) (hc:RY ops.toArray k=true)
 (h:gB Ps P ops.toArray R0 R1 m Ss (fun a w=>wpList P ops.toArray Q (ops.drop k) a w) w (ops.take k) 0 a [] []):(Code.region id ops.toArray true).wp P Q a w:=
 RX.jC hR hdr k m Ss (fun _ _ _ _ h=>h.elim) hm hc h
theorem fo {P:Program} {id:Nat} {ops:List Oper} {Q:Exit->Act->World->Prop} {a:Act} {w:World} (k:Nat) (Ms:List Nat) (m:Option Nat) (Ss:List (Nat×Spec))
 (hm:P.follows .mixedOrders=true) (hc:RY ops.toArray k=true)
 (h:gB JZ P ops.toArray (Ext []) (Ext Ms) m Ss (fun a w=>wpList P ops.toArray Q (ops.drop k) a w) w (ops.take k) 0 a [] []):(Code.region id ops.toArray true).wp P Q a w:=
 jC (xY Ms) ((Ext.refl [] w).drew) k m Ss hm hc h
structure qZ (B:Nat) (Ms:List Nat) (w w':World):Prop where
 os:w'.os=w.os
 tape:w'.tape=w.tape
 output:w'.output=w.output
 size:w.heap.size<=w'.heap.size
 block: ∀(k:Nat),k<w.heap.size->k<B->k∉Ms->w'.heap[k]? =w.heap[k]?
theorem qZ.sZ {B:Nat} {Ms:List Nat} {w w':World} (h:Ext [] w w'):qZ B Ms w w':=
 ⟨h.os,h.tape,h.output,h.size,fun k hk _ _=>h.block k hk ϕ⟩
theorem qZ.trans {B:Nat} {Ms:List Nat} {a b c:World} (h:qZ B Ms a b) (k:qZ B Ms b c):qZ B Ms a c:=
 ⟨k.os.trans h.os,k.tape.trans h.tape,k.output.trans h.output,gI h.size k.size,
   fun i hi hb hm=>(k.block i (dU hi h.size) hb hm).trans (h.block i hi hb hm)⟩
theorem Qv (B:Nat) (Ms:List Nat):Dp (Ext []) (qZ B Ms):=⟨Ext.refl [],Ext.trans,qZ.trans,qZ.sZ⟩
theorem nU {P:Program} {id:Nat} {ops:List Oper} {Q:Exit->Act->World->Prop} {a:Act} {w:World} (k:Nat) (Ms:List Nat) (m:Option Nat) (Ss:List (Nat×Spec)) (Ps:qY)
 (hm:P.follows .mixedOrders=true) (hc:RY ops.toArray k=true)
 (h:gB Ps P ops.toArray (Ext []) (qZ w.heap.size Ms) m Ss (fun a w=>wpList P ops.toArray Q (ops.drop k) a w) w (ops.take k) 0 a [] []):(Code.region id ops.toArray true).wp P Q a w:=
 jC (Qv _ _) ((Ext.refl [] w).drew) k m Ss hm hc h
class Kept (R1:World->World->Prop) (Ms:outParam (List Nat)) (W0:World):Prop where
 nil: ∀{a b},Ext [] a b->R1 a b
 ext: ∀{W},R1 W0 W->Ext Ms W0 W
instance (Ms:List Nat) (W0:World):Kept (Ext Ms) Ms W0:=⟨Ext.nil,id⟩
instance (Ms:List Nat) (W0:World):Kept (qZ W0.heap.size Ms) Ms W0:=⟨qZ.sZ,fun h=>⟨h.os,h.tape,h.output,h.size,fun k hk hm=>h.block k hk hk hm⟩⟩
section
variable {P : Program} {ops : Array Oper} {R1 : World → World → Prop} {Ms : List Nat} {m : Option Nat} {Ss : List (Nat × Spec)} {Fin : Act → World → Prop} {W0 : World} {o : Oper} {rest : List Oper} {i : Nat} {a : Act} {F G : Facts} {Ps : qY}
theorem Ov.ext [Kept R1 Ms W0] {W:World} (h:Ov ops (Ext []) R1 m W0 F G i W):Ext Ms W0 W:=by
 have h1:=h.1;unfold jE at h1;split at h1
 ·exact h1.nil
 ·exact Kept.ext h1
theorem Hl [Kept R1 Ms W0] {W W':World} (h:Ext [] W W'):um (Ext []) R1 m i W W':=by
 unfold um;split
 ·exact Kept.nil (R1:=R1) (W0:=W0) h
 ·exact h
def Spec.block (B:Nat) (cs:Array Value) (t:TypeId):Spec:=
 ⟨fun _ v=> ∃b:Nat,v= .pointer (some ⟨b,0,none⟩),fun _ v W=> ∃b:Nat,v= .pointer (some ⟨b,0,none⟩)/\B<=b/\W.heap[b]? =some (.cells cs t (0,0))⟩
def Spec.slice (B:Nat) (cs:Array Value) (t:TypeId) (n:Nat):Spec:=
 ⟨fun _ v=> ∃b:Nat,v= .slice (some ⟨b,0,none⟩) n n,fun _ v W=> ∃b:Nat,v= .slice (some ⟨b,0,none⟩) n n/\B<=b/\W.heap[b]? =some (.cells cs t (0,0))⟩
end
end Go.RG
namespace Go.RX
open Go.RowKit Go.RG
section
variable {X : List PanicEntry → World → Prop} {P : Program} {ops : Array Oper} {R1 : World → World → Prop} {Ms : List Nat} {m : Option Nat} {Ss : List (Nat × RG.Spec)} {Fin : Act → World → Prop} {W0 : World} {o : Oper} {rest : List Oper} {i : Nat} {a : Act} {F G : Facts} {Ps : qY}
theorem eU [Kept R1 Ms W0] (hs:Ss.lookup i=none) (v:Value) (hw:Region.wanted o (yielded ops a.tmps)=true)
 (hr: ∀W:World,(∀b off,b<W0.heap.size->b∉Ms->W.cell? ⟨b,off,none⟩=W0.cell? ⟨b,off,none⟩)->(execOp a.eval o).run P W= .ok (.value v) W)
 (ht:gB X Ps P ops (Ext []) R1 m Ss Fin W0 rest (i+1) (a.put o.dst v) F G):gB X Ps P ops (Ext []) R1 m Ss Fin W0 (o::rest) i a F G:=by
 unfold gB;simp only[hs];exact⟨v,.inl ⟨hw,fun W hW=>hr W fun b off hb hm=>hW.ext.cell b off hb hm⟩,ht⟩
theorem fM [Kept R1 Ms W0] (hs:Ss.lookup i=none) (v:Value) (hw:Region.wanted o (yielded ops a.tmps)=true)
 (hr: ∀W:World,Ext Ms W0 W->(∀f∈F,jA ops f.1 i=true->f.2 W)->(execOp a.eval o).run P W= .ok (.value v) W)
 (ht:gB X Ps P ops (Ext []) R1 m Ss Fin W0 rest (i+1) (a.put o.dst v) F G):gB X Ps P ops (Ext []) R1 m Ss Fin W0 (o::rest) i a F G:=by
 unfold gB;simp only[hs];exact⟨v,.inl ⟨hw,fun W hW=>hr W hW.ext hW.2.1⟩,ht⟩
theorem zm (hs:Ss.lookup i=none) (hw:Region.wanted o (yielded ops a.tmps)=false)
 (ht:gB X Ps P ops (Ext []) R1 m Ss Fin W0 rest (i+1) (a.put o.dst undef) F G):gB X Ps P ops (Ext []) R1 m Ss Fin W0 (o::rest) i a F G:=by
 unfold gB;simp only[hs];exact⟨undef,.inr ⟨hw,rfl⟩,ht⟩
theorem bn (s:RG.Spec) (hs:Ss.lookup i=some s) (hw:Region.wanted o (yielded ops a.tmps)=true) (hex: ∃v,s.pure (lD o a) v)
 (hdo: ∀W:World,jE (Ext []) R1 m i W0 W->(∀f∈F,jA ops f.1 i=true->f.2 W)->Does X P o a.eval W (fun v W'=>s.pure (lD o a) v/\s.world (lD o a) v W'/\um (Ext []) R1 m i W W'))
 (UC: ∀v W W',s.world (lD o a) v W->jE (Ext []) R1 m i W W'->s.world (lD o a) v W')
 (ht: ∀v,s.pure (lD o a) v->gB X Ps P ops (Ext []) R1 m Ss Fin W0 rest (i+1) (a.put o.dst v) ((i,s.world (lD o a) v)::F) ((i,Ps i (lD o a) v)::G)) (hps: ∀x v W,Ps i x v W:=by intro _ _ _;exact True.intro):gB X Ps P ops (Ext []) R1 m Ss Fin W0 (o::rest) i a F G:=by
 unfold gB;simp only[hs];refine⟨hw,hex,fun W hW=>?_,⟨UC,fun v' _ W' _ _=>hps _ _ _⟩,ht⟩;have:=hdo W hW.1 hW.2.1;unfold Does at this⊢;split at this
 ·exact⟨this.1,this.2.1,this.2.2,hps _ _ _⟩
 ·exact⟨this.1,this.2.1,this.2.2,hps _ _ _⟩
 ·exact this.mono fun e w' h=>h.imp (fun⟨v,h1,h2,h3,h4⟩=>⟨v,h1,h2,h3,h4,hps _ _ _⟩) id
 ·exact this.elim
theorem bX {ρ:Operand->Value} {W:World} {R:Value->World->Prop} (f:FuncId) (args:Array Value) (he:(execOp ρ o).run P W= .ok (.enter f args) W)
 (h:Calls P f args W (fun e W'=>(∃v,e= .returned v/\R v W')∨ ∃ps,e= .panicked ps/\X ps W')):Does X P o ρ W R:=by
 unfold Does;rw[he];exact h
theorem iq {ρ:Operand->Value} {W W':World} {R:Value->World->Prop} (v:Value) (he:(execOp ρ o).run P W= .ok (.value v) W') (h:R v W'):Does X P o ρ W R:=by
 unfold Does;rw[he];exact h
theorem iY (B:Nat) (cs:Array Value) (t:TypeId) (hs:Ss.lookup i=some (RG.Spec.block B cs t)) (hB:B<=W0.heap.size) (hw:Region.wanted o (yielded ops a.tmps)=true) (γ: ∀x∈Ms,x<B) (hmi:m≠some i)
 (he: ∀W:World,(∀b off,b<W0.heap.size->b∉Ms->W.cell? ⟨b,off,none⟩=W0.cell? ⟨b,off,none⟩)->(execOp a.eval o).run P W= .ok (.value (.pointer (some ⟨W.heap.size,0,none⟩))) (W.alloc (.cells cs t)))
 (ht: ∀b:Nat,gB X Ps P ops (Ext []) (Ext Ms) m Ss Fin W0 rest (i+1) (a.put o.dst (.pointer (some ⟨b,0,none⟩))) ((i,fun W=> ∃c:Nat,Value.pointer (some ⟨b,0,none⟩)= .pointer (some ⟨c,0,none⟩)/\B<=c/\W.heap[c]? =some (.cells cs t (0,0)))::F) ((i,Ps i (lD o a) (.pointer (some ⟨b,0,none⟩)))::G)) (hps: ∀x v W,Ps i x v W:=by intro _ _ _;exact True.intro):
 gB X Ps P ops (Ext []) (Ext Ms) m Ss Fin W0 (o::rest) i a F G:=by
 refine bn _ hs hw ⟨.pointer (some ⟨0,0,none⟩),0,rfl⟩ ?_ ?_ ?_ ?_
 ·exact zbh
 ·exact zbL
 ·rintro v ⟨b,rfl⟩;exact ht b
 ·exact hps
theorem dI (B:Nat) (cs:Array Value) (t:TypeId) (n:Nat) (hs:Ss.lookup i=some (RG.Spec.slice B cs t n)) (hB:B<=W0.heap.size) (hw:Region.wanted o (yielded ops a.tmps)=true) (γ: ∀x∈Ms,x<B) (hmi:m≠some i)
 (he: ∀W:World,(∀b off,b<W0.heap.size->b∉Ms->W.cell? ⟨b,off,none⟩=W0.cell? ⟨b,off,none⟩)->(execOp a.eval o).run P W= .ok (.value (.slice (some ⟨W.heap.size,0,none⟩) n n)) (W.alloc (.cells cs t)))
 (ht: ∀b:Nat,gB X Ps P ops (Ext []) (Ext Ms) m Ss Fin W0 rest (i+1) (a.put o.dst (.slice (some ⟨b,0,none⟩) n n)) ((i,fun W=> ∃c:Nat,Value.slice (some ⟨b,0,none⟩) n n= .slice (some ⟨c,0,none⟩) n n/\B<=c/\W.heap[c]? =some (.cells cs t (0,0)))::F) ((i,Ps i (lD o a) (.slice (some ⟨b,0,none⟩) n n))::G)) (hps: ∀x v W,Ps i x v W:=by intro _ _ _;exact True.intro):
 gB X Ps P ops (Ext []) (Ext Ms) m Ss Fin W0 (o::rest) i a F G:=by
 refine bn _ hs hw ⟨.slice (some ⟨0,0,none⟩) n n,0,rfl⟩ ?_ ?_ ?_ ?_
 ·exact zbh
 ·exact zbL
 ·rintro v ⟨b,rfl⟩;exact ht b
 ·exact hps
end
section
variable {X : List PanicEntry → World → Prop} {P : Program} {ops : Array Oper} {R1 : World → World → Prop} {Ms : List Nat} {m : Option Nat} {Ss : List (Nat × RG.Spec)} {Fin : Act → World → Prop} {W0 : World} {o : Oper} {rest : List Oper} {i : Nat} {a : Act} {F G : Facts} {Ps : qY}
theorem zd [Kept R1 Ms W0] {v:Value} (ht:gB X Ps P ops (Ext []) R1 m Ss Fin W0 rest (i+1) (a.put o.dst v) F G) (hs:Ss.lookup i=none:=by rfl) (hw:Region.wanted o (yielded ops a.tmps)=true:=by rfl)
 (hr: ∀W:World,(∀b off,b<W0.heap.size->b∉Ms->W.cell? ⟨b,off,none⟩=W0.cell? ⟨b,off,none⟩)->(execOp a.eval o).run P W= .ok (.value v) W:=by
   intro W hW;go_simp;(try simp(disch:=omega) only[IntWalk.i64_in,Int.tdiv_eq_ediv_of_nonneg]);try rfl):gB X Ps P ops (Ext []) R1 m Ss Fin W0 (o::rest) i a F G:=
 eU hs v hw hr ht
end
end Go.RX
namespace Go.RG
open Go.RowKit
section
variable {P : Program} {ops : Array Oper} {R1 : World → World → Prop} {Ms : List Nat} {m : Option Nat} {Ss : List (Nat × Spec)} {Fin : Act → World → Prop} {W0 : World} {o : Oper} {rest : List Oper} {i : Nat} {a : Act} {F G : Facts} {Ps : qY}
abbrev eU:= @RX.eU fun _ _=>False
abbrev fM:= @RX.fM fun _ _=>False
abbrev zm:= @RX.zm fun _ _=>False
def Spec.val (v:Value):Spec:=⟨fun _ x=>x=v,fun _ _ _=>True⟩
theorem dQ [Kept R1 Ms W0] (v:Value) (hs:Ss.lookup i=some (Spec.val v)) (hw:Region.wanted o (yielded ops a.tmps)=true) (f:FuncId) (args:Array Value)
 (he: ∀W:World,(∀b off,b<W0.heap.size->b∉Ms->W.cell? ⟨b,off,none⟩=W0.cell? ⟨b,off,none⟩)->(execOp a.eval o).run P W= .ok (.enter f args) W)
 (pG: ∀W:World,Ext Ms W0 W->(∀f∈F,jA ops f.1 i=true->f.2 W)->Calls P f args W (fun e W'=>e= .returned v/\Ϙ W W'))
 (ht:gB Ps P ops (Ext []) R1 m Ss Fin W0 rest (i+1) (a.put o.dst v) F G) (hps: ∀x v W,Ps i x v W:=by intro _ _ _;exact True.intro):gB Ps P ops (Ext []) R1 m Ss Fin W0 (o::rest) i a F G:=by
 have mono: ∀(rest:List Oper) (i:Nat) (a:Act) (F F' G G':Facts),(∀f,f∈F'->f∈F∨ ∀W,f.2 W)->(∀f,f∈F->f∈F')->(∀f,f∈G->f∈G')->gB Ps P ops (Ext []) R1 m Ss Fin W0 rest i a F G->gB Ps P ops (Ext []) R1 m Ss Fin W0 rest i a F' G':=by
  intro rest;induction rest with
  |nil=>
   intro i a F F' G G' h1 h2 h3 h W hW hF;exact h W hW (fun f hf=>hF f (h2 f hf))
  |cons o rest ih=>
   intro i a F F' G G' h1 h2 h3 h;have Cu: ∀W,Ov ops (Ext []) R1 m W0 F' G' i W->Ov ops (Ext []) R1 m W0 F G i W:=fun W hW=>⟨hW.1,fun f hf ha=>hW.2.1 f (h2 f hf) ha,fun hm f hf ha=>hW.2.2 hm f (h3 f hf) ha⟩;have Pp: ∀(x:Nat×(World->Prop)) (A B:Facts),(∀f,f∈A->f∈B)-> ∀f,f∈x::A->f∈x::B:=by
    intro x A B hAB f hf;rcases eB.1 hf with rfl|hf
    ·simp
    ·simp[hAB f hf]
   unfold gB RX.gB at h⊢;cases hs:Ss.lookup i with
   |none=>
    simp only[hs] at h⊢;obtain⟨v,hv,ht⟩:=h;exact⟨v,hv.imp (fun x=>⟨x.1,fun W hW=>x.2 W (Cu W hW)⟩) id,ih _ _ _ _ _ _ h1 h2 h3 ht⟩
   |some s=>
    simp only[hs] at h⊢;obtain⟨x1,x2,x3,x4,x5⟩:=h;refine⟨x1,x2,fun W hW=>x3 W (Cu W hW),x4,fun v hv=>ih _ _ _ _ _ _ ?_ (Pp _ _ _ h2) (Pp _ _ _ h3) (x5 v hv)⟩;intro f hf;rcases eB.1 hf with rfl|hf
    ·exact .inl ϕ
    ·exact(h1 f hf).imp (fun h=>by simp[h]) id
 unfold gB RX.gB;simp only[hs];refine⟨hw,⟨v,rfl⟩,fun W hW=>?_,⟨fun _ _ _ _ _=>trivial,fun v' _ W' _ _=>hps _ _ _⟩,fun v' hv=>?_⟩
 ·refine NN ?_;unfold Does;rw[he W (fun b off hb hm=>hW.ext.cell b off hb hm)];exact(pG W hW.ext hW.2.1).mono fun e W' ⟨h1,h2⟩=>⟨v,h1,rfl,trivial,Hl (R1:=R1) (W0:=W0) (Ext.ay h2),hps _ _ _⟩
 ·have:v'=v:=hv;subst this;refine mono _ _ _ _ _ _ _ ?_ ?_ ?_ ht
  ·intro f hf;rcases eB.1 hf with rfl|hf
   ·exact .inr (fun _=>trivial)
   ·exact .inl hf
  ·intro f hf;simp[hf]
  ·intro f hf;simp[hf]
theorem bn (s:Spec) (hs:Ss.lookup i=some s) (hw:Region.wanted o (yielded ops a.tmps)=true) (hex: ∃v,s.pure (lD o a) v)
 (hdo: ∀W:World,jE (Ext []) R1 m i W0 W->(∀f∈F,jA ops f.1 i=true->f.2 W)->Does P o a.eval W (fun v W'=>s.pure (lD o a) v/\s.world (lD o a) v W'/\um (Ext []) R1 m i W W'))
 (UC: ∀v W W',s.world (lD o a) v W->jE (Ext []) R1 m i W W'->s.world (lD o a) v W')
 (ht: ∀v,s.pure (lD o a) v->gB Ps P ops (Ext []) R1 m Ss Fin W0 rest (i+1) (a.put o.dst v) ((i,s.world (lD o a) v)::F) ((i,Ps i (lD o a) v)::G)) (hps: ∀x v W,Ps i x v W:=by intro _ _ _;exact True.intro):gB Ps P ops (Ext []) R1 m Ss Fin W0 (o::rest) i a F G:=
 RX.bn s hs hw hex (fun W a b=>NN (hdo W a b)) UC ht hps
theorem jD (s:Spec) (hs:Ss.lookup i=some s) (hw:Region.wanted o (yielded ops a.tmps)=true) (hex: ∃v,s.pure (lD o a) v)
 (hdo: ∀W:World,jE (Ext []) R1 m i W0 W->(∀f∈F,jA ops f.1 i=true->f.2 W)->(m=some i-> ∀g∈G,jA ops g.1 i=true->g.2 W)->
   Does P o a.eval W (fun v W'=>s.pure (lD o a) v/\s.world (lD o a) v W'/\um (Ext []) R1 m i W W'/\Ps i (lD o a) v W'))
 (UC: ∀v W W',s.world (lD o a) v W->jE (Ext []) R1 m i W W'->s.world (lD o a) v W') (hsp: ∀v W W',Ps i (lD o a) v W->Ext [] W W'->Ps i (lD o a) v W')
 (ht: ∀v,s.pure (lD o a) v->gB Ps P ops (Ext []) R1 m Ss Fin W0 rest (i+1) (a.put o.dst v) ((i,s.world (lD o a) v)::F) ((i,Ps i (lD o a) v)::G)):gB Ps P ops (Ext []) R1 m Ss Fin W0 (o::rest) i a F G:=by
 unfold gB RX.gB;simp only[hs];exact⟨hw,hex,fun W hW=>NN (hdo W hW.1 hW.2.1 hW.2.2),⟨UC,hsp⟩,ht⟩
theorem bX {ρ:Operand->Value} {W:World} {R:Value->World->Prop} (f:FuncId) (args:Array Value) (he:(execOp ρ o).run P W= .ok (.enter f args) W)
 (h:Calls P f args W (fun e W'=> ∃v,e= .returned v/\R v W')):Does P o ρ W R:=by
 unfold Does;rw[he];exact h
theorem iq {ρ:Operand->Value} {W W':World} {R:Value->World->Prop} (v:Value) (he:(execOp ρ o).run P W= .ok (.value v) W') (h:R v W'):Does P o ρ W R:=by
 unfold Does;rw[he];exact h
abbrev iY:= @RX.iY fun _ _=>False
abbrev dI:= @RX.dI fun _ _=>False
end
section
variable {P : Program} {ops : Array Oper} {R1 : World → World → Prop} {Ms : List Nat} {m : Option Nat} {Ss : List (Nat × Spec)} {Fin : Act → World → Prop} {W0 : World} {o : Oper} {rest : List Oper} {i : Nat} {a : Act} {F G : Facts} {Ps : qY}
theorem zd [Kept R1 Ms W0] {v:Value} (ht:gB Ps P ops (Ext []) R1 m Ss Fin W0 rest (i+1) (a.put o.dst v) F G) (hs:Ss.lookup i=none:=by rfl) (hw:Region.wanted o (yielded ops a.tmps)=true:=by rfl)
 (hr: ∀W:World,(∀b off,b<W0.heap.size->b∉Ms->W.cell? ⟨b,off,none⟩=W0.cell? ⟨b,off,none⟩)->(execOp a.eval o).run P W= .ok (.value v) W:=by
   intro W hW;go_simp;(try simp(disch:=omega) only[IntWalk.i64_in,Int.tdiv_eq_ediv_of_nonneg]);try rfl):gB Ps P ops (Ext []) R1 m Ss Fin W0 (o::rest) i a F G:=
 eU hs v hw hr ht
theorem zn [Kept R1 Ms W0] {v:Value} (ht:gB Ps P ops (Ext []) R1 m Ss Fin W0 rest (i+1) (a.put o.dst v) F G) (hs:Ss.lookup i=none:=by rfl) (hw:Region.wanted o (yielded ops a.tmps)=true:=by rfl)
 (hr: ∀W:World,(∀b off,b<W0.heap.size->b∉Ms->W.cell? ⟨b,off,none⟩=W0.cell? ⟨b,off,none⟩)->(execOp a.eval o).run P W= .ok (.value v) W:=by
   intro W hW;go_simp;(try simp(disch:=omega) only[IntWalk.i64_in]);try rfl):gB Ps P ops (Ext []) R1 m Ss Fin W0 (o::rest) i a F G:=
 eU hs v hw hr ht
theorem zk (ht:gB Ps P ops (Ext []) R1 m Ss Fin W0 rest (i+1) (a.put o.dst undef) F G) (hs:Ss.lookup i=none:=by rfl) (hw:Region.wanted o (yielded ops a.tmps)=false:=by rfl):gB Ps P ops (Ext []) R1 m Ss Fin W0 (o::rest) i a F G:=
 zm hs hw ht
theorem zv [Kept R1 Ms W0] {v:Value} (f:FuncId) {args:Array Value} (hs:Ss.lookup i=some (Spec.val v):=by rfl) (hw:Region.wanted o (yielded ops a.tmps)=true:=by rfl)
 (he: ∀W:World,(∀b off,b<W0.heap.size->b∉Ms->W.cell? ⟨b,off,none⟩=W0.cell? ⟨b,off,none⟩)->(execOp a.eval o).run P W= .ok (.enter f args) W:=by
   intro W hW;go_simp;(try simp(disch:=omega) only[IntWalk.i64_in,Int.tdiv_eq_ediv_of_nonneg]);try rfl)
 (h: ∀W:World,Ext Ms W0 W->(∀f∈F,jA ops f.1 i=true->f.2 W)->Calls P f args W (fun e W'=>e= .returned v/\Ϙ W W'))
 (t:gB Ps P ops (Ext []) R1 m Ss Fin W0 rest (i+1) (a.put o.dst v) F G) (hps: ∀x v W,Ps i x v W:=by intro _ _ _;exact True.intro):gB Ps P ops (Ext []) R1 m Ss Fin W0 (o::rest) i a F G:=
 dQ v hs hw f args he h t hps
theorem zw [Kept R1 Ms W0] {v:Value} (f:FuncId) {args:Array Value} (hs:Ss.lookup i=some (Spec.val v):=by rfl) (hw:Region.wanted o (yielded ops a.tmps)=true:=by rfl)
 (he: ∀W:World,(∀b off,b<W0.heap.size->b∉Ms->W.cell? ⟨b,off,none⟩=W0.cell? ⟨b,off,none⟩)->(execOp a.eval o).run P W= .ok (.enter f args) W:=by
   intro W hW;go_simp;try rfl)
 (h: ∀W:World,Ext Ms W0 W->(∀f∈F,jA ops f.1 i=true->f.2 W)->Calls P f args W (fun e W'=>e= .returned v/\Ϙ W W'))
 (t:gB Ps P ops (Ext []) R1 m Ss Fin W0 rest (i+1) (a.put o.dst v) F G) (hps: ∀x v W,Ps i x v W:=by intro _ _ _;exact True.intro):gB Ps P ops (Ext []) R1 m Ss Fin W0 (o::rest) i a F G:=
 dQ v hs hw f args he h t hps
theorem zg {P:Program} {id:Nat} {ops:List Oper} {Q:Exit->Act->World->Prop} {a:Act} {w:World} (k:Nat) (Ms:List Nat) (m:Option Nat) (Ss:List (Nat×Spec))
 (h:gB JZ P ops.toArray (Ext []) (Ext Ms) m Ss (fun a w=>wpList P ops.toArray Q (ops.drop k) a w) w (ops.take k) 0 a [] [])
 (hm:P.follows .mixedOrders=true:=by as_aux_lemma=>kernel_rfl) (hc:RY ops.toArray k=true:=by as_aux_lemma=>kernel_rfl):(Code.region id ops.toArray true).wp P Q a w:=
 fo k Ms m Ss hm hc h
end
end Go.RG
namespace Go
theorem zp:(∀(a:Act) (d:Tmp) (v:Value),a.put (some d) v={a with tmps:=a.tmps.setIfInBounds d v})/\(∀(a:Act) (v:Value),a.put none v=a)/\
 (∀(l:List Value) (i:Nat) (v:Value),l.toArray.setIfInBounds i v=(l.set i v).toArray)/\(∀(x:Value) (xs:List Value) (n:Nat) (v:Value),(x::xs).set (n+1) v=x::xs.set n v)/\(∀(x:Value) (xs:List Value) (v:Value),(x::xs).set 0 v=v::xs):=
 ⟨fun _ _ _=>rfl,fun _ _=>rfl,fun _ _ _=>oU ..,fun _ _ _ _=>rfl,fun _ _ _=>rfl⟩
theorem zt:(∀(i:Nat) (x:Oper) (xs:List Oper),List.take (i+1) (x::xs)=x::List.take i xs)/\(∀xs:List Oper,List.take 0 xs=[])/\
 (∀(i:Nat) (x:Oper) (xs:List Oper),List.drop (i+1) (x::xs)=List.drop i xs)/\(∀xs:List Oper,List.drop 0 xs=xs):=
 ⟨fun _ _ _=>rfl,fun _=>rfl,fun _ _ _=>rfl,fun _=>rfl⟩
end Go
end

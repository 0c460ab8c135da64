/-
  Texts of this claim, packed by a program: CA CB CC CD CE CG CF CI.
-/
import Derived.WalkKit
import Derived.WalkLawsBesides
import Derived.WalkSpells
import Derived.Outline
import Derived.Handy
import Derived.KernelRfl
import Derived.Lib.Hide
import Derived.Deep.Cut
import Derived.Laws.EntriesVeiled
import Derived.Test.YthbpmepjmebolaaGreatDoorPA5
set_option maxHeartbeats 8000000
set_option maxRecDepth 100000
set_option linter.all false
section
namespace Go.Proofs.YthbpmepjmebolaaGreatDoor.Be
open jC
abbrev JA:=Bool×Int×dY
structure bU where
 heaps:List dY
 aQ:List (List Int)
 aJ:List JA
def mQ:List Int->Int
 |[]=>0
 |x::l=>x+mQ l
def lD (l:List Int) (k:Nat):Int:=mQ (l.take k)
theorem Oa (a b:List Int):mQ (a++b)=mQ a+mQ b:=by
 induction a with
 |nil=>simp[mQ]
 |cons x a ih=>simp only[List.cons_append,mQ,ih];omega
theorem sW {l:List Int} {k:Nat} (hk:k<l.length):lD l (k+1)=lD l k+l[k]:=by
 unfold lD
 rw[iy hk,Oa]
 simp[mQ]
theorem zq (l:List Int):lD l l.length=mQ l:=by unfold lD;rw[List.take_length]
theorem FQ {m:Int} (_:0<=m): ∀{l:List Int},(∀x∈l,0<=x/\x<=m)->0<=mQ l/\mQ l<=m*l.length:=by
 intro l
 induction l with
 |nil=>intro _;simp[mQ]
 |cons x l ih=>
  intro h
  have h1:=h x (by simp)
  have h2:=ih (fun y hy=>h y (by simp[hy]))
  simp only[mQ,List.length_cons]
  rw[show m*((l.length+1:Nat):Int)=m*l.length+m from by rw[Int.natCast_add,Int.mul_add];simp]
  omega
theorem yj {m:Int} (hm:0<=m) {l:List Int} (h: ∀x∈l,0<=x/\x<=m) (k:Nat):0<=lD l k/\lD l k<=m*l.length:=by
 have h1:=FQ hm (l:=l.take k) (fun x hx=>h x (oM hx))
 have h2:m*((l.take k).length:Int)<=m*l.length:=Int.mul_le_mul_of_nonneg_left (by have:=List.length_take_le' k l;omega) hm
 unfold lD
 omega
def sU (c:bU) (l:List Int):Bool:=decide (l.length=c.heaps.length)&&l.all (nZ · 0 30)
def wL (c:bU) (l:List Int):Bool:=sU c l&&decide (0<mQ l)
def wY (c:bU) (t:JA):Int:=if t.1 then c.aQ.length else c.heaps.length
def sV (c:bU) (t:JA):Bool:=nZ t.2.1 0 (wY c t-1)&&wP t.2.2 100
def qC (c:bU):Int:=
 if 3<c.heaps.length∨3<c.aQ.length∨5<c.aJ.length then 3
 else if c.heaps.length=0∨c.heaps.all (wP · 100)=false∨c.aQ.all (wL c)=false∨c.aJ.all (sV c)=false then 1
 else if 2000<uM c.heaps then 3 else 0
structure nU (c:bU):Prop where
 h1:1<=c.heaps.length
 h3:c.heaps.length<=3
 c3:c.aQ.length<=3
 t5:c.aJ.length<=5
 heaps: ∀r∈c.heaps,wP r 100=true
 aQ: ∀l∈c.aQ,l.length=c.heaps.length/\(∀x∈l,0<=x/\x<=30)/\0<mQ l
 aJ: ∀t∈c.aJ,(0<=t.2.1/\t.2.1<wY c t)/\wP t.2.2 100=true
 many:uM c.heaps<=2000
theorem XW {c:bU} {l:List Int}:wL c l=true↔l.length=c.heaps.length/\(∀x∈l,0<=x/\x<=30)/\0<mQ l:=by
 simp only[wL,sU,nZ,fG,eX,jS]
 constructor
 ·rintro⟨⟨h1,h2⟩,h3⟩;exact⟨h1,h2,h3⟩
 ·rintro⟨h1,h2,h3⟩;exact⟨⟨h1,h2⟩,h3⟩
theorem Ru {c:bU} {t:JA}:sV c t=true↔(0<=t.2.1/\t.2.1<wY c t)/\wP t.2.2 100=true:=by
 simp only[sV,nZ,fG,eX]
 constructor
 ·rintro⟨⟨h1,h2⟩,h3⟩;exact⟨⟨h1,by omega⟩,h3⟩
 ·rintro⟨⟨h1,h2⟩,h3⟩;exact⟨⟨h1,by omega⟩,h3⟩
theorem JQ {c:bU} (hf:qC c=0):nU c:=by
 unfold qC at hf
 split at hf
 ·omega
 ·rename_i a
  split at hf
  ·omega
  ·rename_i b
   split at hf
   ·omega
   ·rename_i d
    simp only[not_or,Bool.not_eq_false,jS] at a b
    obtain⟨a1,a2,a3⟩:=a
    obtain⟨b1,b2,b3,b4⟩:=b
    exact⟨by omega,by omega,by omega,by omega,b2,fun l hl=>XW.1 (b3 l hl),fun t ht=>Ru.1 (b4 t ht),by omega⟩
theorem nU.sz {c:bU} (h:nU c): ∀r∈c.heaps,1<=eQ r:=fun r hr=>(yB (h.heaps r hr)).2.2.2.1
theorem nU.rg {c:bU} (h:nU c) {i:Nat} (hi:i<c.heaps.length):0<=c.heaps[i].1/\c.heaps[i].1<=c.heaps[i].2/\c.heaps[i].2<=100:=by
 have:=yB (h.heaps _ (bT hi))
 exact⟨this.1,this.2.1,this.2.2.1⟩
def zO:List Int->List Int->Int
 |w::ws,s::ss=>w*s+zO ws ss
 |_,_=>0
def yP (w s:List Int) (k:Nat):Int:=zO (w.take k) (s.take k)
theorem XK: ∀(a b:List Int) (x y:Int),a.length=b.length->zO (a++[x]) (b++[y])=zO a b+x*y:=by
 intro a
 induction a with
 |nil=>intro b x y h;obtain rfl:=kF h.symm;simp[zO]
 |cons w a ih=>
  intro b x y h
  cases b with
  |nil=>simp at h
  |cons s b=>
   simp only[List.cons_append,zO,ih b x y (by simpa using h)]
   omega
theorem Uc {w s:List Int} {k:Nat} (hw:k<w.length) (hs:k<s.length):yP w s (k+1)=yP w s k+w[k]*s[k]:=by
 unfold yP
 rw[iy hw,iy hs,XK]
 simp[gX]
 omega
theorem XJ {w s:List Int} (h:w.length=s.length):yP w s w.length=zO w s:=by unfold yP;rw[List.take_length,h,List.take_length]
theorem VE: ∀(w s:List Int),(∀x∈w,0<=x/\x<=30)->(∀x∈s,0<=x/\x<=100)->0<=zO w s/\zO w s<=100*mQ w:=by
 intro w
 induction w with
 |nil=>intro s _ _;simp[zO,mQ]
 |cons x w ih=>
  intro s hw hs
  have hx:=hw x (by simp)
  have hb:=FQ (m:=30) (by omega) (l:=w) (fun y hy=>hw y (by simp[hy]))
  cases s with
  |nil=>simp only[zO,mQ];omega
  |cons y s=>
   have hy:=hs y (by simp)
   have h1:=ih s (fun z hz=>hw z (by simp[hz])) (fun z hz=>hs z (by simp[hz]))
   have h2:0<=x*y:=Int.mul_nonneg hx.1 hy.1
   have h3:x*y<=x*100:=Int.mul_le_mul_of_nonneg_left hy.2 hx.1
   simp only[zO,mQ]
   omega
theorem aa4 {w s:List Int} (hw: ∀x∈w,0<=x/\x<=30) (hs: ∀x∈s,0<=x/\x<=100) (k:Nat):0<=yP w s k/\yP w s k<=3000*w.length:=by
 have h1:=VE (w.take k) (s.take k) (fun x hx=>hw x (oM hx)) (fun x hx=>hs x (oM hx))
 have h2:=yj (m:=30) (by omega) hw k
 unfold lD at h2
 unfold yP
 omega
def Et (s w:List Int):Int:=zO w s/mQ w
theorem ZW {s w:List Int} (hw: ∀x∈w,0<=x/\x<=30) (hs: ∀x∈s,0<=x/\x<=100) (hp:0<mQ w):0<=Et s w/\Et s w<=100:=by
 have h1:=VE w s hw hs
 unfold Et
 exact⟨Int.ediv_nonneg h1.1 (by omega),Int.ediv_le_of_le_mul hp (by omega)⟩
def I7 (c:bU) (s:List Int) (thing:Nat):Int:=if thing<c.heaps.length then s.getD thing 0 else Et s (c.aQ.getD (thing-c.heaps.length) [])
def Ag (c:bU) (t:JA):Nat:=(if t.1 then c.heaps.length else 0)+t.2.1.toNat
def Gt (c:bU) (s:List Int) (t:JA):Bool:=nZ (I7 c s (Ag c t)) t.2.2.1 t.2.2.2
def tJ (c:bU) (out:List Int) (s:List Int):Bool:=(List.range c.aJ.length).all fun i=>out.contains (i:Int) ||Gt c s (c.aJ.getD i (false,0,(0,0)))
def uU (c:bU):List (List Int):=fJ c.heaps
def dI (c:bU) (out:List Int):List (List Int):=(uU c).filter (tJ c out)
def nK (c:bU) (n:Nat):Prop:=n<c.heaps.length+c.aQ.length
theorem V6 {c:bU} (h:nU c) {t:JA} (ht:t∈c.aJ):nK c (Ag c t):=by
 have:=(h.aJ t ht).1
 unfold nK Ag
 unfold wY at this
 split at this <;>rename_i h1
 ·rw[aC h1];omega
 ·rw[aj h1];omega
theorem tZ {c:bU} (h:nU c) {s:List Int} (hs:s∈uU c):s.length=c.heaps.length/\ ∀x∈s,0<=x/\x<=100:=by
 obtain⟨h1,h2⟩:=Dp _ _ hs
 refine⟨h1,fun x hx=>?_⟩
 obtain⟨i,hi,rfl⟩:=mF hx
 have h3:=h2 i (by omega)
 have h4:=h.rg (show i<c.heaps.length by omega)
 rw[eY,dA (by omega),Option.getD_some] at h3
 rw[eY,dA hi,Option.getD_some] at h3
 omega
theorem ZO {c:bU} (h:nU c) {s:List Int} (hl:s.length=c.heaps.length) (hs: ∀x∈s,0<=x/\x<=100) {n:Nat} (hn:nK c n):0<=I7 c s n/\I7 c s n<=100:=by
 unfold nK at hn
 unfold I7
 split
 ·rename_i h1
  rw[eY,dA (by omega),Option.getD_some]
  exact hs _ (bT _)
 ·rename_i h1
  have hk:n-c.heaps.length<c.aQ.length:=by omega
  rw[eY,dA hk,Option.getD_some]
  have:=h.aQ _ (bT hk)
  exact ZW this.2.1 hs this.2.2
def zS (c:bU) (out:List Int) (k:Nat):Nat:=(((uU c).take k).filter (tJ c out)).length
theorem abb (c:bU) (out:List Int):zS c out (uU c).length=(dI c out).length:=by
 unfold zS dI
 rw[List.take_length]
theorem adh {c:bU} {out:List Int} {k:Nat} (hk:k<(uU c).length) (hp:tJ c out (uU c)[k]=false):zS c out (k+1)=zS c out k:=by
 unfold zS
 rw[iy hk,List.filter_append,dE]
 simp[hp]
theorem aba {c:bU} {out:List Int} {k:Nat} (hk:k<(uU c).length) (hp:tJ c out (uU c)[k]=true):zS c out (k+1)=zS c out k+1:=by
 unfold zS
 rw[iy hk,List.filter_append,dE]
 simp[hp]
theorem Rt {c:bU} {out:List Int} {k:Nat} (hk:k<(uU c).length) (hp:tJ c out (uU c)[k]=true):
 ∃hc:zS c out k<(dI c out).length,(dI c out)[zS c out k]=(uU c)[k]:=by
 have:=Dy (tJ c out) id (uU c) k hk hp
 rw[List.map_id] at this
 obtain⟨hc,hx⟩:=jq.1 this
 exact⟨hc,hx⟩
theorem vK {c:bU} (hS:nU c) (out:List Int):(dI c out).length<=2000:=by
 have h1:(dI c out).length<=(uU c).length:=List.length_filter_le _ _
 have h2:=yx c.heaps hS.sz
 have h3:=hS.many
 unfold uU at h1
 omega
def kJ (x:List Int):List Int:=x++List.replicate (3-x.length) 0
theorem yA {x:List Int} (h:x.length<=3):(kJ x).length=3:=by simp[kJ];omega
theorem OD (x:List Int) (i:Nat):(kJ x).getD i 0=x.getD i 0:=by
 unfold kJ
 by_cases h:i<x.length
 ·rw[List.getD_eq_getElem?_getD,vP h, <-List.getD_eq_getElem?_getD]
 ·rw[List.getD_eq_getElem?_getD,nT (by omega),List.getElem?_replicate]
  have:x.getD i 0=0:=by rw[List.getD_eq_getElem?_getD,List.getElem?_eq_none (by omega)];rfl
  rw[this]
  split <;>rfl
def jb (c:bU) (fine:Bool):Int:=if qC c≠0 then qC c else if fine=false then 2 else if(dI c []).isEmpty then 11 else 0
theorem IM {c:bU} {b:Bool} (h:jb c b=0):nU c/\0<(dI c []).length/\b=true:=by
 unfold jb at h
 split at h
 ·omega
 ·rename_i hf
  have hf':qC c=0:=by omega
  split at h
  ·omega
  ·rename_i hb
   split at h
   ·omega
   ·rename_i he
    refine⟨JQ hf',?_,by simpa using hb⟩
    cases ht:dI c [] with
    |nil=>rw[ht] at he;exact absurd rfl he
    |cons x l=>simp
def Aj (c:bU) (ls:List (List Int)) (i:Nat) (k:Nat):dY:=(ls.take k).foldl (fun r s=>wid r (I7 c s i)) (I7 c (ls.getD 0 []) i,I7 c (ls.getD 0 []) i)
theorem JX {c:bU} {ls:List (List Int)} {i:Nat} {k:Nat} (hk:k<ls.length):Aj c ls i (k+1)=wid (Aj c ls i k) (I7 c ls[k] i):=by
 unfold Aj
 rw[iy hk,List.foldl_append]
 rfl
def Bo (c:bU) (i:Nat):dY:=Aj c (dI c []) i (dI c []).length
def uj (c:bU):List dY:=(List.range c.heaps.length).map (Bo c)
def jF (c:bU):List dY:=(List.range c.aQ.length).map fun i=>Bo c (c.heaps.length+i)
theorem U6 {c:bU} (hS:nU c) {ls:List (List Int)} (hl: ∀s∈ls,s∈uU c) (h0:0<ls.length) {i:Nat} (hi:nK c i):
 ∀k,k<=ls.length->(0<=(Aj c ls i k).1/\(Aj c ls i k).1<=100)/\(0<=(Aj c ls i k).2/\(Aj c ls i k).2<=100):=by
 have hb: ∀s∈ls,0<=I7 c s i/\I7 c s i<=100:=fun s hs=>by
  obtain⟨h1,h2⟩:=tZ hS (hl s hs)
  exact ZO hS h1 h2 hi
 intro k
 induction k with
 |zero=>
  intro _
  have:=hb _ (bT h0)
  unfold Aj
  rw[eY,dA h0,Option.getD_some]
  exact⟨this,this⟩
 |succ k ih=>
  intro hk
  have h1:=ih (by omega)
  have h2:=hb _ (bT (show k<ls.length by omega))
  rw[JX (by omega)]
  unfold wid
  simp only
  omega
theorem mY {c:bU} {out:List Int}: ∀s∈dI c out,s∈uU c:=fun _ h=>(List.mem_filter.1 h).1
end Go.Proofs.YthbpmepjmebolaaGreatDoor.Be
end
section
namespace Go.Proofs.YthbpmepjmebolaaGreatDoor.Be
open Go.RowKit Go.RG Go.SL Go.Shelf jC Go.TB
abbrev KE:=Value×List Int
def fD (es:List KE):List Value:=es.map (·.1)
def vT (w:World) (v:Value) (es:List KE):Prop:=aK 1 w v es.length (fD es)/\ ∀e∈es,aP w e.1 e.2
theorem vT.len {w:World} {v:Value} {es:List KE} (h:vT w v es):es.length<=9223372036854775807:=aK.len h.1
theorem vT.open {w:World} {v:Value} {es:List KE} (h:vT w v es): ∃o c,v= .slice o es.length c:=aK.open h.1
theorem vT.below {w w':World} {v:Value} {es:List KE} (h:vT w v es) {B:Nat} (hb:Below B w w') (hB:w.heap.size<=B):vT w' v es:=⟨h.1.below hb hB,fun e he=>(h.2 e he).below hb hB⟩
theorem vT.cell {w:World} {o:Option Addr} {c:Nat} {es:List KE} (h:vT w (.slice o es.length c) es) {k:Nat} (hk:k<es.length): ∃b off,o=some ⟨b,off,none⟩/\b<w.heap.size/\w.cell? ⟨b,off+k,none⟩=some es[k].1:=by
 obtain⟨⟨hl,o',c',hv,h1,h2,h3,h4⟩,_⟩:=h
 cases hv
 cases o with
 |none=>have:=h3 rfl;omega
 |some a=>
  obtain⟨b,off,sp⟩:=a
  obtain⟨hs,hc⟩:=h4 _ rfl
  simp only at hs hc
  subst hs
  have h0:=hc k es[k].1 (by simp[fD,hk])
  exact⟨b,off,rfl,dP w _ h0,h0⟩
abbrev N9 (t:JA):Value:= .agg #[.bool t.1,iv t.2.1,iv t.2.2.1,iv t.2.2.2]
def gV (l:List JA):List Value:=l.flatMap fun t=>[.bool t.1,iv t.2.1,iv t.2.2.1,iv t.2.2.2]
abbrev vS (w:World) (v:Value) (l:List JA):Prop:=aK 4 w v l.length (gV l)
theorem OH (l:List JA): ∀u∈gV l,u.oneCell'=true:=by
 intro u hu
 obtain⟨r,_,h⟩:=qI.1 hu
 simp only[gK,List.not_mem_nil,or_false] at h
 rcases h with rfl|rfl|rfl|rfl <;>rfl
theorem vS.cell {w:World} {o:Option Addr} {n c:Nat} {l:List JA} (h:aK 4 w (.slice o n c) n (gV l)) {k:Nat} (hk:k<l.length):
 ∃b off,o=some ⟨b,off,none⟩/\b<w.heap.size/\w.cell? ⟨b,off+k*4,none⟩=some (.bool l[k].1)/\w.cell? ⟨b,off+k*4+1,none⟩=some (iv l[k].2.1)/\w.cell? ⟨b,off+k*4+2,none⟩=some (iv l[k].2.2.1)/\
  w.cell? ⟨b,off+k*4+3,none⟩=some (iv l[k].2.2.2):=by
 obtain⟨hl,o',c',hv,h1,h2,h3,h4⟩:=h
 cases hv
 have hlen:(gV l).length=l.length*4:=by simp[gV,List.length_flatMap,List.map_const',List.sum_replicate_nat]
 have hn:n=l.length:=by omega
 cases o with
 |none=>have:=h3 rfl;omega
 |some a=>
  obtain⟨b,off,sp⟩:=a
  obtain⟨hs,hc⟩:=h4 _ rfl
  simp only at hs hc
  subst hs
  have g: ∀j,j<4->(gV l)[k*4+j]? =[.bool l[k].1,iv l[k].2.1,iv l[k].2.2.1,iv l[k].2.2.2][j]? :=fun j hj=>by
   unfold gV;rw[jE _ 4 (fun _=>rfl) l k j hk hj]
  have h0:=hc (k*4+0) (.bool l[k].1) (by rw[g 0 (by omega)];rfl)
  have h1:=hc (k*4+1) (iv l[k].2.1) (by rw[g 1 (by omega)];rfl)
  have h2:=hc (k*4+2) (iv l[k].2.2.1) (by rw[g 2 (by omega)];rfl)
  have h3:=hc (k*4+3) (iv l[k].2.2.2) (by rw[g 3 (by omega)];rfl)
  rw[Nat.add_zero] at h0
  rw[<-Nat.add_assoc] at h1 h2 h3
  exact⟨b,off,rfl,dP w _ h0,h0,h1,h2,h3⟩
abbrev kv (hv kv tv:Value):Value:= .agg #[hv,kv,tv]
structure pM (w:World) (hv nJ tv:Value) (es:List KE) (c:bU):Prop where
 heaps:bM w hv c.heaps
 aQ:vT w nJ es
 is:es.map (·.2)=c.aQ
 aJ:vS w tv c.aJ
theorem pM.below {w w':World} {hv nJ tv:Value} {es:List KE} {c:bU} (h:pM w hv nJ tv es c) {B:Nat} (hb:Below B w w') (hB:w.heap.size<=B):pM w' hv nJ tv es c:=⟨h.heaps.below hb hB,h.aQ.below hb hB,h.is,h.aJ.below hb hB⟩
theorem pM.len {w:World} {hv nJ tv:Value} {es:List KE} {c:bU} (h:pM w hv nJ tv es c):es.length=c.aQ.length:=by rw[<-h.is,lJ]
theorem pM.mem {w:World} {hv nJ tv:Value} {es:List KE} {c:bU} (h:pM w hv nJ tv es c) {k:Nat} (hk:k<es.length):es[k].2=c.aQ[k]'(by rw[<-h.len];exact hk):=by
 have:=h.is
 simp only[<-this,List.getElem_map]
theorem yD (n l h:Int) (w:World):Calls Tryz.prog 221 #[iv n,iv l,iv h] w (PV (.bool (nZ n l h)) w):=by
 by_cases h1:l<=n
 all_goals
  go_enter Tryz.func221,Tryz.ntmps221
  go_wp2
  go_returns
  exact⟨by simp[nZ];omega,aG _ _⟩
theorem Z9 (r:dY) (n:Int) (w:World):Calls Tryz.prog 230 #[rv r,iv n] w (PV (.bool (nZ n r.1 r.2)) w):=by
 go_enter Tryz.func230,Tryz.ntmps230
 go_wp2_with (go_at_call 221;refine(yD _ _ _ _).mono ?_;rintro e w' ⟨rfl,hb⟩)
 go_returns
 exact⟨by simp,(aG _ _).alloc (ai _) _ |>.trans (hb.mono (by simp))⟩
theorem tq (r:dY) (w:World):Calls Tryz.prog 145 #[rv r] w (PV (.bool (wP r 100)) w):=by
 go_enter Tryz.func145,Tryz.ntmps145
 go_wp2
 all_goals
  go_returns
  exact⟨by simp[wP];omega,by go_grown⟩
theorem KD (r:dY) (w:World) (h1:0<=r.1) (h2:r.1<=r.2) (h3:r.2<=100000):
 Calls Tryz.prog 149 #[rv r] w (PV (iv (eQ r)) w):=by
 go_enter Tryz.func149,Tryz.ntmps149
 go_wp2
 go_returns
 exact⟨by simp[eQ],by go_grown⟩
theorem Rf (n:Int) (w:World):Calls Tryz.prog 271 #[iv n] w (PV (.bool (nZ n 0 30)) w):=by
 go_enter Tryz.func271,Tryz.ntmps271
 go_wp2_with (go_at_call 221;refine(yD _ _ _ _).mono ?_;rintro e w' ⟨rfl,hb⟩)
 go_returns
 exact⟨by simp,hb⟩
theorem O6 (a b:Int) (g c:Nat) (w:World) (h0:w.cell? ⟨g,0,none⟩=some (iv a)) (h1:w.cell? ⟨g,1,none⟩=some (iv b)):
 Calls Tryz.prog 148 #[.slice (some ⟨g,0,none⟩) 2 c] w (PV (iv (min a b)) w):=by
 have H:=ae (BD a b g c w h0 h1)
 go_enter Tryz.func148,Tryz.ntmps148
 go_wp2_with fail
 refine H.o.mono ?_
 rintro e w' ⟨rfl,hb⟩
 go_wp2_with fail
 go_returns
 exact⟨by simp,hb⟩
theorem Ti (r:dY) (n:Int) (w:World):Calls Tryz.prog 87 #[rv r,iv n] w (PV (rv (wid r n)) w):=by
 go_enter Tryz.func87,Tryz.ntmps87
 go_wp2_with fail
 refine zg 10 [] none [(3,Spec.slice (w.heap.size+2) #[iv r.1,iv n] 3 2),(4,Spec.val (iv (min r.1 n)))] ?_
 simp only[zt]
 repeat (refine zd ?_;simp only[zp])
 refine cu (w.heap.size+2) _ _ _ (by rfl) (by simp) (by rfl) (by simp) (by simp) (fun W hW=>by go_simp;try rfl) (fun b=>?_)
 simp only[zp]
 refine dK _ (by rfl) (by rfl) 148 _ (fun W hW=>by go_simp;try rfl) (fun W hE hF=>?_) ?_
 ·obtain⟨c,hcb,hB,hc⟩:=hF _ (bg _) (by kernel_rfl)
  cases hcb
  exact O6 r.1 n b 2 W (by simp[World.cell?,hc]) (by simp[World.cell?,hc])
 simp only[zp]
 repeat (refine zd ?_;simp only[zp])
 intro W hE hF
 obtain⟨hc,hf⟩:=bV hE.below
 have hzE:=hE.size
 (try simp only[bI] at hzE)
 go_wp2
 all_goals
  (try simp only[Exit.inBlock,Exit.then])
  refine bodyPost_ret (v:=rv (min r.1 n,max r.2 n)) (by simp[results,Tryz.results87,go_sem,hc];try omega) rfl ?_
  exact⟨rfl,ze⟩
theorem O3 (l:List Int) (v:Value) (w:World) (hv:aP w v l) (hl: ∀x∈l,0<=x/\x<=9999) (hn:l.length<=1000):Calls Tryz.prog 223 #[v] w (PV (iv (mQ l)) w):=by
 obtain⟨o,c,rfl⟩:=hv.open
 have hlen:=hv.len
 have HV:=ae hv
 have HL:=ae hl
 have HS:=ae (zq l)
 clear hv hl
 go_enter Tryz.func223,Tryz.ntmps223
 go_wp2
 go_loop [2,4,7] (fun n _ i=> ∃k:Nat,k<=l.length/\i= .int .i64 k/\n=iv (lD l k)) (fun _ _ i=>l.length-(intOf i).toNat)
 case atStart=>exact⟨0,bW _,rfl,rfl⟩
 case round=>
  obtain⟨k,hk,rfl,rfl⟩:=hrel
  have hb:=yj (m:=9999) (by omega) HL.o k
  have hb2:(9999:Int)*l.length<=9999*1000:=by omega
  by_cases hlt:k<l.length
  ·obtain⟨b,off,rfl,hbl,hc0⟩:=aP.cell HV.o hlt
   have hx:=HL.o _ (bT hlt)
   have hs:=sW hlt
   generalize lD l k=m at hb hs⊢
   generalize l[k]=x at hc0 hx hs
   have oJ:=ae hs
   clear hs
   go_wp2
   go_round
   case rel=>exact⟨k+1,by omega,by go_num,by rw[oJ.o]⟩
   case measure=>simp[intOf];omega
  ·have hkl:k=l.length:=by omega
   subst hkl
   rw[HS.o]
   go_wp2
   go_returns
   exact⟨by simp,aG _ _⟩
end Go.Proofs.YthbpmepjmebolaaGreatDoor.Be
namespace Go.Proofs.YthbpmepjmebolaaGreatDoor.Be
open Go.RowKit Go.RG Go.SL Go.Shelf jC Go.TB
abbrev kev (e:KE):Value:=e.1
theorem agS (l:List dY) (v:Value) (bz:Nat) (fst caps:Array Value) (p:Nat->Bool) (I:Nat->World->Prop) (w:World) (eg: ∀args w,(callFunc bz args).run Tryz.prog w= .ok (.enter bz args) w)
 (hsl: ∀k W,I k W->bM W v l)
 (hcall: ∀k (hk:k<l.length) W,(∀j,j<k->p j=false)->I k W->Calls Tryz.prog bz (fst.push (rv l[k])++caps) W (fun e W'=>e= .returned (.bool (p k))/\I (k+1) W')) (h0:I 0 w):
 Calls Tryz.prog 272 #[v,.func (.func bz) fst caps] w (eP l.length p I (fun k=>iv k) (iv (-1))):=by
 have hlen:=(hsl 0 w h0).len
 obtain⟨o,c,rfl⟩:=(hsl 0 w h0).open
 have HC:=ae hcall
 have HS:=ae hsl
 clear hcall hsl
 go_enter Tryz.func272,Tryz.ntmps272
 go_wp2
 go_loopw [4,5,8] (fun _ _ i wr=> ∃k:Nat,k<=l.length/\i= .int .i64 k/\(∀j,j<k->p j=false)/\I k wr) (fun _ _ i _=>l.length-(intOf i).toNat)
 case atStart=>exact⟨0,bW _,rfl,fun j hj=>by omega,h0⟩
 case round=>
  obtain⟨k,hk,rfl,hno,hI⟩:=hrel
  by_cases hlt:k<l.length
  ·obtain⟨b,off,rfl,hb,hc0,hc1⟩:=bM.cell (HS.o k wr hI) hlt
   have hC:=HC.o k hlt wr hno hI
   have HN:=ae hno
   clear hno
   go_wp2_with fail
   refine hC.mono ?_
   rintro e W1 ⟨rfl,hI1⟩
   have HI:=ae hI1
   clear hI1 hI hC
   cases hp:p k
   ·go_wp2_with fail
    go_roundw
    case rel=>exact⟨k+1,by omega,by go_num,fun j hj=>(by by_cases e:j=k;(subst e;exact hp);exact HN.o j (by omega)),HI.o⟩
    case measure=>simp[intOf];omega
   ·go_wp2_with fail
    go_returns
    exact⟨k,by omega,HN.o,.inl ⟨hlt,hp,by simp,HI.o⟩⟩
  ·have hkl:k=l.length:=by omega
   have HN:=ae hno
   clear hno
   go_wp2_with fail
   go_returns
   exact⟨k,by omega,HN.o,.inr ⟨hkl,by simp,by subst hkl;exact hI⟩⟩
theorem aeB (l:List dY) (v:Value) (bz:Nat) (fst caps:Array Value) (p:Nat->Bool) (I:Nat->World->Prop) (w:World) (eg: ∀args w,(callFunc bz args).run Tryz.prog w= .ok (.enter bz args) w)
 (hsl: ∀k W,I k W->bM W v l)
 (hcall: ∀k (hk:k<l.length) W,(∀j,j<k->p j=false)->I k W->Calls Tryz.prog bz (fst.push (rv l[k])++caps) W (fun e W'=>e= .returned (.bool (p k))/\I (k+1) W')) (h0:I 0 w):
 Calls Tryz.prog 224 #[v,.func (.func bz) fst caps] w (eP l.length p I (fun _=> .bool true) (.bool false)):=by
 have HI:=ae (agS l v bz fst caps p I w eg hsl hcall h0)
 have hlen:=(hsl 0 w h0).len
 clear hsl hcall h0 eg
 go_enter Tryz.func224,Tryz.ntmps224
 go_wp2_with fail
 refine HI.o.mono ?_
 clear HI
 rintro e W' ⟨k,hk,hno,⟨hlt,hp,rfl,hI⟩|⟨hkl,rfl,hI⟩⟩
 ·have HN:=ae (ag hno (ag hp hI))
  clear hno hp hI
  go_wp2_with fail
  go_returns
  exact⟨k,hk,HN.o.1,.inl ⟨hlt,HN.o.2.1,by simp,HN.o.2.2⟩⟩
 ·have HN:=ae (ag hno (ag hkl hI))
  clear hno hkl hI
  go_wp2_with fail
  go_returns
  exact⟨k,hk,HN.o.1,.inr ⟨HN.o.2.1,by simp,HN.o.2.1▸HN.o.2.2⟩⟩
theorem aeE (x:dY) (bx bz:Nat) (fst caps:Array Value) (b:Bool) (W:World) (R:World->Prop) (eg: ∀args w,(callFunc bz args).run Tryz.prog w= .ok (.enter bz args) w)
 (hbx:W.cell? ⟨bx,0,none⟩=some (.func (.func bz) fst caps))
 (hcall:Calls Tryz.prog bz (fst.push (rv x)++caps) (W.alloc (.cells #[iv x.1,iv x.2] 112)) (fun e W'=>e= .returned (.bool b)/\R W')):
 Calls Tryz.prog 225 #[rv x,.pointer (some ⟨bx,0,none⟩)] W (fun e W'=>e= .returned (.bool !b)/\R W'):=by
 have hlt:=dP W _ hbx
 have HC:=ae hcall
 clear hcall
 go_enter Tryz.func225,Tryz.ntmps225
 go_wp2_with fail
 refine HC.o.mono ?_
 rintro e W' ⟨rfl,hR⟩
 have HR:=ae hR
 clear hR
 go_wp2_with fail
 go_returns
 exact⟨by simp,HR.o⟩
theorem agV (l:List dY) (v:Value) (bz:Nat) (fst caps:Array Value) (p:Nat->Bool) (I:Nat->World->Prop) (w:World) (eg: ∀args w,(callFunc bz args).run Tryz.prog w= .ok (.enter bz args) w)
 (hsl: ∀k W,I k W->bM W v l) (hal: ∀k W o,I k W->I k (W.alloc o))
 (hcall: ∀k (hk:k<l.length) W,(∀j,j<k->p j=true)->I k W->Calls Tryz.prog bz (fst.push (rv l[k])++caps) W (fun e W'=>e= .returned (.bool (p k))/\I (k+1) W'/\jr w.heap.size W W')) (h0:I 0 w):
 Calls Tryz.prog 144 #[v,.func (.func bz) fst caps] w (eP l.length (fun k=>!p k) I (fun _=> .bool false) (.bool true)):=by
 have HI:=ae (aeB l v 225 #[] #[.pointer (some ⟨w.heap.size,0,none⟩)] (fun k=>!p k)
  (fun k W=>I k W/\W.heap[w.heap.size]? =some (.cells #[.func (.func bz) fst caps] 237 (0,0))) (w.alloc (.cells #[.func (.func bz) fst caps] 237))
  (enters_of Tryz.func225 (by kernel_rfl) rfl) (fun k W h=>hsl k W h.1)
  (fun k hk W hno h=>by
    have hlt:w.heap.size<W.heap.size:=(aV.1 h.2).1
    refine(aeE l[k] w.heap.size bz fst caps (p k) W (fun W'=>I (k+1) W'/\W'.heap[w.heap.size]? =some (.cells #[.func (.func bz) fst caps] 237 (0,0))) eg (aB h.2) ?_)
    refine(hcall k hk _ (fun j hj=>by simpa using hno j hj) (by first|exact hal _ _ _ h.1|exact h.1)).mono ?_
    rintro e W' ⟨rfl,h1,h2⟩
    refine⟨rfl,h1,(h2.block _ (ai _) (by first|exact hlt|(simp;omega))).trans (by first|exact h.2|exact(aW _ _ _ hlt).trans h.2)⟩)
  ⟨hal _ _ _ h0,heap_alloc_new w _⟩)
 have hlen:=(hsl 0 w h0).len
 clear hsl hcall h0 eg hal
 go_enter Tryz.func144,Tryz.ntmps144
 go_wp2_with fail
 refine HI.o.mono ?_
 clear HI
 rintro e W' ⟨k,hk,hno,⟨hlt,hp,rfl,hI,_⟩|⟨hkl,rfl,hI,_⟩⟩
 ·have HN:=ae (ag hno (ag hp hI))
  clear hno hp hI
  go_wp2_with fail
  go_returns
  exact⟨k,hk,HN.o.1,.inl ⟨hlt,HN.o.2.1,by simp,HN.o.2.2⟩⟩
 ·have HN:=ae (ag hno (ag hkl hI))
  clear hno hkl hI
  go_wp2_with fail
  go_returns
  exact⟨k,hk,HN.o.1,.inr ⟨HN.o.2.1,by simp,HN.o.2.1▸HN.o.2.2⟩⟩
theorem Tt (l:List dY) (v:Value) (bz:Nat) (fst caps:Array Value) (q:dY->Bool) (w:World) (hv:bM w v l) (eg: ∀args w,(callFunc bz args).run Tryz.prog w= .ok (.enter bz args) w)
 (hcall: ∀x∈l, ∀W,Below w.heap.size w W->Calls Tryz.prog bz (fst.push (rv x)++caps) W (PV (.bool (q x)) W)):
 Calls Tryz.prog 144 #[v,.func (.func bz) fst caps] w (PV (.bool (l.all q)) w):=by
 refine(agV l v bz fst caps (fun k=>q (l.getD k (0,0))) (fun _ W=>Below w.heap.size w W) w eg (fun k W h=>hv.below h (ai _)) (fun k W o h=>ak h o) (fun k hk W _ h=>?_) (aG _ _)).mono ?_
 ·refine(hcall l[k] (bT _) W h).mono ?_
  rintro e W' ⟨rfl,hb⟩
  exact⟨by simp[hk],aX h hb,jr.az hb⟩
 ·intro e W' hpost
  obtain⟨rfl,k,_,hI⟩:=hpost.all
  refine⟨?_,hI⟩
  rw[jL,jV]
theorem agT (l:List KE) (v:Value) (bz:Nat) (fst caps:Array Value) (p:Nat->Bool) (I:Nat->World->Prop) (w:World) (eg: ∀args w,(callFunc bz args).run Tryz.prog w= .ok (.enter bz args) w)
 (hsl: ∀k W,I k W->vT W v l)
 (hcall: ∀k (hk:k<l.length) W,(∀j,j<k->p j=false)->I k W->Calls Tryz.prog bz (fst.push (kev l[k])++caps) W (fun e W'=>e= .returned (.bool (p k))/\I (k+1) W')) (h0:I 0 w):
 Calls Tryz.prog 273 #[v,.func (.func bz) fst caps] w (eP l.length p I (fun k=>iv k) (iv (-1))):=by
 have hlen:=(hsl 0 w h0).len
 obtain⟨o,c,rfl⟩:=(hsl 0 w h0).open
 have HC:=ae hcall
 have HS:=ae hsl
 clear hcall hsl
 go_enter Tryz.func273,Tryz.ntmps273
 go_wp2
 go_loopw [4,5,8] (fun _ _ i wr=> ∃k:Nat,k<=l.length/\i= .int .i64 k/\(∀j,j<k->p j=false)/\I k wr) (fun _ _ i _=>l.length-(intOf i).toNat)
 case atStart=>exact⟨0,bW _,rfl,fun j hj=>by omega,h0⟩
 case round=>
  obtain⟨k,hk,rfl,hno,hI⟩:=hrel
  by_cases hlt:k<l.length
  ·obtain⟨b,off,rfl,hb,hc0⟩:=vT.cell (HS.o k wr hI) hlt
   have hC:=HC.o k hlt wr hno hI
   have HN:=ae hno
   clear hno
   go_wp2_with fail
   refine hC.mono ?_
   rintro e W1 ⟨rfl,hI1⟩
   have HI:=ae hI1
   clear hI1 hI hC
   cases hp:p k
   ·go_wp2_with fail
    go_roundw
    case rel=>exact⟨k+1,by omega,by go_num,fun j hj=>(by by_cases e:j=k;(subst e;exact hp);exact HN.o j (by omega)),HI.o⟩
    case measure=>simp[intOf];omega
   ·go_wp2_with fail
    go_returns
    exact⟨k,by omega,HN.o,.inl ⟨hlt,hp,by simp,HI.o⟩⟩
  ·have hkl:k=l.length:=by omega
   have HN:=ae hno
   clear hno
   go_wp2_with fail
   go_returns
   exact⟨k,by omega,HN.o,.inr ⟨hkl,by simp,by subst hkl;exact hI⟩⟩
theorem aeC (l:List KE) (v:Value) (bz:Nat) (fst caps:Array Value) (p:Nat->Bool) (I:Nat->World->Prop) (w:World) (eg: ∀args w,(callFunc bz args).run Tryz.prog w= .ok (.enter bz args) w)
 (hsl: ∀k W,I k W->vT W v l)
 (hcall: ∀k (hk:k<l.length) W,(∀j,j<k->p j=false)->I k W->Calls Tryz.prog bz (fst.push (kev l[k])++caps) W (fun e W'=>e= .returned (.bool (p k))/\I (k+1) W')) (h0:I 0 w):
 Calls Tryz.prog 226 #[v,.func (.func bz) fst caps] w (eP l.length p I (fun _=> .bool true) (.bool false)):=by
 have HI:=ae (agT l v bz fst caps p I w eg hsl hcall h0)
 have hlen:=(hsl 0 w h0).len
 clear hsl hcall h0 eg
 go_enter Tryz.func226,Tryz.ntmps226
 go_wp2_with fail
 refine HI.o.mono ?_
 clear HI
 rintro e W' ⟨k,hk,hno,⟨hlt,hp,rfl,hI⟩|⟨hkl,rfl,hI⟩⟩
 ·have HN:=ae (ag hno (ag hp hI))
  clear hno hp hI
  go_wp2_with fail
  go_returns
  exact⟨k,hk,HN.o.1,.inl ⟨hlt,HN.o.2.1,by simp,HN.o.2.2⟩⟩
 ·have HN:=ae (ag hno (ag hkl hI))
  clear hno hkl hI
  go_wp2_with fail
  go_returns
  exact⟨k,hk,HN.o.1,.inr ⟨HN.o.2.1,by simp,HN.o.2.1▸HN.o.2.2⟩⟩
theorem aeF (x:KE) (bx bz:Nat) (fst caps:Array Value) (b:Bool) (W:World) (R:World->Prop) (eg: ∀args w,(callFunc bz args).run Tryz.prog w= .ok (.enter bz args) w)
 (hbx:W.cell? ⟨bx,0,none⟩=some (.func (.func bz) fst caps))
 (hcall:Calls Tryz.prog bz (fst.push (kev x)++caps) W (fun e W'=>e= .returned (.bool b)/\R W')):
 Calls Tryz.prog 227 #[kev x,.pointer (some ⟨bx,0,none⟩)] W (fun e W'=>e= .returned (.bool !b)/\R W'):=by
 have hlt:=dP W _ hbx
 have HC:=ae hcall
 clear hcall
 go_enter Tryz.func227,Tryz.ntmps227
 go_wp2_with fail
 refine HC.o.mono ?_
 rintro e W' ⟨rfl,hR⟩
 have HR:=ae hR
 clear hR
 go_wp2_with fail
 go_returns
 exact⟨by simp,HR.o⟩
theorem agW (l:List KE) (v:Value) (bz:Nat) (fst caps:Array Value) (p:Nat->Bool) (I:Nat->World->Prop) (w:World) (eg: ∀args w,(callFunc bz args).run Tryz.prog w= .ok (.enter bz args) w)
 (hsl: ∀k W,I k W->vT W v l) (hal: ∀k W o,I k W->I k (W.alloc o))
 (hcall: ∀k (hk:k<l.length) W,(∀j,j<k->p j=true)->I k W->Calls Tryz.prog bz (fst.push (kev l[k])++caps) W (fun e W'=>e= .returned (.bool (p k))/\I (k+1) W'/\jr w.heap.size W W')) (h0:I 0 w):
 Calls Tryz.prog 146 #[v,.func (.func bz) fst caps] w (eP l.length (fun k=>!p k) I (fun _=> .bool false) (.bool true)):=by
 have HI:=ae (aeC l v 227 #[] #[.pointer (some ⟨w.heap.size,0,none⟩)] (fun k=>!p k)
  (fun k W=>I k W/\W.heap[w.heap.size]? =some (.cells #[.func (.func bz) fst caps] 157 (0,0))) (w.alloc (.cells #[.func (.func bz) fst caps] 157))
  (enters_of Tryz.func227 (by kernel_rfl) rfl) (fun k W h=>hsl k W h.1)
  (fun k hk W hno h=>by
    have hlt:w.heap.size<W.heap.size:=(aV.1 h.2).1
    refine(aeF l[k] w.heap.size bz fst caps (p k) W (fun W'=>I (k+1) W'/\W'.heap[w.heap.size]? =some (.cells #[.func (.func bz) fst caps] 157 (0,0))) eg (aB h.2) ?_)
    refine(hcall k hk _ (fun j hj=>by simpa using hno j hj) (by first|exact hal _ _ _ h.1|exact h.1)).mono ?_
    rintro e W' ⟨rfl,h1,h2⟩
    refine⟨rfl,h1,(h2.block _ (ai _) (by first|exact hlt|(simp;omega))).trans (by first|exact h.2|exact(Below.heap_alloc _ _ _ hlt).trans h.2)⟩)
  ⟨hal _ _ _ h0,heap_alloc_new w _⟩)
 have hlen:=(hsl 0 w h0).len
 clear hsl hcall h0 eg hal
 go_enter Tryz.func146,Tryz.ntmps146
 go_wp2_with fail
 refine HI.o.mono ?_
 clear HI
 rintro e W' ⟨k,hk,hno,⟨hlt,hp,rfl,hI,_⟩|⟨hkl,rfl,hI,_⟩⟩
 ·have HN:=ae (ag hno (ag hp hI))
  clear hno hp hI
  go_wp2_with fail
  go_returns
  exact⟨k,hk,HN.o.1,.inl ⟨hlt,HN.o.2.1,by simp,HN.o.2.2⟩⟩
 ·have HN:=ae (ag hno (ag hkl hI))
  clear hno hkl hI
  go_wp2_with fail
  go_returns
  exact⟨k,hk,HN.o.1,.inr ⟨HN.o.2.1,by simp,HN.o.2.1▸HN.o.2.2⟩⟩
theorem Tu (l:List KE) (v:Value) (bz:Nat) (fst caps:Array Value) (q:KE->Bool) (w:World) (hv:vT w v l) (eg: ∀args w,(callFunc bz args).run Tryz.prog w= .ok (.enter bz args) w)
 (hcall: ∀x∈l, ∀W,Below w.heap.size w W->Calls Tryz.prog bz (fst.push (kev x)++caps) W (PV (.bool (q x)) W)):
 Calls Tryz.prog 146 #[v,.func (.func bz) fst caps] w (PV (.bool (l.all q)) w):=by
 refine(agW l v bz fst caps (fun k=>q (l.getD k (undef,[]))) (fun _ W=>Below w.heap.size w W) w eg (fun k W h=>hv.below h (ai _)) (fun k W o h=>ak h o) (fun k hk W _ h=>?_) (aG _ _)).mono ?_
 ·refine(hcall l[k] (bT _) W h).mono ?_
  rintro e W' ⟨rfl,hb⟩
  exact⟨by simp[hk],aX h hb,jr.az hb⟩
 ·intro e W' hpost
  obtain⟨rfl,k,_,hI⟩:=hpost.all
  refine⟨?_,hI⟩
  rw[jL,jV]
theorem agR (l:List JA) (v:Value) (bz:Nat) (fst caps:Array Value) (p:Nat->Bool) (I:Nat->World->Prop) (w:World) (eg: ∀args w,(callFunc bz args).run Tryz.prog w= .ok (.enter bz args) w)
 (hsl: ∀k W,I k W->vS W v l)
 (hcall: ∀k (hk:k<l.length) W,(∀j,j<k->p j=false)->I k W->Calls Tryz.prog bz (fst.push (N9 l[k])++caps) W (fun e W'=>e= .returned (.bool (p k))/\I (k+1) W')) (h0:I 0 w):
 Calls Tryz.prog 274 #[v,.func (.func bz) fst caps] w (eP l.length p I (fun k=>iv k) (iv (-1))):=by
 have hlen:=(hsl 0 w h0).len
 obtain⟨o,c,rfl⟩:=(hsl 0 w h0).open
 have HC:=ae hcall
 have HS:=ae hsl
 clear hcall hsl
 go_enter Tryz.func274,Tryz.ntmps274
 go_wp2
 go_loopw [4,5,8] (fun _ _ i wr=> ∃k:Nat,k<=l.length/\i= .int .i64 k/\(∀j,j<k->p j=false)/\I k wr) (fun _ _ i _=>l.length-(intOf i).toNat)
 case atStart=>exact⟨0,bW _,rfl,fun j hj=>by omega,h0⟩
 case round=>
  obtain⟨k,hk,rfl,hno,hI⟩:=hrel
  by_cases hlt:k<l.length
  ·obtain⟨b,off,rfl,hb,hc0,hc1,hc2,hc3⟩:=vS.cell (HS.o k wr hI) hlt
   have hC:=HC.o k hlt wr hno hI
   have HN:=ae hno
   clear hno
   go_wp2_with fail
   refine hC.mono ?_
   rintro e W1 ⟨rfl,hI1⟩
   have HI:=ae hI1
   clear hI1 hI hC
   cases hp:p k
   ·go_wp2_with fail
    go_roundw
    case rel=>exact⟨k+1,by omega,by go_num,fun j hj=>(by by_cases e:j=k;(subst e;exact hp);exact HN.o j (by omega)),HI.o⟩
    case measure=>simp[intOf];omega
   ·go_wp2_with fail
    go_returns
    exact⟨k,by omega,HN.o,.inl ⟨hlt,hp,by simp,HI.o⟩⟩
  ·have hkl:k=l.length:=by omega
   have HN:=ae hno
   clear hno
   go_wp2_with fail
   go_returns
   exact⟨k,by omega,HN.o,.inr ⟨hkl,by simp,by subst hkl;exact hI⟩⟩
theorem aeA (l:List JA) (v:Value) (bz:Nat) (fst caps:Array Value) (p:Nat->Bool) (I:Nat->World->Prop) (w:World) (eg: ∀args w,(callFunc bz args).run Tryz.prog w= .ok (.enter bz args) w)
 (hsl: ∀k W,I k W->vS W v l)
 (hcall: ∀k (hk:k<l.length) W,(∀j,j<k->p j=false)->I k W->Calls Tryz.prog bz (fst.push (N9 l[k])++caps) W (fun e W'=>e= .returned (.bool (p k))/\I (k+1) W')) (h0:I 0 w):
 Calls Tryz.prog 228 #[v,.func (.func bz) fst caps] w (eP l.length p I (fun _=> .bool true) (.bool false)):=by
 have HI:=ae (agR l v bz fst caps p I w eg hsl hcall h0)
 have hlen:=(hsl 0 w h0).len
 clear hsl hcall h0 eg
 go_enter Tryz.func228,Tryz.ntmps228
 go_wp2_with fail
 refine HI.o.mono ?_
 clear HI
 rintro e W' ⟨k,hk,hno,⟨hlt,hp,rfl,hI⟩|⟨hkl,rfl,hI⟩⟩
 ·have HN:=ae (ag hno (ag hp hI))
  clear hno hp hI
  go_wp2_with fail
  go_returns
  exact⟨k,hk,HN.o.1,.inl ⟨hlt,HN.o.2.1,by simp,HN.o.2.2⟩⟩
 ·have HN:=ae (ag hno (ag hkl hI))
  clear hno hkl hI
  go_wp2_with fail
  go_returns
  exact⟨k,hk,HN.o.1,.inr ⟨HN.o.2.1,by simp,HN.o.2.1▸HN.o.2.2⟩⟩
theorem aeD (x:JA) (bx bz:Nat) (fst caps:Array Value) (b:Bool) (W:World) (R:World->Prop) (eg: ∀args w,(callFunc bz args).run Tryz.prog w= .ok (.enter bz args) w)
 (hbx:W.cell? ⟨bx,0,none⟩=some (.func (.func bz) fst caps))
 (hcall:Calls Tryz.prog bz (fst.push (N9 x)++caps) (W.alloc (.cells #[.bool x.1,iv x.2.1,iv x.2.2.1,iv x.2.2.2] 124)) (fun e W'=>e= .returned (.bool b)/\R W')):
 Calls Tryz.prog 229 #[N9 x,.pointer (some ⟨bx,0,none⟩)] W (fun e W'=>e= .returned (.bool !b)/\R W'):=by
 have hlt:=dP W _ hbx
 have HC:=ae hcall
 clear hcall
 go_enter Tryz.func229,Tryz.ntmps229
 go_wp2_with fail
 refine HC.o.mono ?_
 rintro e W' ⟨rfl,hR⟩
 have HR:=ae hR
 clear hR
 go_wp2_with fail
 go_returns
 exact⟨by simp,HR.o⟩
theorem agU (l:List JA) (v:Value) (bz:Nat) (fst caps:Array Value) (p:Nat->Bool) (I:Nat->World->Prop) (w:World) (eg: ∀args w,(callFunc bz args).run Tryz.prog w= .ok (.enter bz args) w)
 (hsl: ∀k W,I k W->vS W v l) (hal: ∀k W o,I k W->I k (W.alloc o))
 (hcall: ∀k (hk:k<l.length) W,(∀j,j<k->p j=true)->I k W->Calls Tryz.prog bz (fst.push (N9 l[k])++caps) W (fun e W'=>e= .returned (.bool (p k))/\I (k+1) W'/\jr w.heap.size W W')) (h0:I 0 w):
 Calls Tryz.prog 147 #[v,.func (.func bz) fst caps] w (eP l.length (fun k=>!p k) I (fun _=> .bool false) (.bool true)):=by
 have HI:=ae (aeA l v 229 #[] #[.pointer (some ⟨w.heap.size,0,none⟩)] (fun k=>!p k)
  (fun k W=>I k W/\W.heap[w.heap.size]? =some (.cells #[.func (.func bz) fst caps] 235 (0,0))) (w.alloc (.cells #[.func (.func bz) fst caps] 235))
  (enters_of Tryz.func229 (by kernel_rfl) rfl) (fun k W h=>hsl k W h.1)
  (fun k hk W hno h=>by
    have hlt:w.heap.size<W.heap.size:=(aV.1 h.2).1
    refine(aeD l[k] w.heap.size bz fst caps (p k) W (fun W'=>I (k+1) W'/\W'.heap[w.heap.size]? =some (.cells #[.func (.func bz) fst caps] 235 (0,0))) eg (aB h.2) ?_)
    refine(hcall k hk _ (fun j hj=>by simpa using hno j hj) (by first|exact hal _ _ _ h.1|exact h.1)).mono ?_
    rintro e W' ⟨rfl,h1,h2⟩
    refine⟨rfl,h1,(h2.block _ (ai _) (by first|exact hlt|(simp;omega))).trans (by first|exact h.2|exact(aW _ _ _ hlt).trans h.2)⟩)
  ⟨hal _ _ _ h0,heap_alloc_new w _⟩)
 have hlen:=(hsl 0 w h0).len
 clear hsl hcall h0 eg hal
 go_enter Tryz.func147,Tryz.ntmps147
 go_wp2_with fail
 refine HI.o.mono ?_
 clear HI
 rintro e W' ⟨k,hk,hno,⟨hlt,hp,rfl,hI,_⟩|⟨hkl,rfl,hI,_⟩⟩
 ·have HN:=ae (ag hno (ag hp hI))
  clear hno hp hI
  go_wp2_with fail
  go_returns
  exact⟨k,hk,HN.o.1,.inl ⟨hlt,HN.o.2.1,by simp,HN.o.2.2⟩⟩
 ·have HN:=ae (ag hno (ag hkl hI))
  clear hno hkl hI
  go_wp2_with fail
  go_returns
  exact⟨k,hk,HN.o.1,.inr ⟨HN.o.2.1,by simp,HN.o.2.1▸HN.o.2.2⟩⟩
theorem Tq (l:List JA) (v:Value) (bz:Nat) (fst caps:Array Value) (q:JA->Bool) (w:World) (hv:vS w v l) (eg: ∀args w,(callFunc bz args).run Tryz.prog w= .ok (.enter bz args) w)
 (hcall: ∀x∈l, ∀W,Below w.heap.size w W->Calls Tryz.prog bz (fst.push (N9 x)++caps) W (PV (.bool (q x)) W)):
 Calls Tryz.prog 147 #[v,.func (.func bz) fst caps] w (PV (.bool (l.all q)) w):=by
 refine(agU l v bz fst caps (fun k=>q (l.getD k (false,0,(0,0)))) (fun _ W=>Below w.heap.size w W) w eg (fun k W h=>hv.below h (ai _)) (fun k W o h=>ak h o) (fun k hk W _ h=>?_) (aG _ _)).mono ?_
 ·refine(hcall l[k] (bT _) W h).mono ?_
  rintro e W' ⟨rfl,hb⟩
  exact⟨by simp[hk],aX h hb,jr.az hb⟩
 ·intro e W' hpost
  obtain⟨rfl,k,_,hI⟩:=hpost.all
  refine⟨?_,hI⟩
  rw[jL,jV]
theorem aeG (x:Int) (bx bz:Nat) (fst caps:Array Value) (b:Bool) (W:World) (R:World->Prop) (eg: ∀args w,(callFunc bz args).run Tryz.prog w= .ok (.enter bz args) w)
 (hbx:W.cell? ⟨bx,0,none⟩=some (.func (.func bz) fst caps))
 (hcall:Calls Tryz.prog bz (fst.push (iv x)++caps) W (fun e W'=>e= .returned (.bool b)/\R W')):
 Calls Tryz.prog 296 #[iv x,.pointer (some ⟨bx,0,none⟩)] W (fun e W'=>e= .returned (.bool !b)/\R W'):=by
 have hlt:=dP W _ hbx
 have HC:=ae hcall
 clear hcall
 go_enter Tryz.func296,Tryz.ntmps296
 go_wp2_with fail
 refine HC.o.mono ?_
 rintro e W' ⟨rfl,hR⟩
 have HR:=ae hR
 clear hR
 go_wp2_with fail
 go_returns
 exact⟨by simp,HR.o⟩
theorem agX (l:List Int) (v:Value) (bz:Nat) (fst caps:Array Value) (p:Nat->Bool) (I:Nat->World->Prop) (w:World) (eg: ∀args w,(callFunc bz args).run Tryz.prog w= .ok (.enter bz args) w)
 (hsl: ∀k W,I k W->aP W v l) (hal: ∀k W o,I k W->I k (W.alloc o))
 (hcall: ∀k (hk:k<l.length) W,(∀j,j<k->p j=true)->I k W->Calls Tryz.prog bz (fst.push (iv l[k])++caps) W (fun e W'=>e= .returned (.bool (p k))/\I (k+1) W'/\jr w.heap.size W W')) (h0:I 0 w):
 Calls Tryz.prog 270 #[v,.func (.func bz) fst caps] w (eP l.length (fun k=>!p k) I (fun _=> .bool false) (.bool true)):=by
 have HI:=ae (P8 l v 296 #[] #[.pointer (some ⟨w.heap.size,0,none⟩)] (fun k=>!p k)
  (fun k W=>I k W/\W.heap[w.heap.size]? =some (.cells #[.func (.func bz) fst caps] 167 (0,0))) (w.alloc (.cells #[.func (.func bz) fst caps] 167))
  (enters_of Tryz.func296 (by kernel_rfl) rfl) (fun k W h=>hsl k W h.1)
  (fun k hk W hno h=>by
    have hlt:w.heap.size<W.heap.size:=(aV.1 h.2).1
    refine(aeG l[k] w.heap.size bz fst caps (p k) W (fun W'=>I (k+1) W'/\W'.heap[w.heap.size]? =some (.cells #[.func (.func bz) fst caps] 167 (0,0))) eg (aB h.2) ?_)
    refine(hcall k hk _ (fun j hj=>by simpa using hno j hj) (by first|exact hal _ _ _ h.1|exact h.1)).mono ?_
    rintro e W' ⟨rfl,h1,h2⟩
    refine⟨rfl,h1,(h2.block _ (ai _) (by first|exact hlt|(simp;omega))).trans (by first|exact h.2|exact(Below.heap_alloc _ _ _ hlt).trans h.2)⟩)
  ⟨hal _ _ _ h0,heap_alloc_new w _⟩)
 have hlen:=(hsl 0 w h0).len
 clear hsl hcall h0 eg hal
 go_enter Tryz.func270,Tryz.ntmps270
 go_wp2_with fail
 refine HI.o.mono ?_
 clear HI
 rintro e W' ⟨k,hk,hno,⟨hlt,hp,rfl,hI,_⟩|⟨hkl,rfl,hI,_⟩⟩
 ·have HN:=ae (ag hno (ag hp hI))
  clear hno hp hI
  go_wp2_with fail
  go_returns
  exact⟨k,hk,HN.o.1,.inl ⟨hlt,HN.o.2.1,by simp,HN.o.2.2⟩⟩
 ·have HN:=ae (ag hno (ag hkl hI))
  clear hno hkl hI
  go_wp2_with fail
  go_returns
  exact⟨k,hk,HN.o.1,.inr ⟨HN.o.2.1,by simp,HN.o.2.1▸HN.o.2.2⟩⟩
theorem Tv (l:List Int) (v:Value) (bz:Nat) (fst caps:Array Value) (q:Int->Bool) (w:World) (hv:aP w v l) (eg: ∀args w,(callFunc bz args).run Tryz.prog w= .ok (.enter bz args) w)
 (hcall: ∀x∈l, ∀W,Below w.heap.size w W->Calls Tryz.prog bz (fst.push (iv x)++caps) W (PV (.bool (q x)) W)):
 Calls Tryz.prog 270 #[v,.func (.func bz) fst caps] w (PV (.bool (l.all q)) w):=by
 refine(agX l v bz fst caps (fun k=>q (l.getD k 0)) (fun _ W=>Below w.heap.size w W) w eg (fun k W h=>hv.below h (ai _)) (fun k W o h=>ak h o) (fun k hk W _ h=>?_) (aG _ _)).mono ?_
 ·refine(hcall l[k] (bT _) W h).mono ?_
  rintro e W' ⟨rfl,hb⟩
  exact⟨by simp[hk],aX h hb,jr.az hb⟩
 ·intro e W' hpost
  obtain⟨rfl,k,_,hI⟩:=hpost.all
  refine⟨?_,hI⟩
  rw[jL,jV]
theorem NY (c:bU) (oh:Option Addr) (ch:Nat) (kvv tv:Value) (l:List Int) (v:Value) (w:World) (hv:aP w v l):
 Calls Tryz.prog 222 #[kv (.slice oh c.heaps.length ch) kvv tv,v] w (PV (.bool (sU c l)) w):=by
 obtain⟨o,cc,rfl⟩:=hv.open
 have HA:=ae (fun(W:World) (hb:Below w.heap.size w W)=>Tv l (.slice o l.length cc) 271 #[] #[] (nZ · 0 30) W (hv.below hb (ai _)) (enters_of Tryz.func271 (by kernel_rfl) rfl) (fun x _ W _=>Rf x W))
 clear hv
 unfold sU
 by_cases hl:l.length=c.heaps.length
 ·have hl':((l.length:Int)==(c.heaps.length:Int))=true:=by simp[hl]
  rw[decide_eq_true hl,Bool.true_and]
  have HL:=ae hl
  clear hl
  go_enter Tryz.func222,Tryz.ntmps222
  go_wp2_with fail
  refine(HA.o _ (ak (aG _ _) _)).mono ?_
  rintro e w' ⟨rfl,hb⟩
  obtain⟨hc,hf⟩:=bV hb
  go_wp2_with fail
  go_returns
  exact⟨by simp,aX (ak (aG _ _) _) hb⟩
 ·have hl':((l.length:Int)==(c.heaps.length:Int))=false:=by simp;omega
  rw[decide_eq_false hl,Bool.false_and]
  have HL:=ae hl
  clear hl
  go_enter Tryz.func222,Tryz.ntmps222
  go_wp2_with fail
  go_returns
  exact⟨by simp,zl⟩
theorem TA (c:bU) (oh:Option Addr) (ch:Nat) (kvv tv:Value) (e:KE) (w:World) (hv:aP w e.1 e.2) (hh:c.heaps.length<=1000):
 Calls Tryz.prog 143 #[kv (.slice oh c.heaps.length ch) kvv tv,kev e] w (PV (.bool (wL c e.2)) w):=by
 obtain⟨v,l⟩:=e
 simp only[kev] at hv⊢
 obtain⟨o,cc,rfl⟩:=hv.open
 have HA:=ae (fun(W:World) (hb:Below w.heap.size w W)=>NY c oh ch kvv tv l (.slice o l.length cc) W (hv.below hb (ai _)))
 by_cases hw:sU c l=true
 ·have hx:(∀x∈l,0<=x/\x<=9999)/\l.length=c.heaps.length:=by
   simp only[sU,nZ,fG,eX,jS] at hw
   exact⟨fun x hx=>by have:=hw.2 x hx;omega,hw.1⟩
  have hn:l.length<=1000:=by omega
  have HS:=ae (fun(W:World) (hb:Below w.heap.size w W)=>O3 l (.slice o l.length cc) W (hv.below hb (ai _)) hx.1 hn)
  have HC:Hid (wL c l=decide (0<mQ l)):=ae (by unfold wL;rw[hw,Bool.true_and])
  rw[hw] at HA
  clear hv hw hx
  rw[HC.o]
  generalize mQ l=m at HS
  go_enter Tryz.func143,Tryz.ntmps143
  go_wp2_with fail
  refine(HA.o _ (ak (aG _ _) _)).mono ?_
  rintro e w1 ⟨rfl,hb⟩
  obtain⟨hc,hf⟩:=bV hb
  have HB:=ae (show Below w.heap.size w w1 from aX (ak (aG _ _) _) hb)
  clear hb
  go_wp2_with fail
  refine(HS.o _ HB.o).mono ?_
  rintro e w2 ⟨rfl,hb⟩
  obtain⟨hc2,hf2⟩:=bV hb
  have HB2:=ae (aX HB.o hb)
  clear hb
  go_wp2_with fail
  go_returns
  exact⟨by simp,HB2.o⟩
 ·have hw':sU c l=false:=by simpa using hw
  rw[hw'] at HA
  have HC:Hid (wL c l=false):=ae (by unfold wL;rw[hw'];rfl)
  clear hv hw hw'
  rw[HC.o]
  go_enter Tryz.func143,Tryz.ntmps143
  go_wp2_with fail
  refine(HA.o _ (ak (aG _ _) _)).mono ?_
  rintro e w1 ⟨rfl,hb⟩
  obtain⟨hc,hf⟩:=bV hb
  have HB:=ae (show Below w.heap.size w w1 from aX (ak (aG _ _) _) hb)
  clear hb
  go_wp2_with fail
  go_returns
  exact⟨by simp,HB.o⟩
end Go.Proofs.YthbpmepjmebolaaGreatDoor.Be
end
section
namespace Go.Proofs.YthbpmepjmebolaaGreatDoor.Be
open Go.RowKit Go.RG Go.SL Go.Shelf jC Go.TB
theorem Tj (c:bU) (oh ok:Option Addr) (ch ck:Nat) (tv:Value) (t:JA) (w:World) (h1:c.heaps.length<=1000) (h2:c.aQ.length<=1000):
 Calls Tryz.prog 142 #[kv (.slice oh c.heaps.length ch) (.slice ok c.aQ.length ck) tv,N9 t] w (PV (.bool (sV c t)) w):=by
 obtain⟨b,n,r⟩:=t
 cases b
 all_goals
  go_enter Tryz.func142,Tryz.ntmps142
  go_wp2_with fail
  refine(yD _ _ _ _).mono ?_
  rintro e w1 ⟨rfl,hb⟩
  obtain⟨hc,hf⟩:=bV hb
  have hz:=hb.size
  simp only[bI] at hz
  have HB:=ae (show Below w.heap.size w w1 from zl)
  clear hb
 ·cases hq:nZ n 0 ((c.heaps.length:Int)-1)
  ·go_wp2_with fail
   go_returns
   exact⟨by simp[sV,wY,hq],HB.o⟩
  ·go_wp2_with fail
   refine(tq r _).mono ?_
   rintro e w2 ⟨rfl,hb⟩
   have HB2:=ae (aX HB.o hb)
   clear hb
   go_wp2_with fail
   go_returns
   exact⟨by simp[sV,wY,hq],HB2.o⟩
 ·cases hq:nZ n 0 ((c.aQ.length:Int)-1)
  ·go_wp2_with fail
   go_returns
   exact⟨by simp[sV,wY,hq],HB.o⟩
  ·go_wp2_with fail
   refine(tq r _).mono ?_
   rintro e w2 ⟨rfl,hb⟩
   have HB2:=ae (aX HB.o hb)
   clear hb
   go_wp2_with fail
   go_returns
   exact⟨by simp[sV,wY,hq],HB2.o⟩
theorem Tm (c:bU) (oh:Option Addr) (ch:Nat) (kvv tv:Value) (t:JA) (w:World) (h1:c.heaps.length<=1000) (h2:0<=t.2.1) (h3:t.2.1<=1000):
 Calls Tryz.prog 231 #[kv (.slice oh c.heaps.length ch) kvv tv,N9 t] w (PV (iv (Ag c t:Nat)) w):=by
 obtain⟨b,n,r⟩:=t
 simp only at h2 h3
 obtain⟨k,rfl⟩: ∃k:Nat,n=k:=⟨n.toNat,by omega⟩
 cases b
 ·go_enter Tryz.func231,Tryz.ntmps231
  go_wp2_with fail
  go_returns
  exact⟨by simp[Ag],zl⟩
 ·go_enter Tryz.func231,Tryz.ntmps231
  go_wp2_with fail
  go_returns
  exact⟨by simp[Ag],zl⟩
theorem WV (l:List Int) (v:Value) (s:List Int) (x0 x1 x2:Int) (hx:kJ s=[x0,x1,x2]) (w:World) (hv:aP w v l) (hl:l.length=s.length) (h3:s.length<=3)
 (hw: ∀x∈l,0<=x/\x<=30) (hs: ∀x∈s,0<=x/\x<=100) (hp:0<mQ l):
 Calls Tryz.prog 153 #[.agg #[iv x0,iv x1,iv x2],v] w (PV (iv (Et s l)) w):=by
 obtain⟨o,c,rfl⟩:=hv.open
 have HSM:=ae (fun(W:World) (hb:Below w.heap.size w W)=>O3 l (.slice o l.length c) W (hv.below hb (ai _)) (fun x hx=>by have:=hw x hx;omega) (by omega))
 have HV:=ae (hv.alloc (.cells #[iv x0,iv x1,iv x2] 177))
 have HW:=ae hw
 have HS:=ae hs
 have HD:=ae (fun k=>aa4 hw hs k)
 have HA:=ae (XJ hl)
 have HX:=ae hx
 have HP:=ae hp
 have hM:Hid (Et s l=zO l s/mQ l):=ae rfl
 have hsb:=(FQ (m:=30) (by omega) hw)
 rw[hM.o]
 generalize zO l s=D at HA hM⊢
 generalize mQ l=m at hsb hp HSM HP
 have HCB:=ae (fun(k:Nat) (hk:k<3)=>show(w.alloc (.cells #[iv x0,iv x1,iv x2] 177)).cell? ⟨w.heap.size,k,none⟩=some (iv ([x0,x1,x2].getD k 0)) from by
  rw[World.cell?_alloc_new]
  rcases(show k=0∨k=1∨k=2 by omega) with rfl|rfl|rfl <;>rfl)
 have HL:=ae (ag hl h3)
 have hl3:(l.length:Int)<=3:=by omega
 clear hv hw hs hx hp hl h3
 go_enter Tryz.func153,Tryz.ntmps153
 go_wp2_with fail
 go_loop [5,6,7,10] (fun n _ _ i=> ∃k:Nat,k<=l.length/\i= .int .i64 k/\n=iv (yP l s k)) (fun _ _ _ i=>l.length-(intOf i).toNat)
 case atStart=>exact⟨0,bW _,rfl,by simp[yP,zO]⟩
 case round=>
  obtain⟨k,hk,rfl,rfl⟩:=hrel
  have hb:=HD.o k
  by_cases hlt:k<l.length
  ·obtain⟨b,off,rfl,hbl,hc0⟩:=aP.cell HV.o hlt
   have hks:k<s.length:=by have:=HL.o;omega
   have hx1:=HW.o _ (bT hlt)
   have hx2:=HS.o _ (bT hks)
   have hsu:=Uc hlt hks
   have hk3:k<3:=by omega
   have hget:=HCB.o k hk3
   rw[<-HX.o,OD,eY,dA hks,Option.getD_some] at hget
   generalize yP l s k=d at hb hsu⊢
   generalize l[k]=x at hc0 hx1 hsu
   generalize s[k]=y at hx2 hsu hget
   have hmul:0<=x*y/\x*y<=30*100:=⟨Int.mul_nonneg (by omega) (by omega),Int.mul_le_mul hx1.2 hx2.2 (by omega) (by omega)⟩
   obtain⟨hm1,hm2⟩:=hmul
   have oJ:=ae hsu
   have apM:(k:Int)<3:=by omega
   clear hsu
   go_wp2_with fail
   go_round
   case rel=>exact⟨k+1,by omega,by go_num,by rw[oJ.o]⟩
   case measure=>simp[intOf];omega
  ·have hkl:k=l.length:=by omega
   rw[hkl,HA.o]
   rw[hkl,HA.o] at hb
   have hpp:=HP.o
   have hdv:D.tdiv m=D/m:=Int.tdiv_eq_ediv_of_nonneg hb.1
   have hd0:0<=D/m:=Int.ediv_nonneg hb.1 (by omega)
   have hd1:D/m<=D:=Int.ediv_le_self _ hb.1
   go_wp2_with fail
   refine(HSM.o _ (ak (aG _ _) _)).mono ?_
   rintro e w1 ⟨rfl,hbb⟩
   have HB:=ae (show Below w.heap.size w w1 from aX (ak (aG _ _) _) hbb)
   clear hbb
   have hm0:m≠0:=by omega
   go_wp2_with fail
   go_returns
   exact⟨by simp[hdv],HB.o⟩
end Go.Proofs.YthbpmepjmebolaaGreatDoor.Be
end
section
namespace Go.Proofs.YthbpmepjmebolaaGreatDoor.Be
open Go.RowKit Go.RG Go.SL Go.Shelf jC Go.TB
attribute [local go_sem] Oper.semAt_some
theorem nV {l:List Int} (h:l.length=3): ∃a b c,l=[a,b,c]:=by
 match l,h with
 |[a,b,c],_=>exact⟨a,b,c,rfl⟩
def Str (c:bU) (s:List Int):Prop:=s.length=c.heaps.length/\ ∀x∈s,0<=x/\x<=100
theorem Vg (c:bU) (hS:nU c) (oh ok:Option Addr) (ch ck:Nat) (tv:Value) (es:List KE) (s:List Int) (x0 x1 x2:Int) (hx:kJ s=[x0,x1,x2]) (hs:Str c s) (n:Nat) (hn:nK c n) (w:World)
 (hk:vT w (.slice ok c.aQ.length ck) es) (hes:es.map (·.2)=c.aQ):
 Calls Tryz.prog 86 #[kv (.slice oh c.heaps.length ch) (.slice ok c.aQ.length ck) tv,.agg #[iv x0,iv x1,iv x2],iv n] w (PV (iv (I7 c s n)) w):=by
 have h3:=hS.h3
 have h1:=hS.h1
 have c3:=hS.c3
 have hel:es.length=c.aQ.length:=by rw[<-hes,lJ]
 unfold nK at hn
 by_cases hlt:n<c.heaps.length
 ·have hv:[x0,x1,x2].getD n 0=I7 c s n:=by
   unfold I7
   rw[aC hlt, <-hx,OD]
  have hn3:(n:Int)<3:=by omega
  have xR: ¬(c.heaps.length:Int)<=n:=by omega
  have hcell:((w.alloc (.cells #[.slice oh c.heaps.length ch,.slice ok c.aQ.length ck,tv] 44)).alloc (.cells #[iv x0,iv x1,iv x2] 177)).cell? ⟨w.heap.size+1,n,none⟩=some (iv (I7 c s n)):=by
   rw[<-hv]
   simp only[World.cell?,ed]
   rcases(show n=0∨n=1∨n=2 by omega) with rfl|rfl|rfl <;>rfl
  generalize I7 c s n=r at hcell⊢
  clear hx hs hk hes hv hel
  go_enter Tryz.func86,Tryz.ntmps86
  go_wp2_with fail
  go_returns
  exact⟨by simp,zl⟩
 ·have hk0:n-c.heaps.length<es.length:=by omega
  have hkc:n-c.heaps.length<c.aQ.length:=by omega
  have he:es[n-c.heaps.length].2=c.aQ[n-c.heaps.length]:=by simp only[<-hes,List.getElem_map]
  have hc:=hS.aQ _ (bT hkc)
  have hr:=hk.2 _ (bT hk0)
  rw[<-hel] at hk
  obtain⟨b,off,rfl,hb,hcell⟩:=vT.cell hk hk0
  generalize Du:es[n-c.heaps.length]=e at*
  obtain⟨ev,el⟩:=e
  simp only at he hr hcell
  subst he
  obtain⟨oe,ce,rfl⟩:=hr.open
  have hv:I7 c s n=Et s c.aQ[n-c.heaps.length]:=by
   unfold I7
   rw[aj hlt,eY,dA hkc,Option.getD_some]
  rw[hv]
  have HM:=ae (fun(W:World) (hB:Below w.heap.size w W)=>WV c.aQ[n-c.heaps.length] _ s x0 x1 x2 hx W (hr.below hB (ai _)) (by rw[hc.1,hs.1]) (by rw[hs.1];exact h3) hc.2.1 hs.2 hc.2.2)
  obtain⟨j,hj⟩: ∃j:Nat,n-c.heaps.length=j:=⟨_,rfl⟩
  obtain rfl:n=c.heaps.length+j:=by omega
  have hjI:(((c.heaps.length+j:Nat):Int)-(c.heaps.length:Int))=j:=by omega
  have ald:(c.heaps.length:Int)<=((c.heaps.length+j:Nat):Int):=by omega
  have hjl:(j:Int)<c.aQ.length:=by omega
  generalize c.aQ[c.heaps.length+j-c.heaps.length]=l at*
  generalize Et s l=r at HM⊢
  rw[hj] at hcell
  have HX:=ae (ag hx hs)
  clear hx hs hv hk hc hr Du hj hk0 hkc hes hel
  obtain⟨N,hN⟩: ∃N:Int,((c.heaps.length+j:Nat):Int)=N:=⟨_,rfl⟩
  rw[hN] at hjI ald⊢
  clear hN hlt hn
  go_enter Tryz.func86,Tryz.ntmps86
  go_upto_region 3 with(fail)
  refine dH fun W3 hW3=>?_
  have hb3:Below w.heap.size w W3:=by rw[hW3];exact zl
  have hk1:W3.heap[w.heap.size]? =some (.cells #[.slice oh c.heaps.length ch,.slice (some ⟨b,off,none⟩) c.aQ.length ck,tv] 44 (0,0)):=by rw[hW3];exact(aW _ _ _ (by simp)).trans (ay _ _)
  have hk2:W3.heap[w.heap.size+1]? =some (.cells #[iv x0,iv x1,iv x2] 177 (0,0)):=by rw[hW3];exact ed _ _ _
  have aln:W3.cell? ⟨b,off+j,none⟩=some (.slice oe l.length ce):=(hb3.cell hb).trans hcell
  have hbl:b<W3.heap.size:=by have:=hb3.size;omega
  have HB3:=ae hb3
  obtain⟨d1,g1,m1⟩:=af hk1
  obtain⟨d2,g2,m2⟩:=af hk2
  clear hW3 hcell hb hb3 hk1 hk2
  refine zg 9 [] none [(8,Spec.val (iv r))] ?_
  simp only[zt]
  repeat ((first|refine zn ?_|refine zk ?_);simp only[zp])
  refine zw 153 (h:=fun W hE hF=>by exact HM.o W (aX HB3.o hE.below)) (t:=?_)
  simp only[zp]
  repeat ((first|refine zn ?_|refine zk ?_);simp only[zp])
  intro W hE hF
  obtain⟨hc,hf⟩:=bV hE.below
  have hzE:=hE.size
  (try simp only[bI] at hzE)
  go_wp2_with fail
  (try simp only[Exit.inBlock,Exit.then])
  refine bodyPost_ret (v:=iv r) (by simp[results,Tryz.results86,go_sem,hc];try omega) rfl ?_
  exact⟨rfl,aX HB3.o hE.below⟩
structure Yx (w:World) (hv nJ tv:Value) (x0 x1 x2:Int) (W:World):Prop where
 b0:W.heap[w.heap.size]? =some (.cells #[hv,nJ,tv] 44 (0,0))
 b1:W.heap[w.heap.size+1]? =some (.cells #[iv x0,iv x1,iv x2] 177 (0,0))
 below:Below w.heap.size w W
theorem Yx.next {w:World} {hv nJ tv:Value} {x0 x1 x2:Int} {W W':World} (h:Yx w hv nJ tv x0 x1 x2 W) (hb:Below W.heap.size W W'):Yx w hv nJ tv x0 x1 x2 W':=
 ⟨(hb.block _ (aV.1 h.b0).1).trans h.b0,(hb.block _ (aV.1 h.b1).1).trans h.b1,aX h.below hb⟩
def wV (c:bU) (out s:List Int) (k:Nat):Bool:=(List.range k).all fun i=>out.contains (i:Int) ||Gt c s (c.aJ.getD i (false,0,(0,0)))
theorem RQ (c:bU) (hS:nU c) (oh ok ot:Option Addr) (ch ck ct:Nat) (es:List KE) (s:List Int) (x0 x1 x2:Int) (hx:kJ s=[x0,x1,x2]) (hs:Str c s) (ov:Value) (out:List Int) (w:World)
 (hc:pM w (.slice oh c.heaps.length ch) (.slice ok c.aQ.length ck) (.slice ot c.aJ.length ct) es c) (ho:aP w ov out):
 Calls Tryz.prog 152 #[kv (.slice oh c.heaps.length ch) (.slice ok c.aQ.length ck) (.slice ot c.aJ.length ct),.agg #[iv x0,iv x1,iv x2],ov] w (PV (.bool (tJ c out s)) w):=by
 obtain⟨oo,oc,rfl⟩:=ho.open
 have t5:=hS.t5
 have HS:=ae hS
 have HC:=ae hc
 have HO:=ae ho
 have HX:=ae (ag hx hs)
 have HF:=ae (fun(n:Nat) (hn:nK c n) (W:World) (hB:Below w.heap.size w W)=>Vg c hS oh ok ch ck (.slice ot c.aJ.length ct) es s x0 x1 x2 hx hs n hn W (hc.aQ.below hB (ai _)) hc.is)
 have HT:=ae (fun(t:JA) (ht:t∈c.aJ) (W:World)=>Tm c oh ch (.slice ok c.aQ.length ck) (.slice ot c.aJ.length ct) t W (by have:=hS.h3;omega) ((hS.aJ t ht).1.1) (by
  have h1:=(hS.aJ t ht).1.2
  have h2:=hS.h3
  have h3:=hS.c3
  unfold wY at h1
  split at h1 <;>omega))
 clear hS hc ho hx hs
 go_enter Tryz.func152,Tryz.ntmps152
 go_upto_region 1 with(fail)
 refine dH fun W1 hW1=>?_
 have hst:Yx w (.slice oh c.heaps.length ch) (.slice ok c.aQ.length ck) (.slice ot c.aJ.length ct) x0 x1 x2 W1:=by
  rw[hW1]
  exact⟨(aW _ _ _ (by simp)).trans (ay _ _),ed _ _ _,zl⟩
 clear hW1
 obtain⟨cc0,cf0,cl0⟩:=af hst.b0
 have HST:=ae hst
 clear hst
 go_wp2_with fail
 go_loopw [12] (fun i wr=> ∃k:Nat,k<=c.aJ.length/\i= .int .i64 k/\wV c out s k=true/\Yx w (.slice oh c.heaps.length ch) (.slice ok c.aQ.length ck) (.slice ot c.aJ.length ct) x0 x1 x2 wr) (fun i _=>c.aJ.length-(intOf i).toNat)
 case atStart=>exact⟨0,bW _,rfl,rfl,HST.o⟩
 case round=>
  obtain⟨k,hk,rfl,hok,hst⟩:=hrel
  have IU:=ae hst
  have jB:=ae hok
  clear hok cc0 cf0 cl0
  by_cases hlt:k<c.aJ.length
  ·have htl:=HC.o.aJ.below hst.below (ai _)
   obtain⟨b,off,hv,hb,d0,d1,d2,d3⟩:=vS.cell htl hlt
   cases hv
   have hmem:=bT hlt
   have hth:=V6 HS.o hmem
   have hT:=HT.o _ hmem
   have hso:wV c out s (k+1)=(out.contains (k:Int) ||Gt c s c.aJ[k]):=by
    have h1:=jB.o
    unfold wV at h1⊢
    rw[mZ,h1,Bool.true_and,show c.aJ.getD k (false,0,(0,0))=c.aJ[k] from by simp[List.getD,hlt]]
   generalize c.aJ[k]=t at*
   obtain⟨tb,tn,LD,LG⟩:=t
   simp only at d0 d1 d2 d3
   have HTH:=ae hth
   obtain⟨q,hq⟩: ∃q,Ag c (tb,tn,(LD,LG))=q:=⟨_,rfl⟩
   rw[hq] at hT HTH
   have hF:=HF.o q HTH.o
   obtain⟨r,hr⟩: ∃r,I7 c s q=r:=⟨_,rfl⟩
   rw[hr] at hF
   have ahe:wV c out s (k+1)=(out.contains (k:Int) ||nZ r LD LG):=by
    rw[hso];unfold Gt;rw[hq,hr]
   have HSO:=ae ahe
   have HTT:=ae hT
   have HFF:=ae hF
   have hcn:=fun W (hB:Below w.heap.size w W)=>iL out (.slice oo out.length oc) (k:Int) W (HO.o.below hB (ai _))
   generalize out.contains (k:Int)=cb at*
   have HCN:=ae hcn
   clear hst htl hmem hth hT hso ahe hq hF hr hcn
   go_upto_region 4 with(fail)
   refine dH fun W4 FW=>?_
   have acJ:Yx w _ _ _ x0 x1 x2 W4:=IU.o.next (by rw[FW];exact zl)
   have hk8:W4.heap[wr.heap.size]? =some (.cells #[.bool tb,iv tn,iv LD,iv LG] 124 (0,0)):=by rw[FW];exact ay _ _
   have hB4:Below wr.heap.size wr W4:=by rw[FW];exact zl
   obtain⟨c1,f1,l1⟩:=af acJ.b0
   obtain⟨c2,f2,l2⟩:=af acJ.b1
   obtain⟨c3,f3,l3⟩:=af hk8
   have VQ:=ae acJ
   clear FW acJ hk8 hB4 d0 d1 d2 d3 hb
   cases cb
   ·skip
    refine zg 16 [] none [(2,Spec.val (.bool false)),(11,Spec.val (iv q)),(12,Spec.val (iv r)),(13,Spec.val (.bool (nZ r LD LG)))] ?_
    simp only[zt]
    repeat ((first|refine zn ?_|refine zk ?_);simp only[zp])
    refine zw 135 (h:=fun W hE hF=>by exact HCN.o W (aX VQ.o.below hE.below)) (t:=?_)
    simp only[zp]
    repeat ((first|refine zn ?_|refine zk ?_);simp only[zp])
    refine zw 231 (h:=fun W hE hF=>by exact HTT.o W) (t:=?_)
    simp only[zp]
    refine zw 86 (h:=fun W hE hF=>by exact HFF.o W (aX VQ.o.below hE.below)) (t:=?_)
    simp only[zp]
    refine zw 230 (h:=fun W hE hF=>by exact Z9 (LD,LG) r W) (t:=?_)
    simp only[zp]
    repeat ((first|refine zn ?_|refine zk ?_);simp only[zp])
    intro W hE hF
    obtain⟨hc,hf⟩:=bV hE.below
    have hzE:=hE.size
    (try simp only[bI] at hzE)
    have hst5:=VQ.o.next hE.below
    have HS5:=ae hst5
    clear hst5 hE hF hc hf hzE c1 f1 l1 c2 f2 l2 c3 f3 l3
    cases hq2:nZ r LD LG
    ·have xM:Hid (tJ c out s=false):=ae (by
      have h1:=HSO.o
      rw[hq2] at h1
      have h2:wV c out s c.aJ.length=tJ c out s:=rfl
      rw[<-h2]
      cases h3:wV c out s c.aJ.length
      ·rfl
      ·unfold wV at h1 h3
       rw[jS] at h3
       have:(List.range (k+1)).all (fun i=>out.contains (i:Int) ||Gt c s (c.aJ.getD i (false,0,(0,0))))=true:=by
        rw[jS]
        intro i hi
        exact h3 i (mD.2 (by have:=mD.1 hi;omega))
       rw[this] at h1
       cases h1)
     go_wp2_with fail
     go_returns
     exact⟨by rw[xM.o];simp,HS5.o.below⟩
    ·go_wp2_with fail
     go_roundw
     case rel=>exact⟨k+1,by omega,by go_num,by rw[HSO.o,hq2];rfl,HS5.o⟩
     case measure=>simp[intOf];omega
   ·skip
    refine zg 16 [] none [(2,Spec.val (.bool true))] ?_
    simp only[zt]
    repeat ((first|refine zn ?_|refine zk ?_);simp only[zp])
    refine zw 135 (h:=fun W hE hF=>by exact HCN.o W (aX VQ.o.below hE.below)) (t:=?_)
    simp only[zp]
    repeat ((first|refine zn ?_|refine zk ?_);simp only[zp])
    intro W hE hF
    obtain⟨hc,hf⟩:=bV hE.below
    have hzE:=hE.size
    (try simp only[bI] at hzE)
    have hst5:=VQ.o.next hE.below
    have HS5:=ae hst5
    clear hst5 hE hF hc hf hzE c1 f1 l1 c2 f2 l2 c3 f3 l3
    go_wp2_with fail
    go_roundw
    case rel=>exact⟨k+1,by omega,by go_num,by rw[HSO.o];rfl,HS5.o⟩
    case measure=>simp[intOf];omega
  ·have hkl:k=c.aJ.length:=by omega
   subst hkl
   have HQ:Hid (tJ c out s=true):=ae jB.o
   clear hst
   go_wp2_with fail
   go_returns
   exact⟨by rw[HQ.o];simp,IU.o.below⟩
end Go.Proofs.YthbpmepjmebolaaGreatDoor.Be
end
section
namespace Go.Proofs.YthbpmepjmebolaaGreatDoor.Be
open Go.RowKit Go.RG Go.SL Go.Shelf jC Go.TB
attribute [local go_sem] Oper.semAt_some
structure Zb (W:World) (bf bo jy ab bc l:Nat) (o:List Int):Prop where
 y:W.heap[jy]? =some (.cells #[.func (.yield l) #[] #[]] 240 (0,0))
 ch:W.heap[bc]? =some (.cells #[.func (.func 151) #[] #[.pointer (some ⟨bf,0,none⟩),.pointer (some ⟨ab,0,none⟩),.pointer (some ⟨bo,0,none⟩),.pointer (some ⟨jy,0,none⟩),.pointer (some ⟨bc,0,none⟩)]] 167 (0,0))
 cells:W.heap[ab]? =some (.cells (ah o).toArray 177 (0,0))
theorem Zb.kept {W W':World} {bf bo jy ab bc l:Nat} {o:List Int} (h:Zb W bf bo jy ab bc l o) (hk: ∀m∈[ab,jy,bc],m<W.heap.size->W'.heap[m]? =W.heap[m]?):Zb W' bf bo jy ab bc l o:=
 ⟨(hk _ (by simp) (aV.1 h.y).1).trans h.y,(hk _ (by simp) (aV.1 h.ch).1).trans h.ch,(hk _ (by simp) (aV.1 h.cells).1).trans h.cells⟩
theorem Zb.below {W W':World} {bf bo jy ab bc l:Nat} {o:List Int} (h:Zb W bf bo jy ab bc l o) (hb:Below W.heap.size W W'):Zb W' bf bo jy ab bc l o:=
 h.kept fun m _ hm=>hb.block m hm
theorem Zb.set {W:World} {bf bo jy ab bc l:Nat} {o:List Int} (h:Zb W bf bo jy ab bc l o) (hd1:jy≠ab) (hd3:bc≠ab) (i:Nat) (x:Int):Zb (W.setCell ⟨ab,i,none⟩ (iv x)) bf bo jy ab bc l (o.set i x):=
 ⟨(dL _ _ _ _ hd1).trans h.y,(dL _ _ _ _ hd3).trans h.ch,by rw[<-tH];exact aI h.cells _⟩
def aiX (_:List Nat) (x:List Int) (v:Value) (_:World):Prop:=v=lY (kJ x)
structure ai2 (bf bo:Nat) (D:bU) (hv nJ tv ov:Value) (es:List KE) (out:List Int) (W:World):Prop where
 fb:W.heap[bf]? =some (.cells #[hv,nJ,tv] 44 (0,0))
 ob:W.heap[bo]? =some (.cells #[ov] 36 (0,0))
 bP:pM W hv nJ tv es D
 out:aP W ov out
theorem Ph (D:bU) (hS:nU D) (oh ok ot:Option Addr) (ch ck ct:Nat) (ov:Value) (es:List KE) (out:List Int) (bf bo jy ab bc l:Nat) (hd1:jy≠ab) (hd3:bc≠ab) (J:List Nat->Option Nat->World->Prop)
 (hInv: ∀Ms s W1,J Ms s W1->ai2 bf bo D (.slice oh D.heaps.length ch) (.slice ok D.aQ.length ck) (.slice ot D.aJ.length ct) ov es out W1)
 (hstep: ∀Ms Ms' s W1 W2,J Ms s W1->Ext Ms W1 W2->(∀m∈Ms',m∈Ms∨(W1.heap.size<=m/\m<W2.heap.size))->True->J Ms' s W2)
 (hY: ∀Ms k v W1 (hk:k<(dI D out).length),J Ms (some k) W1->aiX Ms (dI D out)[k] v W1->YieldAt Fence.wide 0 Tryz.prog l #[v] W1 fun e W'=>
   ((∀m∈Ms,m∉[]->m<W1.heap.size->W'.heap[m]? =W1.heap[m]?)/\W1.heap.size<=W'.heap.size)/\((e= .returned (.bool true)/\J Ms (some (k+1)) W')∨(e= .returned (.bool false)/\J Ms none W'))):
 ∀(m i k:Nat) (pre:List Int) (W:World) (o:List Int),i+m=D.heaps.length->pre.length=i->o.length=3->o.take i=pre->o.drop D.heaps.length=List.replicate (3-D.heaps.length) 0->jM (D.heaps) i k pre->Zb W bf bo jy ab bc l o->J [ab,jy,bc] (some (zS D out k)) W->
  CallsIn Fence.wide 0 Tryz.prog 151 #[iv i,.pointer (some ⟨bf,0,none⟩),.pointer (some ⟨ab,0,none⟩),.pointer (some ⟨bo,0,none⟩),.pointer (some ⟨jy,0,none⟩),.pointer (some ⟨bc,0,none⟩)] W
   (fun e W'=>(e= .returned (.bool true)/\J [ab,jy,bc] (some (zS D out (k+(fJ ((D.heaps).drop i)).length))) W'/\ ∃o',o'.length=3/\o'.take i=pre/\o'.drop D.heaps.length=List.replicate (3-D.heaps.length) 0/\Zb W' bf bo jy ab bc l o')∨
     (e= .returned (.bool false)/\J [ab,jy,bc] none W')):=by
 have hh1:=hS.h1
 have hh3:=hS.h3
 intro m
 induction m with
 |zero=>
  intro i k pre W o him hpl hol hot hod hat hst hJ
  have hrow:(i:Int)=(D.heaps.length:Int):=by omega
  obtain⟨hone,hk,hx⟩:=hat.last (by omega)
  rw[hone]
  have hop:o=kJ pre:=by
   rw[<-List.take_append_drop D.heaps.length o,hod]
   rw[show D.heaps.length=i from by omega,hot]
   unfold kJ
   rw[hpl]
  have hk':k<(uU D).length:=hk
  have hxx:(uU D)[k]=pre:=hx
  obtain⟨hbf,Xx,htl,hov⟩:=hInv _ _ _ hJ
  obtain⟨oo,oc,rfl⟩:=hov.open
  have hmem:pre∈uU D:=hxx▸bT hk'
  have hstr:Str D pre:=tZ hS hmem
  obtain⟨x0,x1,x2,hxs⟩:=nV hol
  have hright:=RQ D hS oh ok ot ch ck ct es pre x0 x1 x2 (by rw[<-hop,hxs]) hstr _ out W htl hov
  obtain⟨Q4,cf1,Um⟩:=af hbf
  obtain⟨cc2,cf2,cl2⟩:=af Xx
  obtain⟨cc3,cf3,cl3⟩:=af hst.y
  have hag:lY o= .agg #[iv x0,iv x1,iv x2]:=by rw[hxs];rfl
  have hcb:=hst.cells
  rw[show(ah o).toArray= #[iv x0,iv x1,iv x2] from by rw[hxs];rfl] at hcb
  obtain⟨cc4,cf4,cl4⟩:=af hcb
  have HR:=ae hright
  have HS:=ae hst
  have HJ:=ae hJ
  have HI:=ae hInv
  have HST:=ae hstep
  have HY:=ae hY
  have HK:=ae (show ∃h:k<(uU D).length,(uU D)[k]=pre from⟨hk',hxx⟩)
  have HO:=ae (ag hol (ag hot (ag hod (ag hop hag))))
  have heq:((i:Int)==(D.heaps.length:Int))=true:=by simpa using hrow
  clear hright hInv hstep hY hst hJ hbf Xx htl hov hat hcb hop hag hxs hx hxx hk hk' hone hrow hot hod hmem hstr
  obtain⟨q,hq⟩: ∃q,tJ D out pre=q:=⟨_,rfl⟩
  have HQ:=ae hq
  rw[hq] at HR
  clear hq
  cases q
  ·skip
   refine callsIn_of_wp Tryz.func151 rfl trivial ?_
   simp only[Tryz.ntmps151,List.size_toArray,List.length_cons,List.length_nil,Nat.reduceAdd,Nat.reduceSub,Array.replicate_succ,Array.replicate_zero,lL,lM,List.nil_append,List.cons_append]
   gi_wp2_with fail
   refine(callsIn_wide.2 HR.o).mono ?_
   rintro e W1 ⟨rfl,hb1⟩
   have HB1:=ae hb1
   clear hb1
   gi_wp2_with fail
   go_returns
   have hJ1:=HST.o _ _ _ _ _ HJ.o (Ext.az HB1.o) (fun m hm=> .inl hm) trivial
   obtain⟨hk',hxx⟩:=HK.o
   rw[<-adh hk' (by rw[hxx];exact HQ.o)] at hJ1
   exact .inl ⟨by simp,hJ1,o,HO.o.1,HO.o.2.1,HO.o.2.2.1,HS.o.below HB1.o⟩
  ·skip
   refine callsIn_of_wp Tryz.func151 rfl trivial ?_
   simp only[Tryz.ntmps151,List.size_toArray,List.length_cons,List.length_nil,Nat.reduceAdd,Nat.reduceSub,Array.replicate_succ,Array.replicate_zero,lL,lM,List.nil_append,List.cons_append]
   gi_wp2_with fail
   refine(callsIn_wide.2 HR.o).mono ?_
   rintro e W1 ⟨rfl,hb1⟩
   obtain⟨hc1,hf1⟩:=bV hb1
   have hs1:=hb1.size
   have HB1:=ae hb1
   have hJ1:=HST.o _ _ _ _ _ HJ.o (Ext.az hb1) (fun m hm=> .inl hm) trivial
   obtain⟨hk',hxx⟩:=HK.o
   obtain⟨hc,hx⟩:=Rt hk' (by rw[hxx];exact HQ.o)
   obtain⟨g1,t1,a1,b1,hy1,hR1⟩:=HY.o _ _ (.agg #[iv x0,iv x1,iv x2]) W1 hc hJ1 (by
    show _=lY (kJ _)
    rw[hx,hxx, <-HO.o.2.2.2.1,HO.o.2.2.2.2])
   have hcn:zS D out (k+1)=zS D out k+1:=aba hk' (by rw[hxx];exact HQ.o)
   have HR1:=ae hR1
   have HCN:=ae hcn
   clear hR1 hJ1 hk' hxx hc hx hcn hb1
   gi_wp2_with fail
   refine HR1.o.mono ?_
   rintro e W' ⟨⟨hkeep,hsz⟩,⟨rfl,hJ⟩|⟨rfl,hJ⟩⟩
   ·have HJ':=ae hJ
    have HK':=ae hkeep
    clear hJ hkeep
    gi_wp2_with fail
    go_returns
    refine .inl ⟨by simp,by rw[HCN.o];exact HJ'.o,o,HO.o.1,HO.o.2.1,HO.o.2.2.1,(HS.o.below HB1.o).kept (fun m hm hml=>HK'.o m hm (by simp) hml)⟩
   ·have HJ':=ae hJ
    clear hJ hkeep
    gi_wp2_with fail
    go_returns
    exact .inr ⟨by simp,HJ'.o⟩
 |succ m ih=>
  intro i k pre W o him hpl hol hot hod hat hst hJ
  have hi:i<(D.heaps).length:=by omega
  have hcount:=jM.count hi
  have hrg:=hS.rg hi
  have hsz0:=hS.sz _ (bT hi)
  obtain⟨r,EF⟩: ∃r,D.heaps[i]=r:=⟨_,rfl⟩
  rw[EF] at hrg hsz0 hcount
  obtain⟨z,hz,hz4⟩: ∃z:Nat,(z:Int)=eQ r/\z<=101:=⟨(eQ r).toNat,by omega,by unfold eQ;omega⟩
  have hsz:(eQ r).toNat=z:=by omega
  rw[hsz] at hcount
  obtain⟨hbf,Xx,htl,hov⟩:=hInv _ _ _ hJ
  obtain⟨Q4,cf1,Um⟩:=af hbf
  have hne:(i:Int)≠(D.heaps.length:Int):=by omega
  have hneb:((i:Int)==(D.heaps.length:Int))=false:=by simpa using hne
  have YO:Hid (∀c:Nat,c<z->jM (D.heaps) (i+1) (k+c*(fJ ((D.heaps).drop (i+1))).length) (pre++[r.1+(c:Int)])):=ae (fun c hc=>by
   have:=hat.next hi c (by rw[EF,hsz];exact hc)
   rw[EF] at this
   exact this)
  obtain⟨bh,ao7,hoh,hbh,hh0,Xt⟩:=bM.cell htl.heaps hi
  cases hoh
  rw[EF] at hh0 Xt
  have HI:=ae hInv
  have HST:=ae hstep
  have HS:=ae hst
  have HJ:=ae hJ
  have HIH:=ae ih
  have Ll:=ae (ag hol (ag hot hod))
  have HCZ:=ae hcount
  have HZ:=ae hz
  have hi3:i<3:=by omega
  have ahT:(i:Int)<3:=by omega
  have hiI:(i:Int)<D.heaps.length:=by omega
  have HRI:=ae (show ∃h:i<D.heaps.length,D.heaps[i]=r from⟨hi,EF⟩)
  have hiR:i<D.heaps.length:=by omega
  clear hInv hstep hY hat hst hJ ih hcount hne hbf Xx htl hov EF hsz hi hol hot hod hz
  refine callsIn_of_wp Tryz.func151 rfl trivial ?_
  simp only[Tryz.ntmps151,List.size_toArray,List.length_cons,List.length_nil,Nat.reduceAdd,Nat.reduceSub,Array.replicate_succ,Array.replicate_zero,lL,lM,List.nil_append,List.cons_append]
  gi_wp2_with fail
  refine(callsIn_wide.2 (KD r _ hrg.1 hrg.2.1 (by omega))).mono ?_
  rintro e W1 ⟨rfl,hb1⟩
  have NF:=ae (HS.o.below hb1)
  have HJ1:=ae (HST.o _ _ _ _ _ HJ.o (Ext.az hb1) (fun m hm=> .inl hm) trivial)
  clear hb1 hh0 Xt hbh Q4 cf1 Um
  rw[<-HZ.o]
  gi_wp2_with fail
  gi_loopw [30] (fun u wr=> ∃c:Nat,c<=z/\u= .int .i64 c/\ ∃o':List Int,o'.length=3/\o'.take i=pre/\o'.drop D.heaps.length=List.replicate (3-D.heaps.length) 0/\Zb wr bf bo jy ab bc l o'/\J [ab,jy,bc] (some (zS D out (k+c*(fJ ((D.heaps).drop (i+1))).length))) wr)
   (fun u _=>z-(intOf u).toNat)
  case atStart=>exact⟨0,bW _,rfl,o,Ll.o.1,Ll.o.2.1,Ll.o.2.2,NF.o,by simpa using HJ1.o⟩
  case round=>
   obtain⟨c,hcz,rfl,o',ho1,ho2,ho3,hst,hJ⟩:=hrel
   by_cases hlt:c<z
   ·obtain⟨hbf,Xx,htl,hov⟩:=HI.o _ _ _ hJ
    obtain⟨cd1,Qp,Qc⟩:=af hbf
    obtain⟨cd3,Qo,Qb⟩:=af hst.ch
    obtain⟨y,hcell⟩: ∃y,wr.cell? ⟨ab,i,none⟩=some (iv y):=⟨_,gJ hst.cells (show i<o'.length by omega)⟩
    have hab:=dP wr _ hcell
    have hfr:=bF hst.cells i
    obtain⟨hi',ahh⟩:=HRI.o
    obtain⟨bh',am7,akP,hbh,hh0,Xt⟩:=bM.cell htl.heaps hi'
    cases akP
    rw[ahh] at hh0 Xt
    clear hi' ahh
    have IU:=ae hst
    have U0:=ae hJ
    have HO:=ae (ag ho1 (ag ho2 ho3))
    have xR:(c:Int)<z:=by omega
    have adQ:(z:Int)=eQ r:=HZ.o
    unfold eQ at adQ
    have hv0: -9223372036854775808<=r.1+(c:Int)/\r.1+(c:Int)<=9223372036854775807:=by omega
    clear hst hJ hbf Xx htl hov ho1 ho2 ho3 adQ
    have Hl:=IU.o.set hd1 hd3 i (r.1+(c:Int))
    have hJS:J [ab,jy,bc] (some (zS D out (k+c*(fJ ((D.heaps).drop (i+1))).length))) (wr.setCell ⟨ab,i,none⟩ (iv (r.1+(c:Int)))):=
     HST.o _ _ _ _ _ U0.o ((mO wr ⟨ab,i,none⟩ _).more (fun x hx=>by simp at hx;subst hx;simp)) (fun m hm=> .inl hm) trivial
    have hcall:=HIH.o (i+1) _ (pre++[r.1+(c:Int)]) _ (o'.set i (r.1+(c:Int))) (by omega) (by simp[hpl]) (by simp[HO.o.1]) (by
     rw[List.take_set]
     rw[rF,HO.o.2.1]
     have hio:i<o'.length:=by have:=HO.o.1;omega
     rw[dA hio]
     simp[qK,hpl]) (by
     rw[List.drop_set,aC hiR];exact HO.o.2.2) (YO.o c hlt) Hl hJS
    rw[show((i+1:Nat):Int)=(i:Int)+1 from by omega] at hcall
    have CS:=ae hcall
    clear hcall Hl hJS
    gi_wp2_with fail
    refine CS.o.mono ?_
    rintro e W2 (⟨rfl,hJ2,o2,ho1,ho2,ho3,hst2⟩|⟨rfl,hJ2⟩)
    ·have HJ2:=ae hJ2
     have UN:=ae hst2
     have Bd:=ae (ag ho1 (ag ho2 ho3))
     clear hJ2 hst2 ho1 ho2 ho3 cd1 Qp Qc cd3 Qo Qb hcell hab hfr hbh hh0 Xt
     gi_wp2_with fail
     go_roundw
     case rel=>
      refine⟨c+1,by omega,by go_num,o2,Bd.o.1,?_,Bd.o.2.2,UN.o,?_⟩
      ·have:=congrArg (List.take i) Bd.o.2.1
       rw[List.take_take,Nat.min_eq_left (by omega)] at this
       rw[this,uG (by omega),kK (by omega)]
      ·rw[Nat.add_mul,Nat.one_mul, <-Nat.add_assoc];exact HJ2.o
     case measure=>simp[intOf];omega
    ·have HJ2:=ae hJ2
     clear hJ2 cd1 Qp Qc cd3 Qo Qb hcell hab hfr hbh hh0 Xt
     gi_wp2_with fail
     go_returns
     exact .inr ⟨by simp,HJ2.o⟩
   ·have TL:c=z:=by omega
    subst TL
    have U0:=ae hJ
    have IU:=ae hst
    have HO:=ae (ag ho1 (ag ho2 ho3))
    clear hJ hst ho1 ho2 ho3
    gi_wp2_with fail
    go_returns
    refine .inl ⟨by simp,?_,o',HO.o.1,HO.o.2.1,HO.o.2.2,IU.o⟩
    rw[HCZ.o];exact U0.o
theorem O0 (D:bU) (hS:nU D) (oh ok ot:Option Addr) (ch ck ct:Nat) (ov:Value) (es:List KE) (out:List Int) (bf bo:Nat):
 Yw Tryz.prog 150 #[.pointer (some ⟨bf,0,none⟩),.pointer (some ⟨bo,0,none⟩)] (dI D out) aiX [] (fun _=>True) (ai2 bf bo D (.slice oh D.heaps.length ch) (.slice ok D.aQ.length ck) (.slice ot D.aJ.length ct) ov es out):=by
 intro l J W hInv hstep hY h0
 have hch:=fun jy ab bc hd1 hd3=>Ph D hS oh ok ot ch ck ct ov es out bf bo jy ab bc l hd1 hd3 J hInv hstep hY
 have hh3:=hS.h3
 have HCH:=ae hch
 have HST:=ae hstep
 have HJ:=ae h0
 have hn2: ∀(A B:Obj) (v:Value) (t:TypeId),(((W.alloc A).alloc B).alloc (.cells #[v] t)).cell? ⟨W.heap.size+1+1,0,none⟩=some v:=fun A B v t=>aB (iD W A B _)
 have hf2: ∀(A B:Obj) (v:Value) (t:TypeId),(((W.alloc A).alloc B).alloc (.cells #[v] t)).frozen? ⟨W.heap.size+1+1,0,none⟩=false:=fun A B v t=>bF (iD W A B _) 0
 clear hInv hstep hY hch h0 hS
 go_enter Tryz.func150,Tryz.ntmps150
 go_wp2_with fail
 refine(callsIn_wide.1 (HCH.o W.heap.size (W.heap.size+1) (W.heap.size+1+1) (by omega) (by omega) D.heaps.length 0 0 [] _ (List.replicate 3 0) (by omega) rfl (by simp) (by simp) (by rw[List.drop_replicate]) (jM.zero _) ⟨?_,?_,?_⟩
  (HST.o _ _ _ _ _ HJ.o (Ext.az zl) (fun m hm=> .inr (by simp at hm;(first|omega|(simp;omega)))) trivial))).mono ?_
 ·exact(aW _ _ _ (by simp;omega)).trans ((aW _ _ _ (by simp)).trans (ay _ _))
 ·exact iD _ _ _ _
 ·exact(aW _ _ _ (by simp)).trans (ed _ _ _)
 ·rintro e W2 (⟨rfl,hJ2,_⟩|⟨rfl,hJ2⟩)
  ·have HJ2:=ae hJ2
   clear hJ2 hn2 hf2
   go_wp2_with fail
   go_end0
   refine⟨⟨_,rfl⟩,[W.heap.size+1,W.heap.size,W.heap.size+1+1],.inl ?_⟩
   have:=HJ2.o
   rw[<-abb]
   simpa [uU] using this
  ·have HJ2:=ae hJ2
   clear hJ2 hn2 hf2
   go_wp2_with fail
   go_end0
   exact⟨⟨_,rfl⟩,_,.inr HJ2.o⟩
theorem O1 (hv nJ tv:Value) (o:Option Addr) (n c:Nat) (w:World):
 Calls Tryz.prog 85 #[kv hv nJ tv,.slice o n c] w (fun e w'=>e= .returned (.func (.func 150) #[] #[.pointer (some ⟨w.heap.size,0,none⟩),.pointer (some ⟨w.heap.size+1,0,none⟩)])/\
  w'=(w.alloc (.cells #[hv,nJ,tv] 44)).alloc (.cells #[.slice o n c] 36)):=by
 go_enter Tryz.func85,Tryz.ntmps85
 go_wp2
 go_returns
 exact⟨by simp,rfl⟩
end Go.Proofs.YthbpmepjmebolaaGreatDoor.Be
end
section
namespace Go.Proofs.YthbpmepjmebolaaGreatDoor.Be
open Go.RowKit Go.RG Go.SL Go.Shelf jC Go.TB
section
variable (c : bU) (oh ok ot : Option Addr) (ch ck ct : Nat) (w : World)
theorem aab (h:3<c.heaps.length∨3<c.aQ.length∨5<c.aJ.length):Calls Tryz.prog 84 #[kv (.slice oh c.heaps.length ch) (.slice ok c.aQ.length ck) (.slice ot c.aJ.length ct)] w (PV (iv 3) w):=by
 by_cases h1:(3:Int)<c.heaps.length
 ·skip
  go_enter Tryz.func84,Tryz.ntmps84
  go_wp2_with fail
  refine zg 6 [] none [] ?_
  simp only[zt]
  repeat (refine zn ?_;simp only[zp])
  intro W hE hF
  obtain⟨hc,hf⟩:=bV hE.below
  have hzE:=hE.size
  (try simp only[bI] at hzE)
  have HB0:=ae (show Below w.heap.size w W from aX (ak (aG _ _) _) hE.below)
  have hk0:W.heap[w.heap.size]? =some (.cells #[.slice oh c.heaps.length ch,.slice ok c.aQ.length ck,.slice ot c.aJ.length ct] 44 (0,0)):=(hE.block _ (by simp) (by simp)).trans (ay _ _)
  clear hE hF hc hf hzE
  obtain⟨d0,f0,m0⟩:=af hk0
  clear hk0
  go_wp2_with fail
  go_returns
  exact⟨by simp,HB0.o⟩
 by_cases h2:(3:Int)<c.aQ.length
 ·skip
  go_enter Tryz.func84,Tryz.ntmps84
  go_wp2_with fail
  refine zg 6 [] none [] ?_
  simp only[zt]
  repeat (refine zn ?_;simp only[zp])
  intro W hE hF
  obtain⟨hc,hf⟩:=bV hE.below
  have hzE:=hE.size
  (try simp only[bI] at hzE)
  have HB0:=ae (show Below w.heap.size w W from aX (ak (aG _ _) _) hE.below)
  have hk0:W.heap[w.heap.size]? =some (.cells #[.slice oh c.heaps.length ch,.slice ok c.aQ.length ck,.slice ot c.aJ.length ct] 44 (0,0)):=(hE.block _ (by simp) (by simp)).trans (ay _ _)
  clear hE hF hc hf hzE
  obtain⟨d0,f0,m0⟩:=af hk0
  clear hk0
  go_wp2_with fail
  go_returns
  exact⟨by simp,HB0.o⟩
 have h3:(5:Int)<c.aJ.length:=by omega
 clear h
 go_enter Tryz.func84,Tryz.ntmps84
 go_wp2_with fail
 refine zg 6 [] none [] ?_
 simp only[zt]
 repeat (refine zn ?_;simp only[zp])
 intro W hE hF
 obtain⟨hc,hf⟩:=bV hE.below
 have hzE:=hE.size
 (try simp only[bI] at hzE)
 have HB0:=ae (show Below w.heap.size w W from aX (ak (aG _ _) _) hE.below)
 have hk0:W.heap[w.heap.size]? =some (.cells #[.slice oh c.heaps.length ch,.slice ok c.aQ.length ck,.slice ot c.aJ.length ct] 44 (0,0)):=(hE.block _ (by simp) (by simp)).trans (ay _ _)
 clear hE hF hc hf hzE
 obtain⟨d0,f0,m0⟩:=af hk0
 clear hk0
 go_wp2_with fail
 go_returns
 exact⟨by simp,HB0.o⟩
theorem Xh (h1: ¬(3:Int)<c.heaps.length) (h2: ¬(3:Int)<c.aQ.length) (h3: ¬(5:Int)<c.aJ.length) (h4:((c.heaps.length:Int)==0)=true):Calls Tryz.prog 84 #[kv (.slice oh c.heaps.length ch) (.slice ok c.aQ.length ck) (.slice ot c.aJ.length ct)] w (PV (iv 1) w):=by
 go_enter Tryz.func84,Tryz.ntmps84
 go_wp2_with fail
 refine zg 6 [] none [] ?_
 simp only[zt]
 repeat (refine zn ?_;simp only[zp])
 intro W hE hF
 obtain⟨hc,hf⟩:=bV hE.below
 have hzE:=hE.size
 (try simp only[bI] at hzE)
 have HB0:=ae (show Below w.heap.size w W from aX (ak (aG _ _) _) hE.below)
 have hk0:W.heap[w.heap.size]? =some (.cells #[.slice oh c.heaps.length ch,.slice ok c.aQ.length ck,.slice ot c.aJ.length ct] 44 (0,0)):=(hE.block _ (by simp) (by simp)).trans (ay _ _)
 clear hE hF hc hf hzE
 obtain⟨d0,f0,m0⟩:=af hk0
 clear hk0
 go_wp2_with fail
 go_returns
 exact⟨by simp,HB0.o⟩
theorem Xg (es:List KE) (hc:pM w (.slice oh c.heaps.length ch) (.slice ok c.aQ.length ck) (.slice ot c.aJ.length ct) es c) (h1: ¬(3:Int)<c.heaps.length) (h2: ¬(3:Int)<c.aQ.length) (h3: ¬(5:Int)<c.aJ.length) (h4:((c.heaps.length:Int)==0)=false)
 (res:Int) (hres:res=if c.heaps.all (wP · 100)=false∨c.aQ.all (wL c)=false∨c.aJ.all (sV c)=false then 1 else if 2000<uM c.heaps then 3 else 0):
 Calls Tryz.prog 84 #[kv (.slice oh c.heaps.length ch) (.slice ok c.aQ.length ck) (.slice ot c.aJ.length ct)] w (PV (iv res) w):=by
 have hel:=hc.len
 have HR:=ae (fun(W:World) (hb:Below w.heap.size w W)=>Tt c.heaps (.slice oh c.heaps.length ch) 145 #[] #[] (wP · 100) W (hc.heaps.below hb (ai _)) (enters_of Tryz.func145 (by kernel_rfl) rfl) (fun x _ W _=>tq x W))
 have HKK:=ae (fun(W:World) (hb:Below w.heap.size w W)=>by
  have:=Tu es (.slice ok c.aQ.length ck) 143 #[kv (.slice oh c.heaps.length ch) (.slice ok c.aQ.length ck) (.slice ot c.aJ.length ct)] #[] (fun e=>wL c e.2) W (hc.aQ.below hb (ai _)) (enters_of Tryz.func143 (by kernel_rfl) rfl) (fun e he W' hb'=>TA c oh ch _ _ e W' ((hc.aQ.2 e he).below (aX hb hb') (ai _)) (by omega))
  rw[show es.all (fun e=>wL c e.2)=c.aQ.all (wL c) from by rw[<-hc.is,List.all_map];rfl] at this
  exact this)
 have HTT:=ae (fun(W:World) (hb:Below w.heap.size w W)=>Tq c.aJ (.slice ot c.aJ.length ct) 142 #[kv (.slice oh c.heaps.length ch) (.slice ok c.aQ.length ck) (.slice ot c.aJ.length ct)] #[] (sV c) W (hc.aJ.below hb (ai _)) (enters_of Tryz.func142 (by kernel_rfl) rfl) (fun x _ W _=>Tj c oh ok ch ck _ x W (by omega) (by omega)))
 have HHP:=ae (fun(W:World) (hb:Below w.heap.size w W)=>hc.heaps.below hb (ai _))
 have YL:=ae hres
 clear hc hel hres
 cases hA:c.heaps.all (wP · 100)
 ·rw[hA] at HR
  have F5:Hid (res=1):=ae (by rw[YL.o,aC (.inl hA)])
  clear hA
  go_enter Tryz.func84,Tryz.ntmps84
  go_wp2_with fail
  refine zg 6 [] none [] ?_
  simp only[zt]
  repeat (refine zn ?_;simp only[zp])
  intro W hE hF
  obtain⟨hc,hf⟩:=bV hE.below
  have hzE:=hE.size
  (try simp only[bI] at hzE)
  have HB0:=ae (show Below w.heap.size w W from aX (ak (aG _ _) _) hE.below)
  have hk0:W.heap[w.heap.size]? =some (.cells #[.slice oh c.heaps.length ch,.slice ok c.aQ.length ck,.slice ot c.aJ.length ct] 44 (0,0)):=(hE.block _ (by simp) (by simp)).trans (ay _ _)
  clear hE hF hc hf hzE
  obtain⟨d0,f0,m0⟩:=af hk0
  clear hk0
  go_wp2_with fail
  refine(HR.o _ HB0.o).mono ?_
  rintro e w1 ⟨rfl,hb⟩
  have hk0:=hb.block _ m0
  obtain⟨dd,ff⟩:=bV hb
  have HB1:=ae (aX HB0.o hb)
  clear hb hk0
  go_wp2_with fail
  go_returns
  exact⟨by rw[F5.o];simp,HB1.o⟩
 rw[hA] at HR
 cases hK:c.aQ.all (wL c)
 ·rw[hK] at HKK
  have F5:Hid (res=1):=ae (by rw[YL.o,aC (.inr (.inl hK))])
  clear hA hK
  go_enter Tryz.func84,Tryz.ntmps84
  go_wp2_with fail
  refine zg 6 [] none [] ?_
  simp only[zt]
  repeat (refine zn ?_;simp only[zp])
  intro W hE hF
  obtain⟨hc,hf⟩:=bV hE.below
  have hzE:=hE.size
  (try simp only[bI] at hzE)
  have HB0:=ae (show Below w.heap.size w W from aX (ak (aG _ _) _) hE.below)
  have hk0:W.heap[w.heap.size]? =some (.cells #[.slice oh c.heaps.length ch,.slice ok c.aQ.length ck,.slice ot c.aJ.length ct] 44 (0,0)):=(hE.block _ (by simp) (by simp)).trans (ay _ _)
  clear hE hF hc hf hzE
  obtain⟨d0,f0,m0⟩:=af hk0
  clear hk0
  go_wp2_with fail
  refine(HR.o _ HB0.o).mono ?_
  rintro e w1 ⟨rfl,hb⟩
  obtain⟨dd,ff⟩:=bV hb
  have hl1:=fP m0 hb.size
  have HB1:=ae (aX HB0.o hb)
  clear hb
  go_wp2_with fail
  refine(HKK.o _ HB1.o).mono ?_
  rintro e w2 ⟨rfl,hb⟩
  have HB2:=ae (aX HB1.o hb)
  clear hb
  go_wp2_with fail
  go_returns
  exact⟨by rw[F5.o];simp,HB2.o⟩
 rw[hK] at HKK
 cases hT:c.aJ.all (sV c)
 ·rw[hT] at HTT
  have F5:Hid (res=1):=ae (by rw[YL.o,aC (.inr (.inr hT))])
  clear hA hK hT
  go_enter Tryz.func84,Tryz.ntmps84
  go_wp2_with fail
  refine zg 6 [] none [] ?_
  simp only[zt]
  repeat (refine zn ?_;simp only[zp])
  intro W hE hF
  obtain⟨hc,hf⟩:=bV hE.below
  have hzE:=hE.size
  (try simp only[bI] at hzE)
  have HB0:=ae (show Below w.heap.size w W from aX (ak (aG _ _) _) hE.below)
  have hk0:W.heap[w.heap.size]? =some (.cells #[.slice oh c.heaps.length ch,.slice ok c.aQ.length ck,.slice ot c.aJ.length ct] 44 (0,0)):=(hE.block _ (by simp) (by simp)).trans (ay _ _)
  clear hE hF hc hf hzE
  obtain⟨d0,f0,m0⟩:=af hk0
  clear hk0
  go_wp2_with fail
  refine(HR.o _ HB0.o).mono ?_
  rintro e w1 ⟨rfl,hb⟩
  obtain⟨dd,ff⟩:=bV hb
  have hl1:=fP m0 hb.size
  have HB1:=ae (aX HB0.o hb)
  clear hb
  go_wp2_with fail
  refine(HKK.o _ HB1.o).mono ?_
  rintro e w2 ⟨rfl,hb⟩
  obtain⟨dd2,ff2⟩:=bV hb
  have hl2:=fP hl1 hb.size
  have HB2:=ae (aX HB1.o hb)
  clear hb
  go_wp2_with fail
  refine(HTT.o _ HB2.o).mono ?_
  rintro e w3 ⟨rfl,hb⟩
  have HB3:=ae (aX HB2.o hb)
  clear hb
  go_wp2_with fail
  go_returns
  exact⟨by rw[F5.o];simp,HB3.o⟩
 rw[hT] at HTT
 have hok: ∀r∈c.heaps,0<=r.1/\r.1<=r.2/\r.2<=100/\1<=eQ r/\eQ r<=101:=fun r hr=>yB (jS.1 hA r hr)
 have F5:Hid (res=if 2000<uM c.heaps then 3 else 0):=ae (by rw[YL.o,aj];simp[hA,hK,hT])
 have jB:=ae hok
 clear hA hK hT hok
 go_enter Tryz.func84,Tryz.ntmps84
 go_wp2_with fail
 refine zg 6 [] none [] ?_
 simp only[zt]
 repeat (refine zn ?_;simp only[zp])
 intro W hE hF
 obtain⟨hc,hf⟩:=bV hE.below
 have hzE:=hE.size
 (try simp only[bI] at hzE)
 have HB0:=ae (show Below w.heap.size w W from aX (ak (aG _ _) _) hE.below)
 have hk0:W.heap[w.heap.size]? =some (.cells #[.slice oh c.heaps.length ch,.slice ok c.aQ.length ck,.slice ot c.aJ.length ct] 44 (0,0)):=(hE.block _ (by simp) (by simp)).trans (ay _ _)
 clear hE hF hc hf hzE
 obtain⟨d0,f0,m0⟩:=af hk0
 clear hk0
 go_wp2_with fail
 refine(HR.o _ HB0.o).mono ?_
 rintro e w1 ⟨rfl,hb⟩
 obtain⟨dd,ff⟩:=bV hb
 have hl1:=fP m0 hb.size
 have HB1:=ae (aX HB0.o hb)
 clear hb
 go_wp2_with fail
 refine(HKK.o _ HB1.o).mono ?_
 rintro e w2 ⟨rfl,hb⟩
 obtain⟨dd2,ff2⟩:=bV hb
 have hl2:=fP hl1 hb.size
 have HB2:=ae (aX HB1.o hb)
 clear hb
 go_wp2_with fail
 refine(HTT.o _ HB2.o).mono ?_
 rintro e w3 ⟨rfl,hb⟩
 obtain⟨dd3,ff3⟩:=bV hb
 have hl3:=fP hl2 hb.size
 have HB3:=ae (aX HB2.o hb)
 clear hb
 go_wp2_with fail
 have HC3:=ae (show ∀i,w3.cell? ⟨w.heap.size,i,none⟩=(#[.slice oh c.heaps.length ch,.slice ok c.aQ.length ck,.slice ot c.aJ.length ct]:Array Value)[i]? from fun i=>(dd3 _ _ hl2).trans ((dd2 _ _ hl1).trans ((dd _ _ m0).trans (d0 i))))
 clear d0 f0 m0 dd ff dd2 ff2 dd3 ff3 hl1 hl2 hl3
 go_loopw [5,57] (fun m i wr=> ∃k:Nat,k<=c.heaps.length/\i= .int .i64 k/\m= .int .i64 (vF c.heaps k)/\Below w.heap.size w wr) (fun _ i _=>c.heaps.length-(intOf i).toNat)
 case atStart=>exact⟨0,bW _,rfl,rfl,HB3.o⟩
 case round=>
  obtain⟨k,hk,rfl,rfl,hB⟩:=hrel
  have hv:=HHP.o wr hB
  by_cases hlt:k<c.heaps.length
  ·obtain⟨b,off,hoo,hb,hc0,hc1⟩:=bM.cell hv hlt
   cases hoo
   have hr:=jB.o _ (bT hlt)
   have hs:=IB c.heaps k hlt
   have hbd:=Qv c.heaps (fun r hr=>(jB.o r hr).2.2.2.1) k
   generalize c.heaps[k]=r at hc0 hc1 hr hs
   obtain⟨hr1,hr2,hr3,hr4,MO⟩:=hr
   unfold rY at hs
   generalize vF c.heaps k=cc at hs hbd
   obtain⟨hb1,hb2⟩:=hbd
   have HS:=ae hs
   have HB:=ae hB
   clear hs hv hB
   have hmul:0<=cc*eQ r/\cc*eQ r<=2001*101:=⟨Int.mul_nonneg (by omega) (by omega),Int.mul_le_mul hb2 MO (by omega) (by omega)⟩
   obtain⟨hm1,hm2⟩:=hmul
   go_wp2_with fail
   refine(KD r _ hr1 hr2 (by omega)).mono ?_
   rintro e w4 ⟨rfl,hb3⟩
   obtain⟨hc,hf⟩:=bV hb3
   go_wp2_with fail
   refine(O6 (cc*eQ r) 2001 _ _ _ ?_ ?_).mono ?_
   ·go_simp
   ·go_simp
   rintro e w5 ⟨rfl,hb4⟩
   go_wp2_with fail
   go_roundw
   case rel=>exact⟨k+1,by omega,by go_num,by rw[HS.o],aX (ak (aX (ak HB.o _) hb3) _) hb4⟩
   case measure=>simp[intOf];omega
  ·have hkl:k=c.heaps.length:=by omega
   have hend:=KX c.heaps (fun r hr=>(jB.o r hr).2.2.2.1)
   have hr:=F5.o
   rw[<-hkl] at hend
   generalize vF c.heaps k=cc at hend
   clear hv
   by_cases hc:2000<cc
   ·rw[aC (hend.1 hc)] at hr
    have HRR:=ae hr
    clear hr hend
    go_wp2_with fail
    go_returns
    exact⟨by rw[HRR.o];simp,hB⟩
   ·rw[aj (fun x=>hc (hend.2 x))] at hr
    have HRR:=ae hr
    clear hr hend
    go_wp2_with fail
    go_returns
    exact⟨by rw[HRR.o];simp,hB⟩
end
theorem He (c:bU) (hv nJ tv:Value) (es:List KE) (w:World) (hc:pM w hv nJ tv es c):Calls Tryz.prog 84 #[kv hv nJ tv] w (PV (iv (qC c)) w):=by
 obtain⟨oh,ch,rfl⟩:=hc.heaps.open
 obtain⟨ok,ck,rfl⟩:=hc.aQ.open
 obtain⟨ot,ct,rfl⟩:=hc.aJ.open
 rw[hc.len] at hc⊢
 unfold qC
 by_cases hl:3<c.heaps.length∨3<c.aQ.length∨5<c.aJ.length
 ·rw[aC hl];exact aab c oh ok ot ch ck ct w hl
 rw[aj hl]
 by_cases h4:c.heaps.length=0
 ·rw[aC (.inl h4)]
  exact Xh c oh ok ot ch ck ct w (by omega) (by omega) (by omega) (by simpa using h4)
 ·refine Xg c oh ok ot ch ck ct w es hc (by omega) (by omega) (by omega) (by simpa using h4) _ ?_
  simp only[h4,false_or]
end Go.Proofs.YthbpmepjmebolaaGreatDoor.Be
end
section
namespace Go.Proofs.YthbpmepjmebolaaGreatDoor.Be
open Go.RowKit Go.RG Go.SL Go.Shelf jC Go.TB
attribute [local go_sem] Oper.semAt_some
theorem Wu (r:dY):(tK r).Pairwise (· ≠ ·):=by
 unfold tK
 rw[List.pairwise_map]
 exact List.nodup_range.imp (fun h e=>h (by omega))
theorem ZC: ∀(rs:List dY),(fJ rs).Pairwise (· ≠ ·):=by
 intro rs
 induction rs with
 |nil=>simp[fJ]
 |cons r rs ih=>
  refine vM _ _ _ (fun x _=>?_) ?_
  ·rw[List.pairwise_map]
   exact ih.imp (fun h e=>h (List.cons.inj e).2)
  ·refine(Wu r).imp (fun {a b} h u hu v hv e=>?_)
   obtain⟨s,_,rfl⟩:=iV.1 hu
   obtain⟨t,_,rfl⟩:=iV.1 hv
   exact h (List.cons.inj e).1
theorem Rq (c:bU) (out:List Int):(dI c out).Pairwise (· ≠ ·):=(ZC c.heaps).filter _
theorem ZJ {a b:List Int} (h:a.length=b.length) (e:kJ a=kJ b):a=b:=by
 unfold kJ at e
 exact(List.append_inj e h).1
theorem agF:iR Tryz.prog 170 177 (.agg #[iv 0,iv 0,iv 0]) 3 24:=⟨Tryz.underlying170,by kernel_rfl,rfl,by omega⟩
structure QU (B:Nat) (hv nJ tv:Value) (ls:List (List Int)) (Ms:List Nat) (W:World):Prop where
 work: ∃v,W.heap[B]? =some (.cells #[hv,nJ,tv,v] 172 (0,0))/\W.ownsRow (B+6) 177 3 v ls.length (ls.flatMap ah)/\ ∀g,v.ownBlock=some g->g∉Ms/\g<W.heap.size
 ptr:W.heap[B+1]? =some (.cells #[.pointer (some ⟨B,0,none⟩)] 109 (0,0))
 b2:W.heap[B+2]? =some (.cells #[hv,nJ,tv] 44 (0,0))
 b3:W.heap[B+3]? =some (.cells #[.slice none 0 0] 36 (0,0))
theorem QU.kept {B:Nat} {hv nJ tv:Value} {ls:List (List Int)} {Ms Ms':List Nat} {W W':World} (h:QU B hv nJ tv ls Ms W) (hs:W.heap.size<=W'.heap.size) (hk: ∀b,B<=b->b<B+4->W'.heap[b]? =W.heap[b]?)
 (ho: ∀g,B+6<=g->g<W.heap.size->g∉Ms->W'.heap[g]? =W.heap[g]?) (hM: ∀m∈Ms',m∈Ms∨(W.heap.size<=m/\m<W'.heap.size)):QU B hv nJ tv ls Ms' W':=by
 obtain⟨v,h1,h2,h3⟩:=h.work
 refine⟨⟨v,(hk _ (by omega) (by omega)).trans h1,dQ h2 fun g hg=>ho g (bH h2 g hg).1 (bH h2 g hg).2 (h3 g hg).1,fun g hg=>⟨fun hm=>?_,by have:=(h3 g hg).2;omega⟩⟩,
  (hk _ (by omega) (by omega)).trans h.ptr,(hk _ (by omega) (by omega)).trans h.b2,(hk _ (by omega) (by omega)).trans h.b3⟩
 rcases hM g hm with h4|h4
 ·exact(h3 g hg).1 h4
 ·have:=(h3 g hg).2;omega
structure UF (W:World) (wb:Nat) (hv nJ tv v:Value) (ls:List (List Int)):Prop where
 cells:W.heap[wb]? =some (.cells #[hv,nJ,tv,v] 172 (0,0))
 truth:aK 3 W v ls.length (ls.flatMap ah)
theorem UF.lt {W:World} {wb:Nat} {hv nJ tv v:Value} {ls:List (List Int)} (h:UF W wb hv nJ tv v ls):wb<W.heap.size:=(aV.1 h.cells).1
theorem UF.below {W W':World} {wb:Nat} {hv nJ tv v:Value} {ls:List (List Int)} (h:UF W wb hv nJ tv v ls) {B:Nat} (hb:Below B W W') (hB:W.heap.size<=B):UF W' wb hv nJ tv v ls:=
 ⟨(hb.block _ (by have:=h.lt;omega)).trans h.cells,h.truth.below hb hB⟩
def abS (c:bU) (hv nJ tv:Value) (fine:Bool) (w:World) (e:Ending) (w':World):Prop:=
 Below w.heap.size w w'/\((jb c fine≠0/\e= .returned (.tuple #[.pointer none,.int .i64 (jb c fine)]))∨
  (jb c fine=0/\ ∃(wb:Nat) (v:Value),e= .returned (.tuple #[.pointer (some ⟨wb,0,none⟩),.int .i64 0])/\w.heap.size<=wb/\UF w' wb hv nJ tv v ((dI c []).map kJ)))
theorem Tn (c:bU) (hv nJ tv:Value) (es:List KE) (g:Nat) (caps:Array Value) (fine:Bool) (w:World) (hc:pM w hv nJ tv es c) (eg: ∀args w,(callFunc g args).run Tryz.prog w= .ok (.enter g args) w)
 (Px: ∀W,Below w.heap.size w W->Calls Tryz.prog g caps W (PV (.bool fine) W)):
 Calls Tryz.prog 48 #[kv hv nJ tv,.func (.func g) #[] caps] w (abS c hv nJ tv fine w):=by
 obtain⟨oh,ch,rfl⟩:=hc.heaps.open
 obtain⟨ok,ck,rfl⟩:=hc.aQ.open
 obtain⟨ot,ct,rfl⟩:=hc.aJ.open
 have hel:=hc.len
 rw[hel] at hc⊢
 have HC':Hid (∀W,Below w.heap.size w W->pM W (.slice oh c.heaps.length ch) (.slice ok c.aQ.length ck) (.slice ot c.aJ.length ct) es c):=ae (fun W hb=>hc.below hb (ai _))
 have HF:=ae Px
 have HCK:=ae (fun(W:World) (hb:Below w.heap.size w W)=>He c (.slice oh c.heaps.length ch) (.slice ok c.aQ.length ck) (.slice ot c.aJ.length ct) es W (hc.below hb (ai _)))
 clear hc Px hel
 by_cases hf0:qC c=0
 case neg=>
  have HE:Hid (jb c fine=qC c/\jb c fine≠0):=ae (by unfold jb;rw[aC hf0];exact⟨rfl,hf0⟩)
  generalize hff:qC c=e at*
  clear hff
  go_enter Tryz.func48,Tryz.ntmps48
  go_wp2_with fail
  refine(HCK.o _ (ak (aG _ _) _)).mono ?_
  rintro e w' ⟨rfl,hb⟩
  go_wp2_with fail
  go_returns
  exact⟨zl,.inl ⟨HE.o.2,by rw[HE.o.1];simp⟩⟩
 rw[hf0] at HCK
 have oJ:=ae (JQ hf0)
 have HF0:=ae hf0
 clear hf0
 cases fine
 ·have HE:Hid (jb c false=2):=ae (by unfold jb;rw[aj (by rw[HF0.o];simp),aC rfl])
  go_enter Tryz.func48,Tryz.ntmps48
  go_wp2_with fail
  refine(HCK.o _ (ak (aG _ _) _)).mono ?_
  rintro e w' ⟨rfl,hb⟩
  have HB1:=ae (show Below w.heap.size w w' from zl)
  clear hb
  go_wp2_with fail
  refine(HF.o _ HB1.o).mono ?_
  rintro e w2 ⟨rfl,hb⟩
  have HB2:=ae (aX HB1.o hb)
  clear hb
  go_wp2_with fail
  go_returns
  exact⟨HB2.o,.inl ⟨by rw[HE.o];simp,by rw[HE.o];simp⟩⟩
 have HE:Hid (jb c true=if(dI c []).isEmpty then 11 else 0):=ae (by unfold jb;rw[aj (by rw[HF0.o];simp),aj (by simp)])
 refine(callsIn_wide (n:=0)).1 ?_
 refine callsIn_of_wp_marks Tryz.func48 rfl trivial ?_
 simp only[Tryz.ntmps48,List.size_toArray,List.length_cons,List.length_nil,Nat.reduceAdd,Nat.reduceSub,Array.replicate_succ,Array.replicate_zero,lL,lM,List.nil_append,List.cons_append]
 gi_wp2_with fail
 refine(callsIn_wide.2 (HCK.o _ (ak (aG _ _) _))).mono ?_
 rintro e w1 ⟨rfl,hb⟩
 obtain⟨hc1,hf1⟩:=bV hb
 have hz1:w.heap.size<w1.heap.size:=by have:=hb.size;simp at this;omega
 have HB1:=ae (show Below w.heap.size w w1 from zl)
 clear hb
 gi_wp2_with fail
 refine(callsIn_wide.2 (HF.o _ HB1.o)).mono ?_
 rintro e w2 ⟨rfl,hb⟩
 obtain⟨hc2,hf2⟩:=bV hb
 have hz2:w.heap.size<w2.heap.size:=by have:=hb.size;omega
 have HB2:=ae (aX HB1.o hb)
 clear hb
 gi_wp2_with fail
 refine(callsIn_wide.2 (O1 _ _ _ none 0 0 _)).mono ?_
 rintro e w3 ⟨rfl,rfl⟩
 gi_wp2_with fail
 have hseq:=fun bf bo=>O0 c oJ.o oh ok ot ch ck ct (.slice none 0 0) es [] bf bo
 obtain⟨hv,hhv⟩: ∃hv,Value.slice oh c.heaps.length ch=hv:=⟨_,rfl⟩
 obtain⟨nJ,ahE⟩: ∃nJ,Value.slice ok c.aQ.length ck=nJ:=⟨_,rfl⟩
 obtain⟨tv,KH⟩: ∃tv,Value.slice ot c.aJ.length ct=tv:=⟨_,rfl⟩
 rw[hhv,ahE,KH] at hseq HC'⊢
 obtain⟨B,qx⟩: ∃B,w2.heap.size=B:=⟨_,rfl⟩
 rw[qx]
 obtain⟨w4,hw4⟩: ∃w4,((((w2.alloc (.cells #[hv,nJ,tv,.slice none 0 0] 172)).alloc (.cells #[.pointer (some ⟨B,0,none⟩)] 109)).alloc (.cells #[hv,nJ,tv] 44)).alloc (.cells #[.slice none 0 0] 36))=w4:=⟨_,rfl⟩
 have aeQ:w4.heap.size=B+4:=by rw[<-hw4];simp;omega
 have hwB:w.heap.size<B:=by omega
 have HB4:Hid (Below w.heap.size w w4):=ae (by rw[<-hw4];exact ak (ak (ak (ak HB2.o _) _) _) _)
 have HA4:Hid (QU B hv nJ tv [] [] w4):=ae (by
  rw[<-hw4]
  refine⟨⟨.slice none 0 0,?_,⟨rfl,.inl ⟨rfl,rfl⟩⟩,fun g hg=>by cases hg⟩,?_,?_,?_⟩
  ·rw[<-qx];exact(aW _ _ _ (by simp;omega)).trans ((aW _ _ _ (by simp;omega)).trans ((aW _ _ _ (by simp)).trans (ay _ _)))
  ·rw[<-qx];exact(aW _ _ _ (by simp)).trans ((aW _ _ _ (by simp)).trans (ed _ _ _))
  ·rw[<-qx];exact(aW _ _ _ (by simp)).trans (iD _ _ _ _)
  ·rw[<-qx];exact mg _ _ _ _ _)
 rw[hw4]
 clear hw4 hc1 hf1 hz1 hc2 hf2
 have KL: ∀b,b∈[w.heap.size,B,B+1,B+2,B+3,B+4,B+5]↔b=w.heap.size∨(B<=b/\b<B+6):=fun b=>by simp;omega
 obtain⟨Os,PD⟩: ∃Os,[w.heap.size,B,B+1,B+2,B+3,B+4,B+5]=Os:=⟨_,rfl⟩
 rw[PD] at KL
 clear PD
 refine mX (hseq (B+1+1) (B+1+1+1)) rfl (enters_of Tryz.func150 (by kernel_rfl) rfl) rfl (by simp)
  (fun Ms k W=>Lr w Os Ms W/\QU B hv nJ tv (((dI c []).take k).map kJ) Ms W)
  (fun _ _ _=>False)
  ?hInv ?um ?hI ?hIx ?Q3 ?yJ ?h0
  (fun a Ms k W1 a₁ W=> ∃(x:List Int) (bt:Nat),(dI c [])[k]? =some x/\a₁={tmps:=(a.tmps.setIfInBounds 24 (lY (kJ x))).setIfInBounds 8 (.pointer (some ⟨bt,0,none⟩)),defers:=[]}/\
    (Lr w Os Ms W/\QU B hv nJ tv (((dI c []).take k).map kJ) Ms W)/\(W.heap[bt]? =some (.cells (ah (kJ x)).toArray 177 (0,0))/\B+6<=bt/\bt∉Ms/\(∀v,W.heap[B]? =some (.cells #[hv,nJ,tv,v] 172 (0,0))->v.ownBlock≠some bt))/\
    (∀m∈Ms,m∉([]:List Nat)->m<W1.heap.size->W.heap[m]? =W1.heap[m]?)/\W1.heap.size<=W.heap.size)
  ?TQ ?hassign ?hbody ?hdone ?hstop
 case hInv=>
  rintro Ms k W ⟨hF,hP⟩
  exact⟨hP.b2,hP.b3,HC'.o W hF.ext,aK.nil 1 W⟩
 case um=>rintro cd Ms W h;exact h.elim
 case hI=>
  rintro Ms Ms' k Wa Wb ⟨hF,hP⟩ hE hMs _
  exact⟨(hF.ja hE hMs).1,hP.kept hE.size (fun b h1 h2=>(hF.ja hE hMs).2 b ((KL b).2 (by omega))) (fun g h1 h2 h3=>hE.block g h2 h3) hMs⟩
 case hIx=>rintro cd Ms Ms' Wa Wb h;exact h.elim
 case Q3=>
  rintro Ms k W r ob ⟨hF,hP⟩ hr
  exact⟨hF.put ob (by omega),hP.kept (by simp) (fun b h1 h2=>World.putObj_heap_other (by omega)) (fun g h1 h2 h3=>World.putObj_heap_other (by omega)) (fun m hm=> .inl hm)⟩
 case yJ=>rintro cd Ms W r ob h;exact h.elim
 case h0=>
  intro o1 o2
  refine⟨⟨ak (ak HB4.o _) _,by simp,by simp,fun b hb=>⟨by simp,by have:=(KL b).1 hb;simp;omega⟩⟩,?_⟩
  rw[List.take_zero]
  exact HA4.o.kept (by simp;omega) (fun b h1 h2=>(aW _ _ _ (by simp;omega)).trans (aW _ _ _ (by omega))) (fun g h1 h2 h3=>by omega) (fun m hm=> .inl hm)
 case TQ=>
  rintro Ms k W1 a₁ W ob ⟨x,bt,hx,ha,⟨hF,hP⟩,⟨hbt,hb6,hbM,hbv⟩,hk,hs⟩
  have hap:=(hF.apart (B+5) ((KL _).2 (by omega))).1
  refine⟨x,bt,hx,ha,⟨hF.put ob (by omega),hP.kept (by simp) (fun b h1 h2=>World.putObj_heap_other (by omega)) (fun g h1 h2 h3=>World.putObj_heap_other (by omega)) (fun m hm=> .inl hm)⟩,
   ⟨(World.putObj_heap_other (by omega)).trans hbt,hb6,hbM,fun v hv=>hbv v ((World.putObj_heap_other (by omega)).symm.trans hv)⟩,
   fun m hm h0 hml=>(World.putObj_heap_other (fun e=>hap (by rw[show B+5=m by omega];exact hm))).trans (hk m hm h0 hml),by simpa using hs⟩
 case hassign=>
  rintro Ms k v W hk ⟨hF,hP⟩ hE hlt
  obtain rfl:v=lY (kJ (dI c [])[k]):=hE
  have hxk:(dI c [])[k]? =some (dI c [])[k]:=dA hk
  have hxl:=(tZ oJ.o (mY _ (bT hk))).1
  generalize (dI c [])[k]=x at*
  have Vp:=oJ.o.h3
  obtain⟨y0,y1,y2,hys⟩:=nV (yA (x:=x) (by omega))
  have hYS:=ae hys
  rw[hys]
  rw[show lY [y0,y1,y2]= .agg #[iv y0,iv y1,iv y2] from rfl]
  gi_wp2
  have hB':Below W.heap.size W (W.alloc (.cells #[iv y0,iv y1,iv y2] 177)):=ak (aG _ _) _
  refine⟨⟨x,W.heap.size,hxk,?_,⟨(hF.ja (Ext.az hB') (fun m hm=> .inl hm)).1,hP.kept (by simp) (fun b h1 h2=>aW _ _ _ (by omega)) (fun g h1 h2 h3=>aW _ _ _ (by omega)) (fun m hm=> .inl hm)⟩,
   ⟨?_,by omega,fun hm=>by have:=hF.bnd _ hm;omega,fun v hv e=>?_⟩,fun m hm h0 hml=>aW _ _ _ (by omega),by simp⟩,aW _ _ _ (by omega),aW _ _ _ (by omega)⟩
  ·rw[hYS.o];rfl
  ·rw[hYS.o];exact ay _ _
  ·obtain⟨v0,h1,h2,h3⟩:=hP.work
   have h4:=(aW _ _ _ (by omega)).symm.trans hv
   rw[h1] at h4
   simp only[Option.some.injEq,Obj.cells.injEq,and_true,Array.mk.injEq,List.cons.injEq,true_and] at h4
   subst h4
   have:=(h3 _ e).2
   omega
 case hbody=>
  rintro Ms k W1 a₁ W7 busy hk ⟨x,bt,hx,rfl,⟨hF,hP⟩,⟨hbt,hb6,hbM,hbv⟩,hkeep,hsz⟩ hrec hD
  simp only[uD,List.set_cons_succ,List.set_cons_zero]
  obtain⟨v,hv1,hv2,hv3⟩:=hP.work
  obtain⟨vo,vc,rfl⟩:=aT hv2
  have aaI:=hbv _ hv1
  obtain⟨c1,f1,l1⟩:=af hP.ptr
  have hxm:=tZ oJ.o (mY _ (mG hx))
  have Vp:=oJ.o.h3
  obtain⟨ys,Pn⟩: ∃ys,kJ x=ys:=⟨_,rfl⟩
  have hyl:ys.length=3:=by rw[<-Pn];exact yA (by omega)
  obtain⟨y0,y1,y2,hys⟩:=nV hyl
  have Hy:=hbt
  rw[Pn,hys] at Hy
  have Hy:W7.heap[bt]? =some (.cells #[iv y0,iv y1,iv y2] 177 (0,0)):=Hy
  obtain⟨c3,f3,l3⟩:=af Hy
  have hwM:=(hF.apart w.heap.size ((KL _).2 (.inl rfl))).1
  have ahw:((dI c []).take (k+1)).map kJ=((dI c []).take k).map kJ++[ys]:=by
   rw[rF,hx];simp[Pn]
  have ae3:k<=2000:=by have:=vK oJ.o [];omega
  have hlk:(((dI c []).take k).map kJ).length=k:=by simp;omega
  have h3s: ∀z∈((dI c []).take k).map kJ,z.length=3:=fun z hz=>by
   obtain⟨t,ht,rfl⟩:=iV.1 hz
   have:=tZ oJ.o (mY _ (oM ht))
   exact yA (by omega)
  have hne: ∀A z,((dI c []).take k).map kJ=A++[z]->(z==ys)=false:=fun A z he=>by
   rw[jI]
   rintro rfl
   have hkp:0<k:=by
    cases k with
    |zero=>simp at he
    |succ k=>omega
   have hkj:k-1<(dI c []).length:=by omega
   have h1:(((dI c []).take k).map kJ)[k-1]? =some z:=by
    rw[he,nT (by have:=congrArg List.length he;simp at this;omega)]
    have:=congrArg List.length he
    rw[hlk,dE,List.length_singleton] at this
    rw[show k-1-A.length=0 from by omega];rfl
   rw[qJ,List.getElem?_take_of_lt (by omega),dA hkj] at h1
   have h2:kJ (dI c [])[k-1]=kJ x:=by rw[Pn];exact jH h1
   have h3:=tZ oJ.o (mY _ (bT hkj))
   have h4:=ZJ (by rw[h3.1,hxm.1]) h2
   obtain⟨hk',hx'⟩:=jq.1 hx
   exact(List.pairwise_iff_getElem.1 (Rq c [])) (k-1) k hkj hk' (by omega) (by rw[h4,hx'])
  replace hlk:(((dI c []).take k).map kJ).length<=2000:=by rw[hlk];exact ae3
  have yZ:=ae hF
  have VS:=ae hP
  have HV:=ae (ag hv1 (ag hv2 hv3))
  have CP:=ae (ag hys hyl)
  have HK:=ae (ag hkeep (ag hrec hD))
  have HBT:=ae Hy
  have HBV:=ae aaI
  have ai8:=ae ahw
  have H3:=ae h3s
  have Lm:=ae hne
  have hap: ∀b∈Os,b∉Ms/\b<W7.heap.size:=hF.apart
  have hin: ∀b,B<=b->b<B+6->b∈Os:=fun b h1 h2=>(KL b).2 (by omega)
  have hw7:w.heap.size<W7.heap.size:=(hap _ ((KL _).2 (.inl rfl))).2
  obtain⟨c2,f2,q2⟩:=af hv1
  clear hF hP hv1 hv2 hv3 hx hys Pn hxm hyl hkeep hrec hD hbt Hy hbv aaI ahw h3s hne
  generalize ((dI c []).take (k+1)).map kJ=ls' at*
  generalize ((dI c []).take k).map kJ=ls at*
  gi_wp2_with fail
  rcases(List.eq_nil_or_concat ls).imp id (fun⟨A,z,e⟩=>(⟨A,z,e.trans (List.concat_eq_append)⟩: ∃A z,ls=A++[z])) with rfl|⟨A,z,rfl⟩
  ·simp only[List.length_nil] at c2 HV HBV
   refine dW 22 [] none [] (by kernel_rfl) (by kernel_rfl) (by kernel_rfl) ?_
   simp only[zt]
   repeat ((first|refine zn ?_|refine zk ?_);simp only[zp])
   intro W hE hF
   obtain⟨hc,hf⟩:=bV hE.below
   have hzE:=hE.size
   (try simp only[bI] at hzE)
   have lV:Ext [] W7 W:=hE
   have I8:QU B hv nJ tv ([]) Ms W:=VS.o.kept lV.size (fun b h1 h2=>lV.block b (by have:=(hap b (hin b h1 (by omega))).2;omega) (by simp)) (fun g h1 h2 h3=>lV.block g h2 (by simp)) (fun m hm=> .inl hm)
   have Hw:=(lV.block _ (aV.1 HBT.o).1 (by simp)).trans HBT.o
   obtain⟨v8,ui,ug,Au⟩:=I8.work
   have Hg:v8= .slice (vo) (0) vc:=by
    have h4:=(lV.block _ q2 (by simp)).trans HV.o.1
    rw[ui] at h4
    simp only[Option.some.injEq,Obj.cells.injEq,and_true,Array.mk.injEq,List.cons.injEq,true_and] at h4
    exact h4
   rw[Hg] at ui ug Au
   clear Hg
   (try simp only[List.length_nil] at ug)
   (try simp only[dE,List.length_cons,List.length_nil,Nat.zero_add] at ug)
   obtain⟨p1,p2,p3⟩:=af (show W.heap[B+1]? =some (.cells #[.pointer (some ⟨B,0,none⟩)] 109 (0,0)) from I8.ptr)
   obtain⟨p4,p5,p6⟩:=af (show W.heap[B]? =some (.cells #[hv,nJ,tv,.slice (vo) (0) vc] 172 (0,0)) from ui)
   obtain⟨p7,p8,p9⟩:=af Hw
   have aeR:=lV.size
   have Lj:=ae I8
   have I9:=ae (ag ui (ag ug Au))
   have iZ:=ae lV
   clear hE hF hc hf lV I8 ui ug Au Hw c1 f1 l1 c2 f2 q2 c3 f3 l3 hzE
   obtain⟨gx,hgx,acV,hgx2,BN,acU⟩: ∃gx,(∀g,(Value.slice (vo) (0) vc).ownBlock=some g->g=gx)/\(gx=w.heap.size∨B+6<=gx)/\gx<W.heap.size/\gx∉Ms/\gx≠bt:=by
    cases Az:(Value.slice (vo) (0) vc).ownBlock with
    |none=>exact⟨w.heap.size,(fun g hg=>by cases hg),.inl rfl,by omega,hwM,by omega⟩
    |some g=>
     have h1:=bH I9.o.2.1 g Az
     have h2:=I9.o.2.2 g Az
     exact⟨g,(fun g' hg=>by cases hg;rfl),.inr h1.1,h1.2,h2.1,fun e=>HBV.o (by rw[Az,e])⟩
   have HG:=ae hgx
   clear hgx
   have z1:gx≠B:=by omega
   have z2:gx≠B+1:=by omega
   have z1':B≠gx:=by omega
   have z2':B+1≠gx:=by omega
   have z3':bt≠gx:=by omega
   gi_wp2_with fail
   refine dW 8 [gx] (some 7) [(6,Spec.slice W.heap.size #[iv y0,iv y1,iv y2] 177 1),(7,⟨fun _ v=> ∃o c,v= .slice o (0+1) c,fun _ v Wx=>Wx.ownsRow (B+6) 177 3 v (0+1) ((([])++[ys]).flatMap ah)/\(∀g,v.ownBlock=some g->g=gx∨W.heap.size<=g)⟩)] (by kernel_rfl) (by kernel_rfl) (by kernel_rfl) ?_
   simp only[zt]
   repeat ((first|refine zn ?_|refine zk ?_);simp only[zp])
   refine cu W.heap.size _ _ 1 (by rfl) (ai _) (by rfl) (by simpa using hgx2) (by simp) (fun W hW=>by go_simp;try rfl) (fun b6=>?_)
   simp only[zp]
   refine bJ _ (by rfl) (by rfl) (by exact⟨.slice none (0+1) 0,none,0,rfl⟩) (fun Wa hE hF=>?_) (fun v Wa Wb ho hE=>?_) (fun v hv=>?_)
   ·have hE':Ext [] W Wa:=hE
    obtain⟨b',hb',hge,hcc⟩:=hF _ (bg _) (by kernel_rfl)
    cases hb'
    have hown6:=aA (Ms:=[]) I9.o.2.1 hE' (by simp)
    have hsrc:aK 3 Wa (.slice (some ⟨b6,0,none⟩) 1 1) 1 (ah ys):=by
     rw[CP.o.1]
     exact aK.dw 3 1 hcc rfl (by decide)
    refine Does.mono (dU agF (by rfl) (by rfl) hown6 (by rfl) hsrc (jD _) (by omega) (by omega) (by have:=hE'.size;omega)) ?_
    rintro v' Wc ⟨ho,hgr,hcase⟩
    refine⟨aT ho,⟨?_,fun g hg=>?_⟩,⟨hgr.os,hgr.tape,hgr.output,hgr.size,fun b hb hn=>hgr.block b hb (fun e=>hn (by rw[HG.o b e.symm];simp))⟩⟩
    ·rw[vO]
     simpa using ho
    ·rcases hcase with h1|h1
     ·exact .inl (HG.o g (by rw[<-h1,hg]))
     ·rw[hg] at h1;injection h1 with h1;exact .inr (by have:=hE'.size;omega)
   ·exact⟨aA (Ms:=[]) ho.1 hE (by simp),ho.2⟩
   obtain⟨o7,c7,rfl⟩:=hv
   simp only[zp]
   intro W9 hE hF
   have hE':Ext [gx] W W9:=hE
   obtain⟨Vq,Jo⟩:=hF _ (bg _)
   have Ar:W9.heap[B]? =some (.cells #[hv,nJ,tv,.slice (vo) (0) vc] 172 (0,0)):=(hE'.block _ p6 (by simpa using z1')).trans I9.o.1
   obtain⟨c9,f9,l9⟩:=af Ar
   have CQ:=ae hE'
   have xG:=ae (ag Vq (ag Jo Ar))
   clear hE hF hE' Vq Jo p1 p2 p4 p5 p7 p8 Ar
   gi_wp2_with fail
   obtain⟨v',hv'⟩: ∃v',Value.slice o7 (0+1) c7=v':=⟨_,rfl⟩
   rw[hv'] at xG⊢
   have xh:(W9.setCell ⟨B,3,none⟩ v').heap.size=W9.heap.size:=by simp[World.setCell]
   have hs9:=CQ.o.size
   have hks: ∀b,b<W.heap.size->b≠gx->b≠B->(W9.setCell ⟨B,3,none⟩ v').heap[b]? =W.heap[b]? :=fun b hb h1 h2=>
    (dL _ _ _ _ h2).trans (CQ.o.block b hb (by simpa using h1))
   have EN: ∀b,b<W7.heap.size->b≠gx->b≠B->(W9.setCell ⟨B,3,none⟩ v').heap[b]? =W7.heap[b]? :=fun b hb h1 h2=>(hks b (by omega) h1 h2).trans (iZ.o.block b hb (by simp))
   have hFB:Lr w Os Ms (W9.setCell ⟨B,3,none⟩ v'):=yZ.o.own (yZ.o.ext.trans ⟨CQ.o.os.trans iZ.o.os,CQ.o.tape.trans iZ.o.tape,CQ.o.output.trans iZ.o.output,by rw[xh];omega,fun b hb=>(dL _ _ _ _ (by show b≠B;omega)).trans ((CQ.o.block b (by have:=yZ.o.ext.size;omega) (by simp;omega)).trans (iZ.o.block b (by have:=yZ.o.ext.size;omega) (by simp)))⟩) (by rw[xh];omega)
   have hlen1:(([])++[ys]).length=0+1:=by simp
   refine⟨⟨?_,?_,fun m hm h0 hml=>?_,by rw[xh];omega⟩,hFB,?_⟩
   ·exact(EN _ (by have:=(hap _ (hin (w4.heap.size+1) (by omega) (by omega))).2;omega) (by omega) (by omega)).trans HK.o.2.1
   ·exact(EN _ (by have:=(hap _ (hin w4.heap.size (by omega) (by omega))).2;omega) (by omega) (by omega)).trans HK.o.2.2
   ·exact(EN m (yZ.o.bnd m hm) (fun e=>BN (e▸hm)) (fun e=>(hap B (hin _ (by omega) (by omega))).1 (e▸hm))).trans (HK.o.1 m hm h0 hml)
   rw[ai8.o]
   refine⟨⟨v',aI xG.o.2.2 _,hlen1.symm▸dQ xG.o.1 fun g hg=>dL _ _ _ _ (by have:=(bH xG.o.1 g hg).1;show g≠B;omega),fun g hg=>⟨fun hm=>?_,by rw[xh];exact(bH xG.o.1 g hg).2⟩⟩,?_,?_,?_⟩
   ·rcases xG.o.2.1 g hg with h1|h1
    ·exact BN (h1▸hm)
    ·have:=yZ.o.bnd g hm;omega
   ·exact(hks _ (by have:=(hap _ (hin (B+1) (by omega) (by omega))).2;omega) (by omega) (by omega)).trans Lj.o.ptr
   ·exact(hks _ (by have:=(hap _ (hin (B+2) (by omega) (by omega))).2;omega) (by omega) (by omega)).trans Lj.o.b2
   ·exact(hks _ (by have:=(hap _ (hin (B+3) (by omega) (by omega))).2;omega) (by omega) (by omega)).trans Lj.o.b3
  ·have hz3:=H3.o z (by simp)
   obtain⟨gb,gc,hvv,hgb,TK,Fz⟩:=Dk (A:=A) (z:=z) (by simpa using HV.o.2.1) (fun x hx=>H3.o x (by simp[hx])) hz3
   have hcap:vo=some ⟨gb,0,none⟩:=by simp at hvv;exact hvv.1
   subst hcap
   have hzl:(ah z).length=3:=by simp[ah,hz3]
   (try simp only[dE,List.length_cons,List.length_nil,Nat.zero_add] at c2)
   (try simp only[dE,List.length_cons,List.length_nil,Nat.zero_add] at HV)
   (try simp only[dE,List.length_cons,List.length_nil,Nat.zero_add] at HBV)
   (try simp only[dE,List.length_cons,List.length_nil,Nat.zero_add] at hlk)
   have hAI:((A.length:Int)+1==0)=false:=by simp;omega
   have hA0: ¬((A.length:Int)+1=0):=by omega
   have hA1:((A.length:Int)+1).toNat=A.length+1:=by omega
   have hAm:(A.length:Int)+1-1=A.length:=by omega
   have hy3:ys.length=3:=CP.o.2
   have hq:=Lm.o A z rfl
   refine dW 22 [] none [] (by kernel_rfl) (by kernel_rfl) (by kernel_rfl) ?_
   simp only[zt]
   repeat ((first|refine zn ?_|refine zk ?_);simp only[zp])
   refine gq (by rfl) (.pointer (some ⟨gb,A.length*3,none⟩)) (by rfl) (fun W hW=>by go_simp;(try simp(disch:=omega) only[IntWalk.i64_in]);(try rw[aC (by omega)]);(try simp);(try (intro hx;exfalso;omega))) ?_
   simp only[zp]
   refine gq (by rfl) (.agg (ah z).toArray) (by rfl) (fun W hW=>jU 177 _ (by rfl) gb (A.length*3) (by rfl) (ah z) _ (fun j u hj=>(hW gb _ TK (by simp)).trans (Fz j u hj)) Tryz.underlying177 rfl (by rw[hzl];kernel_rfl)) ?_
   simp only[zp]
   refine gq (by rfl) (.agg #[iv y0,iv y1,iv y2]) (by rfl) (fun W hW=>by go_simp;try rfl) ?_
   simp only[zp]
   refine gq (by rfl) (.bool true) (by rfl) (fun W hW=>(ou 177 3 _ 3 _ _ (by rfl) Tryz.underlying177 Tryz.underlying3 (by intro w;go_simp) (by kernel_rfl) z [y0,y1,y2] (by rfl) (by rfl) hz3 (by rfl)).trans (by rw[CP.o.1] at hq;rw[hq];rfl)) ?_
   simp only[zp]
   repeat ((first|refine zn ?_|refine zk ?_);simp only[zp])
   intro W hE hF
   obtain⟨hc,hf⟩:=bV hE.below
   have hzE:=hE.size
   (try simp only[bI] at hzE)
   have lV:Ext [] W7 W:=hE
   have I8:QU B hv nJ tv (A++[z]) Ms W:=VS.o.kept lV.size (fun b h1 h2=>lV.block b (by have:=(hap b (hin b h1 (by omega))).2;omega) (by simp)) (fun g h1 h2 h3=>lV.block g h2 (by simp)) (fun m hm=> .inl hm)
   have Hw:=(lV.block _ (aV.1 HBT.o).1 (by simp)).trans HBT.o
   obtain⟨v8,ui,ug,Au⟩:=I8.work
   have Hg:v8= .slice ((some ⟨gb,0,none⟩)) ((A.length+1)) vc:=by
    have h4:=(lV.block _ q2 (by simp)).trans HV.o.1
    rw[ui] at h4
    simp only[Option.some.injEq,Obj.cells.injEq,and_true,Array.mk.injEq,List.cons.injEq,true_and] at h4
    exact h4
   rw[Hg] at ui ug Au
   clear Hg
   (try simp only[List.length_nil] at ug)
   (try simp only[dE,List.length_cons,List.length_nil,Nat.zero_add] at ug)
   obtain⟨p1,p2,p3⟩:=af (show W.heap[B+1]? =some (.cells #[.pointer (some ⟨B,0,none⟩)] 109 (0,0)) from I8.ptr)
   obtain⟨p4,p5,p6⟩:=af (show W.heap[B]? =some (.cells #[hv,nJ,tv,.slice ((some ⟨gb,0,none⟩)) ((A.length+1)) vc] 172 (0,0)) from ui)
   obtain⟨p7,p8,p9⟩:=af Hw
   have aeR:=lV.size
   have Lj:=ae I8
   have I9:=ae (ag ui (ag ug Au))
   have iZ:=ae lV
   clear hE hF hc hf lV I8 ui ug Au Hw c1 f1 l1 c2 f2 q2 c3 f3 l3 hzE
   obtain⟨gx,hgx,acV,hgx2,BN,acU⟩: ∃gx,(∀g,(Value.slice ((some ⟨gb,0,none⟩)) ((A.length+1)) vc).ownBlock=some g->g=gx)/\(gx=w.heap.size∨B+6<=gx)/\gx<W.heap.size/\gx∉Ms/\gx≠bt:=by
    cases Az:(Value.slice ((some ⟨gb,0,none⟩)) ((A.length+1)) vc).ownBlock with
    |none=>exact⟨w.heap.size,(fun g hg=>by cases hg),.inl rfl,by omega,hwM,by omega⟩
    |some g=>
     have h1:=bH I9.o.2.1 g Az
     have h2:=I9.o.2.2 g Az
     exact⟨g,(fun g' hg=>by cases hg;rfl),.inr h1.1,h1.2,h2.1,fun e=>HBV.o (by rw[Az,e])⟩
   have HG:=ae hgx
   clear hgx
   have z1:gx≠B:=by omega
   have z2:gx≠B+1:=by omega
   have z1':B≠gx:=by omega
   have z2':B+1≠gx:=by omega
   have z3':bt≠gx:=by omega
   gi_wp2_with fail
   refine dW 8 [gx] (some 7) [(6,Spec.slice W.heap.size #[iv y0,iv y1,iv y2] 177 1),(7,⟨fun _ v=> ∃o c,v= .slice o ((A.length+1)+1) c,fun _ v Wx=>Wx.ownsRow (B+6) 177 3 v ((A.length+1)+1) (((A++[z])++[ys]).flatMap ah)/\(∀g,v.ownBlock=some g->g=gx∨W.heap.size<=g)⟩)] (by kernel_rfl) (by kernel_rfl) (by kernel_rfl) ?_
   simp only[zt]
   repeat ((first|refine zn ?_|refine zk ?_);simp only[zp])
   refine cu W.heap.size _ _ 1 (by rfl) (ai _) (by rfl) (by simpa using hgx2) (by simp) (fun W hW=>by go_simp;try rfl) (fun b6=>?_)
   simp only[zp]
   refine bJ _ (by rfl) (by rfl) (by exact⟨.slice none ((A.length+1)+1) 0,none,0,rfl⟩) (fun Wa hE hF=>?_) (fun v Wa Wb ho hE=>?_) (fun v hv=>?_)
   ·have hE':Ext [] W Wa:=hE
    obtain⟨b',hb',hge,hcc⟩:=hF _ (bg _) (by kernel_rfl)
    cases hb'
    have hown6:=aA (Ms:=[]) I9.o.2.1 hE' (by simp)
    have hsrc:aK 3 Wa (.slice (some ⟨b6,0,none⟩) 1 1) 1 (ah ys):=by
     rw[CP.o.1]
     exact aK.dw 3 1 hcc rfl (by decide)
    refine Does.mono (dU agF (by rfl) (by rfl) hown6 (by rfl) hsrc (jD _) (by omega) (by omega) (by have:=hE'.size;omega)) ?_
    rintro v' Wc ⟨ho,hgr,hcase⟩
    refine⟨aT ho,⟨?_,fun g hg=>?_⟩,⟨hgr.os,hgr.tape,hgr.output,hgr.size,fun b hb hn=>hgr.block b hb (fun e=>hn (by rw[HG.o b e.symm];simp))⟩⟩
    ·rw[vO]
     simpa using ho
    ·rcases hcase with h1|h1
     ·exact .inl (HG.o g (by rw[<-h1,hg]))
     ·rw[hg] at h1;injection h1 with h1;exact .inr (by have:=hE'.size;omega)
   ·exact⟨aA (Ms:=[]) ho.1 hE (by simp),ho.2⟩
   obtain⟨o7,c7,rfl⟩:=hv
   simp only[zp]
   intro W9 hE hF
   have hE':Ext [gx] W W9:=hE
   obtain⟨Vq,Jo⟩:=hF _ (bg _)
   have Ar:W9.heap[B]? =some (.cells #[hv,nJ,tv,.slice ((some ⟨gb,0,none⟩)) ((A.length+1)) vc] 172 (0,0)):=(hE'.block _ p6 (by simpa using z1')).trans I9.o.1
   obtain⟨c9,f9,l9⟩:=af Ar
   have CQ:=ae hE'
   have xG:=ae (ag Vq (ag Jo Ar))
   clear hE hF hE' Vq Jo p1 p2 p4 p5 p7 p8 Ar
   gi_wp2_with fail
   obtain⟨v',hv'⟩: ∃v',Value.slice o7 ((A.length+1)+1) c7=v':=⟨_,rfl⟩
   rw[hv'] at xG⊢
   have xh:(W9.setCell ⟨B,3,none⟩ v').heap.size=W9.heap.size:=by simp[World.setCell]
   have hs9:=CQ.o.size
   have hks: ∀b,b<W.heap.size->b≠gx->b≠B->(W9.setCell ⟨B,3,none⟩ v').heap[b]? =W.heap[b]? :=fun b hb h1 h2=>
    (dL _ _ _ _ h2).trans (CQ.o.block b hb (by simpa using h1))
   have EN: ∀b,b<W7.heap.size->b≠gx->b≠B->(W9.setCell ⟨B,3,none⟩ v').heap[b]? =W7.heap[b]? :=fun b hb h1 h2=>(hks b (by omega) h1 h2).trans (iZ.o.block b hb (by simp))
   have hFB:Lr w Os Ms (W9.setCell ⟨B,3,none⟩ v'):=yZ.o.own (yZ.o.ext.trans ⟨CQ.o.os.trans iZ.o.os,CQ.o.tape.trans iZ.o.tape,CQ.o.output.trans iZ.o.output,by rw[xh];omega,fun b hb=>(dL _ _ _ _ (by show b≠B;omega)).trans ((CQ.o.block b (by have:=yZ.o.ext.size;omega) (by simp;omega)).trans (iZ.o.block b (by have:=yZ.o.ext.size;omega) (by simp)))⟩) (by rw[xh];omega)
   have hlen1:((A++[z])++[ys]).length=(A.length+1)+1:=by simp
   refine⟨⟨?_,?_,fun m hm h0 hml=>?_,by rw[xh];omega⟩,hFB,?_⟩
   ·exact(EN _ (by have:=(hap _ (hin (w4.heap.size+1) (by omega) (by omega))).2;omega) (by omega) (by omega)).trans HK.o.2.1
   ·exact(EN _ (by have:=(hap _ (hin w4.heap.size (by omega) (by omega))).2;omega) (by omega) (by omega)).trans HK.o.2.2
   ·exact(EN m (yZ.o.bnd m hm) (fun e=>BN (e▸hm)) (fun e=>(hap B (hin _ (by omega) (by omega))).1 (e▸hm))).trans (HK.o.1 m hm h0 hml)
   rw[ai8.o]
   refine⟨⟨v',aI xG.o.2.2 _,hlen1.symm▸dQ xG.o.1 fun g hg=>dL _ _ _ _ (by have:=(bH xG.o.1 g hg).1;show g≠B;omega),fun g hg=>⟨fun hm=>?_,by rw[xh];exact(bH xG.o.1 g hg).2⟩⟩,?_,?_,?_⟩
   ·rcases xG.o.2.1 g hg with h1|h1
    ·exact BN (h1▸hm)
    ·have:=yZ.o.bnd g hm;omega
   ·exact(hks _ (by have:=(hap _ (hin (B+1) (by omega) (by omega))).2;omega) (by omega) (by omega)).trans Lj.o.ptr
   ·exact(hks _ (by have:=(hap _ (hin (B+2) (by omega) (by omega))).2;omega) (by omega) (by omega)).trans Lj.o.b2
   ·exact(hks _ (by have:=(hap _ (hin (B+3) (by omega) (by omega))).2;omega) (by omega) (by omega)).trans Lj.o.b3
 case hdone=>
  rintro Ms W ⟨hF,hP⟩ hD hlt
  rw[List.take_length] at hP
  obtain⟨v,hv1,hv2,hv3⟩:=hP.work
  obtain⟨vo,vc,rfl⟩:=aT hv2
  obtain⟨c1,f1,l1⟩:=af hP.ptr
  obtain⟨c2,f2,l2⟩:=af hv1
  have Lp:=ae hF
  have HV:=ae (ag hv1 hv2)
  have hcnt:((dI c []).map kJ).length<=2000:=by rw[lJ];exact vK oJ.o []
  have hemp:((dI c []).isEmpty=true)↔((dI c []).map kJ).length=0:=by simp
  have HEM:=ae hemp
  clear hF hP hv1 hv2 hv3 hemp
  generalize hls:(dI c []).map kJ=ls at*
  have JC:=ae hls
  clear hls
  by_cases hn:ls.length=0
  ·have hn':(((ls.length:Nat):Int)==0)=true:=by simpa using hn
   have abM:Hid (jb c true=11):=ae (by rw[HE.o,aC (HEM.o.2 hn)])
   clear hn
   gi_wp2_with fail
   refine⟨by simp,.inl ⟨_,_,rfl,run_takeDeferred hD,?_⟩⟩
   exact⟨.tuple #[.pointer none,.int .i64 11],by simp[results,Tryz.results48,go_sem],(Lp.o.put (Obj.deferred none) (by omega)).ext,.inl ⟨by rw[abM.o];simp,by rw[abM.o]⟩⟩
  ·have hn':(((ls.length:Nat):Int)==0)=false:=by simpa using hn
   have HE0:Hid (jb c true=0):=ae (by rw[HE.o,aj (fun h=>hn (HEM.o.1 h))])
   clear hn
   gi_wp2_with fail
   refine⟨by simp,.inl ⟨_,_,rfl,run_takeDeferred hD,?_⟩⟩
   refine⟨.tuple #[.pointer (some ⟨B,0,none⟩),.int .i64 0],by simp[results,Tryz.results48,go_sem],(Lp.o.put (Obj.deferred none) (by omega)).ext,.inr ⟨HE0.o,B,.slice vo ls.length vc,rfl,by omega,?_⟩⟩
   rw[hhv,ahE,KH,JC.o]
   refine⟨?_,?_⟩
   ·exact(World.putObj_heap_other (by omega)).trans HV.o.1
   ·exact aK.dR (dQ HV.o.2 fun g hg=>World.putObj_heap_other (by have:=(bH HV.o.2 g hg).1;omega))
 case hstop=>rintro cd Ms W h;exact h.elim
end Go.Proofs.YthbpmepjmebolaaGreatDoor.Be
end
section
namespace Go.Proofs.YthbpmepjmebolaaGreatDoor.Be
open Go.RowKit Go.RG Go.SL Go.Shelf jC Go.TB
attribute [local go_sem] Oper.semAt_some
theorem U4 {w:World} {o:Option Addr} {n c:Nat} {ls:List (List Int)} (h:aK 3 w (.slice o n c) (ls.map kJ).length ((ls.map kJ).flatMap ah)) (h3: ∀x∈ls,x.length<=3) {k:Nat} (hk:k<ls.length):
 ∃b off y0 y1 y2,o=some ⟨b,off,none⟩/\b<w.heap.size/\kJ ls[k]=[y0,y1,y2]/\w.cell? ⟨b,off+k*3,none⟩=some (iv y0)/\w.cell? ⟨b,off+k*3+1,none⟩=some (iv y1)/\w.cell? ⟨b,off+k*3+2,none⟩=some (iv y2):=by
 obtain⟨hl,o',c',hv,h1,h2,h4,h5⟩:=h
 cases hv
 obtain⟨y0,y1,y2,hys⟩:=nV (yA (h3 _ (bT hk)))
 rw[lJ] at h1
 cases o with
 |none=>have:=h4 rfl;omega
 |some a=>
  obtain⟨b,off,sp⟩:=a
  obtain⟨hs,hc⟩:=h5 _ rfl
  simp only at hs hc
  subst hs
  have g: ∀j,j<3->((ls.map kJ).flatMap ah)[k*3+j]? =[iv y0,iv y1,iv y2][j]? :=fun j hj=>by
   rw[Ie ah 3 (ls.map kJ) (fun x hx=>by
    obtain⟨t,ht,rfl⟩:=iV.1 hx
    simp[ah,yA (h3 t ht)]) k j (by rw[lJ];exact hk) hj,List.getElem_map,hys]
   rfl
  have r0:=hc (k*3+0) (iv y0) (by rw[g 0 (by omega)];rfl)
  have r1:=hc (k*3+1) (iv y1) (by rw[g 1 (by omega)];rfl)
  have r2:=hc (k*3+2) (iv y2) (by rw[g 2 (by omega)];rfl)
  rw[Nat.add_zero] at r0
  rw[<-Nat.add_assoc] at r1 r2
  exact⟨b,off,y0,y1,y2,rfl,dP w _ r0,hys,r0,r1,r2⟩
theorem MK (w:World):Calls Tryz.prog 49 #[] w (PV (.bool true) w):=by
 go_enter Tryz.func49,Tryz.ntmps49
 go_wp2
 go_returns
 exact⟨by simp,aG _ _⟩
theorem Pj (c:bU) (hS:nU c) (hv nJ tv v:Value) (es:List KE) (wb:Nat) (i:Nat) (hi:nK c i) (w:World) (hc:pM w hv nJ tv es c) (hpos:0<(dI c []).length) (hw:UF w wb hv nJ tv v ((dI c []).map kJ)):
 Calls Tryz.prog 50 #[.pointer (some ⟨wb,0,none⟩),iv i] w (PV (rv (Bo c i)) w):=by
 obtain⟨oh,ch,rfl⟩:=hc.heaps.open
 obtain⟨ok,ck,rfl⟩:=hc.aQ.open
 obtain⟨ot,ct,rfl⟩:=hc.aJ.open
 rw[hc.len] at hc hw
 have hcnt:=vK hS []
 have hall: ∀s∈dI c [],Str c s:=fun s hs=>tZ hS (mY s hs)
 have h3: ∀x∈dI c [],x.length<=3:=fun x hx=>by have h1:=(hall x hx).1;have h2:=hS.h3;omega
 obtain⟨vo,vc,rfl⟩:=hw.truth.open
 have HOF:=ae (fun(s:List Int) (hs:Str c s) (x0 x1 x2:Int) (hx:kJ s=[x0,x1,x2]) (W:World) (hb:Below w.heap.size w W)=>Vg c hS oh ok ch ck (.slice ot c.aJ.length ct) es s x0 x1 x2 hx hs i hi W (hc.aQ.below hb (ai _)) hc.is)
 have FZ:=ae hw
 have HL:=ae (ag hpos (ag hall (ag h3 hcnt)))
 have NG:=ae (fun k (hk:k<=(dI c []).length)=>U6 hS (fun s hs=>mY s hs) hpos hi k hk)
 have HOB:=ae (fun(s:List Int) (hs:Str c s)=>ZO hS hs.1 hs.2 hi)
 unfold Bo
 have hmap:((dI c []).map kJ).length=(dI c []).length:=by simp
 have HMP:=ae hmap
 clear hc hS hall h3 hpos hcnt hmap
 generalize dI c []=ls at*
 obtain⟨d1,g1,m1⟩:=af hw.cells
 obtain⟨b,off,y0,y1,y2,hvv,hb,hys,r0,r1,r2⟩:=U4 hw.truth HL.o.2.2.1 HL.o.1
 rw[HMP.o] at d1
 cases hvv
 have hD:=HOF.o _ (HL.o.2.1 _ (bT HL.o.1)) y0 y1 y2 hys
 have hdb:=HOB.o _ (HL.o.2.1 _ (bT HL.o.1))
 have hr0:Aj c ls i 0=(I7 c (ls[0]'HL.o.1) i,I7 c (ls[0]'HL.o.1) i):=by
  unfold Aj
  rw[show ls.getD 0 []=ls[0]'HL.o.1 from by simp[List.getD,HL.o.1]]
  rfl
 generalize I7 c (ls[0]'HL.o.1) i=d at*
 have HD:=ae hD
 have HR0:=ae hr0
 simp only[Nat.zero_mul,Nat.add_zero] at r0 r1 r2
 have hpos0:0<ls.length:=HL.o.1
 have apI:ls.length<=2000:=HL.o.2.2.2
 clear hw hys hD hr0 hi
 go_enter Tryz.func50,Tryz.ntmps50
 go_upto_region 1 with(fail)
 refine dH fun W1 hW1=>?_
 have hB1:Below w.heap.size w W1:=by rw[hW1];exact zl
 have hk4:W1.heap[w.heap.size]? =some (.cells #[iv 0,iv 0] 112 (0,0)):=by rw[hW1];exact ay _ _
 have e0:=(hB1.cell (p:=⟨b,off,none⟩) hb).trans r0
 have e1:=(hB1.cell (p:=⟨b,off+1,none⟩) hb).trans r1
 have e2:=(hB1.cell (p:=⟨b,off+2,none⟩) hb).trans r2
 have hb1:b<W1.heap.size:=by have:=hB1.size;omega
 have TC:=FZ.o.below hB1 (ai _)
 obtain⟨n1,n2,n3⟩:=af TC.cells
 rw[HMP.o] at n1
 have H1:=ae (ag hB1 hk4)
 clear hW1 hB1 hk4 r0 r1 r2 hb d1 g1 m1 TC
 refine zg 12 [] none [(11,Spec.val (iv d))] ?_
 simp only[zt]
 repeat ((first|refine zn ?_|refine zk ?_);simp only[zp])
 refine zw 86 (h:=fun W hE hF=>by exact HD.o W (aX H1.o.1 hE.below)) (t:=?_)
 simp only[zp]
 intro W hE hF
 obtain⟨hc,hf⟩:=bV hE.below
 have hzE:=hE.size
 (try simp only[bI] at hzE)
 have hB2:=aX H1.o.1 hE.below
 have ahM:=(hE.block _ (aV.1 H1.o.2).1 (by simp)).trans H1.o.2
 have H2:=ae (ag hB2 ahM)
 have ag2:=FZ.o.below hB2 (ai _)
 clear hE hF hc hf hzE e0 e1 e2 hb1 n1 n2 n3 hB2 ahM
 obtain⟨n1,n2,n3⟩:=af ag2.cells
 rw[HMP.o] at n1
 clear ag2
 go_upto_region 3 with(fail)
 refine dH fun W3 hW3=>?_
 have hB3:Below W.heap.size W W3:=by rw[hW3];exact zl
 have hk9:W3.heap[W.heap.size]? =some (.cells #[iv d,iv d] 112 (0,0)):=by rw[hW3];exact ay _ _
 have ahL:=(hB3.block _ (aV.1 H2.o.2).1).trans H2.o.2
 have hwW:w.heap.size<W.heap.size:=(aV.1 H2.o.2).1
 have H3:=ae (ag (aX H2.o.1 hB3) (ag hk9 ahL))
 have ag1:=FZ.o.below H3.o.1 (ai _)
 clear hW3 hB3 hk9 ahL n1 n2 n3
 obtain⟨n1,n2,n3⟩:=af ag1.cells
 rw[HMP.o] at n1
 clear ag1
 obtain⟨b9,rW⟩: ∃b9,W.heap.size=b9:=⟨_,rfl⟩
 rw[rW] at H3 hwW⊢
 clear rW H2
 go_wp2_with fail
 go_loopw [29] (fun u wq=> ∃k:Nat,k<=ls.length/\u= .int .i64 k/\wq.heap[b9]? =some (.cells #[iv (Aj c ls i k).1,iv (Aj c ls i k).2] 112 (0,0))/\wq.heap[w.heap.size]? =some (.cells #[iv 0,iv 0] 112 (0,0))/\Below w.heap.size w wq) (fun u _=>ls.length-(intOf u).toNat)
 case atStart=>exact⟨0,bW _,rfl,by rw[HR0.o];exact H3.o.2.1,H3.o.2.2,H3.o.1⟩
 case round=>
  obtain⟨k,hk,rfl,hcell,hres,hB⟩:=hrel
  by_cases hlk:k<ls.length
  ·have hwr:=FZ.o.below hB (ai _)
   obtain⟨q1,q2,q3⟩:=af hwr.cells
   rw[HMP.o] at q1
   obtain⟨e1,e2,e3⟩:=af hcell
   obtain⟨b',off',z0,z1,z2,hvv,hb',hzs,s0,s1,s2⟩:=U4 hwr.truth HL.o.2.2.1 hlk
   cases hvv
   have hst:=HL.o.2.1 _ (bT hlk)
   have hD2:=HOF.o _ hst z0 z1 z2 hzs
   have hsu:=JX (c:=c) (i:=i) hlk
   have alj:=HOB.o _ hst
   have hrb:=NG.o k hk
   generalize I7 c ls[k] i=d2 at*
   generalize hrk:Aj c ls i k=r at*
   have HD2:=ae hD2
   have xK:=ae hsu
   have HQ:=ae (ag hcell (ag hres hB))
   clear hzs hD2 hsu hcell hres hB hwr hst hrk n1 n2 n3
   have ahy:(k:Int)<ls.length:=by omega
   go_upto_region 6 with(fail)
   refine dH fun W5 yI=>?_
   have zM:Below wr.heap.size wr W5:=by rw[yI];exact zl
   have hk5:W5.heap[wr.heap.size]? =some (.cells #[iv z0,iv z1,iv z2] 177 (0,0)):=by rw[yI];exact ay _ _
   have hc5:=(zM.block _ e3).trans HQ.o.1
   have hw5:=FZ.o.below (aX HQ.o.2.2 zM) (ai _)
   have HBB:=ae (ag (aX HQ.o.2.2 zM) (ag hc5 ((zM.block _ (aV.1 HQ.o.2.1).1).trans HQ.o.2.1)))
   clear yI zM q1 q2 q3 e1 e2 s0 s1 s2 hb'
   obtain⟨q1,q2,q3⟩:=af hw5.cells
   rw[HMP.o] at q1
   obtain⟨e1,e2,e4⟩:=af hc5
   obtain⟨p1,p2,p3⟩:=af hk5
   clear hw5 hc5 hk5
   refine zg 9 [] none [(7,Spec.val (iv d2)),(8,Spec.val (rv (wid r d2)))] ?_
   simp only[zt]
   repeat ((first|refine zn ?_|refine zk ?_);simp only[zp])
   refine zw 86 (h:=fun W hE hF=>by exact HD2.o W (aX HBB.o.1 hE.below)) (t:=?_)
   simp only[zp]
   refine zw 87 (h:=fun W hE hF=>by exact Ti r d2 W) (t:=?_)
   simp only[zp]
   intro W hE hF
   obtain⟨hc,hf⟩:=bV hE.below
   have hzE:=hE.size
   (try simp only[bI] at hzE)
   have HE:=ae hE
   clear hF hzE
   go_wp2_with fail
   go_roundw
   case rel=>
    refine⟨k+1,by omega,by go_num,?_,?_,?_⟩
    ·rw[xK.o]
     exact aI (aI ((HE.o.block _ e4 (by simp)).trans HBB.o.2.1) _) _
    ·have h1:=(HE.o.block _ (aV.1 HBB.o.2.2).1 (by simp)).trans HBB.o.2.2
     exact(dL _ _ _ _ (by show w.heap.size≠b9;omega)).trans ((dL _ _ _ _ (by show w.heap.size≠b9;omega)).trans h1)
    ·exact iG (iG (aX HBB.o.1 HE.o.below) (show w.heap.size<=b9 by omega) _) (show w.heap.size<=b9 by omega) _
   case measure=>simp[intOf];omega
  ·have hkl:k=ls.length:=by omega
   subst hkl
   have hrb:=NG.o _ (ai _)
   generalize Aj c ls i ls.length=r at*
   obtain⟨e1,e2,e3⟩:=af hcell
   obtain⟨p1,p2,p3⟩:=af hres
   have HQ:=ae (ag hres hB)
   clear hcell hres hB n1 n2 n3
   go_wp2_with fail
   refine bodyPost_ret (v:=rv r) (results_cell_row Tryz.results50 _ _ w.heap.size _ _ (0,0) _ rfl (aI (aI HQ.o.1 _) _) Tryz.underlying112 rfl (by kernel_rfl)) rfl ?_
   exact⟨rfl,iG (iG HQ.o.2 (ai _) _) (ai _) _⟩
theorem tKR:iR Tryz.prog 40 112 (rv (0,0)) 2 16:=⟨Tryz.underlying40,by kernel_rfl,rfl,by omega⟩
def adG (c:bU) (w:World) (e:Ending) (w':World):Prop:=
 Below w.heap.size w w'/\((jb c true≠0/\e= .returned (.tuple #[.slice none 0 0,.slice none 0 0,iv (jb c true)]))∨
  (jb c true=0/\ ∃v u,e= .returned (.tuple #[v,u,iv 0])/\bM w' v (uj c)/\bM w' u (jF c)))
theorem Pz (c:bU) {i:Nat} (hi:i<c.heaps.length):(uj c).take (i+1)=(uj c).take i++[Bo c i]:=by
 rw[rF];congr 1;unfold uj;simp[hi]
theorem Qr (c:bU) {i:Nat} (hi:i<c.aQ.length):(jF c).take (i+1)=(jF c).take i++[Bo c (c.heaps.length+i)]:=by
 rw[rF];congr 1;unfold jF;simp[hi]
theorem J3 (a b:List dY):aH (a++b)=aH a++aH b:=by simp[aH]
theorem yE (c:bU) (hv nJ tv:Value) (es:List KE) (w:World) (hc:pM w hv nJ tv es c):Calls Tryz.prog 17 #[kv hv nJ tv] w (adG c w):=by
 obtain⟨oh,ch,rfl⟩:=hc.heaps.open
 obtain⟨ok,ck,rfl⟩:=hc.aQ.open
 obtain⟨ot,ct,rfl⟩:=hc.aJ.open
 rw[hc.len] at hc⊢
 have HA:=ae (fun(W:World) (hb:Below w.heap.size w W)=>Tn c (.slice oh c.heaps.length ch) (.slice ok c.aQ.length ck) (.slice ot c.aJ.length ct) es 49 #[] true W (hc.below hb (ai _)) (enters_of Tryz.func49 (by kernel_rfl) rfl) (fun W _=>MK W))
 have HC':Hid (∀W,Below w.heap.size w W->pM W (.slice oh c.heaps.length ch) (.slice ok c.aQ.length ck) (.slice ot c.aJ.length ct) es c):=ae (fun W hb=>hc.below hb (ai _))
 clear hc
 go_enter Tryz.func17,Tryz.ntmps17
 go_wp2_with fail
 refine(HA.o _ (ak (aG _ _) _)).mono ?_
 rintro e w1 ⟨hb,⟨hne,rfl⟩|⟨h0,wb,v,rfl,hwb,hwk⟩⟩
 ·have HB:=ae (show Below w.heap.size w w1 from zl)
  obtain⟨q,hq⟩: ∃q,jb c true=q:=⟨_,rfl⟩
  rw[hq] at hne⊢
  have HN:=ae (ag hq hne)
  have hneb:(q==0)=false:=by simpa using hne
  clear hb hne hq
  go_wp2_with fail
  go_returns
  exact⟨HB.o,.inl ⟨by rw[HN.o.1];exact HN.o.2,by rw[HN.o.1];simp⟩⟩
 have HB:=ae (show Below w.heap.size w w1 from zl)
 have hk0:w1.heap[w.heap.size]? =some (.cells #[.slice oh c.heaps.length ch,.slice ok c.aQ.length ck,.slice ot c.aJ.length ct] 44 (0,0)):=(hb.block _ (by simp)).trans (ay _ _)
 clear hb
 obtain⟨hS,hpos,_⟩:=IM h0
 have hh3:=hS.h3
 have hk3:=hS.c3
 have NJ:=ae (fun(i:Nat) (hi:nK c i) (W:World) (hb:Below w1.heap.size w1 W)=>Pj c hS (.slice oh c.heaps.length ch) (.slice ok c.aQ.length ck) (.slice ot c.aJ.length ct) v es wb i hi W (HC'.o W (aX HB.o hb)) hpos (hwk.below hb (ai _)))
 have H0:=ae h0
 have HK0:=ae hk0
 have HHL:=ae (fun i (hi:i<c.heaps.length)=>Pz c hi)
 have HKL:=ae (fun i (hi:i<c.aQ.length)=>Qr c hi)
 have HLL:Hid ((uj c).length=c.heaps.length/\(jF c).length=c.aQ.length):=ae (by simp[uj,jF])
 obtain⟨c0,f0,l0⟩:=af hk0
 clear hS hpos hwk h0 hk0 hwb
 go_wp2_with fail
 go_loopw [2,19] (fun ov u wr=> ∃i:Nat,i<=c.heaps.length/\u= .int .i64 i/\(∃oo oc,ov= .slice oo i oc/\wr.ownsRow w1.heap.size 112 2 (.slice oo i oc) i (aH ((uj c).take i)))/\Below w1.heap.size w1 wr) (fun _ u _=>c.heaps.length-(intOf u).toNat)
 case atStart=>exact⟨0,bW _,rfl,⟨none,0,rfl,⟨rfl,.inl ⟨rfl,rfl⟩⟩⟩,aG _ _⟩
 case round=>
  obtain⟨i,hi,rfl,⟨oo,oc,rfl,how⟩,hB⟩:=hrel
  by_cases hlt:i<c.heaps.length
  ·have hD:=NJ.o i (by unfold nK;omega) wr hB
   have hsu:=HHL.o i hlt
   generalize Bo c i=r at hD hsu
   have HOW:=ae how
   have HB':=ae hB
   have xK:=ae hsu
   clear how hB hsu c0 f0 l0
   go_wp2_with fail
   refine hD.mono ?_
   rintro e w2 ⟨rfl,hb2⟩
   have HB2:=ae hb2
   have ho2:=aA (Ms:=[]) HOW.o (Ext.az hb2) (by simp)
   have Bd:=ae ho2
   have hsz2:=hb2.size
   have hsz1:=HB'.o.size
   clear hD hb2 ho2
   go_wp2_with (at_builtin;go_loud (refine dF rfl _ _ tKR rfl w1.heap.size (.slice oo i oc) i (aH ((uj c).take i)) rfl (aA (Ms:=[]) Bd.o (Ext.az (ak (aG _ _) _)) (by simp)) (.slice (some ⟨w2.heap.size,0,none⟩) 1 1) 1 [iv r.1,iv r.2] rfl (aK.dw 2 1 (ay _ _) rfl (by decide)) (by simp[Value.oneCell']) (by omega) (by omega) (by simp;omega) ?_))
   intro v' w3 hown hgr hN
   obtain⟨o3,c3,rfl⟩:=aT hown
   have hpu:=yX HB'.o HOW.o ((Ext.az HB2.o).trans (Ext.az (ak (aG _ _) _))) hown hgr (ai _) HB'.o.size
   have HP:=ae (ag hpu hown)
   clear hpu hown hgr hN
   go_wp2_with fail
   go_roundw
   case rel=>
    refine⟨i+1,by omega,by go_num,⟨o3,c3,rfl,?_⟩,HP.o.1.1⟩
    rw[xK.o,J3]
    exact HP.o.2
   case measure=>simp[intOf];omega
  ·obtain rfl:i=c.heaps.length:=by omega
   have hk1:=(hB.block _ (aV.1 HK0.o).1).trans HK0.o
   obtain⟨n0,n1,n2⟩:=af hk1
   have HH:=ae (ag how (ag hB hk1))
   clear how hB hk1 c0 f0 l0
   go_wp2_with fail
   generalize wr=wm at*
   go_loopw [3,32] (fun ov u wq=> ∃j:Nat,j<=c.aQ.length/\u= .int .i64 j/\(∃o2 c2,ov= .slice o2 j c2/\wq.ownsRow wm.heap.size 112 2 (.slice o2 j c2) j (aH ((jF c).take j)))/\Below wm.heap.size wm wq) (fun _ u _=>c.aQ.length-(intOf u).toNat)
   case atStart=>exact⟨0,bW _,rfl,⟨none,0,rfl,⟨rfl,.inl ⟨rfl,rfl⟩⟩⟩,aG _ _⟩
   case round=>
    obtain⟨j,hj,rfl,⟨o2,c2,rfl,how⟩,hB⟩:=hrel
    by_cases hlt:j<c.aQ.length
    ·have hBw:=aX HH.o.2.1 hB
     have hD:=NJ.o (c.heaps.length+j) (by unfold nK;omega) _ hBw
     have hsu:=HKL.o j hlt
     generalize Bo c (c.heaps.length+j)=r at hD hsu
     rw[show((c.heaps.length+j:Nat):Int)=(c.heaps.length:Int)+j from by omega] at hD
     have hkk:=(hB.block _ (aV.1 HH.o.2.2).1).trans HH.o.2.2
     obtain⟨a0,a1,a2⟩:=af hkk
     have HOW:=ae how
     have HB':=ae hB
     have xK:=ae hsu
     clear how hB hBw hsu hkk n0 n1 n2
     go_wp2_with fail
     refine hD.mono ?_
     rintro e w2 ⟨rfl,hb2⟩
     have HB2:=ae hb2
     have ho2:=aA (Ms:=[]) HOW.o (Ext.az hb2) (by simp)
     have Bd:=ae ho2
     have hsz2:=hb2.size
     have hsz1:=HB'.o.size
     clear hD hb2 ho2 a0 a1 a2
     go_wp2_with (at_builtin;go_loud (refine dF rfl _ _ tKR rfl wm.heap.size (.slice o2 j c2) j (aH ((jF c).take j)) rfl (aA (Ms:=[]) Bd.o (Ext.az (ak (aG _ _) _)) (by simp)) (.slice (some ⟨w2.heap.size,0,none⟩) 1 1) 1 [iv r.1,iv r.2] rfl (aK.dw 2 1 (ay _ _) rfl (by decide)) (by simp[Value.oneCell']) (by omega) (by omega) (by simp;omega) ?_))
     intro v' w3 hown hgr hN
     obtain⟨o3,c3,rfl⟩:=aT hown
     have hpu:=yX HB'.o HOW.o ((Ext.az HB2.o).trans (Ext.az (ak (aG _ _) _))) hown hgr (ai _) HB'.o.size
     have HP:=ae (ag hpu hown)
     clear hpu hown hgr hN
     go_wp2_with fail
     go_roundw
     case rel=>
      refine⟨j+1,by omega,by go_num,⟨o3,c3,rfl,?_⟩,HP.o.1.1⟩
      rw[xK.o,J3]
      exact HP.o.2
     case measure=>simp[intOf];omega
    ·obtain rfl:j=c.aQ.length:=by omega
     have HX:=ae (ag how hB)
     clear how hB n0 n1 n2
     go_wp2_with fail
     go_returns
     refine⟨aX HB.o (aX HH.o.2.1 HX.o.2),.inr ⟨H0.o,.slice oo c.heaps.length oc,.slice o2 c.aQ.length c2,by simp,?_,?_⟩⟩
     ·have h1:=aK.dR (aA (Ms:=[]) HH.o.1 (Ext.az HX.o.2) (by simp))
      rw[show(uj c).take c.heaps.length=uj c from by rw[<-HLL.o.1,List.take_length]] at h1
      show aK 2 _ _ (uj c).length _
      rw[HLL.o.1]
      exact h1
     ·have h1:=aK.dR HX.o.1
      rw[show(jF c).take c.aQ.length=jF c from by rw[<-HLL.o.2,List.take_length]] at h1
      show aK 2 _ _ (jF c).length _
      rw[HLL.o.2]
      exact h1
end Go.Proofs.YthbpmepjmebolaaGreatDoor.Be
end

/-
  Texts of this claim, packed by a program: CA CB CC CD CE CG CF.
-/
import Derived.WalkKit
import Derived.WalkLawsBesides
import Derived.WalkSpells
import Derived.Outline
import Derived.Handy
import Derived.KernelRfl
import Derived.Lib.Hide
import Derived.Deep.Cut
import Derived.Laws.EntriesVeiled
import Derived.Test.YtabpkkbiioihaaaGreatDoorPK5
set_option maxHeartbeats 8000000
set_option maxRecDepth 100000
set_option linter.all false
section
namespace Go.Proofs.YtabpkkbiioihaaaGreatDoor.xH
open gZ
abbrev BC:=Bool×Int×bK
structure aQ where
 heaps:List bK
 aC:List (List Int)
 au:List BC
def jB:List Int->Int
 |[]=>0
 |x::l=>x+jB l
def sumTo (l:List Int) (k:Nat):Int:=jB (l.take k)
theorem FX (a b:List Int):jB (a++b)=jB a+jB b:=by
 induction a with
 |nil=>simp[jB]
 |cons x a ih=>simp only[List.cons_append,jB,ih];omega
theorem mY {l:List Int} {k:Nat} (hk:k<l.length):sumTo l (k+1)=sumTo l k+l[k]:=by
 unfold sumTo
 rw[List.take_succ_eq_append_getElem hk,FX]
 simp[jB]
theorem sJ (l:List Int):sumTo l l.length=jB l:=by unfold sumTo;rw[List.take_length]
theorem yF {m:Int} (_:0<=m): ∀{l:List Int},(∀x∈l,0<=x/\x<=m)->0<=jB l/\jB l<=m*l.length:=by
 intro l
 induction l with
 |nil=>intro _;simp[jB]
 |cons x l ih=>
  intro h
  have h1:=h x (by simp)
  have h2:=ih (fun y hy=>h y (by simp[hy]))
  simp only[jB,List.length_cons]
  rw[show m*((l.length+1:Nat):Int)=m*l.length+m from by rw[Int.natCast_add,Int.mul_add];simp]
  omega
theorem qO {m:Int} (hm:0<=m) {l:List Int} (h: ∀x∈l,0<=x/\x<=m) (k:Nat):0<=sumTo l k/\sumTo l k<=m*l.length:=by
 have h1:=yF hm (l:=l.take k) (fun x hx=>h x (List.mem_of_mem_take hx))
 have h2:m*((l.take k).length:Int)<=m*l.length:=Int.mul_le_mul_of_nonneg_left (by have:=List.length_take_le' k l;omega) hm
 unfold sumTo
 omega
def mV (c:aQ) (l:List Int):Bool:=decide (l.length=c.heaps.length)&&l.all (inB · 0 30)
def pG (c:aQ) (l:List Int):Bool:=mV c l&&decide (0<jB l)
def pV (c:aQ) (t:BC):Int:=if t.1 then c.aC.length else c.heaps.length
def mW (c:aQ) (t:BC):Bool:=inB t.2.1 0 (pV c t-1)&&okR t.2.2 100
def kV (c:aQ):Int:=
 if 3<c.heaps.length∨3<c.aC.length∨5<c.au.length then 3
 else if c.heaps.length=0∨c.heaps.all (okR · 100)=false∨c.aC.all (pG c)=false∨c.au.all (mW c)=false then 1
 else if 2000<prod c.heaps then 3 else 0
structure jI (c:aQ):Prop where
 h1:1<=c.heaps.length
 h3:c.heaps.length<=3
 c3:c.aC.length<=3
 t5:c.au.length<=5
 heaps: ∀r∈c.heaps,okR r 100=true
 aC: ∀l∈c.aC,l.length=c.heaps.length/\(∀x∈l,0<=x/\x<=30)/\0<jB l
 au: ∀t∈c.au,(0<=t.2.1/\t.2.1<pV c t)/\okR t.2.2 100=true
 many:prod c.heaps<=2000
theorem PK {c:aQ} {l:List Int}:pG c l=true↔l.length=c.heaps.length/\(∀x∈l,0<=x/\x<=30)/\0<jB l:=by
 simp only[pG,mV,inB,Bool.and_eq_true,decide_eq_true_eq,List.all_eq_true]
 constructor
 ·rintro⟨⟨h1,h2⟩,h3⟩;exact⟨h1,h2,h3⟩
 ·rintro⟨h1,h2,h3⟩;exact⟨⟨h1,h2⟩,h3⟩
theorem JE {c:aQ} {t:BC}:mW c t=true↔(0<=t.2.1/\t.2.1<pV c t)/\okR t.2.2 100=true:=by
 simp only[mW,inB,Bool.and_eq_true,decide_eq_true_eq]
 constructor
 ·rintro⟨⟨h1,h2⟩,h3⟩;exact⟨⟨h1,by omega⟩,h3⟩
 ·rintro⟨⟨h1,h2⟩,h3⟩;exact⟨⟨h1,by omega⟩,h3⟩
theorem BN {c:aQ} (hf:kV c=0):jI c:=by
 unfold kV at hf
 split at hf
 ·omega
 ·rename_i a
  split at hf
  ·omega
  ·rename_i b
   split at hf
   ·omega
   ·rename_i d
    simp only[not_or,Bool.not_eq_false,List.all_eq_true] at a b
    obtain⟨a1,a2,a3⟩:=a
    obtain⟨b1,b2,b3,b4⟩:=b
    exact⟨by omega,by omega,by omega,by omega,b2,fun l hl=>PK.1 (b3 l hl),fun t ht=>JE.1 (b4 t ht),by omega⟩
theorem jI.sz {c:aQ} (h:jI c): ∀r∈c.heaps,1<=df r:=fun r hr=>(qW (h.heaps r hr)).2.2.2.1
theorem jI.rg {c:aQ} (h:jI c) {i:Nat} (hi:i<c.heaps.length):0<=c.heaps[i].1/\c.heaps[i].1<=c.heaps[i].2/\c.heaps[i].2<=100:=by
 have:=qW (h.heaps _ (List.getElem_mem hi))
 exact⟨this.1,this.2.1,this.2.2.1⟩
def tV:List Int->List Int->Int
 |w::ws,s::ss=>w*s+tV ws ss
 |_,_=>0
def rM (w s:List Int) (k:Nat):Int:=tV (w.take k) (s.take k)
theorem Po: ∀(a b:List Int) (x y:Int),a.length=b.length->tV (a++[x]) (b++[y])=tV a b+x*y:=by
 intro a
 induction a with
 |nil=>intro b x y h;obtain rfl:=List.eq_nil_of_length_eq_zero h.symm;simp[tV]
 |cons w a ih=>
  intro b x y h
  cases b with
  |nil=>simp at h
  |cons s b=>
   simp only[List.cons_append,tV,ih b x y (by simpa using h)]
   omega
theorem La {w s:List Int} {k:Nat} (hw:k<w.length) (hs:k<s.length):rM w s (k+1)=rM w s k+w[k]*s[k]:=by
 unfold rM
 rw[List.take_succ_eq_append_getElem hw,List.take_succ_eq_append_getElem hs,Po]
 simp[List.length_take]
 omega
theorem Pn {w s:List Int} (h:w.length=s.length):rM w s w.length=tV w s:=by unfold rM;rw[List.take_length,h,List.take_length]
theorem Nr: ∀(w s:List Int),(∀x∈w,0<=x/\x<=30)->(∀x∈s,0<=x/\x<=100)->0<=tV w s/\tV w s<=100*jB w:=by
 intro w
 induction w with
 |nil=>intro s _ _;simp[tV,jB]
 |cons x w ih=>
  intro s hw hs
  have hx:=hw x (by simp)
  have hb:=yF (m:=30) (by omega) (l:=w) (fun y hy=>hw y (by simp[hy]))
  cases s with
  |nil=>simp only[tV,jB];omega
  |cons y s=>
   have hy:=hs y (by simp)
   have h1:=ih s (fun z hz=>hw z (by simp[hz])) (fun z hz=>hs z (by simp[hz]))
   have h2:0<=x*y:=Int.mul_nonneg hx.1 hy.1
   have h3:x*y<=x*100:=Int.mul_le_mul_of_nonneg_left hy.2 hx.1
   simp only[tV,jB]
   omega
theorem Ud {w s:List Int} (hw: ∀x∈w,0<=x/\x<=30) (hs: ∀x∈s,0<=x/\x<=100) (k:Nat):0<=rM w s k/\rM w s k<=3000*w.length:=by
 have h1:=Nr (w.take k) (s.take k) (fun x hx=>hw x (List.mem_of_mem_take hx)) (fun x hx=>hs x (List.mem_of_mem_take hx))
 have h2:=qO (m:=30) (by omega) hw k
 unfold sumTo at h2
 unfold rM
 omega
def xZ (s w:List Int):Int:=tV w s/jB w
theorem RU {s w:List Int} (hw: ∀x∈w,0<=x/\x<=30) (hs: ∀x∈s,0<=x/\x<=100) (hp:0<jB w):0<=xZ s w/\xZ s w<=100:=by
 have h1:=Nr w s hw hs
 unfold xZ
 exact⟨Int.ediv_nonneg h1.1 (by omega),Int.ediv_le_of_le_mul hp (by omega)⟩
def AO (c:aQ) (s:List Int) (thing:Nat):Int:=if thing<c.heaps.length then s.getD thing 0 else xZ s (c.aC.getD (thing-c.heaps.length) [])
def uu (c:aQ) (t:BC):Nat:=(if t.1 then c.heaps.length else 0)+t.2.1.toNat
def yX (c:aQ) (s:List Int) (t:BC):Bool:=inB (AO c s (uu c t)) t.2.2.1 t.2.2.2
def ny (c:aQ) (out:List Int) (s:List Int):Bool:=(List.range c.au.length).all fun i=>out.contains (i:Int) ||yX c s (c.au.getD i (false,0,(0,0)))
def nV (c:aQ):List (List Int):=dC c.heaps
def bD (c:aQ) (out:List Int):List (List Int):=(nV c).filter (ny c out)
def jQ (c:aQ) (n:Nat):Prop:=n<c.heaps.length+c.aC.length
theorem NJ {c:aQ} (h:jI c) {t:BC} (ht:t∈c.au):jQ c (uu c t):=by
 have:=(h.au t ht).1
 unfold jQ uu
 unfold pV at this
 split at this <;>rename_i h1
 ·rw[if_pos h1];omega
 ·rw[if_neg h1];omega
theorem nD {c:aQ} (h:jI c) {s:List Int} (hs:s∈nV c):s.length=c.heaps.length/\ ∀x∈s,0<=x/\x<=100:=by
 obtain⟨h1,h2⟩:=xg _ _ hs
 refine⟨h1,fun x hx=>?_⟩
 obtain⟨i,hi,rfl⟩:=List.getElem_of_mem hx
 have h3:=h2 i (by omega)
 have h4:=h.rg (show i<c.heaps.length by omega)
 rw[List.getD_eq_getElem?_getD,List.getElem?_eq_getElem (by omega),Option.getD_some] at h3
 rw[List.getD_eq_getElem?_getD,List.getElem?_eq_getElem hi,Option.getD_some] at h3
 omega
theorem RF {c:aQ} (h:jI c) {s:List Int} (hl:s.length=c.heaps.length) (hs: ∀x∈s,0<=x/\x<=100) {n:Nat} (hn:jQ c n):0<=AO c s n/\AO c s n<=100:=by
 unfold jQ at hn
 unfold AO
 split
 ·rename_i h1
  rw[List.getD_eq_getElem?_getD,List.getElem?_eq_getElem (by omega),Option.getD_some]
  exact hs _ (List.getElem_mem _)
 ·rename_i h1
  have hk:n-c.heaps.length<c.aC.length:=by omega
  rw[List.getD_eq_getElem?_getD,List.getElem?_eq_getElem hk,Option.getD_some]
  have:=h.aC _ (List.getElem_mem hk)
  exact RU this.2.1 hs this.2.2
def tX (c:aQ) (out:List Int) (k:Nat):Nat:=(((nV c).take k).filter (ny c out)).length
theorem Ul (c:aQ) (out:List Int):tX c out (nV c).length=(bD c out).length:=by
 unfold tX bD
 rw[List.take_length]
theorem WH {c:aQ} {out:List Int} {k:Nat} (hk:k<(nV c).length) (hp:ny c out (nV c)[k]=false):tX c out (k+1)=tX c out k:=by
 unfold tX
 rw[List.take_succ_eq_append_getElem hk,List.filter_append,List.length_append]
 simp[hp]
theorem Uk {c:aQ} {out:List Int} {k:Nat} (hk:k<(nV c).length) (hp:ny c out (nV c)[k]=true):tX c out (k+1)=tX c out k+1:=by
 unfold tX
 rw[List.take_succ_eq_append_getElem hk,List.filter_append,List.length_append]
 simp[hp]
theorem JD {c:aQ} {out:List Int} {k:Nat} (hk:k<(nV c).length) (hp:ny c out (nV c)[k]=true):
 ∃hc:tX c out k<(bD c out).length,(bD c out)[tX c out k]=(nV c)[k]:=by
 have:=xx (ny c out) id (nV c) k hk hp
 rw[List.map_id] at this
 obtain⟨hc,hx⟩:=List.getElem?_eq_some_iff.1 this
 exact⟨hc,hx⟩
theorem oG {c:aQ} (hS:jI c) (out:List Int):(bD c out).length<=2000:=by
 have h1:(bD c out).length<=(nV c).length:=List.length_filter_le _ _
 have h2:=qR c.heaps hS.sz
 have h3:=hS.many
 unfold nV at h1
 omega
def iI (x:List Int):List Int:=x++List.replicate (3-x.length) 0
theorem qV {x:List Int} (h:x.length<=3):(iI x).length=3:=by simp[iI];omega
theorem Gm (x:List Int) (i:Nat):(iI x).getD i 0=x.getD i 0:=by
 unfold iI
 by_cases h:i<x.length
 ·rw[List.getD_eq_getElem?_getD,List.getElem?_append_left h, <-List.getD_eq_getElem?_getD]
 ·rw[List.getD_eq_getElem?_getD,List.getElem?_append_right (by omega),List.getElem?_replicate]
  have:x.getD i 0=0:=by rw[List.getD_eq_getElem?_getD,List.getElem?_eq_none (by omega)];rfl
  rw[this]
  split <;>rfl
def fM (c:aQ) (fine:Bool):Int:=if kV c≠0 then kV c else if fine=false then 2 else if(bD c []).isEmpty then 11 else 0
theorem LU {c:aQ} {b:Bool} (h:fM c b=0):jI c/\0<(bD c []).length/\b=true:=by
 unfold fM at h
 split at h
 ·omega
 ·rename_i hf
  have hf':kV c=0:=by omega
  split at h
  ·omega
  ·rename_i hb
   split at h
   ·omega
   ·rename_i he
    refine⟨BN hf',?_,by simpa using hb⟩
    cases ht:bD c [] with
    |nil=>rw[ht] at he;exact absurd rfl he
    |cons x l=>simp
def uy (c:aQ) (ls:List (List Int)) (i:Nat) (k:Nat):bK:=(ls.take k).foldl (fun r s=>wid r (AO c s i)) (AO c (ls.getD 0 []) i,AO c (ls.getD 0 []) i)
theorem BQ {c:aQ} {ls:List (List Int)} {i:Nat} {k:Nat} (hk:k<ls.length):uy c ls i (k+1)=wid (uy c ls i k) (AO c ls[k] i):=by
 unfold uy
 rw[List.take_succ_eq_append_getElem hk,List.foldl_append]
 rfl
def xP (c:aQ) (i:Nat):bK:=uy c (bD c []) i (bD c []).length
def nK (c:aQ):List bK:=(List.range c.heaps.length).map (xP c)
def nO (c:aQ):List bK:=(List.range c.aC.length).map fun i=>xP c (c.heaps.length+i)
theorem Vr {c:aQ} (hS:jI c) {ls:List (List Int)} (hl: ∀s∈ls,s∈nV c) (h0:0<ls.length) {i:Nat} (hi:jQ c i):
 ∀k,k<=ls.length->(0<=(uy c ls i k).1/\(uy c ls i k).1<=100)/\(0<=(uy c ls i k).2/\(uy c ls i k).2<=100):=by
 have hb: ∀s∈ls,0<=AO c s i/\AO c s i<=100:=fun s hs=>by
  obtain⟨h1,h2⟩:=nD hS (hl s hs)
  exact RF hS h1 h2 hi
 intro k
 induction k with
 |zero=>
  intro _
  have:=hb _ (List.getElem_mem h0)
  unfold uy
  rw[List.getD_eq_getElem?_getD,List.getElem?_eq_getElem h0,Option.getD_some]
  exact⟨this,this⟩
 |succ k ih=>
  intro hk
  have h1:=ih (by omega)
  have h2:=hb _ (List.getElem_mem (show k<ls.length by omega))
  rw[BQ (by omega)]
  unfold wid
  simp only
  omega
theorem jU {c:aQ} {out:List Int}: ∀s∈bD c out,s∈nV c:=fun _ h=>(List.mem_filter.1 h).1
end Go.Proofs.YtabpkkbiioihaaaGreatDoor.xH
end
section
namespace Go.Proofs.YtabpkkbiioihaaaGreatDoor.xH
open Go.RowKit Go.RG Go.SL Go.Shelf gZ Go.TB
abbrev KE:=Value×List Int
def dw (es:List KE):List Value:=es.map (·.1)
def qH (w:World) (v:Value) (es:List KE):Prop:=aB 1 w v es.length (dw es)/\ ∀e∈es,aN w e.1 e.2
theorem qH.len {w:World} {v:Value} {es:List KE} (h:qH w v es):es.length<=9223372036854775807:=aB.len h.1
theorem qH.open {w:World} {v:Value} {es:List KE} (h:qH w v es): ∃o c,v= .slice o es.length c:=aB.open h.1
theorem qH.below {w w':World} {v:Value} {es:List KE} (h:qH w v es) {B:Nat} (hb:Below B w w') (hB:w.heap.size<=B):qH w' v es:=⟨h.1.below hb hB,fun e he=>(h.2 e he).below hb hB⟩
theorem qH.cell {w:World} {o:Option Addr} {c:Nat} {es:List KE} (h:qH w (.slice o es.length c) es) {k:Nat} (hk:k<es.length): ∃b off,o=some ⟨b,off,none⟩/\b<w.heap.size/\w.cell? ⟨b,off+k,none⟩=some es[k].1:=by
 obtain⟨⟨hl,o',c',hv,h1,h2,h3,h4⟩,_⟩:=h
 cases hv
 cases o with
 |none=>have:=h3 rfl;omega
 |some a=>
  obtain⟨b,off,sp⟩:=a
  obtain⟨hs,hc⟩:=h4 _ rfl
  simp only at hs hc
  subst hs
  have h0:=hc k es[k].1 (by simp[dw,hk])
  exact⟨b,off,rfl,World.block_lt_of_cell? w _ h0,h0⟩
abbrev MI (t:BC):Value:= .agg #[.bool t.1,iv t.2.1,iv t.2.2.1,iv t.2.2.2]
def dR (l:List BC):List Value:=l.flatMap fun t=>[.bool t.1,iv t.2.1,iv t.2.2.1,iv t.2.2.2]
abbrev rZ (w:World) (v:Value) (l:List BC):Prop:=aB 4 w v l.length (dR l)
theorem Gp (l:List BC): ∀u∈dR l,u.oneCell'=true:=by
 intro u hu
 obtain⟨r,_,h⟩:=List.mem_flatMap.1 hu
 simp only[List.mem_cons,List.not_mem_nil,or_false] at h
 rcases h with rfl|rfl|rfl|rfl <;>rfl
theorem rZ.cell {w:World} {o:Option Addr} {n c:Nat} {l:List BC} (h:aB 4 w (.slice o n c) n (dR l)) {k:Nat} (hk:k<l.length):
 ∃b off,o=some ⟨b,off,none⟩/\b<w.heap.size/\w.cell? ⟨b,off+k*4,none⟩=some (.bool l[k].1)/\w.cell? ⟨b,off+k*4+1,none⟩=some (iv l[k].2.1)/\w.cell? ⟨b,off+k*4+2,none⟩=some (iv l[k].2.2.1)/\
  w.cell? ⟨b,off+k*4+3,none⟩=some (iv l[k].2.2.2):=by
 obtain⟨hl,o',c',hv,h1,h2,h3,h4⟩:=h
 cases hv
 have hlen:(dR l).length=l.length*4:=by simp[dR,List.length_flatMap,List.map_const',List.sum_replicate_nat]
 have hn:n=l.length:=by omega
 cases o with
 |none=>have:=h3 rfl;omega
 |some a=>
  obtain⟨b,off,sp⟩:=a
  obtain⟨hs,hc⟩:=h4 _ rfl
  simp only at hs hc
  subst hs
  have g: ∀j,j<4->(dR l)[k*4+j]? =[.bool l[k].1,iv l[k].2.1,iv l[k].2.2.1,iv l[k].2.2.2][j]? :=fun j hj=>by
   unfold dR;rw[flat_get _ 4 (fun _=>rfl) l k j hk hj]
  have h0:=hc (k*4+0) (.bool l[k].1) (by rw[g 0 (by omega)];rfl)
  have h1:=hc (k*4+1) (iv l[k].2.1) (by rw[g 1 (by omega)];rfl)
  have h2:=hc (k*4+2) (iv l[k].2.2.1) (by rw[g 2 (by omega)];rfl)
  have h3:=hc (k*4+3) (iv l[k].2.2.2) (by rw[g 3 (by omega)];rfl)
  rw[Nat.add_zero] at h0
  rw[<-Nat.add_assoc] at h1 h2 h3
  exact⟨b,off,rfl,World.block_lt_of_cell? w _ h0,h0,h1,h2,h3⟩
abbrev kv (hv kv tv:Value):Value:= .agg #[hv,kv,tv]
structure lZ (w:World) (hv jO tv:Value) (es:List KE) (c:aQ):Prop where
 heaps:bn w hv c.heaps
 aC:qH w jO es
 is:es.map (·.2)=c.aC
 au:rZ w tv c.au
theorem lZ.below {w w':World} {hv jO tv:Value} {es:List KE} {c:aQ} (h:lZ w hv jO tv es c) {B:Nat} (hb:Below B w w') (hB:w.heap.size<=B):lZ w' hv jO tv es c:=⟨h.heaps.below hb hB,h.aC.below hb hB,h.is,h.au.below hb hB⟩
theorem lZ.len {w:World} {hv jO tv:Value} {es:List KE} {c:aQ} (h:lZ w hv jO tv es c):es.length=c.aC.length:=by rw[<-h.is,List.length_map]
theorem rf (n l h:Int) (w:World):Calls Tryz.prog 202 #[iv n,iv l,iv h] w (PV (.bool (inB n l h)) w):=by
 by_cases h1:l<=n
 all_goals
  go_enter Tryz.func202,Tryz.ntmps202
  go_wp2
  go_returns
  exact⟨by simp[inB];omega,Below.refl _ _⟩
theorem Su (r:bK) (n:Int) (w:World):Calls Tryz.prog 278 #[rv r,iv n] w (PV (.bool (inB n r.1 r.2)) w):=by
 go_enter Tryz.func278,Tryz.ntmps278
 go_wp2_with (go_at_call 202;refine(rf _ _ _ _).mono ?_;rintro e w' ⟨rfl,hb⟩)
 go_returns
 exact⟨by simp,(Below.refl _ _).alloc (Nat.le_refl _) _ |>.trans (hb.mono (by simp))⟩
theorem mZ (r:bK) (w:World):Calls Tryz.prog 155 #[rv r] w (PV (.bool (okR r 100)) w):=by
 go_enter Tryz.func155,Tryz.ntmps155
 go_wp2
 all_goals
  go_returns
  exact⟨by simp[okR];omega,by go_grown⟩
theorem CQ (r:bK) (w:World) (h1:0<=r.1) (h2:r.1<=r.2) (h3:r.2<=100000):
 Calls Tryz.prog 159 #[rv r] w (PV (iv (df r)) w):=by
 go_enter Tryz.func159,Tryz.ntmps159
 go_wp2
 go_returns
 exact⟨by simp[df],by go_grown⟩
theorem Ju (n:Int) (w:World):Calls Tryz.prog 251 #[iv n] w (PV (.bool (inB n 0 30)) w):=by
 go_enter Tryz.func251,Tryz.ntmps251
 go_wp2_with (go_at_call 202;refine(rf _ _ _ _).mono ?_;rintro e w' ⟨rfl,hb⟩)
 go_returns
 exact⟨by simp,hb⟩
theorem GZ (a b:Int) (g c:Nat) (w:World) (h0:w.cell? ⟨g,0,none⟩=some (iv a)) (h1:w.cell? ⟨g,1,none⟩=some (iv b)):
 Calls Tryz.prog 158 #[.slice (some ⟨g,0,none⟩) 2 c] w (PV (iv (min a b)) w):=by
 have H:=Lib.hid (vK a b g c w h0 h1)
 go_enter Tryz.func158,Tryz.ntmps158
 go_wp2_with fail
 refine H.out.mono ?_
 rintro e w' ⟨rfl,hb⟩
 go_wp2_with fail
 go_returns
 exact⟨by simp,hb⟩
theorem Ky (r:bK) (n:Int) (w:World):Calls Tryz.prog 213 #[rv r,iv n] w (PV (rv (wid r n)) w):=by
 go_enter Tryz.func213,Tryz.ntmps213
 go_wp2_with fail
 refine zg 10 [] none [(3,Spec.slice (w.heap.size+2) #[iv r.1,iv n] 3 2),(4,Spec.val (iv (min r.1 n)))] ?_
 simp only[zt]
 repeat (refine zd ?_;simp only[zp])
 refine bZ (w.heap.size+2) _ _ _ (by rfl) (by simp) (by rfl) (by simp) (by simp) (fun W hW=>by go_simp;try rfl) (fun b=>?_)
 simp only[zp]
 refine dh _ (by rfl) (by rfl) 158 _ (fun W hW=>by go_simp;try rfl) (fun W hE hF=>?_) ?_
 ·obtain⟨c,hcb,hB,hc⟩:=hF _ (List.Mem.head _) (by kernel_rfl)
  cases hcb
  exact GZ r.1 n b 2 W (by simp[World.cell?,hc]) (by simp[World.cell?,hc])
 simp only[zp]
 repeat (refine zd ?_;simp only[zp])
 intro W hE hF
 obtain⟨hc,hf⟩:=aW hE.below
 have hzE:=hE.size
 (try simp only[World.size_alloc] at hzE)
 go_wp2
 all_goals
  (try simp only[Exit.inBlock,Exit.then])
  refine bodyPost_ret (v:=rv (min r.1 n,max r.2 n)) (by simp[results,Tryz.results213,go_sem,hc];try omega) rfl ?_
  exact⟨rfl,ze⟩
theorem GX (l:List Int) (v:Value) (w:World) (hv:aN w v l) (hl: ∀x∈l,0<=x/\x<=9999) (hn:l.length<=1000):Calls Tryz.prog 204 #[v] w (PV (iv (jB l)) w):=by
 obtain⟨o,c,rfl⟩:=hv.open
 have hlen:=hv.len
 have HV:=Lib.hid hv
 have HL:=Lib.hid hl
 have HS:=Lib.hid (sJ l)
 clear hv hl
 go_enter Tryz.func204,Tryz.ntmps204
 go_wp2
 go_loop [2,4,7] (fun n _ i=> ∃k:Nat,k<=l.length/\i= .int .i64 k/\n=iv (sumTo l k)) (fun _ _ i=>l.length-(intOf i).toNat)
 case atStart=>exact⟨0,Nat.zero_le _,rfl,rfl⟩
 case round=>
  obtain⟨k,hk,rfl,rfl⟩:=hrel
  have hb:=qO (m:=9999) (by omega) HL.out k
  have hb2:(9999:Int)*l.length<=9999*1000:=by omega
  by_cases hlt:k<l.length
  ·obtain⟨b,off,rfl,hbl,hc0⟩:=aN.cell HV.out hlt
   have hx:=HL.out _ (List.getElem_mem hlt)
   have hs:=mY hlt
   generalize sumTo l k=m at hb hs⊢
   generalize l[k]=x at hc0 hx hs
   have mG:=Lib.hid hs
   clear hs
   go_wp2
   go_round
   case rel=>exact⟨k+1,by omega,by go_num,by rw[mG.out]⟩
   case measure=>simp[intOf];omega
  ·have hkl:k=l.length:=by omega
   subst hkl
   rw[HS.out]
   go_wp2
   go_returns
   exact⟨by simp,Below.refl _ _⟩
end Go.Proofs.YtabpkkbiioihaaaGreatDoor.xH
namespace Go.Proofs.YtabpkkbiioihaaaGreatDoor.xH
open Go.RowKit Go.RG Go.SL Go.Shelf gZ Go.TB
abbrev Xm (e:KE):Value:=e.1
theorem aaz (l:List bK) (v:Value) (aI:Nat) (fst caps:Array Value) (p:Nat->Bool) (I:Nat->World->Prop) (w:World) (eg: ∀args w,(callFunc aI args).run Tryz.prog w= .ok (.enter aI args) w)
 (hsl: ∀k W,I k W->bn W v l)
 (hcall: ∀k (hk:k<l.length) W,(∀j,j<k->p j=false)->I k W->Calls Tryz.prog aI (fst.push (rv l[k])++caps) W (fun e W'=>e= .returned (.bool (p k))/\I (k+1) W')) (h0:I 0 w):
 Calls Tryz.prog 252 #[v,.func (.func aI) fst caps] w (dA l.length p I (fun k=>iv k) (iv (-1))):=by
 have hlen:=(hsl 0 w h0).len
 obtain⟨o,c,rfl⟩:=(hsl 0 w h0).open
 have HC:=Lib.hid hcall
 have HS:=Lib.hid hsl
 clear hcall hsl
 go_enter Tryz.func252,Tryz.ntmps252
 go_wp2
 go_loopw [4,5,8] (fun _ _ i wr=> ∃k:Nat,k<=l.length/\i= .int .i64 k/\(∀j,j<k->p j=false)/\I k wr) (fun _ _ i _=>l.length-(intOf i).toNat)
 case atStart=>exact⟨0,Nat.zero_le _,rfl,fun j hj=>by omega,h0⟩
 case round=>
  obtain⟨k,hk,rfl,hno,hI⟩:=hrel
  by_cases hlt:k<l.length
  ·obtain⟨b,off,rfl,hb,hc0,hc1⟩:=bn.cell (HS.out k wr hI) hlt
   have hC:=HC.out k hlt wr hno hI
   have HN:=Lib.hid hno
   clear hno
   go_wp2_with fail
   refine hC.mono ?_
   rintro e W1 ⟨rfl,hI1⟩
   have HI:=Lib.hid hI1
   clear hI1 hI hC
   cases hp:p k
   ·go_wp2_with fail
    go_roundw
    case rel=>exact⟨k+1,by omega,by go_num,fun j hj=>(by by_cases e:j=k;(subst e;exact hp);exact HN.out j (by omega)),HI.out⟩
    case measure=>simp[intOf];omega
   ·go_wp2_with fail
    go_returns
    exact⟨k,by omega,HN.out,.inl ⟨hlt,hp,by simp,HI.out⟩⟩
  ·have hkl:k=l.length:=by omega
   have HN:=Lib.hid hno
   clear hno
   go_wp2_with fail
   go_returns
   exact⟨k,by omega,HN.out,.inr ⟨hkl,by simp,by subst hkl;exact hI⟩⟩
theorem Yh (l:List bK) (v:Value) (aI:Nat) (fst caps:Array Value) (p:Nat->Bool) (I:Nat->World->Prop) (w:World) (eg: ∀args w,(callFunc aI args).run Tryz.prog w= .ok (.enter aI args) w)
 (hsl: ∀k W,I k W->bn W v l)
 (hcall: ∀k (hk:k<l.length) W,(∀j,j<k->p j=false)->I k W->Calls Tryz.prog aI (fst.push (rv l[k])++caps) W (fun e W'=>e= .returned (.bool (p k))/\I (k+1) W')) (h0:I 0 w):
 Calls Tryz.prog 205 #[v,.func (.func aI) fst caps] w (dA l.length p I (fun _=> .bool true) (.bool false)):=by
 have HI:=Lib.hid (aaz l v aI fst caps p I w eg hsl hcall h0)
 have hlen:=(hsl 0 w h0).len
 clear hsl hcall h0 eg
 go_enter Tryz.func205,Tryz.ntmps205
 go_wp2_with fail
 refine HI.out.mono ?_
 clear HI
 rintro e W' ⟨k,hk,hno,⟨hlt,hp,rfl,hI⟩|⟨hkl,rfl,hI⟩⟩
 ·have HN:=Lib.hid (And.intro hno (And.intro hp hI))
  clear hno hp hI
  go_wp2_with fail
  go_returns
  exact⟨k,hk,HN.out.1,.inl ⟨hlt,HN.out.2.1,by simp,HN.out.2.2⟩⟩
 ·have HN:=Lib.hid (And.intro hno (And.intro hkl hI))
  clear hno hkl hI
  go_wp2_with fail
  go_returns
  exact⟨k,hk,HN.out.1,.inr ⟨HN.out.2.1,by simp,HN.out.2.1▸HN.out.2.2⟩⟩
theorem Yk (x:bK) (bx aI:Nat) (fst caps:Array Value) (b:Bool) (W:World) (R:World->Prop) (eg: ∀args w,(callFunc aI args).run Tryz.prog w= .ok (.enter aI args) w)
 (hbx:W.cell? ⟨bx,0,none⟩=some (.func (.func aI) fst caps))
 (hcall:Calls Tryz.prog aI (fst.push (rv x)++caps) (W.alloc (.cells #[iv x.1,iv x.2] 103)) (fun e W'=>e= .returned (.bool b)/\R W')):
 Calls Tryz.prog 206 #[rv x,.pointer (some ⟨bx,0,none⟩)] W (fun e W'=>e= .returned (.bool !b)/\R W'):=by
 have hlt:=World.block_lt_of_cell? W _ hbx
 have HC:=Lib.hid hcall
 clear hcall
 go_enter Tryz.func206,Tryz.ntmps206
 go_wp2_with fail
 refine HC.out.mono ?_
 rintro e W' ⟨rfl,hR⟩
 have HR:=Lib.hid hR
 clear hR
 go_wp2_with fail
 go_returns
 exact⟨by simp,HR.out⟩
theorem aaC (l:List bK) (v:Value) (aI:Nat) (fst caps:Array Value) (p:Nat->Bool) (I:Nat->World->Prop) (w:World) (eg: ∀args w,(callFunc aI args).run Tryz.prog w= .ok (.enter aI args) w)
 (hsl: ∀k W,I k W->bn W v l) (hal: ∀k W o,I k W->I k (W.alloc o))
 (hcall: ∀k (hk:k<l.length) W,(∀j,j<k->p j=true)->I k W->Calls Tryz.prog aI (fst.push (rv l[k])++caps) W (fun e W'=>e= .returned (.bool (p k))/\I (k+1) W'/\gu w.heap.size W W')) (h0:I 0 w):
 Calls Tryz.prog 154 #[v,.func (.func aI) fst caps] w (dA l.length (fun k=>!p k) I (fun _=> .bool false) (.bool true)):=by
 have HI:=Lib.hid (Yh l v 206 #[] #[.pointer (some ⟨w.heap.size,0,none⟩)] (fun k=>!p k)
  (fun k W=>I k W/\W.heap[w.heap.size]? =some (.cells #[.func (.func aI) fst caps] 216 (0,0))) (w.alloc (.cells #[.func (.func aI) fst caps] 216))
  (enters_of Tryz.func206 (by kernel_rfl) rfl) (fun k W h=>hsl k W h.1)
  (fun k hk W hno h=>by
    have hlt:w.heap.size<W.heap.size:=(Array.getElem?_eq_some_iff.1 h.2).1
    refine(Yk l[k] w.heap.size aI fst caps (p k) W (fun W'=>I (k+1) W'/\W'.heap[w.heap.size]? =some (.cells #[.func (.func aI) fst caps] 216 (0,0))) eg (ay h.2) ?_)
    refine(hcall k hk _ (fun j hj=>by simpa using hno j hj) (by first|exact hal _ _ _ h.1|exact h.1)).mono ?_
    rintro e W' ⟨rfl,h1,h2⟩
    refine⟨rfl,h1,(h2.block _ (Nat.le_refl _) (by first|exact hlt|(simp;omega))).trans (by first|exact h.2|exact(Below.heap_alloc _ _ _ hlt).trans h.2)⟩)
  ⟨hal _ _ _ h0,heap_alloc_new w _⟩)
 have hlen:=(hsl 0 w h0).len
 clear hsl hcall h0 eg hal
 go_enter Tryz.func154,Tryz.ntmps154
 go_wp2_with fail
 refine HI.out.mono ?_
 clear HI
 rintro e W' ⟨k,hk,hno,⟨hlt,hp,rfl,hI,_⟩|⟨hkl,rfl,hI,_⟩⟩
 ·have HN:=Lib.hid (And.intro hno (And.intro hp hI))
  clear hno hp hI
  go_wp2_with fail
  go_returns
  exact⟨k,hk,HN.out.1,.inl ⟨hlt,HN.out.2.1,by simp,HN.out.2.2⟩⟩
 ·have HN:=Lib.hid (And.intro hno (And.intro hkl hI))
  clear hno hkl hI
  go_wp2_with fail
  go_returns
  exact⟨k,hk,HN.out.1,.inr ⟨HN.out.2.1,by simp,HN.out.2.1▸HN.out.2.2⟩⟩
theorem KF (l:List bK) (v:Value) (aI:Nat) (fst caps:Array Value) (q:bK->Bool) (w:World) (hv:bn w v l) (eg: ∀args w,(callFunc aI args).run Tryz.prog w= .ok (.enter aI args) w)
 (hcall: ∀x∈l, ∀W,Below w.heap.size w W->Calls Tryz.prog aI (fst.push (rv x)++caps) W (PV (.bool (q x)) W)):
 Calls Tryz.prog 154 #[v,.func (.func aI) fst caps] w (PV (.bool (l.all q)) w):=by
 refine(aaC l v aI fst caps (fun k=>q (l.getD k (0,0))) (fun _ W=>Below w.heap.size w W) w eg (fun k W h=>hv.below h (Nat.le_refl _)) (fun k W o h=>af h o) (fun k hk W _ h=>?_) (Below.refl _ _)).mono ?_
 ·refine(hcall l[k] (List.getElem_mem _) W h).mono ?_
  rintro e W' ⟨rfl,hb⟩
  exact⟨by simp[hk],aH h hb,gu.of_below hb⟩
 ·intro e W' hpost
  obtain⟨rfl,k,_,hI⟩:=hpost.all
  refine⟨?_,hI⟩
  rw[gY,iC]
theorem aaA (l:List KE) (v:Value) (aI:Nat) (fst caps:Array Value) (p:Nat->Bool) (I:Nat->World->Prop) (w:World) (eg: ∀args w,(callFunc aI args).run Tryz.prog w= .ok (.enter aI args) w)
 (hsl: ∀k W,I k W->qH W v l)
 (hcall: ∀k (hk:k<l.length) W,(∀j,j<k->p j=false)->I k W->Calls Tryz.prog aI (fst.push (Xm l[k])++caps) W (fun e W'=>e= .returned (.bool (p k))/\I (k+1) W')) (h0:I 0 w):
 Calls Tryz.prog 253 #[v,.func (.func aI) fst caps] w (dA l.length p I (fun k=>iv k) (iv (-1))):=by
 have hlen:=(hsl 0 w h0).len
 obtain⟨o,c,rfl⟩:=(hsl 0 w h0).open
 have HC:=Lib.hid hcall
 have HS:=Lib.hid hsl
 clear hcall hsl
 go_enter Tryz.func253,Tryz.ntmps253
 go_wp2
 go_loopw [4,5,8] (fun _ _ i wr=> ∃k:Nat,k<=l.length/\i= .int .i64 k/\(∀j,j<k->p j=false)/\I k wr) (fun _ _ i _=>l.length-(intOf i).toNat)
 case atStart=>exact⟨0,Nat.zero_le _,rfl,fun j hj=>by omega,h0⟩
 case round=>
  obtain⟨k,hk,rfl,hno,hI⟩:=hrel
  by_cases hlt:k<l.length
  ·obtain⟨b,off,rfl,hb,hc0⟩:=qH.cell (HS.out k wr hI) hlt
   have hC:=HC.out k hlt wr hno hI
   have HN:=Lib.hid hno
   clear hno
   go_wp2_with fail
   refine hC.mono ?_
   rintro e W1 ⟨rfl,hI1⟩
   have HI:=Lib.hid hI1
   clear hI1 hI hC
   cases hp:p k
   ·go_wp2_with fail
    go_roundw
    case rel=>exact⟨k+1,by omega,by go_num,fun j hj=>(by by_cases e:j=k;(subst e;exact hp);exact HN.out j (by omega)),HI.out⟩
    case measure=>simp[intOf];omega
   ·go_wp2_with fail
    go_returns
    exact⟨k,by omega,HN.out,.inl ⟨hlt,hp,by simp,HI.out⟩⟩
  ·have hkl:k=l.length:=by omega
   have HN:=Lib.hid hno
   clear hno
   go_wp2_with fail
   go_returns
   exact⟨k,by omega,HN.out,.inr ⟨hkl,by simp,by subst hkl;exact hI⟩⟩
theorem Yi (l:List KE) (v:Value) (aI:Nat) (fst caps:Array Value) (p:Nat->Bool) (I:Nat->World->Prop) (w:World) (eg: ∀args w,(callFunc aI args).run Tryz.prog w= .ok (.enter aI args) w)
 (hsl: ∀k W,I k W->qH W v l)
 (hcall: ∀k (hk:k<l.length) W,(∀j,j<k->p j=false)->I k W->Calls Tryz.prog aI (fst.push (Xm l[k])++caps) W (fun e W'=>e= .returned (.bool (p k))/\I (k+1) W')) (h0:I 0 w):
 Calls Tryz.prog 207 #[v,.func (.func aI) fst caps] w (dA l.length p I (fun _=> .bool true) (.bool false)):=by
 have HI:=Lib.hid (aaA l v aI fst caps p I w eg hsl hcall h0)
 have hlen:=(hsl 0 w h0).len
 clear hsl hcall h0 eg
 go_enter Tryz.func207,Tryz.ntmps207
 go_wp2_with fail
 refine HI.out.mono ?_
 clear HI
 rintro e W' ⟨k,hk,hno,⟨hlt,hp,rfl,hI⟩|⟨hkl,rfl,hI⟩⟩
 ·have HN:=Lib.hid (And.intro hno (And.intro hp hI))
  clear hno hp hI
  go_wp2_with fail
  go_returns
  exact⟨k,hk,HN.out.1,.inl ⟨hlt,HN.out.2.1,by simp,HN.out.2.2⟩⟩
 ·have HN:=Lib.hid (And.intro hno (And.intro hkl hI))
  clear hno hkl hI
  go_wp2_with fail
  go_returns
  exact⟨k,hk,HN.out.1,.inr ⟨HN.out.2.1,by simp,HN.out.2.1▸HN.out.2.2⟩⟩
theorem Yl (x:KE) (bx aI:Nat) (fst caps:Array Value) (b:Bool) (W:World) (R:World->Prop) (eg: ∀args w,(callFunc aI args).run Tryz.prog w= .ok (.enter aI args) w)
 (hbx:W.cell? ⟨bx,0,none⟩=some (.func (.func aI) fst caps))
 (hcall:Calls Tryz.prog aI (fst.push (Xm x)++caps) W (fun e W'=>e= .returned (.bool b)/\R W')):
 Calls Tryz.prog 208 #[Xm x,.pointer (some ⟨bx,0,none⟩)] W (fun e W'=>e= .returned (.bool !b)/\R W'):=by
 have hlt:=World.block_lt_of_cell? W _ hbx
 have HC:=Lib.hid hcall
 clear hcall
 go_enter Tryz.func208,Tryz.ntmps208
 go_wp2_with fail
 refine HC.out.mono ?_
 rintro e W' ⟨rfl,hR⟩
 have HR:=Lib.hid hR
 clear hR
 go_wp2_with fail
 go_returns
 exact⟨by simp,HR.out⟩
theorem aaD (l:List KE) (v:Value) (aI:Nat) (fst caps:Array Value) (p:Nat->Bool) (I:Nat->World->Prop) (w:World) (eg: ∀args w,(callFunc aI args).run Tryz.prog w= .ok (.enter aI args) w)
 (hsl: ∀k W,I k W->qH W v l) (hal: ∀k W o,I k W->I k (W.alloc o))
 (hcall: ∀k (hk:k<l.length) W,(∀j,j<k->p j=true)->I k W->Calls Tryz.prog aI (fst.push (Xm l[k])++caps) W (fun e W'=>e= .returned (.bool (p k))/\I (k+1) W'/\gu w.heap.size W W')) (h0:I 0 w):
 Calls Tryz.prog 156 #[v,.func (.func aI) fst caps] w (dA l.length (fun k=>!p k) I (fun _=> .bool false) (.bool true)):=by
 have HI:=Lib.hid (Yi l v 208 #[] #[.pointer (some ⟨w.heap.size,0,none⟩)] (fun k=>!p k)
  (fun k W=>I k W/\W.heap[w.heap.size]? =some (.cells #[.func (.func aI) fst caps] 128 (0,0))) (w.alloc (.cells #[.func (.func aI) fst caps] 128))
  (enters_of Tryz.func208 (by kernel_rfl) rfl) (fun k W h=>hsl k W h.1)
  (fun k hk W hno h=>by
    have hlt:w.heap.size<W.heap.size:=(Array.getElem?_eq_some_iff.1 h.2).1
    refine(Yl l[k] w.heap.size aI fst caps (p k) W (fun W'=>I (k+1) W'/\W'.heap[w.heap.size]? =some (.cells #[.func (.func aI) fst caps] 128 (0,0))) eg (ay h.2) ?_)
    refine(hcall k hk _ (fun j hj=>by simpa using hno j hj) (by first|exact hal _ _ _ h.1|exact h.1)).mono ?_
    rintro e W' ⟨rfl,h1,h2⟩
    refine⟨rfl,h1,(h2.block _ (Nat.le_refl _) (by first|exact hlt|(simp;omega))).trans (by first|exact h.2|exact(Below.heap_alloc _ _ _ hlt).trans h.2)⟩)
  ⟨hal _ _ _ h0,heap_alloc_new w _⟩)
 have hlen:=(hsl 0 w h0).len
 clear hsl hcall h0 eg hal
 go_enter Tryz.func156,Tryz.ntmps156
 go_wp2_with fail
 refine HI.out.mono ?_
 clear HI
 rintro e W' ⟨k,hk,hno,⟨hlt,hp,rfl,hI,_⟩|⟨hkl,rfl,hI,_⟩⟩
 ·have HN:=Lib.hid (And.intro hno (And.intro hp hI))
  clear hno hp hI
  go_wp2_with fail
  go_returns
  exact⟨k,hk,HN.out.1,.inl ⟨hlt,HN.out.2.1,by simp,HN.out.2.2⟩⟩
 ·have HN:=Lib.hid (And.intro hno (And.intro hkl hI))
  clear hno hkl hI
  go_wp2_with fail
  go_returns
  exact⟨k,hk,HN.out.1,.inr ⟨HN.out.2.1,by simp,HN.out.2.1▸HN.out.2.2⟩⟩
theorem KG (l:List KE) (v:Value) (aI:Nat) (fst caps:Array Value) (q:KE->Bool) (w:World) (hv:qH w v l) (eg: ∀args w,(callFunc aI args).run Tryz.prog w= .ok (.enter aI args) w)
 (hcall: ∀x∈l, ∀W,Below w.heap.size w W->Calls Tryz.prog aI (fst.push (Xm x)++caps) W (PV (.bool (q x)) W)):
 Calls Tryz.prog 156 #[v,.func (.func aI) fst caps] w (PV (.bool (l.all q)) w):=by
 refine(aaD l v aI fst caps (fun k=>q (l.getD k (undef,[]))) (fun _ W=>Below w.heap.size w W) w eg (fun k W h=>hv.below h (Nat.le_refl _)) (fun k W o h=>af h o) (fun k hk W _ h=>?_) (Below.refl _ _)).mono ?_
 ·refine(hcall l[k] (List.getElem_mem _) W h).mono ?_
  rintro e W' ⟨rfl,hb⟩
  exact⟨by simp[hk],aH h hb,gu.of_below hb⟩
 ·intro e W' hpost
  obtain⟨rfl,k,_,hI⟩:=hpost.all
  refine⟨?_,hI⟩
  rw[gY,iC]
theorem aay (l:List BC) (v:Value) (aI:Nat) (fst caps:Array Value) (p:Nat->Bool) (I:Nat->World->Prop) (w:World) (eg: ∀args w,(callFunc aI args).run Tryz.prog w= .ok (.enter aI args) w)
 (hsl: ∀k W,I k W->rZ W v l)
 (hcall: ∀k (hk:k<l.length) W,(∀j,j<k->p j=false)->I k W->Calls Tryz.prog aI (fst.push (MI l[k])++caps) W (fun e W'=>e= .returned (.bool (p k))/\I (k+1) W')) (h0:I 0 w):
 Calls Tryz.prog 254 #[v,.func (.func aI) fst caps] w (dA l.length p I (fun k=>iv k) (iv (-1))):=by
 have hlen:=(hsl 0 w h0).len
 obtain⟨o,c,rfl⟩:=(hsl 0 w h0).open
 have HC:=Lib.hid hcall
 have HS:=Lib.hid hsl
 clear hcall hsl
 go_enter Tryz.func254,Tryz.ntmps254
 go_wp2
 go_loopw [4,5,8] (fun _ _ i wr=> ∃k:Nat,k<=l.length/\i= .int .i64 k/\(∀j,j<k->p j=false)/\I k wr) (fun _ _ i _=>l.length-(intOf i).toNat)
 case atStart=>exact⟨0,Nat.zero_le _,rfl,fun j hj=>by omega,h0⟩
 case round=>
  obtain⟨k,hk,rfl,hno,hI⟩:=hrel
  by_cases hlt:k<l.length
  ·obtain⟨b,off,rfl,hb,hc0,hc1,hc2,hc3⟩:=rZ.cell (HS.out k wr hI) hlt
   have hC:=HC.out k hlt wr hno hI
   have HN:=Lib.hid hno
   clear hno
   go_wp2_with fail
   refine hC.mono ?_
   rintro e W1 ⟨rfl,hI1⟩
   have HI:=Lib.hid hI1
   clear hI1 hI hC
   cases hp:p k
   ·go_wp2_with fail
    go_roundw
    case rel=>exact⟨k+1,by omega,by go_num,fun j hj=>(by by_cases e:j=k;(subst e;exact hp);exact HN.out j (by omega)),HI.out⟩
    case measure=>simp[intOf];omega
   ·go_wp2_with fail
    go_returns
    exact⟨k,by omega,HN.out,.inl ⟨hlt,hp,by simp,HI.out⟩⟩
  ·have hkl:k=l.length:=by omega
   have HN:=Lib.hid hno
   clear hno
   go_wp2_with fail
   go_returns
   exact⟨k,by omega,HN.out,.inr ⟨hkl,by simp,by subst hkl;exact hI⟩⟩
theorem Yg (l:List BC) (v:Value) (aI:Nat) (fst caps:Array Value) (p:Nat->Bool) (I:Nat->World->Prop) (w:World) (eg: ∀args w,(callFunc aI args).run Tryz.prog w= .ok (.enter aI args) w)
 (hsl: ∀k W,I k W->rZ W v l)
 (hcall: ∀k (hk:k<l.length) W,(∀j,j<k->p j=false)->I k W->Calls Tryz.prog aI (fst.push (MI l[k])++caps) W (fun e W'=>e= .returned (.bool (p k))/\I (k+1) W')) (h0:I 0 w):
 Calls Tryz.prog 209 #[v,.func (.func aI) fst caps] w (dA l.length p I (fun _=> .bool true) (.bool false)):=by
 have HI:=Lib.hid (aay l v aI fst caps p I w eg hsl hcall h0)
 have hlen:=(hsl 0 w h0).len
 clear hsl hcall h0 eg
 go_enter Tryz.func209,Tryz.ntmps209
 go_wp2_with fail
 refine HI.out.mono ?_
 clear HI
 rintro e W' ⟨k,hk,hno,⟨hlt,hp,rfl,hI⟩|⟨hkl,rfl,hI⟩⟩
 ·have HN:=Lib.hid (And.intro hno (And.intro hp hI))
  clear hno hp hI
  go_wp2_with fail
  go_returns
  exact⟨k,hk,HN.out.1,.inl ⟨hlt,HN.out.2.1,by simp,HN.out.2.2⟩⟩
 ·have HN:=Lib.hid (And.intro hno (And.intro hkl hI))
  clear hno hkl hI
  go_wp2_with fail
  go_returns
  exact⟨k,hk,HN.out.1,.inr ⟨HN.out.2.1,by simp,HN.out.2.1▸HN.out.2.2⟩⟩
theorem Yj (x:BC) (bx aI:Nat) (fst caps:Array Value) (b:Bool) (W:World) (R:World->Prop) (eg: ∀args w,(callFunc aI args).run Tryz.prog w= .ok (.enter aI args) w)
 (hbx:W.cell? ⟨bx,0,none⟩=some (.func (.func aI) fst caps))
 (hcall:Calls Tryz.prog aI (fst.push (MI x)++caps) (W.alloc (.cells #[.bool x.1,iv x.2.1,iv x.2.2.1,iv x.2.2.2] 161)) (fun e W'=>e= .returned (.bool b)/\R W')):
 Calls Tryz.prog 210 #[MI x,.pointer (some ⟨bx,0,none⟩)] W (fun e W'=>e= .returned (.bool !b)/\R W'):=by
 have hlt:=World.block_lt_of_cell? W _ hbx
 have HC:=Lib.hid hcall
 clear hcall
 go_enter Tryz.func210,Tryz.ntmps210
 go_wp2_with fail
 refine HC.out.mono ?_
 rintro e W' ⟨rfl,hR⟩
 have HR:=Lib.hid hR
 clear hR
 go_wp2_with fail
 go_returns
 exact⟨by simp,HR.out⟩
theorem aaB (l:List BC) (v:Value) (aI:Nat) (fst caps:Array Value) (p:Nat->Bool) (I:Nat->World->Prop) (w:World) (eg: ∀args w,(callFunc aI args).run Tryz.prog w= .ok (.enter aI args) w)
 (hsl: ∀k W,I k W->rZ W v l) (hal: ∀k W o,I k W->I k (W.alloc o))
 (hcall: ∀k (hk:k<l.length) W,(∀j,j<k->p j=true)->I k W->Calls Tryz.prog aI (fst.push (MI l[k])++caps) W (fun e W'=>e= .returned (.bool (p k))/\I (k+1) W'/\gu w.heap.size W W')) (h0:I 0 w):
 Calls Tryz.prog 157 #[v,.func (.func aI) fst caps] w (dA l.length (fun k=>!p k) I (fun _=> .bool false) (.bool true)):=by
 have HI:=Lib.hid (Yg l v 210 #[] #[.pointer (some ⟨w.heap.size,0,none⟩)] (fun k=>!p k)
  (fun k W=>I k W/\W.heap[w.heap.size]? =some (.cells #[.func (.func aI) fst caps] 214 (0,0))) (w.alloc (.cells #[.func (.func aI) fst caps] 214))
  (enters_of Tryz.func210 (by kernel_rfl) rfl) (fun k W h=>hsl k W h.1)
  (fun k hk W hno h=>by
    have hlt:w.heap.size<W.heap.size:=(Array.getElem?_eq_some_iff.1 h.2).1
    refine(Yj l[k] w.heap.size aI fst caps (p k) W (fun W'=>I (k+1) W'/\W'.heap[w.heap.size]? =some (.cells #[.func (.func aI) fst caps] 214 (0,0))) eg (ay h.2) ?_)
    refine(hcall k hk _ (fun j hj=>by simpa using hno j hj) (by first|exact hal _ _ _ h.1|exact h.1)).mono ?_
    rintro e W' ⟨rfl,h1,h2⟩
    refine⟨rfl,h1,(h2.block _ (Nat.le_refl _) (by first|exact hlt|(simp;omega))).trans (by first|exact h.2|exact(Below.heap_alloc _ _ _ hlt).trans h.2)⟩)
  ⟨hal _ _ _ h0,heap_alloc_new w _⟩)
 have hlen:=(hsl 0 w h0).len
 clear hsl hcall h0 eg hal
 go_enter Tryz.func157,Tryz.ntmps157
 go_wp2_with fail
 refine HI.out.mono ?_
 clear HI
 rintro e W' ⟨k,hk,hno,⟨hlt,hp,rfl,hI,_⟩|⟨hkl,rfl,hI,_⟩⟩
 ·have HN:=Lib.hid (And.intro hno (And.intro hp hI))
  clear hno hp hI
  go_wp2_with fail
  go_returns
  exact⟨k,hk,HN.out.1,.inl ⟨hlt,HN.out.2.1,by simp,HN.out.2.2⟩⟩
 ·have HN:=Lib.hid (And.intro hno (And.intro hkl hI))
  clear hno hkl hI
  go_wp2_with fail
  go_returns
  exact⟨k,hk,HN.out.1,.inr ⟨HN.out.2.1,by simp,HN.out.2.1▸HN.out.2.2⟩⟩
theorem KD (l:List BC) (v:Value) (aI:Nat) (fst caps:Array Value) (q:BC->Bool) (w:World) (hv:rZ w v l) (eg: ∀args w,(callFunc aI args).run Tryz.prog w= .ok (.enter aI args) w)
 (hcall: ∀x∈l, ∀W,Below w.heap.size w W->Calls Tryz.prog aI (fst.push (MI x)++caps) W (PV (.bool (q x)) W)):
 Calls Tryz.prog 157 #[v,.func (.func aI) fst caps] w (PV (.bool (l.all q)) w):=by
 refine(aaB l v aI fst caps (fun k=>q (l.getD k (false,0,(0,0)))) (fun _ W=>Below w.heap.size w W) w eg (fun k W h=>hv.below h (Nat.le_refl _)) (fun k W o h=>af h o) (fun k hk W _ h=>?_) (Below.refl _ _)).mono ?_
 ·refine(hcall l[k] (List.getElem_mem _) W h).mono ?_
  rintro e W' ⟨rfl,hb⟩
  exact⟨by simp[hk],aH h hb,gu.of_below hb⟩
 ·intro e W' hpost
  obtain⟨rfl,k,_,hI⟩:=hpost.all
  refine⟨?_,hI⟩
  rw[gY,iC]
theorem Ym (x:Int) (bx aI:Nat) (fst caps:Array Value) (b:Bool) (W:World) (R:World->Prop) (eg: ∀args w,(callFunc aI args).run Tryz.prog w= .ok (.enter aI args) w)
 (hbx:W.cell? ⟨bx,0,none⟩=some (.func (.func aI) fst caps))
 (hcall:Calls Tryz.prog aI (fst.push (iv x)++caps) W (fun e W'=>e= .returned (.bool b)/\R W')):
 Calls Tryz.prog 277 #[iv x,.pointer (some ⟨bx,0,none⟩)] W (fun e W'=>e= .returned (.bool !b)/\R W'):=by
 have hlt:=World.block_lt_of_cell? W _ hbx
 have HC:=Lib.hid hcall
 clear hcall
 go_enter Tryz.func277,Tryz.ntmps277
 go_wp2_with fail
 refine HC.out.mono ?_
 rintro e W' ⟨rfl,hR⟩
 have HR:=Lib.hid hR
 clear hR
 go_wp2_with fail
 go_returns
 exact⟨by simp,HR.out⟩
theorem aaE (l:List Int) (v:Value) (aI:Nat) (fst caps:Array Value) (p:Nat->Bool) (I:Nat->World->Prop) (w:World) (eg: ∀args w,(callFunc aI args).run Tryz.prog w= .ok (.enter aI args) w)
 (hsl: ∀k W,I k W->aN W v l) (hal: ∀k W o,I k W->I k (W.alloc o))
 (hcall: ∀k (hk:k<l.length) W,(∀j,j<k->p j=true)->I k W->Calls Tryz.prog aI (fst.push (iv l[k])++caps) W (fun e W'=>e= .returned (.bool (p k))/\I (k+1) W'/\gu w.heap.size W W')) (h0:I 0 w):
 Calls Tryz.prog 250 #[v,.func (.func aI) fst caps] w (dA l.length (fun k=>!p k) I (fun _=> .bool false) (.bool true)):=by
 have HI:=Lib.hid (Iy l v 277 #[] #[.pointer (some ⟨w.heap.size,0,none⟩)] (fun k=>!p k)
  (fun k W=>I k W/\W.heap[w.heap.size]? =some (.cells #[.func (.func aI) fst caps] 124 (0,0))) (w.alloc (.cells #[.func (.func aI) fst caps] 124))
  (enters_of Tryz.func277 (by kernel_rfl) rfl) (fun k W h=>hsl k W h.1)
  (fun k hk W hno h=>by
    have hlt:w.heap.size<W.heap.size:=(Array.getElem?_eq_some_iff.1 h.2).1
    refine(Ym l[k] w.heap.size aI fst caps (p k) W (fun W'=>I (k+1) W'/\W'.heap[w.heap.size]? =some (.cells #[.func (.func aI) fst caps] 124 (0,0))) eg (ay h.2) ?_)
    refine(hcall k hk _ (fun j hj=>by simpa using hno j hj) (by first|exact hal _ _ _ h.1|exact h.1)).mono ?_
    rintro e W' ⟨rfl,h1,h2⟩
    refine⟨rfl,h1,(h2.block _ (Nat.le_refl _) (by first|exact hlt|(simp;omega))).trans (by first|exact h.2|exact(Below.heap_alloc _ _ _ hlt).trans h.2)⟩)
  ⟨hal _ _ _ h0,heap_alloc_new w _⟩)
 have hlen:=(hsl 0 w h0).len
 clear hsl hcall h0 eg hal
 go_enter Tryz.func250,Tryz.ntmps250
 go_wp2_with fail
 refine HI.out.mono ?_
 clear HI
 rintro e W' ⟨k,hk,hno,⟨hlt,hp,rfl,hI,_⟩|⟨hkl,rfl,hI,_⟩⟩
 ·have HN:=Lib.hid (And.intro hno (And.intro hp hI))
  clear hno hp hI
  go_wp2_with fail
  go_returns
  exact⟨k,hk,HN.out.1,.inl ⟨hlt,HN.out.2.1,by simp,HN.out.2.2⟩⟩
 ·have HN:=Lib.hid (And.intro hno (And.intro hkl hI))
  clear hno hkl hI
  go_wp2_with fail
  go_returns
  exact⟨k,hk,HN.out.1,.inr ⟨HN.out.2.1,by simp,HN.out.2.1▸HN.out.2.2⟩⟩
theorem KH (l:List Int) (v:Value) (aI:Nat) (fst caps:Array Value) (q:Int->Bool) (w:World) (hv:aN w v l) (eg: ∀args w,(callFunc aI args).run Tryz.prog w= .ok (.enter aI args) w)
 (hcall: ∀x∈l, ∀W,Below w.heap.size w W->Calls Tryz.prog aI (fst.push (iv x)++caps) W (PV (.bool (q x)) W)):
 Calls Tryz.prog 250 #[v,.func (.func aI) fst caps] w (PV (.bool (l.all q)) w):=by
 refine(aaE l v aI fst caps (fun k=>q (l.getD k 0)) (fun _ W=>Below w.heap.size w W) w eg (fun k W h=>hv.below h (Nat.le_refl _)) (fun k W o h=>af h o) (fun k hk W _ h=>?_) (Below.refl _ _)).mono ?_
 ·refine(hcall l[k] (List.getElem_mem _) W h).mono ?_
  rintro e W' ⟨rfl,hb⟩
  exact⟨by simp[hk],aH h hb,gu.of_below hb⟩
 ·intro e W' hpost
  obtain⟨rfl,k,_,hI⟩:=hpost.all
  refine⟨?_,hI⟩
  rw[gY,iC]
theorem FP (c:aQ) (oh:Option Addr) (ch:Nat) (ZW tv:Value) (l:List Int) (v:Value) (w:World) (hv:aN w v l):
 Calls Tryz.prog 203 #[kv (.slice oh c.heaps.length ch) ZW tv,v] w (PV (.bool (mV c l)) w):=by
 obtain⟨o,cc,rfl⟩:=hv.open
 have HA:=Lib.hid (fun(W:World) (hb:Below w.heap.size w W)=>KH l (.slice o l.length cc) 251 #[] #[] (inB · 0 30) W (hv.below hb (Nat.le_refl _)) (enters_of Tryz.func251 (by kernel_rfl) rfl) (fun x _ W _=>Ju x W))
 clear hv
 unfold mV
 by_cases hl:l.length=c.heaps.length
 ·have hl':((l.length:Int)==(c.heaps.length:Int))=true:=by simp[hl]
  rw[decide_eq_true hl,Bool.true_and]
  have HL:=Lib.hid hl
  clear hl
  go_enter Tryz.func203,Tryz.ntmps203
  go_wp2_with fail
  refine(HA.out _ (af (Below.refl _ _) _)).mono ?_
  rintro e w' ⟨rfl,hb⟩
  obtain⟨hc,hf⟩:=aW hb
  go_wp2_with fail
  go_returns
  exact⟨by simp,aH (af (Below.refl _ _) _) hb⟩
 ·have hl':((l.length:Int)==(c.heaps.length:Int))=false:=by simp;omega
  rw[decide_eq_false hl,Bool.false_and]
  have HL:=Lib.hid hl
  clear hl
  go_enter Tryz.func203,Tryz.ntmps203
  go_wp2_with fail
  go_returns
  exact⟨by simp,zl⟩
theorem KJ (c:aQ) (oh:Option Addr) (ch:Nat) (ZW tv:Value) (e:KE) (w:World) (hv:aN w e.1 e.2) (hh:c.heaps.length<=1000):
 Calls Tryz.prog 153 #[kv (.slice oh c.heaps.length ch) ZW tv,Xm e] w (PV (.bool (pG c e.2)) w):=by
 obtain⟨v,l⟩:=e
 simp only[Xm] at hv⊢
 obtain⟨o,cc,rfl⟩:=hv.open
 have HA:=Lib.hid (fun(W:World) (hb:Below w.heap.size w W)=>FP c oh ch ZW tv l (.slice o l.length cc) W (hv.below hb (Nat.le_refl _)))
 by_cases hw:mV c l=true
 ·have hx:(∀x∈l,0<=x/\x<=9999)/\l.length=c.heaps.length:=by
   simp only[mV,inB,Bool.and_eq_true,decide_eq_true_eq,List.all_eq_true] at hw
   exact⟨fun x hx=>by have:=hw.2 x hx;omega,hw.1⟩
  have hn:l.length<=1000:=by omega
  have HS:=Lib.hid (fun(W:World) (hb:Below w.heap.size w W)=>GX l (.slice o l.length cc) W (hv.below hb (Nat.le_refl _)) hx.1 hn)
  have HC:Hid (pG c l=decide (0<jB l)):=Lib.hid (by unfold pG;rw[hw,Bool.true_and])
  rw[hw] at HA
  clear hv hw hx
  rw[HC.out]
  generalize jB l=m at HS
  go_enter Tryz.func153,Tryz.ntmps153
  go_wp2_with fail
  refine(HA.out _ (af (Below.refl _ _) _)).mono ?_
  rintro e w1 ⟨rfl,hb⟩
  obtain⟨hc,hf⟩:=aW hb
  have HB:=Lib.hid (show Below w.heap.size w w1 from aH (af (Below.refl _ _) _) hb)
  clear hb
  go_wp2_with fail
  refine(HS.out _ HB.out).mono ?_
  rintro e w2 ⟨rfl,hb⟩
  obtain⟨hc2,hf2⟩:=aW hb
  have HB2:=Lib.hid (aH HB.out hb)
  clear hb
  go_wp2_with fail
  go_returns
  exact⟨by simp,HB2.out⟩
 ·have hw':mV c l=false:=by simpa using hw
  rw[hw'] at HA
  have HC:Hid (pG c l=false):=Lib.hid (by unfold pG;rw[hw'];rfl)
  clear hv hw hw'
  rw[HC.out]
  go_enter Tryz.func153,Tryz.ntmps153
  go_wp2_with fail
  refine(HA.out _ (af (Below.refl _ _) _)).mono ?_
  rintro e w1 ⟨rfl,hb⟩
  obtain⟨hc,hf⟩:=aW hb
  have HB:=Lib.hid (show Below w.heap.size w w1 from aH (af (Below.refl _ _) _) hb)
  clear hb
  go_wp2_with fail
  go_returns
  exact⟨by simp,HB.out⟩
end Go.Proofs.YtabpkkbiioihaaaGreatDoor.xH
end
section
namespace Go.Proofs.YtabpkkbiioihaaaGreatDoor.xH
open Go.RowKit Go.RG Go.SL Go.Shelf gZ Go.TB
theorem Kz (c:aQ) (oh ok:Option Addr) (ch ck:Nat) (tv:Value) (t:BC) (w:World) (h1:c.heaps.length<=1000) (h2:c.aC.length<=1000):
 Calls Tryz.prog 152 #[kv (.slice oh c.heaps.length ch) (.slice ok c.aC.length ck) tv,MI t] w (PV (.bool (mW c t)) w):=by
 obtain⟨b,n,r⟩:=t
 cases b
 all_goals
  go_enter Tryz.func152,Tryz.ntmps152
  go_wp2_with fail
  refine(rf _ _ _ _).mono ?_
  rintro e w1 ⟨rfl,hb⟩
  obtain⟨hc,hf⟩:=aW hb
  have hz:=hb.size
  simp only[World.size_alloc] at hz
  have HB:=Lib.hid (show Below w.heap.size w w1 from zl)
  clear hb
 ·cases hq:inB n 0 ((c.heaps.length:Int)-1)
  ·go_wp2_with fail
   go_returns
   exact⟨by simp[mW,pV,hq],HB.out⟩
  ·go_wp2_with fail
   refine(mZ r _).mono ?_
   rintro e w2 ⟨rfl,hb⟩
   have HB2:=Lib.hid (aH HB.out hb)
   clear hb
   go_wp2_with fail
   go_returns
   exact⟨by simp[mW,pV,hq],HB2.out⟩
 ·cases hq:inB n 0 ((c.aC.length:Int)-1)
  ·go_wp2_with fail
   go_returns
   exact⟨by simp[mW,pV,hq],HB.out⟩
  ·go_wp2_with fail
   refine(mZ r _).mono ?_
   rintro e w2 ⟨rfl,hb⟩
   have HB2:=Lib.hid (aH HB.out hb)
   clear hb
   go_wp2_with fail
   go_returns
   exact⟨by simp[mW,pV,hq],HB2.out⟩
theorem KA (c:aQ) (oh:Option Addr) (ch:Nat) (ZW tv:Value) (t:BC) (w:World) (h1:c.heaps.length<=1000) (h2:0<=t.2.1) (h3:t.2.1<=1000):
 Calls Tryz.prog 279 #[kv (.slice oh c.heaps.length ch) ZW tv,MI t] w (PV (iv (uu c t:Nat)) w):=by
 obtain⟨b,n,r⟩:=t
 simp only at h2 h3
 obtain⟨k,rfl⟩: ∃k:Nat,n=k:=⟨n.toNat,by omega⟩
 cases b
 ·go_enter Tryz.func279,Tryz.ntmps279
  go_wp2_with fail
  go_returns
  exact⟨by simp[uu],zl⟩
 ·go_enter Tryz.func279,Tryz.ntmps279
  go_wp2_with fail
  go_returns
  exact⟨by simp[uu],zl⟩
theorem Ot (l:List Int) (v:Value) (s:List Int) (x0 x1 x2:Int) (hx:iI s=[x0,x1,x2]) (w:World) (hv:aN w v l) (hl:l.length=s.length) (h3:s.length<=3)
 (hw: ∀x∈l,0<=x/\x<=30) (hs: ∀x∈s,0<=x/\x<=100) (hp:0<jB l):
 Calls Tryz.prog 258 #[.agg #[iv x0,iv x1,iv x2],v] w (PV (iv (xZ s l)) w):=by
 obtain⟨o,c,rfl⟩:=hv.open
 have HSM:=Lib.hid (fun(W:World) (hb:Below w.heap.size w W)=>GX l (.slice o l.length c) W (hv.below hb (Nat.le_refl _)) (fun x hx=>by have:=hw x hx;omega) (by omega))
 have HV:=Lib.hid (hv.alloc (.cells #[iv x0,iv x1,iv x2] 259))
 have HW:=Lib.hid hw
 have HS:=Lib.hid hs
 have HD:=Lib.hid (fun k=>Ud hw hs k)
 have HA:=Lib.hid (Pn hl)
 have HX:=Lib.hid hx
 have HP:=Lib.hid hp
 have hM:Hid (xZ s l=tV l s/jB l):=Lib.hid rfl
 have hsb:=(yF (m:=30) (by omega) hw)
 rw[hM.out]
 generalize tV l s=D at HA hM⊢
 generalize jB l=m at hsb hp HSM HP
 have HCB:=Lib.hid (fun(k:Nat) (hk:k<3)=>show(w.alloc (.cells #[iv x0,iv x1,iv x2] 259)).cell? ⟨w.heap.size,k,none⟩=some (iv ([x0,x1,x2].getD k 0)) from by
  rw[World.cell?_alloc_new]
  rcases(show k=0∨k=1∨k=2 by omega) with rfl|rfl|rfl <;>rfl)
 have HL:=Lib.hid (And.intro hl h3)
 have hl3:(l.length:Int)<=3:=by omega
 clear hv hw hs hx hp hl h3
 go_enter Tryz.func258,Tryz.ntmps258
 go_wp2_with fail
 go_loop [5,6,7,10] (fun n _ _ i=> ∃k:Nat,k<=l.length/\i= .int .i64 k/\n=iv (rM l s k)) (fun _ _ _ i=>l.length-(intOf i).toNat)
 case atStart=>exact⟨0,Nat.zero_le _,rfl,by simp[rM,tV]⟩
 case round=>
  obtain⟨k,hk,rfl,rfl⟩:=hrel
  have hb:=HD.out k
  by_cases hlt:k<l.length
  ·obtain⟨b,off,rfl,hbl,hc0⟩:=aN.cell HV.out hlt
   have hks:k<s.length:=by have:=HL.out;omega
   have hx1:=HW.out _ (List.getElem_mem hlt)
   have hx2:=HS.out _ (List.getElem_mem hks)
   have hsu:=La hlt hks
   have hk3:k<3:=by omega
   have hget:=HCB.out k hk3
   rw[<-HX.out,Gm,List.getD_eq_getElem?_getD,List.getElem?_eq_getElem hks,Option.getD_some] at hget
   generalize rM l s k=d at hb hsu⊢
   generalize l[k]=x at hc0 hx1 hsu
   generalize s[k]=y at hx2 hsu hget
   have hmul:0<=x*y/\x*y<=30*100:=⟨Int.mul_nonneg (by omega) (by omega),Int.mul_le_mul hx1.2 hx2.2 (by omega) (by omega)⟩
   obtain⟨hm1,hm2⟩:=hmul
   have mG:=Lib.hid hsu
   have aiB:(k:Int)<3:=by omega
   clear hsu
   go_wp2_with fail
   go_round
   case rel=>exact⟨k+1,by omega,by go_num,by rw[mG.out]⟩
   case measure=>simp[intOf];omega
  ·have hkl:k=l.length:=by omega
   rw[hkl,HA.out]
   rw[hkl,HA.out] at hb
   have hpp:=HP.out
   have hdv:D.tdiv m=D/m:=Int.tdiv_eq_ediv_of_nonneg hb.1
   have hd0:0<=D/m:=Int.ediv_nonneg hb.1 (by omega)
   have hd1:D/m<=D:=Int.ediv_le_self _ hb.1
   go_wp2_with fail
   refine(HSM.out _ (af (Below.refl _ _) _)).mono ?_
   rintro e w1 ⟨rfl,hbb⟩
   have HB:=Lib.hid (show Below w.heap.size w w1 from aH (af (Below.refl _ _) _) hbb)
   clear hbb
   have hm0:m≠0:=by omega
   go_wp2_with fail
   go_returns
   exact⟨by simp[hdv],HB.out⟩
end Go.Proofs.YtabpkkbiioihaaaGreatDoor.xH
end
section
namespace Go.Proofs.YtabpkkbiioihaaaGreatDoor.xH
open Go.RowKit Go.RG Go.SL Go.Shelf gZ Go.TB
attribute [local go_sem] Oper.semAt_some
theorem jJ {l:List Int} (h:l.length=3): ∃a b c,l=[a,b,c]:=by
 match l,h with
 |[a,b,c],_=>exact⟨a,b,c,rfl⟩
def Str (c:aQ) (s:List Int):Prop:=s.length=c.heaps.length/\ ∀x∈s,0<=x/\x<=100
theorem MQ (c:aQ) (hS:jI c) (oh ok:Option Addr) (ch ck:Nat) (tv:Value) (es:List KE) (s:List Int) (x0 x1 x2:Int) (hx:iI s=[x0,x1,x2]) (hs:Str c s) (n:Nat) (hn:jQ c n) (w:World)
 (hk:qH w (.slice ok c.aC.length ck) es) (hes:es.map (·.2)=c.aC):
 Calls Tryz.prog 212 #[kv (.slice oh c.heaps.length ch) (.slice ok c.aC.length ck) tv,.agg #[iv x0,iv x1,iv x2],iv n] w (PV (iv (AO c s n)) w):=by
 have h3:=hS.h3
 have h1:=hS.h1
 have c3:=hS.c3
 have hel:es.length=c.aC.length:=by rw[<-hes,List.length_map]
 unfold jQ at hn
 by_cases hlt:n<c.heaps.length
 ·have hv:[x0,x1,x2].getD n 0=AO c s n:=by
   unfold AO
   rw[if_pos hlt, <-hx,Gm]
  have hn3:(n:Int)<3:=by omega
  have KO: ¬(c.heaps.length:Int)<=n:=by omega
  have hcell:((w.alloc (.cells #[.slice oh c.heaps.length ch,.slice ok c.aC.length ck,tv] 44)).alloc (.cells #[iv x0,iv x1,iv x2] 259)).cell? ⟨w.heap.size+1,n,none⟩=some (iv (AO c s n)):=by
   rw[<-hv]
   simp only[World.cell?,dL]
   rcases(show n=0∨n=1∨n=2 by omega) with rfl|rfl|rfl <;>rfl
  generalize AO c s n=r at hcell⊢
  clear hx hs hk hes hv hel
  go_enter Tryz.func212,Tryz.ntmps212
  go_wp2_with fail
  go_returns
  exact⟨by simp,zl⟩
 ·have hk0:n-c.heaps.length<es.length:=by omega
  have hkc:n-c.heaps.length<c.aC.length:=by omega
  have he:es[n-c.heaps.length].2=c.aC[n-c.heaps.length]:=by simp only[<-hes,List.getElem_map]
  have hc:=hS.aC _ (List.getElem_mem hkc)
  have hr:=hk.2 _ (List.getElem_mem hk0)
  rw[<-hel] at hk
  obtain⟨b,off,rfl,hb,hcell⟩:=qH.cell hk hk0
  generalize xn:es[n-c.heaps.length]=e at*
  obtain⟨ev,el⟩:=e
  simp only at he hr hcell
  subst he
  obtain⟨oe,ce,rfl⟩:=hr.open
  have hv:AO c s n=xZ s c.aC[n-c.heaps.length]:=by
   unfold AO
   rw[if_neg hlt,List.getD_eq_getElem?_getD,List.getElem?_eq_getElem hkc,Option.getD_some]
  rw[hv]
  have HM:=Lib.hid (fun(W:World) (hB:Below w.heap.size w W)=>Ot c.aC[n-c.heaps.length] _ s x0 x1 x2 hx W (hr.below hB (Nat.le_refl _)) (by rw[hc.1,hs.1]) (by rw[hs.1];exact h3) hc.2.1 hs.2 hc.2.2)
  obtain⟨j,hj⟩: ∃j:Nat,n-c.heaps.length=j:=⟨_,rfl⟩
  obtain rfl:n=c.heaps.length+j:=by omega
  have hjI:(((c.heaps.length+j:Nat):Int)-(c.heaps.length:Int))=j:=by omega
  have aeI:(c.heaps.length:Int)<=((c.heaps.length+j:Nat):Int):=by omega
  have hjl:(j:Int)<c.aC.length:=by omega
  generalize c.aC[c.heaps.length+j-c.heaps.length]=l at*
  generalize xZ s l=r at HM⊢
  rw[hj] at hcell
  have HX:=Lib.hid (And.intro hx hs)
  clear hx hs hv hk hc hr xn hj hk0 hkc hes hel
  obtain⟨N,hN⟩: ∃N:Int,((c.heaps.length+j:Nat):Int)=N:=⟨_,rfl⟩
  rw[hN] at hjI aeI⊢
  clear hN hlt hn
  go_enter Tryz.func212,Tryz.ntmps212
  go_upto_region 3 with(fail)
  refine dD fun W3 hW3=>?_
  have hb3:Below w.heap.size w W3:=by rw[hW3];exact zl
  have hk1:W3.heap[w.heap.size]? =some (.cells #[.slice oh c.heaps.length ch,.slice (some ⟨b,off,none⟩) c.aC.length ck,tv] 44 (0,0)):=by rw[hW3];exact(Below.heap_alloc _ _ _ (by simp)).trans (ag _ _)
  have hk2:W3.heap[w.heap.size+1]? =some (.cells #[iv x0,iv x1,iv x2] 259 (0,0)):=by rw[hW3];exact dL _ _ _
  have aeP:W3.cell? ⟨b,off+j,none⟩=some (.slice oe l.length ce):=(hb3.cell hb).trans hcell
  have hbl:b<W3.heap.size:=by have:=hb3.size;omega
  have HB3:=Lib.hid hb3
  obtain⟨d1,g1,m1⟩:=cells_of_block hk1
  obtain⟨d2,g2,m2⟩:=cells_of_block hk2
  clear hW3 hcell hb hb3 hk1 hk2
  refine zg 9 [] none [(8,Spec.val (iv r))] ?_
  simp only[zt]
  repeat ((first|refine zn ?_|refine zk ?_);simp only[zp])
  refine zw 258 (h:=fun W hE hF=>by exact HM.out W (aH HB3.out hE.below)) (t:=?_)
  simp only[zp]
  repeat ((first|refine zn ?_|refine zk ?_);simp only[zp])
  intro W hE hF
  obtain⟨hc,hf⟩:=aW hE.below
  have hzE:=hE.size
  (try simp only[World.size_alloc] at hzE)
  go_wp2_with fail
  (try simp only[Exit.inBlock,Exit.then])
  refine bodyPost_ret (v:=iv r) (by simp[results,Tryz.results212,go_sem,hc];try omega) rfl ?_
  exact⟨rfl,aH HB3.out hE.below⟩
structure Qe (w:World) (hv jO tv:Value) (x0 x1 x2:Int) (W:World):Prop where
 b0:W.heap[w.heap.size]? =some (.cells #[hv,jO,tv] 44 (0,0))
 b1:W.heap[w.heap.size+1]? =some (.cells #[iv x0,iv x1,iv x2] 259 (0,0))
 below:Below w.heap.size w W
theorem Qe.next {w:World} {hv jO tv:Value} {x0 x1 x2:Int} {W W':World} (h:Qe w hv jO tv x0 x1 x2 W) (hb:Below W.heap.size W W'):Qe w hv jO tv x0 x1 x2 W':=
 ⟨(hb.block _ (Array.getElem?_eq_some_iff.1 h.b0).1).trans h.b0,(hb.block _ (Array.getElem?_eq_some_iff.1 h.b1).1).trans h.b1,aH h.below hb⟩
def pU (c:aQ) (out s:List Int) (k:Nat):Bool:=(List.range k).all fun i=>out.contains (i:Int) ||yX c s (c.au.getD i (false,0,(0,0)))
theorem JQ (c:aQ) (hS:jI c) (oh ok ot:Option Addr) (ch ck ct:Nat) (es:List KE) (s:List Int) (x0 x1 x2:Int) (hx:iI s=[x0,x1,x2]) (hs:Str c s) (ov:Value) (out:List Int) (w:World)
 (hc:lZ w (.slice oh c.heaps.length ch) (.slice ok c.aC.length ck) (.slice ot c.au.length ct) es c) (ho:aN w ov out):
 Calls Tryz.prog 257 #[kv (.slice oh c.heaps.length ch) (.slice ok c.aC.length ck) (.slice ot c.au.length ct),.agg #[iv x0,iv x1,iv x2],ov] w (PV (.bool (ny c out s)) w):=by
 obtain⟨oo,oc,rfl⟩:=ho.open
 have t5:=hS.t5
 have HS:=Lib.hid hS
 have HC:=Lib.hid hc
 have HO:=Lib.hid ho
 have HX:=Lib.hid (And.intro hx hs)
 have HF:=Lib.hid (fun(n:Nat) (hn:jQ c n) (W:World) (hB:Below w.heap.size w W)=>MQ c hS oh ok ch ck (.slice ot c.au.length ct) es s x0 x1 x2 hx hs n hn W (hc.aC.below hB (Nat.le_refl _)) hc.is)
 have HT:=Lib.hid (fun(t:BC) (ht:t∈c.au) (W:World)=>KA c oh ch (.slice ok c.aC.length ck) (.slice ot c.au.length ct) t W (by have:=hS.h3;omega) ((hS.au t ht).1.1) (by
  have h1:=(hS.au t ht).1.2
  have h2:=hS.h3
  have h3:=hS.c3
  unfold pV at h1
  split at h1 <;>omega))
 clear hS hc ho hx hs
 go_enter Tryz.func257,Tryz.ntmps257
 go_upto_region 1 with(fail)
 refine dD fun W1 hW1=>?_
 have hst:Qe w (.slice oh c.heaps.length ch) (.slice ok c.aC.length ck) (.slice ot c.au.length ct) x0 x1 x2 W1:=by
  rw[hW1]
  exact⟨(Below.heap_alloc _ _ _ (by simp)).trans (ag _ _),dL _ _ _,zl⟩
 clear hW1
 obtain⟨cc0,cf0,cl0⟩:=cells_of_block hst.b0
 have HST:=Lib.hid hst
 clear hst
 go_wp2_with fail
 go_loopw [12] (fun i wr=> ∃k:Nat,k<=c.au.length/\i= .int .i64 k/\pU c out s k=true/\Qe w (.slice oh c.heaps.length ch) (.slice ok c.aC.length ck) (.slice ot c.au.length ct) x0 x1 x2 wr) (fun i _=>c.au.length-(intOf i).toNat)
 case atStart=>exact⟨0,Nat.zero_le _,rfl,rfl,HST.out⟩
 case round=>
  obtain⟨k,hk,rfl,hok,hst⟩:=hrel
  have Au:=Lib.hid hst
  have iM:=Lib.hid hok
  clear hok cc0 cf0 cl0
  by_cases hlt:k<c.au.length
  ·have htl:=HC.out.au.below hst.below (Nat.le_refl _)
   obtain⟨b,off,hv,hb,d0,d1,d2,d3⟩:=rZ.cell htl hlt
   cases hv
   have hmem:=List.getElem_mem hlt
   have hth:=NJ HS.out hmem
   have hT:=HT.out _ hmem
   have hso:pU c out s (k+1)=(out.contains (k:Int) ||yX c s c.au[k]):=by
    have h1:=iM.out
    unfold pU at h1⊢
    rw[jD,h1,Bool.true_and,show c.au.getD k (false,0,(0,0))=c.au[k] from by simp[List.getD,hlt]]
   generalize c.au[k]=t at*
   obtain⟨tb,tn,Dy,Dz⟩:=t
   simp only at d0 d1 d2 d3
   have HTH:=Lib.hid hth
   obtain⟨q,hq⟩: ∃q,uu c (tb,tn,(Dy,Dz))=q:=⟨_,rfl⟩
   rw[hq] at hT HTH
   have hF:=HF.out q HTH.out
   obtain⟨r,hr⟩: ∃r,AO c s q=r:=⟨_,rfl⟩
   rw[hr] at hF
   have aaT:pU c out s (k+1)=(out.contains (k:Int) ||inB r Dy Dz):=by
    rw[hso];unfold yX;rw[hq,hr]
   have HSO:=Lib.hid aaT
   have WV:=Lib.hid hT
   have HFF:=Lib.hid hF
   have hcn:=fun W (hB:Below w.heap.size w W)=>eP out (.slice oo out.length oc) (k:Int) W (HO.out.below hB (Nat.le_refl _))
   generalize out.contains (k:Int)=cb at*
   have U8:=Lib.hid hcn
   clear hst htl hmem hth hT hso aaT hq hF hr hcn
   go_upto_region 4 with(fail)
   refine dD fun W4 O3=>?_
   have VP:Qe w _ _ _ x0 x1 x2 W4:=Au.out.next (by rw[O3];exact zl)
   have hk8:W4.heap[wr.heap.size]? =some (.cells #[.bool tb,iv tn,iv Dy,iv Dz] 161 (0,0)):=by rw[O3];exact ag _ _
   have hB4:Below wr.heap.size wr W4:=by rw[O3];exact zl
   obtain⟨c1,f1,l1⟩:=cells_of_block VP.b0
   obtain⟨c2,f2,l2⟩:=cells_of_block VP.b1
   obtain⟨c3,f3,l3⟩:=cells_of_block hk8
   have Ny:=Lib.hid VP
   clear O3 VP hk8 hB4 d0 d1 d2 d3 hb
   cases cb
   ·skip
    refine zg 16 [] none [(2,Spec.val (.bool false)),(11,Spec.val (iv q)),(12,Spec.val (iv r)),(13,Spec.val (.bool (inB r Dy Dz)))] ?_
    simp only[zt]
    repeat ((first|refine zn ?_|refine zk ?_);simp only[zp])
    refine zw 102 (h:=fun W hE hF=>by exact U8.out W (aH Ny.out.below hE.below)) (t:=?_)
    simp only[zp]
    repeat ((first|refine zn ?_|refine zk ?_);simp only[zp])
    refine zw 279 (h:=fun W hE hF=>by exact WV.out W) (t:=?_)
    simp only[zp]
    refine zw 212 (h:=fun W hE hF=>by exact HFF.out W (aH Ny.out.below hE.below)) (t:=?_)
    simp only[zp]
    refine zw 278 (h:=fun W hE hF=>by exact Su (Dy,Dz) r W) (t:=?_)
    simp only[zp]
    repeat ((first|refine zn ?_|refine zk ?_);simp only[zp])
    intro W hE hF
    obtain⟨hc,hf⟩:=aW hE.below
    have hzE:=hE.size
    (try simp only[World.size_alloc] at hzE)
    have hst5:=Ny.out.next hE.below
    have HS5:=Lib.hid hst5
    clear hst5 hE hF hc hf hzE c1 f1 l1 c2 f2 l2 c3 f3 l3
    cases hq2:inB r Dy Dz
    ·have qB:Hid (ny c out s=false):=Lib.hid (by
      have h1:=HSO.out
      rw[hq2] at h1
      have h2:pU c out s c.au.length=ny c out s:=rfl
      rw[<-h2]
      cases h3:pU c out s c.au.length
      ·rfl
      ·unfold pU at h1 h3
       rw[List.all_eq_true] at h3
       have:(List.range (k+1)).all (fun i=>out.contains (i:Int) ||yX c s (c.au.getD i (false,0,(0,0))))=true:=by
        rw[List.all_eq_true]
        intro i hi
        exact h3 i (List.mem_range.2 (by have:=List.mem_range.1 hi;omega))
       rw[this] at h1
       cases h1)
     go_wp2_with fail
     go_returns
     exact⟨by rw[qB.out];simp,HS5.out.below⟩
    ·go_wp2_with fail
     go_roundw
     case rel=>exact⟨k+1,by omega,by go_num,by rw[HSO.out,hq2];rfl,HS5.out⟩
     case measure=>simp[intOf];omega
   ·skip
    refine zg 16 [] none [(2,Spec.val (.bool true))] ?_
    simp only[zt]
    repeat ((first|refine zn ?_|refine zk ?_);simp only[zp])
    refine zw 102 (h:=fun W hE hF=>by exact U8.out W (aH Ny.out.below hE.below)) (t:=?_)
    simp only[zp]
    repeat ((first|refine zn ?_|refine zk ?_);simp only[zp])
    intro W hE hF
    obtain⟨hc,hf⟩:=aW hE.below
    have hzE:=hE.size
    (try simp only[World.size_alloc] at hzE)
    have hst5:=Ny.out.next hE.below
    have HS5:=Lib.hid hst5
    clear hst5 hE hF hc hf hzE c1 f1 l1 c2 f2 l2 c3 f3 l3
    go_wp2_with fail
    go_roundw
    case rel=>exact⟨k+1,by omega,by go_num,by rw[HSO.out];rfl,HS5.out⟩
    case measure=>simp[intOf];omega
  ·have hkl:k=c.au.length:=by omega
   subst hkl
   have HQ:Hid (ny c out s=true):=Lib.hid iM.out
   clear hst
   go_wp2_with fail
   go_returns
   exact⟨by rw[HQ.out];simp,Au.out.below⟩
end Go.Proofs.YtabpkkbiioihaaaGreatDoor.xH
end
section
namespace Go.Proofs.YtabpkkbiioihaaaGreatDoor.xH
open Go.RowKit Go.RG Go.SL Go.Shelf gZ Go.TB
attribute [local go_sem] Oper.semAt_some
structure QK (W:World) (bf bo fU ab bc l:Nat) (o:List Int):Prop where
 y:W.heap[fU]? =some (.cells #[.func (.yield l) #[] #[]] 299 (0,0))
 ch:W.heap[bc]? =some (.cells #[.func (.func 256) #[] #[.pointer (some ⟨bf,0,none⟩),.pointer (some ⟨ab,0,none⟩),.pointer (some ⟨bo,0,none⟩),.pointer (some ⟨fU,0,none⟩),.pointer (some ⟨bc,0,none⟩)]] 124 (0,0))
 cells:W.heap[ab]? =some (.cells (intCells o).toArray 259 (0,0))
theorem QK.kept {W W':World} {bf bo fU ab bc l:Nat} {o:List Int} (h:QK W bf bo fU ab bc l o) (hk: ∀m∈[ab,fU,bc],m<W.heap.size->W'.heap[m]? =W.heap[m]?):QK W' bf bo fU ab bc l o:=
 ⟨(hk _ (by simp) (Array.getElem?_eq_some_iff.1 h.y).1).trans h.y,(hk _ (by simp) (Array.getElem?_eq_some_iff.1 h.ch).1).trans h.ch,(hk _ (by simp) (Array.getElem?_eq_some_iff.1 h.cells).1).trans h.cells⟩
theorem QK.below {W W':World} {bf bo fU ab bc l:Nat} {o:List Int} (h:QK W bf bo fU ab bc l o) (hb:Below W.heap.size W W'):QK W' bf bo fU ab bc l o:=
 h.kept fun m _ hm=>hb.block m hm
theorem QK.set {W:World} {bf bo fU ab bc l:Nat} {o:List Int} (h:QK W bf bo fU ab bc l o) (hd1:fU≠ab) (hd3:bc≠ab) (i:Nat) (x:Int):QK (W.setCell ⟨ab,i,none⟩ (iv x)) bf bo fU ab bc l (o.set i x):=
 ⟨(Below.heap_setCell _ _ _ _ hd1).trans h.y,(Below.heap_setCell _ _ _ _ hd3).trans h.ch,by rw[<-ni];exact ak h.cells _⟩
def acB (_:List Nat) (x:List Int) (v:Value) (_:World):Prop:=v=jk (iI x)
structure acG (bf bo:Nat) (D:aQ) (hv jO tv ov:Value) (es:List KE) (out:List Int) (W:World):Prop where
 fb:W.heap[bf]? =some (.cells #[hv,jO,tv] 44 (0,0))
 ob:W.heap[bo]? =some (.cells #[ov] 36 (0,0))
 bG:lZ W hv jO tv es D
 out:aN W ov out
theorem G8 (D:aQ) (hS:jI D) (oh ok ot:Option Addr) (ch ck ct:Nat) (ov:Value) (es:List KE) (out:List Int) (bf bo fU ab bc l:Nat) (hd1:fU≠ab) (hd3:bc≠ab) (J:List Nat->Option Nat->World->Prop)
 (hInv: ∀Ms s W1,J Ms s W1->acG bf bo D (.slice oh D.heaps.length ch) (.slice ok D.aC.length ck) (.slice ot D.au.length ct) ov es out W1)
 (hstep: ∀Ms Ms' s W1 W2,J Ms s W1->Ext Ms W1 W2->(∀m∈Ms',m∈Ms∨(W1.heap.size<=m/\m<W2.heap.size))->True->J Ms' s W2)
 (hY: ∀Ms k v W1 (hk:k<(bD D out).length),J Ms (some k) W1->acB Ms (bD D out)[k] v W1->YieldAt Fence.wide 0 Tryz.prog l #[v] W1 fun e W'=>
   ((∀m∈Ms,m∉[]->m<W1.heap.size->W'.heap[m]? =W1.heap[m]?)/\W1.heap.size<=W'.heap.size)/\((e= .returned (.bool true)/\J Ms (some (k+1)) W')∨(e= .returned (.bool false)/\J Ms none W'))):
 ∀(m i k:Nat) (pre:List Int) (W:World) (o:List Int),i+m=D.heaps.length->pre.length=i->o.length=3->o.take i=pre->o.drop D.heaps.length=List.replicate (3-D.heaps.length) 0->gy (D.heaps) i k pre->QK W bf bo fU ab bc l o->J [ab,fU,bc] (some (tX D out k)) W->
  CallsIn Fence.wide 0 Tryz.prog 256 #[iv i,.pointer (some ⟨bf,0,none⟩),.pointer (some ⟨ab,0,none⟩),.pointer (some ⟨bo,0,none⟩),.pointer (some ⟨fU,0,none⟩),.pointer (some ⟨bc,0,none⟩)] W
   (fun e W'=>(e= .returned (.bool true)/\J [ab,fU,bc] (some (tX D out (k+(dC ((D.heaps).drop i)).length))) W'/\ ∃o',o'.length=3/\o'.take i=pre/\o'.drop D.heaps.length=List.replicate (3-D.heaps.length) 0/\QK W' bf bo fU ab bc l o')∨
     (e= .returned (.bool false)/\J [ab,fU,bc] none W')):=by
 have hh1:=hS.h1
 have hh3:=hS.h3
 intro m
 induction m with
 |zero=>
  intro i k pre W o him hpl hol hot hod hat hst hJ
  have hrow:(i:Int)=(D.heaps.length:Int):=by omega
  obtain⟨hone,hk,hx⟩:=hat.last (by omega)
  rw[hone]
  have hop:o=iI pre:=by
   rw[<-List.take_append_drop D.heaps.length o,hod]
   rw[show D.heaps.length=i from by omega,hot]
   unfold iI
   rw[hpl]
  have hk':k<(nV D).length:=hk
  have hxx:(nV D)[k]=pre:=hx
  obtain⟨hbf,O1,htl,hov⟩:=hInv _ _ _ hJ
  obtain⟨oo,oc,rfl⟩:=hov.open
  have hmem:pre∈nV D:=hxx▸List.getElem_mem hk'
  have hstr:Str D pre:=nD hS hmem
  obtain⟨x0,x1,x2,hxs⟩:=jJ hol
  have hright:=JQ D hS oh ok ot ch ck ct es pre x0 x1 x2 (by rw[<-hop,hxs]) hstr _ out W htl hov
  obtain⟨Jo,cf1,Lr⟩:=cells_of_block hbf
  obtain⟨WJ,Zk,Zi⟩:=cells_of_block O1
  obtain⟨cc3,cf3,cl3⟩:=cells_of_block hst.y
  have hag:jk o= .agg #[iv x0,iv x1,iv x2]:=by rw[hxs];rfl
  have hcb:=hst.cells
  rw[show(intCells o).toArray= #[iv x0,iv x1,iv x2] from by rw[hxs];rfl] at hcb
  obtain⟨cc4,cf4,cl4⟩:=cells_of_block hcb
  have HR:=Lib.hid hright
  have HS:=Lib.hid hst
  have HJ:=Lib.hid hJ
  have HI:=Lib.hid hInv
  have HST:=Lib.hid hstep
  have HY:=Lib.hid hY
  have HK:=Lib.hid (show ∃h:k<(nV D).length,(nV D)[k]=pre from⟨hk',hxx⟩)
  have HO:=Lib.hid (And.intro hol (And.intro hot (And.intro hod (And.intro hop hag))))
  have heq:((i:Int)==(D.heaps.length:Int))=true:=by simpa using hrow
  clear hright hInv hstep hY hst hJ hbf O1 htl hov hat hcb hop hag hxs hx hxx hk hk' hone hrow hot hod hmem hstr
  obtain⟨q,hq⟩: ∃q,ny D out pre=q:=⟨_,rfl⟩
  have HQ:=Lib.hid hq
  rw[hq] at HR
  clear hq
  cases q
  ·skip
   refine callsIn_of_wp Tryz.func256 rfl trivial ?_
   simp only[Tryz.ntmps256,List.size_toArray,List.length_cons,List.length_nil,Nat.reduceAdd,Nat.reduceSub,Array.replicate_succ,Array.replicate_zero,List.push_toArray,List.append_toArray,List.nil_append,List.cons_append]
   gi_wp2_with fail
   refine(callsIn_wide.2 HR.out).mono ?_
   rintro e W1 ⟨rfl,hb1⟩
   have HB1:=Lib.hid hb1
   clear hb1
   gi_wp2_with fail
   go_returns
   have hJ1:=HST.out _ _ _ _ _ HJ.out (Ext.of_below HB1.out) (fun m hm=> .inl hm) trivial
   obtain⟨hk',hxx⟩:=HK.out
   rw[<-WH hk' (by rw[hxx];exact HQ.out)] at hJ1
   exact .inl ⟨by simp,hJ1,o,HO.out.1,HO.out.2.1,HO.out.2.2.1,HS.out.below HB1.out⟩
  ·skip
   refine callsIn_of_wp Tryz.func256 rfl trivial ?_
   simp only[Tryz.ntmps256,List.size_toArray,List.length_cons,List.length_nil,Nat.reduceAdd,Nat.reduceSub,Array.replicate_succ,Array.replicate_zero,List.push_toArray,List.append_toArray,List.nil_append,List.cons_append]
   gi_wp2_with fail
   refine(callsIn_wide.2 HR.out).mono ?_
   rintro e W1 ⟨rfl,hb1⟩
   obtain⟨hc1,hf1⟩:=aW hb1
   have hs1:=hb1.size
   have HB1:=Lib.hid hb1
   have hJ1:=HST.out _ _ _ _ _ HJ.out (Ext.of_below hb1) (fun m hm=> .inl hm) trivial
   obtain⟨hk',hxx⟩:=HK.out
   obtain⟨hc,hx⟩:=JD hk' (by rw[hxx];exact HQ.out)
   obtain⟨g1,t1,a1,b1,hy1,hR1⟩:=HY.out _ _ (.agg #[iv x0,iv x1,iv x2]) W1 hc hJ1 (by
    show _=jk (iI _)
    rw[hx,hxx, <-HO.out.2.2.2.1,HO.out.2.2.2.2])
   have hcn:tX D out (k+1)=tX D out k+1:=Uk hk' (by rw[hxx];exact HQ.out)
   have HR1:=Lib.hid hR1
   have U8:=Lib.hid hcn
   clear hR1 hJ1 hk' hxx hc hx hcn hb1
   gi_wp2_with fail
   refine HR1.out.mono ?_
   rintro e W' ⟨⟨hkeep,hsz⟩,⟨rfl,hJ⟩|⟨rfl,hJ⟩⟩
   ·have UO:=Lib.hid hJ
    have HK':=Lib.hid hkeep
    clear hJ hkeep
    gi_wp2_with fail
    go_returns
    refine .inl ⟨by simp,by rw[U8.out];exact UO.out,o,HO.out.1,HO.out.2.1,HO.out.2.2.1,(HS.out.below HB1.out).kept (fun m hm hml=>HK'.out m hm (by simp) hml)⟩
   ·have UO:=Lib.hid hJ
    clear hJ hkeep
    gi_wp2_with fail
    go_returns
    exact .inr ⟨by simp,UO.out⟩
 |succ m ih=>
  intro i k pre W o him hpl hol hot hod hat hst hJ
  have hi:i<(D.heaps).length:=by omega
  have hcount:=gy.count hi
  have hrg:=hS.rg hi
  have hsz0:=hS.sz _ (List.getElem_mem hi)
  obtain⟨r,AP⟩: ∃r,D.heaps[i]=r:=⟨_,rfl⟩
  rw[AP] at hrg hsz0 hcount
  obtain⟨z,hz,hz4⟩: ∃z:Nat,(z:Int)=df r/\z<=101:=⟨(df r).toNat,by omega,by unfold df;omega⟩
  have hsz:(df r).toNat=z:=by omega
  rw[hsz] at hcount
  obtain⟨hbf,O1,htl,hov⟩:=hInv _ _ _ hJ
  obtain⟨Jo,cf1,Lr⟩:=cells_of_block hbf
  have hne:(i:Int)≠(D.heaps.length:Int):=by omega
  have hneb:((i:Int)==(D.heaps.length:Int))=false:=by simpa using hne
  have Qm:Hid (∀c:Nat,c<z->gy (D.heaps) (i+1) (k+c*(dC ((D.heaps).drop (i+1))).length) (pre++[r.1+(c:Int)])):=Lib.hid (fun c hc=>by
   have:=hat.next hi c (by rw[AP,hsz];exact hc)
   rw[AP] at this
   exact this)
  obtain⟨bh,ahW,hoh,hbh,hh0,OX⟩:=bn.cell htl.heaps hi
  cases hoh
  rw[AP] at hh0 OX
  have HI:=Lib.hid hInv
  have HST:=Lib.hid hstep
  have HS:=Lib.hid hst
  have HJ:=Lib.hid hJ
  have HIH:=Lib.hid ih
  have BG:=Lib.hid (And.intro hol (And.intro hot hod))
  have ZN:=Lib.hid hcount
  have HZ:=Lib.hid hz
  have hi3:i<3:=by omega
  have abu:(i:Int)<3:=by omega
  have hiI:(i:Int)<D.heaps.length:=by omega
  have ZB:=Lib.hid (show ∃h:i<D.heaps.length,D.heaps[i]=r from⟨hi,AP⟩)
  have hiR:i<D.heaps.length:=by omega
  clear hInv hstep hY hat hst hJ ih hcount hne hbf O1 htl hov AP hsz hi hol hot hod hz
  refine callsIn_of_wp Tryz.func256 rfl trivial ?_
  simp only[Tryz.ntmps256,List.size_toArray,List.length_cons,List.length_nil,Nat.reduceAdd,Nat.reduceSub,Array.replicate_succ,Array.replicate_zero,List.push_toArray,List.append_toArray,List.nil_append,List.cons_append]
  gi_wp2_with fail
  refine(callsIn_wide.2 (CQ r _ hrg.1 hrg.2.1 (by omega))).mono ?_
  rintro e W1 ⟨rfl,hb1⟩
  have UL:=Lib.hid (HS.out.below hb1)
  have HJ1:=Lib.hid (HST.out _ _ _ _ _ HJ.out (Ext.of_below hb1) (fun m hm=> .inl hm) trivial)
  clear hb1 hh0 OX hbh Jo cf1 Lr
  rw[<-HZ.out]
  gi_wp2_with fail
  gi_loopw [30] (fun u wr=> ∃c:Nat,c<=z/\u= .int .i64 c/\ ∃o':List Int,o'.length=3/\o'.take i=pre/\o'.drop D.heaps.length=List.replicate (3-D.heaps.length) 0/\QK wr bf bo fU ab bc l o'/\J [ab,fU,bc] (some (tX D out (k+c*(dC ((D.heaps).drop (i+1))).length))) wr)
   (fun u _=>z-(intOf u).toNat)
  case atStart=>exact⟨0,Nat.zero_le _,rfl,o,BG.out.1,BG.out.2.1,BG.out.2.2,UL.out,by simpa using HJ1.out⟩
  case round=>
   obtain⟨c,hcz,rfl,o',ho1,ho2,ho3,hst,hJ⟩:=hrel
   by_cases hlt:c<z
   ·obtain⟨hbf,O1,htl,hov⟩:=HI.out _ _ _ hJ
    obtain⟨XH,IV,IC⟩:=cells_of_block hbf
    obtain⟨XG,IU,IB⟩:=cells_of_block hst.ch
    obtain⟨y,hcell⟩: ∃y,wr.cell? ⟨ab,i,none⟩=some (iv y):=⟨_,ed hst.cells (show i<o'.length by omega)⟩
    have hab:=World.block_lt_of_cell? wr _ hcell
    have hfr:=aX hst.cells i
    obtain⟨hi',aaX⟩:=ZB.out
    obtain⟨bh',age,ael,hbh,hh0,OX⟩:=bn.cell htl.heaps hi'
    cases ael
    rw[aaX] at hh0 OX
    clear hi' aaX
    have Au:=Lib.hid hst
    have MG:=Lib.hid hJ
    have HO:=Lib.hid (And.intro ho1 (And.intro ho2 ho3))
    have KO:(c:Int)<z:=by omega
    have Xn:(z:Int)=df r:=HZ.out
    unfold df at Xn
    have hv0: -9223372036854775808<=r.1+(c:Int)/\r.1+(c:Int)<=9223372036854775807:=by omega
    clear hst hJ hbf O1 htl hov ho1 ho2 ho3 Xn
    have zN:=Au.out.set hd1 hd3 i (r.1+(c:Int))
    have TQ:J [ab,fU,bc] (some (tX D out (k+c*(dC ((D.heaps).drop (i+1))).length))) (wr.setCell ⟨ab,i,none⟩ (iv (r.1+(c:Int)))):=
     HST.out _ _ _ _ _ MG.out ((og wr ⟨ab,i,none⟩ _).more (fun x hx=>by simp at hx;subst hx;simp)) (fun m hm=> .inl hm) trivial
    have hcall:=HIH.out (i+1) _ (pre++[r.1+(c:Int)]) _ (o'.set i (r.1+(c:Int))) (by omega) (by simp[hpl]) (by simp[HO.out.1]) (by
     rw[List.take_set]
     rw[List.take_add_one,HO.out.2.1]
     have VV:i<o'.length:=by have:=HO.out.1;omega
     rw[List.getElem?_eq_getElem VV]
     simp[List.set_append_right,hpl]) (by
     rw[List.drop_set,if_pos hiR];exact HO.out.2.2) (Qm.out c hlt) zN TQ
    rw[show((i+1:Nat):Int)=(i:Int)+1 from by omega] at hcall
    have AB:=Lib.hid hcall
    clear hcall zN TQ
    gi_wp2_with fail
    refine AB.out.mono ?_
    rintro e W2 (⟨rfl,hJ2,o2,ho1,ho2,ho3,hst2⟩|⟨rfl,hJ2⟩)
    ·have HJ2:=Lib.hid hJ2
     have Fq:=Lib.hid hst2
     have wQ:=Lib.hid (And.intro ho1 (And.intro ho2 ho3))
     clear hJ2 hst2 ho1 ho2 ho3 XH IV IC XG IU IB hcell hab hfr hbh hh0 OX
     gi_wp2_with fail
     go_roundw
     case rel=>
      refine⟨c+1,by omega,by go_num,o2,wQ.out.1,?_,wQ.out.2.2,Fq.out,?_⟩
      ·have:=congrArg (List.take i) wQ.out.2.1
       rw[List.take_take,Nat.min_eq_left (by omega)] at this
       rw[this,List.take_append_of_le_length (by omega),List.take_of_length_le (by omega)]
      ·rw[Nat.add_mul,Nat.one_mul, <-Nat.add_assoc];exact HJ2.out
     case measure=>simp[intOf];omega
    ·have HJ2:=Lib.hid hJ2
     clear hJ2 XH IV IC XG IU IB hcell hab hfr hbh hh0 OX
     gi_wp2_with fail
     go_returns
     exact .inr ⟨by simp,HJ2.out⟩
   ·have KR:c=z:=by omega
    subst KR
    have MG:=Lib.hid hJ
    have Au:=Lib.hid hst
    have HO:=Lib.hid (And.intro ho1 (And.intro ho2 ho3))
    clear hJ hst ho1 ho2 ho3
    gi_wp2_with fail
    go_returns
    refine .inl ⟨by simp,?_,o',HO.out.1,HO.out.2.1,HO.out.2.2,Au.out⟩
    rw[ZN.out];exact MG.out
theorem GU (D:aQ) (hS:jI D) (oh ok ot:Option Addr) (ch ck ct:Nat) (ov:Value) (es:List KE) (out:List Int) (bf bo:Nat):
 Qd Tryz.prog 255 #[.pointer (some ⟨bf,0,none⟩),.pointer (some ⟨bo,0,none⟩)] (bD D out) acB [] (fun _=>True) (acG bf bo D (.slice oh D.heaps.length ch) (.slice ok D.aC.length ck) (.slice ot D.au.length ct) ov es out):=by
 intro l J W hInv hstep hY h0
 have hch:=fun fU ab bc hd1 hd3=>G8 D hS oh ok ot ch ck ct ov es out bf bo fU ab bc l hd1 hd3 J hInv hstep hY
 have hh3:=hS.h3
 have ZO:=Lib.hid hch
 have HST:=Lib.hid hstep
 have HJ:=Lib.hid h0
 have hn2: ∀(A B:Obj) (v:Value) (t:TypeId),(((W.alloc A).alloc B).alloc (.cells #[v] t)).cell? ⟨W.heap.size+1+1,0,none⟩=some v:=fun A B v t=>ay (fJ W A B _)
 have hf2: ∀(A B:Obj) (v:Value) (t:TypeId),(((W.alloc A).alloc B).alloc (.cells #[v] t)).frozen? ⟨W.heap.size+1+1,0,none⟩=false:=fun A B v t=>aX (fJ W A B _) 0
 clear hInv hstep hY hch h0 hS
 go_enter Tryz.func255,Tryz.ntmps255
 go_wp2_with fail
 refine(callsIn_wide.1 (ZO.out W.heap.size (W.heap.size+1) (W.heap.size+1+1) (by omega) (by omega) D.heaps.length 0 0 [] _ (List.replicate 3 0) (by omega) rfl (by simp) (by simp) (by rw[List.drop_replicate]) (gy.zero _) ⟨?_,?_,?_⟩
  (HST.out _ _ _ _ _ HJ.out (Ext.of_below zl) (fun m hm=> .inr (by simp at hm;(first|omega|(simp;omega)))) trivial))).mono ?_
 ·exact(Below.heap_alloc _ _ _ (by simp;omega)).trans ((Below.heap_alloc _ _ _ (by simp)).trans (ag _ _))
 ·exact fJ _ _ _ _
 ·exact(Below.heap_alloc _ _ _ (by simp)).trans (dL _ _ _)
 ·rintro e W2 (⟨rfl,hJ2,_⟩|⟨rfl,hJ2⟩)
  ·have HJ2:=Lib.hid hJ2
   clear hJ2 hn2 hf2
   go_wp2_with fail
   go_end0
   refine⟨⟨_,rfl⟩,[W.heap.size+1,W.heap.size,W.heap.size+1+1],.inl ?_⟩
   have:=HJ2.out
   rw[<-Ul]
   simpa [nV] using this
  ·have HJ2:=Lib.hid hJ2
   clear hJ2 hn2 hf2
   go_wp2_with fail
   go_end0
   exact⟨⟨_,rfl⟩,_,.inr HJ2.out⟩
theorem GV (hv jO tv:Value) (o:Option Addr) (n c:Nat) (w:World):
 Calls Tryz.prog 211 #[kv hv jO tv,.slice o n c] w (fun e w'=>e= .returned (.func (.func 255) #[] #[.pointer (some ⟨w.heap.size,0,none⟩),.pointer (some ⟨w.heap.size+1,0,none⟩)])/\
  w'=(w.alloc (.cells #[hv,jO,tv] 44)).alloc (.cells #[.slice o n c] 36)):=by
 go_enter Tryz.func211,Tryz.ntmps211
 go_wp2
 go_returns
 exact⟨by simp,rfl⟩
end Go.Proofs.YtabpkkbiioihaaaGreatDoor.xH
end
section
namespace Go.Proofs.YtabpkkbiioihaaaGreatDoor.xH
open Go.RowKit Go.RG Go.SL Go.Shelf gZ Go.TB
section
variable (c : aQ) (oh ok ot : Option Addr) (ch ck ct : Nat) (w : World)
theorem Sz (h:3<c.heaps.length∨3<c.aC.length∨5<c.au.length):Calls Tryz.prog 96 #[kv (.slice oh c.heaps.length ch) (.slice ok c.aC.length ck) (.slice ot c.au.length ct)] w (PV (iv 3) w):=by
 by_cases h1:(3:Int)<c.heaps.length
 ·skip
  go_enter Tryz.func96,Tryz.ntmps96
  go_wp2_with fail
  refine zg 6 [] none [] ?_
  simp only[zt]
  repeat (refine zn ?_;simp only[zp])
  intro W hE hF
  obtain⟨hc,hf⟩:=aW hE.below
  have hzE:=hE.size
  (try simp only[World.size_alloc] at hzE)
  have HB0:=Lib.hid (show Below w.heap.size w W from aH (af (Below.refl _ _) _) hE.below)
  have hk0:W.heap[w.heap.size]? =some (.cells #[.slice oh c.heaps.length ch,.slice ok c.aC.length ck,.slice ot c.au.length ct] 44 (0,0)):=(hE.block _ (by simp) (by simp)).trans (ag _ _)
  clear hE hF hc hf hzE
  obtain⟨d0,f0,m0⟩:=cells_of_block hk0
  clear hk0
  go_wp2_with fail
  go_returns
  exact⟨by simp,HB0.out⟩
 by_cases h2:(3:Int)<c.aC.length
 ·skip
  go_enter Tryz.func96,Tryz.ntmps96
  go_wp2_with fail
  refine zg 6 [] none [] ?_
  simp only[zt]
  repeat (refine zn ?_;simp only[zp])
  intro W hE hF
  obtain⟨hc,hf⟩:=aW hE.below
  have hzE:=hE.size
  (try simp only[World.size_alloc] at hzE)
  have HB0:=Lib.hid (show Below w.heap.size w W from aH (af (Below.refl _ _) _) hE.below)
  have hk0:W.heap[w.heap.size]? =some (.cells #[.slice oh c.heaps.length ch,.slice ok c.aC.length ck,.slice ot c.au.length ct] 44 (0,0)):=(hE.block _ (by simp) (by simp)).trans (ag _ _)
  clear hE hF hc hf hzE
  obtain⟨d0,f0,m0⟩:=cells_of_block hk0
  clear hk0
  go_wp2_with fail
  go_returns
  exact⟨by simp,HB0.out⟩
 have h3:(5:Int)<c.au.length:=by omega
 clear h
 go_enter Tryz.func96,Tryz.ntmps96
 go_wp2_with fail
 refine zg 6 [] none [] ?_
 simp only[zt]
 repeat (refine zn ?_;simp only[zp])
 intro W hE hF
 obtain⟨hc,hf⟩:=aW hE.below
 have hzE:=hE.size
 (try simp only[World.size_alloc] at hzE)
 have HB0:=Lib.hid (show Below w.heap.size w W from aH (af (Below.refl _ _) _) hE.below)
 have hk0:W.heap[w.heap.size]? =some (.cells #[.slice oh c.heaps.length ch,.slice ok c.aC.length ck,.slice ot c.au.length ct] 44 (0,0)):=(hE.block _ (by simp) (by simp)).trans (ag _ _)
 clear hE hF hc hf hzE
 obtain⟨d0,f0,m0⟩:=cells_of_block hk0
 clear hk0
 go_wp2_with fail
 go_returns
 exact⟨by simp,HB0.out⟩
theorem OI (h1: ¬(3:Int)<c.heaps.length) (h2: ¬(3:Int)<c.aC.length) (h3: ¬(5:Int)<c.au.length) (h4:((c.heaps.length:Int)==0)=true):Calls Tryz.prog 96 #[kv (.slice oh c.heaps.length ch) (.slice ok c.aC.length ck) (.slice ot c.au.length ct)] w (PV (iv 1) w):=by
 go_enter Tryz.func96,Tryz.ntmps96
 go_wp2_with fail
 refine zg 6 [] none [] ?_
 simp only[zt]
 repeat (refine zn ?_;simp only[zp])
 intro W hE hF
 obtain⟨hc,hf⟩:=aW hE.below
 have hzE:=hE.size
 (try simp only[World.size_alloc] at hzE)
 have HB0:=Lib.hid (show Below w.heap.size w W from aH (af (Below.refl _ _) _) hE.below)
 have hk0:W.heap[w.heap.size]? =some (.cells #[.slice oh c.heaps.length ch,.slice ok c.aC.length ck,.slice ot c.au.length ct] 44 (0,0)):=(hE.block _ (by simp) (by simp)).trans (ag _ _)
 clear hE hF hc hf hzE
 obtain⟨d0,f0,m0⟩:=cells_of_block hk0
 clear hk0
 go_wp2_with fail
 go_returns
 exact⟨by simp,HB0.out⟩
theorem OH (es:List KE) (hc:lZ w (.slice oh c.heaps.length ch) (.slice ok c.aC.length ck) (.slice ot c.au.length ct) es c) (h1: ¬(3:Int)<c.heaps.length) (h2: ¬(3:Int)<c.aC.length) (h3: ¬(5:Int)<c.au.length) (h4:((c.heaps.length:Int)==0)=false)
 (res:Int) (hres:res=if c.heaps.all (okR · 100)=false∨c.aC.all (pG c)=false∨c.au.all (mW c)=false then 1 else if 2000<prod c.heaps then 3 else 0):
 Calls Tryz.prog 96 #[kv (.slice oh c.heaps.length ch) (.slice ok c.aC.length ck) (.slice ot c.au.length ct)] w (PV (iv res) w):=by
 have hel:=hc.len
 have HR:=Lib.hid (fun(W:World) (hb:Below w.heap.size w W)=>KF c.heaps (.slice oh c.heaps.length ch) 155 #[] #[] (okR · 100) W (hc.heaps.below hb (Nat.le_refl _)) (enters_of Tryz.func155 (by kernel_rfl) rfl) (fun x _ W _=>mZ x W))
 have HKK:=Lib.hid (fun(W:World) (hb:Below w.heap.size w W)=>by
  have:=KG es (.slice ok c.aC.length ck) 153 #[kv (.slice oh c.heaps.length ch) (.slice ok c.aC.length ck) (.slice ot c.au.length ct)] #[] (fun e=>pG c e.2) W (hc.aC.below hb (Nat.le_refl _)) (enters_of Tryz.func153 (by kernel_rfl) rfl) (fun e he W' hb'=>KJ c oh ch _ _ e W' ((hc.aC.2 e he).below (aH hb hb') (Nat.le_refl _)) (by omega))
  rw[show es.all (fun e=>pG c e.2)=c.aC.all (pG c) from by rw[<-hc.is,List.all_map];rfl] at this
  exact this)
 have WV:=Lib.hid (fun(W:World) (hb:Below w.heap.size w W)=>KD c.au (.slice ot c.au.length ct) 152 #[kv (.slice oh c.heaps.length ch) (.slice ok c.aC.length ck) (.slice ot c.au.length ct)] #[] (mW c) W (hc.au.below hb (Nat.le_refl _)) (enters_of Tryz.func152 (by kernel_rfl) rfl) (fun x _ W _=>Kz c oh ok ch ck _ x W (by omega) (by omega)))
 have HHP:=Lib.hid (fun(W:World) (hb:Below w.heap.size w W)=>hc.heaps.below hb (Nat.le_refl _))
 have Qk:=Lib.hid hres
 clear hc hel hres
 cases hA:c.heaps.all (okR · 100)
 ·rw[hA] at HR
  have yL:Hid (res=1):=Lib.hid (by rw[Qk.out,if_pos (.inl hA)])
  clear hA
  go_enter Tryz.func96,Tryz.ntmps96
  go_wp2_with fail
  refine zg 6 [] none [] ?_
  simp only[zt]
  repeat (refine zn ?_;simp only[zp])
  intro W hE hF
  obtain⟨hc,hf⟩:=aW hE.below
  have hzE:=hE.size
  (try simp only[World.size_alloc] at hzE)
  have HB0:=Lib.hid (show Below w.heap.size w W from aH (af (Below.refl _ _) _) hE.below)
  have hk0:W.heap[w.heap.size]? =some (.cells #[.slice oh c.heaps.length ch,.slice ok c.aC.length ck,.slice ot c.au.length ct] 44 (0,0)):=(hE.block _ (by simp) (by simp)).trans (ag _ _)
  clear hE hF hc hf hzE
  obtain⟨d0,f0,m0⟩:=cells_of_block hk0
  clear hk0
  go_wp2_with fail
  refine(HR.out _ HB0.out).mono ?_
  rintro e w1 ⟨rfl,hb⟩
  have hk0:=hb.block _ m0
  obtain⟨dd,ff⟩:=aW hb
  have HB1:=Lib.hid (aH HB0.out hb)
  clear hb hk0
  go_wp2_with fail
  go_returns
  exact⟨by rw[yL.out];simp,HB1.out⟩
 rw[hA] at HR
 cases hK:c.aC.all (pG c)
 ·rw[hK] at HKK
  have yL:Hid (res=1):=Lib.hid (by rw[Qk.out,if_pos (.inr (.inl hK))])
  clear hA hK
  go_enter Tryz.func96,Tryz.ntmps96
  go_wp2_with fail
  refine zg 6 [] none [] ?_
  simp only[zt]
  repeat (refine zn ?_;simp only[zp])
  intro W hE hF
  obtain⟨hc,hf⟩:=aW hE.below
  have hzE:=hE.size
  (try simp only[World.size_alloc] at hzE)
  have HB0:=Lib.hid (show Below w.heap.size w W from aH (af (Below.refl _ _) _) hE.below)
  have hk0:W.heap[w.heap.size]? =some (.cells #[.slice oh c.heaps.length ch,.slice ok c.aC.length ck,.slice ot c.au.length ct] 44 (0,0)):=(hE.block _ (by simp) (by simp)).trans (ag _ _)
  clear hE hF hc hf hzE
  obtain⟨d0,f0,m0⟩:=cells_of_block hk0
  clear hk0
  go_wp2_with fail
  refine(HR.out _ HB0.out).mono ?_
  rintro e w1 ⟨rfl,hb⟩
  obtain⟨dd,ff⟩:=aW hb
  have hl1:=Nat.lt_of_lt_of_le m0 hb.size
  have HB1:=Lib.hid (aH HB0.out hb)
  clear hb
  go_wp2_with fail
  refine(HKK.out _ HB1.out).mono ?_
  rintro e w2 ⟨rfl,hb⟩
  have HB2:=Lib.hid (aH HB1.out hb)
  clear hb
  go_wp2_with fail
  go_returns
  exact⟨by rw[yL.out];simp,HB2.out⟩
 rw[hK] at HKK
 cases hT:c.au.all (mW c)
 ·rw[hT] at WV
  have yL:Hid (res=1):=Lib.hid (by rw[Qk.out,if_pos (.inr (.inr hT))])
  clear hA hK hT
  go_enter Tryz.func96,Tryz.ntmps96
  go_wp2_with fail
  refine zg 6 [] none [] ?_
  simp only[zt]
  repeat (refine zn ?_;simp only[zp])
  intro W hE hF
  obtain⟨hc,hf⟩:=aW hE.below
  have hzE:=hE.size
  (try simp only[World.size_alloc] at hzE)
  have HB0:=Lib.hid (show Below w.heap.size w W from aH (af (Below.refl _ _) _) hE.below)
  have hk0:W.heap[w.heap.size]? =some (.cells #[.slice oh c.heaps.length ch,.slice ok c.aC.length ck,.slice ot c.au.length ct] 44 (0,0)):=(hE.block _ (by simp) (by simp)).trans (ag _ _)
  clear hE hF hc hf hzE
  obtain⟨d0,f0,m0⟩:=cells_of_block hk0
  clear hk0
  go_wp2_with fail
  refine(HR.out _ HB0.out).mono ?_
  rintro e w1 ⟨rfl,hb⟩
  obtain⟨dd,ff⟩:=aW hb
  have hl1:=Nat.lt_of_lt_of_le m0 hb.size
  have HB1:=Lib.hid (aH HB0.out hb)
  clear hb
  go_wp2_with fail
  refine(HKK.out _ HB1.out).mono ?_
  rintro e w2 ⟨rfl,hb⟩
  obtain⟨dd2,ff2⟩:=aW hb
  have hl2:=Nat.lt_of_lt_of_le hl1 hb.size
  have HB2:=Lib.hid (aH HB1.out hb)
  clear hb
  go_wp2_with fail
  refine(WV.out _ HB2.out).mono ?_
  rintro e w3 ⟨rfl,hb⟩
  have HB3:=Lib.hid (aH HB2.out hb)
  clear hb
  go_wp2_with fail
  go_returns
  exact⟨by rw[yL.out];simp,HB3.out⟩
 rw[hT] at WV
 have hok: ∀r∈c.heaps,0<=r.1/\r.1<=r.2/\r.2<=100/\1<=df r/\df r<=101:=fun r hr=>qW (List.all_eq_true.1 hA r hr)
 have yL:Hid (res=if 2000<prod c.heaps then 3 else 0):=Lib.hid (by rw[Qk.out,if_neg];simp[hA,hK,hT])
 have iM:=Lib.hid hok
 clear hA hK hT hok
 go_enter Tryz.func96,Tryz.ntmps96
 go_wp2_with fail
 refine zg 6 [] none [] ?_
 simp only[zt]
 repeat (refine zn ?_;simp only[zp])
 intro W hE hF
 obtain⟨hc,hf⟩:=aW hE.below
 have hzE:=hE.size
 (try simp only[World.size_alloc] at hzE)
 have HB0:=Lib.hid (show Below w.heap.size w W from aH (af (Below.refl _ _) _) hE.below)
 have hk0:W.heap[w.heap.size]? =some (.cells #[.slice oh c.heaps.length ch,.slice ok c.aC.length ck,.slice ot c.au.length ct] 44 (0,0)):=(hE.block _ (by simp) (by simp)).trans (ag _ _)
 clear hE hF hc hf hzE
 obtain⟨d0,f0,m0⟩:=cells_of_block hk0
 clear hk0
 go_wp2_with fail
 refine(HR.out _ HB0.out).mono ?_
 rintro e w1 ⟨rfl,hb⟩
 obtain⟨dd,ff⟩:=aW hb
 have hl1:=Nat.lt_of_lt_of_le m0 hb.size
 have HB1:=Lib.hid (aH HB0.out hb)
 clear hb
 go_wp2_with fail
 refine(HKK.out _ HB1.out).mono ?_
 rintro e w2 ⟨rfl,hb⟩
 obtain⟨dd2,ff2⟩:=aW hb
 have hl2:=Nat.lt_of_lt_of_le hl1 hb.size
 have HB2:=Lib.hid (aH HB1.out hb)
 clear hb
 go_wp2_with fail
 refine(WV.out _ HB2.out).mono ?_
 rintro e w3 ⟨rfl,hb⟩
 obtain⟨dd3,ff3⟩:=aW hb
 have hl3:=Nat.lt_of_lt_of_le hl2 hb.size
 have HB3:=Lib.hid (aH HB2.out hb)
 clear hb
 go_wp2_with fail
 have HC3:=Lib.hid (show ∀i,w3.cell? ⟨w.heap.size,i,none⟩=(#[.slice oh c.heaps.length ch,.slice ok c.aC.length ck,.slice ot c.au.length ct]:Array Value)[i]? from fun i=>(dd3 _ _ hl2).trans ((dd2 _ _ hl1).trans ((dd _ _ m0).trans (d0 i))))
 clear d0 f0 m0 dd ff dd2 ff2 dd3 ff3 hl1 hl2 hl3
 go_loopw [5,57] (fun m i wr=> ∃k:Nat,k<=c.heaps.length/\i= .int .i64 k/\m= .int .i64 (oz c.heaps k)/\Below w.heap.size w wr) (fun _ i _=>c.heaps.length-(intOf i).toNat)
 case atStart=>exact⟨0,Nat.zero_le _,rfl,rfl,HB3.out⟩
 case round=>
  obtain⟨k,hk,rfl,rfl,hB⟩:=hrel
  have hv:=HHP.out wr hB
  by_cases hlt:k<c.heaps.length
  ·obtain⟨b,off,hoo,hb,hc0,hc1⟩:=bn.cell hv hlt
   cases hoo
   have hr:=iM.out _ (List.getElem_mem hlt)
   have hs:=Ad c.heaps k hlt
   have hbd:=IY c.heaps (fun r hr=>(iM.out r hr).2.2.2.1) k
   generalize c.heaps[k]=r at hc0 hc1 hr hs
   obtain⟨hr1,hr2,hr3,hr4,EF⟩:=hr
   unfold mr at hs
   generalize oz c.heaps k=cc at hs hbd
   obtain⟨hb1,hb2⟩:=hbd
   have HS:=Lib.hid hs
   have HB:=Lib.hid hB
   clear hs hv hB
   have hmul:0<=cc*df r/\cc*df r<=2001*101:=⟨Int.mul_nonneg (by omega) (by omega),Int.mul_le_mul hb2 EF (by omega) (by omega)⟩
   obtain⟨hm1,hm2⟩:=hmul
   go_wp2_with fail
   refine(CQ r _ hr1 hr2 (by omega)).mono ?_
   rintro e w4 ⟨rfl,hb3⟩
   obtain⟨hc,hf⟩:=aW hb3
   go_wp2_with fail
   refine(GZ (cc*df r) 2001 _ _ _ ?_ ?_).mono ?_
   ·go_simp
   ·go_simp
   rintro e w5 ⟨rfl,hb4⟩
   go_wp2_with fail
   go_roundw
   case rel=>exact⟨k+1,by omega,by go_num,by rw[HS.out],aH (af (aH (af HB.out _) hb3) _) hb4⟩
   case measure=>simp[intOf];omega
  ·have hkl:k=c.heaps.length:=by omega
   have hend:=Dh c.heaps (fun r hr=>(iM.out r hr).2.2.2.1)
   have hr:=yL.out
   rw[<-hkl] at hend
   generalize oz c.heaps k=cc at hend
   clear hv
   by_cases hc:2000<cc
   ·rw[if_pos (hend.1 hc)] at hr
    have HRR:=Lib.hid hr
    clear hr hend
    go_wp2_with fail
    go_returns
    exact⟨by rw[HRR.out];simp,hB⟩
   ·rw[if_neg (fun x=>hc (hend.2 x))] at hr
    have HRR:=Lib.hid hr
    clear hr hend
    go_wp2_with fail
    go_returns
    exact⟨by rw[HRR.out];simp,hB⟩
end
theorem zL (c:aQ) (hv jO tv:Value) (es:List KE) (w:World) (hc:lZ w hv jO tv es c):Calls Tryz.prog 96 #[kv hv jO tv] w (PV (iv (kV c)) w):=by
 obtain⟨oh,ch,rfl⟩:=hc.heaps.open
 obtain⟨ok,ck,rfl⟩:=hc.aC.open
 obtain⟨ot,ct,rfl⟩:=hc.au.open
 rw[hc.len] at hc⊢
 unfold kV
 by_cases hl:3<c.heaps.length∨3<c.aC.length∨5<c.au.length
 ·rw[if_pos hl];exact Sz c oh ok ot ch ck ct w hl
 rw[if_neg hl]
 by_cases h4:c.heaps.length=0
 ·rw[if_pos (.inl h4)]
  exact OI c oh ok ot ch ck ct w (by omega) (by omega) (by omega) (by simpa using h4)
 ·refine OH c oh ok ot ch ck ct w es hc (by omega) (by omega) (by omega) (by simpa using h4) _ ?_
  simp only[h4,false_or]
end Go.Proofs.YtabpkkbiioihaaaGreatDoor.xH
end
section
namespace Go.Proofs.YtabpkkbiioihaaaGreatDoor.xH
open Go.RowKit Go.RG Go.SL Go.Shelf gZ Go.TB
attribute [local go_sem] Oper.semAt_some
theorem NY (r:bK):(nz r).Pairwise (· ≠ ·):=by
 unfold nz
 rw[List.pairwise_map]
 exact List.nodup_range.imp (fun h e=>h (by omega))
theorem Rk: ∀(rs:List bK),(dC rs).Pairwise (· ≠ ·):=by
 intro rs
 induction rs with
 |nil=>simp[dC]
 |cons r rs ih=>
  refine Be _ _ _ (fun x _=>?_) ?_
  ·rw[List.pairwise_map]
   exact ih.imp (fun h e=>h (List.cons.inj e).2)
  ·refine(NY r).imp (fun {a b} h u hu v hv e=>?_)
   obtain⟨s,_,rfl⟩:=List.mem_map.1 hu
   obtain⟨t,_,rfl⟩:=List.mem_map.1 hv
   exact h (List.cons.inj e).1
theorem JC (c:aQ) (out:List Int):(bD c out).Pairwise (· ≠ ·):=(Rk c.heaps).filter _
theorem Rw {a b:List Int} (h:a.length=b.length) (e:iI a=iI b):a=b:=by
 unfold iI at e
 exact(List.append_inj e h).1
theorem aao:fD Tryz.prog 253 259 (.agg #[iv 0,iv 0,iv 0]) 3 24:=⟨Tryz.underlying253,by kernel_rfl,rfl,by omega⟩
structure Jl (B:Nat) (hv jO tv:Value) (ls:List (List Int)) (Ms:List Nat) (W:World):Prop where
 work: ∃v,W.heap[B]? =some (.cells #[hv,jO,tv,v] 255 (0,0))/\W.ownsRow (B+6) 259 3 v ls.length (ls.flatMap intCells)/\ ∀g,v.ownBlock=some g->g∉Ms/\g<W.heap.size
 ptr:W.heap[B+1]? =some (.cells #[.pointer (some ⟨B,0,none⟩)] 219 (0,0))
 b2:W.heap[B+2]? =some (.cells #[hv,jO,tv] 44 (0,0))
 b3:W.heap[B+3]? =some (.cells #[.slice none 0 0] 36 (0,0))
theorem Jl.kept {B:Nat} {hv jO tv:Value} {ls:List (List Int)} {Ms Ms':List Nat} {W W':World} (h:Jl B hv jO tv ls Ms W) (hs:W.heap.size<=W'.heap.size) (hk: ∀b,B<=b->b<B+4->W'.heap[b]? =W.heap[b]?)
 (ho: ∀g,B+6<=g->g<W.heap.size->g∉Ms->W'.heap[g]? =W.heap[g]?) (hM: ∀m∈Ms',m∈Ms∨(W.heap.size<=m/\m<W'.heap.size)):Jl B hv jO tv ls Ms' W':=by
 obtain⟨v,h1,h2,h3⟩:=h.work
 refine⟨⟨v,(hk _ (by omega) (by omega)).trans h1,cZ h2 fun g hg=>ho g (aZ h2 g hg).1 (aZ h2 g hg).2 (h3 g hg).1,fun g hg=>⟨fun hm=>?_,by have:=(h3 g hg).2;omega⟩⟩,
  (hk _ (by omega) (by omega)).trans h.ptr,(hk _ (by omega) (by omega)).trans h.b2,(hk _ (by omega) (by omega)).trans h.b3⟩
 rcases hM g hm with h4|h4
 ·exact(h3 g hg).1 h4
 ·have:=(h3 g hg).2;omega
structure LX (W:World) (wb:Nat) (hv jO tv v:Value) (ls:List (List Int)):Prop where
 cells:W.heap[wb]? =some (.cells #[hv,jO,tv,v] 255 (0,0))
 truth:aB 3 W v ls.length (ls.flatMap intCells)
theorem LX.lt {W:World} {wb:Nat} {hv jO tv v:Value} {ls:List (List Int)} (h:LX W wb hv jO tv v ls):wb<W.heap.size:=(Array.getElem?_eq_some_iff.1 h.cells).1
theorem LX.below {W W':World} {wb:Nat} {hv jO tv v:Value} {ls:List (List Int)} (h:LX W wb hv jO tv v ls) {B:Nat} (hb:Below B W W') (hB:W.heap.size<=B):LX W' wb hv jO tv v ls:=
 ⟨(hb.block _ (by have:=h.lt;omega)).trans h.cells,h.truth.below hb hB⟩
def UY (c:aQ) (hv jO tv:Value) (fine:Bool) (w:World) (e:Ending) (w':World):Prop:=
 Below w.heap.size w w'/\((fM c fine≠0/\e= .returned (.tuple #[.pointer none,.int .i64 (fM c fine)]))∨
  (fM c fine=0/\ ∃(wb:Nat) (v:Value),e= .returned (.tuple #[.pointer (some ⟨wb,0,none⟩),.int .i64 0])/\w.heap.size<=wb/\LX w' wb hv jO tv v ((bD c []).map iI)))
theorem KC (c:aQ) (hv jO tv:Value) (es:List KE) (g:Nat) (caps:Array Value) (fine:Bool) (w:World) (hc:lZ w hv jO tv es c) (eg: ∀args w,(callFunc g args).run Tryz.prog w= .ok (.enter g args) w)
 (Hr: ∀W,Below w.heap.size w W->Calls Tryz.prog g caps W (PV (.bool fine) W)):
 Calls Tryz.prog 160 #[kv hv jO tv,.func (.func g) #[] caps] w (UY c hv jO tv fine w):=by
 obtain⟨oh,ch,rfl⟩:=hc.heaps.open
 obtain⟨ok,ck,rfl⟩:=hc.aC.open
 obtain⟨ot,ct,rfl⟩:=hc.au.open
 have hel:=hc.len
 rw[hel] at hc⊢
 have HC':Hid (∀W,Below w.heap.size w W->lZ W (.slice oh c.heaps.length ch) (.slice ok c.aC.length ck) (.slice ot c.au.length ct) es c):=Lib.hid (fun W hb=>hc.below hb (Nat.le_refl _))
 have HF:=Lib.hid Hr
 have HCK:=Lib.hid (fun(W:World) (hb:Below w.heap.size w W)=>zL c (.slice oh c.heaps.length ch) (.slice ok c.aC.length ck) (.slice ot c.au.length ct) es W (hc.below hb (Nat.le_refl _)))
 clear hc Hr hel
 by_cases hf0:kV c=0
 case neg=>
  have HE:Hid (fM c fine=kV c/\fM c fine≠0):=Lib.hid (by unfold fM;rw[if_pos hf0];exact⟨rfl,hf0⟩)
  generalize ZY:kV c=e at*
  clear ZY
  go_enter Tryz.func160,Tryz.ntmps160
  go_wp2_with fail
  refine(HCK.out _ (af (Below.refl _ _) _)).mono ?_
  rintro e w' ⟨rfl,hb⟩
  go_wp2_with fail
  go_returns
  exact⟨zl,.inl ⟨HE.out.2,by rw[HE.out.1];simp⟩⟩
 rw[hf0] at HCK
 have mG:=Lib.hid (BN hf0)
 have Qo:=Lib.hid hf0
 clear hf0
 cases fine
 ·have HE:Hid (fM c false=2):=Lib.hid (by unfold fM;rw[if_neg (by rw[Qo.out];simp),if_pos rfl])
  go_enter Tryz.func160,Tryz.ntmps160
  go_wp2_with fail
  refine(HCK.out _ (af (Below.refl _ _) _)).mono ?_
  rintro e w' ⟨rfl,hb⟩
  have HB1:=Lib.hid (show Below w.heap.size w w' from zl)
  clear hb
  go_wp2_with fail
  refine(HF.out _ HB1.out).mono ?_
  rintro e w2 ⟨rfl,hb⟩
  have HB2:=Lib.hid (aH HB1.out hb)
  clear hb
  go_wp2_with fail
  go_returns
  exact⟨HB2.out,.inl ⟨by rw[HE.out];simp,by rw[HE.out];simp⟩⟩
 have HE:Hid (fM c true=if(bD c []).isEmpty then 11 else 0):=Lib.hid (by unfold fM;rw[if_neg (by rw[Qo.out];simp),if_neg (by simp)])
 refine(callsIn_wide (n:=0)).1 ?_
 refine callsIn_of_wp_marks Tryz.func160 rfl trivial ?_
 simp only[Tryz.ntmps160,List.size_toArray,List.length_cons,List.length_nil,Nat.reduceAdd,Nat.reduceSub,Array.replicate_succ,Array.replicate_zero,List.push_toArray,List.append_toArray,List.nil_append,List.cons_append]
 gi_wp2_with fail
 refine(callsIn_wide.2 (HCK.out _ (af (Below.refl _ _) _))).mono ?_
 rintro e w1 ⟨rfl,hb⟩
 obtain⟨hc1,hf1⟩:=aW hb
 have hz1:w.heap.size<w1.heap.size:=by have:=hb.size;simp at this;omega
 have HB1:=Lib.hid (show Below w.heap.size w w1 from zl)
 clear hb
 gi_wp2_with fail
 refine(callsIn_wide.2 (HF.out _ HB1.out)).mono ?_
 rintro e w2 ⟨rfl,hb⟩
 obtain⟨hc2,hf2⟩:=aW hb
 have hz2:w.heap.size<w2.heap.size:=by have:=hb.size;omega
 have HB2:=Lib.hid (aH HB1.out hb)
 clear hb
 gi_wp2_with fail
 refine(callsIn_wide.2 (GV _ _ _ none 0 0 _)).mono ?_
 rintro e w3 ⟨rfl,rfl⟩
 gi_wp2_with fail
 have hseq:=fun bf bo=>GU c mG.out oh ok ot ch ck ct (.slice none 0 0) es [] bf bo
 obtain⟨hv,hhv⟩: ∃hv,Value.slice oh c.heaps.length ch=hv:=⟨_,rfl⟩
 obtain⟨jO,abj⟩: ∃jO,Value.slice ok c.aC.length ck=jO:=⟨_,rfl⟩
 obtain⟨tv,Xp⟩: ∃tv,Value.slice ot c.au.length ct=tv:=⟨_,rfl⟩
 rw[hhv,abj,Xp] at hseq HC'⊢
 obtain⟨B,kR⟩: ∃B,w2.heap.size=B:=⟨_,rfl⟩
 rw[kR]
 obtain⟨w4,hw4⟩: ∃w4,((((w2.alloc (.cells #[hv,jO,tv,.slice none 0 0] 255)).alloc (.cells #[.pointer (some ⟨B,0,none⟩)] 219)).alloc (.cells #[hv,jO,tv] 44)).alloc (.cells #[.slice none 0 0] 36))=w4:=⟨_,rfl⟩
 have Yw:w4.heap.size=B+4:=by rw[<-hw4];simp;omega
 have hwB:w.heap.size<B:=by omega
 have HB4:Hid (Below w.heap.size w w4):=Lib.hid (by rw[<-hw4];exact af (af (af (af HB2.out _) _) _) _)
 have HA4:Hid (Jl B hv jO tv [] [] w4):=Lib.hid (by
  rw[<-hw4]
  refine⟨⟨.slice none 0 0,?_,⟨rfl,.inl ⟨rfl,rfl⟩⟩,fun g hg=>by cases hg⟩,?_,?_,?_⟩
  ·rw[<-kR];exact(Below.heap_alloc _ _ _ (by simp;omega)).trans ((Below.heap_alloc _ _ _ (by simp;omega)).trans ((Below.heap_alloc _ _ _ (by simp)).trans (ag _ _)))
  ·rw[<-kR];exact(Below.heap_alloc _ _ _ (by simp)).trans ((Below.heap_alloc _ _ _ (by simp)).trans (dL _ _ _))
  ·rw[<-kR];exact(Below.heap_alloc _ _ _ (by simp)).trans (fJ _ _ _ _)
  ·rw[<-kR];exact jq _ _ _ _ _)
 rw[hw4]
 clear hw4 hc1 hf1 hz1 hc2 hf2
 have CV: ∀b,b∈[w.heap.size,B,B+1,B+2,B+3,B+4,B+5]↔b=w.heap.size∨(B<=b/\b<B+6):=fun b=>by simp;omega
 obtain⟨Os,Hw⟩: ∃Os,[w.heap.size,B,B+1,B+2,B+3,B+4,B+5]=Os:=⟨_,rfl⟩
 rw[Hw] at CV
 clear Hw
 refine jT (hseq (B+1+1) (B+1+1+1)) rfl (enters_of Tryz.func255 (by kernel_rfl) rfl) rfl (by simp)
  (fun Ms k W=>Du w Os Ms W/\Jl B hv jO tv (((bD c []).take k).map iI) Ms W)
  (fun _ _ _=>False)
  ?hInv ?pz ?hI ?hIx ?Nl ?uK ?h0
  (fun a Ms k W1 a₁ W=> ∃(x:List Int) (bt:Nat),(bD c [])[k]? =some x/\a₁={tmps:=(a.tmps.setIfInBounds 24 (jk (iI x))).setIfInBounds 8 (.pointer (some ⟨bt,0,none⟩)),defers:=[]}/\
    (Du w Os Ms W/\Jl B hv jO tv (((bD c []).take k).map iI) Ms W)/\(W.heap[bt]? =some (.cells (intCells (iI x)).toArray 259 (0,0))/\B+6<=bt/\bt∉Ms/\(∀v,W.heap[B]? =some (.cells #[hv,jO,tv,v] 255 (0,0))->v.ownBlock≠some bt))/\
    (∀m∈Ms,m∉([]:List Nat)->m<W1.heap.size->W.heap[m]? =W1.heap[m]?)/\W1.heap.size<=W.heap.size)
  ?O4 ?hassign ?hbody ?hdone ?hstop
 case hInv=>
  rintro Ms k W ⟨hF,hP⟩
  exact⟨hP.b2,hP.b3,HC'.out W hF.ext,aB.nil 1 W⟩
 case pz=>rintro cd Ms W h;exact h.elim
 case hI=>
  rintro Ms Ms' k Wa Wb ⟨hF,hP⟩ hE hMs _
  exact⟨(hF.step hE hMs).1,hP.kept hE.size (fun b h1 h2=>(hF.step hE hMs).2 b ((CV b).2 (by omega))) (fun g h1 h2 h3=>hE.block g h2 h3) hMs⟩
 case hIx=>rintro cd Ms Ms' Wa Wb h;exact h.elim
 case Nl=>
  rintro Ms k W r ob ⟨hF,hP⟩ hr
  exact⟨hF.put ob (by omega),hP.kept (by simp) (fun b h1 h2=>World.putObj_heap_other (by omega)) (fun g h1 h2 h3=>World.putObj_heap_other (by omega)) (fun m hm=> .inl hm)⟩
 case uK=>rintro cd Ms W r ob h;exact h.elim
 case h0=>
  intro o1 o2
  refine⟨⟨af (af HB4.out _) _,by simp,by simp,fun b hb=>⟨by simp,by have:=(CV b).1 hb;simp;omega⟩⟩,?_⟩
  rw[List.take_zero]
  exact HA4.out.kept (by simp;omega) (fun b h1 h2=>(Below.heap_alloc _ _ _ (by simp;omega)).trans (Below.heap_alloc _ _ _ (by omega))) (fun g h1 h2 h3=>by omega) (fun m hm=> .inl hm)
 case O4=>
  rintro Ms k W1 a₁ W ob ⟨x,bt,hx,ha,⟨hF,hP⟩,⟨hbt,hb6,hbM,hbv⟩,hk,hs⟩
  have hap:=(hF.apart (B+5) ((CV _).2 (by omega))).1
  refine⟨x,bt,hx,ha,⟨hF.put ob (by omega),hP.kept (by simp) (fun b h1 h2=>World.putObj_heap_other (by omega)) (fun g h1 h2 h3=>World.putObj_heap_other (by omega)) (fun m hm=> .inl hm)⟩,
   ⟨(World.putObj_heap_other (by omega)).trans hbt,hb6,hbM,fun v hv=>hbv v ((World.putObj_heap_other (by omega)).symm.trans hv)⟩,
   fun m hm h0 hml=>(World.putObj_heap_other (fun e=>hap (by rw[show B+5=m by omega];exact hm))).trans (hk m hm h0 hml),by simpa using hs⟩
 case hassign=>
  rintro Ms k v W hk ⟨hF,hP⟩ hE hlt
  obtain rfl:v=jk (iI (bD c [])[k]):=hE
  have hxk:(bD c [])[k]? =some (bD c [])[k]:=List.getElem?_eq_getElem hk
  have hxl:=(nD mG.out (jU _ (List.getElem_mem hk))).1
  generalize (bD c [])[k]=x at*
  have MZ:=mG.out.h3
  obtain⟨y0,y1,y2,hys⟩:=jJ (qV (x:=x) (by omega))
  have hYS:=Lib.hid hys
  rw[hys]
  rw[show jk [y0,y1,y2]= .agg #[iv y0,iv y1,iv y2] from rfl]
  gi_wp2
  have hB':Below W.heap.size W (W.alloc (.cells #[iv y0,iv y1,iv y2] 259)):=af (Below.refl _ _) _
  refine⟨⟨x,W.heap.size,hxk,?_,⟨(hF.step (Ext.of_below hB') (fun m hm=> .inl hm)).1,hP.kept (by simp) (fun b h1 h2=>Below.heap_alloc _ _ _ (by omega)) (fun g h1 h2 h3=>Below.heap_alloc _ _ _ (by omega)) (fun m hm=> .inl hm)⟩,
   ⟨?_,by omega,fun hm=>by have:=hF.bnd _ hm;omega,fun v hv e=>?_⟩,fun m hm h0 hml=>Below.heap_alloc _ _ _ (by omega),by simp⟩,Below.heap_alloc _ _ _ (by omega),Below.heap_alloc _ _ _ (by omega)⟩
  ·rw[hYS.out];rfl
  ·rw[hYS.out];exact ag _ _
  ·obtain⟨v0,h1,h2,h3⟩:=hP.work
   have h4:=(Below.heap_alloc _ _ _ (by omega)).symm.trans hv
   rw[h1] at h4
   simp only[Option.some.injEq,Obj.cells.injEq,and_true,Array.mk.injEq,List.cons.injEq,true_and] at h4
   subst h4
   have:=(h3 _ e).2
   omega
 case hbody=>
  rintro Ms k W1 a₁ W7 busy hk ⟨x,bt,hx,rfl,⟨hF,hP⟩,⟨hbt,hb6,hbM,hbv⟩,hkeep,hsz⟩ hrec hD
  simp only[List.setIfInBounds_toArray,List.set_cons_succ,List.set_cons_zero]
  obtain⟨v,hv1,hv2,hv3⟩:=hP.work
  obtain⟨vo,vc,rfl⟩:=aK hv2
  have TK:=hbv _ hv1
  obtain⟨c1,f1,l1⟩:=cells_of_block hP.ptr
  have hxm:=nD mG.out (jU _ (List.mem_of_getElem? hx))
  have MZ:=mG.out.h3
  obtain⟨ys,Hg⟩: ∃ys,iI x=ys:=⟨_,rfl⟩
  have hyl:ys.length=3:=by rw[<-Hg];exact qV (by omega)
  obtain⟨y0,y1,y2,hys⟩:=jJ hyl
  have zT:=hbt
  rw[Hg,hys] at zT
  have zT:W7.heap[bt]? =some (.cells #[iv y0,iv y1,iv y2] 259 (0,0)):=zT
  obtain⟨c3,f3,l3⟩:=cells_of_block zT
  have hwM:=(hF.apart w.heap.size ((CV _).2 (.inl rfl))).1
  have abb:((bD c []).take (k+1)).map iI=((bD c []).take k).map iI++[ys]:=by
   rw[List.take_add_one,hx];simp[Hg]
  have YN:k<=2000:=by have:=oG mG.out [];omega
  have hlk:(((bD c []).take k).map iI).length=k:=by simp;omega
  have h3s: ∀z∈((bD c []).take k).map iI,z.length=3:=fun z hz=>by
   obtain⟨t,ht,rfl⟩:=List.mem_map.1 hz
   have:=nD mG.out (jU _ (List.mem_of_mem_take ht))
   exact qV (by omega)
  have hne: ∀A z,((bD c []).take k).map iI=A++[z]->(z==ys)=false:=fun A z he=>by
   rw[beq_eq_false_iff_ne]
   rintro rfl
   have hkp:0<k:=by
    cases k with
    |zero=>simp at he
    |succ k=>omega
   have hkj:k-1<(bD c []).length:=by omega
   have h1:(((bD c []).take k).map iI)[k-1]? =some z:=by
    rw[he,List.getElem?_append_right (by have:=congrArg List.length he;simp at this;omega)]
    have:=congrArg List.length he
    rw[hlk,List.length_append,List.length_singleton] at this
    rw[show k-1-A.length=0 from by omega];rfl
   rw[List.getElem?_map,List.getElem?_take_of_lt (by omega),List.getElem?_eq_getElem hkj] at h1
   have h2:iI (bD c [])[k-1]=iI x:=by rw[Hg];exact Option.some.inj h1
   have h3:=nD mG.out (jU _ (List.getElem_mem hkj))
   have h4:=Rw (by rw[h3.1,hxm.1]) h2
   obtain⟨hk',hx'⟩:=List.getElem?_eq_some_iff.1 hx
   exact(List.pairwise_iff_getElem.1 (JC c [])) (k-1) k hkj hk' (by omega) (by rw[h4,hx'])
  replace hlk:(((bD c []).take k).map iI).length<=2000:=by rw[hlk];exact YN
  have su:=Lib.hid hF
  have U5:=Lib.hid hP
  have HV:=Lib.hid (And.intro hv1 (And.intro hv2 hv3))
  have wM:=Lib.hid (And.intro hys hyl)
  have HK:=Lib.hid (And.intro hkeep (And.intro hrec hD))
  have XQ:=Lib.hid zT
  have HBV:=Lib.hid TK
  have acM:=Lib.hid abb
  have H3:=Lib.hid h3s
  have HNE:=Lib.hid hne
  have hap: ∀b∈Os,b∉Ms/\b<W7.heap.size:=hF.apart
  have hin: ∀b,B<=b->b<B+6->b∈Os:=fun b h1 h2=>(CV b).2 (by omega)
  have hw7:w.heap.size<W7.heap.size:=(hap _ ((CV _).2 (.inl rfl))).2
  obtain⟨c2,f2,q2⟩:=cells_of_block hv1
  clear hF hP hv1 hv2 hv3 hx hys Hg hxm hyl hkeep hrec hD hbt zT hbv TK abb h3s hne
  generalize ((bD c []).take (k+1)).map iI=ls' at*
  generalize ((bD c []).take k).map iI=ls at*
  gi_wp2_with fail
  rcases(List.eq_nil_or_concat ls).imp id (fun⟨A,z,e⟩=>(⟨A,z,e.trans (List.concat_eq_append)⟩: ∃A z,ls=A++[z])) with rfl|⟨A,z,rfl⟩
  ·simp only[List.length_nil] at c2 HV HBV
   refine bY 22 [] none [] (by kernel_rfl) (by kernel_rfl) (by kernel_rfl) ?_
   simp only[zt]
   repeat ((first|refine zn ?_|refine zk ?_);simp only[zp])
   intro W hE hF
   obtain⟨hc,hf⟩:=aW hE.below
   have hzE:=hE.size
   (try simp only[World.size_alloc] at hzE)
   have jg:Ext [] W7 W:=hE
   have AQ:Jl B hv jO tv ([]) Ms W:=U5.out.kept jg.size (fun b h1 h2=>jg.block b (by have:=(hap b (hin b h1 (by omega))).2;omega) (by simp)) (fun g h1 h2 h3=>jg.block g h2 (by simp)) (fun m hm=> .inl hm)
   have zS:=(jg.block _ (Array.getElem?_eq_some_iff.1 XQ.out).1 (by simp)).trans XQ.out
   obtain⟨v8,nI,nH,uF⟩:=AQ.work
   have zM:v8= .slice (vo) (0) vc:=by
    have h4:=(jg.block _ q2 (by simp)).trans HV.out.1
    rw[nI] at h4
    simp only[Option.some.injEq,Obj.cells.injEq,and_true,Array.mk.injEq,List.cons.injEq,true_and] at h4
    exact h4
   rw[zM] at nI nH uF
   clear zM
   (try simp only[List.length_nil] at nH)
   (try simp only[List.length_append,List.length_cons,List.length_nil,Nat.zero_add] at nH)
   obtain⟨p1,p2,p3⟩:=cells_of_block (show W.heap[B+1]? =some (.cells #[.pointer (some ⟨B,0,none⟩)] 219 (0,0)) from AQ.ptr)
   obtain⟨p4,p5,p6⟩:=cells_of_block (show W.heap[B]? =some (.cells #[hv,jO,tv,.slice (vo) (0) vc] 255 (0,0)) from nI)
   obtain⟨p7,p8,p9⟩:=cells_of_block zS
   have Yx:=jg.size
   have Dq:=Lib.hid AQ
   have Fp:=Lib.hid (And.intro nI (And.intro nH uF))
   have fV:=Lib.hid jg
   clear hE hF hc hf jg AQ nI nH uF zS c1 f1 l1 c2 f2 q2 c3 f3 l3 hzE
   obtain⟨gx,hgx,VX,hgx2,vU,VW⟩: ∃gx,(∀g,(Value.slice (vo) (0) vc).ownBlock=some g->g=gx)/\(gx=w.heap.size∨B+6<=gx)/\gx<W.heap.size/\gx∉Ms/\gx≠bt:=by
    cases qF:(Value.slice (vo) (0) vc).ownBlock with
    |none=>exact⟨w.heap.size,(fun g hg=>by cases hg),.inl rfl,by omega,hwM,by omega⟩
    |some g=>
     have h1:=aZ Fp.out.2.1 g qF
     have h2:=Fp.out.2.2 g qF
     exact⟨g,(fun g' hg=>by cases hg;rfl),.inr h1.1,h1.2,h2.1,fun e=>HBV.out (by rw[qF,e])⟩
   have HG:=Lib.hid hgx
   clear hgx
   have z1:gx≠B:=by omega
   have z2:gx≠B+1:=by omega
   have z1':B≠gx:=by omega
   have z2':B+1≠gx:=by omega
   have z3':bt≠gx:=by omega
   gi_wp2_with fail
   refine bY 8 [gx] (some 7) [(6,Spec.slice W.heap.size #[iv y0,iv y1,iv y2] 259 1),(7,⟨fun _ v=> ∃o c,v= .slice o (0+1) c,fun _ v Wx=>Wx.ownsRow (B+6) 259 3 v (0+1) ((([])++[ys]).flatMap intCells)/\(∀g,v.ownBlock=some g->g=gx∨W.heap.size<=g)⟩)] (by kernel_rfl) (by kernel_rfl) (by kernel_rfl) ?_
   simp only[zt]
   repeat ((first|refine zn ?_|refine zk ?_);simp only[zp])
   refine bZ W.heap.size _ _ 1 (by rfl) (Nat.le_refl _) (by rfl) (by simpa using hgx2) (by simp) (fun W hW=>by go_simp;try rfl) (fun b6=>?_)
   simp only[zp]
   refine aP _ (by rfl) (by rfl) (by exact⟨.slice none (0+1) 0,none,0,rfl⟩) (fun Wa hE hF=>?_) (fun v Wa Wb ho hE=>?_) (fun v hv=>?_)
   ·have hE':Ext [] W Wa:=hE
    obtain⟨b',hb',hge,hcc⟩:=hF _ (List.Mem.head _) (by kernel_rfl)
    cases hb'
    have hown6:=ah (Ms:=[]) Fp.out.2.1 hE' (by simp)
    have hsrc:aB 3 Wa (.slice (some ⟨b6,0,none⟩) 1 1) 1 (intCells ys):=by
     rw[wM.out.1]
     exact aB.of_block 3 1 hcc rfl (by decide)
    refine Does.mono (bP aao (by rfl) (by rfl) hown6 (by rfl) hsrc (iT _) (by omega) (by omega) (by have:=hE'.size;omega)) ?_
    rintro v' Wc ⟨ho,hgr,hcase⟩
    refine⟨aK ho,⟨?_,fun g hg=>?_⟩,⟨hgr.os,hgr.tape,hgr.output,hgr.size,fun b hb hn=>hgr.block b hb (fun e=>hn (by rw[HG.out b e.symm];simp))⟩⟩
    ·rw[List.flatMap_append]
     simpa using ho
    ·rcases hcase with h1|h1
     ·exact .inl (HG.out g (by rw[<-h1,hg]))
     ·rw[hg] at h1;injection h1 with h1;exact .inr (by have:=hE'.size;omega)
   ·exact⟨ah (Ms:=[]) ho.1 hE (by simp),ho.2⟩
   obtain⟨o7,c7,rfl⟩:=hv
   simp only[zp]
   intro W9 hE hF
   have hE':Ext [gx] W W9:=hE
   obtain⟨Na,KQ⟩:=hF _ (List.Mem.head _)
   have uD:W9.heap[B]? =some (.cells #[hv,jO,tv,.slice (vo) (0) vc] 255 (0,0)):=(hE'.block _ p6 (by simpa using z1')).trans Fp.out.1
   obtain⟨c9,f9,l9⟩:=cells_of_block uD
   have xG:=Lib.hid hE'
   have uU:=Lib.hid (And.intro Na (And.intro KQ uD))
   clear hE hF hE' Na KQ p1 p2 p4 p5 p7 p8 uD
   gi_wp2_with fail
   obtain⟨v',hv'⟩: ∃v',Value.slice o7 (0+1) c7=v':=⟨_,rfl⟩
   rw[hv'] at uU⊢
   have pY:(W9.setCell ⟨B,3,none⟩ v').heap.size=W9.heap.size:=by simp[World.setCell]
   have hs9:=xG.out.size
   have hks: ∀b,b<W.heap.size->b≠gx->b≠B->(W9.setCell ⟨B,3,none⟩ v').heap[b]? =W.heap[b]? :=fun b hb h1 h2=>
    (Below.heap_setCell _ _ _ _ h2).trans (xG.out.block b hb (by simpa using h1))
   have vT: ∀b,b<W7.heap.size->b≠gx->b≠B->(W9.setCell ⟨B,3,none⟩ v').heap[b]? =W7.heap[b]? :=fun b hb h1 h2=>(hks b (by omega) h1 h2).trans (fV.out.block b hb (by simp))
   have V8:Du w Os Ms (W9.setCell ⟨B,3,none⟩ v'):=su.out.own (su.out.ext.trans ⟨xG.out.os.trans fV.out.os,xG.out.tape.trans fV.out.tape,xG.out.output.trans fV.out.output,by rw[pY];omega,fun b hb=>(Below.heap_setCell _ _ _ _ (by show b≠B;omega)).trans ((xG.out.block b (by have:=su.out.ext.size;omega) (by simp;omega)).trans (fV.out.block b (by have:=su.out.ext.size;omega) (by simp)))⟩) (by rw[pY];omega)
   have hlen1:(([])++[ys]).length=0+1:=by simp
   refine⟨⟨?_,?_,fun m hm h0 hml=>?_,by rw[pY];omega⟩,V8,?_⟩
   ·exact(vT _ (by have:=(hap _ (hin (w4.heap.size+1) (by omega) (by omega))).2;omega) (by omega) (by omega)).trans HK.out.2.1
   ·exact(vT _ (by have:=(hap _ (hin w4.heap.size (by omega) (by omega))).2;omega) (by omega) (by omega)).trans HK.out.2.2
   ·exact(vT m (su.out.bnd m hm) (fun e=>vU (e▸hm)) (fun e=>(hap B (hin _ (by omega) (by omega))).1 (e▸hm))).trans (HK.out.1 m hm h0 hml)
   rw[acM.out]
   refine⟨⟨v',ak uU.out.2.2 _,hlen1.symm▸cZ uU.out.1 fun g hg=>Below.heap_setCell _ _ _ _ (by have:=(aZ uU.out.1 g hg).1;show g≠B;omega),fun g hg=>⟨fun hm=>?_,by rw[pY];exact(aZ uU.out.1 g hg).2⟩⟩,?_,?_,?_⟩
   ·rcases uU.out.2.1 g hg with h1|h1
    ·exact vU (h1▸hm)
    ·have:=su.out.bnd g hm;omega
   ·exact(hks _ (by have:=(hap _ (hin (B+1) (by omega) (by omega))).2;omega) (by omega) (by omega)).trans Dq.out.ptr
   ·exact(hks _ (by have:=(hap _ (hin (B+2) (by omega) (by omega))).2;omega) (by omega) (by omega)).trans Dq.out.b2
   ·exact(hks _ (by have:=(hap _ (hin (B+3) (by omega) (by omega))).2;omega) (by omega) (by omega)).trans Dq.out.b3
  ·have hz3:=H3.out z (by simp)
   obtain⟨gb,gc,hvv,hgb,KP,EE⟩:=wY (A:=A) (z:=z) (by simpa using HV.out.2.1) (fun x hx=>H3.out x (by simp[hx])) hz3
   have hcap:vo=some ⟨gb,0,none⟩:=by simp at hvv;exact hvv.1
   subst hcap
   have hzl:(intCells z).length=3:=by simp[intCells,hz3]
   (try simp only[List.length_append,List.length_cons,List.length_nil,Nat.zero_add] at c2)
   (try simp only[List.length_append,List.length_cons,List.length_nil,Nat.zero_add] at HV)
   (try simp only[List.length_append,List.length_cons,List.length_nil,Nat.zero_add] at HBV)
   (try simp only[List.length_append,List.length_cons,List.length_nil,Nat.zero_add] at hlk)
   have hAI:((A.length:Int)+1==0)=false:=by simp;omega
   have hA0: ¬((A.length:Int)+1=0):=by omega
   have hA1:((A.length:Int)+1).toNat=A.length+1:=by omega
   have hAm:(A.length:Int)+1-1=A.length:=by omega
   have hy3:ys.length=3:=wM.out.2
   have hq:=HNE.out A z rfl
   refine bY 22 [] none [] (by kernel_rfl) (by kernel_rfl) (by kernel_rfl) ?_
   simp only[zt]
   repeat ((first|refine zn ?_|refine zk ?_);simp only[zp])
   refine dS (by rfl) (.pointer (some ⟨gb,A.length*3,none⟩)) (by rfl) (fun W hW=>by go_simp;(try simp(disch:=omega) only[IntWalk.i64_in]);(try rw[if_pos (by omega)]);(try simp);(try (intro hx;exfalso;omega))) ?_
   simp only[zp]
   refine dS (by rfl) (.agg (intCells z).toArray) (by rfl) (fun W hW=>iJ 259 _ (by rfl) gb (A.length*3) (by rfl) (intCells z) _ (fun j u hj=>(hW gb _ KP (by simp)).trans (EE j u hj)) Tryz.underlying259 rfl (by rw[hzl];kernel_rfl)) ?_
   simp only[zp]
   refine dS (by rfl) (.agg #[iv y0,iv y1,iv y2]) (by rfl) (fun W hW=>by go_simp;try rfl) ?_
   simp only[zp]
   refine dS (by rfl) (.bool true) (by rfl) (fun W hW=>(jL 259 3 _ 3 _ _ (by rfl) Tryz.underlying259 Tryz.underlying3 (by intro w;go_simp) (by kernel_rfl) z [y0,y1,y2] (by rfl) (by rfl) hz3 (by rfl)).trans (by rw[wM.out.1] at hq;rw[hq];rfl)) ?_
   simp only[zp]
   repeat ((first|refine zn ?_|refine zk ?_);simp only[zp])
   intro W hE hF
   obtain⟨hc,hf⟩:=aW hE.below
   have hzE:=hE.size
   (try simp only[World.size_alloc] at hzE)
   have jg:Ext [] W7 W:=hE
   have AQ:Jl B hv jO tv (A++[z]) Ms W:=U5.out.kept jg.size (fun b h1 h2=>jg.block b (by have:=(hap b (hin b h1 (by omega))).2;omega) (by simp)) (fun g h1 h2 h3=>jg.block g h2 (by simp)) (fun m hm=> .inl hm)
   have zS:=(jg.block _ (Array.getElem?_eq_some_iff.1 XQ.out).1 (by simp)).trans XQ.out
   obtain⟨v8,nI,nH,uF⟩:=AQ.work
   have zM:v8= .slice ((some ⟨gb,0,none⟩)) ((A.length+1)) vc:=by
    have h4:=(jg.block _ q2 (by simp)).trans HV.out.1
    rw[nI] at h4
    simp only[Option.some.injEq,Obj.cells.injEq,and_true,Array.mk.injEq,List.cons.injEq,true_and] at h4
    exact h4
   rw[zM] at nI nH uF
   clear zM
   (try simp only[List.length_nil] at nH)
   (try simp only[List.length_append,List.length_cons,List.length_nil,Nat.zero_add] at nH)
   obtain⟨p1,p2,p3⟩:=cells_of_block (show W.heap[B+1]? =some (.cells #[.pointer (some ⟨B,0,none⟩)] 219 (0,0)) from AQ.ptr)
   obtain⟨p4,p5,p6⟩:=cells_of_block (show W.heap[B]? =some (.cells #[hv,jO,tv,.slice ((some ⟨gb,0,none⟩)) ((A.length+1)) vc] 255 (0,0)) from nI)
   obtain⟨p7,p8,p9⟩:=cells_of_block zS
   have Yx:=jg.size
   have Dq:=Lib.hid AQ
   have Fp:=Lib.hid (And.intro nI (And.intro nH uF))
   have fV:=Lib.hid jg
   clear hE hF hc hf jg AQ nI nH uF zS c1 f1 l1 c2 f2 q2 c3 f3 l3 hzE
   obtain⟨gx,hgx,VX,hgx2,vU,VW⟩: ∃gx,(∀g,(Value.slice ((some ⟨gb,0,none⟩)) ((A.length+1)) vc).ownBlock=some g->g=gx)/\(gx=w.heap.size∨B+6<=gx)/\gx<W.heap.size/\gx∉Ms/\gx≠bt:=by
    cases qF:(Value.slice ((some ⟨gb,0,none⟩)) ((A.length+1)) vc).ownBlock with
    |none=>exact⟨w.heap.size,(fun g hg=>by cases hg),.inl rfl,by omega,hwM,by omega⟩
    |some g=>
     have h1:=aZ Fp.out.2.1 g qF
     have h2:=Fp.out.2.2 g qF
     exact⟨g,(fun g' hg=>by cases hg;rfl),.inr h1.1,h1.2,h2.1,fun e=>HBV.out (by rw[qF,e])⟩
   have HG:=Lib.hid hgx
   clear hgx
   have z1:gx≠B:=by omega
   have z2:gx≠B+1:=by omega
   have z1':B≠gx:=by omega
   have z2':B+1≠gx:=by omega
   have z3':bt≠gx:=by omega
   gi_wp2_with fail
   refine bY 8 [gx] (some 7) [(6,Spec.slice W.heap.size #[iv y0,iv y1,iv y2] 259 1),(7,⟨fun _ v=> ∃o c,v= .slice o ((A.length+1)+1) c,fun _ v Wx=>Wx.ownsRow (B+6) 259 3 v ((A.length+1)+1) (((A++[z])++[ys]).flatMap intCells)/\(∀g,v.ownBlock=some g->g=gx∨W.heap.size<=g)⟩)] (by kernel_rfl) (by kernel_rfl) (by kernel_rfl) ?_
   simp only[zt]
   repeat ((first|refine zn ?_|refine zk ?_);simp only[zp])
   refine bZ W.heap.size _ _ 1 (by rfl) (Nat.le_refl _) (by rfl) (by simpa using hgx2) (by simp) (fun W hW=>by go_simp;try rfl) (fun b6=>?_)
   simp only[zp]
   refine aP _ (by rfl) (by rfl) (by exact⟨.slice none ((A.length+1)+1) 0,none,0,rfl⟩) (fun Wa hE hF=>?_) (fun v Wa Wb ho hE=>?_) (fun v hv=>?_)
   ·have hE':Ext [] W Wa:=hE
    obtain⟨b',hb',hge,hcc⟩:=hF _ (List.Mem.head _) (by kernel_rfl)
    cases hb'
    have hown6:=ah (Ms:=[]) Fp.out.2.1 hE' (by simp)
    have hsrc:aB 3 Wa (.slice (some ⟨b6,0,none⟩) 1 1) 1 (intCells ys):=by
     rw[wM.out.1]
     exact aB.of_block 3 1 hcc rfl (by decide)
    refine Does.mono (bP aao (by rfl) (by rfl) hown6 (by rfl) hsrc (iT _) (by omega) (by omega) (by have:=hE'.size;omega)) ?_
    rintro v' Wc ⟨ho,hgr,hcase⟩
    refine⟨aK ho,⟨?_,fun g hg=>?_⟩,⟨hgr.os,hgr.tape,hgr.output,hgr.size,fun b hb hn=>hgr.block b hb (fun e=>hn (by rw[HG.out b e.symm];simp))⟩⟩
    ·rw[List.flatMap_append]
     simpa using ho
    ·rcases hcase with h1|h1
     ·exact .inl (HG.out g (by rw[<-h1,hg]))
     ·rw[hg] at h1;injection h1 with h1;exact .inr (by have:=hE'.size;omega)
   ·exact⟨ah (Ms:=[]) ho.1 hE (by simp),ho.2⟩
   obtain⟨o7,c7,rfl⟩:=hv
   simp only[zp]
   intro W9 hE hF
   have hE':Ext [gx] W W9:=hE
   obtain⟨Na,KQ⟩:=hF _ (List.Mem.head _)
   have uD:W9.heap[B]? =some (.cells #[hv,jO,tv,.slice ((some ⟨gb,0,none⟩)) ((A.length+1)) vc] 255 (0,0)):=(hE'.block _ p6 (by simpa using z1')).trans Fp.out.1
   obtain⟨c9,f9,l9⟩:=cells_of_block uD
   have xG:=Lib.hid hE'
   have uU:=Lib.hid (And.intro Na (And.intro KQ uD))
   clear hE hF hE' Na KQ p1 p2 p4 p5 p7 p8 uD
   gi_wp2_with fail
   obtain⟨v',hv'⟩: ∃v',Value.slice o7 ((A.length+1)+1) c7=v':=⟨_,rfl⟩
   rw[hv'] at uU⊢
   have pY:(W9.setCell ⟨B,3,none⟩ v').heap.size=W9.heap.size:=by simp[World.setCell]
   have hs9:=xG.out.size
   have hks: ∀b,b<W.heap.size->b≠gx->b≠B->(W9.setCell ⟨B,3,none⟩ v').heap[b]? =W.heap[b]? :=fun b hb h1 h2=>
    (Below.heap_setCell _ _ _ _ h2).trans (xG.out.block b hb (by simpa using h1))
   have vT: ∀b,b<W7.heap.size->b≠gx->b≠B->(W9.setCell ⟨B,3,none⟩ v').heap[b]? =W7.heap[b]? :=fun b hb h1 h2=>(hks b (by omega) h1 h2).trans (fV.out.block b hb (by simp))
   have V8:Du w Os Ms (W9.setCell ⟨B,3,none⟩ v'):=su.out.own (su.out.ext.trans ⟨xG.out.os.trans fV.out.os,xG.out.tape.trans fV.out.tape,xG.out.output.trans fV.out.output,by rw[pY];omega,fun b hb=>(Below.heap_setCell _ _ _ _ (by show b≠B;omega)).trans ((xG.out.block b (by have:=su.out.ext.size;omega) (by simp;omega)).trans (fV.out.block b (by have:=su.out.ext.size;omega) (by simp)))⟩) (by rw[pY];omega)
   have hlen1:((A++[z])++[ys]).length=(A.length+1)+1:=by simp
   refine⟨⟨?_,?_,fun m hm h0 hml=>?_,by rw[pY];omega⟩,V8,?_⟩
   ·exact(vT _ (by have:=(hap _ (hin (w4.heap.size+1) (by omega) (by omega))).2;omega) (by omega) (by omega)).trans HK.out.2.1
   ·exact(vT _ (by have:=(hap _ (hin w4.heap.size (by omega) (by omega))).2;omega) (by omega) (by omega)).trans HK.out.2.2
   ·exact(vT m (su.out.bnd m hm) (fun e=>vU (e▸hm)) (fun e=>(hap B (hin _ (by omega) (by omega))).1 (e▸hm))).trans (HK.out.1 m hm h0 hml)
   rw[acM.out]
   refine⟨⟨v',ak uU.out.2.2 _,hlen1.symm▸cZ uU.out.1 fun g hg=>Below.heap_setCell _ _ _ _ (by have:=(aZ uU.out.1 g hg).1;show g≠B;omega),fun g hg=>⟨fun hm=>?_,by rw[pY];exact(aZ uU.out.1 g hg).2⟩⟩,?_,?_,?_⟩
   ·rcases uU.out.2.1 g hg with h1|h1
    ·exact vU (h1▸hm)
    ·have:=su.out.bnd g hm;omega
   ·exact(hks _ (by have:=(hap _ (hin (B+1) (by omega) (by omega))).2;omega) (by omega) (by omega)).trans Dq.out.ptr
   ·exact(hks _ (by have:=(hap _ (hin (B+2) (by omega) (by omega))).2;omega) (by omega) (by omega)).trans Dq.out.b2
   ·exact(hks _ (by have:=(hap _ (hin (B+3) (by omega) (by omega))).2;omega) (by omega) (by omega)).trans Dq.out.b3
 case hdone=>
  rintro Ms W ⟨hF,hP⟩ hD hlt
  rw[List.take_length] at hP
  obtain⟨v,hv1,hv2,hv3⟩:=hP.work
  obtain⟨vo,vc,rfl⟩:=aK hv2
  obtain⟨c1,f1,l1⟩:=cells_of_block hP.ptr
  obtain⟨c2,f2,l2⟩:=cells_of_block hv1
  have Dt:=Lib.hid hF
  have HV:=Lib.hid (And.intro hv1 hv2)
  have hcnt:((bD c []).map iI).length<=2000:=by rw[List.length_map];exact oG mG.out []
  have hemp:((bD c []).isEmpty=true)↔((bD c []).map iI).length=0:=by simp
  have HEM:=Lib.hid hemp
  clear hF hP hv1 hv2 hv3 hemp
  generalize hls:(bD c []).map iI=ls at*
  have Jh:=Lib.hid hls
  clear hls
  by_cases hn:ls.length=0
  ·have hn':(((ls.length:Nat):Int)==0)=true:=by simpa using hn
   have UR:Hid (fM c true=11):=Lib.hid (by rw[HE.out,if_pos (HEM.out.2 hn)])
   clear hn
   gi_wp2_with fail
   refine⟨by simp,.inl ⟨_,_,rfl,run_takeDeferred hD,?_⟩⟩
   exact⟨.tuple #[.pointer none,.int .i64 11],by simp[results,Tryz.results160,go_sem],(Dt.out.put (Obj.deferred none) (by omega)).ext,.inl ⟨by rw[UR.out];simp,by rw[UR.out]⟩⟩
  ·have hn':(((ls.length:Nat):Int)==0)=false:=by simpa using hn
   have ZL:Hid (fM c true=0):=Lib.hid (by rw[HE.out,if_neg (fun h=>hn (HEM.out.1 h))])
   clear hn
   gi_wp2_with fail
   refine⟨by simp,.inl ⟨_,_,rfl,run_takeDeferred hD,?_⟩⟩
   refine⟨.tuple #[.pointer (some ⟨B,0,none⟩),.int .i64 0],by simp[results,Tryz.results160,go_sem],(Dt.out.put (Obj.deferred none) (by omega)).ext,.inr ⟨ZL.out,B,.slice vo ls.length vc,rfl,by omega,?_⟩⟩
   rw[hhv,abj,Xp,Jh.out]
   refine⟨?_,?_⟩
   ·exact(World.putObj_heap_other (by omega)).trans HV.out.1
   ·exact aB.dn (cZ HV.out.2 fun g hg=>World.putObj_heap_other (by have:=(aZ HV.out.2 g hg).1;omega))
 case hstop=>rintro cd Ms W h;exact h.elim
end Go.Proofs.YtabpkkbiioihaaaGreatDoor.xH
end

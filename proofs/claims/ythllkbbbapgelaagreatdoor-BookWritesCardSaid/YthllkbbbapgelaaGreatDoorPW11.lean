/-
  Texts of this claim, packed by a program: CA CB CC CD CE CG CF CI.
-/
import Derived.WalkKit
import Derived.WalkLawsBesides
import Derived.WalkSpells
import Derived.Outline
import Derived.Handy
import Derived.KernelRfl
import Derived.Lib.Hide
import Derived.Deep.Cut
import Derived.Laws.EntriesVeiled
import Derived.Test.YthllkbbbapgelaaGreatDoorPW5
set_option maxHeartbeats 8000000
set_option maxRecDepth 100000
set_option linter.all false
section
namespace Go.Proofs.YthllkbbbapgelaaGreatDoor.AQ
open jy
abbrev Ji:=Bool×Int×dR
structure bM where
 heaps:List dR
 aU:List (List Int)
 aJ:List Ji
def mO:List Int->Int
 |[]=>0
 |x::l=>x+mO l
def lJ (l:List Int) (k:Nat):Int:=mO (l.take k)
theorem NJ (a b:List Int):mO (a++b)=mO a+mO b:=by
 induction a with
 |nil=>simp[mO]
 |cons x a ih=>simp only[List.cons_append,mO,ih];omega
theorem sN {l:List Int} {k:Nat} (hk:k<l.length):lJ l (k+1)=lJ l k+l[k]:=by
 unfold lJ
 rw[iC hk,NJ]
 simp[mO]
theorem yS (l:List Int):lJ l l.length=mO l:=by unfold lJ;rw[List.take_length]
theorem Fq {m:Int} (_:0<=m): ∀{l:List Int},(∀x∈l,0<=x/\x<=m)->0<=mO l/\mO l<=m*l.length:=by
 intro l
 induction l with
 |nil=>intro _;simp[mO]
 |cons x l ih=>
  intro h
  have h1:=h x (by simp)
  have h2:=ih (fun y hy=>h y (by simp[hy]))
  simp only[mO,List.length_cons]
  rw[show m*((l.length+1:Nat):Int)=m*l.length+m from by rw[Int.natCast_add,Int.mul_add];simp]
  omega
theorem xP {m:Int} (hm:0<=m) {l:List Int} (h: ∀x∈l,0<=x/\x<=m) (k:Nat):0<=lJ l k/\lJ l k<=m*l.length:=by
 have h1:=Fq hm (l:=l.take k) (fun x hx=>h x (kP hx))
 have h2:m*((l.take k).length:Int)<=m*l.length:=Int.mul_le_mul_of_nonneg_left (by have:=List.length_take_le' k l;omega) hm
 unfold lJ
 omega
def sH (c:bM) (l:List Int):Bool:=decide (l.length=c.heaps.length)&&l.all (nS · 0 30)
def vZ (c:bM) (l:List Int):Bool:=sH c l&&decide (0<mO l)
def wJ (c:bM) (t:Ji):Int:=if t.1 then c.aU.length else c.heaps.length
def sJ (c:bM) (t:Ji):Bool:=nS t.2.1 0 (wJ c t-1)&&wz t.2.2 100
def qj (c:bM):Int:=
 if 3<c.heaps.length∨3<c.aU.length∨5<c.aJ.length then 3
 else if c.heaps.length=0∨c.heaps.all (wz · 100)=false∨c.aU.all (vZ c)=false∨c.aJ.all (sJ c)=false then 1
 else if 2000<uw c.heaps then 3 else 0
structure nM (c:bM):Prop where
 h1:1<=c.heaps.length
 h3:c.heaps.length<=3
 c3:c.aU.length<=3
 t5:c.aJ.length<=5
 heaps: ∀r∈c.heaps,wz r 100=true
 aU: ∀l∈c.aU,l.length=c.heaps.length/\(∀x∈l,0<=x/\x<=30)/\0<mO l
 aJ: ∀t∈c.aJ,(0<=t.2.1/\t.2.1<wJ c t)/\wz t.2.2 100=true
 many:uw c.heaps<=2000
theorem Xp {c:bM} {l:List Int}:vZ c l=true↔l.length=c.heaps.length/\(∀x∈l,0<=x/\x<=30)/\0<mO l:=by
 simp only[vZ,sH,nS,eG,eX,ku]
 constructor
 ·rintro⟨⟨h1,h2⟩,h3⟩;exact⟨h1,h2,h3⟩
 ·rintro⟨h1,h2,h3⟩;exact⟨⟨h1,h2⟩,h3⟩
theorem QS {c:bM} {t:Ji}:sJ c t=true↔(0<=t.2.1/\t.2.1<wJ c t)/\wz t.2.2 100=true:=by
 simp only[sJ,nS,eG,eX]
 constructor
 ·rintro⟨⟨h1,h2⟩,h3⟩;exact⟨⟨h1,by omega⟩,h3⟩
 ·rintro⟨⟨h1,h2⟩,h3⟩;exact⟨⟨h1,by omega⟩,h3⟩
theorem JA {c:bM} (hf:qj c=0):nM c:=by
 unfold qj at hf
 split at hf
 ·omega
 ·rename_i a
  split at hf
  ·omega
  ·rename_i b
   split at hf
   ·omega
   ·rename_i d
    simp only[not_or,Bool.not_eq_false,ku] at a b
    obtain⟨a1,a2,a3⟩:=a
    obtain⟨b1,b2,b3,b4⟩:=b
    exact⟨by omega,by omega,by omega,by omega,b2,fun l hl=>Xp.1 (b3 l hl),fun t ht=>QS.1 (b4 t ht),by omega⟩
theorem nM.sz {c:bM} (h:nM c): ∀r∈c.heaps,1<=eu r:=fun r hr=>(yg (h.heaps r hr)).2.2.2.1
theorem nM.rg {c:bM} (h:nM c) {i:Nat} (hi:i<c.heaps.length):0<=c.heaps[i].1/\c.heaps[i].1<=c.heaps[i].2/\c.heaps[i].2<=100:=by
 have:=yg (h.heaps _ (dh hi))
 exact⟨this.1,this.2.1,this.2.2.1⟩
def zF:List Int->List Int->Int
 |w::ws,s::ss=>w*s+zF ws ss
 |_,_=>0
def yF (w s:List Int) (k:Nat):Int:=zF (w.take k) (s.take k)
theorem Xg: ∀(a b:List Int) (x y:Int),a.length=b.length->zF (a++[x]) (b++[y])=zF a b+x*y:=by
 intro a
 induction a with
 |nil=>intro b x y h;obtain rfl:=kG h.symm;simp[zF]
 |cons w a ih=>
  intro b x y h
  cases b with
  |nil=>simp at h
  |cons s b=>
   simp only[List.cons_append,zF,ih b x y (by simpa using h)]
   omega
theorem Td {w s:List Int} {k:Nat} (hw:k<w.length) (hs:k<s.length):yF w s (k+1)=yF w s k+w[k]*s[k]:=by
 unfold yF
 rw[iC hw,iC hs,Xg]
 simp[gU]
 omega
theorem Xf {w s:List Int} (h:w.length=s.length):yF w s w.length=zF w s:=by unfold yF;rw[List.take_length,h,List.take_length]
theorem U0: ∀(w s:List Int),(∀x∈w,0<=x/\x<=30)->(∀x∈s,0<=x/\x<=100)->0<=zF w s/\zF w s<=100*mO w:=by
 intro w
 induction w with
 |nil=>intro s _ _;simp[zF,mO]
 |cons x w ih=>
  intro s hw hs
  have hx:=hw x (by simp)
  have hb:=Fq (m:=30) (by omega) (l:=w) (fun y hy=>hw y (by simp[hy]))
  cases s with
  |nil=>simp only[zF,mO];omega
  |cons y s=>
   have hy:=hs y (by simp)
   have h1:=ih s (fun z hz=>hw z (by simp[hz])) (fun z hz=>hs z (by simp[hz]))
   have h2:0<=x*y:=Int.mul_nonneg hx.1 hy.1
   have h3:x*y<=x*100:=Int.mul_le_mul_of_nonneg_left hy.2 hx.1
   simp only[zF,mO]
   omega
theorem aax {w s:List Int} (hw: ∀x∈w,0<=x/\x<=30) (hs: ∀x∈s,0<=x/\x<=100) (k:Nat):0<=yF w s k/\yF w s k<=3000*w.length:=by
 have h1:=U0 (w.take k) (s.take k) (fun x hx=>hw x (kP hx)) (fun x hx=>hs x (kP hx))
 have h2:=xP (m:=30) (by omega) hw k
 unfold lJ at h2
 unfold yF
 omega
def Em (s w:List Int):Int:=zF w s/mO w
theorem Zn {s w:List Int} (hw: ∀x∈w,0<=x/\x<=30) (hs: ∀x∈s,0<=x/\x<=100) (hp:0<mO w):0<=Em s w/\Em s w<=100:=by
 have h1:=U0 w s hw hs
 unfold Em
 exact⟨Int.ediv_nonneg h1.1 (by omega),Int.ediv_le_of_le_mul hp (by omega)⟩
def II (c:bM) (s:List Int) (thing:Nat):Int:=if thing<c.heaps.length then s.getD thing 0 else Em s (c.aU.getD (thing-c.heaps.length) [])
def zZ (c:bM) (t:Ji):Nat:=(if t.1 then c.heaps.length else 0)+t.2.1.toNat
def Gf (c:bM) (s:List Int) (t:Ji):Bool:=nS (II c s (zZ c t)) t.2.2.1 t.2.2.2
def sW (c:bM) (out:List Int) (s:List Int):Bool:=(List.range c.aJ.length).all fun i=>out.contains (i:Int) ||Gf c s (c.aJ.getD i (false,0,(0,0)))
def uG (c:bM):List (List Int):=fB c.heaps
def dF (c:bM) (out:List Int):List (List Int):=(uG c).filter (sW c out)
def nC (c:bM) (n:Nat):Prop:=n<c.heaps.length+c.aU.length
theorem Vp {c:bM} (h:nM c) {t:Ji} (ht:t∈c.aJ):nC c (zZ c t):=by
 have:=(h.aJ t ht).1
 unfold nC zZ
 unfold wJ at this
 split at this <;>rename_i h1
 ·rw[aF h1];omega
 ·rw[ak h1];omega
theorem tC {c:bM} (h:nM c) {s:List Int} (hs:s∈uG c):s.length=c.heaps.length/\ ∀x∈s,0<=x/\x<=100:=by
 obtain⟨h1,h2⟩:=C9 _ _ hs
 refine⟨h1,fun x hx=>?_⟩
 obtain⟨i,hi,rfl⟩:=mF hx
 have h3:=h2 i (by omega)
 have h4:=h.rg (show i<c.heaps.length by omega)
 rw[gV,dw (by omega),Option.getD_some] at h3
 rw[gV,dw hi,Option.getD_some] at h3
 omega
theorem Zh {c:bM} (h:nM c) {s:List Int} (hl:s.length=c.heaps.length) (hs: ∀x∈s,0<=x/\x<=100) {n:Nat} (hn:nC c n):0<=II c s n/\II c s n<=100:=by
 unfold nC at hn
 unfold II
 split
 ·rename_i h1
  rw[gV,dw (by omega),Option.getD_some]
  exact hs _ (dh _)
 ·rename_i h1
  have hk:n-c.heaps.length<c.aU.length:=by omega
  rw[gV,dw hk,Option.getD_some]
  have:=h.aU _ (dh hk)
  exact Zn this.2.1 hs this.2.2
def zI (c:bM) (out:List Int) (k:Nat):Nat:=(((uG c).take k).filter (sW c out)).length
theorem aaH (c:bM) (out:List Int):zI c out (uG c).length=(dF c out).length:=by
 unfold zI dF
 rw[List.take_length]
theorem acE {c:bM} {out:List Int} {k:Nat} (hk:k<(uG c).length) (hp:sW c out (uG c)[k]=false):zI c out (k+1)=zI c out k:=by
 unfold zI
 rw[iC hk,List.filter_append,dm]
 simp[hp]
theorem aaG {c:bM} {out:List Int} {k:Nat} (hk:k<(uG c).length) (hp:sW c out (uG c)[k]=true):zI c out (k+1)=zI c out k+1:=by
 unfold zI
 rw[iC hk,List.filter_append,dm]
 simp[hp]
theorem QR {c:bM} {out:List Int} {k:Nat} (hk:k<(uG c).length) (hp:sW c out (uG c)[k]=true):
 ∃hc:zI c out k<(dF c out).length,(dF c out)[zI c out k]=(uG c)[k]:=by
 have:=Dp (sW c out) id (uG c) k hk hp
 rw[List.map_id] at this
 obtain⟨hc,hx⟩:=je.1 this
 exact⟨hc,hx⟩
theorem uV {c:bM} (hS:nM c) (out:List Int):(dF c out).length<=2000:=by
 have h1:(dF c out).length<=(uG c).length:=List.length_filter_le _ _
 have h2:=xZ c.heaps hS.sz
 have h3:=hS.many
 unfold uG at h1
 omega
def kM (x:List Int):List Int:=x++List.replicate (3-x.length) 0
theorem yf {x:List Int} (h:x.length<=3):(kM x).length=3:=by simp[kM];omega
theorem Oe (x:List Int) (i:Nat):(kM x).getD i 0=x.getD i 0:=by
 unfold kM
 by_cases h:i<x.length
 ·rw[List.getD_eq_getElem?_getD,ve h, <-List.getD_eq_getElem?_getD]
 ·rw[List.getD_eq_getElem?_getD,oG (by omega),List.getElem?_replicate]
  have:x.getD i 0=0:=by rw[List.getD_eq_getElem?_getD,List.getElem?_eq_none (by omega)];rfl
  rw[this]
  split <;>rfl
def jb (c:bM) (fine:Bool):Int:=if qj c≠0 then qj c else if fine=false then 2 else if(dF c []).isEmpty then 11 else 0
theorem Il {c:bM} {b:Bool} (h:jb c b=0):nM c/\0<(dF c []).length/\b=true:=by
 unfold jb at h
 split at h
 ·omega
 ·rename_i hf
  have hf':qj c=0:=by omega
  split at h
  ·omega
  ·rename_i hb
   split at h
   ·omega
   ·rename_i he
    refine⟨JA hf',?_,by simpa using hb⟩
    cases ht:dF c [] with
    |nil=>rw[ht] at he;exact absurd rfl he
    |cons x l=>simp
def Ac (c:bM) (ls:List (List Int)) (i:Nat) (k:Nat):dR:=(ls.take k).foldl (fun r s=>wid r (II c s i)) (II c (ls.getD 0 []) i,II c (ls.getD 0 []) i)
theorem JG {c:bM} {ls:List (List Int)} {i:Nat} {k:Nat} (hk:k<ls.length):Ac c ls i (k+1)=wid (Ac c ls i k) (II c ls[k] i):=by
 unfold Ac
 rw[iC hk,List.foldl_append]
 rfl
def A7 (c:bM) (i:Nat):dR:=Ac c (dF c []) i (dF c []).length
def tV (c:bM):List dR:=(List.range c.heaps.length).map (A7 c)
def jB (c:bM):List dR:=(List.range c.aU.length).map fun i=>A7 c (c.heaps.length+i)
theorem Uy {c:bM} (hS:nM c) {ls:List (List Int)} (hl: ∀s∈ls,s∈uG c) (h0:0<ls.length) {i:Nat} (hi:nC c i):
 ∀k,k<=ls.length->(0<=(Ac c ls i k).1/\(Ac c ls i k).1<=100)/\(0<=(Ac c ls i k).2/\(Ac c ls i k).2<=100):=by
 have hb: ∀s∈ls,0<=II c s i/\II c s i<=100:=fun s hs=>by
  obtain⟨h1,h2⟩:=tC hS (hl s hs)
  exact Zh hS h1 h2 hi
 intro k
 induction k with
 |zero=>
  intro _
  have:=hb _ (dh h0)
  unfold Ac
  rw[gV,dw h0,Option.getD_some]
  exact⟨this,this⟩
 |succ k ih=>
  intro hk
  have h1:=ih (by omega)
  have h2:=hb _ (dh (show k<ls.length by omega))
  rw[JG (by omega)]
  unfold wid
  simp only
  omega
theorem mQ {c:bM} {out:List Int}: ∀s∈dF c out,s∈uG c:=fun _ h=>(List.mem_filter.1 h).1
end Go.Proofs.YthllkbbbapgelaaGreatDoor.AQ
end
section
namespace Go.Proofs.YthllkbbbapgelaaGreatDoor.AQ
open Go.RowKit Go.RG Go.SL Go.Shelf jy Go.TB
abbrev KE:=Value×List Int
def eU (es:List KE):List Value:=es.map (·.1)
def xC (w:World) (v:Value) (es:List KE):Prop:=aN 1 w v es.length (eU es)/\ ∀e∈es,aO w e.1 e.2
theorem xC.len {w:World} {v:Value} {es:List KE} (h:xC w v es):es.length<=9223372036854775807:=aN.len h.1
theorem xC.open {w:World} {v:Value} {es:List KE} (h:xC w v es): ∃o c,v= .slice o es.length c:=aN.open h.1
theorem xC.below {w w':World} {v:Value} {es:List KE} (h:xC w v es) {B:Nat} (hb:Below B w w') (hB:w.heap.size<=B):xC w' v es:=⟨h.1.below hb hB,fun e he=>(h.2 e he).below hb hB⟩
theorem xC.cell {w:World} {o:Option Addr} {c:Nat} {es:List KE} (h:xC w (.slice o es.length c) es) {k:Nat} (hk:k<es.length): ∃b off,o=some ⟨b,off,none⟩/\b<w.heap.size/\w.cell? ⟨b,off+k,none⟩=some es[k].1:=by
 obtain⟨⟨hl,o',c',hv,h1,h2,h3,h4⟩,_⟩:=h
 cases hv
 cases o with
 |none=>have:=h3 rfl;omega
 |some a=>
  obtain⟨b,off,sp⟩:=a
  obtain⟨hs,hc⟩:=h4 _ rfl
  simp only at hs hc
  subst hs
  have h0:=hc k es[k].1 (by simp[eU,hk])
  exact⟨b,off,rfl,dI w _ h0,h0⟩
abbrev NH (t:Ji):Value:= .agg #[.bool t.1,iv t.2.1,iv t.2.2.1,iv t.2.2.2]
def gK (l:List Ji):List Value:=l.flatMap fun t=>[.bool t.1,iv t.2.1,iv t.2.2.1,iv t.2.2.2]
abbrev yK (w:World) (v:Value) (l:List Ji):Prop:=aN 4 w v l.length (gK l)
theorem Oh (l:List Ji): ∀u∈gK l,u.oneCell'=true:=by
 intro u hu
 obtain⟨r,_,h⟩:=qx.1 hu
 simp only[gZ,List.not_mem_nil,or_false] at h
 rcases h with rfl|rfl|rfl|rfl <;>rfl
theorem yK.cell {w:World} {o:Option Addr} {n c:Nat} {l:List Ji} (h:aN 4 w (.slice o n c) n (gK l)) {k:Nat} (hk:k<l.length):
 ∃b off,o=some ⟨b,off,none⟩/\b<w.heap.size/\w.cell? ⟨b,off+k*4,none⟩=some (.bool l[k].1)/\w.cell? ⟨b,off+k*4+1,none⟩=some (iv l[k].2.1)/\w.cell? ⟨b,off+k*4+2,none⟩=some (iv l[k].2.2.1)/\
  w.cell? ⟨b,off+k*4+3,none⟩=some (iv l[k].2.2.2):=by
 obtain⟨hl,o',c',hv,h1,h2,h3,h4⟩:=h
 cases hv
 have hlen:(gK l).length=l.length*4:=by simp[gK,List.length_flatMap,List.map_const',List.sum_replicate_nat]
 have hn:n=l.length:=by omega
 cases o with
 |none=>have:=h3 rfl;omega
 |some a=>
  obtain⟨b,off,sp⟩:=a
  obtain⟨hs,hc⟩:=h4 _ rfl
  simp only at hs hc
  subst hs
  have g: ∀j,j<4->(gK l)[k*4+j]? =[.bool l[k].1,iv l[k].2.1,iv l[k].2.2.1,iv l[k].2.2.2][j]? :=fun j hj=>by
   unfold gK;rw[jA _ 4 (fun _=>rfl) l k j hk hj]
  have h0:=hc (k*4+0) (.bool l[k].1) (by rw[g 0 (by omega)];rfl)
  have h1:=hc (k*4+1) (iv l[k].2.1) (by rw[g 1 (by omega)];rfl)
  have h2:=hc (k*4+2) (iv l[k].2.2.1) (by rw[g 2 (by omega)];rfl)
  have h3:=hc (k*4+3) (iv l[k].2.2.2) (by rw[g 3 (by omega)];rfl)
  rw[Nat.add_zero] at h0
  rw[<-Nat.add_assoc] at h1 h2 h3
  exact⟨b,off,rfl,dI w _ h0,h0,h1,h2,h3⟩
abbrev kv (hv kv tv:Value):Value:= .agg #[hv,kv,tv]
structure rJ (w:World) (hv nZ tv:Value) (es:List KE) (c:bM):Prop where
 heaps:bT w hv c.heaps
 aU:xC w nZ es
 is:es.map (·.2)=c.aU
 aJ:yK w tv c.aJ
theorem rJ.below {w w':World} {hv nZ tv:Value} {es:List KE} {c:bM} (h:rJ w hv nZ tv es c) {B:Nat} (hb:Below B w w') (hB:w.heap.size<=B):rJ w' hv nZ tv es c:=⟨h.heaps.below hb hB,h.aU.below hb hB,h.is,h.aJ.below hb hB⟩
theorem rJ.len {w:World} {hv nZ tv:Value} {es:List KE} {c:bM} (h:rJ w hv nZ tv es c):es.length=c.aU.length:=by rw[<-h.is,mD]
theorem yj (n l h:Int) (w:World):Calls Tryz.prog 280 #[iv n,iv l,iv h] w (PV (.bool (nS n l h)) w):=by
 by_cases h1:l<=n
 all_goals
  go_enter Tryz.func280,Tryz.ntmps280
  go_wp2
  go_returns
  exact⟨by simp[nS];omega,aH _ _⟩
theorem Zv (r:dR) (n:Int) (w:World):Calls Tryz.prog 289 #[rv r,iv n] w (PV (.bool (nS n r.1 r.2)) w):=by
 go_enter Tryz.func289,Tryz.ntmps289
 go_wp2_with (go_at_call 280;refine(yj _ _ _ _).mono ?_;rintro e w' ⟨rfl,hb⟩)
 go_returns
 exact⟨by simp,(aH _ _).alloc (ai _) _ |>.trans (hb.mono (by simp))⟩
theorem sO (r:dR) (w:World):Calls Tryz.prog 224 #[rv r] w (PV (.bool (wz r 100)) w):=by
 go_enter Tryz.func224,Tryz.ntmps224
 go_wp2
 all_goals
  go_returns
  exact⟨by simp[wz];omega,by go_grown⟩
theorem J5 (r:dR) (w:World) (h1:0<=r.1) (h2:r.1<=r.2) (h3:r.2<=100000):
 Calls Tryz.prog 228 #[rv r] w (PV (iv (eu r)) w):=by
 go_enter Tryz.func228,Tryz.ntmps228
 go_wp2
 go_returns
 exact⟨by simp[eu],by go_grown⟩
theorem QJ (n:Int) (w:World):Calls Tryz.prog 313 #[iv n] w (PV (.bool (nS n 0 30)) w):=by
 go_enter Tryz.func313,Tryz.ntmps313
 go_wp2_with (go_at_call 280;refine(yj _ _ _ _).mono ?_;rintro e w' ⟨rfl,hb⟩)
 go_returns
 exact⟨by simp,hb⟩
theorem OE (a b:Int) (g c:Nat) (w:World) (h0:w.cell? ⟨g,0,none⟩=some (iv a)) (h1:w.cell? ⟨g,1,none⟩=some (iv b)):
 Calls Tryz.prog 227 #[.slice (some ⟨g,0,none⟩) 2 c] w (PV (iv (min a b)) w):=by
 have H:=ae (Bg a b g c w h0 h1)
 go_enter Tryz.func227,Tryz.ntmps227
 go_wp2_with fail
 refine H.o.mono ?_
 rintro e w' ⟨rfl,hb⟩
 go_wp2_with fail
 go_returns
 exact⟨by simp,hb⟩
theorem RQ (r:dR) (n:Int) (w:World):Calls Tryz.prog 142 #[rv r,iv n] w (PV (rv (wid r n)) w):=by
 go_enter Tryz.func142,Tryz.ntmps142
 go_wp2_with fail
 refine zg 10 [] none [(3,Spec.slice (w.heap.size+2) #[iv r.1,iv n] 3 2),(4,Spec.val (iv (min r.1 n)))] ?_
 simp only[zt]
 repeat (refine zd ?_;simp only[zp])
 refine dY (w.heap.size+2) _ _ _ (by rfl) (by simp) (by rfl) (by simp) (by simp) (fun W hW=>by go_simp;try rfl) (fun b=>?_)
 simp only[zp]
 refine eF _ (by rfl) (by rfl) 227 _ (fun W hW=>by go_simp;try rfl) (fun W hE hF=>?_) ?_
 ·obtain⟨c,hcb,hB,hc⟩:=hF _ (bF _) (by kernel_rfl)
  cases hcb
  exact OE r.1 n b 2 W (by simp[World.cell?,hc]) (by simp[World.cell?,hc])
 simp only[zp]
 repeat (refine zd ?_;simp only[zp])
 intro W hE hF
 obtain⟨hc,hf⟩:=bK hE.below
 have hzE:=hE.size
 (try simp only[bu] at hzE)
 go_wp2
 all_goals
  (try simp only[Exit.inBlock,Exit.then])
  refine bodyPost_ret (v:=rv (min r.1 n,max r.2 n)) (by simp[results,Tryz.results142,go_sem,hc];try omega) rfl ?_
  exact⟨rfl,ze⟩
theorem OB (l:List Int) (v:Value) (w:World) (hv:aO w v l) (hl: ∀x∈l,0<=x/\x<=9999) (hn:l.length<=1000):Calls Tryz.prog 282 #[v] w (PV (iv (mO l)) w):=by
 obtain⟨o,c,rfl⟩:=hv.open
 have hlen:=hv.len
 have HV:=ae hv
 have HL:=ae hl
 have HS:=ae (yS l)
 clear hv hl
 go_enter Tryz.func282,Tryz.ntmps282
 go_wp2
 go_loop [2,4,7] (fun n _ i=> ∃k:Nat,k<=l.length/\i= .int .i64 k/\n=iv (lJ l k)) (fun _ _ i=>l.length-(intOf i).toNat)
 case atStart=>exact⟨0,bQ _,rfl,rfl⟩
 case round=>
  obtain⟨k,hk,rfl,rfl⟩:=hrel
  have hb:=xP (m:=9999) (by omega) HL.o k
  have hb2:(9999:Int)*l.length<=9999*1000:=by omega
  by_cases hlt:k<l.length
  ·obtain⟨b,off,rfl,hbl,hc0⟩:=aO.cell HV.o hlt
   have hx:=HL.o _ (dh hlt)
   have hs:=sN hlt
   generalize lJ l k=m at hb hs⊢
   generalize l[k]=x at hc0 hx hs
   have oW:=ae hs
   clear hs
   go_wp2
   go_round
   case rel=>exact⟨k+1,by omega,by go_num,by rw[oW.o]⟩
   case measure=>simp[intOf];omega
  ·have hkl:k=l.length:=by omega
   subst hkl
   rw[HS.o]
   go_wp2
   go_returns
   exact⟨by simp,aH _ _⟩
end Go.Proofs.YthllkbbbapgelaaGreatDoor.AQ
namespace Go.Proofs.YthllkbbbapgelaaGreatDoor.AQ
open Go.RowKit Go.RG Go.SL Go.Shelf jy Go.TB
abbrev kev (e:KE):Value:=e.1
theorem af9 (l:List dR) (v:Value) (bg:Nat) (fst caps:Array Value) (p:Nat->Bool) (I:Nat->World->Prop) (w:World) (eg: ∀args w,(callFunc bg args).run Tryz.prog w= .ok (.enter bg args) w)
 (hsl: ∀k W,I k W->bT W v l)
 (hcall: ∀k (hk:k<l.length) W,(∀j,j<k->p j=false)->I k W->Calls Tryz.prog bg (fst.push (rv l[k])++caps) W (fun e W'=>e= .returned (.bool (p k))/\I (k+1) W')) (h0:I 0 w):
 Calls Tryz.prog 314 #[v,.func (.func bg) fst caps] w (ed l.length p I (fun k=>iv k) (iv (-1))):=by
 have hlen:=(hsl 0 w h0).len
 obtain⟨o,c,rfl⟩:=(hsl 0 w h0).open
 have HC:=ae hcall
 have HS:=ae hsl
 clear hcall hsl
 go_enter Tryz.func314,Tryz.ntmps314
 go_wp2
 go_loopw [4,5,8] (fun _ _ i wr=> ∃k:Nat,k<=l.length/\i= .int .i64 k/\(∀j,j<k->p j=false)/\I k wr) (fun _ _ i _=>l.length-(intOf i).toNat)
 case atStart=>exact⟨0,bQ _,rfl,fun j hj=>by omega,h0⟩
 case round=>
  obtain⟨k,hk,rfl,hno,hI⟩:=hrel
  by_cases hlt:k<l.length
  ·obtain⟨b,off,rfl,hb,hc0,hc1⟩:=bT.cell (HS.o k wr hI) hlt
   have hC:=HC.o k hlt wr hno hI
   have HN:=ae hno
   clear hno
   go_wp2_with fail
   refine hC.mono ?_
   rintro e W1 ⟨rfl,hI1⟩
   have HI:=ae hI1
   clear hI1 hI hC
   cases hp:p k
   ·go_wp2_with fail
    go_roundw
    case rel=>exact⟨k+1,by omega,by go_num,fun j hj=>(by by_cases e:j=k;(subst e;exact hp);exact HN.o j (by omega)),HI.o⟩
    case measure=>simp[intOf];omega
   ·go_wp2_with fail
    go_returns
    exact⟨k,by omega,HN.o,.inl ⟨hlt,hp,by simp,HI.o⟩⟩
  ·have hkl:k=l.length:=by omega
   have HN:=ae hno
   clear hno
   go_wp2_with fail
   go_returns
   exact⟨k,by omega,HN.o,.inr ⟨hkl,by simp,by subst hkl;exact hI⟩⟩
theorem adZ (l:List dR) (v:Value) (bg:Nat) (fst caps:Array Value) (p:Nat->Bool) (I:Nat->World->Prop) (w:World) (eg: ∀args w,(callFunc bg args).run Tryz.prog w= .ok (.enter bg args) w)
 (hsl: ∀k W,I k W->bT W v l)
 (hcall: ∀k (hk:k<l.length) W,(∀j,j<k->p j=false)->I k W->Calls Tryz.prog bg (fst.push (rv l[k])++caps) W (fun e W'=>e= .returned (.bool (p k))/\I (k+1) W')) (h0:I 0 w):
 Calls Tryz.prog 283 #[v,.func (.func bg) fst caps] w (ed l.length p I (fun _=> .bool true) (.bool false)):=by
 have HI:=ae (af9 l v bg fst caps p I w eg hsl hcall h0)
 have hlen:=(hsl 0 w h0).len
 clear hsl hcall h0 eg
 go_enter Tryz.func283,Tryz.ntmps283
 go_wp2_with fail
 refine HI.o.mono ?_
 clear HI
 rintro e W' ⟨k,hk,hno,⟨hlt,hp,rfl,hI⟩|⟨hkl,rfl,hI⟩⟩
 ·have HN:=ae (ag hno (ag hp hI))
  clear hno hp hI
  go_wp2_with fail
  go_returns
  exact⟨k,hk,HN.o.1,.inl ⟨hlt,HN.o.2.1,by simp,HN.o.2.2⟩⟩
 ·have HN:=ae (ag hno (ag hkl hI))
  clear hno hkl hI
  go_wp2_with fail
  go_returns
  exact⟨k,hk,HN.o.1,.inr ⟨HN.o.2.1,by simp,HN.o.2.1▸HN.o.2.2⟩⟩
theorem ad3 (x:dR) (bx bg:Nat) (fst caps:Array Value) (b:Bool) (W:World) (R:World->Prop) (eg: ∀args w,(callFunc bg args).run Tryz.prog w= .ok (.enter bg args) w)
 (hbx:W.cell? ⟨bx,0,none⟩=some (.func (.func bg) fst caps))
 (hcall:Calls Tryz.prog bg (fst.push (rv x)++caps) (W.alloc (.cells #[iv x.1,iv x.2] 129)) (fun e W'=>e= .returned (.bool b)/\R W')):
 Calls Tryz.prog 284 #[rv x,.pointer (some ⟨bx,0,none⟩)] W (fun e W'=>e= .returned (.bool !b)/\R W'):=by
 have hlt:=dI W _ hbx
 have HC:=ae hcall
 clear hcall
 go_enter Tryz.func284,Tryz.ntmps284
 go_wp2_with fail
 refine HC.o.mono ?_
 rintro e W' ⟨rfl,hR⟩
 have HR:=ae hR
 clear hR
 go_wp2_with fail
 go_returns
 exact⟨by simp,HR.o⟩
theorem agc (l:List dR) (v:Value) (bg:Nat) (fst caps:Array Value) (p:Nat->Bool) (I:Nat->World->Prop) (w:World) (eg: ∀args w,(callFunc bg args).run Tryz.prog w= .ok (.enter bg args) w)
 (hsl: ∀k W,I k W->bT W v l) (hal: ∀k W o,I k W->I k (W.alloc o))
 (hcall: ∀k (hk:k<l.length) W,(∀j,j<k->p j=true)->I k W->Calls Tryz.prog bg (fst.push (rv l[k])++caps) W (fun e W'=>e= .returned (.bool (p k))/\I (k+1) W'/\jq w.heap.size W W')) (h0:I 0 w):
 Calls Tryz.prog 223 #[v,.func (.func bg) fst caps] w (ed l.length (fun k=>!p k) I (fun _=> .bool false) (.bool true)):=by
 have HI:=ae (adZ l v 284 #[] #[.pointer (some ⟨w.heap.size,0,none⟩)] (fun k=>!p k)
  (fun k W=>I k W/\W.heap[w.heap.size]? =some (.cells #[.func (.func bg) fst caps] 337 (0,0))) (w.alloc (.cells #[.func (.func bg) fst caps] 337))
  (enters_of Tryz.func284 (by kernel_rfl) rfl) (fun k W h=>hsl k W h.1)
  (fun k hk W hno h=>by
    have hlt:w.heap.size<W.heap.size:=(aS.1 h.2).1
    refine(ad3 l[k] w.heap.size bg fst caps (p k) W (fun W'=>I (k+1) W'/\W'.heap[w.heap.size]? =some (.cells #[.func (.func bg) fst caps] 337 (0,0))) eg (aB h.2) ?_)
    refine(hcall k hk _ (fun j hj=>by simpa using hno j hj) (by first|exact hal _ _ _ h.1|exact h.1)).mono ?_
    rintro e W' ⟨rfl,h1,h2⟩
    refine⟨rfl,h1,(h2.block _ (ai _) (by first|exact hlt|(simp;omega))).trans (by first|exact h.2|exact(aV _ _ _ hlt).trans h.2)⟩)
  ⟨hal _ _ _ h0,heap_alloc_new w _⟩)
 have hlen:=(hsl 0 w h0).len
 clear hsl hcall h0 eg hal
 go_enter Tryz.func223,Tryz.ntmps223
 go_wp2_with fail
 refine HI.o.mono ?_
 clear HI
 rintro e W' ⟨k,hk,hno,⟨hlt,hp,rfl,hI,_⟩|⟨hkl,rfl,hI,_⟩⟩
 ·have HN:=ae (ag hno (ag hp hI))
  clear hno hp hI
  go_wp2_with fail
  go_returns
  exact⟨k,hk,HN.o.1,.inl ⟨hlt,HN.o.2.1,by simp,HN.o.2.2⟩⟩
 ·have HN:=ae (ag hno (ag hkl hI))
  clear hno hkl hI
  go_wp2_with fail
  go_returns
  exact⟨k,hk,HN.o.1,.inr ⟨HN.o.2.1,by simp,HN.o.2.1▸HN.o.2.2⟩⟩
theorem RZ (l:List dR) (v:Value) (bg:Nat) (fst caps:Array Value) (q:dR->Bool) (w:World) (hv:bT w v l) (eg: ∀args w,(callFunc bg args).run Tryz.prog w= .ok (.enter bg args) w)
 (hcall: ∀x∈l, ∀W,Below w.heap.size w W->Calls Tryz.prog bg (fst.push (rv x)++caps) W (PV (.bool (q x)) W)):
 Calls Tryz.prog 223 #[v,.func (.func bg) fst caps] w (PV (.bool (l.all q)) w):=by
 refine(agc l v bg fst caps (fun k=>q (l.getD k (0,0))) (fun _ W=>Below w.heap.size w W) w eg (fun k W h=>hv.below h (ai _)) (fun k W o h=>aj h o) (fun k hk W _ h=>?_) (aH _ _)).mono ?_
 ·refine(hcall l[k] (dh _) W h).mono ?_
  rintro e W' ⟨rfl,hb⟩
  exact⟨by simp[hk],aY h hb,jq.aA hb⟩
 ·intro e W' hpost
  obtain⟨rfl,k,_,hI⟩:=hpost.all
  refine⟨?_,hI⟩
  rw[jH,jR]
theorem aga (l:List KE) (v:Value) (bg:Nat) (fst caps:Array Value) (p:Nat->Bool) (I:Nat->World->Prop) (w:World) (eg: ∀args w,(callFunc bg args).run Tryz.prog w= .ok (.enter bg args) w)
 (hsl: ∀k W,I k W->xC W v l)
 (hcall: ∀k (hk:k<l.length) W,(∀j,j<k->p j=false)->I k W->Calls Tryz.prog bg (fst.push (kev l[k])++caps) W (fun e W'=>e= .returned (.bool (p k))/\I (k+1) W')) (h0:I 0 w):
 Calls Tryz.prog 315 #[v,.func (.func bg) fst caps] w (ed l.length p I (fun k=>iv k) (iv (-1))):=by
 have hlen:=(hsl 0 w h0).len
 obtain⟨o,c,rfl⟩:=(hsl 0 w h0).open
 have HC:=ae hcall
 have HS:=ae hsl
 clear hcall hsl
 go_enter Tryz.func315,Tryz.ntmps315
 go_wp2
 go_loopw [4,5,8] (fun _ _ i wr=> ∃k:Nat,k<=l.length/\i= .int .i64 k/\(∀j,j<k->p j=false)/\I k wr) (fun _ _ i _=>l.length-(intOf i).toNat)
 case atStart=>exact⟨0,bQ _,rfl,fun j hj=>by omega,h0⟩
 case round=>
  obtain⟨k,hk,rfl,hno,hI⟩:=hrel
  by_cases hlt:k<l.length
  ·obtain⟨b,off,rfl,hb,hc0⟩:=xC.cell (HS.o k wr hI) hlt
   have hC:=HC.o k hlt wr hno hI
   have HN:=ae hno
   clear hno
   go_wp2_with fail
   refine hC.mono ?_
   rintro e W1 ⟨rfl,hI1⟩
   have HI:=ae hI1
   clear hI1 hI hC
   cases hp:p k
   ·go_wp2_with fail
    go_roundw
    case rel=>exact⟨k+1,by omega,by go_num,fun j hj=>(by by_cases e:j=k;(subst e;exact hp);exact HN.o j (by omega)),HI.o⟩
    case measure=>simp[intOf];omega
   ·go_wp2_with fail
    go_returns
    exact⟨k,by omega,HN.o,.inl ⟨hlt,hp,by simp,HI.o⟩⟩
  ·have hkl:k=l.length:=by omega
   have HN:=ae hno
   clear hno
   go_wp2_with fail
   go_returns
   exact⟨k,by omega,HN.o,.inr ⟨hkl,by simp,by subst hkl;exact hI⟩⟩
theorem ad1 (l:List KE) (v:Value) (bg:Nat) (fst caps:Array Value) (p:Nat->Bool) (I:Nat->World->Prop) (w:World) (eg: ∀args w,(callFunc bg args).run Tryz.prog w= .ok (.enter bg args) w)
 (hsl: ∀k W,I k W->xC W v l)
 (hcall: ∀k (hk:k<l.length) W,(∀j,j<k->p j=false)->I k W->Calls Tryz.prog bg (fst.push (kev l[k])++caps) W (fun e W'=>e= .returned (.bool (p k))/\I (k+1) W')) (h0:I 0 w):
 Calls Tryz.prog 285 #[v,.func (.func bg) fst caps] w (ed l.length p I (fun _=> .bool true) (.bool false)):=by
 have HI:=ae (aga l v bg fst caps p I w eg hsl hcall h0)
 have hlen:=(hsl 0 w h0).len
 clear hsl hcall h0 eg
 go_enter Tryz.func285,Tryz.ntmps285
 go_wp2_with fail
 refine HI.o.mono ?_
 clear HI
 rintro e W' ⟨k,hk,hno,⟨hlt,hp,rfl,hI⟩|⟨hkl,rfl,hI⟩⟩
 ·have HN:=ae (ag hno (ag hp hI))
  clear hno hp hI
  go_wp2_with fail
  go_returns
  exact⟨k,hk,HN.o.1,.inl ⟨hlt,HN.o.2.1,by simp,HN.o.2.2⟩⟩
 ·have HN:=ae (ag hno (ag hkl hI))
  clear hno hkl hI
  go_wp2_with fail
  go_returns
  exact⟨k,hk,HN.o.1,.inr ⟨HN.o.2.1,by simp,HN.o.2.1▸HN.o.2.2⟩⟩
theorem ad4 (x:KE) (bx bg:Nat) (fst caps:Array Value) (b:Bool) (W:World) (R:World->Prop) (eg: ∀args w,(callFunc bg args).run Tryz.prog w= .ok (.enter bg args) w)
 (hbx:W.cell? ⟨bx,0,none⟩=some (.func (.func bg) fst caps))
 (hcall:Calls Tryz.prog bg (fst.push (kev x)++caps) W (fun e W'=>e= .returned (.bool b)/\R W')):
 Calls Tryz.prog 286 #[kev x,.pointer (some ⟨bx,0,none⟩)] W (fun e W'=>e= .returned (.bool !b)/\R W'):=by
 have hlt:=dI W _ hbx
 have HC:=ae hcall
 clear hcall
 go_enter Tryz.func286,Tryz.ntmps286
 go_wp2_with fail
 refine HC.o.mono ?_
 rintro e W' ⟨rfl,hR⟩
 have HR:=ae hR
 clear hR
 go_wp2_with fail
 go_returns
 exact⟨by simp,HR.o⟩
theorem agd (l:List KE) (v:Value) (bg:Nat) (fst caps:Array Value) (p:Nat->Bool) (I:Nat->World->Prop) (w:World) (eg: ∀args w,(callFunc bg args).run Tryz.prog w= .ok (.enter bg args) w)
 (hsl: ∀k W,I k W->xC W v l) (hal: ∀k W o,I k W->I k (W.alloc o))
 (hcall: ∀k (hk:k<l.length) W,(∀j,j<k->p j=true)->I k W->Calls Tryz.prog bg (fst.push (kev l[k])++caps) W (fun e W'=>e= .returned (.bool (p k))/\I (k+1) W'/\jq w.heap.size W W')) (h0:I 0 w):
 Calls Tryz.prog 225 #[v,.func (.func bg) fst caps] w (ed l.length (fun k=>!p k) I (fun _=> .bool false) (.bool true)):=by
 have HI:=ae (ad1 l v 286 #[] #[.pointer (some ⟨w.heap.size,0,none⟩)] (fun k=>!p k)
  (fun k W=>I k W/\W.heap[w.heap.size]? =some (.cells #[.func (.func bg) fst caps] 163 (0,0))) (w.alloc (.cells #[.func (.func bg) fst caps] 163))
  (enters_of Tryz.func286 (by kernel_rfl) rfl) (fun k W h=>hsl k W h.1)
  (fun k hk W hno h=>by
    have hlt:w.heap.size<W.heap.size:=(aS.1 h.2).1
    refine(ad4 l[k] w.heap.size bg fst caps (p k) W (fun W'=>I (k+1) W'/\W'.heap[w.heap.size]? =some (.cells #[.func (.func bg) fst caps] 163 (0,0))) eg (aB h.2) ?_)
    refine(hcall k hk _ (fun j hj=>by simpa using hno j hj) (by first|exact hal _ _ _ h.1|exact h.1)).mono ?_
    rintro e W' ⟨rfl,h1,h2⟩
    refine⟨rfl,h1,(h2.block _ (ai _) (by first|exact hlt|(simp;omega))).trans (by first|exact h.2|exact(Below.heap_alloc _ _ _ hlt).trans h.2)⟩)
  ⟨hal _ _ _ h0,heap_alloc_new w _⟩)
 have hlen:=(hsl 0 w h0).len
 clear hsl hcall h0 eg hal
 go_enter Tryz.func225,Tryz.ntmps225
 go_wp2_with fail
 refine HI.o.mono ?_
 clear HI
 rintro e W' ⟨k,hk,hno,⟨hlt,hp,rfl,hI,_⟩|⟨hkl,rfl,hI,_⟩⟩
 ·have HN:=ae (ag hno (ag hp hI))
  clear hno hp hI
  go_wp2_with fail
  go_returns
  exact⟨k,hk,HN.o.1,.inl ⟨hlt,HN.o.2.1,by simp,HN.o.2.2⟩⟩
 ·have HN:=ae (ag hno (ag hkl hI))
  clear hno hkl hI
  go_wp2_with fail
  go_returns
  exact⟨k,hk,HN.o.1,.inr ⟨HN.o.2.1,by simp,HN.o.2.1▸HN.o.2.2⟩⟩
theorem Si (l:List KE) (v:Value) (bg:Nat) (fst caps:Array Value) (q:KE->Bool) (w:World) (hv:xC w v l) (eg: ∀args w,(callFunc bg args).run Tryz.prog w= .ok (.enter bg args) w)
 (hcall: ∀x∈l, ∀W,Below w.heap.size w W->Calls Tryz.prog bg (fst.push (kev x)++caps) W (PV (.bool (q x)) W)):
 Calls Tryz.prog 225 #[v,.func (.func bg) fst caps] w (PV (.bool (l.all q)) w):=by
 refine(agd l v bg fst caps (fun k=>q (l.getD k (undef,[]))) (fun _ W=>Below w.heap.size w W) w eg (fun k W h=>hv.below h (ai _)) (fun k W o h=>aj h o) (fun k hk W _ h=>?_) (aH _ _)).mono ?_
 ·refine(hcall l[k] (dh _) W h).mono ?_
  rintro e W' ⟨rfl,hb⟩
  exact⟨by simp[hk],aY h hb,jq.aA hb⟩
 ·intro e W' hpost
  obtain⟨rfl,k,_,hI⟩:=hpost.all
  refine⟨?_,hI⟩
  rw[jH,jR]
theorem af8 (l:List Ji) (v:Value) (bg:Nat) (fst caps:Array Value) (p:Nat->Bool) (I:Nat->World->Prop) (w:World) (eg: ∀args w,(callFunc bg args).run Tryz.prog w= .ok (.enter bg args) w)
 (hsl: ∀k W,I k W->yK W v l)
 (hcall: ∀k (hk:k<l.length) W,(∀j,j<k->p j=false)->I k W->Calls Tryz.prog bg (fst.push (NH l[k])++caps) W (fun e W'=>e= .returned (.bool (p k))/\I (k+1) W')) (h0:I 0 w):
 Calls Tryz.prog 316 #[v,.func (.func bg) fst caps] w (ed l.length p I (fun k=>iv k) (iv (-1))):=by
 have hlen:=(hsl 0 w h0).len
 obtain⟨o,c,rfl⟩:=(hsl 0 w h0).open
 have HC:=ae hcall
 have HS:=ae hsl
 clear hcall hsl
 go_enter Tryz.func316,Tryz.ntmps316
 go_wp2
 go_loopw [4,5,8] (fun _ _ i wr=> ∃k:Nat,k<=l.length/\i= .int .i64 k/\(∀j,j<k->p j=false)/\I k wr) (fun _ _ i _=>l.length-(intOf i).toNat)
 case atStart=>exact⟨0,bQ _,rfl,fun j hj=>by omega,h0⟩
 case round=>
  obtain⟨k,hk,rfl,hno,hI⟩:=hrel
  by_cases hlt:k<l.length
  ·obtain⟨b,off,rfl,hb,hc0,hc1,hc2,hc3⟩:=yK.cell (HS.o k wr hI) hlt
   have hC:=HC.o k hlt wr hno hI
   have HN:=ae hno
   clear hno
   go_wp2_with fail
   refine hC.mono ?_
   rintro e W1 ⟨rfl,hI1⟩
   have HI:=ae hI1
   clear hI1 hI hC
   cases hp:p k
   ·go_wp2_with fail
    go_roundw
    case rel=>exact⟨k+1,by omega,by go_num,fun j hj=>(by by_cases e:j=k;(subst e;exact hp);exact HN.o j (by omega)),HI.o⟩
    case measure=>simp[intOf];omega
   ·go_wp2_with fail
    go_returns
    exact⟨k,by omega,HN.o,.inl ⟨hlt,hp,by simp,HI.o⟩⟩
  ·have hkl:k=l.length:=by omega
   have HN:=ae hno
   clear hno
   go_wp2_with fail
   go_returns
   exact⟨k,by omega,HN.o,.inr ⟨hkl,by simp,by subst hkl;exact hI⟩⟩
theorem adY (l:List Ji) (v:Value) (bg:Nat) (fst caps:Array Value) (p:Nat->Bool) (I:Nat->World->Prop) (w:World) (eg: ∀args w,(callFunc bg args).run Tryz.prog w= .ok (.enter bg args) w)
 (hsl: ∀k W,I k W->yK W v l)
 (hcall: ∀k (hk:k<l.length) W,(∀j,j<k->p j=false)->I k W->Calls Tryz.prog bg (fst.push (NH l[k])++caps) W (fun e W'=>e= .returned (.bool (p k))/\I (k+1) W')) (h0:I 0 w):
 Calls Tryz.prog 287 #[v,.func (.func bg) fst caps] w (ed l.length p I (fun _=> .bool true) (.bool false)):=by
 have HI:=ae (af8 l v bg fst caps p I w eg hsl hcall h0)
 have hlen:=(hsl 0 w h0).len
 clear hsl hcall h0 eg
 go_enter Tryz.func287,Tryz.ntmps287
 go_wp2_with fail
 refine HI.o.mono ?_
 clear HI
 rintro e W' ⟨k,hk,hno,⟨hlt,hp,rfl,hI⟩|⟨hkl,rfl,hI⟩⟩
 ·have HN:=ae (ag hno (ag hp hI))
  clear hno hp hI
  go_wp2_with fail
  go_returns
  exact⟨k,hk,HN.o.1,.inl ⟨hlt,HN.o.2.1,by simp,HN.o.2.2⟩⟩
 ·have HN:=ae (ag hno (ag hkl hI))
  clear hno hkl hI
  go_wp2_with fail
  go_returns
  exact⟨k,hk,HN.o.1,.inr ⟨HN.o.2.1,by simp,HN.o.2.1▸HN.o.2.2⟩⟩
theorem ad2 (x:Ji) (bx bg:Nat) (fst caps:Array Value) (b:Bool) (W:World) (R:World->Prop) (eg: ∀args w,(callFunc bg args).run Tryz.prog w= .ok (.enter bg args) w)
 (hbx:W.cell? ⟨bx,0,none⟩=some (.func (.func bg) fst caps))
 (hcall:Calls Tryz.prog bg (fst.push (NH x)++caps) (W.alloc (.cells #[.bool x.1,iv x.2.1,iv x.2.2.1,iv x.2.2.2] 192)) (fun e W'=>e= .returned (.bool b)/\R W')):
 Calls Tryz.prog 288 #[NH x,.pointer (some ⟨bx,0,none⟩)] W (fun e W'=>e= .returned (.bool !b)/\R W'):=by
 have hlt:=dI W _ hbx
 have HC:=ae hcall
 clear hcall
 go_enter Tryz.func288,Tryz.ntmps288
 go_wp2_with fail
 refine HC.o.mono ?_
 rintro e W' ⟨rfl,hR⟩
 have HR:=ae hR
 clear hR
 go_wp2_with fail
 go_returns
 exact⟨by simp,HR.o⟩
theorem agb (l:List Ji) (v:Value) (bg:Nat) (fst caps:Array Value) (p:Nat->Bool) (I:Nat->World->Prop) (w:World) (eg: ∀args w,(callFunc bg args).run Tryz.prog w= .ok (.enter bg args) w)
 (hsl: ∀k W,I k W->yK W v l) (hal: ∀k W o,I k W->I k (W.alloc o))
 (hcall: ∀k (hk:k<l.length) W,(∀j,j<k->p j=true)->I k W->Calls Tryz.prog bg (fst.push (NH l[k])++caps) W (fun e W'=>e= .returned (.bool (p k))/\I (k+1) W'/\jq w.heap.size W W')) (h0:I 0 w):
 Calls Tryz.prog 226 #[v,.func (.func bg) fst caps] w (ed l.length (fun k=>!p k) I (fun _=> .bool false) (.bool true)):=by
 have HI:=ae (adY l v 288 #[] #[.pointer (some ⟨w.heap.size,0,none⟩)] (fun k=>!p k)
  (fun k W=>I k W/\W.heap[w.heap.size]? =some (.cells #[.func (.func bg) fst caps] 335 (0,0))) (w.alloc (.cells #[.func (.func bg) fst caps] 335))
  (enters_of Tryz.func288 (by kernel_rfl) rfl) (fun k W h=>hsl k W h.1)
  (fun k hk W hno h=>by
    have hlt:w.heap.size<W.heap.size:=(aS.1 h.2).1
    refine(ad2 l[k] w.heap.size bg fst caps (p k) W (fun W'=>I (k+1) W'/\W'.heap[w.heap.size]? =some (.cells #[.func (.func bg) fst caps] 335 (0,0))) eg (aB h.2) ?_)
    refine(hcall k hk _ (fun j hj=>by simpa using hno j hj) (by first|exact hal _ _ _ h.1|exact h.1)).mono ?_
    rintro e W' ⟨rfl,h1,h2⟩
    refine⟨rfl,h1,(h2.block _ (ai _) (by first|exact hlt|(simp;omega))).trans (by first|exact h.2|exact(aV _ _ _ hlt).trans h.2)⟩)
  ⟨hal _ _ _ h0,heap_alloc_new w _⟩)
 have hlen:=(hsl 0 w h0).len
 clear hsl hcall h0 eg hal
 go_enter Tryz.func226,Tryz.ntmps226
 go_wp2_with fail
 refine HI.o.mono ?_
 clear HI
 rintro e W' ⟨k,hk,hno,⟨hlt,hp,rfl,hI,_⟩|⟨hkl,rfl,hI,_⟩⟩
 ·have HN:=ae (ag hno (ag hp hI))
  clear hno hp hI
  go_wp2_with fail
  go_returns
  exact⟨k,hk,HN.o.1,.inl ⟨hlt,HN.o.2.1,by simp,HN.o.2.2⟩⟩
 ·have HN:=ae (ag hno (ag hkl hI))
  clear hno hkl hI
  go_wp2_with fail
  go_returns
  exact⟨k,hk,HN.o.1,.inr ⟨HN.o.2.1,by simp,HN.o.2.1▸HN.o.2.2⟩⟩
theorem RY (l:List Ji) (v:Value) (bg:Nat) (fst caps:Array Value) (q:Ji->Bool) (w:World) (hv:yK w v l) (eg: ∀args w,(callFunc bg args).run Tryz.prog w= .ok (.enter bg args) w)
 (hcall: ∀x∈l, ∀W,Below w.heap.size w W->Calls Tryz.prog bg (fst.push (NH x)++caps) W (PV (.bool (q x)) W)):
 Calls Tryz.prog 226 #[v,.func (.func bg) fst caps] w (PV (.bool (l.all q)) w):=by
 refine(agb l v bg fst caps (fun k=>q (l.getD k (false,0,(0,0)))) (fun _ W=>Below w.heap.size w W) w eg (fun k W h=>hv.below h (ai _)) (fun k W o h=>aj h o) (fun k hk W _ h=>?_) (aH _ _)).mono ?_
 ·refine(hcall l[k] (dh _) W h).mono ?_
  rintro e W' ⟨rfl,hb⟩
  exact⟨by simp[hk],aY h hb,jq.aA hb⟩
 ·intro e W' hpost
  obtain⟨rfl,k,_,hI⟩:=hpost.all
  refine⟨?_,hI⟩
  rw[jH,jR]
theorem ad5 (x:Int) (bx bg:Nat) (fst caps:Array Value) (b:Bool) (W:World) (R:World->Prop) (eg: ∀args w,(callFunc bg args).run Tryz.prog w= .ok (.enter bg args) w)
 (hbx:W.cell? ⟨bx,0,none⟩=some (.func (.func bg) fst caps))
 (hcall:Calls Tryz.prog bg (fst.push (iv x)++caps) W (fun e W'=>e= .returned (.bool b)/\R W')):
 Calls Tryz.prog 336 #[iv x,.pointer (some ⟨bx,0,none⟩)] W (fun e W'=>e= .returned (.bool !b)/\R W'):=by
 have hlt:=dI W _ hbx
 have HC:=ae hcall
 clear hcall
 go_enter Tryz.func336,Tryz.ntmps336
 go_wp2_with fail
 refine HC.o.mono ?_
 rintro e W' ⟨rfl,hR⟩
 have HR:=ae hR
 clear hR
 go_wp2_with fail
 go_returns
 exact⟨by simp,HR.o⟩
theorem age (l:List Int) (v:Value) (bg:Nat) (fst caps:Array Value) (p:Nat->Bool) (I:Nat->World->Prop) (w:World) (eg: ∀args w,(callFunc bg args).run Tryz.prog w= .ok (.enter bg args) w)
 (hsl: ∀k W,I k W->aO W v l) (hal: ∀k W o,I k W->I k (W.alloc o))
 (hcall: ∀k (hk:k<l.length) W,(∀j,j<k->p j=true)->I k W->Calls Tryz.prog bg (fst.push (iv l[k])++caps) W (fun e W'=>e= .returned (.bool (p k))/\I (k+1) W'/\jq w.heap.size W W')) (h0:I 0 w):
 Calls Tryz.prog 312 #[v,.func (.func bg) fst caps] w (ed l.length (fun k=>!p k) I (fun _=> .bool false) (.bool true)):=by
 have HI:=ae (Px l v 336 #[] #[.pointer (some ⟨w.heap.size,0,none⟩)] (fun k=>!p k)
  (fun k W=>I k W/\W.heap[w.heap.size]? =some (.cells #[.func (.func bg) fst caps] 274 (0,0))) (w.alloc (.cells #[.func (.func bg) fst caps] 274))
  (enters_of Tryz.func336 (by kernel_rfl) rfl) (fun k W h=>hsl k W h.1)
  (fun k hk W hno h=>by
    have hlt:w.heap.size<W.heap.size:=(aS.1 h.2).1
    refine(ad5 l[k] w.heap.size bg fst caps (p k) W (fun W'=>I (k+1) W'/\W'.heap[w.heap.size]? =some (.cells #[.func (.func bg) fst caps] 274 (0,0))) eg (aB h.2) ?_)
    refine(hcall k hk _ (fun j hj=>by simpa using hno j hj) (by first|exact hal _ _ _ h.1|exact h.1)).mono ?_
    rintro e W' ⟨rfl,h1,h2⟩
    refine⟨rfl,h1,(h2.block _ (ai _) (by first|exact hlt|(simp;omega))).trans (by first|exact h.2|exact(Below.heap_alloc _ _ _ hlt).trans h.2)⟩)
  ⟨hal _ _ _ h0,heap_alloc_new w _⟩)
 have hlen:=(hsl 0 w h0).len
 clear hsl hcall h0 eg hal
 go_enter Tryz.func312,Tryz.ntmps312
 go_wp2_with fail
 refine HI.o.mono ?_
 clear HI
 rintro e W' ⟨k,hk,hno,⟨hlt,hp,rfl,hI,_⟩|⟨hkl,rfl,hI,_⟩⟩
 ·have HN:=ae (ag hno (ag hp hI))
  clear hno hp hI
  go_wp2_with fail
  go_returns
  exact⟨k,hk,HN.o.1,.inl ⟨hlt,HN.o.2.1,by simp,HN.o.2.2⟩⟩
 ·have HN:=ae (ag hno (ag hkl hI))
  clear hno hkl hI
  go_wp2_with fail
  go_returns
  exact⟨k,hk,HN.o.1,.inr ⟨HN.o.2.1,by simp,HN.o.2.1▸HN.o.2.2⟩⟩
theorem Sj (l:List Int) (v:Value) (bg:Nat) (fst caps:Array Value) (q:Int->Bool) (w:World) (hv:aO w v l) (eg: ∀args w,(callFunc bg args).run Tryz.prog w= .ok (.enter bg args) w)
 (hcall: ∀x∈l, ∀W,Below w.heap.size w W->Calls Tryz.prog bg (fst.push (iv x)++caps) W (PV (.bool (q x)) W)):
 Calls Tryz.prog 312 #[v,.func (.func bg) fst caps] w (PV (.bool (l.all q)) w):=by
 refine(age l v bg fst caps (fun k=>q (l.getD k 0)) (fun _ W=>Below w.heap.size w W) w eg (fun k W h=>hv.below h (ai _)) (fun k W o h=>aj h o) (fun k hk W _ h=>?_) (aH _ _)).mono ?_
 ·refine(hcall l[k] (dh _) W h).mono ?_
  rintro e W' ⟨rfl,hb⟩
  exact⟨by simp[hk],aY h hb,jq.aA hb⟩
 ·intro e W' hpost
  obtain⟨rfl,k,_,hI⟩:=hpost.all
  refine⟨?_,hI⟩
  rw[jH,jR]
theorem NC (c:bM) (oh:Option Addr) (ch:Nat) (kvv tv:Value) (l:List Int) (v:Value) (w:World) (hv:aO w v l):
 Calls Tryz.prog 281 #[kv (.slice oh c.heaps.length ch) kvv tv,v] w (PV (.bool (sH c l)) w):=by
 obtain⟨o,cc,rfl⟩:=hv.open
 have HA:=ae (fun(W:World) (hb:Below w.heap.size w W)=>Sj l (.slice o l.length cc) 313 #[] #[] (nS · 0 30) W (hv.below hb (ai _)) (enters_of Tryz.func313 (by kernel_rfl) rfl) (fun x _ W _=>QJ x W))
 clear hv
 unfold sH
 by_cases hl:l.length=c.heaps.length
 ·have hl':((l.length:Int)==(c.heaps.length:Int))=true:=by simp[hl]
  rw[decide_eq_true hl,Bool.true_and]
  have HL:=ae hl
  clear hl
  go_enter Tryz.func281,Tryz.ntmps281
  go_wp2_with fail
  refine(HA.o _ (aj (aH _ _) _)).mono ?_
  rintro e w' ⟨rfl,hb⟩
  obtain⟨hc,hf⟩:=bK hb
  go_wp2_with fail
  go_returns
  exact⟨by simp,aY (aj (aH _ _) _) hb⟩
 ·have hl':((l.length:Int)==(c.heaps.length:Int))=false:=by simp;omega
  rw[decide_eq_false hl,Bool.false_and]
  have HL:=ae hl
  clear hl
  go_enter Tryz.func281,Tryz.ntmps281
  go_wp2_with fail
  go_returns
  exact⟨by simp,zl⟩
theorem Sm (c:bM) (oh:Option Addr) (ch:Nat) (kvv tv:Value) (e:KE) (w:World) (hv:aO w e.1 e.2) (hh:c.heaps.length<=1000):
 Calls Tryz.prog 222 #[kv (.slice oh c.heaps.length ch) kvv tv,kev e] w (PV (.bool (vZ c e.2)) w):=by
 obtain⟨v,l⟩:=e
 simp only[kev] at hv⊢
 obtain⟨o,cc,rfl⟩:=hv.open
 have HA:=ae (fun(W:World) (hb:Below w.heap.size w W)=>NC c oh ch kvv tv l (.slice o l.length cc) W (hv.below hb (ai _)))
 by_cases hw:sH c l=true
 ·have hx:(∀x∈l,0<=x/\x<=9999)/\l.length=c.heaps.length:=by
   simp only[sH,nS,eG,eX,ku] at hw
   exact⟨fun x hx=>by have:=hw.2 x hx;omega,hw.1⟩
  have hn:l.length<=1000:=by omega
  have HS:=ae (fun(W:World) (hb:Below w.heap.size w W)=>OB l (.slice o l.length cc) W (hv.below hb (ai _)) hx.1 hn)
  have HC:Hid (vZ c l=decide (0<mO l)):=ae (by unfold vZ;rw[hw,Bool.true_and])
  rw[hw] at HA
  clear hv hw hx
  rw[HC.o]
  generalize mO l=m at HS
  go_enter Tryz.func222,Tryz.ntmps222
  go_wp2_with fail
  refine(HA.o _ (aj (aH _ _) _)).mono ?_
  rintro e w1 ⟨rfl,hb⟩
  obtain⟨hc,hf⟩:=bK hb
  have HB:=ae (show Below w.heap.size w w1 from aY (aj (aH _ _) _) hb)
  clear hb
  go_wp2_with fail
  refine(HS.o _ HB.o).mono ?_
  rintro e w2 ⟨rfl,hb⟩
  obtain⟨hc2,hf2⟩:=bK hb
  have HB2:=ae (aY HB.o hb)
  clear hb
  go_wp2_with fail
  go_returns
  exact⟨by simp,HB2.o⟩
 ·have hw':sH c l=false:=by simpa using hw
  rw[hw'] at HA
  have HC:Hid (vZ c l=false):=ae (by unfold vZ;rw[hw'];rfl)
  clear hv hw hw'
  rw[HC.o]
  go_enter Tryz.func222,Tryz.ntmps222
  go_wp2_with fail
  refine(HA.o _ (aj (aH _ _) _)).mono ?_
  rintro e w1 ⟨rfl,hb⟩
  obtain⟨hc,hf⟩:=bK hb
  have HB:=ae (show Below w.heap.size w w1 from aY (aj (aH _ _) _) hb)
  clear hb
  go_wp2_with fail
  go_returns
  exact⟨by simp,HB.o⟩
end Go.Proofs.YthllkbbbapgelaaGreatDoor.AQ
end
section
namespace Go.Proofs.YthllkbbbapgelaaGreatDoor.AQ
open Go.RowKit Go.RG Go.SL Go.Shelf jy Go.TB
theorem RS (c:bM) (oh ok:Option Addr) (ch ck:Nat) (tv:Value) (t:Ji) (w:World) (h1:c.heaps.length<=1000) (h2:c.aU.length<=1000):
 Calls Tryz.prog 221 #[kv (.slice oh c.heaps.length ch) (.slice ok c.aU.length ck) tv,NH t] w (PV (.bool (sJ c t)) w):=by
 obtain⟨b,n,r⟩:=t
 cases b
 all_goals
  go_enter Tryz.func221,Tryz.ntmps221
  go_wp2_with fail
  refine(yj _ _ _ _).mono ?_
  rintro e w1 ⟨rfl,hb⟩
  obtain⟨hc,hf⟩:=bK hb
  have hz:=hb.size
  simp only[bu] at hz
  have HB:=ae (show Below w.heap.size w w1 from zl)
  clear hb
 ·cases hq:nS n 0 ((c.heaps.length:Int)-1)
  ·go_wp2_with fail
   go_returns
   exact⟨by simp[sJ,wJ,hq],HB.o⟩
  ·go_wp2_with fail
   refine(sO r _).mono ?_
   rintro e w2 ⟨rfl,hb⟩
   have HB2:=ae (aY HB.o hb)
   clear hb
   go_wp2_with fail
   go_returns
   exact⟨by simp[sJ,wJ,hq],HB2.o⟩
 ·cases hq:nS n 0 ((c.aU.length:Int)-1)
  ·go_wp2_with fail
   go_returns
   exact⟨by simp[sJ,wJ,hq],HB.o⟩
  ·go_wp2_with fail
   refine(sO r _).mono ?_
   rintro e w2 ⟨rfl,hb⟩
   have HB2:=ae (aY HB.o hb)
   clear hb
   go_wp2_with fail
   go_returns
   exact⟨by simp[sJ,wJ,hq],HB2.o⟩
theorem RU (c:bM) (oh:Option Addr) (ch:Nat) (kvv tv:Value) (t:Ji) (w:World) (h1:c.heaps.length<=1000) (h2:0<=t.2.1) (h3:t.2.1<=1000):
 Calls Tryz.prog 290 #[kv (.slice oh c.heaps.length ch) kvv tv,NH t] w (PV (iv (zZ c t:Nat)) w):=by
 obtain⟨b,n,r⟩:=t
 simp only at h2 h3
 obtain⟨k,rfl⟩: ∃k:Nat,n=k:=⟨n.toNat,by omega⟩
 cases b
 ·go_enter Tryz.func290,Tryz.ntmps290
  go_wp2_with fail
  go_returns
  exact⟨by simp[zZ],zl⟩
 ·go_enter Tryz.func290,Tryz.ntmps290
  go_wp2_with fail
  go_returns
  exact⟨by simp[zZ],zl⟩
theorem V7 (l:List Int) (v:Value) (s:List Int) (x0 x1 x2:Int) (hx:kM s=[x0,x1,x2]) (w:World) (hv:aO w v l) (hl:l.length=s.length) (h3:s.length<=3)
 (hw: ∀x∈l,0<=x/\x<=30) (hs: ∀x∈s,0<=x/\x<=100) (hp:0<mO l):
 Calls Tryz.prog 232 #[.agg #[iv x0,iv x1,iv x2],v] w (PV (iv (Em s l)) w):=by
 obtain⟨o,c,rfl⟩:=hv.open
 have HSM:=ae (fun(W:World) (hb:Below w.heap.size w W)=>OB l (.slice o l.length c) W (hv.below hb (ai _)) (fun x hx=>by have:=hw x hx;omega) (by omega))
 have HV:=ae (hv.alloc (.cells #[iv x0,iv x1,iv x2] 283))
 have HW:=ae hw
 have HS:=ae hs
 have HD:=ae (fun k=>aax hw hs k)
 have HA:=ae (Xf hl)
 have HX:=ae hx
 have HP:=ae hp
 have hM:Hid (Em s l=zF l s/mO l):=ae rfl
 have hsb:=(Fq (m:=30) (by omega) hw)
 rw[hM.o]
 generalize zF l s=D at HA hM⊢
 generalize mO l=m at hsb hp HSM HP
 have HCB:=ae (fun(k:Nat) (hk:k<3)=>show(w.alloc (.cells #[iv x0,iv x1,iv x2] 283)).cell? ⟨w.heap.size,k,none⟩=some (iv ([x0,x1,x2].getD k 0)) from by
  rw[World.cell?_alloc_new]
  rcases(show k=0∨k=1∨k=2 by omega) with rfl|rfl|rfl <;>rfl)
 have HL:=ae (ag hl h3)
 have hl3:(l.length:Int)<=3:=by omega
 clear hv hw hs hx hp hl h3
 go_enter Tryz.func232,Tryz.ntmps232
 go_wp2_with fail
 go_loop [5,6,7,10] (fun n _ _ i=> ∃k:Nat,k<=l.length/\i= .int .i64 k/\n=iv (yF l s k)) (fun _ _ _ i=>l.length-(intOf i).toNat)
 case atStart=>exact⟨0,bQ _,rfl,by simp[yF,zF]⟩
 case round=>
  obtain⟨k,hk,rfl,rfl⟩:=hrel
  have hb:=HD.o k
  by_cases hlt:k<l.length
  ·obtain⟨b,off,rfl,hbl,hc0⟩:=aO.cell HV.o hlt
   have hks:k<s.length:=by have:=HL.o;omega
   have hx1:=HW.o _ (dh hlt)
   have hx2:=HS.o _ (dh hks)
   have hsu:=Td hlt hks
   have hk3:k<3:=by omega
   have hget:=HCB.o k hk3
   rw[<-HX.o,Oe,gV,dw hks,Option.getD_some] at hget
   generalize yF l s k=d at hb hsu⊢
   generalize l[k]=x at hc0 hx1 hsu
   generalize s[k]=y at hx2 hsu hget
   have hmul:0<=x*y/\x*y<=30*100:=⟨Int.mul_nonneg (by omega) (by omega),Int.mul_le_mul hx1.2 hx2.2 (by omega) (by omega)⟩
   obtain⟨hm1,hm2⟩:=hmul
   have oW:=ae hsu
   have aoD:(k:Int)<3:=by omega
   clear hsu
   go_wp2_with fail
   go_round
   case rel=>exact⟨k+1,by omega,by go_num,by rw[oW.o]⟩
   case measure=>simp[intOf];omega
  ·have hkl:k=l.length:=by omega
   rw[hkl,HA.o]
   rw[hkl,HA.o] at hb
   have hpp:=HP.o
   have hdv:D.tdiv m=D/m:=Int.tdiv_eq_ediv_of_nonneg hb.1
   have hd0:0<=D/m:=Int.ediv_nonneg hb.1 (by omega)
   have hd1:D/m<=D:=Int.ediv_le_self _ hb.1
   go_wp2_with fail
   refine(HSM.o _ (aj (aH _ _) _)).mono ?_
   rintro e w1 ⟨rfl,hbb⟩
   have HB:=ae (show Below w.heap.size w w1 from aY (aj (aH _ _) _) hbb)
   clear hbb
   have hm0:m≠0:=by omega
   go_wp2_with fail
   go_returns
   exact⟨by simp[hdv],HB.o⟩
end Go.Proofs.YthllkbbbapgelaaGreatDoor.AQ
end
section
namespace Go.Proofs.YthllkbbbapgelaaGreatDoor.AQ
open Go.RowKit Go.RG Go.SL Go.Shelf jy Go.TB
attribute [local go_sem] Oper.semAt_some
theorem nN {l:List Int} (h:l.length=3): ∃a b c,l=[a,b,c]:=by
 match l,h with
 |[a,b,c],_=>exact⟨a,b,c,rfl⟩
def Str (c:bM) (s:List Int):Prop:=s.length=c.heaps.length/\ ∀x∈s,0<=x/\x<=100
theorem UG (c:bM) (hS:nM c) (oh ok:Option Addr) (ch ck:Nat) (tv:Value) (es:List KE) (s:List Int) (x0 x1 x2:Int) (hx:kM s=[x0,x1,x2]) (hs:Str c s) (n:Nat) (hn:nC c n) (w:World)
 (hk:xC w (.slice ok c.aU.length ck) es) (hes:es.map (·.2)=c.aU):
 Calls Tryz.prog 141 #[kv (.slice oh c.heaps.length ch) (.slice ok c.aU.length ck) tv,.agg #[iv x0,iv x1,iv x2],iv n] w (PV (iv (II c s n)) w):=by
 have h3:=hS.h3
 have h1:=hS.h1
 have c3:=hS.c3
 have hel:es.length=c.aU.length:=by rw[<-hes,mD]
 unfold nC at hn
 by_cases hlt:n<c.heaps.length
 ·have hv:[x0,x1,x2].getD n 0=II c s n:=by
   unfold II
   rw[aF hlt, <-hx,Oe]
  have hn3:(n:Int)<3:=by omega
  have Fb: ¬(c.heaps.length:Int)<=n:=by omega
  have hcell:((w.alloc (.cells #[.slice oh c.heaps.length ch,.slice ok c.aU.length ck,tv] 60)).alloc (.cells #[iv x0,iv x1,iv x2] 283)).cell? ⟨w.heap.size+1,n,none⟩=some (iv (II c s n)):=by
   rw[<-hv]
   simp only[World.cell?,dV]
   rcases(show n=0∨n=1∨n=2 by omega) with rfl|rfl|rfl <;>rfl
  generalize II c s n=r at hcell⊢
  clear hx hs hk hes hv hel
  go_enter Tryz.func141,Tryz.ntmps141
  go_wp2_with fail
  go_returns
  exact⟨by simp,zl⟩
 ·have hk0:n-c.heaps.length<es.length:=by omega
  have hkc:n-c.heaps.length<c.aU.length:=by omega
  have he:es[n-c.heaps.length].2=c.aU[n-c.heaps.length]:=by simp only[<-hes,List.getElem_map]
  have hc:=hS.aU _ (dh hkc)
  have hr:=hk.2 _ (dh hk0)
  rw[<-hel] at hk
  obtain⟨b,off,rfl,hb,hcell⟩:=xC.cell hk hk0
  generalize Dj:es[n-c.heaps.length]=e at*
  obtain⟨ev,el⟩:=e
  simp only at he hr hcell
  subst he
  obtain⟨oe,ce,rfl⟩:=hr.open
  have hv:II c s n=Em s c.aU[n-c.heaps.length]:=by
   unfold II
   rw[ak hlt,gV,dw hkc,Option.getD_some]
  rw[hv]
  have HM:=ae (fun(W:World) (hB:Below w.heap.size w W)=>V7 c.aU[n-c.heaps.length] _ s x0 x1 x2 hx W (hr.below hB (ai _)) (by rw[hc.1,hs.1]) (by rw[hs.1];exact h3) hc.2.1 hs.2 hc.2.2)
  obtain⟨j,hj⟩: ∃j:Nat,n-c.heaps.length=j:=⟨_,rfl⟩
  obtain rfl:n=c.heaps.length+j:=by omega
  have hjI:(((c.heaps.length+j:Nat):Int)-(c.heaps.length:Int))=j:=by omega
  have akt:(c.heaps.length:Int)<=((c.heaps.length+j:Nat):Int):=by omega
  have hjl:(j:Int)<c.aU.length:=by omega
  generalize c.aU[c.heaps.length+j-c.heaps.length]=l at*
  generalize Em s l=r at HM⊢
  rw[hj] at hcell
  have HX:=ae (ag hx hs)
  clear hx hs hv hk hc hr Dj hj hk0 hkc hes hel
  obtain⟨N,hN⟩: ∃N:Int,((c.heaps.length+j:Nat):Int)=N:=⟨_,rfl⟩
  rw[hN] at hjI akt⊢
  clear hN hlt hn
  go_enter Tryz.func141,Tryz.ntmps141
  go_upto_region 3 with(fail)
  refine dN fun W3 hW3=>?_
  have hb3:Below w.heap.size w W3:=by rw[hW3];exact zl
  have hk1:W3.heap[w.heap.size]? =some (.cells #[.slice oh c.heaps.length ch,.slice (some ⟨b,off,none⟩) c.aU.length ck,tv] 60 (0,0)):=by rw[hW3];exact(aV _ _ _ (by simp)).trans (ay _ _)
  have hk2:W3.heap[w.heap.size+1]? =some (.cells #[iv x0,iv x1,iv x2] 283 (0,0)):=by rw[hW3];exact dV _ _ _
  have akB:W3.cell? ⟨b,off+j,none⟩=some (.slice oe l.length ce):=(hb3.cell hb).trans hcell
  have hbl:b<W3.heap.size:=by have:=hb3.size;omega
  have HB3:=ae hb3
  obtain⟨d1,g1,m1⟩:=af hk1
  obtain⟨d2,g2,m2⟩:=af hk2
  clear hW3 hcell hb hb3 hk1 hk2
  refine zg 9 [] none [(8,Spec.val (iv r))] ?_
  simp only[zt]
  repeat ((first|refine zn ?_|refine zk ?_);simp only[zp])
  refine zw 232 (h:=fun W hE hF=>by exact HM.o W (aY HB3.o hE.below)) (t:=?_)
  simp only[zp]
  repeat ((first|refine zn ?_|refine zk ?_);simp only[zp])
  intro W hE hF
  obtain⟨hc,hf⟩:=bK hE.below
  have hzE:=hE.size
  (try simp only[bu] at hzE)
  go_wp2_with fail
  (try simp only[Exit.inBlock,Exit.then])
  refine bodyPost_ret (v:=iv r) (by simp[results,Tryz.results141,go_sem,hc];try omega) rfl ?_
  exact⟨rfl,aY HB3.o hE.below⟩
structure XN (w:World) (hv nZ tv:Value) (x0 x1 x2:Int) (W:World):Prop where
 b0:W.heap[w.heap.size]? =some (.cells #[hv,nZ,tv] 60 (0,0))
 b1:W.heap[w.heap.size+1]? =some (.cells #[iv x0,iv x1,iv x2] 283 (0,0))
 below:Below w.heap.size w W
theorem XN.next {w:World} {hv nZ tv:Value} {x0 x1 x2:Int} {W W':World} (h:XN w hv nZ tv x0 x1 x2 W) (hb:Below W.heap.size W W'):XN w hv nZ tv x0 x1 x2 W':=
 ⟨(hb.block _ (aS.1 h.b0).1).trans h.b0,(hb.block _ (aS.1 h.b1).1).trans h.b1,aY h.below hb⟩
def wG (c:bM) (out s:List Int) (k:Nat):Bool:=(List.range k).all fun i=>out.contains (i:Int) ||Gf c s (c.aJ.getD i (false,0,(0,0)))
theorem Q4 (c:bM) (hS:nM c) (oh ok ot:Option Addr) (ch ck ct:Nat) (es:List KE) (s:List Int) (x0 x1 x2:Int) (hx:kM s=[x0,x1,x2]) (hs:Str c s) (ov:Value) (out:List Int) (w:World)
 (hc:rJ w (.slice oh c.heaps.length ch) (.slice ok c.aU.length ck) (.slice ot c.aJ.length ct) es c) (ho:aO w ov out):
 Calls Tryz.prog 231 #[kv (.slice oh c.heaps.length ch) (.slice ok c.aU.length ck) (.slice ot c.aJ.length ct),.agg #[iv x0,iv x1,iv x2],ov] w (PV (.bool (sW c out s)) w):=by
 obtain⟨oo,oc,rfl⟩:=ho.open
 have t5:=hS.t5
 have HS:=ae hS
 have HC:=ae hc
 have HO:=ae ho
 have HX:=ae (ag hx hs)
 have HF:=ae (fun(n:Nat) (hn:nC c n) (W:World) (hB:Below w.heap.size w W)=>UG c hS oh ok ch ck (.slice ot c.aJ.length ct) es s x0 x1 x2 hx hs n hn W (hc.aU.below hB (ai _)) hc.is)
 have HT:=ae (fun(t:Ji) (ht:t∈c.aJ) (W:World)=>RU c oh ch (.slice ok c.aU.length ck) (.slice ot c.aJ.length ct) t W (by have:=hS.h3;omega) ((hS.aJ t ht).1.1) (by
  have h1:=(hS.aJ t ht).1.2
  have h2:=hS.h3
  have h3:=hS.c3
  unfold wJ at h1
  split at h1 <;>omega))
 clear hS hc ho hx hs
 go_enter Tryz.func231,Tryz.ntmps231
 go_upto_region 1 with(fail)
 refine dN fun W1 hW1=>?_
 have hst:XN w (.slice oh c.heaps.length ch) (.slice ok c.aU.length ck) (.slice ot c.aJ.length ct) x0 x1 x2 W1:=by
  rw[hW1]
  exact⟨(aV _ _ _ (by simp)).trans (ay _ _),dV _ _ _,zl⟩
 clear hW1
 obtain⟨cc0,cf0,cl0⟩:=af hst.b0
 have HST:=ae hst
 clear hst
 go_wp2_with fail
 go_loopw [12] (fun i wr=> ∃k:Nat,k<=c.aJ.length/\i= .int .i64 k/\wG c out s k=true/\XN w (.slice oh c.heaps.length ch) (.slice ok c.aU.length ck) (.slice ot c.aJ.length ct) x0 x1 x2 wr) (fun i _=>c.aJ.length-(intOf i).toNat)
 case atStart=>exact⟨0,bQ _,rfl,rfl,HST.o⟩
 case round=>
  obtain⟨k,hk,rfl,hok,hst⟩:=hrel
  have Ir:=ae hst
  have jw:=ae hok
  clear hok cc0 cf0 cl0
  by_cases hlt:k<c.aJ.length
  ·have htl:=HC.o.aJ.below hst.below (ai _)
   obtain⟨b,off,hv,hb,d0,d1,d2,d3⟩:=yK.cell htl hlt
   cases hv
   have hmem:=dh hlt
   have hth:=Vp HS.o hmem
   have hT:=HT.o _ hmem
   have hso:wG c out s (k+1)=(out.contains (k:Int) ||Gf c s c.aJ[k]):=by
    have h1:=jw.o
    unfold wG at h1⊢
    rw[mV,h1,Bool.true_and,show c.aJ.getD k (false,0,(0,0))=c.aJ[k] from by simp[List.getD,hlt]]
   generalize c.aJ[k]=t at*
   obtain⟨tb,tn,KT,KU⟩:=t
   simp only at d0 d1 d2 d3
   have HTH:=ae hth
   obtain⟨q,hq⟩: ∃q,zZ c (tb,tn,(KT,KU))=q:=⟨_,rfl⟩
   rw[hq] at hT HTH
   have hF:=HF.o q HTH.o
   obtain⟨r,hr⟩: ∃r,II c s q=r:=⟨_,rfl⟩
   rw[hr] at hF
   have agx:wG c out s (k+1)=(out.contains (k:Int) ||nS r KT KU):=by
    rw[hso];unfold Gf;rw[hq,hr]
   have HSO:=ae agx
   have HTT:=ae hT
   have HFF:=ae hF
   have hcn:=fun W (hB:Below w.heap.size w W)=>iJ out (.slice oo out.length oc) (k:Int) W (HO.o.below hB (ai _))
   generalize out.contains (k:Int)=cb at*
   have HCN:=ae hcn
   clear hst htl hmem hth hT hso agx hq hF hr hcn
   go_upto_region 4 with(fail)
   refine dN fun W4 FK=>?_
   have abY:XN w _ _ _ x0 x1 x2 W4:=Ir.o.next (by rw[FK];exact zl)
   have hk8:W4.heap[wr.heap.size]? =some (.cells #[.bool tb,iv tn,iv KT,iv KU] 192 (0,0)):=by rw[FK];exact ay _ _
   have hB4:Below wr.heap.size wr W4:=by rw[FK];exact zl
   obtain⟨c1,f1,l1⟩:=af abY.b0
   obtain⟨c2,f2,l2⟩:=af abY.b1
   obtain⟨c3,f3,l3⟩:=af hk8
   have U8:=ae abY
   clear FK abY hk8 hB4 d0 d1 d2 d3 hb
   cases cb
   ·skip
    refine zg 16 [] none [(2,Spec.val (.bool false)),(11,Spec.val (iv q)),(12,Spec.val (iv r)),(13,Spec.val (.bool (nS r KT KU)))] ?_
    simp only[zt]
    repeat ((first|refine zn ?_|refine zk ?_);simp only[zp])
    refine zw 147 (h:=fun W hE hF=>by exact HCN.o W (aY U8.o.below hE.below)) (t:=?_)
    simp only[zp]
    repeat ((first|refine zn ?_|refine zk ?_);simp only[zp])
    refine zw 290 (h:=fun W hE hF=>by exact HTT.o W) (t:=?_)
    simp only[zp]
    refine zw 141 (h:=fun W hE hF=>by exact HFF.o W (aY U8.o.below hE.below)) (t:=?_)
    simp only[zp]
    refine zw 289 (h:=fun W hE hF=>by exact Zv (KT,KU) r W) (t:=?_)
    simp only[zp]
    repeat ((first|refine zn ?_|refine zk ?_);simp only[zp])
    intro W hE hF
    obtain⟨hc,hf⟩:=bK hE.below
    have hzE:=hE.size
    (try simp only[bu] at hzE)
    have hst5:=U8.o.next hE.below
    have HS5:=ae hst5
    clear hst5 hE hF hc hf hzE c1 f1 l1 c2 f2 l2 c3 f3 l3
    cases hq2:nS r KT KU
    ·have yL:Hid (sW c out s=false):=ae (by
      have h1:=HSO.o
      rw[hq2] at h1
      have h2:wG c out s c.aJ.length=sW c out s:=rfl
      rw[<-h2]
      cases h3:wG c out s c.aJ.length
      ·rfl
      ·unfold wG at h1 h3
       rw[ku] at h3
       have:(List.range (k+1)).all (fun i=>out.contains (i:Int) ||Gf c s (c.aJ.getD i (false,0,(0,0))))=true:=by
        rw[ku]
        intro i hi
        exact h3 i (kD.2 (by have:=kD.1 hi;omega))
       rw[this] at h1
       cases h1)
     go_wp2_with fail
     go_returns
     exact⟨by rw[yL.o];simp,HS5.o.below⟩
    ·go_wp2_with fail
     go_roundw
     case rel=>exact⟨k+1,by omega,by go_num,by rw[HSO.o,hq2];rfl,HS5.o⟩
     case measure=>simp[intOf];omega
   ·skip
    refine zg 16 [] none [(2,Spec.val (.bool true))] ?_
    simp only[zt]
    repeat ((first|refine zn ?_|refine zk ?_);simp only[zp])
    refine zw 147 (h:=fun W hE hF=>by exact HCN.o W (aY U8.o.below hE.below)) (t:=?_)
    simp only[zp]
    repeat ((first|refine zn ?_|refine zk ?_);simp only[zp])
    intro W hE hF
    obtain⟨hc,hf⟩:=bK hE.below
    have hzE:=hE.size
    (try simp only[bu] at hzE)
    have hst5:=U8.o.next hE.below
    have HS5:=ae hst5
    clear hst5 hE hF hc hf hzE c1 f1 l1 c2 f2 l2 c3 f3 l3
    go_wp2_with fail
    go_roundw
    case rel=>exact⟨k+1,by omega,by go_num,by rw[HSO.o];rfl,HS5.o⟩
    case measure=>simp[intOf];omega
  ·have hkl:k=c.aJ.length:=by omega
   subst hkl
   have HQ:Hid (sW c out s=true):=ae jw.o
   clear hst
   go_wp2_with fail
   go_returns
   exact⟨by rw[HQ.o];simp,Ir.o.below⟩
end Go.Proofs.YthllkbbbapgelaaGreatDoor.AQ
end
section
namespace Go.Proofs.YthllkbbbapgelaaGreatDoor.AQ
open Go.RowKit Go.RG Go.SL Go.Shelf jy Go.TB
attribute [local go_sem] Oper.semAt_some
structure Yr (W:World) (bf bo jv ab bc l:Nat) (o:List Int):Prop where
 y:W.heap[jv]? =some (.cells #[.func (.yield l) #[] #[]] 340 (0,0))
 ch:W.heap[bc]? =some (.cells #[.func (.func 230) #[] #[.pointer (some ⟨bf,0,none⟩),.pointer (some ⟨ab,0,none⟩),.pointer (some ⟨bo,0,none⟩),.pointer (some ⟨jv,0,none⟩),.pointer (some ⟨bc,0,none⟩)]] 274 (0,0))
 cells:W.heap[ab]? =some (.cells (ah o).toArray 283 (0,0))
theorem Yr.kept {W W':World} {bf bo jv ab bc l:Nat} {o:List Int} (h:Yr W bf bo jv ab bc l o) (hk: ∀m∈[ab,jv,bc],m<W.heap.size->W'.heap[m]? =W.heap[m]?):Yr W' bf bo jv ab bc l o:=
 ⟨(hk _ (by simp) (aS.1 h.y).1).trans h.y,(hk _ (by simp) (aS.1 h.ch).1).trans h.ch,(hk _ (by simp) (aS.1 h.cells).1).trans h.cells⟩
theorem Yr.below {W W':World} {bf bo jv ab bc l:Nat} {o:List Int} (h:Yr W bf bo jv ab bc l o) (hb:Below W.heap.size W W'):Yr W' bf bo jv ab bc l o:=
 h.kept fun m _ hm=>hb.block m hm
theorem Yr.set {W:World} {bf bo jv ab bc l:Nat} {o:List Int} (h:Yr W bf bo jv ab bc l o) (hd1:jv≠ab) (hd3:bc≠ab) (i:Nat) (x:Int):Yr (W.setCell ⟨ab,i,none⟩ (iv x)) bf bo jv ab bc l (o.set i x):=
 ⟨(dH _ _ _ _ hd1).trans h.y,(dH _ _ _ _ hd3).trans h.ch,by rw[<-sV];exact aI h.cells _⟩
def aic (_:List Nat) (x:List Int) (v:Value) (_:World):Prop:=v=lY (kM x)
structure aih (bf bo:Nat) (D:bM) (hv nZ tv ov:Value) (es:List KE) (out:List Int) (W:World):Prop where
 fb:W.heap[bf]? =some (.cells #[hv,nZ,tv] 60 (0,0))
 ob:W.heap[bo]? =some (.cells #[ov] 52 (0,0))
 dA:rJ W hv nZ tv es D
 out:aO W ov out
theorem OM (D:bM) (hS:nM D) (oh ok ot:Option Addr) (ch ck ct:Nat) (ov:Value) (es:List KE) (out:List Int) (bf bo jv ab bc l:Nat) (hd1:jv≠ab) (hd3:bc≠ab) (J:List Nat->Option Nat->World->Prop)
 (hInv: ∀Ms s W1,J Ms s W1->aih bf bo D (.slice oh D.heaps.length ch) (.slice ok D.aU.length ck) (.slice ot D.aJ.length ct) ov es out W1)
 (hstep: ∀Ms Ms' s W1 W2,J Ms s W1->Ext Ms W1 W2->(∀m∈Ms',m∈Ms∨(W1.heap.size<=m/\m<W2.heap.size))->True->J Ms' s W2)
 (hY: ∀Ms k v W1 (hk:k<(dF D out).length),J Ms (some k) W1->aic Ms (dF D out)[k] v W1->YieldAt Fence.wide 0 Tryz.prog l #[v] W1 fun e W'=>
   ((∀m∈Ms,m∉[]->m<W1.heap.size->W'.heap[m]? =W1.heap[m]?)/\W1.heap.size<=W'.heap.size)/\((e= .returned (.bool true)/\J Ms (some (k+1)) W')∨(e= .returned (.bool false)/\J Ms none W'))):
 ∀(m i k:Nat) (pre:List Int) (W:World) (o:List Int),i+m=D.heaps.length->pre.length=i->o.length=3->o.take i=pre->o.drop D.heaps.length=List.replicate (3-D.heaps.length) 0->jJ (D.heaps) i k pre->Yr W bf bo jv ab bc l o->J [ab,jv,bc] (some (zI D out k)) W->
  CallsIn Fence.wide 0 Tryz.prog 230 #[iv i,.pointer (some ⟨bf,0,none⟩),.pointer (some ⟨ab,0,none⟩),.pointer (some ⟨bo,0,none⟩),.pointer (some ⟨jv,0,none⟩),.pointer (some ⟨bc,0,none⟩)] W
   (fun e W'=>(e= .returned (.bool true)/\J [ab,jv,bc] (some (zI D out (k+(fB ((D.heaps).drop i)).length))) W'/\ ∃o',o'.length=3/\o'.take i=pre/\o'.drop D.heaps.length=List.replicate (3-D.heaps.length) 0/\Yr W' bf bo jv ab bc l o')∨
     (e= .returned (.bool false)/\J [ab,jv,bc] none W')):=by
 have hh1:=hS.h1
 have hh3:=hS.h3
 intro m
 induction m with
 |zero=>
  intro i k pre W o him hpl hol hot hod hat hst hJ
  have hrow:(i:Int)=(D.heaps.length:Int):=by omega
  obtain⟨hone,hk,hx⟩:=hat.last (by omega)
  rw[hone]
  have hop:o=kM pre:=by
   rw[<-List.take_append_drop D.heaps.length o,hod]
   rw[show D.heaps.length=i from by omega,hot]
   unfold kM
   rw[hpl]
  have hk':k<(uG D).length:=hk
  have hxx:(uG D)[k]=pre:=hx
  obtain⟨hbf,WT,htl,hov⟩:=hInv _ _ _ hJ
  obtain⟨oo,oc,rfl⟩:=hov.open
  have hmem:pre∈uG D:=hxx▸dh hk'
  have hstr:Str D pre:=tC hS hmem
  obtain⟨x0,x1,x2,hxs⟩:=nN hol
  have hright:=Q4 D hS oh ok ot ch ck ct es pre x0 x1 x2 (by rw[<-hop,hxs]) hstr _ out W htl hov
  obtain⟨QC,cf1,Tz⟩:=af hbf
  obtain⟨cc2,cf2,cl2⟩:=af WT
  obtain⟨cc3,cf3,cl3⟩:=af hst.y
  have hag:lY o= .agg #[iv x0,iv x1,iv x2]:=by rw[hxs];rfl
  have hcb:=hst.cells
  rw[show(ah o).toArray= #[iv x0,iv x1,iv x2] from by rw[hxs];rfl] at hcb
  obtain⟨cc4,cf4,cl4⟩:=af hcb
  have HR:=ae hright
  have HS:=ae hst
  have HJ:=ae hJ
  have HI:=ae hInv
  have HST:=ae hstep
  have HY:=ae hY
  have HK:=ae (show ∃h:k<(uG D).length,(uG D)[k]=pre from⟨hk',hxx⟩)
  have HO:=ae (ag hol (ag hot (ag hod (ag hop hag))))
  have heq:((i:Int)==(D.heaps.length:Int))=true:=by simpa using hrow
  clear hright hInv hstep hY hst hJ hbf WT htl hov hat hcb hop hag hxs hx hxx hk hk' hone hrow hot hod hmem hstr
  obtain⟨q,hq⟩: ∃q,sW D out pre=q:=⟨_,rfl⟩
  have HQ:=ae hq
  rw[hq] at HR
  clear hq
  cases q
  ·skip
   refine callsIn_of_wp Tryz.func230 rfl trivial ?_
   simp only[Tryz.ntmps230,List.size_toArray,List.length_cons,List.length_nil,Nat.reduceAdd,Nat.reduceSub,Array.replicate_succ,Array.replicate_zero,kQ,kR,List.nil_append,List.cons_append]
   gi_wp2_with fail
   refine(callsIn_wide.2 HR.o).mono ?_
   rintro e W1 ⟨rfl,hb1⟩
   have HB1:=ae hb1
   clear hb1
   gi_wp2_with fail
   go_returns
   have hJ1:=HST.o _ _ _ _ _ HJ.o (Ext.aA HB1.o) (fun m hm=> .inl hm) trivial
   obtain⟨hk',hxx⟩:=HK.o
   rw[<-acE hk' (by rw[hxx];exact HQ.o)] at hJ1
   exact .inl ⟨by simp,hJ1,o,HO.o.1,HO.o.2.1,HO.o.2.2.1,HS.o.below HB1.o⟩
  ·skip
   refine callsIn_of_wp Tryz.func230 rfl trivial ?_
   simp only[Tryz.ntmps230,List.size_toArray,List.length_cons,List.length_nil,Nat.reduceAdd,Nat.reduceSub,Array.replicate_succ,Array.replicate_zero,kQ,kR,List.nil_append,List.cons_append]
   gi_wp2_with fail
   refine(callsIn_wide.2 HR.o).mono ?_
   rintro e W1 ⟨rfl,hb1⟩
   obtain⟨hc1,hf1⟩:=bK hb1
   have hs1:=hb1.size
   have HB1:=ae hb1
   have hJ1:=HST.o _ _ _ _ _ HJ.o (Ext.aA hb1) (fun m hm=> .inl hm) trivial
   obtain⟨hk',hxx⟩:=HK.o
   obtain⟨hc,hx⟩:=QR hk' (by rw[hxx];exact HQ.o)
   obtain⟨g1,t1,a1,b1,hy1,hR1⟩:=HY.o _ _ (.agg #[iv x0,iv x1,iv x2]) W1 hc hJ1 (by
    show _=lY (kM _)
    rw[hx,hxx, <-HO.o.2.2.2.1,HO.o.2.2.2.2])
   have hcn:zI D out (k+1)=zI D out k+1:=aaG hk' (by rw[hxx];exact HQ.o)
   have HR1:=ae hR1
   have HCN:=ae hcn
   clear hR1 hJ1 hk' hxx hc hx hcn hb1
   gi_wp2_with fail
   refine HR1.o.mono ?_
   rintro e W' ⟨⟨hkeep,hsz⟩,⟨rfl,hJ⟩|⟨rfl,hJ⟩⟩
   ·have HJ':=ae hJ
    have HK':=ae hkeep
    clear hJ hkeep
    gi_wp2_with fail
    go_returns
    refine .inl ⟨by simp,by rw[HCN.o];exact HJ'.o,o,HO.o.1,HO.o.2.1,HO.o.2.2.1,(HS.o.below HB1.o).kept (fun m hm hml=>HK'.o m hm (by simp) hml)⟩
   ·have HJ':=ae hJ
    clear hJ hkeep
    gi_wp2_with fail
    go_returns
    exact .inr ⟨by simp,HJ'.o⟩
 |succ m ih=>
  intro i k pre W o him hpl hol hot hod hat hst hJ
  have hi:i<(D.heaps).length:=by omega
  have hcount:=jJ.count hi
  have hrg:=hS.rg hi
  have hsz0:=hS.sz _ (dh hi)
  obtain⟨r,Et⟩: ∃r,D.heaps[i]=r:=⟨_,rfl⟩
  rw[Et] at hrg hsz0 hcount
  obtain⟨z,hz,hz4⟩: ∃z:Nat,(z:Int)=eu r/\z<=101:=⟨(eu r).toNat,by omega,by unfold eu;omega⟩
  have hsz:(eu r).toNat=z:=by omega
  rw[hsz] at hcount
  obtain⟨hbf,WT,htl,hov⟩:=hInv _ _ _ hJ
  obtain⟨QC,cf1,Tz⟩:=af hbf
  have hne:(i:Int)≠(D.heaps.length:Int):=by omega
  have hneb:((i:Int)==(D.heaps.length:Int))=false:=by simpa using hne
  have Np:Hid (∀c:Nat,c<z->jJ (D.heaps) (i+1) (k+c*(fB ((D.heaps).drop (i+1))).length) (pre++[r.1+(c:Int)])):=ae (fun c hc=>by
   have:=hat.next hi c (by rw[Et,hsz];exact hc)
   rw[Et] at this
   exact this)
  obtain⟨bh,an0,hoh,hbh,hh0,WQ⟩:=bT.cell htl.heaps hi
  cases hoh
  rw[Et] at hh0 WQ
  have HI:=ae hInv
  have HST:=ae hstep
  have HS:=ae hst
  have HJ:=ae hJ
  have HIH:=ae ih
  have KL:=ae (ag hol (ag hot hod))
  have HCZ:=ae hcount
  have HZ:=ae hz
  have hi3:i<3:=by omega
  have ahd:(i:Int)<3:=by omega
  have hiI:(i:Int)<D.heaps.length:=by omega
  have HRI:=ae (show ∃h:i<D.heaps.length,D.heaps[i]=r from⟨hi,Et⟩)
  have hiR:i<D.heaps.length:=by omega
  clear hInv hstep hY hat hst hJ ih hcount hne hbf WT htl hov Et hsz hi hol hot hod hz
  refine callsIn_of_wp Tryz.func230 rfl trivial ?_
  simp only[Tryz.ntmps230,List.size_toArray,List.length_cons,List.length_nil,Nat.reduceAdd,Nat.reduceSub,Array.replicate_succ,Array.replicate_zero,kQ,kR,List.nil_append,List.cons_append]
  gi_wp2_with fail
  refine(callsIn_wide.2 (J5 r _ hrg.1 hrg.2.1 (by omega))).mono ?_
  rintro e W1 ⟨rfl,hb1⟩
  have Nc:=ae (HS.o.below hb1)
  have HJ1:=ae (HST.o _ _ _ _ _ HJ.o (Ext.aA hb1) (fun m hm=> .inl hm) trivial)
  clear hb1 hh0 WQ hbh QC cf1 Tz
  rw[<-HZ.o]
  gi_wp2_with fail
  gi_loopw [30] (fun u wr=> ∃c:Nat,c<=z/\u= .int .i64 c/\ ∃o':List Int,o'.length=3/\o'.take i=pre/\o'.drop D.heaps.length=List.replicate (3-D.heaps.length) 0/\Yr wr bf bo jv ab bc l o'/\J [ab,jv,bc] (some (zI D out (k+c*(fB ((D.heaps).drop (i+1))).length))) wr)
   (fun u _=>z-(intOf u).toNat)
  case atStart=>exact⟨0,bQ _,rfl,o,KL.o.1,KL.o.2.1,KL.o.2.2,Nc.o,by simpa using HJ1.o⟩
  case round=>
   obtain⟨c,hcz,rfl,o',ho1,ho2,ho3,hst,hJ⟩:=hrel
   by_cases hlt:c<z
   ·obtain⟨hbf,WT,htl,hov⟩:=HI.o _ _ _ hJ
    obtain⟨cd1,PW,PG⟩:=af hbf
    obtain⟨cd3,PU,PD⟩:=af hst.ch
    obtain⟨y,hcell⟩: ∃y,wr.cell? ⟨ab,i,none⟩=some (iv y):=⟨_,gG hst.cells (show i<o'.length by omega)⟩
    have hab:=dI wr _ hcell
    have hfr:=bn hst.cells i
    obtain⟨hi',agA⟩:=HRI.o
    obtain⟨bh',al7,aj7,hbh,hh0,WQ⟩:=bT.cell htl.heaps hi'
    cases aj7
    rw[agA] at hh0 WQ
    clear hi' agA
    have Ir:=ae hst
    have Ul:=ae hJ
    have HO:=ae (ag ho1 (ag ho2 ho3))
    have Fb:(c:Int)<z:=by omega
    have ac9:(z:Int)=eu r:=HZ.o
    unfold eu at ac9
    have hv0: -9223372036854775808<=r.1+(c:Int)/\r.1+(c:Int)<=9223372036854775807:=by omega
    clear hst hJ hbf WT htl hov ho1 ho2 ho3 ac9
    have GV:=Ir.o.set hd1 hd3 i (r.1+(c:Int))
    have hJS:J [ab,jv,bc] (some (zI D out (k+c*(fB ((D.heaps).drop (i+1))).length))) (wr.setCell ⟨ab,i,none⟩ (iv (r.1+(c:Int)))):=
     HST.o _ _ _ _ _ Ul.o ((mJ wr ⟨ab,i,none⟩ _).more (fun x hx=>by simp at hx;subst hx;simp)) (fun m hm=> .inl hm) trivial
    have hcall:=HIH.o (i+1) _ (pre++[r.1+(c:Int)]) _ (o'.set i (r.1+(c:Int))) (by omega) (by simp[hpl]) (by simp[HO.o.1]) (by
     rw[List.take_set]
     rw[qY,HO.o.2.1]
     have hio:i<o'.length:=by have:=HO.o.1;omega
     rw[dw hio]
     simp[qA,hpl]) (by
     rw[List.drop_set,aF hiR];exact HO.o.2.2) (Np.o c hlt) GV hJS
    rw[show((i+1:Nat):Int)=(i:Int)+1 from by omega] at hcall
    have Cf:=ae hcall
    clear hcall GV hJS
    gi_wp2_with fail
    refine Cf.o.mono ?_
    rintro e W2 (⟨rfl,hJ2,o2,ho1,ho2,ho3,hst2⟩|⟨rfl,hJ2⟩)
    ·have HJ2:=ae hJ2
     have Uc:=ae hst2
     have Fh:=ae (ag ho1 (ag ho2 ho3))
     clear hJ2 hst2 ho1 ho2 ho3 cd1 PW PG cd3 PU PD hcell hab hfr hbh hh0 WQ
     gi_wp2_with fail
     go_roundw
     case rel=>
      refine⟨c+1,by omega,by go_num,o2,Fh.o.1,?_,Fh.o.2.2,Uc.o,?_⟩
      ·have:=congrArg (List.take i) Fh.o.2.1
       rw[List.take_take,Nat.min_eq_left (by omega)] at this
       rw[this,nK (by omega),kF (by omega)]
      ·rw[Nat.add_mul,Nat.one_mul, <-Nat.add_assoc];exact HJ2.o
     case measure=>simp[intOf];omega
    ·have HJ2:=ae hJ2
     clear hJ2 cd1 PW PG cd3 PU PD hcell hab hfr hbh hh0 WQ
     gi_wp2_with fail
     go_returns
     exact .inr ⟨by simp,HJ2.o⟩
   ·have SG:c=z:=by omega
    subst SG
    have Ul:=ae hJ
    have Ir:=ae hst
    have HO:=ae (ag ho1 (ag ho2 ho3))
    clear hJ hst ho1 ho2 ho3
    gi_wp2_with fail
    go_returns
    refine .inl ⟨by simp,?_,o',HO.o.1,HO.o.2.1,HO.o.2.2,Ir.o⟩
    rw[HCZ.o];exact Ul.o
theorem Oz (D:bM) (hS:nM D) (oh ok ot:Option Addr) (ch ck ct:Nat) (ov:Value) (es:List KE) (out:List Int) (bf bo:Nat):
 XM Tryz.prog 229 #[.pointer (some ⟨bf,0,none⟩),.pointer (some ⟨bo,0,none⟩)] (dF D out) aic [] (fun _=>True) (aih bf bo D (.slice oh D.heaps.length ch) (.slice ok D.aU.length ck) (.slice ot D.aJ.length ct) ov es out):=by
 intro l J W hInv hstep hY h0
 have hch:=fun jv ab bc hd1 hd3=>OM D hS oh ok ot ch ck ct ov es out bf bo jv ab bc l hd1 hd3 J hInv hstep hY
 have hh3:=hS.h3
 have HCH:=ae hch
 have HST:=ae hstep
 have HJ:=ae h0
 have hn2: ∀(A B:Obj) (v:Value) (t:TypeId),(((W.alloc A).alloc B).alloc (.cells #[v] t)).cell? ⟨W.heap.size+1+1,0,none⟩=some v:=fun A B v t=>aB (iq W A B _)
 have hf2: ∀(A B:Obj) (v:Value) (t:TypeId),(((W.alloc A).alloc B).alloc (.cells #[v] t)).frozen? ⟨W.heap.size+1+1,0,none⟩=false:=fun A B v t=>bn (iq W A B _) 0
 clear hInv hstep hY hch h0 hS
 go_enter Tryz.func229,Tryz.ntmps229
 go_wp2_with fail
 refine(callsIn_wide.1 (HCH.o W.heap.size (W.heap.size+1) (W.heap.size+1+1) (by omega) (by omega) D.heaps.length 0 0 [] _ (List.replicate 3 0) (by omega) rfl (by simp) (by simp) (by rw[List.drop_replicate]) (jJ.zero _) ⟨?_,?_,?_⟩
  (HST.o _ _ _ _ _ HJ.o (Ext.aA zl) (fun m hm=> .inr (by simp at hm;(first|omega|(simp;omega)))) trivial))).mono ?_
 ·exact(aV _ _ _ (by simp;omega)).trans ((aV _ _ _ (by simp)).trans (ay _ _))
 ·exact iq _ _ _ _
 ·exact(aV _ _ _ (by simp)).trans (dV _ _ _)
 ·rintro e W2 (⟨rfl,hJ2,_⟩|⟨rfl,hJ2⟩)
  ·have HJ2:=ae hJ2
   clear hJ2 hn2 hf2
   go_wp2_with fail
   go_end0
   refine⟨⟨_,rfl⟩,[W.heap.size+1,W.heap.size,W.heap.size+1+1],.inl ?_⟩
   have:=HJ2.o
   rw[<-aaH]
   simpa [uG] using this
  ·have HJ2:=ae hJ2
   clear hJ2 hn2 hf2
   go_wp2_with fail
   go_end0
   exact⟨⟨_,rfl⟩,_,.inr HJ2.o⟩
theorem OA (hv nZ tv:Value) (o:Option Addr) (n c:Nat) (w:World):
 Calls Tryz.prog 140 #[kv hv nZ tv,.slice o n c] w (fun e w'=>e= .returned (.func (.func 229) #[] #[.pointer (some ⟨w.heap.size,0,none⟩),.pointer (some ⟨w.heap.size+1,0,none⟩)])/\
  w'=(w.alloc (.cells #[hv,nZ,tv] 60)).alloc (.cells #[.slice o n c] 52)):=by
 go_enter Tryz.func140,Tryz.ntmps140
 go_wp2
 go_returns
 exact⟨by simp,rfl⟩
end Go.Proofs.YthllkbbbapgelaaGreatDoor.AQ
end
section
namespace Go.Proofs.YthllkbbbapgelaaGreatDoor.AQ
open Go.RowKit Go.RG Go.SL Go.Shelf jy Go.TB
section
variable (c : bM) (oh ok ot : Option Addr) (ch ck ct : Nat) (w : World)
theorem Zw (h:3<c.heaps.length∨3<c.aU.length∨5<c.aJ.length):Calls Tryz.prog 139 #[kv (.slice oh c.heaps.length ch) (.slice ok c.aU.length ck) (.slice ot c.aJ.length ct)] w (PV (iv 3) w):=by
 by_cases h1:(3:Int)<c.heaps.length
 ·skip
  go_enter Tryz.func139,Tryz.ntmps139
  go_wp2_with fail
  refine zg 6 [] none [] ?_
  simp only[zt]
  repeat (refine zn ?_;simp only[zp])
  intro W hE hF
  obtain⟨hc,hf⟩:=bK hE.below
  have hzE:=hE.size
  (try simp only[bu] at hzE)
  have HB0:=ae (show Below w.heap.size w W from aY (aj (aH _ _) _) hE.below)
  have hk0:W.heap[w.heap.size]? =some (.cells #[.slice oh c.heaps.length ch,.slice ok c.aU.length ck,.slice ot c.aJ.length ct] 60 (0,0)):=(hE.block _ (by simp) (by simp)).trans (ay _ _)
  clear hE hF hc hf hzE
  obtain⟨d0,f0,m0⟩:=af hk0
  clear hk0
  go_wp2_with fail
  go_returns
  exact⟨by simp,HB0.o⟩
 by_cases h2:(3:Int)<c.aU.length
 ·skip
  go_enter Tryz.func139,Tryz.ntmps139
  go_wp2_with fail
  refine zg 6 [] none [] ?_
  simp only[zt]
  repeat (refine zn ?_;simp only[zp])
  intro W hE hF
  obtain⟨hc,hf⟩:=bK hE.below
  have hzE:=hE.size
  (try simp only[bu] at hzE)
  have HB0:=ae (show Below w.heap.size w W from aY (aj (aH _ _) _) hE.below)
  have hk0:W.heap[w.heap.size]? =some (.cells #[.slice oh c.heaps.length ch,.slice ok c.aU.length ck,.slice ot c.aJ.length ct] 60 (0,0)):=(hE.block _ (by simp) (by simp)).trans (ay _ _)
  clear hE hF hc hf hzE
  obtain⟨d0,f0,m0⟩:=af hk0
  clear hk0
  go_wp2_with fail
  go_returns
  exact⟨by simp,HB0.o⟩
 have h3:(5:Int)<c.aJ.length:=by omega
 clear h
 go_enter Tryz.func139,Tryz.ntmps139
 go_wp2_with fail
 refine zg 6 [] none [] ?_
 simp only[zt]
 repeat (refine zn ?_;simp only[zp])
 intro W hE hF
 obtain⟨hc,hf⟩:=bK hE.below
 have hzE:=hE.size
 (try simp only[bu] at hzE)
 have HB0:=ae (show Below w.heap.size w W from aY (aj (aH _ _) _) hE.below)
 have hk0:W.heap[w.heap.size]? =some (.cells #[.slice oh c.heaps.length ch,.slice ok c.aU.length ck,.slice ot c.aJ.length ct] 60 (0,0)):=(hE.block _ (by simp) (by simp)).trans (ay _ _)
 clear hE hF hc hf hzE
 obtain⟨d0,f0,m0⟩:=af hk0
 clear hk0
 go_wp2_with fail
 go_returns
 exact⟨by simp,HB0.o⟩
theorem Wv (h1: ¬(3:Int)<c.heaps.length) (h2: ¬(3:Int)<c.aU.length) (h3: ¬(5:Int)<c.aJ.length) (h4:((c.heaps.length:Int)==0)=true):Calls Tryz.prog 139 #[kv (.slice oh c.heaps.length ch) (.slice ok c.aU.length ck) (.slice ot c.aJ.length ct)] w (PV (iv 1) w):=by
 go_enter Tryz.func139,Tryz.ntmps139
 go_wp2_with fail
 refine zg 6 [] none [] ?_
 simp only[zt]
 repeat (refine zn ?_;simp only[zp])
 intro W hE hF
 obtain⟨hc,hf⟩:=bK hE.below
 have hzE:=hE.size
 (try simp only[bu] at hzE)
 have HB0:=ae (show Below w.heap.size w W from aY (aj (aH _ _) _) hE.below)
 have hk0:W.heap[w.heap.size]? =some (.cells #[.slice oh c.heaps.length ch,.slice ok c.aU.length ck,.slice ot c.aJ.length ct] 60 (0,0)):=(hE.block _ (by simp) (by simp)).trans (ay _ _)
 clear hE hF hc hf hzE
 obtain⟨d0,f0,m0⟩:=af hk0
 clear hk0
 go_wp2_with fail
 go_returns
 exact⟨by simp,HB0.o⟩
theorem Wu (es:List KE) (hc:rJ w (.slice oh c.heaps.length ch) (.slice ok c.aU.length ck) (.slice ot c.aJ.length ct) es c) (h1: ¬(3:Int)<c.heaps.length) (h2: ¬(3:Int)<c.aU.length) (h3: ¬(5:Int)<c.aJ.length) (h4:((c.heaps.length:Int)==0)=false)
 (res:Int) (hres:res=if c.heaps.all (wz · 100)=false∨c.aU.all (vZ c)=false∨c.aJ.all (sJ c)=false then 1 else if 2000<uw c.heaps then 3 else 0):
 Calls Tryz.prog 139 #[kv (.slice oh c.heaps.length ch) (.slice ok c.aU.length ck) (.slice ot c.aJ.length ct)] w (PV (iv res) w):=by
 have hel:=hc.len
 have HR:=ae (fun(W:World) (hb:Below w.heap.size w W)=>RZ c.heaps (.slice oh c.heaps.length ch) 224 #[] #[] (wz · 100) W (hc.heaps.below hb (ai _)) (enters_of Tryz.func224 (by kernel_rfl) rfl) (fun x _ W _=>sO x W))
 have HKK:=ae (fun(W:World) (hb:Below w.heap.size w W)=>by
  have:=Si es (.slice ok c.aU.length ck) 222 #[kv (.slice oh c.heaps.length ch) (.slice ok c.aU.length ck) (.slice ot c.aJ.length ct)] #[] (fun e=>vZ c e.2) W (hc.aU.below hb (ai _)) (enters_of Tryz.func222 (by kernel_rfl) rfl) (fun e he W' hb'=>Sm c oh ch _ _ e W' ((hc.aU.2 e he).below (aY hb hb') (ai _)) (by omega))
  rw[show es.all (fun e=>vZ c e.2)=c.aU.all (vZ c) from by rw[<-hc.is,List.all_map];rfl] at this
  exact this)
 have HTT:=ae (fun(W:World) (hb:Below w.heap.size w W)=>RY c.aJ (.slice ot c.aJ.length ct) 221 #[kv (.slice oh c.heaps.length ch) (.slice ok c.aU.length ck) (.slice ot c.aJ.length ct)] #[] (sJ c) W (hc.aJ.below hb (ai _)) (enters_of Tryz.func221 (by kernel_rfl) rfl) (fun x _ W _=>RS c oh ok ch ck _ x W (by omega) (by omega)))
 have HHP:=ae (fun(W:World) (hb:Below w.heap.size w W)=>hc.heaps.below hb (ai _))
 have XU:=ae hres
 clear hc hel hres
 cases hA:c.heaps.all (wz · 100)
 ·rw[hA] at HR
  have FP:Hid (res=1):=ae (by rw[XU.o,aF (.inl hA)])
  clear hA
  go_enter Tryz.func139,Tryz.ntmps139
  go_wp2_with fail
  refine zg 6 [] none [] ?_
  simp only[zt]
  repeat (refine zn ?_;simp only[zp])
  intro W hE hF
  obtain⟨hc,hf⟩:=bK hE.below
  have hzE:=hE.size
  (try simp only[bu] at hzE)
  have HB0:=ae (show Below w.heap.size w W from aY (aj (aH _ _) _) hE.below)
  have hk0:W.heap[w.heap.size]? =some (.cells #[.slice oh c.heaps.length ch,.slice ok c.aU.length ck,.slice ot c.aJ.length ct] 60 (0,0)):=(hE.block _ (by simp) (by simp)).trans (ay _ _)
  clear hE hF hc hf hzE
  obtain⟨d0,f0,m0⟩:=af hk0
  clear hk0
  go_wp2_with fail
  refine(HR.o _ HB0.o).mono ?_
  rintro e w1 ⟨rfl,hb⟩
  have hk0:=hb.block _ m0
  obtain⟨dd,ff⟩:=bK hb
  have HB1:=ae (aY HB0.o hb)
  clear hb hk0
  go_wp2_with fail
  go_returns
  exact⟨by rw[FP.o];simp,HB1.o⟩
 rw[hA] at HR
 cases hK:c.aU.all (vZ c)
 ·rw[hK] at HKK
  have FP:Hid (res=1):=ae (by rw[XU.o,aF (.inr (.inl hK))])
  clear hA hK
  go_enter Tryz.func139,Tryz.ntmps139
  go_wp2_with fail
  refine zg 6 [] none [] ?_
  simp only[zt]
  repeat (refine zn ?_;simp only[zp])
  intro W hE hF
  obtain⟨hc,hf⟩:=bK hE.below
  have hzE:=hE.size
  (try simp only[bu] at hzE)
  have HB0:=ae (show Below w.heap.size w W from aY (aj (aH _ _) _) hE.below)
  have hk0:W.heap[w.heap.size]? =some (.cells #[.slice oh c.heaps.length ch,.slice ok c.aU.length ck,.slice ot c.aJ.length ct] 60 (0,0)):=(hE.block _ (by simp) (by simp)).trans (ay _ _)
  clear hE hF hc hf hzE
  obtain⟨d0,f0,m0⟩:=af hk0
  clear hk0
  go_wp2_with fail
  refine(HR.o _ HB0.o).mono ?_
  rintro e w1 ⟨rfl,hb⟩
  obtain⟨dd,ff⟩:=bK hb
  have hl1:=fH m0 hb.size
  have HB1:=ae (aY HB0.o hb)
  clear hb
  go_wp2_with fail
  refine(HKK.o _ HB1.o).mono ?_
  rintro e w2 ⟨rfl,hb⟩
  have HB2:=ae (aY HB1.o hb)
  clear hb
  go_wp2_with fail
  go_returns
  exact⟨by rw[FP.o];simp,HB2.o⟩
 rw[hK] at HKK
 cases hT:c.aJ.all (sJ c)
 ·rw[hT] at HTT
  have FP:Hid (res=1):=ae (by rw[XU.o,aF (.inr (.inr hT))])
  clear hA hK hT
  go_enter Tryz.func139,Tryz.ntmps139
  go_wp2_with fail
  refine zg 6 [] none [] ?_
  simp only[zt]
  repeat (refine zn ?_;simp only[zp])
  intro W hE hF
  obtain⟨hc,hf⟩:=bK hE.below
  have hzE:=hE.size
  (try simp only[bu] at hzE)
  have HB0:=ae (show Below w.heap.size w W from aY (aj (aH _ _) _) hE.below)
  have hk0:W.heap[w.heap.size]? =some (.cells #[.slice oh c.heaps.length ch,.slice ok c.aU.length ck,.slice ot c.aJ.length ct] 60 (0,0)):=(hE.block _ (by simp) (by simp)).trans (ay _ _)
  clear hE hF hc hf hzE
  obtain⟨d0,f0,m0⟩:=af hk0
  clear hk0
  go_wp2_with fail
  refine(HR.o _ HB0.o).mono ?_
  rintro e w1 ⟨rfl,hb⟩
  obtain⟨dd,ff⟩:=bK hb
  have hl1:=fH m0 hb.size
  have HB1:=ae (aY HB0.o hb)
  clear hb
  go_wp2_with fail
  refine(HKK.o _ HB1.o).mono ?_
  rintro e w2 ⟨rfl,hb⟩
  obtain⟨dd2,ff2⟩:=bK hb
  have hl2:=fH hl1 hb.size
  have HB2:=ae (aY HB1.o hb)
  clear hb
  go_wp2_with fail
  refine(HTT.o _ HB2.o).mono ?_
  rintro e w3 ⟨rfl,hb⟩
  have HB3:=ae (aY HB2.o hb)
  clear hb
  go_wp2_with fail
  go_returns
  exact⟨by rw[FP.o];simp,HB3.o⟩
 rw[hT] at HTT
 have hok: ∀r∈c.heaps,0<=r.1/\r.1<=r.2/\r.2<=100/\1<=eu r/\eu r<=101:=fun r hr=>yg (ku.1 hA r hr)
 have FP:Hid (res=if 2000<uw c.heaps then 3 else 0):=ae (by rw[XU.o,ak];simp[hA,hK,hT])
 have jw:=ae hok
 clear hA hK hT hok
 go_enter Tryz.func139,Tryz.ntmps139
 go_wp2_with fail
 refine zg 6 [] none [] ?_
 simp only[zt]
 repeat (refine zn ?_;simp only[zp])
 intro W hE hF
 obtain⟨hc,hf⟩:=bK hE.below
 have hzE:=hE.size
 (try simp only[bu] at hzE)
 have HB0:=ae (show Below w.heap.size w W from aY (aj (aH _ _) _) hE.below)
 have hk0:W.heap[w.heap.size]? =some (.cells #[.slice oh c.heaps.length ch,.slice ok c.aU.length ck,.slice ot c.aJ.length ct] 60 (0,0)):=(hE.block _ (by simp) (by simp)).trans (ay _ _)
 clear hE hF hc hf hzE
 obtain⟨d0,f0,m0⟩:=af hk0
 clear hk0
 go_wp2_with fail
 refine(HR.o _ HB0.o).mono ?_
 rintro e w1 ⟨rfl,hb⟩
 obtain⟨dd,ff⟩:=bK hb
 have hl1:=fH m0 hb.size
 have HB1:=ae (aY HB0.o hb)
 clear hb
 go_wp2_with fail
 refine(HKK.o _ HB1.o).mono ?_
 rintro e w2 ⟨rfl,hb⟩
 obtain⟨dd2,ff2⟩:=bK hb
 have hl2:=fH hl1 hb.size
 have HB2:=ae (aY HB1.o hb)
 clear hb
 go_wp2_with fail
 refine(HTT.o _ HB2.o).mono ?_
 rintro e w3 ⟨rfl,hb⟩
 obtain⟨dd3,ff3⟩:=bK hb
 have hl3:=fH hl2 hb.size
 have HB3:=ae (aY HB2.o hb)
 clear hb
 go_wp2_with fail
 have HC3:=ae (show ∀i,w3.cell? ⟨w.heap.size,i,none⟩=(#[.slice oh c.heaps.length ch,.slice ok c.aU.length ck,.slice ot c.aJ.length ct]:Array Value)[i]? from fun i=>(dd3 _ _ hl2).trans ((dd2 _ _ hl1).trans ((dd _ _ m0).trans (d0 i))))
 clear d0 f0 m0 dd ff dd2 ff2 dd3 ff3 hl1 hl2 hl3
 go_loopw [5,57] (fun m i wr=> ∃k:Nat,k<=c.heaps.length/\i= .int .i64 k/\m= .int .i64 (uQ c.heaps k)/\Below w.heap.size w wr) (fun _ i _=>c.heaps.length-(intOf i).toNat)
 case atStart=>exact⟨0,bQ _,rfl,rfl,HB3.o⟩
 case round=>
  obtain⟨k,hk,rfl,rfl,hB⟩:=hrel
  have hv:=HHP.o wr hB
  by_cases hlt:k<c.heaps.length
  ·obtain⟨b,off,hoo,hb,hc0,hc1⟩:=bT.cell hv hlt
   cases hoo
   have hr:=jw.o _ (dh hlt)
   have hs:=Ib c.heaps k hlt
   have hbd:=PZ c.heaps (fun r hr=>(jw.o r hr).2.2.2.1) k
   generalize c.heaps[k]=r at hc0 hc1 hr hs
   obtain⟨hr1,hr2,hr3,hr4,LZ⟩:=hr
   unfold rP at hs
   generalize uQ c.heaps k=cc at hs hbd
   obtain⟨hb1,hb2⟩:=hbd
   have HS:=ae hs
   have HB:=ae hB
   clear hs hv hB
   have hmul:0<=cc*eu r/\cc*eu r<=2001*101:=⟨Int.mul_nonneg (by omega) (by omega),Int.mul_le_mul hb2 LZ (by omega) (by omega)⟩
   obtain⟨hm1,hm2⟩:=hmul
   go_wp2_with fail
   refine(J5 r _ hr1 hr2 (by omega)).mono ?_
   rintro e w4 ⟨rfl,hb3⟩
   obtain⟨hc,hf⟩:=bK hb3
   go_wp2_with fail
   refine(OE (cc*eu r) 2001 _ _ _ ?_ ?_).mono ?_
   ·go_simp
   ·go_simp
   rintro e w5 ⟨rfl,hb4⟩
   go_wp2_with fail
   go_roundw
   case rel=>exact⟨k+1,by omega,by go_num,by rw[HS.o],aY (aj (aY (aj HB.o _) hb3) _) hb4⟩
   case measure=>simp[intOf];omega
  ·have hkl:k=c.heaps.length:=by omega
   have hend:=Kz c.heaps (fun r hr=>(jw.o r hr).2.2.2.1)
   have hr:=FP.o
   rw[<-hkl] at hend
   generalize uQ c.heaps k=cc at hend
   clear hv
   by_cases hc:2000<cc
   ·rw[aF (hend.1 hc)] at hr
    have HRR:=ae hr
    clear hr hend
    go_wp2_with fail
    go_returns
    exact⟨by rw[HRR.o];simp,hB⟩
   ·rw[ak (fun x=>hc (hend.2 x))] at hr
    have HRR:=ae hr
    clear hr hend
    go_wp2_with fail
    go_returns
    exact⟨by rw[HRR.o];simp,hB⟩
end
theorem GM (c:bM) (hv nZ tv:Value) (es:List KE) (w:World) (hc:rJ w hv nZ tv es c):Calls Tryz.prog 139 #[kv hv nZ tv] w (PV (iv (qj c)) w):=by
 obtain⟨oh,ch,rfl⟩:=hc.heaps.open
 obtain⟨ok,ck,rfl⟩:=hc.aU.open
 obtain⟨ot,ct,rfl⟩:=hc.aJ.open
 rw[hc.len] at hc⊢
 unfold qj
 by_cases hl:3<c.heaps.length∨3<c.aU.length∨5<c.aJ.length
 ·rw[aF hl];exact Zw c oh ok ot ch ck ct w hl
 rw[ak hl]
 by_cases h4:c.heaps.length=0
 ·rw[aF (.inl h4)]
  exact Wv c oh ok ot ch ck ct w (by omega) (by omega) (by omega) (by simpa using h4)
 ·refine Wu c oh ok ot ch ck ct w es hc (by omega) (by omega) (by omega) (by simpa using h4) _ ?_
  simp only[h4,false_or]
end Go.Proofs.YthllkbbbapgelaaGreatDoor.AQ
end
section
namespace Go.Proofs.YthllkbbbapgelaaGreatDoor.AQ
open Go.RowKit Go.RG Go.SL Go.Shelf jy Go.TB
attribute [local go_sem] Oper.semAt_some
theorem VG (r:dR):(sZ r).Pairwise (· ≠ ·):=by
 unfold sZ
 rw[List.pairwise_map]
 exact List.nodup_range.imp (fun h e=>h (by omega))
theorem Y3: ∀(rs:List dR),(fB rs).Pairwise (· ≠ ·):=by
 intro rs
 induction rs with
 |nil=>simp[fB]
 |cons r rs ih=>
  refine uX _ _ _ (fun x _=>?_) ?_
  ·rw[List.pairwise_map]
   exact ih.imp (fun h e=>h (List.cons.inj e).2)
  ·refine(VG r).imp (fun {a b} h u hu v hv e=>?_)
   obtain⟨s,_,rfl⟩:=jc.1 hu
   obtain⟨t,_,rfl⟩:=jc.1 hv
   exact h (List.cons.inj e).1
theorem QQ (c:bM) (out:List Int):(dF c out).Pairwise (· ≠ ·):=(Y3 c.heaps).filter _
theorem Zb {a b:List Int} (h:a.length=b.length) (e:kM a=kM b):a=b:=by
 unfold kM at e
 exact(List.append_inj e h).1
theorem afX:iQ Tryz.prog 277 283 (.agg #[iv 0,iv 0,iv 0]) 3 24:=⟨Tryz.underlying277,by kernel_rfl,rfl,by omega⟩
structure Qv (B:Nat) (hv nZ tv:Value) (ls:List (List Int)) (Ms:List Nat) (W:World):Prop where
 work: ∃v,W.heap[B]? =some (.cells #[hv,nZ,tv,v] 279 (0,0))/\W.ownsRow (B+6) 283 3 v ls.length (ls.flatMap ah)/\ ∀g,v.ownBlock=some g->g∉Ms/\g<W.heap.size
 ptr:W.heap[B+1]? =some (.cells #[.pointer (some ⟨B,0,none⟩)] 180 (0,0))
 b2:W.heap[B+2]? =some (.cells #[hv,nZ,tv] 60 (0,0))
 b3:W.heap[B+3]? =some (.cells #[.slice none 0 0] 52 (0,0))
theorem Qv.kept {B:Nat} {hv nZ tv:Value} {ls:List (List Int)} {Ms Ms':List Nat} {W W':World} (h:Qv B hv nZ tv ls Ms W) (hs:W.heap.size<=W'.heap.size) (hk: ∀b,B<=b->b<B+4->W'.heap[b]? =W.heap[b]?)
 (ho: ∀g,B+6<=g->g<W.heap.size->g∉Ms->W'.heap[g]? =W.heap[g]?) (hM: ∀m∈Ms',m∈Ms∨(W.heap.size<=m/\m<W'.heap.size)):Qv B hv nZ tv ls Ms' W':=by
 obtain⟨v,h1,h2,h3⟩:=h.work
 refine⟨⟨v,(hk _ (by omega) (by omega)).trans h1,dn h2 fun g hg=>ho g (bD h2 g hg).1 (bD h2 g hg).2 (h3 g hg).1,fun g hg=>⟨fun hm=>?_,by have:=(h3 g hg).2;omega⟩⟩,
  (hk _ (by omega) (by omega)).trans h.ptr,(hk _ (by omega) (by omega)).trans h.b2,(hk _ (by omega) (by omega)).trans h.b3⟩
 rcases hM g hm with h4|h4
 ·exact(h3 g hg).1 h4
 ·have:=(h3 g hg).2;omega
structure TT (W:World) (wb:Nat) (hv nZ tv v:Value) (ls:List (List Int)):Prop where
 cells:W.heap[wb]? =some (.cells #[hv,nZ,tv,v] 279 (0,0))
 truth:aN 3 W v ls.length (ls.flatMap ah)
theorem TT.lt {W:World} {wb:Nat} {hv nZ tv v:Value} {ls:List (List Int)} (h:TT W wb hv nZ tv v ls):wb<W.heap.size:=(aS.1 h.cells).1
theorem TT.below {W W':World} {wb:Nat} {hv nZ tv v:Value} {ls:List (List Int)} (h:TT W wb hv nZ tv v ls) {B:Nat} (hb:Below B W W') (hB:W.heap.size<=B):TT W' wb hv nZ tv v ls:=
 ⟨(hb.block _ (by have:=h.lt;omega)).trans h.cells,h.truth.below hb hB⟩
def abk (c:bM) (hv nZ tv:Value) (fine:Bool) (w:World) (e:Ending) (w':World):Prop:=
 Below w.heap.size w w'/\((jb c fine≠0/\e= .returned (.tuple #[.pointer none,.int .i64 (jb c fine)]))∨
  (jb c fine=0/\ ∃(wb:Nat) (v:Value),e= .returned (.tuple #[.pointer (some ⟨wb,0,none⟩),.int .i64 0])/\w.heap.size<=wb/\TT w' wb hv nZ tv v ((dF c []).map kM)))
theorem RV (c:bM) (hv nZ tv:Value) (es:List KE) (g:Nat) (caps:Array Value) (fine:Bool) (w:World) (hc:rJ w hv nZ tv es c) (eg: ∀args w,(callFunc g args).run Tryz.prog w= .ok (.enter g args) w)
 (OY: ∀W,Below w.heap.size w W->Calls Tryz.prog g caps W (PV (.bool fine) W)):
 Calls Tryz.prog 81 #[kv hv nZ tv,.func (.func g) #[] caps] w (abk c hv nZ tv fine w):=by
 obtain⟨oh,ch,rfl⟩:=hc.heaps.open
 obtain⟨ok,ck,rfl⟩:=hc.aU.open
 obtain⟨ot,ct,rfl⟩:=hc.aJ.open
 have hel:=hc.len
 rw[hel] at hc⊢
 have HC':Hid (∀W,Below w.heap.size w W->rJ W (.slice oh c.heaps.length ch) (.slice ok c.aU.length ck) (.slice ot c.aJ.length ct) es c):=ae (fun W hb=>hc.below hb (ai _))
 have HF:=ae OY
 have HCK:=ae (fun(W:World) (hb:Below w.heap.size w W)=>GM c (.slice oh c.heaps.length ch) (.slice ok c.aU.length ck) (.slice ot c.aJ.length ct) es W (hc.below hb (ai _)))
 clear hc OY hel
 by_cases hf0:qj c=0
 case neg=>
  have HE:Hid (jb c fine=qj c/\jb c fine≠0):=ae (by unfold jb;rw[aF hf0];exact⟨rfl,hf0⟩)
  generalize hff:qj c=e at*
  clear hff
  go_enter Tryz.func81,Tryz.ntmps81
  go_wp2_with fail
  refine(HCK.o _ (aj (aH _ _) _)).mono ?_
  rintro e w' ⟨rfl,hb⟩
  go_wp2_with fail
  go_returns
  exact⟨zl,.inl ⟨HE.o.2,by rw[HE.o.1];simp⟩⟩
 rw[hf0] at HCK
 have oW:=ae (JA hf0)
 have HF0:=ae hf0
 clear hf0
 cases fine
 ·have HE:Hid (jb c false=2):=ae (by unfold jb;rw[ak (by rw[HF0.o];simp),aF rfl])
  go_enter Tryz.func81,Tryz.ntmps81
  go_wp2_with fail
  refine(HCK.o _ (aj (aH _ _) _)).mono ?_
  rintro e w' ⟨rfl,hb⟩
  have HB1:=ae (show Below w.heap.size w w' from zl)
  clear hb
  go_wp2_with fail
  refine(HF.o _ HB1.o).mono ?_
  rintro e w2 ⟨rfl,hb⟩
  have HB2:=ae (aY HB1.o hb)
  clear hb
  go_wp2_with fail
  go_returns
  exact⟨HB2.o,.inl ⟨by rw[HE.o];simp,by rw[HE.o];simp⟩⟩
 have HE:Hid (jb c true=if(dF c []).isEmpty then 11 else 0):=ae (by unfold jb;rw[ak (by rw[HF0.o];simp),ak (by simp)])
 refine(callsIn_wide (n:=0)).1 ?_
 refine callsIn_of_wp_marks Tryz.func81 rfl trivial ?_
 simp only[Tryz.ntmps81,List.size_toArray,List.length_cons,List.length_nil,Nat.reduceAdd,Nat.reduceSub,Array.replicate_succ,Array.replicate_zero,kQ,kR,List.nil_append,List.cons_append]
 gi_wp2_with fail
 refine(callsIn_wide.2 (HCK.o _ (aj (aH _ _) _))).mono ?_
 rintro e w1 ⟨rfl,hb⟩
 obtain⟨hc1,hf1⟩:=bK hb
 have hz1:w.heap.size<w1.heap.size:=by have:=hb.size;simp at this;omega
 have HB1:=ae (show Below w.heap.size w w1 from zl)
 clear hb
 gi_wp2_with fail
 refine(callsIn_wide.2 (HF.o _ HB1.o)).mono ?_
 rintro e w2 ⟨rfl,hb⟩
 obtain⟨hc2,hf2⟩:=bK hb
 have hz2:w.heap.size<w2.heap.size:=by have:=hb.size;omega
 have HB2:=ae (aY HB1.o hb)
 clear hb
 gi_wp2_with fail
 refine(callsIn_wide.2 (OA _ _ _ none 0 0 _)).mono ?_
 rintro e w3 ⟨rfl,rfl⟩
 gi_wp2_with fail
 have hseq:=fun bf bo=>Oz c oW.o oh ok ot ch ck ct (.slice none 0 0) es [] bf bo
 obtain⟨hv,hhv⟩: ∃hv,Value.slice oh c.heaps.length ch=hv:=⟨_,rfl⟩
 obtain⟨nZ,agZ⟩: ∃nZ,Value.slice ok c.aU.length ck=nZ:=⟨_,rfl⟩
 obtain⟨tv,J8⟩: ∃tv,Value.slice ot c.aJ.length ct=tv:=⟨_,rfl⟩
 rw[hhv,agZ,J8] at hseq HC'⊢
 obtain⟨B,mZ⟩: ∃B,w2.heap.size=B:=⟨_,rfl⟩
 rw[mZ]
 obtain⟨w4,hw4⟩: ∃w4,((((w2.alloc (.cells #[hv,nZ,tv,.slice none 0 0] 279)).alloc (.cells #[.pointer (some ⟨B,0,none⟩)] 180)).alloc (.cells #[hv,nZ,tv] 60)).alloc (.cells #[.slice none 0 0] 52))=w4:=⟨_,rfl⟩
 have aef:w4.heap.size=B+4:=by rw[<-hw4];simp;omega
 have hwB:w.heap.size<B:=by omega
 have HB4:Hid (Below w.heap.size w w4):=ae (by rw[<-hw4];exact aj (aj (aj (aj HB2.o _) _) _) _)
 have HA4:Hid (Qv B hv nZ tv [] [] w4):=ae (by
  rw[<-hw4]
  refine⟨⟨.slice none 0 0,?_,⟨rfl,.inl ⟨rfl,rfl⟩⟩,fun g hg=>by cases hg⟩,?_,?_,?_⟩
  ·rw[<-mZ];exact(aV _ _ _ (by simp;omega)).trans ((aV _ _ _ (by simp;omega)).trans ((aV _ _ _ (by simp)).trans (ay _ _)))
  ·rw[<-mZ];exact(aV _ _ _ (by simp)).trans ((aV _ _ _ (by simp)).trans (dV _ _ _))
  ·rw[<-mZ];exact(aV _ _ _ (by simp)).trans (iq _ _ _ _)
  ·rw[<-mZ];exact mg _ _ _ _ _)
 rw[hw4]
 clear hw4 hc1 hf1 hz1 hc2 hf2
 have Ey: ∀b,b∈[w.heap.size,B,B+1,B+2,B+3,B+4,B+5]↔b=w.heap.size∨(B<=b/\b<B+6):=fun b=>by simp;omega
 obtain⟨Os,G9⟩: ∃Os,[w.heap.size,B,B+1,B+2,B+3,B+4,B+5]=Os:=⟨_,rfl⟩
 rw[G9] at Ey
 clear G9
 refine mP (hseq (B+1+1) (B+1+1+1)) rfl (enters_of Tryz.func229 (by kernel_rfl) rfl) rfl (by simp)
  (fun Ms k W=>IB w Os Ms W/\Qv B hv nZ tv (((dF c []).take k).map kM) Ms W)
  (fun _ _ _=>False)
  ?hInv ?pK ?hI ?hIx ?Ja ?tX ?h0
  (fun a Ms k W1 a₁ W=> ∃(x:List Int) (bt:Nat),(dF c [])[k]? =some x/\a₁={tmps:=(a.tmps.setIfInBounds 24 (lY (kM x))).setIfInBounds 8 (.pointer (some ⟨bt,0,none⟩)),defers:=[]}/\
    (IB w Os Ms W/\Qv B hv nZ tv (((dF c []).take k).map kM) Ms W)/\(W.heap[bt]? =some (.cells (ah (kM x)).toArray 283 (0,0))/\B+6<=bt/\bt∉Ms/\(∀v,W.heap[B]? =some (.cells #[hv,nZ,tv,v] 279 (0,0))->v.ownBlock≠some bt))/\
    (∀m∈Ms,m∉([]:List Nat)->m<W1.heap.size->W.heap[m]? =W1.heap[m]?)/\W1.heap.size<=W.heap.size)
  ?MB ?hassign ?hbody ?hdone ?hstop
 case hInv=>
  rintro Ms k W ⟨hF,hP⟩
  exact⟨hP.b2,hP.b3,HC'.o W hF.ext,aN.nil 1 W⟩
 case pK=>rintro cd Ms W h;exact h.elim
 case hI=>
  rintro Ms Ms' k Wa Wb ⟨hF,hP⟩ hE hMs _
  exact⟨(hF.iV hE hMs).1,hP.kept hE.size (fun b h1 h2=>(hF.iV hE hMs).2 b ((Ey b).2 (by omega))) (fun g h1 h2 h3=>hE.block g h2 h3) hMs⟩
 case hIx=>rintro cd Ms Ms' Wa Wb h;exact h.elim
 case Ja=>
  rintro Ms k W r ob ⟨hF,hP⟩ hr
  exact⟨hF.put ob (by omega),hP.kept (by simp) (fun b h1 h2=>World.putObj_heap_other (by omega)) (fun g h1 h2 h3=>World.putObj_heap_other (by omega)) (fun m hm=> .inl hm)⟩
 case tX=>rintro cd Ms W r ob h;exact h.elim
 case h0=>
  intro o1 o2
  refine⟨⟨aj (aj HB4.o _) _,by simp,by simp,fun b hb=>⟨by simp,by have:=(Ey b).1 hb;simp;omega⟩⟩,?_⟩
  rw[List.take_zero]
  exact HA4.o.kept (by simp;omega) (fun b h1 h2=>(aV _ _ _ (by simp;omega)).trans (aV _ _ _ (by omega))) (fun g h1 h2 h3=>by omega) (fun m hm=> .inl hm)
 case MB=>
  rintro Ms k W1 a₁ W ob ⟨x,bt,hx,ha,⟨hF,hP⟩,⟨hbt,hb6,hbM,hbv⟩,hk,hs⟩
  have hap:=(hF.apart (B+5) ((Ey _).2 (by omega))).1
  refine⟨x,bt,hx,ha,⟨hF.put ob (by omega),hP.kept (by simp) (fun b h1 h2=>World.putObj_heap_other (by omega)) (fun g h1 h2 h3=>World.putObj_heap_other (by omega)) (fun m hm=> .inl hm)⟩,
   ⟨(World.putObj_heap_other (by omega)).trans hbt,hb6,hbM,fun v hv=>hbv v ((World.putObj_heap_other (by omega)).symm.trans hv)⟩,
   fun m hm h0 hml=>(World.putObj_heap_other (fun e=>hap (by rw[show B+5=m by omega];exact hm))).trans (hk m hm h0 hml),by simpa using hs⟩
 case hassign=>
  rintro Ms k v W hk ⟨hF,hP⟩ hE hlt
  obtain rfl:v=lY (kM (dF c [])[k]):=hE
  have hxk:(dF c [])[k]? =some (dF c [])[k]:=dw hk
  have hxl:=(tC oW.o (mQ _ (dh hk))).1
  generalize (dF c [])[k]=x at*
  have UM:=oW.o.h3
  obtain⟨y0,y1,y2,hys⟩:=nN (yf (x:=x) (by omega))
  have hYS:=ae hys
  rw[hys]
  rw[show lY [y0,y1,y2]= .agg #[iv y0,iv y1,iv y2] from rfl]
  gi_wp2
  have hB':Below W.heap.size W (W.alloc (.cells #[iv y0,iv y1,iv y2] 283)):=aj (aH _ _) _
  refine⟨⟨x,W.heap.size,hxk,?_,⟨(hF.iV (Ext.aA hB') (fun m hm=> .inl hm)).1,hP.kept (by simp) (fun b h1 h2=>aV _ _ _ (by omega)) (fun g h1 h2 h3=>aV _ _ _ (by omega)) (fun m hm=> .inl hm)⟩,
   ⟨?_,by omega,fun hm=>by have:=hF.bnd _ hm;omega,fun v hv e=>?_⟩,fun m hm h0 hml=>aV _ _ _ (by omega),by simp⟩,aV _ _ _ (by omega),aV _ _ _ (by omega)⟩
  ·rw[hYS.o];rfl
  ·rw[hYS.o];exact ay _ _
  ·obtain⟨v0,h1,h2,h3⟩:=hP.work
   have h4:=(aV _ _ _ (by omega)).symm.trans hv
   rw[h1] at h4
   simp only[Option.some.injEq,Obj.cells.injEq,and_true,Array.mk.injEq,List.cons.injEq,true_and] at h4
   subst h4
   have:=(h3 _ e).2
   omega
 case hbody=>
  rintro Ms k W1 a₁ W7 busy hk ⟨x,bt,hx,rfl,⟨hF,hP⟩,⟨hbt,hb6,hbM,hbv⟩,hkeep,hsz⟩ hrec hD
  simp only[rf,List.set_cons_succ,List.set_cons_zero]
  obtain⟨v,hv1,hv2,hv3⟩:=hP.work
  obtain⟨vo,vc,rfl⟩:=aW hv2
  have Z8:=hbv _ hv1
  obtain⟨c1,f1,l1⟩:=af hP.ptr
  have hxm:=tC oW.o (mQ _ (ni hx))
  have UM:=oW.o.h3
  obtain⟨ys,OT⟩: ∃ys,kM x=ys:=⟨_,rfl⟩
  have hyl:ys.length=3:=by rw[<-OT];exact yf (by omega)
  obtain⟨y0,y1,y2,hys⟩:=nN hyl
  have G8:=hbt
  rw[OT,hys] at G8
  have G8:W7.heap[bt]? =some (.cells #[iv y0,iv y1,iv y2] 283 (0,0)):=G8
  obtain⟨c3,f3,l3⟩:=af G8
  have hwM:=(hF.apart w.heap.size ((Ey _).2 (.inl rfl))).1
  have agR:((dF c []).take (k+1)).map kM=((dF c []).take k).map kM++[ys]:=by
   rw[qY,hx];simp[OT]
  have aeq:k<=2000:=by have:=uV oW.o [];omega
  have hlk:(((dF c []).take k).map kM).length=k:=by simp;omega
  have h3s: ∀z∈((dF c []).take k).map kM,z.length=3:=fun z hz=>by
   obtain⟨t,ht,rfl⟩:=jc.1 hz
   have:=tC oW.o (mQ _ (kP ht))
   exact yf (by omega)
  have hne: ∀A z,((dF c []).take k).map kM=A++[z]->(z==ys)=false:=fun A z he=>by
   rw[Io]
   rintro rfl
   have hkp:0<k:=by
    cases k with
    |zero=>simp at he
    |succ k=>omega
   have hkj:k-1<(dF c []).length:=by omega
   have h1:(((dF c []).take k).map kM)[k-1]? =some z:=by
    rw[he,oG (by have:=congrArg List.length he;simp at this;omega)]
    have:=congrArg List.length he
    rw[hlk,dm,List.length_singleton] at this
    rw[show k-1-A.length=0 from by omega];rfl
   rw[qy,List.getElem?_take_of_lt (by omega),dw hkj] at h1
   have h2:kM (dF c [])[k-1]=kM x:=by rw[OT];exact jD h1
   have h3:=tC oW.o (mQ _ (dh hkj))
   have h4:=Zb (by rw[h3.1,hxm.1]) h2
   obtain⟨hk',hx'⟩:=je.1 hx
   exact(List.pairwise_iff_getElem.1 (QQ c [])) (k-1) k hkj hk' (by omega) (by rw[h4,hx'])
  replace hlk:(((dF c []).take k).map kM).length<=2000:=by rw[hlk];exact aeq
  have yM:=ae hF
  have Vb:=ae hP
  have HV:=ae (ag hv1 (ag hv2 hv3))
  have Cc:=ae (ag hys hyl)
  have HK:=ae (ag hkeep (ag hrec hD))
  have HBT:=ae G8
  have HBV:=ae Z8
  have aio:=ae agR
  have H3:=ae h3s
  have KN:=ae hne
  have hap: ∀b∈Os,b∉Ms/\b<W7.heap.size:=hF.apart
  have hin: ∀b,B<=b->b<B+6->b∈Os:=fun b h1 h2=>(Ey b).2 (by omega)
  have hw7:w.heap.size<W7.heap.size:=(hap _ ((Ey _).2 (.inl rfl))).2
  obtain⟨c2,f2,q2⟩:=af hv1
  clear hF hP hv1 hv2 hv3 hx hys OT hxm hyl hkeep hrec hD hbt G8 hbv Z8 agR h3s hne
  generalize ((dF c []).take (k+1)).map kM=ls' at*
  generalize ((dF c []).take k).map kM=ls at*
  gi_wp2_with fail
  rcases(List.eq_nil_or_concat ls).imp id (fun⟨A,z,e⟩=>(⟨A,z,e.trans (List.concat_eq_append)⟩: ∃A z,ls=A++[z])) with rfl|⟨A,z,rfl⟩
  ·simp only[List.length_nil] at c2 HV HBV
   refine dP 22 [] none [] (by kernel_rfl) (by kernel_rfl) (by kernel_rfl) ?_
   simp only[zt]
   repeat ((first|refine zn ?_|refine zk ?_);simp only[zp])
   intro W hE hF
   obtain⟨hc,hf⟩:=bK hE.below
   have hzE:=hE.size
   (try simp only[bu] at hzE)
   have lV:Ext [] W7 W:=hE
   have IJ:Qv B hv nZ tv ([]) Ms W:=Vb.o.kept lV.size (fun b h1 h2=>lV.block b (by have:=(hap b (hin b h1 (by omega))).2;omega) (by simp)) (fun g h1 h2 h3=>lV.block g h2 (by simp)) (fun m hm=> .inl hm)
   have G7:=(lV.block _ (aS.1 HBT.o).1 (by simp)).trans HBT.o
   obtain⟨v8,tN,tK,Ah⟩:=IJ.work
   have GU:v8= .slice (vo) (0) vc:=by
    have h4:=(lV.block _ q2 (by simp)).trans HV.o.1
    rw[tN] at h4
    simp only[Option.some.injEq,Obj.cells.injEq,and_true,Array.mk.injEq,List.cons.injEq,true_and] at h4
    exact h4
   rw[GU] at tN tK Ah
   clear GU
   (try simp only[List.length_nil] at tK)
   (try simp only[dm,List.length_cons,List.length_nil,Nat.zero_add] at tK)
   obtain⟨p1,p2,p3⟩:=af (show W.heap[B+1]? =some (.cells #[.pointer (some ⟨B,0,none⟩)] 180 (0,0)) from IJ.ptr)
   obtain⟨p4,p5,p6⟩:=af (show W.heap[B]? =some (.cells #[hv,nZ,tv,.slice (vo) (0) vc] 279 (0,0)) from tN)
   obtain⟨p7,p8,p9⟩:=af G7
   have aeg:=lV.size
   have KJ:=ae IJ
   have IL:=ae (ag tN (ag tK Ah))
   have ja:=ae lV
   clear hE hF hc hf lV IJ tN tK Ah G7 c1 f1 l1 c2 f2 q2 c3 f3 l3 hzE
   obtain⟨gx,hgx,aca,hgx2,BA,ab9⟩: ∃gx,(∀g,(Value.slice (vo) (0) vc).ownBlock=some g->g=gx)/\(gx=w.heap.size∨B+6<=gx)/\gx<W.heap.size/\gx∉Ms/\gx≠bt:=by
    cases Aj:(Value.slice (vo) (0) vc).ownBlock with
    |none=>exact⟨w.heap.size,(fun g hg=>by cases hg),.inl rfl,by omega,hwM,by omega⟩
    |some g=>
     have h1:=bD IL.o.2.1 g Aj
     have h2:=IL.o.2.2 g Aj
     exact⟨g,(fun g' hg=>by cases hg;rfl),.inr h1.1,h1.2,h2.1,fun e=>HBV.o (by rw[Aj,e])⟩
   have HG:=ae hgx
   clear hgx
   have z1:gx≠B:=by omega
   have z2:gx≠B+1:=by omega
   have z1':B≠gx:=by omega
   have z2':B+1≠gx:=by omega
   have z3':bt≠gx:=by omega
   gi_wp2_with fail
   refine dP 8 [gx] (some 7) [(6,Spec.slice W.heap.size #[iv y0,iv y1,iv y2] 283 1),(7,⟨fun _ v=> ∃o c,v= .slice o (0+1) c,fun _ v Wx=>Wx.ownsRow (B+6) 283 3 v (0+1) ((([])++[ys]).flatMap ah)/\(∀g,v.ownBlock=some g->g=gx∨W.heap.size<=g)⟩)] (by kernel_rfl) (by kernel_rfl) (by kernel_rfl) ?_
   simp only[zt]
   repeat ((first|refine zn ?_|refine zk ?_);simp only[zp])
   refine dY W.heap.size _ _ 1 (by rfl) (ai _) (by rfl) (by simpa using hgx2) (by simp) (fun W hW=>by go_simp;try rfl) (fun b6=>?_)
   simp only[zp]
   refine bG _ (by rfl) (by rfl) (by exact⟨.slice none (0+1) 0,none,0,rfl⟩) (fun Wa hE hF=>?_) (fun v Wa Wb ho hE=>?_) (fun v hv=>?_)
   ·have hE':Ext [] W Wa:=hE
    obtain⟨b',hb',hge,hcc⟩:=hF _ (bF _) (by kernel_rfl)
    cases hb'
    have hown6:=aC (Ms:=[]) IL.o.2.1 hE' (by simp)
    have hsrc:aN 3 Wa (.slice (some ⟨b6,0,none⟩) 1 1) 1 (ah ys):=by
     rw[Cc.o.1]
     exact aN.dB 3 1 hcc rfl (by decide)
    refine Does.mono (dM afX (by rfl) (by rfl) hown6 (by rfl) hsrc (jL _) (by omega) (by omega) (by have:=hE'.size;omega)) ?_
    rintro v' Wc ⟨ho,hgr,hcase⟩
    refine⟨aW ho,⟨?_,fun g hg=>?_⟩,⟨hgr.os,hgr.tape,hgr.output,hgr.size,fun b hb hn=>hgr.block b hb (fun e=>hn (by rw[HG.o b e.symm];simp))⟩⟩
    ·rw[uZ]
     simpa using ho
    ·rcases hcase with h1|h1
     ·exact .inl (HG.o g (by rw[<-h1,hg]))
     ·rw[hg] at h1;injection h1 with h1;exact .inr (by have:=hE'.size;omega)
   ·exact⟨aC (Ms:=[]) ho.1 hE (by simp),ho.2⟩
   obtain⟨o7,c7,rfl⟩:=hv
   simp only[zp]
   intro W9 hE hF
   have hE':Ext [gx] W W9:=hE
   obtain⟨UN,I8⟩:=hF _ (bF _)
   have Ag:W9.heap[B]? =some (.cells #[hv,nZ,tv,.slice (vo) (0) vc] 279 (0,0)):=(hE'.block _ p6 (by simpa using z1')).trans IL.o.1
   obtain⟨c9,f9,l9⟩:=af Ag
   have Ce:=ae hE'
   have xk:=ae (ag UN (ag I8 Ag))
   clear hE hF hE' UN I8 p1 p2 p4 p5 p7 p8 Ag
   gi_wp2_with fail
   obtain⟨v',hv'⟩: ∃v',Value.slice o7 (0+1) c7=v':=⟨_,rfl⟩
   rw[hv'] at xk⊢
   have wO:(W9.setCell ⟨B,3,none⟩ v').heap.size=W9.heap.size:=by simp[World.setCell]
   have hs9:=Ce.o.size
   have hks: ∀b,b<W.heap.size->b≠gx->b≠B->(W9.setCell ⟨B,3,none⟩ v').heap[b]? =W.heap[b]? :=fun b hb h1 h2=>
    (dH _ _ _ _ h2).trans (Ce.o.block b hb (by simpa using h1))
   have FI: ∀b,b<W7.heap.size->b≠gx->b≠B->(W9.setCell ⟨B,3,none⟩ v').heap[b]? =W7.heap[b]? :=fun b hb h1 h2=>(hks b (by omega) h1 h2).trans (ja.o.block b hb (by simp))
   have hFB:IB w Os Ms (W9.setCell ⟨B,3,none⟩ v'):=yM.o.own (yM.o.ext.trans ⟨Ce.o.os.trans ja.o.os,Ce.o.tape.trans ja.o.tape,Ce.o.output.trans ja.o.output,by rw[wO];omega,fun b hb=>(dH _ _ _ _ (by show b≠B;omega)).trans ((Ce.o.block b (by have:=yM.o.ext.size;omega) (by simp;omega)).trans (ja.o.block b (by have:=yM.o.ext.size;omega) (by simp)))⟩) (by rw[wO];omega)
   have hlen1:(([])++[ys]).length=0+1:=by simp
   refine⟨⟨?_,?_,fun m hm h0 hml=>?_,by rw[wO];omega⟩,hFB,?_⟩
   ·exact(FI _ (by have:=(hap _ (hin (w4.heap.size+1) (by omega) (by omega))).2;omega) (by omega) (by omega)).trans HK.o.2.1
   ·exact(FI _ (by have:=(hap _ (hin w4.heap.size (by omega) (by omega))).2;omega) (by omega) (by omega)).trans HK.o.2.2
   ·exact(FI m (yM.o.bnd m hm) (fun e=>BA (e▸hm)) (fun e=>(hap B (hin _ (by omega) (by omega))).1 (e▸hm))).trans (HK.o.1 m hm h0 hml)
   rw[aio.o]
   refine⟨⟨v',aI xk.o.2.2 _,hlen1.symm▸dn xk.o.1 fun g hg=>dH _ _ _ _ (by have:=(bD xk.o.1 g hg).1;show g≠B;omega),fun g hg=>⟨fun hm=>?_,by rw[wO];exact(bD xk.o.1 g hg).2⟩⟩,?_,?_,?_⟩
   ·rcases xk.o.2.1 g hg with h1|h1
    ·exact BA (h1▸hm)
    ·have:=yM.o.bnd g hm;omega
   ·exact(hks _ (by have:=(hap _ (hin (B+1) (by omega) (by omega))).2;omega) (by omega) (by omega)).trans KJ.o.ptr
   ·exact(hks _ (by have:=(hap _ (hin (B+2) (by omega) (by omega))).2;omega) (by omega) (by omega)).trans KJ.o.b2
   ·exact(hks _ (by have:=(hap _ (hin (B+3) (by omega) (by omega))).2;omega) (by omega) (by omega)).trans KJ.o.b3
  ·have hz3:=H3.o z (by simp)
   obtain⟨gb,gc,hvv,hgb,SE,LY⟩:=CY (A:=A) (z:=z) (by simpa using HV.o.2.1) (fun x hx=>H3.o x (by simp[hx])) hz3
   have hcap:vo=some ⟨gb,0,none⟩:=by simp at hvv;exact hvv.1
   subst hcap
   have hzl:(ah z).length=3:=by simp[ah,hz3]
   (try simp only[dm,List.length_cons,List.length_nil,Nat.zero_add] at c2)
   (try simp only[dm,List.length_cons,List.length_nil,Nat.zero_add] at HV)
   (try simp only[dm,List.length_cons,List.length_nil,Nat.zero_add] at HBV)
   (try simp only[dm,List.length_cons,List.length_nil,Nat.zero_add] at hlk)
   have hAI:((A.length:Int)+1==0)=false:=by simp;omega
   have hA0: ¬((A.length:Int)+1=0):=by omega
   have hA1:((A.length:Int)+1).toNat=A.length+1:=by omega
   have hAm:(A.length:Int)+1-1=A.length:=by omega
   have hy3:ys.length=3:=Cc.o.2
   have hq:=KN.o A z rfl
   refine dP 22 [] none [] (by kernel_rfl) (by kernel_rfl) (by kernel_rfl) ?_
   simp only[zt]
   repeat ((first|refine zn ?_|refine zk ?_);simp only[zp])
   refine fZ (by rfl) (.pointer (some ⟨gb,A.length*3,none⟩)) (by rfl) (fun W hW=>by go_simp;(try simp(disch:=omega) only[IntWalk.i64_in]);(try rw[aF (by omega)]);(try simp);(try (intro hx;exfalso;omega))) ?_
   simp only[zp]
   refine fZ (by rfl) (.agg (ah z).toArray) (by rfl) (fun W hW=>kN 283 _ (by rfl) gb (A.length*3) (by rfl) (ah z) _ (fun j u hj=>(hW gb _ SE (by simp)).trans (LY j u hj)) Tryz.underlying283 rfl (by rw[hzl];kernel_rfl)) ?_
   simp only[zp]
   refine fZ (by rfl) (.agg #[iv y0,iv y1,iv y2]) (by rfl) (fun W hW=>by go_simp;try rfl) ?_
   simp only[zp]
   refine fZ (by rfl) (.bool true) (by rfl) (fun W hW=>(nT 283 3 _ 3 _ _ (by rfl) Tryz.underlying283 Tryz.underlying3 (by intro w;go_simp) (by kernel_rfl) z [y0,y1,y2] (by rfl) (by rfl) hz3 (by rfl)).trans (by rw[Cc.o.1] at hq;rw[hq];rfl)) ?_
   simp only[zp]
   repeat ((first|refine zn ?_|refine zk ?_);simp only[zp])
   intro W hE hF
   obtain⟨hc,hf⟩:=bK hE.below
   have hzE:=hE.size
   (try simp only[bu] at hzE)
   have lV:Ext [] W7 W:=hE
   have IJ:Qv B hv nZ tv (A++[z]) Ms W:=Vb.o.kept lV.size (fun b h1 h2=>lV.block b (by have:=(hap b (hin b h1 (by omega))).2;omega) (by simp)) (fun g h1 h2 h3=>lV.block g h2 (by simp)) (fun m hm=> .inl hm)
   have G7:=(lV.block _ (aS.1 HBT.o).1 (by simp)).trans HBT.o
   obtain⟨v8,tN,tK,Ah⟩:=IJ.work
   have GU:v8= .slice ((some ⟨gb,0,none⟩)) ((A.length+1)) vc:=by
    have h4:=(lV.block _ q2 (by simp)).trans HV.o.1
    rw[tN] at h4
    simp only[Option.some.injEq,Obj.cells.injEq,and_true,Array.mk.injEq,List.cons.injEq,true_and] at h4
    exact h4
   rw[GU] at tN tK Ah
   clear GU
   (try simp only[List.length_nil] at tK)
   (try simp only[dm,List.length_cons,List.length_nil,Nat.zero_add] at tK)
   obtain⟨p1,p2,p3⟩:=af (show W.heap[B+1]? =some (.cells #[.pointer (some ⟨B,0,none⟩)] 180 (0,0)) from IJ.ptr)
   obtain⟨p4,p5,p6⟩:=af (show W.heap[B]? =some (.cells #[hv,nZ,tv,.slice ((some ⟨gb,0,none⟩)) ((A.length+1)) vc] 279 (0,0)) from tN)
   obtain⟨p7,p8,p9⟩:=af G7
   have aeg:=lV.size
   have KJ:=ae IJ
   have IL:=ae (ag tN (ag tK Ah))
   have ja:=ae lV
   clear hE hF hc hf lV IJ tN tK Ah G7 c1 f1 l1 c2 f2 q2 c3 f3 l3 hzE
   obtain⟨gx,hgx,aca,hgx2,BA,ab9⟩: ∃gx,(∀g,(Value.slice ((some ⟨gb,0,none⟩)) ((A.length+1)) vc).ownBlock=some g->g=gx)/\(gx=w.heap.size∨B+6<=gx)/\gx<W.heap.size/\gx∉Ms/\gx≠bt:=by
    cases Aj:(Value.slice ((some ⟨gb,0,none⟩)) ((A.length+1)) vc).ownBlock with
    |none=>exact⟨w.heap.size,(fun g hg=>by cases hg),.inl rfl,by omega,hwM,by omega⟩
    |some g=>
     have h1:=bD IL.o.2.1 g Aj
     have h2:=IL.o.2.2 g Aj
     exact⟨g,(fun g' hg=>by cases hg;rfl),.inr h1.1,h1.2,h2.1,fun e=>HBV.o (by rw[Aj,e])⟩
   have HG:=ae hgx
   clear hgx
   have z1:gx≠B:=by omega
   have z2:gx≠B+1:=by omega
   have z1':B≠gx:=by omega
   have z2':B+1≠gx:=by omega
   have z3':bt≠gx:=by omega
   gi_wp2_with fail
   refine dP 8 [gx] (some 7) [(6,Spec.slice W.heap.size #[iv y0,iv y1,iv y2] 283 1),(7,⟨fun _ v=> ∃o c,v= .slice o ((A.length+1)+1) c,fun _ v Wx=>Wx.ownsRow (B+6) 283 3 v ((A.length+1)+1) (((A++[z])++[ys]).flatMap ah)/\(∀g,v.ownBlock=some g->g=gx∨W.heap.size<=g)⟩)] (by kernel_rfl) (by kernel_rfl) (by kernel_rfl) ?_
   simp only[zt]
   repeat ((first|refine zn ?_|refine zk ?_);simp only[zp])
   refine dY W.heap.size _ _ 1 (by rfl) (ai _) (by rfl) (by simpa using hgx2) (by simp) (fun W hW=>by go_simp;try rfl) (fun b6=>?_)
   simp only[zp]
   refine bG _ (by rfl) (by rfl) (by exact⟨.slice none ((A.length+1)+1) 0,none,0,rfl⟩) (fun Wa hE hF=>?_) (fun v Wa Wb ho hE=>?_) (fun v hv=>?_)
   ·have hE':Ext [] W Wa:=hE
    obtain⟨b',hb',hge,hcc⟩:=hF _ (bF _) (by kernel_rfl)
    cases hb'
    have hown6:=aC (Ms:=[]) IL.o.2.1 hE' (by simp)
    have hsrc:aN 3 Wa (.slice (some ⟨b6,0,none⟩) 1 1) 1 (ah ys):=by
     rw[Cc.o.1]
     exact aN.dB 3 1 hcc rfl (by decide)
    refine Does.mono (dM afX (by rfl) (by rfl) hown6 (by rfl) hsrc (jL _) (by omega) (by omega) (by have:=hE'.size;omega)) ?_
    rintro v' Wc ⟨ho,hgr,hcase⟩
    refine⟨aW ho,⟨?_,fun g hg=>?_⟩,⟨hgr.os,hgr.tape,hgr.output,hgr.size,fun b hb hn=>hgr.block b hb (fun e=>hn (by rw[HG.o b e.symm];simp))⟩⟩
    ·rw[uZ]
     simpa using ho
    ·rcases hcase with h1|h1
     ·exact .inl (HG.o g (by rw[<-h1,hg]))
     ·rw[hg] at h1;injection h1 with h1;exact .inr (by have:=hE'.size;omega)
   ·exact⟨aC (Ms:=[]) ho.1 hE (by simp),ho.2⟩
   obtain⟨o7,c7,rfl⟩:=hv
   simp only[zp]
   intro W9 hE hF
   have hE':Ext [gx] W W9:=hE
   obtain⟨UN,I8⟩:=hF _ (bF _)
   have Ag:W9.heap[B]? =some (.cells #[hv,nZ,tv,.slice ((some ⟨gb,0,none⟩)) ((A.length+1)) vc] 279 (0,0)):=(hE'.block _ p6 (by simpa using z1')).trans IL.o.1
   obtain⟨c9,f9,l9⟩:=af Ag
   have Ce:=ae hE'
   have xk:=ae (ag UN (ag I8 Ag))
   clear hE hF hE' UN I8 p1 p2 p4 p5 p7 p8 Ag
   gi_wp2_with fail
   obtain⟨v',hv'⟩: ∃v',Value.slice o7 ((A.length+1)+1) c7=v':=⟨_,rfl⟩
   rw[hv'] at xk⊢
   have wO:(W9.setCell ⟨B,3,none⟩ v').heap.size=W9.heap.size:=by simp[World.setCell]
   have hs9:=Ce.o.size
   have hks: ∀b,b<W.heap.size->b≠gx->b≠B->(W9.setCell ⟨B,3,none⟩ v').heap[b]? =W.heap[b]? :=fun b hb h1 h2=>
    (dH _ _ _ _ h2).trans (Ce.o.block b hb (by simpa using h1))
   have FI: ∀b,b<W7.heap.size->b≠gx->b≠B->(W9.setCell ⟨B,3,none⟩ v').heap[b]? =W7.heap[b]? :=fun b hb h1 h2=>(hks b (by omega) h1 h2).trans (ja.o.block b hb (by simp))
   have hFB:IB w Os Ms (W9.setCell ⟨B,3,none⟩ v'):=yM.o.own (yM.o.ext.trans ⟨Ce.o.os.trans ja.o.os,Ce.o.tape.trans ja.o.tape,Ce.o.output.trans ja.o.output,by rw[wO];omega,fun b hb=>(dH _ _ _ _ (by show b≠B;omega)).trans ((Ce.o.block b (by have:=yM.o.ext.size;omega) (by simp;omega)).trans (ja.o.block b (by have:=yM.o.ext.size;omega) (by simp)))⟩) (by rw[wO];omega)
   have hlen1:((A++[z])++[ys]).length=(A.length+1)+1:=by simp
   refine⟨⟨?_,?_,fun m hm h0 hml=>?_,by rw[wO];omega⟩,hFB,?_⟩
   ·exact(FI _ (by have:=(hap _ (hin (w4.heap.size+1) (by omega) (by omega))).2;omega) (by omega) (by omega)).trans HK.o.2.1
   ·exact(FI _ (by have:=(hap _ (hin w4.heap.size (by omega) (by omega))).2;omega) (by omega) (by omega)).trans HK.o.2.2
   ·exact(FI m (yM.o.bnd m hm) (fun e=>BA (e▸hm)) (fun e=>(hap B (hin _ (by omega) (by omega))).1 (e▸hm))).trans (HK.o.1 m hm h0 hml)
   rw[aio.o]
   refine⟨⟨v',aI xk.o.2.2 _,hlen1.symm▸dn xk.o.1 fun g hg=>dH _ _ _ _ (by have:=(bD xk.o.1 g hg).1;show g≠B;omega),fun g hg=>⟨fun hm=>?_,by rw[wO];exact(bD xk.o.1 g hg).2⟩⟩,?_,?_,?_⟩
   ·rcases xk.o.2.1 g hg with h1|h1
    ·exact BA (h1▸hm)
    ·have:=yM.o.bnd g hm;omega
   ·exact(hks _ (by have:=(hap _ (hin (B+1) (by omega) (by omega))).2;omega) (by omega) (by omega)).trans KJ.o.ptr
   ·exact(hks _ (by have:=(hap _ (hin (B+2) (by omega) (by omega))).2;omega) (by omega) (by omega)).trans KJ.o.b2
   ·exact(hks _ (by have:=(hap _ (hin (B+3) (by omega) (by omega))).2;omega) (by omega) (by omega)).trans KJ.o.b3
 case hdone=>
  rintro Ms W ⟨hF,hP⟩ hD hlt
  rw[List.take_length] at hP
  obtain⟨v,hv1,hv2,hv3⟩:=hP.work
  obtain⟨vo,vc,rfl⟩:=aW hv2
  obtain⟨c1,f1,l1⟩:=af hP.ptr
  obtain⟨c2,f2,l2⟩:=af hv1
  have KO:=ae hF
  have HV:=ae (ag hv1 hv2)
  have hcnt:((dF c []).map kM).length<=2000:=by rw[mD];exact uV oW.o []
  have hemp:((dF c []).isEmpty=true)↔((dF c []).map kM).length=0:=by simp
  have HEM:=ae hemp
  clear hF hP hv1 hv2 hv3 hemp
  generalize hls:(dF c []).map kM=ls at*
  have FQ:=ae hls
  clear hls
  by_cases hn:ls.length=0
  ·have hn':(((ls.length:Nat):Int)==0)=true:=by simpa using hn
   have abd:Hid (jb c true=11):=ae (by rw[HE.o,aF (HEM.o.2 hn)])
   clear hn
   gi_wp2_with fail
   refine⟨by simp,.inl ⟨_,_,rfl,run_takeDeferred hD,?_⟩⟩
   exact⟨.tuple #[.pointer none,.int .i64 11],by simp[results,Tryz.results81,go_sem],(KO.o.put (Obj.deferred none) (by omega)).ext,.inl ⟨by rw[abd.o];simp,by rw[abd.o]⟩⟩
  ·have hn':(((ls.length:Nat):Int)==0)=false:=by simpa using hn
   have HE0:Hid (jb c true=0):=ae (by rw[HE.o,ak (fun h=>hn (HEM.o.1 h))])
   clear hn
   gi_wp2_with fail
   refine⟨by simp,.inl ⟨_,_,rfl,run_takeDeferred hD,?_⟩⟩
   refine⟨.tuple #[.pointer (some ⟨B,0,none⟩),.int .i64 0],by simp[results,Tryz.results81,go_sem],(KO.o.put (Obj.deferred none) (by omega)).ext,.inr ⟨HE0.o,B,.slice vo ls.length vc,rfl,by omega,?_⟩⟩
   rw[hhv,agZ,J8,FQ.o]
   refine⟨?_,?_⟩
   ·exact(World.putObj_heap_other (by omega)).trans HV.o.1
   ·exact aN.dU (dn HV.o.2 fun g hg=>World.putObj_heap_other (by have:=(bD HV.o.2 g hg).1;omega))
 case hstop=>rintro cd Ms W h;exact h.elim
end Go.Proofs.YthllkbbbapgelaaGreatDoor.AQ
end
section
namespace Go.Proofs.YthllkbbbapgelaaGreatDoor.AQ
open Go.RowKit Go.RG Go.SL Go.Shelf jy Go.TB
attribute [local go_sem] Oper.semAt_some
theorem Uw {w:World} {o:Option Addr} {n c:Nat} {ls:List (List Int)} (h:aN 3 w (.slice o n c) (ls.map kM).length ((ls.map kM).flatMap ah)) (h3: ∀x∈ls,x.length<=3) {k:Nat} (hk:k<ls.length):
 ∃b off y0 y1 y2,o=some ⟨b,off,none⟩/\b<w.heap.size/\kM ls[k]=[y0,y1,y2]/\w.cell? ⟨b,off+k*3,none⟩=some (iv y0)/\w.cell? ⟨b,off+k*3+1,none⟩=some (iv y1)/\w.cell? ⟨b,off+k*3+2,none⟩=some (iv y2):=by
 obtain⟨hl,o',c',hv,h1,h2,h4,h5⟩:=h
 cases hv
 obtain⟨y0,y1,y2,hys⟩:=nN (yf (h3 _ (dh hk)))
 rw[mD] at h1
 cases o with
 |none=>have:=h4 rfl;omega
 |some a=>
  obtain⟨b,off,sp⟩:=a
  obtain⟨hs,hc⟩:=h5 _ rfl
  simp only at hs hc
  subst hs
  have g: ∀j,j<3->((ls.map kM).flatMap ah)[k*3+j]? =[iv y0,iv y1,iv y2][j]? :=fun j hj=>by
   rw[Hg ah 3 (ls.map kM) (fun x hx=>by
    obtain⟨t,ht,rfl⟩:=jc.1 hx
    simp[ah,yf (h3 t ht)]) k j (by rw[mD];exact hk) hj,List.getElem_map,hys]
   rfl
  have r0:=hc (k*3+0) (iv y0) (by rw[g 0 (by omega)];rfl)
  have r1:=hc (k*3+1) (iv y1) (by rw[g 1 (by omega)];rfl)
  have r2:=hc (k*3+2) (iv y2) (by rw[g 2 (by omega)];rfl)
  rw[Nat.add_zero] at r0
  rw[<-Nat.add_assoc] at r1 r2
  exact⟨b,off,y0,y1,y2,rfl,dI w _ r0,hys,r0,r1,r2⟩
theorem LM (w:World):Calls Tryz.prog 82 #[] w (PV (.bool true) w):=by
 go_enter Tryz.func82,Tryz.ntmps82
 go_wp2
 go_returns
 exact⟨by simp,aH _ _⟩
theorem OO (c:bM) (hS:nM c) (hv nZ tv v:Value) (es:List KE) (wb:Nat) (i:Nat) (hi:nC c i) (w:World) (hc:rJ w hv nZ tv es c) (hpos:0<(dF c []).length) (hw:TT w wb hv nZ tv v ((dF c []).map kM)):
 Calls Tryz.prog 83 #[.pointer (some ⟨wb,0,none⟩),iv i] w (PV (rv (A7 c i)) w):=by
 obtain⟨oh,ch,rfl⟩:=hc.heaps.open
 obtain⟨ok,ck,rfl⟩:=hc.aU.open
 obtain⟨ot,ct,rfl⟩:=hc.aJ.open
 rw[hc.len] at hc hw
 have hcnt:=uV hS []
 have hall: ∀s∈dF c [],Str c s:=fun s hs=>tC hS (mQ s hs)
 have h3: ∀x∈dF c [],x.length<=3:=fun x hx=>by have h1:=(hall x hx).1;have h2:=hS.h3;omega
 obtain⟨vo,vc,rfl⟩:=hw.truth.open
 have HOF:=ae (fun(s:List Int) (hs:Str c s) (x0 x1 x2:Int) (hx:kM s=[x0,x1,x2]) (W:World) (hb:Below w.heap.size w W)=>UG c hS oh ok ch ck (.slice ot c.aJ.length ct) es s x0 x1 x2 hx hs i hi W (hc.aU.below hb (ai _)) hc.is)
 have FO:=ae hw
 have HL:=ae (ag hpos (ag hall (ag h3 hcnt)))
 have Nh:=ae (fun k (hk:k<=(dF c []).length)=>Uy hS (fun s hs=>mQ s hs) hpos hi k hk)
 have HOB:=ae (fun(s:List Int) (hs:Str c s)=>Zh hS hs.1 hs.2 hi)
 unfold A7
 have hmap:((dF c []).map kM).length=(dF c []).length:=by simp
 have HMP:=ae hmap
 clear hc hS hall h3 hpos hcnt hmap
 generalize dF c []=ls at*
 obtain⟨d1,g1,m1⟩:=af hw.cells
 obtain⟨b,off,y0,y1,y2,hvv,hb,hys,r0,r1,r2⟩:=Uw hw.truth HL.o.2.2.1 HL.o.1
 rw[HMP.o] at d1
 cases hvv
 have hD:=HOF.o _ (HL.o.2.1 _ (dh HL.o.1)) y0 y1 y2 hys
 have hdb:=HOB.o _ (HL.o.2.1 _ (dh HL.o.1))
 have hr0:Ac c ls i 0=(II c (ls[0]'HL.o.1) i,II c (ls[0]'HL.o.1) i):=by
  unfold Ac
  rw[show ls.getD 0 []=ls[0]'HL.o.1 from by simp[List.getD,HL.o.1]]
  rfl
 generalize II c (ls[0]'HL.o.1) i=d at*
 have HD:=ae hD
 have HR0:=ae hr0
 simp only[Nat.zero_mul,Nat.add_zero] at r0 r1 r2
 have hpos0:0<ls.length:=HL.o.1
 have aoy:ls.length<=2000:=HL.o.2.2.2
 clear hw hys hD hr0 hi
 go_enter Tryz.func83,Tryz.ntmps83
 go_upto_region 1 with(fail)
 refine dN fun W1 hW1=>?_
 have hB1:Below w.heap.size w W1:=by rw[hW1];exact zl
 have hk4:W1.heap[w.heap.size]? =some (.cells #[iv 0,iv 0] 129 (0,0)):=by rw[hW1];exact ay _ _
 have e0:=(hB1.cell (p:=⟨b,off,none⟩) hb).trans r0
 have e1:=(hB1.cell (p:=⟨b,off+1,none⟩) hb).trans r1
 have e2:=(hB1.cell (p:=⟨b,off+2,none⟩) hb).trans r2
 have hb1:b<W1.heap.size:=by have:=hB1.size;omega
 have Su:=FO.o.below hB1 (ai _)
 obtain⟨n1,n2,n3⟩:=af Su.cells
 rw[HMP.o] at n1
 have H1:=ae (ag hB1 hk4)
 clear hW1 hB1 hk4 r0 r1 r2 hb d1 g1 m1 Su
 refine zg 12 [] none [(11,Spec.val (iv d))] ?_
 simp only[zt]
 repeat ((first|refine zn ?_|refine zk ?_);simp only[zp])
 refine zw 141 (h:=fun W hE hF=>by exact HD.o W (aY H1.o.1 hE.below)) (t:=?_)
 simp only[zp]
 intro W hE hF
 obtain⟨hc,hf⟩:=bK hE.below
 have hzE:=hE.size
 (try simp only[bu] at hzE)
 have hB2:=aY H1.o.1 hE.below
 have ag7:=(hE.block _ (aS.1 H1.o.2).1 (by simp)).trans H1.o.2
 have H2:=ae (ag hB2 ag7)
 have agk:=FO.o.below hB2 (ai _)
 clear hE hF hc hf hzE e0 e1 e2 hb1 n1 n2 n3 hB2 ag7
 obtain⟨n1,n2,n3⟩:=af agk.cells
 rw[HMP.o] at n1
 clear agk
 go_upto_region 3 with(fail)
 refine dN fun W3 hW3=>?_
 have hB3:Below W.heap.size W W3:=by rw[hW3];exact zl
 have hk9:W3.heap[W.heap.size]? =some (.cells #[iv d,iv d] 129 (0,0)):=by rw[hW3];exact ay _ _
 have ag6:=(hB3.block _ (aS.1 H2.o.2).1).trans H2.o.2
 have hwW:w.heap.size<W.heap.size:=(aS.1 H2.o.2).1
 have H3:=ae (ag (aY H2.o.1 hB3) (ag hk9 ag6))
 have agj:=FO.o.below H3.o.1 (ai _)
 clear hW3 hB3 hk9 ag6 n1 n2 n3
 obtain⟨n1,n2,n3⟩:=af agj.cells
 rw[HMP.o] at n1
 clear agj
 obtain⟨b9,wP⟩: ∃b9,W.heap.size=b9:=⟨_,rfl⟩
 rw[wP] at H3 hwW⊢
 clear wP H2
 go_wp2_with fail
 go_loopw [29] (fun u wq=> ∃k:Nat,k<=ls.length/\u= .int .i64 k/\wq.heap[b9]? =some (.cells #[iv (Ac c ls i k).1,iv (Ac c ls i k).2] 129 (0,0))/\wq.heap[w.heap.size]? =some (.cells #[iv 0,iv 0] 129 (0,0))/\Below w.heap.size w wq) (fun u _=>ls.length-(intOf u).toNat)
 case atStart=>exact⟨0,bQ _,rfl,by rw[HR0.o];exact H3.o.2.1,H3.o.2.2,H3.o.1⟩
 case round=>
  obtain⟨k,hk,rfl,hcell,hres,hB⟩:=hrel
  by_cases hlk:k<ls.length
  ·have hwr:=FO.o.below hB (ai _)
   obtain⟨q1,q2,q3⟩:=af hwr.cells
   rw[HMP.o] at q1
   obtain⟨e1,e2,e3⟩:=af hcell
   obtain⟨b',off',z0,z1,z2,hvv,hb',hzs,s0,s1,s2⟩:=Uw hwr.truth HL.o.2.2.1 hlk
   cases hvv
   have hst:=HL.o.2.1 _ (dh hlk)
   have hD2:=HOF.o _ hst z0 z1 z2 hzs
   have hsu:=JG (c:=c) (i:=i) hlk
   have aky:=HOB.o _ hst
   have hrb:=Nh.o k hk
   generalize II c ls[k] i=d2 at*
   generalize hrk:Ac c ls i k=r at*
   have HD2:=ae hD2
   have xw:=ae hsu
   have HQ:=ae (ag hcell (ag hres hB))
   clear hzs hD2 hsu hcell hres hB hwr hst hrk n1 n2 n3
   have agT:(k:Int)<ls.length:=by omega
   go_upto_region 6 with(fail)
   refine dN fun W5 yx=>?_
   have vV:Below wr.heap.size wr W5:=by rw[yx];exact zl
   have hk5:W5.heap[wr.heap.size]? =some (.cells #[iv z0,iv z1,iv z2] 283 (0,0)):=by rw[yx];exact ay _ _
   have hc5:=(vV.block _ e3).trans HQ.o.1
   have hw5:=FO.o.below (aY HQ.o.2.2 vV) (ai _)
   have HBB:=ae (ag (aY HQ.o.2.2 vV) (ag hc5 ((vV.block _ (aS.1 HQ.o.2.1).1).trans HQ.o.2.1)))
   clear yx vV q1 q2 q3 e1 e2 s0 s1 s2 hb'
   obtain⟨q1,q2,q3⟩:=af hw5.cells
   rw[HMP.o] at q1
   obtain⟨e1,e2,e4⟩:=af hc5
   obtain⟨p1,p2,p3⟩:=af hk5
   clear hw5 hc5 hk5
   refine zg 9 [] none [(7,Spec.val (iv d2)),(8,Spec.val (rv (wid r d2)))] ?_
   simp only[zt]
   repeat ((first|refine zn ?_|refine zk ?_);simp only[zp])
   refine zw 141 (h:=fun W hE hF=>by exact HD2.o W (aY HBB.o.1 hE.below)) (t:=?_)
   simp only[zp]
   refine zw 142 (h:=fun W hE hF=>by exact RQ r d2 W) (t:=?_)
   simp only[zp]
   intro W hE hF
   obtain⟨hc,hf⟩:=bK hE.below
   have hzE:=hE.size
   (try simp only[bu] at hzE)
   have HE:=ae hE
   clear hF hzE
   go_wp2_with fail
   go_roundw
   case rel=>
    refine⟨k+1,by omega,by go_num,?_,?_,?_⟩
    ·rw[xw.o]
     exact aI (aI ((HE.o.block _ e4 (by simp)).trans HBB.o.2.1) _) _
    ·have h1:=(HE.o.block _ (aS.1 HBB.o.2.2).1 (by simp)).trans HBB.o.2.2
     exact(dH _ _ _ _ (by show w.heap.size≠b9;omega)).trans ((dH _ _ _ _ (by show w.heap.size≠b9;omega)).trans h1)
    ·exact iF (iF (aY HBB.o.1 HE.o.below) (show w.heap.size<=b9 by omega) _) (show w.heap.size<=b9 by omega) _
   case measure=>simp[intOf];omega
  ·have hkl:k=ls.length:=by omega
   subst hkl
   have hrb:=Nh.o _ (ai _)
   generalize Ac c ls i ls.length=r at*
   obtain⟨e1,e2,e3⟩:=af hcell
   obtain⟨p1,p2,p3⟩:=af hres
   have HQ:=ae (ag hres hB)
   clear hcell hres hB n1 n2 n3
   go_wp2_with fail
   refine bodyPost_ret (v:=rv r) (results_cell_row Tryz.results83 _ _ w.heap.size _ _ (0,0) _ rfl (aI (aI HQ.o.1 _) _) Tryz.underlying129 rfl (by kernel_rfl)) rfl ?_
   exact⟨rfl,iF (iF HQ.o.2 (ai _) _) (ai _) _⟩
theorem tKR:iQ Tryz.prog 56 129 (rv (0,0)) 2 16:=⟨Tryz.underlying56,by kernel_rfl,rfl,by omega⟩
def acY (c:bM) (w:World) (e:Ending) (w':World):Prop:=
 Below w.heap.size w w'/\((jb c true≠0/\e= .returned (.tuple #[.slice none 0 0,.slice none 0 0,iv (jb c true)]))∨
  (jb c true=0/\ ∃v u,e= .returned (.tuple #[v,u,iv 0])/\bT w' v (tV c)/\bT w' u (jB c)))
theorem O0 (c:bM) {i:Nat} (hi:i<c.heaps.length):(tV c).take (i+1)=(tV c).take i++[A7 c i]:=by
 rw[qY];congr 1;unfold tV;simp[hi]
theorem PX (c:bM) {i:Nat} (hi:i<c.aU.length):(jB c).take (i+1)=(jB c).take i++[A7 c (c.heaps.length+i)]:=by
 rw[qY];congr 1;unfold jB;simp[hi]
theorem JM (a b:List dR):aG (a++b)=aG a++aG b:=by simp[aG]
theorem yl (c:bM) (hv nZ tv:Value) (es:List KE) (w:World) (hc:rJ w hv nZ tv es c):Calls Tryz.prog 45 #[kv hv nZ tv] w (acY c w):=by
 obtain⟨oh,ch,rfl⟩:=hc.heaps.open
 obtain⟨ok,ck,rfl⟩:=hc.aU.open
 obtain⟨ot,ct,rfl⟩:=hc.aJ.open
 rw[hc.len] at hc⊢
 have HA:=ae (fun(W:World) (hb:Below w.heap.size w W)=>RV c (.slice oh c.heaps.length ch) (.slice ok c.aU.length ck) (.slice ot c.aJ.length ct) es 82 #[] true W (hc.below hb (ai _)) (enters_of Tryz.func82 (by kernel_rfl) rfl) (fun W _=>LM W))
 have HC':Hid (∀W,Below w.heap.size w W->rJ W (.slice oh c.heaps.length ch) (.slice ok c.aU.length ck) (.slice ot c.aJ.length ct) es c):=ae (fun W hb=>hc.below hb (ai _))
 clear hc
 go_enter Tryz.func45,Tryz.ntmps45
 go_wp2_with fail
 refine(HA.o _ (aj (aH _ _) _)).mono ?_
 rintro e w1 ⟨hb,⟨hne,rfl⟩|⟨h0,wb,v,rfl,hwb,hwk⟩⟩
 ·have HB:=ae (show Below w.heap.size w w1 from zl)
  obtain⟨q,hq⟩: ∃q,jb c true=q:=⟨_,rfl⟩
  rw[hq] at hne⊢
  have HN:=ae (ag hq hne)
  have hneb:(q==0)=false:=by simpa using hne
  clear hb hne hq
  go_wp2_with fail
  go_returns
  exact⟨HB.o,.inl ⟨by rw[HN.o.1];exact HN.o.2,by rw[HN.o.1];simp⟩⟩
 have HB:=ae (show Below w.heap.size w w1 from zl)
 have hk0:w1.heap[w.heap.size]? =some (.cells #[.slice oh c.heaps.length ch,.slice ok c.aU.length ck,.slice ot c.aJ.length ct] 60 (0,0)):=(hb.block _ (by simp)).trans (ay _ _)
 clear hb
 obtain⟨hS,hpos,_⟩:=Il h0
 have hh3:=hS.h3
 have hk3:=hS.c3
 have HBD:=ae (fun(i:Nat) (hi:nC c i) (W:World) (hb:Below w1.heap.size w1 W)=>OO c hS (.slice oh c.heaps.length ch) (.slice ok c.aU.length ck) (.slice ot c.aJ.length ct) v es wb i hi W (HC'.o W (aY HB.o hb)) hpos (hwk.below hb (ai _)))
 have H0:=ae h0
 have HK0:=ae hk0
 have HHL:=ae (fun i (hi:i<c.heaps.length)=>O0 c hi)
 have HKL:=ae (fun i (hi:i<c.aU.length)=>PX c hi)
 have HLL:Hid ((tV c).length=c.heaps.length/\(jB c).length=c.aU.length):=ae (by simp[tV,jB])
 obtain⟨c0,f0,l0⟩:=af hk0
 clear hS hpos hwk h0 hk0 hwb
 go_wp2_with fail
 go_loopw [2,19] (fun ov u wr=> ∃i:Nat,i<=c.heaps.length/\u= .int .i64 i/\(∃oo oc,ov= .slice oo i oc/\wr.ownsRow w1.heap.size 129 2 (.slice oo i oc) i (aG ((tV c).take i)))/\Below w1.heap.size w1 wr) (fun _ u _=>c.heaps.length-(intOf u).toNat)
 case atStart=>exact⟨0,bQ _,rfl,⟨none,0,rfl,⟨rfl,.inl ⟨rfl,rfl⟩⟩⟩,aH _ _⟩
 case round=>
  obtain⟨i,hi,rfl,⟨oo,oc,rfl,how⟩,hB⟩:=hrel
  by_cases hlt:i<c.heaps.length
  ·have hD:=HBD.o i (by unfold nC;omega) wr hB
   have hsu:=HHL.o i hlt
   generalize A7 c i=r at hD hsu
   have HOW:=ae how
   have HB':=ae hB
   have xw:=ae hsu
   clear how hB hsu c0 f0 l0
   go_wp2_with fail
   refine hD.mono ?_
   rintro e w2 ⟨rfl,hb2⟩
   have HB2:=ae hb2
   have ho2:=aC (Ms:=[]) HOW.o (Ext.aA hb2) (by simp)
   have Fh:=ae ho2
   have hsz2:=hb2.size
   have hsz1:=HB'.o.size
   clear hD hb2 ho2
   go_wp2_with (at_builtin;go_loud (refine fQ rfl _ _ tKR rfl w1.heap.size (.slice oo i oc) i (aG ((tV c).take i)) rfl (aC (Ms:=[]) Fh.o (Ext.aA (aj (aH _ _) _)) (by simp)) (.slice (some ⟨w2.heap.size,0,none⟩) 1 1) 1 [iv r.1,iv r.2] rfl (aN.dB 2 1 (ay _ _) rfl (by decide)) (by simp[Value.oneCell']) (by omega) (by omega) (by simp;omega) ?_))
   intro v' w3 hown hgr hN
   obtain⟨o3,c3,rfl⟩:=aW hown
   have hpu:=yJ HB'.o HOW.o ((Ext.aA HB2.o).trans (Ext.aA (aj (aH _ _) _))) hown hgr (ai _) HB'.o.size
   have HP:=ae (ag hpu hown)
   clear hpu hown hgr hN
   go_wp2_with fail
   go_roundw
   case rel=>
    refine⟨i+1,by omega,by go_num,⟨o3,c3,rfl,?_⟩,HP.o.1.1⟩
    rw[xw.o,JM]
    exact HP.o.2
   case measure=>simp[intOf];omega
  ·obtain rfl:i=c.heaps.length:=by omega
   have hk1:=(hB.block _ (aS.1 HK0.o).1).trans HK0.o
   obtain⟨n0,n1,n2⟩:=af hk1
   have HH:=ae (ag how (ag hB hk1))
   clear how hB hk1 c0 f0 l0
   go_wp2_with fail
   generalize wr=wm at*
   go_loopw [3,32] (fun ov u wq=> ∃j:Nat,j<=c.aU.length/\u= .int .i64 j/\(∃o2 c2,ov= .slice o2 j c2/\wq.ownsRow wm.heap.size 129 2 (.slice o2 j c2) j (aG ((jB c).take j)))/\Below wm.heap.size wm wq) (fun _ u _=>c.aU.length-(intOf u).toNat)
   case atStart=>exact⟨0,bQ _,rfl,⟨none,0,rfl,⟨rfl,.inl ⟨rfl,rfl⟩⟩⟩,aH _ _⟩
   case round=>
    obtain⟨j,hj,rfl,⟨o2,c2,rfl,how⟩,hB⟩:=hrel
    by_cases hlt:j<c.aU.length
    ·have hBw:=aY HH.o.2.1 hB
     have hD:=HBD.o (c.heaps.length+j) (by unfold nC;omega) _ hBw
     have hsu:=HKL.o j hlt
     generalize A7 c (c.heaps.length+j)=r at hD hsu
     rw[show((c.heaps.length+j:Nat):Int)=(c.heaps.length:Int)+j from by omega] at hD
     have hkk:=(hB.block _ (aS.1 HH.o.2.2).1).trans HH.o.2.2
     obtain⟨a0,a1,a2⟩:=af hkk
     have HOW:=ae how
     have HB':=ae hB
     have xw:=ae hsu
     clear how hB hBw hsu hkk n0 n1 n2
     go_wp2_with fail
     refine hD.mono ?_
     rintro e w2 ⟨rfl,hb2⟩
     have HB2:=ae hb2
     have ho2:=aC (Ms:=[]) HOW.o (Ext.aA hb2) (by simp)
     have Fh:=ae ho2
     have hsz2:=hb2.size
     have hsz1:=HB'.o.size
     clear hD hb2 ho2 a0 a1 a2
     go_wp2_with (at_builtin;go_loud (refine fQ rfl _ _ tKR rfl wm.heap.size (.slice o2 j c2) j (aG ((jB c).take j)) rfl (aC (Ms:=[]) Fh.o (Ext.aA (aj (aH _ _) _)) (by simp)) (.slice (some ⟨w2.heap.size,0,none⟩) 1 1) 1 [iv r.1,iv r.2] rfl (aN.dB 2 1 (ay _ _) rfl (by decide)) (by simp[Value.oneCell']) (by omega) (by omega) (by simp;omega) ?_))
     intro v' w3 hown hgr hN
     obtain⟨o3,c3,rfl⟩:=aW hown
     have hpu:=yJ HB'.o HOW.o ((Ext.aA HB2.o).trans (Ext.aA (aj (aH _ _) _))) hown hgr (ai _) HB'.o.size
     have HP:=ae (ag hpu hown)
     clear hpu hown hgr hN
     go_wp2_with fail
     go_roundw
     case rel=>
      refine⟨j+1,by omega,by go_num,⟨o3,c3,rfl,?_⟩,HP.o.1.1⟩
      rw[xw.o,JM]
      exact HP.o.2
     case measure=>simp[intOf];omega
    ·obtain rfl:j=c.aU.length:=by omega
     have HX:=ae (ag how hB)
     clear how hB n0 n1 n2
     go_wp2_with fail
     go_returns
     refine⟨aY HB.o (aY HH.o.2.1 HX.o.2),.inr ⟨H0.o,.slice oo c.heaps.length oc,.slice o2 c.aU.length c2,by simp,?_,?_⟩⟩
     ·have h1:=aN.dU (aC (Ms:=[]) HH.o.1 (Ext.aA HX.o.2) (by simp))
      rw[show(tV c).take c.heaps.length=tV c from by rw[<-HLL.o.1,List.take_length]] at h1
      show aN 2 _ _ (tV c).length _
      rw[HLL.o.1]
      exact h1
     ·have h1:=aN.dU HX.o.1
      rw[show(jB c).take c.aU.length=jB c from by rw[<-HLL.o.2,List.take_length]] at h1
      show aN 2 _ _ (jB c).length _
      rw[HLL.o.2]
      exact h1
end Go.Proofs.YthllkbbbapgelaaGreatDoor.AQ
end

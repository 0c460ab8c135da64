/-
  Texts of this claim, packed by a program: CA CB CC CD CE CG CF CI.
-/
import Derived.WalkKit
import Derived.WalkLawsBesides
import Derived.WalkSpells
import Derived.Outline
import Derived.Handy
import Derived.KernelRfl
import Derived.Lib.Hide
import Derived.Deep.Cut
import Derived.Laws.EntriesVeiled
import Derived.Test.YthllkbbbapgelaaGreatDoorPT5
set_option maxHeartbeats 8000000
set_option maxRecDepth 100000
set_option linter.all false
section
namespace Go.Proofs.YthllkbbbapgelaaGreatDoor.zo
open jl
abbrev IQ:=Bool×Int×dQ
structure bK where
 heaps:List dQ
 aU:List (List Int)
 aJ:List IQ
def mr:List Int->Int
 |[]=>0
 |x::l=>x+mr l
def lq (l:List Int) (k:Nat):Int:=mr (l.take k)
theorem MR (a b:List Int):mr (a++b)=mr a+mr b:=by
 induction a with
 |nil=>simp[mr]
 |cons x a ih=>simp only[List.cons_append,mr,ih];omega
theorem sJ {l:List Int} {k:Nat} (hk:k<l.length):lq l (k+1)=lq l k+l[k]:=by
 unfold lq
 rw[iC hk,MR]
 simp[mr]
theorem yH (l:List Int):lq l l.length=mr l:=by unfold lq;rw[List.take_length]
theorem EF {m:Int} (_:0<=m): ∀{l:List Int},(∀x∈l,0<=x/\x<=m)->0<=mr l/\mr l<=m*l.length:=by
 intro l
 induction l with
 |nil=>intro _;simp[mr]
 |cons x l ih=>
  intro h
  have h1:=h x (by simp)
  have h2:=ih (fun y hy=>h y (by simp[hy]))
  simp only[mr,List.length_cons]
  rw[show m*((l.length+1:Nat):Int)=m*l.length+m from by rw[Int.natCast_add,Int.mul_add];simp]
  omega
theorem xC {m:Int} (hm:0<=m) {l:List Int} (h: ∀x∈l,0<=x/\x<=m) (k:Nat):0<=lq l k/\lq l k<=m*l.length:=by
 have h1:=EF hm (l:=l.take k) (fun x hx=>h x (nZ hx))
 have h2:m*((l.take k).length:Int)<=m*l.length:=Int.mul_le_mul_of_nonneg_left (by have:=List.length_take_le' k l;omega) hm
 unfold lq
 omega
def sF (c:bK) (l:List Int):Bool:=decide (l.length=c.heaps.length)&&l.all (nM · 0 30)
def vP (c:bK) (l:List Int):Bool:=sF c l&&decide (0<mr l)
def wu (c:bK) (t:IQ):Int:=if t.1 then c.aU.length else c.heaps.length
def sG (c:bK) (t:IQ):Bool:=nM t.2.1 0 (wu c t-1)&&vT t.2.2 100
def qi (c:bK):Int:=
 if 3<c.heaps.length∨3<c.aU.length∨5<c.aJ.length then 3
 else if c.heaps.length=0∨c.heaps.all (vT · 100)=false∨c.aU.all (vP c)=false∨c.aJ.all (sG c)=false then 1
 else if 2000<uh c.heaps then 3 else 0
structure nG (c:bK):Prop where
 h1:1<=c.heaps.length
 h3:c.heaps.length<=3
 c3:c.aU.length<=3
 t5:c.aJ.length<=5
 heaps: ∀r∈c.heaps,vT r 100=true
 aU: ∀l∈c.aU,l.length=c.heaps.length/\(∀x∈l,0<=x/\x<=30)/\0<mr l
 aJ: ∀t∈c.aJ,(0<=t.2.1/\t.2.1<wu c t)/\vT t.2.2 100=true
 many:uh c.heaps<=2000
theorem WR {c:bK} {l:List Int}:vP c l=true↔l.length=c.heaps.length/\(∀x∈l,0<=x/\x<=30)/\0<mr l:=by
 simp only[vP,sF,nM,eF,eQ,jV]
 constructor
 ·rintro⟨⟨h1,h2⟩,h3⟩;exact⟨h1,h2,h3⟩
 ·rintro⟨h1,h2,h3⟩;exact⟨⟨h1,h2⟩,h3⟩
theorem Qk {c:bK} {t:IQ}:sG c t=true↔(0<=t.2.1/\t.2.1<wu c t)/\vT t.2.2 100=true:=by
 simp only[sG,nM,eF,eQ]
 constructor
 ·rintro⟨⟨h1,h2⟩,h3⟩;exact⟨⟨h1,by omega⟩,h3⟩
 ·rintro⟨⟨h1,h2⟩,h3⟩;exact⟨⟨h1,by omega⟩,h3⟩
theorem Jc {c:bK} (hf:qi c=0):nG c:=by
 unfold qi at hf
 split at hf
 ·omega
 ·rename_i a
  split at hf
  ·omega
  ·rename_i b
   split at hf
   ·omega
   ·rename_i d
    simp only[not_or,Bool.not_eq_false,jV] at a b
    obtain⟨a1,a2,a3⟩:=a
    obtain⟨b1,b2,b3,b4⟩:=b
    exact⟨by omega,by omega,by omega,by omega,b2,fun l hl=>WR.1 (b3 l hl),fun t ht=>Qk.1 (b4 t ht),by omega⟩
theorem nG.sz {c:bK} (h:nG c): ∀r∈c.heaps,1<=ed r:=fun r hr=>(xO (h.heaps r hr)).2.2.2.1
theorem nG.rg {c:bK} (h:nG c) {i:Nat} (hi:i<c.heaps.length):0<=c.heaps[i].1/\c.heaps[i].1<=c.heaps[i].2/\c.heaps[i].2<=100:=by
 have:=xO (h.heaps _ (df hi))
 exact⟨this.1,this.2.1,this.2.2.1⟩
def yZ:List Int->List Int->Int
 |w::ws,s::ss=>w*s+yZ ws ss
 |_,_=>0
def yj (w s:List Int) (k:Nat):Int:=yZ (w.take k) (s.take k)
theorem Wy: ∀(a b:List Int) (x y:Int),a.length=b.length->yZ (a++[x]) (b++[y])=yZ a b+x*y:=by
 intro a
 induction a with
 |nil=>intro b x y h;obtain rfl:=ku h.symm;simp[yZ]
 |cons w a ih=>
  intro b x y h
  cases b with
  |nil=>simp at h
  |cons s b=>
   simp only[List.cons_append,yZ,ih b x y (by simpa using h)]
   omega
theorem RV {w s:List Int} {k:Nat} (hw:k<w.length) (hs:k<s.length):yj w s (k+1)=yj w s k+w[k]*s[k]:=by
 unfold yj
 rw[iC hw,iC hs,Wy]
 simp[gJ]
 omega
theorem Wv {w s:List Int} (h:w.length=s.length):yj w s w.length=yZ w s:=by unfold yj;rw[List.take_length,h,List.take_length]
theorem Ur: ∀(w s:List Int),(∀x∈w,0<=x/\x<=30)->(∀x∈s,0<=x/\x<=100)->0<=yZ w s/\yZ w s<=100*mr w:=by
 intro w
 induction w with
 |nil=>intro s _ _;simp[yZ,mr]
 |cons x w ih=>
  intro s hw hs
  have hx:=hw x (by simp)
  have hb:=EF (m:=30) (by omega) (l:=w) (fun y hy=>hw y (by simp[hy]))
  cases s with
  |nil=>simp only[yZ,mr];omega
  |cons y s=>
   have hy:=hs y (by simp)
   have h1:=ih s (fun z hz=>hw z (by simp[hz])) (fun z hz=>hs z (by simp[hz]))
   have h2:0<=x*y:=Int.mul_nonneg hx.1 hy.1
   have h3:x*y<=x*100:=Int.mul_le_mul_of_nonneg_left hy.2 hx.1
   simp only[yZ,mr]
   omega
theorem ZU {w s:List Int} (hw: ∀x∈w,0<=x/\x<=30) (hs: ∀x∈s,0<=x/\x<=100) (k:Nat):0<=yj w s k/\yj w s k<=3000*w.length:=by
 have h1:=Ur (w.take k) (s.take k) (fun x hx=>hw x (nZ hx)) (fun x hx=>hs x (nZ hx))
 have h2:=xC (m:=30) (by omega) hw k
 unfold lq at h2
 unfold yj
 omega
def Dv (s w:List Int):Int:=yZ w s/mr w
theorem YV {s w:List Int} (hw: ∀x∈w,0<=x/\x<=30) (hs: ∀x∈s,0<=x/\x<=100) (hp:0<mr w):0<=Dv s w/\Dv s w<=100:=by
 have h1:=Ur w s hw hs
 unfold Dv
 exact⟨Int.ediv_nonneg h1.1 (by omega),Int.ediv_le_of_le_mul hp (by omega)⟩
def Hz (c:bK) (s:List Int) (thing:Nat):Int:=if thing<c.heaps.length then s.getD thing 0 else Dv s (c.aU.getD (thing-c.heaps.length) [])
def zH (c:bK) (t:IQ):Nat:=(if t.1 then c.heaps.length else 0)+t.2.1.toNat
def FI (c:bK) (s:List Int) (t:IQ):Bool:=nM (Hz c s (zH c t)) t.2.2.1 t.2.2.2
def sQ (c:bK) (out:List Int) (s:List Int):Bool:=(List.range c.aJ.length).all fun i=>out.contains (i:Int) ||FI c s (c.aJ.getD i (false,0,(0,0)))
def uw (c:bK):List (List Int):=fB c.heaps
def dE (c:bK) (out:List Int):List (List Int):=(uw c).filter (sQ c out)
def mZ (c:bK) (n:Nat):Prop:=n<c.heaps.length+c.aU.length
theorem UT {c:bK} (h:nG c) {t:IQ} (ht:t∈c.aJ):mZ c (zH c t):=by
 have:=(h.aJ t ht).1
 unfold mZ zH
 unfold wu at this
 split at this <;>rename_i h1
 ·rw[aF h1];omega
 ·rw[aj h1];omega
theorem sW {c:bK} (h:nG c) {s:List Int} (hs:s∈uw c):s.length=c.heaps.length/\ ∀x∈s,0<=x/\x<=100:=by
 obtain⟨h1,h2⟩:=Cb _ _ hs
 refine⟨h1,fun x hx=>?_⟩
 obtain⟨i,hi,rfl⟩:=lY hx
 have h3:=h2 i (by omega)
 have h4:=h.rg (show i<c.heaps.length by omega)
 rw[gW,dn (by omega),Option.getD_some] at h3
 rw[gW,dn hi,Option.getD_some] at h3
 omega
theorem YP {c:bK} (h:nG c) {s:List Int} (hl:s.length=c.heaps.length) (hs: ∀x∈s,0<=x/\x<=100) {n:Nat} (hn:mZ c n):0<=Hz c s n/\Hz c s n<=100:=by
 unfold mZ at hn
 unfold Hz
 split
 ·rename_i h1
  rw[gW,dn (by omega),Option.getD_some]
  exact hs _ (df _)
 ·rename_i h1
  have hk:n-c.heaps.length<c.aU.length:=by omega
  rw[gW,dn hk,Option.getD_some]
  have:=h.aU _ (df hk)
  exact YV this.2.1 hs this.2.2
def zh (c:bK) (out:List Int) (k:Nat):Nat:=(((uw c).take k).filter (sQ c out)).length
theorem aab (c:bK) (out:List Int):zh c out (uw c).length=(dE c out).length:=by
 unfold zh dE
 rw[List.take_length]
theorem ab4 {c:bK} {out:List Int} {k:Nat} (hk:k<(uw c).length) (hp:sQ c out (uw c)[k]=false):zh c out (k+1)=zh c out k:=by
 unfold zh
 rw[iC hk,List.filter_append,dh]
 simp[hp]
theorem Z9 {c:bK} {out:List Int} {k:Nat} (hk:k<(uw c).length) (hp:sQ c out (uw c)[k]=true):zh c out (k+1)=zh c out k+1:=by
 unfold zh
 rw[iC hk,List.filter_append,dh]
 simp[hp]
theorem Qj {c:bK} {out:List Int} {k:Nat} (hk:k<(uw c).length) (hp:sQ c out (uw c)[k]=true):
 ∃hc:zh c out k<(dE c out).length,(dE c out)[zh c out k]=(uw c)[k]:=by
 have:=CO (sQ c out) id (uw c) k hk hp
 rw[List.map_id] at this
 obtain⟨hc,hx⟩:=ji.1 this
 exact⟨hc,hx⟩
theorem uK {c:bK} (hS:nG c) (out:List Int):(dE c out).length<=2000:=by
 have h1:(dE c out).length<=(uw c).length:=List.length_filter_le _ _
 have h2:=xJ c.heaps hS.sz
 have h3:=hS.many
 unfold uw at h1
 omega
def kD (x:List Int):List Int:=x++List.replicate (3-x.length) 0
theorem xN {x:List Int} (h:x.length<=3):(kD x).length=3:=by simp[kD];omega
theorem Nz (x:List Int) (i:Nat):(kD x).getD i 0=x.getD i 0:=by
 unfold kD
 by_cases h:i<x.length
 ·rw[List.getD_eq_getElem?_getD,uQ h, <-List.getD_eq_getElem?_getD]
 ·rw[List.getD_eq_getElem?_getD,ou (by omega),List.getElem?_replicate]
  have:x.getD i 0=0:=by rw[List.getD_eq_getElem?_getD,List.getElem?_eq_none (by omega)];rfl
  rw[this]
  split <;>rfl
def iY (c:bK) (fine:Bool):Int:=if qi c≠0 then qi c else if fine=false then 2 else if(dE c []).isEmpty then 11 else 0
theorem He {c:bK} {b:Bool} (h:iY c b=0):nG c/\0<(dE c []).length/\b=true:=by
 unfold iY at h
 split at h
 ·omega
 ·rename_i hf
  have hf':qi c=0:=by omega
  split at h
  ·omega
  ·rename_i hb
   split at h
   ·omega
   ·rename_i he
    refine⟨Jc hf',?_,by simpa using hb⟩
    cases ht:dE c [] with
    |nil=>rw[ht] at he;exact absurd rfl he
    |cons x l=>simp
def zJ (c:bK) (ls:List (List Int)) (i:Nat) (k:Nat):dQ:=(ls.take k).foldl (fun r s=>wid r (Hz c s i)) (Hz c (ls.getD 0 []) i,Hz c (ls.getD 0 []) i)
theorem Ji {c:bK} {ls:List (List Int)} {i:Nat} {k:Nat} (hk:k<ls.length):zJ c ls i (k+1)=wid (zJ c ls i k) (Hz c ls[k] i):=by
 unfold zJ
 rw[iC hk,List.foldl_append]
 rfl
def Ap (c:bK) (i:Nat):dQ:=zJ c (dE c []) i (dE c []).length
def tC (c:bK):List dQ:=(List.range c.heaps.length).map (Ap c)
def jv (c:bK):List dQ:=(List.range c.aU.length).map fun i=>Ap c (c.heaps.length+i)
theorem TS {c:bK} (hS:nG c) {ls:List (List Int)} (hl: ∀s∈ls,s∈uw c) (h0:0<ls.length) {i:Nat} (hi:mZ c i):
 ∀k,k<=ls.length->(0<=(zJ c ls i k).1/\(zJ c ls i k).1<=100)/\(0<=(zJ c ls i k).2/\(zJ c ls i k).2<=100):=by
 have hb: ∀s∈ls,0<=Hz c s i/\Hz c s i<=100:=fun s hs=>by
  obtain⟨h1,h2⟩:=sW hS (hl s hs)
  exact YP hS h1 h2 hi
 intro k
 induction k with
 |zero=>
  intro _
  have:=hb _ (df h0)
  unfold zJ
  rw[gW,dn h0,Option.getD_some]
  exact⟨this,this⟩
 |succ k ih=>
  intro hk
  have h1:=ih (by omega)
  have h2:=hb _ (df (show k<ls.length by omega))
  rw[Ji (by omega)]
  unfold wid
  simp only
  omega
theorem mF {c:bK} {out:List Int}: ∀s∈dE c out,s∈uw c:=fun _ h=>(List.mem_filter.1 h).1
end Go.Proofs.YthllkbbbapgelaaGreatDoor.zo
end
section
namespace Go.Proofs.YthllkbbbapgelaaGreatDoor.zo
open Go.RowKit Go.RG Go.SL Go.Shelf jl Go.TB
abbrev KE:=Value×List Int
def eP (es:List KE):List Value:=es.map (·.1)
def xm (w:World) (v:Value) (es:List KE):Prop:=aN 1 w v es.length (eP es)/\ ∀e∈es,aO w e.1 e.2
theorem xm.len {w:World} {v:Value} {es:List KE} (h:xm w v es):es.length<=9223372036854775807:=aN.len h.1
theorem xm.open {w:World} {v:Value} {es:List KE} (h:xm w v es): ∃o c,v= .slice o es.length c:=aN.open h.1
theorem xm.below {w w':World} {v:Value} {es:List KE} (h:xm w v es) {B:Nat} (hb:Below B w w') (hB:w.heap.size<=B):xm w' v es:=⟨h.1.below hb hB,fun e he=>(h.2 e he).below hb hB⟩
theorem xm.cell {w:World} {o:Option Addr} {c:Nat} {es:List KE} (h:xm w (.slice o es.length c) es) {k:Nat} (hk:k<es.length): ∃b off,o=some ⟨b,off,none⟩/\b<w.heap.size/\w.cell? ⟨b,off+k,none⟩=some es[k].1:=by
 obtain⟨⟨hl,o',c',hv,h1,h2,h3,h4⟩,_⟩:=h
 cases hv
 cases o with
 |none=>have:=h3 rfl;omega
 |some a=>
  obtain⟨b,off,sp⟩:=a
  obtain⟨hs,hc⟩:=h4 _ rfl
  simp only at hs hc
  subst hs
  have h0:=hc k es[k].1 (by simp[eP,hk])
  exact⟨b,off,rfl,dG w _ h0,h0⟩
abbrev MO (t:IQ):Value:= .agg #[.bool t.1,iv t.2.1,iv t.2.2.1,iv t.2.2.2]
def gU (l:List IQ):List Value:=l.flatMap fun t=>[.bool t.1,iv t.2.1,iv t.2.2.1,iv t.2.2.2]
abbrev yz (w:World) (v:Value) (l:List IQ):Prop:=aN 4 w v l.length (gU l)
theorem ND (l:List IQ): ∀u∈gU l,u.oneCell'=true:=by
 intro u hu
 obtain⟨r,_,h⟩:=qw.1 hu
 simp only[ig,List.not_mem_nil,or_false] at h
 rcases h with rfl|rfl|rfl|rfl <;>rfl
theorem yz.cell {w:World} {o:Option Addr} {n c:Nat} {l:List IQ} (h:aN 4 w (.slice o n c) n (gU l)) {k:Nat} (hk:k<l.length):
 ∃b off,o=some ⟨b,off,none⟩/\b<w.heap.size/\w.cell? ⟨b,off+k*4,none⟩=some (.bool l[k].1)/\w.cell? ⟨b,off+k*4+1,none⟩=some (iv l[k].2.1)/\w.cell? ⟨b,off+k*4+2,none⟩=some (iv l[k].2.2.1)/\
  w.cell? ⟨b,off+k*4+3,none⟩=some (iv l[k].2.2.2):=by
 obtain⟨hl,o',c',hv,h1,h2,h3,h4⟩:=h
 cases hv
 have hlen:(gU l).length=l.length*4:=by simp[gU,List.length_flatMap,List.map_const',List.sum_replicate_nat]
 have hn:n=l.length:=by omega
 cases o with
 |none=>have:=h3 rfl;omega
 |some a=>
  obtain⟨b,off,sp⟩:=a
  obtain⟨hs,hc⟩:=h4 _ rfl
  simp only at hs hc
  subst hs
  have g: ∀j,j<4->(gU l)[k*4+j]? =[.bool l[k].1,iv l[k].2.1,iv l[k].2.2.1,iv l[k].2.2.2][j]? :=fun j hj=>by
   unfold gU;rw[jr _ 4 (fun _=>rfl) l k j hk hj]
  have h0:=hc (k*4+0) (.bool l[k].1) (by rw[g 0 (by omega)];rfl)
  have h1:=hc (k*4+1) (iv l[k].2.1) (by rw[g 1 (by omega)];rfl)
  have h2:=hc (k*4+2) (iv l[k].2.2.1) (by rw[g 2 (by omega)];rfl)
  have h3:=hc (k*4+3) (iv l[k].2.2.2) (by rw[g 3 (by omega)];rfl)
  rw[Nat.add_zero] at h0
  rw[<-Nat.add_assoc] at h1 h2 h3
  exact⟨b,off,rfl,dG w _ h0,h0,h1,h2,h3⟩
abbrev kv (hv kv tv:Value):Value:= .agg #[hv,kv,tv]
structure rF (w:World) (hv nT tv:Value) (es:List KE) (c:bK):Prop where
 heaps:bP w hv c.heaps
 aU:xm w nT es
 is:es.map (·.2)=c.aU
 aJ:yz w tv c.aJ
theorem rF.below {w w':World} {hv nT tv:Value} {es:List KE} {c:bK} (h:rF w hv nT tv es c) {B:Nat} (hb:Below B w w') (hB:w.heap.size<=B):rF w' hv nT tv es c:=⟨h.heaps.below hb hB,h.aU.below hb hB,h.is,h.aJ.below hb hB⟩
theorem rF.len {w:World} {hv nT tv:Value} {es:List KE} {c:bK} (h:rF w hv nT tv es c):es.length=c.aU.length:=by rw[<-h.is,lX]
theorem xQ (n l h:Int) (w:World):Calls Tryz.prog 280 #[iv n,iv l,iv h] w (PV (.bool (nM n l h)) w):=by
 by_cases h1:l<=n
 all_goals
  go_enter Tryz.func280,Tryz.ntmps280
  go_wp2
  go_returns
  exact⟨by simp[nM];omega,aH _ _⟩
theorem Y2 (r:dQ) (n:Int) (w:World):Calls Tryz.prog 289 #[rv r,iv n] w (PV (.bool (nM n r.1 r.2)) w):=by
 go_enter Tryz.func289,Tryz.ntmps289
 go_wp2_with (go_at_call 280;refine(xQ _ _ _ _).mono ?_;rintro e w' ⟨rfl,hb⟩)
 go_returns
 exact⟨by simp,(aH _ _).alloc (ai _) _ |>.trans (hb.mono (by simp))⟩
theorem sK (r:dQ) (w:World):Calls Tryz.prog 224 #[rv r] w (PV (.bool (vT r 100)) w):=by
 go_enter Tryz.func224,Tryz.ntmps224
 go_wp2
 all_goals
  go_returns
  exact⟨by simp[vT];omega,by go_grown⟩
theorem JD (r:dQ) (w:World) (h1:0<=r.1) (h2:r.1<=r.2) (h3:r.2<=100000):
 Calls Tryz.prog 228 #[rv r] w (PV (iv (ed r)) w):=by
 go_enter Tryz.func228,Tryz.ntmps228
 go_wp2
 go_returns
 exact⟨by simp[ed],by go_grown⟩
theorem Qa (n:Int) (w:World):Calls Tryz.prog 313 #[iv n] w (PV (.bool (nM n 0 30)) w):=by
 go_enter Tryz.func313,Tryz.ntmps313
 go_wp2_with (go_at_call 280;refine(xQ _ _ _ _).mono ?_;rintro e w' ⟨rfl,hb⟩)
 go_returns
 exact⟨by simp,hb⟩
theorem NY (a b:Int) (g c:Nat) (w:World) (h0:w.cell? ⟨g,0,none⟩=some (iv a)) (h1:w.cell? ⟨g,1,none⟩=some (iv b)):
 Calls Tryz.prog 227 #[.slice (some ⟨g,0,none⟩) 2 c] w (PV (iv (min a b)) w):=by
 have H:=ae (AB a b g c w h0 h1)
 go_enter Tryz.func227,Tryz.ntmps227
 go_wp2_with fail
 refine H.o.mono ?_
 rintro e w' ⟨rfl,hb⟩
 go_wp2_with fail
 go_returns
 exact⟨by simp,hb⟩
theorem Q4 (r:dQ) (n:Int) (w:World):Calls Tryz.prog 142 #[rv r,iv n] w (PV (rv (wid r n)) w):=by
 go_enter Tryz.func142,Tryz.ntmps142
 go_wp2_with fail
 refine zg 10 [] none [(3,Spec.slice (w.heap.size+2) #[iv r.1,iv n] 3 2),(4,Spec.val (iv (min r.1 n)))] ?_
 simp only[zt]
 repeat (refine zd ?_;simp only[zp])
 refine dX (w.heap.size+2) _ _ _ (by rfl) (by simp) (by rfl) (by simp) (by simp) (fun W hW=>by go_simp;try rfl) (fun b=>?_)
 simp only[zp]
 refine eu _ (by rfl) (by rfl) 227 _ (fun W hW=>by go_simp;try rfl) (fun W hE hF=>?_) ?_
 ·obtain⟨c,hcb,hB,hc⟩:=hF _ (bF _) (by kernel_rfl)
  cases hcb
  exact NY r.1 n b 2 W (by simp[World.cell?,hc]) (by simp[World.cell?,hc])
 simp only[zp]
 repeat (refine zd ?_;simp only[zp])
 intro W hE hF
 obtain⟨hc,hf⟩:=bJ hE.below
 have hzE:=hE.size
 (try simp only[bu] at hzE)
 go_wp2
 all_goals
  (try simp only[Exit.inBlock,Exit.then])
  refine bodyPost_ret (v:=rv (min r.1 n,max r.2 n)) (by simp[results,Tryz.results142,go_sem,hc];try omega) rfl ?_
  exact⟨rfl,ze⟩
theorem NU (l:List Int) (v:Value) (w:World) (hv:aO w v l) (hl: ∀x∈l,0<=x/\x<=9999) (hn:l.length<=1000):Calls Tryz.prog 282 #[v] w (PV (iv (mr l)) w):=by
 obtain⟨o,c,rfl⟩:=hv.open
 have hlen:=hv.len
 have HV:=ae hv
 have HL:=ae hl
 have HS:=ae (yH l)
 clear hv hl
 go_enter Tryz.func282,Tryz.ntmps282
 go_wp2
 go_loop [2,4,7] (fun n _ i=> ∃k:Nat,k<=l.length/\i= .int .i64 k/\n=iv (lq l k)) (fun _ _ i=>l.length-(intOf i).toNat)
 case atStart=>exact⟨0,bM _,rfl,rfl⟩
 case round=>
  obtain⟨k,hk,rfl,rfl⟩:=hrel
  have hb:=xC (m:=9999) (by omega) HL.o k
  have hb2:(9999:Int)*l.length<=9999*1000:=by omega
  by_cases hlt:k<l.length
  ·obtain⟨b,off,rfl,hbl,hc0⟩:=aO.cell HV.o hlt
   have hx:=HL.o _ (df hlt)
   have hs:=sJ hlt
   generalize lq l k=m at hb hs⊢
   generalize l[k]=x at hc0 hx hs
   have oP:=ae hs
   clear hs
   go_wp2
   go_round
   case rel=>exact⟨k+1,by omega,by go_num,by rw[oP.o]⟩
   case measure=>simp[intOf];omega
  ·have hkl:k=l.length:=by omega
   subst hkl
   rw[HS.o]
   go_wp2
   go_returns
   exact⟨by simp,aH _ _⟩
end Go.Proofs.YthllkbbbapgelaaGreatDoor.zo
namespace Go.Proofs.YthllkbbbapgelaaGreatDoor.zo
open Go.RowKit Go.RG Go.SL Go.Shelf jl Go.TB
abbrev kev (e:KE):Value:=e.1
theorem afI (l:List dQ) (v:Value) (aZ:Nat) (fst caps:Array Value) (p:Nat->Bool) (I:Nat->World->Prop) (w:World) (eg: ∀args w,(callFunc aZ args).run Tryz.prog w= .ok (.enter aZ args) w)
 (hsl: ∀k W,I k W->bP W v l)
 (hcall: ∀k (hk:k<l.length) W,(∀j,j<k->p j=false)->I k W->Calls Tryz.prog aZ (fst.push (rv l[k])++caps) W (fun e W'=>e= .returned (.bool (p k))/\I (k+1) W')) (h0:I 0 w):
 Calls Tryz.prog 314 #[v,.func (.func aZ) fst caps] w (dZ l.length p I (fun k=>iv k) (iv (-1))):=by
 have hlen:=(hsl 0 w h0).len
 obtain⟨o,c,rfl⟩:=(hsl 0 w h0).open
 have HC:=ae hcall
 have HS:=ae hsl
 clear hcall hsl
 go_enter Tryz.func314,Tryz.ntmps314
 go_wp2
 go_loopw [4,5,8] (fun _ _ i wr=> ∃k:Nat,k<=l.length/\i= .int .i64 k/\(∀j,j<k->p j=false)/\I k wr) (fun _ _ i _=>l.length-(intOf i).toNat)
 case atStart=>exact⟨0,bM _,rfl,fun j hj=>by omega,h0⟩
 case round=>
  obtain⟨k,hk,rfl,hno,hI⟩:=hrel
  by_cases hlt:k<l.length
  ·obtain⟨b,off,rfl,hb,hc0,hc1⟩:=bP.cell (HS.o k wr hI) hlt
   have hC:=HC.o k hlt wr hno hI
   have HN:=ae hno
   clear hno
   go_wp2_with fail
   refine hC.mono ?_
   rintro e W1 ⟨rfl,hI1⟩
   have HI:=ae hI1
   clear hI1 hI hC
   cases hp:p k
   ·go_wp2_with fail
    go_roundw
    case rel=>exact⟨k+1,by omega,by go_num,fun j hj=>(by by_cases e:j=k;(subst e;exact hp);exact HN.o j (by omega)),HI.o⟩
    case measure=>simp[intOf];omega
   ·go_wp2_with fail
    go_returns
    exact⟨k,by omega,HN.o,.inl ⟨hlt,hp,by simp,HI.o⟩⟩
  ·have hkl:k=l.length:=by omega
   have HN:=ae hno
   clear hno
   go_wp2_with fail
   go_returns
   exact⟨k,by omega,HN.o,.inr ⟨hkl,by simp,by subst hkl;exact hI⟩⟩
theorem adv (l:List dQ) (v:Value) (aZ:Nat) (fst caps:Array Value) (p:Nat->Bool) (I:Nat->World->Prop) (w:World) (eg: ∀args w,(callFunc aZ args).run Tryz.prog w= .ok (.enter aZ args) w)
 (hsl: ∀k W,I k W->bP W v l)
 (hcall: ∀k (hk:k<l.length) W,(∀j,j<k->p j=false)->I k W->Calls Tryz.prog aZ (fst.push (rv l[k])++caps) W (fun e W'=>e= .returned (.bool (p k))/\I (k+1) W')) (h0:I 0 w):
 Calls Tryz.prog 283 #[v,.func (.func aZ) fst caps] w (dZ l.length p I (fun _=> .bool true) (.bool false)):=by
 have HI:=ae (afI l v aZ fst caps p I w eg hsl hcall h0)
 have hlen:=(hsl 0 w h0).len
 clear hsl hcall h0 eg
 go_enter Tryz.func283,Tryz.ntmps283
 go_wp2_with fail
 refine HI.o.mono ?_
 clear HI
 rintro e W' ⟨k,hk,hno,⟨hlt,hp,rfl,hI⟩|⟨hkl,rfl,hI⟩⟩
 ·have HN:=ae (ag hno (ag hp hI))
  clear hno hp hI
  go_wp2_with fail
  go_returns
  exact⟨k,hk,HN.o.1,.inl ⟨hlt,HN.o.2.1,by simp,HN.o.2.2⟩⟩
 ·have HN:=ae (ag hno (ag hkl hI))
  clear hno hkl hI
  go_wp2_with fail
  go_returns
  exact⟨k,hk,HN.o.1,.inr ⟨HN.o.2.1,by simp,HN.o.2.1▸HN.o.2.2⟩⟩
theorem ady (x:dQ) (bx aZ:Nat) (fst caps:Array Value) (b:Bool) (W:World) (R:World->Prop) (eg: ∀args w,(callFunc aZ args).run Tryz.prog w= .ok (.enter aZ args) w)
 (hbx:W.cell? ⟨bx,0,none⟩=some (.func (.func aZ) fst caps))
 (hcall:Calls Tryz.prog aZ (fst.push (rv x)++caps) (W.alloc (.cells #[iv x.1,iv x.2] 129)) (fun e W'=>e= .returned (.bool b)/\R W')):
 Calls Tryz.prog 284 #[rv x,.pointer (some ⟨bx,0,none⟩)] W (fun e W'=>e= .returned (.bool !b)/\R W'):=by
 have hlt:=dG W _ hbx
 have HC:=ae hcall
 clear hcall
 go_enter Tryz.func284,Tryz.ntmps284
 go_wp2_with fail
 refine HC.o.mono ?_
 rintro e W' ⟨rfl,hR⟩
 have HR:=ae hR
 clear hR
 go_wp2_with fail
 go_returns
 exact⟨by simp,HR.o⟩
theorem afL (l:List dQ) (v:Value) (aZ:Nat) (fst caps:Array Value) (p:Nat->Bool) (I:Nat->World->Prop) (w:World) (eg: ∀args w,(callFunc aZ args).run Tryz.prog w= .ok (.enter aZ args) w)
 (hsl: ∀k W,I k W->bP W v l) (hal: ∀k W o,I k W->I k (W.alloc o))
 (hcall: ∀k (hk:k<l.length) W,(∀j,j<k->p j=true)->I k W->Calls Tryz.prog aZ (fst.push (rv l[k])++caps) W (fun e W'=>e= .returned (.bool (p k))/\I (k+1) W'/\jk w.heap.size W W')) (h0:I 0 w):
 Calls Tryz.prog 223 #[v,.func (.func aZ) fst caps] w (dZ l.length (fun k=>!p k) I (fun _=> .bool false) (.bool true)):=by
 have HI:=ae (adv l v 284 #[] #[.pointer (some ⟨w.heap.size,0,none⟩)] (fun k=>!p k)
  (fun k W=>I k W/\W.heap[w.heap.size]? =some (.cells #[.func (.func aZ) fst caps] 337 (0,0))) (w.alloc (.cells #[.func (.func aZ) fst caps] 337))
  (enters_of Tryz.func284 (by kernel_rfl) rfl) (fun k W h=>hsl k W h.1)
  (fun k hk W hno h=>by
    have hlt:w.heap.size<W.heap.size:=(aS.1 h.2).1
    refine(ady l[k] w.heap.size aZ fst caps (p k) W (fun W'=>I (k+1) W'/\W'.heap[w.heap.size]? =some (.cells #[.func (.func aZ) fst caps] 337 (0,0))) eg (aB h.2) ?_)
    refine(hcall k hk _ (fun j hj=>by simpa using hno j hj) (by first|exact hal _ _ _ h.1|exact h.1)).mono ?_
    rintro e W' ⟨rfl,h1,h2⟩
    refine⟨rfl,h1,(h2.block _ (ai _) (by first|exact hlt|(simp;omega))).trans (by first|exact h.2|exact(aV _ _ _ hlt).trans h.2)⟩)
  ⟨hal _ _ _ h0,heap_alloc_new w _⟩)
 have hlen:=(hsl 0 w h0).len
 clear hsl hcall h0 eg hal
 go_enter Tryz.func223,Tryz.ntmps223
 go_wp2_with fail
 refine HI.o.mono ?_
 clear HI
 rintro e W' ⟨k,hk,hno,⟨hlt,hp,rfl,hI,_⟩|⟨hkl,rfl,hI,_⟩⟩
 ·have HN:=ae (ag hno (ag hp hI))
  clear hno hp hI
  go_wp2_with fail
  go_returns
  exact⟨k,hk,HN.o.1,.inl ⟨hlt,HN.o.2.1,by simp,HN.o.2.2⟩⟩
 ·have HN:=ae (ag hno (ag hkl hI))
  clear hno hkl hI
  go_wp2_with fail
  go_returns
  exact⟨k,hk,HN.o.1,.inr ⟨HN.o.2.1,by simp,HN.o.2.1▸HN.o.2.2⟩⟩
theorem Rf (l:List dQ) (v:Value) (aZ:Nat) (fst caps:Array Value) (q:dQ->Bool) (w:World) (hv:bP w v l) (eg: ∀args w,(callFunc aZ args).run Tryz.prog w= .ok (.enter aZ args) w)
 (hcall: ∀x∈l, ∀W,Below w.heap.size w W->Calls Tryz.prog aZ (fst.push (rv x)++caps) W (PV (.bool (q x)) W)):
 Calls Tryz.prog 223 #[v,.func (.func aZ) fst caps] w (PV (.bool (l.all q)) w):=by
 refine(afL l v aZ fst caps (fun k=>q (l.getD k (0,0))) (fun _ W=>Below w.heap.size w W) w eg (fun k W h=>hv.below h (ai _)) (fun k W o h=>ak h o) (fun k hk W _ h=>?_) (aH _ _)).mono ?_
 ·refine(hcall l[k] (df _) W h).mono ?_
  rintro e W' ⟨rfl,hb⟩
  exact⟨by simp[hk],bn h hb,jk.aA hb⟩
 ·intro e W' hpost
  obtain⟨rfl,k,_,hI⟩:=hpost.all
  refine⟨?_,hI⟩
  rw[jC,jL]
theorem afJ (l:List KE) (v:Value) (aZ:Nat) (fst caps:Array Value) (p:Nat->Bool) (I:Nat->World->Prop) (w:World) (eg: ∀args w,(callFunc aZ args).run Tryz.prog w= .ok (.enter aZ args) w)
 (hsl: ∀k W,I k W->xm W v l)
 (hcall: ∀k (hk:k<l.length) W,(∀j,j<k->p j=false)->I k W->Calls Tryz.prog aZ (fst.push (kev l[k])++caps) W (fun e W'=>e= .returned (.bool (p k))/\I (k+1) W')) (h0:I 0 w):
 Calls Tryz.prog 315 #[v,.func (.func aZ) fst caps] w (dZ l.length p I (fun k=>iv k) (iv (-1))):=by
 have hlen:=(hsl 0 w h0).len
 obtain⟨o,c,rfl⟩:=(hsl 0 w h0).open
 have HC:=ae hcall
 have HS:=ae hsl
 clear hcall hsl
 go_enter Tryz.func315,Tryz.ntmps315
 go_wp2
 go_loopw [4,5,8] (fun _ _ i wr=> ∃k:Nat,k<=l.length/\i= .int .i64 k/\(∀j,j<k->p j=false)/\I k wr) (fun _ _ i _=>l.length-(intOf i).toNat)
 case atStart=>exact⟨0,bM _,rfl,fun j hj=>by omega,h0⟩
 case round=>
  obtain⟨k,hk,rfl,hno,hI⟩:=hrel
  by_cases hlt:k<l.length
  ·obtain⟨b,off,rfl,hb,hc0⟩:=xm.cell (HS.o k wr hI) hlt
   have hC:=HC.o k hlt wr hno hI
   have HN:=ae hno
   clear hno
   go_wp2_with fail
   refine hC.mono ?_
   rintro e W1 ⟨rfl,hI1⟩
   have HI:=ae hI1
   clear hI1 hI hC
   cases hp:p k
   ·go_wp2_with fail
    go_roundw
    case rel=>exact⟨k+1,by omega,by go_num,fun j hj=>(by by_cases e:j=k;(subst e;exact hp);exact HN.o j (by omega)),HI.o⟩
    case measure=>simp[intOf];omega
   ·go_wp2_with fail
    go_returns
    exact⟨k,by omega,HN.o,.inl ⟨hlt,hp,by simp,HI.o⟩⟩
  ·have hkl:k=l.length:=by omega
   have HN:=ae hno
   clear hno
   go_wp2_with fail
   go_returns
   exact⟨k,by omega,HN.o,.inr ⟨hkl,by simp,by subst hkl;exact hI⟩⟩
theorem adw (l:List KE) (v:Value) (aZ:Nat) (fst caps:Array Value) (p:Nat->Bool) (I:Nat->World->Prop) (w:World) (eg: ∀args w,(callFunc aZ args).run Tryz.prog w= .ok (.enter aZ args) w)
 (hsl: ∀k W,I k W->xm W v l)
 (hcall: ∀k (hk:k<l.length) W,(∀j,j<k->p j=false)->I k W->Calls Tryz.prog aZ (fst.push (kev l[k])++caps) W (fun e W'=>e= .returned (.bool (p k))/\I (k+1) W')) (h0:I 0 w):
 Calls Tryz.prog 285 #[v,.func (.func aZ) fst caps] w (dZ l.length p I (fun _=> .bool true) (.bool false)):=by
 have HI:=ae (afJ l v aZ fst caps p I w eg hsl hcall h0)
 have hlen:=(hsl 0 w h0).len
 clear hsl hcall h0 eg
 go_enter Tryz.func285,Tryz.ntmps285
 go_wp2_with fail
 refine HI.o.mono ?_
 clear HI
 rintro e W' ⟨k,hk,hno,⟨hlt,hp,rfl,hI⟩|⟨hkl,rfl,hI⟩⟩
 ·have HN:=ae (ag hno (ag hp hI))
  clear hno hp hI
  go_wp2_with fail
  go_returns
  exact⟨k,hk,HN.o.1,.inl ⟨hlt,HN.o.2.1,by simp,HN.o.2.2⟩⟩
 ·have HN:=ae (ag hno (ag hkl hI))
  clear hno hkl hI
  go_wp2_with fail
  go_returns
  exact⟨k,hk,HN.o.1,.inr ⟨HN.o.2.1,by simp,HN.o.2.1▸HN.o.2.2⟩⟩
theorem adz (x:KE) (bx aZ:Nat) (fst caps:Array Value) (b:Bool) (W:World) (R:World->Prop) (eg: ∀args w,(callFunc aZ args).run Tryz.prog w= .ok (.enter aZ args) w)
 (hbx:W.cell? ⟨bx,0,none⟩=some (.func (.func aZ) fst caps))
 (hcall:Calls Tryz.prog aZ (fst.push (kev x)++caps) W (fun e W'=>e= .returned (.bool b)/\R W')):
 Calls Tryz.prog 286 #[kev x,.pointer (some ⟨bx,0,none⟩)] W (fun e W'=>e= .returned (.bool !b)/\R W'):=by
 have hlt:=dG W _ hbx
 have HC:=ae hcall
 clear hcall
 go_enter Tryz.func286,Tryz.ntmps286
 go_wp2_with fail
 refine HC.o.mono ?_
 rintro e W' ⟨rfl,hR⟩
 have HR:=ae hR
 clear hR
 go_wp2_with fail
 go_returns
 exact⟨by simp,HR.o⟩
theorem afM (l:List KE) (v:Value) (aZ:Nat) (fst caps:Array Value) (p:Nat->Bool) (I:Nat->World->Prop) (w:World) (eg: ∀args w,(callFunc aZ args).run Tryz.prog w= .ok (.enter aZ args) w)
 (hsl: ∀k W,I k W->xm W v l) (hal: ∀k W o,I k W->I k (W.alloc o))
 (hcall: ∀k (hk:k<l.length) W,(∀j,j<k->p j=true)->I k W->Calls Tryz.prog aZ (fst.push (kev l[k])++caps) W (fun e W'=>e= .returned (.bool (p k))/\I (k+1) W'/\jk w.heap.size W W')) (h0:I 0 w):
 Calls Tryz.prog 225 #[v,.func (.func aZ) fst caps] w (dZ l.length (fun k=>!p k) I (fun _=> .bool false) (.bool true)):=by
 have HI:=ae (adw l v 286 #[] #[.pointer (some ⟨w.heap.size,0,none⟩)] (fun k=>!p k)
  (fun k W=>I k W/\W.heap[w.heap.size]? =some (.cells #[.func (.func aZ) fst caps] 163 (0,0))) (w.alloc (.cells #[.func (.func aZ) fst caps] 163))
  (enters_of Tryz.func286 (by kernel_rfl) rfl) (fun k W h=>hsl k W h.1)
  (fun k hk W hno h=>by
    have hlt:w.heap.size<W.heap.size:=(aS.1 h.2).1
    refine(adz l[k] w.heap.size aZ fst caps (p k) W (fun W'=>I (k+1) W'/\W'.heap[w.heap.size]? =some (.cells #[.func (.func aZ) fst caps] 163 (0,0))) eg (aB h.2) ?_)
    refine(hcall k hk _ (fun j hj=>by simpa using hno j hj) (by first|exact hal _ _ _ h.1|exact h.1)).mono ?_
    rintro e W' ⟨rfl,h1,h2⟩
    refine⟨rfl,h1,(h2.block _ (ai _) (by first|exact hlt|(simp;omega))).trans (by first|exact h.2|exact(Below.heap_alloc _ _ _ hlt).trans h.2)⟩)
  ⟨hal _ _ _ h0,heap_alloc_new w _⟩)
 have hlen:=(hsl 0 w h0).len
 clear hsl hcall h0 eg hal
 go_enter Tryz.func225,Tryz.ntmps225
 go_wp2_with fail
 refine HI.o.mono ?_
 clear HI
 rintro e W' ⟨k,hk,hno,⟨hlt,hp,rfl,hI,_⟩|⟨hkl,rfl,hI,_⟩⟩
 ·have HN:=ae (ag hno (ag hp hI))
  clear hno hp hI
  go_wp2_with fail
  go_returns
  exact⟨k,hk,HN.o.1,.inl ⟨hlt,HN.o.2.1,by simp,HN.o.2.2⟩⟩
 ·have HN:=ae (ag hno (ag hkl hI))
  clear hno hkl hI
  go_wp2_with fail
  go_returns
  exact⟨k,hk,HN.o.1,.inr ⟨HN.o.2.1,by simp,HN.o.2.1▸HN.o.2.2⟩⟩
theorem Rh (l:List KE) (v:Value) (aZ:Nat) (fst caps:Array Value) (q:KE->Bool) (w:World) (hv:xm w v l) (eg: ∀args w,(callFunc aZ args).run Tryz.prog w= .ok (.enter aZ args) w)
 (hcall: ∀x∈l, ∀W,Below w.heap.size w W->Calls Tryz.prog aZ (fst.push (kev x)++caps) W (PV (.bool (q x)) W)):
 Calls Tryz.prog 225 #[v,.func (.func aZ) fst caps] w (PV (.bool (l.all q)) w):=by
 refine(afM l v aZ fst caps (fun k=>q (l.getD k (undef,[]))) (fun _ W=>Below w.heap.size w W) w eg (fun k W h=>hv.below h (ai _)) (fun k W o h=>ak h o) (fun k hk W _ h=>?_) (aH _ _)).mono ?_
 ·refine(hcall l[k] (df _) W h).mono ?_
  rintro e W' ⟨rfl,hb⟩
  exact⟨by simp[hk],bn h hb,jk.aA hb⟩
 ·intro e W' hpost
  obtain⟨rfl,k,_,hI⟩:=hpost.all
  refine⟨?_,hI⟩
  rw[jC,jL]
theorem afH (l:List IQ) (v:Value) (aZ:Nat) (fst caps:Array Value) (p:Nat->Bool) (I:Nat->World->Prop) (w:World) (eg: ∀args w,(callFunc aZ args).run Tryz.prog w= .ok (.enter aZ args) w)
 (hsl: ∀k W,I k W->yz W v l)
 (hcall: ∀k (hk:k<l.length) W,(∀j,j<k->p j=false)->I k W->Calls Tryz.prog aZ (fst.push (MO l[k])++caps) W (fun e W'=>e= .returned (.bool (p k))/\I (k+1) W')) (h0:I 0 w):
 Calls Tryz.prog 316 #[v,.func (.func aZ) fst caps] w (dZ l.length p I (fun k=>iv k) (iv (-1))):=by
 have hlen:=(hsl 0 w h0).len
 obtain⟨o,c,rfl⟩:=(hsl 0 w h0).open
 have HC:=ae hcall
 have HS:=ae hsl
 clear hcall hsl
 go_enter Tryz.func316,Tryz.ntmps316
 go_wp2
 go_loopw [4,5,8] (fun _ _ i wr=> ∃k:Nat,k<=l.length/\i= .int .i64 k/\(∀j,j<k->p j=false)/\I k wr) (fun _ _ i _=>l.length-(intOf i).toNat)
 case atStart=>exact⟨0,bM _,rfl,fun j hj=>by omega,h0⟩
 case round=>
  obtain⟨k,hk,rfl,hno,hI⟩:=hrel
  by_cases hlt:k<l.length
  ·obtain⟨b,off,rfl,hb,hc0,hc1,hc2,hc3⟩:=yz.cell (HS.o k wr hI) hlt
   have hC:=HC.o k hlt wr hno hI
   have HN:=ae hno
   clear hno
   go_wp2_with fail
   refine hC.mono ?_
   rintro e W1 ⟨rfl,hI1⟩
   have HI:=ae hI1
   clear hI1 hI hC
   cases hp:p k
   ·go_wp2_with fail
    go_roundw
    case rel=>exact⟨k+1,by omega,by go_num,fun j hj=>(by by_cases e:j=k;(subst e;exact hp);exact HN.o j (by omega)),HI.o⟩
    case measure=>simp[intOf];omega
   ·go_wp2_with fail
    go_returns
    exact⟨k,by omega,HN.o,.inl ⟨hlt,hp,by simp,HI.o⟩⟩
  ·have hkl:k=l.length:=by omega
   have HN:=ae hno
   clear hno
   go_wp2_with fail
   go_returns
   exact⟨k,by omega,HN.o,.inr ⟨hkl,by simp,by subst hkl;exact hI⟩⟩
theorem adu (l:List IQ) (v:Value) (aZ:Nat) (fst caps:Array Value) (p:Nat->Bool) (I:Nat->World->Prop) (w:World) (eg: ∀args w,(callFunc aZ args).run Tryz.prog w= .ok (.enter aZ args) w)
 (hsl: ∀k W,I k W->yz W v l)
 (hcall: ∀k (hk:k<l.length) W,(∀j,j<k->p j=false)->I k W->Calls Tryz.prog aZ (fst.push (MO l[k])++caps) W (fun e W'=>e= .returned (.bool (p k))/\I (k+1) W')) (h0:I 0 w):
 Calls Tryz.prog 287 #[v,.func (.func aZ) fst caps] w (dZ l.length p I (fun _=> .bool true) (.bool false)):=by
 have HI:=ae (afH l v aZ fst caps p I w eg hsl hcall h0)
 have hlen:=(hsl 0 w h0).len
 clear hsl hcall h0 eg
 go_enter Tryz.func287,Tryz.ntmps287
 go_wp2_with fail
 refine HI.o.mono ?_
 clear HI
 rintro e W' ⟨k,hk,hno,⟨hlt,hp,rfl,hI⟩|⟨hkl,rfl,hI⟩⟩
 ·have HN:=ae (ag hno (ag hp hI))
  clear hno hp hI
  go_wp2_with fail
  go_returns
  exact⟨k,hk,HN.o.1,.inl ⟨hlt,HN.o.2.1,by simp,HN.o.2.2⟩⟩
 ·have HN:=ae (ag hno (ag hkl hI))
  clear hno hkl hI
  go_wp2_with fail
  go_returns
  exact⟨k,hk,HN.o.1,.inr ⟨HN.o.2.1,by simp,HN.o.2.1▸HN.o.2.2⟩⟩
theorem adx (x:IQ) (bx aZ:Nat) (fst caps:Array Value) (b:Bool) (W:World) (R:World->Prop) (eg: ∀args w,(callFunc aZ args).run Tryz.prog w= .ok (.enter aZ args) w)
 (hbx:W.cell? ⟨bx,0,none⟩=some (.func (.func aZ) fst caps))
 (hcall:Calls Tryz.prog aZ (fst.push (MO x)++caps) (W.alloc (.cells #[.bool x.1,iv x.2.1,iv x.2.2.1,iv x.2.2.2] 192)) (fun e W'=>e= .returned (.bool b)/\R W')):
 Calls Tryz.prog 288 #[MO x,.pointer (some ⟨bx,0,none⟩)] W (fun e W'=>e= .returned (.bool !b)/\R W'):=by
 have hlt:=dG W _ hbx
 have HC:=ae hcall
 clear hcall
 go_enter Tryz.func288,Tryz.ntmps288
 go_wp2_with fail
 refine HC.o.mono ?_
 rintro e W' ⟨rfl,hR⟩
 have HR:=ae hR
 clear hR
 go_wp2_with fail
 go_returns
 exact⟨by simp,HR.o⟩
theorem afK (l:List IQ) (v:Value) (aZ:Nat) (fst caps:Array Value) (p:Nat->Bool) (I:Nat->World->Prop) (w:World) (eg: ∀args w,(callFunc aZ args).run Tryz.prog w= .ok (.enter aZ args) w)
 (hsl: ∀k W,I k W->yz W v l) (hal: ∀k W o,I k W->I k (W.alloc o))
 (hcall: ∀k (hk:k<l.length) W,(∀j,j<k->p j=true)->I k W->Calls Tryz.prog aZ (fst.push (MO l[k])++caps) W (fun e W'=>e= .returned (.bool (p k))/\I (k+1) W'/\jk w.heap.size W W')) (h0:I 0 w):
 Calls Tryz.prog 226 #[v,.func (.func aZ) fst caps] w (dZ l.length (fun k=>!p k) I (fun _=> .bool false) (.bool true)):=by
 have HI:=ae (adu l v 288 #[] #[.pointer (some ⟨w.heap.size,0,none⟩)] (fun k=>!p k)
  (fun k W=>I k W/\W.heap[w.heap.size]? =some (.cells #[.func (.func aZ) fst caps] 335 (0,0))) (w.alloc (.cells #[.func (.func aZ) fst caps] 335))
  (enters_of Tryz.func288 (by kernel_rfl) rfl) (fun k W h=>hsl k W h.1)
  (fun k hk W hno h=>by
    have hlt:w.heap.size<W.heap.size:=(aS.1 h.2).1
    refine(adx l[k] w.heap.size aZ fst caps (p k) W (fun W'=>I (k+1) W'/\W'.heap[w.heap.size]? =some (.cells #[.func (.func aZ) fst caps] 335 (0,0))) eg (aB h.2) ?_)
    refine(hcall k hk _ (fun j hj=>by simpa using hno j hj) (by first|exact hal _ _ _ h.1|exact h.1)).mono ?_
    rintro e W' ⟨rfl,h1,h2⟩
    refine⟨rfl,h1,(h2.block _ (ai _) (by first|exact hlt|(simp;omega))).trans (by first|exact h.2|exact(aV _ _ _ hlt).trans h.2)⟩)
  ⟨hal _ _ _ h0,heap_alloc_new w _⟩)
 have hlen:=(hsl 0 w h0).len
 clear hsl hcall h0 eg hal
 go_enter Tryz.func226,Tryz.ntmps226
 go_wp2_with fail
 refine HI.o.mono ?_
 clear HI
 rintro e W' ⟨k,hk,hno,⟨hlt,hp,rfl,hI,_⟩|⟨hkl,rfl,hI,_⟩⟩
 ·have HN:=ae (ag hno (ag hp hI))
  clear hno hp hI
  go_wp2_with fail
  go_returns
  exact⟨k,hk,HN.o.1,.inl ⟨hlt,HN.o.2.1,by simp,HN.o.2.2⟩⟩
 ·have HN:=ae (ag hno (ag hkl hI))
  clear hno hkl hI
  go_wp2_with fail
  go_returns
  exact⟨k,hk,HN.o.1,.inr ⟨HN.o.2.1,by simp,HN.o.2.1▸HN.o.2.2⟩⟩
theorem Q9 (l:List IQ) (v:Value) (aZ:Nat) (fst caps:Array Value) (q:IQ->Bool) (w:World) (hv:yz w v l) (eg: ∀args w,(callFunc aZ args).run Tryz.prog w= .ok (.enter aZ args) w)
 (hcall: ∀x∈l, ∀W,Below w.heap.size w W->Calls Tryz.prog aZ (fst.push (MO x)++caps) W (PV (.bool (q x)) W)):
 Calls Tryz.prog 226 #[v,.func (.func aZ) fst caps] w (PV (.bool (l.all q)) w):=by
 refine(afK l v aZ fst caps (fun k=>q (l.getD k (false,0,(0,0)))) (fun _ W=>Below w.heap.size w W) w eg (fun k W h=>hv.below h (ai _)) (fun k W o h=>ak h o) (fun k hk W _ h=>?_) (aH _ _)).mono ?_
 ·refine(hcall l[k] (df _) W h).mono ?_
  rintro e W' ⟨rfl,hb⟩
  exact⟨by simp[hk],bn h hb,jk.aA hb⟩
 ·intro e W' hpost
  obtain⟨rfl,k,_,hI⟩:=hpost.all
  refine⟨?_,hI⟩
  rw[jC,jL]
theorem adA (x:Int) (bx aZ:Nat) (fst caps:Array Value) (b:Bool) (W:World) (R:World->Prop) (eg: ∀args w,(callFunc aZ args).run Tryz.prog w= .ok (.enter aZ args) w)
 (hbx:W.cell? ⟨bx,0,none⟩=some (.func (.func aZ) fst caps))
 (hcall:Calls Tryz.prog aZ (fst.push (iv x)++caps) W (fun e W'=>e= .returned (.bool b)/\R W')):
 Calls Tryz.prog 336 #[iv x,.pointer (some ⟨bx,0,none⟩)] W (fun e W'=>e= .returned (.bool !b)/\R W'):=by
 have hlt:=dG W _ hbx
 have HC:=ae hcall
 clear hcall
 go_enter Tryz.func336,Tryz.ntmps336
 go_wp2_with fail
 refine HC.o.mono ?_
 rintro e W' ⟨rfl,hR⟩
 have HR:=ae hR
 clear hR
 go_wp2_with fail
 go_returns
 exact⟨by simp,HR.o⟩
theorem afN (l:List Int) (v:Value) (aZ:Nat) (fst caps:Array Value) (p:Nat->Bool) (I:Nat->World->Prop) (w:World) (eg: ∀args w,(callFunc aZ args).run Tryz.prog w= .ok (.enter aZ args) w)
 (hsl: ∀k W,I k W->aO W v l) (hal: ∀k W o,I k W->I k (W.alloc o))
 (hcall: ∀k (hk:k<l.length) W,(∀j,j<k->p j=true)->I k W->Calls Tryz.prog aZ (fst.push (iv l[k])++caps) W (fun e W'=>e= .returned (.bool (p k))/\I (k+1) W'/\jk w.heap.size W W')) (h0:I 0 w):
 Calls Tryz.prog 312 #[v,.func (.func aZ) fst caps] w (dZ l.length (fun k=>!p k) I (fun _=> .bool false) (.bool true)):=by
 have HI:=ae (OO l v 336 #[] #[.pointer (some ⟨w.heap.size,0,none⟩)] (fun k=>!p k)
  (fun k W=>I k W/\W.heap[w.heap.size]? =some (.cells #[.func (.func aZ) fst caps] 274 (0,0))) (w.alloc (.cells #[.func (.func aZ) fst caps] 274))
  (enters_of Tryz.func336 (by kernel_rfl) rfl) (fun k W h=>hsl k W h.1)
  (fun k hk W hno h=>by
    have hlt:w.heap.size<W.heap.size:=(aS.1 h.2).1
    refine(adA l[k] w.heap.size aZ fst caps (p k) W (fun W'=>I (k+1) W'/\W'.heap[w.heap.size]? =some (.cells #[.func (.func aZ) fst caps] 274 (0,0))) eg (aB h.2) ?_)
    refine(hcall k hk _ (fun j hj=>by simpa using hno j hj) (by first|exact hal _ _ _ h.1|exact h.1)).mono ?_
    rintro e W' ⟨rfl,h1,h2⟩
    refine⟨rfl,h1,(h2.block _ (ai _) (by first|exact hlt|(simp;omega))).trans (by first|exact h.2|exact(Below.heap_alloc _ _ _ hlt).trans h.2)⟩)
  ⟨hal _ _ _ h0,heap_alloc_new w _⟩)
 have hlen:=(hsl 0 w h0).len
 clear hsl hcall h0 eg hal
 go_enter Tryz.func312,Tryz.ntmps312
 go_wp2_with fail
 refine HI.o.mono ?_
 clear HI
 rintro e W' ⟨k,hk,hno,⟨hlt,hp,rfl,hI,_⟩|⟨hkl,rfl,hI,_⟩⟩
 ·have HN:=ae (ag hno (ag hp hI))
  clear hno hp hI
  go_wp2_with fail
  go_returns
  exact⟨k,hk,HN.o.1,.inl ⟨hlt,HN.o.2.1,by simp,HN.o.2.2⟩⟩
 ·have HN:=ae (ag hno (ag hkl hI))
  clear hno hkl hI
  go_wp2_with fail
  go_returns
  exact⟨k,hk,HN.o.1,.inr ⟨HN.o.2.1,by simp,HN.o.2.1▸HN.o.2.2⟩⟩
theorem Ri (l:List Int) (v:Value) (aZ:Nat) (fst caps:Array Value) (q:Int->Bool) (w:World) (hv:aO w v l) (eg: ∀args w,(callFunc aZ args).run Tryz.prog w= .ok (.enter aZ args) w)
 (hcall: ∀x∈l, ∀W,Below w.heap.size w W->Calls Tryz.prog aZ (fst.push (iv x)++caps) W (PV (.bool (q x)) W)):
 Calls Tryz.prog 312 #[v,.func (.func aZ) fst caps] w (PV (.bool (l.all q)) w):=by
 refine(afN l v aZ fst caps (fun k=>q (l.getD k 0)) (fun _ W=>Below w.heap.size w W) w eg (fun k W h=>hv.below h (ai _)) (fun k W o h=>ak h o) (fun k hk W _ h=>?_) (aH _ _)).mono ?_
 ·refine(hcall l[k] (df _) W h).mono ?_
  rintro e W' ⟨rfl,hb⟩
  exact⟨by simp[hk],bn h hb,jk.aA hb⟩
 ·intro e W' hpost
  obtain⟨rfl,k,_,hI⟩:=hpost.all
  refine⟨?_,hI⟩
  rw[jC,jL]
theorem MK (c:bK) (oh:Option Addr) (ch:Nat) (kvv tv:Value) (l:List Int) (v:Value) (w:World) (hv:aO w v l):
 Calls Tryz.prog 281 #[kv (.slice oh c.heaps.length ch) kvv tv,v] w (PV (.bool (sF c l)) w):=by
 obtain⟨o,cc,rfl⟩:=hv.open
 have HA:=ae (fun(W:World) (hb:Below w.heap.size w W)=>Ri l (.slice o l.length cc) 313 #[] #[] (nM · 0 30) W (hv.below hb (ai _)) (enters_of Tryz.func313 (by kernel_rfl) rfl) (fun x _ W _=>Qa x W))
 clear hv
 unfold sF
 by_cases hl:l.length=c.heaps.length
 ·have hl':((l.length:Int)==(c.heaps.length:Int))=true:=by simp[hl]
  rw[decide_eq_true hl,Bool.true_and]
  have HL:=ae hl
  clear hl
  go_enter Tryz.func281,Tryz.ntmps281
  go_wp2_with fail
  refine(HA.o _ (ak (aH _ _) _)).mono ?_
  rintro e w' ⟨rfl,hb⟩
  obtain⟨hc,hf⟩:=bJ hb
  go_wp2_with fail
  go_returns
  exact⟨by simp,bn (ak (aH _ _) _) hb⟩
 ·have hl':((l.length:Int)==(c.heaps.length:Int))=false:=by simp;omega
  rw[decide_eq_false hl,Bool.false_and]
  have HL:=ae hl
  clear hl
  go_enter Tryz.func281,Tryz.ntmps281
  go_wp2_with fail
  go_returns
  exact⟨by simp,zl⟩
theorem Rk (c:bK) (oh:Option Addr) (ch:Nat) (kvv tv:Value) (e:KE) (w:World) (hv:aO w e.1 e.2) (hh:c.heaps.length<=1000):
 Calls Tryz.prog 222 #[kv (.slice oh c.heaps.length ch) kvv tv,kev e] w (PV (.bool (vP c e.2)) w):=by
 obtain⟨v,l⟩:=e
 simp only[kev] at hv⊢
 obtain⟨o,cc,rfl⟩:=hv.open
 have HA:=ae (fun(W:World) (hb:Below w.heap.size w W)=>MK c oh ch kvv tv l (.slice o l.length cc) W (hv.below hb (ai _)))
 by_cases hw:sF c l=true
 ·have hx:(∀x∈l,0<=x/\x<=9999)/\l.length=c.heaps.length:=by
   simp only[sF,nM,eF,eQ,jV] at hw
   exact⟨fun x hx=>by have:=hw.2 x hx;omega,hw.1⟩
  have hn:l.length<=1000:=by omega
  have HS:=ae (fun(W:World) (hb:Below w.heap.size w W)=>NU l (.slice o l.length cc) W (hv.below hb (ai _)) hx.1 hn)
  have HC:Hid (vP c l=decide (0<mr l)):=ae (by unfold vP;rw[hw,Bool.true_and])
  rw[hw] at HA
  clear hv hw hx
  rw[HC.o]
  generalize mr l=m at HS
  go_enter Tryz.func222,Tryz.ntmps222
  go_wp2_with fail
  refine(HA.o _ (ak (aH _ _) _)).mono ?_
  rintro e w1 ⟨rfl,hb⟩
  obtain⟨hc,hf⟩:=bJ hb
  have HB:=ae (show Below w.heap.size w w1 from bn (ak (aH _ _) _) hb)
  clear hb
  go_wp2_with fail
  refine(HS.o _ HB.o).mono ?_
  rintro e w2 ⟨rfl,hb⟩
  obtain⟨hc2,hf2⟩:=bJ hb
  have HB2:=ae (bn HB.o hb)
  clear hb
  go_wp2_with fail
  go_returns
  exact⟨by simp,HB2.o⟩
 ·have hw':sF c l=false:=by simpa using hw
  rw[hw'] at HA
  have HC:Hid (vP c l=false):=ae (by unfold vP;rw[hw'];rfl)
  clear hv hw hw'
  rw[HC.o]
  go_enter Tryz.func222,Tryz.ntmps222
  go_wp2_with fail
  refine(HA.o _ (ak (aH _ _) _)).mono ?_
  rintro e w1 ⟨rfl,hb⟩
  obtain⟨hc,hf⟩:=bJ hb
  have HB:=ae (show Below w.heap.size w w1 from bn (ak (aH _ _) _) hb)
  clear hb
  go_wp2_with fail
  go_returns
  exact⟨by simp,HB.o⟩
end Go.Proofs.YthllkbbbapgelaaGreatDoor.zo
end
section
namespace Go.Proofs.YthllkbbbapgelaaGreatDoor.zo
open Go.RowKit Go.RG Go.SL Go.Shelf jl Go.TB
theorem Q5 (c:bK) (oh ok:Option Addr) (ch ck:Nat) (tv:Value) (t:IQ) (w:World) (h1:c.heaps.length<=1000) (h2:c.aU.length<=1000):
 Calls Tryz.prog 221 #[kv (.slice oh c.heaps.length ch) (.slice ok c.aU.length ck) tv,MO t] w (PV (.bool (sG c t)) w):=by
 obtain⟨b,n,r⟩:=t
 cases b
 all_goals
  go_enter Tryz.func221,Tryz.ntmps221
  go_wp2_with fail
  refine(xQ _ _ _ _).mono ?_
  rintro e w1 ⟨rfl,hb⟩
  obtain⟨hc,hf⟩:=bJ hb
  have hz:=hb.size
  simp only[bu] at hz
  have HB:=ae (show Below w.heap.size w w1 from zl)
  clear hb
 ·cases hq:nM n 0 ((c.heaps.length:Int)-1)
  ·go_wp2_with fail
   go_returns
   exact⟨by simp[sG,wu,hq],HB.o⟩
  ·go_wp2_with fail
   refine(sK r _).mono ?_
   rintro e w2 ⟨rfl,hb⟩
   have HB2:=ae (bn HB.o hb)
   clear hb
   go_wp2_with fail
   go_returns
   exact⟨by simp[sG,wu,hq],HB2.o⟩
 ·cases hq:nM n 0 ((c.aU.length:Int)-1)
  ·go_wp2_with fail
   go_returns
   exact⟨by simp[sG,wu,hq],HB.o⟩
  ·go_wp2_with fail
   refine(sK r _).mono ?_
   rintro e w2 ⟨rfl,hb⟩
   have HB2:=ae (bn HB.o hb)
   clear hb
   go_wp2_with fail
   go_returns
   exact⟨by simp[sG,wu,hq],HB2.o⟩
theorem Q7 (c:bK) (oh:Option Addr) (ch:Nat) (kvv tv:Value) (t:IQ) (w:World) (h1:c.heaps.length<=1000) (h2:0<=t.2.1) (h3:t.2.1<=1000):
 Calls Tryz.prog 290 #[kv (.slice oh c.heaps.length ch) kvv tv,MO t] w (PV (iv (zH c t:Nat)) w):=by
 obtain⟨b,n,r⟩:=t
 simp only at h2 h3
 obtain⟨k,rfl⟩: ∃k:Nat,n=k:=⟨n.toNat,by omega⟩
 cases b
 ·go_enter Tryz.func290,Tryz.ntmps290
  go_wp2_with fail
  go_returns
  exact⟨by simp[zH],zl⟩
 ·go_enter Tryz.func290,Tryz.ntmps290
  go_wp2_with fail
  go_returns
  exact⟨by simp[zH],zl⟩
theorem Vx (l:List Int) (v:Value) (s:List Int) (x0 x1 x2:Int) (hx:kD s=[x0,x1,x2]) (w:World) (hv:aO w v l) (hl:l.length=s.length) (h3:s.length<=3)
 (hw: ∀x∈l,0<=x/\x<=30) (hs: ∀x∈s,0<=x/\x<=100) (hp:0<mr l):
 Calls Tryz.prog 232 #[.agg #[iv x0,iv x1,iv x2],v] w (PV (iv (Dv s l)) w):=by
 obtain⟨o,c,rfl⟩:=hv.open
 have HSM:=ae (fun(W:World) (hb:Below w.heap.size w W)=>NU l (.slice o l.length c) W (hv.below hb (ai _)) (fun x hx=>by have:=hw x hx;omega) (by omega))
 have HV:=ae (hv.alloc (.cells #[iv x0,iv x1,iv x2] 283))
 have HW:=ae hw
 have HS:=ae hs
 have HD:=ae (fun k=>ZU hw hs k)
 have HA:=ae (Wv hl)
 have HX:=ae hx
 have HP:=ae hp
 have hM:Hid (Dv s l=yZ l s/mr l):=ae rfl
 have hsb:=(EF (m:=30) (by omega) hw)
 rw[hM.o]
 generalize yZ l s=D at HA hM⊢
 generalize mr l=m at hsb hp HSM HP
 have HCB:=ae (fun(k:Nat) (hk:k<3)=>show(w.alloc (.cells #[iv x0,iv x1,iv x2] 283)).cell? ⟨w.heap.size,k,none⟩=some (iv ([x0,x1,x2].getD k 0)) from by
  rw[World.cell?_alloc_new]
  rcases(show k=0∨k=1∨k=2 by omega) with rfl|rfl|rfl <;>rfl)
 have HL:=ae (ag hl h3)
 have hl3:(l.length:Int)<=3:=by omega
 clear hv hw hs hx hp hl h3
 go_enter Tryz.func232,Tryz.ntmps232
 go_wp2_with fail
 go_loop [5,6,7,10] (fun n _ _ i=> ∃k:Nat,k<=l.length/\i= .int .i64 k/\n=iv (yj l s k)) (fun _ _ _ i=>l.length-(intOf i).toNat)
 case atStart=>exact⟨0,bM _,rfl,by simp[yj,yZ]⟩
 case round=>
  obtain⟨k,hk,rfl,rfl⟩:=hrel
  have hb:=HD.o k
  by_cases hlt:k<l.length
  ·obtain⟨b,off,rfl,hbl,hc0⟩:=aO.cell HV.o hlt
   have hks:k<s.length:=by have:=HL.o;omega
   have hx1:=HW.o _ (df hlt)
   have hx2:=HS.o _ (df hks)
   have hsu:=RV hlt hks
   have hk3:k<3:=by omega
   have hget:=HCB.o k hk3
   rw[<-HX.o,Nz,gW,dn hks,Option.getD_some] at hget
   generalize yj l s k=d at hb hsu⊢
   generalize l[k]=x at hc0 hx1 hsu
   generalize s[k]=y at hx2 hsu hget
   have hmul:0<=x*y/\x*y<=30*100:=⟨Int.mul_nonneg (by omega) (by omega),Int.mul_le_mul hx1.2 hx2.2 (by omega) (by omega)⟩
   obtain⟨hm1,hm2⟩:=hmul
   have oP:=ae hsu
   have aob:(k:Int)<3:=by omega
   clear hsu
   go_wp2_with fail
   go_round
   case rel=>exact⟨k+1,by omega,by go_num,by rw[oP.o]⟩
   case measure=>simp[intOf];omega
  ·have hkl:k=l.length:=by omega
   rw[hkl,HA.o]
   rw[hkl,HA.o] at hb
   have hpp:=HP.o
   have hdv:D.tdiv m=D/m:=Int.tdiv_eq_ediv_of_nonneg hb.1
   have hd0:0<=D/m:=Int.ediv_nonneg hb.1 (by omega)
   have hd1:D/m<=D:=Int.ediv_le_self _ hb.1
   go_wp2_with fail
   refine(HSM.o _ (ak (aH _ _) _)).mono ?_
   rintro e w1 ⟨rfl,hbb⟩
   have HB:=ae (show Below w.heap.size w w1 from bn (ak (aH _ _) _) hbb)
   clear hbb
   have hm0:m≠0:=by omega
   go_wp2_with fail
   go_returns
   exact⟨by simp[hdv],HB.o⟩
end Go.Proofs.YthllkbbbapgelaaGreatDoor.zo
end
section
namespace Go.Proofs.YthllkbbbapgelaaGreatDoor.zo
open Go.RowKit Go.RG Go.SL Go.Shelf jl Go.TB
attribute [local go_sem] Oper.semAt_some
theorem nH {l:List Int} (h:l.length=3): ∃a b c,l=[a,b,c]:=by
 match l,h with
 |[a,b,c],_=>exact⟨a,b,c,rfl⟩
def Str (c:bK) (s:List Int):Prop:=s.length=c.heaps.length/\ ∀x∈s,0<=x/\x<=100
theorem TZ (c:bK) (hS:nG c) (oh ok:Option Addr) (ch ck:Nat) (tv:Value) (es:List KE) (s:List Int) (x0 x1 x2:Int) (hx:kD s=[x0,x1,x2]) (hs:Str c s) (n:Nat) (hn:mZ c n) (w:World)
 (hk:xm w (.slice ok c.aU.length ck) es) (hes:es.map (·.2)=c.aU):
 Calls Tryz.prog 141 #[kv (.slice oh c.heaps.length ch) (.slice ok c.aU.length ck) tv,.agg #[iv x0,iv x1,iv x2],iv n] w (PV (iv (Hz c s n)) w):=by
 have h3:=hS.h3
 have h1:=hS.h1
 have c3:=hS.c3
 have hel:es.length=c.aU.length:=by rw[<-hes,lX]
 unfold mZ at hn
 by_cases hlt:n<c.heaps.length
 ·have hv:[x0,x1,x2].getD n 0=Hz c s n:=by
   unfold Hz
   rw[aF hlt, <-hx,Nz]
  have hn3:(n:Int)<3:=by omega
  have Es: ¬(c.heaps.length:Int)<=n:=by omega
  have hcell:((w.alloc (.cells #[.slice oh c.heaps.length ch,.slice ok c.aU.length ck,tv] 60)).alloc (.cells #[iv x0,iv x1,iv x2] 283)).cell? ⟨w.heap.size+1,n,none⟩=some (iv (Hz c s n)):=by
   rw[<-hv]
   simp only[World.cell?,dU]
   rcases(show n=0∨n=1∨n=2 by omega) with rfl|rfl|rfl <;>rfl
  generalize Hz c s n=r at hcell⊢
  clear hx hs hk hes hv hel
  go_enter Tryz.func141,Tryz.ntmps141
  go_wp2_with fail
  go_returns
  exact⟨by simp,zl⟩
 ·have hk0:n-c.heaps.length<es.length:=by omega
  have hkc:n-c.heaps.length<c.aU.length:=by omega
  have he:es[n-c.heaps.length].2=c.aU[n-c.heaps.length]:=by simp only[<-hes,List.getElem_map]
  have hc:=hS.aU _ (df hkc)
  have hr:=hk.2 _ (df hk0)
  rw[<-hel] at hk
  obtain⟨b,off,rfl,hb,hcell⟩:=xm.cell hk hk0
  generalize Ci:es[n-c.heaps.length]=e at*
  obtain⟨ev,el⟩:=e
  simp only at he hr hcell
  subst he
  obtain⟨oe,ce,rfl⟩:=hr.open
  have hv:Hz c s n=Dv s c.aU[n-c.heaps.length]:=by
   unfold Hz
   rw[aj hlt,gW,dn hkc,Option.getD_some]
  rw[hv]
  have HM:=ae (fun(W:World) (hB:Below w.heap.size w W)=>Vx c.aU[n-c.heaps.length] _ s x0 x1 x2 hx W (hr.below hB (ai _)) (by rw[hc.1,hs.1]) (by rw[hs.1];exact h3) hc.2.1 hs.2 hc.2.2)
  obtain⟨j,hj⟩: ∃j:Nat,n-c.heaps.length=j:=⟨_,rfl⟩
  obtain rfl:n=c.heaps.length+j:=by omega
  have hjI:(((c.heaps.length+j:Nat):Int)-(c.heaps.length:Int))=j:=by omega
  have aj2:(c.heaps.length:Int)<=((c.heaps.length+j:Nat):Int):=by omega
  have hjl:(j:Int)<c.aU.length:=by omega
  generalize c.aU[c.heaps.length+j-c.heaps.length]=l at*
  generalize Dv s l=r at HM⊢
  rw[hj] at hcell
  have HX:=ae (ag hx hs)
  clear hx hs hv hk hc hr Ci hj hk0 hkc hes hel
  obtain⟨N,hN⟩: ∃N:Int,((c.heaps.length+j:Nat):Int)=N:=⟨_,rfl⟩
  rw[hN] at hjI aj2⊢
  clear hN hlt hn
  go_enter Tryz.func141,Tryz.ntmps141
  go_upto_region 3 with(fail)
  refine dM fun W3 hW3=>?_
  have hb3:Below w.heap.size w W3:=by rw[hW3];exact zl
  have hk1:W3.heap[w.heap.size]? =some (.cells #[.slice oh c.heaps.length ch,.slice (some ⟨b,off,none⟩) c.aU.length ck,tv] 60 (0,0)):=by rw[hW3];exact(aV _ _ _ (by simp)).trans (ay _ _)
  have hk2:W3.heap[w.heap.size+1]? =some (.cells #[iv x0,iv x1,iv x2] 283 (0,0)):=by rw[hW3];exact dU _ _ _
  have akc:W3.cell? ⟨b,off+j,none⟩=some (.slice oe l.length ce):=(hb3.cell hb).trans hcell
  have hbl:b<W3.heap.size:=by have:=hb3.size;omega
  have HB3:=ae hb3
  obtain⟨d1,g1,m1⟩:=af hk1
  obtain⟨d2,g2,m2⟩:=af hk2
  clear hW3 hcell hb hb3 hk1 hk2
  refine zg 9 [] none [(8,Spec.val (iv r))] ?_
  simp only[zt]
  repeat ((first|refine zn ?_|refine zk ?_);simp only[zp])
  refine zw 232 (h:=fun W hE hF=>by exact HM.o W (bn HB3.o hE.below)) (t:=?_)
  simp only[zp]
  repeat ((first|refine zn ?_|refine zk ?_);simp only[zp])
  intro W hE hF
  obtain⟨hc,hf⟩:=bJ hE.below
  have hzE:=hE.size
  (try simp only[bu] at hzE)
  go_wp2_with fail
  (try simp only[Exit.inBlock,Exit.then])
  refine bodyPost_ret (v:=iv r) (by simp[results,Tryz.results141,go_sem,hc];try omega) rfl ?_
  exact⟨rfl,bn HB3.o hE.below⟩
structure Xn (w:World) (hv nT tv:Value) (x0 x1 x2:Int) (W:World):Prop where
 b0:W.heap[w.heap.size]? =some (.cells #[hv,nT,tv] 60 (0,0))
 b1:W.heap[w.heap.size+1]? =some (.cells #[iv x0,iv x1,iv x2] 283 (0,0))
 below:Below w.heap.size w W
theorem Xn.next {w:World} {hv nT tv:Value} {x0 x1 x2:Int} {W W':World} (h:Xn w hv nT tv x0 x1 x2 W) (hb:Below W.heap.size W W'):Xn w hv nT tv x0 x1 x2 W':=
 ⟨(hb.block _ (aS.1 h.b0).1).trans h.b0,(hb.block _ (aS.1 h.b1).1).trans h.b1,bn h.below hb⟩
def vX (c:bK) (out s:List Int) (k:Nat):Bool:=(List.range k).all fun i=>out.contains (i:Int) ||FI c s (c.aJ.getD i (false,0,(0,0)))
theorem Qw (c:bK) (hS:nG c) (oh ok ot:Option Addr) (ch ck ct:Nat) (es:List KE) (s:List Int) (x0 x1 x2:Int) (hx:kD s=[x0,x1,x2]) (hs:Str c s) (ov:Value) (out:List Int) (w:World)
 (hc:rF w (.slice oh c.heaps.length ch) (.slice ok c.aU.length ck) (.slice ot c.aJ.length ct) es c) (ho:aO w ov out):
 Calls Tryz.prog 231 #[kv (.slice oh c.heaps.length ch) (.slice ok c.aU.length ck) (.slice ot c.aJ.length ct),.agg #[iv x0,iv x1,iv x2],ov] w (PV (.bool (sQ c out s)) w):=by
 obtain⟨oo,oc,rfl⟩:=ho.open
 have t5:=hS.t5
 have HS:=ae hS
 have HC:=ae hc
 have HO:=ae ho
 have HX:=ae (ag hx hs)
 have HF:=ae (fun(n:Nat) (hn:mZ c n) (W:World) (hB:Below w.heap.size w W)=>TZ c hS oh ok ch ck (.slice ot c.aJ.length ct) es s x0 x1 x2 hx hs n hn W (hc.aU.below hB (ai _)) hc.is)
 have HT:=ae (fun(t:IQ) (ht:t∈c.aJ) (W:World)=>Q7 c oh ch (.slice ok c.aU.length ck) (.slice ot c.aJ.length ct) t W (by have:=hS.h3;omega) ((hS.aJ t ht).1.1) (by
  have h1:=(hS.aJ t ht).1.2
  have h2:=hS.h3
  have h3:=hS.c3
  unfold wu at h1
  split at h1 <;>omega))
 clear hS hc ho hx hs
 go_enter Tryz.func231,Tryz.ntmps231
 go_upto_region 1 with(fail)
 refine dM fun W1 hW1=>?_
 have hst:Xn w (.slice oh c.heaps.length ch) (.slice ok c.aU.length ck) (.slice ot c.aJ.length ct) x0 x1 x2 W1:=by
  rw[hW1]
  exact⟨(aV _ _ _ (by simp)).trans (ay _ _),dU _ _ _,zl⟩
 clear hW1
 obtain⟨cc0,cf0,cl0⟩:=af hst.b0
 have HST:=ae hst
 clear hst
 go_wp2_with fail
 go_loopw [12] (fun i wr=> ∃k:Nat,k<=c.aJ.length/\i= .int .i64 k/\vX c out s k=true/\Xn w (.slice oh c.heaps.length ch) (.slice ok c.aU.length ck) (.slice ot c.aJ.length ct) x0 x1 x2 wr) (fun i _=>c.aJ.length-(intOf i).toNat)
 case atStart=>exact⟨0,bM _,rfl,rfl,HST.o⟩
 case round=>
  obtain⟨k,hk,rfl,hok,hst⟩:=hrel
  have Hm:=ae hst
  have jq:=ae hok
  clear hok cc0 cf0 cl0
  by_cases hlt:k<c.aJ.length
  ·have htl:=HC.o.aJ.below hst.below (ai _)
   obtain⟨b,off,hv,hb,d0,d1,d2,d3⟩:=yz.cell htl hlt
   cases hv
   have hmem:=df hlt
   have hth:=UT HS.o hmem
   have hT:=HT.o _ hmem
   have hso:vX c out s (k+1)=(out.contains (k:Int) ||FI c s c.aJ[k]):=by
    have h1:=jq.o
    unfold vX at h1⊢
    rw[mG,h1,Bool.true_and,show c.aJ.getD k (false,0,(0,0))=c.aJ[k] from by simp[List.getD,hlt]]
   generalize c.aJ[k]=t at*
   obtain⟨tb,tn,Ko,Kq⟩:=t
   simp only at d0 d1 d2 d3
   have HTH:=ae hth
   obtain⟨q,hq⟩: ∃q,zH c (tb,tn,(Ko,Kq))=q:=⟨_,rfl⟩
   rw[hq] at hT HTH
   have hF:=HF.o q HTH.o
   obtain⟨r,hr⟩: ∃r,Hz c s q=r:=⟨_,rfl⟩
   rw[hr] at hF
   have af5:vX c out s (k+1)=(out.contains (k:Int) ||nM r Ko Kq):=by
    rw[hso];unfold FI;rw[hq,hr]
   have HSO:=ae af5
   have HTT:=ae hT
   have HFF:=ae hF
   have hcn:=fun W (hB:Below w.heap.size w W)=>iH out (.slice oo out.length oc) (k:Int) W (HO.o.below hB (ai _))
   generalize out.contains (k:Int)=cb at*
   have HCN:=ae hcn
   clear hst htl hmem hth hT hso af5 hq hF hr hcn
   go_upto_region 4 with(fail)
   refine dM fun W4 ER=>?_
   have abv:Xn w _ _ _ x0 x1 x2 W4:=Hm.o.next (by rw[ER];exact zl)
   have hk8:W4.heap[wr.heap.size]? =some (.cells #[.bool tb,iv tn,iv Ko,iv Kq] 192 (0,0)):=by rw[ER];exact ay _ _
   have hB4:Below wr.heap.size wr W4:=by rw[ER];exact zl
   obtain⟨c1,f1,l1⟩:=af abv.b0
   obtain⟨c2,f2,l2⟩:=af abv.b1
   obtain⟨c3,f3,l3⟩:=af hk8
   have UB:=ae abv
   clear ER abv hk8 hB4 d0 d1 d2 d3 hb
   cases cb
   ·skip
    refine zg 16 [] none [(2,Spec.val (.bool false)),(11,Spec.val (iv q)),(12,Spec.val (iv r)),(13,Spec.val (.bool (nM r Ko Kq)))] ?_
    simp only[zt]
    repeat ((first|refine zn ?_|refine zk ?_);simp only[zp])
    refine zw 147 (h:=fun W hE hF=>by exact HCN.o W (bn UB.o.below hE.below)) (t:=?_)
    simp only[zp]
    repeat ((first|refine zn ?_|refine zk ?_);simp only[zp])
    refine zw 290 (h:=fun W hE hF=>by exact HTT.o W) (t:=?_)
    simp only[zp]
    refine zw 141 (h:=fun W hE hF=>by exact HFF.o W (bn UB.o.below hE.below)) (t:=?_)
    simp only[zp]
    refine zw 289 (h:=fun W hE hF=>by exact Y2 (Ko,Kq) r W) (t:=?_)
    simp only[zp]
    repeat ((first|refine zn ?_|refine zk ?_);simp only[zp])
    intro W hE hF
    obtain⟨hc,hf⟩:=bJ hE.below
    have hzE:=hE.size
    (try simp only[bu] at hzE)
    have hst5:=UB.o.next hE.below
    have HS5:=ae hst5
    clear hst5 hE hF hc hf hzE c1 f1 l1 c2 f2 l2 c3 f3 l3
    cases hq2:nM r Ko Kq
    ·have yA:Hid (sQ c out s=false):=ae (by
      have h1:=HSO.o
      rw[hq2] at h1
      have h2:vX c out s c.aJ.length=sQ c out s:=rfl
      rw[<-h2]
      cases h3:vX c out s c.aJ.length
      ·rfl
      ·unfold vX at h1 h3
       rw[jV] at h3
       have:(List.range (k+1)).all (fun i=>out.contains (i:Int) ||FI c s (c.aJ.getD i (false,0,(0,0))))=true:=by
        rw[jV]
        intro i hi
        exact h3 i (kX.2 (by have:=kX.1 hi;omega))
       rw[this] at h1
       cases h1)
     go_wp2_with fail
     go_returns
     exact⟨by rw[yA.o];simp,HS5.o.below⟩
    ·go_wp2_with fail
     go_roundw
     case rel=>exact⟨k+1,by omega,by go_num,by rw[HSO.o,hq2];rfl,HS5.o⟩
     case measure=>simp[intOf];omega
   ·skip
    refine zg 16 [] none [(2,Spec.val (.bool true))] ?_
    simp only[zt]
    repeat ((first|refine zn ?_|refine zk ?_);simp only[zp])
    refine zw 147 (h:=fun W hE hF=>by exact HCN.o W (bn UB.o.below hE.below)) (t:=?_)
    simp only[zp]
    repeat ((first|refine zn ?_|refine zk ?_);simp only[zp])
    intro W hE hF
    obtain⟨hc,hf⟩:=bJ hE.below
    have hzE:=hE.size
    (try simp only[bu] at hzE)
    have hst5:=UB.o.next hE.below
    have HS5:=ae hst5
    clear hst5 hE hF hc hf hzE c1 f1 l1 c2 f2 l2 c3 f3 l3
    go_wp2_with fail
    go_roundw
    case rel=>exact⟨k+1,by omega,by go_num,by rw[HSO.o];rfl,HS5.o⟩
    case measure=>simp[intOf];omega
  ·have hkl:k=c.aJ.length:=by omega
   subst hkl
   have HQ:Hid (sQ c out s=true):=ae jq.o
   clear hst
   go_wp2_with fail
   go_returns
   exact⟨by rw[HQ.o];simp,Hm.o.below⟩
end Go.Proofs.YthllkbbbapgelaaGreatDoor.zo
end
section
namespace Go.Proofs.YthllkbbbapgelaaGreatDoor.zo
open Go.RowKit Go.RG Go.SL Go.Shelf jl Go.TB
attribute [local go_sem] Oper.semAt_some
structure XQ (W:World) (bf bo jo ab bc l:Nat) (o:List Int):Prop where
 y:W.heap[jo]? =some (.cells #[.func (.yield l) #[] #[]] 340 (0,0))
 ch:W.heap[bc]? =some (.cells #[.func (.func 230) #[] #[.pointer (some ⟨bf,0,none⟩),.pointer (some ⟨ab,0,none⟩),.pointer (some ⟨bo,0,none⟩),.pointer (some ⟨jo,0,none⟩),.pointer (some ⟨bc,0,none⟩)]] 274 (0,0))
 cells:W.heap[ab]? =some (.cells (ah o).toArray 283 (0,0))
theorem XQ.kept {W W':World} {bf bo jo ab bc l:Nat} {o:List Int} (h:XQ W bf bo jo ab bc l o) (hk: ∀m∈[ab,jo,bc],m<W.heap.size->W'.heap[m]? =W.heap[m]?):XQ W' bf bo jo ab bc l o:=
 ⟨(hk _ (by simp) (aS.1 h.y).1).trans h.y,(hk _ (by simp) (aS.1 h.ch).1).trans h.ch,(hk _ (by simp) (aS.1 h.cells).1).trans h.cells⟩
theorem XQ.below {W W':World} {bf bo jo ab bc l:Nat} {o:List Int} (h:XQ W bf bo jo ab bc l o) (hb:Below W.heap.size W W'):XQ W' bf bo jo ab bc l o:=
 h.kept fun m _ hm=>hb.block m hm
theorem XQ.set {W:World} {bf bo jo ab bc l:Nat} {o:List Int} (h:XQ W bf bo jo ab bc l o) (hd1:jo≠ab) (hd3:bc≠ab) (i:Nat) (x:Int):XQ (W.setCell ⟨ab,i,none⟩ (iv x)) bf bo jo ab bc l (o.set i x):=
 ⟨(dF _ _ _ _ hd1).trans h.y,(dF _ _ _ _ hd3).trans h.ch,by rw[<-sO];exact aI h.cells _⟩
def ahN (_:List Nat) (x:List Int) (v:Value) (_:World):Prop:=v=lQ (kD x)
structure ahR (bf bo:Nat) (D:bK) (hv nT tv ov:Value) (es:List KE) (out:List Int) (W:World):Prop where
 fb:W.heap[bf]? =some (.cells #[hv,nT,tv] 60 (0,0))
 ob:W.heap[bo]? =some (.cells #[ov] 52 (0,0))
 dw:rF W hv nT tv es D
 out:aO W ov out
theorem Oa (D:bK) (hS:nG D) (oh ok ot:Option Addr) (ch ck ct:Nat) (ov:Value) (es:List KE) (out:List Int) (bf bo jo ab bc l:Nat) (hd1:jo≠ab) (hd3:bc≠ab) (J:List Nat->Option Nat->World->Prop)
 (hInv: ∀Ms s W1,J Ms s W1->ahR bf bo D (.slice oh D.heaps.length ch) (.slice ok D.aU.length ck) (.slice ot D.aJ.length ct) ov es out W1)
 (hstep: ∀Ms Ms' s W1 W2,J Ms s W1->Ext Ms W1 W2->(∀m∈Ms',m∈Ms∨(W1.heap.size<=m/\m<W2.heap.size))->True->J Ms' s W2)
 (hY: ∀Ms k v W1 (hk:k<(dE D out).length),J Ms (some k) W1->ahN Ms (dE D out)[k] v W1->YieldAt Fence.wide 0 Tryz.prog l #[v] W1 fun e W'=>
   ((∀m∈Ms,m∉[]->m<W1.heap.size->W'.heap[m]? =W1.heap[m]?)/\W1.heap.size<=W'.heap.size)/\((e= .returned (.bool true)/\J Ms (some (k+1)) W')∨(e= .returned (.bool false)/\J Ms none W'))):
 ∀(m i k:Nat) (pre:List Int) (W:World) (o:List Int),i+m=D.heaps.length->pre.length=i->o.length=3->o.take i=pre->o.drop D.heaps.length=List.replicate (3-D.heaps.length) 0->jE (D.heaps) i k pre->XQ W bf bo jo ab bc l o->J [ab,jo,bc] (some (zh D out k)) W->
  CallsIn Fence.wide 0 Tryz.prog 230 #[iv i,.pointer (some ⟨bf,0,none⟩),.pointer (some ⟨ab,0,none⟩),.pointer (some ⟨bo,0,none⟩),.pointer (some ⟨jo,0,none⟩),.pointer (some ⟨bc,0,none⟩)] W
   (fun e W'=>(e= .returned (.bool true)/\J [ab,jo,bc] (some (zh D out (k+(fB ((D.heaps).drop i)).length))) W'/\ ∃o',o'.length=3/\o'.take i=pre/\o'.drop D.heaps.length=List.replicate (3-D.heaps.length) 0/\XQ W' bf bo jo ab bc l o')∨
     (e= .returned (.bool false)/\J [ab,jo,bc] none W')):=by
 have hh1:=hS.h1
 have hh3:=hS.h3
 intro m
 induction m with
 |zero=>
  intro i k pre W o him hpl hol hot hod hat hst hJ
  have hrow:(i:Int)=(D.heaps.length:Int):=by omega
  obtain⟨hone,hk,hx⟩:=hat.last (by omega)
  rw[hone]
  have hop:o=kD pre:=by
   rw[<-List.take_append_drop D.heaps.length o,hod]
   rw[show D.heaps.length=i from by omega,hot]
   unfold kD
   rw[hpl]
  have hk':k<(uw D).length:=hk
  have hxx:(uw D)[k]=pre:=hx
  obtain⟨hbf,V6,htl,hov⟩:=hInv _ _ _ hJ
  obtain⟨oo,oc,rfl⟩:=hov.open
  have hmem:pre∈uw D:=hxx▸df hk'
  have hstr:Str D pre:=sW hS hmem
  obtain⟨x0,x1,x2,hxs⟩:=nH hol
  have hright:=Qw D hS oh ok ot ch ck ct es pre x0 x1 x2 (by rw[<-hop,hxs]) hstr _ out W htl hov
  obtain⟨PX,cf1,SA⟩:=af hbf
  obtain⟨cc2,cf2,cl2⟩:=af V6
  obtain⟨cc3,cf3,cl3⟩:=af hst.y
  have hag:lQ o= .agg #[iv x0,iv x1,iv x2]:=by rw[hxs];rfl
  have hcb:=hst.cells
  rw[show(ah o).toArray= #[iv x0,iv x1,iv x2] from by rw[hxs];rfl] at hcb
  obtain⟨cc4,cf4,cl4⟩:=af hcb
  have HR:=ae hright
  have HS:=ae hst
  have HJ:=ae hJ
  have HI:=ae hInv
  have HST:=ae hstep
  have HY:=ae hY
  have HK:=ae (show ∃h:k<(uw D).length,(uw D)[k]=pre from⟨hk',hxx⟩)
  have HO:=ae (ag hol (ag hot (ag hod (ag hop hag))))
  have heq:((i:Int)==(D.heaps.length:Int))=true:=by simpa using hrow
  clear hright hInv hstep hY hst hJ hbf V6 htl hov hat hcb hop hag hxs hx hxx hk hk' hone hrow hot hod hmem hstr
  obtain⟨q,hq⟩: ∃q,sQ D out pre=q:=⟨_,rfl⟩
  have HQ:=ae hq
  rw[hq] at HR
  clear hq
  cases q
  ·skip
   refine callsIn_of_wp Tryz.func230 rfl trivial ?_
   simp only[Tryz.ntmps230,List.size_toArray,List.length_cons,List.length_nil,Nat.reduceAdd,Nat.reduceSub,Array.replicate_succ,Array.replicate_zero,kG,kH,List.nil_append,List.cons_append]
   gi_wp2_with fail
   refine(callsIn_wide.2 HR.o).mono ?_
   rintro e W1 ⟨rfl,hb1⟩
   have HB1:=ae hb1
   clear hb1
   gi_wp2_with fail
   go_returns
   have hJ1:=HST.o _ _ _ _ _ HJ.o (Ext.aA HB1.o) (fun m hm=> .inl hm) trivial
   obtain⟨hk',hxx⟩:=HK.o
   rw[<-ab4 hk' (by rw[hxx];exact HQ.o)] at hJ1
   exact .inl ⟨by simp,hJ1,o,HO.o.1,HO.o.2.1,HO.o.2.2.1,HS.o.below HB1.o⟩
  ·skip
   refine callsIn_of_wp Tryz.func230 rfl trivial ?_
   simp only[Tryz.ntmps230,List.size_toArray,List.length_cons,List.length_nil,Nat.reduceAdd,Nat.reduceSub,Array.replicate_succ,Array.replicate_zero,kG,kH,List.nil_append,List.cons_append]
   gi_wp2_with fail
   refine(callsIn_wide.2 HR.o).mono ?_
   rintro e W1 ⟨rfl,hb1⟩
   obtain⟨hc1,hf1⟩:=bJ hb1
   have hs1:=hb1.size
   have HB1:=ae hb1
   have hJ1:=HST.o _ _ _ _ _ HJ.o (Ext.aA hb1) (fun m hm=> .inl hm) trivial
   obtain⟨hk',hxx⟩:=HK.o
   obtain⟨hc,hx⟩:=Qj hk' (by rw[hxx];exact HQ.o)
   obtain⟨g1,t1,a1,b1,hy1,hR1⟩:=HY.o _ _ (.agg #[iv x0,iv x1,iv x2]) W1 hc hJ1 (by
    show _=lQ (kD _)
    rw[hx,hxx, <-HO.o.2.2.2.1,HO.o.2.2.2.2])
   have hcn:zh D out (k+1)=zh D out k+1:=Z9 hk' (by rw[hxx];exact HQ.o)
   have HR1:=ae hR1
   have HCN:=ae hcn
   clear hR1 hJ1 hk' hxx hc hx hcn hb1
   gi_wp2_with fail
   refine HR1.o.mono ?_
   rintro e W' ⟨⟨hkeep,hsz⟩,⟨rfl,hJ⟩|⟨rfl,hJ⟩⟩
   ·have HJ':=ae hJ
    have HK':=ae hkeep
    clear hJ hkeep
    gi_wp2_with fail
    go_returns
    refine .inl ⟨by simp,by rw[HCN.o];exact HJ'.o,o,HO.o.1,HO.o.2.1,HO.o.2.2.1,(HS.o.below HB1.o).kept (fun m hm hml=>HK'.o m hm (by simp) hml)⟩
   ·have HJ':=ae hJ
    clear hJ hkeep
    gi_wp2_with fail
    go_returns
    exact .inr ⟨by simp,HJ'.o⟩
 |succ m ih=>
  intro i k pre W o him hpl hol hot hod hat hst hJ
  have hi:i<(D.heaps).length:=by omega
  have hcount:=jE.count hi
  have hrg:=hS.rg hi
  have hsz0:=hS.sz _ (df hi)
  obtain⟨r,D5⟩: ∃r,D.heaps[i]=r:=⟨_,rfl⟩
  rw[D5] at hrg hsz0 hcount
  obtain⟨z,hz,hz4⟩: ∃z:Nat,(z:Int)=ed r/\z<=101:=⟨(ed r).toNat,by omega,by unfold ed;omega⟩
  have hsz:(ed r).toNat=z:=by omega
  rw[hsz] at hcount
  obtain⟨hbf,V6,htl,hov⟩:=hInv _ _ _ hJ
  obtain⟨PX,cf1,SA⟩:=af hbf
  have hne:(i:Int)≠(D.heaps.length:Int):=by omega
  have hneb:((i:Int)==(D.heaps.length:Int))=false:=by simpa using hne
  have TG:Hid (∀c:Nat,c<z->jE (D.heaps) (i+1) (k+c*(fB ((D.heaps).drop (i+1))).length) (pre++[r.1+(c:Int)])):=ae (fun c hc=>by
   have:=hat.next hi c (by rw[D5,hsz];exact hc)
   rw[D5] at this
   exact this)
  obtain⟨bh,anC,hoh,hbh,hh0,VZ⟩:=bP.cell htl.heaps hi
  cases hoh
  rw[D5] at hh0 VZ
  have HI:=ae hInv
  have HST:=ae hstep
  have HS:=ae hst
  have HJ:=ae hJ
  have HIH:=ae ih
  have J4:=ae (ag hol (ag hot hod))
  have HCZ:=ae hcount
  have HZ:=ae hz
  have hi3:i<3:=by omega
  have agN:(i:Int)<3:=by omega
  have hiI:(i:Int)<D.heaps.length:=by omega
  have HRI:=ae (show ∃h:i<D.heaps.length,D.heaps[i]=r from⟨hi,D5⟩)
  have hiR:i<D.heaps.length:=by omega
  clear hInv hstep hY hat hst hJ ih hcount hne hbf V6 htl hov D5 hsz hi hol hot hod hz
  refine callsIn_of_wp Tryz.func230 rfl trivial ?_
  simp only[Tryz.ntmps230,List.size_toArray,List.length_cons,List.length_nil,Nat.reduceAdd,Nat.reduceSub,Array.replicate_succ,Array.replicate_zero,kG,kH,List.nil_append,List.cons_append]
  gi_wp2_with fail
  refine(callsIn_wide.2 (JD r _ hrg.1 hrg.2.1 (by omega))).mono ?_
  rintro e W1 ⟨rfl,hb1⟩
  have L8:=ae (HS.o.below hb1)
  have HJ1:=ae (HST.o _ _ _ _ _ HJ.o (Ext.aA hb1) (fun m hm=> .inl hm) trivial)
  clear hb1 hh0 VZ hbh PX cf1 SA
  rw[<-HZ.o]
  gi_wp2_with fail
  gi_loopw [30] (fun u wr=> ∃c:Nat,c<=z/\u= .int .i64 c/\ ∃o':List Int,o'.length=3/\o'.take i=pre/\o'.drop D.heaps.length=List.replicate (3-D.heaps.length) 0/\XQ wr bf bo jo ab bc l o'/\J [ab,jo,bc] (some (zh D out (k+c*(fB ((D.heaps).drop (i+1))).length))) wr)
   (fun u _=>z-(intOf u).toNat)
  case atStart=>exact⟨0,bM _,rfl,o,J4.o.1,J4.o.2.1,J4.o.2.2,L8.o,by simpa using HJ1.o⟩
  case round=>
   obtain⟨c,hcz,rfl,o',ho1,ho2,ho3,hst,hJ⟩:=hrel
   by_cases hlt:c<z
   ·obtain⟨hbf,V6,htl,hov⟩:=HI.o _ _ _ hJ
    obtain⟨cd1,O7,OV⟩:=af hbf
    obtain⟨cd3,O6,OU⟩:=af hst.ch
    obtain⟨y,hcell⟩: ∃y,wr.cell? ⟨ab,i,none⟩=some (iv y):=⟨_,gG hst.cells (show i<o'.length by omega)⟩
    have hab:=dG wr _ hcell
    have hfr:=bg hst.cells i
    obtain⟨hi',af8⟩:=HRI.o
    obtain⟨bh',alG,ajG,hbh,hh0,VZ⟩:=bP.cell htl.heaps hi'
    cases ajG
    rw[af8] at hh0 VZ
    clear hi' af8
    have Hm:=ae hst
    have TJ:=ae hJ
    have HO:=ae (ag ho1 (ag ho2 ho3))
    have Es:(c:Int)<z:=by omega
    have acF:(z:Int)=ed r:=HZ.o
    unfold ed at acF
    have hv0: -9223372036854775808<=r.1+(c:Int)/\r.1+(c:Int)<=9223372036854775807:=by omega
    clear hst hJ hbf V6 htl hov ho1 ho2 ho3 acF
    have Gj:=Hm.o.set hd1 hd3 i (r.1+(c:Int))
    have ZH:J [ab,jo,bc] (some (zh D out (k+c*(fB ((D.heaps).drop (i+1))).length))) (wr.setCell ⟨ab,i,none⟩ (iv (r.1+(c:Int)))):=
     HST.o _ _ _ _ _ TJ.o ((mf wr ⟨ab,i,none⟩ _).more (fun x hx=>by simp at hx;subst hx;simp)) (fun m hm=> .inl hm) trivial
    have hcall:=HIH.o (i+1) _ (pre++[r.1+(c:Int)]) _ (o'.set i (r.1+(c:Int))) (by omega) (by simp[hpl]) (by simp[HO.o.1]) (by
     rw[List.take_set]
     rw[qW,HO.o.2.1]
     have hio:i<o'.length:=by have:=HO.o.1;omega
     rw[dn hio]
     simp[qy,hpl]) (by
     rw[List.drop_set,aF hiR];exact HO.o.2.2) (TG.o c hlt) Gj ZH
    rw[show((i+1:Nat):Int)=(i:Int)+1 from by omega] at hcall
    have BI:=ae hcall
    clear hcall Gj ZH
    gi_wp2_with fail
    refine BI.o.mono ?_
    rintro e W2 (⟨rfl,hJ2,o2,ho1,ho2,ho3,hst2⟩|⟨rfl,hJ2⟩)
    ·have HJ2:=ae hJ2
     have Tt:=ae hst2
     have Ew:=ae (ag ho1 (ag ho2 ho3))
     clear hJ2 hst2 ho1 ho2 ho3 cd1 O7 OV cd3 O6 OU hcell hab hfr hbh hh0 VZ
     gi_wp2_with fail
     go_roundw
     case rel=>
      refine⟨c+1,by omega,by go_num,o2,Ew.o.1,?_,Ew.o.2.2,Tt.o,?_⟩
      ·have:=congrArg (List.take i) Ew.o.2.1
       rw[List.take_take,Nat.min_eq_left (by omega)] at this
       rw[this,nD (by omega),jW (by omega)]
      ·rw[Nat.add_mul,Nat.one_mul, <-Nat.add_assoc];exact HJ2.o
     case measure=>simp[intOf];omega
    ·have HJ2:=ae hJ2
     clear hJ2 cd1 O7 OV cd3 O6 OU hcell hab hfr hbh hh0 VZ
     gi_wp2_with fail
     go_returns
     exact .inr ⟨by simp,HJ2.o⟩
   ·have Ry:c=z:=by omega
    subst Ry
    have TJ:=ae hJ
    have Hm:=ae hst
    have HO:=ae (ag ho1 (ag ho2 ho3))
    clear hJ hst ho1 ho2 ho3
    gi_wp2_with fail
    go_returns
    refine .inl ⟨by simp,?_,o',HO.o.1,HO.o.2.1,HO.o.2.2,Hm.o⟩
    rw[HCZ.o];exact TJ.o
theorem NS (D:bK) (hS:nG D) (oh ok ot:Option Addr) (ch ck ct:Nat) (ov:Value) (es:List KE) (out:List Int) (bf bo:Nat):
 Xm Tryz.prog 229 #[.pointer (some ⟨bf,0,none⟩),.pointer (some ⟨bo,0,none⟩)] (dE D out) ahN [] (fun _=>True) (ahR bf bo D (.slice oh D.heaps.length ch) (.slice ok D.aU.length ck) (.slice ot D.aJ.length ct) ov es out):=by
 intro l J W hInv hstep hY h0
 have hch:=fun jo ab bc hd1 hd3=>Oa D hS oh ok ot ch ck ct ov es out bf bo jo ab bc l hd1 hd3 J hInv hstep hY
 have hh3:=hS.h3
 have HCH:=ae hch
 have HST:=ae hstep
 have HJ:=ae h0
 have hn2: ∀(A B:Obj) (v:Value) (t:TypeId),(((W.alloc A).alloc B).alloc (.cells #[v] t)).cell? ⟨W.heap.size+1+1,0,none⟩=some v:=fun A B v t=>aB (iw W A B _)
 have hf2: ∀(A B:Obj) (v:Value) (t:TypeId),(((W.alloc A).alloc B).alloc (.cells #[v] t)).frozen? ⟨W.heap.size+1+1,0,none⟩=false:=fun A B v t=>bg (iw W A B _) 0
 clear hInv hstep hY hch h0 hS
 go_enter Tryz.func229,Tryz.ntmps229
 go_wp2_with fail
 refine(callsIn_wide.1 (HCH.o W.heap.size (W.heap.size+1) (W.heap.size+1+1) (by omega) (by omega) D.heaps.length 0 0 [] _ (List.replicate 3 0) (by omega) rfl (by simp) (by simp) (by rw[List.drop_replicate]) (jE.zero _) ⟨?_,?_,?_⟩
  (HST.o _ _ _ _ _ HJ.o (Ext.aA zl) (fun m hm=> .inr (by simp at hm;(first|omega|(simp;omega)))) trivial))).mono ?_
 ·exact(aV _ _ _ (by simp;omega)).trans ((aV _ _ _ (by simp)).trans (ay _ _))
 ·exact iw _ _ _ _
 ·exact(aV _ _ _ (by simp)).trans (dU _ _ _)
 ·rintro e W2 (⟨rfl,hJ2,_⟩|⟨rfl,hJ2⟩)
  ·have HJ2:=ae hJ2
   clear hJ2 hn2 hf2
   go_wp2_with fail
   go_end0
   refine⟨⟨_,rfl⟩,[W.heap.size+1,W.heap.size,W.heap.size+1+1],.inl ?_⟩
   have:=HJ2.o
   rw[<-aab]
   simpa [uw] using this
  ·have HJ2:=ae hJ2
   clear hJ2 hn2 hf2
   go_wp2_with fail
   go_end0
   exact⟨⟨_,rfl⟩,_,.inr HJ2.o⟩
theorem NT (hv nT tv:Value) (o:Option Addr) (n c:Nat) (w:World):
 Calls Tryz.prog 140 #[kv hv nT tv,.slice o n c] w (fun e w'=>e= .returned (.func (.func 229) #[] #[.pointer (some ⟨w.heap.size,0,none⟩),.pointer (some ⟨w.heap.size+1,0,none⟩)])/\
  w'=(w.alloc (.cells #[hv,nT,tv] 60)).alloc (.cells #[.slice o n c] 52)):=by
 go_enter Tryz.func140,Tryz.ntmps140
 go_wp2
 go_returns
 exact⟨by simp,rfl⟩
end Go.Proofs.YthllkbbbapgelaaGreatDoor.zo
end
section
namespace Go.Proofs.YthllkbbbapgelaaGreatDoor.zo
open Go.RowKit Go.RG Go.SL Go.Shelf jl Go.TB
section
variable (c : bK) (oh ok ot : Option Addr) (ch ck ct : Nat) (w : World)
theorem Y3 (h:3<c.heaps.length∨3<c.aU.length∨5<c.aJ.length):Calls Tryz.prog 139 #[kv (.slice oh c.heaps.length ch) (.slice ok c.aU.length ck) (.slice ot c.aJ.length ct)] w (PV (iv 3) w):=by
 by_cases h1:(3:Int)<c.heaps.length
 ·skip
  go_enter Tryz.func139,Tryz.ntmps139
  go_wp2_with fail
  refine zg 6 [] none [] ?_
  simp only[zt]
  repeat (refine zn ?_;simp only[zp])
  intro W hE hF
  obtain⟨hc,hf⟩:=bJ hE.below
  have hzE:=hE.size
  (try simp only[bu] at hzE)
  have HB0:=ae (show Below w.heap.size w W from bn (ak (aH _ _) _) hE.below)
  have hk0:W.heap[w.heap.size]? =some (.cells #[.slice oh c.heaps.length ch,.slice ok c.aU.length ck,.slice ot c.aJ.length ct] 60 (0,0)):=(hE.block _ (by simp) (by simp)).trans (ay _ _)
  clear hE hF hc hf hzE
  obtain⟨d0,f0,m0⟩:=af hk0
  clear hk0
  go_wp2_with fail
  go_returns
  exact⟨by simp,HB0.o⟩
 by_cases h2:(3:Int)<c.aU.length
 ·skip
  go_enter Tryz.func139,Tryz.ntmps139
  go_wp2_with fail
  refine zg 6 [] none [] ?_
  simp only[zt]
  repeat (refine zn ?_;simp only[zp])
  intro W hE hF
  obtain⟨hc,hf⟩:=bJ hE.below
  have hzE:=hE.size
  (try simp only[bu] at hzE)
  have HB0:=ae (show Below w.heap.size w W from bn (ak (aH _ _) _) hE.below)
  have hk0:W.heap[w.heap.size]? =some (.cells #[.slice oh c.heaps.length ch,.slice ok c.aU.length ck,.slice ot c.aJ.length ct] 60 (0,0)):=(hE.block _ (by simp) (by simp)).trans (ay _ _)
  clear hE hF hc hf hzE
  obtain⟨d0,f0,m0⟩:=af hk0
  clear hk0
  go_wp2_with fail
  go_returns
  exact⟨by simp,HB0.o⟩
 have h3:(5:Int)<c.aJ.length:=by omega
 clear h
 go_enter Tryz.func139,Tryz.ntmps139
 go_wp2_with fail
 refine zg 6 [] none [] ?_
 simp only[zt]
 repeat (refine zn ?_;simp only[zp])
 intro W hE hF
 obtain⟨hc,hf⟩:=bJ hE.below
 have hzE:=hE.size
 (try simp only[bu] at hzE)
 have HB0:=ae (show Below w.heap.size w W from bn (ak (aH _ _) _) hE.below)
 have hk0:W.heap[w.heap.size]? =some (.cells #[.slice oh c.heaps.length ch,.slice ok c.aU.length ck,.slice ot c.aJ.length ct] 60 (0,0)):=(hE.block _ (by simp) (by simp)).trans (ay _ _)
 clear hE hF hc hf hzE
 obtain⟨d0,f0,m0⟩:=af hk0
 clear hk0
 go_wp2_with fail
 go_returns
 exact⟨by simp,HB0.o⟩
theorem VK (h1: ¬(3:Int)<c.heaps.length) (h2: ¬(3:Int)<c.aU.length) (h3: ¬(5:Int)<c.aJ.length) (h4:((c.heaps.length:Int)==0)=true):Calls Tryz.prog 139 #[kv (.slice oh c.heaps.length ch) (.slice ok c.aU.length ck) (.slice ot c.aJ.length ct)] w (PV (iv 1) w):=by
 go_enter Tryz.func139,Tryz.ntmps139
 go_wp2_with fail
 refine zg 6 [] none [] ?_
 simp only[zt]
 repeat (refine zn ?_;simp only[zp])
 intro W hE hF
 obtain⟨hc,hf⟩:=bJ hE.below
 have hzE:=hE.size
 (try simp only[bu] at hzE)
 have HB0:=ae (show Below w.heap.size w W from bn (ak (aH _ _) _) hE.below)
 have hk0:W.heap[w.heap.size]? =some (.cells #[.slice oh c.heaps.length ch,.slice ok c.aU.length ck,.slice ot c.aJ.length ct] 60 (0,0)):=(hE.block _ (by simp) (by simp)).trans (ay _ _)
 clear hE hF hc hf hzE
 obtain⟨d0,f0,m0⟩:=af hk0
 clear hk0
 go_wp2_with fail
 go_returns
 exact⟨by simp,HB0.o⟩
theorem VJ (es:List KE) (hc:rF w (.slice oh c.heaps.length ch) (.slice ok c.aU.length ck) (.slice ot c.aJ.length ct) es c) (h1: ¬(3:Int)<c.heaps.length) (h2: ¬(3:Int)<c.aU.length) (h3: ¬(5:Int)<c.aJ.length) (h4:((c.heaps.length:Int)==0)=false)
 (res:Int) (hres:res=if c.heaps.all (vT · 100)=false∨c.aU.all (vP c)=false∨c.aJ.all (sG c)=false then 1 else if 2000<uh c.heaps then 3 else 0):
 Calls Tryz.prog 139 #[kv (.slice oh c.heaps.length ch) (.slice ok c.aU.length ck) (.slice ot c.aJ.length ct)] w (PV (iv res) w):=by
 have hel:=hc.len
 have HR:=ae (fun(W:World) (hb:Below w.heap.size w W)=>Rf c.heaps (.slice oh c.heaps.length ch) 224 #[] #[] (vT · 100) W (hc.heaps.below hb (ai _)) (enters_of Tryz.func224 (by kernel_rfl) rfl) (fun x _ W _=>sK x W))
 have HKK:=ae (fun(W:World) (hb:Below w.heap.size w W)=>by
  have:=Rh es (.slice ok c.aU.length ck) 222 #[kv (.slice oh c.heaps.length ch) (.slice ok c.aU.length ck) (.slice ot c.aJ.length ct)] #[] (fun e=>vP c e.2) W (hc.aU.below hb (ai _)) (enters_of Tryz.func222 (by kernel_rfl) rfl) (fun e he W' hb'=>Rk c oh ch _ _ e W' ((hc.aU.2 e he).below (bn hb hb') (ai _)) (by omega))
  rw[show es.all (fun e=>vP c e.2)=c.aU.all (vP c) from by rw[<-hc.is,List.all_map];rfl] at this
  exact this)
 have HTT:=ae (fun(W:World) (hb:Below w.heap.size w W)=>Q9 c.aJ (.slice ot c.aJ.length ct) 221 #[kv (.slice oh c.heaps.length ch) (.slice ok c.aU.length ck) (.slice ot c.aJ.length ct)] #[] (sG c) W (hc.aJ.below hb (ai _)) (enters_of Tryz.func221 (by kernel_rfl) rfl) (fun x _ W _=>Q5 c oh ok ch ck _ x W (by omega) (by omega)))
 have HHP:=ae (fun(W:World) (hb:Below w.heap.size w W)=>hc.heaps.below hb (ai _))
 have Xu:=ae hres
 clear hc hel hres
 cases hA:c.heaps.all (vT · 100)
 ·rw[hA] at HR
  have EX:Hid (res=1):=ae (by rw[Xu.o,aF (.inl hA)])
  clear hA
  go_enter Tryz.func139,Tryz.ntmps139
  go_wp2_with fail
  refine zg 6 [] none [] ?_
  simp only[zt]
  repeat (refine zn ?_;simp only[zp])
  intro W hE hF
  obtain⟨hc,hf⟩:=bJ hE.below
  have hzE:=hE.size
  (try simp only[bu] at hzE)
  have HB0:=ae (show Below w.heap.size w W from bn (ak (aH _ _) _) hE.below)
  have hk0:W.heap[w.heap.size]? =some (.cells #[.slice oh c.heaps.length ch,.slice ok c.aU.length ck,.slice ot c.aJ.length ct] 60 (0,0)):=(hE.block _ (by simp) (by simp)).trans (ay _ _)
  clear hE hF hc hf hzE
  obtain⟨d0,f0,m0⟩:=af hk0
  clear hk0
  go_wp2_with fail
  refine(HR.o _ HB0.o).mono ?_
  rintro e w1 ⟨rfl,hb⟩
  have hk0:=hb.block _ m0
  obtain⟨dd,ff⟩:=bJ hb
  have HB1:=ae (bn HB0.o hb)
  clear hb hk0
  go_wp2_with fail
  go_returns
  exact⟨by rw[EX.o];simp,HB1.o⟩
 rw[hA] at HR
 cases hK:c.aU.all (vP c)
 ·rw[hK] at HKK
  have EX:Hid (res=1):=ae (by rw[Xu.o,aF (.inr (.inl hK))])
  clear hA hK
  go_enter Tryz.func139,Tryz.ntmps139
  go_wp2_with fail
  refine zg 6 [] none [] ?_
  simp only[zt]
  repeat (refine zn ?_;simp only[zp])
  intro W hE hF
  obtain⟨hc,hf⟩:=bJ hE.below
  have hzE:=hE.size
  (try simp only[bu] at hzE)
  have HB0:=ae (show Below w.heap.size w W from bn (ak (aH _ _) _) hE.below)
  have hk0:W.heap[w.heap.size]? =some (.cells #[.slice oh c.heaps.length ch,.slice ok c.aU.length ck,.slice ot c.aJ.length ct] 60 (0,0)):=(hE.block _ (by simp) (by simp)).trans (ay _ _)
  clear hE hF hc hf hzE
  obtain⟨d0,f0,m0⟩:=af hk0
  clear hk0
  go_wp2_with fail
  refine(HR.o _ HB0.o).mono ?_
  rintro e w1 ⟨rfl,hb⟩
  obtain⟨dd,ff⟩:=bJ hb
  have hl1:=fJ m0 hb.size
  have HB1:=ae (bn HB0.o hb)
  clear hb
  go_wp2_with fail
  refine(HKK.o _ HB1.o).mono ?_
  rintro e w2 ⟨rfl,hb⟩
  have HB2:=ae (bn HB1.o hb)
  clear hb
  go_wp2_with fail
  go_returns
  exact⟨by rw[EX.o];simp,HB2.o⟩
 rw[hK] at HKK
 cases hT:c.aJ.all (sG c)
 ·rw[hT] at HTT
  have EX:Hid (res=1):=ae (by rw[Xu.o,aF (.inr (.inr hT))])
  clear hA hK hT
  go_enter Tryz.func139,Tryz.ntmps139
  go_wp2_with fail
  refine zg 6 [] none [] ?_
  simp only[zt]
  repeat (refine zn ?_;simp only[zp])
  intro W hE hF
  obtain⟨hc,hf⟩:=bJ hE.below
  have hzE:=hE.size
  (try simp only[bu] at hzE)
  have HB0:=ae (show Below w.heap.size w W from bn (ak (aH _ _) _) hE.below)
  have hk0:W.heap[w.heap.size]? =some (.cells #[.slice oh c.heaps.length ch,.slice ok c.aU.length ck,.slice ot c.aJ.length ct] 60 (0,0)):=(hE.block _ (by simp) (by simp)).trans (ay _ _)
  clear hE hF hc hf hzE
  obtain⟨d0,f0,m0⟩:=af hk0
  clear hk0
  go_wp2_with fail
  refine(HR.o _ HB0.o).mono ?_
  rintro e w1 ⟨rfl,hb⟩
  obtain⟨dd,ff⟩:=bJ hb
  have hl1:=fJ m0 hb.size
  have HB1:=ae (bn HB0.o hb)
  clear hb
  go_wp2_with fail
  refine(HKK.o _ HB1.o).mono ?_
  rintro e w2 ⟨rfl,hb⟩
  obtain⟨dd2,ff2⟩:=bJ hb
  have hl2:=fJ hl1 hb.size
  have HB2:=ae (bn HB1.o hb)
  clear hb
  go_wp2_with fail
  refine(HTT.o _ HB2.o).mono ?_
  rintro e w3 ⟨rfl,hb⟩
  have HB3:=ae (bn HB2.o hb)
  clear hb
  go_wp2_with fail
  go_returns
  exact⟨by rw[EX.o];simp,HB3.o⟩
 rw[hT] at HTT
 have hok: ∀r∈c.heaps,0<=r.1/\r.1<=r.2/\r.2<=100/\1<=ed r/\ed r<=101:=fun r hr=>xO (jV.1 hA r hr)
 have EX:Hid (res=if 2000<uh c.heaps then 3 else 0):=ae (by rw[Xu.o,aj];simp[hA,hK,hT])
 have jq:=ae hok
 clear hA hK hT hok
 go_enter Tryz.func139,Tryz.ntmps139
 go_wp2_with fail
 refine zg 6 [] none [] ?_
 simp only[zt]
 repeat (refine zn ?_;simp only[zp])
 intro W hE hF
 obtain⟨hc,hf⟩:=bJ hE.below
 have hzE:=hE.size
 (try simp only[bu] at hzE)
 have HB0:=ae (show Below w.heap.size w W from bn (ak (aH _ _) _) hE.below)
 have hk0:W.heap[w.heap.size]? =some (.cells #[.slice oh c.heaps.length ch,.slice ok c.aU.length ck,.slice ot c.aJ.length ct] 60 (0,0)):=(hE.block _ (by simp) (by simp)).trans (ay _ _)
 clear hE hF hc hf hzE
 obtain⟨d0,f0,m0⟩:=af hk0
 clear hk0
 go_wp2_with fail
 refine(HR.o _ HB0.o).mono ?_
 rintro e w1 ⟨rfl,hb⟩
 obtain⟨dd,ff⟩:=bJ hb
 have hl1:=fJ m0 hb.size
 have HB1:=ae (bn HB0.o hb)
 clear hb
 go_wp2_with fail
 refine(HKK.o _ HB1.o).mono ?_
 rintro e w2 ⟨rfl,hb⟩
 obtain⟨dd2,ff2⟩:=bJ hb
 have hl2:=fJ hl1 hb.size
 have HB2:=ae (bn HB1.o hb)
 clear hb
 go_wp2_with fail
 refine(HTT.o _ HB2.o).mono ?_
 rintro e w3 ⟨rfl,hb⟩
 obtain⟨dd3,ff3⟩:=bJ hb
 have hl3:=fJ hl2 hb.size
 have HB3:=ae (bn HB2.o hb)
 clear hb
 go_wp2_with fail
 have HC3:=ae (show ∀i,w3.cell? ⟨w.heap.size,i,none⟩=(#[.slice oh c.heaps.length ch,.slice ok c.aU.length ck,.slice ot c.aJ.length ct]:Array Value)[i]? from fun i=>(dd3 _ _ hl2).trans ((dd2 _ _ hl1).trans ((dd _ _ m0).trans (d0 i))))
 clear d0 f0 m0 dd ff dd2 ff2 dd3 ff3 hl1 hl2 hl3
 go_loopw [5,57] (fun m i wr=> ∃k:Nat,k<=c.heaps.length/\i= .int .i64 k/\m= .int .i64 (uG c.heaps k)/\Below w.heap.size w wr) (fun _ i _=>c.heaps.length-(intOf i).toNat)
 case atStart=>exact⟨0,bM _,rfl,rfl,HB3.o⟩
 case round=>
  obtain⟨k,hk,rfl,rfl,hB⟩:=hrel
  have hv:=HHP.o wr hB
  by_cases hlt:k<c.heaps.length
  ·obtain⟨b,off,hoo,hb,hc0,hc1⟩:=bP.cell hv hlt
   cases hoo
   have hr:=jq.o _ (df hlt)
   have hs:=GY c.heaps k hlt
   have hbd:=Pg c.heaps (fun r hr=>(jq.o r hr).2.2.2.1) k
   generalize c.heaps[k]=r at hc0 hc1 hr hs
   obtain⟨hr1,hr2,hr3,hr4,Ld⟩:=hr
   unfold rJ at hs
   generalize uG c.heaps k=cc at hs hbd
   obtain⟨hb1,hb2⟩:=hbd
   have HS:=ae hs
   have HB:=ae hB
   clear hs hv hB
   have hmul:0<=cc*ed r/\cc*ed r<=2001*101:=⟨Int.mul_nonneg (by omega) (by omega),Int.mul_le_mul hb2 Ld (by omega) (by omega)⟩
   obtain⟨hm1,hm2⟩:=hmul
   go_wp2_with fail
   refine(JD r _ hr1 hr2 (by omega)).mono ?_
   rintro e w4 ⟨rfl,hb3⟩
   obtain⟨hc,hf⟩:=bJ hb3
   go_wp2_with fail
   refine(NY (cc*ed r) 2001 _ _ _ ?_ ?_).mono ?_
   ·go_simp
   ·go_simp
   rintro e w5 ⟨rfl,hb4⟩
   go_wp2_with fail
   go_roundw
   case rel=>exact⟨k+1,by omega,by go_num,by rw[HS.o],bn (ak (bn (ak HB.o _) hb3) _) hb4⟩
   case measure=>simp[intOf];omega
  ·have hkl:k=c.heaps.length:=by omega
   have hend:=JR c.heaps (fun r hr=>(jq.o r hr).2.2.2.1)
   have hr:=EX.o
   rw[<-hkl] at hend
   generalize uG c.heaps k=cc at hend
   clear hv
   by_cases hc:2000<cc
   ·rw[aF (hend.1 hc)] at hr
    have HRR:=ae hr
    clear hr hend
    go_wp2_with fail
    go_returns
    exact⟨by rw[HRR.o];simp,hB⟩
   ·rw[aj (fun x=>hc (hend.2 x))] at hr
    have HRR:=ae hr
    clear hr hend
    go_wp2_with fail
    go_returns
    exact⟨by rw[HRR.o];simp,hB⟩
end
theorem Gg (c:bK) (hv nT tv:Value) (es:List KE) (w:World) (hc:rF w hv nT tv es c):Calls Tryz.prog 139 #[kv hv nT tv] w (PV (iv (qi c)) w):=by
 obtain⟨oh,ch,rfl⟩:=hc.heaps.open
 obtain⟨ok,ck,rfl⟩:=hc.aU.open
 obtain⟨ot,ct,rfl⟩:=hc.aJ.open
 rw[hc.len] at hc⊢
 unfold qi
 by_cases hl:3<c.heaps.length∨3<c.aU.length∨5<c.aJ.length
 ·rw[aF hl];exact Y3 c oh ok ot ch ck ct w hl
 rw[aj hl]
 by_cases h4:c.heaps.length=0
 ·rw[aF (.inl h4)]
  exact VK c oh ok ot ch ck ct w (by omega) (by omega) (by omega) (by simpa using h4)
 ·refine VJ c oh ok ot ch ck ct w es hc (by omega) (by omega) (by omega) (by simpa using h4) _ ?_
  simp only[h4,false_or]
end Go.Proofs.YthllkbbbapgelaaGreatDoor.zo
end
section
namespace Go.Proofs.YthllkbbbapgelaaGreatDoor.zo
open Go.RowKit Go.RG Go.SL Go.Shelf jl Go.TB
attribute [local go_sem] Oper.semAt_some
theorem Vd (r:dQ):(sS r).Pairwise (· ≠ ·):=by
 unfold sS
 rw[List.pairwise_map]
 exact List.nodup_range.imp (fun h e=>h (by omega))
theorem Yt: ∀(rs:List dQ),(fB rs).Pairwise (· ≠ ·):=by
 intro rs
 induction rs with
 |nil=>simp[fB]
 |cons r rs ih=>
  refine uM _ _ _ (fun x _=>?_) ?_
  ·rw[List.pairwise_map]
   exact ih.imp (fun h e=>h (List.cons.inj e).2)
  ·refine(Vd r).imp (fun {a b} h u hu v hv e=>?_)
   obtain⟨s,_,rfl⟩:=iZ.1 hu
   obtain⟨t,_,rfl⟩:=iZ.1 hv
   exact h (List.cons.inj e).1
theorem Qi (c:bK) (out:List Int):(dE c out).Pairwise (· ≠ ·):=(Yt c.heaps).filter _
theorem YJ {a b:List Int} (h:a.length=b.length) (e:kD a=kD b):a=b:=by
 unfold kD at e
 exact(List.append_inj e h).1
theorem afw:iO Tryz.prog 277 283 (.agg #[iv 0,iv 0,iv 0]) 3 24:=⟨Tryz.underlying277,by kernel_rfl,rfl,by omega⟩
structure PQ (B:Nat) (hv nT tv:Value) (ls:List (List Int)) (Ms:List Nat) (W:World):Prop where
 work: ∃v,W.heap[B]? =some (.cells #[hv,nT,tv,v] 279 (0,0))/\W.ownsRow (B+6) 283 3 v ls.length (ls.flatMap ah)/\ ∀g,v.ownBlock=some g->g∉Ms/\g<W.heap.size
 ptr:W.heap[B+1]? =some (.cells #[.pointer (some ⟨B,0,none⟩)] 180 (0,0))
 b2:W.heap[B+2]? =some (.cells #[hv,nT,tv] 60 (0,0))
 b3:W.heap[B+3]? =some (.cells #[.slice none 0 0] 52 (0,0))
theorem PQ.kept {B:Nat} {hv nT tv:Value} {ls:List (List Int)} {Ms Ms':List Nat} {W W':World} (h:PQ B hv nT tv ls Ms W) (hs:W.heap.size<=W'.heap.size) (hk: ∀b,B<=b->b<B+4->W'.heap[b]? =W.heap[b]?)
 (ho: ∀g,B+6<=g->g<W.heap.size->g∉Ms->W'.heap[g]? =W.heap[g]?) (hM: ∀m∈Ms',m∈Ms∨(W.heap.size<=m/\m<W'.heap.size)):PQ B hv nT tv ls Ms' W':=by
 obtain⟨v,h1,h2,h3⟩:=h.work
 refine⟨⟨v,(hk _ (by omega) (by omega)).trans h1,dm h2 fun g hg=>ho g (bD h2 g hg).1 (bD h2 g hg).2 (h3 g hg).1,fun g hg=>⟨fun hm=>?_,by have:=(h3 g hg).2;omega⟩⟩,
  (hk _ (by omega) (by omega)).trans h.ptr,(hk _ (by omega) (by omega)).trans h.b2,(hk _ (by omega) (by omega)).trans h.b3⟩
 rcases hM g hm with h4|h4
 ·exact(h3 g hg).1 h4
 ·have:=(h3 g hg).2;omega
structure Tc (W:World) (wb:Nat) (hv nT tv v:Value) (ls:List (List Int)):Prop where
 cells:W.heap[wb]? =some (.cells #[hv,nT,tv,v] 279 (0,0))
 truth:aN 3 W v ls.length (ls.flatMap ah)
theorem Tc.lt {W:World} {wb:Nat} {hv nT tv v:Value} {ls:List (List Int)} (h:Tc W wb hv nT tv v ls):wb<W.heap.size:=(aS.1 h.cells).1
theorem Tc.below {W W':World} {wb:Nat} {hv nT tv v:Value} {ls:List (List Int)} (h:Tc W wb hv nT tv v ls) {B:Nat} (hb:Below B W W') (hB:W.heap.size<=B):Tc W' wb hv nT tv v ls:=
 ⟨(hb.block _ (by have:=h.lt;omega)).trans h.cells,h.truth.below hb hB⟩
def aaJ (c:bK) (hv nT tv:Value) (fine:Bool) (w:World) (e:Ending) (w':World):Prop:=
 Below w.heap.size w w'/\((iY c fine≠0/\e= .returned (.tuple #[.pointer none,.int .i64 (iY c fine)]))∨
  (iY c fine=0/\ ∃(wb:Nat) (v:Value),e= .returned (.tuple #[.pointer (some ⟨wb,0,none⟩),.int .i64 0])/\w.heap.size<=wb/\Tc w' wb hv nT tv v ((dE c []).map kD)))
theorem Q8 (c:bK) (hv nT tv:Value) (es:List KE) (g:Nat) (caps:Array Value) (fine:Bool) (w:World) (hc:rF w hv nT tv es c) (eg: ∀args w,(callFunc g args).run Tryz.prog w= .ok (.enter g args) w)
 (Ol: ∀W,Below w.heap.size w W->Calls Tryz.prog g caps W (PV (.bool fine) W)):
 Calls Tryz.prog 81 #[kv hv nT tv,.func (.func g) #[] caps] w (aaJ c hv nT tv fine w):=by
 obtain⟨oh,ch,rfl⟩:=hc.heaps.open
 obtain⟨ok,ck,rfl⟩:=hc.aU.open
 obtain⟨ot,ct,rfl⟩:=hc.aJ.open
 have hel:=hc.len
 rw[hel] at hc⊢
 have HC':Hid (∀W,Below w.heap.size w W->rF W (.slice oh c.heaps.length ch) (.slice ok c.aU.length ck) (.slice ot c.aJ.length ct) es c):=ae (fun W hb=>hc.below hb (ai _))
 have HF:=ae Ol
 have HCK:=ae (fun(W:World) (hb:Below w.heap.size w W)=>Gg c (.slice oh c.heaps.length ch) (.slice ok c.aU.length ck) (.slice ot c.aJ.length ct) es W (hc.below hb (ai _)))
 clear hc Ol hel
 by_cases hf0:qi c=0
 case neg=>
  have HE:Hid (iY c fine=qi c/\iY c fine≠0):=ae (by unfold iY;rw[aF hf0];exact⟨rfl,hf0⟩)
  generalize hff:qi c=e at*
  clear hff
  go_enter Tryz.func81,Tryz.ntmps81
  go_wp2_with fail
  refine(HCK.o _ (ak (aH _ _) _)).mono ?_
  rintro e w' ⟨rfl,hb⟩
  go_wp2_with fail
  go_returns
  exact⟨zl,.inl ⟨HE.o.2,by rw[HE.o.1];simp⟩⟩
 rw[hf0] at HCK
 have oP:=ae (Jc hf0)
 have Xy:=ae hf0
 clear hf0
 cases fine
 ·have HE:Hid (iY c false=2):=ae (by unfold iY;rw[aj (by rw[Xy.o];simp),aF rfl])
  go_enter Tryz.func81,Tryz.ntmps81
  go_wp2_with fail
  refine(HCK.o _ (ak (aH _ _) _)).mono ?_
  rintro e w' ⟨rfl,hb⟩
  have HB1:=ae (show Below w.heap.size w w' from zl)
  clear hb
  go_wp2_with fail
  refine(HF.o _ HB1.o).mono ?_
  rintro e w2 ⟨rfl,hb⟩
  have HB2:=ae (bn HB1.o hb)
  clear hb
  go_wp2_with fail
  go_returns
  exact⟨HB2.o,.inl ⟨by rw[HE.o];simp,by rw[HE.o];simp⟩⟩
 have HE:Hid (iY c true=if(dE c []).isEmpty then 11 else 0):=ae (by unfold iY;rw[aj (by rw[Xy.o];simp),aj (by simp)])
 refine(callsIn_wide (n:=0)).1 ?_
 refine callsIn_of_wp_marks Tryz.func81 rfl trivial ?_
 simp only[Tryz.ntmps81,List.size_toArray,List.length_cons,List.length_nil,Nat.reduceAdd,Nat.reduceSub,Array.replicate_succ,Array.replicate_zero,kG,kH,List.nil_append,List.cons_append]
 gi_wp2_with fail
 refine(callsIn_wide.2 (HCK.o _ (ak (aH _ _) _))).mono ?_
 rintro e w1 ⟨rfl,hb⟩
 obtain⟨hc1,hf1⟩:=bJ hb
 have hz1:w.heap.size<w1.heap.size:=by have:=hb.size;simp at this;omega
 have HB1:=ae (show Below w.heap.size w w1 from zl)
 clear hb
 gi_wp2_with fail
 refine(callsIn_wide.2 (HF.o _ HB1.o)).mono ?_
 rintro e w2 ⟨rfl,hb⟩
 obtain⟨hc2,hf2⟩:=bJ hb
 have hz2:w.heap.size<w2.heap.size:=by have:=hb.size;omega
 have HB2:=ae (bn HB1.o hb)
 clear hb
 gi_wp2_with fail
 refine(callsIn_wide.2 (NT _ _ _ none 0 0 _)).mono ?_
 rintro e w3 ⟨rfl,rfl⟩
 gi_wp2_with fail
 have hseq:=fun bf bo=>NS c oP.o oh ok ot ch ck ct (.slice none 0 0) es [] bf bo
 obtain⟨hv,hhv⟩: ∃hv,Value.slice oh c.heaps.length ch=hv:=⟨_,rfl⟩
 obtain⟨nT,agz⟩: ∃nT,Value.slice ok c.aU.length ck=nT:=⟨_,rfl⟩
 obtain⟨tv,JG⟩: ∃tv,Value.slice ot c.aJ.length ct=tv:=⟨_,rfl⟩
 rw[hhv,agz,JG] at hseq HC'⊢
 obtain⟨B,mP⟩: ∃B,w2.heap.size=B:=⟨_,rfl⟩
 rw[mP]
 obtain⟨w4,hw4⟩: ∃w4,((((w2.alloc (.cells #[hv,nT,tv,.slice none 0 0] 279)).alloc (.cells #[.pointer (some ⟨B,0,none⟩)] 180)).alloc (.cells #[hv,nT,tv] 60)).alloc (.cells #[.slice none 0 0] 52))=w4:=⟨_,rfl⟩
 have adK:w4.heap.size=B+4:=by rw[<-hw4];simp;omega
 have hwB:w.heap.size<B:=by omega
 have HB4:Hid (Below w.heap.size w w4):=ae (by rw[<-hw4];exact ak (ak (ak (ak HB2.o _) _) _) _)
 have HA4:Hid (PQ B hv nT tv [] [] w4):=ae (by
  rw[<-hw4]
  refine⟨⟨.slice none 0 0,?_,⟨rfl,.inl ⟨rfl,rfl⟩⟩,fun g hg=>by cases hg⟩,?_,?_,?_⟩
  ·rw[<-mP];exact(aV _ _ _ (by simp;omega)).trans ((aV _ _ _ (by simp;omega)).trans ((aV _ _ _ (by simp)).trans (ay _ _)))
  ·rw[<-mP];exact(aV _ _ _ (by simp)).trans ((aV _ _ _ (by simp)).trans (dU _ _ _))
  ·rw[<-mP];exact(aV _ _ _ (by simp)).trans (iw _ _ _ _)
  ·rw[<-mP];exact lV _ _ _ _ _)
 rw[hw4]
 clear hw4 hc1 hf1 hz1 hc2 hf2
 have D8: ∀b,b∈[w.heap.size,B,B+1,B+2,B+3,B+4,B+5]↔b=w.heap.size∨(B<=b/\b<B+6):=fun b=>by simp;omega
 obtain⟨Os,Gv⟩: ∃Os,[w.heap.size,B,B+1,B+2,B+3,B+4,B+5]=Os:=⟨_,rfl⟩
 rw[Gv] at D8
 clear Gv
 refine mD (hseq (B+1+1) (B+1+1+1)) rfl (enters_of Tryz.func229 (by kernel_rfl) rfl) rfl (by simp)
  (fun Ms k W=>Hu w Os Ms W/\PQ B hv nT tv (((dE c []).take k).map kD) Ms W)
  (fun _ _ _=>False)
  ?hInv ?pF ?hI ?hIx ?IA ?tH ?h0
  (fun a Ms k W1 a₁ W=> ∃(x:List Int) (bt:Nat),(dE c [])[k]? =some x/\a₁={tmps:=(a.tmps.setIfInBounds 24 (lQ (kD x))).setIfInBounds 8 (.pointer (some ⟨bt,0,none⟩)),defers:=[]}/\
    (Hu w Os Ms W/\PQ B hv nT tv (((dE c []).take k).map kD) Ms W)/\(W.heap[bt]? =some (.cells (ah (kD x)).toArray 283 (0,0))/\B+6<=bt/\bt∉Ms/\(∀v,W.heap[B]? =some (.cells #[hv,nT,tv,v] 279 (0,0))->v.ownBlock≠some bt))/\
    (∀m∈Ms,m∉([]:List Nat)->m<W1.heap.size->W.heap[m]? =W1.heap[m]?)/\W1.heap.size<=W.heap.size)
  ?Lr ?hassign ?hbody ?hdone ?hstop
 case hInv=>
  rintro Ms k W ⟨hF,hP⟩
  exact⟨hP.b2,hP.b3,HC'.o W hF.ext,aN.nil 1 W⟩
 case pF=>rintro cd Ms W h;exact h.elim
 case hI=>
  rintro Ms Ms' k Wa Wb ⟨hF,hP⟩ hE hMs _
  exact⟨(hF.iQ hE hMs).1,hP.kept hE.size (fun b h1 h2=>(hF.iQ hE hMs).2 b ((D8 b).2 (by omega))) (fun g h1 h2 h3=>hE.block g h2 h3) hMs⟩
 case hIx=>rintro cd Ms Ms' Wa Wb h;exact h.elim
 case IA=>
  rintro Ms k W r ob ⟨hF,hP⟩ hr
  exact⟨hF.put ob (by omega),hP.kept (by simp) (fun b h1 h2=>World.putObj_heap_other (by omega)) (fun g h1 h2 h3=>World.putObj_heap_other (by omega)) (fun m hm=> .inl hm)⟩
 case tH=>rintro cd Ms W r ob h;exact h.elim
 case h0=>
  intro o1 o2
  refine⟨⟨ak (ak HB4.o _) _,by simp,by simp,fun b hb=>⟨by simp,by have:=(D8 b).1 hb;simp;omega⟩⟩,?_⟩
  rw[List.take_zero]
  exact HA4.o.kept (by simp;omega) (fun b h1 h2=>(aV _ _ _ (by simp;omega)).trans (aV _ _ _ (by omega))) (fun g h1 h2 h3=>by omega) (fun m hm=> .inl hm)
 case Lr=>
  rintro Ms k W1 a₁ W ob ⟨x,bt,hx,ha,⟨hF,hP⟩,⟨hbt,hb6,hbM,hbv⟩,hk,hs⟩
  have hap:=(hF.apart (B+5) ((D8 _).2 (by omega))).1
  refine⟨x,bt,hx,ha,⟨hF.put ob (by omega),hP.kept (by simp) (fun b h1 h2=>World.putObj_heap_other (by omega)) (fun g h1 h2 h3=>World.putObj_heap_other (by omega)) (fun m hm=> .inl hm)⟩,
   ⟨(World.putObj_heap_other (by omega)).trans hbt,hb6,hbM,fun v hv=>hbv v ((World.putObj_heap_other (by omega)).symm.trans hv)⟩,
   fun m hm h0 hml=>(World.putObj_heap_other (fun e=>hap (by rw[show B+5=m by omega];exact hm))).trans (hk m hm h0 hml),by simpa using hs⟩
 case hassign=>
  rintro Ms k v W hk ⟨hF,hP⟩ hE hlt
  obtain rfl:v=lQ (kD (dE c [])[k]):=hE
  have hxk:(dE c [])[k]? =some (dE c [])[k]:=dn hk
  have hxl:=(sW oP.o (mF _ (df hk))).1
  generalize (dE c [])[k]=x at*
  have Ue:=oP.o.h3
  obtain⟨y0,y1,y2,hys⟩:=nH (xN (x:=x) (by omega))
  have hYS:=ae hys
  rw[hys]
  rw[show lQ [y0,y1,y2]= .agg #[iv y0,iv y1,iv y2] from rfl]
  gi_wp2
  have hB':Below W.heap.size W (W.alloc (.cells #[iv y0,iv y1,iv y2] 283)):=ak (aH _ _) _
  refine⟨⟨x,W.heap.size,hxk,?_,⟨(hF.iQ (Ext.aA hB') (fun m hm=> .inl hm)).1,hP.kept (by simp) (fun b h1 h2=>aV _ _ _ (by omega)) (fun g h1 h2 h3=>aV _ _ _ (by omega)) (fun m hm=> .inl hm)⟩,
   ⟨?_,by omega,fun hm=>by have:=hF.bnd _ hm;omega,fun v hv e=>?_⟩,fun m hm h0 hml=>aV _ _ _ (by omega),by simp⟩,aV _ _ _ (by omega),aV _ _ _ (by omega)⟩
  ·rw[hYS.o];rfl
  ·rw[hYS.o];exact ay _ _
  ·obtain⟨v0,h1,h2,h3⟩:=hP.work
   have h4:=(aV _ _ _ (by omega)).symm.trans hv
   rw[h1] at h4
   simp only[Option.some.injEq,Obj.cells.injEq,and_true,Array.mk.injEq,List.cons.injEq,true_and] at h4
   subst h4
   have:=(h3 _ e).2
   omega
 case hbody=>
  rintro Ms k W1 a₁ W7 busy hk ⟨x,bt,hx,rfl,⟨hF,hP⟩,⟨hbt,hb6,hbM,hbv⟩,hkeep,hsz⟩ hrec hD
  simp only[qY,List.set_cons_succ,List.set_cons_zero]
  obtain⟨v,hv1,hv2,hv3⟩:=hP.work
  obtain⟨vo,vc,rfl⟩:=aW hv2
  have Zz:=hbv _ hv1
  obtain⟨c1,f1,l1⟩:=af hP.ptr
  have hxm:=sW oP.o (mF _ (mW hx))
  have Ue:=oP.o.h3
  obtain⟨ys,Oe⟩: ∃ys,kD x=ys:=⟨_,rfl⟩
  have hyl:ys.length=3:=by rw[<-Oe];exact xN (by omega)
  obtain⟨y0,y1,y2,hys⟩:=nH hyl
  have Gu:=hbt
  rw[Oe,hys] at Gu
  have Gu:W7.heap[bt]? =some (.cells #[iv y0,iv y1,iv y2] 283 (0,0)):=Gu
  obtain⟨c3,f3,l3⟩:=af Gu
  have hwM:=(hF.apart w.heap.size ((D8 _).2 (.inl rfl))).1
  have agp:((dE c []).take (k+1)).map kD=((dE c []).take k).map kD++[ys]:=by
   rw[qW,hx];simp[Oe]
  have adU:k<=2000:=by have:=uK oP.o [];omega
  have hlk:(((dE c []).take k).map kD).length=k:=by simp;omega
  have h3s: ∀z∈((dE c []).take k).map kD,z.length=3:=fun z hz=>by
   obtain⟨t,ht,rfl⟩:=iZ.1 hz
   have:=sW oP.o (mF _ (nZ ht))
   exact xN (by omega)
  have hne: ∀A z,((dE c []).take k).map kD=A++[z]->(z==ys)=false:=fun A z he=>by
   rw[Hf]
   rintro rfl
   have hkp:0<k:=by
    cases k with
    |zero=>simp at he
    |succ k=>omega
   have hkj:k-1<(dE c []).length:=by omega
   have h1:(((dE c []).take k).map kD)[k-1]? =some z:=by
    rw[he,ou (by have:=congrArg List.length he;simp at this;omega)]
    have:=congrArg List.length he
    rw[hlk,dh,List.length_singleton] at this
    rw[show k-1-A.length=0 from by omega];rfl
   rw[qx,List.getElem?_take_of_lt (by omega),dn hkj] at h1
   have h2:kD (dE c [])[k-1]=kD x:=by rw[Oe];exact jy h1
   have h3:=sW oP.o (mF _ (df hkj))
   have h4:=YJ (by rw[h3.1,hxm.1]) h2
   obtain⟨hk',hx'⟩:=ji.1 hx
   exact(List.pairwise_iff_getElem.1 (Qi c [])) (k-1) k hkj hk' (by omega) (by rw[h4,hx'])
  replace hlk:(((dE c []).take k).map kD).length<=2000:=by rw[hlk];exact adU
  have yB:=ae hF
  have UE:=ae hP
  have HV:=ae (ag hv1 (ag hv2 hv3))
  have BG:=ae (ag hys hyl)
  have HK:=ae (ag hkeep (ag hrec hD))
  have HBT:=ae Gu
  have HBV:=ae Zz
  have ahZ:=ae agp
  have H3:=ae h3s
  have J5:=ae hne
  have hap: ∀b∈Os,b∉Ms/\b<W7.heap.size:=hF.apart
  have hin: ∀b,B<=b->b<B+6->b∈Os:=fun b h1 h2=>(D8 b).2 (by omega)
  have hw7:w.heap.size<W7.heap.size:=(hap _ ((D8 _).2 (.inl rfl))).2
  obtain⟨c2,f2,q2⟩:=af hv1
  clear hF hP hv1 hv2 hv3 hx hys Oe hxm hyl hkeep hrec hD hbt Gu hbv Zz agp h3s hne
  generalize ((dE c []).take (k+1)).map kD=ls' at*
  generalize ((dE c []).take k).map kD=ls at*
  gi_wp2_with fail
  rcases(List.eq_nil_or_concat ls).imp id (fun⟨A,z,e⟩=>(⟨A,z,e.trans (List.concat_eq_append)⟩: ∃A z,ls=A++[z])) with rfl|⟨A,z,rfl⟩
  ·simp only[List.length_nil] at c2 HV HBV
   refine dN 22 [] none [] (by kernel_rfl) (by kernel_rfl) (by kernel_rfl) ?_
   simp only[zt]
   repeat ((first|refine zn ?_|refine zk ?_);simp only[zp])
   intro W hE hF
   obtain⟨hc,hf⟩:=bJ hE.below
   have hzE:=hE.size
   (try simp only[bu] at hzE)
   have lL:Ext [] W7 W:=hE
   have Ia:PQ B hv nT tv ([]) Ms W:=UE.o.kept lL.size (fun b h1 h2=>lL.block b (by have:=(hap b (hin b h1 (by omega))).2;omega) (by simp)) (fun g h1 h2 h3=>lL.block g h2 (by simp)) (fun m hm=> .inl hm)
   have Gt:=(lL.block _ (aS.1 HBT.o).1 (by simp)).trans HBT.o
   obtain⟨v8,tu,tq,zN⟩:=Ia.work
   have Gi:v8= .slice (vo) (0) vc:=by
    have h4:=(lL.block _ q2 (by simp)).trans HV.o.1
    rw[tu] at h4
    simp only[Option.some.injEq,Obj.cells.injEq,and_true,Array.mk.injEq,List.cons.injEq,true_and] at h4
    exact h4
   rw[Gi] at tu tq zN
   clear Gi
   (try simp only[List.length_nil] at tq)
   (try simp only[dh,List.length_cons,List.length_nil,Nat.zero_add] at tq)
   obtain⟨p1,p2,p3⟩:=af (show W.heap[B+1]? =some (.cells #[.pointer (some ⟨B,0,none⟩)] 180 (0,0)) from Ia.ptr)
   obtain⟨p4,p5,p6⟩:=af (show W.heap[B]? =some (.cells #[hv,nT,tv,.slice (vo) (0) vc] 279 (0,0)) from tu)
   obtain⟨p7,p8,p9⟩:=af Gt
   have adL:=lL.size
   have J3:=ae Ia
   have Ic:=ae (ag tu (ag tq zN))
   have iW:=ae lL
   clear hE hF hc hf lL Ia tu tq zN Gt c1 f1 l1 c2 f2 q2 c3 f3 l3 hzE
   obtain⟨gx,hgx,abH,hgx2,AY,abG⟩: ∃gx,(∀g,(Value.slice (vo) (0) vc).ownBlock=some g->g=gx)/\(gx=w.heap.size∨B+6<=gx)/\gx<W.heap.size/\gx∉Ms/\gx≠bt:=by
    cases zQ:(Value.slice (vo) (0) vc).ownBlock with
    |none=>exact⟨w.heap.size,(fun g hg=>by cases hg),.inl rfl,by omega,hwM,by omega⟩
    |some g=>
     have h1:=bD Ic.o.2.1 g zQ
     have h2:=Ic.o.2.2 g zQ
     exact⟨g,(fun g' hg=>by cases hg;rfl),.inr h1.1,h1.2,h2.1,fun e=>HBV.o (by rw[zQ,e])⟩
   have HG:=ae hgx
   clear hgx
   have z1:gx≠B:=by omega
   have z2:gx≠B+1:=by omega
   have z1':B≠gx:=by omega
   have z2':B+1≠gx:=by omega
   have z3':bt≠gx:=by omega
   gi_wp2_with fail
   refine dN 8 [gx] (some 7) [(6,Spec.slice W.heap.size #[iv y0,iv y1,iv y2] 283 1),(7,⟨fun _ v=> ∃o c,v= .slice o (0+1) c,fun _ v Wx=>Wx.ownsRow (B+6) 283 3 v (0+1) ((([])++[ys]).flatMap ah)/\(∀g,v.ownBlock=some g->g=gx∨W.heap.size<=g)⟩)] (by kernel_rfl) (by kernel_rfl) (by kernel_rfl) ?_
   simp only[zt]
   repeat ((first|refine zn ?_|refine zk ?_);simp only[zp])
   refine dX W.heap.size _ _ 1 (by rfl) (ai _) (by rfl) (by simpa using hgx2) (by simp) (fun W hW=>by go_simp;try rfl) (fun b6=>?_)
   simp only[zp]
   refine bG _ (by rfl) (by rfl) (by exact⟨.slice none (0+1) 0,none,0,rfl⟩) (fun Wa hE hF=>?_) (fun v Wa Wb ho hE=>?_) (fun v hv=>?_)
   ·have hE':Ext [] W Wa:=hE
    obtain⟨b',hb',hge,hcc⟩:=hF _ (bF _) (by kernel_rfl)
    cases hb'
    have hown6:=aC (Ms:=[]) Ic.o.2.1 hE' (by simp)
    have hsrc:aN 3 Wa (.slice (some ⟨b6,0,none⟩) 1 1) 1 (ah ys):=by
     rw[BG.o.1]
     exact aN.dD 3 1 hcc rfl (by decide)
    refine Does.mono (dK afw (by rfl) (by rfl) hown6 (by rfl) hsrc (jG _) (by omega) (by omega) (by have:=hE'.size;omega)) ?_
    rintro v' Wc ⟨ho,hgr,hcase⟩
    refine⟨aW ho,⟨?_,fun g hg=>?_⟩,⟨hgr.os,hgr.tape,hgr.output,hgr.size,fun b hb hn=>hgr.block b hb (fun e=>hn (by rw[HG.o b e.symm];simp))⟩⟩
    ·rw[uP]
     simpa using ho
    ·rcases hcase with h1|h1
     ·exact .inl (HG.o g (by rw[<-h1,hg]))
     ·rw[hg] at h1;injection h1 with h1;exact .inr (by have:=hE'.size;omega)
   ·exact⟨aC (Ms:=[]) ho.1 hE (by simp),ho.2⟩
   obtain⟨o7,c7,rfl⟩:=hv
   simp only[zp]
   intro W9 hE hF
   have hE':Ext [gx] W W9:=hE
   obtain⟨Uf,Iy⟩:=hF _ (bF _)
   have zM:W9.heap[B]? =some (.cells #[hv,nT,tv,.slice (vo) (0) vc] 279 (0,0)):=(hE'.block _ p6 (by simpa using z1')).trans Ic.o.1
   obtain⟨c9,f9,l9⟩:=af zM
   have BH:=ae hE'
   have wQ:=ae (ag Uf (ag Iy zM))
   clear hE hF hE' Uf Iy p1 p2 p4 p5 p7 p8 zM
   gi_wp2_with fail
   obtain⟨v',hv'⟩: ∃v',Value.slice o7 (0+1) c7=v':=⟨_,rfl⟩
   rw[hv'] at wQ⊢
   have wC:(W9.setCell ⟨B,3,none⟩ v').heap.size=W9.heap.size:=by simp[World.setCell]
   have hs9:=BH.o.size
   have hks: ∀b,b<W.heap.size->b≠gx->b≠B->(W9.setCell ⟨B,3,none⟩ v').heap[b]? =W.heap[b]? :=fun b hb h1 h2=>
    (dF _ _ _ _ h2).trans (BH.o.block b hb (by simpa using h1))
   have EP: ∀b,b<W7.heap.size->b≠gx->b≠B->(W9.setCell ⟨B,3,none⟩ v').heap[b]? =W7.heap[b]? :=fun b hb h1 h2=>(hks b (by omega) h1 h2).trans (iW.o.block b hb (by simp))
   have hFB:Hu w Os Ms (W9.setCell ⟨B,3,none⟩ v'):=yB.o.own (yB.o.ext.trans ⟨BH.o.os.trans iW.o.os,BH.o.tape.trans iW.o.tape,BH.o.output.trans iW.o.output,by rw[wC];omega,fun b hb=>(dF _ _ _ _ (by show b≠B;omega)).trans ((BH.o.block b (by have:=yB.o.ext.size;omega) (by simp;omega)).trans (iW.o.block b (by have:=yB.o.ext.size;omega) (by simp)))⟩) (by rw[wC];omega)
   have hlen1:(([])++[ys]).length=0+1:=by simp
   refine⟨⟨?_,?_,fun m hm h0 hml=>?_,by rw[wC];omega⟩,hFB,?_⟩
   ·exact(EP _ (by have:=(hap _ (hin (w4.heap.size+1) (by omega) (by omega))).2;omega) (by omega) (by omega)).trans HK.o.2.1
   ·exact(EP _ (by have:=(hap _ (hin w4.heap.size (by omega) (by omega))).2;omega) (by omega) (by omega)).trans HK.o.2.2
   ·exact(EP m (yB.o.bnd m hm) (fun e=>AY (e▸hm)) (fun e=>(hap B (hin _ (by omega) (by omega))).1 (e▸hm))).trans (HK.o.1 m hm h0 hml)
   rw[ahZ.o]
   refine⟨⟨v',aI wQ.o.2.2 _,hlen1.symm▸dm wQ.o.1 fun g hg=>dF _ _ _ _ (by have:=(bD wQ.o.1 g hg).1;show g≠B;omega),fun g hg=>⟨fun hm=>?_,by rw[wC];exact(bD wQ.o.1 g hg).2⟩⟩,?_,?_,?_⟩
   ·rcases wQ.o.2.1 g hg with h1|h1
    ·exact AY (h1▸hm)
    ·have:=yB.o.bnd g hm;omega
   ·exact(hks _ (by have:=(hap _ (hin (B+1) (by omega) (by omega))).2;omega) (by omega) (by omega)).trans J3.o.ptr
   ·exact(hks _ (by have:=(hap _ (hin (B+2) (by omega) (by omega))).2;omega) (by omega) (by omega)).trans J3.o.b2
   ·exact(hks _ (by have:=(hap _ (hin (B+3) (by omega) (by omega))).2;omega) (by omega) (by omega)).trans J3.o.b3
  ·have hz3:=H3.o z (by simp)
   obtain⟨gb,gc,hvv,hgb,Rx,Lc⟩:=BX (A:=A) (z:=z) (by simpa using HV.o.2.1) (fun x hx=>H3.o x (by simp[hx])) hz3
   have hcap:vo=some ⟨gb,0,none⟩:=by simp at hvv;exact hvv.1
   subst hcap
   have hzl:(ah z).length=3:=by simp[ah,hz3]
   (try simp only[dh,List.length_cons,List.length_nil,Nat.zero_add] at c2)
   (try simp only[dh,List.length_cons,List.length_nil,Nat.zero_add] at HV)
   (try simp only[dh,List.length_cons,List.length_nil,Nat.zero_add] at HBV)
   (try simp only[dh,List.length_cons,List.length_nil,Nat.zero_add] at hlk)
   have hAI:((A.length:Int)+1==0)=false:=by simp;omega
   have hA0: ¬((A.length:Int)+1=0):=by omega
   have hA1:((A.length:Int)+1).toNat=A.length+1:=by omega
   have hAm:(A.length:Int)+1-1=A.length:=by omega
   have hy3:ys.length=3:=BG.o.2
   have hq:=J5.o A z rfl
   refine dN 22 [] none [] (by kernel_rfl) (by kernel_rfl) (by kernel_rfl) ?_
   simp only[zt]
   repeat ((first|refine zn ?_|refine zk ?_);simp only[zp])
   refine fZ (by rfl) (.pointer (some ⟨gb,A.length*3,none⟩)) (by rfl) (fun W hW=>by go_simp;(try simp(disch:=omega) only[IntWalk.i64_in]);(try rw[aF (by omega)]);(try simp);(try (intro hx;exfalso;omega))) ?_
   simp only[zp]
   refine fZ (by rfl) (.agg (ah z).toArray) (by rfl) (fun W hW=>kF 283 _ (by rfl) gb (A.length*3) (by rfl) (ah z) _ (fun j u hj=>(hW gb _ Rx (by simp)).trans (Lc j u hj)) Tryz.underlying283 rfl (by rw[hzl];kernel_rfl)) ?_
   simp only[zp]
   refine fZ (by rfl) (.agg #[iv y0,iv y1,iv y2]) (by rfl) (fun W hW=>by go_simp;try rfl) ?_
   simp only[zp]
   refine fZ (by rfl) (.bool true) (by rfl) (fun W hW=>(nN 283 3 _ 3 _ _ (by rfl) Tryz.underlying283 Tryz.underlying3 (by intro w;go_simp) (by kernel_rfl) z [y0,y1,y2] (by rfl) (by rfl) hz3 (by rfl)).trans (by rw[BG.o.1] at hq;rw[hq];rfl)) ?_
   simp only[zp]
   repeat ((first|refine zn ?_|refine zk ?_);simp only[zp])
   intro W hE hF
   obtain⟨hc,hf⟩:=bJ hE.below
   have hzE:=hE.size
   (try simp only[bu] at hzE)
   have lL:Ext [] W7 W:=hE
   have Ia:PQ B hv nT tv (A++[z]) Ms W:=UE.o.kept lL.size (fun b h1 h2=>lL.block b (by have:=(hap b (hin b h1 (by omega))).2;omega) (by simp)) (fun g h1 h2 h3=>lL.block g h2 (by simp)) (fun m hm=> .inl hm)
   have Gt:=(lL.block _ (aS.1 HBT.o).1 (by simp)).trans HBT.o
   obtain⟨v8,tu,tq,zN⟩:=Ia.work
   have Gi:v8= .slice ((some ⟨gb,0,none⟩)) ((A.length+1)) vc:=by
    have h4:=(lL.block _ q2 (by simp)).trans HV.o.1
    rw[tu] at h4
    simp only[Option.some.injEq,Obj.cells.injEq,and_true,Array.mk.injEq,List.cons.injEq,true_and] at h4
    exact h4
   rw[Gi] at tu tq zN
   clear Gi
   (try simp only[List.length_nil] at tq)
   (try simp only[dh,List.length_cons,List.length_nil,Nat.zero_add] at tq)
   obtain⟨p1,p2,p3⟩:=af (show W.heap[B+1]? =some (.cells #[.pointer (some ⟨B,0,none⟩)] 180 (0,0)) from Ia.ptr)
   obtain⟨p4,p5,p6⟩:=af (show W.heap[B]? =some (.cells #[hv,nT,tv,.slice ((some ⟨gb,0,none⟩)) ((A.length+1)) vc] 279 (0,0)) from tu)
   obtain⟨p7,p8,p9⟩:=af Gt
   have adL:=lL.size
   have J3:=ae Ia
   have Ic:=ae (ag tu (ag tq zN))
   have iW:=ae lL
   clear hE hF hc hf lL Ia tu tq zN Gt c1 f1 l1 c2 f2 q2 c3 f3 l3 hzE
   obtain⟨gx,hgx,abH,hgx2,AY,abG⟩: ∃gx,(∀g,(Value.slice ((some ⟨gb,0,none⟩)) ((A.length+1)) vc).ownBlock=some g->g=gx)/\(gx=w.heap.size∨B+6<=gx)/\gx<W.heap.size/\gx∉Ms/\gx≠bt:=by
    cases zQ:(Value.slice ((some ⟨gb,0,none⟩)) ((A.length+1)) vc).ownBlock with
    |none=>exact⟨w.heap.size,(fun g hg=>by cases hg),.inl rfl,by omega,hwM,by omega⟩
    |some g=>
     have h1:=bD Ic.o.2.1 g zQ
     have h2:=Ic.o.2.2 g zQ
     exact⟨g,(fun g' hg=>by cases hg;rfl),.inr h1.1,h1.2,h2.1,fun e=>HBV.o (by rw[zQ,e])⟩
   have HG:=ae hgx
   clear hgx
   have z1:gx≠B:=by omega
   have z2:gx≠B+1:=by omega
   have z1':B≠gx:=by omega
   have z2':B+1≠gx:=by omega
   have z3':bt≠gx:=by omega
   gi_wp2_with fail
   refine dN 8 [gx] (some 7) [(6,Spec.slice W.heap.size #[iv y0,iv y1,iv y2] 283 1),(7,⟨fun _ v=> ∃o c,v= .slice o ((A.length+1)+1) c,fun _ v Wx=>Wx.ownsRow (B+6) 283 3 v ((A.length+1)+1) (((A++[z])++[ys]).flatMap ah)/\(∀g,v.ownBlock=some g->g=gx∨W.heap.size<=g)⟩)] (by kernel_rfl) (by kernel_rfl) (by kernel_rfl) ?_
   simp only[zt]
   repeat ((first|refine zn ?_|refine zk ?_);simp only[zp])
   refine dX W.heap.size _ _ 1 (by rfl) (ai _) (by rfl) (by simpa using hgx2) (by simp) (fun W hW=>by go_simp;try rfl) (fun b6=>?_)
   simp only[zp]
   refine bG _ (by rfl) (by rfl) (by exact⟨.slice none ((A.length+1)+1) 0,none,0,rfl⟩) (fun Wa hE hF=>?_) (fun v Wa Wb ho hE=>?_) (fun v hv=>?_)
   ·have hE':Ext [] W Wa:=hE
    obtain⟨b',hb',hge,hcc⟩:=hF _ (bF _) (by kernel_rfl)
    cases hb'
    have hown6:=aC (Ms:=[]) Ic.o.2.1 hE' (by simp)
    have hsrc:aN 3 Wa (.slice (some ⟨b6,0,none⟩) 1 1) 1 (ah ys):=by
     rw[BG.o.1]
     exact aN.dD 3 1 hcc rfl (by decide)
    refine Does.mono (dK afw (by rfl) (by rfl) hown6 (by rfl) hsrc (jG _) (by omega) (by omega) (by have:=hE'.size;omega)) ?_
    rintro v' Wc ⟨ho,hgr,hcase⟩
    refine⟨aW ho,⟨?_,fun g hg=>?_⟩,⟨hgr.os,hgr.tape,hgr.output,hgr.size,fun b hb hn=>hgr.block b hb (fun e=>hn (by rw[HG.o b e.symm];simp))⟩⟩
    ·rw[uP]
     simpa using ho
    ·rcases hcase with h1|h1
     ·exact .inl (HG.o g (by rw[<-h1,hg]))
     ·rw[hg] at h1;injection h1 with h1;exact .inr (by have:=hE'.size;omega)
   ·exact⟨aC (Ms:=[]) ho.1 hE (by simp),ho.2⟩
   obtain⟨o7,c7,rfl⟩:=hv
   simp only[zp]
   intro W9 hE hF
   have hE':Ext [gx] W W9:=hE
   obtain⟨Uf,Iy⟩:=hF _ (bF _)
   have zM:W9.heap[B]? =some (.cells #[hv,nT,tv,.slice ((some ⟨gb,0,none⟩)) ((A.length+1)) vc] 279 (0,0)):=(hE'.block _ p6 (by simpa using z1')).trans Ic.o.1
   obtain⟨c9,f9,l9⟩:=af zM
   have BH:=ae hE'
   have wQ:=ae (ag Uf (ag Iy zM))
   clear hE hF hE' Uf Iy p1 p2 p4 p5 p7 p8 zM
   gi_wp2_with fail
   obtain⟨v',hv'⟩: ∃v',Value.slice o7 ((A.length+1)+1) c7=v':=⟨_,rfl⟩
   rw[hv'] at wQ⊢
   have wC:(W9.setCell ⟨B,3,none⟩ v').heap.size=W9.heap.size:=by simp[World.setCell]
   have hs9:=BH.o.size
   have hks: ∀b,b<W.heap.size->b≠gx->b≠B->(W9.setCell ⟨B,3,none⟩ v').heap[b]? =W.heap[b]? :=fun b hb h1 h2=>
    (dF _ _ _ _ h2).trans (BH.o.block b hb (by simpa using h1))
   have EP: ∀b,b<W7.heap.size->b≠gx->b≠B->(W9.setCell ⟨B,3,none⟩ v').heap[b]? =W7.heap[b]? :=fun b hb h1 h2=>(hks b (by omega) h1 h2).trans (iW.o.block b hb (by simp))
   have hFB:Hu w Os Ms (W9.setCell ⟨B,3,none⟩ v'):=yB.o.own (yB.o.ext.trans ⟨BH.o.os.trans iW.o.os,BH.o.tape.trans iW.o.tape,BH.o.output.trans iW.o.output,by rw[wC];omega,fun b hb=>(dF _ _ _ _ (by show b≠B;omega)).trans ((BH.o.block b (by have:=yB.o.ext.size;omega) (by simp;omega)).trans (iW.o.block b (by have:=yB.o.ext.size;omega) (by simp)))⟩) (by rw[wC];omega)
   have hlen1:((A++[z])++[ys]).length=(A.length+1)+1:=by simp
   refine⟨⟨?_,?_,fun m hm h0 hml=>?_,by rw[wC];omega⟩,hFB,?_⟩
   ·exact(EP _ (by have:=(hap _ (hin (w4.heap.size+1) (by omega) (by omega))).2;omega) (by omega) (by omega)).trans HK.o.2.1
   ·exact(EP _ (by have:=(hap _ (hin w4.heap.size (by omega) (by omega))).2;omega) (by omega) (by omega)).trans HK.o.2.2
   ·exact(EP m (yB.o.bnd m hm) (fun e=>AY (e▸hm)) (fun e=>(hap B (hin _ (by omega) (by omega))).1 (e▸hm))).trans (HK.o.1 m hm h0 hml)
   rw[ahZ.o]
   refine⟨⟨v',aI wQ.o.2.2 _,hlen1.symm▸dm wQ.o.1 fun g hg=>dF _ _ _ _ (by have:=(bD wQ.o.1 g hg).1;show g≠B;omega),fun g hg=>⟨fun hm=>?_,by rw[wC];exact(bD wQ.o.1 g hg).2⟩⟩,?_,?_,?_⟩
   ·rcases wQ.o.2.1 g hg with h1|h1
    ·exact AY (h1▸hm)
    ·have:=yB.o.bnd g hm;omega
   ·exact(hks _ (by have:=(hap _ (hin (B+1) (by omega) (by omega))).2;omega) (by omega) (by omega)).trans J3.o.ptr
   ·exact(hks _ (by have:=(hap _ (hin (B+2) (by omega) (by omega))).2;omega) (by omega) (by omega)).trans J3.o.b2
   ·exact(hks _ (by have:=(hap _ (hin (B+3) (by omega) (by omega))).2;omega) (by omega) (by omega)).trans J3.o.b3
 case hdone=>
  rintro Ms W ⟨hF,hP⟩ hD hlt
  rw[List.take_length] at hP
  obtain⟨v,hv1,hv2,hv3⟩:=hP.work
  obtain⟨vo,vc,rfl⟩:=aW hv2
  obtain⟨c1,f1,l1⟩:=af hP.ptr
  obtain⟨c2,f2,l2⟩:=af hv1
  have J6:=ae hF
  have HV:=ae (ag hv1 hv2)
  have hcnt:((dE c []).map kD).length<=2000:=by rw[lX];exact uK oP.o []
  have hemp:((dE c []).isEmpty=true)↔((dE c []).map kD).length=0:=by simp
  have HEM:=ae hemp
  clear hF hP hv1 hv2 hv3 hemp
  generalize hls:(dE c []).map kD=ls at*
  have EY:=ae hls
  clear hls
  by_cases hn:ls.length=0
  ·have hn':(((ls.length:Nat):Int)==0)=true:=by simpa using hn
   have aaD:Hid (iY c true=11):=ae (by rw[HE.o,aF (HEM.o.2 hn)])
   clear hn
   gi_wp2_with fail
   refine⟨by simp,.inl ⟨_,_,rfl,run_takeDeferred hD,?_⟩⟩
   exact⟨.tuple #[.pointer none,.int .i64 11],by simp[results,Tryz.results81,go_sem],(J6.o.put (Obj.deferred none) (by omega)).ext,.inl ⟨by rw[aaD.o];simp,by rw[aaD.o]⟩⟩
  ·have hn':(((ls.length:Nat):Int)==0)=false:=by simpa using hn
   have HE0:Hid (iY c true=0):=ae (by rw[HE.o,aj (fun h=>hn (HEM.o.1 h))])
   clear hn
   gi_wp2_with fail
   refine⟨by simp,.inl ⟨_,_,rfl,run_takeDeferred hD,?_⟩⟩
   refine⟨.tuple #[.pointer (some ⟨B,0,none⟩),.int .i64 0],by simp[results,Tryz.results81,go_sem],(J6.o.put (Obj.deferred none) (by omega)).ext,.inr ⟨HE0.o,B,.slice vo ls.length vc,rfl,by omega,?_⟩⟩
   rw[hhv,agz,JG,EY.o]
   refine⟨?_,?_⟩
   ·exact(World.putObj_heap_other (by omega)).trans HV.o.1
   ·exact aN.dS (dm HV.o.2 fun g hg=>World.putObj_heap_other (by have:=(bD HV.o.2 g hg).1;omega))
 case hstop=>rintro cd Ms W h;exact h.elim
end Go.Proofs.YthllkbbbapgelaaGreatDoor.zo
end
section
namespace Go.Proofs.YthllkbbbapgelaaGreatDoor.zo
open Go.RowKit Go.RG Go.SL Go.Shelf jl Go.TB
attribute [local go_sem] Oper.semAt_some
theorem TQ {w:World} {o:Option Addr} {n c:Nat} {ls:List (List Int)} (h:aN 3 w (.slice o n c) (ls.map kD).length ((ls.map kD).flatMap ah)) (h3: ∀x∈ls,x.length<=3) {k:Nat} (hk:k<ls.length):
 ∃b off y0 y1 y2,o=some ⟨b,off,none⟩/\b<w.heap.size/\kD ls[k]=[y0,y1,y2]/\w.cell? ⟨b,off+k*3,none⟩=some (iv y0)/\w.cell? ⟨b,off+k*3+1,none⟩=some (iv y1)/\w.cell? ⟨b,off+k*3+2,none⟩=some (iv y2):=by
 obtain⟨hl,o',c',hv,h1,h2,h4,h5⟩:=h
 cases hv
 obtain⟨y0,y1,y2,hys⟩:=nH (xN (h3 _ (df hk)))
 rw[lX] at h1
 cases o with
 |none=>have:=h4 rfl;omega
 |some a=>
  obtain⟨b,off,sp⟩:=a
  obtain⟨hs,hc⟩:=h5 _ rfl
  simp only at hs hc
  subst hs
  have g: ∀j,j<3->((ls.map kD).flatMap ah)[k*3+j]? =[iv y0,iv y1,iv y2][j]? :=fun j hj=>by
   rw[Gz ah 3 (ls.map kD) (fun x hx=>by
    obtain⟨t,ht,rfl⟩:=iZ.1 hx
    simp[ah,xN (h3 t ht)]) k j (by rw[lX];exact hk) hj,List.getElem_map,hys]
   rfl
  have r0:=hc (k*3+0) (iv y0) (by rw[g 0 (by omega)];rfl)
  have r1:=hc (k*3+1) (iv y1) (by rw[g 1 (by omega)];rfl)
  have r2:=hc (k*3+2) (iv y2) (by rw[g 2 (by omega)];rfl)
  rw[Nat.add_zero] at r0
  rw[<-Nat.add_assoc] at r1 r2
  exact⟨b,off,y0,y1,y2,rfl,dG w _ r0,hys,r0,r1,r2⟩
theorem KY (w:World):Calls Tryz.prog 82 #[] w (PV (.bool true) w):=by
 go_enter Tryz.func82,Tryz.ntmps82
 go_wp2
 go_returns
 exact⟨by simp,aH _ _⟩
theorem Ob (c:bK) (hS:nG c) (hv nT tv v:Value) (es:List KE) (wb:Nat) (i:Nat) (hi:mZ c i) (w:World) (hc:rF w hv nT tv es c) (hpos:0<(dE c []).length) (hw:Tc w wb hv nT tv v ((dE c []).map kD)):
 Calls Tryz.prog 83 #[.pointer (some ⟨wb,0,none⟩),iv i] w (PV (rv (Ap c i)) w):=by
 obtain⟨oh,ch,rfl⟩:=hc.heaps.open
 obtain⟨ok,ck,rfl⟩:=hc.aU.open
 obtain⟨ot,ct,rfl⟩:=hc.aJ.open
 rw[hc.len] at hc hw
 have hcnt:=uK hS []
 have hall: ∀s∈dE c [],Str c s:=fun s hs=>sW hS (mF s hs)
 have h3: ∀x∈dE c [],x.length<=3:=fun x hx=>by have h1:=(hall x hx).1;have h2:=hS.h3;omega
 obtain⟨vo,vc,rfl⟩:=hw.truth.open
 have HOF:=ae (fun(s:List Int) (hs:Str c s) (x0 x1 x2:Int) (hx:kD s=[x0,x1,x2]) (W:World) (hb:Below w.heap.size w W)=>TZ c hS oh ok ch ck (.slice ot c.aJ.length ct) es s x0 x1 x2 hx hs i hi W (hc.aU.below hb (ai _)) hc.is)
 have EW:=ae hw
 have HL:=ae (ag hpos (ag hall (ag h3 hcnt)))
 have L9:=ae (fun k (hk:k<=(dE c []).length)=>TS hS (fun s hs=>mF s hs) hpos hi k hk)
 have HOB:=ae (fun(s:List Int) (hs:Str c s)=>YP hS hs.1 hs.2 hi)
 unfold Ap
 have hmap:((dE c []).map kD).length=(dE c []).length:=by simp
 have HMP:=ae hmap
 clear hc hS hall h3 hpos hcnt hmap
 generalize dE c []=ls at*
 obtain⟨d1,g1,m1⟩:=af hw.cells
 obtain⟨b,off,y0,y1,y2,hvv,hb,hys,r0,r1,r2⟩:=TQ hw.truth HL.o.2.2.1 HL.o.1
 rw[HMP.o] at d1
 cases hvv
 have hD:=HOF.o _ (HL.o.2.1 _ (df HL.o.1)) y0 y1 y2 hys
 have hdb:=HOB.o _ (HL.o.2.1 _ (df HL.o.1))
 have hr0:zJ c ls i 0=(Hz c (ls[0]'HL.o.1) i,Hz c (ls[0]'HL.o.1) i):=by
  unfold zJ
  rw[show ls.getD 0 []=ls[0]'HL.o.1 from by simp[List.getD,HL.o.1]]
  rfl
 generalize Hz c (ls[0]'HL.o.1) i=d at*
 have HD:=ae hD
 have HR0:=ae hr0
 simp only[Nat.zero_mul,Nat.add_zero] at r0 r1 r2
 have hpos0:0<ls.length:=HL.o.1
 have an6:ls.length<=2000:=HL.o.2.2.2
 clear hw hys hD hr0 hi
 go_enter Tryz.func83,Tryz.ntmps83
 go_upto_region 1 with(fail)
 refine dM fun W1 hW1=>?_
 have hB1:Below w.heap.size w W1:=by rw[hW1];exact zl
 have hk4:W1.heap[w.heap.size]? =some (.cells #[iv 0,iv 0] 129 (0,0)):=by rw[hW1];exact ay _ _
 have e0:=(hB1.cell (p:=⟨b,off,none⟩) hb).trans r0
 have e1:=(hB1.cell (p:=⟨b,off+1,none⟩) hb).trans r1
 have e2:=(hB1.cell (p:=⟨b,off+2,none⟩) hb).trans r2
 have hb1:b<W1.heap.size:=by have:=hB1.size;omega
 have Rn:=EW.o.below hB1 (ai _)
 obtain⟨n1,n2,n3⟩:=af Rn.cells
 rw[HMP.o] at n1
 have H1:=ae (ag hB1 hk4)
 clear hW1 hB1 hk4 r0 r1 r2 hb d1 g1 m1 Rn
 refine zg 12 [] none [(11,Spec.val (iv d))] ?_
 simp only[zt]
 repeat ((first|refine zn ?_|refine zk ?_);simp only[zp])
 refine zw 141 (h:=fun W hE hF=>by exact HD.o W (bn H1.o.1 hE.below)) (t:=?_)
 simp only[zp]
 intro W hE hF
 obtain⟨hc,hf⟩:=bJ hE.below
 have hzE:=hE.size
 (try simp only[bu] at hzE)
 have hB2:=bn H1.o.1 hE.below
 have agH:=(hE.block _ (aS.1 H1.o.2).1 (by simp)).trans H1.o.2
 have H2:=ae (ag hB2 agH)
 have afS:=EW.o.below hB2 (ai _)
 clear hE hF hc hf hzE e0 e1 e2 hb1 n1 n2 n3 hB2 agH
 obtain⟨n1,n2,n3⟩:=af afS.cells
 rw[HMP.o] at n1
 clear afS
 go_upto_region 3 with(fail)
 refine dM fun W3 hW3=>?_
 have hB3:Below W.heap.size W W3:=by rw[hW3];exact zl
 have hk9:W3.heap[W.heap.size]? =some (.cells #[iv d,iv d] 129 (0,0)):=by rw[hW3];exact ay _ _
 have agG:=(hB3.block _ (aS.1 H2.o.2).1).trans H2.o.2
 have hwW:w.heap.size<W.heap.size:=(aS.1 H2.o.2).1
 have H3:=ae (ag (bn H2.o.1 hB3) (ag hk9 agG))
 have afR:=EW.o.below H3.o.1 (ai _)
 clear hW3 hB3 hk9 agG n1 n2 n3
 obtain⟨n1,n2,n3⟩:=af afR.cells
 rw[HMP.o] at n1
 clear afR
 obtain⟨b9,wE⟩: ∃b9,W.heap.size=b9:=⟨_,rfl⟩
 rw[wE] at H3 hwW⊢
 clear wE H2
 go_wp2_with fail
 go_loopw [29] (fun u wq=> ∃k:Nat,k<=ls.length/\u= .int .i64 k/\wq.heap[b9]? =some (.cells #[iv (zJ c ls i k).1,iv (zJ c ls i k).2] 129 (0,0))/\wq.heap[w.heap.size]? =some (.cells #[iv 0,iv 0] 129 (0,0))/\Below w.heap.size w wq) (fun u _=>ls.length-(intOf u).toNat)
 case atStart=>exact⟨0,bM _,rfl,by rw[HR0.o];exact H3.o.2.1,H3.o.2.2,H3.o.1⟩
 case round=>
  obtain⟨k,hk,rfl,hcell,hres,hB⟩:=hrel
  by_cases hlk:k<ls.length
  ·have hwr:=EW.o.below hB (ai _)
   obtain⟨q1,q2,q3⟩:=af hwr.cells
   rw[HMP.o] at q1
   obtain⟨e1,e2,e3⟩:=af hcell
   obtain⟨b',off',z0,z1,z2,hvv,hb',hzs,s0,s1,s2⟩:=TQ hwr.truth HL.o.2.2.1 hlk
   cases hvv
   have hst:=HL.o.2.1 _ (df hlk)
   have hD2:=HOF.o _ hst z0 z1 z2 hzs
   have hsu:=Ji (c:=c) (i:=i) hlk
   have aj9:=HOB.o _ hst
   have hrb:=L9.o k hk
   generalize Hz c ls[k] i=d2 at*
   generalize hrk:zJ c ls i k=r at*
   have HD2:=ae hD2
   have wX:=ae hsu
   have HQ:=ae (ag hcell (ag hres hB))
   clear hzs hD2 hsu hcell hres hB hwr hst hrk n1 n2 n3
   have agr:(k:Int)<ls.length:=by omega
   go_upto_region 6 with(fail)
   refine dM fun W5 xY=>?_
   have xg:Below wr.heap.size wr W5:=by rw[xY];exact zl
   have hk5:W5.heap[wr.heap.size]? =some (.cells #[iv z0,iv z1,iv z2] 283 (0,0)):=by rw[xY];exact ay _ _
   have hc5:=(xg.block _ e3).trans HQ.o.1
   have hw5:=EW.o.below (bn HQ.o.2.2 xg) (ai _)
   have HBB:=ae (ag (bn HQ.o.2.2 xg) (ag hc5 ((xg.block _ (aS.1 HQ.o.2.1).1).trans HQ.o.2.1)))
   clear xY xg q1 q2 q3 e1 e2 s0 s1 s2 hb'
   obtain⟨q1,q2,q3⟩:=af hw5.cells
   rw[HMP.o] at q1
   obtain⟨e1,e2,e4⟩:=af hc5
   obtain⟨p1,p2,p3⟩:=af hk5
   clear hw5 hc5 hk5
   refine zg 9 [] none [(7,Spec.val (iv d2)),(8,Spec.val (rv (wid r d2)))] ?_
   simp only[zt]
   repeat ((first|refine zn ?_|refine zk ?_);simp only[zp])
   refine zw 141 (h:=fun W hE hF=>by exact HD2.o W (bn HBB.o.1 hE.below)) (t:=?_)
   simp only[zp]
   refine zw 142 (h:=fun W hE hF=>by exact Q4 r d2 W) (t:=?_)
   simp only[zp]
   intro W hE hF
   obtain⟨hc,hf⟩:=bJ hE.below
   have hzE:=hE.size
   (try simp only[bu] at hzE)
   have HE:=ae hE
   clear hF hzE
   go_wp2_with fail
   go_roundw
   case rel=>
    refine⟨k+1,by omega,by go_num,?_,?_,?_⟩
    ·rw[wX.o]
     exact aI (aI ((HE.o.block _ e4 (by simp)).trans HBB.o.2.1) _) _
    ·have h1:=(HE.o.block _ (aS.1 HBB.o.2.2).1 (by simp)).trans HBB.o.2.2
     exact(dF _ _ _ _ (by show w.heap.size≠b9;omega)).trans ((dF _ _ _ _ (by show w.heap.size≠b9;omega)).trans h1)
    ·exact iD (iD (bn HBB.o.1 HE.o.below) (show w.heap.size<=b9 by omega) _) (show w.heap.size<=b9 by omega) _
   case measure=>simp[intOf];omega
  ·have hkl:k=ls.length:=by omega
   subst hkl
   have hrb:=L9.o _ (ai _)
   generalize zJ c ls i ls.length=r at*
   obtain⟨e1,e2,e3⟩:=af hcell
   obtain⟨p1,p2,p3⟩:=af hres
   have HQ:=ae (ag hres hB)
   clear hcell hres hB n1 n2 n3
   go_wp2_with fail
   refine bodyPost_ret (v:=rv r) (results_cell_row Tryz.results83 _ _ w.heap.size _ _ (0,0) _ rfl (aI (aI HQ.o.1 _) _) Tryz.underlying129 rfl (by kernel_rfl)) rfl ?_
   exact⟨rfl,iD (iD HQ.o.2 (ai _) _) (ai _) _⟩
theorem tKR:iO Tryz.prog 56 129 (rv (0,0)) 2 16:=⟨Tryz.underlying56,by kernel_rfl,rfl,by omega⟩
def acs (c:bK) (w:World) (e:Ending) (w':World):Prop:=
 Below w.heap.size w w'/\((iY c true≠0/\e= .returned (.tuple #[.slice none 0 0,.slice none 0 0,iv (iY c true)]))∨
  (iY c true=0/\ ∃v u,e= .returned (.tuple #[v,u,iv 0])/\bP w' v (tC c)/\bP w' u (jv c)))
theorem Oo (c:bK) {i:Nat} (hi:i<c.heaps.length):(tC c).take (i+1)=(tC c).take i++[Ap c i]:=by
 rw[qW];congr 1;unfold tC;simp[hi]
theorem O8 (c:bK) {i:Nat} (hi:i<c.aU.length):(jv c).take (i+1)=(jv c).take i++[Ap c (c.heaps.length+i)]:=by
 rw[qW];congr 1;unfold jv;simp[hi]
theorem Jn (a b:List dQ):aG (a++b)=aG a++aG b:=by simp[aG]
theorem xR (c:bK) (hv nT tv:Value) (es:List KE) (w:World) (hc:rF w hv nT tv es c):Calls Tryz.prog 45 #[kv hv nT tv] w (acs c w):=by
 obtain⟨oh,ch,rfl⟩:=hc.heaps.open
 obtain⟨ok,ck,rfl⟩:=hc.aU.open
 obtain⟨ot,ct,rfl⟩:=hc.aJ.open
 rw[hc.len] at hc⊢
 have HA:=ae (fun(W:World) (hb:Below w.heap.size w W)=>Q8 c (.slice oh c.heaps.length ch) (.slice ok c.aU.length ck) (.slice ot c.aJ.length ct) es 82 #[] true W (hc.below hb (ai _)) (enters_of Tryz.func82 (by kernel_rfl) rfl) (fun W _=>KY W))
 have HC':Hid (∀W,Below w.heap.size w W->rF W (.slice oh c.heaps.length ch) (.slice ok c.aU.length ck) (.slice ot c.aJ.length ct) es c):=ae (fun W hb=>hc.below hb (ai _))
 clear hc
 go_enter Tryz.func45,Tryz.ntmps45
 go_wp2_with fail
 refine(HA.o _ (ak (aH _ _) _)).mono ?_
 rintro e w1 ⟨hb,⟨hne,rfl⟩|⟨h0,wb,v,rfl,hwb,hwk⟩⟩
 ·have HB:=ae (show Below w.heap.size w w1 from zl)
  obtain⟨q,hq⟩: ∃q,iY c true=q:=⟨_,rfl⟩
  rw[hq] at hne⊢
  have HN:=ae (ag hq hne)
  have hneb:(q==0)=false:=by simpa using hne
  clear hb hne hq
  go_wp2_with fail
  go_returns
  exact⟨HB.o,.inl ⟨by rw[HN.o.1];exact HN.o.2,by rw[HN.o.1];simp⟩⟩
 have HB:=ae (show Below w.heap.size w w1 from zl)
 have hk0:w1.heap[w.heap.size]? =some (.cells #[.slice oh c.heaps.length ch,.slice ok c.aU.length ck,.slice ot c.aJ.length ct] 60 (0,0)):=(hb.block _ (by simp)).trans (ay _ _)
 clear hb
 obtain⟨hS,hpos,_⟩:=He h0
 have hh3:=hS.h3
 have hk3:=hS.c3
 have HBD:=ae (fun(i:Nat) (hi:mZ c i) (W:World) (hb:Below w1.heap.size w1 W)=>Ob c hS (.slice oh c.heaps.length ch) (.slice ok c.aU.length ck) (.slice ot c.aJ.length ct) v es wb i hi W (HC'.o W (bn HB.o hb)) hpos (hwk.below hb (ai _)))
 have H0:=ae h0
 have HK0:=ae hk0
 have HHL:=ae (fun i (hi:i<c.heaps.length)=>Oo c hi)
 have HKL:=ae (fun i (hi:i<c.aU.length)=>O8 c hi)
 have HLL:Hid ((tC c).length=c.heaps.length/\(jv c).length=c.aU.length):=ae (by simp[tC,jv])
 obtain⟨c0,f0,l0⟩:=af hk0
 clear hS hpos hwk h0 hk0 hwb
 go_wp2_with fail
 go_loopw [2,19] (fun ov u wr=> ∃i:Nat,i<=c.heaps.length/\u= .int .i64 i/\(∃oo oc,ov= .slice oo i oc/\wr.ownsRow w1.heap.size 129 2 (.slice oo i oc) i (aG ((tC c).take i)))/\Below w1.heap.size w1 wr) (fun _ u _=>c.heaps.length-(intOf u).toNat)
 case atStart=>exact⟨0,bM _,rfl,⟨none,0,rfl,⟨rfl,.inl ⟨rfl,rfl⟩⟩⟩,aH _ _⟩
 case round=>
  obtain⟨i,hi,rfl,⟨oo,oc,rfl,how⟩,hB⟩:=hrel
  by_cases hlt:i<c.heaps.length
  ·have hD:=HBD.o i (by unfold mZ;omega) wr hB
   have hsu:=HHL.o i hlt
   generalize Ap c i=r at hD hsu
   have HOW:=ae how
   have HB':=ae hB
   have wX:=ae hsu
   clear how hB hsu c0 f0 l0
   go_wp2_with fail
   refine hD.mono ?_
   rintro e w2 ⟨rfl,hb2⟩
   have HB2:=ae hb2
   have ho2:=aC (Ms:=[]) HOW.o (Ext.aA hb2) (by simp)
   have Ew:=ae ho2
   have hsz2:=hb2.size
   have hsz1:=HB'.o.size
   clear hD hb2 ho2
   go_wp2_with (at_builtin;go_loud (refine eU rfl _ _ tKR rfl w1.heap.size (.slice oo i oc) i (aG ((tC c).take i)) rfl (aC (Ms:=[]) Ew.o (Ext.aA (ak (aH _ _) _)) (by simp)) (.slice (some ⟨w2.heap.size,0,none⟩) 1 1) 1 [iv r.1,iv r.2] rfl (aN.dD 2 1 (ay _ _) rfl (by decide)) (by simp[Value.oneCell']) (by omega) (by omega) (by simp;omega) ?_))
   intro v' w3 hown hgr hN
   obtain⟨o3,c3,rfl⟩:=aW hown
   have hpu:=yx HB'.o HOW.o ((Ext.aA HB2.o).trans (Ext.aA (ak (aH _ _) _))) hown hgr (ai _) HB'.o.size
   have HP:=ae (ag hpu hown)
   clear hpu hown hgr hN
   go_wp2_with fail
   go_roundw
   case rel=>
    refine⟨i+1,by omega,by go_num,⟨o3,c3,rfl,?_⟩,HP.o.1.1⟩
    rw[wX.o,Jn]
    exact HP.o.2
   case measure=>simp[intOf];omega
  ·obtain rfl:i=c.heaps.length:=by omega
   have hk1:=(hB.block _ (aS.1 HK0.o).1).trans HK0.o
   obtain⟨n0,n1,n2⟩:=af hk1
   have HH:=ae (ag how (ag hB hk1))
   clear how hB hk1 c0 f0 l0
   go_wp2_with fail
   generalize wr=wm at*
   go_loopw [3,32] (fun ov u wq=> ∃j:Nat,j<=c.aU.length/\u= .int .i64 j/\(∃o2 c2,ov= .slice o2 j c2/\wq.ownsRow wm.heap.size 129 2 (.slice o2 j c2) j (aG ((jv c).take j)))/\Below wm.heap.size wm wq) (fun _ u _=>c.aU.length-(intOf u).toNat)
   case atStart=>exact⟨0,bM _,rfl,⟨none,0,rfl,⟨rfl,.inl ⟨rfl,rfl⟩⟩⟩,aH _ _⟩
   case round=>
    obtain⟨j,hj,rfl,⟨o2,c2,rfl,how⟩,hB⟩:=hrel
    by_cases hlt:j<c.aU.length
    ·have hBw:=bn HH.o.2.1 hB
     have hD:=HBD.o (c.heaps.length+j) (by unfold mZ;omega) _ hBw
     have hsu:=HKL.o j hlt
     generalize Ap c (c.heaps.length+j)=r at hD hsu
     rw[show((c.heaps.length+j:Nat):Int)=(c.heaps.length:Int)+j from by omega] at hD
     have hkk:=(hB.block _ (aS.1 HH.o.2.2).1).trans HH.o.2.2
     obtain⟨a0,a1,a2⟩:=af hkk
     have HOW:=ae how
     have HB':=ae hB
     have wX:=ae hsu
     clear how hB hBw hsu hkk n0 n1 n2
     go_wp2_with fail
     refine hD.mono ?_
     rintro e w2 ⟨rfl,hb2⟩
     have HB2:=ae hb2
     have ho2:=aC (Ms:=[]) HOW.o (Ext.aA hb2) (by simp)
     have Ew:=ae ho2
     have hsz2:=hb2.size
     have hsz1:=HB'.o.size
     clear hD hb2 ho2 a0 a1 a2
     go_wp2_with (at_builtin;go_loud (refine eU rfl _ _ tKR rfl wm.heap.size (.slice o2 j c2) j (aG ((jv c).take j)) rfl (aC (Ms:=[]) Ew.o (Ext.aA (ak (aH _ _) _)) (by simp)) (.slice (some ⟨w2.heap.size,0,none⟩) 1 1) 1 [iv r.1,iv r.2] rfl (aN.dD 2 1 (ay _ _) rfl (by decide)) (by simp[Value.oneCell']) (by omega) (by omega) (by simp;omega) ?_))
     intro v' w3 hown hgr hN
     obtain⟨o3,c3,rfl⟩:=aW hown
     have hpu:=yx HB'.o HOW.o ((Ext.aA HB2.o).trans (Ext.aA (ak (aH _ _) _))) hown hgr (ai _) HB'.o.size
     have HP:=ae (ag hpu hown)
     clear hpu hown hgr hN
     go_wp2_with fail
     go_roundw
     case rel=>
      refine⟨j+1,by omega,by go_num,⟨o3,c3,rfl,?_⟩,HP.o.1.1⟩
      rw[wX.o,Jn]
      exact HP.o.2
     case measure=>simp[intOf];omega
    ·obtain rfl:j=c.aU.length:=by omega
     have HX:=ae (ag how hB)
     clear how hB n0 n1 n2
     go_wp2_with fail
     go_returns
     refine⟨bn HB.o (bn HH.o.2.1 HX.o.2),.inr ⟨H0.o,.slice oo c.heaps.length oc,.slice o2 c.aU.length c2,by simp,?_,?_⟩⟩
     ·have h1:=aN.dS (aC (Ms:=[]) HH.o.1 (Ext.aA HX.o.2) (by simp))
      rw[show(tC c).take c.heaps.length=tC c from by rw[<-HLL.o.1,List.take_length]] at h1
      show aN 2 _ _ (tC c).length _
      rw[HLL.o.1]
      exact h1
     ·have h1:=aN.dS HX.o.1
      rw[show(jv c).take c.aU.length=jv c from by rw[<-HLL.o.2,List.take_length]] at h1
      show aN 2 _ _ (jv c).length _
      rw[HLL.o.2]
      exact h1
end Go.Proofs.YthllkbbbapgelaaGreatDoor.zo
end

/-
  Texts of this claim, packed by a program: CA CB CC CD CE CG CF CI.
-/
import Derived.WalkKit
import Derived.WalkLawsBesides
import Derived.WalkSpells
import Derived.Outline
import Derived.Handy
import Derived.KernelRfl
import Derived.Lib.Hide
import Derived.Deep.Cut
import Derived.Laws.EntriesVeiled
import Derived.Test.YthbpmepjmebolaaGreatDoorPS5
set_option maxHeartbeats 8000000
set_option maxRecDepth 100000
set_option linter.all false
section
namespace Go.Proofs.YthbpmepjmebolaaGreatDoor.yR
open ji
abbrev Io:=Bool×Int×dP
structure bJ where
 heaps:List dP
 aU:List (List Int)
 aJ:List Io
def mf:List Int->Int
 |[]=>0
 |x::l=>x+mf l
def kU (l:List Int) (k:Nat):Int:=mf (l.take k)
theorem Md (a b:List Int):mf (a++b)=mf a+mf b:=by
 induction a with
 |nil=>simp[mf]
 |cons x a ih=>simp only[List.cons_append,mf,ih];omega
theorem rP {l:List Int} {k:Nat} (hk:k<l.length):kU l (k+1)=kU l k+l[k]:=by
 unfold kU
 rw[ig hk,Md]
 simp[mf]
theorem yw (l:List Int):kU l l.length=mf l:=by unfold kU;rw[List.take_length]
theorem Eg {m:Int} (_:0<=m): ∀{l:List Int},(∀x∈l,0<=x/\x<=m)->0<=mf l/\mf l<=m*l.length:=by
 intro l
 induction l with
 |nil=>intro _;simp[mf]
 |cons x l ih=>
  intro h
  have h1:=h x (by simp)
  have h2:=ih (fun y hy=>h y (by simp[hy]))
  simp only[mf,List.length_cons]
  rw[show m*((l.length+1:Nat):Int)=m*l.length+m from by rw[Int.natCast_add,Int.mul_add];simp]
  omega
theorem xg {m:Int} (hm:0<=m) {l:List Int} (h: ∀x∈l,0<=x/\x<=m) (k:Nat):0<=kU l k/\kU l k<=m*l.length:=by
 have h1:=Eg hm (l:=l.take k) (fun x hx=>h x (oW hx))
 have h2:m*((l.take k).length:Int)<=m*l.length:=Int.mul_le_mul_of_nonneg_left (by have:=List.length_take_le' k l;omega) hm
 unfold kU
 omega
def rM (c:bJ) (l:List Int):Bool:=decide (l.length=c.heaps.length)&&l.all (nH · 0 30)
def ve (c:bJ) (l:List Int):Bool:=rM c l&&decide (0<mf l)
def vK (c:bJ) (t:Io):Int:=if t.1 then c.aU.length else c.heaps.length
def rO (c:bJ) (t:Io):Bool:=nH t.2.1 0 (vK c t-1)&&vz t.2.2 100
def pU (c:bJ):Int:=
 if 3<c.heaps.length∨3<c.aU.length∨5<c.aJ.length then 3
 else if c.heaps.length=0∨c.heaps.all (vz · 100)=false∨c.aU.all (ve c)=false∨c.aJ.all (rO c)=false then 1
 else if 2000<tH c.heaps then 3 else 0
structure nz (c:bJ):Prop where
 h1:1<=c.heaps.length
 h3:c.heaps.length<=3
 c3:c.aU.length<=3
 t5:c.aJ.length<=5
 heaps: ∀r∈c.heaps,vz r 100=true
 aU: ∀l∈c.aU,l.length=c.heaps.length/\(∀x∈l,0<=x/\x<=30)/\0<mf l
 aJ: ∀t∈c.aJ,(0<=t.2.1/\t.2.1<vK c t)/\vz t.2.2 100=true
 many:tH c.heaps<=2000
theorem Wl {c:bJ} {l:List Int}:ve c l=true↔l.length=c.heaps.length/\(∀x∈l,0<=x/\x<=30)/\0<mf l:=by
 simp only[ve,rM,nH,eU,eH,jJ]
 constructor
 ·rintro⟨⟨h1,h2⟩,h3⟩;exact⟨h1,h2,h3⟩
 ·rintro⟨h1,h2,h3⟩;exact⟨⟨h1,h2⟩,h3⟩
theorem PX {c:bJ} {t:Io}:rO c t=true↔(0<=t.2.1/\t.2.1<vK c t)/\vz t.2.2 100=true:=by
 simp only[rO,nH,eU,eH]
 constructor
 ·rintro⟨⟨h1,h2⟩,h3⟩;exact⟨⟨h1,by omega⟩,h3⟩
 ·rintro⟨⟨h1,h2⟩,h3⟩;exact⟨⟨h1,by omega⟩,h3⟩
theorem IG {c:bJ} (hf:pU c=0):nz c:=by
 unfold pU at hf
 split at hf
 ·omega
 ·rename_i a
  split at hf
  ·omega
  ·rename_i b
   split at hf
   ·omega
   ·rename_i d
    simp only[not_or,Bool.not_eq_false,jJ] at a b
    obtain⟨a1,a2,a3⟩:=a
    obtain⟨b1,b2,b3,b4⟩:=b
    exact⟨by omega,by omega,by omega,by omega,b2,fun l hl=>Wl.1 (b3 l hl),fun t ht=>PX.1 (b4 t ht),by omega⟩
theorem nz.sz {c:bJ} (h:nz c): ∀r∈c.heaps,1<=ed r:=fun r hr=>(xy (h.heaps r hr)).2.2.2.1
theorem nz.rg {c:bJ} (h:nz c) {i:Nat} (hi:i<c.heaps.length):0<=c.heaps[i].1/\c.heaps[i].1<=c.heaps[i].2/\c.heaps[i].2<=100:=by
 have:=xy (h.heaps _ (bY hi))
 exact⟨this.1,this.2.1,this.2.2.1⟩
def yN:List Int->List Int->Int
 |w::ws,s::ss=>w*s+yN ws ss
 |_,_=>0
def xR (w s:List Int) (k:Nat):Int:=yN (w.take k) (s.take k)
theorem V3: ∀(a b:List Int) (x y:Int),a.length=b.length->yN (a++[x]) (b++[y])=yN a b+x*y:=by
 intro a
 induction a with
 |nil=>intro b x y h;obtain rfl:=jT h.symm;simp[yN]
 |cons w a ih=>
  intro b x y h
  cases b with
  |nil=>simp at h
  |cons s b=>
   simp only[List.cons_append,yN,ih b x y (by simpa using h)]
   omega
theorem RF {w s:List Int} {k:Nat} (hw:k<w.length) (hs:k<s.length):xR w s (k+1)=xR w s k+w[k]*s[k]:=by
 unfold xR
 rw[ig hw,ig hs,V3]
 simp[gK]
 omega
theorem VZ {w s:List Int} (h:w.length=s.length):xR w s w.length=yN w s:=by unfold xR;rw[List.take_length,h,List.take_length]
theorem Uk: ∀(w s:List Int),(∀x∈w,0<=x/\x<=30)->(∀x∈s,0<=x/\x<=100)->0<=yN w s/\yN w s<=100*mf w:=by
 intro w
 induction w with
 |nil=>intro s _ _;simp[yN,mf]
 |cons x w ih=>
  intro s hw hs
  have hx:=hw x (by simp)
  have hb:=Eg (m:=30) (by omega) (l:=w) (fun y hy=>hw y (by simp[hy]))
  cases s with
  |nil=>simp only[yN,mf];omega
  |cons y s=>
   have hy:=hs y (by simp)
   have h1:=ih s (fun z hz=>hw z (by simp[hz])) (fun z hz=>hs z (by simp[hz]))
   have h2:0<=x*y:=Int.mul_nonneg hx.1 hy.1
   have h3:x*y<=x*100:=Int.mul_le_mul_of_nonneg_left hy.2 hx.1
   simp only[yN,mf]
   omega
theorem ZK {w s:List Int} (hw: ∀x∈w,0<=x/\x<=30) (hs: ∀x∈s,0<=x/\x<=100) (k:Nat):0<=xR w s k/\xR w s k<=3000*w.length:=by
 have h1:=Uk (w.take k) (s.take k) (fun x hx=>hw x (oW hx)) (fun x hx=>hs x (oW hx))
 have h2:=xg (m:=30) (by omega) hw k
 unfold kU at h2
 unfold xR
 omega
def C9 (s w:List Int):Int:=yN w s/mf w
theorem YH {s w:List Int} (hw: ∀x∈w,0<=x/\x<=30) (hs: ∀x∈s,0<=x/\x<=100) (hp:0<mf w):0<=C9 s w/\C9 s w<=100:=by
 have h1:=Uk w s hw hs
 unfold C9
 exact⟨Int.ediv_nonneg h1.1 (by omega),Int.ediv_le_of_le_mul hp (by omega)⟩
def G7 (c:bJ) (s:List Int) (thing:Nat):Int:=if thing<c.heaps.length then s.getD thing 0 else C9 s (c.aU.getD (thing-c.heaps.length) [])
def zo (c:bJ) (t:Io):Nat:=(if t.1 then c.heaps.length else 0)+t.2.1.toNat
def EX (c:bJ) (s:List Int) (t:Io):Bool:=nH (G7 c s (zo c t)) t.2.2.1 t.2.2.2
def rW (c:bJ) (out:List Int) (s:List Int):Bool:=(List.range c.aJ.length).all fun i=>out.contains (i:Int) ||EX c s (c.aJ.getD i (false,0,(0,0)))
def tZ (c:bJ):List (List Int):=fB c.heaps
def dA (c:bJ) (out:List Int):List (List Int):=(tZ c).filter (rW c out)
def mV (c:bJ) (n:Nat):Prop:=n<c.heaps.length+c.aU.length
theorem UJ {c:bJ} (h:nz c) {t:Io} (ht:t∈c.aJ):mV c (zo c t):=by
 have:=(h.aJ t ht).1
 unfold mV zo
 unfold vK at this
 split at this <;>rename_i h1
 ·rw[aC h1];omega
 ·rw[ak h1];omega
theorem sD {c:bJ} (h:nz c) {s:List Int} (hs:s∈tZ c):s.length=c.heaps.length/\ ∀x∈s,0<=x/\x<=100:=by
 obtain⟨h1,h2⟩:=BM _ _ hs
 refine⟨h1,fun x hx=>?_⟩
 obtain⟨i,hi,rfl⟩:=lV hx
 have h3:=h2 i (by omega)
 have h4:=h.rg (show i<c.heaps.length by omega)
 rw[ik,dG (by omega),Option.getD_some] at h3
 rw[ik,dG hi,Option.getD_some] at h3
 omega
theorem Yv {c:bJ} (h:nz c) {s:List Int} (hl:s.length=c.heaps.length) (hs: ∀x∈s,0<=x/\x<=100) {n:Nat} (hn:mV c n):0<=G7 c s n/\G7 c s n<=100:=by
 unfold mV at hn
 unfold G7
 split
 ·rename_i h1
  rw[ik,dG (by omega),Option.getD_some]
  exact hs _ (bY _)
 ·rename_i h1
  have hk:n-c.heaps.length<c.aU.length:=by omega
  rw[ik,dG hk,Option.getD_some]
  have:=h.aU _ (bY hk)
  exact YH this.2.1 hs this.2.2
def yP (c:bJ) (out:List Int) (k:Nat):Nat:=(((tZ c).take k).filter (rW c out)).length
theorem ZT (c:bJ) (out:List Int):yP c out (tZ c).length=(dA c out).length:=by
 unfold yP dA
 rw[List.take_length]
theorem abU {c:bJ} {out:List Int} {k:Nat} (hk:k<(tZ c).length) (hp:rW c out (tZ c)[k]=false):yP c out (k+1)=yP c out k:=by
 unfold yP
 rw[ig hk,List.filter_append,dm]
 simp[hp]
theorem ZR {c:bJ} {out:List Int} {k:Nat} (hk:k<(tZ c).length) (hp:rW c out (tZ c)[k]=true):yP c out (k+1)=yP c out k+1:=by
 unfold yP
 rw[ig hk,List.filter_append,dm]
 simp[hp]
theorem PW {c:bJ} {out:List Int} {k:Nat} (hk:k<(tZ c).length) (hp:rW c out (tZ c)[k]=true):
 ∃hc:yP c out k<(dA c out).length,(dA c out)[yP c out k]=(tZ c)[k]:=by
 have:=BV (rW c out) id (tZ c) k hk hp
 rw[List.map_id] at this
 obtain⟨hc,hx⟩:=jg.1 this
 exact⟨hc,hx⟩
theorem uB {c:bJ} (hS:nz c) (out:List Int):(dA c out).length<=2000:=by
 have h1:(dA c out).length<=(tZ c).length:=List.length_filter_le _ _
 have h2:=xq c.heaps hS.sz
 have h3:=hS.many
 unfold tZ at h1
 omega
def ku (x:List Int):List Int:=x++List.replicate (3-x.length) 0
theorem xx {x:List Int} (h:x.length<=3):(ku x).length=3:=by simp[ku];omega
theorem Nb (x:List Int) (i:Nat):(ku x).getD i 0=x.getD i 0:=by
 unfold ku
 by_cases h:i<x.length
 ·rw[List.getD_eq_getElem?_getD,uG h, <-List.getD_eq_getElem?_getD]
 ·rw[List.getD_eq_getElem?_getD,nT (by omega),List.getElem?_replicate]
  have:x.getD i 0=0:=by rw[List.getD_eq_getElem?_getD,List.getElem?_eq_none (by omega)];rfl
  rw[this]
  split <;>rfl
def iV (c:bJ) (fine:Bool):Int:=if pU c≠0 then pU c else if fine=false then 2 else if(dA c []).isEmpty then 11 else 0
theorem GL {c:bJ} {b:Bool} (h:iV c b=0):nz c/\0<(dA c []).length/\b=true:=by
 unfold iV at h
 split at h
 ·omega
 ·rename_i hf
  have hf':pU c=0:=by omega
  split at h
  ·omega
  ·rename_i hb
   split at h
   ·omega
   ·rename_i he
    refine⟨IG hf',?_,by simpa using hb⟩
    cases ht:dA c [] with
    |nil=>rw[ht] at he;exact absurd rfl he
    |cons x l=>simp
def zu (c:bJ) (ls:List (List Int)) (i:Nat) (k:Nat):dP:=(ls.take k).foldl (fun r s=>wid r (G7 c s i)) (G7 c (ls.getD 0 []) i,G7 c (ls.getD 0 []) i)
theorem IP {c:bJ} {ls:List (List Int)} {i:Nat} {k:Nat} (hk:k<ls.length):zu c ls i (k+1)=wid (zu c ls i k) (G7 c ls[k] i):=by
 unfold zu
 rw[ig hk,List.foldl_append]
 rfl
def Ad (c:bJ) (i:Nat):dP:=zu c (dA c []) i (dA c []).length
def sJ (c:bJ):List dP:=(List.range c.heaps.length).map (Ad c)
def jr (c:bJ):List dP:=(List.range c.aU.length).map fun i=>Ad c (c.heaps.length+i)
theorem TI {c:bJ} (hS:nz c) {ls:List (List Int)} (hl: ∀s∈ls,s∈tZ c) (h0:0<ls.length) {i:Nat} (hi:mV c i):
 ∀k,k<=ls.length->(0<=(zu c ls i k).1/\(zu c ls i k).1<=100)/\(0<=(zu c ls i k).2/\(zu c ls i k).2<=100):=by
 have hb: ∀s∈ls,0<=G7 c s i/\G7 c s i<=100:=fun s hs=>by
  obtain⟨h1,h2⟩:=sD hS (hl s hs)
  exact Yv hS h1 h2 hi
 intro k
 induction k with
 |zero=>
  intro _
  have:=hb _ (bY h0)
  unfold zu
  rw[ik,dG h0,Option.getD_some]
  exact⟨this,this⟩
 |succ k ih=>
  intro hk
  have h1:=ih (by omega)
  have h2:=hb _ (bY (show k<ls.length by omega))
  rw[IP (by omega)]
  unfold wid
  simp only
  omega
theorem mr {c:bJ} {out:List Int}: ∀s∈dA c out,s∈tZ c:=fun _ h=>(List.mem_filter.1 h).1
end Go.Proofs.YthbpmepjmebolaaGreatDoor.yR
end
section
namespace Go.Proofs.YthbpmepjmebolaaGreatDoor.yR
open Go.RowKit Go.RG Go.SL Go.Shelf ji Go.TB
abbrev KE:=Value×List Int
def eQ (es:List KE):List Value:=es.map (·.1)
def wR (w:World) (v:Value) (es:List KE):Prop:=aP 1 w v es.length (eQ es)/\ ∀e∈es,aN w e.1 e.2
theorem wR.len {w:World} {v:Value} {es:List KE} (h:wR w v es):es.length<=9223372036854775807:=aP.len h.1
theorem wR.open {w:World} {v:Value} {es:List KE} (h:wR w v es): ∃o c,v= .slice o es.length c:=aP.open h.1
theorem wR.below {w w':World} {v:Value} {es:List KE} (h:wR w v es) {B:Nat} (hb:Below B w w') (hB:w.heap.size<=B):wR w' v es:=⟨h.1.below hb hB,fun e he=>(h.2 e he).below hb hB⟩
theorem wR.cell {w:World} {o:Option Addr} {c:Nat} {es:List KE} (h:wR w (.slice o es.length c) es) {k:Nat} (hk:k<es.length): ∃b off,o=some ⟨b,off,none⟩/\b<w.heap.size/\w.cell? ⟨b,off+k,none⟩=some es[k].1:=by
 obtain⟨⟨hl,o',c',hv,h1,h2,h3,h4⟩,_⟩:=h
 cases hv
 cases o with
 |none=>have:=h3 rfl;omega
 |some a=>
  obtain⟨b,off,sp⟩:=a
  obtain⟨hs,hc⟩:=h4 _ rfl
  simp only at hs hc
  subst hs
  have h0:=hc k es[k].1 (by simp[eQ,hk])
  exact⟨b,off,rfl,dF w _ h0,h0⟩
abbrev L9 (t:Io):Value:= .agg #[.bool t.1,iv t.2.1,iv t.2.2.1,iv t.2.2.2]
def gG (l:List Io):List Value:=l.flatMap fun t=>[.bool t.1,iv t.2.1,iv t.2.2.1,iv t.2.2.2]
abbrev yc (w:World) (v:Value) (l:List Io):Prop:=aP 4 w v l.length (gG l)
theorem Nh (l:List Io): ∀u∈gG l,u.oneCell'=true:=by
 intro u hu
 obtain⟨r,_,h⟩:=qc.1 hu
 simp only[gY,List.not_mem_nil,or_false] at h
 rcases h with rfl|rfl|rfl|rfl <;>rfl
theorem yc.cell {w:World} {o:Option Addr} {n c:Nat} {l:List Io} (h:aP 4 w (.slice o n c) n (gG l)) {k:Nat} (hk:k<l.length):
 ∃b off,o=some ⟨b,off,none⟩/\b<w.heap.size/\w.cell? ⟨b,off+k*4,none⟩=some (.bool l[k].1)/\w.cell? ⟨b,off+k*4+1,none⟩=some (iv l[k].2.1)/\w.cell? ⟨b,off+k*4+2,none⟩=some (iv l[k].2.2.1)/\
  w.cell? ⟨b,off+k*4+3,none⟩=some (iv l[k].2.2.2):=by
 obtain⟨hl,o',c',hv,h1,h2,h3,h4⟩:=h
 cases hv
 have hlen:(gG l).length=l.length*4:=by simp[gG,List.length_flatMap,List.map_const',List.sum_replicate_nat]
 have hn:n=l.length:=by omega
 cases o with
 |none=>have:=h3 rfl;omega
 |some a=>
  obtain⟨b,off,sp⟩:=a
  obtain⟨hs,hc⟩:=h4 _ rfl
  simp only at hs hc
  subst hs
  have g: ∀j,j<4->(gG l)[k*4+j]? =[.bool l[k].1,iv l[k].2.1,iv l[k].2.2.1,iv l[k].2.2.2][j]? :=fun j hj=>by
   unfold gG;rw[jq _ 4 (fun _=>rfl) l k j hk hj]
  have h0:=hc (k*4+0) (.bool l[k].1) (by rw[g 0 (by omega)];rfl)
  have h1:=hc (k*4+1) (iv l[k].2.1) (by rw[g 1 (by omega)];rfl)
  have h2:=hc (k*4+2) (iv l[k].2.2.1) (by rw[g 2 (by omega)];rfl)
  have h3:=hc (k*4+3) (iv l[k].2.2.2) (by rw[g 3 (by omega)];rfl)
  rw[Nat.add_zero] at h0
  rw[<-Nat.add_assoc] at h1 h2 h3
  exact⟨b,off,rfl,dF w _ h0,h0,h1,h2,h3⟩
abbrev kv (hv kv tv:Value):Value:= .agg #[hv,kv,tv]
structure qV (w:World) (hv nN tv:Value) (es:List KE) (c:bJ):Prop where
 heaps:bM w hv c.heaps
 aU:wR w nN es
 is:es.map (·.2)=c.aU
 aJ:yc w tv c.aJ
theorem qV.below {w w':World} {hv nN tv:Value} {es:List KE} {c:bJ} (h:qV w hv nN tv es c) {B:Nat} (hb:Below B w w') (hB:w.heap.size<=B):qV w' hv nN tv es c:=⟨h.heaps.below hb hB,h.aU.below hb hB,h.is,h.aJ.below hb hB⟩
theorem qV.len {w:World} {hv nN tv:Value} {es:List KE} {c:bJ} (h:qV w hv nN tv es c):es.length=c.aU.length:=by rw[<-h.is,lU]
theorem xC (n l h:Int) (w:World):Calls Tryz.prog 221 #[iv n,iv l,iv h] w (PV (.bool (nH n l h)) w):=by
 by_cases h1:l<=n
 all_goals
  go_enter Tryz.func221,Tryz.ntmps221
  go_wp2
  go_returns
  exact⟨by simp[nH];omega,aG _ _⟩
theorem YR (r:dP) (n:Int) (w:World):Calls Tryz.prog 230 #[rv r,iv n] w (PV (.bool (nH n r.1 r.2)) w):=by
 go_enter Tryz.func230,Tryz.ntmps230
 go_wp2_with (go_at_call 221;refine(xC _ _ _ _).mono ?_;rintro e w' ⟨rfl,hb⟩)
 go_returns
 exact⟨by simp,(aG _ _).alloc (ai _) _ |>.trans (hb.mono (by simp))⟩
theorem rQ (r:dP) (w:World):Calls Tryz.prog 145 #[rv r] w (PV (.bool (vz r 100)) w):=by
 go_enter Tryz.func145,Tryz.ntmps145
 go_wp2
 all_goals
  go_returns
  exact⟨by simp[vz];omega,by go_grown⟩
theorem Jh (r:dP) (w:World) (h1:0<=r.1) (h2:r.1<=r.2) (h3:r.2<=100000):
 Calls Tryz.prog 149 #[rv r] w (PV (iv (ed r)) w):=by
 go_enter Tryz.func149,Tryz.ntmps149
 go_wp2
 go_returns
 exact⟨by simp[ed],by go_grown⟩
theorem PM (n:Int) (w:World):Calls Tryz.prog 271 #[iv n] w (PV (.bool (nH n 0 30)) w):=by
 go_enter Tryz.func271,Tryz.ntmps271
 go_wp2_with (go_at_call 221;refine(xC _ _ _ _).mono ?_;rintro e w' ⟨rfl,hb⟩)
 go_returns
 exact⟨by simp,hb⟩
theorem NJ (a b:Int) (g c:Nat) (w:World) (h0:w.cell? ⟨g,0,none⟩=some (iv a)) (h1:w.cell? ⟨g,1,none⟩=some (iv b)):
 Calls Tryz.prog 148 #[.slice (some ⟨g,0,none⟩) 2 c] w (PV (iv (min a b)) w):=by
 have H:=ae (Ak a b g c w h0 h1)
 go_enter Tryz.func148,Tryz.ntmps148
 go_wp2_with fail
 refine H.o.mono ?_
 rintro e w' ⟨rfl,hb⟩
 go_wp2_with fail
 go_returns
 exact⟨by simp,hb⟩
theorem QQ (r:dP) (n:Int) (w:World):Calls Tryz.prog 87 #[rv r,iv n] w (PV (rv (wid r n)) w):=by
 go_enter Tryz.func87,Tryz.ntmps87
 go_wp2_with fail
 refine zg 10 [] none [(3,Spec.slice (w.heap.size+2) #[iv r.1,iv n] 3 2),(4,Spec.val (iv (min r.1 n)))] ?_
 simp only[zt]
 repeat (refine zd ?_;simp only[zp])
 refine dU (w.heap.size+2) _ _ _ (by rfl) (by simp) (by rfl) (by simp) (by simp) (fun W hW=>by go_simp;try rfl) (fun b=>?_)
 simp only[zp]
 refine eu _ (by rfl) (by rfl) 148 _ (fun W hW=>by go_simp;try rfl) (fun W hE hF=>?_) ?_
 ·obtain⟨c,hcb,hB,hc⟩:=hF _ (bD _) (by kernel_rfl)
  cases hcb
  exact NJ r.1 n b 2 W (by simp[World.cell?,hc]) (by simp[World.cell?,hc])
 simp only[zp]
 repeat (refine zd ?_;simp only[zp])
 intro W hE hF
 obtain⟨hc,hf⟩:=bK hE.below
 have hzE:=hE.size
 (try simp only[bz] at hzE)
 go_wp2
 all_goals
  (try simp only[Exit.inBlock,Exit.then])
  refine bodyPost_ret (v:=rv (min r.1 n,max r.2 n)) (by simp[results,Tryz.results87,go_sem,hc];try omega) rfl ?_
  exact⟨rfl,ze⟩
theorem NG (l:List Int) (v:Value) (w:World) (hv:aN w v l) (hl: ∀x∈l,0<=x/\x<=9999) (hn:l.length<=1000):Calls Tryz.prog 223 #[v] w (PV (iv (mf l)) w):=by
 obtain⟨o,c,rfl⟩:=hv.open
 have hlen:=hv.len
 have HV:=ae hv
 have HL:=ae hl
 have HS:=ae (yw l)
 clear hv hl
 go_enter Tryz.func223,Tryz.ntmps223
 go_wp2
 go_loop [2,4,7] (fun n _ i=> ∃k:Nat,k<=l.length/\i= .int .i64 k/\n=iv (kU l k)) (fun _ _ i=>l.length-(intOf i).toNat)
 case atStart=>exact⟨0,bW _,rfl,rfl⟩
 case round=>
  obtain⟨k,hk,rfl,rfl⟩:=hrel
  have hb:=xg (m:=9999) (by omega) HL.o k
  have hb2:(9999:Int)*l.length<=9999*1000:=by omega
  by_cases hlt:k<l.length
  ·obtain⟨b,off,rfl,hbl,hc0⟩:=aN.cell HV.o hlt
   have hx:=HL.o _ (bY hlt)
   have hs:=rP hlt
   generalize kU l k=m at hb hs⊢
   generalize l[k]=x at hc0 hx hs
   have oH:=ae hs
   clear hs
   go_wp2
   go_round
   case rel=>exact⟨k+1,by omega,by go_num,by rw[oH.o]⟩
   case measure=>simp[intOf];omega
  ·have hkl:k=l.length:=by omega
   subst hkl
   rw[HS.o]
   go_wp2
   go_returns
   exact⟨by simp,aG _ _⟩
end Go.Proofs.YthbpmepjmebolaaGreatDoor.yR
namespace Go.Proofs.YthbpmepjmebolaaGreatDoor.yR
open Go.RowKit Go.RG Go.SL Go.Shelf ji Go.TB
abbrev kev (e:KE):Value:=e.1
theorem aft (l:List dP) (v:Value) (aZ:Nat) (fst caps:Array Value) (p:Nat->Bool) (I:Nat->World->Prop) (w:World) (eg: ∀args w,(callFunc aZ args).run Tryz.prog w= .ok (.enter aZ args) w)
 (hsl: ∀k W,I k W->bM W v l)
 (hcall: ∀k (hk:k<l.length) W,(∀j,j<k->p j=false)->I k W->Calls Tryz.prog aZ (fst.push (rv l[k])++caps) W (fun e W'=>e= .returned (.bool (p k))/\I (k+1) W')) (h0:I 0 w):
 Calls Tryz.prog 272 #[v,.func (.func aZ) fst caps] w (dY l.length p I (fun k=>iv k) (iv (-1))):=by
 have hlen:=(hsl 0 w h0).len
 obtain⟨o,c,rfl⟩:=(hsl 0 w h0).open
 have HC:=ae hcall
 have HS:=ae hsl
 clear hcall hsl
 go_enter Tryz.func272,Tryz.ntmps272
 go_wp2
 go_loopw [4,5,8] (fun _ _ i wr=> ∃k:Nat,k<=l.length/\i= .int .i64 k/\(∀j,j<k->p j=false)/\I k wr) (fun _ _ i _=>l.length-(intOf i).toNat)
 case atStart=>exact⟨0,bW _,rfl,fun j hj=>by omega,h0⟩
 case round=>
  obtain⟨k,hk,rfl,hno,hI⟩:=hrel
  by_cases hlt:k<l.length
  ·obtain⟨b,off,rfl,hb,hc0,hc1⟩:=bM.cell (HS.o k wr hI) hlt
   have hC:=HC.o k hlt wr hno hI
   have HN:=ae hno
   clear hno
   go_wp2_with fail
   refine hC.mono ?_
   rintro e W1 ⟨rfl,hI1⟩
   have HI:=ae hI1
   clear hI1 hI hC
   cases hp:p k
   ·go_wp2_with fail
    go_roundw
    case rel=>exact⟨k+1,by omega,by go_num,fun j hj=>(by by_cases e:j=k;(subst e;exact hp);exact HN.o j (by omega)),HI.o⟩
    case measure=>simp[intOf];omega
   ·go_wp2_with fail
    go_returns
    exact⟨k,by omega,HN.o,.inl ⟨hlt,hp,by simp,HI.o⟩⟩
  ·have hkl:k=l.length:=by omega
   have HN:=ae hno
   clear hno
   go_wp2_with fail
   go_returns
   exact⟨k,by omega,HN.o,.inr ⟨hkl,by simp,by subst hkl;exact hI⟩⟩
theorem adl (l:List dP) (v:Value) (aZ:Nat) (fst caps:Array Value) (p:Nat->Bool) (I:Nat->World->Prop) (w:World) (eg: ∀args w,(callFunc aZ args).run Tryz.prog w= .ok (.enter aZ args) w)
 (hsl: ∀k W,I k W->bM W v l)
 (hcall: ∀k (hk:k<l.length) W,(∀j,j<k->p j=false)->I k W->Calls Tryz.prog aZ (fst.push (rv l[k])++caps) W (fun e W'=>e= .returned (.bool (p k))/\I (k+1) W')) (h0:I 0 w):
 Calls Tryz.prog 224 #[v,.func (.func aZ) fst caps] w (dY l.length p I (fun _=> .bool true) (.bool false)):=by
 have HI:=ae (aft l v aZ fst caps p I w eg hsl hcall h0)
 have hlen:=(hsl 0 w h0).len
 clear hsl hcall h0 eg
 go_enter Tryz.func224,Tryz.ntmps224
 go_wp2_with fail
 refine HI.o.mono ?_
 clear HI
 rintro e W' ⟨k,hk,hno,⟨hlt,hp,rfl,hI⟩|⟨hkl,rfl,hI⟩⟩
 ·have HN:=ae (ag hno (ag hp hI))
  clear hno hp hI
  go_wp2_with fail
  go_returns
  exact⟨k,hk,HN.o.1,.inl ⟨hlt,HN.o.2.1,by simp,HN.o.2.2⟩⟩
 ·have HN:=ae (ag hno (ag hkl hI))
  clear hno hkl hI
  go_wp2_with fail
  go_returns
  exact⟨k,hk,HN.o.1,.inr ⟨HN.o.2.1,by simp,HN.o.2.1▸HN.o.2.2⟩⟩
theorem ado (x:dP) (bx aZ:Nat) (fst caps:Array Value) (b:Bool) (W:World) (R:World->Prop) (eg: ∀args w,(callFunc aZ args).run Tryz.prog w= .ok (.enter aZ args) w)
 (hbx:W.cell? ⟨bx,0,none⟩=some (.func (.func aZ) fst caps))
 (hcall:Calls Tryz.prog aZ (fst.push (rv x)++caps) (W.alloc (.cells #[iv x.1,iv x.2] 112)) (fun e W'=>e= .returned (.bool b)/\R W')):
 Calls Tryz.prog 225 #[rv x,.pointer (some ⟨bx,0,none⟩)] W (fun e W'=>e= .returned (.bool !b)/\R W'):=by
 have hlt:=dF W _ hbx
 have HC:=ae hcall
 clear hcall
 go_enter Tryz.func225,Tryz.ntmps225
 go_wp2_with fail
 refine HC.o.mono ?_
 rintro e W' ⟨rfl,hR⟩
 have HR:=ae hR
 clear hR
 go_wp2_with fail
 go_returns
 exact⟨by simp,HR.o⟩
theorem afw (l:List dP) (v:Value) (aZ:Nat) (fst caps:Array Value) (p:Nat->Bool) (I:Nat->World->Prop) (w:World) (eg: ∀args w,(callFunc aZ args).run Tryz.prog w= .ok (.enter aZ args) w)
 (hsl: ∀k W,I k W->bM W v l) (hal: ∀k W o,I k W->I k (W.alloc o))
 (hcall: ∀k (hk:k<l.length) W,(∀j,j<k->p j=true)->I k W->Calls Tryz.prog aZ (fst.push (rv l[k])++caps) W (fun e W'=>e= .returned (.bool (p k))/\I (k+1) W'/\jh w.heap.size W W')) (h0:I 0 w):
 Calls Tryz.prog 144 #[v,.func (.func aZ) fst caps] w (dY l.length (fun k=>!p k) I (fun _=> .bool false) (.bool true)):=by
 have HI:=ae (adl l v 225 #[] #[.pointer (some ⟨w.heap.size,0,none⟩)] (fun k=>!p k)
  (fun k W=>I k W/\W.heap[w.heap.size]? =some (.cells #[.func (.func aZ) fst caps] 237 (0,0))) (w.alloc (.cells #[.func (.func aZ) fst caps] 237))
  (enters_of Tryz.func225 (by kernel_rfl) rfl) (fun k W h=>hsl k W h.1)
  (fun k hk W hno h=>by
    have hlt:w.heap.size<W.heap.size:=(aT.1 h.2).1
    refine(ado l[k] w.heap.size aZ fst caps (p k) W (fun W'=>I (k+1) W'/\W'.heap[w.heap.size]? =some (.cells #[.func (.func aZ) fst caps] 237 (0,0))) eg (aA h.2) ?_)
    refine(hcall k hk _ (fun j hj=>by simpa using hno j hj) (by first|exact hal _ _ _ h.1|exact h.1)).mono ?_
    rintro e W' ⟨rfl,h1,h2⟩
    refine⟨rfl,h1,(h2.block _ (ai _) (by first|exact hlt|(simp;omega))).trans (by first|exact h.2|exact(aW _ _ _ hlt).trans h.2)⟩)
  ⟨hal _ _ _ h0,heap_alloc_new w _⟩)
 have hlen:=(hsl 0 w h0).len
 clear hsl hcall h0 eg hal
 go_enter Tryz.func144,Tryz.ntmps144
 go_wp2_with fail
 refine HI.o.mono ?_
 clear HI
 rintro e W' ⟨k,hk,hno,⟨hlt,hp,rfl,hI,_⟩|⟨hkl,rfl,hI,_⟩⟩
 ·have HN:=ae (ag hno (ag hp hI))
  clear hno hp hI
  go_wp2_with fail
  go_returns
  exact⟨k,hk,HN.o.1,.inl ⟨hlt,HN.o.2.1,by simp,HN.o.2.2⟩⟩
 ·have HN:=ae (ag hno (ag hkl hI))
  clear hno hkl hI
  go_wp2_with fail
  go_returns
  exact⟨k,hk,HN.o.1,.inr ⟨HN.o.2.1,by simp,HN.o.2.1▸HN.o.2.2⟩⟩
theorem QV (l:List dP) (v:Value) (aZ:Nat) (fst caps:Array Value) (q:dP->Bool) (w:World) (hv:bM w v l) (eg: ∀args w,(callFunc aZ args).run Tryz.prog w= .ok (.enter aZ args) w)
 (hcall: ∀x∈l, ∀W,Below w.heap.size w W->Calls Tryz.prog aZ (fst.push (rv x)++caps) W (PV (.bool (q x)) W)):
 Calls Tryz.prog 144 #[v,.func (.func aZ) fst caps] w (PV (.bool (l.all q)) w):=by
 refine(afw l v aZ fst caps (fun k=>q (l.getD k (0,0))) (fun _ W=>Below w.heap.size w W) w eg (fun k W h=>hv.below h (ai _)) (fun k W o h=>aj h o) (fun k hk W _ h=>?_) (aG _ _)).mono ?_
 ·refine(hcall l[k] (bY _) W h).mono ?_
  rintro e W' ⟨rfl,hb⟩
  exact⟨by simp[hk],bg h hb,jh.az hb⟩
 ·intro e W' hpost
  obtain⟨rfl,k,_,hI⟩:=hpost.all
  refine⟨?_,hI⟩
  rw[jC,jL]
theorem afu (l:List KE) (v:Value) (aZ:Nat) (fst caps:Array Value) (p:Nat->Bool) (I:Nat->World->Prop) (w:World) (eg: ∀args w,(callFunc aZ args).run Tryz.prog w= .ok (.enter aZ args) w)
 (hsl: ∀k W,I k W->wR W v l)
 (hcall: ∀k (hk:k<l.length) W,(∀j,j<k->p j=false)->I k W->Calls Tryz.prog aZ (fst.push (kev l[k])++caps) W (fun e W'=>e= .returned (.bool (p k))/\I (k+1) W')) (h0:I 0 w):
 Calls Tryz.prog 273 #[v,.func (.func aZ) fst caps] w (dY l.length p I (fun k=>iv k) (iv (-1))):=by
 have hlen:=(hsl 0 w h0).len
 obtain⟨o,c,rfl⟩:=(hsl 0 w h0).open
 have HC:=ae hcall
 have HS:=ae hsl
 clear hcall hsl
 go_enter Tryz.func273,Tryz.ntmps273
 go_wp2
 go_loopw [4,5,8] (fun _ _ i wr=> ∃k:Nat,k<=l.length/\i= .int .i64 k/\(∀j,j<k->p j=false)/\I k wr) (fun _ _ i _=>l.length-(intOf i).toNat)
 case atStart=>exact⟨0,bW _,rfl,fun j hj=>by omega,h0⟩
 case round=>
  obtain⟨k,hk,rfl,hno,hI⟩:=hrel
  by_cases hlt:k<l.length
  ·obtain⟨b,off,rfl,hb,hc0⟩:=wR.cell (HS.o k wr hI) hlt
   have hC:=HC.o k hlt wr hno hI
   have HN:=ae hno
   clear hno
   go_wp2_with fail
   refine hC.mono ?_
   rintro e W1 ⟨rfl,hI1⟩
   have HI:=ae hI1
   clear hI1 hI hC
   cases hp:p k
   ·go_wp2_with fail
    go_roundw
    case rel=>exact⟨k+1,by omega,by go_num,fun j hj=>(by by_cases e:j=k;(subst e;exact hp);exact HN.o j (by omega)),HI.o⟩
    case measure=>simp[intOf];omega
   ·go_wp2_with fail
    go_returns
    exact⟨k,by omega,HN.o,.inl ⟨hlt,hp,by simp,HI.o⟩⟩
  ·have hkl:k=l.length:=by omega
   have HN:=ae hno
   clear hno
   go_wp2_with fail
   go_returns
   exact⟨k,by omega,HN.o,.inr ⟨hkl,by simp,by subst hkl;exact hI⟩⟩
theorem adm (l:List KE) (v:Value) (aZ:Nat) (fst caps:Array Value) (p:Nat->Bool) (I:Nat->World->Prop) (w:World) (eg: ∀args w,(callFunc aZ args).run Tryz.prog w= .ok (.enter aZ args) w)
 (hsl: ∀k W,I k W->wR W v l)
 (hcall: ∀k (hk:k<l.length) W,(∀j,j<k->p j=false)->I k W->Calls Tryz.prog aZ (fst.push (kev l[k])++caps) W (fun e W'=>e= .returned (.bool (p k))/\I (k+1) W')) (h0:I 0 w):
 Calls Tryz.prog 226 #[v,.func (.func aZ) fst caps] w (dY l.length p I (fun _=> .bool true) (.bool false)):=by
 have HI:=ae (afu l v aZ fst caps p I w eg hsl hcall h0)
 have hlen:=(hsl 0 w h0).len
 clear hsl hcall h0 eg
 go_enter Tryz.func226,Tryz.ntmps226
 go_wp2_with fail
 refine HI.o.mono ?_
 clear HI
 rintro e W' ⟨k,hk,hno,⟨hlt,hp,rfl,hI⟩|⟨hkl,rfl,hI⟩⟩
 ·have HN:=ae (ag hno (ag hp hI))
  clear hno hp hI
  go_wp2_with fail
  go_returns
  exact⟨k,hk,HN.o.1,.inl ⟨hlt,HN.o.2.1,by simp,HN.o.2.2⟩⟩
 ·have HN:=ae (ag hno (ag hkl hI))
  clear hno hkl hI
  go_wp2_with fail
  go_returns
  exact⟨k,hk,HN.o.1,.inr ⟨HN.o.2.1,by simp,HN.o.2.1▸HN.o.2.2⟩⟩
theorem adp (x:KE) (bx aZ:Nat) (fst caps:Array Value) (b:Bool) (W:World) (R:World->Prop) (eg: ∀args w,(callFunc aZ args).run Tryz.prog w= .ok (.enter aZ args) w)
 (hbx:W.cell? ⟨bx,0,none⟩=some (.func (.func aZ) fst caps))
 (hcall:Calls Tryz.prog aZ (fst.push (kev x)++caps) W (fun e W'=>e= .returned (.bool b)/\R W')):
 Calls Tryz.prog 227 #[kev x,.pointer (some ⟨bx,0,none⟩)] W (fun e W'=>e= .returned (.bool !b)/\R W'):=by
 have hlt:=dF W _ hbx
 have HC:=ae hcall
 clear hcall
 go_enter Tryz.func227,Tryz.ntmps227
 go_wp2_with fail
 refine HC.o.mono ?_
 rintro e W' ⟨rfl,hR⟩
 have HR:=ae hR
 clear hR
 go_wp2_with fail
 go_returns
 exact⟨by simp,HR.o⟩
theorem afx (l:List KE) (v:Value) (aZ:Nat) (fst caps:Array Value) (p:Nat->Bool) (I:Nat->World->Prop) (w:World) (eg: ∀args w,(callFunc aZ args).run Tryz.prog w= .ok (.enter aZ args) w)
 (hsl: ∀k W,I k W->wR W v l) (hal: ∀k W o,I k W->I k (W.alloc o))
 (hcall: ∀k (hk:k<l.length) W,(∀j,j<k->p j=true)->I k W->Calls Tryz.prog aZ (fst.push (kev l[k])++caps) W (fun e W'=>e= .returned (.bool (p k))/\I (k+1) W'/\jh w.heap.size W W')) (h0:I 0 w):
 Calls Tryz.prog 146 #[v,.func (.func aZ) fst caps] w (dY l.length (fun k=>!p k) I (fun _=> .bool false) (.bool true)):=by
 have HI:=ae (adm l v 227 #[] #[.pointer (some ⟨w.heap.size,0,none⟩)] (fun k=>!p k)
  (fun k W=>I k W/\W.heap[w.heap.size]? =some (.cells #[.func (.func aZ) fst caps] 157 (0,0))) (w.alloc (.cells #[.func (.func aZ) fst caps] 157))
  (enters_of Tryz.func227 (by kernel_rfl) rfl) (fun k W h=>hsl k W h.1)
  (fun k hk W hno h=>by
    have hlt:w.heap.size<W.heap.size:=(aT.1 h.2).1
    refine(adp l[k] w.heap.size aZ fst caps (p k) W (fun W'=>I (k+1) W'/\W'.heap[w.heap.size]? =some (.cells #[.func (.func aZ) fst caps] 157 (0,0))) eg (aA h.2) ?_)
    refine(hcall k hk _ (fun j hj=>by simpa using hno j hj) (by first|exact hal _ _ _ h.1|exact h.1)).mono ?_
    rintro e W' ⟨rfl,h1,h2⟩
    refine⟨rfl,h1,(h2.block _ (ai _) (by first|exact hlt|(simp;omega))).trans (by first|exact h.2|exact(Below.heap_alloc _ _ _ hlt).trans h.2)⟩)
  ⟨hal _ _ _ h0,heap_alloc_new w _⟩)
 have hlen:=(hsl 0 w h0).len
 clear hsl hcall h0 eg hal
 go_enter Tryz.func146,Tryz.ntmps146
 go_wp2_with fail
 refine HI.o.mono ?_
 clear HI
 rintro e W' ⟨k,hk,hno,⟨hlt,hp,rfl,hI,_⟩|⟨hkl,rfl,hI,_⟩⟩
 ·have HN:=ae (ag hno (ag hp hI))
  clear hno hp hI
  go_wp2_with fail
  go_returns
  exact⟨k,hk,HN.o.1,.inl ⟨hlt,HN.o.2.1,by simp,HN.o.2.2⟩⟩
 ·have HN:=ae (ag hno (ag hkl hI))
  clear hno hkl hI
  go_wp2_with fail
  go_returns
  exact⟨k,hk,HN.o.1,.inr ⟨HN.o.2.1,by simp,HN.o.2.1▸HN.o.2.2⟩⟩
theorem QW (l:List KE) (v:Value) (aZ:Nat) (fst caps:Array Value) (q:KE->Bool) (w:World) (hv:wR w v l) (eg: ∀args w,(callFunc aZ args).run Tryz.prog w= .ok (.enter aZ args) w)
 (hcall: ∀x∈l, ∀W,Below w.heap.size w W->Calls Tryz.prog aZ (fst.push (kev x)++caps) W (PV (.bool (q x)) W)):
 Calls Tryz.prog 146 #[v,.func (.func aZ) fst caps] w (PV (.bool (l.all q)) w):=by
 refine(afx l v aZ fst caps (fun k=>q (l.getD k (undef,[]))) (fun _ W=>Below w.heap.size w W) w eg (fun k W h=>hv.below h (ai _)) (fun k W o h=>aj h o) (fun k hk W _ h=>?_) (aG _ _)).mono ?_
 ·refine(hcall l[k] (bY _) W h).mono ?_
  rintro e W' ⟨rfl,hb⟩
  exact⟨by simp[hk],bg h hb,jh.az hb⟩
 ·intro e W' hpost
  obtain⟨rfl,k,_,hI⟩:=hpost.all
  refine⟨?_,hI⟩
  rw[jC,jL]
theorem afs (l:List Io) (v:Value) (aZ:Nat) (fst caps:Array Value) (p:Nat->Bool) (I:Nat->World->Prop) (w:World) (eg: ∀args w,(callFunc aZ args).run Tryz.prog w= .ok (.enter aZ args) w)
 (hsl: ∀k W,I k W->yc W v l)
 (hcall: ∀k (hk:k<l.length) W,(∀j,j<k->p j=false)->I k W->Calls Tryz.prog aZ (fst.push (L9 l[k])++caps) W (fun e W'=>e= .returned (.bool (p k))/\I (k+1) W')) (h0:I 0 w):
 Calls Tryz.prog 274 #[v,.func (.func aZ) fst caps] w (dY l.length p I (fun k=>iv k) (iv (-1))):=by
 have hlen:=(hsl 0 w h0).len
 obtain⟨o,c,rfl⟩:=(hsl 0 w h0).open
 have HC:=ae hcall
 have HS:=ae hsl
 clear hcall hsl
 go_enter Tryz.func274,Tryz.ntmps274
 go_wp2
 go_loopw [4,5,8] (fun _ _ i wr=> ∃k:Nat,k<=l.length/\i= .int .i64 k/\(∀j,j<k->p j=false)/\I k wr) (fun _ _ i _=>l.length-(intOf i).toNat)
 case atStart=>exact⟨0,bW _,rfl,fun j hj=>by omega,h0⟩
 case round=>
  obtain⟨k,hk,rfl,hno,hI⟩:=hrel
  by_cases hlt:k<l.length
  ·obtain⟨b,off,rfl,hb,hc0,hc1,hc2,hc3⟩:=yc.cell (HS.o k wr hI) hlt
   have hC:=HC.o k hlt wr hno hI
   have HN:=ae hno
   clear hno
   go_wp2_with fail
   refine hC.mono ?_
   rintro e W1 ⟨rfl,hI1⟩
   have HI:=ae hI1
   clear hI1 hI hC
   cases hp:p k
   ·go_wp2_with fail
    go_roundw
    case rel=>exact⟨k+1,by omega,by go_num,fun j hj=>(by by_cases e:j=k;(subst e;exact hp);exact HN.o j (by omega)),HI.o⟩
    case measure=>simp[intOf];omega
   ·go_wp2_with fail
    go_returns
    exact⟨k,by omega,HN.o,.inl ⟨hlt,hp,by simp,HI.o⟩⟩
  ·have hkl:k=l.length:=by omega
   have HN:=ae hno
   clear hno
   go_wp2_with fail
   go_returns
   exact⟨k,by omega,HN.o,.inr ⟨hkl,by simp,by subst hkl;exact hI⟩⟩
theorem adk (l:List Io) (v:Value) (aZ:Nat) (fst caps:Array Value) (p:Nat->Bool) (I:Nat->World->Prop) (w:World) (eg: ∀args w,(callFunc aZ args).run Tryz.prog w= .ok (.enter aZ args) w)
 (hsl: ∀k W,I k W->yc W v l)
 (hcall: ∀k (hk:k<l.length) W,(∀j,j<k->p j=false)->I k W->Calls Tryz.prog aZ (fst.push (L9 l[k])++caps) W (fun e W'=>e= .returned (.bool (p k))/\I (k+1) W')) (h0:I 0 w):
 Calls Tryz.prog 228 #[v,.func (.func aZ) fst caps] w (dY l.length p I (fun _=> .bool true) (.bool false)):=by
 have HI:=ae (afs l v aZ fst caps p I w eg hsl hcall h0)
 have hlen:=(hsl 0 w h0).len
 clear hsl hcall h0 eg
 go_enter Tryz.func228,Tryz.ntmps228
 go_wp2_with fail
 refine HI.o.mono ?_
 clear HI
 rintro e W' ⟨k,hk,hno,⟨hlt,hp,rfl,hI⟩|⟨hkl,rfl,hI⟩⟩
 ·have HN:=ae (ag hno (ag hp hI))
  clear hno hp hI
  go_wp2_with fail
  go_returns
  exact⟨k,hk,HN.o.1,.inl ⟨hlt,HN.o.2.1,by simp,HN.o.2.2⟩⟩
 ·have HN:=ae (ag hno (ag hkl hI))
  clear hno hkl hI
  go_wp2_with fail
  go_returns
  exact⟨k,hk,HN.o.1,.inr ⟨HN.o.2.1,by simp,HN.o.2.1▸HN.o.2.2⟩⟩
theorem adn (x:Io) (bx aZ:Nat) (fst caps:Array Value) (b:Bool) (W:World) (R:World->Prop) (eg: ∀args w,(callFunc aZ args).run Tryz.prog w= .ok (.enter aZ args) w)
 (hbx:W.cell? ⟨bx,0,none⟩=some (.func (.func aZ) fst caps))
 (hcall:Calls Tryz.prog aZ (fst.push (L9 x)++caps) (W.alloc (.cells #[.bool x.1,iv x.2.1,iv x.2.2.1,iv x.2.2.2] 124)) (fun e W'=>e= .returned (.bool b)/\R W')):
 Calls Tryz.prog 229 #[L9 x,.pointer (some ⟨bx,0,none⟩)] W (fun e W'=>e= .returned (.bool !b)/\R W'):=by
 have hlt:=dF W _ hbx
 have HC:=ae hcall
 clear hcall
 go_enter Tryz.func229,Tryz.ntmps229
 go_wp2_with fail
 refine HC.o.mono ?_
 rintro e W' ⟨rfl,hR⟩
 have HR:=ae hR
 clear hR
 go_wp2_with fail
 go_returns
 exact⟨by simp,HR.o⟩
theorem afv (l:List Io) (v:Value) (aZ:Nat) (fst caps:Array Value) (p:Nat->Bool) (I:Nat->World->Prop) (w:World) (eg: ∀args w,(callFunc aZ args).run Tryz.prog w= .ok (.enter aZ args) w)
 (hsl: ∀k W,I k W->yc W v l) (hal: ∀k W o,I k W->I k (W.alloc o))
 (hcall: ∀k (hk:k<l.length) W,(∀j,j<k->p j=true)->I k W->Calls Tryz.prog aZ (fst.push (L9 l[k])++caps) W (fun e W'=>e= .returned (.bool (p k))/\I (k+1) W'/\jh w.heap.size W W')) (h0:I 0 w):
 Calls Tryz.prog 147 #[v,.func (.func aZ) fst caps] w (dY l.length (fun k=>!p k) I (fun _=> .bool false) (.bool true)):=by
 have HI:=ae (adk l v 229 #[] #[.pointer (some ⟨w.heap.size,0,none⟩)] (fun k=>!p k)
  (fun k W=>I k W/\W.heap[w.heap.size]? =some (.cells #[.func (.func aZ) fst caps] 235 (0,0))) (w.alloc (.cells #[.func (.func aZ) fst caps] 235))
  (enters_of Tryz.func229 (by kernel_rfl) rfl) (fun k W h=>hsl k W h.1)
  (fun k hk W hno h=>by
    have hlt:w.heap.size<W.heap.size:=(aT.1 h.2).1
    refine(adn l[k] w.heap.size aZ fst caps (p k) W (fun W'=>I (k+1) W'/\W'.heap[w.heap.size]? =some (.cells #[.func (.func aZ) fst caps] 235 (0,0))) eg (aA h.2) ?_)
    refine(hcall k hk _ (fun j hj=>by simpa using hno j hj) (by first|exact hal _ _ _ h.1|exact h.1)).mono ?_
    rintro e W' ⟨rfl,h1,h2⟩
    refine⟨rfl,h1,(h2.block _ (ai _) (by first|exact hlt|(simp;omega))).trans (by first|exact h.2|exact(aW _ _ _ hlt).trans h.2)⟩)
  ⟨hal _ _ _ h0,heap_alloc_new w _⟩)
 have hlen:=(hsl 0 w h0).len
 clear hsl hcall h0 eg hal
 go_enter Tryz.func147,Tryz.ntmps147
 go_wp2_with fail
 refine HI.o.mono ?_
 clear HI
 rintro e W' ⟨k,hk,hno,⟨hlt,hp,rfl,hI,_⟩|⟨hkl,rfl,hI,_⟩⟩
 ·have HN:=ae (ag hno (ag hp hI))
  clear hno hp hI
  go_wp2_with fail
  go_returns
  exact⟨k,hk,HN.o.1,.inl ⟨hlt,HN.o.2.1,by simp,HN.o.2.2⟩⟩
 ·have HN:=ae (ag hno (ag hkl hI))
  clear hno hkl hI
  go_wp2_with fail
  go_returns
  exact⟨k,hk,HN.o.1,.inr ⟨HN.o.2.1,by simp,HN.o.2.1▸HN.o.2.2⟩⟩
theorem QU (l:List Io) (v:Value) (aZ:Nat) (fst caps:Array Value) (q:Io->Bool) (w:World) (hv:yc w v l) (eg: ∀args w,(callFunc aZ args).run Tryz.prog w= .ok (.enter aZ args) w)
 (hcall: ∀x∈l, ∀W,Below w.heap.size w W->Calls Tryz.prog aZ (fst.push (L9 x)++caps) W (PV (.bool (q x)) W)):
 Calls Tryz.prog 147 #[v,.func (.func aZ) fst caps] w (PV (.bool (l.all q)) w):=by
 refine(afv l v aZ fst caps (fun k=>q (l.getD k (false,0,(0,0)))) (fun _ W=>Below w.heap.size w W) w eg (fun k W h=>hv.below h (ai _)) (fun k W o h=>aj h o) (fun k hk W _ h=>?_) (aG _ _)).mono ?_
 ·refine(hcall l[k] (bY _) W h).mono ?_
  rintro e W' ⟨rfl,hb⟩
  exact⟨by simp[hk],bg h hb,jh.az hb⟩
 ·intro e W' hpost
  obtain⟨rfl,k,_,hI⟩:=hpost.all
  refine⟨?_,hI⟩
  rw[jC,jL]
theorem adq (x:Int) (bx aZ:Nat) (fst caps:Array Value) (b:Bool) (W:World) (R:World->Prop) (eg: ∀args w,(callFunc aZ args).run Tryz.prog w= .ok (.enter aZ args) w)
 (hbx:W.cell? ⟨bx,0,none⟩=some (.func (.func aZ) fst caps))
 (hcall:Calls Tryz.prog aZ (fst.push (iv x)++caps) W (fun e W'=>e= .returned (.bool b)/\R W')):
 Calls Tryz.prog 296 #[iv x,.pointer (some ⟨bx,0,none⟩)] W (fun e W'=>e= .returned (.bool !b)/\R W'):=by
 have hlt:=dF W _ hbx
 have HC:=ae hcall
 clear hcall
 go_enter Tryz.func296,Tryz.ntmps296
 go_wp2_with fail
 refine HC.o.mono ?_
 rintro e W' ⟨rfl,hR⟩
 have HR:=ae hR
 clear hR
 go_wp2_with fail
 go_returns
 exact⟨by simp,HR.o⟩
theorem afy (l:List Int) (v:Value) (aZ:Nat) (fst caps:Array Value) (p:Nat->Bool) (I:Nat->World->Prop) (w:World) (eg: ∀args w,(callFunc aZ args).run Tryz.prog w= .ok (.enter aZ args) w)
 (hsl: ∀k W,I k W->aN W v l) (hal: ∀k W o,I k W->I k (W.alloc o))
 (hcall: ∀k (hk:k<l.length) W,(∀j,j<k->p j=true)->I k W->Calls Tryz.prog aZ (fst.push (iv l[k])++caps) W (fun e W'=>e= .returned (.bool (p k))/\I (k+1) W'/\jh w.heap.size W W')) (h0:I 0 w):
 Calls Tryz.prog 270 #[v,.func (.func aZ) fst caps] w (dY l.length (fun k=>!p k) I (fun _=> .bool false) (.bool true)):=by
 have HI:=ae (Ov l v 296 #[] #[.pointer (some ⟨w.heap.size,0,none⟩)] (fun k=>!p k)
  (fun k W=>I k W/\W.heap[w.heap.size]? =some (.cells #[.func (.func aZ) fst caps] 167 (0,0))) (w.alloc (.cells #[.func (.func aZ) fst caps] 167))
  (enters_of Tryz.func296 (by kernel_rfl) rfl) (fun k W h=>hsl k W h.1)
  (fun k hk W hno h=>by
    have hlt:w.heap.size<W.heap.size:=(aT.1 h.2).1
    refine(adq l[k] w.heap.size aZ fst caps (p k) W (fun W'=>I (k+1) W'/\W'.heap[w.heap.size]? =some (.cells #[.func (.func aZ) fst caps] 167 (0,0))) eg (aA h.2) ?_)
    refine(hcall k hk _ (fun j hj=>by simpa using hno j hj) (by first|exact hal _ _ _ h.1|exact h.1)).mono ?_
    rintro e W' ⟨rfl,h1,h2⟩
    refine⟨rfl,h1,(h2.block _ (ai _) (by first|exact hlt|(simp;omega))).trans (by first|exact h.2|exact(Below.heap_alloc _ _ _ hlt).trans h.2)⟩)
  ⟨hal _ _ _ h0,heap_alloc_new w _⟩)
 have hlen:=(hsl 0 w h0).len
 clear hsl hcall h0 eg hal
 go_enter Tryz.func270,Tryz.ntmps270
 go_wp2_with fail
 refine HI.o.mono ?_
 clear HI
 rintro e W' ⟨k,hk,hno,⟨hlt,hp,rfl,hI,_⟩|⟨hkl,rfl,hI,_⟩⟩
 ·have HN:=ae (ag hno (ag hp hI))
  clear hno hp hI
  go_wp2_with fail
  go_returns
  exact⟨k,hk,HN.o.1,.inl ⟨hlt,HN.o.2.1,by simp,HN.o.2.2⟩⟩
 ·have HN:=ae (ag hno (ag hkl hI))
  clear hno hkl hI
  go_wp2_with fail
  go_returns
  exact⟨k,hk,HN.o.1,.inr ⟨HN.o.2.1,by simp,HN.o.2.1▸HN.o.2.2⟩⟩
theorem QX (l:List Int) (v:Value) (aZ:Nat) (fst caps:Array Value) (q:Int->Bool) (w:World) (hv:aN w v l) (eg: ∀args w,(callFunc aZ args).run Tryz.prog w= .ok (.enter aZ args) w)
 (hcall: ∀x∈l, ∀W,Below w.heap.size w W->Calls Tryz.prog aZ (fst.push (iv x)++caps) W (PV (.bool (q x)) W)):
 Calls Tryz.prog 270 #[v,.func (.func aZ) fst caps] w (PV (.bool (l.all q)) w):=by
 refine(afy l v aZ fst caps (fun k=>q (l.getD k 0)) (fun _ W=>Below w.heap.size w W) w eg (fun k W h=>hv.below h (ai _)) (fun k W o h=>aj h o) (fun k hk W _ h=>?_) (aG _ _)).mono ?_
 ·refine(hcall l[k] (bY _) W h).mono ?_
  rintro e W' ⟨rfl,hb⟩
  exact⟨by simp[hk],bg h hb,jh.az hb⟩
 ·intro e W' hpost
  obtain⟨rfl,k,_,hI⟩:=hpost.all
  refine⟨?_,hI⟩
  rw[jC,jL]
theorem LY (c:bJ) (oh:Option Addr) (ch:Nat) (kvv tv:Value) (l:List Int) (v:Value) (w:World) (hv:aN w v l):
 Calls Tryz.prog 222 #[kv (.slice oh c.heaps.length ch) kvv tv,v] w (PV (.bool (rM c l)) w):=by
 obtain⟨o,cc,rfl⟩:=hv.open
 have HA:=ae (fun(W:World) (hb:Below w.heap.size w W)=>QX l (.slice o l.length cc) 271 #[] #[] (nH · 0 30) W (hv.below hb (ai _)) (enters_of Tryz.func271 (by kernel_rfl) rfl) (fun x _ W _=>PM x W))
 clear hv
 unfold rM
 by_cases hl:l.length=c.heaps.length
 ·have hl':((l.length:Int)==(c.heaps.length:Int))=true:=by simp[hl]
  rw[decide_eq_true hl,Bool.true_and]
  have HL:=ae hl
  clear hl
  go_enter Tryz.func222,Tryz.ntmps222
  go_wp2_with fail
  refine(HA.o _ (aj (aG _ _) _)).mono ?_
  rintro e w' ⟨rfl,hb⟩
  obtain⟨hc,hf⟩:=bK hb
  go_wp2_with fail
  go_returns
  exact⟨by simp,bg (aj (aG _ _) _) hb⟩
 ·have hl':((l.length:Int)==(c.heaps.length:Int))=false:=by simp;omega
  rw[decide_eq_false hl,Bool.false_and]
  have HL:=ae hl
  clear hl
  go_enter Tryz.func222,Tryz.ntmps222
  go_wp2_with fail
  go_returns
  exact⟨by simp,zl⟩
theorem QZ (c:bJ) (oh:Option Addr) (ch:Nat) (kvv tv:Value) (e:KE) (w:World) (hv:aN w e.1 e.2) (hh:c.heaps.length<=1000):
 Calls Tryz.prog 143 #[kv (.slice oh c.heaps.length ch) kvv tv,kev e] w (PV (.bool (ve c e.2)) w):=by
 obtain⟨v,l⟩:=e
 simp only[kev] at hv⊢
 obtain⟨o,cc,rfl⟩:=hv.open
 have HA:=ae (fun(W:World) (hb:Below w.heap.size w W)=>LY c oh ch kvv tv l (.slice o l.length cc) W (hv.below hb (ai _)))
 by_cases hw:rM c l=true
 ·have hx:(∀x∈l,0<=x/\x<=9999)/\l.length=c.heaps.length:=by
   simp only[rM,nH,eU,eH,jJ] at hw
   exact⟨fun x hx=>by have:=hw.2 x hx;omega,hw.1⟩
  have hn:l.length<=1000:=by omega
  have HS:=ae (fun(W:World) (hb:Below w.heap.size w W)=>NG l (.slice o l.length cc) W (hv.below hb (ai _)) hx.1 hn)
  have HC:Hid (ve c l=decide (0<mf l)):=ae (by unfold ve;rw[hw,Bool.true_and])
  rw[hw] at HA
  clear hv hw hx
  rw[HC.o]
  generalize mf l=m at HS
  go_enter Tryz.func143,Tryz.ntmps143
  go_wp2_with fail
  refine(HA.o _ (aj (aG _ _) _)).mono ?_
  rintro e w1 ⟨rfl,hb⟩
  obtain⟨hc,hf⟩:=bK hb
  have HB:=ae (show Below w.heap.size w w1 from bg (aj (aG _ _) _) hb)
  clear hb
  go_wp2_with fail
  refine(HS.o _ HB.o).mono ?_
  rintro e w2 ⟨rfl,hb⟩
  obtain⟨hc2,hf2⟩:=bK hb
  have HB2:=ae (bg HB.o hb)
  clear hb
  go_wp2_with fail
  go_returns
  exact⟨by simp,HB2.o⟩
 ·have hw':rM c l=false:=by simpa using hw
  rw[hw'] at HA
  have HC:Hid (ve c l=false):=ae (by unfold ve;rw[hw'];rfl)
  clear hv hw hw'
  rw[HC.o]
  go_enter Tryz.func143,Tryz.ntmps143
  go_wp2_with fail
  refine(HA.o _ (aj (aG _ _) _)).mono ?_
  rintro e w1 ⟨rfl,hb⟩
  obtain⟨hc,hf⟩:=bK hb
  have HB:=ae (show Below w.heap.size w w1 from bg (aj (aG _ _) _) hb)
  clear hb
  go_wp2_with fail
  go_returns
  exact⟨by simp,HB.o⟩
end Go.Proofs.YthbpmepjmebolaaGreatDoor.yR
end
section
namespace Go.Proofs.YthbpmepjmebolaaGreatDoor.yR
open Go.RowKit Go.RG Go.SL Go.Shelf ji Go.TB
theorem QR (c:bJ) (oh ok:Option Addr) (ch ck:Nat) (tv:Value) (t:Io) (w:World) (h1:c.heaps.length<=1000) (h2:c.aU.length<=1000):
 Calls Tryz.prog 142 #[kv (.slice oh c.heaps.length ch) (.slice ok c.aU.length ck) tv,L9 t] w (PV (.bool (rO c t)) w):=by
 obtain⟨b,n,r⟩:=t
 cases b
 all_goals
  go_enter Tryz.func142,Tryz.ntmps142
  go_wp2_with fail
  refine(xC _ _ _ _).mono ?_
  rintro e w1 ⟨rfl,hb⟩
  obtain⟨hc,hf⟩:=bK hb
  have hz:=hb.size
  simp only[bz] at hz
  have HB:=ae (show Below w.heap.size w w1 from zl)
  clear hb
 ·cases hq:nH n 0 ((c.heaps.length:Int)-1)
  ·go_wp2_with fail
   go_returns
   exact⟨by simp[rO,vK,hq],HB.o⟩
  ·go_wp2_with fail
   refine(rQ r _).mono ?_
   rintro e w2 ⟨rfl,hb⟩
   have HB2:=ae (bg HB.o hb)
   clear hb
   go_wp2_with fail
   go_returns
   exact⟨by simp[rO,vK,hq],HB2.o⟩
 ·cases hq:nH n 0 ((c.aU.length:Int)-1)
  ·go_wp2_with fail
   go_returns
   exact⟨by simp[rO,vK,hq],HB.o⟩
  ·go_wp2_with fail
   refine(rQ r _).mono ?_
   rintro e w2 ⟨rfl,hb⟩
   have HB2:=ae (bg HB.o hb)
   clear hb
   go_wp2_with fail
   go_returns
   exact⟨by simp[rO,vK,hq],HB2.o⟩
theorem QS (c:bJ) (oh:Option Addr) (ch:Nat) (kvv tv:Value) (t:Io) (w:World) (h1:c.heaps.length<=1000) (h2:0<=t.2.1) (h3:t.2.1<=1000):
 Calls Tryz.prog 231 #[kv (.slice oh c.heaps.length ch) kvv tv,L9 t] w (PV (iv (zo c t:Nat)) w):=by
 obtain⟨b,n,r⟩:=t
 simp only at h2 h3
 obtain⟨k,rfl⟩: ∃k:Nat,n=k:=⟨n.toNat,by omega⟩
 cases b
 ·go_enter Tryz.func231,Tryz.ntmps231
  go_wp2_with fail
  go_returns
  exact⟨by simp[zo],zl⟩
 ·go_enter Tryz.func231,Tryz.ntmps231
  go_wp2_with fail
  go_returns
  exact⟨by simp[zo],zl⟩
theorem Vg (l:List Int) (v:Value) (s:List Int) (x0 x1 x2:Int) (hx:ku s=[x0,x1,x2]) (w:World) (hv:aN w v l) (hl:l.length=s.length) (h3:s.length<=3)
 (hw: ∀x∈l,0<=x/\x<=30) (hs: ∀x∈s,0<=x/\x<=100) (hp:0<mf l):
 Calls Tryz.prog 153 #[.agg #[iv x0,iv x1,iv x2],v] w (PV (iv (C9 s l)) w):=by
 obtain⟨o,c,rfl⟩:=hv.open
 have HSM:=ae (fun(W:World) (hb:Below w.heap.size w W)=>NG l (.slice o l.length c) W (hv.below hb (ai _)) (fun x hx=>by have:=hw x hx;omega) (by omega))
 have HV:=ae (hv.alloc (.cells #[iv x0,iv x1,iv x2] 177))
 have HW:=ae hw
 have HS:=ae hs
 have HD:=ae (fun k=>ZK hw hs k)
 have HA:=ae (VZ hl)
 have HX:=ae hx
 have HP:=ae hp
 have hM:Hid (C9 s l=yN l s/mf l):=ae rfl
 have hsb:=(Eg (m:=30) (by omega) hw)
 rw[hM.o]
 generalize yN l s=D at HA hM⊢
 generalize mf l=m at hsb hp HSM HP
 have HCB:=ae (fun(k:Nat) (hk:k<3)=>show(w.alloc (.cells #[iv x0,iv x1,iv x2] 177)).cell? ⟨w.heap.size,k,none⟩=some (iv ([x0,x1,x2].getD k 0)) from by
  rw[World.cell?_alloc_new]
  rcases(show k=0∨k=1∨k=2 by omega) with rfl|rfl|rfl <;>rfl)
 have HL:=ae (ag hl h3)
 have hl3:(l.length:Int)<=3:=by omega
 clear hv hw hs hx hp hl h3
 go_enter Tryz.func153,Tryz.ntmps153
 go_wp2_with fail
 go_loop [5,6,7,10] (fun n _ _ i=> ∃k:Nat,k<=l.length/\i= .int .i64 k/\n=iv (xR l s k)) (fun _ _ _ i=>l.length-(intOf i).toNat)
 case atStart=>exact⟨0,bW _,rfl,by simp[xR,yN]⟩
 case round=>
  obtain⟨k,hk,rfl,rfl⟩:=hrel
  have hb:=HD.o k
  by_cases hlt:k<l.length
  ·obtain⟨b,off,rfl,hbl,hc0⟩:=aN.cell HV.o hlt
   have hks:k<s.length:=by have:=HL.o;omega
   have hx1:=HW.o _ (bY hlt)
   have hx2:=HS.o _ (bY hks)
   have hsu:=RF hlt hks
   have hk3:k<3:=by omega
   have hget:=HCB.o k hk3
   rw[<-HX.o,Nb,ik,dG hks,Option.getD_some] at hget
   generalize xR l s k=d at hb hsu⊢
   generalize l[k]=x at hc0 hx1 hsu
   generalize s[k]=y at hx2 hsu hget
   have hmul:0<=x*y/\x*y<=30*100:=⟨Int.mul_nonneg (by omega) (by omega),Int.mul_le_mul hx1.2 hx2.2 (by omega) (by omega)⟩
   obtain⟨hm1,hm2⟩:=hmul
   have oH:=ae hsu
   have anS:(k:Int)<3:=by omega
   clear hsu
   go_wp2_with fail
   go_round
   case rel=>exact⟨k+1,by omega,by go_num,by rw[oH.o]⟩
   case measure=>simp[intOf];omega
  ·have hkl:k=l.length:=by omega
   rw[hkl,HA.o]
   rw[hkl,HA.o] at hb
   have hpp:=HP.o
   have hdv:D.tdiv m=D/m:=Int.tdiv_eq_ediv_of_nonneg hb.1
   have hd0:0<=D/m:=Int.ediv_nonneg hb.1 (by omega)
   have hd1:D/m<=D:=Int.ediv_le_self _ hb.1
   go_wp2_with fail
   refine(HSM.o _ (aj (aG _ _) _)).mono ?_
   rintro e w1 ⟨rfl,hbb⟩
   have HB:=ae (show Below w.heap.size w w1 from bg (aj (aG _ _) _) hbb)
   clear hbb
   have hm0:m≠0:=by omega
   go_wp2_with fail
   go_returns
   exact⟨by simp[hdv],HB.o⟩
end Go.Proofs.YthbpmepjmebolaaGreatDoor.yR
end
section
namespace Go.Proofs.YthbpmepjmebolaaGreatDoor.yR
open Go.RowKit Go.RG Go.SL Go.Shelf ji Go.TB
attribute [local go_sem] Oper.semAt_some
theorem nC {l:List Int} (h:l.length=3): ∃a b c,l=[a,b,c]:=by
 match l,h with
 |[a,b,c],_=>exact⟨a,b,c,rfl⟩
def Str (c:bJ) (s:List Int):Prop:=s.length=c.heaps.length/\ ∀x∈s,0<=x/\x<=100
theorem TP (c:bJ) (hS:nz c) (oh ok:Option Addr) (ch ck:Nat) (tv:Value) (es:List KE) (s:List Int) (x0 x1 x2:Int) (hx:ku s=[x0,x1,x2]) (hs:Str c s) (n:Nat) (hn:mV c n) (w:World)
 (hk:wR w (.slice ok c.aU.length ck) es) (hes:es.map (·.2)=c.aU):
 Calls Tryz.prog 86 #[kv (.slice oh c.heaps.length ch) (.slice ok c.aU.length ck) tv,.agg #[iv x0,iv x1,iv x2],iv n] w (PV (iv (G7 c s n)) w):=by
 have h3:=hS.h3
 have h1:=hS.h1
 have c3:=hS.c3
 have hel:es.length=c.aU.length:=by rw[<-hes,lU]
 unfold mV at hn
 by_cases hlt:n<c.heaps.length
 ·have hv:[x0,x1,x2].getD n 0=G7 c s n:=by
   unfold G7
   rw[aC hlt, <-hx,Nb]
  have hn3:(n:Int)<3:=by omega
  have FV: ¬(c.heaps.length:Int)<=n:=by omega
  have hcell:((w.alloc (.cells #[.slice oh c.heaps.length ch,.slice ok c.aU.length ck,tv] 44)).alloc (.cells #[iv x0,iv x1,iv x2] 177)).cell? ⟨w.heap.size+1,n,none⟩=some (iv (G7 c s n)):=by
   rw[<-hv]
   simp only[World.cell?,dW]
   rcases(show n=0∨n=1∨n=2 by omega) with rfl|rfl|rfl <;>rfl
  generalize G7 c s n=r at hcell⊢
  clear hx hs hk hes hv hel
  go_enter Tryz.func86,Tryz.ntmps86
  go_wp2_with fail
  go_returns
  exact⟨by simp,zl⟩
 ·have hk0:n-c.heaps.length<es.length:=by omega
  have hkc:n-c.heaps.length<c.aU.length:=by omega
  have he:es[n-c.heaps.length].2=c.aU[n-c.heaps.length]:=by simp only[<-hes,List.getElem_map]
  have hc:=hS.aU _ (bY hkc)
  have hr:=hk.2 _ (bY hk0)
  rw[<-hel] at hk
  obtain⟨b,off,rfl,hb,hcell⟩:=wR.cell hk hk0
  generalize BP:es[n-c.heaps.length]=e at*
  obtain⟨ev,el⟩:=e
  simp only at he hr hcell
  subst he
  obtain⟨oe,ce,rfl⟩:=hr.open
  have hv:G7 c s n=C9 s c.aU[n-c.heaps.length]:=by
   unfold G7
   rw[ak hlt,ik,dG hkc,Option.getD_some]
  rw[hv]
  have HM:=ae (fun(W:World) (hB:Below w.heap.size w W)=>Vg c.aU[n-c.heaps.length] _ s x0 x1 x2 hx W (hr.below hB (ai _)) (by rw[hc.1,hs.1]) (by rw[hs.1];exact h3) hc.2.1 hs.2 hc.2.2)
  obtain⟨j,hj⟩: ∃j:Nat,n-c.heaps.length=j:=⟨_,rfl⟩
  obtain rfl:n=c.heaps.length+j:=by omega
  have hjI:(((c.heaps.length+j:Nat):Int)-(c.heaps.length:Int))=j:=by omega
  have ajB:(c.heaps.length:Int)<=((c.heaps.length+j:Nat):Int):=by omega
  have hjl:(j:Int)<c.aU.length:=by omega
  generalize c.aU[c.heaps.length+j-c.heaps.length]=l at*
  generalize C9 s l=r at HM⊢
  rw[hj] at hcell
  have HX:=ae (ag hx hs)
  clear hx hs hv hk hc hr BP hj hk0 hkc hes hel
  obtain⟨N,hN⟩: ∃N:Int,((c.heaps.length+j:Nat):Int)=N:=⟨_,rfl⟩
  rw[hN] at hjI ajB⊢
  clear hN hlt hn
  go_enter Tryz.func86,Tryz.ntmps86
  go_upto_region 3 with(fail)
  refine dQ fun W3 hW3=>?_
  have hb3:Below w.heap.size w W3:=by rw[hW3];exact zl
  have hk1:W3.heap[w.heap.size]? =some (.cells #[.slice oh c.heaps.length ch,.slice (some ⟨b,off,none⟩) c.aU.length ck,tv] 44 (0,0)):=by rw[hW3];exact(aW _ _ _ (by simp)).trans (ay _ _)
  have hk2:W3.heap[w.heap.size+1]? =some (.cells #[iv x0,iv x1,iv x2] 177 (0,0)):=by rw[hW3];exact dW _ _ _
  have ajL:W3.cell? ⟨b,off+j,none⟩=some (.slice oe l.length ce):=(hb3.cell hb).trans hcell
  have hbl:b<W3.heap.size:=by have:=hb3.size;omega
  have HB3:=ae hb3
  obtain⟨d1,g1,m1⟩:=af hk1
  obtain⟨d2,g2,m2⟩:=af hk2
  clear hW3 hcell hb hb3 hk1 hk2
  refine zg 9 [] none [(8,Spec.val (iv r))] ?_
  simp only[zt]
  repeat ((first|refine zn ?_|refine zk ?_);simp only[zp])
  refine zw 153 (h:=fun W hE hF=>by exact HM.o W (bg HB3.o hE.below)) (t:=?_)
  simp only[zp]
  repeat ((first|refine zn ?_|refine zk ?_);simp only[zp])
  intro W hE hF
  obtain⟨hc,hf⟩:=bK hE.below
  have hzE:=hE.size
  (try simp only[bz] at hzE)
  go_wp2_with fail
  (try simp only[Exit.inBlock,Exit.then])
  refine bodyPost_ret (v:=iv r) (by simp[results,Tryz.results86,go_sem,hc];try omega) rfl ?_
  exact⟨rfl,bg HB3.o hE.below⟩
structure Xa (w:World) (hv nN tv:Value) (x0 x1 x2:Int) (W:World):Prop where
 b0:W.heap[w.heap.size]? =some (.cells #[hv,nN,tv] 44 (0,0))
 b1:W.heap[w.heap.size+1]? =some (.cells #[iv x0,iv x1,iv x2] 177 (0,0))
 below:Below w.heap.size w W
theorem Xa.next {w:World} {hv nN tv:Value} {x0 x1 x2:Int} {W W':World} (h:Xa w hv nN tv x0 x1 x2 W) (hb:Below W.heap.size W W'):Xa w hv nN tv x0 x1 x2 W':=
 ⟨(hb.block _ (aT.1 h.b0).1).trans h.b0,(hb.block _ (aT.1 h.b1).1).trans h.b1,bg h.below hb⟩
def vH (c:bJ) (out s:List Int) (k:Nat):Bool:=(List.range k).all fun i=>out.contains (i:Int) ||EX c s (c.aJ.getD i (false,0,(0,0)))
theorem Qh (c:bJ) (hS:nz c) (oh ok ot:Option Addr) (ch ck ct:Nat) (es:List KE) (s:List Int) (x0 x1 x2:Int) (hx:ku s=[x0,x1,x2]) (hs:Str c s) (ov:Value) (out:List Int) (w:World)
 (hc:qV w (.slice oh c.heaps.length ch) (.slice ok c.aU.length ck) (.slice ot c.aJ.length ct) es c) (ho:aN w ov out):
 Calls Tryz.prog 152 #[kv (.slice oh c.heaps.length ch) (.slice ok c.aU.length ck) (.slice ot c.aJ.length ct),.agg #[iv x0,iv x1,iv x2],ov] w (PV (.bool (rW c out s)) w):=by
 obtain⟨oo,oc,rfl⟩:=ho.open
 have t5:=hS.t5
 have HS:=ae hS
 have HC:=ae hc
 have HO:=ae ho
 have HX:=ae (ag hx hs)
 have HF:=ae (fun(n:Nat) (hn:mV c n) (W:World) (hB:Below w.heap.size w W)=>TP c hS oh ok ch ck (.slice ot c.aJ.length ct) es s x0 x1 x2 hx hs n hn W (hc.aU.below hB (ai _)) hc.is)
 have HT:=ae (fun(t:Io) (ht:t∈c.aJ) (W:World)=>QS c oh ch (.slice ok c.aU.length ck) (.slice ot c.aJ.length ct) t W (by have:=hS.h3;omega) ((hS.aJ t ht).1.1) (by
  have h1:=(hS.aJ t ht).1.2
  have h2:=hS.h3
  have h3:=hS.c3
  unfold vK at h1
  split at h1 <;>omega))
 clear hS hc ho hx hs
 go_enter Tryz.func152,Tryz.ntmps152
 go_upto_region 1 with(fail)
 refine dQ fun W1 hW1=>?_
 have hst:Xa w (.slice oh c.heaps.length ch) (.slice ok c.aU.length ck) (.slice ot c.aJ.length ct) x0 x1 x2 W1:=by
  rw[hW1]
  exact⟨(aW _ _ _ (by simp)).trans (ay _ _),dW _ _ _,zl⟩
 clear hW1
 obtain⟨cc0,cf0,cl0⟩:=af hst.b0
 have HST:=ae hst
 clear hst
 go_wp2_with fail
 go_loopw [12] (fun i wr=> ∃k:Nat,k<=c.aJ.length/\i= .int .i64 k/\vH c out s k=true/\Xa w (.slice oh c.heaps.length ch) (.slice ok c.aU.length ck) (.slice ot c.aJ.length ct) x0 x1 x2 wr) (fun i _=>c.aJ.length-(intOf i).toNat)
 case atStart=>exact⟨0,bW _,rfl,rfl,HST.o⟩
 case round=>
  obtain⟨k,hk,rfl,hok,hst⟩:=hrel
  have GR:=ae hst
  have jo:=ae hok
  clear hok cc0 cf0 cl0
  by_cases hlt:k<c.aJ.length
  ·have htl:=HC.o.aJ.below hst.below (ai _)
   obtain⟨b,off,hv,hb,d0,d1,d2,d3⟩:=yc.cell htl hlt
   cases hv
   have hmem:=bY hlt
   have hth:=UJ HS.o hmem
   have hT:=HT.o _ hmem
   have hso:vH c out s (k+1)=(out.contains (k:Int) ||EX c s c.aJ[k]):=by
    have h1:=jo.o
    unfold vH at h1⊢
    rw[mD,h1,Bool.true_and,show c.aJ.getD k (false,0,(0,0))=c.aJ[k] from by simp[List.getD,hlt]]
   generalize c.aJ[k]=t at*
   obtain⟨tb,tn,JQ,JR⟩:=t
   simp only at d0 d1 d2 d3
   have HTH:=ae hth
   obtain⟨q,hq⟩: ∃q,zo c (tb,tn,(JQ,JR))=q:=⟨_,rfl⟩
   rw[hq] at hT HTH
   have hF:=HF.o q HTH.o
   obtain⟨r,hr⟩: ∃r,G7 c s q=r:=⟨_,rfl⟩
   rw[hr] at hF
   have afP:vH c out s (k+1)=(out.contains (k:Int) ||nH r JQ JR):=by
    rw[hso];unfold EX;rw[hq,hr]
   have HSO:=ae afP
   have HTT:=ae hT
   have HFF:=ae hF
   have hcn:=fun W (hB:Below w.heap.size w W)=>iG out (.slice oo out.length oc) (k:Int) W (HO.o.below hB (ai _))
   generalize out.contains (k:Int)=cb at*
   have HCN:=ae hcn
   clear hst htl hmem hth hT hso afP hq hF hr hcn
   go_upto_region 4 with(fail)
   refine dQ fun W4 Em=>?_
   have abl:Xa w _ _ _ x0 x1 x2 W4:=GR.o.next (by rw[Em];exact zl)
   have hk8:W4.heap[wr.heap.size]? =some (.cells #[.bool tb,iv tn,iv JQ,iv JR] 124 (0,0)):=by rw[Em];exact ay _ _
   have hB4:Below wr.heap.size wr W4:=by rw[Em];exact zl
   obtain⟨c1,f1,l1⟩:=af abl.b0
   obtain⟨c2,f2,l2⟩:=af abl.b1
   obtain⟨c3,f3,l3⟩:=af hk8
   have Uu:=ae abl
   clear Em abl hk8 hB4 d0 d1 d2 d3 hb
   cases cb
   ·skip
    refine zg 16 [] none [(2,Spec.val (.bool false)),(11,Spec.val (iv q)),(12,Spec.val (iv r)),(13,Spec.val (.bool (nH r JQ JR)))] ?_
    simp only[zt]
    repeat ((first|refine zn ?_|refine zk ?_);simp only[zp])
    refine zw 135 (h:=fun W hE hF=>by exact HCN.o W (bg Uu.o.below hE.below)) (t:=?_)
    simp only[zp]
    repeat ((first|refine zn ?_|refine zk ?_);simp only[zp])
    refine zw 231 (h:=fun W hE hF=>by exact HTT.o W) (t:=?_)
    simp only[zp]
    refine zw 86 (h:=fun W hE hF=>by exact HFF.o W (bg Uu.o.below hE.below)) (t:=?_)
    simp only[zp]
    refine zw 230 (h:=fun W hE hF=>by exact YR (JQ,JR) r W) (t:=?_)
    simp only[zp]
    repeat ((first|refine zn ?_|refine zk ?_);simp only[zp])
    intro W hE hF
    obtain⟨hc,hf⟩:=bK hE.below
    have hzE:=hE.size
    (try simp only[bz] at hzE)
    have hst5:=Uu.o.next hE.below
    have HS5:=ae hst5
    clear hst5 hE hF hc hf hzE c1 f1 l1 c2 f2 l2 c3 f3 l3
    cases hq2:nH r JQ JR
    ·have wK:Hid (rW c out s=false):=ae (by
      have h1:=HSO.o
      rw[hq2] at h1
      have h2:vH c out s c.aJ.length=rW c out s:=rfl
      rw[<-h2]
      cases h3:vH c out s c.aJ.length
      ·rfl
      ·unfold vH at h1 h3
       rw[jJ] at h3
       have:(List.range (k+1)).all (fun i=>out.contains (i:Int) ||EX c s (c.aJ.getD i (false,0,(0,0))))=true:=by
        rw[jJ]
        intro i hi
        exact h3 i (lT.2 (by have:=lT.1 hi;omega))
       rw[this] at h1
       cases h1)
     go_wp2_with fail
     go_returns
     exact⟨by rw[wK.o];simp,HS5.o.below⟩
    ·go_wp2_with fail
     go_roundw
     case rel=>exact⟨k+1,by omega,by go_num,by rw[HSO.o,hq2];rfl,HS5.o⟩
     case measure=>simp[intOf];omega
   ·skip
    refine zg 16 [] none [(2,Spec.val (.bool true))] ?_
    simp only[zt]
    repeat ((first|refine zn ?_|refine zk ?_);simp only[zp])
    refine zw 135 (h:=fun W hE hF=>by exact HCN.o W (bg Uu.o.below hE.below)) (t:=?_)
    simp only[zp]
    repeat ((first|refine zn ?_|refine zk ?_);simp only[zp])
    intro W hE hF
    obtain⟨hc,hf⟩:=bK hE.below
    have hzE:=hE.size
    (try simp only[bz] at hzE)
    have hst5:=Uu.o.next hE.below
    have HS5:=ae hst5
    clear hst5 hE hF hc hf hzE c1 f1 l1 c2 f2 l2 c3 f3 l3
    go_wp2_with fail
    go_roundw
    case rel=>exact⟨k+1,by omega,by go_num,by rw[HSO.o];rfl,HS5.o⟩
    case measure=>simp[intOf];omega
  ·have hkl:k=c.aJ.length:=by omega
   subst hkl
   have HQ:Hid (rW c out s=true):=ae jo.o
   clear hst
   go_wp2_with fail
   go_returns
   exact⟨by rw[HQ.o];simp,GR.o.below⟩
end Go.Proofs.YthbpmepjmebolaaGreatDoor.yR
end
section
namespace Go.Proofs.YthbpmepjmebolaaGreatDoor.yR
open Go.RowKit Go.RG Go.SL Go.Shelf ji Go.TB
attribute [local go_sem] Oper.semAt_some
structure XH (W:World) (bf bo jl ab bc l:Nat) (o:List Int):Prop where
 y:W.heap[jl]? =some (.cells #[.func (.yield l) #[] #[]] 240 (0,0))
 ch:W.heap[bc]? =some (.cells #[.func (.func 151) #[] #[.pointer (some ⟨bf,0,none⟩),.pointer (some ⟨ab,0,none⟩),.pointer (some ⟨bo,0,none⟩),.pointer (some ⟨jl,0,none⟩),.pointer (some ⟨bc,0,none⟩)]] 167 (0,0))
 cells:W.heap[ab]? =some (.cells (ah o).toArray 177 (0,0))
theorem XH.kept {W W':World} {bf bo jl ab bc l:Nat} {o:List Int} (h:XH W bf bo jl ab bc l o) (hk: ∀m∈[ab,jl,bc],m<W.heap.size->W'.heap[m]? =W.heap[m]?):XH W' bf bo jl ab bc l o:=
 ⟨(hk _ (by simp) (aT.1 h.y).1).trans h.y,(hk _ (by simp) (aT.1 h.ch).1).trans h.ch,(hk _ (by simp) (aT.1 h.cells).1).trans h.cells⟩
theorem XH.below {W W':World} {bf bo jl ab bc l:Nat} {o:List Int} (h:XH W bf bo jl ab bc l o) (hb:Below W.heap.size W W'):XH W' bf bo jl ab bc l o:=
 h.kept fun m _ hm=>hb.block m hm
theorem XH.set {W:World} {bf bo jl ab bc l:Nat} {o:List Int} (h:XH W bf bo jl ab bc l o) (hd1:jl≠ab) (hd3:bc≠ab) (i:Nat) (x:Int):XH (W.setCell ⟨ab,i,none⟩ (iv x)) bf bo jl ab bc l (o.set i x):=
 ⟨(dB _ _ _ _ hd1).trans h.y,(dB _ _ _ _ hd3).trans h.ch,by rw[<-rV];exact aI h.cells _⟩
def ahv (_:List Nat) (x:List Int) (v:Value) (_:World):Prop:=v=lJ (ku x)
structure ahA (bf bo:Nat) (D:bJ) (hv nN tv ov:Value) (es:List KE) (out:List Int) (W:World):Prop where
 fb:W.heap[bf]? =some (.cells #[hv,nN,tv] 44 (0,0))
 ob:W.heap[bo]? =some (.cells #[ov] 36 (0,0))
 df:qV W hv nN tv es D
 out:aN W ov out
theorem NQ (D:bJ) (hS:nz D) (oh ok ot:Option Addr) (ch ck ct:Nat) (ov:Value) (es:List KE) (out:List Int) (bf bo jl ab bc l:Nat) (hd1:jl≠ab) (hd3:bc≠ab) (J:List Nat->Option Nat->World->Prop)
 (hInv: ∀Ms s W1,J Ms s W1->ahA bf bo D (.slice oh D.heaps.length ch) (.slice ok D.aU.length ck) (.slice ot D.aJ.length ct) ov es out W1)
 (hstep: ∀Ms Ms' s W1 W2,J Ms s W1->Ext Ms W1 W2->(∀m∈Ms',m∈Ms∨(W1.heap.size<=m/\m<W2.heap.size))->True->J Ms' s W2)
 (hY: ∀Ms k v W1 (hk:k<(dA D out).length),J Ms (some k) W1->ahv Ms (dA D out)[k] v W1->YieldAt Fence.wide 0 Tryz.prog l #[v] W1 fun e W'=>
   ((∀m∈Ms,m∉[]->m<W1.heap.size->W'.heap[m]? =W1.heap[m]?)/\W1.heap.size<=W'.heap.size)/\((e= .returned (.bool true)/\J Ms (some (k+1)) W')∨(e= .returned (.bool false)/\J Ms none W'))):
 ∀(m i k:Nat) (pre:List Int) (W:World) (o:List Int),i+m=D.heaps.length->pre.length=i->o.length=3->o.take i=pre->o.drop D.heaps.length=List.replicate (3-D.heaps.length) 0->jD (D.heaps) i k pre->XH W bf bo jl ab bc l o->J [ab,jl,bc] (some (yP D out k)) W->
  CallsIn Fence.wide 0 Tryz.prog 151 #[iv i,.pointer (some ⟨bf,0,none⟩),.pointer (some ⟨ab,0,none⟩),.pointer (some ⟨bo,0,none⟩),.pointer (some ⟨jl,0,none⟩),.pointer (some ⟨bc,0,none⟩)] W
   (fun e W'=>(e= .returned (.bool true)/\J [ab,jl,bc] (some (yP D out (k+(fB ((D.heaps).drop i)).length))) W'/\ ∃o',o'.length=3/\o'.take i=pre/\o'.drop D.heaps.length=List.replicate (3-D.heaps.length) 0/\XH W' bf bo jl ab bc l o')∨
     (e= .returned (.bool false)/\J [ab,jl,bc] none W')):=by
 have hh1:=hS.h1
 have hh3:=hS.h3
 intro m
 induction m with
 |zero=>
  intro i k pre W o him hpl hol hot hod hat hst hJ
  have hrow:(i:Int)=(D.heaps.length:Int):=by omega
  obtain⟨hone,hk,hx⟩:=hat.last (by omega)
  rw[hone]
  have hop:o=ku pre:=by
   rw[<-List.take_append_drop D.heaps.length o,hod]
   rw[show D.heaps.length=i from by omega,hot]
   unfold ku
   rw[hpl]
  have hk':k<(tZ D).length:=hk
  have hxx:(tZ D)[k]=pre:=hx
  obtain⟨hbf,VJ,htl,hov⟩:=hInv _ _ _ hJ
  obtain⟨oo,oc,rfl⟩:=hov.open
  have hmem:pre∈tZ D:=hxx▸bY hk'
  have hstr:Str D pre:=sD hS hmem
  obtain⟨x0,x1,x2,hxs⟩:=nC hol
  have hright:=Qh D hS oh ok ot ch ck ct es pre x0 x1 x2 (by rw[<-hop,hxs]) hstr _ out W htl hov
  obtain⟨PG,cf1,Si⟩:=af hbf
  obtain⟨cc2,cf2,cl2⟩:=af VJ
  obtain⟨cc3,cf3,cl3⟩:=af hst.y
  have hag:lJ o= .agg #[iv x0,iv x1,iv x2]:=by rw[hxs];rfl
  have hcb:=hst.cells
  rw[show(ah o).toArray= #[iv x0,iv x1,iv x2] from by rw[hxs];rfl] at hcb
  obtain⟨cc4,cf4,cl4⟩:=af hcb
  have HR:=ae hright
  have HS:=ae hst
  have HJ:=ae hJ
  have HI:=ae hInv
  have HST:=ae hstep
  have HY:=ae hY
  have HK:=ae (show ∃h:k<(tZ D).length,(tZ D)[k]=pre from⟨hk',hxx⟩)
  have HO:=ae (ag hol (ag hot (ag hod (ag hop hag))))
  have heq:((i:Int)==(D.heaps.length:Int))=true:=by simpa using hrow
  clear hright hInv hstep hY hst hJ hbf VJ htl hov hat hcb hop hag hxs hx hxx hk hk' hone hrow hot hod hmem hstr
  obtain⟨q,hq⟩: ∃q,rW D out pre=q:=⟨_,rfl⟩
  have HQ:=ae hq
  rw[hq] at HR
  clear hq
  cases q
  ·skip
   refine callsIn_of_wp Tryz.func151 rfl trivial ?_
   simp only[Tryz.ntmps151,List.size_toArray,List.length_cons,List.length_nil,Nat.reduceAdd,Nat.reduceSub,Array.replicate_succ,Array.replicate_zero,kZ,lg,List.nil_append,List.cons_append]
   gi_wp2_with fail
   refine(callsIn_wide.2 HR.o).mono ?_
   rintro e W1 ⟨rfl,hb1⟩
   have HB1:=ae hb1
   clear hb1
   gi_wp2_with fail
   go_returns
   have hJ1:=HST.o _ _ _ _ _ HJ.o (Ext.az HB1.o) (fun m hm=> .inl hm) trivial
   obtain⟨hk',hxx⟩:=HK.o
   rw[<-abU hk' (by rw[hxx];exact HQ.o)] at hJ1
   exact .inl ⟨by simp,hJ1,o,HO.o.1,HO.o.2.1,HO.o.2.2.1,HS.o.below HB1.o⟩
  ·skip
   refine callsIn_of_wp Tryz.func151 rfl trivial ?_
   simp only[Tryz.ntmps151,List.size_toArray,List.length_cons,List.length_nil,Nat.reduceAdd,Nat.reduceSub,Array.replicate_succ,Array.replicate_zero,kZ,lg,List.nil_append,List.cons_append]
   gi_wp2_with fail
   refine(callsIn_wide.2 HR.o).mono ?_
   rintro e W1 ⟨rfl,hb1⟩
   obtain⟨hc1,hf1⟩:=bK hb1
   have hs1:=hb1.size
   have HB1:=ae hb1
   have hJ1:=HST.o _ _ _ _ _ HJ.o (Ext.az hb1) (fun m hm=> .inl hm) trivial
   obtain⟨hk',hxx⟩:=HK.o
   obtain⟨hc,hx⟩:=PW hk' (by rw[hxx];exact HQ.o)
   obtain⟨g1,t1,a1,b1,hy1,hR1⟩:=HY.o _ _ (.agg #[iv x0,iv x1,iv x2]) W1 hc hJ1 (by
    show _=lJ (ku _)
    rw[hx,hxx, <-HO.o.2.2.2.1,HO.o.2.2.2.2])
   have hcn:yP D out (k+1)=yP D out k+1:=ZR hk' (by rw[hxx];exact HQ.o)
   have HR1:=ae hR1
   have HCN:=ae hcn
   clear hR1 hJ1 hk' hxx hc hx hcn hb1
   gi_wp2_with fail
   refine HR1.o.mono ?_
   rintro e W' ⟨⟨hkeep,hsz⟩,⟨rfl,hJ⟩|⟨rfl,hJ⟩⟩
   ·have HJ':=ae hJ
    have HK':=ae hkeep
    clear hJ hkeep
    gi_wp2_with fail
    go_returns
    refine .inl ⟨by simp,by rw[HCN.o];exact HJ'.o,o,HO.o.1,HO.o.2.1,HO.o.2.2.1,(HS.o.below HB1.o).kept (fun m hm hml=>HK'.o m hm (by simp) hml)⟩
   ·have HJ':=ae hJ
    clear hJ hkeep
    gi_wp2_with fail
    go_returns
    exact .inr ⟨by simp,HJ'.o⟩
 |succ m ih=>
  intro i k pre W o him hpl hol hot hod hat hst hJ
  have hi:i<(D.heaps).length:=by omega
  have hcount:=jD.count hi
  have hrg:=hS.rg hi
  have hsz0:=hS.sz _ (bY hi)
  obtain⟨r,Dj⟩: ∃r,D.heaps[i]=r:=⟨_,rfl⟩
  rw[Dj] at hrg hsz0 hcount
  obtain⟨z,hz,hz4⟩: ∃z:Nat,(z:Int)=ed r/\z<=101:=⟨(ed r).toNat,by omega,by unfold ed;omega⟩
  have hsz:(ed r).toNat=z:=by omega
  rw[hsz] at hcount
  obtain⟨hbf,VJ,htl,hov⟩:=hInv _ _ _ hJ
  obtain⟨PG,cf1,Si⟩:=af hbf
  have hne:(i:Int)≠(D.heaps.length:Int):=by omega
  have hneb:((i:Int)==(D.heaps.length:Int))=false:=by simpa using hne
  have Xk:Hid (∀c:Nat,c<z->jD (D.heaps) (i+1) (k+c*(fB ((D.heaps).drop (i+1))).length) (pre++[r.1+(c:Int)])):=ae (fun c hc=>by
   have:=hat.next hi c (by rw[Dj,hsz];exact hc)
   rw[Dj] at this
   exact this)
  obtain⟨bh,anc,hoh,hbh,hh0,VG⟩:=bM.cell htl.heaps hi
  cases hoh
  rw[Dj] at hh0 VG
  have HI:=ae hInv
  have HST:=ae hstep
  have HS:=ae hst
  have HJ:=ae hJ
  have HIH:=ae ih
  have JH:=ae (ag hol (ag hot hod))
  have HCZ:=ae hcount
  have HZ:=ae hz
  have hi3:i<3:=by omega
  have agt:(i:Int)<3:=by omega
  have hiI:(i:Int)<D.heaps.length:=by omega
  have HRI:=ae (show ∃h:i<D.heaps.length,D.heaps[i]=r from⟨hi,Dj⟩)
  have hiR:i<D.heaps.length:=by omega
  clear hInv hstep hY hat hst hJ ih hcount hne hbf VJ htl hov Dj hsz hi hol hot hod hz
  refine callsIn_of_wp Tryz.func151 rfl trivial ?_
  simp only[Tryz.ntmps151,List.size_toArray,List.length_cons,List.length_nil,Nat.reduceAdd,Nat.reduceSub,Array.replicate_succ,Array.replicate_zero,kZ,lg,List.nil_append,List.cons_append]
  gi_wp2_with fail
  refine(callsIn_wide.2 (Jh r _ hrg.1 hrg.2.1 (by omega))).mono ?_
  rintro e W1 ⟨rfl,hb1⟩
  have LC:=ae (HS.o.below hb1)
  have HJ1:=ae (HST.o _ _ _ _ _ HJ.o (Ext.az hb1) (fun m hm=> .inl hm) trivial)
  clear hb1 hh0 VG hbh PG cf1 Si
  rw[<-HZ.o]
  gi_wp2_with fail
  gi_loopw [30] (fun u wr=> ∃c:Nat,c<=z/\u= .int .i64 c/\ ∃o':List Int,o'.length=3/\o'.take i=pre/\o'.drop D.heaps.length=List.replicate (3-D.heaps.length) 0/\XH wr bf bo jl ab bc l o'/\J [ab,jl,bc] (some (yP D out (k+c*(fB ((D.heaps).drop (i+1))).length))) wr)
   (fun u _=>z-(intOf u).toNat)
  case atStart=>exact⟨0,bW _,rfl,o,JH.o.1,JH.o.2.1,JH.o.2.2,LC.o,by simpa using HJ1.o⟩
  case round=>
   obtain⟨c,hcz,rfl,o',ho1,ho2,ho3,hst,hJ⟩:=hrel
   by_cases hlt:c<z
   ·obtain⟨hbf,VJ,htl,hov⟩:=HI.o _ _ _ hJ
    obtain⟨cd1,OQ,OA⟩:=af hbf
    obtain⟨cd3,OO,Oz⟩:=af hst.ch
    obtain⟨y,hcell⟩: ∃y,wr.cell? ⟨ab,i,none⟩=some (iv y):=⟨_,gu hst.cells (show i<o'.length by omega)⟩
    have hab:=dF wr _ hcell
    have hfr:=bn hst.cells i
    obtain⟨hi',afS⟩:=HRI.o
    obtain⟨bh',alg,ajd,hbh,hh0,VG⟩:=bM.cell htl.heaps hi'
    cases ajd
    rw[afS] at hh0 VG
    clear hi' afS
    have GR:=ae hst
    have Tz:=ae hJ
    have HO:=ae (ag ho1 (ag ho2 ho3))
    have FV:(c:Int)<z:=by omega
    have acx:(z:Int)=ed r:=HZ.o
    unfold ed at acx
    have hv0: -9223372036854775808<=r.1+(c:Int)/\r.1+(c:Int)<=9223372036854775807:=by omega
    clear hst hJ hbf VJ htl hov ho1 ho2 ho3 acx
    have FQ:=GR.o.set hd1 hd3 i (r.1+(c:Int))
    have Zw:J [ab,jl,bc] (some (yP D out (k+c*(fB ((D.heaps).drop (i+1))).length))) (wr.setCell ⟨ab,i,none⟩ (iv (r.1+(c:Int)))):=
     HST.o _ _ _ _ _ Tz.o ((lY wr ⟨ab,i,none⟩ _).more (fun x hx=>by simp at hx;subst hx;simp)) (fun m hm=> .inl hm) trivial
    have hcall:=HIH.o (i+1) _ (pre++[r.1+(c:Int)]) _ (o'.set i (r.1+(c:Int))) (by omega) (by simp[hpl]) (by simp[HO.o.1]) (by
     rw[List.take_set]
     rw[qK,HO.o.2.1]
     have hio:i<o'.length:=by have:=HO.o.1;omega
     rw[dG hio]
     simp[qh,hpl]) (by
     rw[List.drop_set,aC hiR];exact HO.o.2.2) (Xk.o c hlt) FQ Zw
    rw[show((i+1:Nat):Int)=(i:Int)+1 from by omega] at hcall
    have Bv:=ae hcall
    clear hcall FQ Zw
    gi_wp2_with fail
    refine Bv.o.mono ?_
    rintro e W2 (⟨rfl,hJ2,o2,ho1,ho2,ho3,hst2⟩|⟨rfl,hJ2⟩)
    ·have HJ2:=ae hJ2
     have Tf:=ae hst2
     have zV:=ae (ag ho1 (ag ho2 ho3))
     clear hJ2 hst2 ho1 ho2 ho3 cd1 OQ OA cd3 OO Oz hcell hab hfr hbh hh0 VG
     gi_wp2_with fail
     go_roundw
     case rel=>
      refine⟨c+1,by omega,by go_num,o2,zV.o.1,?_,zV.o.2.2,Tf.o,?_⟩
      ·have:=congrArg (List.take i) zV.o.2.1
       rw[List.take_take,Nat.min_eq_left (by omega)] at this
       rw[this,tq (by omega),kC (by omega)]
      ·rw[Nat.add_mul,Nat.one_mul, <-Nat.add_assoc];exact HJ2.o
     case measure=>simp[intOf];omega
    ·have HJ2:=ae hJ2
     clear hJ2 cd1 OQ OA cd3 OO Oz hcell hab hfr hbh hh0 VG
     gi_wp2_with fail
     go_returns
     exact .inr ⟨by simp,HJ2.o⟩
   ·have Ri:c=z:=by omega
    subst Ri
    have Tz:=ae hJ
    have GR:=ae hst
    have HO:=ae (ag ho1 (ag ho2 ho3))
    clear hJ hst ho1 ho2 ho3
    gi_wp2_with fail
    go_returns
    refine .inl ⟨by simp,?_,o',HO.o.1,HO.o.2.1,HO.o.2.2,GR.o⟩
    rw[HCZ.o];exact Tz.o
theorem ND (D:bJ) (hS:nz D) (oh ok ot:Option Addr) (ch ck ct:Nat) (ov:Value) (es:List KE) (out:List Int) (bf bo:Nat):
 WZ Tryz.prog 150 #[.pointer (some ⟨bf,0,none⟩),.pointer (some ⟨bo,0,none⟩)] (dA D out) ahv [] (fun _=>True) (ahA bf bo D (.slice oh D.heaps.length ch) (.slice ok D.aU.length ck) (.slice ot D.aJ.length ct) ov es out):=by
 intro l J W hInv hstep hY h0
 have hch:=fun jl ab bc hd1 hd3=>NQ D hS oh ok ot ch ck ct ov es out bf bo jl ab bc l hd1 hd3 J hInv hstep hY
 have hh3:=hS.h3
 have HCH:=ae hch
 have HST:=ae hstep
 have HJ:=ae h0
 have hn2: ∀(A B:Obj) (v:Value) (t:TypeId),(((W.alloc A).alloc B).alloc (.cells #[v] t)).cell? ⟨W.heap.size+1+1,0,none⟩=some v:=fun A B v t=>aA (gZ W A B _)
 have hf2: ∀(A B:Obj) (v:Value) (t:TypeId),(((W.alloc A).alloc B).alloc (.cells #[v] t)).frozen? ⟨W.heap.size+1+1,0,none⟩=false:=fun A B v t=>bn (gZ W A B _) 0
 clear hInv hstep hY hch h0 hS
 go_enter Tryz.func150,Tryz.ntmps150
 go_wp2_with fail
 refine(callsIn_wide.1 (HCH.o W.heap.size (W.heap.size+1) (W.heap.size+1+1) (by omega) (by omega) D.heaps.length 0 0 [] _ (List.replicate 3 0) (by omega) rfl (by simp) (by simp) (by rw[List.drop_replicate]) (jD.zero _) ⟨?_,?_,?_⟩
  (HST.o _ _ _ _ _ HJ.o (Ext.az zl) (fun m hm=> .inr (by simp at hm;(first|omega|(simp;omega)))) trivial))).mono ?_
 ·exact(aW _ _ _ (by simp;omega)).trans ((aW _ _ _ (by simp)).trans (ay _ _))
 ·exact gZ _ _ _ _
 ·exact(aW _ _ _ (by simp)).trans (dW _ _ _)
 ·rintro e W2 (⟨rfl,hJ2,_⟩|⟨rfl,hJ2⟩)
  ·have HJ2:=ae hJ2
   clear hJ2 hn2 hf2
   go_wp2_with fail
   go_end0
   refine⟨⟨_,rfl⟩,[W.heap.size+1,W.heap.size,W.heap.size+1+1],.inl ?_⟩
   have:=HJ2.o
   rw[<-ZT]
   simpa [tZ] using this
  ·have HJ2:=ae hJ2
   clear hJ2 hn2 hf2
   go_wp2_with fail
   go_end0
   exact⟨⟨_,rfl⟩,_,.inr HJ2.o⟩
theorem NF (hv nN tv:Value) (o:Option Addr) (n c:Nat) (w:World):
 Calls Tryz.prog 85 #[kv hv nN tv,.slice o n c] w (fun e w'=>e= .returned (.func (.func 150) #[] #[.pointer (some ⟨w.heap.size,0,none⟩),.pointer (some ⟨w.heap.size+1,0,none⟩)])/\
  w'=(w.alloc (.cells #[hv,nN,tv] 44)).alloc (.cells #[.slice o n c] 36)):=by
 go_enter Tryz.func85,Tryz.ntmps85
 go_wp2
 go_returns
 exact⟨by simp,rfl⟩
end Go.Proofs.YthbpmepjmebolaaGreatDoor.yR
end
section
namespace Go.Proofs.YthbpmepjmebolaaGreatDoor.yR
open Go.RowKit Go.RG Go.SL Go.Shelf ji Go.TB
section
variable (c : bJ) (oh ok ot : Option Addr) (ch ck ct : Nat) (w : World)
theorem YS (h:3<c.heaps.length∨3<c.aU.length∨5<c.aJ.length):Calls Tryz.prog 84 #[kv (.slice oh c.heaps.length ch) (.slice ok c.aU.length ck) (.slice ot c.aJ.length ct)] w (PV (iv 3) w):=by
 by_cases h1:(3:Int)<c.heaps.length
 ·skip
  go_enter Tryz.func84,Tryz.ntmps84
  go_wp2_with fail
  refine zg 6 [] none [] ?_
  simp only[zt]
  repeat (refine zn ?_;simp only[zp])
  intro W hE hF
  obtain⟨hc,hf⟩:=bK hE.below
  have hzE:=hE.size
  (try simp only[bz] at hzE)
  have HB0:=ae (show Below w.heap.size w W from bg (aj (aG _ _) _) hE.below)
  have hk0:W.heap[w.heap.size]? =some (.cells #[.slice oh c.heaps.length ch,.slice ok c.aU.length ck,.slice ot c.aJ.length ct] 44 (0,0)):=(hE.block _ (by simp) (by simp)).trans (ay _ _)
  clear hE hF hc hf hzE
  obtain⟨d0,f0,m0⟩:=af hk0
  clear hk0
  go_wp2_with fail
  go_returns
  exact⟨by simp,HB0.o⟩
 by_cases h2:(3:Int)<c.aU.length
 ·skip
  go_enter Tryz.func84,Tryz.ntmps84
  go_wp2_with fail
  refine zg 6 [] none [] ?_
  simp only[zt]
  repeat (refine zn ?_;simp only[zp])
  intro W hE hF
  obtain⟨hc,hf⟩:=bK hE.below
  have hzE:=hE.size
  (try simp only[bz] at hzE)
  have HB0:=ae (show Below w.heap.size w W from bg (aj (aG _ _) _) hE.below)
  have hk0:W.heap[w.heap.size]? =some (.cells #[.slice oh c.heaps.length ch,.slice ok c.aU.length ck,.slice ot c.aJ.length ct] 44 (0,0)):=(hE.block _ (by simp) (by simp)).trans (ay _ _)
  clear hE hF hc hf hzE
  obtain⟨d0,f0,m0⟩:=af hk0
  clear hk0
  go_wp2_with fail
  go_returns
  exact⟨by simp,HB0.o⟩
 have h3:(5:Int)<c.aJ.length:=by omega
 clear h
 go_enter Tryz.func84,Tryz.ntmps84
 go_wp2_with fail
 refine zg 6 [] none [] ?_
 simp only[zt]
 repeat (refine zn ?_;simp only[zp])
 intro W hE hF
 obtain⟨hc,hf⟩:=bK hE.below
 have hzE:=hE.size
 (try simp only[bz] at hzE)
 have HB0:=ae (show Below w.heap.size w W from bg (aj (aG _ _) _) hE.below)
 have hk0:W.heap[w.heap.size]? =some (.cells #[.slice oh c.heaps.length ch,.slice ok c.aU.length ck,.slice ot c.aJ.length ct] 44 (0,0)):=(hE.block _ (by simp) (by simp)).trans (ay _ _)
 clear hE hF hc hf hzE
 obtain⟨d0,f0,m0⟩:=af hk0
 clear hk0
 go_wp2_with fail
 go_returns
 exact⟨by simp,HB0.o⟩
theorem Vu (h1: ¬(3:Int)<c.heaps.length) (h2: ¬(3:Int)<c.aU.length) (h3: ¬(5:Int)<c.aJ.length) (h4:((c.heaps.length:Int)==0)=true):Calls Tryz.prog 84 #[kv (.slice oh c.heaps.length ch) (.slice ok c.aU.length ck) (.slice ot c.aJ.length ct)] w (PV (iv 1) w):=by
 go_enter Tryz.func84,Tryz.ntmps84
 go_wp2_with fail
 refine zg 6 [] none [] ?_
 simp only[zt]
 repeat (refine zn ?_;simp only[zp])
 intro W hE hF
 obtain⟨hc,hf⟩:=bK hE.below
 have hzE:=hE.size
 (try simp only[bz] at hzE)
 have HB0:=ae (show Below w.heap.size w W from bg (aj (aG _ _) _) hE.below)
 have hk0:W.heap[w.heap.size]? =some (.cells #[.slice oh c.heaps.length ch,.slice ok c.aU.length ck,.slice ot c.aJ.length ct] 44 (0,0)):=(hE.block _ (by simp) (by simp)).trans (ay _ _)
 clear hE hF hc hf hzE
 obtain⟨d0,f0,m0⟩:=af hk0
 clear hk0
 go_wp2_with fail
 go_returns
 exact⟨by simp,HB0.o⟩
theorem Vt (es:List KE) (hc:qV w (.slice oh c.heaps.length ch) (.slice ok c.aU.length ck) (.slice ot c.aJ.length ct) es c) (h1: ¬(3:Int)<c.heaps.length) (h2: ¬(3:Int)<c.aU.length) (h3: ¬(5:Int)<c.aJ.length) (h4:((c.heaps.length:Int)==0)=false)
 (res:Int) (hres:res=if c.heaps.all (vz · 100)=false∨c.aU.all (ve c)=false∨c.aJ.all (rO c)=false then 1 else if 2000<tH c.heaps then 3 else 0):
 Calls Tryz.prog 84 #[kv (.slice oh c.heaps.length ch) (.slice ok c.aU.length ck) (.slice ot c.aJ.length ct)] w (PV (iv res) w):=by
 have hel:=hc.len
 have HR:=ae (fun(W:World) (hb:Below w.heap.size w W)=>QV c.heaps (.slice oh c.heaps.length ch) 145 #[] #[] (vz · 100) W (hc.heaps.below hb (ai _)) (enters_of Tryz.func145 (by kernel_rfl) rfl) (fun x _ W _=>rQ x W))
 have HKK:=ae (fun(W:World) (hb:Below w.heap.size w W)=>by
  have:=QW es (.slice ok c.aU.length ck) 143 #[kv (.slice oh c.heaps.length ch) (.slice ok c.aU.length ck) (.slice ot c.aJ.length ct)] #[] (fun e=>ve c e.2) W (hc.aU.below hb (ai _)) (enters_of Tryz.func143 (by kernel_rfl) rfl) (fun e he W' hb'=>QZ c oh ch _ _ e W' ((hc.aU.2 e he).below (bg hb hb') (ai _)) (by omega))
  rw[show es.all (fun e=>ve c e.2)=c.aU.all (ve c) from by rw[<-hc.is,List.all_map];rfl] at this
  exact this)
 have HTT:=ae (fun(W:World) (hb:Below w.heap.size w W)=>QU c.aJ (.slice ot c.aJ.length ct) 142 #[kv (.slice oh c.heaps.length ch) (.slice ok c.aU.length ck) (.slice ot c.aJ.length ct)] #[] (rO c) W (hc.aJ.below hb (ai _)) (enters_of Tryz.func142 (by kernel_rfl) rfl) (fun x _ W _=>QR c oh ok ch ck _ x W (by omega) (by omega)))
 have HHP:=ae (fun(W:World) (hb:Below w.heap.size w W)=>hc.heaps.below hb (ai _))
 have Xg:=ae hres
 clear hc hel hres
 cases hA:c.heaps.all (vz · 100)
 ·rw[hA] at HR
  have Es:Hid (res=1):=ae (by rw[Xg.o,aC (.inl hA)])
  clear hA
  go_enter Tryz.func84,Tryz.ntmps84
  go_wp2_with fail
  refine zg 6 [] none [] ?_
  simp only[zt]
  repeat (refine zn ?_;simp only[zp])
  intro W hE hF
  obtain⟨hc,hf⟩:=bK hE.below
  have hzE:=hE.size
  (try simp only[bz] at hzE)
  have HB0:=ae (show Below w.heap.size w W from bg (aj (aG _ _) _) hE.below)
  have hk0:W.heap[w.heap.size]? =some (.cells #[.slice oh c.heaps.length ch,.slice ok c.aU.length ck,.slice ot c.aJ.length ct] 44 (0,0)):=(hE.block _ (by simp) (by simp)).trans (ay _ _)
  clear hE hF hc hf hzE
  obtain⟨d0,f0,m0⟩:=af hk0
  clear hk0
  go_wp2_with fail
  refine(HR.o _ HB0.o).mono ?_
  rintro e w1 ⟨rfl,hb⟩
  have hk0:=hb.block _ m0
  obtain⟨dd,ff⟩:=bK hb
  have HB1:=ae (bg HB0.o hb)
  clear hb hk0
  go_wp2_with fail
  go_returns
  exact⟨by rw[Es.o];simp,HB1.o⟩
 rw[hA] at HR
 cases hK:c.aU.all (ve c)
 ·rw[hK] at HKK
  have Es:Hid (res=1):=ae (by rw[Xg.o,aC (.inr (.inl hK))])
  clear hA hK
  go_enter Tryz.func84,Tryz.ntmps84
  go_wp2_with fail
  refine zg 6 [] none [] ?_
  simp only[zt]
  repeat (refine zn ?_;simp only[zp])
  intro W hE hF
  obtain⟨hc,hf⟩:=bK hE.below
  have hzE:=hE.size
  (try simp only[bz] at hzE)
  have HB0:=ae (show Below w.heap.size w W from bg (aj (aG _ _) _) hE.below)
  have hk0:W.heap[w.heap.size]? =some (.cells #[.slice oh c.heaps.length ch,.slice ok c.aU.length ck,.slice ot c.aJ.length ct] 44 (0,0)):=(hE.block _ (by simp) (by simp)).trans (ay _ _)
  clear hE hF hc hf hzE
  obtain⟨d0,f0,m0⟩:=af hk0
  clear hk0
  go_wp2_with fail
  refine(HR.o _ HB0.o).mono ?_
  rintro e w1 ⟨rfl,hb⟩
  obtain⟨dd,ff⟩:=bK hb
  have hl1:=gy m0 hb.size
  have HB1:=ae (bg HB0.o hb)
  clear hb
  go_wp2_with fail
  refine(HKK.o _ HB1.o).mono ?_
  rintro e w2 ⟨rfl,hb⟩
  have HB2:=ae (bg HB1.o hb)
  clear hb
  go_wp2_with fail
  go_returns
  exact⟨by rw[Es.o];simp,HB2.o⟩
 rw[hK] at HKK
 cases hT:c.aJ.all (rO c)
 ·rw[hT] at HTT
  have Es:Hid (res=1):=ae (by rw[Xg.o,aC (.inr (.inr hT))])
  clear hA hK hT
  go_enter Tryz.func84,Tryz.ntmps84
  go_wp2_with fail
  refine zg 6 [] none [] ?_
  simp only[zt]
  repeat (refine zn ?_;simp only[zp])
  intro W hE hF
  obtain⟨hc,hf⟩:=bK hE.below
  have hzE:=hE.size
  (try simp only[bz] at hzE)
  have HB0:=ae (show Below w.heap.size w W from bg (aj (aG _ _) _) hE.below)
  have hk0:W.heap[w.heap.size]? =some (.cells #[.slice oh c.heaps.length ch,.slice ok c.aU.length ck,.slice ot c.aJ.length ct] 44 (0,0)):=(hE.block _ (by simp) (by simp)).trans (ay _ _)
  clear hE hF hc hf hzE
  obtain⟨d0,f0,m0⟩:=af hk0
  clear hk0
  go_wp2_with fail
  refine(HR.o _ HB0.o).mono ?_
  rintro e w1 ⟨rfl,hb⟩
  obtain⟨dd,ff⟩:=bK hb
  have hl1:=gy m0 hb.size
  have HB1:=ae (bg HB0.o hb)
  clear hb
  go_wp2_with fail
  refine(HKK.o _ HB1.o).mono ?_
  rintro e w2 ⟨rfl,hb⟩
  obtain⟨dd2,ff2⟩:=bK hb
  have hl2:=gy hl1 hb.size
  have HB2:=ae (bg HB1.o hb)
  clear hb
  go_wp2_with fail
  refine(HTT.o _ HB2.o).mono ?_
  rintro e w3 ⟨rfl,hb⟩
  have HB3:=ae (bg HB2.o hb)
  clear hb
  go_wp2_with fail
  go_returns
  exact⟨by rw[Es.o];simp,HB3.o⟩
 rw[hT] at HTT
 have hok: ∀r∈c.heaps,0<=r.1/\r.1<=r.2/\r.2<=100/\1<=ed r/\ed r<=101:=fun r hr=>xy (jJ.1 hA r hr)
 have Es:Hid (res=if 2000<tH c.heaps then 3 else 0):=ae (by rw[Xg.o,ak];simp[hA,hK,hT])
 have jo:=ae hok
 clear hA hK hT hok
 go_enter Tryz.func84,Tryz.ntmps84
 go_wp2_with fail
 refine zg 6 [] none [] ?_
 simp only[zt]
 repeat (refine zn ?_;simp only[zp])
 intro W hE hF
 obtain⟨hc,hf⟩:=bK hE.below
 have hzE:=hE.size
 (try simp only[bz] at hzE)
 have HB0:=ae (show Below w.heap.size w W from bg (aj (aG _ _) _) hE.below)
 have hk0:W.heap[w.heap.size]? =some (.cells #[.slice oh c.heaps.length ch,.slice ok c.aU.length ck,.slice ot c.aJ.length ct] 44 (0,0)):=(hE.block _ (by simp) (by simp)).trans (ay _ _)
 clear hE hF hc hf hzE
 obtain⟨d0,f0,m0⟩:=af hk0
 clear hk0
 go_wp2_with fail
 refine(HR.o _ HB0.o).mono ?_
 rintro e w1 ⟨rfl,hb⟩
 obtain⟨dd,ff⟩:=bK hb
 have hl1:=gy m0 hb.size
 have HB1:=ae (bg HB0.o hb)
 clear hb
 go_wp2_with fail
 refine(HKK.o _ HB1.o).mono ?_
 rintro e w2 ⟨rfl,hb⟩
 obtain⟨dd2,ff2⟩:=bK hb
 have hl2:=gy hl1 hb.size
 have HB2:=ae (bg HB1.o hb)
 clear hb
 go_wp2_with fail
 refine(HTT.o _ HB2.o).mono ?_
 rintro e w3 ⟨rfl,hb⟩
 obtain⟨dd3,ff3⟩:=bK hb
 have hl3:=gy hl2 hb.size
 have HB3:=ae (bg HB2.o hb)
 clear hb
 go_wp2_with fail
 have HC3:=ae (show ∀i,w3.cell? ⟨w.heap.size,i,none⟩=(#[.slice oh c.heaps.length ch,.slice ok c.aU.length ck,.slice ot c.aJ.length ct]:Array Value)[i]? from fun i=>(dd3 _ _ hl2).trans ((dd2 _ _ hl1).trans ((dd _ _ m0).trans (d0 i))))
 clear d0 f0 m0 dd ff dd2 ff2 dd3 ff3 hl1 hl2 hl3
 go_loopw [5,57] (fun m i wr=> ∃k:Nat,k<=c.heaps.length/\i= .int .i64 k/\m= .int .i64 (uu c.heaps k)/\Below w.heap.size w wr) (fun _ i _=>c.heaps.length-(intOf i).toNat)
 case atStart=>exact⟨0,bW _,rfl,rfl,HB3.o⟩
 case round=>
  obtain⟨k,hk,rfl,rfl,hB⟩:=hrel
  have hv:=HHP.o wr hB
  by_cases hlt:k<c.heaps.length
  ·obtain⟨b,off,hoo,hb,hc0,hc1⟩:=bM.cell hv hlt
   cases hoo
   have hr:=jo.o _ (bY hlt)
   have hs:=Gw c.heaps k hlt
   have hbd:=OV c.heaps (fun r hr=>(jo.o r hr).2.2.2.1) k
   generalize c.heaps[k]=r at hc0 hc1 hr hs
   obtain⟨hr1,hr2,hr3,hr4,KJ⟩:=hr
   unfold qY at hs
   generalize uu c.heaps k=cc at hs hbd
   obtain⟨hb1,hb2⟩:=hbd
   have HS:=ae hs
   have HB:=ae hB
   clear hs hv hB
   have hmul:0<=cc*ed r/\cc*ed r<=2001*101:=⟨Int.mul_nonneg (by omega) (by omega),Int.mul_le_mul hb2 KJ (by omega) (by omega)⟩
   obtain⟨hm1,hm2⟩:=hmul
   go_wp2_with fail
   refine(Jh r _ hr1 hr2 (by omega)).mono ?_
   rintro e w4 ⟨rfl,hb3⟩
   obtain⟨hc,hf⟩:=bK hb3
   go_wp2_with fail
   refine(NJ (cc*ed r) 2001 _ _ _ ?_ ?_).mono ?_
   ·go_simp
   ·go_simp
   rintro e w5 ⟨rfl,hb4⟩
   go_wp2_with fail
   go_roundw
   case rel=>exact⟨k+1,by omega,by go_num,by rw[HS.o],bg (aj (bg (aj HB.o _) hb3) _) hb4⟩
   case measure=>simp[intOf];omega
  ·have hkl:k=c.heaps.length:=by omega
   have hend:=Jz c.heaps (fun r hr=>(jo.o r hr).2.2.2.1)
   have hr:=Es.o
   rw[<-hkl] at hend
   generalize uu c.heaps k=cc at hend
   clear hv
   by_cases hc:2000<cc
   ·rw[aC (hend.1 hc)] at hr
    have HRR:=ae hr
    clear hr hend
    go_wp2_with fail
    go_returns
    exact⟨by rw[HRR.o];simp,hB⟩
   ·rw[ak (fun x=>hc (hend.2 x))] at hr
    have HRR:=ae hr
    clear hr hend
    go_wp2_with fail
    go_returns
    exact⟨by rw[HRR.o];simp,hB⟩
end
theorem FN (c:bJ) (hv nN tv:Value) (es:List KE) (w:World) (hc:qV w hv nN tv es c):Calls Tryz.prog 84 #[kv hv nN tv] w (PV (iv (pU c)) w):=by
 obtain⟨oh,ch,rfl⟩:=hc.heaps.open
 obtain⟨ok,ck,rfl⟩:=hc.aU.open
 obtain⟨ot,ct,rfl⟩:=hc.aJ.open
 rw[hc.len] at hc⊢
 unfold pU
 by_cases hl:3<c.heaps.length∨3<c.aU.length∨5<c.aJ.length
 ·rw[aC hl];exact YS c oh ok ot ch ck ct w hl
 rw[ak hl]
 by_cases h4:c.heaps.length=0
 ·rw[aC (.inl h4)]
  exact Vu c oh ok ot ch ck ct w (by omega) (by omega) (by omega) (by simpa using h4)
 ·refine Vt c oh ok ot ch ck ct w es hc (by omega) (by omega) (by omega) (by simpa using h4) _ ?_
  simp only[h4,false_or]
end Go.Proofs.YthbpmepjmebolaaGreatDoor.yR
end
section
namespace Go.Proofs.YthbpmepjmebolaaGreatDoor.yR
open Go.RowKit Go.RG Go.SL Go.Shelf ji Go.TB
attribute [local go_sem] Oper.semAt_some
theorem UZ (r:dP):(rX r).Pairwise (· ≠ ·):=by
 unfold rX
 rw[List.pairwise_map]
 exact List.nodup_range.imp (fun h e=>h (by omega))
theorem Yi: ∀(rs:List dP),(fB rs).Pairwise (· ≠ ·):=by
 intro rs
 induction rs with
 |nil=>simp[fB]
 |cons r rs ih=>
  refine uC _ _ _ (fun x _=>?_) ?_
  ·rw[List.pairwise_map]
   exact ih.imp (fun h e=>h (List.cons.inj e).2)
  ·refine(UZ r).imp (fun {a b} h u hu v hv e=>?_)
   obtain⟨s,_,rfl⟩:=iW.1 hu
   obtain⟨t,_,rfl⟩:=iW.1 hv
   exact h (List.cons.inj e).1
theorem PU (c:bJ) (out:List Int):(dA c out).Pairwise (· ≠ ·):=(Yi c.heaps).filter _
theorem Yp {a b:List Int} (h:a.length=b.length) (e:ku a=ku b):a=b:=by
 unfold ku at e
 exact(List.append_inj e h).1
theorem afh:iq Tryz.prog 170 177 (.agg #[iv 0,iv 0,iv 0]) 3 24:=⟨Tryz.underlying170,by kernel_rfl,rfl,by omega⟩
structure Pq (B:Nat) (hv nN tv:Value) (ls:List (List Int)) (Ms:List Nat) (W:World):Prop where
 work: ∃v,W.heap[B]? =some (.cells #[hv,nN,tv,v] 172 (0,0))/\W.ownsRow (B+6) 177 3 v ls.length (ls.flatMap ah)/\ ∀g,v.ownBlock=some g->g∉Ms/\g<W.heap.size
 ptr:W.heap[B+1]? =some (.cells #[.pointer (some ⟨B,0,none⟩)] 109 (0,0))
 b2:W.heap[B+2]? =some (.cells #[hv,nN,tv] 44 (0,0))
 b3:W.heap[B+3]? =some (.cells #[.slice none 0 0] 36 (0,0))
theorem Pq.kept {B:Nat} {hv nN tv:Value} {ls:List (List Int)} {Ms Ms':List Nat} {W W':World} (h:Pq B hv nN tv ls Ms W) (hs:W.heap.size<=W'.heap.size) (hk: ∀b,B<=b->b<B+4->W'.heap[b]? =W.heap[b]?)
 (ho: ∀g,B+6<=g->g<W.heap.size->g∉Ms->W'.heap[g]? =W.heap[g]?) (hM: ∀m∈Ms',m∈Ms∨(W.heap.size<=m/\m<W'.heap.size)):Pq B hv nN tv ls Ms' W':=by
 obtain⟨v,h1,h2,h3⟩:=h.work
 refine⟨⟨v,(hk _ (by omega) (by omega)).trans h1,dI h2 fun g hg=>ho g (bG h2 g hg).1 (bG h2 g hg).2 (h3 g hg).1,fun g hg=>⟨fun hm=>?_,by have:=(h3 g hg).2;omega⟩⟩,
  (hk _ (by omega) (by omega)).trans h.ptr,(hk _ (by omega) (by omega)).trans h.b2,(hk _ (by omega) (by omega)).trans h.b3⟩
 rcases hM g hm with h4|h4
 ·exact(h3 g hg).1 h4
 ·have:=(h3 g hg).2;omega
structure SI (W:World) (wb:Nat) (hv nN tv v:Value) (ls:List (List Int)):Prop where
 cells:W.heap[wb]? =some (.cells #[hv,nN,tv,v] 172 (0,0))
 truth:aP 3 W v ls.length (ls.flatMap ah)
theorem SI.lt {W:World} {wb:Nat} {hv nN tv v:Value} {ls:List (List Int)} (h:SI W wb hv nN tv v ls):wb<W.heap.size:=(aT.1 h.cells).1
theorem SI.below {W W':World} {wb:Nat} {hv nN tv v:Value} {ls:List (List Int)} (h:SI W wb hv nN tv v ls) {B:Nat} (hb:Below B W W') (hB:W.heap.size<=B):SI W' wb hv nN tv v ls:=
 ⟨(hb.block _ (by have:=h.lt;omega)).trans h.cells,h.truth.below hb hB⟩
def aaz (c:bJ) (hv nN tv:Value) (fine:Bool) (w:World) (e:Ending) (w':World):Prop:=
 Below w.heap.size w w'/\((iV c fine≠0/\e= .returned (.tuple #[.pointer none,.int .i64 (iV c fine)]))∨
  (iV c fine=0/\ ∃(wb:Nat) (v:Value),e= .returned (.tuple #[.pointer (some ⟨wb,0,none⟩),.int .i64 0])/\w.heap.size<=wb/\SI w' wb hv nN tv v ((dA c []).map ku)))
theorem QT (c:bJ) (hv nN tv:Value) (es:List KE) (g:Nat) (caps:Array Value) (fine:Bool) (w:World) (hc:qV w hv nN tv es c) (eg: ∀args w,(callFunc g args).run Tryz.prog w= .ok (.enter g args) w)
 (N7: ∀W,Below w.heap.size w W->Calls Tryz.prog g caps W (PV (.bool fine) W)):
 Calls Tryz.prog 48 #[kv hv nN tv,.func (.func g) #[] caps] w (aaz c hv nN tv fine w):=by
 obtain⟨oh,ch,rfl⟩:=hc.heaps.open
 obtain⟨ok,ck,rfl⟩:=hc.aU.open
 obtain⟨ot,ct,rfl⟩:=hc.aJ.open
 have hel:=hc.len
 rw[hel] at hc⊢
 have HC':Hid (∀W,Below w.heap.size w W->qV W (.slice oh c.heaps.length ch) (.slice ok c.aU.length ck) (.slice ot c.aJ.length ct) es c):=ae (fun W hb=>hc.below hb (ai _))
 have HF:=ae N7
 have HCK:=ae (fun(W:World) (hb:Below w.heap.size w W)=>FN c (.slice oh c.heaps.length ch) (.slice ok c.aU.length ck) (.slice ot c.aJ.length ct) es W (hc.below hb (ai _)))
 clear hc N7 hel
 by_cases hf0:pU c=0
 case neg=>
  have HE:Hid (iV c fine=pU c/\iV c fine≠0):=ae (by unfold iV;rw[aC hf0];exact⟨rfl,hf0⟩)
  generalize hff:pU c=e at*
  clear hff
  go_enter Tryz.func48,Tryz.ntmps48
  go_wp2_with fail
  refine(HCK.o _ (aj (aG _ _) _)).mono ?_
  rintro e w' ⟨rfl,hb⟩
  go_wp2_with fail
  go_returns
  exact⟨zl,.inl ⟨HE.o.2,by rw[HE.o.1];simp⟩⟩
 rw[hf0] at HCK
 have oH:=ae (IG hf0)
 have HF0:=ae hf0
 clear hf0
 cases fine
 ·have HE:Hid (iV c false=2):=ae (by unfold iV;rw[ak (by rw[HF0.o];simp),aC rfl])
  go_enter Tryz.func48,Tryz.ntmps48
  go_wp2_with fail
  refine(HCK.o _ (aj (aG _ _) _)).mono ?_
  rintro e w' ⟨rfl,hb⟩
  have HB1:=ae (show Below w.heap.size w w' from zl)
  clear hb
  go_wp2_with fail
  refine(HF.o _ HB1.o).mono ?_
  rintro e w2 ⟨rfl,hb⟩
  have HB2:=ae (bg HB1.o hb)
  clear hb
  go_wp2_with fail
  go_returns
  exact⟨HB2.o,.inl ⟨by rw[HE.o];simp,by rw[HE.o];simp⟩⟩
 have HE:Hid (iV c true=if(dA c []).isEmpty then 11 else 0):=ae (by unfold iV;rw[ak (by rw[HF0.o];simp),ak (by simp)])
 refine(callsIn_wide (n:=0)).1 ?_
 refine callsIn_of_wp_marks Tryz.func48 rfl trivial ?_
 simp only[Tryz.ntmps48,List.size_toArray,List.length_cons,List.length_nil,Nat.reduceAdd,Nat.reduceSub,Array.replicate_succ,Array.replicate_zero,kZ,lg,List.nil_append,List.cons_append]
 gi_wp2_with fail
 refine(callsIn_wide.2 (HCK.o _ (aj (aG _ _) _))).mono ?_
 rintro e w1 ⟨rfl,hb⟩
 obtain⟨hc1,hf1⟩:=bK hb
 have hz1:w.heap.size<w1.heap.size:=by have:=hb.size;simp at this;omega
 have HB1:=ae (show Below w.heap.size w w1 from zl)
 clear hb
 gi_wp2_with fail
 refine(callsIn_wide.2 (HF.o _ HB1.o)).mono ?_
 rintro e w2 ⟨rfl,hb⟩
 obtain⟨hc2,hf2⟩:=bK hb
 have hz2:w.heap.size<w2.heap.size:=by have:=hb.size;omega
 have HB2:=ae (bg HB1.o hb)
 clear hb
 gi_wp2_with fail
 refine(callsIn_wide.2 (NF _ _ _ none 0 0 _)).mono ?_
 rintro e w3 ⟨rfl,rfl⟩
 gi_wp2_with fail
 have hseq:=fun bf bo=>ND c oH.o oh ok ot ch ck ct (.slice none 0 0) es [] bf bo
 obtain⟨hv,hhv⟩: ∃hv,Value.slice oh c.heaps.length ch=hv:=⟨_,rfl⟩
 obtain⟨nN,age⟩: ∃nN,Value.slice ok c.aU.length ck=nN:=⟨_,rfl⟩
 obtain⟨tv,Jl⟩: ∃tv,Value.slice ot c.aJ.length ct=tv:=⟨_,rfl⟩
 rw[hhv,age,Jl] at hseq HC'⊢
 obtain⟨B,pK⟩: ∃B,w2.heap.size=B:=⟨_,rfl⟩
 rw[pK]
 obtain⟨w4,hw4⟩: ∃w4,((((w2.alloc (.cells #[hv,nN,tv,.slice none 0 0] 172)).alloc (.cells #[.pointer (some ⟨B,0,none⟩)] 109)).alloc (.cells #[hv,nN,tv] 44)).alloc (.cells #[.slice none 0 0] 36))=w4:=⟨_,rfl⟩
 have adA:w4.heap.size=B+4:=by rw[<-hw4];simp;omega
 have hwB:w.heap.size<B:=by omega
 have HB4:Hid (Below w.heap.size w w4):=ae (by rw[<-hw4];exact aj (aj (aj (aj HB2.o _) _) _) _)
 have HA4:Hid (Pq B hv nN tv [] [] w4):=ae (by
  rw[<-hw4]
  refine⟨⟨.slice none 0 0,?_,⟨rfl,.inl ⟨rfl,rfl⟩⟩,fun g hg=>by cases hg⟩,?_,?_,?_⟩
  ·rw[<-pK];exact(aW _ _ _ (by simp;omega)).trans ((aW _ _ _ (by simp;omega)).trans ((aW _ _ _ (by simp)).trans (ay _ _)))
  ·rw[<-pK];exact(aW _ _ _ (by simp)).trans ((aW _ _ _ (by simp)).trans (dW _ _ _))
  ·rw[<-pK];exact(aW _ _ _ (by simp)).trans (gZ _ _ _ _)
  ·rw[<-pK];exact lN _ _ _ _ _)
 rw[hw4]
 clear hw4 hc1 hf1 hz1 hc2 hf2
 have Jo: ∀b,b∈[w.heap.size,B,B+1,B+2,B+3,B+4,B+5]↔b=w.heap.size∨(B<=b/\b<B+6):=fun b=>by simp;omega
 obtain⟨Os,Oa⟩: ∃Os,[w.heap.size,B,B+1,B+2,B+3,B+4,B+5]=Os:=⟨_,rfl⟩
 rw[Oa] at Jo
 clear Oa
 refine mi (hseq (B+1+1) (B+1+1+1)) rfl (enters_of Tryz.func150 (by kernel_rfl) rfl) rfl (by simp)
  (fun Ms k W=>JK w Os Ms W/\Pq B hv nN tv (((dA c []).take k).map ku) Ms W)
  (fun _ _ _=>False)
  ?hInv ?sK ?hI ?hIx ?PD ?xK ?h0
  (fun a Ms k W1 a₁ W=> ∃(x:List Int) (bt:Nat),(dA c [])[k]? =some x/\a₁={tmps:=(a.tmps.setIfInBounds 24 (lJ (ku x))).setIfInBounds 8 (.pointer (some ⟨bt,0,none⟩)),defers:=[]}/\
    (JK w Os Ms W/\Pq B hv nN tv (((dA c []).take k).map ku) Ms W)/\(W.heap[bt]? =some (.cells (ah (ku x)).toArray 177 (0,0))/\B+6<=bt/\bt∉Ms/\(∀v,W.heap[B]? =some (.cells #[hv,nN,tv,v] 172 (0,0))->v.ownBlock≠some bt))/\
    (∀m∈Ms,m∉([]:List Nat)->m<W1.heap.size->W.heap[m]? =W1.heap[m]?)/\W1.heap.size<=W.heap.size)
  ?Rn ?hassign ?hbody ?hdone ?hstop
 case hInv=>
  rintro Ms k W ⟨hF,hP⟩
  exact⟨hP.b2,hP.b3,HC'.o W hF.ext,aP.nil 1 W⟩
 case sK=>rintro cd Ms W h;exact h.elim
 case hI=>
  rintro Ms Ms' k Wa Wb ⟨hF,hP⟩ hE hMs _
  exact⟨(hF.iQ hE hMs).1,hP.kept hE.size (fun b h1 h2=>(hF.iQ hE hMs).2 b ((Jo b).2 (by omega))) (fun g h1 h2 h3=>hE.block g h2 h3) hMs⟩
 case hIx=>rintro cd Ms Ms' Wa Wb h;exact h.elim
 case PD=>
  rintro Ms k W r ob ⟨hF,hP⟩ hr
  exact⟨hF.put ob (by omega),hP.kept (by simp) (fun b h1 h2=>World.putObj_heap_other (by omega)) (fun g h1 h2 h3=>World.putObj_heap_other (by omega)) (fun m hm=> .inl hm)⟩
 case xK=>rintro cd Ms W r ob h;exact h.elim
 case h0=>
  intro o1 o2
  refine⟨⟨aj (aj HB4.o _) _,by simp,by simp,fun b hb=>⟨by simp,by have:=(Jo b).1 hb;simp;omega⟩⟩,?_⟩
  rw[List.take_zero]
  exact HA4.o.kept (by simp;omega) (fun b h1 h2=>(aW _ _ _ (by simp;omega)).trans (aW _ _ _ (by omega))) (fun g h1 h2 h3=>by omega) (fun m hm=> .inl hm)
 case Rn=>
  rintro Ms k W1 a₁ W ob ⟨x,bt,hx,ha,⟨hF,hP⟩,⟨hbt,hb6,hbM,hbv⟩,hk,hs⟩
  have hap:=(hF.apart (B+5) ((Jo _).2 (by omega))).1
  refine⟨x,bt,hx,ha,⟨hF.put ob (by omega),hP.kept (by simp) (fun b h1 h2=>World.putObj_heap_other (by omega)) (fun g h1 h2 h3=>World.putObj_heap_other (by omega)) (fun m hm=> .inl hm)⟩,
   ⟨(World.putObj_heap_other (by omega)).trans hbt,hb6,hbM,fun v hv=>hbv v ((World.putObj_heap_other (by omega)).symm.trans hv)⟩,
   fun m hm h0 hml=>(World.putObj_heap_other (fun e=>hap (by rw[show B+5=m by omega];exact hm))).trans (hk m hm h0 hml),by simpa using hs⟩
 case hassign=>
  rintro Ms k v W hk ⟨hF,hP⟩ hE hlt
  obtain rfl:v=lJ (ku (dA c [])[k]):=hE
  have hxk:(dA c [])[k]? =some (dA c [])[k]:=dG hk
  have hxl:=(sD oH.o (mr _ (bY hk))).1
  generalize (dA c [])[k]=x at*
  have TW:=oH.o.h3
  obtain⟨y0,y1,y2,hys⟩:=nC (xx (x:=x) (by omega))
  have hYS:=ae hys
  rw[hys]
  rw[show lJ [y0,y1,y2]= .agg #[iv y0,iv y1,iv y2] from rfl]
  gi_wp2
  have hB':Below W.heap.size W (W.alloc (.cells #[iv y0,iv y1,iv y2] 177)):=aj (aG _ _) _
  refine⟨⟨x,W.heap.size,hxk,?_,⟨(hF.iQ (Ext.az hB') (fun m hm=> .inl hm)).1,hP.kept (by simp) (fun b h1 h2=>aW _ _ _ (by omega)) (fun g h1 h2 h3=>aW _ _ _ (by omega)) (fun m hm=> .inl hm)⟩,
   ⟨?_,by omega,fun hm=>by have:=hF.bnd _ hm;omega,fun v hv e=>?_⟩,fun m hm h0 hml=>aW _ _ _ (by omega),by simp⟩,aW _ _ _ (by omega),aW _ _ _ (by omega)⟩
  ·rw[hYS.o];rfl
  ·rw[hYS.o];exact ay _ _
  ·obtain⟨v0,h1,h2,h3⟩:=hP.work
   have h4:=(aW _ _ _ (by omega)).symm.trans hv
   rw[h1] at h4
   simp only[Option.some.injEq,Obj.cells.injEq,and_true,Array.mk.injEq,List.cons.injEq,true_and] at h4
   subst h4
   have:=(h3 _ e).2
   omega
 case hbody=>
  rintro Ms k W1 a₁ W7 busy hk ⟨x,bt,hx,rfl,⟨hF,hP⟩,⟨hbt,hb6,hbM,hbv⟩,hkeep,hsz⟩ hrec hD
  simp only[sW,List.set_cons_succ,List.set_cons_zero]
  obtain⟨v,hv1,hv2,hv3⟩:=hP.work
  obtain⟨vo,vc,rfl⟩:=aV hv2
  have Zp:=hbv _ hv1
  obtain⟨c1,f1,l1⟩:=af hP.ptr
  have hxm:=sD oH.o (mr _ (mO hx))
  have TW:=oH.o.h3
  obtain⟨ys,NT⟩: ∃ys,ku x=ys:=⟨_,rfl⟩
  have hyl:ys.length=3:=by rw[<-NT];exact xx (by omega)
  obtain⟨y0,y1,y2,hys⟩:=nC hyl
  have F5:=hbt
  rw[NT,hys] at F5
  have F5:W7.heap[bt]? =some (.cells #[iv y0,iv y1,iv y2] 177 (0,0)):=F5
  obtain⟨c3,f3,l3⟩:=af F5
  have hwM:=(hF.apart w.heap.size ((Jo _).2 (.inl rfl))).1
  have af6:((dA c []).take (k+1)).map ku=((dA c []).take k).map ku++[ys]:=by
   rw[qK,hx];simp[NT]
  have adM:k<=2000:=by have:=uB oH.o [];omega
  have hlk:(((dA c []).take k).map ku).length=k:=by simp;omega
  have h3s: ∀z∈((dA c []).take k).map ku,z.length=3:=fun z hz=>by
   obtain⟨t,ht,rfl⟩:=iW.1 hz
   have:=sD oH.o (mr _ (oW ht))
   exact xx (by omega)
  have hne: ∀A z,((dA c []).take k).map ku=A++[z]->(z==ys)=false:=fun A z he=>by
   rw[jy]
   rintro rfl
   have hkp:0<k:=by
    cases k with
    |zero=>simp at he
    |succ k=>omega
   have hkj:k-1<(dA c []).length:=by omega
   have h1:(((dA c []).take k).map ku)[k-1]? =some z:=by
    rw[he,nT (by have:=congrArg List.length he;simp at this;omega)]
    have:=congrArg List.length he
    rw[hlk,dm,List.length_singleton] at this
    rw[show k-1-A.length=0 from by omega];rfl
   rw[qf,List.getElem?_take_of_lt (by omega),dG hkj] at h1
   have h2:ku (dA c [])[k-1]=ku x:=by rw[NT];exact jw h1
   have h3:=sD oH.o (mr _ (bY hkj))
   have h4:=Yp (by rw[h3.1,hxm.1]) h2
   obtain⟨hk',hx'⟩:=jg.1 hx
   exact(List.pairwise_iff_getElem.1 (PU c [])) (k-1) k hkj hk' (by omega) (by rw[h4,hx'])
  replace hlk:(((dA c []).take k).map ku).length<=2000:=by rw[hlk];exact adM
  have yg:=ae hF
  have Ux:=ae hP
  have HV:=ae (ag hv1 (ag hv2 hv3))
  have Bo:=ae (ag hys hyl)
  have HK:=ae (ag hkeep (ag hrec hD))
  have HBT:=ae F5
  have HBV:=ae Zp
  have ahH:=ae af6
  have H3:=ae h3s
  have JI:=ae hne
  have hap: ∀b∈Os,b∉Ms/\b<W7.heap.size:=hF.apart
  have hin: ∀b,B<=b->b<B+6->b∈Os:=fun b h1 h2=>(Jo b).2 (by omega)
  have hw7:w.heap.size<W7.heap.size:=(hap _ ((Jo _).2 (.inl rfl))).2
  obtain⟨c2,f2,q2⟩:=af hv1
  clear hF hP hv1 hv2 hv3 hx hys NT hxm hyl hkeep hrec hD hbt F5 hbv Zp af6 h3s hne
  generalize ((dA c []).take (k+1)).map ku=ls' at*
  generalize ((dA c []).take k).map ku=ls at*
  gi_wp2_with fail
  rcases(List.eq_nil_or_concat ls).imp id (fun⟨A,z,e⟩=>(⟨A,z,e.trans (List.concat_eq_append)⟩: ∃A z,ls=A++[z])) with rfl|⟨A,z,rfl⟩
  ·simp only[List.length_nil] at c2 HV HBV
   refine dM 22 [] none [] (by kernel_rfl) (by kernel_rfl) (by kernel_rfl) ?_
   simp only[zt]
   repeat ((first|refine zn ?_|refine zk ?_);simp only[zp])
   intro W hE hF
   obtain⟨hc,hf⟩:=bK hE.below
   have hzE:=hE.size
   (try simp only[bz] at hzE)
   have lG:Ext [] W7 W:=hE
   have G8:Pq B hv nN tv ([]) Ms W:=Ux.o.kept lG.size (fun b h1 h2=>lG.block b (by have:=(hap b (hin b h1 (by omega))).2;omega) (by simp)) (fun g h1 h2 h3=>lG.block g h2 (by simp)) (fun m hm=> .inl hm)
   have FZ:=(lG.block _ (aT.1 HBT.o).1 (by simp)).trans HBT.o
   obtain⟨v8,sH,sG,zB⟩:=G8.work
   have FP:v8= .slice (vo) (0) vc:=by
    have h4:=(lG.block _ q2 (by simp)).trans HV.o.1
    rw[sH] at h4
    simp only[Option.some.injEq,Obj.cells.injEq,and_true,Array.mk.injEq,List.cons.injEq,true_and] at h4
    exact h4
   rw[FP] at sH sG zB
   clear FP
   (try simp only[List.length_nil] at sG)
   (try simp only[dm,List.length_cons,List.length_nil,Nat.zero_add] at sG)
   obtain⟨p1,p2,p3⟩:=af (show W.heap[B+1]? =some (.cells #[.pointer (some ⟨B,0,none⟩)] 109 (0,0)) from G8.ptr)
   obtain⟨p4,p5,p6⟩:=af (show W.heap[B]? =some (.cells #[hv,nN,tv,.slice (vo) (0) vc] 172 (0,0)) from sH)
   obtain⟨p7,p8,p9⟩:=af FZ
   have adB:=lG.size
   have JG:=ae G8
   have G9:=ae (ag sH (ag sG zB))
   have iP:=ae lG
   clear hE hF hc hf lG G8 sH sG zB FZ c1 f1 l1 c2 f2 q2 c3 f3 l3 hzE
   obtain⟨gx,hgx,abx,hgx2,AB,abw⟩: ∃gx,(∀g,(Value.slice (vo) (0) vc).ownBlock=some g->g=gx)/\(gx=w.heap.size∨B+6<=gx)/\gx<W.heap.size/\gx∉Ms/\gx≠bt:=by
    cases zD:(Value.slice (vo) (0) vc).ownBlock with
    |none=>exact⟨w.heap.size,(fun g hg=>by cases hg),.inl rfl,by omega,hwM,by omega⟩
    |some g=>
     have h1:=bG G9.o.2.1 g zD
     have h2:=G9.o.2.2 g zD
     exact⟨g,(fun g' hg=>by cases hg;rfl),.inr h1.1,h1.2,h2.1,fun e=>HBV.o (by rw[zD,e])⟩
   have HG:=ae hgx
   clear hgx
   have z1:gx≠B:=by omega
   have z2:gx≠B+1:=by omega
   have z1':B≠gx:=by omega
   have z2':B+1≠gx:=by omega
   have z3':bt≠gx:=by omega
   gi_wp2_with fail
   refine dM 8 [gx] (some 7) [(6,Spec.slice W.heap.size #[iv y0,iv y1,iv y2] 177 1),(7,⟨fun _ v=> ∃o c,v= .slice o (0+1) c,fun _ v Wx=>Wx.ownsRow (B+6) 177 3 v (0+1) ((([])++[ys]).flatMap ah)/\(∀g,v.ownBlock=some g->g=gx∨W.heap.size<=g)⟩)] (by kernel_rfl) (by kernel_rfl) (by kernel_rfl) ?_
   simp only[zt]
   repeat ((first|refine zn ?_|refine zk ?_);simp only[zp])
   refine dU W.heap.size _ _ 1 (by rfl) (ai _) (by rfl) (by simpa using hgx2) (by simp) (fun W hW=>by go_simp;try rfl) (fun b6=>?_)
   simp only[zp]
   refine bF _ (by rfl) (by rfl) (by exact⟨.slice none (0+1) 0,none,0,rfl⟩) (fun Wa hE hF=>?_) (fun v Wa Wb ho hE=>?_) (fun v hv=>?_)
   ·have hE':Ext [] W Wa:=hE
    obtain⟨b',hb',hge,hcc⟩:=hF _ (bD _) (by kernel_rfl)
    cases hb'
    have hown6:=aB (Ms:=[]) G9.o.2.1 hE' (by simp)
    have hsrc:aP 3 Wa (.slice (some ⟨b6,0,none⟩) 1 1) 1 (ah ys):=by
     rw[Bo.o.1]
     exact aP.cZ 3 1 hcc rfl (by decide)
    refine Does.mono (dK afh (by rfl) (by rfl) hown6 (by rfl) hsrc (jc _) (by omega) (by omega) (by have:=hE'.size;omega)) ?_
    rintro v' Wc ⟨ho,hgr,hcase⟩
    refine⟨aV ho,⟨?_,fun g hg=>?_⟩,⟨hgr.os,hgr.tape,hgr.output,hgr.size,fun b hb hn=>hgr.block b hb (fun e=>hn (by rw[HG.o b e.symm];simp))⟩⟩
    ·rw[uF]
     simpa using ho
    ·rcases hcase with h1|h1
     ·exact .inl (HG.o g (by rw[<-h1,hg]))
     ·rw[hg] at h1;injection h1 with h1;exact .inr (by have:=hE'.size;omega)
   ·exact⟨aB (Ms:=[]) ho.1 hE (by simp),ho.2⟩
   obtain⟨o7,c7,rfl⟩:=hv
   simp only[zp]
   intro W9 hE hF
   have hE':Ext [gx] W W9:=hE
   obtain⟨TY,Hy⟩:=hF _ (bD _)
   have zA:W9.heap[B]? =some (.cells #[hv,nN,tv,.slice (vo) (0) vc] 172 (0,0)):=(hE'.block _ p6 (by simpa using z1')).trans G9.o.1
   obtain⟨c9,f9,l9⟩:=af zA
   have Bq:=ae hE'
   have wC:=ae (ag TY (ag Hy zA))
   clear hE hF hE' TY Hy p1 p2 p4 p5 p7 p8 zA
   gi_wp2_with fail
   obtain⟨v',hv'⟩: ∃v',Value.slice o7 (0+1) c7=v':=⟨_,rfl⟩
   rw[hv'] at wC⊢
   have vO:(W9.setCell ⟨B,3,none⟩ v').heap.size=W9.heap.size:=by simp[World.setCell]
   have hs9:=Bq.o.size
   have hks: ∀b,b<W.heap.size->b≠gx->b≠B->(W9.setCell ⟨B,3,none⟩ v').heap[b]? =W.heap[b]? :=fun b hb h1 h2=>
    (dB _ _ _ _ h2).trans (Bq.o.block b hb (by simpa using h1))
   have Dl: ∀b,b<W7.heap.size->b≠gx->b≠B->(W9.setCell ⟨B,3,none⟩ v').heap[b]? =W7.heap[b]? :=fun b hb h1 h2=>(hks b (by omega) h1 h2).trans (iP.o.block b hb (by simp))
   have hFB:JK w Os Ms (W9.setCell ⟨B,3,none⟩ v'):=yg.o.own (yg.o.ext.trans ⟨Bq.o.os.trans iP.o.os,Bq.o.tape.trans iP.o.tape,Bq.o.output.trans iP.o.output,by rw[vO];omega,fun b hb=>(dB _ _ _ _ (by show b≠B;omega)).trans ((Bq.o.block b (by have:=yg.o.ext.size;omega) (by simp;omega)).trans (iP.o.block b (by have:=yg.o.ext.size;omega) (by simp)))⟩) (by rw[vO];omega)
   have hlen1:(([])++[ys]).length=0+1:=by simp
   refine⟨⟨?_,?_,fun m hm h0 hml=>?_,by rw[vO];omega⟩,hFB,?_⟩
   ·exact(Dl _ (by have:=(hap _ (hin (w4.heap.size+1) (by omega) (by omega))).2;omega) (by omega) (by omega)).trans HK.o.2.1
   ·exact(Dl _ (by have:=(hap _ (hin w4.heap.size (by omega) (by omega))).2;omega) (by omega) (by omega)).trans HK.o.2.2
   ·exact(Dl m (yg.o.bnd m hm) (fun e=>AB (e▸hm)) (fun e=>(hap B (hin _ (by omega) (by omega))).1 (e▸hm))).trans (HK.o.1 m hm h0 hml)
   rw[ahH.o]
   refine⟨⟨v',aI wC.o.2.2 _,hlen1.symm▸dI wC.o.1 fun g hg=>dB _ _ _ _ (by have:=(bG wC.o.1 g hg).1;show g≠B;omega),fun g hg=>⟨fun hm=>?_,by rw[vO];exact(bG wC.o.1 g hg).2⟩⟩,?_,?_,?_⟩
   ·rcases wC.o.2.1 g hg with h1|h1
    ·exact AB (h1▸hm)
    ·have:=yg.o.bnd g hm;omega
   ·exact(hks _ (by have:=(hap _ (hin (B+1) (by omega) (by omega))).2;omega) (by omega) (by omega)).trans JG.o.ptr
   ·exact(hks _ (by have:=(hap _ (hin (B+2) (by omega) (by omega))).2;omega) (by omega) (by omega)).trans JG.o.b2
   ·exact(hks _ (by have:=(hap _ (hin (B+3) (by omega) (by omega))).2;omega) (by omega) (by omega)).trans JG.o.b3
  ·have hz3:=H3.o z (by simp)
   obtain⟨gb,gc,hvv,hgb,Rh,KI⟩:=BJ (A:=A) (z:=z) (by simpa using HV.o.2.1) (fun x hx=>H3.o x (by simp[hx])) hz3
   have hcap:vo=some ⟨gb,0,none⟩:=by simp at hvv;exact hvv.1
   subst hcap
   have hzl:(ah z).length=3:=by simp[ah,hz3]
   (try simp only[dm,List.length_cons,List.length_nil,Nat.zero_add] at c2)
   (try simp only[dm,List.length_cons,List.length_nil,Nat.zero_add] at HV)
   (try simp only[dm,List.length_cons,List.length_nil,Nat.zero_add] at HBV)
   (try simp only[dm,List.length_cons,List.length_nil,Nat.zero_add] at hlk)
   have hAI:((A.length:Int)+1==0)=false:=by simp;omega
   have hA0: ¬((A.length:Int)+1=0):=by omega
   have hA1:((A.length:Int)+1).toNat=A.length+1:=by omega
   have hAm:(A.length:Int)+1-1=A.length:=by omega
   have hy3:ys.length=3:=Bo.o.2
   have hq:=JI.o A z rfl
   refine dM 22 [] none [] (by kernel_rfl) (by kernel_rfl) (by kernel_rfl) ?_
   simp only[zt]
   repeat ((first|refine zn ?_|refine zk ?_);simp only[zp])
   refine gI (by rfl) (.pointer (some ⟨gb,A.length*3,none⟩)) (by rfl) (fun W hW=>by go_simp;(try simp(disch:=omega) only[IntWalk.i64_in]);(try rw[aC (by omega)]);(try simp);(try (intro hx;exfalso;omega))) ?_
   simp only[zp]
   refine gI (by rfl) (.agg (ah z).toArray) (by rfl) (fun W hW=>kz 177 _ (by rfl) gb (A.length*3) (by rfl) (ah z) _ (fun j u hj=>(hW gb _ Rh (by simp)).trans (KI j u hj)) Tryz.underlying177 rfl (by rw[hzl];kernel_rfl)) ?_
   simp only[zp]
   refine gI (by rfl) (.agg #[iv y0,iv y1,iv y2]) (by rfl) (fun W hW=>by go_simp;try rfl) ?_
   simp only[zp]
   refine gI (by rfl) (.bool true) (by rfl) (fun W hW=>(nI 177 3 _ 3 _ _ (by rfl) Tryz.underlying177 Tryz.underlying3 (by intro w;go_simp) (by kernel_rfl) z [y0,y1,y2] (by rfl) (by rfl) hz3 (by rfl)).trans (by rw[Bo.o.1] at hq;rw[hq];rfl)) ?_
   simp only[zp]
   repeat ((first|refine zn ?_|refine zk ?_);simp only[zp])
   intro W hE hF
   obtain⟨hc,hf⟩:=bK hE.below
   have hzE:=hE.size
   (try simp only[bz] at hzE)
   have lG:Ext [] W7 W:=hE
   have G8:Pq B hv nN tv (A++[z]) Ms W:=Ux.o.kept lG.size (fun b h1 h2=>lG.block b (by have:=(hap b (hin b h1 (by omega))).2;omega) (by simp)) (fun g h1 h2 h3=>lG.block g h2 (by simp)) (fun m hm=> .inl hm)
   have FZ:=(lG.block _ (aT.1 HBT.o).1 (by simp)).trans HBT.o
   obtain⟨v8,sH,sG,zB⟩:=G8.work
   have FP:v8= .slice ((some ⟨gb,0,none⟩)) ((A.length+1)) vc:=by
    have h4:=(lG.block _ q2 (by simp)).trans HV.o.1
    rw[sH] at h4
    simp only[Option.some.injEq,Obj.cells.injEq,and_true,Array.mk.injEq,List.cons.injEq,true_and] at h4
    exact h4
   rw[FP] at sH sG zB
   clear FP
   (try simp only[List.length_nil] at sG)
   (try simp only[dm,List.length_cons,List.length_nil,Nat.zero_add] at sG)
   obtain⟨p1,p2,p3⟩:=af (show W.heap[B+1]? =some (.cells #[.pointer (some ⟨B,0,none⟩)] 109 (0,0)) from G8.ptr)
   obtain⟨p4,p5,p6⟩:=af (show W.heap[B]? =some (.cells #[hv,nN,tv,.slice ((some ⟨gb,0,none⟩)) ((A.length+1)) vc] 172 (0,0)) from sH)
   obtain⟨p7,p8,p9⟩:=af FZ
   have adB:=lG.size
   have JG:=ae G8
   have G9:=ae (ag sH (ag sG zB))
   have iP:=ae lG
   clear hE hF hc hf lG G8 sH sG zB FZ c1 f1 l1 c2 f2 q2 c3 f3 l3 hzE
   obtain⟨gx,hgx,abx,hgx2,AB,abw⟩: ∃gx,(∀g,(Value.slice ((some ⟨gb,0,none⟩)) ((A.length+1)) vc).ownBlock=some g->g=gx)/\(gx=w.heap.size∨B+6<=gx)/\gx<W.heap.size/\gx∉Ms/\gx≠bt:=by
    cases zD:(Value.slice ((some ⟨gb,0,none⟩)) ((A.length+1)) vc).ownBlock with
    |none=>exact⟨w.heap.size,(fun g hg=>by cases hg),.inl rfl,by omega,hwM,by omega⟩
    |some g=>
     have h1:=bG G9.o.2.1 g zD
     have h2:=G9.o.2.2 g zD
     exact⟨g,(fun g' hg=>by cases hg;rfl),.inr h1.1,h1.2,h2.1,fun e=>HBV.o (by rw[zD,e])⟩
   have HG:=ae hgx
   clear hgx
   have z1:gx≠B:=by omega
   have z2:gx≠B+1:=by omega
   have z1':B≠gx:=by omega
   have z2':B+1≠gx:=by omega
   have z3':bt≠gx:=by omega
   gi_wp2_with fail
   refine dM 8 [gx] (some 7) [(6,Spec.slice W.heap.size #[iv y0,iv y1,iv y2] 177 1),(7,⟨fun _ v=> ∃o c,v= .slice o ((A.length+1)+1) c,fun _ v Wx=>Wx.ownsRow (B+6) 177 3 v ((A.length+1)+1) (((A++[z])++[ys]).flatMap ah)/\(∀g,v.ownBlock=some g->g=gx∨W.heap.size<=g)⟩)] (by kernel_rfl) (by kernel_rfl) (by kernel_rfl) ?_
   simp only[zt]
   repeat ((first|refine zn ?_|refine zk ?_);simp only[zp])
   refine dU W.heap.size _ _ 1 (by rfl) (ai _) (by rfl) (by simpa using hgx2) (by simp) (fun W hW=>by go_simp;try rfl) (fun b6=>?_)
   simp only[zp]
   refine bF _ (by rfl) (by rfl) (by exact⟨.slice none ((A.length+1)+1) 0,none,0,rfl⟩) (fun Wa hE hF=>?_) (fun v Wa Wb ho hE=>?_) (fun v hv=>?_)
   ·have hE':Ext [] W Wa:=hE
    obtain⟨b',hb',hge,hcc⟩:=hF _ (bD _) (by kernel_rfl)
    cases hb'
    have hown6:=aB (Ms:=[]) G9.o.2.1 hE' (by simp)
    have hsrc:aP 3 Wa (.slice (some ⟨b6,0,none⟩) 1 1) 1 (ah ys):=by
     rw[Bo.o.1]
     exact aP.cZ 3 1 hcc rfl (by decide)
    refine Does.mono (dK afh (by rfl) (by rfl) hown6 (by rfl) hsrc (jc _) (by omega) (by omega) (by have:=hE'.size;omega)) ?_
    rintro v' Wc ⟨ho,hgr,hcase⟩
    refine⟨aV ho,⟨?_,fun g hg=>?_⟩,⟨hgr.os,hgr.tape,hgr.output,hgr.size,fun b hb hn=>hgr.block b hb (fun e=>hn (by rw[HG.o b e.symm];simp))⟩⟩
    ·rw[uF]
     simpa using ho
    ·rcases hcase with h1|h1
     ·exact .inl (HG.o g (by rw[<-h1,hg]))
     ·rw[hg] at h1;injection h1 with h1;exact .inr (by have:=hE'.size;omega)
   ·exact⟨aB (Ms:=[]) ho.1 hE (by simp),ho.2⟩
   obtain⟨o7,c7,rfl⟩:=hv
   simp only[zp]
   intro W9 hE hF
   have hE':Ext [gx] W W9:=hE
   obtain⟨TY,Hy⟩:=hF _ (bD _)
   have zA:W9.heap[B]? =some (.cells #[hv,nN,tv,.slice ((some ⟨gb,0,none⟩)) ((A.length+1)) vc] 172 (0,0)):=(hE'.block _ p6 (by simpa using z1')).trans G9.o.1
   obtain⟨c9,f9,l9⟩:=af zA
   have Bq:=ae hE'
   have wC:=ae (ag TY (ag Hy zA))
   clear hE hF hE' TY Hy p1 p2 p4 p5 p7 p8 zA
   gi_wp2_with fail
   obtain⟨v',hv'⟩: ∃v',Value.slice o7 ((A.length+1)+1) c7=v':=⟨_,rfl⟩
   rw[hv'] at wC⊢
   have vO:(W9.setCell ⟨B,3,none⟩ v').heap.size=W9.heap.size:=by simp[World.setCell]
   have hs9:=Bq.o.size
   have hks: ∀b,b<W.heap.size->b≠gx->b≠B->(W9.setCell ⟨B,3,none⟩ v').heap[b]? =W.heap[b]? :=fun b hb h1 h2=>
    (dB _ _ _ _ h2).trans (Bq.o.block b hb (by simpa using h1))
   have Dl: ∀b,b<W7.heap.size->b≠gx->b≠B->(W9.setCell ⟨B,3,none⟩ v').heap[b]? =W7.heap[b]? :=fun b hb h1 h2=>(hks b (by omega) h1 h2).trans (iP.o.block b hb (by simp))
   have hFB:JK w Os Ms (W9.setCell ⟨B,3,none⟩ v'):=yg.o.own (yg.o.ext.trans ⟨Bq.o.os.trans iP.o.os,Bq.o.tape.trans iP.o.tape,Bq.o.output.trans iP.o.output,by rw[vO];omega,fun b hb=>(dB _ _ _ _ (by show b≠B;omega)).trans ((Bq.o.block b (by have:=yg.o.ext.size;omega) (by simp;omega)).trans (iP.o.block b (by have:=yg.o.ext.size;omega) (by simp)))⟩) (by rw[vO];omega)
   have hlen1:((A++[z])++[ys]).length=(A.length+1)+1:=by simp
   refine⟨⟨?_,?_,fun m hm h0 hml=>?_,by rw[vO];omega⟩,hFB,?_⟩
   ·exact(Dl _ (by have:=(hap _ (hin (w4.heap.size+1) (by omega) (by omega))).2;omega) (by omega) (by omega)).trans HK.o.2.1
   ·exact(Dl _ (by have:=(hap _ (hin w4.heap.size (by omega) (by omega))).2;omega) (by omega) (by omega)).trans HK.o.2.2
   ·exact(Dl m (yg.o.bnd m hm) (fun e=>AB (e▸hm)) (fun e=>(hap B (hin _ (by omega) (by omega))).1 (e▸hm))).trans (HK.o.1 m hm h0 hml)
   rw[ahH.o]
   refine⟨⟨v',aI wC.o.2.2 _,hlen1.symm▸dI wC.o.1 fun g hg=>dB _ _ _ _ (by have:=(bG wC.o.1 g hg).1;show g≠B;omega),fun g hg=>⟨fun hm=>?_,by rw[vO];exact(bG wC.o.1 g hg).2⟩⟩,?_,?_,?_⟩
   ·rcases wC.o.2.1 g hg with h1|h1
    ·exact AB (h1▸hm)
    ·have:=yg.o.bnd g hm;omega
   ·exact(hks _ (by have:=(hap _ (hin (B+1) (by omega) (by omega))).2;omega) (by omega) (by omega)).trans JG.o.ptr
   ·exact(hks _ (by have:=(hap _ (hin (B+2) (by omega) (by omega))).2;omega) (by omega) (by omega)).trans JG.o.b2
   ·exact(hks _ (by have:=(hap _ (hin (B+3) (by omega) (by omega))).2;omega) (by omega) (by omega)).trans JG.o.b3
 case hdone=>
  rintro Ms W ⟨hF,hP⟩ hD hlt
  rw[List.take_length] at hP
  obtain⟨v,hv1,hv2,hv3⟩:=hP.work
  obtain⟨vo,vc,rfl⟩:=aV hv2
  obtain⟨c1,f1,l1⟩:=af hP.ptr
  obtain⟨c2,f2,l2⟩:=af hv1
  have JJ:=ae hF
  have HV:=ae (ag hv1 hv2)
  have hcnt:((dA c []).map ku).length<=2000:=by rw[lU];exact uB oH.o []
  have hemp:((dA c []).isEmpty=true)↔((dA c []).map ku).length=0:=by simp
  have HEM:=ae hemp
  clear hF hP hv1 hv2 hv3 hemp
  generalize hls:(dA c []).map ku=ls at*
  have Iq:=ae hls
  clear hls
  by_cases hn:ls.length=0
  ·have hn':(((ls.length:Nat):Int)==0)=true:=by simpa using hn
   have aas:Hid (iV c true=11):=ae (by rw[HE.o,aC (HEM.o.2 hn)])
   clear hn
   gi_wp2_with fail
   refine⟨by simp,.inl ⟨_,_,rfl,run_takeDeferred hD,?_⟩⟩
   exact⟨.tuple #[.pointer none,.int .i64 11],by simp[results,Tryz.results48,go_sem],(JJ.o.put (Obj.deferred none) (by omega)).ext,.inl ⟨by rw[aas.o];simp,by rw[aas.o]⟩⟩
  ·have hn':(((ls.length:Nat):Int)==0)=false:=by simpa using hn
   have HE0:Hid (iV c true=0):=ae (by rw[HE.o,ak (fun h=>hn (HEM.o.1 h))])
   clear hn
   gi_wp2_with fail
   refine⟨by simp,.inl ⟨_,_,rfl,run_takeDeferred hD,?_⟩⟩
   refine⟨.tuple #[.pointer (some ⟨B,0,none⟩),.int .i64 0],by simp[results,Tryz.results48,go_sem],(JJ.o.put (Obj.deferred none) (by omega)).ext,.inr ⟨HE0.o,B,.slice vo ls.length vc,rfl,by omega,?_⟩⟩
   rw[hhv,age,Jl,Iq.o]
   refine⟨?_,?_⟩
   ·exact(World.putObj_heap_other (by omega)).trans HV.o.1
   ·exact aP.dR (dI HV.o.2 fun g hg=>World.putObj_heap_other (by have:=(bG HV.o.2 g hg).1;omega))
 case hstop=>rintro cd Ms W h;exact h.elim
end Go.Proofs.YthbpmepjmebolaaGreatDoor.yR
end
section
namespace Go.Proofs.YthbpmepjmebolaaGreatDoor.yR
open Go.RowKit Go.RG Go.SL Go.Shelf ji Go.TB
attribute [local go_sem] Oper.semAt_some
theorem TF {w:World} {o:Option Addr} {n c:Nat} {ls:List (List Int)} (h:aP 3 w (.slice o n c) (ls.map ku).length ((ls.map ku).flatMap ah)) (h3: ∀x∈ls,x.length<=3) {k:Nat} (hk:k<ls.length):
 ∃b off y0 y1 y2,o=some ⟨b,off,none⟩/\b<w.heap.size/\ku ls[k]=[y0,y1,y2]/\w.cell? ⟨b,off+k*3,none⟩=some (iv y0)/\w.cell? ⟨b,off+k*3+1,none⟩=some (iv y1)/\w.cell? ⟨b,off+k*3+2,none⟩=some (iv y2):=by
 obtain⟨hl,o',c',hv,h1,h2,h4,h5⟩:=h
 cases hv
 obtain⟨y0,y1,y2,hys⟩:=nC (xx (h3 _ (bY hk)))
 rw[lU] at h1
 cases o with
 |none=>have:=h4 rfl;omega
 |some a=>
  obtain⟨b,off,sp⟩:=a
  obtain⟨hs,hc⟩:=h5 _ rfl
  simp only at hs hc
  subst hs
  have g: ∀j,j<3->((ls.map ku).flatMap ah)[k*3+j]? =[iv y0,iv y1,iv y2][j]? :=fun j hj=>by
   rw[F9 ah 3 (ls.map ku) (fun x hx=>by
    obtain⟨t,ht,rfl⟩:=iW.1 hx
    simp[ah,xx (h3 t ht)]) k j (by rw[lU];exact hk) hj,List.getElem_map,hys]
   rfl
  have r0:=hc (k*3+0) (iv y0) (by rw[g 0 (by omega)];rfl)
  have r1:=hc (k*3+1) (iv y1) (by rw[g 1 (by omega)];rfl)
  have r2:=hc (k*3+2) (iv y2) (by rw[g 2 (by omega)];rfl)
  rw[Nat.add_zero] at r0
  rw[<-Nat.add_assoc] at r1 r2
  exact⟨b,off,y0,y1,y2,rfl,dF w _ r0,hys,r0,r1,r2⟩
theorem KD (w:World):Calls Tryz.prog 49 #[] w (PV (.bool true) w):=by
 go_enter Tryz.func49,Tryz.ntmps49
 go_wp2
 go_returns
 exact⟨by simp,aG _ _⟩
theorem NR (c:bJ) (hS:nz c) (hv nN tv v:Value) (es:List KE) (wb:Nat) (i:Nat) (hi:mV c i) (w:World) (hc:qV w hv nN tv es c) (hpos:0<(dA c []).length) (hw:SI w wb hv nN tv v ((dA c []).map ku)):
 Calls Tryz.prog 50 #[.pointer (some ⟨wb,0,none⟩),iv i] w (PV (rv (Ad c i)) w):=by
 obtain⟨oh,ch,rfl⟩:=hc.heaps.open
 obtain⟨ok,ck,rfl⟩:=hc.aU.open
 obtain⟨ot,ct,rfl⟩:=hc.aJ.open
 rw[hc.len] at hc hw
 have hcnt:=uB hS []
 have hall: ∀s∈dA c [],Str c s:=fun s hs=>sD hS (mr s hs)
 have h3: ∀x∈dA c [],x.length<=3:=fun x hx=>by have h1:=(hall x hx).1;have h2:=hS.h3;omega
 obtain⟨vo,vc,rfl⟩:=hw.truth.open
 have HOF:=ae (fun(s:List Int) (hs:Str c s) (x0 x1 x2:Int) (hx:ku s=[x0,x1,x2]) (W:World) (hb:Below w.heap.size w W)=>TP c hS oh ok ch ck (.slice ot c.aJ.length ct) es s x0 x1 x2 hx hs i hi W (hc.aU.below hb (ai _)) hc.is)
 have Ep:=ae hw
 have HL:=ae (ag hpos (ag hall (ag h3 hcnt)))
 have LD:=ae (fun k (hk:k<=(dA c []).length)=>TI hS (fun s hs=>mr s hs) hpos hi k hk)
 have HOB:=ae (fun(s:List Int) (hs:Str c s)=>Yv hS hs.1 hs.2 hi)
 unfold Ad
 have hmap:((dA c []).map ku).length=(dA c []).length:=by simp
 have HMP:=ae hmap
 clear hc hS hall h3 hpos hcnt hmap
 generalize dA c []=ls at*
 obtain⟨d1,g1,m1⟩:=af hw.cells
 obtain⟨b,off,y0,y1,y2,hvv,hb,hys,r0,r1,r2⟩:=TF hw.truth HL.o.2.2.1 HL.o.1
 rw[HMP.o] at d1
 cases hvv
 have hD:=HOF.o _ (HL.o.2.1 _ (bY HL.o.1)) y0 y1 y2 hys
 have hdb:=HOB.o _ (HL.o.2.1 _ (bY HL.o.1))
 have hr0:zu c ls i 0=(G7 c (ls[0]'HL.o.1) i,G7 c (ls[0]'HL.o.1) i):=by
  unfold zu
  rw[show ls.getD 0 []=ls[0]'HL.o.1 from by simp[List.getD,HL.o.1]]
  rfl
 generalize G7 c (ls[0]'HL.o.1) i=d at*
 have HD:=ae hD
 have HR0:=ae hr0
 simp only[Nat.zero_mul,Nat.add_zero] at r0 r1 r2
 have hpos0:0<ls.length:=HL.o.1
 have anO:ls.length<=2000:=HL.o.2.2.2
 clear hw hys hD hr0 hi
 go_enter Tryz.func50,Tryz.ntmps50
 go_upto_region 1 with(fail)
 refine dQ fun W1 hW1=>?_
 have hB1:Below w.heap.size w W1:=by rw[hW1];exact zl
 have hk4:W1.heap[w.heap.size]? =some (.cells #[iv 0,iv 0] 112 (0,0)):=by rw[hW1];exact ay _ _
 have e0:=(hB1.cell (p:=⟨b,off,none⟩) hb).trans r0
 have e1:=(hB1.cell (p:=⟨b,off+1,none⟩) hb).trans r1
 have e2:=(hB1.cell (p:=⟨b,off+2,none⟩) hb).trans r2
 have hb1:b<W1.heap.size:=by have:=hB1.size;omega
 have Q4:=Ep.o.below hB1 (ai _)
 obtain⟨n1,n2,n3⟩:=af Q4.cells
 rw[HMP.o] at n1
 have H1:=ae (ag hB1 hk4)
 clear hW1 hB1 hk4 r0 r1 r2 hb d1 g1 m1 Q4
 refine zg 12 [] none [(11,Spec.val (iv d))] ?_
 simp only[zt]
 repeat ((first|refine zn ?_|refine zk ?_);simp only[zp])
 refine zw 86 (h:=fun W hE hF=>by exact HD.o W (bg H1.o.1 hE.below)) (t:=?_)
 simp only[zp]
 intro W hE hF
 obtain⟨hc,hf⟩:=bK hE.below
 have hzE:=hE.size
 (try simp only[bz] at hzE)
 have hB2:=bg H1.o.1 hE.below
 have agn:=(hE.block _ (aT.1 H1.o.2).1 (by simp)).trans H1.o.2
 have H2:=ae (ag hB2 agn)
 have afD:=Ep.o.below hB2 (ai _)
 clear hE hF hc hf hzE e0 e1 e2 hb1 n1 n2 n3 hB2 agn
 obtain⟨n1,n2,n3⟩:=af afD.cells
 rw[HMP.o] at n1
 clear afD
 go_upto_region 3 with(fail)
 refine dQ fun W3 hW3=>?_
 have hB3:Below W.heap.size W W3:=by rw[hW3];exact zl
 have hk9:W3.heap[W.heap.size]? =some (.cells #[iv d,iv d] 112 (0,0)):=by rw[hW3];exact ay _ _
 have agm:=(hB3.block _ (aT.1 H2.o.2).1).trans H2.o.2
 have hwW:w.heap.size<W.heap.size:=(aT.1 H2.o.2).1
 have H3:=ae (ag (bg H2.o.1 hB3) (ag hk9 agm))
 have afC:=Ep.o.below H3.o.1 (ai _)
 clear hW3 hB3 hk9 agm n1 n2 n3
 obtain⟨n1,n2,n3⟩:=af afC.cells
 rw[HMP.o] at n1
 clear afC
 obtain⟨b9,vP⟩: ∃b9,W.heap.size=b9:=⟨_,rfl⟩
 rw[vP] at H3 hwW⊢
 clear vP H2
 go_wp2_with fail
 go_loopw [29] (fun u wq=> ∃k:Nat,k<=ls.length/\u= .int .i64 k/\wq.heap[b9]? =some (.cells #[iv (zu c ls i k).1,iv (zu c ls i k).2] 112 (0,0))/\wq.heap[w.heap.size]? =some (.cells #[iv 0,iv 0] 112 (0,0))/\Below w.heap.size w wq) (fun u _=>ls.length-(intOf u).toNat)
 case atStart=>exact⟨0,bW _,rfl,by rw[HR0.o];exact H3.o.2.1,H3.o.2.2,H3.o.1⟩
 case round=>
  obtain⟨k,hk,rfl,hcell,hres,hB⟩:=hrel
  by_cases hlk:k<ls.length
  ·have hwr:=Ep.o.below hB (ai _)
   obtain⟨q1,q2,q3⟩:=af hwr.cells
   rw[HMP.o] at q1
   obtain⟨e1,e2,e3⟩:=af hcell
   obtain⟨b',off',z0,z1,z2,hvv,hb',hzs,s0,s1,s2⟩:=TF hwr.truth HL.o.2.2.1 hlk
   cases hvv
   have hst:=HL.o.2.1 _ (bY hlk)
   have hD2:=HOF.o _ hst z0 z1 z2 hzs
   have hsu:=IP (c:=c) (i:=i) hlk
   have ajH:=HOB.o _ hst
   have hrb:=LD.o k hk
   generalize G7 c ls[k] i=d2 at*
   generalize hrk:zu c ls i k=r at*
   have HD2:=ae hD2
   have wJ:=ae hsu
   have HQ:=ae (ag hcell (ag hres hB))
   clear hzs hD2 hsu hcell hres hB hwr hst hrk n1 n2 n3
   have af8:(k:Int)<ls.length:=by omega
   go_upto_region 6 with(fail)
   refine dQ fun W5 xJ=>?_
   have yL:Below wr.heap.size wr W5:=by rw[xJ];exact zl
   have hk5:W5.heap[wr.heap.size]? =some (.cells #[iv z0,iv z1,iv z2] 177 (0,0)):=by rw[xJ];exact ay _ _
   have hc5:=(yL.block _ e3).trans HQ.o.1
   have hw5:=Ep.o.below (bg HQ.o.2.2 yL) (ai _)
   have HBB:=ae (ag (bg HQ.o.2.2 yL) (ag hc5 ((yL.block _ (aT.1 HQ.o.2.1).1).trans HQ.o.2.1)))
   clear xJ yL q1 q2 q3 e1 e2 s0 s1 s2 hb'
   obtain⟨q1,q2,q3⟩:=af hw5.cells
   rw[HMP.o] at q1
   obtain⟨e1,e2,e4⟩:=af hc5
   obtain⟨p1,p2,p3⟩:=af hk5
   clear hw5 hc5 hk5
   refine zg 9 [] none [(7,Spec.val (iv d2)),(8,Spec.val (rv (wid r d2)))] ?_
   simp only[zt]
   repeat ((first|refine zn ?_|refine zk ?_);simp only[zp])
   refine zw 86 (h:=fun W hE hF=>by exact HD2.o W (bg HBB.o.1 hE.below)) (t:=?_)
   simp only[zp]
   refine zw 87 (h:=fun W hE hF=>by exact QQ r d2 W) (t:=?_)
   simp only[zp]
   intro W hE hF
   obtain⟨hc,hf⟩:=bK hE.below
   have hzE:=hE.size
   (try simp only[bz] at hzE)
   have HE:=ae hE
   clear hF hzE
   go_wp2_with fail
   go_roundw
   case rel=>
    refine⟨k+1,by omega,by go_num,?_,?_,?_⟩
    ·rw[wJ.o]
     exact aI (aI ((HE.o.block _ e4 (by simp)).trans HBB.o.2.1) _) _
    ·have h1:=(HE.o.block _ (aT.1 HBB.o.2.2).1 (by simp)).trans HBB.o.2.2
     exact(dB _ _ _ _ (by show w.heap.size≠b9;omega)).trans ((dB _ _ _ _ (by show w.heap.size≠b9;omega)).trans h1)
    ·exact iw (iw (bg HBB.o.1 HE.o.below) (show w.heap.size<=b9 by omega) _) (show w.heap.size<=b9 by omega) _
   case measure=>simp[intOf];omega
  ·have hkl:k=ls.length:=by omega
   subst hkl
   have hrb:=LD.o _ (ai _)
   generalize zu c ls i ls.length=r at*
   obtain⟨e1,e2,e3⟩:=af hcell
   obtain⟨p1,p2,p3⟩:=af hres
   have HQ:=ae (ag hres hB)
   clear hcell hres hB n1 n2 n3
   go_wp2_with fail
   refine bodyPost_ret (v:=rv r) (results_cell_row Tryz.results50 _ _ w.heap.size _ _ (0,0) _ rfl (aI (aI HQ.o.1 _) _) Tryz.underlying112 rfl (by kernel_rfl)) rfl ?_
   exact⟨rfl,iw (iw HQ.o.2 (ai _) _) (ai _) _⟩
theorem tKR:iq Tryz.prog 40 112 (rv (0,0)) 2 16:=⟨Tryz.underlying40,by kernel_rfl,rfl,by omega⟩
def acj (c:bJ) (w:World) (e:Ending) (w':World):Prop:=
 Below w.heap.size w w'/\((iV c true≠0/\e= .returned (.tuple #[.slice none 0 0,.slice none 0 0,iv (iV c true)]))∨
  (iV c true=0/\ ∃v u,e= .returned (.tuple #[v,u,iv 0])/\bM w' v (sJ c)/\bM w' u (jr c)))
theorem N9 (c:bJ) {i:Nat} (hi:i<c.heaps.length):(sJ c).take (i+1)=(sJ c).take i++[Ad c i]:=by
 rw[qK];congr 1;unfold sJ;simp[hi]
theorem OT (c:bJ) {i:Nat} (hi:i<c.aU.length):(jr c).take (i+1)=(jr c).take i++[Ad c (c.heaps.length+i)]:=by
 rw[qK];congr 1;unfold jr;simp[hi]
theorem IV (a b:List dP):aF (a++b)=aF a++aF b:=by simp[aF]
theorem xE (c:bJ) (hv nN tv:Value) (es:List KE) (w:World) (hc:qV w hv nN tv es c):Calls Tryz.prog 17 #[kv hv nN tv] w (acj c w):=by
 obtain⟨oh,ch,rfl⟩:=hc.heaps.open
 obtain⟨ok,ck,rfl⟩:=hc.aU.open
 obtain⟨ot,ct,rfl⟩:=hc.aJ.open
 rw[hc.len] at hc⊢
 have HA:=ae (fun(W:World) (hb:Below w.heap.size w W)=>QT c (.slice oh c.heaps.length ch) (.slice ok c.aU.length ck) (.slice ot c.aJ.length ct) es 49 #[] true W (hc.below hb (ai _)) (enters_of Tryz.func49 (by kernel_rfl) rfl) (fun W _=>KD W))
 have HC':Hid (∀W,Below w.heap.size w W->qV W (.slice oh c.heaps.length ch) (.slice ok c.aU.length ck) (.slice ot c.aJ.length ct) es c):=ae (fun W hb=>hc.below hb (ai _))
 clear hc
 go_enter Tryz.func17,Tryz.ntmps17
 go_wp2_with fail
 refine(HA.o _ (aj (aG _ _) _)).mono ?_
 rintro e w1 ⟨hb,⟨hne,rfl⟩|⟨h0,wb,v,rfl,hwb,hwk⟩⟩
 ·have HB:=ae (show Below w.heap.size w w1 from zl)
  obtain⟨q,hq⟩: ∃q,iV c true=q:=⟨_,rfl⟩
  rw[hq] at hne⊢
  have HN:=ae (ag hq hne)
  have hneb:(q==0)=false:=by simpa using hne
  clear hb hne hq
  go_wp2_with fail
  go_returns
  exact⟨HB.o,.inl ⟨by rw[HN.o.1];exact HN.o.2,by rw[HN.o.1];simp⟩⟩
 have HB:=ae (show Below w.heap.size w w1 from zl)
 have hk0:w1.heap[w.heap.size]? =some (.cells #[.slice oh c.heaps.length ch,.slice ok c.aU.length ck,.slice ot c.aJ.length ct] 44 (0,0)):=(hb.block _ (by simp)).trans (ay _ _)
 clear hb
 obtain⟨hS,hpos,_⟩:=GL h0
 have hh3:=hS.h3
 have hk3:=hS.c3
 have LJ:=ae (fun(i:Nat) (hi:mV c i) (W:World) (hb:Below w1.heap.size w1 W)=>NR c hS (.slice oh c.heaps.length ch) (.slice ok c.aU.length ck) (.slice ot c.aJ.length ct) v es wb i hi W (HC'.o W (bg HB.o hb)) hpos (hwk.below hb (ai _)))
 have H0:=ae h0
 have HK0:=ae hk0
 have HHL:=ae (fun i (hi:i<c.heaps.length)=>N9 c hi)
 have HKL:=ae (fun i (hi:i<c.aU.length)=>OT c hi)
 have HLL:Hid ((sJ c).length=c.heaps.length/\(jr c).length=c.aU.length):=ae (by simp[sJ,jr])
 obtain⟨c0,f0,l0⟩:=af hk0
 clear hS hpos hwk h0 hk0 hwb
 go_wp2_with fail
 go_loopw [2,19] (fun ov u wr=> ∃i:Nat,i<=c.heaps.length/\u= .int .i64 i/\(∃oo oc,ov= .slice oo i oc/\wr.ownsRow w1.heap.size 112 2 (.slice oo i oc) i (aF ((sJ c).take i)))/\Below w1.heap.size w1 wr) (fun _ u _=>c.heaps.length-(intOf u).toNat)
 case atStart=>exact⟨0,bW _,rfl,⟨none,0,rfl,⟨rfl,.inl ⟨rfl,rfl⟩⟩⟩,aG _ _⟩
 case round=>
  obtain⟨i,hi,rfl,⟨oo,oc,rfl,how⟩,hB⟩:=hrel
  by_cases hlt:i<c.heaps.length
  ·have hD:=LJ.o i (by unfold mV;omega) wr hB
   have hsu:=HHL.o i hlt
   generalize Ad c i=r at hD hsu
   have HOW:=ae how
   have HB':=ae hB
   have wJ:=ae hsu
   clear how hB hsu c0 f0 l0
   go_wp2_with fail
   refine hD.mono ?_
   rintro e w2 ⟨rfl,hb2⟩
   have HB2:=ae hb2
   have ho2:=aB (Ms:=[]) HOW.o (Ext.az hb2) (by simp)
   have zV:=ae ho2
   have hsz2:=hb2.size
   have hsz1:=HB'.o.size
   clear hD hb2 ho2
   go_wp2_with (at_builtin;go_loud (refine dZ rfl _ _ tKR rfl w1.heap.size (.slice oo i oc) i (aF ((sJ c).take i)) rfl (aB (Ms:=[]) zV.o (Ext.az (aj (aG _ _) _)) (by simp)) (.slice (some ⟨w2.heap.size,0,none⟩) 1 1) 1 [iv r.1,iv r.2] rfl (aP.cZ 2 1 (ay _ _) rfl (by decide)) (by simp[Value.oneCell']) (by omega) (by omega) (by simp;omega) ?_))
   intro v' w3 hown hgr hN
   obtain⟨o3,c3,rfl⟩:=aV hown
   have hpu:=xZ HB'.o HOW.o ((Ext.az HB2.o).trans (Ext.az (aj (aG _ _) _))) hown hgr (ai _) HB'.o.size
   have HP:=ae (ag hpu hown)
   clear hpu hown hgr hN
   go_wp2_with fail
   go_roundw
   case rel=>
    refine⟨i+1,by omega,by go_num,⟨o3,c3,rfl,?_⟩,HP.o.1.1⟩
    rw[wJ.o,IV]
    exact HP.o.2
   case measure=>simp[intOf];omega
  ·obtain rfl:i=c.heaps.length:=by omega
   have hk1:=(hB.block _ (aT.1 HK0.o).1).trans HK0.o
   obtain⟨n0,n1,n2⟩:=af hk1
   have HH:=ae (ag how (ag hB hk1))
   clear how hB hk1 c0 f0 l0
   go_wp2_with fail
   generalize wr=wm at*
   go_loopw [3,32] (fun ov u wq=> ∃j:Nat,j<=c.aU.length/\u= .int .i64 j/\(∃o2 c2,ov= .slice o2 j c2/\wq.ownsRow wm.heap.size 112 2 (.slice o2 j c2) j (aF ((jr c).take j)))/\Below wm.heap.size wm wq) (fun _ u _=>c.aU.length-(intOf u).toNat)
   case atStart=>exact⟨0,bW _,rfl,⟨none,0,rfl,⟨rfl,.inl ⟨rfl,rfl⟩⟩⟩,aG _ _⟩
   case round=>
    obtain⟨j,hj,rfl,⟨o2,c2,rfl,how⟩,hB⟩:=hrel
    by_cases hlt:j<c.aU.length
    ·have hBw:=bg HH.o.2.1 hB
     have hD:=LJ.o (c.heaps.length+j) (by unfold mV;omega) _ hBw
     have hsu:=HKL.o j hlt
     generalize Ad c (c.heaps.length+j)=r at hD hsu
     rw[show((c.heaps.length+j:Nat):Int)=(c.heaps.length:Int)+j from by omega] at hD
     have hkk:=(hB.block _ (aT.1 HH.o.2.2).1).trans HH.o.2.2
     obtain⟨a0,a1,a2⟩:=af hkk
     have HOW:=ae how
     have HB':=ae hB
     have wJ:=ae hsu
     clear how hB hBw hsu hkk n0 n1 n2
     go_wp2_with fail
     refine hD.mono ?_
     rintro e w2 ⟨rfl,hb2⟩
     have HB2:=ae hb2
     have ho2:=aB (Ms:=[]) HOW.o (Ext.az hb2) (by simp)
     have zV:=ae ho2
     have hsz2:=hb2.size
     have hsz1:=HB'.o.size
     clear hD hb2 ho2 a0 a1 a2
     go_wp2_with (at_builtin;go_loud (refine dZ rfl _ _ tKR rfl wm.heap.size (.slice o2 j c2) j (aF ((jr c).take j)) rfl (aB (Ms:=[]) zV.o (Ext.az (aj (aG _ _) _)) (by simp)) (.slice (some ⟨w2.heap.size,0,none⟩) 1 1) 1 [iv r.1,iv r.2] rfl (aP.cZ 2 1 (ay _ _) rfl (by decide)) (by simp[Value.oneCell']) (by omega) (by omega) (by simp;omega) ?_))
     intro v' w3 hown hgr hN
     obtain⟨o3,c3,rfl⟩:=aV hown
     have hpu:=xZ HB'.o HOW.o ((Ext.az HB2.o).trans (Ext.az (aj (aG _ _) _))) hown hgr (ai _) HB'.o.size
     have HP:=ae (ag hpu hown)
     clear hpu hown hgr hN
     go_wp2_with fail
     go_roundw
     case rel=>
      refine⟨j+1,by omega,by go_num,⟨o3,c3,rfl,?_⟩,HP.o.1.1⟩
      rw[wJ.o,IV]
      exact HP.o.2
     case measure=>simp[intOf];omega
    ·obtain rfl:j=c.aU.length:=by omega
     have HX:=ae (ag how hB)
     clear how hB n0 n1 n2
     go_wp2_with fail
     go_returns
     refine⟨bg HB.o (bg HH.o.2.1 HX.o.2),.inr ⟨H0.o,.slice oo c.heaps.length oc,.slice o2 c.aU.length c2,by simp,?_,?_⟩⟩
     ·have h1:=aP.dR (aB (Ms:=[]) HH.o.1 (Ext.az HX.o.2) (by simp))
      rw[show(sJ c).take c.heaps.length=sJ c from by rw[<-HLL.o.1,List.take_length]] at h1
      show aP 2 _ _ (sJ c).length _
      rw[HLL.o.1]
      exact h1
     ·have h1:=aP.dR HX.o.1
      rw[show(jr c).take c.aU.length=jr c from by rw[<-HLL.o.2,List.take_length]] at h1
      show aP 2 _ _ (jr c).length _
      rw[HLL.o.2]
      exact h1
end Go.Proofs.YthbpmepjmebolaaGreatDoor.yR
end

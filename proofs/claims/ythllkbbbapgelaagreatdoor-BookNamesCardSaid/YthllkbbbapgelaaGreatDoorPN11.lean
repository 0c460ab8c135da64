/-
  Texts of this claim, packed by a program: CA CB CC CD CE CG CF CI.
-/
import Derived.WalkKit
import Derived.WalkLawsBesides
import Derived.WalkSpells
import Derived.Outline
import Derived.Handy
import Derived.KernelRfl
import Derived.Lib.Hide
import Derived.Deep.Cut
import Derived.Laws.EntriesVeiled
import Derived.Test.YthllkbbbapgelaaGreatDoorPN5
set_option maxHeartbeats 8000000
set_option maxRecDepth 100000
set_option linter.all false
theorem _root_.zcB {P:Prop} (h:P:=by
 have Iq:Ext [] W Wa:=hE;obtain⟨b',hb',hge,ο⟩:=hF _ (aW _) ϰ;cases hb';have VC:=az (Ms:=[]) Fh.o.2.1 Iq ϕ;have ξ:aH 3 Wa (.slice (some ⟨b6,0,none⟩) 1 1) 1 (ag ys):=zb5;refine Does.mono (dA ad6 ϱ ϱ VC ϱ ξ (ic _) ϑ ϑ (by have:=Iq.size;omega)) ?_;exact zax):P:=h
theorem _root_.zbM {P:Prop} (h:P:=by
 go_wp2_with fail
 refine(qA r _).mono ?_;rintro e w2 ⟨rfl,hb⟩;have Uy:=aa (aV HB.o hb);clear hb;go_wp2_with fail
 go_returns;exact⟨by simp[qy,uA,hq],Uy.o⟩):P:=h
theorem _root_.zcn {P:Prop} (h:P:=by
 go_enter Tryz.func290,Tryz.ntmps290;go_wp2_with fail
 go_returns;exact⟨by simp[xR],zl⟩):P:=h
theorem _root_.zal {P:Prop} (h:P:=by
 go_enter Tryz.func139,Tryz.ntmps139;go_wp2_with fail
 refine zg 6 [] none [] ?_;simp only[zt];repeat (refine zn ?_;simp only[zp])
 intro W hE hF;obtain⟨hc,hf⟩:=bH hE.below;have ig:=hE.size;(try simp only[bA] at ig)
 have Α:=aa (show Ϙ w W from aV (ai (aF _ _) _) hE.below);have hk0:W.heap[w.heap.size]? =some (.cells #[.slice oh c.heaps.length ch,.slice ok c.aQ.length ck,.slice ot c.aI.length ct] 60 (0,0)):=(hE.block _ ϕ ϕ).trans (av _ _);clear hE hF hc hf ig;obtain⟨d0,f0,m0⟩:=ae hk0;clear hk0;go_wp2_with fail
 go_returns;exact⟨by simp,Α.o⟩):P:=h
theorem _root_.zav {P:Prop} (h:P:=by
 refine⟨⟨?_,?_,fun m hm h0 mP=>?_,by rw[uE];omega⟩,ZE,?_⟩
 ·exact(Aw _ (by have:=(ω _ (hin (w4.heap.size+1) ϑ ϑ)).2;omega) ϑ ϑ).trans HK.o.2.1
 ·exact(Aw _ (by have:=(ω _ (hin w4.heap.size ϑ ϑ)).2;omega) ϑ ϑ).trans HK.o.2.2
 ·exact(Aw m (wL.o.bnd m hm) (fun e=>zo (e▸hm)) (fun e=>(ω B (hin _ ϑ ϑ)).1 (e▸hm))).trans (HK.o.1 m hm h0 mP)
 rw[aha.o];refine⟨⟨v',aA uT.o.2.2 _,hlen1.symm▸bT uT.o.1 fun g hg=>bV _ _ _ _ (by have:=(aS uT.o.1 g hg).1;show g≠B;omega),fun g hg=>⟨fun hm=>?_,by rw[uE];exact(aS uT.o.1 g hg).2⟩⟩,?_,?_,?_⟩
 ·rcases uT.o.2.1 g hg with h1|h1
  ·exact zo (h1▸hm)
  ·have:=wL.o.bnd g hm;omega
 ·exact(Θ _ (by have:=(ω _ (hin (B+1) ϑ ϑ)).2;omega) ϑ ϑ).trans Ib.o.ptr
 ·exact(Θ _ (by have:=(ω _ (hin (B+2) ϑ ϑ)).2;omega) ϑ ϑ).trans Ib.o.b2
 ·exact(Θ _ (by have:=(ω _ (hin (B+3) ϑ ϑ)).2;omega) ϑ ϑ).trans Ib.o.b3):P:=h
theorem _root_.zbW {P:Prop} (h:P:=by
 have h1:=aS Fh.o.2.1 g ym;have h2:=Fh.o.2.2 g ym;exact⟨g,(fun g' hg=>by cases hg;rfl),.inr h1.1,h1.2,h2.1,fun e=>HBV.o (by rw[ym,e])⟩):P:=h
section
namespace Go.Proofs.Z.xC
open gK
abbrev EU:=Bool×Int×dF
structure bF where
 heaps:List dF
 aQ:List (List Int)
 aI:List EU
def kM:List Int->Int
 |[]=>0
 |x::l=>x+kM l
def jW (l:List Int) (k:Nat):Int:=kM (l.take k)
theorem JY (a b:List Int):kM (a++b)=kM a+kM b:=by
 induction a with
 |nil=>simp[kM]
 |cons x a ih=>simp only[List.cons_append,kM,ih];omega
theorem qz {l:List Int} {k:Nat} (hk:k<l.length):jW l (k+1)=jW l k+l[k]:=by
 unfold jW;rw[eG hk,JY];simp[kM]
theorem wR (l:List Int):jW l l.length=kM l:=by unfold jW;rw[List.take_length]
theorem Cg {m:Int} (_:0<=m): ∀{l:List Int},(∀x∈l,0<=x/\x<=m)->0<=kM l/\kM l<=m*l.length:=by
 intro l;induction l with
 |nil=>intro _;simp[kM]
 |cons x l ih=>
  intro h;have h1:=h x ϕ;have h2:=ih (fun y hy=>h y (by simp[hy]));simp only[kM,List.length_cons];rw[show m*((l.length+1:Nat):Int)=m*l.length+m from by rw[Int.natCast_add,Int.mul_add];simp]
  omega
theorem vM {m:Int} (hm:0<=m) {l:List Int} (h: ∀x∈l,0<=x/\x<=m) (k:Nat):0<=jW l k/\jW l k<=m*l.length:=by
 have h1:=Cg hm (l:=l.take k) (fun x hx=>h x (mi hx));have h2:m*((l.take k).length:Int)<=m*l.length:=Int.mul_le_mul_of_nonneg_left (by have:=List.length_take_le' k l;omega) hm;unfold jW;omega
def qx (c:bF) (l:List Int):Bool:=decide (l.length=c.heaps.length)&&l.all (lV · 0 30)
def tX (c:bF) (l:List Int):Bool:=qx c l&&decide (0<kM l)
def uA (c:bF) (t:EU):Int:=if t.1 then c.aQ.length else c.heaps.length
def qy (c:bF) (t:EU):Bool:=lV t.2.1 0 (uA c t-1)&&tZ t.2.2 100
def nQ (c:bF):Int:=
 if 3<c.heaps.length∨3<c.aQ.length∨5<c.aI.length then 3
 else if c.heaps.length=0∨c.heaps.all (tZ · 100)=false∨c.aQ.all (tX c)=false∨c.aI.all (qy c)=false then 1
 else if 2000<rz c.heaps then 3 else 0
structure lL (c:bF):Prop where
 h1:1<=c.heaps.length
 h3:c.heaps.length<=3
 c3:c.aQ.length<=3
 t5:c.aI.length<=5
 heaps: ∀r∈c.heaps,tZ r 100=true
 aQ: ∀l∈c.aQ,l.length=c.heaps.length/\(∀x∈l,0<=x/\x<=30)/\0<kM l
 aI: ∀t∈c.aI,(0<=t.2.1/\t.2.1<uA c t)/\tZ t.2.2 100=true
 many:rz c.heaps<=2000
theorem Tg {c:bF} {l:List Int}:tX c l=true↔l.length=c.heaps.length/\(∀x∈l,0<=x/\x<=30)/\0<kM l:=by
 simp only[tX,qx,lV,dU,dZ,jh];constructor
 ·rintro⟨⟨h1,h2⟩,h3⟩;exact⟨h1,h2,h3⟩
 ·rintro⟨h1,h2,h3⟩;exact⟨⟨h1,h2⟩,h3⟩
theorem M8 {c:bF} {t:EU}:qy c t=true↔(0<=t.2.1/\t.2.1<uA c t)/\tZ t.2.2 100=true:=by
 simp only[qy,lV,dU,dZ];constructor
 ·rintro⟨⟨h1,h2⟩,h3⟩;exact⟨⟨h1,by omega⟩,h3⟩
 ·rintro⟨⟨h1,h2⟩,h3⟩;exact⟨⟨h1,by omega⟩,h3⟩
theorem Gg {c:bF} (hf:nQ c=0):lL c:=by
 unfold nQ at hf;split at hf
 ·omega
 ·rename_i a;split at hf
  ·omega
  ·rename_i b;split at hf
   ·omega
   ·rename_i d;simp only[not_or,Bool.not_eq_false,jh] at a b;obtain⟨a1,a2,a3⟩:=a;obtain⟨b1,b2,b3,b4⟩:=b;exact⟨by omega,by omega,by omega,by omega,b2,fun l hl=>Tg.1 (b3 l hl),fun t ht=>M8.1 (b4 t ht),by omega⟩
theorem lL.sz {c:bF} (h:lL c): ∀r∈c.heaps,1<=dQ r:=fun r hr=>(vV (h.heaps r hr)).2.2.2.1
theorem lL.rg {c:bF} (h:lL c) {i:Nat} (hi:i<c.heaps.length):0<=c.heaps[i].1/\c.heaps[i].1<=c.heaps[i].2/\c.heaps[i].2<=100:=by
 have:=vV (h.heaps _ (bZ hi));exact⟨this.1,this.2.1,this.2.2.1⟩
def xx:List Int->List Int->Int
 |w::ws,s::ss=>w*s+xx ws ss
 |_,_=>0
def wG (w s:List Int) (k:Nat):Int:=xx (w.take k) (s.take k)
theorem SQ: ∀(a b:List Int) (x y:Int),a.length=b.length->xx (a++[x]) (b++[y])=xx a b+x*y:=by
 intro a;induction a with
 |nil=>intro b x y h;obtain rfl:=jl h.symm;simp[xx]
 |cons w a ih=>
  intro b x y h;cases b with
  |nil=>simp at h
  |cons s b=>
   simp only[List.cons_append,xx,ih b x y (by simpa using h)];omega
theorem OE {w s:List Int} {k:Nat} (hw:k<w.length) (hs:k<s.length):wG w s (k+1)=wG w s k+w[k]*s[k]:=by
 unfold wG;rw[eG hw,eG hs,SQ];simp[fJ];omega
theorem SN {w s:List Int} (h:w.length=s.length):wG w s w.length=xx w s:=by unfold wG;rw[List.take_length,h,List.take_length]
theorem Qy: ∀(w s:List Int),(∀x∈w,0<=x/\x<=30)->(∀x∈s,0<=x/\x<=100)->0<=xx w s/\xx w s<=100*kM w:=by
 intro w;induction w with
 |nil=>intro s _ _;simp[xx,kM]
 |cons x w ih=>
  intro s hw hs;have hx:=hw x ϕ;have hb:=Cg (m:=30) ϑ (l:=w) (fun y hy=>hw y (by simp[hy]));cases s with
  |nil=>simp only[xx,kM];omega
  |cons y s=>
   have hy:=hs y ϕ;have h1:=ih s (fun z hz=>hw z (by simp[hz])) (fun z hz=>hs z (by simp[hz]));have h2:0<=x*y:=Int.mul_nonneg hx.1 hy.1;have h3:x*y<=x*100:=Int.mul_le_mul_of_nonneg_left hy.2 hx.1;simp only[xx,kM];omega
theorem WX {w s:List Int} (hw: ∀x∈w,0<=x/\x<=30) (hs: ∀x∈s,0<=x/\x<=100) (k:Nat):0<=wG w s k/\wG w s k<=3000*w.length:=by
 have h1:=Qy (w.take k) (s.take k) (fun x hx=>hw x (mi hx)) (fun x hx=>hs x (mi hx));have h2:=vM (m:=30) ϑ hw k;unfold jW at h2;unfold wG;omega
def Br (s w:List Int):Int:=xx w s/kM w
theorem Vp {s w:List Int} (hw: ∀x∈w,0<=x/\x<=30) (hs: ∀x∈s,0<=x/\x<=100) (hp:0<kM w):0<=Br s w/\Br s w<=100:=by
 have h1:=Qy w s hw hs;unfold Br;exact⟨Int.ediv_nonneg h1.1 ϑ,Int.ediv_le_of_le_mul hp ϑ⟩
def Ff (c:bF) (s:List Int) (thing:Nat):Int:=if thing<c.heaps.length then s.getD thing 0 else Br s (c.aQ.getD (thing-c.heaps.length) [])
def xR (c:bF) (t:EU):Nat:=(if t.1 then c.heaps.length else 0)+t.2.1.toNat
def CS (c:bF) (s:List Int) (t:EU):Bool:=lV (Ff c s (xR c t)) t.2.2.1 t.2.2.2
def qD (c:bF) (out:List Int) (s:List Int):Bool:=(List.range c.aI.length).all fun i=>out.contains (i:Int) ||CS c s (c.aI.getD i (false,0,(0,0)))
def rG (c:bF):List (List Int):=ed c.heaps
def dx (c:bF) (out:List Int):List (List Int):=(rG c).filter (qD c out)
def lD (c:bF) (n:Nat):Prop:=n<c.heaps.length+c.aQ.length
theorem QZ {c:bF} (h:lL c) {t:EU} (ht:t∈c.aI):lD c (xR c t):=by
 have:=(h.aI t ht).1;unfold lD xR;unfold uA at this;split at this <;>rename_i h1
 ·rw[aG h1];omega
 ·rw[ak h1];omega
theorem qH {c:bF} (h:lL c) {s:List Int} (hs:s∈rG c):s.length=c.heaps.length/\ ∀x∈s,0<=x/\x<=100:=by
 obtain⟨h1,h2⟩:=Aq _ _ hs;refine⟨h1,fun x hx=>?_⟩;obtain⟨i,hi,rfl⟩:=lK hx;have h3:=h2 i ϑ;have h4:=h.rg (show i<c.heaps.length by omega);rw[fK,dn ϑ,Option.getD_some] at h3;rw[fK,dn hi,Option.getD_some] at h3;omega
theorem Vg {c:bF} (h:lL c) {s:List Int} (hl:s.length=c.heaps.length) (hs: ∀x∈s,0<=x/\x<=100) {n:Nat} (hn:lD c n):0<=Ff c s n/\Ff c s n<=100:=by
 unfold lD at hn;unfold Ff;split
 ·rename_i h1;rw[fK,dn ϑ,Option.getD_some];exact hs _ (bZ _)
 ·rename_i h1;have hk:n-c.heaps.length<c.aQ.length:=ϑ;rw[fK,dn hk,Option.getD_some];have:=h.aQ _ (bZ hk);exact Vp this.2.1 hs this.2.2
def xA (c:bF) (out:List Int) (k:Nat):Nat:=(((rG c).take k).filter (qD c out)).length
theorem Xk (c:bF) (out:List Int):xA c out (rG c).length=(dx c out).length:=by
 unfold xA dx;rw[List.take_length]
theorem ZU {c:bF} {out:List Int} {k:Nat} (hk:k<(rG c).length) (hp:qD c out (rG c)[k]=false):xA c out (k+1)=xA c out k:=by
 unfold xA;exact zbL
theorem Xj {c:bF} {out:List Int} {k:Nat} (hk:k<(rG c).length) (hp:qD c out (rG c)[k]=true):xA c out (k+1)=xA c out k+1:=by
 unfold xA;exact zbL
theorem M7 {c:bF} {out:List Int} {k:Nat} (hk:k<(rG c).length) (hp:qD c out (rG c)[k]=true):
 ∃hc:xA c out k<(dx c out).length,(dx c out)[xA c out k]=(rG c)[k]:=by
 have:=AL (qD c out) id (rG c) k hk hp;rw[List.map_id] at this;obtain⟨hc,hx⟩:=iy.1 this;exact⟨hc,hx⟩
theorem rX {c:bF} (hS:lL c) (out:List Int):(dx c out).length<=2000:=by
 have h1:(dx c out).length<=(rG c).length:=List.length_filter_le _ _;have h2:=vS c.heaps hS.sz;have h3:=hS.many;unfold rG at h1;omega
def jv (x:List Int):List Int:=x++List.replicate (3-x.length) 0
theorem vT {x:List Int} (h:x.length<=3):(jv x).length=3:=by simp[jv];omega
theorem Kr (x:List Int) (i:Nat):(jv x).getD i 0=x.getD i 0:=by
 unfold jv;exact zbh
def gV (c:bF) (Ζ:Bool):Int:=if nQ c≠0 then nQ c else if Ζ=false then 2 else if(dx c []).isEmpty then 11 else 0
theorem ER {c:bF} {b:Bool} (h:gV c b=0):lL c/\0<(dx c []).length/\b=true:=by
 unfold gV at h;split at h
 ·omega
 ·rename_i hf;have hf':nQ c=0:=ϑ;split at h
  ·omega
  ·rename_i hb;split at h
   ·omega
   ·rename_i he;refine⟨Gg hf',?_,by simpa using hb⟩;cases ht:dx c [] with
    |nil=>rw[ht] at he;exact absurd rfl he
    |cons x l=>simp
def xU (c:bF) (ls:List (List Int)) (i:Nat) (k:Nat):dF:=(ls.take k).foldl (fun r s=>wid r (Ff c s i)) (Ff c (ls.getD 0 []) i,Ff c (ls.getD 0 []) i)
theorem Gp {c:bF} {ls:List (List Int)} {i:Nat} {k:Nat} (hk:k<ls.length):xU c ls i (k+1)=wid (xU c ls i k) (Ff c ls[k] i):=by
 unfold xU;rw[eG hk,List.foldl_append];rfl
def yN (c:bF) (i:Nat):dF:=xU c (dx c []) i (dx c []).length
def qL (c:bF):List dF:=(List.range c.heaps.length).map (yN c)
def iH (c:bF):List dF:=(List.range c.aQ.length).map fun i=>yN c (c.heaps.length+i)
theorem PX {c:bF} (hS:lL c) {ls:List (List Int)} (hl: ∀s∈ls,s∈rG c) (h0:0<ls.length) {i:Nat} (hi:lD c i):
 ∀k,k<=ls.length->(0<=(xU c ls i k).1/\(xU c ls i k).1<=100)/\(0<=(xU c ls i k).2/\(xU c ls i k).2<=100):=by
 have hb: ∀s∈ls,0<=Ff c s i/\Ff c s i<=100:=fun s hs=>by
  obtain⟨h1,h2⟩:=qH hS (hl s hs);exact Vg hS h1 h2 hi
 intro k;induction k with
 |zero=>
  intro _;have:=hb _ (bZ h0);unfold xU;rw[fK,dn h0,Option.getD_some];exact⟨this,this⟩
 |succ k ih=>
  intro hk;have h1:=ih ϑ;have h2:=hb _ (bZ (show k<ls.length by omega));rw[Gp ϑ];unfold wid;simp only;omega
theorem kR {c:bF} {out:List Int}: ∀s∈dx c out,s∈rG c:=fun _ h=>(List.mem_filter.1 h).1
open Go.RowKit Go.RG Go.SL Go.Shelf Go.TB
abbrev KE:=Value×List Int
def dW (es:List KE):List Value:=es.map (·.1)
def sF (w:World) (v:Value) (es:List KE):Prop:=aH 1 w v es.length (dW es)/\ ∀e∈es,aL w e.1 e.2
theorem sF.len {w:World} {v:Value} {es:List KE} (h:sF w v es):es.length<=9223372036854775807:=aH.len h.1
theorem sF.open {w:World} {v:Value} {es:List KE} (h:sF w v es): ∃o c,v= .slice o es.length c:=aH.open h.1
theorem sF.below {w w':World} {v:Value} {es:List KE} (h:sF w v es) {B:Nat} (hb:Below B w w') (hB:w.heap.size<=B):sF w' v es:=⟨h.1.below hb hB,fun e he=>(h.2 e he).below hb hB⟩
theorem sF.cell {w:World} {o:Option Addr} {c:Nat} {es:List KE} (h:sF w (.slice o es.length c) es) {k:Nat} (hk:k<es.length): ∃b off,o=some ⟨b,off,none⟩/\b<w.heap.size/\w.cell? ⟨b,off+k,none⟩=some es[k].1:=by
 obtain⟨⟨hl,o',c',hv,h1,h2,h3,h4⟩,_⟩:=h;cases hv;cases o with
 |none=>have:=h3 rfl;omega
 |some a=>
  obtain⟨b,off,sp⟩:=a;obtain⟨hs,hc⟩:=h4 _ rfl;simp only at hs hc;subst hs;have h0:=hc k es[k].1 (by simp[dW,hk]);exact⟨b,off,rfl,dB w _ h0,h0⟩
abbrev JF (t:EU):Value:= .agg #[.bool t.1,iv t.2.1,iv t.2.2.1,iv t.2.2.2]
def dI (l:List EU):List Value:=l.flatMap fun t=>[.bool t.1,iv t.2.1,iv t.2.2.1,iv t.2.2.2]
abbrev pF (w:World) (v:Value) (l:List EU):Prop:=aH 4 w v l.length (dI l)
theorem CZ (l:List EU): ∀u∈dI l,u.oneCell'=true:=by
 intro u hu;obtain⟨r,_,h⟩:=nW.1 hu;simp only[eQ,List.not_mem_nil,or_false] at h;rcases h with rfl|rfl|rfl|rfl <;>rfl
theorem pF.cell {w:World} {o:Option Addr} {n c:Nat} {l:List EU} (h:aH 4 w (.slice o n c) n (dI l)) {k:Nat} (hk:k<l.length):
 ∃b off,o=some ⟨b,off,none⟩/\b<w.heap.size/\w.cell? ⟨b,off+k*4,none⟩=some (.bool l[k].1)/\w.cell? ⟨b,off+k*4+1,none⟩=some (iv l[k].2.1)/\w.cell? ⟨b,off+k*4+2,none⟩=some (iv l[k].2.2.1)/\
  w.cell? ⟨b,off+k*4+3,none⟩=some (iv l[k].2.2.2):=by
 obtain⟨hl,o',c',hv,h1,h2,h3,h4⟩:=h;cases hv;have IY:(dI l).length=l.length*4:=by simp[dI,List.length_flatMap,List.map_const',List.sum_replicate_nat]
 have hn:n=l.length:=ϑ;cases o with
 |none=>have:=h3 rfl;omega
 |some a=>
  obtain⟨b,off,sp⟩:=a;obtain⟨hs,hc⟩:=h4 _ rfl;simp only at hs hc;subst hs;have g: ∀j,j<4->(dI l)[k*4+j]? =[.bool l[k].1,iv l[k].2.1,iv l[k].2.2.1,iv l[k].2.2.2][j]? :=fun j hj=>by
   unfold dI;rw[iG _ 4 (fun _=>rfl) l k j hk hj]
  have h0:=hc (k*4+0) (.bool l[k].1) (by rw[g 0 ϑ];rfl);have h1:=hc (k*4+1) (iv l[k].2.1) (by rw[g 1 ϑ];rfl);have h2:=hc (k*4+2) (iv l[k].2.2.1) (by rw[g 2 ϑ];rfl);have h3:=hc (k*4+3) (iv l[k].2.2.2) (by rw[g 3 ϑ];rfl);rw[Nat.add_zero] at h0;rw[<-Nat.add_assoc] at h1 h2 h3;exact⟨b,off,rfl,dB w _ h0,h0,h1,h2,h3⟩
abbrev kv (hv kv tv:Value):Value:= .agg #[hv,kv,tv]
structure lh (w:World) (hv kP tv:Value) (es:List KE) (c:bF):Prop where
 heaps:bD w hv c.heaps
 aQ:sF w kP es
 is:es.map (·.2)=c.aQ
 aI:pF w tv c.aI
theorem lh.below {w w':World} {hv kP tv:Value} {es:List KE} {c:bF} (h:lh w hv kP tv es c) {B:Nat} (hb:Below B w w') (hB:w.heap.size<=B):lh w' hv kP tv es c:=⟨h.heaps.below hb hB,h.aQ.below hb hB,h.is,h.aI.below hb hB⟩
theorem lh.len {w:World} {hv kP tv:Value} {es:List KE} {c:bF} (h:lh w hv kP tv es c):es.length=c.aQ.length:=by rw[<-h.is,kJ]
theorem lh.mem {w:World} {hv kP tv:Value} {es:List KE} {c:bF} (h:lh w hv kP tv es c) {k:Nat} (hk:k<es.length):es[k].2=c.aQ[k]'(by rw[<-h.len];exact hk):=by
 have:=h.is;simp only[<-this,List.getElem_map]
theorem vZ (n l h:Int) (w:World):Ϝ 280 #[iv n,iv l,iv h] w (PV (.bool (lV n l h)) w):=by
 by_cases h1:l<=n
 all_goals
  go_enter Tryz.func280,Tryz.ntmps280;exact zbV
theorem Vz (r:dF) (n:Int) (w:World):Ϝ 289 #[rv r,iv n] w (PV (.bool (lV n r.1 r.2)) w):=by
 go_enter Tryz.func289,Tryz.ntmps289;go_wp2_with (go_at_call 280;refine(vZ _ _ _ _).mono ?_;rintro e w' ⟨rfl,hb⟩)
 exact za0
theorem qA (r:dF) (w:World):Ϝ 224 #[rv r] w (PV (.bool (tZ r 100)) w):=by
 go_enter Tryz.func224,Tryz.ntmps224;exact zb0
theorem GR (r:dF) (w:World) (h1:0<=r.1) (h2:r.1<=r.2) (h3:r.2<=100000):
 Ϝ 228 #[rv r] w (PV (iv (dQ r)) w):=by
 go_enter Tryz.func228,Tryz.ntmps228;go_wp2;go_returns;exact⟨by simp[dQ],by go_grown⟩
theorem MW (n:Int) (w:World):Ϝ 313 #[iv n] w (PV (.bool (lV n 0 30)) w):=by
 go_enter Tryz.func313,Tryz.ntmps313;go_wp2_with (go_at_call 280;refine(vZ _ _ _ _).mono ?_;rintro e w' ⟨rfl,hb⟩)
 go_returns;exact⟨by simp,hb⟩
theorem KQ (a b:Int) (g c:Nat) (w:World) (h0:w.cell? ⟨g,0,none⟩=some (iv a)) (h1:w.cell? ⟨g,1,none⟩=some (iv b)):
 Ϝ 227 #[.slice (some ⟨g,0,none⟩) 2 c] w (PV (iv (min a b)) w):=by
 have H:=aa (yX a b g c w h0 h1);go_enter Tryz.func227,Tryz.ntmps227;exact zbc
theorem NU (r:dF) (n:Int) (w:World):Ϝ 142 #[rv r,iv n] w (PV (rv (wid r n)) w):=by
 go_enter Tryz.func142,Tryz.ntmps142;go_wp2_with fail
 refine zg 10 [] none [(3,Spec.slice (w.heap.size+2) #[iv r.1,iv n] 3 2),(4,Spec.val (iv (min r.1 n)))] ?_;simp only[zt];repeat (refine zd ?_;simp only[zp])
 refine cB (w.heap.size+2) _ _ _ ϱ ϕ ϱ ϕ ϕ (fun W hW=>by go_simp;try rfl) (fun b=>?_);simp only[zp];refine dL _ ϱ ϱ 227 _ (fun W hW=>by go_simp;try rfl) (fun W hE hF=>?_) ?_
 ·obtain⟨c,hcb,hB,hc⟩:=hF _ (aW _) ϰ;cases hcb;exact KQ r.1 n b 2 W (by simp[World.cell?,hc]) (by simp[World.cell?,hc])
 simp only[zp];repeat (refine zd ?_;simp only[zp])
 intro W hE hF;obtain⟨hc,hf⟩:=bH hE.below;have ig:=hE.size;(try simp only[bA] at ig)
 go_wp2;all_goals
  (try simp only[Exit.inBlock,Exit.then])
  refine bodyPost_ret (v:=rv (min r.1 n,max r.2 n)) (by simp[results,Tryz.results142,go_sem,hc];try omega) rfl ?_;exact⟨rfl,ze⟩
theorem KN (l:List Int) (v:Value) (w:World) (hv:aL w v l) (hl: ∀x∈l,0<=x/\x<=9999) (hn:l.length<=1000):Ϝ 282 #[v] w (PV (iv (kM l)) w):=by
 obtain⟨o,c,rfl⟩:=hv.open;have IY:=hv.len;have HV:=aa hv;have HL:=aa hl;have HS:=aa (wR l);clear hv hl;go_enter Tryz.func282,Tryz.ntmps282;go_wp2;go_loop [2,4,7] (fun n _ i=> ∃k:Nat,k<=l.length/\i= .int .i64 k/\n=iv (jW l k)) (fun _ _ i=>l.length-(intOf i).toNat)
 case atStart=>exact⟨0,bE _,rfl,rfl⟩
 case round=>
  obtain⟨k,hk,rfl,rfl⟩:=hrel;have hb:=vM (m:=9999) ϑ HL.o k;have κ:(9999:Int)*l.length<=9999*1000:=ϑ;by_cases uM:k<l.length
  ·obtain⟨b,off,rfl,χ,hc0⟩:=aL.cell HV.o uM;have hx:=HL.o _ (bZ uM);have hs:=qz uM;generalize jW l k=m at hb hs⊢;generalize l[k]=x at hc0 hx hs;have HE:=aa hs;clear hs;go_wp2;exact zbH
  ·have Y9:k=l.length:=ϑ;subst Y9;rw[HS.o];go_wp2;go_returns;exact⟨by simp,aF _ _⟩
end Go.Proofs.Z.xC
namespace Go.Proofs.Z.xC
open Go.RowKit Go.RG Go.SL Go.Shelf gK Go.TB
abbrev kev (e:KE):Value:=e.1
theorem aem (l:List dF) (v:Value) (bg:Nat) (Nf aP:Array Value) (p:Nat->Bool) (I:Nat->World->Prop) (w:World) (eg: Ϛ Tryz.prog bg)
 (Y5: ∀k W,I k W->bD W v l)
 (qY: ∀k (hk:k<l.length) W,(∀j,j<k->p j=false)->I k W->Ϝ bg (Nf.push (rv l[k])++aP) W (fun e W'=>e= .returned (.bool (p k))/\I (k+1) W')) (h0:I 0 w):
 Ϝ 314 #[v,.func (.func bg) Nf aP] w (dN l.length p I (fun k=>iv k) (iv (-1))):=by
 have IY:=(Y5 0 w h0).len;obtain⟨o,c,rfl⟩:=(Y5 0 w h0).open;have HC:=aa qY;have HS:=aa Y5;clear qY Y5;go_enter Tryz.func314,Tryz.ntmps314;exact zcz
theorem abA (l:List dF) (v:Value) (bg:Nat) (Nf aP:Array Value) (p:Nat->Bool) (I:Nat->World->Prop) (w:World) (eg: Ϛ Tryz.prog bg)
 (Y5: ∀k W,I k W->bD W v l)
 (qY: ∀k (hk:k<l.length) W,(∀j,j<k->p j=false)->I k W->Ϝ bg (Nf.push (rv l[k])++aP) W (fun e W'=>e= .returned (.bool (p k))/\I (k+1) W')) (h0:I 0 w):
 Ϝ 283 #[v,.func (.func bg) Nf aP] w (dN l.length p I (fun _=> .bool true) (.bool false)):=by
 have HI:=aa (aem l v bg Nf aP p I w eg Y5 qY h0);have IY:=(Y5 0 w h0).len;clear Y5 qY h0 eg;go_enter Tryz.func283,Tryz.ntmps283;exact zac
theorem abD (x:dF) (bx bg:Nat) (Nf aP:Array Value) (b:Bool) (W:World) (R:World->Prop) (eg: Ϛ Tryz.prog bg)
 (hbx:W.cell? ⟨bx,0,none⟩=some (.func (.func bg) Nf aP))
 (qY:Ϝ bg (Nf.push (rv x)++aP) (W.alloc (.cells #[iv x.1,iv x.2] 129)) (fun e W'=>e= .returned (.bool b)/\R W')):
 Ϝ 284 #[rv x,.pointer (some ⟨bx,0,none⟩)] W (fun e W'=>e= .returned (.bool !b)/\R W'):=by
 have uM:=dB W _ hbx;have HC:=aa qY;clear qY;go_enter Tryz.func284,Tryz.ntmps284;exact zao
theorem aep (l:List dF) (v:Value) (bg:Nat) (Nf aP:Array Value) (p:Nat->Bool) (I:Nat->World->Prop) (w:World) (eg: Ϛ Tryz.prog bg)
 (Y5: ∀k W,I k W->bD W v l) (hal: ∀k W o,I k W->I k (W.alloc o))
 (qY: ∀k (hk:k<l.length) W,(∀j,j<k->p j=true)->I k W->Ϝ bg (Nf.push (rv l[k])++aP) W (fun e W'=>e= .returned (.bool (p k))/\I (k+1) W'/\iA w.heap.size W W')) (h0:I 0 w):
 Ϝ 223 #[v,.func (.func bg) Nf aP] w (dN l.length (fun k=>!p k) I (fun _=> .bool false) (.bool true)):=by
 have HI:=aa (abA l v 284 #[] #[.pointer (some ⟨w.heap.size,0,none⟩)] (fun k=>!p k)
  (fun k W=>I k W/\W.heap[w.heap.size]? =some (.cells #[.func (.func bg) Nf aP] 337 (0,0))) (w.alloc (.cells #[.func (.func bg) Nf aP] 337))
  (enters_of Tryz.func284 ϰ rfl) (fun k W h=>Y5 k W h.1)
  (fun k hk W IB h=>by
    have uM:w.heap.size<W.heap.size:=(aN.1 h.2).1;refine(abD l[k] w.heap.size bg Nf aP (p k) W (fun W'=>I (k+1) W'/\W'.heap[w.heap.size]? =some (.cells #[.func (.func bg) Nf aP] 337 (0,0))) eg (aD h.2) ?_);refine(qY k hk _ (fun j hj=>by simpa using IB j hj) (by first|exact hal _ _ _ h.1|exact h.1)).mono ?_;rintro e W' ⟨rfl,h1,h2⟩;refine⟨rfl,h1,(h2.block _ (ah _) (by first|exact uM|(simp;omega))).trans (by first|exact h.2|exact(aT _ _ _ uM).trans h.2)⟩)
  ⟨hal _ _ _ h0,heap_alloc_new w _⟩)
 have IY:=(Y5 0 w h0).len;clear Y5 qY h0 eg hal;go_enter Tryz.func223,Tryz.ntmps223;exact zae
theorem N7 (l:List dF) (v:Value) (bg:Nat) (Nf aP:Array Value) (q:dF->Bool) (w:World) (hv:bD w v l) (eg: Ϛ Tryz.prog bg)
 (qY: ∀x∈l, ∀W,Ϙ w W->Ϝ bg (Nf.push (rv x)++aP) W (PV (.bool (q x)) W)):
 Ϝ 223 #[v,.func (.func bg) Nf aP] w (PV (.bool (l.all q)) w):=by
 refine(aep l v bg Nf aP (fun k=>q (l.getD k (0,0))) (fun _ W=>Ϙ w W) w eg (fun k W h=>hv.below h (ah _)) (fun k W o h=>ai h o) (fun k hk W _ h=>?_) (aF _ _)).mono ?_
 ·exact zaB
 ·exact zaJ
theorem aen (l:List KE) (v:Value) (bg:Nat) (Nf aP:Array Value) (p:Nat->Bool) (I:Nat->World->Prop) (w:World) (eg: Ϛ Tryz.prog bg)
 (Y5: ∀k W,I k W->sF W v l)
 (qY: ∀k (hk:k<l.length) W,(∀j,j<k->p j=false)->I k W->Ϝ bg (Nf.push (kev l[k])++aP) W (fun e W'=>e= .returned (.bool (p k))/\I (k+1) W')) (h0:I 0 w):
 Ϝ 315 #[v,.func (.func bg) Nf aP] w (dN l.length p I (fun k=>iv k) (iv (-1))):=by
 have IY:=(Y5 0 w h0).len;obtain⟨o,c,rfl⟩:=(Y5 0 w h0).open;have HC:=aa qY;have HS:=aa Y5;clear qY Y5;go_enter Tryz.func315,Tryz.ntmps315;go_wp2;go_loopw [4,5,8] (fun _ _ i wr=> ∃k:Nat,k<=l.length/\i= .int .i64 k/\(∀j,j<k->p j=false)/\I k wr) (fun _ _ i _=>l.length-(intOf i).toNat)
 case atStart=>exact⟨0,bE _,rfl,fun j hj=>ϑ,h0⟩
 case round=>
  obtain⟨k,hk,rfl,IB,hI⟩:=hrel;by_cases uM:k<l.length
  ·obtain⟨b,off,rfl,hb,hc0⟩:=sF.cell (HS.o k wr hI) uM;exact zcC
  ·exact zam
theorem abB (l:List KE) (v:Value) (bg:Nat) (Nf aP:Array Value) (p:Nat->Bool) (I:Nat->World->Prop) (w:World) (eg: Ϛ Tryz.prog bg)
 (Y5: ∀k W,I k W->sF W v l)
 (qY: ∀k (hk:k<l.length) W,(∀j,j<k->p j=false)->I k W->Ϝ bg (Nf.push (kev l[k])++aP) W (fun e W'=>e= .returned (.bool (p k))/\I (k+1) W')) (h0:I 0 w):
 Ϝ 285 #[v,.func (.func bg) Nf aP] w (dN l.length p I (fun _=> .bool true) (.bool false)):=by
 have HI:=aa (aen l v bg Nf aP p I w eg Y5 qY h0);have IY:=(Y5 0 w h0).len;clear Y5 qY h0 eg;go_enter Tryz.func285,Tryz.ntmps285;exact zac
theorem abE (x:KE) (bx bg:Nat) (Nf aP:Array Value) (b:Bool) (W:World) (R:World->Prop) (eg: Ϛ Tryz.prog bg)
 (hbx:W.cell? ⟨bx,0,none⟩=some (.func (.func bg) Nf aP))
 (qY:Ϝ bg (Nf.push (kev x)++aP) W (fun e W'=>e= .returned (.bool b)/\R W')):
 Ϝ 286 #[kev x,.pointer (some ⟨bx,0,none⟩)] W (fun e W'=>e= .returned (.bool !b)/\R W'):=by
 have uM:=dB W _ hbx;have HC:=aa qY;clear qY;go_enter Tryz.func286,Tryz.ntmps286;exact zao
theorem aeq (l:List KE) (v:Value) (bg:Nat) (Nf aP:Array Value) (p:Nat->Bool) (I:Nat->World->Prop) (w:World) (eg: Ϛ Tryz.prog bg)
 (Y5: ∀k W,I k W->sF W v l) (hal: ∀k W o,I k W->I k (W.alloc o))
 (qY: ∀k (hk:k<l.length) W,(∀j,j<k->p j=true)->I k W->Ϝ bg (Nf.push (kev l[k])++aP) W (fun e W'=>e= .returned (.bool (p k))/\I (k+1) W'/\iA w.heap.size W W')) (h0:I 0 w):
 Ϝ 225 #[v,.func (.func bg) Nf aP] w (dN l.length (fun k=>!p k) I (fun _=> .bool false) (.bool true)):=by
 have HI:=aa (abB l v 286 #[] #[.pointer (some ⟨w.heap.size,0,none⟩)] (fun k=>!p k)
  (fun k W=>I k W/\W.heap[w.heap.size]? =some (.cells #[.func (.func bg) Nf aP] 163 (0,0))) (w.alloc (.cells #[.func (.func bg) Nf aP] 163))
  (enters_of Tryz.func286 ϰ rfl) (fun k W h=>Y5 k W h.1)
  (fun k hk W IB h=>by
    have uM:w.heap.size<W.heap.size:=(aN.1 h.2).1;refine(abE l[k] w.heap.size bg Nf aP (p k) W (fun W'=>I (k+1) W'/\W'.heap[w.heap.size]? =some (.cells #[.func (.func bg) Nf aP] 163 (0,0))) eg (aD h.2) ?_);refine(qY k hk _ (fun j hj=>by simpa using IB j hj) (by first|exact hal _ _ _ h.1|exact h.1)).mono ?_;rintro e W' ⟨rfl,h1,h2⟩;refine⟨rfl,h1,(h2.block _ (ah _) (by first|exact uM|(simp;omega))).trans (by first|exact h.2|exact(Below.heap_alloc _ _ _ uM).trans h.2)⟩)
  ⟨hal _ _ _ h0,heap_alloc_new w _⟩)
 have IY:=(Y5 0 w h0).len;clear Y5 qY h0 eg hal;go_enter Tryz.func225,Tryz.ntmps225;exact zae
theorem N8 (l:List KE) (v:Value) (bg:Nat) (Nf aP:Array Value) (q:KE->Bool) (w:World) (hv:sF w v l) (eg: Ϛ Tryz.prog bg)
 (qY: ∀x∈l, ∀W,Ϙ w W->Ϝ bg (Nf.push (kev x)++aP) W (PV (.bool (q x)) W)):
 Ϝ 225 #[v,.func (.func bg) Nf aP] w (PV (.bool (l.all q)) w):=by
 refine(aeq l v bg Nf aP (fun k=>q (l.getD k (undef,[]))) (fun _ W=>Ϙ w W) w eg (fun k W h=>hv.below h (ah _)) (fun k W o h=>ai h o) (fun k hk W _ h=>?_) (aF _ _)).mono ?_
 ·exact zaB
 ·exact zaJ
theorem ael (l:List EU) (v:Value) (bg:Nat) (Nf aP:Array Value) (p:Nat->Bool) (I:Nat->World->Prop) (w:World) (eg: Ϛ Tryz.prog bg)
 (Y5: ∀k W,I k W->pF W v l)
 (qY: ∀k (hk:k<l.length) W,(∀j,j<k->p j=false)->I k W->Ϝ bg (Nf.push (JF l[k])++aP) W (fun e W'=>e= .returned (.bool (p k))/\I (k+1) W')) (h0:I 0 w):
 Ϝ 316 #[v,.func (.func bg) Nf aP] w (dN l.length p I (fun k=>iv k) (iv (-1))):=by
 have IY:=(Y5 0 w h0).len;obtain⟨o,c,rfl⟩:=(Y5 0 w h0).open;have HC:=aa qY;have HS:=aa Y5;clear qY Y5;go_enter Tryz.func316,Tryz.ntmps316;go_wp2;go_loopw [4,5,8] (fun _ _ i wr=> ∃k:Nat,k<=l.length/\i= .int .i64 k/\(∀j,j<k->p j=false)/\I k wr) (fun _ _ i _=>l.length-(intOf i).toNat)
 case atStart=>exact⟨0,bE _,rfl,fun j hj=>ϑ,h0⟩
 case round=>
  obtain⟨k,hk,rfl,IB,hI⟩:=hrel;by_cases uM:k<l.length
  ·obtain⟨b,off,rfl,hb,hc0,hc1,hc2,hc3⟩:=pF.cell (HS.o k wr hI) uM;exact zcC
  ·exact zam
theorem abz (l:List EU) (v:Value) (bg:Nat) (Nf aP:Array Value) (p:Nat->Bool) (I:Nat->World->Prop) (w:World) (eg: Ϛ Tryz.prog bg)
 (Y5: ∀k W,I k W->pF W v l)
 (qY: ∀k (hk:k<l.length) W,(∀j,j<k->p j=false)->I k W->Ϝ bg (Nf.push (JF l[k])++aP) W (fun e W'=>e= .returned (.bool (p k))/\I (k+1) W')) (h0:I 0 w):
 Ϝ 287 #[v,.func (.func bg) Nf aP] w (dN l.length p I (fun _=> .bool true) (.bool false)):=by
 have HI:=aa (ael l v bg Nf aP p I w eg Y5 qY h0);have IY:=(Y5 0 w h0).len;clear Y5 qY h0 eg;go_enter Tryz.func287,Tryz.ntmps287;exact zac
theorem abC (x:EU) (bx bg:Nat) (Nf aP:Array Value) (b:Bool) (W:World) (R:World->Prop) (eg: Ϛ Tryz.prog bg)
 (hbx:W.cell? ⟨bx,0,none⟩=some (.func (.func bg) Nf aP))
 (qY:Ϝ bg (Nf.push (JF x)++aP) (W.alloc (.cells #[.bool x.1,iv x.2.1,iv x.2.2.1,iv x.2.2.2] 192)) (fun e W'=>e= .returned (.bool b)/\R W')):
 Ϝ 288 #[JF x,.pointer (some ⟨bx,0,none⟩)] W (fun e W'=>e= .returned (.bool !b)/\R W'):=by
 have uM:=dB W _ hbx;have HC:=aa qY;clear qY;go_enter Tryz.func288,Tryz.ntmps288;exact zao
theorem aeo (l:List EU) (v:Value) (bg:Nat) (Nf aP:Array Value) (p:Nat->Bool) (I:Nat->World->Prop) (w:World) (eg: Ϛ Tryz.prog bg)
 (Y5: ∀k W,I k W->pF W v l) (hal: ∀k W o,I k W->I k (W.alloc o))
 (qY: ∀k (hk:k<l.length) W,(∀j,j<k->p j=true)->I k W->Ϝ bg (Nf.push (JF l[k])++aP) W (fun e W'=>e= .returned (.bool (p k))/\I (k+1) W'/\iA w.heap.size W W')) (h0:I 0 w):
 Ϝ 226 #[v,.func (.func bg) Nf aP] w (dN l.length (fun k=>!p k) I (fun _=> .bool false) (.bool true)):=by
 have HI:=aa (abz l v 288 #[] #[.pointer (some ⟨w.heap.size,0,none⟩)] (fun k=>!p k)
  (fun k W=>I k W/\W.heap[w.heap.size]? =some (.cells #[.func (.func bg) Nf aP] 335 (0,0))) (w.alloc (.cells #[.func (.func bg) Nf aP] 335))
  (enters_of Tryz.func288 ϰ rfl) (fun k W h=>Y5 k W h.1)
  (fun k hk W IB h=>by
    have uM:w.heap.size<W.heap.size:=(aN.1 h.2).1;refine(abC l[k] w.heap.size bg Nf aP (p k) W (fun W'=>I (k+1) W'/\W'.heap[w.heap.size]? =some (.cells #[.func (.func bg) Nf aP] 335 (0,0))) eg (aD h.2) ?_);refine(qY k hk _ (fun j hj=>by simpa using IB j hj) (by first|exact hal _ _ _ h.1|exact h.1)).mono ?_;rintro e W' ⟨rfl,h1,h2⟩;refine⟨rfl,h1,(h2.block _ (ah _) (by first|exact uM|(simp;omega))).trans (by first|exact h.2|exact(aT _ _ _ uM).trans h.2)⟩)
  ⟨hal _ _ _ h0,heap_alloc_new w _⟩)
 have IY:=(Y5 0 w h0).len;clear Y5 qY h0 eg hal;go_enter Tryz.func226,Tryz.ntmps226;exact zae
theorem NZ (l:List EU) (v:Value) (bg:Nat) (Nf aP:Array Value) (q:EU->Bool) (w:World) (hv:pF w v l) (eg: Ϛ Tryz.prog bg)
 (qY: ∀x∈l, ∀W,Ϙ w W->Ϝ bg (Nf.push (JF x)++aP) W (PV (.bool (q x)) W)):
 Ϝ 226 #[v,.func (.func bg) Nf aP] w (PV (.bool (l.all q)) w):=by
 refine(aeo l v bg Nf aP (fun k=>q (l.getD k (false,0,(0,0)))) (fun _ W=>Ϙ w W) w eg (fun k W h=>hv.below h (ah _)) (fun k W o h=>ai h o) (fun k hk W _ h=>?_) (aF _ _)).mono ?_
 ·exact zaB
 ·exact zaJ
theorem abF (x:Int) (bx bg:Nat) (Nf aP:Array Value) (b:Bool) (W:World) (R:World->Prop) (eg: Ϛ Tryz.prog bg)
 (hbx:W.cell? ⟨bx,0,none⟩=some (.func (.func bg) Nf aP))
 (qY:Ϝ bg (Nf.push (iv x)++aP) W (fun e W'=>e= .returned (.bool b)/\R W')):
 Ϝ 336 #[iv x,.pointer (some ⟨bx,0,none⟩)] W (fun e W'=>e= .returned (.bool !b)/\R W'):=by
 have uM:=dB W _ hbx;have HC:=aa qY;clear qY;go_enter Tryz.func336,Tryz.ntmps336;exact zao
theorem aer (l:List Int) (v:Value) (bg:Nat) (Nf aP:Array Value) (p:Nat->Bool) (I:Nat->World->Prop) (w:World) (eg: Ϛ Tryz.prog bg)
 (Y5: ∀k W,I k W->aL W v l) (hal: ∀k W o,I k W->I k (W.alloc o))
 (qY: ∀k (hk:k<l.length) W,(∀j,j<k->p j=true)->I k W->Ϝ bg (Nf.push (iv l[k])++aP) W (fun e W'=>e= .returned (.bool (p k))/\I (k+1) W'/\iA w.heap.size W W')) (h0:I 0 w):
 Ϝ 312 #[v,.func (.func bg) Nf aP] w (dN l.length (fun k=>!p k) I (fun _=> .bool false) (.bool true)):=by
 have HI:=aa (LD l v 336 #[] #[.pointer (some ⟨w.heap.size,0,none⟩)] (fun k=>!p k)
  (fun k W=>I k W/\W.heap[w.heap.size]? =some (.cells #[.func (.func bg) Nf aP] 274 (0,0))) (w.alloc (.cells #[.func (.func bg) Nf aP] 274))
  (enters_of Tryz.func336 ϰ rfl) (fun k W h=>Y5 k W h.1)
  (fun k hk W IB h=>by
    have uM:w.heap.size<W.heap.size:=(aN.1 h.2).1;refine(abF l[k] w.heap.size bg Nf aP (p k) W (fun W'=>I (k+1) W'/\W'.heap[w.heap.size]? =some (.cells #[.func (.func bg) Nf aP] 274 (0,0))) eg (aD h.2) ?_);refine(qY k hk _ (fun j hj=>by simpa using IB j hj) (by first|exact hal _ _ _ h.1|exact h.1)).mono ?_;rintro e W' ⟨rfl,h1,h2⟩;refine⟨rfl,h1,(h2.block _ (ah _) (by first|exact uM|(simp;omega))).trans (by first|exact h.2|exact(Below.heap_alloc _ _ _ uM).trans h.2)⟩)
  ⟨hal _ _ _ h0,heap_alloc_new w _⟩)
 have IY:=(Y5 0 w h0).len;clear Y5 qY h0 eg hal;go_enter Tryz.func312,Tryz.ntmps312;exact zae
theorem N9 (l:List Int) (v:Value) (bg:Nat) (Nf aP:Array Value) (q:Int->Bool) (w:World) (hv:aL w v l) (eg: Ϛ Tryz.prog bg)
 (qY: ∀x∈l, ∀W,Ϙ w W->Ϝ bg (Nf.push (iv x)++aP) W (PV (.bool (q x)) W)):
 Ϝ 312 #[v,.func (.func bg) Nf aP] w (PV (.bool (l.all q)) w):=by
 refine(aer l v bg Nf aP (fun k=>q (l.getD k 0)) (fun _ W=>Ϙ w W) w eg (fun k W h=>hv.below h (ah _)) (fun k W o h=>ai h o) (fun k hk W _ h=>?_) (aF _ _)).mono ?_
 ·exact zaB
 ·exact zaJ
theorem JQ (c:bF) (oh:Option Addr) (ch:Nat) (kvv tv:Value) (l:List Int) (v:Value) (w:World) (hv:aL w v l):
 Ϝ 281 #[kv (.slice oh c.heaps.length ch) kvv tv,v] w (PV (.bool (qx c l)) w):=by
 obtain⟨o,cc,rfl⟩:=hv.open;have HA:=aa (fun(W:World) (hb:Ϙ w W)=>N9 l (.slice o l.length cc) 313 #[] #[] (lV · 0 30) W (hv.below hb (ah _)) (enters_of Tryz.func313 ϰ rfl) (fun x _ W _=>MW x W));clear hv;unfold qx;by_cases hl:l.length=c.heaps.length
 ·have hl':((l.length:Int)==(c.heaps.length:Int))=true:=by simp[hl]
  rw[decide_eq_true hl,Bool.true_and];have HL:=aa hl;clear hl;go_enter Tryz.func281,Tryz.ntmps281;go_wp2_with fail
  refine(HA.o _ (ai (aF _ _) _)).mono ?_;rintro e w' ⟨rfl,hb⟩;obtain⟨hc,hf⟩:=bH hb;go_wp2_with fail
  go_returns;exact⟨by simp,aV (ai (aF _ _) _) hb⟩
 ·have hl':((l.length:Int)==(c.heaps.length:Int))=false:=by simp;omega
  rw[decide_eq_false hl,Bool.false_and];have HL:=aa hl;clear hl;go_enter Tryz.func281,Tryz.ntmps281;exact zba
theorem Ob (c:bF) (oh:Option Addr) (ch:Nat) (kvv tv:Value) (e:KE) (w:World) (hv:aL w e.1 e.2) (hh:c.heaps.length<=1000):
 Ϝ 222 #[kv (.slice oh c.heaps.length ch) kvv tv,kev e] w (PV (.bool (tX c e.2)) w):=by
 obtain⟨v,l⟩:=e;simp only[kev] at hv⊢;obtain⟨o,cc,rfl⟩:=hv.open;have HA:=aa (fun(W:World) (hb:Ϙ w W)=>JQ c oh ch kvv tv l (.slice o l.length cc) W (hv.below hb (ah _)));by_cases hw:qx c l=true
 ·have hx:(∀x∈l,0<=x/\x<=9999)/\l.length=c.heaps.length:=by
   simp only[qx,lV,dU,dZ,jh] at hw;exact⟨fun x hx=>by have:=hw.2 x hx;omega,hw.1⟩
  have hn:l.length<=1000:=ϑ;have HS:=aa (fun(W:World) (hb:Ϙ w W)=>KN l (.slice o l.length cc) W (hv.below hb (ah _)) hx.1 hn);have HC:Hid (tX c l=decide (0<kM l)):=aa (by unfold tX;rw[hw,Bool.true_and]);rw[hw] at HA;clear hv hw hx;rw[HC.o];generalize kM l=m at HS;go_enter Tryz.func222,Tryz.ntmps222;go_wp2_with fail
  refine(HA.o _ (ai (aF _ _) _)).mono ?_;rintro e w1 ⟨rfl,hb⟩;obtain⟨hc,hf⟩:=bH hb;have HB:=aa (show Ϙ w w1 from aV (ai (aF _ _) _) hb);clear hb;go_wp2_with fail
  refine(HS.o _ HB.o).mono ?_;rintro e w2 ⟨rfl,hb⟩;obtain⟨hc2,hf2⟩:=bH hb;have Uy:=aa (aV HB.o hb);exact zay
 ·have hw':qx c l=false:=by simpa using hw
  rw[hw'] at HA;have HC:Hid (tX c l=false):=aa (by unfold tX;rw[hw'];rfl);clear hv hw hw';rw[HC.o];go_enter Tryz.func222,Tryz.ntmps222;go_wp2_with fail
  refine(HA.o _ (ai (aF _ _) _)).mono ?_;rintro e w1 ⟨rfl,hb⟩;obtain⟨hc,hf⟩:=bH hb;have HB:=aa (show Ϙ w w1 from aV (ai (aF _ _) _) hb);clear hb;exact zaA
theorem NV (c:bF) (oh ok:Option Addr) (ch ck:Nat) (tv:Value) (t:EU) (w:World) (h1:c.heaps.length<=1000) (h2:c.aQ.length<=1000):
 Ϝ 221 #[kv (.slice oh c.heaps.length ch) (.slice ok c.aQ.length ck) tv,JF t] w (PV (.bool (qy c t)) w):=by
 obtain⟨b,n,r⟩:=t;cases b;all_goals
  go_enter Tryz.func221,Tryz.ntmps221;go_wp2_with fail
  refine(vZ _ _ _ _).mono ?_;rintro e w1 ⟨rfl,hb⟩;obtain⟨hc,hf⟩:=bH hb;have hz:=hb.size;simp only[bA] at hz;have HB:=aa (show Ϙ w w1 from zl);clear hb
 ·cases hq:lV n 0 ((c.heaps.length:Int)-1)
  ·go_wp2_with fail
   go_returns;exact⟨by simp[qy,uA,hq],HB.o⟩
  ·exact zbM
 ·cases hq:lV n 0 ((c.aQ.length:Int)-1)
  ·go_wp2_with fail
   go_returns;exact⟨by simp[qy,uA,hq],HB.o⟩
  ·exact zbM
theorem NW (c:bF) (oh:Option Addr) (ch:Nat) (kvv tv:Value) (t:EU) (w:World) (h1:c.heaps.length<=1000) (h2:0<=t.2.1) (h3:t.2.1<=1000):
 Ϝ 290 #[kv (.slice oh c.heaps.length ch) kvv tv,JF t] w (PV (iv (xR c t:Nat)) w):=by
 obtain⟨b,n,r⟩:=t;simp only at h2 h3;obtain⟨k,rfl⟩: ∃k:Nat,n=k:=⟨n.toNat,by omega⟩;cases b
 ·exact zcn
 ·exact zcn
theorem RJ (l:List Int) (v:Value) (s:List Int) (x0 x1 x2:Int) (hx:jv s=[x0,x1,x2]) (w:World) (hv:aL w v l) (hl:l.length=s.length) (h3:s.length<=3)
 (hw: ∀x∈l,0<=x/\x<=30) (hs: ∀x∈s,0<=x/\x<=100) (hp:0<kM l):
 Ϝ 232 #[.agg #[iv x0,iv x1,iv x2],v] w (PV (iv (Br s l)) w):=by
 obtain⟨o,c,rfl⟩:=hv.open;have HSM:=aa (fun(W:World) (hb:Ϙ w W)=>KN l (.slice o l.length c) W (hv.below hb (ah _)) (fun x hx=>by have:=hw x hx;omega) ϑ);have HV:=aa (hv.alloc (.cells #[iv x0,iv x1,iv x2] 283));have HW:=aa hw;have HS:=aa hs;have HD:=aa (fun k=>WX hw hs k);have HA:=aa (SN hl);have HX:=aa hx;have HP:=aa hp;have hM:Hid (Br s l=xx l s/kM l):=aa rfl;have hsb:=(Cg (m:=30) ϑ hw);rw[hM.o];generalize xx l s=D at HA hM⊢;generalize kM l=m at hsb hp HSM HP;have HCB:=aa (fun(k:Nat) (hk:k<3)=>show(w.alloc (.cells #[iv x0,iv x1,iv x2] 283)).cell? ⟨w.heap.size,k,none⟩=some (iv ([x0,x1,x2].getD k 0)) from by
  rw[World.cell?_alloc_new];rcases(show k=0∨k=1∨k=2 by omega) with rfl|rfl|rfl <;>rfl)
 have HL:=aa (af hl h3);have hl3:(l.length:Int)<=3:=ϑ;clear hv hw hs hx hp hl h3;go_enter Tryz.func232,Tryz.ntmps232;go_wp2_with fail
 go_loop [5,6,7,10] (fun n _ _ i=> ∃k:Nat,k<=l.length/\i= .int .i64 k/\n=iv (wG l s k)) (fun _ _ _ i=>l.length-(intOf i).toNat)
 case atStart=>exact⟨0,bE _,rfl,by simp[wG,xx]⟩
 case round=>
  obtain⟨k,hk,rfl,rfl⟩:=hrel;have hb:=HD.o k;by_cases uM:k<l.length
  ·obtain⟨b,off,rfl,χ,hc0⟩:=aL.cell HV.o uM;have Θ:k<s.length:=by have:=HL.o;omega
   have hx1:=HW.o _ (bZ uM);have hx2:=HS.o _ (bZ Θ);have hsu:=OE uM Θ;have hk3:k<3:=ϑ;have hget:=HCB.o k hk3;rw[<-HX.o,Kr,fK,dn Θ,Option.getD_some] at hget;generalize wG l s k=d at hb hsu⊢;generalize l[k]=x at hc0 hx1 hsu;generalize s[k]=y at hx2 hsu hget;have hmul:0<=x*y/\x*y<=30*100:=⟨Int.mul_nonneg ϑ ϑ,Int.mul_le_mul hx1.2 hx2.2 ϑ ϑ⟩;obtain⟨Υ,hm2⟩:=hmul;have HE:=aa hsu;have aoL:(k:Int)<3:=ϑ;clear hsu;go_wp2_with fail
   exact zbH
  ·have Y9:k=l.length:=ϑ;rw[Y9,HA.o];rw[Y9,HA.o] at hb;have hpp:=HP.o;have hdv:D.tdiv m=D/m:=Int.tdiv_eq_ediv_of_nonneg hb.1;have hd0:0<=D/m:=Int.ediv_nonneg hb.1 ϑ;have hd1:D/m<=D:=Int.ediv_le_self _ hb.1;go_wp2_with fail
   refine(HSM.o _ (ai (aF _ _) _)).mono ?_;rintro e w1 ⟨rfl,hbb⟩;have HB:=aa (show Ϙ w w1 from aV (ai (aF _ _) _) hbb);clear hbb;have hm0:m≠0:=ϑ;go_wp2_with fail
   go_returns;exact⟨by simp[hdv],HB.o⟩
attribute [local go_sem] Oper.semAt_some
theorem lN {l:List Int} (h:l.length=3): ∃a b c,l=[a,b,c]:=by
 match l,h with
 |[a,b,c],_=>exact⟨a,b,c,rfl⟩
def Str (c:bF) (s:List Int):Prop:=s.length=c.heaps.length/\ ∀x∈s,0<=x/\x<=100
theorem Qb (c:bF) (hS:lL c) (oh ok:Option Addr) (ch ck:Nat) (tv:Value) (es:List KE) (s:List Int) (x0 x1 x2:Int) (hx:jv s=[x0,x1,x2]) (hs:Str c s) (n:Nat) (hn:lD c n) (w:World)
 (hk:sF w (.slice ok c.aQ.length ck) es) (hes:es.map (·.2)=c.aQ):
 Ϝ 141 #[kv (.slice oh c.heaps.length ch) (.slice ok c.aQ.length ck) tv,.agg #[iv x0,iv x1,iv x2],iv n] w (PV (iv (Ff c s n)) w):=by
 have h3:=hS.h3;have h1:=hS.h1;have c3:=hS.c3;have hel:es.length=c.aQ.length:=by rw[<-hes,kJ]
 unfold lD at hn;by_cases uM:n<c.heaps.length
 ·have hv:[x0,x1,x2].getD n 0=Ff c s n:=by
   unfold Ff;rw[aG uM, <-hx,Kr]
  have I7:(n:Int)<3:=ϑ;have oK: ¬(c.heaps.length:Int)<=n:=ϑ;have Q7:((w.alloc (.cells #[.slice oh c.heaps.length ch,.slice ok c.aQ.length ck,tv] 60)).alloc (.cells #[iv x0,iv x1,iv x2] 283)).cell? ⟨w.heap.size+1,n,none⟩=some (iv (Ff c s n)):=by
   rw[<-hv];simp only[World.cell?,dm];rcases(show n=0∨n=1∨n=2 by omega) with rfl|rfl|rfl <;>rfl
  generalize Ff c s n=r at Q7⊢;clear hx hs hk hes hv hel;go_enter Tryz.func141,Tryz.ntmps141;exact zba
 ·have hk0:n-c.heaps.length<es.length:=ϑ;have hkc:n-c.heaps.length<c.aQ.length:=ϑ;have he:es[n-c.heaps.length].2=c.aQ[n-c.heaps.length]:=by simp only[<-hes,List.getElem_map]
  have hc:=hS.aQ _ (bZ hkc);have hr:=hk.2 _ (bZ hk0);rw[<-hel] at hk;obtain⟨b,off,rfl,hb,Q7⟩:=sF.cell hk hk0;generalize Ay:es[n-c.heaps.length]=e at*
  obtain⟨ev,el⟩:=e;simp only at he hr Q7;subst he;obtain⟨oe,ce,rfl⟩:=hr.open;have hv:Ff c s n=Br s c.aQ[n-c.heaps.length]:=by
   unfold Ff;rw[ak uM,fK,dn hkc,Option.getD_some]
  rw[hv];have HM:=aa (fun(W:World) (hB:Ϙ w W)=>RJ c.aQ[n-c.heaps.length] _ s x0 x1 x2 hx W (hr.below hB (ah _)) (by rw[hc.1,hs.1]) (by rw[hs.1];exact h3) hc.2.1 hs.2 hc.2.2);obtain⟨j,hj⟩: ∃j:Nat,n-c.heaps.length=j:=⟨_,rfl⟩;obtain rfl:n=c.heaps.length+j:=ϑ;have hjI:(((c.heaps.length+j:Nat):Int)-(c.heaps.length:Int))=j:=ϑ;have ajw:(c.heaps.length:Int)<=((c.heaps.length+j:Nat):Int):=ϑ;have hjl:(j:Int)<c.aQ.length:=ϑ;generalize c.aQ[c.heaps.length+j-c.heaps.length]=l at*
  generalize Br s l=r at HM⊢;rw[hj] at Q7;have HX:=aa (af hx hs);clear hx hs hv hk hc hr Ay hj hk0 hkc hes hel;obtain⟨N,hN⟩: ∃N:Int,((c.heaps.length+j:Nat):Int)=N:=⟨_,rfl⟩;rw[hN] at hjI ajw⊢;clear hN uM hn;go_enter Tryz.func141,Tryz.ntmps141;go_upto_region 3 with(fail)
  refine bU fun W3 φ=>?_;have Γ:Ϙ w W3:=by rw[φ];exact zl
  have hk1:W3.heap[w.heap.size]? =some (.cells #[.slice oh c.heaps.length ch,.slice (some ⟨b,off,none⟩) c.aQ.length ck,tv] 60 (0,0)):=by rw[φ];exact(aT _ _ _ ϕ).trans (av _ _)
  have hk2:W3.heap[w.heap.size+1]? =some (.cells #[iv x0,iv x1,iv x2] 283 (0,0)):=by rw[φ];exact dm _ _ _
  have ajJ:W3.cell? ⟨b,off+j,none⟩=some (.slice oe l.length ce):=(Γ.cell hb).trans Q7;have χ:b<W3.heap.size:=by have:=Γ.size;omega
  have ζ:=aa Γ;obtain⟨d1,g1,m1⟩:=ae hk1;obtain⟨d2,g2,m2⟩:=ae hk2;clear φ Q7 hb Γ hk1 hk2;refine zg 9 [] none [(8,Spec.val (iv r))] ?_;simp only[zt];repeat ((first|refine zn ?_|refine zk ?_);simp only[zp])
  refine zw 232 (h:=fun W hE hF=>by exact HM.o W (aV ζ.o hE.below)) (t:=?_)
  simp only[zp];repeat ((first|refine zn ?_|refine zk ?_);simp only[zp])
  intro W hE hF;obtain⟨hc,hf⟩:=bH hE.below;have ig:=hE.size;(try simp only[bA] at ig)
  go_wp2_with fail
  (try simp only[Exit.inBlock,Exit.then])
  refine bodyPost_ret (v:=iv r) (by simp[results,Tryz.results141,go_sem,hc];try omega) rfl ?_;exact⟨rfl,aV ζ.o hE.below⟩
structure TJ (w:World) (hv kP tv:Value) (x0 x1 x2:Int) (W:World):Prop where
 b0:W.heap[w.heap.size]? =some (.cells #[hv,kP,tv] 60 (0,0))
 b1:W.heap[w.heap.size+1]? =some (.cells #[iv x0,iv x1,iv x2] 283 (0,0))
 below:Ϙ w W
theorem TJ.next {w:World} {hv kP tv:Value} {x0 x1 x2:Int} {W W':World} (h:TJ w hv kP tv x0 x1 x2 W) (hb:Ϙ W W'):TJ w hv kP tv x0 x1 x2 W':=
 ⟨(hb.block _ (aN.1 h.b0).1).trans h.b0,(hb.block _ (aN.1 h.b1).1).trans h.b1,aV h.below hb⟩
def uq (c:bF) (out s:List Int) (k:Nat):Bool:=(List.range k).all fun i=>out.contains (i:Int) ||CS c s (c.aI.getD i (false,0,(0,0)))
theorem Nl (c:bF) (hS:lL c) (oh ok ot:Option Addr) (ch ck ct:Nat) (es:List KE) (s:List Int) (x0 x1 x2:Int) (hx:jv s=[x0,x1,x2]) (hs:Str c s) (ov:Value) (out:List Int) (w:World)
 (hc:lh w (.slice oh c.heaps.length ch) (.slice ok c.aQ.length ck) (.slice ot c.aI.length ct) es c) (ho:aL w ov out):
 Ϝ 231 #[kv (.slice oh c.heaps.length ch) (.slice ok c.aQ.length ck) (.slice ot c.aI.length ct),.agg #[iv x0,iv x1,iv x2],ov] w (PV (.bool (qD c out s)) w):=by
 obtain⟨oo,oc,rfl⟩:=ho.open;have t5:=hS.t5;have HS:=aa hS;have HC:=aa hc;have HO:=aa ho;have HX:=aa (af hx hs);have HF:=aa (fun(n:Nat) (hn:lD c n) (W:World) (hB:Ϙ w W)=>Qb c hS oh ok ch ck (.slice ot c.aI.length ct) es s x0 x1 x2 hx hs n hn W (hc.aQ.below hB (ah _)) hc.is);have HT:=aa (fun(t:EU) (ht:t∈c.aI) (W:World)=>NW c oh ch (.slice ok c.aQ.length ck) (.slice ot c.aI.length ct) t W (by have:=hS.h3;omega) ((hS.aI t ht).1.1) (by
  have h1:=(hS.aI t ht).1.2;have h2:=hS.h3;have h3:=hS.c3;unfold uA at h1;split at h1 <;>omega))
 clear hS hc ho hx hs;go_enter Tryz.func231,Tryz.ntmps231;go_upto_region 1 with(fail)
 refine bU fun W1 ν=>?_;have Y6:TJ w (.slice oh c.heaps.length ch) (.slice ok c.aQ.length ck) (.slice ot c.aI.length ct) x0 x1 x2 W1:=by
  rw[ν];exact⟨(aT _ _ _ ϕ).trans (av _ _),dm _ _ _,zl⟩
 clear ν;obtain⟨cc0,cf0,cl0⟩:=ae Y6.b0;have π:=aa Y6;clear Y6;go_wp2_with fail
 go_loopw [12] (fun i wr=> ∃k:Nat,k<=c.aI.length/\i= .int .i64 k/\uq c out s k=true/\TJ w (.slice oh c.heaps.length ch) (.slice ok c.aQ.length ck) (.slice ot c.aI.length ct) x0 x1 x2 wr) (fun i _=>c.aI.length-(intOf i).toNat)
 case atStart=>exact⟨0,bE _,rfl,rfl,π.o⟩
 case round=>
  obtain⟨k,hk,rfl,hok,Y6⟩:=hrel;have EY:=aa Y6;have iF:=aa hok;clear hok cc0 cf0 cl0;by_cases uM:k<c.aI.length
  ·have htl:=HC.o.aI.below Y6.below (ah _);obtain⟨b,off,hv,hb,d0,d1,d2,d3⟩:=pF.cell htl uM;cases hv;have hmem:=bZ uM;have hth:=QZ HS.o hmem;have hT:=HT.o _ hmem;have hso:uq c out s (k+1)=(out.contains (k:Int) ||CS c s c.aI[k]):=by
    have h1:=iF.o;unfold uq at h1⊢;rw[kT,h1,Bool.true_and,show c.aI.getD k (false,0,(0,0))=c.aI[k] from by simp[List.getD,uM]]
   generalize c.aI[k]=t at*
   obtain⟨tb,tn,Il,Im⟩:=t;simp only at d0 d1 d2 d3;have HTH:=aa hth;obtain⟨q,hq⟩: ∃q,xR c (tb,tn,(Il,Im))=q:=⟨_,rfl⟩;rw[hq] at hT HTH;have hF:=HF.o q HTH.o;obtain⟨r,hr⟩: ∃r,Ff c s q=r:=⟨_,rfl⟩;rw[hr] at hF;have aeM:uq c out s (k+1)=(out.contains (k:Int) ||lV r Il Im):=by
    rw[hso];unfold CS;rw[hq,hr]
   have HSO:=aa aeM;have XJ:=aa hT;have HFF:=aa hF;have hcn:=fun W (hB:Ϙ w W)=>gz out (.slice oo out.length oc) (k:Int) W (HO.o.below hB (ah _));generalize out.contains (k:Int)=cb at*
   have Ye:=aa hcn;clear Y6 htl hmem hth hT hso aeM hq hF hr hcn;go_upto_region 4 with(fail)
   refine bU fun W4 zu=>?_;have Zf:TJ w _ _ _ x0 x1 x2 W4:=EY.o.next (by rw[zu];exact zl);have Qk:W4.heap[wr.heap.size]? =some (.cells #[.bool tb,iv tn,iv Il,iv Im] 192 (0,0)):=by rw[zu];exact av _ _
   have hB4:Ϙ wr W4:=by rw[zu];exact zl
   obtain⟨c1,f1,l1⟩:=ae Zf.b0;obtain⟨c2,f2,l2⟩:=ae Zf.b1;obtain⟨c3,f3,l3⟩:=ae Qk;have QM:=aa Zf;clear zu Zf Qk hB4 d0 d1 d2 d3 hb;cases cb
   ·skip
    refine zg 16 [] none [(2,Spec.val (.bool false)),(11,Spec.val (iv q)),(12,Spec.val (iv r)),(13,Spec.val (.bool (lV r Il Im)))] ?_;simp only[zt];repeat ((first|refine zn ?_|refine zk ?_);simp only[zp])
    refine zw 147 (h:=fun W hE hF=>by exact Ye.o W (aV QM.o.below hE.below)) (t:=?_)
    simp only[zp];repeat ((first|refine zn ?_|refine zk ?_);simp only[zp])
    refine zw 290 (h:=fun W hE hF=>by exact XJ.o W) (t:=?_);simp only[zp];refine zw 141 (h:=fun W hE hF=>by exact HFF.o W (aV QM.o.below hE.below)) (t:=?_)
    simp only[zp];refine zw 289 (h:=fun W hE hF=>by exact Vz (Il,Im) r W) (t:=?_)
    simp only[zp];repeat ((first|refine zn ?_|refine zk ?_);simp only[zp])
    intro W hE hF;obtain⟨hc,hf⟩:=bH hE.below;have ig:=hE.size;(try simp only[bA] at ig)
    have VJ:=QM.o.next hE.below;have HS5:=aa VJ;clear VJ hE hF hc hf ig c1 f1 l1 c2 f2 l2 c3 f3 l3;cases hq2:lV r Il Im
    ·have wK:Hid (qD c out s=false):=aa (by
      have h1:=HSO.o;rw[hq2] at h1;have h2:uq c out s c.aI.length=qD c out s:=rfl;rw[<-h2];cases h3:uq c out s c.aI.length
      ·rfl
      ·unfold uq at h1 h3;rw[jh] at h3;have:(List.range (k+1)).all (fun i=>out.contains (i:Int) ||CS c s (c.aI.getD i (false,0,(0,0))))=true:=by
        rw[jh];intro i hi;exact h3 i (jQ.2 (by have:=jQ.1 hi;omega))
       rw[this] at h1;cases h1)
     go_wp2_with fail
     go_returns;exact⟨by rw[wK.o];simp,HS5.o.below⟩
    ·go_wp2_with fail
     go_roundw
     case rel=>exact⟨k+1,by omega,by go_num,by rw[HSO.o,hq2];rfl,HS5.o⟩
     case measure=>simp[intOf];omega
   ·skip
    refine zg 16 [] none [(2,Spec.val (.bool true))] ?_;simp only[zt];repeat ((first|refine zn ?_|refine zk ?_);simp only[zp])
    refine zw 147 (h:=fun W hE hF=>by exact Ye.o W (aV QM.o.below hE.below)) (t:=?_)
    simp only[zp];repeat ((first|refine zn ?_|refine zk ?_);simp only[zp])
    intro W hE hF;obtain⟨hc,hf⟩:=bH hE.below;have ig:=hE.size;(try simp only[bA] at ig)
    have VJ:=QM.o.next hE.below;have HS5:=aa VJ;clear VJ hE hF hc hf ig c1 f1 l1 c2 f2 l2 c3 f3 l3;go_wp2_with fail
    go_roundw
    case rel=>exact⟨k+1,by omega,by go_num,by rw[HSO.o];rfl,HS5.o⟩
    case measure=>simp[intOf];omega
  ·have Y9:k=c.aI.length:=ϑ;subst Y9;have HQ:Hid (qD c out s=true):=aa iF.o;clear Y6;go_wp2_with fail
   go_returns;exact⟨by rw[HQ.o];simp,EY.o.below⟩
attribute [local go_sem] Oper.semAt_some
structure Un (W:World) (bf bo iD ab bc l:Nat) (o:List Int):Prop where
 y:W.heap[iD]? =some (.cells #[.func (.yield l) #[] #[]] 340 (0,0))
 ch:W.heap[bc]? =some (.cells #[.func (.func 230) #[] #[.pointer (some ⟨bf,0,none⟩),.pointer (some ⟨ab,0,none⟩),.pointer (some ⟨bo,0,none⟩),.pointer (some ⟨iD,0,none⟩),.pointer (some ⟨bc,0,none⟩)]] 274 (0,0))
 cells:W.heap[ab]? =some (.cells (ag o).toArray 283 (0,0))
theorem Un.kept {W W':World} {bf bo iD ab bc l:Nat} {o:List Int} (h:Un W bf bo iD ab bc l o) (hk: ∀m∈[ab,iD,bc],m<W.heap.size->W'.heap[m]? =W.heap[m]?):Un W' bf bo iD ab bc l o:=
 ⟨(hk _ ϕ (aN.1 h.y).1).trans h.y,(hk _ ϕ (aN.1 h.ch).1).trans h.ch,(hk _ ϕ (aN.1 h.cells).1).trans h.cells⟩
theorem Un.below {W W':World} {bf bo iD ab bc l:Nat} {o:List Int} (h:Un W bf bo iD ab bc l o) (hb:Ϙ W W'):Un W' bf bo iD ab bc l o:=
 h.kept fun m _ hm=>hb.block m hm
theorem Un.set {W:World} {bf bo iD ab bc l:Nat} {o:List Int} (h:Un W bf bo iD ab bc l o) (hd1:iD≠ab) (hd3:bc≠ab) (i:Nat) (x:Int):Un (W.setCell ⟨ab,i,none⟩ (iv x)) bf bo iD ab bc l (o.set i x):=
 ⟨(bV _ _ _ _ hd1).trans h.y,(bV _ _ _ _ hd3).trans h.ch,by rw[<-qC];exact aA h.cells _⟩
def agS (_:List Nat) (x:List Int) (v:Value) (_:World):Prop:=v=kz (jv x)
structure agY (bf bo:Nat) (D:bF) (hv kP tv ov:Value) (es:List KE) (out:List Int) (W:World):Prop where
 fb:W.heap[bf]? =some (.cells #[hv,kP,tv] 60 (0,0))
 ob:W.heap[bo]? =some (.cells #[ov] 52 (0,0))
 cK:lh W hv kP tv es D
 out:aL W ov out
theorem KV (D:bF) (hS:lL D) (oh ok ot:Option Addr) (ch ck ct:Nat) (ov:Value) (es:List KE) (out:List Int) (bf bo iD ab bc l:Nat) (hd1:iD≠ab) (hd3:bc≠ab) (J:List Nat->Option Nat->World->Prop)
 (hInv: ∀Ms s W1,J Ms s W1->agY bf bo D (.slice oh D.heaps.length ch) (.slice ok D.aQ.length ck) (.slice ot D.aI.length ct) ov es out W1)
 (hstep: ∀Ms jc s W1 W2,J Ms s W1->Ext Ms W1 W2->(∀m∈jc,m∈Ms∨(W1.heap.size<=m/\m<W2.heap.size))->True->J jc s W2)
 (hY: ∀Ms k v W1 (hk:k<(dx D out).length),J Ms (some k) W1->agS Ms (dx D out)[k] v W1->YieldAt Fence.wide 0 Tryz.prog l #[v] W1 fun e W'=>
   ((∀m∈Ms,m∉[]->m<W1.heap.size->W'.heap[m]? =W1.heap[m]?)/\W1.heap.size<=W'.heap.size)/\((e= .returned (.bool true)/\J Ms (some (k+1)) W')∨(e= .returned (.bool false)/\J Ms none W'))):
 ∀(m i k:Nat) (Ρ:List Int) (W:World) (o:List Int),i+m=D.heaps.length->Ρ.length=i->o.length=3->o.take i=Ρ->o.drop D.heaps.length=List.replicate (3-D.heaps.length) 0->iO (D.heaps) i k Ρ->Un W bf bo iD ab bc l o->J [ab,iD,bc] (some (xA D out k)) W->
  CallsIn Fence.wide 0 Tryz.prog 230 #[iv i,.pointer (some ⟨bf,0,none⟩),.pointer (some ⟨ab,0,none⟩),.pointer (some ⟨bo,0,none⟩),.pointer (some ⟨iD,0,none⟩),.pointer (some ⟨bc,0,none⟩)] W
   (fun e W'=>(e= .returned (.bool true)/\J [ab,iD,bc] (some (xA D out (k+(ed ((D.heaps).drop i)).length))) W'/\ ∃o',o'.length=3/\o'.take i=Ρ/\o'.drop D.heaps.length=List.replicate (3-D.heaps.length) 0/\Un W' bf bo iD ab bc l o')∨
     (e= .returned (.bool false)/\J [ab,iD,bc] none W')):=by
 have hh1:=hS.h1;have hh3:=hS.h3;intro m;induction m with
 |zero=>
  intro i k Ρ W o him hpl hol hot hod hat Y6 hJ;have hrow:(i:Int)=(D.heaps.length:Int):=ϑ;obtain⟨hone,hk,hx⟩:=hat.last ϑ;rw[hone];have hop:o=jv Ρ:=by
   rw[<-List.take_append_drop D.heaps.length o,hod];rw[show D.heaps.length=i from ϑ,hot];unfold jv;rw[hpl]
  have Χ:k<(rG D).length:=hk;have xq:(rG D)[k]=Ρ:=hx;obtain⟨hbf,Su,htl,hov⟩:=hInv _ _ _ hJ;obtain⟨oo,oc,rfl⟩:=hov.open;have hmem:Ρ∈rG D:=xq▸bZ Χ;have hstr:Str D Ρ:=qH hS hmem;obtain⟨x0,x1,x2,hxs⟩:=lN hol;have hright:=Nl D hS oh ok ot ch ck ct es Ρ x0 x1 x2 (by rw[<-hop,hxs]) hstr _ out W htl hov;obtain⟨MM,O4,OU⟩:=ae hbf;obtain⟨ZW,cf2,cl2⟩:=ae Su;obtain⟨cc3,cf3,cl3⟩:=ae Y6.y;have hag:kz o= .agg #[iv x0,iv x1,iv x2]:=by rw[hxs];rfl
  have hcb:=Y6.cells;rw[show(ag o).toArray= #[iv x0,iv x1,iv x2] from by rw[hxs];rfl] at hcb
  obtain⟨cc4,cf4,cl4⟩:=ae hcb;have HR:=aa hright;have HS:=aa Y6;have HJ:=aa hJ;have HI:=aa hInv;have π:=aa hstep;have HY:=aa hY;have HK:=aa (show ∃h:k<(rG D).length,(rG D)[k]=Ρ from⟨Χ,xq⟩);have HO:=aa (af hol (af hot (af hod (af hop hag))));have heq:((i:Int)==(D.heaps.length:Int))=true:=by simpa using hrow
  clear hright hInv hstep hY Y6 hJ hbf Su htl hov hat hcb hop hag hxs hx xq hk Χ hone hrow hot hod hmem hstr;obtain⟨q,hq⟩: ∃q,qD D out Ρ=q:=⟨_,rfl⟩;have HQ:=aa hq;rw[hq] at HR;clear hq;cases q
  ·skip
   refine callsIn_of_wp Tryz.func230 rfl trivial ?_;simp only[Tryz.ntmps230,List.size_toArray,List.length_cons,List.length_nil,Nat.reduceAdd,Nat.reduceSub,Array.replicate_succ,Array.replicate_zero,jy,jA,List.nil_append,List.cons_append]
   gi_wp2_with fail
   refine(callsIn_wide.2 HR.o).mono ?_;rintro e W1 ⟨rfl,δ⟩;have R9:=aa δ;clear δ
   gi_wp2_with fail
   go_returns;have BZ:=π.o _ _ _ _ _ HJ.o (Ext.ax R9.o) (fun m hm=> .inl hm) trivial;obtain⟨Χ,xq⟩:=HK.o;rw[<-ZU Χ (by rw[xq];exact HQ.o)] at BZ;exact .inl ⟨by simp,BZ,o,HO.o.1,HO.o.2.1,HO.o.2.2.1,HS.o.below R9.o⟩
  ·skip
   refine callsIn_of_wp Tryz.func230 rfl trivial ?_;simp only[Tryz.ntmps230,List.size_toArray,List.length_cons,List.length_nil,Nat.reduceAdd,Nat.reduceSub,Array.replicate_succ,Array.replicate_zero,jy,jA,List.nil_append,List.cons_append]
   gi_wp2_with fail
   refine(callsIn_wide.2 HR.o).mono ?_;rintro e W1 ⟨rfl,δ⟩;obtain⟨hc1,hf1⟩:=bH δ;have hs1:=δ.size;have R9:=aa δ;have BZ:=π.o _ _ _ _ _ HJ.o (Ext.ax δ) (fun m hm=> .inl hm) trivial;obtain⟨Χ,xq⟩:=HK.o;obtain⟨hc,hx⟩:=M7 Χ (by rw[xq];exact HQ.o);obtain⟨g1,t1,a1,b1,hy1,Ec⟩:=HY.o _ _ (.agg #[iv x0,iv x1,iv x2]) W1 hc BZ (by
    show _=kz (jv _);rw[hx,xq, <-HO.o.2.2.2.1,HO.o.2.2.2.2])
   have hcn:xA D out (k+1)=xA D out k+1:=Xj Χ (by rw[xq];exact HQ.o);exact zaU
 |succ m ih=>
  intro i k Ρ W o him hpl hol hot hod hat Y6 hJ;have hi:i<(D.heaps).length:=ϑ;have ψ:=iO.count hi;have hrg:=hS.rg hi;have hsz0:=hS.sz _ (bZ hi);obtain⟨r,BA⟩: ∃r,D.heaps[i]=r:=⟨_,rfl⟩;rw[BA] at hrg hsz0 ψ;obtain⟨z,hz,hz4⟩: ∃z:Nat,(z:Int)=dQ r/\z<=101:=⟨(dQ r).toNat,by omega,by unfold dQ;omega⟩;have τ:(dQ r).toNat=z:=ϑ;rw[τ] at ψ;obtain⟨hbf,Su,htl,hov⟩:=hInv _ _ _ hJ;obtain⟨MM,O4,OU⟩:=ae hbf;have hne:(i:Int)≠(D.heaps.length:Int):=ϑ;have D5:((i:Int)==(D.heaps.length:Int))=false:=by simpa using hne
  have TS:Hid (∀c:Nat,c<z->iO (D.heaps) (i+1) (k+c*(ed ((D.heaps).drop (i+1))).length) (Ρ++[r.1+(c:Int)])):=aa (fun c hc=>by
   have:=hat.next hi c (by rw[BA,τ];exact hc);rw[BA] at this;exact this)
  obtain⟨bh,anV,hoh,hbh,hh0,Sm⟩:=bD.cell htl.heaps hi;cases hoh;rw[BA] at hh0 Sm;have HI:=aa hInv;have π:=aa hstep;have HS:=aa Y6;have HJ:=aa hJ;have Uk:=aa ih;have Ic:=aa (af hol (af hot hod));have HCZ:=aa ψ;have HZ:=aa hz;have hi3:i<3:=ϑ;have afz:(i:Int)<3:=ϑ;have hiI:(i:Int)<D.heaps.length:=ϑ;have HRI:=aa (show ∃h:i<D.heaps.length,D.heaps[i]=r from⟨hi,BA⟩);have hiR:i<D.heaps.length:=ϑ;clear hInv hstep hY hat Y6 hJ ih ψ hne hbf Su htl hov BA τ hi hol hot hod hz;refine callsIn_of_wp Tryz.func230 rfl trivial ?_;simp only[Tryz.ntmps230,List.size_toArray,List.length_cons,List.length_nil,Nat.reduceAdd,Nat.reduceSub,Array.replicate_succ,Array.replicate_zero,jy,jA,List.nil_append,List.cons_append]
  gi_wp2_with fail
  refine(callsIn_wide.2 (GR r _ hrg.1 hrg.2.1 ϑ)).mono ?_;rintro e W1 ⟨rfl,δ⟩;have Jz:=aa (HS.o.below δ);have HJ1:=aa (π.o _ _ _ _ _ HJ.o (Ext.ax δ) (fun m hm=> .inl hm) trivial);clear δ hh0 Sm hbh MM O4 OU;rw[<-HZ.o]
  gi_wp2_with fail
  gi_loopw [30] (fun u wr=> ∃c:Nat,c<=z/\u= .int .i64 c/\ ∃o':List Int,o'.length=3/\o'.take i=Ρ/\o'.drop D.heaps.length=List.replicate (3-D.heaps.length) 0/\Un wr bf bo iD ab bc l o'/\J [ab,iD,bc] (some (xA D out (k+c*(ed ((D.heaps).drop (i+1))).length))) wr)
   (fun u _=>z-(intOf u).toNat)
  case atStart=>exact⟨0,bE _,rfl,o,Ic.o.1,Ic.o.2.1,Ic.o.2.2,Jz.o,by simpa using HJ1.o⟩
  case round=>
   obtain⟨c,hcz,rfl,o',ho1,ho2,ho3,Y6,hJ⟩:=hrel;by_cases uM:c<z
   ·obtain⟨hbf,Su,htl,hov⟩:=HI.o _ _ _ hJ;obtain⟨cd1,L6,LJ⟩:=ae hbf;obtain⟨cd3,LZ,LH⟩:=ae Y6.ch;obtain⟨y,Q7⟩: ∃y,wr.cell? ⟨ab,i,none⟩=some (iv y):=⟨_,fD Y6.cells (show i<o'.length by omega)⟩;have hab:=dB wr _ Q7;have hfr:=bn Y6.cells i;obtain⟨hi',aeP⟩:=HRI.o;obtain⟨bh',alm,ai8,hbh,hh0,Sm⟩:=bD.cell htl.heaps hi';cases ai8;rw[aeP] at hh0 Sm;clear hi' aeP;have EY:=aa Y6;have PI:=aa hJ;have HO:=aa (af ho1 (af ho2 ho3));have oK:(c:Int)<z:=ϑ;have aaz:(z:Int)=dQ r:=HZ.o;unfold dQ at aaz;have hv0: -9223372036854775808<=r.1+(c:Int)/\r.1+(c:Int)<=9223372036854775807:=ϑ;clear Y6 hJ hbf Su htl hov ho1 ho2 ho3 aaz;have Dw:=EY.o.set hd1 hd3 i (r.1+(c:Int));have WL:J [ab,iD,bc] (some (xA D out (k+c*(ed ((D.heaps).drop (i+1))).length))) (wr.setCell ⟨ab,i,none⟩ (iv (r.1+(c:Int)))):=
     π.o _ _ _ _ _ PI.o ((jo wr ⟨ab,i,none⟩ _).more (fun x hx=>by simp at hx;subst hx;simp)) (fun m hm=> .inl hm) trivial
    have qY:=Uk.o (i+1) _ (Ρ++[r.1+(c:Int)]) _ (o'.set i (r.1+(c:Int))) ϑ (by simp[hpl]) (by simp[HO.o.1]) (by
     rw[List.take_set];rw[pE,HO.o.2.1];have Zm:i<o'.length:=by have:=HO.o.1;omega
     rw[dn Zm];simp[nZ,hpl]) (by
     rw[List.drop_set,aG hiR];exact HO.o.2.2) (TS.o c uM) Dw WL
    rw[show((i+1:Nat):Int)=(i:Int)+1 from by omega] at qY;have zS:=aa qY;clear qY Dw WL
    gi_wp2_with fail
    refine zS.o.mono ?_;rintro e W2 (⟨rfl,hJ2,o2,ho1,ho2,ho3,Dx⟩|⟨rfl,hJ2⟩)
    ·have HJ2:=aa hJ2;have Pp:=aa Dx;have zX:=aa (af ho1 (af ho2 ho3));clear hJ2 Dx ho1 ho2 ho3 cd1 L6 LJ cd3 LZ LH Q7 hab hfr hbh hh0 Sm
     gi_wp2_with fail
     go_roundw
     case rel=>
      exact zbp
     case measure=>simp[intOf];omega
    ·have HJ2:=aa hJ2;clear hJ2 cd1 L6 LJ cd3 LZ LH Q7 hab hfr hbh hh0 Sm
     gi_wp2_with fail
     go_returns;exact .inr ⟨by simp,HJ2.o⟩
   ·have Oo:c=z:=ϑ;subst Oo;have PI:=aa hJ;have EY:=aa Y6;have HO:=aa (af ho1 (af ho2 ho3));clear hJ Y6 ho1 ho2 ho3
    gi_wp2_with fail
    go_returns;exact zcu
theorem KL (D:bF) (hS:lL D) (oh ok ot:Option Addr) (ch ck ct:Nat) (ov:Value) (es:List KE) (out:List Int) (bf bo:Nat):
 TI Tryz.prog 229 #[.pointer (some ⟨bf,0,none⟩),.pointer (some ⟨bo,0,none⟩)] (dx D out) agS [] (fun _=>True) (agY bf bo D (.slice oh D.heaps.length ch) (.slice ok D.aQ.length ck) (.slice ot D.aI.length ct) ov es out):=by
 intro l J W hInv hstep hY h0;have hch:=fun iD ab bc hd1 hd3=>KV D hS oh ok ot ch ck ct ov es out bf bo iD ab bc l hd1 hd3 J hInv hstep hY;have hh3:=hS.h3;have HCH:=aa hch;have π:=aa hstep;have HJ:=aa h0;have hn2: ∀(A B:Obj) (v:Value) (t:TypeId),(((W.alloc A).alloc B).alloc (.cells #[v] t)).cell? ⟨W.heap.size+1+1,0,none⟩=some v:=fun A B v t=>aD (fM W A B _);have hf2: ∀(A B:Obj) (v:Value) (t:TypeId),(((W.alloc A).alloc B).alloc (.cells #[v] t)).frozen? ⟨W.heap.size+1+1,0,none⟩=false:=fun A B v t=>bn (fM W A B _) 0;clear hInv hstep hY hch h0 hS;go_enter Tryz.func229,Tryz.ntmps229;go_wp2_with fail
 refine(callsIn_wide.1 (HCH.o W.heap.size (W.heap.size+1) (W.heap.size+1+1) ϑ ϑ D.heaps.length 0 0 [] _ (List.replicate 3 0) ϑ rfl ϕ ϕ (by rw[List.drop_replicate]) (iO.zero _) ⟨?_,?_,?_⟩
  (π.o _ _ _ _ _ HJ.o (Ext.ax zl) (fun m hm=> .inr (by simp at hm;(first|omega|(simp;omega)))) trivial))).mono ?_
 ·exact zbQ
 ·exact fM _ _ _ _
 ·exact zbU
 ·rintro e W2 (⟨rfl,hJ2,_⟩|⟨rfl,hJ2⟩)
  ·have HJ2:=aa hJ2;clear hJ2 hn2 hf2;go_wp2_with fail
   go_end0
   refine⟨⟨_,rfl⟩,[W.heap.size+1,W.heap.size,W.heap.size+1+1],.inl ?_⟩;have:=HJ2.o;rw[<-Xk];simpa [rG] using this
  ·have HJ2:=aa hJ2;clear hJ2 hn2 hf2;exact zbK
theorem KM (hv kP tv:Value) (o:Option Addr) (n c:Nat) (w:World):
 Ϝ 140 #[kv hv kP tv,.slice o n c] w (fun e w'=>e= .returned (.func (.func 229) #[] #[.pointer (some ⟨w.heap.size,0,none⟩),.pointer (some ⟨w.heap.size+1,0,none⟩)])/\
  w'=(w.alloc (.cells #[hv,kP,tv] 60)).alloc (.cells #[.slice o n c] 52)):=by
 go_enter Tryz.func140,Tryz.ntmps140;exact zbE
section
variable (c : bF) (oh ok ot : Option Addr) (ch ck ct : Nat) (w : World)
theorem VB (h:3<c.heaps.length∨3<c.aQ.length∨5<c.aI.length):Ϝ 139 #[kv (.slice oh c.heaps.length ch) (.slice ok c.aQ.length ck) (.slice ot c.aI.length ct)] w (PV (iv 3) w):=by
 by_cases h1:(3:Int)<c.heaps.length
 ·skip
  exact zal
 by_cases h2:(3:Int)<c.aQ.length
 ·skip
  exact zal
 have h3:(5:Int)<c.aI.length:=ϑ;clear h;exact zal
theorem R7 (h1: ¬(3:Int)<c.heaps.length) (h2: ¬(3:Int)<c.aQ.length) (h3: ¬(5:Int)<c.aI.length) (h4:((c.heaps.length:Int)==0)=true):Ϝ 139 #[kv (.slice oh c.heaps.length ch) (.slice ok c.aQ.length ck) (.slice ot c.aI.length ct)] w (PV (iv 1) w):=zal
theorem R6 (es:List KE) (hc:lh w (.slice oh c.heaps.length ch) (.slice ok c.aQ.length ck) (.slice ot c.aI.length ct) es c) (h1: ¬(3:Int)<c.heaps.length) (h2: ¬(3:Int)<c.aQ.length) (h3: ¬(5:Int)<c.aI.length) (h4:((c.heaps.length:Int)==0)=false)
 (res:Int) (μ:res=if c.heaps.all (tZ · 100)=false∨c.aQ.all (tX c)=false∨c.aI.all (qy c)=false then 1 else if 2000<rz c.heaps then 3 else 0):
 Ϝ 139 #[kv (.slice oh c.heaps.length ch) (.slice ok c.aQ.length ck) (.slice ot c.aI.length ct)] w (PV (iv res) w):=by
 have hel:=hc.len;have Cq:=aa (fun(W:World) (hb:Ϙ w W)=>N7 c.heaps (.slice oh c.heaps.length ch) 224 #[] #[] (tZ · 100) W (hc.heaps.below hb (ah _)) (enters_of Tryz.func224 ϰ rfl) (fun x _ W _=>qA x W));have HKK:=aa (fun(W:World) (hb:Ϙ w W)=>by
  have:=N8 es (.slice ok c.aQ.length ck) 222 #[kv (.slice oh c.heaps.length ch) (.slice ok c.aQ.length ck) (.slice ot c.aI.length ct)] #[] (fun e=>tX c e.2) W (hc.aQ.below hb (ah _)) (enters_of Tryz.func222 ϰ rfl) (fun e he W' hb'=>Ob c oh ch _ _ e W' ((hc.aQ.2 e he).below (aV hb hb') (ah _)) ϑ);rw[show es.all (fun e=>tX c e.2)=c.aQ.all (tX c) from by rw[<-hc.is,List.all_map];rfl] at this
  exact this)
 have XJ:=aa (fun(W:World) (hb:Ϙ w W)=>NZ c.aI (.slice ot c.aI.length ct) 221 #[kv (.slice oh c.heaps.length ch) (.slice ok c.aQ.length ck) (.slice ot c.aI.length ct)] #[] (qy c) W (hc.aI.below hb (ah _)) (enters_of Tryz.func221 ϰ rfl) (fun x _ W _=>NV c oh ok ch ck _ x W ϑ ϑ));have HHP:=aa (fun(W:World) (hb:Ϙ w W)=>hc.heaps.below hb (ah _));have zR:=aa μ;clear hc hel μ;cases hA:c.heaps.all (tZ · 100)
 ·rw[hA] at Cq;have HE:Hid (res=1):=aa (by rw[zR.o,aG (.inl hA)]);clear hA;go_enter Tryz.func139,Tryz.ntmps139;go_wp2_with fail
  refine zg 6 [] none [] ?_;simp only[zt];repeat (refine zn ?_;simp only[zp])
  intro W hE hF;obtain⟨hc,hf⟩:=bH hE.below;have ig:=hE.size;(try simp only[bA] at ig)
  have Α:=aa (show Ϙ w W from aV (ai (aF _ _) _) hE.below);have hk0:W.heap[w.heap.size]? =some (.cells #[.slice oh c.heaps.length ch,.slice ok c.aQ.length ck,.slice ot c.aI.length ct] 60 (0,0)):=(hE.block _ ϕ ϕ).trans (av _ _);clear hE hF hc hf ig;obtain⟨d0,f0,m0⟩:=ae hk0;clear hk0;go_wp2_with fail
  refine(Cq.o _ Α.o).mono ?_;rintro e w1 ⟨rfl,hb⟩;have hk0:=hb.block _ m0;obtain⟨dd,ff⟩:=bH hb;have HB:=aa (aV Α.o hb);clear hb hk0;exact zbb
 rw[hA] at Cq;cases hK:c.aQ.all (tX c)
 ·rw[hK] at HKK;have HE:Hid (res=1):=aa (by rw[zR.o,aG (.inr (.inl hK))]);clear hA hK;go_enter Tryz.func139,Tryz.ntmps139;go_wp2_with fail
  refine zg 6 [] none [] ?_;simp only[zt];repeat (refine zn ?_;simp only[zp])
  intro W hE hF;obtain⟨hc,hf⟩:=bH hE.below;have ig:=hE.size;(try simp only[bA] at ig)
  have Α:=aa (show Ϙ w W from aV (ai (aF _ _) _) hE.below);have hk0:W.heap[w.heap.size]? =some (.cells #[.slice oh c.heaps.length ch,.slice ok c.aQ.length ck,.slice ot c.aI.length ct] 60 (0,0)):=(hE.block _ ϕ ϕ).trans (av _ _);clear hE hF hc hf ig;obtain⟨d0,f0,m0⟩:=ae hk0;clear hk0;go_wp2_with fail
  refine(Cq.o _ Α.o).mono ?_;rintro e w1 ⟨rfl,hb⟩;obtain⟨dd,ff⟩:=bH hb;have hl1:=eF m0 hb.size;have HB:=aa (aV Α.o hb);clear hb;go_wp2_with fail
  refine(HKK.o _ HB.o).mono ?_;rintro e w2 ⟨rfl,hb⟩;have Uy:=aa (aV HB.o hb);clear hb;go_wp2_with fail
  go_returns;exact⟨by rw[HE.o];simp,Uy.o⟩
 rw[hK] at HKK;cases hT:c.aI.all (qy c)
 ·rw[hT] at XJ;have HE:Hid (res=1):=aa (by rw[zR.o,aG (.inr (.inr hT))]);clear hA hK hT;go_enter Tryz.func139,Tryz.ntmps139;go_wp2_with fail
  refine zg 6 [] none [] ?_;simp only[zt];repeat (refine zn ?_;simp only[zp])
  intro W hE hF;obtain⟨hc,hf⟩:=bH hE.below;have ig:=hE.size;(try simp only[bA] at ig)
  have Α:=aa (show Ϙ w W from aV (ai (aF _ _) _) hE.below);have hk0:W.heap[w.heap.size]? =some (.cells #[.slice oh c.heaps.length ch,.slice ok c.aQ.length ck,.slice ot c.aI.length ct] 60 (0,0)):=(hE.block _ ϕ ϕ).trans (av _ _);clear hE hF hc hf ig;obtain⟨d0,f0,m0⟩:=ae hk0;clear hk0;go_wp2_with fail
  refine(Cq.o _ Α.o).mono ?_;rintro e w1 ⟨rfl,hb⟩;obtain⟨dd,ff⟩:=bH hb;have hl1:=eF m0 hb.size;have HB:=aa (aV Α.o hb);clear hb;go_wp2_with fail
  refine(HKK.o _ HB.o).mono ?_;rintro e w2 ⟨rfl,hb⟩;obtain⟨dd2,ff2⟩:=bH hb;have hl2:=eF hl1 hb.size;have Uy:=aa (aV HB.o hb);clear hb;go_wp2_with fail
  refine(XJ.o _ Uy.o).mono ?_;rintro e w3 ⟨rfl,hb⟩;have ζ:=aa (aV Uy.o hb);clear hb;go_wp2_with fail
  go_returns;exact⟨by rw[HE.o];simp,ζ.o⟩
 rw[hT] at XJ;have hok: ∀r∈c.heaps,0<=r.1/\r.1<=r.2/\r.2<=100/\1<=dQ r/\dQ r<=101:=fun r hr=>vV (jh.1 hA r hr);have HE:Hid (res=if 2000<rz c.heaps then 3 else 0):=aa (by rw[zR.o,ak];simp[hA,hK,hT]);have iF:=aa hok;clear hA hK hT hok;go_enter Tryz.func139,Tryz.ntmps139;go_wp2_with fail
 refine zg 6 [] none [] ?_;simp only[zt];repeat (refine zn ?_;simp only[zp])
 intro W hE hF;obtain⟨hc,hf⟩:=bH hE.below;have ig:=hE.size;(try simp only[bA] at ig)
 have Α:=aa (show Ϙ w W from aV (ai (aF _ _) _) hE.below);have hk0:W.heap[w.heap.size]? =some (.cells #[.slice oh c.heaps.length ch,.slice ok c.aQ.length ck,.slice ot c.aI.length ct] 60 (0,0)):=(hE.block _ ϕ ϕ).trans (av _ _);clear hE hF hc hf ig;obtain⟨d0,f0,m0⟩:=ae hk0;clear hk0;go_wp2_with fail
 refine(Cq.o _ Α.o).mono ?_;rintro e w1 ⟨rfl,hb⟩;obtain⟨dd,ff⟩:=bH hb;have hl1:=eF m0 hb.size;have HB:=aa (aV Α.o hb);clear hb;go_wp2_with fail
 refine(HKK.o _ HB.o).mono ?_;rintro e w2 ⟨rfl,hb⟩;obtain⟨dd2,ff2⟩:=bH hb;have hl2:=eF hl1 hb.size;have Uy:=aa (aV HB.o hb);clear hb;go_wp2_with fail
 refine(XJ.o _ Uy.o).mono ?_;rintro e w3 ⟨rfl,hb⟩;obtain⟨dd3,ff3⟩:=bH hb;have hl3:=eF hl2 hb.size;have ζ:=aa (aV Uy.o hb);clear hb;go_wp2_with fail
 have HC3:=aa (show ∀i,w3.cell? ⟨w.heap.size,i,none⟩=(#[.slice oh c.heaps.length ch,.slice ok c.aQ.length ck,.slice ot c.aI.length ct]:Array Value)[i]? from fun i=>(dd3 _ _ hl2).trans ((dd2 _ _ hl1).trans ((dd _ _ m0).trans (d0 i))));clear d0 f0 m0 dd ff dd2 ff2 dd3 ff3 hl1 hl2 hl3;go_loopw [5,57] (fun m i wr=> ∃k:Nat,k<=c.heaps.length/\i= .int .i64 k/\m= .int .i64 (rU c.heaps k)/\Ϙ w wr) (fun _ i _=>c.heaps.length-(intOf i).toNat)
 case atStart=>exact⟨0,bE _,rfl,rfl,ζ.o⟩
 case round=>
  obtain⟨k,hk,rfl,rfl,hB⟩:=hrel;have hv:=HHP.o wr hB;by_cases uM:k<c.heaps.length
  ·obtain⟨b,off,hoo,hb,hc0,hc1⟩:=bD.cell hv uM;cases hoo;have hr:=iF.o _ (bZ uM);have hs:=Ez c.heaps k uM;have hbd:=Md c.heaps (fun r hr=>(iF.o r hr).2.2.2.1) k;generalize c.heaps[k]=r at hc0 hc1 hr hs;obtain⟨hr1,hr2,hr3,hr4,I4⟩:=hr;unfold pX at hs;generalize rU c.heaps k=cc at hs hbd;obtain⟨δ,κ⟩:=hbd;have HS:=aa hs;have R9:=aa hB;clear hs hv hB;have hmul:0<=cc*dQ r/\cc*dQ r<=2001*101:=⟨Int.mul_nonneg ϑ ϑ,Int.mul_le_mul κ I4 ϑ ϑ⟩;obtain⟨Υ,hm2⟩:=hmul;go_wp2_with fail
   refine(GR r _ hr1 hr2 ϑ).mono ?_;rintro e w4 ⟨rfl,Γ⟩;obtain⟨hc,hf⟩:=bH Γ;go_wp2_with fail
   refine(KQ (cc*dQ r) 2001 _ _ _ ?_ ?_).mono ?_
   ·go_simp
   ·go_simp
   rintro e w5 ⟨rfl,Ω⟩;go_wp2_with fail
   go_roundw
   case rel=>exact⟨k+1,by omega,by go_num,by rw[HS.o],aV (ai (aV (ai R9.o _) Γ) _) Ω⟩
   case measure=>simp[intOf];omega
  ·have Y9:k=c.heaps.length:=ϑ;have hend:=Hm c.heaps (fun r hr=>(iF.o r hr).2.2.2.1);have hr:=HE.o;rw[<-Y9] at hend;generalize rU c.heaps k=cc at hend;clear hv;by_cases hc:2000<cc
   ·rw[aG (hend.1 hc)] at hr;have HR:=aa hr;clear hr hend;exact zbN
   ·rw[ak (fun x=>hc (hend.2 x))] at hr;have HR:=aa hr;clear hr hend;exact zbN
end
theorem Dt (c:bF) (hv kP tv:Value) (es:List KE) (w:World) (hc:lh w hv kP tv es c):Ϝ 139 #[kv hv kP tv] w (PV (iv (nQ c)) w):=by
 obtain⟨oh,ch,rfl⟩:=hc.heaps.open;obtain⟨ok,ck,rfl⟩:=hc.aQ.open;obtain⟨ot,ct,rfl⟩:=hc.aI.open;rw[hc.len] at hc⊢;unfold nQ;by_cases hl:3<c.heaps.length∨3<c.aQ.length∨5<c.aI.length
 ·rw[aG hl];exact VB c oh ok ot ch ck ct w hl
 rw[ak hl];by_cases h4:c.heaps.length=0
 ·rw[aG (.inl h4)];exact R7 c oh ok ot ch ck ct w ϑ ϑ ϑ (by simpa using h4)
 ·refine R6 c oh ok ot ch ck ct w es hc ϑ ϑ ϑ (by simpa using h4) _ ?_;simp only[h4,false_or]
attribute [local go_sem] Oper.semAt_some
theorem Rm (r:dF):(qE r).Pairwise (· ≠ ·):=by
 unfold qE;rw[List.pairwise_map];exact List.nodup_range.imp (fun h e=>h ϑ)
theorem U0: ∀(rs:List dF),(ed rs).Pairwise (· ≠ ·):=by
 intro rs;induction rs with
 |nil=>simp[ed]
 |cons r rs ih=>
  refine rY _ _ _ (fun x _=>?_) ?_
  ·rw[List.pairwise_map];exact ih.imp (fun h e=>h (List.cons.inj e).2)
  ·refine(Rm r).imp (fun {a b} h u hu v hv e=>?_);obtain⟨s,_,rfl⟩:=gW.1 hu;obtain⟨t,_,rfl⟩:=gW.1 hv;exact h (List.cons.inj e).1
theorem M6 (c:bF) (out:List Int):(dx c out).Pairwise (· ≠ ·):=(U0 c.heaps).filter _
theorem U8 {a b:List Int} (h:a.length=b.length) (e:jv a=jv b):a=b:=by
 unfold jv at e;exact(List.append_inj e h).1
theorem ad6:fU Tryz.prog 277 283 (.agg #[iv 0,iv 0,iv 0]) 3 24:=⟨Tryz.underlying277,by kernel_rfl,rfl,by omega⟩
structure MI (B:Nat) (hv kP tv:Value) (ls:List (List Int)) (Ms:List Nat) (W:World):Prop where
 work: ∃v,W.heap[B]? =some (.cells #[hv,kP,tv,v] 279 (0,0))/\W.ownsRow (B+6) 283 3 v ls.length (ls.flatMap ag)/\ ∀g,v.ownBlock=some g->g∉Ms/\g<W.heap.size
 ptr:W.heap[B+1]? =some (.cells #[.pointer (some ⟨B,0,none⟩)] 180 (0,0))
 b2:W.heap[B+2]? =some (.cells #[hv,kP,tv] 60 (0,0))
 b3:W.heap[B+3]? =some (.cells #[.slice none 0 0] 52 (0,0))
theorem MI.kept {B:Nat} {hv kP tv:Value} {ls:List (List Int)} {Ms jc:List Nat} {W W':World} (h:MI B hv kP tv ls Ms W) (hs:W.heap.size<=W'.heap.size) (hk: ∀b,B<=b->b<B+4->W'.heap[b]? =W.heap[b]?)
 (ho: ∀g,B+6<=g->g<W.heap.size->g∉Ms->W'.heap[g]? =W.heap[g]?) (hM: ∀m∈jc,m∈Ms∨(W.heap.size<=m/\m<W'.heap.size)):MI B hv kP tv ls jc W':=by
 obtain⟨v,h1,h2,h3⟩:=h.work;exact zaZ
structure Pb (W:World) (wb:Nat) (hv kP tv v:Value) (ls:List (List Int)):Prop where
 cells:W.heap[wb]? =some (.cells #[hv,kP,tv,v] 279 (0,0))
 truth:aH 3 W v ls.length (ls.flatMap ag)
theorem Pb.lt {W:World} {wb:Nat} {hv kP tv v:Value} {ls:List (List Int)} (h:Pb W wb hv kP tv v ls):wb<W.heap.size:=(aN.1 h.cells).1
theorem Pb.below {W W':World} {wb:Nat} {hv kP tv v:Value} {ls:List (List Int)} (h:Pb W wb hv kP tv v ls) {B:Nat} (hb:Below B W W') (hB:W.heap.size<=B):Pb W' wb hv kP tv v ls:=
 ⟨(hb.block _ (by have:=h.lt;omega)).trans h.cells,h.truth.below hb hB⟩
def XZ (c:bF) (hv kP tv:Value) (Ζ:Bool) (w:World) (e:Ending) (w':World):Prop:=
 Ϙ w w'/\((gV c Ζ≠0/\e= .returned (.tuple #[.pointer none,.int .i64 (gV c Ζ)]))∨
  (gV c Ζ=0/\ ∃(wb:Nat) (v:Value),e= .returned (.tuple #[.pointer (some ⟨wb,0,none⟩),.int .i64 0])/\w.heap.size<=wb/\Pb w' wb hv kP tv v ((dx c []).map jv)))
theorem NY (c:bF) (hv kP tv:Value) (es:List KE) (g:Nat) (aP:Array Value) (Ζ:Bool) (w:World) (hc:lh w hv kP tv es c) (eg: Ϛ Tryz.prog g)
 (K8: ∀W,Ϙ w W->Ϝ g aP W (PV (.bool Ζ) W)):
 Ϝ 81 #[kv hv kP tv,.func (.func g) #[] aP] w (XZ c hv kP tv Ζ w):=by
 obtain⟨oh,ch,rfl⟩:=hc.heaps.open;obtain⟨ok,ck,rfl⟩:=hc.aQ.open;obtain⟨ot,ct,rfl⟩:=hc.aI.open;have hel:=hc.len;rw[hel] at hc⊢;have HC':Hid (∀W,Ϙ w W->lh W (.slice oh c.heaps.length ch) (.slice ok c.aQ.length ck) (.slice ot c.aI.length ct) es c):=aa (fun W hb=>hc.below hb (ah _));have HF:=aa K8;have Yf:=aa (fun(W:World) (hb:Ϙ w W)=>Dt c (.slice oh c.heaps.length ch) (.slice ok c.aQ.length ck) (.slice ot c.aI.length ct) es W (hc.below hb (ah _)));clear hc K8 hel;by_cases hf0:nQ c=0
 case neg=>
  have HE:Hid (gV c Ζ=nQ c/\gV c Ζ≠0):=aa (by unfold gV;rw[aG hf0];exact⟨rfl,hf0⟩);generalize hff:nQ c=e at*
  clear hff;go_enter Tryz.func81,Tryz.ntmps81;go_wp2_with fail
  refine(Yf.o _ (ai (aF _ _) _)).mono ?_;exact zcf
 rw[hf0] at Yf;have mR:=aa (Gg hf0);have HF0:=aa hf0;clear hf0;cases Ζ
 ·have HE:Hid (gV c false=2):=aa (by unfold gV;rw[ak (by rw[HF0.o];simp),aG rfl]);go_enter Tryz.func81,Tryz.ntmps81;go_wp2_with fail
  refine(Yf.o _ (ai (aF _ _) _)).mono ?_;exact zcE
 have HE:Hid (gV c true=if(dx c []).isEmpty then 11 else 0):=aa (by unfold gV;rw[ak (by rw[HF0.o];simp),ak ϕ]);refine(callsIn_wide (n:=0)).1 ?_;refine callsIn_of_wp_marks Tryz.func81 rfl trivial ?_;simp only[Tryz.ntmps81,List.size_toArray,List.length_cons,List.length_nil,Nat.reduceAdd,Nat.reduceSub,Array.replicate_succ,Array.replicate_zero,jy,jA,List.nil_append,List.cons_append]
 gi_wp2_with fail
 refine(callsIn_wide.2 (Yf.o _ (ai (aF _ _) _))).mono ?_;rintro e w1 ⟨rfl,hb⟩;obtain⟨hc1,hf1⟩:=bH hb;have hz1:w.heap.size<w1.heap.size:=by have:=hb.size;simp at this;omega
 have R9:=aa (show Ϙ w w1 from zl);clear hb
 gi_wp2_with fail
 refine(callsIn_wide.2 (HF.o _ R9.o)).mono ?_;rintro e w2 ⟨rfl,hb⟩;obtain⟨hc2,hf2⟩:=bH hb;have hz2:w.heap.size<w2.heap.size:=by have:=hb.size;omega
 have Uy:=aa (aV R9.o hb);clear hb
 gi_wp2_with fail
 refine(callsIn_wide.2 (KM _ _ _ none 0 0 _)).mono ?_;rintro e w3 ⟨rfl,rfl⟩
 gi_wp2_with fail
 have hseq:=fun bf bo=>KL c mR.o oh ok ot ch ck ct (.slice none 0 0) es [] bf bo;obtain⟨hv,hhv⟩: ∃hv,Value.slice oh c.heaps.length ch=hv:=⟨_,rfl⟩;obtain⟨kP,afl⟩: ∃kP,Value.slice ok c.aQ.length ck=kP:=⟨_,rfl⟩;obtain⟨tv,GX⟩: ∃tv,Value.slice ot c.aI.length ct=tv:=⟨_,rfl⟩;rw[hhv,afl,GX] at hseq HC'⊢;obtain⟨B,kY⟩: ∃B,w2.heap.size=B:=⟨_,rfl⟩;rw[kY];obtain⟨w4,hw4⟩: ∃w4,((((w2.alloc (.cells #[hv,kP,tv,.slice none 0 0] 279)).alloc (.cells #[.pointer (some ⟨B,0,none⟩)] 180)).alloc (.cells #[hv,kP,tv] 60)).alloc (.cells #[.slice none 0 0] 52))=w4:=⟨_,rfl⟩;have abS:w4.heap.size=B+4:=by rw[<-hw4];simp;omega
 have hwB:w.heap.size<B:=ϑ;have gJ:Hid (Ϙ w w4):=aa (by rw[<-hw4];exact ai (ai (ai (ai Uy.o _) _) _) _)
 have JI:Hid (MI B hv kP tv [] [] w4):=aa (by
  rw[<-hw4];refine⟨⟨.slice none 0 0,?_,⟨rfl,.inl ⟨rfl,rfl⟩⟩,fun g hg=>by cases hg⟩,?_,?_,?_⟩
  ·exact za6
  ·exact zbz
  ·exact zbR
  ·rw[<-kY];exact kG _ _ _ _ _)
 rw[hw4];clear hw4 hc1 hf1 hz1 hc2 hf2;have BC: ∀b,b∈[w.heap.size,B,B+1,B+2,B+3,B+4,B+5]↔b=w.heap.size∨(B<=b/\b<B+6):=fun b=>by simp;omega
 obtain⟨Os,Ed⟩: ∃Os,[w.heap.size,B,B+1,B+2,B+3,B+4,B+5]=Os:=⟨_,rfl⟩;rw[Ed] at BC;clear Ed;refine kQ (hseq (B+1+1) (B+1+1+1)) rfl (enters_of Tryz.func229 ϰ rfl) rfl ϕ
  (fun Ms k W=>Fa w Os Ms W/\MI B hv kP tv (((dx c []).take k).map jv) Ms W)
  (fun _ _ _=>False)
  ?hInv ?nk ?hI ?hIx ?FP ?qN ?h0
  (fun a Ms k W1 a₁ W=> ∃(x:List Int) (bt:Nat),(dx c [])[k]? =some x/\a₁={tmps:=(a.tmps.setIfInBounds 24 (kz (jv x))).setIfInBounds 8 (.pointer (some ⟨bt,0,none⟩)),defers:=[]}/\
    (Fa w Os Ms W/\MI B hv kP tv (((dx c []).take k).map jv) Ms W)/\(W.heap[bt]? =some (.cells (ag (jv x)).toArray 283 (0,0))/\B+6<=bt/\bt∉Ms/\(∀v,W.heap[B]? =some (.cells #[hv,kP,tv,v] 279 (0,0))->v.ownBlock≠some bt))/\
    (∀m∈Ms,m∉([]:List Nat)->m<W1.heap.size->W.heap[m]? =W1.heap[m]?)/\W1.heap.size<=W.heap.size)
  ?Jd ?hassign ?hbody ?hdone ?hstop
 case hInv=>
  rintro Ms k W ⟨hF,hP⟩;exact⟨hP.b2,hP.b3,HC'.o W hF.ext,aH.nil 1 W⟩
 case nk=>rintro cd Ms W h;exact h.elim
 case hI=>
  rintro Ms jc k Wa Wb ⟨hF,hP⟩ hE η _;exact⟨(hF.gL hE η).1,hP.kept hE.size (fun b h1 h2=>(hF.gL hE η).2 b ((BC b).2 ϑ)) (fun g h1 h2 h3=>hE.block g h2 h3) η⟩
 case hIx=>rintro cd Ms jc Wa Wb h;exact h.elim
 case FP=>
  rintro Ms k W r ob ⟨hF,hP⟩ hr;exact⟨hF.put ob ϑ,hP.kept ϕ (fun b h1 h2=>World.putObj_heap_other ϑ) (fun g h1 h2 h3=>World.putObj_heap_other ϑ) (fun m hm=> .inl hm)⟩
 case qN=>rintro cd Ms W r ob h;exact h.elim
 case h0=>
  intro o1 o2;refine⟨⟨ai (ai gJ.o _) _,by simp,by simp,fun b hb=>⟨by simp,by have:=(BC b).1 hb;simp;omega⟩⟩,?_⟩;rw[List.take_zero];exact JI.o.kept ϗ (fun b h1 h2=>(aT _ _ _ ϗ).trans (aT _ _ _ ϑ)) (fun g h1 h2 h3=>ϑ) (fun m hm=> .inl hm)
 case Jd=>
  rintro Ms k W1 a₁ W ob ⟨x,bt,hx,ha,⟨hF,hP⟩,⟨hbt,hb6,hbM,hbv⟩,hk,hs⟩;have ω:=(hF.apart (B+5) ((BC _).2 ϑ)).1;refine⟨x,bt,hx,ha,⟨hF.put ob ϑ,hP.kept ϕ (fun b h1 h2=>World.putObj_heap_other ϑ) (fun g h1 h2 h3=>World.putObj_heap_other ϑ) (fun m hm=> .inl hm)⟩,
   ⟨(World.putObj_heap_other ϑ).trans hbt,hb6,hbM,fun v hv=>hbv v ((World.putObj_heap_other ϑ).symm.trans hv)⟩,
   fun m hm h0 mP=>(World.putObj_heap_other (fun e=>ω (by rw[show B+5=m by omega];exact hm))).trans (hk m hm h0 mP),by simpa using hs⟩
 case hassign=>
  rintro Ms k v W hk ⟨hF,hP⟩ hE uM;obtain rfl:v=kz (jv (dx c [])[k]):=hE;have hxk:(dx c [])[k]? =some (dx c [])[k]:=dn hk;have hxl:=(qH mR.o (kR _ (bZ hk))).1;generalize (dx c [])[k]=x at*
  have Qh:=mR.o.h3;obtain⟨y0,y1,y2,Ε⟩:=lN (vT (x:=x) ϑ);have hYS:=aa Ε;rw[Ε];rw[show kz [y0,y1,y2]= .agg #[iv y0,iv y1,iv y2] from rfl]
  gi_wp2
  have hB':Ϙ W (W.alloc (.cells #[iv y0,iv y1,iv y2] 283)):=ai (aF _ _) _;refine⟨⟨x,W.heap.size,hxk,?_,⟨(hF.gL (Ext.ax hB') (fun m hm=> .inl hm)).1,hP.kept ϕ (fun b h1 h2=>aT _ _ _ ϑ) (fun g h1 h2 h3=>aT _ _ _ ϑ) (fun m hm=> .inl hm)⟩,
   ⟨?_,by omega,fun hm=>by have:=hF.bnd _ hm;omega,fun v hv e=>?_⟩,fun m hm h0 mP=>aT _ _ _ ϑ,by simp⟩,aT _ _ _ ϑ,aT _ _ _ ϑ⟩
  ·rw[hYS.o];rfl
  ·rw[hYS.o];exact av _ _
  ·obtain⟨v0,h1,h2,h3⟩:=hP.work;have h4:=(aT _ _ _ ϑ).symm.trans hv;rw[h1] at h4;simp only[Option.some.injEq,Obj.cells.injEq,and_true,Array.mk.injEq,List.cons.injEq,true_and] at h4;subst h4;have:=(h3 _ e).2;omega
 case hbody=>
  rintro Ms k W1 a₁ W7 busy hk ⟨x,bt,hx,rfl,⟨hF,hP⟩,⟨hbt,hb6,hbM,hbv⟩,Oa,τ⟩ ι hD;simp only[nC,List.set_cons_succ,List.set_cons_zero];obtain⟨v,Η,Τ,hv3⟩:=hP.work;obtain⟨vo,vc,rfl⟩:=aM Τ;have Ws:=hbv _ Η;obtain⟨c1,f1,l1⟩:=ae hP.ptr;have hxm:=qH mR.o (kR _ (lg hx));have Qh:=mR.o.h3;obtain⟨ys,KY⟩: ∃ys,jv x=ys:=⟨_,rfl⟩;have hyl:ys.length=3:=by rw[<-KY];exact vT ϑ
  obtain⟨y0,y1,y2,Ε⟩:=lN hyl;have Eb:=hbt;rw[KY,Ε] at Eb;have Eb:W7.heap[bt]? =some (.cells #[iv y0,iv y1,iv y2] 283 (0,0)):=Eb;obtain⟨c3,f3,l3⟩:=ae Eb;have hwM:=(hF.apart w.heap.size ((BC _).2 (.inl rfl))).1;have afb:((dx c []).take (k+1)).map jv=((dx c []).take k).map jv++[ys]:=by
   rw[pE,hx];simp[KY]
  have ab5:k<=2000:=by have:=rX mR.o [];omega
  have Ξ:(((dx c []).take k).map jv).length=k:=by simp;omega
  have h3s: ∀z∈((dx c []).take k).map jv,z.length=3:=fun z hz=>by
   obtain⟨t,ht,rfl⟩:=gW.1 hz;have:=qH mR.o (kR _ (mi ht));exact vT ϑ
  have hne: ∀A z,((dx c []).take k).map jv=A++[z]->(z==ys)=false:=fun A z he=>by
   rw[ES];rintro rfl;have hkp:0<k:=by
    cases k with
    |zero=>simp at he
    |succ k=>omega
   have hkj:k-1<(dx c []).length:=ϑ;have h1:(((dx c []).take k).map jv)[k-1]? =some z:=by
    rw[he,mD (by have:=congrArg List.length he;simp at this;omega)];have:=congrArg List.length he;rw[Ξ,cu,List.length_singleton] at this;rw[show k-1-A.length=0 from by omega];rfl
   rw[nX,List.getElem?_take_of_lt ϑ,dn hkj] at h1;have h2:jv (dx c [])[k-1]=jv x:=by rw[KY];exact iJ h1
   have h3:=qH mR.o (kR _ (bZ hkj));have h4:=U8 (by rw[h3.1,hxm.1]) h2;obtain⟨Χ,hx'⟩:=iy.1 hx;exact(List.pairwise_iff_getElem.1 (M6 c [])) (k-1) k hkj Χ ϑ (by rw[h4,hx'])
  replace Ξ:(((dx c []).take k).map jv).length<=2000:=by rw[Ξ];exact ab5
  have wL:=aa hF;have QO:=aa hP;have HV:=aa (af Η (af Τ hv3));have zQ:=aa (af Ε hyl);have HK:=aa (af Oa (af ι hD));have HBT:=aa Eb;have HBV:=aa Ws;have aha:=aa afb;have H3:=aa h3s;have Ie:=aa hne;have ω: ∀b∈Os,b∉Ms/\b<W7.heap.size:=hF.apart;have hin: ∀b,B<=b->b<B+6->b∈Os:=fun b h1 h2=>(BC b).2 ϑ;have hw7:w.heap.size<W7.heap.size:=(ω _ ((BC _).2 (.inl rfl))).2;obtain⟨c2,f2,q2⟩:=ae Η;clear hF hP Η Τ hv3 hx Ε KY hxm hyl Oa ι hD hbt Eb hbv Ws afb h3s hne;generalize ((dx c []).take (k+1)).map jv=ls' at*
  generalize ((dx c []).take k).map jv=ls at*
  gi_wp2_with fail
  rcases(List.eq_nil_or_concat ls).imp id (fun⟨A,z,e⟩=>(⟨A,z,e.trans (List.concat_eq_append)⟩: ∃A z,ls=A++[z])) with rfl|⟨A,z,rfl⟩
  ·simp only[List.length_nil] at c2 HV HBV;refine dG 22 [] none [] ϰ ϰ ϰ ?_;simp only[zt];repeat ((first|refine zn ?_|refine zk ?_);simp only[zp])
   intro W hE hF;obtain⟨hc,hf⟩:=bH hE.below;have ig:=hE.size;(try simp only[bA] at ig)
   have jM:Ext [] W7 W:=hE;have Fg:MI B hv kP tv ([]) Ms W:=QO.o.kept jM.size (fun b h1 h2=>jM.block b (by have:=(ω b (hin b h1 ϑ)).2;omega) ϕ) (fun g h1 h2 h3=>jM.block g h2 ϕ) (fun m hm=> .inl hm)
   have Ea:=(jM.block _ (aN.1 HBT.o).1 ϕ).trans HBT.o;obtain⟨v8,qK,qJ,yj⟩:=Fg.work;have Dv:v8= .slice (vo) (0) vc:=zaR;rw[Dv] at qK qJ yj;clear Dv;(try simp only[List.length_nil] at qJ)
   (try simp only[cu,List.length_cons,List.length_nil,Nat.zero_add] at qJ)
   obtain⟨p1,p2,p3⟩:=ae (show W.heap[B+1]? =some (.cells #[.pointer (some ⟨B,0,none⟩)] 180 (0,0)) from Fg.ptr);obtain⟨p4,p5,p6⟩:=ae (show W.heap[B]? =some (.cells #[hv,kP,tv,.slice (vo) (0) vc] 279 (0,0)) from qK);obtain⟨p7,p8,p9⟩:=ae Ea;have abU:=jM.size;have Ib:=aa Fg;have Fh:=aa (af qK (af qJ yj));have gP:=aa jM;clear hE hF hc hf jM Fg qK qJ yj Ea c1 f1 l1 c2 f2 q2 c3 f3 l3 ig;obtain⟨gx,hgx,Zr,hgx2,zo,Zq⟩: ∃gx,(∀g,(Value.slice (vo) (0) vc).ownBlock=some g->g=gx)/\(gx=w.heap.size∨B+6<=gx)/\gx<W.heap.size/\gx∉Ms/\gx≠bt:=by
    cases ym:(Value.slice (vo) (0) vc).ownBlock with
    |none=>exact⟨w.heap.size,(fun g hg=>by cases hg),.inl rfl,by omega,hwM,by omega⟩
    |some g=>
     exact zbW
   have HG:=aa hgx;clear hgx;have z1:gx≠B:=ϑ;have z2:gx≠B+1:=ϑ;have z1':B≠gx:=ϑ;have z2':B+1≠gx:=ϑ;have z3':bt≠gx:=ϑ
   gi_wp2_with fail
   refine dG 8 [gx] (some 7) [(6,Spec.slice W.heap.size #[iv y0,iv y1,iv y2] 283 1),(7,⟨fun _ v=> ∃o c,v= .slice o (0+1) c,fun _ v Wx=>Wx.ownsRow (B+6) 283 3 v (0+1) ((([])++[ys]).flatMap ag)/\(∀g,v.ownBlock=some g->g=gx∨W.heap.size<=g)⟩)] ϰ ϰ ϰ ?_;simp only[zt];repeat ((first|refine zn ?_|refine zk ?_);simp only[zp])
   refine cB W.heap.size _ _ 1 ϱ (ah _) ϱ (by simpa using hgx2) ϕ (fun W hW=>by go_simp;try rfl) (fun b6=>?_);simp only[zp];refine aY _ ϱ ϱ (by exact⟨.slice none (0+1) 0,none,0,rfl⟩) (fun Wa hE hF=>?_) (fun v Wa Wb ho hE=>?_) (fun v hv=>?_)
   ·exact zcB
   ·exact zaP
   obtain⟨o7,c7,rfl⟩:=hv;simp only[zp];intro W9 hE hF;have Iq:Ext [gx] W W9:=hE;obtain⟨Qi,FM⟩:=hF _ (aW _);have yh:W9.heap[B]? =some (.cells #[hv,kP,tv,.slice (vo) (0) vc] 279 (0,0)):=(Iq.block _ p6 (by simpa using z1')).trans Fh.o.1;obtain⟨c9,f9,l9⟩:=ae yh;have xL:=aa Iq;have uT:=aa (af Qi (af FM yh));clear hE hF Iq Qi FM p1 p2 p4 p5 p7 p8 yh
   gi_wp2_with fail
   obtain⟨v',hv'⟩: ∃v',Value.slice o7 (0+1) c7=v':=⟨_,rfl⟩;rw[hv'] at uT⊢;have uE:(W9.setCell ⟨B,3,none⟩ v').heap.size=W9.heap.size:=by simp[World.setCell]
   have hs9:=xL.o.size;have Θ: ∀b,b<W.heap.size->b≠gx->b≠B->(W9.setCell ⟨B,3,none⟩ v').heap[b]? =W.heap[b]? :=fun b hb h1 h2=>
    (bV _ _ _ _ h2).trans (xL.o.block b hb (by simpa using h1))
   have Aw: ∀b,b<W7.heap.size->b≠gx->b≠B->(W9.setCell ⟨B,3,none⟩ v').heap[b]? =W7.heap[b]? :=fun b hb h1 h2=>(Θ b ϑ h1 h2).trans (gP.o.block b hb ϕ);have ZE:Fa w Os Ms (W9.setCell ⟨B,3,none⟩ v'):=wL.o.own (wL.o.ext.trans ⟨xL.o.os.trans gP.o.os,xL.o.tape.trans gP.o.tape,xL.o.output.trans gP.o.output,by rw[uE];omega,fun b hb=>(bV _ _ _ _ (by show b≠B;omega)).trans ((xL.o.block b (by have:=wL.o.ext.size;omega) ϗ).trans (gP.o.block b (by have:=wL.o.ext.size;omega) ϕ))⟩) (by rw[uE];omega);have hlen1:(([])++[ys]).length=0+1:=ϕ;exact zav
  ·have hz3:=H3.o z ϕ;obtain⟨gb,gc,hvv,hgb,Om,I1⟩:=Am (A:=A) (z:=z) (by simpa using HV.o.2.1) (fun x hx=>H3.o x (by simp[hx])) hz3;have hcap:vo=some ⟨gb,0,none⟩:=by simp at hvv;exact hvv.1
   subst hcap;have hzl:(ag z).length=3:=by simp[ag,hz3]
   (try simp only[cu,List.length_cons,List.length_nil,Nat.zero_add] at c2)
   (try simp only[cu,List.length_cons,List.length_nil,Nat.zero_add] at HV)
   (try simp only[cu,List.length_cons,List.length_nil,Nat.zero_add] at HBV)
   (try simp only[cu,List.length_cons,List.length_nil,Nat.zero_add] at Ξ)
   have hAI:((A.length:Int)+1==0)=false:=by simp;omega
   have Ca: ¬((A.length:Int)+1=0):=ϑ;have hA1:((A.length:Int)+1).toNat=A.length+1:=ϑ;have hAm:(A.length:Int)+1-1=A.length:=ϑ;have hy3:ys.length=3:=zQ.o.2;have hq:=Ie.o A z rfl;refine dG 22 [] none [] ϰ ϰ ϰ ?_;simp only[zt];repeat ((first|refine zn ?_|refine zk ?_);simp only[zp])
   refine eY ϱ (.pointer (some ⟨gb,A.length*3,none⟩)) ϱ (fun W hW=>by go_simp;(try simp(disch:=omega) only[IntWalk.i64_in]);(try rw[aG ϑ]);(try simp);(try (intro hx;exfalso;omega))) ?_
   simp only[zp];refine eY ϱ (.agg (ag z).toArray) ϱ (fun W hW=>jw 283 _ ϱ gb (A.length*3) ϱ (ag z) _ (fun j u hj=>(hW gb _ Om ϕ).trans (I1 j u hj)) Tryz.underlying283 rfl (by rw[hzl];kernel_rfl)) ?_;simp only[zp];refine eY ϱ (.agg #[iv y0,iv y1,iv y2]) ϱ (fun W hW=>by go_simp;try rfl) ?_;simp only[zp];refine eY ϱ (.bool true) ϱ (fun W hW=>(lW 283 3 _ 3 _ _ ϱ Tryz.underlying283 Tryz.underlying3 (by intro w;go_simp) ϰ z [y0,y1,y2] ϱ ϱ hz3 ϱ).trans (by rw[zQ.o.1] at hq;rw[hq];rfl)) ?_;simp only[zp];repeat ((first|refine zn ?_|refine zk ?_);simp only[zp])
   intro W hE hF;obtain⟨hc,hf⟩:=bH hE.below;have ig:=hE.size;(try simp only[bA] at ig)
   have jM:Ext [] W7 W:=hE;have Fg:MI B hv kP tv (A++[z]) Ms W:=QO.o.kept jM.size (fun b h1 h2=>jM.block b (by have:=(ω b (hin b h1 ϑ)).2;omega) ϕ) (fun g h1 h2 h3=>jM.block g h2 ϕ) (fun m hm=> .inl hm)
   have Ea:=(jM.block _ (aN.1 HBT.o).1 ϕ).trans HBT.o;obtain⟨v8,qK,qJ,yj⟩:=Fg.work;have Dv:v8= .slice ((some ⟨gb,0,none⟩)) ((A.length+1)) vc:=zaR;rw[Dv] at qK qJ yj;clear Dv;(try simp only[List.length_nil] at qJ)
   (try simp only[cu,List.length_cons,List.length_nil,Nat.zero_add] at qJ)
   obtain⟨p1,p2,p3⟩:=ae (show W.heap[B+1]? =some (.cells #[.pointer (some ⟨B,0,none⟩)] 180 (0,0)) from Fg.ptr);obtain⟨p4,p5,p6⟩:=ae (show W.heap[B]? =some (.cells #[hv,kP,tv,.slice ((some ⟨gb,0,none⟩)) ((A.length+1)) vc] 279 (0,0)) from qK);obtain⟨p7,p8,p9⟩:=ae Ea;have abU:=jM.size;have Ib:=aa Fg;have Fh:=aa (af qK (af qJ yj));have gP:=aa jM;clear hE hF hc hf jM Fg qK qJ yj Ea c1 f1 l1 c2 f2 q2 c3 f3 l3 ig;obtain⟨gx,hgx,Zr,hgx2,zo,Zq⟩: ∃gx,(∀g,(Value.slice ((some ⟨gb,0,none⟩)) ((A.length+1)) vc).ownBlock=some g->g=gx)/\(gx=w.heap.size∨B+6<=gx)/\gx<W.heap.size/\gx∉Ms/\gx≠bt:=by
    cases ym:(Value.slice ((some ⟨gb,0,none⟩)) ((A.length+1)) vc).ownBlock with
    |none=>exact⟨w.heap.size,(fun g hg=>by cases hg),.inl rfl,by omega,hwM,by omega⟩
    |some g=>
     exact zbW
   have HG:=aa hgx;clear hgx;have z1:gx≠B:=ϑ;have z2:gx≠B+1:=ϑ;have z1':B≠gx:=ϑ;have z2':B+1≠gx:=ϑ;have z3':bt≠gx:=ϑ
   gi_wp2_with fail
   refine dG 8 [gx] (some 7) [(6,Spec.slice W.heap.size #[iv y0,iv y1,iv y2] 283 1),(7,⟨fun _ v=> ∃o c,v= .slice o ((A.length+1)+1) c,fun _ v Wx=>Wx.ownsRow (B+6) 283 3 v ((A.length+1)+1) (((A++[z])++[ys]).flatMap ag)/\(∀g,v.ownBlock=some g->g=gx∨W.heap.size<=g)⟩)] ϰ ϰ ϰ ?_;simp only[zt];repeat ((first|refine zn ?_|refine zk ?_);simp only[zp])
   refine cB W.heap.size _ _ 1 ϱ (ah _) ϱ (by simpa using hgx2) ϕ (fun W hW=>by go_simp;try rfl) (fun b6=>?_);simp only[zp];refine aY _ ϱ ϱ (by exact⟨.slice none ((A.length+1)+1) 0,none,0,rfl⟩) (fun Wa hE hF=>?_) (fun v Wa Wb ho hE=>?_) (fun v hv=>?_)
   ·exact zcB
   ·exact zaP
   obtain⟨o7,c7,rfl⟩:=hv;simp only[zp];intro W9 hE hF;have Iq:Ext [gx] W W9:=hE;obtain⟨Qi,FM⟩:=hF _ (aW _);have yh:W9.heap[B]? =some (.cells #[hv,kP,tv,.slice ((some ⟨gb,0,none⟩)) ((A.length+1)) vc] 279 (0,0)):=(Iq.block _ p6 (by simpa using z1')).trans Fh.o.1;obtain⟨c9,f9,l9⟩:=ae yh;have xL:=aa Iq;have uT:=aa (af Qi (af FM yh));clear hE hF Iq Qi FM p1 p2 p4 p5 p7 p8 yh
   gi_wp2_with fail
   obtain⟨v',hv'⟩: ∃v',Value.slice o7 ((A.length+1)+1) c7=v':=⟨_,rfl⟩;rw[hv'] at uT⊢;have uE:(W9.setCell ⟨B,3,none⟩ v').heap.size=W9.heap.size:=by simp[World.setCell]
   have hs9:=xL.o.size;have Θ: ∀b,b<W.heap.size->b≠gx->b≠B->(W9.setCell ⟨B,3,none⟩ v').heap[b]? =W.heap[b]? :=fun b hb h1 h2=>
    (bV _ _ _ _ h2).trans (xL.o.block b hb (by simpa using h1))
   have Aw: ∀b,b<W7.heap.size->b≠gx->b≠B->(W9.setCell ⟨B,3,none⟩ v').heap[b]? =W7.heap[b]? :=fun b hb h1 h2=>(Θ b ϑ h1 h2).trans (gP.o.block b hb ϕ);have ZE:Fa w Os Ms (W9.setCell ⟨B,3,none⟩ v'):=wL.o.own (wL.o.ext.trans ⟨xL.o.os.trans gP.o.os,xL.o.tape.trans gP.o.tape,xL.o.output.trans gP.o.output,by rw[uE];omega,fun b hb=>(bV _ _ _ _ (by show b≠B;omega)).trans ((xL.o.block b (by have:=wL.o.ext.size;omega) ϗ).trans (gP.o.block b (by have:=wL.o.ext.size;omega) ϕ))⟩) (by rw[uE];omega);have hlen1:((A++[z])++[ys]).length=(A.length+1)+1:=ϕ;exact zav
 case hdone=>
  rintro Ms W ⟨hF,hP⟩ hD uM;rw[List.take_length] at hP;obtain⟨v,Η,Τ,hv3⟩:=hP.work;obtain⟨vo,vc,rfl⟩:=aM Τ;obtain⟨c1,f1,l1⟩:=ae hP.ptr;obtain⟨c2,f2,l2⟩:=ae Η;have Ig:=aa hF;have HV:=aa (af Η Τ);have hcnt:((dx c []).map jv).length<=2000:=by rw[kJ];exact rX mR.o []
  have hemp:((dx c []).isEmpty=true)↔((dx c []).map jv).length=0:=ϕ;have HEM:=aa hemp;clear hF hP Η Τ hv3 hemp;generalize hls:(dx c []).map jv=ls at*
  have vE:=aa hls;clear hls;by_cases hn:ls.length=0
  ·have hn':(((ls.length:Nat):Int)==0)=true:=by simpa using hn
   have XR:Hid (gV c true=11):=aa (by rw[HE.o,aG (HEM.o.2 hn)]);clear hn
   gi_wp2_with fail
   refine⟨by simp,.inl ⟨_,_,rfl,run_takeDeferred hD,?_⟩⟩;exact⟨.tuple #[.pointer none,.int .i64 11],by simp[results,Tryz.results81,go_sem],(Ig.o.put (Obj.deferred none) ϑ).ext,.inl ⟨by rw[XR.o];simp,by rw[XR.o]⟩⟩
  ·have hn':(((ls.length:Nat):Int)==0)=false:=by simpa using hn
   have HE0:Hid (gV c true=0):=aa (by rw[HE.o,ak (fun h=>hn (HEM.o.1 h))]);clear hn
   gi_wp2_with fail
   refine⟨by simp,.inl ⟨_,_,rfl,run_takeDeferred hD,?_⟩⟩;refine⟨.tuple #[.pointer (some ⟨B,0,none⟩),.int .i64 0],by simp[results,Tryz.results81,go_sem],(Ig.o.put (Obj.deferred none) ϑ).ext,.inr ⟨HE0.o,B,.slice vo ls.length vc,rfl,by omega,?_⟩⟩;rw[hhv,afl,GX,vE.o];refine⟨?_,?_⟩
   ·exact(World.putObj_heap_other ϑ).trans HV.o.1
   ·exact zci
 case hstop=>rintro cd Ms W h;exact h.elim
attribute [local go_sem] Oper.semAt_some
theorem PT {w:World} {o:Option Addr} {n c:Nat} {ls:List (List Int)} (h:aH 3 w (.slice o n c) (ls.map jv).length ((ls.map jv).flatMap ag)) (h3: ∀x∈ls,x.length<=3) {k:Nat} (hk:k<ls.length):
 ∃b off y0 y1 y2,o=some ⟨b,off,none⟩/\b<w.heap.size/\jv ls[k]=[y0,y1,y2]/\w.cell? ⟨b,off+k*3,none⟩=some (iv y0)/\w.cell? ⟨b,off+k*3+1,none⟩=some (iv y1)/\w.cell? ⟨b,off+k*3+2,none⟩=some (iv y2):=by
 obtain⟨hl,o',c',hv,h1,h2,h4,h5⟩:=h;cases hv;obtain⟨y0,y1,y2,Ε⟩:=lN (vT (h3 _ (bZ hk)));rw[kJ] at h1;cases o with
 |none=>have:=h4 rfl;omega
 |some a=>
  obtain⟨b,off,sp⟩:=a;obtain⟨hs,hc⟩:=h5 _ rfl;simp only at hs hc;subst hs;have g: ∀j,j<3->((ls.map jv).flatMap ag)[k*3+j]? =[iv y0,iv y1,iv y2][j]? :=fun j hj=>by
   rw[Ei ag 3 (ls.map jv) (fun x hx=>by
    obtain⟨t,ht,rfl⟩:=gW.1 hx;simp[ag,vT (h3 t ht)]) k j (by rw[kJ];exact hk) hj,List.getElem_map,Ε]
   rfl
  exact zbi
theorem IX (w:World):Ϝ 82 #[] w (PV (.bool true) w):=by
 go_enter Tryz.func82,Tryz.ntmps82;go_wp2;go_returns;exact⟨by simp,aF _ _⟩
theorem KW (c:bF) (hS:lL c) (hv kP tv v:Value) (es:List KE) (wb:Nat) (i:Nat) (hi:lD c i) (w:World) (hc:lh w hv kP tv es c) (hpos:0<(dx c []).length) (hw:Pb w wb hv kP tv v ((dx c []).map jv)):
 Ϝ 83 #[.pointer (some ⟨wb,0,none⟩),iv i] w (PV (rv (yN c i)) w):=by
 obtain⟨oh,ch,rfl⟩:=hc.heaps.open;obtain⟨ok,ck,rfl⟩:=hc.aQ.open;obtain⟨ot,ct,rfl⟩:=hc.aI.open;rw[hc.len] at hc hw;have hcnt:=rX hS [];have hall: ∀s∈dx c [],Str c s:=fun s hs=>qH hS (kR s hs);have h3: ∀x∈dx c [],x.length<=3:=fun x hx=>by have h1:=(hall x hx).1;have h2:=hS.h3;omega
 obtain⟨vo,vc,rfl⟩:=hw.truth.open;have HOF:=aa (fun(s:List Int) (hs:Str c s) (x0 x1 x2:Int) (hx:jv s=[x0,x1,x2]) (W:World) (hb:Ϙ w W)=>Qb c hS oh ok ch ck (.slice ot c.aI.length ct) es s x0 x1 x2 hx hs i hi W (hc.aQ.below hb (ah _)) hc.is);have Co:=aa hw;have HL:=aa (af hpos (af hall (af h3 hcnt)));have JA:=aa (fun k (hk:k<=(dx c []).length)=>PX hS (fun s hs=>kR s hs) hpos hi k hk);have HOB:=aa (fun(s:List Int) (hs:Str c s)=>Vg hS hs.1 hs.2 hi);unfold yN;have hmap:((dx c []).map jv).length=(dx c []).length:=ϕ;have HMP:=aa hmap;clear hc hS hall h3 hpos hcnt hmap;generalize dx c []=ls at*
 obtain⟨d1,g1,m1⟩:=ae hw.cells;obtain⟨b,off,y0,y1,y2,hvv,hb,Ε,r0,r1,r2⟩:=PT hw.truth HL.o.2.2.1 HL.o.1;rw[HMP.o] at d1;cases hvv;have hD:=HOF.o _ (HL.o.2.1 _ (bZ HL.o.1)) y0 y1 y2 Ε;have hdb:=HOB.o _ (HL.o.2.1 _ (bZ HL.o.1));have hr0:xU c ls i 0=(Ff c (ls[0]'HL.o.1) i,Ff c (ls[0]'HL.o.1) i):=by
  unfold xU;rw[show ls.getD 0 []=ls[0]'HL.o.1 from by simp[List.getD,HL.o.1]]
  rfl
 generalize Ff c (ls[0]'HL.o.1) i=d at*
 have HD:=aa hD;have HR0:=aa hr0;simp only[Nat.zero_mul,Nat.add_zero] at r0 r1 r2;have aeT:0<ls.length:=HL.o.1;have aoF:ls.length<=2000:=HL.o.2.2.2;clear hw Ε hD hr0 hi;go_enter Tryz.func83,Tryz.ntmps83;go_upto_region 1 with(fail)
 refine bU fun W1 ν=>?_;have hB1:Ϙ w W1:=by rw[ν];exact zl
 have hk4:W1.heap[w.heap.size]? =some (.cells #[iv 0,iv 0] 129 (0,0)):=by rw[ν];exact av _ _
 have e0:=(hB1.cell (p:=⟨b,off,none⟩) hb).trans r0;have e1:=(hB1.cell (p:=⟨b,off+1,none⟩) hb).trans r1;have e2:=(hB1.cell (p:=⟨b,off+2,none⟩) hb).trans r2;have δ:b<W1.heap.size:=by have:=hB1.size;omega
 have Oc:=Co.o.below hB1 (ah _);obtain⟨n1,n2,n3⟩:=ae Oc.cells;rw[HMP.o] at n1;have H1:=aa (af hB1 hk4);clear ν hB1 hk4 r0 r1 r2 hb d1 g1 m1 Oc;refine zg 12 [] none [(11,Spec.val (iv d))] ?_;simp only[zt];repeat ((first|refine zn ?_|refine zk ?_);simp only[zp])
 refine zw 141 (h:=fun W hE hF=>by exact HD.o W (aV H1.o.1 hE.below)) (t:=?_)
 simp only[zp];intro W hE hF;obtain⟨hc,hf⟩:=bH hE.below;have ig:=hE.size;(try simp only[bA] at ig)
 have hB2:=aV H1.o.1 hE.below;have afs:=(hE.block _ (aN.1 H1.o.2).1 ϕ).trans H1.o.2;have H2:=aa (af hB2 afs);have aey:=Co.o.below hB2 (ah _);clear hE hF hc hf ig e0 e1 e2 δ n1 n2 n3 hB2 afs;obtain⟨n1,n2,n3⟩:=ae aey.cells;rw[HMP.o] at n1;clear aey;go_upto_region 3 with(fail)
 refine bU fun W3 φ=>?_;have hB3:Ϙ W W3:=by rw[φ];exact zl
 have tL:W3.heap[W.heap.size]? =some (.cells #[iv d,iv d] 129 (0,0)):=by rw[φ];exact av _ _
 have afr:=(hB3.block _ (aN.1 H2.o.2).1).trans H2.o.2;have hwW:w.heap.size<W.heap.size:=(aN.1 H2.o.2).1;have H3:=aa (af (aV H2.o.1 hB3) (af tL afr));have aex:=Co.o.below H3.o.1 (ah _);clear φ hB3 tL afr n1 n2 n3;obtain⟨n1,n2,n3⟩:=ae aex.cells;rw[HMP.o] at n1;clear aex;obtain⟨b9,uF⟩: ∃b9,W.heap.size=b9:=⟨_,rfl⟩;rw[uF] at H3 hwW⊢;clear uF H2;go_wp2_with fail
 go_loopw [29] (fun u wq=> ∃k:Nat,k<=ls.length/\u= .int .i64 k/\wq.heap[b9]? =some (.cells #[iv (xU c ls i k).1,iv (xU c ls i k).2] 129 (0,0))/\wq.heap[w.heap.size]? =some (.cells #[iv 0,iv 0] 129 (0,0))/\Ϙ w wq) (fun u _=>ls.length-(intOf u).toNat)
 case atStart=>exact⟨0,bE _,rfl,by rw[HR0.o];exact H3.o.2.1,H3.o.2.2,H3.o.1⟩
 case round=>
  obtain⟨k,hk,rfl,Q7,μ,hB⟩:=hrel;by_cases Ξ:k<ls.length
  ·have Κ:=Co.o.below hB (ah _);obtain⟨q1,q2,q3⟩:=ae Κ.cells;rw[HMP.o] at q1;obtain⟨e1,e2,e3⟩:=ae Q7;obtain⟨b',off',z0,z1,z2,hvv,hb',hzs,s0,s1,s2⟩:=PT Κ.truth HL.o.2.2.1 Ξ;cases hvv;have Y6:=HL.o.2.1 _ (bZ Ξ);have hD2:=HOF.o _ Y6 z0 z1 z2 hzs;have hsu:=Gp (c:=c) (i:=i) Ξ;have ajF:=HOB.o _ Y6;have hrb:=JA.o k hk;generalize Ff c ls[k] i=d2 at*
   generalize hrk:xU c ls i k=r at*
   have HD2:=aa hD2;have uZ:=aa hsu;have HQ:=aa (af Q7 (af μ hB));clear hzs hD2 hsu Q7 μ hB Κ Y6 hrk n1 n2 n3;have afd:(k:Int)<ls.length:=ϑ;go_upto_region 6 with(fail)
   refine bU fun W5 qM=>?_;have vB:Ϙ wr W5:=by rw[qM];exact zl
   have hk5:W5.heap[wr.heap.size]? =some (.cells #[iv z0,iv z1,iv z2] 283 (0,0)):=by rw[qM];exact av _ _
   have hc5:=(vB.block _ e3).trans HQ.o.1;have hw5:=Co.o.below (aV HQ.o.2.2 vB) (ah _);have HBB:=aa (af (aV HQ.o.2.2 vB) (af hc5 ((vB.block _ (aN.1 HQ.o.2.1).1).trans HQ.o.2.1)));clear qM vB q1 q2 q3 e1 e2 s0 s1 s2 hb';obtain⟨q1,q2,q3⟩:=ae hw5.cells;rw[HMP.o] at q1;obtain⟨e1,e2,e4⟩:=ae hc5;obtain⟨p1,p2,p3⟩:=ae hk5;clear hw5 hc5 hk5;refine zg 9 [] none [(7,Spec.val (iv d2)),(8,Spec.val (rv (wid r d2)))] ?_;simp only[zt];repeat ((first|refine zn ?_|refine zk ?_);simp only[zp])
   refine zw 141 (h:=fun W hE hF=>by exact HD2.o W (aV HBB.o.1 hE.below)) (t:=?_)
   simp only[zp];refine zw 142 (h:=fun W hE hF=>by exact NU r d2 W) (t:=?_);simp only[zp];intro W hE hF;obtain⟨hc,hf⟩:=bH hE.below;have ig:=hE.size;(try simp only[bA] at ig)
   have HE:=aa hE;clear hF ig;go_wp2_with fail
   go_roundw
   case rel=>
    refine⟨k+1,by omega,by go_num,?_,?_,?_⟩
    ·rw[uZ.o];exact aA (aA ((HE.o.block _ e4 ϕ).trans HBB.o.2.1) _) _
    ·have h1:=(HE.o.block _ (aN.1 HBB.o.2.2).1 ϕ).trans HBB.o.2.2;exact(bV _ _ _ _ (by show w.heap.size≠b9;omega)).trans ((bV _ _ _ _ (by show w.heap.size≠b9;omega)).trans h1)
    ·exact dP (dP (aV HBB.o.1 HE.o.below) (show w.heap.size<=b9 by omega) _) (show w.heap.size<=b9 by omega) _
   case measure=>simp[intOf];omega
  ·have Y9:k=ls.length:=ϑ;subst Y9;have hrb:=JA.o _ (ah _);generalize xU c ls i ls.length=r at*
   obtain⟨e1,e2,e3⟩:=ae Q7;obtain⟨p1,p2,p3⟩:=ae μ;have HQ:=aa (af μ hB);clear Q7 μ hB n1 n2 n3;go_wp2_with fail
   refine bodyPost_ret (v:=rv r) (results_cell_row Tryz.results83 _ _ w.heap.size _ _ (0,0) _ rfl (aA (aA HQ.o.1 _) _) Tryz.underlying129 rfl ϰ) rfl ?_;exact⟨rfl,dP (dP HQ.o.2 (ah _) _) (ah _) _⟩
theorem tKR:fU Tryz.prog 56 129 (rv (0,0)) 2 16:=⟨Tryz.underlying56,by kernel_rfl,rfl,by omega⟩
def aan (c:bF) (w:World) (e:Ending) (w':World):Prop:=
 Ϙ w w'/\((gV c true≠0/\e= .returned (.tuple #[.slice none 0 0,.slice none 0 0,iv (gV c true)]))∨
  (gV c true=0/\ ∃v u,e= .returned (.tuple #[v,u,iv 0])/\bD w' v (qL c)/\bD w' u (iH c)))
theorem La (c:bF) {i:Nat} (hi:i<c.heaps.length):(qL c).take (i+1)=(qL c).take i++[yN c i]:=by
 rw[pE];congr 1;unfold qL;simp[hi]
theorem Ma (c:bF) {i:Nat} (hi:i<c.aQ.length):(iH c).take (i+1)=(iH c).take i++[yN c (c.heaps.length+i)]:=by
 rw[pE];congr 1;unfold iH;simp[hi]
theorem Gw (a b:List dF):aB (a++b)=aB a++aB b:=by simp[aB]
theorem wh (c:bF) (hv kP tv:Value) (es:List KE) (w:World) (hc:lh w hv kP tv es c):Ϝ 45 #[kv hv kP tv] w (aan c w):=by
 obtain⟨oh,ch,rfl⟩:=hc.heaps.open;obtain⟨ok,ck,rfl⟩:=hc.aQ.open;obtain⟨ot,ct,rfl⟩:=hc.aI.open;rw[hc.len] at hc⊢;have HA:=aa (fun(W:World) (hb:Ϙ w W)=>NY c (.slice oh c.heaps.length ch) (.slice ok c.aQ.length ck) (.slice ot c.aI.length ct) es 82 #[] true W (hc.below hb (ah _)) (enters_of Tryz.func82 ϰ rfl) (fun W _=>IX W));have HC':Hid (∀W,Ϙ w W->lh W (.slice oh c.heaps.length ch) (.slice ok c.aQ.length ck) (.slice ot c.aI.length ct) es c):=aa (fun W hb=>hc.below hb (ah _));clear hc;go_enter Tryz.func45,Tryz.ntmps45;go_wp2_with fail
 refine(HA.o _ (ai (aF _ _) _)).mono ?_;rintro e w1 ⟨hb,⟨hne,rfl⟩|⟨h0,wb,v,rfl,hwb,hwk⟩⟩
 ·have HB:=aa (show Ϙ w w1 from zl);obtain⟨q,hq⟩: ∃q,gV c true=q:=⟨_,rfl⟩;exact zbD
 have HB:=aa (show Ϙ w w1 from zl);have hk0:w1.heap[w.heap.size]? =some (.cells #[.slice oh c.heaps.length ch,.slice ok c.aQ.length ck,.slice ot c.aI.length ct] 60 (0,0)):=(hb.block _ ϕ).trans (av _ _);clear hb;obtain⟨hS,hpos,_⟩:=ER h0;have hh3:=hS.h3;have hk3:=hS.c3;have Yg:=aa (fun(i:Nat) (hi:lD c i) (W:World) (hb:Ϙ w1 W)=>KW c hS (.slice oh c.heaps.length ch) (.slice ok c.aQ.length ck) (.slice ot c.aI.length ct) v es wb i hi W (HC'.o W (aV HB.o hb)) hpos (hwk.below hb (ah _)));have H0:=aa h0;have HK0:=aa hk0;have HHL:=aa (fun i (hi:i<c.heaps.length)=>La c hi);have HKL:=aa (fun i (hi:i<c.aQ.length)=>Ma c hi);have Ui:Hid ((qL c).length=c.heaps.length/\(iH c).length=c.aQ.length):=aa (by simp[qL,iH]);obtain⟨c0,f0,l0⟩:=ae hk0;clear hS hpos hwk h0 hk0 hwb;go_wp2_with fail
 go_loopw [2,19] (fun ov u wr=> ∃i:Nat,i<=c.heaps.length/\u= .int .i64 i/\(∃oo oc,ov= .slice oo i oc/\wr.ownsRow w1.heap.size 129 2 (.slice oo i oc) i (aB ((qL c).take i)))/\Ϙ w1 wr) (fun _ u _=>c.heaps.length-(intOf u).toNat)
 case atStart=>exact⟨0,bE _,rfl,⟨none,0,rfl,⟨rfl,.inl ⟨rfl,rfl⟩⟩⟩,aF _ _⟩
 case round=>
  obtain⟨i,hi,rfl,⟨oo,oc,rfl,σ⟩,hB⟩:=hrel;by_cases uM:i<c.heaps.length
  ·have hD:=Yg.o i (by unfold lD;omega) wr hB;have hsu:=HHL.o i uM;generalize yN c i=r at hD hsu;have HOW:=aa σ;have XU:=aa hB;have uZ:=aa hsu;clear σ hB hsu c0 f0 l0;go_wp2_with fail
   refine hD.mono ?_;rintro e w2 ⟨rfl,κ⟩;have Uy:=aa κ;have ho2:=az (Ms:=[]) HOW.o (Ext.ax κ) ϕ;have zX:=aa ho2;have hsz2:=κ.size;have hsz1:=XU.o.size;clear hD κ ho2;go_wp2_with (at_builtin;go_loud (refine cZ rfl _ _ tKR rfl w1.heap.size (.slice oo i oc) i (aB ((qL c).take i)) rfl (az (Ms:=[]) zX.o (Ext.ax (ai (aF _ _) _)) ϕ) (.slice (some ⟨w2.heap.size,0,none⟩) 1 1) 1 [iv r.1,iv r.2] rfl (aH.bI 2 1 (av _ _) rfl ϖ) (by simp[Value.oneCell']) ϑ ϑ ϗ ?_))
   intro v' w3 Gm Y7 hN;obtain⟨o3,c3,rfl⟩:=aM Gm;have hpu:=jO XU.o HOW.o ((Ext.ax Uy.o).trans (Ext.ax (ai (aF _ _) _))) Gm Y7 (ah _) XU.o.size;have HP:=aa (af hpu Gm);clear hpu Gm Y7 hN;go_wp2_with fail
   go_roundw
   case rel=>
    refine⟨i+1,by omega,by go_num,⟨o3,c3,rfl,?_⟩,HP.o.1.1⟩;rw[uZ.o,Gw];exact HP.o.2
   case measure=>simp[intOf];omega
  ·obtain rfl:i=c.heaps.length:=ϑ;have hk1:=(hB.block _ (aN.1 HK0.o).1).trans HK0.o;obtain⟨n0,n1,n2⟩:=ae hk1;have HH:=aa (af σ (af hB hk1));clear σ hB hk1 c0 f0 l0;go_wp2_with fail
   generalize wr=wm at*
   go_loopw [3,32] (fun ov u wq=> ∃j:Nat,j<=c.aQ.length/\u= .int .i64 j/\(∃o2 c2,ov= .slice o2 j c2/\wq.ownsRow wm.heap.size 129 2 (.slice o2 j c2) j (aB ((iH c).take j)))/\Ϙ wm wq) (fun _ u _=>c.aQ.length-(intOf u).toNat)
   case atStart=>exact⟨0,bE _,rfl,⟨none,0,rfl,⟨rfl,.inl ⟨rfl,rfl⟩⟩⟩,aF _ _⟩
   case round=>
    obtain⟨j,hj,rfl,⟨o2,c2,rfl,σ⟩,hB⟩:=hrel;by_cases uM:j<c.aQ.length
    ·have hBw:=aV HH.o.2.1 hB;have hD:=Yg.o (c.heaps.length+j) (by unfold lD;omega) _ hBw;have hsu:=HKL.o j uM;generalize yN c (c.heaps.length+j)=r at hD hsu;rw[show((c.heaps.length+j:Nat):Int)=(c.heaps.length:Int)+j from by omega] at hD;have hkk:=(hB.block _ (aN.1 HH.o.2.2).1).trans HH.o.2.2;obtain⟨a0,a1,a2⟩:=ae hkk;have HOW:=aa σ;have XU:=aa hB;have uZ:=aa hsu;clear σ hB hBw hsu hkk n0 n1 n2;go_wp2_with fail
     refine hD.mono ?_;rintro e w2 ⟨rfl,κ⟩;have Uy:=aa κ;have ho2:=az (Ms:=[]) HOW.o (Ext.ax κ) ϕ;have zX:=aa ho2;have hsz2:=κ.size;have hsz1:=XU.o.size;clear hD κ ho2 a0 a1 a2;go_wp2_with (at_builtin;go_loud (refine cZ rfl _ _ tKR rfl wm.heap.size (.slice o2 j c2) j (aB ((iH c).take j)) rfl (az (Ms:=[]) zX.o (Ext.ax (ai (aF _ _) _)) ϕ) (.slice (some ⟨w2.heap.size,0,none⟩) 1 1) 1 [iv r.1,iv r.2] rfl (aH.bI 2 1 (av _ _) rfl ϖ) (by simp[Value.oneCell']) ϑ ϑ ϗ ?_))
     intro v' w3 Gm Y7 hN;obtain⟨o3,c3,rfl⟩:=aM Gm;have hpu:=jO XU.o HOW.o ((Ext.ax Uy.o).trans (Ext.ax (ai (aF _ _) _))) Gm Y7 (ah _) XU.o.size;have HP:=aa (af hpu Gm);clear hpu Gm Y7 hN;go_wp2_with fail
     go_roundw
     case rel=>
      refine⟨j+1,by omega,by go_num,⟨o3,c3,rfl,?_⟩,HP.o.1.1⟩;rw[uZ.o,Gw];exact HP.o.2
     case measure=>simp[intOf];omega
    ·obtain rfl:j=c.aQ.length:=ϑ;have HX:=aa (af σ hB);clear σ hB n0 n1 n2;go_wp2_with fail
     go_returns;refine⟨aV HB.o (aV HH.o.2.1 HX.o.2),.inr ⟨H0.o,.slice oo c.heaps.length oc,.slice o2 c.aQ.length c2,by simp,?_,?_⟩⟩
     ·have h1:=aH.bY (az (Ms:=[]) HH.o.1 (Ext.ax HX.o.2) ϕ);rw[show(qL c).take c.heaps.length=qL c from by rw[<-Ui.o.1,List.take_length]] at h1
      show aH 2 _ _ (qL c).length _;rw[Ui.o.1];exact h1
     ·have h1:=aH.bY HX.o.1;rw[show(iH c).take c.aQ.length=iH c from by rw[<-Ui.o.2,List.take_length]] at h1
      show aH 2 _ _ (iH c).length _;rw[Ui.o.2];exact h1
end Go.Proofs.Z.xC
end

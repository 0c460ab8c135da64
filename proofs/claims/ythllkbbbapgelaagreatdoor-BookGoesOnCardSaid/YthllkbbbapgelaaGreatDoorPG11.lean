/-
  Texts of this claim, packed by a program: CA CB CC CD CE CG CF CI.
-/
import Derived.WalkKit
import Derived.WalkLawsBesides
import Derived.WalkSpells
import Derived.Outline
import Derived.Handy
import Derived.KernelRfl
import Derived.Lib.Hide
import Derived.Deep.Cut
import Derived.Laws.EntriesVeiled
import Derived.Test.YthllkbbbapgelaaGreatDoorPG5
set_option maxHeartbeats 8000000
set_option maxRecDepth 100000
set_option linter.all false
theorem _root_.zcv {P:Prop} (h:P:=by
 have G8:Ext [] W Wa:=hE;obtain⟨b',hb',hge,μ⟩:=hF _ (bu _) ϰ;cases hb';have YM:=az (Ms:=[]) Ea.o.2.1 G8 ϕ;have ι:aH 3 Wa (.slice (some ⟨b6,0,none⟩) 1 1) 1 (ag ys):=zb2;refine Does.mono (cZ acM ϱ ϱ YM ϱ ι (iE _) ϑ ϑ (by have:=G8.size;omega)) ?_;exact zax):P:=h
theorem _root_.zbI {P:Prop} (h:P:=by
 go_wp2_with fail
 refine(qj r _).mono ?_;rintro e w2 ⟨rfl,hb⟩;have Ra:=aa (aV HB.o hb);clear hb;go_wp2_with fail
 go_returns;exact⟨by simp[qh,tu,hq],Ra.o⟩):P:=h
theorem _root_.zcj {P:Prop} (h:P:=by
 go_enter Tryz.func290,Tryz.ntmps290;go_wp2_with fail
 go_returns;exact⟨by simp[xk],zl⟩):P:=h
theorem _root_.zan {P:Prop} (h:P:=by
 go_enter Tryz.func139,Tryz.ntmps139;go_wp2_with fail
 refine zg 6 [] none [] ?_;simp only[zt];repeat (refine zn ?_;simp only[zp])
 intro W hE hF;obtain⟨hc,hf⟩:=bA hE.below;have ic:=hE.size;(try simp only[bg] at ic)
 have ψ:=aa (show Ϙ w W from aV (ai (aC _ _) _) hE.below);have hk0:W.heap[w.heap.size]? =some (.cells #[.slice oh c.heaps.length ch,.slice ok c.aR.length ck,.slice ot c.aI.length ct] 60 (0,0)):=(hE.block _ ϕ ϕ).trans (av _ _);clear hE hF hc hf ic;obtain⟨d0,f0,m0⟩:=ae hk0;clear hk0;go_wp2_with fail
 go_returns;exact⟨by simp,ψ.o⟩):P:=h
theorem _root_.zav {P:Prop} (h:P:=by
 refine⟨⟨?_,?_,fun m hm h0 lg=>?_,by rw[tJ];omega⟩,Yk,?_⟩
 ·exact(Av _ (by have:=(χ _ (Φ (w4.heap.size+1) ϑ ϑ)).2;omega) ϑ ϑ).trans HK.o.2.1
 ·exact(Av _ (by have:=(χ _ (Φ w4.heap.size ϑ ϑ)).2;omega) ϑ ϑ).trans HK.o.2.2
 ·exact(Av m (vR.o.bnd m hm) (fun e=>yx (e▸hm)) (fun e=>(χ B (Φ _ ϑ ϑ)).1 (e▸hm))).trans (HK.o.1 m hm h0 lg)
 rw[afx.o];refine⟨⟨v',aG ui.o.2.2 _,hlen1.symm▸bU ui.o.1 fun g hg=>dm _ _ _ _ (by have:=(aW ui.o.1 g hg).1;show g≠B;omega),fun g hg=>⟨fun hm=>?_,by rw[tJ];exact(aW ui.o.1 g hg).2⟩⟩,?_,?_,?_⟩
 ·rcases ui.o.2.1 g hg with h1|h1
  ·exact yx (h1▸hm)
  ·have:=vR.o.bnd g hm;omega
 ·exact(Γ _ (by have:=(χ _ (Φ (B+1) ϑ ϑ)).2;omega) ϑ ϑ).trans GA.o.ptr
 ·exact(Γ _ (by have:=(χ _ (Φ (B+2) ϑ ϑ)).2;omega) ϑ ϑ).trans GA.o.b2
 ·exact(Γ _ (by have:=(χ _ (Φ (B+3) ϑ ϑ)).2;omega) ϑ ϑ).trans GA.o.b3):P:=h
theorem _root_.zbT {P:Prop} (h:P:=by
 have h1:=aW Ea.o.2.1 g xA;have h2:=Ea.o.2.2 g xA;exact⟨g,(fun g' hg=>by cases hg;rfl),.inr h1.1,h1.2,h2.1,fun e=>HBV.o (by rw[xA,e])⟩):P:=h
section
namespace Go.Proofs.Z.uL
open ig
abbrev EX:=Bool×Int×dF
structure bE where
 heaps:List dF
 aR:List (List Int)
 aI:List EX
def kK:List Int->Int
 |[]=>0
 |x::l=>x+kK l
def jP (l:List Int) (k:Nat):Int:=kK (l.take k)
theorem Jo (a b:List Int):kK (a++b)=kK a+kK b:=by
 induction a with
 |nil=>simp[kK]
 |cons x a ih=>simp only[List.cons_append,kK,ih];omega
theorem qi {l:List Int} {k:Nat} (hk:k<l.length):jP l (k+1)=jP l k+l[k]:=by
 unfold jP;rw[eT hk,Jo];simp[kK]
theorem vX (l:List Int):jP l l.length=kK l:=by unfold jP;rw[List.take_length]
theorem Bg {m:Int} (_:0<=m): ∀{l:List Int},(∀x∈l,0<=x/\x<=m)->0<=kK l/\kK l<=m*l.length:=by
 intro l;induction l with
 |nil=>intro _;simp[kK]
 |cons x l ih=>
  intro h;have h1:=h x ϕ;have h2:=ih (fun y hy=>h y (by simp[hy]));simp only[kK,List.length_cons];rw[show m*((l.length+1:Nat):Int)=m*l.length+m from by rw[Int.natCast_add,Int.mul_add];simp]
  omega
theorem uQ {m:Int} (hm:0<=m) {l:List Int} (h: ∀x∈l,0<=x/\x<=m) (k:Nat):0<=jP l k/\jP l k<=m*l.length:=by
 have h1:=Bg hm (l:=l.take k) (fun x hx=>h x (ny hx));have h2:m*((l.take k).length:Int)<=m*l.length:=Int.mul_le_mul_of_nonneg_left (by have:=List.length_take_le' k l;omega) hm;unfold jP;omega
def qg (c:bE) (l:List Int):Bool:=decide (l.length=c.heaps.length)&&l.all (lT · 0 30)
def sO (c:bE) (l:List Int):Bool:=qg c l&&decide (0<kK l)
def tu (c:bE) (t:EX):Int:=if t.1 then c.aR.length else c.heaps.length
def qh (c:bE) (t:EX):Bool:=lT t.2.1 0 (tu c t-1)&&sQ t.2.2 100
def nM (c:bE):Int:=
 if 3<c.heaps.length∨3<c.aR.length∨5<c.aI.length then 3
 else if c.heaps.length=0∨c.heaps.all (sQ · 100)=false∨c.aR.all (sO c)=false∨c.aI.all (qh c)=false then 1
 else if 2000<qO c.heaps then 3 else 0
structure lL (c:bE):Prop where
 h1:1<=c.heaps.length
 h3:c.heaps.length<=3
 c3:c.aR.length<=3
 t5:c.aI.length<=5
 heaps: ∀r∈c.heaps,sQ r 100=true
 aR: ∀l∈c.aR,l.length=c.heaps.length/\(∀x∈l,0<=x/\x<=30)/\0<kK l
 aI: ∀t∈c.aI,(0<=t.2.1/\t.2.1<tu c t)/\sQ t.2.2 100=true
 many:qO c.heaps<=2000
theorem R3 {c:bE} {l:List Int}:sO c l=true↔l.length=c.heaps.length/\(∀x∈l,0<=x/\x<=30)/\0<kK l:=by
 simp only[sO,qg,lT,dL,dR,iR];constructor
 ·rintro⟨⟨h1,h2⟩,h3⟩;exact⟨h1,h2,h3⟩
 ·rintro⟨h1,h2,h3⟩;exact⟨⟨h1,h2⟩,h3⟩
theorem Ml {c:bE} {t:EX}:qh c t=true↔(0<=t.2.1/\t.2.1<tu c t)/\sQ t.2.2 100=true:=by
 simp only[qh,lT,dL,dR];constructor
 ·rintro⟨⟨h1,h2⟩,h3⟩;exact⟨⟨h1,by omega⟩,h3⟩
 ·rintro⟨⟨h1,h2⟩,h3⟩;exact⟨⟨h1,by omega⟩,h3⟩
theorem Fp {c:bE} (hf:nM c=0):lL c:=by
 unfold nM at hf;split at hf
 ·omega
 ·rename_i a;split at hf
  ·omega
  ·rename_i b;split at hf
   ·omega
   ·rename_i d;simp only[not_or,Bool.not_eq_false,iR] at a b;obtain⟨a1,a2,a3⟩:=a;obtain⟨b1,b2,b3,b4⟩:=b;exact⟨by omega,by omega,by omega,by omega,b2,fun l hl=>R3.1 (b3 l hl),fun t ht=>Ml.1 (b4 t ht),by omega⟩
theorem lL.sz {c:bE} (h:lL c): ∀r∈c.heaps,1<=dP r:=fun r hr=>(uZ (h.heaps r hr)).2.2.2.1
theorem lL.rg {c:bE} (h:lL c) {i:Nat} (hi:i<c.heaps.length):0<=c.heaps[i].1/\c.heaps[i].1<=c.heaps[i].2/\c.heaps[i].2<=100:=by
 have:=uZ (h.heaps _ (bK hi));exact⟨this.1,this.2.1,this.2.2.1⟩
def wQ:List Int->List Int->Int
 |w::ws,s::ss=>w*s+wQ ws ss
 |_,_=>0
def vJ (w s:List Int) (k:Nat):Int:=wQ (w.take k) (s.take k)
theorem RJ: ∀(a b:List Int) (x y:Int),a.length=b.length->wQ (a++[x]) (b++[y])=wQ a b+x*y:=by
 intro a;induction a with
 |nil=>intro b x y h;obtain rfl:=jh h.symm;simp[wQ]
 |cons w a ih=>
  intro b x y h;cases b with
  |nil=>simp at h
  |cons s b=>
   simp only[List.cons_append,wQ,ih b x y (by simpa using h)];omega
theorem NL {w s:List Int} {k:Nat} (hw:k<w.length) (hs:k<s.length):vJ w s (k+1)=vJ w s k+w[k]*s[k]:=by
 unfold vJ;rw[eT hw,eT hs,RJ];simp[eO];omega
theorem RI {w s:List Int} (h:w.length=s.length):vJ w s w.length=wQ w s:=by unfold vJ;rw[List.take_length,h,List.take_length]
theorem PD: ∀(w s:List Int),(∀x∈w,0<=x/\x<=30)->(∀x∈s,0<=x/\x<=100)->0<=wQ w s/\wQ w s<=100*kK w:=by
 intro w;induction w with
 |nil=>intro s _ _;simp[wQ,kK]
 |cons x w ih=>
  intro s hw hs;have hx:=hw x ϕ;have hb:=Bg (m:=30) ϑ (l:=w) (fun y hy=>hw y (by simp[hy]));cases s with
  |nil=>simp only[wQ,kK];omega
  |cons y s=>
   have hy:=hs y ϕ;have h1:=ih s (fun z hz=>hw z (by simp[hz])) (fun z hz=>hs z (by simp[hz]));have h2:0<=x*y:=Int.mul_nonneg hx.1 hy.1;have h3:x*y<=x*100:=Int.mul_le_mul_of_nonneg_left hy.2 hx.1;simp only[wQ,kK];omega
theorem VE {w s:List Int} (hw: ∀x∈w,0<=x/\x<=30) (hs: ∀x∈s,0<=x/\x<=100) (k:Nat):0<=vJ w s k/\vJ w s k<=3000*w.length:=by
 have h1:=PD (w.take k) (s.take k) (fun x hx=>hw x (ny hx)) (fun x hx=>hs x (ny hx));have h2:=uQ (m:=30) ϑ hw k;unfold jP at h2;unfold vJ;omega
def Ak (s w:List Int):Int:=wQ w s/kK w
theorem Uq {s w:List Int} (hw: ∀x∈w,0<=x/\x<=30) (hs: ∀x∈s,0<=x/\x<=100) (hp:0<kK w):0<=Ak s w/\Ak s w<=100:=by
 have h1:=PD w s hw hs;unfold Ak;exact⟨Int.ediv_nonneg h1.1 ϑ,Int.ediv_le_of_le_mul hp ϑ⟩
def D6 (c:bE) (s:List Int) (thing:Nat):Int:=if thing<c.heaps.length then s.getD thing 0 else Ak s (c.aR.getD (thing-c.heaps.length) [])
def xk (c:bE) (t:EX):Nat:=(if t.1 then c.heaps.length else 0)+t.2.1.toNat
def BL (c:bE) (s:List Int) (t:EX):Bool:=lT (D6 c s (xk c t)) t.2.2.1 t.2.2.2
def qo (c:bE) (out:List Int) (s:List Int):Bool:=(List.range c.aI.length).all fun i=>out.contains (i:Int) ||BL c s (c.aI.getD i (false,0,(0,0)))
def qX (c:bE):List (List Int):=dZ c.heaps
def dh (c:bE) (out:List Int):List (List Int):=(qX c).filter (qo c out)
def kZ (c:bE) (n:Nat):Prop:=n<c.heaps.length+c.aR.length
theorem Qe {c:bE} (h:lL c) {t:EX} (ht:t∈c.aI):kZ c (xk c t):=by
 have:=(h.aI t ht).1;unfold kZ xk;unfold tu at this;split at this <;>rename_i h1
 ·rw[aB h1];omega
 ·rw[aj h1];omega
theorem qz {c:bE} (h:lL c) {s:List Int} (hs:s∈qX c):s.length=c.heaps.length/\ ∀x∈s,0<=x/\x<=100:=by
 obtain⟨h1,h2⟩:=zF _ _ hs;refine⟨h1,fun x hx=>?_⟩;obtain⟨i,hi,rfl⟩:=kD hx;have h3:=h2 i ϑ;have h4:=h.rg (show i<c.heaps.length by omega);rw[fJ,bZ ϑ,Option.getD_some] at h3;rw[fJ,bZ hi,Option.getD_some] at h3;omega
theorem Uj {c:bE} (h:lL c) {s:List Int} (hl:s.length=c.heaps.length) (hs: ∀x∈s,0<=x/\x<=100) {n:Nat} (hn:kZ c n):0<=D6 c s n/\D6 c s n<=100:=by
 unfold kZ at hn;unfold D6;split
 ·rename_i h1;rw[fJ,bZ ϑ,Option.getD_some];exact hs _ (bK _)
 ·rename_i h1;have hk:n-c.heaps.length<c.aR.length:=ϑ;rw[fJ,bZ hk,Option.getD_some];have:=h.aR _ (bK hk);exact Uq this.2.1 hs this.2.2
def wS (c:bE) (out:List Int) (k:Nat):Nat:=(((qX c).take k).filter (qo c out)).length
theorem VT (c:bE) (out:List Int):wS c out (qX c).length=(dh c out).length:=by
 unfold wS dh;rw[List.take_length]
theorem YH {c:bE} {out:List Int} {k:Nat} (hk:k<(qX c).length) (hp:qo c out (qX c)[k]=false):wS c out (k+1)=wS c out k:=by
 unfold wS;exact zbH
theorem VS {c:bE} {out:List Int} {k:Nat} (hk:k<(qX c).length) (hp:qo c out (qX c)[k]=true):wS c out (k+1)=wS c out k+1:=by
 unfold wS;exact zbH
theorem Mk {c:bE} {out:List Int} {k:Nat} (hk:k<(qX c).length) (hp:qo c out (qX c)[k]=true):
 ∃hc:wS c out k<(dh c out).length,(dh c out)[wS c out k]=(qX c)[k]:=by
 have:=zM (qo c out) id (qX c) k hk hp;rw[List.map_id] at this;obtain⟨hc,hx⟩:=gY.1 this;exact⟨hc,hx⟩
theorem rF {c:bE} (hS:lL c) (out:List Int):(dh c out).length<=2000:=by
 have h1:(dh c out).length<=(qX c).length:=List.length_filter_le _ _;have h2:=uX c.heaps hS.sz;have h3:=hS.many;unfold qX at h1;omega
def jm (x:List Int):List Int:=x++List.replicate (3-x.length) 0
theorem uY {x:List Int} (h:x.length<=3):(jm x).length=3:=by simp[jm];omega
theorem JP (x:List Int) (i:Nat):(jm x).getD i 0=x.getD i 0:=by
 unfold jm;exact zbe
def gT (c:bE) (Α:Bool):Int:=if nM c≠0 then nM c else if Α=false then 2 else if(dh c []).isEmpty then 11 else 0
theorem Dm {c:bE} {b:Bool} (h:gT c b=0):lL c/\0<(dh c []).length/\b=true:=by
 unfold gT at h;split at h
 ·omega
 ·rename_i hf;have hf':nM c=0:=ϑ;split at h
  ·omega
  ·rename_i hb;split at h
   ·omega
   ·rename_i he;refine⟨Fp hf',?_,by simpa using hb⟩;cases ht:dh c [] with
    |nil=>rw[ht] at he;exact absurd rfl he
    |cons x l=>simp
def xn (c:bE) (ls:List (List Int)) (i:Nat) (k:Nat):dF:=(ls.take k).foldl (fun r s=>wid r (D6 c s i)) (D6 c (ls.getD 0 []) i,D6 c (ls.getD 0 []) i)
theorem Fy {c:bE} {ls:List (List Int)} {i:Nat} {k:Nat} (hk:k<ls.length):xn c ls i (k+1)=wid (xn c ls i k) (D6 c ls[k] i):=by
 unfold xn;rw[eT hk,List.foldl_append];rfl
def xX (c:bE) (i:Nat):dF:=xn c (dh c []) i (dh c []).length
def qD (c:bE):List dF:=(List.range c.heaps.length).map (xX c)
def iG (c:bE):List dF:=(List.range c.aR.length).map fun i=>xX c (c.heaps.length+i)
theorem OX {c:bE} (hS:lL c) {ls:List (List Int)} (hl: ∀s∈ls,s∈qX c) (h0:0<ls.length) {i:Nat} (hi:kZ c i):
 ∀k,k<=ls.length->(0<=(xn c ls i k).1/\(xn c ls i k).1<=100)/\(0<=(xn c ls i k).2/\(xn c ls i k).2<=100):=by
 have hb: ∀s∈ls,0<=D6 c s i/\D6 c s i<=100:=fun s hs=>by
  obtain⟨h1,h2⟩:=qz hS (hl s hs);exact Uj hS h1 h2 hi
 intro k;induction k with
 |zero=>
  intro _;have:=hb _ (bK h0);unfold xn;rw[fJ,bZ h0,Option.getD_some];exact⟨this,this⟩
 |succ k ih=>
  intro hk;have h1:=ih ϑ;have h2:=hb _ (bK (show k<ls.length by omega));rw[Fy ϑ];unfold wid;simp only;omega
theorem kM {c:bE} {out:List Int}: ∀s∈dh c out,s∈qX c:=fun _ h=>(List.mem_filter.1 h).1
open Go.RowKit Go.RG Go.SL Go.Shelf Go.TB
abbrev KE:=Value×List Int
def dW (es:List KE):List Value:=es.map (·.1)
def uG (w:World) (v:Value) (es:List KE):Prop:=aH 1 w v es.length (dW es)/\ ∀e∈es,aK w e.1 e.2
theorem uG.len {w:World} {v:Value} {es:List KE} (h:uG w v es):es.length<=9223372036854775807:=aH.len h.1
theorem uG.open {w:World} {v:Value} {es:List KE} (h:uG w v es): ∃o c,v= .slice o es.length c:=aH.open h.1
theorem uG.below {w w':World} {v:Value} {es:List KE} (h:uG w v es) {B:Nat} (hb:Below B w w') (hB:w.heap.size<=B):uG w' v es:=⟨h.1.below hb hB,fun e he=>(h.2 e he).below hb hB⟩
theorem uG.cell {w:World} {o:Option Addr} {c:Nat} {es:List KE} (h:uG w (.slice o es.length c) es) {k:Nat} (hk:k<es.length): ∃b off,o=some ⟨b,off,none⟩/\b<w.heap.size/\w.cell? ⟨b,off+k,none⟩=some es[k].1:=by
 obtain⟨⟨hl,o',c',hv,h1,h2,h3,h4⟩,_⟩:=h;cases hv;cases o with
 |none=>have:=h3 rfl;omega
 |some a=>
  obtain⟨b,off,sp⟩:=a;obtain⟨hs,hc⟩:=h4 _ rfl;simp only at hs hc;subst hs;have h0:=hc k es[k].1 (by simp[dW,hk]);exact⟨b,off,rfl,dn w _ h0,h0⟩
abbrev Jm (t:EX):Value:= .agg #[.bool t.1,iv t.2.1,iv t.2.2.1,iv t.2.2.2]
def fH (l:List EX):List Value:=l.flatMap fun t=>[.bool t.1,iv t.2.1,iv t.2.2.1,iv t.2.2.2]
abbrev vP (w:World) (v:Value) (l:List EX):Prop:=aH 4 w v l.length (fH l)
theorem JR (l:List EX): ∀u∈fH l,u.oneCell'=true:=by
 intro u hu;obtain⟨r,_,h⟩:=nR.1 hu;simp only[eB,List.not_mem_nil,or_false] at h;rcases h with rfl|rfl|rfl|rfl <;>rfl
theorem vP.cell {w:World} {o:Option Addr} {n c:Nat} {l:List EX} (h:aH 4 w (.slice o n c) n (fH l)) {k:Nat} (hk:k<l.length):
 ∃b off,o=some ⟨b,off,none⟩/\b<w.heap.size/\w.cell? ⟨b,off+k*4,none⟩=some (.bool l[k].1)/\w.cell? ⟨b,off+k*4+1,none⟩=some (iv l[k].2.1)/\w.cell? ⟨b,off+k*4+2,none⟩=some (iv l[k].2.2.1)/\
  w.cell? ⟨b,off+k*4+3,none⟩=some (iv l[k].2.2.2):=by
 obtain⟨hl,o',c',hv,h1,h2,h3,h4⟩:=h;cases hv;have Ib:(fH l).length=l.length*4:=by simp[fH,List.length_flatMap,List.map_const',List.sum_replicate_nat]
 have hn:n=l.length:=ϑ;cases o with
 |none=>have:=h3 rfl;omega
 |some a=>
  obtain⟨b,off,sp⟩:=a;obtain⟨hs,hc⟩:=h4 _ rfl;simp only at hs hc;subst hs;have g: ∀j,j<4->(fH l)[k*4+j]? =[.bool l[k].1,iv l[k].2.1,iv l[k].2.2.1,iv l[k].2.2.2][j]? :=fun j hj=>by
   unfold fH;rw[iF _ 4 (fun _=>rfl) l k j hk hj]
  have h0:=hc (k*4+0) (.bool l[k].1) (by rw[g 0 ϑ];rfl);have h1:=hc (k*4+1) (iv l[k].2.1) (by rw[g 1 ϑ];rfl);have h2:=hc (k*4+2) (iv l[k].2.2.1) (by rw[g 2 ϑ];rfl);have h3:=hc (k*4+3) (iv l[k].2.2.2) (by rw[g 3 ϑ];rfl);rw[Nat.add_zero] at h0;rw[<-Nat.add_assoc] at h1 h2 h3;exact⟨b,off,rfl,dn w _ h0,h0,h1,h2,h3⟩
abbrev kv (hv kv tv:Value):Value:= .agg #[hv,kv,tv]
structure pJ (w:World) (hv lZ tv:Value) (es:List KE) (c:bE):Prop where
 heaps:bF w hv c.heaps
 aR:uG w lZ es
 is:es.map (·.2)=c.aR
 aI:vP w tv c.aI
theorem pJ.below {w w':World} {hv lZ tv:Value} {es:List KE} {c:bE} (h:pJ w hv lZ tv es c) {B:Nat} (hb:Below B w w') (hB:w.heap.size<=B):pJ w' hv lZ tv es c:=⟨h.heaps.below hb hB,h.aR.below hb hB,h.is,h.aI.below hb hB⟩
theorem pJ.len {w:World} {hv lZ tv:Value} {es:List KE} {c:bE} (h:pJ w hv lZ tv es c):es.length=c.aR.length:=by rw[<-h.is,kC]
theorem ve (n l h:Int) (w:World):Ϝ 280 #[iv n,iv l,iv h] w (PV (.bool (lT n l h)) w):=by
 by_cases h1:l<=n
 all_goals
  go_enter Tryz.func280,Tryz.ntmps280;exact zbS
theorem Uz (r:dF) (n:Int) (w:World):Ϝ 289 #[rv r,iv n] w (PV (.bool (lT n r.1 r.2)) w):=by
 go_enter Tryz.func289,Tryz.ntmps289;go_wp2_with (go_at_call 280;refine(ve _ _ _ _).mono ?_;rintro e w' ⟨rfl,hb⟩)
 exact za0
theorem qj (r:dF) (w:World):Ϝ 224 #[rv r] w (PV (.bool (sQ r 100)) w):=by
 go_enter Tryz.func224,Tryz.ntmps224;exact zbW
theorem F8 (r:dF) (w:World) (h1:0<=r.1) (h2:r.1<=r.2) (h3:r.2<=100000):
 Ϝ 228 #[rv r] w (PV (iv (dP r)) w):=by
 go_enter Tryz.func228,Tryz.ntmps228;go_wp2;go_returns;exact⟨by simp[dP],by go_grown⟩
theorem Mc (n:Int) (w:World):Ϝ 313 #[iv n] w (PV (.bool (lT n 0 30)) w):=by
 go_enter Tryz.func313,Tryz.ntmps313;go_wp2_with (go_at_call 280;refine(ve _ _ _ _).mono ?_;rintro e w' ⟨rfl,hb⟩)
 go_returns;exact⟨by simp,hb⟩
theorem Kh (a b:Int) (g c:Nat) (w:World) (h0:w.cell? ⟨g,0,none⟩=some (iv a)) (h1:w.cell? ⟨g,1,none⟩=some (iv b)):
 Ϝ 227 #[.slice (some ⟨g,0,none⟩) 2 c] w (PV (iv (min a b)) w):=by
 have H:=aa (yh a b g c w h0 h1);go_enter Tryz.func227,Tryz.ntmps227;exact zcy
theorem Nb (r:dF) (n:Int) (w:World):Ϝ 142 #[rv r,iv n] w (PV (rv (wid r n)) w):=by
 go_enter Tryz.func142,Tryz.ntmps142;go_wp2_with fail
 refine zg 10 [] none [(3,Spec.slice (w.heap.size+2) #[iv r.1,iv n] 3 2),(4,Spec.val (iv (min r.1 n)))] ?_;simp only[zt];repeat (refine zd ?_;simp only[zp])
 refine dI (w.heap.size+2) _ _ _ ϱ ϕ ϱ ϕ ϕ (fun W hW=>by go_simp;try rfl) (fun b=>?_);simp only[zp];refine dQ _ ϱ ϱ 227 _ (fun W hW=>by go_simp;try rfl) (fun W hE hF=>?_) ?_
 ·obtain⟨c,hcb,hB,hc⟩:=hF _ (bu _) ϰ;cases hcb;exact Kh r.1 n b 2 W (by simp[World.cell?,hc]) (by simp[World.cell?,hc])
 simp only[zp];repeat (refine zd ?_;simp only[zp])
 intro W hE hF;obtain⟨hc,hf⟩:=bA hE.below;have ic:=hE.size;(try simp only[bg] at ic)
 go_wp2;all_goals
  (try simp only[Exit.inBlock,Exit.then])
  refine bodyPost_ret (v:=rv (min r.1 n,max r.2 n)) (by simp[results,Tryz.results142,go_sem,hc];try omega) rfl ?_;exact⟨rfl,ze⟩
theorem Kc (l:List Int) (v:Value) (w:World) (hv:aK w v l) (hl: ∀x∈l,0<=x/\x<=9999) (hn:l.length<=1000):Ϝ 282 #[v] w (PV (iv (kK l)) w):=by
 obtain⟨o,c,rfl⟩:=hv.open;have Ib:=hv.len;have HV:=aa hv;have HL:=aa hl;have HS:=aa (vX l);clear hv hl;go_enter Tryz.func282,Tryz.ntmps282;go_wp2;go_loop [2,4,7] (fun n _ i=> ∃k:Nat,k<=l.length/\i= .int .i64 k/\n=iv (jP l k)) (fun _ _ i=>l.length-(intOf i).toNat)
 case atStart=>exact⟨0,bD _,rfl,rfl⟩
 case round=>
  obtain⟨k,hk,rfl,rfl⟩:=hrel;have hb:=uQ (m:=9999) ϑ HL.o k;have θ:(9999:Int)*l.length<=9999*1000:=ϑ;by_cases tX:k<l.length
  ·obtain⟨b,off,rfl,ο,hc0⟩:=aK.cell HV.o tX;have hx:=HL.o _ (bK tX);have hs:=qi tX;generalize jP l k=m at hb hs⊢;generalize l[k]=x at hc0 hx hs;have HE:=aa hs;clear hs;go_wp2;exact zbD
  ·have XI:k=l.length:=ϑ;subst XI;rw[HS.o];go_wp2;go_returns;exact⟨by simp,aC _ _⟩
end Go.Proofs.Z.uL
namespace Go.Proofs.Z.uL
open Go.RowKit Go.RG Go.SL Go.Shelf ig Go.TB
abbrev Zj (e:KE):Value:=e.1
theorem acY (l:List dF) (v:Value) (aY:Nat) (Mr aM:Array Value) (p:Nat->Bool) (I:Nat->World->Prop) (w:World) (eg: Ϛ Tryz.prog aY)
 (Nl: ∀k W,I k W->bF W v l)
 (pG: ∀k (hk:k<l.length) W,(∀j,j<k->p j=false)->I k W->Ϝ aY (Mr.push (rv l[k])++aM) W (fun e W'=>e= .returned (.bool (p k))/\I (k+1) W')) (h0:I 0 w):
 Ϝ 314 #[v,.func (.func aY) Mr aM] w (dM l.length p I (fun k=>iv k) (iv (-1))):=by
 have Ib:=(Nl 0 w h0).len;obtain⟨o,c,rfl⟩:=(Nl 0 w h0).open;have HC:=aa pG;have HS:=aa Nl;clear pG Nl;go_enter Tryz.func314,Tryz.ntmps314;exact zct
theorem aak (l:List dF) (v:Value) (aY:Nat) (Mr aM:Array Value) (p:Nat->Bool) (I:Nat->World->Prop) (w:World) (eg: Ϛ Tryz.prog aY)
 (Nl: ∀k W,I k W->bF W v l)
 (pG: ∀k (hk:k<l.length) W,(∀j,j<k->p j=false)->I k W->Ϝ aY (Mr.push (rv l[k])++aM) W (fun e W'=>e= .returned (.bool (p k))/\I (k+1) W')) (h0:I 0 w):
 Ϝ 283 #[v,.func (.func aY) Mr aM] w (dM l.length p I (fun _=> .bool true) (.bool false)):=by
 have HI:=aa (acY l v aY Mr aM p I w eg Nl pG h0);have Ib:=(Nl 0 w h0).len;clear Nl pG h0 eg;go_enter Tryz.func283,Tryz.ntmps283;exact zad
theorem aan (x:dF) (bx aY:Nat) (Mr aM:Array Value) (b:Bool) (W:World) (R:World->Prop) (eg: Ϛ Tryz.prog aY)
 (hbx:W.cell? ⟨bx,0,none⟩=some (.func (.func aY) Mr aM))
 (pG:Ϝ aY (Mr.push (rv x)++aM) (W.alloc (.cells #[iv x.1,iv x.2] 129)) (fun e W'=>e= .returned (.bool b)/\R W')):
 Ϝ 284 #[rv x,.pointer (some ⟨bx,0,none⟩)] W (fun e W'=>e= .returned (.bool !b)/\R W'):=by
 have tX:=dn W _ hbx;have HC:=aa pG;clear pG;go_enter Tryz.func284,Tryz.ntmps284;exact zaq
theorem ac1 (l:List dF) (v:Value) (aY:Nat) (Mr aM:Array Value) (p:Nat->Bool) (I:Nat->World->Prop) (w:World) (eg: Ϛ Tryz.prog aY)
 (Nl: ∀k W,I k W->bF W v l) (hal: ∀k W o,I k W->I k (W.alloc o))
 (pG: ∀k (hk:k<l.length) W,(∀j,j<k->p j=true)->I k W->Ϝ aY (Mr.push (rv l[k])++aM) W (fun e W'=>e= .returned (.bool (p k))/\I (k+1) W'/\iy w.heap.size W W')) (h0:I 0 w):
 Ϝ 223 #[v,.func (.func aY) Mr aM] w (dM l.length (fun k=>!p k) I (fun _=> .bool false) (.bool true)):=by
 have HI:=aa (aak l v 284 #[] #[.pointer (some ⟨w.heap.size,0,none⟩)] (fun k=>!p k)
  (fun k W=>I k W/\W.heap[w.heap.size]? =some (.cells #[.func (.func aY) Mr aM] 337 (0,0))) (w.alloc (.cells #[.func (.func aY) Mr aM] 337))
  (enters_of Tryz.func284 ϰ rfl) (fun k W h=>Nl k W h.1)
  (fun k hk W GX h=>by
    have tX:w.heap.size<W.heap.size:=(aP.1 h.2).1;refine(aan l[k] w.heap.size aY Mr aM (p k) W (fun W'=>I (k+1) W'/\W'.heap[w.heap.size]? =some (.cells #[.func (.func aY) Mr aM] 337 (0,0))) eg (aA h.2) ?_);refine(pG k hk _ (fun j hj=>by simpa using GX j hj) (by first|exact hal _ _ _ h.1|exact h.1)).mono ?_;rintro e W' ⟨rfl,h1,h2⟩;refine⟨rfl,h1,(h2.block _ (ah _) (by first|exact tX|(simp;omega))).trans (by first|exact h.2|exact(aS _ _ _ tX).trans h.2)⟩)
  ⟨hal _ _ _ h0,heap_alloc_new w _⟩)
 have Ib:=(Nl 0 w h0).len;clear Nl pG h0 eg hal;go_enter Tryz.func223,Tryz.ntmps223;exact zaf
theorem Ni (l:List dF) (v:Value) (aY:Nat) (Mr aM:Array Value) (q:dF->Bool) (w:World) (hv:bF w v l) (eg: Ϛ Tryz.prog aY)
 (pG: ∀x∈l, ∀W,Ϙ w W->Ϝ aY (Mr.push (rv x)++aM) W (PV (.bool (q x)) W)):
 Ϝ 223 #[v,.func (.func aY) Mr aM] w (PV (.bool (l.all q)) w):=by
 refine(ac1 l v aY Mr aM (fun k=>q (l.getD k (0,0))) (fun _ W=>Ϙ w W) w eg (fun k W h=>hv.below h (ah _)) (fun k W o h=>ai h o) (fun k hk W _ h=>?_) (aC _ _)).mono ?_
 ·exact zaz
 ·exact zaJ
theorem acZ (l:List KE) (v:Value) (aY:Nat) (Mr aM:Array Value) (p:Nat->Bool) (I:Nat->World->Prop) (w:World) (eg: Ϛ Tryz.prog aY)
 (Nl: ∀k W,I k W->uG W v l)
 (pG: ∀k (hk:k<l.length) W,(∀j,j<k->p j=false)->I k W->Ϝ aY (Mr.push (Zj l[k])++aM) W (fun e W'=>e= .returned (.bool (p k))/\I (k+1) W')) (h0:I 0 w):
 Ϝ 315 #[v,.func (.func aY) Mr aM] w (dM l.length p I (fun k=>iv k) (iv (-1))):=by
 have Ib:=(Nl 0 w h0).len;obtain⟨o,c,rfl⟩:=(Nl 0 w h0).open;have HC:=aa pG;have HS:=aa Nl;clear pG Nl;go_enter Tryz.func315,Tryz.ntmps315;go_wp2;go_loopw [4,5,8] (fun _ _ i wr=> ∃k:Nat,k<=l.length/\i= .int .i64 k/\(∀j,j<k->p j=false)/\I k wr) (fun _ _ i _=>l.length-(intOf i).toNat)
 case atStart=>exact⟨0,bD _,rfl,fun j hj=>ϑ,h0⟩
 case round=>
  obtain⟨k,hk,rfl,GX,hI⟩:=hrel;by_cases tX:k<l.length
  ·obtain⟨b,off,rfl,hb,hc0⟩:=uG.cell (HS.o k wr hI) tX;exact zcx
  ·exact zao
theorem aal (l:List KE) (v:Value) (aY:Nat) (Mr aM:Array Value) (p:Nat->Bool) (I:Nat->World->Prop) (w:World) (eg: Ϛ Tryz.prog aY)
 (Nl: ∀k W,I k W->uG W v l)
 (pG: ∀k (hk:k<l.length) W,(∀j,j<k->p j=false)->I k W->Ϝ aY (Mr.push (Zj l[k])++aM) W (fun e W'=>e= .returned (.bool (p k))/\I (k+1) W')) (h0:I 0 w):
 Ϝ 285 #[v,.func (.func aY) Mr aM] w (dM l.length p I (fun _=> .bool true) (.bool false)):=by
 have HI:=aa (acZ l v aY Mr aM p I w eg Nl pG h0);have Ib:=(Nl 0 w h0).len;clear Nl pG h0 eg;go_enter Tryz.func285,Tryz.ntmps285;exact zad
theorem aao (x:KE) (bx aY:Nat) (Mr aM:Array Value) (b:Bool) (W:World) (R:World->Prop) (eg: Ϛ Tryz.prog aY)
 (hbx:W.cell? ⟨bx,0,none⟩=some (.func (.func aY) Mr aM))
 (pG:Ϝ aY (Mr.push (Zj x)++aM) W (fun e W'=>e= .returned (.bool b)/\R W')):
 Ϝ 286 #[Zj x,.pointer (some ⟨bx,0,none⟩)] W (fun e W'=>e= .returned (.bool !b)/\R W'):=by
 have tX:=dn W _ hbx;have HC:=aa pG;clear pG;go_enter Tryz.func286,Tryz.ntmps286;exact zaq
theorem ac2 (l:List KE) (v:Value) (aY:Nat) (Mr aM:Array Value) (p:Nat->Bool) (I:Nat->World->Prop) (w:World) (eg: Ϛ Tryz.prog aY)
 (Nl: ∀k W,I k W->uG W v l) (hal: ∀k W o,I k W->I k (W.alloc o))
 (pG: ∀k (hk:k<l.length) W,(∀j,j<k->p j=true)->I k W->Ϝ aY (Mr.push (Zj l[k])++aM) W (fun e W'=>e= .returned (.bool (p k))/\I (k+1) W'/\iy w.heap.size W W')) (h0:I 0 w):
 Ϝ 225 #[v,.func (.func aY) Mr aM] w (dM l.length (fun k=>!p k) I (fun _=> .bool false) (.bool true)):=by
 have HI:=aa (aal l v 286 #[] #[.pointer (some ⟨w.heap.size,0,none⟩)] (fun k=>!p k)
  (fun k W=>I k W/\W.heap[w.heap.size]? =some (.cells #[.func (.func aY) Mr aM] 163 (0,0))) (w.alloc (.cells #[.func (.func aY) Mr aM] 163))
  (enters_of Tryz.func286 ϰ rfl) (fun k W h=>Nl k W h.1)
  (fun k hk W GX h=>by
    have tX:w.heap.size<W.heap.size:=(aP.1 h.2).1;refine(aao l[k] w.heap.size aY Mr aM (p k) W (fun W'=>I (k+1) W'/\W'.heap[w.heap.size]? =some (.cells #[.func (.func aY) Mr aM] 163 (0,0))) eg (aA h.2) ?_);refine(pG k hk _ (fun j hj=>by simpa using GX j hj) (by first|exact hal _ _ _ h.1|exact h.1)).mono ?_;rintro e W' ⟨rfl,h1,h2⟩;refine⟨rfl,h1,(h2.block _ (ah _) (by first|exact tX|(simp;omega))).trans (by first|exact h.2|exact(Below.heap_alloc _ _ _ tX).trans h.2)⟩)
  ⟨hal _ _ _ h0,heap_alloc_new w _⟩)
 have Ib:=(Nl 0 w h0).len;clear Nl pG h0 eg hal;go_enter Tryz.func225,Tryz.ntmps225;exact zaf
theorem Nj (l:List KE) (v:Value) (aY:Nat) (Mr aM:Array Value) (q:KE->Bool) (w:World) (hv:uG w v l) (eg: Ϛ Tryz.prog aY)
 (pG: ∀x∈l, ∀W,Ϙ w W->Ϝ aY (Mr.push (Zj x)++aM) W (PV (.bool (q x)) W)):
 Ϝ 225 #[v,.func (.func aY) Mr aM] w (PV (.bool (l.all q)) w):=by
 refine(ac2 l v aY Mr aM (fun k=>q (l.getD k (undef,[]))) (fun _ W=>Ϙ w W) w eg (fun k W h=>hv.below h (ah _)) (fun k W o h=>ai h o) (fun k hk W _ h=>?_) (aC _ _)).mono ?_
 ·exact zaz
 ·exact zaJ
theorem acX (l:List EX) (v:Value) (aY:Nat) (Mr aM:Array Value) (p:Nat->Bool) (I:Nat->World->Prop) (w:World) (eg: Ϛ Tryz.prog aY)
 (Nl: ∀k W,I k W->vP W v l)
 (pG: ∀k (hk:k<l.length) W,(∀j,j<k->p j=false)->I k W->Ϝ aY (Mr.push (Jm l[k])++aM) W (fun e W'=>e= .returned (.bool (p k))/\I (k+1) W')) (h0:I 0 w):
 Ϝ 316 #[v,.func (.func aY) Mr aM] w (dM l.length p I (fun k=>iv k) (iv (-1))):=by
 have Ib:=(Nl 0 w h0).len;obtain⟨o,c,rfl⟩:=(Nl 0 w h0).open;have HC:=aa pG;have HS:=aa Nl;clear pG Nl;go_enter Tryz.func316,Tryz.ntmps316;go_wp2;go_loopw [4,5,8] (fun _ _ i wr=> ∃k:Nat,k<=l.length/\i= .int .i64 k/\(∀j,j<k->p j=false)/\I k wr) (fun _ _ i _=>l.length-(intOf i).toNat)
 case atStart=>exact⟨0,bD _,rfl,fun j hj=>ϑ,h0⟩
 case round=>
  obtain⟨k,hk,rfl,GX,hI⟩:=hrel;by_cases tX:k<l.length
  ·obtain⟨b,off,rfl,hb,hc0,hc1,hc2,hc3⟩:=vP.cell (HS.o k wr hI) tX;exact zcx
  ·exact zao
theorem aaj (l:List EX) (v:Value) (aY:Nat) (Mr aM:Array Value) (p:Nat->Bool) (I:Nat->World->Prop) (w:World) (eg: Ϛ Tryz.prog aY)
 (Nl: ∀k W,I k W->vP W v l)
 (pG: ∀k (hk:k<l.length) W,(∀j,j<k->p j=false)->I k W->Ϝ aY (Mr.push (Jm l[k])++aM) W (fun e W'=>e= .returned (.bool (p k))/\I (k+1) W')) (h0:I 0 w):
 Ϝ 287 #[v,.func (.func aY) Mr aM] w (dM l.length p I (fun _=> .bool true) (.bool false)):=by
 have HI:=aa (acX l v aY Mr aM p I w eg Nl pG h0);have Ib:=(Nl 0 w h0).len;clear Nl pG h0 eg;go_enter Tryz.func287,Tryz.ntmps287;exact zad
theorem aam (x:EX) (bx aY:Nat) (Mr aM:Array Value) (b:Bool) (W:World) (R:World->Prop) (eg: Ϛ Tryz.prog aY)
 (hbx:W.cell? ⟨bx,0,none⟩=some (.func (.func aY) Mr aM))
 (pG:Ϝ aY (Mr.push (Jm x)++aM) (W.alloc (.cells #[.bool x.1,iv x.2.1,iv x.2.2.1,iv x.2.2.2] 192)) (fun e W'=>e= .returned (.bool b)/\R W')):
 Ϝ 288 #[Jm x,.pointer (some ⟨bx,0,none⟩)] W (fun e W'=>e= .returned (.bool !b)/\R W'):=by
 have tX:=dn W _ hbx;have HC:=aa pG;clear pG;go_enter Tryz.func288,Tryz.ntmps288;exact zaq
theorem ac0 (l:List EX) (v:Value) (aY:Nat) (Mr aM:Array Value) (p:Nat->Bool) (I:Nat->World->Prop) (w:World) (eg: Ϛ Tryz.prog aY)
 (Nl: ∀k W,I k W->vP W v l) (hal: ∀k W o,I k W->I k (W.alloc o))
 (pG: ∀k (hk:k<l.length) W,(∀j,j<k->p j=true)->I k W->Ϝ aY (Mr.push (Jm l[k])++aM) W (fun e W'=>e= .returned (.bool (p k))/\I (k+1) W'/\iy w.heap.size W W')) (h0:I 0 w):
 Ϝ 226 #[v,.func (.func aY) Mr aM] w (dM l.length (fun k=>!p k) I (fun _=> .bool false) (.bool true)):=by
 have HI:=aa (aaj l v 288 #[] #[.pointer (some ⟨w.heap.size,0,none⟩)] (fun k=>!p k)
  (fun k W=>I k W/\W.heap[w.heap.size]? =some (.cells #[.func (.func aY) Mr aM] 335 (0,0))) (w.alloc (.cells #[.func (.func aY) Mr aM] 335))
  (enters_of Tryz.func288 ϰ rfl) (fun k W h=>Nl k W h.1)
  (fun k hk W GX h=>by
    have tX:w.heap.size<W.heap.size:=(aP.1 h.2).1;refine(aam l[k] w.heap.size aY Mr aM (p k) W (fun W'=>I (k+1) W'/\W'.heap[w.heap.size]? =some (.cells #[.func (.func aY) Mr aM] 335 (0,0))) eg (aA h.2) ?_);refine(pG k hk _ (fun j hj=>by simpa using GX j hj) (by first|exact hal _ _ _ h.1|exact h.1)).mono ?_;rintro e W' ⟨rfl,h1,h2⟩;refine⟨rfl,h1,(h2.block _ (ah _) (by first|exact tX|(simp;omega))).trans (by first|exact h.2|exact(aS _ _ _ tX).trans h.2)⟩)
  ⟨hal _ _ _ h0,heap_alloc_new w _⟩)
 have Ib:=(Nl 0 w h0).len;clear Nl pG h0 eg hal;go_enter Tryz.func226,Tryz.ntmps226;exact zaf
theorem Nh (l:List EX) (v:Value) (aY:Nat) (Mr aM:Array Value) (q:EX->Bool) (w:World) (hv:vP w v l) (eg: Ϛ Tryz.prog aY)
 (pG: ∀x∈l, ∀W,Ϙ w W->Ϝ aY (Mr.push (Jm x)++aM) W (PV (.bool (q x)) W)):
 Ϝ 226 #[v,.func (.func aY) Mr aM] w (PV (.bool (l.all q)) w):=by
 refine(ac0 l v aY Mr aM (fun k=>q (l.getD k (false,0,(0,0)))) (fun _ W=>Ϙ w W) w eg (fun k W h=>hv.below h (ah _)) (fun k W o h=>ai h o) (fun k hk W _ h=>?_) (aC _ _)).mono ?_
 ·exact zaz
 ·exact zaJ
theorem aap (x:Int) (bx aY:Nat) (Mr aM:Array Value) (b:Bool) (W:World) (R:World->Prop) (eg: Ϛ Tryz.prog aY)
 (hbx:W.cell? ⟨bx,0,none⟩=some (.func (.func aY) Mr aM))
 (pG:Ϝ aY (Mr.push (iv x)++aM) W (fun e W'=>e= .returned (.bool b)/\R W')):
 Ϝ 336 #[iv x,.pointer (some ⟨bx,0,none⟩)] W (fun e W'=>e= .returned (.bool !b)/\R W'):=by
 have tX:=dn W _ hbx;have HC:=aa pG;clear pG;go_enter Tryz.func336,Tryz.ntmps336;exact zaq
theorem ac3 (l:List Int) (v:Value) (aY:Nat) (Mr aM:Array Value) (p:Nat->Bool) (I:Nat->World->Prop) (w:World) (eg: Ϛ Tryz.prog aY)
 (Nl: ∀k W,I k W->aK W v l) (hal: ∀k W o,I k W->I k (W.alloc o))
 (pG: ∀k (hk:k<l.length) W,(∀j,j<k->p j=true)->I k W->Ϝ aY (Mr.push (iv l[k])++aM) W (fun e W'=>e= .returned (.bool (p k))/\I (k+1) W'/\iy w.heap.size W W')) (h0:I 0 w):
 Ϝ 312 #[v,.func (.func aY) Mr aM] w (dM l.length (fun k=>!p k) I (fun _=> .bool false) (.bool true)):=by
 have HI:=aa (KW l v 336 #[] #[.pointer (some ⟨w.heap.size,0,none⟩)] (fun k=>!p k)
  (fun k W=>I k W/\W.heap[w.heap.size]? =some (.cells #[.func (.func aY) Mr aM] 274 (0,0))) (w.alloc (.cells #[.func (.func aY) Mr aM] 274))
  (enters_of Tryz.func336 ϰ rfl) (fun k W h=>Nl k W h.1)
  (fun k hk W GX h=>by
    have tX:w.heap.size<W.heap.size:=(aP.1 h.2).1;refine(aap l[k] w.heap.size aY Mr aM (p k) W (fun W'=>I (k+1) W'/\W'.heap[w.heap.size]? =some (.cells #[.func (.func aY) Mr aM] 274 (0,0))) eg (aA h.2) ?_);refine(pG k hk _ (fun j hj=>by simpa using GX j hj) (by first|exact hal _ _ _ h.1|exact h.1)).mono ?_;rintro e W' ⟨rfl,h1,h2⟩;refine⟨rfl,h1,(h2.block _ (ah _) (by first|exact tX|(simp;omega))).trans (by first|exact h.2|exact(Below.heap_alloc _ _ _ tX).trans h.2)⟩)
  ⟨hal _ _ _ h0,heap_alloc_new w _⟩)
 have Ib:=(Nl 0 w h0).len;clear Nl pG h0 eg hal;go_enter Tryz.func312,Tryz.ntmps312;exact zaf
theorem Nk (l:List Int) (v:Value) (aY:Nat) (Mr aM:Array Value) (q:Int->Bool) (w:World) (hv:aK w v l) (eg: Ϛ Tryz.prog aY)
 (pG: ∀x∈l, ∀W,Ϙ w W->Ϝ aY (Mr.push (iv x)++aM) W (PV (.bool (q x)) W)):
 Ϝ 312 #[v,.func (.func aY) Mr aM] w (PV (.bool (l.all q)) w):=by
 refine(ac3 l v aY Mr aM (fun k=>q (l.getD k 0)) (fun _ W=>Ϙ w W) w eg (fun k W h=>hv.below h (ah _)) (fun k W o h=>ai h o) (fun k hk W _ h=>?_) (aC _ _)).mono ?_
 ·exact zaz
 ·exact zaJ
theorem Ji (c:bE) (oh:Option Addr) (ch:Nat) (kvv tv:Value) (l:List Int) (v:Value) (w:World) (hv:aK w v l):
 Ϝ 281 #[kv (.slice oh c.heaps.length ch) kvv tv,v] w (PV (.bool (qg c l)) w):=by
 obtain⟨o,cc,rfl⟩:=hv.open;have HA:=aa (fun(W:World) (hb:Ϙ w W)=>Nk l (.slice o l.length cc) 313 #[] #[] (lT · 0 30) W (hv.below hb (ah _)) (enters_of Tryz.func313 ϰ rfl) (fun x _ W _=>Mc x W));clear hv;unfold qg;by_cases hl:l.length=c.heaps.length
 ·have hl':((l.length:Int)==(c.heaps.length:Int))=true:=by simp[hl]
  rw[decide_eq_true hl,Bool.true_and];have HL:=aa hl;clear hl;go_enter Tryz.func281,Tryz.ntmps281;go_wp2_with fail
  refine(HA.o _ (ai (aC _ _) _)).mono ?_;rintro e w' ⟨rfl,hb⟩;obtain⟨hc,hf⟩:=bA hb;go_wp2_with fail
  go_returns;exact⟨by simp,aV (ai (aC _ _) _) hb⟩
 ·have hl':((l.length:Int)==(c.heaps.length:Int))=false:=by simp;omega
  rw[decide_eq_false hl,Bool.false_and];have HL:=aa hl;clear hl;go_enter Tryz.func281,Tryz.ntmps281;exact zbc
theorem Nn (c:bE) (oh:Option Addr) (ch:Nat) (kvv tv:Value) (e:KE) (w:World) (hv:aK w e.1 e.2) (hh:c.heaps.length<=1000):
 Ϝ 222 #[kv (.slice oh c.heaps.length ch) kvv tv,Zj e] w (PV (.bool (sO c e.2)) w):=by
 obtain⟨v,l⟩:=e;simp only[Zj] at hv⊢;obtain⟨o,cc,rfl⟩:=hv.open;have HA:=aa (fun(W:World) (hb:Ϙ w W)=>Ji c oh ch kvv tv l (.slice o l.length cc) W (hv.below hb (ah _)));by_cases hw:qg c l=true
 ·have hx:(∀x∈l,0<=x/\x<=9999)/\l.length=c.heaps.length:=by
   simp only[qg,lT,dL,dR,iR] at hw;exact⟨fun x hx=>by have:=hw.2 x hx;omega,hw.1⟩
  have hn:l.length<=1000:=ϑ;have HS:=aa (fun(W:World) (hb:Ϙ w W)=>Kc l (.slice o l.length cc) W (hv.below hb (ah _)) hx.1 hn);have HC:Hid (sO c l=decide (0<kK l)):=aa (by unfold sO;rw[hw,Bool.true_and]);rw[hw] at HA;clear hv hw hx;rw[HC.o];generalize kK l=m at HS;go_enter Tryz.func222,Tryz.ntmps222;go_wp2_with fail
  refine(HA.o _ (ai (aC _ _) _)).mono ?_;rintro e w1 ⟨rfl,hb⟩;obtain⟨hc,hf⟩:=bA hb;have HB:=aa (show Ϙ w w1 from aV (ai (aC _ _) _) hb);clear hb;go_wp2_with fail
  refine(HS.o _ HB.o).mono ?_;rintro e w2 ⟨rfl,hb⟩;obtain⟨hc2,hf2⟩:=bA hb;have Ra:=aa (aV HB.o hb);clear hb;exact zau
 ·have hw':qg c l=false:=by simpa using hw
  rw[hw'] at HA;have HC:Hid (sO c l=false):=aa (by unfold sO;rw[hw'];rfl);clear hv hw hw';rw[HC.o];go_enter Tryz.func222,Tryz.ntmps222;go_wp2_with fail
  refine(HA.o _ (ai (aC _ _) _)).mono ?_;rintro e w1 ⟨rfl,hb⟩;obtain⟨hc,hf⟩:=bA hb;have HB:=aa (show Ϙ w w1 from aV (ai (aC _ _) _) hb);clear hb;go_wp2_with fail
  go_returns;exact⟨by simp,HB.o⟩
theorem Nc (c:bE) (oh ok:Option Addr) (ch ck:Nat) (tv:Value) (t:EX) (w:World) (h1:c.heaps.length<=1000) (h2:c.aR.length<=1000):
 Ϝ 221 #[kv (.slice oh c.heaps.length ch) (.slice ok c.aR.length ck) tv,Jm t] w (PV (.bool (qh c t)) w):=by
 obtain⟨b,n,r⟩:=t;cases b;all_goals
  go_enter Tryz.func221,Tryz.ntmps221;go_wp2_with fail
  refine(ve _ _ _ _).mono ?_;rintro e w1 ⟨rfl,hb⟩;obtain⟨hc,hf⟩:=bA hb;have hz:=hb.size;simp only[bg] at hz;have HB:=aa (show Ϙ w w1 from zl);clear hb
 ·cases hq:lT n 0 ((c.heaps.length:Int)-1)
  ·go_wp2_with fail
   go_returns;exact⟨by simp[qh,tu,hq],HB.o⟩
  ·exact zbI
 ·cases hq:lT n 0 ((c.aR.length:Int)-1)
  ·go_wp2_with fail
   go_returns;exact⟨by simp[qh,tu,hq],HB.o⟩
  ·exact zbI
theorem Nf (c:bE) (oh:Option Addr) (ch:Nat) (kvv tv:Value) (t:EX) (w:World) (h1:c.heaps.length<=1000) (h2:0<=t.2.1) (h3:t.2.1<=1000):
 Ϝ 290 #[kv (.slice oh c.heaps.length ch) kvv tv,Jm t] w (PV (iv (xk c t:Nat)) w):=by
 obtain⟨b,n,r⟩:=t;simp only at h2 h3;obtain⟨k,rfl⟩: ∃k:Nat,n=k:=⟨n.toNat,by omega⟩;cases b
 ·exact zcj
 ·exact zcj
theorem QS (l:List Int) (v:Value) (s:List Int) (x0 x1 x2:Int) (hx:jm s=[x0,x1,x2]) (w:World) (hv:aK w v l) (hl:l.length=s.length) (h3:s.length<=3)
 (hw: ∀x∈l,0<=x/\x<=30) (hs: ∀x∈s,0<=x/\x<=100) (hp:0<kK l):
 Ϝ 232 #[.agg #[iv x0,iv x1,iv x2],v] w (PV (iv (Ak s l)) w):=by
 obtain⟨o,c,rfl⟩:=hv.open;have HSM:=aa (fun(W:World) (hb:Ϙ w W)=>Kc l (.slice o l.length c) W (hv.below hb (ah _)) (fun x hx=>by have:=hw x hx;omega) ϑ);have HV:=aa (hv.alloc (.cells #[iv x0,iv x1,iv x2] 283));have HW:=aa hw;have HS:=aa hs;have HD:=aa (fun k=>VE hw hs k);have HA:=aa (RI hl);have HX:=aa hx;have HP:=aa hp;have hM:Hid (Ak s l=wQ l s/kK l):=aa rfl;have hsb:=(Bg (m:=30) ϑ hw);rw[hM.o];generalize wQ l s=D at HA hM⊢;generalize kK l=m at hsb hp HSM HP;have HCB:=aa (fun(k:Nat) (hk:k<3)=>show(w.alloc (.cells #[iv x0,iv x1,iv x2] 283)).cell? ⟨w.heap.size,k,none⟩=some (iv ([x0,x1,x2].getD k 0)) from by
  rw[World.cell?_alloc_new];rcases(show k=0∨k=1∨k=2 by omega) with rfl|rfl|rfl <;>rfl)
 have HL:=aa (af hl h3);have hl3:(l.length:Int)<=3:=ϑ;clear hv hw hs hx hp hl h3;go_enter Tryz.func232,Tryz.ntmps232;go_wp2_with fail
 go_loop [5,6,7,10] (fun n _ _ i=> ∃k:Nat,k<=l.length/\i= .int .i64 k/\n=iv (vJ l s k)) (fun _ _ _ i=>l.length-(intOf i).toNat)
 case atStart=>exact⟨0,bD _,rfl,by simp[vJ,wQ]⟩
 case round=>
  obtain⟨k,hk,rfl,rfl⟩:=hrel;have hb:=HD.o k;by_cases tX:k<l.length
  ·obtain⟨b,off,rfl,ο,hc0⟩:=aK.cell HV.o tX;have Γ:k<s.length:=by have:=HL.o;omega
   have hx1:=HW.o _ (bK tX);have hx2:=HS.o _ (bK Γ);have hsu:=NL tX Γ;have Ω:k<3:=ϑ;have hget:=HCB.o k Ω;rw[<-HX.o,JP,fJ,bZ Γ,Option.getD_some] at hget;generalize vJ l s k=d at hb hsu⊢;generalize l[k]=x at hc0 hx1 hsu;generalize s[k]=y at hx2 hsu hget;have hmul:0<=x*y/\x*y<=30*100:=⟨Int.mul_nonneg ϑ ϑ,Int.mul_le_mul hx1.2 hx2.2 ϑ ϑ⟩;obtain⟨Ν,hm2⟩:=hmul;have HE:=aa hsu;have amY:(k:Int)<3:=ϑ;clear hsu;go_wp2_with fail
   exact zbD
  ·have XI:k=l.length:=ϑ;rw[XI,HA.o];rw[XI,HA.o] at hb;have hpp:=HP.o;have hdv:D.tdiv m=D/m:=Int.tdiv_eq_ediv_of_nonneg hb.1;have hd0:0<=D/m:=Int.ediv_nonneg hb.1 ϑ;have hd1:D/m<=D:=Int.ediv_le_self _ hb.1;go_wp2_with fail
   refine(HSM.o _ (ai (aC _ _) _)).mono ?_;rintro e w1 ⟨rfl,hbb⟩;have HB:=aa (show Ϙ w w1 from aV (ai (aC _ _) _) hbb);clear hbb;have hm0:m≠0:=ϑ;go_wp2_with fail
   go_returns;exact⟨by simp[hdv],HB.o⟩
attribute [local go_sem] Oper.semAt_some
theorem lM {l:List Int} (h:l.length=3): ∃a b c,l=[a,b,c]:=by
 match l,h with
 |[a,b,c],_=>exact⟨a,b,c,rfl⟩
def Str (c:bE) (s:List Int):Prop:=s.length=c.heaps.length/\ ∀x∈s,0<=x/\x<=100
theorem O6 (c:bE) (hS:lL c) (oh ok:Option Addr) (ch ck:Nat) (tv:Value) (es:List KE) (s:List Int) (x0 x1 x2:Int) (hx:jm s=[x0,x1,x2]) (hs:Str c s) (n:Nat) (hn:kZ c n) (w:World)
 (hk:uG w (.slice ok c.aR.length ck) es) (hes:es.map (·.2)=c.aR):
 Ϝ 141 #[kv (.slice oh c.heaps.length ch) (.slice ok c.aR.length ck) tv,.agg #[iv x0,iv x1,iv x2],iv n] w (PV (iv (D6 c s n)) w):=by
 have h3:=hS.h3;have h1:=hS.h1;have c3:=hS.c3;have hel:es.length=c.aR.length:=by rw[<-hes,kC]
 unfold kZ at hn;by_cases tX:n<c.heaps.length
 ·have hv:[x0,x1,x2].getD n 0=D6 c s n:=by
   unfold D6;rw[aB tX, <-hx,JP]
  have Il:(n:Int)<3:=ϑ;have Ba: ¬(c.heaps.length:Int)<=n:=ϑ;have MR:((w.alloc (.cells #[.slice oh c.heaps.length ch,.slice ok c.aR.length ck,tv] 60)).alloc (.cells #[iv x0,iv x1,iv x2] 283)).cell? ⟨w.heap.size+1,n,none⟩=some (iv (D6 c s n)):=by
   rw[<-hv];simp only[World.cell?,dG];rcases(show n=0∨n=1∨n=2 by omega) with rfl|rfl|rfl <;>rfl
  generalize D6 c s n=r at MR⊢;clear hx hs hk hes hv hel;go_enter Tryz.func141,Tryz.ntmps141;exact zbc
 ·have hk0:n-c.heaps.length<es.length:=ϑ;have hkc:n-c.heaps.length<c.aR.length:=ϑ;have he:es[n-c.heaps.length].2=c.aR[n-c.heaps.length]:=by simp only[<-hes,List.getElem_map]
  have hc:=hS.aR _ (bK hkc);have hr:=hk.2 _ (bK hk0);rw[<-hel] at hk;obtain⟨b,off,rfl,hb,MR⟩:=uG.cell hk hk0;generalize zJ:es[n-c.heaps.length]=e at*
  obtain⟨ev,el⟩:=e;simp only at he hr MR;subst he;obtain⟨oe,ce,rfl⟩:=hr.open;have hv:D6 c s n=Ak s c.aR[n-c.heaps.length]:=by
   unfold D6;rw[aj tX,fJ,bZ hkc,Option.getD_some]
  rw[hv];have HM:=aa (fun(W:World) (hB:Ϙ w W)=>QS c.aR[n-c.heaps.length] _ s x0 x1 x2 hx W (hr.below hB (ah _)) (by rw[hc.1,hs.1]) (by rw[hs.1];exact h3) hc.2.1 hs.2 hc.2.2);obtain⟨j,hj⟩: ∃j:Nat,n-c.heaps.length=j:=⟨_,rfl⟩;obtain rfl:n=c.heaps.length+j:=ϑ;have hjI:(((c.heaps.length+j:Nat):Int)-(c.heaps.length:Int))=j:=ϑ;have ahT:(c.heaps.length:Int)<=((c.heaps.length+j:Nat):Int):=ϑ;have hjl:(j:Int)<c.aR.length:=ϑ;generalize c.aR[c.heaps.length+j-c.heaps.length]=l at*
  generalize Ak s l=r at HM⊢;rw[hj] at MR;have HX:=aa (af hx hs);clear hx hs hv hk hc hr zJ hj hk0 hkc hes hel;obtain⟨N,hN⟩: ∃N:Int,((c.heaps.length+j:Nat):Int)=N:=⟨_,rfl⟩;rw[hN] at hjI ahT⊢;clear hN tX hn;go_enter Tryz.func141,Tryz.ntmps141;go_upto_region 3 with(fail)
  refine dz fun W3 Η=>?_;have Θ:Ϙ w W3:=by rw[Η];exact zl
  have hk1:W3.heap[w.heap.size]? =some (.cells #[.slice oh c.heaps.length ch,.slice (some ⟨b,off,none⟩) c.aR.length ck,tv] 60 (0,0)):=by rw[Η];exact(aS _ _ _ ϕ).trans (av _ _)
  have hk2:W3.heap[w.heap.size+1]? =some (.cells #[iv x0,iv x1,iv x2] 283 (0,0)):=by rw[Η];exact dG _ _ _
  have ah3:W3.cell? ⟨b,off+j,none⟩=some (.slice oe l.length ce):=(Θ.cell hb).trans MR;have ο:b<W3.heap.size:=by have:=Θ.size;omega
  have δ:=aa Θ;obtain⟨d1,g1,m1⟩:=ae hk1;obtain⟨d2,g2,m2⟩:=ae hk2;clear Η MR hb Θ hk1 hk2;refine zg 9 [] none [(8,Spec.val (iv r))] ?_;simp only[zt];repeat ((first|refine zn ?_|refine zk ?_);simp only[zp])
  refine zw 232 (h:=fun W hE hF=>by exact HM.o W (aV δ.o hE.below)) (t:=?_)
  simp only[zp];repeat ((first|refine zn ?_|refine zk ?_);simp only[zp])
  intro W hE hF;obtain⟨hc,hf⟩:=bA hE.below;have ic:=hE.size;(try simp only[bg] at ic)
  go_wp2_with fail
  (try simp only[Exit.inBlock,Exit.then])
  refine bodyPost_ret (v:=iv r) (by simp[results,Tryz.results141,go_sem,hc];try omega) rfl ?_;exact⟨rfl,aV δ.o hE.below⟩
structure Sy (w:World) (hv lZ tv:Value) (x0 x1 x2:Int) (W:World):Prop where
 b0:W.heap[w.heap.size]? =some (.cells #[hv,lZ,tv] 60 (0,0))
 b1:W.heap[w.heap.size+1]? =some (.cells #[iv x0,iv x1,iv x2] 283 (0,0))
 below:Ϙ w W
theorem Sy.next {w:World} {hv lZ tv:Value} {x0 x1 x2:Int} {W W':World} (h:Sy w hv lZ tv x0 x1 x2 W) (hb:Ϙ W W'):Sy w hv lZ tv x0 x1 x2 W':=
 ⟨(hb.block _ (aP.1 h.b0).1).trans h.b0,(hb.block _ (aP.1 h.b1).1).trans h.b1,aV h.below hb⟩
def sW (c:bE) (out s:List Int) (k:Nat):Bool:=(List.range k).all fun i=>out.contains (i:Int) ||BL c s (c.aI.getD i (false,0,(0,0)))
theorem MB (c:bE) (hS:lL c) (oh ok ot:Option Addr) (ch ck ct:Nat) (es:List KE) (s:List Int) (x0 x1 x2:Int) (hx:jm s=[x0,x1,x2]) (hs:Str c s) (ov:Value) (out:List Int) (w:World)
 (hc:pJ w (.slice oh c.heaps.length ch) (.slice ok c.aR.length ck) (.slice ot c.aI.length ct) es c) (ho:aK w ov out):
 Ϝ 231 #[kv (.slice oh c.heaps.length ch) (.slice ok c.aR.length ck) (.slice ot c.aI.length ct),.agg #[iv x0,iv x1,iv x2],ov] w (PV (.bool (qo c out s)) w):=by
 obtain⟨oo,oc,rfl⟩:=ho.open;have t5:=hS.t5;have HS:=aa hS;have HC:=aa hc;have HO:=aa ho;have HX:=aa (af hx hs);have HF:=aa (fun(n:Nat) (hn:kZ c n) (W:World) (hB:Ϙ w W)=>O6 c hS oh ok ch ck (.slice ot c.aI.length ct) es s x0 x1 x2 hx hs n hn W (hc.aR.below hB (ah _)) hc.is);have HT:=aa (fun(t:EX) (ht:t∈c.aI) (W:World)=>Nf c oh ch (.slice ok c.aR.length ck) (.slice ot c.aI.length ct) t W (by have:=hS.h3;omega) ((hS.aI t ht).1.1) (by
  have h1:=(hS.aI t ht).1.2;have h2:=hS.h3;have h3:=hS.c3;unfold tu at h1;split at h1 <;>omega))
 clear hS hc ho hx hs;go_enter Tryz.func231,Tryz.ntmps231;go_upto_region 1 with(fail)
 refine dz fun W1 σ=>?_;have UC:Sy w (.slice oh c.heaps.length ch) (.slice ok c.aR.length ck) (.slice ot c.aI.length ct) x0 x1 x2 W1:=by
  rw[σ];exact⟨(aS _ _ _ ϕ).trans (av _ _),dG _ _ _,zl⟩
 clear σ;obtain⟨cc0,cf0,cl0⟩:=ae UC.b0;have κ:=aa UC;clear UC;go_wp2_with fail
 go_loopw [12] (fun i wr=> ∃k:Nat,k<=c.aI.length/\i= .int .i64 k/\sW c out s k=true/\Sy w (.slice oh c.heaps.length ch) (.slice ok c.aR.length ck) (.slice ot c.aI.length ct) x0 x1 x2 wr) (fun i _=>c.aI.length-(intOf i).toNat)
 case atStart=>exact⟨0,bD _,rfl,rfl,κ.o⟩
 case round=>
  obtain⟨k,hk,rfl,hok,UC⟩:=hrel;have Dr:=aa UC;have iD:=aa hok;clear hok cc0 cf0 cl0;by_cases tX:k<c.aI.length
  ·have htl:=HC.o.aI.below UC.below (ah _);obtain⟨b,off,hv,hb,d0,d1,d2,d3⟩:=vP.cell htl tX;cases hv;have hmem:=bK tX;have hth:=Qe HS.o hmem;have hT:=HT.o _ hmem;have hso:sW c out s (k+1)=(out.contains (k:Int) ||BL c s c.aI[k]):=by
    have h1:=iD.o;unfold sW at h1⊢;rw[kN,h1,Bool.true_and,show c.aI.getD k (false,0,(0,0))=c.aI[k] from by simp[List.getD,tX]]
   generalize c.aI[k]=t at*
   obtain⟨tb,tn,GM,GN⟩:=t;simp only at d0 d1 d2 d3;have HTH:=aa hth;obtain⟨q,hq⟩: ∃q,xk c (tb,tn,(GM,GN))=q:=⟨_,rfl⟩;rw[hq] at hT HTH;have hF:=HF.o q HTH.o;obtain⟨r,hr⟩: ∃r,D6 c s q=r:=⟨_,rfl⟩;rw[hr] at hF;have ado:sW c out s (k+1)=(out.contains (k:Int) ||lT r GM GN):=by
    rw[hso];unfold BL;rw[hq,hr]
   have HSO:=aa ado;have Wu:=aa hT;have HFF:=aa hF;have hcn:=fun W (hB:Ϙ w W)=>gD out (.slice oo out.length oc) (k:Int) W (HO.o.below hB (ah _));generalize out.contains (k:Int)=cb at*
   have WY:=aa hcn;clear UC htl hmem hth hT hso ado hq hF hr hcn;go_upto_region 4 with(fail)
   refine dz fun W4 yB=>?_;have XN:Sy w _ _ _ x0 x1 x2 W4:=Dr.o.next (by rw[yB];exact zl);have Pk:W4.heap[wr.heap.size]? =some (.cells #[.bool tb,iv tn,iv GM,iv GN] 192 (0,0)):=by rw[yB];exact av _ _
   have hB4:Ϙ wr W4:=by rw[yB];exact zl
   obtain⟨c1,f1,l1⟩:=ae XN.b0;obtain⟨c2,f2,l2⟩:=ae XN.b1;obtain⟨c3,f3,l3⟩:=ae Pk;have PR:=aa XN;clear yB XN Pk hB4 d0 d1 d2 d3 hb;cases cb
   ·skip
    refine zg 16 [] none [(2,Spec.val (.bool false)),(11,Spec.val (iv q)),(12,Spec.val (iv r)),(13,Spec.val (.bool (lT r GM GN)))] ?_;simp only[zt];repeat ((first|refine zn ?_|refine zk ?_);simp only[zp])
    refine zw 147 (h:=fun W hE hF=>by exact WY.o W (aV PR.o.below hE.below)) (t:=?_)
    simp only[zp];repeat ((first|refine zn ?_|refine zk ?_);simp only[zp])
    refine zw 290 (h:=fun W hE hF=>by exact Wu.o W) (t:=?_);simp only[zp];refine zw 141 (h:=fun W hE hF=>by exact HFF.o W (aV PR.o.below hE.below)) (t:=?_)
    simp only[zp];refine zw 289 (h:=fun W hE hF=>by exact Uz (GM,GN) r W) (t:=?_)
    simp only[zp];repeat ((first|refine zn ?_|refine zk ?_);simp only[zp])
    intro W hE hF;obtain⟨hc,hf⟩:=bA hE.below;have ic:=hE.size;(try simp only[bg] at ic)
    have UL:=PR.o.next hE.below;have HS5:=aa UL;clear UL hE hF hc hf ic c1 f1 l1 c2 f2 l2 c3 f3 l3;cases hq2:lT r GM GN
    ·have uu:Hid (qo c out s=false):=aa (by
      have h1:=HSO.o;rw[hq2] at h1;have h2:sW c out s c.aI.length=qo c out s:=rfl;rw[<-h2];cases h3:sW c out s c.aI.length
      ·rfl
      ·unfold sW at h1 h3;rw[iR] at h3;have:(List.range (k+1)).all (fun i=>out.contains (i:Int) ||BL c s (c.aI.getD i (false,0,(0,0))))=true:=by
        rw[iR];intro i hi;exact h3 i (jL.2 (by have:=jL.1 hi;omega))
       rw[this] at h1;cases h1)
     go_wp2_with fail
     go_returns;exact⟨by rw[uu.o];simp,HS5.o.below⟩
    ·go_wp2_with fail
     go_roundw
     case rel=>exact⟨k+1,by omega,by go_num,by rw[HSO.o,hq2];rfl,HS5.o⟩
     case measure=>simp[intOf];omega
   ·skip
    refine zg 16 [] none [(2,Spec.val (.bool true))] ?_;simp only[zt];repeat ((first|refine zn ?_|refine zk ?_);simp only[zp])
    refine zw 147 (h:=fun W hE hF=>by exact WY.o W (aV PR.o.below hE.below)) (t:=?_)
    simp only[zp];repeat ((first|refine zn ?_|refine zk ?_);simp only[zp])
    intro W hE hF;obtain⟨hc,hf⟩:=bA hE.below;have ic:=hE.size;(try simp only[bg] at ic)
    have UL:=PR.o.next hE.below;have HS5:=aa UL;clear UL hE hF hc hf ic c1 f1 l1 c2 f2 l2 c3 f3 l3;go_wp2_with fail
    go_roundw
    case rel=>exact⟨k+1,by omega,by go_num,by rw[HSO.o];rfl,HS5.o⟩
    case measure=>simp[intOf];omega
  ·have XI:k=c.aI.length:=ϑ;subst XI;have HQ:Hid (qo c out s=true):=aa iD.o;clear UC;go_wp2_with fail
   go_returns;exact⟨by rw[HQ.o];simp,Dr.o.below⟩
attribute [local go_sem] Oper.semAt_some
structure Tv (W:World) (bf bo iB ab bc l:Nat) (o:List Int):Prop where
 y:W.heap[iB]? =some (.cells #[.func (.yield l) #[] #[]] 340 (0,0))
 ch:W.heap[bc]? =some (.cells #[.func (.func 230) #[] #[.pointer (some ⟨bf,0,none⟩),.pointer (some ⟨ab,0,none⟩),.pointer (some ⟨bo,0,none⟩),.pointer (some ⟨iB,0,none⟩),.pointer (some ⟨bc,0,none⟩)]] 274 (0,0))
 cells:W.heap[ab]? =some (.cells (ag o).toArray 283 (0,0))
theorem Tv.kept {W W':World} {bf bo iB ab bc l:Nat} {o:List Int} (h:Tv W bf bo iB ab bc l o) (hk: ∀m∈[ab,iB,bc],m<W.heap.size->W'.heap[m]? =W.heap[m]?):Tv W' bf bo iB ab bc l o:=
 ⟨(hk _ ϕ (aP.1 h.y).1).trans h.y,(hk _ ϕ (aP.1 h.ch).1).trans h.ch,(hk _ ϕ (aP.1 h.cells).1).trans h.cells⟩
theorem Tv.below {W W':World} {bf bo iB ab bc l:Nat} {o:List Int} (h:Tv W bf bo iB ab bc l o) (hb:Ϙ W W'):Tv W' bf bo iB ab bc l o:=
 h.kept fun m _ hm=>hb.block m hm
theorem Tv.set {W:World} {bf bo iB ab bc l:Nat} {o:List Int} (h:Tv W bf bo iB ab bc l o) (hd1:iB≠ab) (hd3:bc≠ab) (i:Nat) (x:Int):Tv (W.setCell ⟨ab,i,none⟩ (iv x)) bf bo iB ab bc l (o.set i x):=
 ⟨(dm _ _ _ _ hd1).trans h.y,(dm _ _ _ _ hd3).trans h.ch,by rw[<-qm];exact aG h.cells _⟩
def afg (_:List Nat) (x:List Int) (v:Value) (_:World):Prop:=v=j6 (jm x)
structure afn (bf bo:Nat) (D:bE) (hv lZ tv ov:Value) (es:List KE) (out:List Int) (W:World):Prop where
 fb:W.heap[bf]? =some (.cells #[hv,lZ,tv] 60 (0,0))
 ob:W.heap[bo]? =some (.cells #[ov] 52 (0,0))
 cz:pJ W hv lZ tv es D
 out:aK W ov out
theorem Km (D:bE) (hS:lL D) (oh ok ot:Option Addr) (ch ck ct:Nat) (ov:Value) (es:List KE) (out:List Int) (bf bo iB ab bc l:Nat) (hd1:iB≠ab) (hd3:bc≠ab) (J:List Nat->Option Nat->World->Prop)
 (hInv: ∀Ms s W1,J Ms s W1->afn bf bo D (.slice oh D.heaps.length ch) (.slice ok D.aR.length ck) (.slice ot D.aI.length ct) ov es out W1)
 (hstep: ∀Ms jc s W1 W2,J Ms s W1->Ext Ms W1 W2->(∀m∈jc,m∈Ms∨(W1.heap.size<=m/\m<W2.heap.size))->True->J jc s W2)
 (hY: ∀Ms k v W1 (hk:k<(dh D out).length),J Ms (some k) W1->afg Ms (dh D out)[k] v W1->YieldAt Fence.wide 0 Tryz.prog l #[v] W1 fun e W'=>
   ((∀m∈Ms,m∉[]->m<W1.heap.size->W'.heap[m]? =W1.heap[m]?)/\W1.heap.size<=W'.heap.size)/\((e= .returned (.bool true)/\J Ms (some (k+1)) W')∨(e= .returned (.bool false)/\J Ms none W'))):
 ∀(m i k:Nat) (Κ:List Int) (W:World) (o:List Int),i+m=D.heaps.length->Κ.length=i->o.length=3->o.take i=Κ->o.drop D.heaps.length=List.replicate (3-D.heaps.length) 0->iN (D.heaps) i k Κ->Tv W bf bo iB ab bc l o->J [ab,iB,bc] (some (wS D out k)) W->
  CallsIn Fence.wide 0 Tryz.prog 230 #[iv i,.pointer (some ⟨bf,0,none⟩),.pointer (some ⟨ab,0,none⟩),.pointer (some ⟨bo,0,none⟩),.pointer (some ⟨iB,0,none⟩),.pointer (some ⟨bc,0,none⟩)] W
   (fun e W'=>(e= .returned (.bool true)/\J [ab,iB,bc] (some (wS D out (k+(dZ ((D.heaps).drop i)).length))) W'/\ ∃o',o'.length=3/\o'.take i=Κ/\o'.drop D.heaps.length=List.replicate (3-D.heaps.length) 0/\Tv W' bf bo iB ab bc l o')∨
     (e= .returned (.bool false)/\J [ab,iB,bc] none W')):=by
 have hh1:=hS.h1;have hh3:=hS.h3;intro m;induction m with
 |zero=>
  intro i k Κ W o him hpl hol hot hod hat UC hJ;have hrow:(i:Int)=(D.heaps.length:Int):=ϑ;obtain⟨hone,hk,hx⟩:=hat.last ϑ;rw[hone];have hop:o=jm Κ:=by
   rw[<-List.take_append_drop D.heaps.length o,hod];rw[show D.heaps.length=i from ϑ,hot];unfold jm;rw[hpl]
  have Ρ:k<(qX D).length:=hk;have wN:(qX D)[k]=Κ:=hx;obtain⟨hbf,Rs,htl,hov⟩:=hInv _ _ _ hJ;obtain⟨oo,oc,rfl⟩:=hov.open;have hmem:Κ∈qX D:=wN▸bK Ρ;have hstr:Str D Κ:=qz hS hmem;obtain⟨x0,x1,x2,hxs⟩:=lM hol;have hright:=MB D hS oh ok ot ch ck ct es Κ x0 x1 x2 (by rw[<-hop,hxs]) hstr _ out W htl hov;obtain⟨LY,Oe,NY⟩:=ae hbf;obtain⟨YL,cf2,cl2⟩:=ae Rs;obtain⟨cc3,cf3,cl3⟩:=ae UC.y;have hag:j6 o= .agg #[iv x0,iv x1,iv x2]:=by rw[hxs];rfl
  have hcb:=UC.cells;rw[show(ag o).toArray= #[iv x0,iv x1,iv x2] from by rw[hxs];rfl] at hcb
  obtain⟨cc4,cf4,cl4⟩:=ae hcb;have HR:=aa hright;have HS:=aa UC;have HJ:=aa hJ;have HI:=aa hInv;have κ:=aa hstep;have HY:=aa hY;have HK:=aa (show ∃h:k<(qX D).length,(qX D)[k]=Κ from⟨Ρ,wN⟩);have HO:=aa (af hol (af hot (af hod (af hop hag))));have heq:((i:Int)==(D.heaps.length:Int))=true:=by simpa using hrow
  clear hright hInv hstep hY UC hJ hbf Rs htl hov hat hcb hop hag hxs hx wN hk Ρ hone hrow hot hod hmem hstr;obtain⟨q,hq⟩: ∃q,qo D out Κ=q:=⟨_,rfl⟩;have HQ:=aa hq;rw[hq] at HR;clear hq;cases q
  ·skip
   refine callsIn_of_wp Tryz.func230 rfl trivial ?_;simp only[Tryz.ntmps230,List.size_toArray,List.length_cons,List.length_nil,Nat.reduceAdd,Nat.reduceSub,Array.replicate_succ,Array.replicate_zero,jr,jv,List.nil_append,List.cons_append]
   gi_wp2_with fail
   refine(callsIn_wide.2 HR.o).mono ?_;rintro e W1 ⟨rfl,ζ⟩;have Qi:=aa ζ;clear ζ
   gi_wp2_with fail
   go_returns;have Bb:=κ.o _ _ _ _ _ HJ.o (Ext.ay Qi.o) (fun m hm=> .inl hm) trivial;obtain⟨Ρ,wN⟩:=HK.o;rw[<-YH Ρ (by rw[wN];exact HQ.o)] at Bb;exact .inl ⟨by simp,Bb,o,HO.o.1,HO.o.2.1,HO.o.2.2.1,HS.o.below Qi.o⟩
  ·skip
   refine callsIn_of_wp Tryz.func230 rfl trivial ?_;simp only[Tryz.ntmps230,List.size_toArray,List.length_cons,List.length_nil,Nat.reduceAdd,Nat.reduceSub,Array.replicate_succ,Array.replicate_zero,jr,jv,List.nil_append,List.cons_append]
   gi_wp2_with fail
   refine(callsIn_wide.2 HR.o).mono ?_;rintro e W1 ⟨rfl,ζ⟩;obtain⟨hc1,hf1⟩:=bA ζ;have hs1:=ζ.size;have Qi:=aa ζ;have Bb:=κ.o _ _ _ _ _ HJ.o (Ext.ay ζ) (fun m hm=> .inl hm) trivial;obtain⟨Ρ,wN⟩:=HK.o;obtain⟨hc,hx⟩:=Mk Ρ (by rw[wN];exact HQ.o);obtain⟨g1,t1,a1,b1,hy1,Bl⟩:=HY.o _ _ (.agg #[iv x0,iv x1,iv x2]) W1 hc Bb (by
    show _=j6 (jm _);rw[hx,wN, <-HO.o.2.2.2.1,HO.o.2.2.2.2])
   have hcn:wS D out (k+1)=wS D out k+1:=VS Ρ (by rw[wN];exact HQ.o);exact zaT
 |succ m ih=>
  intro i k Κ W o him hpl hol hot hod hat UC hJ;have hi:i<(D.heaps).length:=ϑ;have τ:=iN.count hi;have hrg:=hS.rg hi;have hsz0:=hS.sz _ (bK hi);obtain⟨r,Ar⟩: ∃r,D.heaps[i]=r:=⟨_,rfl⟩;rw[Ar] at hrg hsz0 τ;obtain⟨z,hz,hz4⟩: ∃z:Nat,(z:Int)=dP r/\z<=101:=⟨(dP r).toNat,by omega,by unfold dP;omega⟩;have ν:(dP r).toNat=z:=ϑ;rw[ν] at τ;obtain⟨hbf,Rs,htl,hov⟩:=hInv _ _ _ hJ;obtain⟨LY,Oe,NY⟩:=ae hbf;have hne:(i:Int)≠(D.heaps.length:Int):=ϑ;have Cv:((i:Int)==(D.heaps.length:Int))=false:=by simpa using hne
  have SK:Hid (∀c:Nat,c<z->iN (D.heaps) (i+1) (k+c*(dZ ((D.heaps).drop (i+1))).length) (Κ++[r.1+(c:Int)])):=aa (fun c hc=>by
   have:=hat.next hi c (by rw[Ar,ν];exact hc);rw[Ar] at this;exact this)
  obtain⟨bh,al9,hoh,hbh,hh0,Rn⟩:=bF.cell htl.heaps hi;cases hoh;rw[Ar] at hh0 Rn;have HI:=aa hInv;have κ:=aa hstep;have HS:=aa UC;have HJ:=aa hJ;have Tp:=aa ih;have GD:=aa (af hol (af hot hod));have HCZ:=aa τ;have HZ:=aa hz;have hi3:i<3:=ϑ;have ad7:(i:Int)<3:=ϑ;have hiI:(i:Int)<D.heaps.length:=ϑ;have HRI:=aa (show ∃h:i<D.heaps.length,D.heaps[i]=r from⟨hi,Ar⟩);have hiR:i<D.heaps.length:=ϑ;clear hInv hstep hY hat UC hJ ih τ hne hbf Rs htl hov Ar ν hi hol hot hod hz;refine callsIn_of_wp Tryz.func230 rfl trivial ?_;simp only[Tryz.ntmps230,List.size_toArray,List.length_cons,List.length_nil,Nat.reduceAdd,Nat.reduceSub,Array.replicate_succ,Array.replicate_zero,jr,jv,List.nil_append,List.cons_append]
  gi_wp2_with fail
  refine(callsIn_wide.2 (F8 r _ hrg.1 hrg.2.1 ϑ)).mono ?_;rintro e W1 ⟨rfl,ζ⟩;have IZ:=aa (HS.o.below ζ);have HJ1:=aa (κ.o _ _ _ _ _ HJ.o (Ext.ay ζ) (fun m hm=> .inl hm) trivial);clear ζ hh0 Rn hbh LY Oe NY;rw[<-HZ.o]
  gi_wp2_with fail
  gi_loopw [30] (fun u wr=> ∃c:Nat,c<=z/\u= .int .i64 c/\ ∃o':List Int,o'.length=3/\o'.take i=Κ/\o'.drop D.heaps.length=List.replicate (3-D.heaps.length) 0/\Tv wr bf bo iB ab bc l o'/\J [ab,iB,bc] (some (wS D out (k+c*(dZ ((D.heaps).drop (i+1))).length))) wr)
   (fun u _=>z-(intOf u).toNat)
  case atStart=>exact⟨0,bD _,rfl,o,GD.o.1,GD.o.2.1,GD.o.2.2,IZ.o,by simpa using HJ1.o⟩
  case round=>
   obtain⟨c,hcz,rfl,o',ho1,Ψ,ho3,UC,hJ⟩:=hrel;by_cases tX:c<z
   ·obtain⟨hbf,Rs,htl,hov⟩:=HI.o _ _ _ hJ;obtain⟨ZK,Le,K3⟩:=ae hbf;obtain⟨ZJ,Ld,KZ⟩:=ae UC.ch;obtain⟨y,MR⟩: ∃y,wr.cell? ⟨ab,i,none⟩=some (iv y):=⟨_,fB UC.cells (show i<o'.length by omega)⟩;have hab:=dn wr _ MR;have hfr:=aZ UC.cells i;obtain⟨hi',ads⟩:=HRI.o;obtain⟨bh',ajO,aht,hbh,hh0,Rn⟩:=bF.cell htl.heaps hi';cases aht;rw[ads] at hh0 Rn;clear hi' ads;have Dr:=aa UC;have OL:=aa hJ;have HO:=aa (af ho1 (af Ψ ho3));have Ba:(c:Int)<z:=ϑ;have Zk:(z:Int)=dP r:=HZ.o;unfold dP at Zk;have hv0: -9223372036854775808<=r.1+(c:Int)/\r.1+(c:Int)<=9223372036854775807:=ϑ;clear UC hJ hbf Rs htl hov ho1 Ψ ho3 Zk;have Cs:=Dr.o.set hd1 hd3 i (r.1+(c:Int));have Vo:J [ab,iB,bc] (some (wS D out (k+c*(dZ ((D.heaps).drop (i+1))).length))) (wr.setCell ⟨ab,i,none⟩ (iv (r.1+(c:Int)))):=
     κ.o _ _ _ _ _ OL.o ((kH wr ⟨ab,i,none⟩ _).more (fun x hx=>by simp at hx;subst hx;simp)) (fun m hm=> .inl hm) trivial
    have pG:=Tp.o (i+1) _ (Κ++[r.1+(c:Int)]) _ (o'.set i (r.1+(c:Int))) ϑ (by simp[hpl]) (by simp[HO.o.1]) (by
     rw[List.take_set];rw[oQ,HO.o.2.1];have XV:i<o'.length:=by have:=HO.o.1;omega
     rw[bZ XV];simp[nT,hpl]) (by
     rw[List.drop_set,aB hiR];exact HO.o.2.2) (SK.o c tX) Cs Vo
    rw[show((i+1:Nat):Int)=(i:Int)+1 from by omega] at pG;have yY:=aa pG;clear pG Cs Vo
    gi_wp2_with fail
    refine yY.o.mono ?_;rintro e W2 (⟨rfl,hJ2,o2,ho1,Ψ,ho3,Ct⟩|⟨rfl,hJ2⟩)
    ·have HJ2:=aa hJ2;have Oz:=aa Ct;have xQ:=aa (af ho1 (af Ψ ho3));clear hJ2 Ct ho1 Ψ ho3 ZK Le K3 ZJ Ld KZ MR hab hfr hbh hh0 Rn
     gi_wp2_with fail
     go_roundw
     case rel=>
      exact zbl
     case measure=>simp[intOf];omega
    ·have HJ2:=aa hJ2;clear hJ2 ZK Le K3 ZJ Ld KZ MR hab hfr hbh hh0 Rn
     gi_wp2_with fail
     go_returns;exact .inr ⟨by simp,HJ2.o⟩
   ·have Ny:c=z:=ϑ;subst Ny;have OL:=aa hJ;have Dr:=aa UC;have HO:=aa (af ho1 (af Ψ ho3));clear hJ UC ho1 Ψ ho3
    gi_wp2_with fail
    go_returns;exact zcp
theorem Ka (D:bE) (hS:lL D) (oh ok ot:Option Addr) (ch ck ct:Nat) (ov:Value) (es:List KE) (out:List Int) (bf bo:Nat):
 Sw Tryz.prog 229 #[.pointer (some ⟨bf,0,none⟩),.pointer (some ⟨bo,0,none⟩)] (dh D out) afg [] (fun _=>True) (afn bf bo D (.slice oh D.heaps.length ch) (.slice ok D.aR.length ck) (.slice ot D.aI.length ct) ov es out):=by
 intro l J W hInv hstep hY h0;have hch:=fun iB ab bc hd1 hd3=>Km D hS oh ok ot ch ck ct ov es out bf bo iB ab bc l hd1 hd3 J hInv hstep hY;have hh3:=hS.h3;have HCH:=aa hch;have κ:=aa hstep;have HJ:=aa h0;have hn2: ∀(A B:Obj) (v:Value) (t:TypeId),(((W.alloc A).alloc B).alloc (.cells #[v] t)).cell? ⟨W.heap.size+1+1,0,none⟩=some v:=fun A B v t=>aA (fU W A B _);have hf2: ∀(A B:Obj) (v:Value) (t:TypeId),(((W.alloc A).alloc B).alloc (.cells #[v] t)).frozen? ⟨W.heap.size+1+1,0,none⟩=false:=fun A B v t=>aZ (fU W A B _) 0;clear hInv hstep hY hch h0 hS;go_enter Tryz.func229,Tryz.ntmps229;go_wp2_with fail
 refine(callsIn_wide.1 (HCH.o W.heap.size (W.heap.size+1) (W.heap.size+1+1) ϑ ϑ D.heaps.length 0 0 [] _ (List.replicate 3 0) ϑ rfl ϕ ϕ (by rw[List.drop_replicate]) (iN.zero _) ⟨?_,?_,?_⟩
  (κ.o _ _ _ _ _ HJ.o (Ext.ay zl) (fun m hm=> .inr (by simp at hm;(first|omega|(simp;omega)))) trivial))).mono ?_
 ·exact zbN
 ·exact fU _ _ _ _
 ·exact zbR
 ·rintro e W2 (⟨rfl,hJ2,_⟩|⟨rfl,hJ2⟩)
  ·have HJ2:=aa hJ2;clear hJ2 hn2 hf2;go_wp2_with fail
   go_end0
   refine⟨⟨_,rfl⟩,[W.heap.size+1,W.heap.size,W.heap.size+1+1],.inl ?_⟩;have:=HJ2.o;rw[<-VT];simpa [qX] using this
  ·have HJ2:=aa hJ2;clear hJ2 hn2 hf2;exact zbG
theorem Kb (hv lZ tv:Value) (o:Option Addr) (n c:Nat) (w:World):
 Ϝ 140 #[kv hv lZ tv,.slice o n c] w (fun e w'=>e= .returned (.func (.func 229) #[] #[.pointer (some ⟨w.heap.size,0,none⟩),.pointer (some ⟨w.heap.size+1,0,none⟩)])/\
  w'=(w.alloc (.cells #[hv,lZ,tv] 60)).alloc (.cells #[.slice o n c] 52)):=by
 go_enter Tryz.func140,Tryz.ntmps140;exact zbA
section
variable (c : bE) (oh ok ot : Option Addr) (ch ck ct : Nat) (w : World)
theorem UB (h:3<c.heaps.length∨3<c.aR.length∨5<c.aI.length):Ϝ 139 #[kv (.slice oh c.heaps.length ch) (.slice ok c.aR.length ck) (.slice ot c.aI.length ct)] w (PV (iv 3) w):=by
 by_cases h1:(3:Int)<c.heaps.length
 ·skip
  exact zan
 by_cases h2:(3:Int)<c.aR.length
 ·skip
  exact zan
 have h3:(5:Int)<c.aI.length:=ϑ;clear h;exact zan
theorem Q8 (h1: ¬(3:Int)<c.heaps.length) (h2: ¬(3:Int)<c.aR.length) (h3: ¬(5:Int)<c.aI.length) (h4:((c.heaps.length:Int)==0)=true):Ϝ 139 #[kv (.slice oh c.heaps.length ch) (.slice ok c.aR.length ck) (.slice ot c.aI.length ct)] w (PV (iv 1) w):=zan
theorem Q7 (es:List KE) (hc:pJ w (.slice oh c.heaps.length ch) (.slice ok c.aR.length ck) (.slice ot c.aI.length ct) es c) (h1: ¬(3:Int)<c.heaps.length) (h2: ¬(3:Int)<c.aR.length) (h3: ¬(5:Int)<c.aI.length) (h4:((c.heaps.length:Int)==0)=false)
 (res:Int) (π:res=if c.heaps.all (sQ · 100)=false∨c.aR.all (sO c)=false∨c.aI.all (qh c)=false then 1 else if 2000<qO c.heaps then 3 else 0):
 Ϝ 139 #[kv (.slice oh c.heaps.length ch) (.slice ok c.aR.length ck) (.slice ot c.aI.length ct)] w (PV (iv res) w):=by
 have hel:=hc.len;have zf:=aa (fun(W:World) (hb:Ϙ w W)=>Ni c.heaps (.slice oh c.heaps.length ch) 224 #[] #[] (sQ · 100) W (hc.heaps.below hb (ah _)) (enters_of Tryz.func224 ϰ rfl) (fun x _ W _=>qj x W));have HKK:=aa (fun(W:World) (hb:Ϙ w W)=>by
  have:=Nj es (.slice ok c.aR.length ck) 222 #[kv (.slice oh c.heaps.length ch) (.slice ok c.aR.length ck) (.slice ot c.aI.length ct)] #[] (fun e=>sO c e.2) W (hc.aR.below hb (ah _)) (enters_of Tryz.func222 ϰ rfl) (fun e he W' hb'=>Nn c oh ch _ _ e W' ((hc.aR.2 e he).below (aV hb hb') (ah _)) ϑ);rw[show es.all (fun e=>sO c e.2)=c.aR.all (sO c) from by rw[<-hc.is,List.all_map];rfl] at this
  exact this)
 have Wu:=aa (fun(W:World) (hb:Ϙ w W)=>Nh c.aI (.slice ot c.aI.length ct) 221 #[kv (.slice oh c.heaps.length ch) (.slice ok c.aR.length ck) (.slice ot c.aI.length ct)] #[] (qh c) W (hc.aI.below hb (ah _)) (enters_of Tryz.func221 ϰ rfl) (fun x _ W _=>Nc c oh ok ch ck _ x W ϑ ϑ));have HHP:=aa (fun(W:World) (hb:Ϙ w W)=>hc.heaps.below hb (ah _));have SG:=aa π;clear hc hel π;cases hA:c.heaps.all (sQ · 100)
 ·rw[hA] at zf;have GH:Hid (res=1):=aa (by rw[SG.o,aB (.inl hA)]);clear hA;go_enter Tryz.func139,Tryz.ntmps139;go_wp2_with fail
  refine zg 6 [] none [] ?_;simp only[zt];repeat (refine zn ?_;simp only[zp])
  intro W hE hF;obtain⟨hc,hf⟩:=bA hE.below;have ic:=hE.size;(try simp only[bg] at ic)
  have ψ:=aa (show Ϙ w W from aV (ai (aC _ _) _) hE.below);have hk0:W.heap[w.heap.size]? =some (.cells #[.slice oh c.heaps.length ch,.slice ok c.aR.length ck,.slice ot c.aI.length ct] 60 (0,0)):=(hE.block _ ϕ ϕ).trans (av _ _);clear hE hF hc hf ic;obtain⟨d0,f0,m0⟩:=ae hk0;clear hk0;go_wp2_with fail
  refine(zf.o _ ψ.o).mono ?_;rintro e w1 ⟨rfl,hb⟩;have hk0:=hb.block _ m0;obtain⟨dd,ff⟩:=bA hb;have Ra:=aa (aV ψ.o hb);clear hb hk0;exact za9
 rw[hA] at zf;cases hK:c.aR.all (sO c)
 ·rw[hK] at HKK;have GH:Hid (res=1):=aa (by rw[SG.o,aB (.inr (.inl hK))]);clear hA hK;go_enter Tryz.func139,Tryz.ntmps139;go_wp2_with fail
  refine zg 6 [] none [] ?_;simp only[zt];repeat (refine zn ?_;simp only[zp])
  intro W hE hF;obtain⟨hc,hf⟩:=bA hE.below;have ic:=hE.size;(try simp only[bg] at ic)
  have ψ:=aa (show Ϙ w W from aV (ai (aC _ _) _) hE.below);have hk0:W.heap[w.heap.size]? =some (.cells #[.slice oh c.heaps.length ch,.slice ok c.aR.length ck,.slice ot c.aI.length ct] 60 (0,0)):=(hE.block _ ϕ ϕ).trans (av _ _);clear hE hF hc hf ic;obtain⟨d0,f0,m0⟩:=ae hk0;clear hk0;go_wp2_with fail
  refine(zf.o _ ψ.o).mono ?_;rintro e w1 ⟨rfl,hb⟩;obtain⟨dd,ff⟩:=bA hb;have hl1:=dU m0 hb.size;have Ra:=aa (aV ψ.o hb);clear hb;go_wp2_with fail
  refine(HKK.o _ Ra.o).mono ?_;rintro e w2 ⟨rfl,hb⟩;have Qi:=aa (aV Ra.o hb);clear hb;go_wp2_with fail
  go_returns;exact⟨by rw[GH.o];simp,Qi.o⟩
 rw[hK] at HKK;cases hT:c.aI.all (qh c)
 ·rw[hT] at Wu;have GH:Hid (res=1):=aa (by rw[SG.o,aB (.inr (.inr hT))]);clear hA hK hT;go_enter Tryz.func139,Tryz.ntmps139;go_wp2_with fail
  refine zg 6 [] none [] ?_;simp only[zt];repeat (refine zn ?_;simp only[zp])
  intro W hE hF;obtain⟨hc,hf⟩:=bA hE.below;have ic:=hE.size;(try simp only[bg] at ic)
  have ψ:=aa (show Ϙ w W from aV (ai (aC _ _) _) hE.below);have hk0:W.heap[w.heap.size]? =some (.cells #[.slice oh c.heaps.length ch,.slice ok c.aR.length ck,.slice ot c.aI.length ct] 60 (0,0)):=(hE.block _ ϕ ϕ).trans (av _ _);clear hE hF hc hf ic;obtain⟨d0,f0,m0⟩:=ae hk0;clear hk0;go_wp2_with fail
  refine(zf.o _ ψ.o).mono ?_;rintro e w1 ⟨rfl,hb⟩;obtain⟨dd,ff⟩:=bA hb;have hl1:=dU m0 hb.size;have Ra:=aa (aV ψ.o hb);clear hb;go_wp2_with fail
  refine(HKK.o _ Ra.o).mono ?_;rintro e w2 ⟨rfl,hb⟩;obtain⟨dd2,ff2⟩:=bA hb;have hl2:=dU hl1 hb.size;have Qi:=aa (aV Ra.o hb);clear hb;go_wp2_with fail
  refine(Wu.o _ Qi.o).mono ?_;rintro e w3 ⟨rfl,hb⟩;have δ:=aa (aV Qi.o hb);clear hb;go_wp2_with fail
  go_returns;exact⟨by rw[GH.o];simp,δ.o⟩
 rw[hT] at Wu;have hok: ∀r∈c.heaps,0<=r.1/\r.1<=r.2/\r.2<=100/\1<=dP r/\dP r<=101:=fun r hr=>uZ (iR.1 hA r hr);have GH:Hid (res=if 2000<qO c.heaps then 3 else 0):=aa (by rw[SG.o,aj];simp[hA,hK,hT]);have iD:=aa hok;clear hA hK hT hok;go_enter Tryz.func139,Tryz.ntmps139;go_wp2_with fail
 refine zg 6 [] none [] ?_;simp only[zt];repeat (refine zn ?_;simp only[zp])
 intro W hE hF;obtain⟨hc,hf⟩:=bA hE.below;have ic:=hE.size;(try simp only[bg] at ic)
 have ψ:=aa (show Ϙ w W from aV (ai (aC _ _) _) hE.below);have hk0:W.heap[w.heap.size]? =some (.cells #[.slice oh c.heaps.length ch,.slice ok c.aR.length ck,.slice ot c.aI.length ct] 60 (0,0)):=(hE.block _ ϕ ϕ).trans (av _ _);clear hE hF hc hf ic;obtain⟨d0,f0,m0⟩:=ae hk0;clear hk0;go_wp2_with fail
 refine(zf.o _ ψ.o).mono ?_;rintro e w1 ⟨rfl,hb⟩;obtain⟨dd,ff⟩:=bA hb;have hl1:=dU m0 hb.size;have Ra:=aa (aV ψ.o hb);clear hb;go_wp2_with fail
 refine(HKK.o _ Ra.o).mono ?_;rintro e w2 ⟨rfl,hb⟩;obtain⟨dd2,ff2⟩:=bA hb;have hl2:=dU hl1 hb.size;have Qi:=aa (aV Ra.o hb);clear hb;go_wp2_with fail
 refine(Wu.o _ Qi.o).mono ?_;rintro e w3 ⟨rfl,hb⟩;obtain⟨dd3,ff3⟩:=bA hb;have hl3:=dU hl2 hb.size;have δ:=aa (aV Qi.o hb);clear hb;go_wp2_with fail
 have HC3:=aa (show ∀i,w3.cell? ⟨w.heap.size,i,none⟩=(#[.slice oh c.heaps.length ch,.slice ok c.aR.length ck,.slice ot c.aI.length ct]:Array Value)[i]? from fun i=>(dd3 _ _ hl2).trans ((dd2 _ _ hl1).trans ((dd _ _ m0).trans (d0 i))));clear d0 f0 m0 dd ff dd2 ff2 dd3 ff3 hl1 hl2 hl3;go_loopw [5,57] (fun m i wr=> ∃k:Nat,k<=c.heaps.length/\i= .int .i64 k/\m= .int .i64 (rA c.heaps k)/\Ϙ w wr) (fun _ i _=>c.heaps.length-(intOf i).toNat)
 case atStart=>exact⟨0,bD _,rfl,rfl,δ.o⟩
 case round=>
  obtain⟨k,hk,rfl,rfl,hB⟩:=hrel;have hv:=HHP.o wr hB;by_cases tX:k<c.heaps.length
  ·obtain⟨b,off,hoo,hb,hc0,hc1⟩:=bF.cell hv tX;cases hoo;have hr:=iD.o _ (bK tX);have hs:=De c.heaps k tX;have hbd:=Lh c.heaps (fun r hr=>(iD.o r hr).2.2.2.1) k;generalize c.heaps[k]=r at hc0 hc1 hr hs;obtain⟨hr1,hr2,hr3,hr4,Ii⟩:=hr;unfold pO at hs;generalize rA c.heaps k=cc at hs hbd;obtain⟨ζ,θ⟩:=hbd;have HS:=aa hs;have HB:=aa hB;clear hs hv hB;have hmul:0<=cc*dP r/\cc*dP r<=2001*101:=⟨Int.mul_nonneg ϑ ϑ,Int.mul_le_mul θ Ii ϑ ϑ⟩;obtain⟨Ν,hm2⟩:=hmul;go_wp2_with fail
   refine(F8 r _ hr1 hr2 ϑ).mono ?_;rintro e w4 ⟨rfl,Θ⟩;obtain⟨hc,hf⟩:=bA Θ;go_wp2_with fail
   refine(Kh (cc*dP r) 2001 _ _ _ ?_ ?_).mono ?_
   ·go_simp
   ·go_simp
   rintro e w5 ⟨rfl,hb4⟩;go_wp2_with fail
   go_roundw
   case rel=>exact⟨k+1,by omega,by go_num,by rw[HS.o],aV (ai (aV (ai HB.o _) Θ) _) hb4⟩
   case measure=>simp[intOf];omega
  ·have XI:k=c.heaps.length:=ϑ;have hend:=Gq c.heaps (fun r hr=>(iD.o r hr).2.2.2.1);have hr:=GH.o;rw[<-XI] at hend;generalize rA c.heaps k=cc at hend;clear hv;by_cases hc:2000<cc
   ·rw[aB (hend.1 hc)] at hr;have HR:=aa hr;clear hr hend;exact zbJ
   ·rw[aj (fun x=>hc (hend.2 x))] at hr;have HR:=aa hr;clear hr hend;exact zbJ
end
theorem Co (c:bE) (hv lZ tv:Value) (es:List KE) (w:World) (hc:pJ w hv lZ tv es c):Ϝ 139 #[kv hv lZ tv] w (PV (iv (nM c)) w):=by
 obtain⟨oh,ch,rfl⟩:=hc.heaps.open;obtain⟨ok,ck,rfl⟩:=hc.aR.open;obtain⟨ot,ct,rfl⟩:=hc.aI.open;rw[hc.len] at hc⊢;unfold nM;by_cases hl:3<c.heaps.length∨3<c.aR.length∨5<c.aI.length
 ·rw[aB hl];exact UB c oh ok ot ch ck ct w hl
 rw[aj hl];by_cases h4:c.heaps.length=0
 ·rw[aB (.inl h4)];exact Q8 c oh ok ot ch ck ct w ϑ ϑ ϑ (by simpa using h4)
 ·refine Q7 c oh ok ot ch ck ct w es hc ϑ ϑ ϑ (by simpa using h4) _ ?_;simp only[h4,false_or]
attribute [local go_sem] Oper.semAt_some
theorem Qx (r:dF):(qp r).Pairwise (· ≠ ·):=by
 unfold qp;rw[List.pairwise_map];exact List.nodup_range.imp (fun h e=>h ϑ)
theorem TZ: ∀(rs:List dF),(dZ rs).Pairwise (· ≠ ·):=by
 intro rs;induction rs with
 |nil=>simp[dZ]
 |cons r rs ih=>
  refine rG _ _ _ (fun x _=>?_) ?_
  ·rw[List.pairwise_map];exact ih.imp (fun h e=>h (List.cons.inj e).2)
  ·refine(Qx r).imp (fun {a b} h u hu v hv e=>?_);obtain⟨s,_,rfl⟩:=gU.1 hu;obtain⟨t,_,rfl⟩:=gU.1 hv;exact h (List.cons.inj e).1
theorem Mj (c:bE) (out:List Int):(dh c out).Pairwise (· ≠ ·):=(TZ c.heaps).filter _
theorem Ue {a b:List Int} (h:a.length=b.length) (e:jm a=jm b):a=b:=by
 unfold jm at e;exact(List.append_inj e h).1
theorem acM:gJ Tryz.prog 277 283 (.agg #[iv 0,iv 0,iv 0]) 3 24:=⟨Tryz.underlying277,by kernel_rfl,rfl,by omega⟩
structure LQ (B:Nat) (hv lZ tv:Value) (ls:List (List Int)) (Ms:List Nat) (W:World):Prop where
 work: ∃v,W.heap[B]? =some (.cells #[hv,lZ,tv,v] 279 (0,0))/\W.ownsRow (B+6) 283 3 v ls.length (ls.flatMap ag)/\ ∀g,v.ownBlock=some g->g∉Ms/\g<W.heap.size
 ptr:W.heap[B+1]? =some (.cells #[.pointer (some ⟨B,0,none⟩)] 180 (0,0))
 b2:W.heap[B+2]? =some (.cells #[hv,lZ,tv] 60 (0,0))
 b3:W.heap[B+3]? =some (.cells #[.slice none 0 0] 52 (0,0))
theorem LQ.kept {B:Nat} {hv lZ tv:Value} {ls:List (List Int)} {Ms jc:List Nat} {W W':World} (h:LQ B hv lZ tv ls Ms W) (hs:W.heap.size<=W'.heap.size) (hk: ∀b,B<=b->b<B+4->W'.heap[b]? =W.heap[b]?)
 (ho: ∀g,B+6<=g->g<W.heap.size->g∉Ms->W'.heap[g]? =W.heap[g]?) (hM: ∀m∈jc,m∈Ms∨(W.heap.size<=m/\m<W'.heap.size)):LQ B hv lZ tv ls jc W':=by
 obtain⟨v,h1,h2,h3⟩:=h.work;exact zaZ
structure Oo (W:World) (wb:Nat) (hv lZ tv v:Value) (ls:List (List Int)):Prop where
 cells:W.heap[wb]? =some (.cells #[hv,lZ,tv,v] 279 (0,0))
 truth:aH 3 W v ls.length (ls.flatMap ag)
theorem Oo.lt {W:World} {wb:Nat} {hv lZ tv v:Value} {ls:List (List Int)} (h:Oo W wb hv lZ tv v ls):wb<W.heap.size:=(aP.1 h.cells).1
theorem Oo.below {W W':World} {wb:Nat} {hv lZ tv v:Value} {ls:List (List Int)} (h:Oo W wb hv lZ tv v ls) {B:Nat} (hb:Below B W W') (hB:W.heap.size<=B):Oo W' wb hv lZ tv v ls:=
 ⟨(hb.block _ (by have:=h.lt;omega)).trans h.cells,h.truth.below hb hB⟩
def WR (c:bE) (hv lZ tv:Value) (Α:Bool) (w:World) (e:Ending) (w':World):Prop:=
 Ϙ w w'/\((gT c Α≠0/\e= .returned (.tuple #[.pointer none,.int .i64 (gT c Α)]))∨
  (gT c Α=0/\ ∃(wb:Nat) (v:Value),e= .returned (.tuple #[.pointer (some ⟨wb,0,none⟩),.int .i64 0])/\w.heap.size<=wb/\Oo w' wb hv lZ tv v ((dh c []).map jm)))
theorem Ng (c:bE) (hv lZ tv:Value) (es:List KE) (g:Nat) (aM:Array Value) (Α:Bool) (w:World) (hc:pJ w hv lZ tv es c) (eg: Ϛ Tryz.prog g)
 (Ky: ∀W,Ϙ w W->Ϝ g aM W (PV (.bool Α) W)):
 Ϝ 81 #[kv hv lZ tv,.func (.func g) #[] aM] w (WR c hv lZ tv Α w):=by
 obtain⟨oh,ch,rfl⟩:=hc.heaps.open;obtain⟨ok,ck,rfl⟩:=hc.aR.open;obtain⟨ot,ct,rfl⟩:=hc.aI.open;have hel:=hc.len;rw[hel] at hc⊢;have HC':Hid (∀W,Ϙ w W->pJ W (.slice oh c.heaps.length ch) (.slice ok c.aR.length ck) (.slice ot c.aI.length ct) es c):=aa (fun W hb=>hc.below hb (ah _));have HF:=aa Ky;have ZY:=aa (fun(W:World) (hb:Ϙ w W)=>Co c (.slice oh c.heaps.length ch) (.slice ok c.aR.length ck) (.slice ot c.aI.length ct) es W (hc.below hb (ah _)));clear hc Ky hel;by_cases hf0:nM c=0
 case neg=>
  have HE:Hid (gT c Α=nM c/\gT c Α≠0):=aa (by unfold gT;rw[aB hf0];exact⟨rfl,hf0⟩);generalize hff:nM c=e at*
  clear hff;go_enter Tryz.func81,Tryz.ntmps81;go_wp2_with fail
  refine(ZY.o _ (ai (aC _ _) _)).mono ?_;exact zcb
 rw[hf0] at ZY;have mK:=aa (Fp hf0);have OM:=aa hf0;clear hf0;cases Α
 ·have HE:Hid (gT c false=2):=aa (by unfold gT;rw[aj (by rw[OM.o];simp),aB rfl]);go_enter Tryz.func81,Tryz.ntmps81;go_wp2_with fail
  refine(ZY.o _ (ai (aC _ _) _)).mono ?_;exact zcz
 have HE:Hid (gT c true=if(dh c []).isEmpty then 11 else 0):=aa (by unfold gT;rw[aj (by rw[OM.o];simp),aj ϕ]);refine(callsIn_wide (n:=0)).1 ?_;refine callsIn_of_wp_marks Tryz.func81 rfl trivial ?_;simp only[Tryz.ntmps81,List.size_toArray,List.length_cons,List.length_nil,Nat.reduceAdd,Nat.reduceSub,Array.replicate_succ,Array.replicate_zero,jr,jv,List.nil_append,List.cons_append]
 gi_wp2_with fail
 refine(callsIn_wide.2 (ZY.o _ (ai (aC _ _) _))).mono ?_;rintro e w1 ⟨rfl,hb⟩;obtain⟨hc1,hf1⟩:=bA hb;have hz1:w.heap.size<w1.heap.size:=by have:=hb.size;simp at this;omega
 have Qi:=aa (show Ϙ w w1 from zl);clear hb
 gi_wp2_with fail
 refine(callsIn_wide.2 (HF.o _ Qi.o)).mono ?_;rintro e w2 ⟨rfl,hb⟩;obtain⟨hc2,hf2⟩:=bA hb;have hz2:w.heap.size<w2.heap.size:=by have:=hb.size;omega
 have Ra:=aa (aV Qi.o hb);clear hb
 gi_wp2_with fail
 refine(callsIn_wide.2 (Kb _ _ _ none 0 0 _)).mono ?_;rintro e w3 ⟨rfl,rfl⟩
 gi_wp2_with fail
 have hseq:=fun bf bo=>Ka c mK.o oh ok ot ch ck ct (.slice none 0 0) es [] bf bo;obtain⟨hv,Zx⟩: ∃hv,Value.slice oh c.heaps.length ch=hv:=⟨_,rfl⟩;obtain⟨lZ,adS⟩: ∃lZ,Value.slice ok c.aR.length ck=lZ:=⟨_,rfl⟩;obtain⟨tv,Gb⟩: ∃tv,Value.slice ot c.aI.length ct=tv:=⟨_,rfl⟩;rw[Zx,adS,Gb] at hseq HC'⊢;obtain⟨B,kT⟩: ∃B,w2.heap.size=B:=⟨_,rfl⟩;rw[kT];obtain⟨w4,hw4⟩: ∃w4,((((w2.alloc (.cells #[hv,lZ,tv,.slice none 0 0] 279)).alloc (.cells #[.pointer (some ⟨B,0,none⟩)] 180)).alloc (.cells #[hv,lZ,tv] 60)).alloc (.cells #[.slice none 0 0] 52))=w4:=⟨_,rfl⟩;have aaB:w4.heap.size=B+4:=by rw[<-hw4];simp;omega
 have Ig:w.heap.size<B:=ϑ;have fV:Hid (Ϙ w w4):=aa (by rw[<-hw4];exact ai (ai (ai (ai Ra.o _) _) _) _)
 have HA4:Hid (LQ B hv lZ tv [] [] w4):=aa (by
  rw[<-hw4];refine⟨⟨.slice none 0 0,?_,⟨rfl,.inl ⟨rfl,rfl⟩⟩,fun g hg=>by cases hg⟩,?_,?_,?_⟩
  ·exact za6
  ·exact zbv
  ·exact zbO
  ·rw[<-kT];exact ku _ _ _ _ _)
 rw[hw4];clear hw4 hc1 hf1 hz1 hc2 hf2;have Ay: ∀b,b∈[w.heap.size,B,B+1,B+2,B+3,B+4,B+5]↔b=w.heap.size∨(B<=b/\b<B+6):=fun b=>by simp;omega
 obtain⟨Os,CL⟩: ∃Os,[w.heap.size,B,B+1,B+2,B+3,B+4,B+5]=Os:=⟨_,rfl⟩;rw[CL] at Ay;clear CL;refine kL (hseq (B+1+1) (B+1+1+1)) rfl (enters_of Tryz.func229 ϰ rfl) rfl ϕ
  (fun Ms k W=>Dx w Os Ms W/\LQ B hv lZ tv (((dh c []).take k).map jm) Ms W)
  (fun _ _ _=>False)
  ?hInv ?mZ ?hI ?hIx ?Et ?qE ?h0
  (fun a Ms k W1 a₁ W=> ∃(x:List Int) (bt:Nat),(dh c [])[k]? =some x/\a₁={tmps:=(a.tmps.setIfInBounds 24 (j6 (jm x))).setIfInBounds 8 (.pointer (some ⟨bt,0,none⟩)),defers:=[]}/\
    (Dx w Os Ms W/\LQ B hv lZ tv (((dh c []).take k).map jm) Ms W)/\(W.heap[bt]? =some (.cells (ag (jm x)).toArray 283 (0,0))/\B+6<=bt/\bt∉Ms/\(∀v,W.heap[B]? =some (.cells #[hv,lZ,tv,v] 279 (0,0))->v.ownBlock≠some bt))/\
    (∀m∈Ms,m∉([]:List Nat)->m<W1.heap.size->W.heap[m]? =W1.heap[m]?)/\W1.heap.size<=W.heap.size)
  ?Iu ?hassign ?hbody ?hdone ?hstop
 case hInv=>
  rintro Ms k W ⟨hF,hP⟩;exact⟨hP.b2,hP.b3,HC'.o W hF.ext,aH.nil 1 W⟩
 case mZ=>rintro cd Ms W h;exact h.elim
 case hI=>
  rintro Ms jc k Wa Wb ⟨hF,hP⟩ hE γ _;exact⟨(hF.gM hE γ).1,hP.kept hE.size (fun b h1 h2=>(hF.gM hE γ).2 b ((Ay b).2 ϑ)) (fun g h1 h2 h3=>hE.block g h2 h3) γ⟩
 case hIx=>rintro cd Ms jc Wa Wb h;exact h.elim
 case Et=>
  rintro Ms k W r ob ⟨hF,hP⟩ hr;exact⟨hF.put ob ϑ,hP.kept ϕ (fun b h1 h2=>World.putObj_heap_other ϑ) (fun g h1 h2 h3=>World.putObj_heap_other ϑ) (fun m hm=> .inl hm)⟩
 case qE=>rintro cd Ms W r ob h;exact h.elim
 case h0=>
  intro o1 o2;refine⟨⟨ai (ai fV.o _) _,by simp,by simp,fun b hb=>⟨by simp,by have:=(Ay b).1 hb;simp;omega⟩⟩,?_⟩;rw[List.take_zero];exact HA4.o.kept ϗ (fun b h1 h2=>(aS _ _ _ ϗ).trans (aS _ _ _ ϑ)) (fun g h1 h2 h3=>ϑ) (fun m hm=> .inl hm)
 case Iu=>
  rintro Ms k W1 a₁ W ob ⟨x,bt,hx,ha,⟨hF,hP⟩,⟨hbt,hb6,hbM,hbv⟩,hk,hs⟩;have χ:=(hF.apart (B+5) ((Ay _).2 ϑ)).1;refine⟨x,bt,hx,ha,⟨hF.put ob ϑ,hP.kept ϕ (fun b h1 h2=>World.putObj_heap_other ϑ) (fun g h1 h2 h3=>World.putObj_heap_other ϑ) (fun m hm=> .inl hm)⟩,
   ⟨(World.putObj_heap_other ϑ).trans hbt,hb6,hbM,fun v hv=>hbv v ((World.putObj_heap_other ϑ).symm.trans hv)⟩,
   fun m hm h0 lg=>(World.putObj_heap_other (fun e=>χ (by rw[show B+5=m by omega];exact hm))).trans (hk m hm h0 lg),by simpa using hs⟩
 case hassign=>
  rintro Ms k v W hk ⟨hF,hP⟩ hE tX;obtain rfl:v=j6 (jm (dh c [])[k]):=hE;have hxk:(dh c [])[k]? =some (dh c [])[k]:=bZ hk;have hxl:=(qz mK.o (kM _ (bK hk))).1;generalize (dh c [])[k]=x at*
  have Pf:=mK.o.h3;obtain⟨y0,y1,y2,ω⟩:=lM (uY (x:=x) ϑ);have hYS:=aa ω;rw[ω];rw[show j6 [y0,y1,y2]= .agg #[iv y0,iv y1,iv y2] from rfl]
  gi_wp2
  have hB':Ϙ W (W.alloc (.cells #[iv y0,iv y1,iv y2] 283)):=ai (aC _ _) _;refine⟨⟨x,W.heap.size,hxk,?_,⟨(hF.gM (Ext.ay hB') (fun m hm=> .inl hm)).1,hP.kept ϕ (fun b h1 h2=>aS _ _ _ ϑ) (fun g h1 h2 h3=>aS _ _ _ ϑ) (fun m hm=> .inl hm)⟩,
   ⟨?_,by omega,fun hm=>by have:=hF.bnd _ hm;omega,fun v hv e=>?_⟩,fun m hm h0 lg=>aS _ _ _ ϑ,by simp⟩,aS _ _ _ ϑ,aS _ _ _ ϑ⟩
  ·rw[hYS.o];rfl
  ·rw[hYS.o];exact av _ _
  ·obtain⟨v0,h1,h2,h3⟩:=hP.work;have h4:=(aS _ _ _ ϑ).symm.trans hv;rw[h1] at h4;simp only[Option.some.injEq,Obj.cells.injEq,and_true,Array.mk.injEq,List.cons.injEq,true_and] at h4;subst h4;have:=(h3 _ e).2;omega
 case hbody=>
  rintro Ms k W1 a₁ W7 busy hk ⟨x,bt,hx,rfl,⟨hF,hP⟩,⟨hbt,hb6,hbM,hbv⟩,XJ,ν⟩ ε hD;simp only[oU,List.set_cons_succ,List.set_cons_zero];obtain⟨v,Β,Μ,hv3⟩:=hP.work;obtain⟨vo,vc,rfl⟩:=aL Μ;have Vg:=hbv _ Β;obtain⟨c1,f1,l1⟩:=ae hP.ptr;have hxm:=qz mK.o (kM _ (kX hx));have Pf:=mK.o.h3;obtain⟨ys,Kq⟩: ∃ys,jm x=ys:=⟨_,rfl⟩;have hyl:ys.length=3:=by rw[<-Kq];exact uY ϑ
  obtain⟨y0,y1,y2,ω⟩:=lM hyl;have CK:=hbt;rw[Kq,ω] at CK;have CK:W7.heap[bt]? =some (.cells #[iv y0,iv y1,iv y2] 283 (0,0)):=CK;obtain⟨c3,f3,l3⟩:=ae CK;have hwM:=(hF.apart w.heap.size ((Ay _).2 (.inl rfl))).1;have adK:((dh c []).take (k+1)).map jm=((dh c []).take k).map jm++[ys]:=by
   rw[oQ,hx];simp[Kq]
  have aaP:k<=2000:=by have:=rF mK.o [];omega
  have hlk:(((dh c []).take k).map jm).length=k:=by simp;omega
  have h3s: ∀z∈((dh c []).take k).map jm,z.length=3:=fun z hz=>by
   obtain⟨t,ht,rfl⟩:=gU.1 hz;have:=qz mK.o (kM _ (ny ht));exact uY ϑ
  have hne: ∀A z,((dh c []).take k).map jm=A++[z]->(z==ys)=false:=fun A z he=>by
   rw[iI];rintro rfl;have hkp:0<k:=by
    cases k with
    |zero=>simp at he
    |succ k=>omega
   have hkj:k-1<(dh c []).length:=ϑ;have h1:(((dh c []).take k).map jm)[k-1]? =some z:=by
    rw[he,lI (by have:=congrArg List.length he;simp at this;omega)];have:=congrArg List.length he;rw[hlk,bR,List.length_singleton] at this;rw[show k-1-A.length=0 from by omega];rfl
   rw[nS,List.getElem?_take_of_lt ϑ,bZ hkj] at h1;have h2:jm (dh c [])[k-1]=jm x:=by rw[Kq];exact gV h1
   have h3:=qz mK.o (kM _ (bK hkj));have h4:=Ue (by rw[h3.1,hxm.1]) h2;obtain⟨Ρ,hx'⟩:=gY.1 hx;exact(List.pairwise_iff_getElem.1 (Mj c [])) (k-1) k hkj Ρ ϑ (by rw[h4,hx'])
  replace hlk:(((dh c []).take k).map jm).length<=2000:=by rw[hlk];exact aaP
  have vR:=aa hF;have PT:=aa hP;have HV:=aa (af Β (af Μ hv3));have yV:=aa (af ω hyl);have HK:=aa (af XJ (af ε hD));have ZZ:=aa CK;have HBV:=aa Vg;have afx:=aa adK;have H3:=aa h3s;have GG:=aa hne;have χ: ∀b∈Os,b∉Ms/\b<W7.heap.size:=hF.apart;have Φ: ∀b,B<=b->b<B+6->b∈Os:=fun b h1 h2=>(Ay b).2 ϑ;have hw7:w.heap.size<W7.heap.size:=(χ _ ((Ay _).2 (.inl rfl))).2;obtain⟨c2,f2,q2⟩:=ae Β;clear hF hP Β Μ hv3 hx ω Kq hxm hyl XJ ε hD hbt CK hbv Vg adK h3s hne;generalize ((dh c []).take (k+1)).map jm=ls' at*
  generalize ((dh c []).take k).map jm=ls at*
  gi_wp2_with fail
  rcases(List.eq_nil_or_concat ls).imp id (fun⟨A,z,e⟩=>(⟨A,z,e.trans (List.concat_eq_append)⟩: ∃A z,ls=A++[z])) with rfl|⟨A,z,rfl⟩
  ·simp only[List.length_nil] at c2 HV HBV;refine dD 22 [] none [] ϰ ϰ ϰ ?_;simp only[zt];repeat ((first|refine zn ?_|refine zk ?_);simp only[zp])
   intro W hE hF;obtain⟨hc,hf⟩:=bA hE.below;have ic:=hE.size;(try simp only[bg] at ic)
   have jZ:Ext [] W7 W:=hE;have D7:LQ B hv lZ tv ([]) Ms W:=PT.o.kept jZ.size (fun b h1 h2=>jZ.block b (by have:=(χ b (Φ b h1 ϑ)).2;omega) ϕ) (fun g h1 h2 h3=>jZ.block g h2 ϕ) (fun m hm=> .inl hm)
   have CJ:=(jZ.block _ (aP.1 ZZ.o).1 ϕ).trans ZZ.o;obtain⟨v8,qC,qB,xy⟩:=D7.work;have Cr:v8= .slice (vo) (0) vc:=zaR;rw[Cr] at qC qB xy;clear Cr;(try simp only[List.length_nil] at qB)
   (try simp only[bR,List.length_cons,List.length_nil,Nat.zero_add] at qB)
   obtain⟨p1,p2,p3⟩:=ae (show W.heap[B+1]? =some (.cells #[.pointer (some ⟨B,0,none⟩)] 180 (0,0)) from D7.ptr);obtain⟨p4,p5,p6⟩:=ae (show W.heap[B]? =some (.cells #[hv,lZ,tv,.slice (vo) (0) vc] 279 (0,0)) from qC);obtain⟨p7,p8,p9⟩:=ae CJ;have aaC:=jZ.size;have GA:=aa D7;have Ea:=aa (af qC (af qB xy));have gP:=aa jZ;clear hE hF hc hf jZ D7 qC qB xy CJ c1 f1 l1 c2 f2 q2 c3 f3 l3 ic;obtain⟨gx,hgx,X0,hgx2,yx,XZ⟩: ∃gx,(∀g,(Value.slice (vo) (0) vc).ownBlock=some g->g=gx)/\(gx=w.heap.size∨B+6<=gx)/\gx<W.heap.size/\gx∉Ms/\gx≠bt:=by
    cases xA:(Value.slice (vo) (0) vc).ownBlock with
    |none=>exact⟨w.heap.size,(fun g hg=>by cases hg),.inl rfl,by omega,hwM,by omega⟩
    |some g=>
     exact zbT
   have HG:=aa hgx;clear hgx;have z1:gx≠B:=ϑ;have z2:gx≠B+1:=ϑ;have z1':B≠gx:=ϑ;have z2':B+1≠gx:=ϑ;have z3':bt≠gx:=ϑ
   gi_wp2_with fail
   refine dD 8 [gx] (some 7) [(6,Spec.slice W.heap.size #[iv y0,iv y1,iv y2] 283 1),(7,⟨fun _ v=> ∃o c,v= .slice o (0+1) c,fun _ v Wx=>Wx.ownsRow (B+6) 283 3 v (0+1) ((([])++[ys]).flatMap ag)/\(∀g,v.ownBlock=some g->g=gx∨W.heap.size<=g)⟩)] ϰ ϰ ϰ ?_;simp only[zt];repeat ((first|refine zn ?_|refine zk ?_);simp only[zp])
   refine dI W.heap.size _ _ 1 ϱ (ah _) ϱ (by simpa using hgx2) ϕ (fun W hW=>by go_simp;try rfl) (fun b6=>?_);simp only[zp];refine bn _ ϱ ϱ (by exact⟨.slice none (0+1) 0,none,0,rfl⟩) (fun Wa hE hF=>?_) (fun v Wa Wb ho hE=>?_) (fun v hv=>?_)
   ·exact zcv
   ·exact zaP
   obtain⟨o7,c7,rfl⟩:=hv;simp only[zp];intro W9 hE hF;have G8:Ext [gx] W W9:=hE;obtain⟨Ph,Er⟩:=hF _ (bu _);have xx:W9.heap[B]? =some (.cells #[hv,lZ,tv,.slice (vo) (0) vc] 279 (0,0)):=(G8.block _ p6 (by simpa using z1')).trans Ea.o.1;obtain⟨c9,f9,l9⟩:=ae xx;have yX:=aa G8;have ui:=aa (af Ph (af Er xx));clear hE hF G8 Ph Er p1 p2 p4 p5 p7 p8 xx
   gi_wp2_with fail
   obtain⟨v',hv'⟩: ∃v',Value.slice o7 (0+1) c7=v':=⟨_,rfl⟩;rw[hv'] at ui⊢;have tJ:(W9.setCell ⟨B,3,none⟩ v').heap.size=W9.heap.size:=by simp[World.setCell]
   have hs9:=yX.o.size;have Γ: ∀b,b<W.heap.size->b≠gx->b≠B->(W9.setCell ⟨B,3,none⟩ v').heap[b]? =W.heap[b]? :=fun b hb h1 h2=>
    (dm _ _ _ _ h2).trans (yX.o.block b hb (by simpa using h1))
   have Av: ∀b,b<W7.heap.size->b≠gx->b≠B->(W9.setCell ⟨B,3,none⟩ v').heap[b]? =W7.heap[b]? :=fun b hb h1 h2=>(Γ b ϑ h1 h2).trans (gP.o.block b hb ϕ);have Yk:Dx w Os Ms (W9.setCell ⟨B,3,none⟩ v'):=vR.o.own (vR.o.ext.trans ⟨yX.o.os.trans gP.o.os,yX.o.tape.trans gP.o.tape,yX.o.output.trans gP.o.output,by rw[tJ];omega,fun b hb=>(dm _ _ _ _ (by show b≠B;omega)).trans ((yX.o.block b (by have:=vR.o.ext.size;omega) ϗ).trans (gP.o.block b (by have:=vR.o.ext.size;omega) ϕ))⟩) (by rw[tJ];omega);have hlen1:(([])++[ys]).length=0+1:=ϕ;exact zav
  ·have hz3:=H3.o z ϕ;obtain⟨gb,gc,hvv,hgb,Nw,Ih⟩:=zB (A:=A) (z:=z) (by simpa using HV.o.2.1) (fun x hx=>H3.o x (by simp[hx])) hz3;have hcap:vo=some ⟨gb,0,none⟩:=by simp at hvv;exact hvv.1
   subst hcap;have hzl:(ag z).length=3:=by simp[ag,hz3]
   (try simp only[bR,List.length_cons,List.length_nil,Nat.zero_add] at c2)
   (try simp only[bR,List.length_cons,List.length_nil,Nat.zero_add] at HV)
   (try simp only[bR,List.length_cons,List.length_nil,Nat.zero_add] at HBV)
   (try simp only[bR,List.length_cons,List.length_nil,Nat.zero_add] at hlk)
   have hAI:((A.length:Int)+1==0)=false:=by simp;omega
   have hA0: ¬((A.length:Int)+1=0):=ϑ;have hA1:((A.length:Int)+1).toNat=A.length+1:=ϑ;have hAm:(A.length:Int)+1-1=A.length:=ϑ;have hy3:ys.length=3:=yV.o.2;have hq:=GG.o A z rfl;refine dD 22 [] none [] ϰ ϰ ϰ ?_;simp only[zt];repeat ((first|refine zn ?_|refine zk ?_);simp only[zp])
   refine eU ϱ (.pointer (some ⟨gb,A.length*3,none⟩)) ϱ (fun W hW=>by go_simp;(try simp(disch:=omega) only[IntWalk.i64_in]);(try rw[aB ϑ]);(try simp);(try (intro hx;exfalso;omega))) ?_
   simp only[zp];refine eU ϱ (.agg (ag z).toArray) ϱ (fun W hW=>jo 283 _ ϱ gb (A.length*3) ϱ (ag z) _ (fun j u hj=>(hW gb _ Nw ϕ).trans (Ih j u hj)) Tryz.underlying283 rfl (by rw[hzl];kernel_rfl)) ?_;simp only[zp];refine eU ϱ (.agg #[iv y0,iv y1,iv y2]) ϱ (fun W hW=>by go_simp;try rfl) ?_;simp only[zp];refine eU ϱ (.bool true) ϱ (fun W hW=>(lU 283 3 _ 3 _ _ ϱ Tryz.underlying283 Tryz.underlying3 (by intro w;go_simp) ϰ z [y0,y1,y2] ϱ ϱ hz3 ϱ).trans (by rw[yV.o.1] at hq;rw[hq];rfl)) ?_;simp only[zp];repeat ((first|refine zn ?_|refine zk ?_);simp only[zp])
   intro W hE hF;obtain⟨hc,hf⟩:=bA hE.below;have ic:=hE.size;(try simp only[bg] at ic)
   have jZ:Ext [] W7 W:=hE;have D7:LQ B hv lZ tv (A++[z]) Ms W:=PT.o.kept jZ.size (fun b h1 h2=>jZ.block b (by have:=(χ b (Φ b h1 ϑ)).2;omega) ϕ) (fun g h1 h2 h3=>jZ.block g h2 ϕ) (fun m hm=> .inl hm)
   have CJ:=(jZ.block _ (aP.1 ZZ.o).1 ϕ).trans ZZ.o;obtain⟨v8,qC,qB,xy⟩:=D7.work;have Cr:v8= .slice ((some ⟨gb,0,none⟩)) ((A.length+1)) vc:=zaR;rw[Cr] at qC qB xy;clear Cr;(try simp only[List.length_nil] at qB)
   (try simp only[bR,List.length_cons,List.length_nil,Nat.zero_add] at qB)
   obtain⟨p1,p2,p3⟩:=ae (show W.heap[B+1]? =some (.cells #[.pointer (some ⟨B,0,none⟩)] 180 (0,0)) from D7.ptr);obtain⟨p4,p5,p6⟩:=ae (show W.heap[B]? =some (.cells #[hv,lZ,tv,.slice ((some ⟨gb,0,none⟩)) ((A.length+1)) vc] 279 (0,0)) from qC);obtain⟨p7,p8,p9⟩:=ae CJ;have aaC:=jZ.size;have GA:=aa D7;have Ea:=aa (af qC (af qB xy));have gP:=aa jZ;clear hE hF hc hf jZ D7 qC qB xy CJ c1 f1 l1 c2 f2 q2 c3 f3 l3 ic;obtain⟨gx,hgx,X0,hgx2,yx,XZ⟩: ∃gx,(∀g,(Value.slice ((some ⟨gb,0,none⟩)) ((A.length+1)) vc).ownBlock=some g->g=gx)/\(gx=w.heap.size∨B+6<=gx)/\gx<W.heap.size/\gx∉Ms/\gx≠bt:=by
    cases xA:(Value.slice ((some ⟨gb,0,none⟩)) ((A.length+1)) vc).ownBlock with
    |none=>exact⟨w.heap.size,(fun g hg=>by cases hg),.inl rfl,by omega,hwM,by omega⟩
    |some g=>
     exact zbT
   have HG:=aa hgx;clear hgx;have z1:gx≠B:=ϑ;have z2:gx≠B+1:=ϑ;have z1':B≠gx:=ϑ;have z2':B+1≠gx:=ϑ;have z3':bt≠gx:=ϑ
   gi_wp2_with fail
   refine dD 8 [gx] (some 7) [(6,Spec.slice W.heap.size #[iv y0,iv y1,iv y2] 283 1),(7,⟨fun _ v=> ∃o c,v= .slice o ((A.length+1)+1) c,fun _ v Wx=>Wx.ownsRow (B+6) 283 3 v ((A.length+1)+1) (((A++[z])++[ys]).flatMap ag)/\(∀g,v.ownBlock=some g->g=gx∨W.heap.size<=g)⟩)] ϰ ϰ ϰ ?_;simp only[zt];repeat ((first|refine zn ?_|refine zk ?_);simp only[zp])
   refine dI W.heap.size _ _ 1 ϱ (ah _) ϱ (by simpa using hgx2) ϕ (fun W hW=>by go_simp;try rfl) (fun b6=>?_);simp only[zp];refine bn _ ϱ ϱ (by exact⟨.slice none ((A.length+1)+1) 0,none,0,rfl⟩) (fun Wa hE hF=>?_) (fun v Wa Wb ho hE=>?_) (fun v hv=>?_)
   ·exact zcv
   ·exact zaP
   obtain⟨o7,c7,rfl⟩:=hv;simp only[zp];intro W9 hE hF;have G8:Ext [gx] W W9:=hE;obtain⟨Ph,Er⟩:=hF _ (bu _);have xx:W9.heap[B]? =some (.cells #[hv,lZ,tv,.slice ((some ⟨gb,0,none⟩)) ((A.length+1)) vc] 279 (0,0)):=(G8.block _ p6 (by simpa using z1')).trans Ea.o.1;obtain⟨c9,f9,l9⟩:=ae xx;have yX:=aa G8;have ui:=aa (af Ph (af Er xx));clear hE hF G8 Ph Er p1 p2 p4 p5 p7 p8 xx
   gi_wp2_with fail
   obtain⟨v',hv'⟩: ∃v',Value.slice o7 ((A.length+1)+1) c7=v':=⟨_,rfl⟩;rw[hv'] at ui⊢;have tJ:(W9.setCell ⟨B,3,none⟩ v').heap.size=W9.heap.size:=by simp[World.setCell]
   have hs9:=yX.o.size;have Γ: ∀b,b<W.heap.size->b≠gx->b≠B->(W9.setCell ⟨B,3,none⟩ v').heap[b]? =W.heap[b]? :=fun b hb h1 h2=>
    (dm _ _ _ _ h2).trans (yX.o.block b hb (by simpa using h1))
   have Av: ∀b,b<W7.heap.size->b≠gx->b≠B->(W9.setCell ⟨B,3,none⟩ v').heap[b]? =W7.heap[b]? :=fun b hb h1 h2=>(Γ b ϑ h1 h2).trans (gP.o.block b hb ϕ);have Yk:Dx w Os Ms (W9.setCell ⟨B,3,none⟩ v'):=vR.o.own (vR.o.ext.trans ⟨yX.o.os.trans gP.o.os,yX.o.tape.trans gP.o.tape,yX.o.output.trans gP.o.output,by rw[tJ];omega,fun b hb=>(dm _ _ _ _ (by show b≠B;omega)).trans ((yX.o.block b (by have:=vR.o.ext.size;omega) ϗ).trans (gP.o.block b (by have:=vR.o.ext.size;omega) ϕ))⟩) (by rw[tJ];omega);have hlen1:((A++[z])++[ys]).length=(A.length+1)+1:=ϕ;exact zav
 case hdone=>
  rintro Ms W ⟨hF,hP⟩ hD tX;rw[List.take_length] at hP;obtain⟨v,Β,Μ,hv3⟩:=hP.work;obtain⟨vo,vc,rfl⟩:=aL Μ;obtain⟨c1,f1,l1⟩:=ae hP.ptr;obtain⟨c2,f2,l2⟩:=ae Β;have GH:=aa hF;have HV:=aa (af Β Μ);have hcnt:((dh c []).map jm).length<=2000:=by rw[kC];exact rF mK.o []
  have hemp:((dh c []).isEmpty=true)↔((dh c []).map jm).length=0:=ϕ;have HEM:=aa hemp;clear hF hP Β Μ hv3 hemp;generalize hls:(dh c []).map jm=ls at*
  have AX:=aa hls;clear hls;by_cases hn:ls.length=0
  ·have hn':(((ls.length:Nat):Int)==0)=true:=by simpa using hn
   have WJ:Hid (gT c true=11):=aa (by rw[HE.o,aB (HEM.o.2 hn)]);clear hn
   gi_wp2_with fail
   refine⟨by simp,.inl ⟨_,_,rfl,run_takeDeferred hD,?_⟩⟩;exact⟨.tuple #[.pointer none,.int .i64 11],by simp[results,Tryz.results81,go_sem],(GH.o.put (Obj.deferred none) ϑ).ext,.inl ⟨by rw[WJ.o];simp,by rw[WJ.o]⟩⟩
  ·have hn':(((ls.length:Nat):Int)==0)=false:=by simpa using hn
   have HE0:Hid (gT c true=0):=aa (by rw[HE.o,aj (fun h=>hn (HEM.o.1 h))]);clear hn
   gi_wp2_with fail
   refine⟨by simp,.inl ⟨_,_,rfl,run_takeDeferred hD,?_⟩⟩;refine⟨.tuple #[.pointer (some ⟨B,0,none⟩),.int .i64 0],by simp[results,Tryz.results81,go_sem],(GH.o.put (Obj.deferred none) ϑ).ext,.inr ⟨HE0.o,B,.slice vo ls.length vc,rfl,by omega,?_⟩⟩;rw[Zx,adS,Gb,AX.o];refine⟨?_,?_⟩
   ·exact(World.putObj_heap_other ϑ).trans HV.o.1
   ·exact zce
 case hstop=>rintro cd Ms W h;exact h.elim
attribute [local go_sem] Oper.semAt_some
theorem OV {w:World} {o:Option Addr} {n c:Nat} {ls:List (List Int)} (h:aH 3 w (.slice o n c) (ls.map jm).length ((ls.map jm).flatMap ag)) (h3: ∀x∈ls,x.length<=3) {k:Nat} (hk:k<ls.length):
 ∃b off y0 y1 y2,o=some ⟨b,off,none⟩/\b<w.heap.size/\jm ls[k]=[y0,y1,y2]/\w.cell? ⟨b,off+k*3,none⟩=some (iv y0)/\w.cell? ⟨b,off+k*3+1,none⟩=some (iv y1)/\w.cell? ⟨b,off+k*3+2,none⟩=some (iv y2):=by
 obtain⟨hl,o',c',hv,h1,h2,h4,h5⟩:=h;cases hv;obtain⟨y0,y1,y2,ω⟩:=lM (uY (h3 _ (bK hk)));rw[kC] at h1;cases o with
 |none=>have:=h4 rfl;omega
 |some a=>
  obtain⟨b,off,sp⟩:=a;obtain⟨hs,hc⟩:=h5 _ rfl;simp only at hs hc;subst hs;have g: ∀j,j<3->((ls.map jm).flatMap ag)[k*3+j]? =[iv y0,iv y1,iv y2][j]? :=fun j hj=>by
   rw[CS ag 3 (ls.map jm) (fun x hx=>by
    obtain⟨t,ht,rfl⟩:=gU.1 hx;simp[ag,uY (h3 t ht)]) k j (by rw[kC];exact hk) hj,List.getElem_map,ω]
   rfl
  exact zbf
theorem Ia (w:World):Ϝ 82 #[] w (PV (.bool true) w):=by
 go_enter Tryz.func82,Tryz.ntmps82;go_wp2;go_returns;exact⟨by simp,aC _ _⟩
theorem Kn (c:bE) (hS:lL c) (hv lZ tv v:Value) (es:List KE) (wb:Nat) (i:Nat) (hi:kZ c i) (w:World) (hc:pJ w hv lZ tv es c) (hpos:0<(dh c []).length) (hw:Oo w wb hv lZ tv v ((dh c []).map jm)):
 Ϝ 83 #[.pointer (some ⟨wb,0,none⟩),iv i] w (PV (rv (xX c i)) w):=by
 obtain⟨oh,ch,rfl⟩:=hc.heaps.open;obtain⟨ok,ck,rfl⟩:=hc.aR.open;obtain⟨ot,ct,rfl⟩:=hc.aI.open;rw[hc.len] at hc hw;have hcnt:=rF hS [];have hall: ∀s∈dh c [],Str c s:=fun s hs=>qz hS (kM s hs);have h3: ∀x∈dh c [],x.length<=3:=fun x hx=>by have h1:=(hall x hx).1;have h2:=hS.h3;omega
 obtain⟨vo,vc,rfl⟩:=hw.truth.open;have HOF:=aa (fun(s:List Int) (hs:Str c s) (x0 x1 x2:Int) (hx:jm s=[x0,x1,x2]) (W:World) (hb:Ϙ w W)=>O6 c hS oh ok ch ck (.slice ot c.aI.length ct) es s x0 x1 x2 hx hs i hi W (hc.aR.below hb (ah _)) hc.is);have Bq:=aa hw;have HL:=aa (af hpos (af hall (af h3 hcnt)));have I1:=aa (fun k (hk:k<=(dh c []).length)=>OX hS (fun s hs=>kM s hs) hpos hi k hk);have HOB:=aa (fun(s:List Int) (hs:Str c s)=>Uj hS hs.1 hs.2 hi);unfold xX;have hmap:((dh c []).map jm).length=(dh c []).length:=ϕ;have HMP:=aa hmap;clear hc hS hall h3 hpos hcnt hmap;generalize dh c []=ls at*
 obtain⟨d1,g1,m1⟩:=ae hw.cells;obtain⟨b,off,y0,y1,y2,hvv,hb,ω,r0,r1,r2⟩:=OV hw.truth HL.o.2.2.1 HL.o.1;rw[HMP.o] at d1;cases hvv;have hD:=HOF.o _ (HL.o.2.1 _ (bK HL.o.1)) y0 y1 y2 ω;have hdb:=HOB.o _ (HL.o.2.1 _ (bK HL.o.1));have hr0:xn c ls i 0=(D6 c (ls[0]'HL.o.1) i,D6 c (ls[0]'HL.o.1) i):=by
  unfold xn;rw[show ls.getD 0 []=ls[0]'HL.o.1 from by simp[List.getD,HL.o.1]]
  rfl
 generalize D6 c (ls[0]'HL.o.1) i=d at*
 have HD:=aa hD;have HR0:=aa hr0;simp only[Nat.zero_mul,Nat.add_zero] at r0 r1 r2;have adw:0<ls.length:=HL.o.1;have amQ:ls.length<=2000:=HL.o.2.2.2;clear hw ω hD hr0 hi;go_enter Tryz.func83,Tryz.ntmps83;go_upto_region 1 with(fail)
 refine dz fun W1 σ=>?_;have hB1:Ϙ w W1:=by rw[σ];exact zl
 have hk4:W1.heap[w.heap.size]? =some (.cells #[iv 0,iv 0] 129 (0,0)):=by rw[σ];exact av _ _
 have e0:=(hB1.cell (p:=⟨b,off,none⟩) hb).trans r0;have e1:=(hB1.cell (p:=⟨b,off+1,none⟩) hb).trans r1;have e2:=(hB1.cell (p:=⟨b,off+2,none⟩) hb).trans r2;have ζ:b<W1.heap.size:=by have:=hB1.size;omega
 have Nq:=Bq.o.below hB1 (ah _);obtain⟨n1,n2,n3⟩:=ae Nq.cells;rw[HMP.o] at n1;have H1:=aa (af hB1 hk4);clear σ hB1 hk4 r0 r1 r2 hb d1 g1 m1 Nq;refine zg 12 [] none [(11,Spec.val (iv d))] ?_;simp only[zt];repeat ((first|refine zn ?_|refine zk ?_);simp only[zp])
 refine zw 141 (h:=fun W hE hF=>by exact HD.o W (aV H1.o.1 hE.below)) (t:=?_)
 simp only[zp];intro W hE hF;obtain⟨hc,hf⟩:=bA hE.below;have ic:=hE.size;(try simp only[bg] at ic)
 have hB2:=aV H1.o.1 hE.below;have ad1:=(hE.block _ (aP.1 H1.o.2).1 ϕ).trans H1.o.2;have H2:=aa (af hB2 ad1);have ac8:=Bq.o.below hB2 (ah _);clear hE hF hc hf ic e0 e1 e2 ζ n1 n2 n3 hB2 ad1;obtain⟨n1,n2,n3⟩:=ae ac8.cells;rw[HMP.o] at n1;clear ac8;go_upto_region 3 with(fail)
 refine dz fun W3 Η=>?_;have hB3:Ϙ W W3:=by rw[Η];exact zl
 have sJ:W3.heap[W.heap.size]? =some (.cells #[iv d,iv d] 129 (0,0)):=by rw[Η];exact av _ _
 have adZ:=(hB3.block _ (aP.1 H2.o.2).1).trans H2.o.2;have hwW:w.heap.size<W.heap.size:=(aP.1 H2.o.2).1;have H3:=aa (af (aV H2.o.1 hB3) (af sJ adZ));have ac7:=Bq.o.below H3.o.1 (ah _);clear Η hB3 sJ adZ n1 n2 n3;obtain⟨n1,n2,n3⟩:=ae ac7.cells;rw[HMP.o] at n1;clear ac7;obtain⟨b9,tK⟩: ∃b9,W.heap.size=b9:=⟨_,rfl⟩;rw[tK] at H3 hwW⊢;clear tK H2;go_wp2_with fail
 go_loopw [29] (fun u wq=> ∃k:Nat,k<=ls.length/\u= .int .i64 k/\wq.heap[b9]? =some (.cells #[iv (xn c ls i k).1,iv (xn c ls i k).2] 129 (0,0))/\wq.heap[w.heap.size]? =some (.cells #[iv 0,iv 0] 129 (0,0))/\Ϙ w wq) (fun u _=>ls.length-(intOf u).toNat)
 case atStart=>exact⟨0,bD _,rfl,by rw[HR0.o];exact H3.o.2.1,H3.o.2.2,H3.o.1⟩
 case round=>
  obtain⟨k,hk,rfl,MR,π,hB⟩:=hrel;by_cases hlk:k<ls.length
  ·have Δ:=Bq.o.below hB (ah _);obtain⟨q1,q2,q3⟩:=ae Δ.cells;rw[HMP.o] at q1;obtain⟨e1,e2,e3⟩:=ae MR;obtain⟨b',off',z0,z1,z2,hvv,hb',hzs,s0,s1,s2⟩:=OV Δ.truth HL.o.2.2.1 hlk;cases hvv;have UC:=HL.o.2.1 _ (bK hlk);have hD2:=HOF.o _ UC z0 z1 z2 hzs;have hsu:=Fy (c:=c) (i:=i) hlk;have ah0:=HOB.o _ UC;have hrb:=I1.o k hk;generalize D6 c ls[k] i=d2 at*
   generalize hrk:xn c ls i k=r at*
   have HD2:=aa hD2;have uq:=aa hsu;have HQ:=aa (af MR (af π hB));clear hzs hD2 hsu MR π hB Δ UC hrk n1 n2 n3;have adM:(k:Int)<ls.length:=ϑ;go_upto_region 6 with(fail)
   refine dz fun W5 vD=>?_;have uD:Ϙ wr W5:=by rw[vD];exact zl
   have hk5:W5.heap[wr.heap.size]? =some (.cells #[iv z0,iv z1,iv z2] 283 (0,0)):=by rw[vD];exact av _ _
   have Nz:=(uD.block _ e3).trans HQ.o.1;have hw5:=Bq.o.below (aV HQ.o.2.2 uD) (ah _);have Y7:=aa (af (aV HQ.o.2.2 uD) (af Nz ((uD.block _ (aP.1 HQ.o.2.1).1).trans HQ.o.2.1)));clear vD uD q1 q2 q3 e1 e2 s0 s1 s2 hb';obtain⟨q1,q2,q3⟩:=ae hw5.cells;rw[HMP.o] at q1;obtain⟨e1,e2,e4⟩:=ae Nz;obtain⟨p1,p2,p3⟩:=ae hk5;clear hw5 Nz hk5;refine zg 9 [] none [(7,Spec.val (iv d2)),(8,Spec.val (rv (wid r d2)))] ?_;simp only[zt];repeat ((first|refine zn ?_|refine zk ?_);simp only[zp])
   refine zw 141 (h:=fun W hE hF=>by exact HD2.o W (aV Y7.o.1 hE.below)) (t:=?_)
   simp only[zp];refine zw 142 (h:=fun W hE hF=>by exact Nb r d2 W) (t:=?_);simp only[zp];intro W hE hF;obtain⟨hc,hf⟩:=bA hE.below;have ic:=hE.size;(try simp only[bg] at ic)
   have HE:=aa hE;clear hF ic;go_wp2_with fail
   go_roundw
   case rel=>
    refine⟨k+1,by omega,by go_num,?_,?_,?_⟩
    ·rw[uq.o];exact aG (aG ((HE.o.block _ e4 ϕ).trans Y7.o.2.1) _) _
    ·have h1:=(HE.o.block _ (aP.1 Y7.o.2.2).1 ϕ).trans Y7.o.2.2;exact(dm _ _ _ _ (by show w.heap.size≠b9;omega)).trans ((dm _ _ _ _ (by show w.heap.size≠b9;omega)).trans h1)
    ·exact gu (gu (aV Y7.o.1 HE.o.below) (show w.heap.size<=b9 by omega) _) (show w.heap.size<=b9 by omega) _
   case measure=>simp[intOf];omega
  ·have XI:k=ls.length:=ϑ;subst XI;have hrb:=I1.o _ (ah _);generalize xn c ls i ls.length=r at*
   obtain⟨e1,e2,e3⟩:=ae MR;obtain⟨p1,p2,p3⟩:=ae π;have HQ:=aa (af π hB);clear MR π hB n1 n2 n3;go_wp2_with fail
   refine bodyPost_ret (v:=rv r) (results_cell_row Tryz.results83 _ _ w.heap.size _ _ (0,0) _ rfl (aG (aG HQ.o.1 _) _) Tryz.underlying129 rfl ϰ) rfl ?_;exact⟨rfl,gu (gu HQ.o.2 (ah _) _) (ah _) _⟩
theorem tKR:gJ Tryz.prog 56 129 (rv (0,0)) 2 16:=⟨Tryz.underlying56,by kernel_rfl,rfl,by omega⟩
def Za (c:bE) (w:World) (e:Ending) (w':World):Prop:=
 Ϙ w w'/\((gT c true≠0/\e= .returned (.tuple #[.slice none 0 0,.slice none 0 0,iv (gT c true)]))∨
  (gT c true=0/\ ∃v u,e= .returned (.tuple #[v,u,iv 0])/\bF w' v (qD c)/\bF w' u (iG c)))
theorem KA (c:bE) {i:Nat} (hi:i<c.heaps.length):(qD c).take (i+1)=(qD c).take i++[xX c i]:=by
 rw[oQ];congr 1;unfold qD;simp[hi]
theorem Lf (c:bE) {i:Nat} (hi:i<c.aR.length):(iG c).take (i+1)=(iG c).take i++[xX c (c.heaps.length+i)]:=by
 rw[oQ];congr 1;unfold iG;simp[hi]
theorem FN (a b:List dF):aD (a++b)=aD a++aD b:=by simp[aD]
theorem vg (c:bE) (hv lZ tv:Value) (es:List KE) (w:World) (hc:pJ w hv lZ tv es c):Ϝ 45 #[kv hv lZ tv] w (Za c w):=by
 obtain⟨oh,ch,rfl⟩:=hc.heaps.open;obtain⟨ok,ck,rfl⟩:=hc.aR.open;obtain⟨ot,ct,rfl⟩:=hc.aI.open;rw[hc.len] at hc⊢;have HA:=aa (fun(W:World) (hb:Ϙ w W)=>Ng c (.slice oh c.heaps.length ch) (.slice ok c.aR.length ck) (.slice ot c.aI.length ct) es 82 #[] true W (hc.below hb (ah _)) (enters_of Tryz.func82 ϰ rfl) (fun W _=>Ia W));have HC':Hid (∀W,Ϙ w W->pJ W (.slice oh c.heaps.length ch) (.slice ok c.aR.length ck) (.slice ot c.aI.length ct) es c):=aa (fun W hb=>hc.below hb (ah _));clear hc;go_enter Tryz.func45,Tryz.ntmps45;go_wp2_with fail
 refine(HA.o _ (ai (aC _ _) _)).mono ?_;rintro e w1 ⟨hb,⟨hne,rfl⟩|⟨h0,wb,v,rfl,hwb,hwk⟩⟩
 ·have HB:=aa (show Ϙ w w1 from zl);obtain⟨q,hq⟩: ∃q,gT c true=q:=⟨_,rfl⟩;exact zbz
 have HB:=aa (show Ϙ w w1 from zl);have hk0:w1.heap[w.heap.size]? =some (.cells #[.slice oh c.heaps.length ch,.slice ok c.aR.length ck,.slice ot c.aI.length ct] 60 (0,0)):=(hb.block _ ϕ).trans (av _ _);clear hb;obtain⟨hS,hpos,_⟩:=Dm h0;have hh3:=hS.h3;have Ω:=hS.c3;have I7:=aa (fun(i:Nat) (hi:kZ c i) (W:World) (hb:Ϙ w1 W)=>Kn c hS (.slice oh c.heaps.length ch) (.slice ok c.aR.length ck) (.slice ot c.aI.length ct) v es wb i hi W (HC'.o W (aV HB.o hb)) hpos (hwk.below hb (ah _)));have H0:=aa h0;have HK0:=aa hk0;have HHL:=aa (fun i (hi:i<c.heaps.length)=>KA c hi);have HKL:=aa (fun i (hi:i<c.aR.length)=>Lf c hi);have Tk:Hid ((qD c).length=c.heaps.length/\(iG c).length=c.aR.length):=aa (by simp[qD,iG]);obtain⟨c0,f0,l0⟩:=ae hk0;clear hS hpos hwk h0 hk0 hwb;go_wp2_with fail
 go_loopw [2,19] (fun ov u wr=> ∃i:Nat,i<=c.heaps.length/\u= .int .i64 i/\(∃oo oc,ov= .slice oo i oc/\wr.ownsRow w1.heap.size 129 2 (.slice oo i oc) i (aD ((qD c).take i)))/\Ϙ w1 wr) (fun _ u _=>c.heaps.length-(intOf u).toNat)
 case atStart=>exact⟨0,bD _,rfl,⟨none,0,rfl,⟨rfl,.inl ⟨rfl,rfl⟩⟩⟩,aC _ _⟩
 case round=>
  obtain⟨i,hi,rfl,⟨oo,oc,rfl,η⟩,hB⟩:=hrel;by_cases tX:i<c.heaps.length
  ·have hD:=I7.o i (by unfold kZ;omega) wr hB;have hsu:=HHL.o i tX;generalize xX c i=r at hD hsu;have HOW:=aa η;have WL:=aa hB;have uq:=aa hsu;clear η hB hsu c0 f0 l0;go_wp2_with fail
   refine hD.mono ?_;rintro e w2 ⟨rfl,θ⟩;have Ra:=aa θ;have Ψ:=az (Ms:=[]) HOW.o (Ext.ay θ) ϕ;have xQ:=aa Ψ;have hsz2:=θ.size;have hsz1:=WL.o.size;clear hD θ Ψ;go_wp2_with (at_builtin;go_loud (refine dB rfl _ _ tKR rfl w1.heap.size (.slice oo i oc) i (aD ((qD c).take i)) rfl (az (Ms:=[]) xQ.o (Ext.ay (ai (aC _ _) _)) ϕ) (.slice (some ⟨w2.heap.size,0,none⟩) 1 1) 1 [iv r.1,iv r.2] rfl (aH.bS 2 1 (av _ _) rfl ϖ) (by simp[Value.oneCell']) ϑ ϑ ϗ ?_))
   intro v' w3 Fw TF hN;obtain⟨o3,c3,rfl⟩:=aL Fw;have Zn:=vO WL.o HOW.o ((Ext.ay Ra.o).trans (Ext.ay (ai (aC _ _) _))) Fw TF (ah _) WL.o.size;have HP:=aa (af Zn Fw);clear Zn Fw TF hN;go_wp2_with fail
   go_roundw
   case rel=>
    refine⟨i+1,by omega,by go_num,⟨o3,c3,rfl,?_⟩,HP.o.1.1⟩;rw[uq.o,FN];exact HP.o.2
   case measure=>simp[intOf];omega
  ·obtain rfl:i=c.heaps.length:=ϑ;have hk1:=(hB.block _ (aP.1 HK0.o).1).trans HK0.o;obtain⟨n0,n1,n2⟩:=ae hk1;have HH:=aa (af η (af hB hk1));clear η hB hk1 c0 f0 l0;go_wp2_with fail
   generalize wr=wm at*
   go_loopw [3,32] (fun ov u wq=> ∃j:Nat,j<=c.aR.length/\u= .int .i64 j/\(∃o2 c2,ov= .slice o2 j c2/\wq.ownsRow wm.heap.size 129 2 (.slice o2 j c2) j (aD ((iG c).take j)))/\Ϙ wm wq) (fun _ u _=>c.aR.length-(intOf u).toNat)
   case atStart=>exact⟨0,bD _,rfl,⟨none,0,rfl,⟨rfl,.inl ⟨rfl,rfl⟩⟩⟩,aC _ _⟩
   case round=>
    obtain⟨j,hj,rfl,⟨o2,c2,rfl,η⟩,hB⟩:=hrel;by_cases tX:j<c.aR.length
    ·have hBw:=aV HH.o.2.1 hB;have hD:=I7.o (c.heaps.length+j) (by unfold kZ;omega) _ hBw;have hsu:=HKL.o j tX;generalize xX c (c.heaps.length+j)=r at hD hsu;rw[show((c.heaps.length+j:Nat):Int)=(c.heaps.length:Int)+j from by omega] at hD;have hkk:=(hB.block _ (aP.1 HH.o.2.2).1).trans HH.o.2.2;obtain⟨a0,a1,a2⟩:=ae hkk;have HOW:=aa η;have WL:=aa hB;have uq:=aa hsu;clear η hB hBw hsu hkk n0 n1 n2;go_wp2_with fail
     refine hD.mono ?_;rintro e w2 ⟨rfl,θ⟩;have Ra:=aa θ;have Ψ:=az (Ms:=[]) HOW.o (Ext.ay θ) ϕ;have xQ:=aa Ψ;have hsz2:=θ.size;have hsz1:=WL.o.size;clear hD θ Ψ a0 a1 a2;go_wp2_with (at_builtin;go_loud (refine dB rfl _ _ tKR rfl wm.heap.size (.slice o2 j c2) j (aD ((iG c).take j)) rfl (az (Ms:=[]) xQ.o (Ext.ay (ai (aC _ _) _)) ϕ) (.slice (some ⟨w2.heap.size,0,none⟩) 1 1) 1 [iv r.1,iv r.2] rfl (aH.bS 2 1 (av _ _) rfl ϖ) (by simp[Value.oneCell']) ϑ ϑ ϗ ?_))
     intro v' w3 Fw TF hN;obtain⟨o3,c3,rfl⟩:=aL Fw;have Zn:=vO WL.o HOW.o ((Ext.ay Ra.o).trans (Ext.ay (ai (aC _ _) _))) Fw TF (ah _) WL.o.size;have HP:=aa (af Zn Fw);clear Zn Fw TF hN;go_wp2_with fail
     go_roundw
     case rel=>
      refine⟨j+1,by omega,by go_num,⟨o3,c3,rfl,?_⟩,HP.o.1.1⟩;rw[uq.o,FN];exact HP.o.2
     case measure=>simp[intOf];omega
    ·obtain rfl:j=c.aR.length:=ϑ;have HX:=aa (af η hB);clear η hB n0 n1 n2;go_wp2_with fail
     go_returns;refine⟨aV HB.o (aV HH.o.2.1 HX.o.2),.inr ⟨H0.o,.slice oo c.heaps.length oc,.slice o2 c.aR.length c2,by simp,?_,?_⟩⟩
     ·have h1:=aH.bV (az (Ms:=[]) HH.o.1 (Ext.ay HX.o.2) ϕ);rw[show(qD c).take c.heaps.length=qD c from by rw[<-Tk.o.1,List.take_length]] at h1
      show aH 2 _ _ (qD c).length _;rw[Tk.o.1];exact h1
     ·have h1:=aH.bV HX.o.1;rw[show(iG c).take c.aR.length=iG c from by rw[<-Tk.o.2,List.take_length]] at h1
      show aH 2 _ _ (iG c).length _;rw[Tk.o.2];exact h1
end Go.Proofs.Z.uL
end

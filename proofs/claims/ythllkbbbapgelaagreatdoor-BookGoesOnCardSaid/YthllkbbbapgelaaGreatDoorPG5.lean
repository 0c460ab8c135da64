/-
  Texts of this claim, packed by a program: PA PE PH.
-/
import Derived.WalkKit
import Derived.WalkLawsBesides
import Derived.WalkSpells
import Derived.Outline
import Derived.Handy
import Derived.KernelRfl
import Derived.Lib.Hide
import Derived.Deep.Cut
import Derived.Laws.CopyRow
import Derived.Test.YthllkbbbapgelaaGreatDoorPG4
set_option maxHeartbeats 8000000
set_option maxRecDepth 100000
set_option linter.all false
theorem _root_.zcA {P:Prop} (h:P:=by
 go_wp2_with (go_at_call 306;refine(uM _ _ _ _).mono ?_;rintro e w' ⟨rfl,hb⟩)
 exact za0):P:=h
theorem _root_.zcx {P:Prop} (h:P:=by
 have hC:=HC.o k tX wr GX hI;exact zae):P:=h
theorem _root_.zcB {P:Prop} (h:P:=by
 go_wp2_with fail
 refine(HC.o _).mono ?_;rintro e w' ⟨rfl,hb⟩;exact zbc):P:=h
theorem _root_.zcz {P:Prop} (h:P:=by
 rintro e w' ⟨rfl,hb⟩;have Qi:=aa (show Ϙ w w' from zl);clear hb;go_wp2_with fail
 refine(HF.o _ Qi.o).mono ?_;rintro e w2 ⟨rfl,hb⟩;have Ra:=aa (aV Qi.o hb);clear hb;exact za8):P:=h
theorem _root_.zbg {P:Prop} (h:P:=by
 go_enter Tryz.func112,Tryz.ntmps112;go_wp2;go_returns;exact⟨by simp,zl⟩):P:=h
theorem _root_.zbc {P:Prop} (h:P:=by
 go_wp2_with fail
 go_returns;exact⟨by simp,zl⟩):P:=h
theorem _root_.zau {P:Prop} (h:P:=by
 go_wp2_with fail
 go_returns;exact⟨by simp,Ra.o⟩):P:=h
theorem _root_.zbD {P:Prop} (h:P:=by
 go_round
 case rel=>exact⟨k+1,by omega,by go_num,by rw[HE.o]⟩
 case measure=>simp[intOf];omega):P:=h
theorem _root_.zbj {P:Prop} (h:P:=by
 simp only[List.forIn_cons,Sem.run_bind,px,py,pe,Result.andThen_ok,List.all_cons];cases hb:(xs.getD i 0==ys.getD i 0)
 ·simp
 ·simp only[Bool.not_true,Bool.false_eq_true,if_false,Sem.run_pure,Result.andThen_ok,Bool.true_and];exact ih fun j hj=>hl j (by simp[hj])):P:=h
theorem _root_.zah {P:Prop} (h:P:=by
 have UQ:JU f out xs (k+1)=(out.contains (k:Int) ||lT D GM GN):=by
  unfold JU at*
  have h1:=iD.o;rw[kN,h1,Bool.true_and,show f.ax.getD k (0,0,0,(0,0))=(tw,ta,tb,(GM,GN)) from by simp[List.getD,tX,Br.o]]
  unfold xm;simp only;rw[HD.o]
 have OI:=aa UQ;clear UQ;by_cases hoc:out.contains (k:Int)=true
 ·have wT:=aa hoc;clear hoc;refine zg 13 [] none [(2,Spec.val (.bool true))] ?_;simp only[zt];repeat ((first|refine zn ?_|refine zk ?_);simp only[zp])
  refine zw 147 (h:=fun W hE hF=>by exact(by have:=gD out (.slice oo out.length oc) (k:Int) W (HO.o.below (LG.o.next hE.below).below (ah _));rw[wT.o] at this;exact this)) (t:=?_)
  simp only[zp];repeat ((first|refine zn ?_|refine zk ?_);simp only[zp])
  intro W hE hF;obtain⟨hc,hf⟩:=bA hE.below;have ic:=hE.size;(try simp only[bg] at ic)
  have SF:=aa (LG.o.next hE.below);clear hE hF;go_wp2_with fail
  go_roundw
  case rel=>exact⟨k+1,by omega,by go_num,by rw[OI.o,wT.o];rfl,SF.o⟩
  case measure=>simp[intOf];omega
 ·have UR:out.contains (k:Int)=false:=by simpa using hoc
  have wT:=aa UR;clear hoc UR;obtain⟨q,hq⟩: ∃q,lT D GM GN=q:=⟨_,rfl⟩;have HQ:=aa hq;clear hq;cases q
  ·skip
   refine zg 13 [] none [(2,Spec.val (.bool false)),(10,Spec.val (.bool false))] ?_;simp only[zt];repeat ((first|refine zn ?_|refine zk ?_);simp only[zp])
   refine zw 147 (h:=fun W hE hF=>by exact(by have:=gD out (.slice oo out.length oc) (k:Int) W (HO.o.below (LG.o.next hE.below).below (ah _));rw[wT.o] at this;exact this)) (t:=?_)
   simp only[zp];repeat ((first|refine zn ?_|refine zk ?_);simp only[zp])
   refine fM ϱ _ ϱ (fun W hE _=>by have:=I6.o W (hE.block _ LG.o.tab.choose_spec.1.lt ϕ);go_simp;try rfl) ?_
   simp only[zp];refine zw 267 (h:=fun W hE hF=>by exact(by have:=uO (GM,GN) D W;rw[HQ.o] at this;exact this)) (t:=?_)
   simp only[zp];repeat ((first|refine zn ?_|refine zk ?_);simp only[zp])
   intro W hE hF;obtain⟨hc,hf⟩:=bA hE.below;have ic:=hE.size;(try simp only[bg] at ic)
   have SF:=aa (LG.o.next hE.below);clear hE hF;go_wp2_with fail
   go_returns;refine⟨?_,SF.o.below⟩;have:ik f out xs=false:=by
    have h1:=OI.o;rw[wT.o,HQ.o] at h1;cases hr:ik f out xs
    ·rfl
    ·unfold ik at hr;rw[dL,iR] at hr;unfold JU at h1;have:((List.range (k+1)).all fun i=>out.contains (i:Int) ||xm xs (f.ax.getD i (0,0,0,(0,0))))=true:=by
      rw[iR];exact fun i hi=>hr.1 i (jL.2 (by have:=jL.1 hi;omega))
     rw[this] at h1;cases h1
   rw[this];simp
  ·skip
   refine zg 13 [] none [(2,Spec.val (.bool false)),(10,Spec.val (.bool true))] ?_;simp only[zt];repeat ((first|refine zn ?_|refine zk ?_);simp only[zp])
   refine zw 147 (h:=fun W hE hF=>by exact(by have:=gD out (.slice oo out.length oc) (k:Int) W (HO.o.below (LG.o.next hE.below).below (ah _));rw[wT.o] at this;exact this)) (t:=?_)
   simp only[zp];repeat ((first|refine zn ?_|refine zk ?_);simp only[zp])
   refine fM ϱ _ ϱ (fun W hE _=>by have:=I6.o W (hE.block _ LG.o.tab.choose_spec.1.lt ϕ);go_simp;try rfl) ?_
   simp only[zp];refine zw 267 (h:=fun W hE hF=>by exact(by have:=uO (GM,GN) D W;rw[HQ.o] at this;exact this)) (t:=?_)
   simp only[zp];repeat ((first|refine zn ?_|refine zk ?_);simp only[zp])
   intro W hE hF;obtain⟨hc,hf⟩:=bA hE.below;have ic:=hE.size;(try simp only[bg] at ic)
   have SF:=aa (LG.o.next hE.below);clear hE hF;go_wp2_with fail
   go_roundw
   case rel=>exact⟨k+1,by omega,by go_num,by rw[OI.o,wT.o,HQ.o];rfl,SF.o⟩
   case measure=>simp[intOf];omega):P:=h
theorem _root_.zbe {P:Prop} (h:P:=by
 by_cases h:i<x.length
 ·rw[List.getD_eq_getElem?_getD,rP h, <-List.getD_eq_getElem?_getD]
 ·rw[List.getD_eq_getElem?_getD,lI ϑ,List.getElem?_replicate];have:x.getD i 0=0:=by rw[List.getD_eq_getElem?_getD,List.getElem?_eq_none ϑ];rfl
  rw[this];split <;>rfl):P:=h
theorem _root_.zaT {P:Prop} (h:P:=by
 have HR1:=aa Bl;have WY:=aa hcn;clear Bl Bb Ρ wN hc hx hcn ζ
 gi_wp2_with fail
 refine HR1.o.mono ?_;rintro e W' ⟨⟨XJ,ν⟩,⟨rfl,hJ⟩|⟨rfl,hJ⟩⟩
 ·have WH:=aa hJ;have HK':=aa XJ;clear hJ XJ
  gi_wp2_with fail
  go_returns;refine .inl ⟨by simp,by rw[WY.o];exact WH.o,o,HO.o.1,HO.o.2.1,HO.o.2.2.1,(HS.o.below Qi.o).kept (fun m hm lg=>HK'.o m hm ϕ lg)⟩
 ·have WH:=aa hJ;clear hJ XJ
  gi_wp2_with fail
  go_returns;exact .inr ⟨by simp,WH.o⟩):P:=h
theorem _root_.zbl {P:Prop} (h:P:=by
 refine⟨c+1,by omega,by go_num,o2,xQ.o.1,?_,xQ.o.2.2,Oz.o,?_⟩
 ·have:=congrArg (List.take i) xQ.o.2.1;exact zcL
 ·rw[Nat.add_mul,Nat.one_mul, <-Nat.add_assoc];exact HJ2.o):P:=h
theorem _root_.zcp {P:Prop} (h:P:=by
 refine .inl ⟨by simp,?_,o',HO.o.1,HO.o.2.1,HO.o.2.2,Dr.o⟩;rw[HCZ.o];exact OL.o):P:=h
theorem _root_.zbN {P:Prop} (h:P:=by
 exact(aS _ _ _ ϗ).trans ((aS _ _ _ ϕ).trans (av _ _))):P:=h
theorem _root_.zaZ {P:Prop} (h:P:=by
 refine⟨⟨v,(hk _ ϑ ϑ).trans h1,bU h2 fun g hg=>ho g (aW h2 g hg).1 (aW h2 g hg).2 (h3 g hg).1,fun g hg=>⟨fun hm=>?_,by have:=(h3 g hg).2;omega⟩⟩,
  (hk _ ϑ ϑ).trans h.ptr,(hk _ ϑ ϑ).trans h.b2,(hk _ ϑ ϑ).trans h.b3⟩
 rcases hM g hm with h4|h4
 ·exact(h3 g hg).1 h4
 ·have:=(h3 g hg).2;omega):P:=h
theorem _root_.zaP {P:Prop} (h:P:=by
 exact⟨az (Ms:=[]) ho.1 hE ϕ,ho.2⟩):P:=h
theorem _root_.za3 {P:Prop} (h:P:=by
 rintro Ms jc k Wa Wb ⟨hF,hP⟩ hE γ _;exact⟨(hF.gM hE γ).1,hP.kept hE.size (fun b h1 h2=>(hF.gM hE γ).2 b ((Ay b).2 ϑ)) (fun g h1 h2 h3=>hE.block g h2 h3) γ⟩):P:=h
theorem _root_.za5 {P:Prop} (h:P:=by
 exact⟨hF.put ob ϑ,hP.kept ϕ (fun b h1 h2=>World.putObj_heap_other ϑ) (fun g h1 h2 h3=>World.putObj_heap_other ϑ) (fun m hm=> .inl hm)⟩):P:=h
theorem _root_.za6 {P:Prop} (h:P:=by
 rw[<-kT];exact(aS _ _ _ ϗ).trans ((aS _ _ _ ϗ).trans ((aS _ _ _ ϕ).trans (av _ _)))):P:=h
theorem _root_.zbb {P:Prop} (h:P:=by
 exact HA4.o.kept ϗ (fun b h1 h2=>(aS _ _ _ ϗ).trans (aS _ _ _ ϑ)) (fun g h1 h2 h3=>ϑ) (fun m hm=> .inl hm)):P:=h
theorem _root_.zbv {P:Prop} (h:P:=by
 rw[<-kT];exact(aS _ _ _ ϕ).trans ((aS _ _ _ ϕ).trans (dG _ _ _))):P:=h
theorem _root_.zbO {P:Prop} (h:P:=by
 rw[<-kT];exact(aS _ _ _ ϕ).trans (fU _ _ _ _)):P:=h
theorem _root_.zcb {P:Prop} (h:P:=by
 rintro e w' ⟨rfl,hb⟩;go_wp2_with fail
 go_returns;exact⟨zl,.inl ⟨HE.o.2,by rw[HE.o.1];simp⟩⟩):P:=h
theorem _root_.zce {P:Prop} (h:P:=by
 exact aH.bV (bU HV.o.2 fun g hg=>World.putObj_heap_other (by have:=(aW HV.o.2 g hg).1;omega))):P:=h
theorem _root_.zbz {P:Prop} (h:P:=by
 rw[hq] at hne⊢;have HN:=aa (af hq hne);have Cv:(q==0)=false:=by simpa using hne
 clear hb hne hq;go_wp2_with fail
 go_returns;exact⟨HB.o,.inl ⟨by rw[HN.o.1];exact HN.o.2,by rw[HN.o.1];simp⟩⟩):P:=h
theorem _root_.zax {P:Prop} (h:P:=by
 rintro v' Wc ⟨ho,TF,XL⟩;refine⟨aL ho,⟨?_,fun g hg=>?_⟩,⟨TF.os,TF.tape,TF.output,TF.size,fun b hb hn=>TF.block b hb (fun e=>hn (by rw[HG.o b e.symm];simp))⟩⟩
 ·rw[rO];simpa using ho
 ·rcases XL with h1|h1
  ·exact .inl (HG.o g (by rw[<-h1,hg]))
  ·rw[hg] at h1;injection h1 with h1;exact .inr (by have:=G8.size;omega)):P:=h
theorem _root_.zay {P:Prop} (h:P:=by
 rw[show(((q+1:Nat)):Int)=(q:Int)+1 from by omega] at pG;have HC:=aa pG;have HB:=aa hB;clear pG rQ ho hB G8 hE1 hF;go_wp2_with fail
 refine HC.o.mono ?_;rintro e W2 ⟨⟨hS2,Ι⟩,π⟩;have HS2:=aa hS2;have HEE:=aa ((HE.o.trans (Ext.ay HB.o)).trans Ι);clear hS2 Ι hc hf d1 d2;have hq1:f+(q-f)=q:=ϑ;rcases π with⟨cc,μ,rfl,sv,hsv,rQ⟩|⟨hnone,rfl⟩
 ·have HR:=aa (af μ (af hsv rQ));clear μ hsv rQ;go_wp2_with fail
  go_returns;refine⟨⟨HS2.o,HEE.o⟩,.inl ⟨cc,?_,by simp,sv,HR.o.2⟩⟩;rw[<-uK.o];refine oN p _ _ (q-f) ϗ cc (fun j hj=>?_) ?_
  ·simp only[List.getElem_range];exact HN.o j ϑ
  ·simp only[List.getElem_range,hq1];exact HR.o.1
 ·have HR:=aa hnone;clear hnone;go_wp2_with fail
  go_roundw
  case rel=>
   refine⟨q+1,by omega,by omega,by go_num,HS2.o,HEE.o,fun j hj=>?_⟩;by_cases hjq:f+j=q
   ·rw[hjq];exact HR.o
   ·exact HN.o j ϑ
  case measure=>simp[intOf];omega):P:=h
theorem _root_.zaN {P:Prop} (h:P:=by
 obtain⟨b,hb,hc⟩:=hG rfl _ (bu _) ϰ;cases hb;have ho:W1.ownsRow wr.heap.size 3 1 (.slice o2 l.length c2) l.length (ag l):=hG rfl _ (kW _ (bu _)) ϰ;have G8:Ext [] wr W1:=hE;have ι:aH 1 W1 (.slice (some ⟨b4,0,none⟩) 1 1) 1 (ag [(q:Int)]):=aH.bS 1 1 hc rfl ϖ;refine Does.mono (vK pq ϱ ϱ ho ϱ ι (iE _) ϑ ϑ G8.size) ?_;rintro v W2 ⟨Fw,TF⟩;rw[<-rH] at Fw;obtain⟨o5,c5,rfl⟩:=aL Fw;exact⟨⟨o5,c5,rfl⟩,Fw,CV ho TF,trivial⟩):P:=h
theorem _root_.zaR {P:Prop} (h:P:=by
 have h4:=(jZ.block _ q2 ϕ).trans HV.o.1;rw[qC] at h4;simp only[Option.some.injEq,Obj.cells.injEq,and_true,Array.mk.injEq,List.cons.injEq,true_and] at h4;exact h4):P:=h
theorem _root_.zba {P:Prop} (h:P:=by
 have HR:=aa (af hS2 (af hfb (af hEE Μ)));clear μ hE hS2 hfb hEE Μ;go_wp2_with fail
 go_returns;refine⟨⟨HR.o.1,HR.o.2.2.1⟩,?_⟩;have hre:=uK.o;revert hre;cases p l
 ·intro hre;exact .inr ⟨by simpa using hre,by simp⟩
 ·intro hre;exact .inl ⟨l,by simpa using hre,by simp,_,HR.o.2.1,HR.o.2.2.2⟩):P:=h
theorem _root_.zbf {P:Prop} (h:P:=by
 have r0:=hc (k*3+0) (iv y0) (by rw[g 0 ϑ];rfl);have r1:=hc (k*3+1) (iv y1) (by rw[g 1 ϑ];rfl);have r2:=hc (k*3+2) (iv y2) (by rw[g 2 ϑ];rfl);rw[Nat.add_zero] at r0;rw[<-Nat.add_assoc] at r1 r2;exact⟨b,off,y0,y1,y2,rfl,dn w _ r0,ω,r0,r1,r2⟩):P:=h
theorem _root_.zbi {P:Prop} (h:P:=by
 have hqI: ¬((q:Int)<=(below:Int)-((m:Int)+1)):=ϑ;go_wp2_with fail
 go_returns;refine⟨⟨HS.o,HE.o⟩,.inr ⟨?_,by simp⟩⟩;rw[<-uK.o];exact qF p _ _ (fun j hj=>by
  simp only[List.length_range] at hj;simp only[List.getElem_range];exact HN.o j ϑ)):P:=h
theorem _root_.zbk {P:Prop} (h:P:=by
 rcases hM g hm with h4|h4
 ·exact(h3 g hg).1 h4
 ·have:=(h3 g hg).2;omega):P:=h
theorem _root_.zbm {P:Prop} (h:P:=by
 have G8:qZ wr.heap.size [] wr W1:=hE;refine bX 91 #[.slice o l.length c] (by go_simp;try rfl) ?_;refine(wG l _ W1 (ZV.o.below (nO G8 (ah _)) (ah _)) ϑ).mono ?_;rintro e W2 ⟨v,rfl,ho,hb⟩;refine⟨v,rfl,aL ho,trivial,Ext.ay hb,bL ho G8.size⟩):P:=h
theorem _root_.zby {P:Prop} (h:P:=by
 refine iq (W':=W1.alloc (.cells #[iv q] 3)) (.slice (some ⟨W1.heap.size,0,none⟩) 1 1) (by go_simp;try rfl) ⟨⟨_,rfl⟩,trivial,Ext.ay ((aC _ _).alloc (ah _) _),_,rfl,heap_alloc_new _ _⟩):P:=h
theorem _root_.zb2 {P:Prop} (h:P:=by
 rw[yV.o.1];exact aH.bS 3 1 μ rfl ϖ):P:=h
theorem _root_.zb9 {P:Prop} (h:P:=by
 simp only[iP,List.map_cons,List.map_nil,List.append_nil,List.find?_cons,List.find?_nil];cases p l <;>rfl):P:=h
theorem _root_.zco {P:Prop} (h:P:=by
 obtain⟨b,hb,hc⟩:=ho;exact⟨b,hb,(hE.block b (aP.1 hc).1 ϕ).trans hc⟩):P:=h
section
namespace Go.Proofs.Z
open Go.RowKit Go.RG Go.SL Go.Shelf ig Go.TB
abbrev Mm (t:IY):Value:= .agg #[iv t.1,iv t.2.1,iv t.2.2.1,iv t.2.2.2.1,iv t.2.2.2.2]
abbrev fv (f:bG) (tv:Value):Value:= .agg #[iv f.rows,iv f.aJ,iv f.left.1,iv f.left.2,tv]
def dx (l:List IY):List Value:=l.flatMap fun t=>[iv t.1,iv t.2.1,iv t.2.2.1,iv t.2.2.2.1,iv t.2.2.2.2]
abbrev dH (w:World) (v:Value) (l:List IY):Prop:=aH 5 w v l.length (dx l)
theorem Af (l:List IY): ∀u∈dx l,u.oneCell'=true:=by
 intro u hu;obtain⟨r,_,h⟩:=nR.1 hu;simp only[eB,List.not_mem_nil,or_false] at h;rcases h with rfl|rfl|rfl|rfl|rfl <;>rfl
theorem dH.cell {w:World} {o:Option Addr} {n c:Nat} {l:List IY} (h:aH 5 w (.slice o n c) n (dx l)) {k:Nat} (hk:k<l.length):
 ∃b off,o=some ⟨b,off,none⟩/\b<w.heap.size/\w.cell? ⟨b,off+k*5,none⟩=some (iv l[k].1)/\w.cell? ⟨b,off+k*5+1,none⟩=some (iv l[k].2.1)/\w.cell? ⟨b,off+k*5+2,none⟩=some (iv l[k].2.2.1)/\
  w.cell? ⟨b,off+k*5+3,none⟩=some (iv l[k].2.2.2.1)/\w.cell? ⟨b,off+k*5+4,none⟩=some (iv l[k].2.2.2.2):=by
 obtain⟨hl,o',c',hv,h1,h2,h3,h4⟩:=h;cases hv;have Ib:(dx l).length=l.length*5:=by simp[dx,List.length_flatMap,List.map_const',List.sum_replicate_nat]
 have hn:n=l.length:=ϑ;cases o with
 |none=>have:=h3 rfl;omega
 |some a=>
  obtain⟨b,off,sp⟩:=a;obtain⟨hs,hc⟩:=h4 _ rfl;simp only at hs hc;subst hs;have g: ∀j,j<5->(dx l)[k*5+j]? =[iv l[k].1,iv l[k].2.1,iv l[k].2.2.1,iv l[k].2.2.2.1,iv l[k].2.2.2.2][j]? :=fun j hj=>by
   unfold dx;rw[iF _ 5 (fun _=>rfl) l k j hk hj]
  have h0:=hc (k*5+0) (iv l[k].1) (by rw[g 0 ϑ];rfl);have h1:=hc (k*5+1) (iv l[k].2.1) (by rw[g 1 ϑ];rfl);have h2:=hc (k*5+2) (iv l[k].2.2.1) (by rw[g 2 ϑ];rfl);have h3:=hc (k*5+3) (iv l[k].2.2.2.1) (by rw[g 3 ϑ];rfl);have h4:=hc (k*5+4) (iv l[k].2.2.2.2) (by rw[g 4 ϑ];rfl);rw[Nat.add_zero] at h0;rw[<-Nat.add_assoc] at h1 h2 h3 h4;exact⟨b,off,rfl,dn w _ h0,h0,h1,h2,h3,h4⟩
theorem uM (n l h:Int) (w:World):Ϝ 306 #[iv n,iv l,iv h] w (PV (.bool (lT n l h)) w):=by
 by_cases h1:l<=n
 all_goals
  go_enter Tryz.func306,Tryz.ntmps306;exact zbS
theorem uO (r:dF) (n:Int) (w:World):Ϝ 267 #[rv r,iv n] w (PV (.bool (lT n r.1 r.2)) w):=by
 go_enter Tryz.func267,Tryz.ntmps267;exact zcA
theorem wB (f:bG) (tv:Value) (r:dF) (w:World):Ϝ 193 #[fv f tv,rv r] w (PV (.bool (sQ r f.rows)) w):=by
 go_enter Tryz.func193,Tryz.ntmps193;exact zbW
theorem Rb (f:bG) (tv:Value) (n:Int) (w:World) (h0: -1000<=f.rows) (h1:f.rows<=1000):Ϝ 264 #[fv f tv,iv n] w (PV (.bool (lT n 0 (f.rows-1))) w):=by
 go_enter Tryz.func264,Tryz.ntmps264;exact zcA
theorem yu (f:bG) (tv:Value) (n:Int) (w:World) (h0: -1000<=f.aJ) (h1:f.aJ<=1000):Ϝ 263 #[fv f tv,iv n] w (PV (.bool (lT n 0 (f.aJ-1))) w):=by
 go_enter Tryz.func263,Tryz.ntmps263;exact zcA
theorem vW (f:bG) (tv:Value) (t:IY) (w:World) (h0:0<=f.rows) (h1:f.rows<=1000) (h2:0<=f.aJ) (h3:f.aJ<=1000):
 Ϝ 192 #[fv f tv,Mm t] w (PV (.bool (mX f t)) w):=by
 go_enter Tryz.func192,Tryz.ntmps192;go_wp2_with (first|(go_at_call 263;refine(yu f _ _ _ ϑ ϑ).mono ?_;rintro e w' ⟨rfl,hb⟩;obtain⟨hc,hf⟩:=bA hb;have hz0:w.heap.size<w'.heap.size:=(by have:=hb.size;(try simp only[bg] at this);omega);have hz1:w.heap.size+1<w'.heap.size:=(by have:=hb.size;(try simp only[bg] at this);omega))|(go_at_call 264;refine(Rb f _ _ _ ϑ ϑ).mono ?_;rintro e w' ⟨rfl,hb⟩;obtain⟨hc,hf⟩:=bA hb;have hz0:w.heap.size<w'.heap.size:=(by have:=hb.size;(try simp only[bg] at this);omega);have hz1:w.heap.size+1<w'.heap.size:=(by have:=hb.size;(try simp only[bg] at this);omega))|(go_at_call 193;refine(wB f _ (_,_) _).mono ?_;rintro e w' ⟨rfl,hb⟩;obtain⟨hc,hf⟩:=bA hb;have hz0:w.heap.size<w'.heap.size:=(by have:=hb.size;(try simp only[bg] at this);omega);have hz1:w.heap.size+1<w'.heap.size:=(by have:=hb.size;(try simp only[bg] at this);omega)))
 all_goals
  go_returns;exact⟨by simp[mX, *] <;>(intros;omega),zl⟩
end Go.Proofs.Z
namespace Go.Proofs.Z
open Go.RowKit Go.RG Go.SL Go.Shelf ig Go.TB
theorem aar (l:List IY) (v:Value) (aY:Nat) (Mr aM:Array Value) (p:Nat->Bool) (I:Nat->World->Prop) (w:World) (eg: Ϛ Tryz.prog aY)
 (Nl: ∀k W,I k W->dH W v l)
 (pG: ∀k (hk:k<l.length) W,(∀j,j<k->p j=false)->I k W->Ϝ aY (Mr.push (Mm l[k])++aM) W (fun e W'=>e= .returned (.bool (p k))/\I (k+1) W')) (h0:I 0 w):
 Ϝ 307 #[v,.func (.func aY) Mr aM] w (dM l.length p I (fun k=>iv k) (iv (-1))):=by
 have Ib:=(Nl 0 w h0).len;obtain⟨o,c,rfl⟩:=(Nl 0 w h0).open;have HC:=aa pG;have HS:=aa Nl;clear pG Nl;go_enter Tryz.func307,Tryz.ntmps307;go_wp2;go_loopw [4,5,8] (fun _ _ i wr=> ∃k:Nat,k<=l.length/\i= .int .i64 k/\(∀j,j<k->p j=false)/\I k wr) (fun _ _ i _=>l.length-(intOf i).toNat)
 case atStart=>exact⟨0,bD _,rfl,fun j hj=>ϑ,h0⟩
 case round=>
  obtain⟨k,hk,rfl,GX,hI⟩:=hrel;by_cases tX:k<l.length
  ·obtain⟨b,off,rfl,hb,hc0,hc1,hc2,hc3,hc4⟩:=dH.cell (HS.o k wr hI) tX;exact zcx
  ·exact zao
theorem VR (l:List IY) (v:Value) (aY:Nat) (Mr aM:Array Value) (p:Nat->Bool) (I:Nat->World->Prop) (w:World) (eg: Ϛ Tryz.prog aY)
 (Nl: ∀k W,I k W->dH W v l)
 (pG: ∀k (hk:k<l.length) W,(∀j,j<k->p j=false)->I k W->Ϝ aY (Mr.push (Mm l[k])++aM) W (fun e W'=>e= .returned (.bool (p k))/\I (k+1) W')) (h0:I 0 w):
 Ϝ 265 #[v,.func (.func aY) Mr aM] w (dM l.length p I (fun _=> .bool true) (.bool false)):=by
 have HI:=aa (aar l v aY Mr aM p I w eg Nl pG h0);have Ib:=(Nl 0 w h0).len;clear Nl pG h0 eg;go_enter Tryz.func265,Tryz.ntmps265;exact zad
theorem V9 (x:IY) (bx aY:Nat) (Mr aM:Array Value) (b:Bool) (W:World) (R:World->Prop) (eg: Ϛ Tryz.prog aY)
 (hbx:W.cell? ⟨bx,0,none⟩=some (.func (.func aY) Mr aM))
 (pG:Ϝ aY (Mr.push (Mm x)++aM) (W.alloc (.cells #[iv x.1,iv x.2.1,iv x.2.2.1,iv x.2.2.2.1,iv x.2.2.2.2] 186)) (fun e W'=>e= .returned (.bool b)/\R W')):
 Ϝ 266 #[Mm x,.pointer (some ⟨bx,0,none⟩)] W (fun e W'=>e= .returned (.bool !b)/\R W'):=by
 have tX:=dn W _ hbx;have HC:=aa pG;clear pG;go_enter Tryz.func266,Tryz.ntmps266;exact zaq
theorem Z6 (x:Int) (bx aY:Nat) (Mr aM:Array Value) (b:Bool) (W:World) (R:World->Prop) (eg: Ϛ Tryz.prog aY)
 (hbx:W.cell? ⟨bx,0,none⟩=some (.func (.func aY) Mr aM))
 (pG:Ϝ aY (Mr.push (iv x)++aM) W (fun e W'=>e= .returned (.bool b)/\R W')):
 Ϝ 335 #[iv x,.pointer (some ⟨bx,0,none⟩)] W (fun e W'=>e= .returned (.bool !b)/\R W'):=by
 have tX:=dn W _ hbx;have HC:=aa pG;clear pG;go_enter Tryz.func335,Tryz.ntmps335;exact zaq
theorem allT (l:List IY) (v:Value) (aY:Nat) (Mr aM:Array Value) (p:Nat->Bool) (I:Nat->World->Prop) (w:World) (eg: Ϛ Tryz.prog aY)
 (Nl: ∀k W,I k W->dH W v l) (hal: ∀k W o,I k W->I k (W.alloc o))
 (pG: ∀k (hk:k<l.length) W,(∀j,j<k->p j=true)->I k W->Ϝ aY (Mr.push (Mm l[k])++aM) W (fun e W'=>e= .returned (.bool (p k))/\I (k+1) W'/\iy w.heap.size W W')) (h0:I 0 w):
 Ϝ 194 #[v,.func (.func aY) Mr aM] w (dM l.length (fun k=>!p k) I (fun _=> .bool false) (.bool true)):=by
 have HI:=aa (VR l v 266 #[] #[.pointer (some ⟨w.heap.size,0,none⟩)] (fun k=>!p k)
  (fun k W=>I k W/\W.heap[w.heap.size]? =some (.cells #[.func (.func aY) Mr aM] 315 (0,0))) (w.alloc (.cells #[.func (.func aY) Mr aM] 315))
  (enters_of Tryz.func266 ϰ rfl) (fun k W h=>Nl k W h.1)
  (fun k hk W GX h=>by
    have tX:w.heap.size<W.heap.size:=(aP.1 h.2).1;refine(V9 l[k] w.heap.size aY Mr aM (p k) W (fun W'=>I (k+1) W'/\W'.heap[w.heap.size]? =some (.cells #[.func (.func aY) Mr aM] 315 (0,0))) eg (aA h.2) ?_);refine(pG k hk _ (fun j hj=>by simpa using GX j hj) (by first|exact hal _ _ _ h.1|exact h.1)).mono ?_;rintro e W' ⟨rfl,h1,h2⟩;refine⟨rfl,h1,(h2.block _ (ah _) (by first|exact tX|(simp;omega))).trans (by first|exact h.2|exact(aS _ _ _ tX).trans h.2)⟩)
  ⟨hal _ _ _ h0,heap_alloc_new w _⟩)
 have Ib:=(Nl 0 w h0).len;clear Nl pG h0 eg hal;go_enter Tryz.func194,Tryz.ntmps194;exact zaf
theorem acL (l:List Int) (v:Value) (aY:Nat) (Mr aM:Array Value) (p:Nat->Bool) (I:Nat->World->Prop) (w:World) (eg: Ϛ Tryz.prog aY)
 (Nl: ∀k W,I k W->aK W v l) (hal: ∀k W o,I k W->I k (W.alloc o))
 (pG: ∀k (hk:k<l.length) W,(∀j,j<k->p j=true)->I k W->Ϝ aY (Mr.push (iv l[k])++aM) W (fun e W'=>e= .returned (.bool (p k))/\I (k+1) W'/\iy w.heap.size W W')) (h0:I 0 w):
 Ϝ 308 #[v,.func (.func aY) Mr aM] w (dM l.length (fun k=>!p k) I (fun _=> .bool false) (.bool true)):=by
 have HI:=aa (KW l v 335 #[] #[.pointer (some ⟨w.heap.size,0,none⟩)] (fun k=>!p k)
  (fun k W=>I k W/\W.heap[w.heap.size]? =some (.cells #[.func (.func aY) Mr aM] 274 (0,0))) (w.alloc (.cells #[.func (.func aY) Mr aM] 274))
  (enters_of Tryz.func335 ϰ rfl) (fun k W h=>Nl k W h.1)
  (fun k hk W GX h=>by
    have tX:w.heap.size<W.heap.size:=(aP.1 h.2).1;refine(Z6 l[k] w.heap.size aY Mr aM (p k) W (fun W'=>I (k+1) W'/\W'.heap[w.heap.size]? =some (.cells #[.func (.func aY) Mr aM] 274 (0,0))) eg (aA h.2) ?_);refine(pG k hk _ (fun j hj=>by simpa using GX j hj) (by first|exact hal _ _ _ h.1|exact h.1)).mono ?_;rintro e W' ⟨rfl,h1,h2⟩;refine⟨rfl,h1,(h2.block _ (ah _) (by first|exact tX|(simp;omega))).trans (by first|exact h.2|exact(Below.heap_alloc _ _ _ tX).trans h.2)⟩)
  ⟨hal _ _ _ h0,heap_alloc_new w _⟩)
 have Ib:=(Nl 0 w h0).len;clear Nl pG h0 eg hal;go_enter Tryz.func308,Tryz.ntmps308;exact zaf
theorem Gw (l:List IY) (v:Value) (aY:Nat) (Mr aM:Array Value) (q:IY->Bool) (w:World) (hv:dH w v l) (eg: Ϛ Tryz.prog aY)
 (pG: ∀x∈l, ∀W,Ϙ w W->Ϝ aY (Mr.push (Mm x)++aM) W (PV (.bool (q x)) W)):
 Ϝ 194 #[v,.func (.func aY) Mr aM] w (PV (.bool (l.all q)) w):=by
 refine(allT l v aY Mr aM (fun k=>q (l.getD k (0,0,0,(0,0)))) (fun _ W=>Ϙ w W) w eg (fun k W h=>hv.below h (ah _)) (fun k W o h=>ai h o) (fun k hk W _ h=>?_) (aC _ _)).mono ?_
 ·exact zaz
 ·exact zaJ
theorem Me (l:List Int) (v:Value) (aY:Nat) (Mr aM:Array Value) (q:Int->Bool) (w:World) (hv:aK w v l) (eg: Ϛ Tryz.prog aY)
 (pG: ∀x∈l, ∀W,Ϙ w W->Ϝ aY (Mr.push (iv x)++aM) W (PV (.bool (q x)) W)):
 Ϝ 308 #[v,.func (.func aY) Mr aM] w (PV (.bool (l.all q)) w):=by
 refine(acL l v aY Mr aM (fun k=>q (l.getD k 0)) (fun _ W=>Ϙ w W) w eg (fun k W h=>hv.below h (ah _)) (fun k W o h=>ai h o) (fun k hk W _ h=>?_) (aC _ _)).mono ?_
 ·exact zaz
 ·exact zaJ
end Go.Proofs.Z
namespace Go.Proofs.Z
open Go.RowKit Go.RG Go.SL Go.Shelf ig Go.TB
theorem Xu {b:Int} (h1:1<=b) (h4:b<=4): ∀k:Nat,k<=7->1<=b^k/\b^k<=4^k:=by
 intro k;induction k with
 |zero=>intro _;simp
 |succ k ih=>
  intro hk;obtain⟨i1,i2⟩:=ih ϑ;rw[Int.pow_succ,Int.pow_succ];constructor
  ·have:=Int.mul_le_mul i1 h1 ϑ ϑ;omega
  ·exact Int.mul_le_mul i2 h4 ϑ ϑ
theorem T9 {b:Int} (h1:1<=b) (h4:b<=4) (k:Nat) (hk:k<=7):1<=b^k/\b^k<=16384:=by
 obtain⟨a,c⟩:=Xu h1 h4 k hk;refine⟨a,Int.le_trans c ?_⟩;have: ∀k:Nat,k<=7->(4:Int)^k<=16384:=by decide
 exact this k hk
theorem K7 (f:bG) (o:Option Addr) (n c:Nat) (w:World) (a1:7<f.rows):Ϝ 112 #[fv f (.slice o n c)] w (PV (iv 3) w):=zbg
theorem K6 (f:bG) (o:Option Addr) (n c:Nat) (w:World) (a1: ¬7<f.rows) (a2:3<f.aJ):Ϝ 112 #[fv f (.slice o n c)] w (PV (iv 3) w):=zbg
theorem K5 (f:bG) (o:Option Addr) (n c:Nat) (w:World) (a1: ¬7<f.rows) (a2: ¬3<f.aJ) (a3:(5:Int)<n):Ϝ 112 #[fv f (.slice o n c)] w (PV (iv 3) w):=zbg
theorem Lc (f:bG) (o:Option Addr) (n c:Nat) (w:World) (a1: ¬7<f.rows) (a2: ¬3<f.aJ) (a3: ¬(5:Int)<n) (b1:f.rows<1):Ϝ 112 #[fv f (.slice o n c)] w (PV (iv 1) w):=zbg
theorem Lb (f:bG) (o:Option Addr) (n c:Nat) (w:World) (a1: ¬7<f.rows) (a2: ¬3<f.aJ) (a3: ¬(5:Int)<n) (b1: ¬f.rows<1) (b2:f.aJ<1):Ϝ 112 #[fv f (.slice o n c)] w (PV (iv 1) w):=zbg
theorem La (f:bG) (o:Option Addr) (n c:Nat) (w:World) (a1: ¬7<f.rows) (a2: ¬3<f.aJ) (a3: ¬(5:Int)<n) (b1: ¬f.rows<1) (b2: ¬f.aJ<1) (b3:sQ f.left f.rows=false):
 Ϝ 112 #[fv f (.slice o n c)] w (PV (iv 1) w):=by
 go_enter Tryz.func112,Tryz.ntmps112;go_wp2_with fail
 refine(wB f _ (_,_) _).mono ?_;rintro e w' ⟨rfl,hb⟩;obtain⟨hc,hf⟩:=bA hb;have hz0:w.heap.size<w'.heap.size:=(by have:=hb.size;(try simp only[bg] at this);omega)
 rw[show sQ (f.left.1,f.left.2) f.rows=false from b3];exact zbc
theorem K9 (f:bG) (o:Option Addr) (c:Nat) (w:World) (hx:dH w (.slice o f.ax.length c) f.ax) (a1: ¬7<f.rows) (a2: ¬3<f.aJ) (a3: ¬(5:Int)<f.ax.length) (b1: ¬f.rows<1) (b2: ¬f.aJ<1) (b3:sQ f.left f.rows=true)
 (b4:f.ax.all (mX f)=false):
 Ϝ 112 #[fv f (.slice o f.ax.length c)] w (PV (iv 1) w):=by
 have HX:=aa hx;have fV:=aa b4;clear hx b4;go_enter Tryz.func112,Tryz.ntmps112;go_wp2_with fail
 refine(wB f _ (_,_) _).mono ?_;rintro e w' ⟨rfl,hb⟩;obtain⟨hc,hf⟩:=bA hb;have hz0:w.heap.size<w'.heap.size:=(by have:=hb.size;(try simp only[bg] at this);omega)
 have HB:=aa (show Ϙ w w' from zl);clear hb;rw[show sQ (f.left.1,f.left.2) f.rows=true from b3];go_wp2_with fail
 refine(Gw f.ax (.slice o f.ax.length c) 192 #[fv f (.slice o f.ax.length c)] #[] (mX f) w' (HX.o.below HB.o (ah _)) (enters_of Tryz.func192 ϰ rfl) (fun x _ W _=>vW f _ x W ϑ ϑ ϑ ϑ)).mono ?_;rw[fV.o];rintro e w2 ⟨rfl,hb⟩;obtain⟨hc2,hf2⟩:=bA hb;have hz2:w.heap.size<w2.heap.size:=by have:=hb.size;omega
 have Ra:=aa (aV HB.o hb);clear hb;exact zau
theorem K8 (f:bG) (o:Option Addr) (c:Nat) (w:World) (hx:dH w (.slice o f.ax.length c) f.ax) (a1: ¬7<f.rows) (a2: ¬3<f.aJ) (a3: ¬(5:Int)<f.ax.length) (b1: ¬f.rows<1) (b2: ¬f.aJ<1) (b3:sQ f.left f.rows=true)
 (b4:f.ax.all (mX f)=true) (r:Int) (hr:r=if 2500<(f.aJ+1)^f.rows.toNat then 3 else 0):
 Ϝ 112 #[fv f (.slice o f.ax.length c)] w (PV (iv r) w):=by
 have HX:=aa hx;have fV:=aa b4;have Ε:1<=f.aJ+1/\f.aJ+1<=4:=ϑ;have HP:=aa (fun(k:Nat) (hk:k<=7)=>T9 Ε.1 Ε.2 k hk);obtain⟨n,hn⟩: ∃n:Nat,f.rows=n:=⟨f.rows.toNat,by omega⟩;have hn7:n<=7:=ϑ;have HR:Hid (r=if 2500<(f.aJ+1)^n then 3 else 0):=aa (by rw[hr,hn];rfl);have HN:=aa hn;clear hx b4 Ε hr hn;go_enter Tryz.func112,Tryz.ntmps112;go_wp2_with fail
 refine(wB f _ (_,_) _).mono ?_;rintro e w' ⟨rfl,hb⟩;obtain⟨hc,hf⟩:=bA hb;have hz0:w.heap.size<w'.heap.size:=(by have:=hb.size;(try simp only[bg] at this);omega)
 have HB:=aa (show Ϙ w w' from zl);clear hb;rw[show sQ (f.left.1,f.left.2) f.rows=true from b3];go_wp2_with fail
 refine(Gw f.ax (.slice o f.ax.length c) 192 #[fv f (.slice o f.ax.length c)] #[] (mX f) w' (HX.o.below HB.o (ah _)) (enters_of Tryz.func192 ϰ rfl) (fun x _ W _=>vW f _ x W ϑ ϑ ϑ ϑ)).mono ?_;rw[fV.o];rintro e w2 ⟨rfl,hb⟩;obtain⟨hc2,hf2⟩:=bA hb;have hz2:w.heap.size<w2.heap.size:=by have:=hb.size;omega
 have Ra:=aa (aV HB.o hb);clear hb;go_wp2_with fail
 go_loop [4,47] (fun m i=> ∃k:Nat,k<=n/\i= .int .i64 k/\m= .int .i64 ((f.aJ+1)^k)) (fun _ i=>n-(intOf i).toNat)
 case atStart=>exact⟨0,bD _,rfl,by simp⟩
 case round=>
  obtain⟨k,hk,rfl,rfl⟩:=hrel;obtain⟨p1,p2⟩:=HP.o k ϑ;by_cases tX:k<n
  ·have hkI:(k:Int)<f.rows:=by have:=HN.o;omega
   obtain⟨q1,q2⟩:=HP.o (k+1) ϑ;have HE:=aa (Int.pow_succ (f.aJ+1) k);rw[Int.pow_succ] at q1 q2;generalize (f.aJ+1)^k=m at p1 p2 q1 q2 HE⊢;go_wp2;exact zbD
  ·have hkn:k=n:=ϑ;subst hkn;have hkI: ¬(k:Int)<f.rows:=by have:=HN.o;omega
   generalize (f.aJ+1)^k=m at p1 p2 HR⊢;by_cases hm:2500<m
   ·go_wp2;go_returns;exact⟨by rw[HR.o,aB hm];simp,Ra.o⟩
   ·go_wp2;go_returns;exact⟨by rw[HR.o,aj ϑ];simp,Ra.o⟩
theorem xJ (f:bG) (tv:Value) (w:World) (hx:dH w tv f.ax):
 Ϝ 112 #[fv f tv] w (PV (iv (ja f)) w):=by
 obtain⟨o,c,rfl⟩:=hx.open;by_cases ha:7<f.rows∨3<f.aJ∨5<f.ax.length
 ·rw[show ja f=3 from by unfold ja;rw[aB ha]]
  by_cases a1:7<f.rows
  ·exact K7 f o _ c w a1
  by_cases a2:3<f.aJ
  ·exact K6 f o _ c w a1 a2
  exact K5 f o _ c w a1 a2 ϑ
 obtain⟨a1,a2,a3⟩: ¬7<f.rows/\ ¬3<f.aJ/\ ¬(5:Int)<f.ax.length:=ϑ;rw[show ja f=if f.rows<1∨f.aJ<1∨sQ f.left f.rows=false∨f.ax.all (mX f)=false then 1 else if 2500<(f.aJ+1)^f.rows.toNat then 3 else 0 from by
  unfold ja;rw[aj ha]]
 by_cases b1:f.rows<1
 ·rw[aB (.inl b1)];exact Lc f o _ c w a1 a2 a3 b1
 by_cases b2:f.aJ<1
 ·rw[aB (.inr (.inl b2))];exact Lb f o _ c w a1 a2 a3 b1 b2
 by_cases b3:sQ f.left f.rows=false
 ·rw[aB (.inr (.inr (.inl b3)))];exact La f o _ c w a1 a2 a3 b1 b2 b3
 by_cases b4:f.ax.all (mX f)=false
 ·rw[aB (.inr (.inr (.inr b4)))];exact K9 f o c w hx a1 a2 a3 b1 b2 (by simpa using b3) b4
 exact K8 f o c w hx a1 a2 a3 b1 b2 (by simpa using b3) (by simpa using b4) _ (by rw[aj (by simp only[not_or];exact⟨b1,b2,b3,b4⟩)])
end Go.Proofs.Z
namespace Go.Proofs.Z
open Go.RowKit Go.RG Go.SL Go.Shelf ig Go.TB
theorem RP (l:List Int) (who:Int) (a k:Nat):wR l who a (k+1)=wR l who a k+(if l.getD (a+k) 0=who then 1 else 0):=by
 unfold wR;rw[List.range'_concat,List.countP_append,List.countP_singleton];by_cases h:l.getD (a+k) 0=who
 ·simp only[Nat.one_mul,h,beq_self_eq_true,if_true];omega
 ·simp only[Nat.one_mul,aj h,show(l.getD (a+k) 0==who)=false from by simpa using h,Bool.false_eq_true,if_false];omega
theorem IB (l:List Int) (who:Int) (a k:Nat):0<=wR l who a k/\wR l who a k<=k:=by
 unfold wR;have:=List.countP_le_length (l:=List.range' a k) (p:=fun i=>l.getD i 0==who);simp only[List.length_range'] at this;omega
theorem Ef (g a n:Nat) (b:Int) (hb:b+1=(a:Int)+n) (hn:1<=n) (h7:a+n<=7) (W:World):
 (Instr.sliceAt 157 (.pointer (some ⟨g,0,none⟩)) (some (iv (a:Int))) (some (iv (b+1))) none).run Tryz.prog W= .ok (.slice (some ⟨g,a,none⟩) n (7-a)) W:=by
 have hl:Tryz.prog.arrayLen 157=7:=ϰ;have h:=run_sliceAt_array_lh (P:=Tryz.prog) W 157 ⟨g,0,none⟩ ϰ .i64 .i64 (a:Int) (b+1) ϑ ϑ (by rw[hl];omega);have hs:(sizeOf (Tryz.prog.elem 157)).run Tryz.prog W= .ok 1 W:=ϰ;rw[h,hs,hl];have e1:(b+1).toNat=a+n:=ϑ;have e2: ¬7=a:=ϑ;simp[slicedAt,e1,e2,Addr.add];omega
theorem Gn (xs:List Int) (hx:xs.length=7) (who:Int) (a n:Nat) (b:Int) (hb:b+1=(a:Int)+n) (hn:1<=n) (h7:a+n<=7) (w:World):
 Ϝ 114 #[j6 xs,iv who,iv a,iv b] w (PV (iv (wR xs who a n)) w):=by
 have hN:=av w (.cells (ag xs).toArray 157);have HX:=aa hx;have Nl:=Ef w.heap.size a n b hb hn h7;rw[hb] at Nl;have hb0: -1<=b:=ϑ;have hb6:b<=6:=ϑ;clear hx;go_enter Tryz.func114,Tryz.ntmps114;go_wp2;have HN:=aa hN;clear hN Nl;go_loop [8,16] (fun m i=> ∃k:Nat,k<=n/\i= .int .i64 k/\m= .int .i64 (wR xs who a k)) (fun _ i=>n-(intOf i).toNat)
 case atStart=>exact⟨0,bD _,rfl,by simp[wR]⟩
 case round=>
  obtain⟨k,hk,rfl,rfl⟩:=hrel;have hbd:=IB xs who a k;have hsu:=RP xs who a k;by_cases tX:k<n
  ·have MR:=fB HN.o (show a+k<xs.length by rw[HX.o];omega);have hg:xs.getD (a+k) 0=xs[a+k]'(by rw[HX.o];omega):=by simp[List.getD,HX.o,show a+k<7 by omega]
   rw[hg] at hsu;have uq:=aa hsu;clear hg hsu;generalize xs[a+k]'(by rw[HX.o];omega)=y at*
   generalize wR xs who a k=d at*
   by_cases hy:y=who
   ·subst hy;go_wp2;go_round
    case rel=>exact⟨k+1,by omega,by go_num,by rw[uq.o,aB rfl]⟩
    case measure=>simp[intOf];omega
   ·have hyb:(y==who)=false:=by simpa using hy
    have HY:=aa hy;clear hy;go_wp2;go_round
    case rel=>exact⟨k+1,by omega,by go_num,by rw[uq.o,aj HY.o];simp⟩
    case measure=>simp[intOf];omega
  ·have hkn:k=n:=ϑ;subst hkn;clear hsu;generalize wR xs who a k=d at*
   go_wp2;go_returns;exact⟨by simp,zl⟩
theorem ql {l:List Int} (h:l.length=7): ∃a b c d e f g,l=[a,b,c,d,e,f,g]:=by
 match l,h with
 |[a,b,c,d,e,f,g],_=>exact⟨a,b,c,d,e,f,g,rfl⟩
theorem KM (f:bG) (tv:Value) (xs:List Int) (hx:xs.length=7) (who:Int) (w:World) (h0:1<=f.rows) (h7:f.rows<=7):
 Ϝ 68 #[fv f tv,j6 xs,iv who] w (PV (iv (kI f xs who)) w):=by
 have τ:=Gn xs hx who 0 f.rows.toNat (f.rows-1) ϑ ϑ ϑ;have hd:wR xs who 0 f.rows.toNat=kI f xs who:=by
  unfold kI C8;simp
 rw[hd] at τ;generalize kI f xs who=d at*
 obtain⟨a,b,c,d,e,g,k,rfl⟩:=ql hx;have HC:=aa τ;clear τ hx hd;show Calls _ _ #[fv f tv,.agg #[iv a,iv b,iv c,iv d,iv e,iv g,iv k],iv who] _ _;go_enter Tryz.func68,Tryz.ntmps68;exact zcB
end Go.Proofs.Z
namespace Go.SL
open Go.RowKit Go.RG
theorem jo {P:Program} {o:Oper} {ρ:Operand->Value} {W:World} (t:TypeId) (x:Operand) (ho:o.op= .load t x) (b off:Nat) (hx:ρ x= .pointer (some ⟨b,off,none⟩)) (cs:List Value) (d:TypeDesc)
 (hc:W.rangeAt b off cs) (hu:P.underlying t=some d) (hd:d.isRow=true) (hi:(P.info? t).map (·.size)=some cs.length):(execOp ρ o).run P W= .ok (.value (.agg cs.toArray)) W:=by
 unfold execOp;simp only[ho,hx,Instr.loadAt,Instr.sureAddr,Sem.run_bind,Sem.run_pure,Result.andThen_ok,run_loadVar_mid W b off t cs d hc hu hd hi]
theorem qK: ∀(xs ys:List Int),xs.length=ys.length->((List.range xs.length).all fun i=>xs.getD i 0==ys.getD i 0)=(xs==ys)
 |[],[],_=>rfl
 |x::xs,y::ys,h=>by
  have ih:=qK xs ys (by simpa using h);rw[List.length_cons,List.range_succ_eq_map,List.all_cons,List.all_map];simp only[List.getD_cons_zero,Function.comp_def,List.getD_cons_succ,ih];simp[List.cons_beq_cons]
 |[],_::_,h=>by simp at h
 |_::_,[],h=>by simp at h
theorem zu {P:Program} (w:World) (d:Nat) (t e:TypeId) (n:Nat) (ht:P.underlying t=some (.array n e)) (he:P.underlying e=some (.int .i64)) (ν: ∀w,(sizeOf e).run P w= .ok 1 w)
 (xs ys:List Int) (hx:xs.length=n) (hy:ys.length=n):
 (Op.equalIn (d+2) t (.agg (ag xs).toArray) (.agg (ag ys).toArray)).run P w= .ok (xs==ys) w:=by
 rw[<-qK xs ys (hx.trans hy.symm),hx,List.range_eq_range',Op.equalIn];simp only[Sem.run_bind,run_underlying ht,Result.andThen_ok,ν,Std.Legacy.Range.forIn_eq_forIn_range',Std.Legacy.Range.size,Nat.sub_zero,Nat.add_sub_cancel,Nat.div_one];have hl: ∀i∈List.range' 0 n 1,i<n:=fun i hi=>by simpa using(List.mem_range'_1.1 hi).2
 generalize List.range' 0 n 1=l at hl⊢;induction l with
 |nil=>simp
 |cons i l ih=>
  have hi:i<n:=hl i ϕ;have px:(part e (ag xs).toArray (i*1)).run P w= .ok (.int .i64 (xs.getD i 0)) w:=by
   simp[part,isAgg,run_underlying he,ag,List.getD,bZ (show i<xs.length by omega)]
  have py:(part e (ag ys).toArray (i*1)).run P w= .ok (.int .i64 (ys.getD i 0)) w:=by
   simp[part,isAgg,run_underlying he,ag,List.getD,bZ (show i<ys.length by omega)]
  have pe:(Op.equalIn (d+1) e (.int .i64 (xs.getD i 0)) (.int .i64 (ys.getD i 0))).run P w= .ok (xs.getD i 0==ys.getD i 0) w:=run_equalIn_int w d e .i64 .i64 _ _ he;exact zbj
theorem G5 {P:Program} (w:World) (t e:TypeId) (n:Nat) (ht:P.underlying t=some (.array n e)) (he:P.underlying e=some (.int .i64)) (ν: ∀w,(sizeOf e).run P w= .ok 1 w)
 (xs ys:List Int) (hx:xs.length=n) (hy:ys.length=n):
 (binOp .neq t (.agg (ag xs).toArray) (.agg (ag ys).toArray)).run P w= .ok (.bool (!(xs==ys))) w:=by
 rw[run_neq_struct,zu w 9998 t e n ht he ν xs ys hx hy];rfl
theorem lU {P:Program} {o:Oper} {ρ:Operand->Value} {W:World} (t e tb:TypeId) (n:Nat) (x y:Operand) (ho:o.op= .binOp .neq t x y tb) (ht:P.underlying t=some (.array n e)) (he:P.underlying e=some (.int .i64)) (ν: ∀w,(sizeOf e).run P w= .ok 1 w)
 (hm:P.eqGuardType P.depth t=false) (xs ys:List Int) (hx:ρ x= .agg (ag xs).toArray) (hy:ρ y= .agg (ag ys).toArray) (hxl:xs.length=n) (hyl:ys.length=n):
 (execOp ρ o).run P W= .ok (.value (.bool (!(xs==ys)))) W:=by
 unfold execOp;simp only[ho,hx,hy,Sem.run_bind,run_eqGuard_agg W .neq t x y _ _ hm,Result.andThen_ok,G5 W t e n ht he ν xs ys hxl hyl,Sem.run_pure]
theorem zB {w:World} {base:Nat} {e:TypeId} {k:Nat} {v:Value} {A:List (List Int)} {z:List Int} (h:w.ownsRow base e k v (A.length+1) ((A++[z]).flatMap ag)) (hA: ∀x∈A,x.length=k) (hz:z.length=k):
 ∃g c,v= .slice (some ⟨g,0,none⟩) (A.length+1) c/\base<=g/\g<w.heap.size/\w.rangeAt g (A.length*k) (ag z):=by
 obtain⟨h1,⟨hv,h2⟩|⟨g,c,cs,hv,hb,hc,hn,hm,hs,hx⟩⟩:=h
 ·exact absurd h2 ϕ
 ·refine⟨g,c,hv,hb,(aP.1 hc).1,fun j u hj=>?_⟩;have hj':j<k:=by have:=(gY.1 hj).1;simpa [ag,hz] using this
  have e1:((A++[z]).flatMap ag)[A.length*k+j]? =some u:=by
   rw[rO,lI (by rw[J5 A k hA];omega),J5 A k hA,Nat.add_sub_cancel_left];simpa using hj
  exact zbd
end Go.SL
namespace Go.Proofs.Z
open Go.RowKit Go.RG Go.SL Go.Shelf ig Go.TB
theorem Db (b:Bool) (n:Int) (w:World):(Instr.checkKey b 9999 3 (iv n)).run Tryz.prog w= .ok () w:=zS b 9998 n w
abbrev Str:=Int×Int×Int
abbrev aaa (k:Str):Value:= .agg #[iv k.1,iv k.2.1,iv k.2.2]
theorem Hy:SE Tryz.prog 368 aaa (fun _=>True) where
 find w x es:=run_findKey_eq w ϰ x es
 check b a w _:=by
  unfold Instr.checkKey;simp[go_sem];simp only[Db,Result.andThen_ok]
 eq a b w _ _:=by
  unfold Op.equal Op.maxDepth;simp[go_sem];obtain⟨a1,a2,a3⟩:=a;obtain⟨b1,b2,b3⟩:=b;by_cases h1:a1=b1 <;>by_cases h2:a2=b2 <;>by_cases h3:a3=b3 <;>simp[h1,h2,h3]
 bits a _:=by simp[Instr.sameBits]
end Go.Proofs.Z
namespace Go.Proofs.Z
open Go.RowKit Go.RG Go.SL Go.Shelf ig Go.TB
abbrev tT (f:bG) (tv:Value):Array Value:= #[iv f.rows,iv f.aJ,iv f.left.1,iv f.left.2,tv]
structure Ot (w:World) (f:bG) (tv:Value) (xs:List Int) (W:World):Prop where
 b0:W.heap[w.heap.size]? =some (.cells (tT f tv) 45 (0,0))
 b1:W.heap[w.heap.size+1]? =some (.cells (ag xs).toArray 157 (0,0))
 tab: ∃T:List (Str×Int),TabAt aaa iv (fun _=>True) W (w.heap.size+2) T/\ ∀k n,TB.look k T=some n->n=C8 xs k.1 k.2.1 k.2.2
 below:Ϙ w W
theorem Ot.next {w:World} {f:bG} {tv:Value} {xs:List Int} {W W':World} (h:Ot w f tv xs W) (hb:Ϙ W W'):Ot w f tv xs W':=by
 obtain⟨T,h1,h2⟩:=h.tab;exact⟨(hb.block _ (aP.1 h.b0).1).trans h.b0,(hb.block _ (aP.1 h.b1).1).trans h.b1,⟨T,h1.below hb (ah _),h2⟩,
  h.below.trans (hb.mono h.below.size)⟩
def JU (f:bG) (out xs:List Int) (k:Nat):Bool:=(List.range k).all fun i=>out.contains (i:Int) ||xm xs (f.ax.getD i (0,0,0,(0,0)))
theorem NU (xs:List Int) (hx:xs.length=7) (who a b:Int) (h0:0<=a) (h1:a<=b) (h2:b<7) (w:World):
 Ϝ 114 #[j6 xs,iv who,iv a,iv b] w (PV (iv (C8 xs who a b)) w):=by
 have:=Gn xs hx who a.toNat (b+1-a).toNat b ϑ ϑ ϑ w;rw[show((a.toNat:Nat):Int)=a from by omega] at this;exact this
theorem vZ (f:bG) (hS:oV f) (o:Option Addr) (c:Nat) (xs:List Int) (hx:xs.length=7) (ov:Value) (out:List Int) (w:World) (ht:dH w (.slice o f.ax.length c) f.ax) (ho:aK w ov out):
 Ϝ 197 #[fv f (.slice o f.ax.length c),j6 xs,ov] w (PV (.bool (ik f out xs)) w):=by
 obtain⟨oo,oc,rfl⟩:=ho.open;have hmm:= @run_makeMap Tryz.prog;obtain⟨x0,x1,x2,x3,x4,x5,x6,hxs⟩:=ql hx;have hag:j6 xs= .agg #[iv x0,iv x1,iv x2,iv x3,iv x4,iv x5,iv x6]:=by rw[hxs];rfl
 have hce:(ag xs).toArray= #[iv x0,iv x1,iv x2,iv x3,iv x4,iv x5,iv x6]:=by rw[hxs];rfl
 have WY:=aa (fun who a b h0 h1 h2 w=>hag▸NU xs hx who a b h0 h1 h2 w);rw[hag];have Ib:f.ax.length<=5:=hS.A7;have HS:=aa hS;have HT:=aa ht;have HO:=aa ho;have HX:=aa (af hx hce);clear hS ht ho hx hxs hag hce;go_enter Tryz.func197,Tryz.ntmps197;go_upto_region 2 with(fail)
 refine dz fun W1 σ=>?_;have UC:Ot w f (.slice o f.ax.length c) xs W1:=by
  rw[σ];refine⟨(aS _ _ _ ϗ).trans ((aS _ _ _ ϕ).trans (av _ _)),?_,⟨[],Hr (fU _ _ _ _),fun k n h=>by cases h⟩,zl⟩;rw[HX.o.2];exact zbR
 clear σ hmm;have c0:=ae UC.b0;obtain⟨cc0,cf0,cl0⟩:=c0;have κ:=aa UC;clear UC;go_wp2_with fail
 go_loopw [17] (fun i wr=> ∃k:Nat,k<=f.ax.length/\i= .int .i64 k/\JU f out xs k=true/\Ot w f (.slice o f.ax.length c) xs wr) (fun i _=>f.ax.length-(intOf i).toNat)
 case atStart=>exact⟨0,bD _,rfl,rfl,κ.o⟩
 case round=>
  obtain⟨k,hk,rfl,hok,UC⟩:=hrel;obtain⟨LY,Oe,NY⟩:=ae UC.b0;have ζ:=UC.b1;rw[HX.o.2] at ζ;obtain⟨YL,cf2,cl2⟩:=ae ζ;have Dr:=aa UC;have iD:=aa hok;clear hok ζ cc0 cf0 cl0;by_cases tX:k<f.ax.length
  ·have htl:=HT.o.below UC.below (ah _);obtain⟨b,off,hv,hb,d0,d1,d2,d3,d4⟩:=dH.cell htl tX;clear UC htl;have ahe:=HS.o.uH _ (bK tX);generalize htk:f.ax[k]=t at*
   obtain⟨tw,ta,tb,GM,GN⟩:=t;obtain⟨⟨q1,q2⟩,⟨q3,q4,q5⟩,⟨q6,q7,q8⟩⟩:=ahe;cases hv;simp only at d0 d1 d2 d3 d4 q1 q2 q3 q4 q5 q6 q7 q8;have Br:=aa htk;have Pf:=HS.o.og;obtain⟨D,hD⟩: ∃D,C8 xs tw ta tb=D:=⟨_,rfl⟩;have HC1:=aa (WY.o tw ta tb q3 q4 ϑ);rw[hD] at HC1;have hDb:0<=D/\D<=7:=by
    rw[<-hD];have:=IB xs tw ta.toNat (tb+1-ta).toNat;unfold C8;omega
   have HD:=aa hD;clear htk hD;go_upto_region 6 with(fail)
   refine dz fun W6 wY=>?_;have Nt:Ot w f (.slice (some ⟨b,off,none⟩) f.ax.length c) xs W6:=Dr.o.next (by rw[wY];exact zl);have sJ:W6.heap[wr.heap.size]? =some (.cells #[iv tw,iv ta,iv tb,iv GM,iv GN] 186 (0,0)):=by rw[wY];exact(aS _ _ _ ϕ).trans (av _ _)
   have hk10:W6.heap[wr.heap.size+1]? =some (.cells #[iv tw,iv ta,iv tb] 368 (0,0)):=by rw[wY];exact dG _ _ _
   obtain⟨T,hT,hTv⟩:=Nt.tab;have jR:=fun cm=>sH Hy (mt:=366) (e:=3) ϰ (z:=iv 0) (fun W=>by simp[go_sem]) hT (tw,ta,tb) trivial cm W6 rfl;have an9:=aa (show W6.heap.size=wr.heap.size+2 by rw[wY];simp);clear wY LY Oe NY YL cf2 cl2 d0 d1 d2 d3 d4 hb;cases hl:TB.look (tw,ta,tb) T with
   |some n=>
    have hnD:n=D:=by rw[<-HD.o];exact hTv _ _ hl
    rw[hnD] at hl;clear hnD;rw[hl] at jR;simp only[Option.map_some,Option.getD_some,Option.isSome_some] at jR;have hlk:=jR true;simp only[if_true] at hlk;have I6:=aa (fun W hW=>sH Hy (mt:=366) (e:=3) ϰ (z:=iv 0) (fun W=>by simp[go_sem]) hT (tw,ta,tb) trivial false W hW);rw[hl] at I6;simp only[Option.map_some,Option.getD_some,Option.isSome_some,Bool.false_eq_true,if_false] at I6;have LG:=aa Nt;obtain⟨cc9,cf9,cl9⟩:=ae sJ;obtain⟨abB,abA,YJ⟩:=ae hk10;clear jR hl hTv hT Nt;go_upto_region 9 with(fail)
    exact zah
   |none=>
    rw[hl] at jR;simp only[Option.map_none,Option.getD_none,Option.isSome_none] at jR;have hlk:=jR true;simp only[if_true] at hlk;obtain⟨cc0,cf0,cl0⟩:=ae Nt.b0;have ζ:=Nt.b1;rw[HX.o.2] at ζ;obtain⟨LY,Oe,NY⟩:=ae ζ;obtain⟨cc9,cf9,cl9⟩:=ae sJ;obtain⟨abB,abA,YJ⟩:=ae hk10;have HS6:=aa Nt;have Wu:=aa (af hT hTv);clear jR hl hTv hT Nt ζ;go_upto_region 8 with(fail)
    refine zg 10 [] none [(9,Spec.val (iv D))] ?_;simp only[zt];repeat ((first|refine zn ?_|refine zk ?_);simp only[zp])
    refine zw 114 (h:=fun W hE hF=>by exact HC1.o W) (t:=?_);simp only[zp];intro W hE hF;obtain⟨hc,hf⟩:=bA hE.below;have ic:=hE.size;(try simp only[bg] at ic)
    have hTW:TabAt aaa iv (fun _=>True) W (w.heap.size+2) T:=Wu.o.1.below hE.below (ah _);obtain⟨W8,hrun,hT8,eQ⟩:=eH Hy (mt:=366) (e:=3) ϰ hTW (tw,ta,tb) trivial D;have Rf:=HS6.o.next hE.below;have Rh:Ot w f (.slice (some ⟨b,off,none⟩) f.ax.length c) xs W8:=by
     refine⟨(eQ.block _ (aP.1 Rf.b0).1 ϕ).trans Rf.b0,(eQ.block _ (aP.1 Rf.b1).1 ϕ).trans Rf.b1,⟨_,hT8,fun k n h=>?_⟩,fT Rf.below eQ ϑ⟩;rw[tC] at h;split at h
     ·rename_i he;subst he;cases h;exact HD.o.symm
     ·exact Wu.o.2 _ _ h
    have ahM:W8.heap[wr.heap.size]? =some (.cells #[iv tw,iv ta,iv tb,iv GM,iv GN] 186 (0,0)):=
     (eQ.block _ (by have:=hE.size;omega) (by have:=Dr.o.tab.choose_spec.1.lt;simp;omega)).trans ((hE.block _ cl9 ϕ).trans sJ)
    have ad4:W8.heap[wr.heap.size+1]? =some (.cells #[iv tw,iv ta,iv tb] 368 (0,0)):=
     (eQ.block _ (by have:=hE.size;omega) (by have:=Dr.o.tab.choose_spec.1.lt;simp;omega)).trans ((hE.block _ YJ ϕ).trans hk10)
    have I6:=aa (fun W hW=>sH Hy (mt:=366) (e:=3) ϰ (z:=iv 0) (fun W=>by simp[go_sem]) hT8 (tw,ta,tb) trivial false W hW);rw[tC,aB rfl] at I6;simp only[Option.map_some,Option.getD_some,Option.isSome_some,Bool.false_eq_true,if_false] at I6;have LG:=aa Rh;clear hT8 eQ Rf Rh hTW hE hF cc0 cf0 cl0 LY Oe NY cc9 cf9 cl9 abB abA YJ hc hf hlk;go_upto_region 9 with(fail)
    clear hrun;obtain⟨cc9,cf9,cl9⟩:=ae ahM;obtain⟨abB,abA,YJ⟩:=ae ad4;exact zah
  ·have XI:k=f.ax.length:=ϑ;subst XI;have ac5:j6 xs= .agg #[iv x0,iv x1,iv x2,iv x3,iv x4,iv x5,iv x6]:=congrArg Value.agg HX.o.2;have HL:=aa (fun W=>ac5▸KM f (.slice o f.ax.length c) xs HX.o.1 (-1) W HS.o.wV HS.o.og);obtain⟨d,hd⟩: ∃d,kI f xs (-1)=d:=⟨_,rfl⟩;obtain⟨q,hq⟩: ∃q,lT d f.left.1 f.left.2=q:=⟨_,rfl⟩;have HR:Hid (ik f out xs=q):=aa (by
    rw[<-hq, <-hd];have h1:=iD.o;unfold JU at h1;unfold ik;rw[h1,Bool.true_and];rfl)
   have HD:=aa (af hd hq);rw[hd] at HL;clear hd hq ac5 UC;go_upto_region 12 with(fail)
   refine zg 7 [] none [(4,Spec.val (iv d)),(5,Spec.val (.bool q))] ?_;simp only[zt];repeat ((first|refine zn ?_|refine zk ?_);simp only[zp])
   refine zw 68 (h:=fun W hE hF=>by exact HL.o W) (t:=?_);simp only[zp];refine zw 267 (h:=fun W hE hF=>by exact(by have:=uO f.left d W;rw[HD.o.2] at this;exact this)) (t:=?_)
   simp only[zp];repeat ((first|refine zn ?_|refine zk ?_);simp only[zp])
   intro W hE hF;obtain⟨hc,hf⟩:=bA hE.below;have ic:=hE.size;(try simp only[bg] at ic)
   have SF:=aa (Dr.o.next hE.below);clear hE hF;go_wp2_with fail
   go_returns;exact⟨by rw[HR.o];simp,SF.o.below⟩
attribute [local go_sem] Oper.semAt_some
def qV (f:bG) (out:List Int) (k:Nat):Nat:=(((nP f).take k).filter (ik f out)).length
theorem KY (f:bG) (out:List Int):qV f out (nP f).length=(bH f out).length:=by
 unfold qV bH;rw[List.take_length]
theorem PG {f:bG} {out:List Int} {k:Nat} (hk:k<(nP f).length) (hp:ik f out (nP f)[k]=false):qV f out (k+1)=qV f out k:=by
 unfold qV;exact zbH
theorem KX {f:bG} {out:List Int} {k:Nat} (hk:k<(nP f).length) (hp:ik f out (nP f)[k]=true):qV f out (k+1)=qV f out k+1:=by
 unfold qV;exact zbH
theorem BA {f:bG} {out:List Int} {k:Nat} (hk:k<(nP f).length) (hp:ik f out (nP f)[k]=true):
 ∃hc:qV f out k<(bH f out).length,(bH f out)[qV f out k]=(nP f)[k]:=by
 have:=zM (ik f out) id (nP f) k hk hp;rw[List.map_id] at this;obtain⟨hc,hx⟩:=gY.1 this;exact⟨hc,hx⟩
def oK (x:List Int):List Int:=x++List.replicate (7-x.length) 0
theorem su {x:List Int} (h:x.length<=7):(oK x).length=7:=by simp[oK];omega
theorem Ud (x:List Int) (i:Nat):(oK x).getD i 0=x.getD i 0:=by
 unfold oK;exact zbe
theorem KQ (x:List Int) (who:Int) (a n:Nat):wR (oK x) who a n=wR x who a n:=by
 unfold wR;simp only[Ud]
theorem Fz (f:bG) (out x:List Int):ik f out (oK x)=ik f out x:=by
 unfold ik xm C8;simp only[KQ]
theorem VF (f:bG) (x:List Int) (who:Int):kI f (oK x) who=kI f x who:=by
 unfold kI C8;rw[KQ]
structure Tt (W:World) (bf bo iB ab bc l:Nat) (o:List Int):Prop where
 y:W.heap[iB]? =some (.cells #[.func (.yield l) #[] #[]] 318 (0,0))
 ch:W.heap[bc]? =some (.cells #[.func (.func 196) #[] #[.pointer (some ⟨bf,0,none⟩),.pointer (some ⟨ab,0,none⟩),.pointer (some ⟨bo,0,none⟩),.pointer (some ⟨iB,0,none⟩),.pointer (some ⟨bc,0,none⟩)]] 274 (0,0))
 cells:W.heap[ab]? =some (.cells (ag o).toArray 157 (0,0))
theorem Tt.kept {W W':World} {bf bo iB ab bc l:Nat} {o:List Int} (h:Tt W bf bo iB ab bc l o) (hk: ∀m∈[ab,iB,bc],m<W.heap.size->W'.heap[m]? =W.heap[m]?):Tt W' bf bo iB ab bc l o:=
 ⟨(hk _ ϕ (aP.1 h.y).1).trans h.y,(hk _ ϕ (aP.1 h.ch).1).trans h.ch,(hk _ ϕ (aP.1 h.cells).1).trans h.cells⟩
theorem Tt.below {W W':World} {bf bo iB ab bc l:Nat} {o:List Int} (h:Tt W bf bo iB ab bc l o) (hb:Ϙ W W'):Tt W' bf bo iB ab bc l o:=
 h.kept fun m _ hm=>hb.block m hm
theorem Tt.set {W:World} {bf bo iB ab bc l:Nat} {o:List Int} (h:Tt W bf bo iB ab bc l o) (hd1:iB≠ab) (hd3:bc≠ab) (i:Nat) (x:Int):Tt (W.setCell ⟨ab,i,none⟩ (iv x)) bf bo iB ab bc l (o.set i x):=
 ⟨(dm _ _ _ _ hd1).trans h.y,(dm _ _ _ _ hd3).trans h.ch,by rw[<-qm];exact aG h.cells _⟩
def afQ (_:List Nat) (x:List Int) (v:Value) (_:World):Prop:=v=j6 (oK x)
structure ZO (bf bo:Nat) (f:bG) (tv ov:Value) (out:List Int) (W:World):Prop where
 fb:W.heap[bf]? =some (.cells (tT f tv) 45 (0,0))
 ob:W.heap[bo]? =some (.cells #[ov] 52 (0,0))
 uH:dH W tv f.ax
 out:aK W ov out
theorem Jj (f:bG) (hS:oV f) (tv ov:Value) (out:List Int) (bf bo iB ab bc l:Nat) (hd1:iB≠ab) (hd3:bc≠ab) (J:List Nat->Option Nat->World->Prop)
 (hInv: ∀Ms s W1,J Ms s W1->ZO bf bo f tv ov out W1)
 (hstep: ∀Ms jc s W1 W2,J Ms s W1->Ext Ms W1 W2->(∀m∈jc,m∈Ms∨(W1.heap.size<=m/\m<W2.heap.size))->True->J jc s W2)
 (hY: ∀Ms k v W1 (hk:k<(bH f out).length),J Ms (some k) W1->afQ Ms (bH f out)[k] v W1->YieldAt Fence.wide 0 Tryz.prog l #[v] W1 fun e W'=>
   ((∀m∈Ms,m∉[]->m<W1.heap.size->W'.heap[m]? =W1.heap[m]?)/\W1.heap.size<=W'.heap.size)/\((e= .returned (.bool true)/\J Ms (some (k+1)) W')∨(e= .returned (.bool false)/\J Ms none W'))):
 ∀(m i k:Nat) (Κ:List Int) (W:World) (o:List Int),i+m=f.rows.toNat->Κ.length=i->o.length=7->o.take i=Κ->o.drop f.rows.toNat=List.replicate (7-f.rows.toNat) 0->iN (dX f) i k Κ->Tt W bf bo iB ab bc l o->J [ab,iB,bc] (some (qV f out k)) W->
  CallsIn Fence.wide 0 Tryz.prog 196 #[iv i,.pointer (some ⟨bf,0,none⟩),.pointer (some ⟨ab,0,none⟩),.pointer (some ⟨bo,0,none⟩),.pointer (some ⟨iB,0,none⟩),.pointer (some ⟨bc,0,none⟩)] W
   (fun e W'=>(e= .returned (.bool true)/\J [ab,iB,bc] (some (qV f out (k+(dZ ((dX f).drop i)).length))) W'/\ ∃o',o'.length=7/\o'.take i=Κ/\o'.drop f.rows.toNat=List.replicate (7-f.rows.toNat) 0/\Tt W' bf bo iB ab bc l o')∨
     (e= .returned (.bool false)/\J [ab,iB,bc] none W')):=by
 have hRl:(dX f).length=f.rows.toNat:=by simp[dX]
 intro m;induction m with
 |zero=>
  intro i k Κ W o him hpl hol hot hod hat UC hJ;have hrow:(i:Int)=f.rows:=by have:=hS.wV;omega
  obtain⟨hone,hk,hx⟩:=hat.last ϑ;rw[hone];have hop:o=oK Κ:=by
   rw[<-List.take_append_drop f.rows.toNat o,hod];rw[show f.rows.toNat=i from ϑ,hot];unfold oK;rw[hpl]
  have Ρ:k<(nP f).length:=hk;have wN:(nP f)[k]=Κ:=hx;obtain⟨hbf,Rs,htl,hov⟩:=hInv _ _ _ hJ;obtain⟨ot,ct,rfl⟩:=htl.open;obtain⟨oo,oc,rfl⟩:=hov.open;have hright:=vZ f hS ot ct o hol _ out W htl hov;rw[show ik f out o=ik f out Κ from by rw[hop,Fz]] at hright
  obtain⟨LY,Oe,NY⟩:=ae hbf;obtain⟨YL,cf2,cl2⟩:=ae Rs;obtain⟨cc3,cf3,cl3⟩:=ae UC.y;obtain⟨x0,x1,x2,x3,x4,x5,x6,hxs⟩:=ql hol;have hag:j6 o= .agg #[iv x0,iv x1,iv x2,iv x3,iv x4,iv x5,iv x6]:=by rw[hxs];rfl
  have hcb:=UC.cells;rw[show(ag o).toArray= #[iv x0,iv x1,iv x2,iv x3,iv x4,iv x5,iv x6] from by rw[hxs];rfl] at hcb
  obtain⟨cc4,cf4,cl4⟩:=ae hcb;rw[hag] at hright;have HR:=aa hright;have HS:=aa UC;have HJ:=aa hJ;have HI:=aa hInv;have κ:=aa hstep;have HY:=aa hY;have HK:=aa (show ∃h:k<(nP f).length,(nP f)[k]=Κ from⟨Ρ,wN⟩);have HO:=aa (af hol (af hot (af hod (af hop hag))));have heq:((i:Int)==f.rows)=true:=by simpa using hrow
  clear hright hInv hstep hY UC hJ hbf Rs htl hov hat hcb hop hag hxs hx wN hk Ρ hone hrow hot hod;obtain⟨q,hq⟩: ∃q,ik f out Κ=q:=⟨_,rfl⟩;have HQ:=aa hq;rw[hq] at HR;clear hq;cases q
  ·skip
   refine callsIn_of_wp Tryz.func196 rfl trivial ?_;simp only[Tryz.ntmps196,List.size_toArray,List.length_cons,List.length_nil,Nat.reduceAdd,Nat.reduceSub,Array.replicate_succ,Array.replicate_zero,jr,jv,List.nil_append,List.cons_append]
   gi_wp2_with fail
   refine(callsIn_wide.2 HR.o).mono ?_;rintro e W1 ⟨rfl,ζ⟩;have Qi:=aa ζ;clear ζ
   gi_wp2_with fail
   go_returns;have Bb:=κ.o _ _ _ _ _ HJ.o (Ext.ay Qi.o) (fun m hm=> .inl hm) trivial;obtain⟨Ρ,wN⟩:=HK.o;rw[<-PG Ρ (by rw[wN];exact HQ.o)] at Bb;exact .inl ⟨by simp,Bb,o,HO.o.1,HO.o.2.1,HO.o.2.2.1,HS.o.below Qi.o⟩
  ·skip
   refine callsIn_of_wp Tryz.func196 rfl trivial ?_;simp only[Tryz.ntmps196,List.size_toArray,List.length_cons,List.length_nil,Nat.reduceAdd,Nat.reduceSub,Array.replicate_succ,Array.replicate_zero,jr,jv,List.nil_append,List.cons_append]
   gi_wp2_with fail
   refine(callsIn_wide.2 HR.o).mono ?_;rintro e W1 ⟨rfl,ζ⟩;obtain⟨hc1,hf1⟩:=bA ζ;have hs1:=ζ.size;have Qi:=aa ζ;have Bb:=κ.o _ _ _ _ _ HJ.o (Ext.ay ζ) (fun m hm=> .inl hm) trivial;obtain⟨Ρ,wN⟩:=HK.o;obtain⟨hc,hx⟩:=BA Ρ (by rw[wN];exact HQ.o);obtain⟨g1,t1,a1,b1,hy1,Bl⟩:=HY.o _ _ (.agg #[iv x0,iv x1,iv x2,iv x3,iv x4,iv x5,iv x6]) W1 hc Bb (by
    show _=j6 (oK _);rw[hx,wN, <-HO.o.2.2.2.1,HO.o.2.2.2.2])
   have hcn:qV f out (k+1)=qV f out k+1:=KX Ρ (by rw[wN];exact HQ.o);exact zaT
 |succ m ih=>
  intro i k Κ W o him hpl hol hot hod hat UC hJ;have hi:i<(dX f).length:=ϑ;have τ:=iN.count hi;have hw0:=hS.wU;have hw1:=hS.uj;have Pf:=hS.og;have hr0:=hS.wV;have Ar:(dX f)[i]=(-1,f.aJ-1):=by simp[dX]
  obtain⟨z,hz,hz4⟩: ∃z:Nat,(z:Int)=f.aJ+1/\z<=4:=⟨(f.aJ+1).toNat,by omega,by omega⟩;have ν:(dP (dX f)[i]).toNat=z:=by rw[Ar];unfold dP;simp only;omega
  rw[ν] at τ;obtain⟨hbf,Rs,htl,hov⟩:=hInv _ _ _ hJ;obtain⟨LY,Oe,NY⟩:=ae hbf;have hne:(i:Int)≠f.rows:=ϑ;have Cv:((i:Int)==f.rows)=false:=by simpa using hne
  have SK:Hid (∀c:Nat,c<z->iN (dX f) (i+1) (k+c*(dZ ((dX f).drop (i+1))).length) (Κ++[(c:Int)-1])):=aa (fun c hc=>by
   have:=hat.next hi c (by rw[ν];exact hc);rw[Ar] at this;rw[show(c:Int)-1= -1+(c:Int) from by omega];exact this)
  have HI:=aa hInv;have κ:=aa hstep;have HS:=aa UC;have HJ:=aa hJ;have Tp:=aa ih;have GD:=aa (af hol (af hot hod));have HCZ:=aa τ;have HZ:=aa hz;have hi7:i<7:=ϑ;have hiR:i<f.rows.toNat:=ϑ;clear hInv hstep hY hat UC hJ ih τ hne hbf Rs htl hov Ar ν hi hol hot hod hRl hz;refine callsIn_of_wp Tryz.func196 rfl trivial ?_;simp only[Tryz.ntmps196,List.size_toArray,List.length_cons,List.length_nil,Nat.reduceAdd,Nat.reduceSub,Array.replicate_succ,Array.replicate_zero,jr,jv,List.nil_append,List.cons_append]
  gi_wp2_with fail
  rw[<-HZ.o]
  gi_loopw [26] (fun u wr=> ∃c:Nat,c<=z/\u= .int .i64 c/\ ∃o':List Int,o'.length=7/\o'.take i=Κ/\o'.drop f.rows.toNat=List.replicate (7-f.rows.toNat) 0/\Tt wr bf bo iB ab bc l o'/\J [ab,iB,bc] (some (qV f out (k+c*(dZ ((dX f).drop (i+1))).length))) wr)
   (fun u _=>z-(intOf u).toNat)
  case atStart=>exact⟨0,bD _,rfl,o,GD.o.1,GD.o.2.1,GD.o.2.2,HS.o,by simpa using HJ.o⟩
  case round=>
   obtain⟨c,hcz,rfl,o',ho1,Ψ,ho3,UC,hJ⟩:=hrel;by_cases tX:c<z
   ·obtain⟨hbf,Rs,htl,hov⟩:=HI.o _ _ _ hJ;obtain⟨ZK,Le,K3⟩:=ae hbf;obtain⟨ZJ,Ld,KZ⟩:=ae UC.ch;obtain⟨y,MR⟩: ∃y,wr.cell? ⟨ab,i,none⟩=some (iv y):=⟨_,fB UC.cells (show i<o'.length by omega)⟩;have hab:=dn wr _ MR;have hfr:=aZ UC.cells i;have Dr:=aa UC;have OL:=aa hJ;have HO:=aa (af ho1 (af Ψ ho3));have Ba:(c:Int)<z:=ϑ;clear UC hJ hbf Rs htl hov ho1 Ψ ho3 LY Oe NY;have Cs:=Dr.o.set hd1 hd3 i ((c:Int)-1);have Vo:J [ab,iB,bc] (some (qV f out (k+c*(dZ ((dX f).drop (i+1))).length))) (wr.setCell ⟨ab,i,none⟩ (iv ((c:Int)-1))):=
     κ.o _ _ _ _ _ OL.o ((kH wr ⟨ab,i,none⟩ _).more (fun x hx=>by simp at hx;subst hx;simp)) (fun m hm=> .inl hm) trivial
    have pG:=Tp.o (i+1) _ (Κ++[(c:Int)-1]) _ (o'.set i ((c:Int)-1)) ϑ (by simp[hpl]) (by simp[HO.o.1]) (by
     rw[List.take_set];rw[oQ,HO.o.2.1];have XV:i<o'.length:=by have:=HO.o.1;omega
     rw[bZ XV];simp[nT,hpl]) (by
     rw[List.drop_set,aB hiR];exact HO.o.2.2) (SK.o c tX) Cs Vo
    rw[show((i+1:Nat):Int)=(i:Int)+1 from by omega] at pG;have yY:=aa pG;clear pG Cs Vo
    gi_wp2_with fail
    refine yY.o.mono ?_;rintro e W2 (⟨rfl,hJ2,o2,ho1,Ψ,ho3,Ct⟩|⟨rfl,hJ2⟩)
    ·have HJ2:=aa hJ2;have Oz:=aa Ct;have xQ:=aa (af ho1 (af Ψ ho3));clear hJ2 Ct ho1 Ψ ho3 ZK Le K3 ZJ Ld KZ MR hab hfr
     gi_wp2_with fail
     go_roundw
     case rel=>
      exact zbl
     case measure=>simp[intOf];omega
    ·have HJ2:=aa hJ2;clear hJ2 ZK Le K3 ZJ Ld KZ MR hab hfr
     gi_wp2_with fail
     go_returns;exact .inr ⟨by simp,HJ2.o⟩
   ·have Ny:c=z:=ϑ;subst Ny;have OL:=aa hJ;have Dr:=aa UC;have HO:=aa (af ho1 (af Ψ ho3));clear hJ UC ho1 Ψ ho3 LY Oe NY
    gi_wp2_with fail
    go_returns;exact zcp
theorem Jb (f:bG) (hS:oV f) (tv ov:Value) (out:List Int) (bf bo:Nat):
 Sw Tryz.prog 195 #[.pointer (some ⟨bf,0,none⟩),.pointer (some ⟨bo,0,none⟩)] (bH f out) afQ [] (fun _=>True) (ZO bf bo f tv ov out):=by
 intro l J W hInv hstep hY h0;have hch:=fun iB ab bc hd1 hd3=>Jj f hS tv ov out bf bo iB ab bc l hd1 hd3 J hInv hstep hY;have Pf:=hS.og;have hRl:(dX f).length=f.rows.toNat:=by simp[dX]
 have HCH:=aa hch;have κ:=aa hstep;have HJ:=aa h0;have hn2: ∀(A B:Obj) (v:Value) (t:TypeId),(((W.alloc A).alloc B).alloc (.cells #[v] t)).cell? ⟨W.heap.size+1+1,0,none⟩=some v:=fun A B v t=>aA (fU W A B _);have hf2: ∀(A B:Obj) (v:Value) (t:TypeId),(((W.alloc A).alloc B).alloc (.cells #[v] t)).frozen? ⟨W.heap.size+1+1,0,none⟩=false:=fun A B v t=>aZ (fU W A B _) 0;clear hInv hstep hY hch h0 hS;go_enter Tryz.func195,Tryz.ntmps195;go_wp2_with fail
 refine(callsIn_wide.1 (HCH.o W.heap.size (W.heap.size+1) (W.heap.size+1+1) ϑ ϑ f.rows.toNat 0 0 [] _ (List.replicate 7 0) ϑ rfl ϕ ϕ (by rw[List.drop_replicate]) (iN.zero _) ⟨?_,?_,?_⟩
  (κ.o _ _ _ _ _ HJ.o (Ext.ay zl) (fun m hm=> .inr (by simp at hm;(first|omega|(simp;omega)))) trivial))).mono ?_
 ·exact zbN
 ·exact fU _ _ _ _
 ·exact zbR
 ·rintro e W2 (⟨rfl,hJ2,_⟩|⟨rfl,hJ2⟩)
  ·have HJ2:=aa hJ2;clear hJ2 hn2 hf2;go_wp2_with fail
   go_end0
   refine⟨⟨_,rfl⟩,[W.heap.size+1,W.heap.size,W.heap.size+1+1],.inl ?_⟩;have:=HJ2.o;rw[<-KY];simpa [nP] using this
  ·have HJ2:=aa hJ2;clear hJ2 hn2 hf2;exact zbG
theorem Jc (f:bG) (tv:Value) (o:Option Addr) (n c:Nat) (w:World):
 Ϝ 113 #[fv f tv,.slice o n c] w (fun e w'=>e= .returned (.func (.func 195) #[] #[.pointer (some ⟨w.heap.size,0,none⟩),.pointer (some ⟨w.heap.size+1,0,none⟩)])/\
  w'=(w.alloc (.cells (tT f tv) 45)).alloc (.cells #[.slice o n c] 52)):=by
 go_enter Tryz.func113,Tryz.ntmps113;exact zbA
end Go.Proofs.Z
namespace Go.Proofs.Z
open Go.RowKit Go.RG Go.SL Go.Shelf ig Go.TB
attribute [local go_sem] Oper.semAt_some
theorem agQ:gJ Tryz.prog 152 157 (.agg #[iv 0,iv 0,iv 0,iv 0,iv 0,iv 0,iv 0]) 7 56:=⟨Tryz.underlying152,by kernel_rfl,rfl,by omega⟩
structure Dx (w:World) (Os Ms:List Nat) (W:World):Prop where
 ext:Ϙ w W
 old: ∀m∈Ms,w.heap.size<=m
 bnd: ∀m∈Ms,m<W.heap.size
 apart: ∀b∈Os,b∉Ms/\b<W.heap.size
theorem Dx.gM {w:World} {Os Ms jc:List Nat} {W1 W2:World} (h:Dx w Os Ms W1) (hE:Ext Ms W1 W2) (γ: ∀m∈jc,m∈Ms∨(W1.heap.size<=m/\m<W2.heap.size)):
 Dx w Os jc W2/\ ∀b∈Os,W2.heap[b]? =W1.heap[b]? :=by
 have ν:=h.ext.size;refine⟨⟨h.ext.trans ⟨hE.os,hE.tape,hE.output,hE.size,fun k hk=>?_⟩,fun m hm=>?_,fun m hm=>?_,fun b hb=>?_⟩,fun b hb=>hE.block b (h.apart b hb).2 (h.apart b hb).1⟩
 ·exact hE.block k ϑ (fun Ρ=>by have:=h.old k Ρ;omega)
 ·rcases γ m hm with h1|h1
  ·exact h.old m h1
  ·omega
 ·rcases γ m hm with h1|h1
  ·exact dU (h.bnd m h1) hE.size
  ·exact h1.2
 ·exact zbV
theorem Dx.own {w:World} {Os Ms:List Nat} {W1 W2:World} (h:Dx w Os Ms W1) (hE:Ϙ w W2) (hs:W1.heap.size<=W2.heap.size):Dx w Os Ms W2:=
 ⟨hE,h.old,fun m hm=>dU (h.bnd m hm) hs,fun b hb=>⟨(h.apart b hb).1,dU (h.apart b hb).2 hs⟩⟩
theorem Dx.put {w:World} {Os Ms:List Nat} {W:World} (h:Dx w Os Ms W) {r:Nat} (o:Obj) (hr:w.heap.size<=r):Dx w Os Ms (W.putObj r o):=
 h.own (h.ext.trans ⟨rfl,rfl,rfl,by simp,fun k hk=>World.putObj_heap_other ϑ⟩) ϕ
def oH (ls:List (List Int)):List Value:=ls.flatMap fun x=>ag (oK x)
abbrev Bf (f:bG) (tv v:Value):Array Value:= #[iv f.rows,iv f.aJ,iv f.left.1,iv f.left.2,tv,v]
theorem ko {f:bG} (hS:oV f) (out:List Int):(bH f out).length<=2500:=by
 have h1:=uX (dX f) (MJ hS);rw[Hf] at h1;have h2:=hS.many;have h3:(bH f out).length<=(nP f).length:=List.length_filter_le _ _;unfold nP at h3;omega
structure SX (B:Nat) (f:bG) (tv:Value) (ls:List (List Int)) (Ms:List Nat) (W:World):Prop where
 work: ∃v,W.heap[B]? =some (.cells (Bf f tv v) 154 (0,0))/\W.ownsRow (B+6) 157 7 v ls.length (oH ls)/\ ∀g,v.ownBlock=some g->g∉Ms/\g<W.heap.size
 ptr:W.heap[B+1]? =some (.cells #[.pointer (some ⟨B,0,none⟩)] 149 (0,0))
 b2:W.heap[B+2]? =some (.cells (tT f tv) 45 (0,0))
 b3:W.heap[B+3]? =some (.cells #[.slice none 0 0] 52 (0,0))
theorem SX.kept {B:Nat} {f:bG} {tv:Value} {ls:List (List Int)} {Ms jc:List Nat} {W W':World} (h:SX B f tv ls Ms W) (hs:W.heap.size<=W'.heap.size) (hk: ∀b,B<=b->b<B+4->W'.heap[b]? =W.heap[b]?)
 (ho: ∀g,B+6<=g->g<W.heap.size->g∉Ms->W'.heap[g]? =W.heap[g]?) (hM: ∀m∈jc,m∈Ms∨(W.heap.size<=m/\m<W'.heap.size)):SX B f tv ls jc W':=by
 obtain⟨v,h1,h2,h3⟩:=h.work;exact zaZ
structure Sq (W:World) (wb:Nat) (f:bG) (tv v:Value) (ls:List (List Int)):Prop where
 cells:W.heap[wb]? =some (.cells (Bf f tv v) 154 (0,0))
 uH:dH W tv f.ax
 truth:aH 7 W v ls.length (oH ls)
theorem Sq.lt {W:World} {wb:Nat} {f:bG} {tv v:Value} {ls:List (List Int)} (h:Sq W wb f tv v ls):wb<W.heap.size:=(aP.1 h.cells).1
theorem Sq.below {W W':World} {wb:Nat} {f:bG} {tv v:Value} {ls:List (List Int)} (h:Sq W wb f tv v ls) {B:Nat} (hb:Below B W W') (hB:W.heap.size<=B):Sq W' wb f tv v ls:=
 ⟨(hb.block _ (by have:=h.lt;omega)).trans h.cells,h.uH.below hb hB,h.truth.below hb hB⟩
def eG (f:bG) (Α:Bool):Int:=if ja f≠0 then ja f else if Α=false then 2 else if(bH f []).isEmpty then 11 else 0
def WQ (f:bG) (tv:Value) (Α:Bool) (w:World) (e:Ending) (w':World):Prop:=
 Ϙ w w'/\((eG f Α≠0/\e= .returned (.tuple #[.pointer none,.int .i64 (eG f Α)]))∨
  (eG f Α=0/\ ∃(wb:Nat) (v:Value),e= .returned (.tuple #[.pointer (some ⟨wb,0,none⟩),.int .i64 0])/\w.heap.size<=wb/\Sq w' wb f tv v (bH f [])))
theorem Md (f:bG) (tv:Value) (g:Nat) (aM:Array Value) (Α:Bool) (w:World) (ht:dH w tv f.ax) (eg: Ϛ Tryz.prog g)
 (Ky: ∀W,Ϙ w W->Ϝ g aM W (PV (.bool Α) W)):
 Ϝ 66 #[fv f tv,.func (.func g) #[] aM] w (WQ f tv Α w):=by
 obtain⟨o,c,rfl⟩:=ht.open;have HT:=aa ht;have HF:=aa Ky;clear ht Ky;by_cases hf0:ja f=0
 case neg=>
  have HE:Hid (eG f Α=ja f/\eG f Α≠0):=aa (by unfold eG;rw[aB hf0];exact⟨rfl,hf0⟩);have HC:=aa (xJ f (.slice o f.ax.length c));generalize hff:ja f=e at*
  clear hff;go_enter Tryz.func66,Tryz.ntmps66;go_wp2_with fail
  refine(HC.o _ (HT.o.alloc _)).mono ?_;exact zcb
 have HC:=aa (fun w=>hf0▸xJ f (.slice o f.ax.length c) w);have mK:=aa (gy hf0);have OM:=aa hf0;clear hf0;cases Α
 ·have HE:Hid (eG f false=2):=aa (by unfold eG;rw[aj (by rw[OM.o];simp),aB rfl]);go_enter Tryz.func66,Tryz.ntmps66;go_wp2_with fail
  refine(HC.o _ (HT.o.alloc _)).mono ?_;exact zcz
 have HE:Hid (eG f true=if(bH f []).isEmpty then 11 else 0):=aa (by unfold eG;rw[aj (by rw[OM.o];simp),aj ϕ]);refine(callsIn_wide (n:=0)).1 ?_;refine callsIn_of_wp_marks Tryz.func66 rfl trivial ?_;simp only[Tryz.ntmps66,List.size_toArray,List.length_cons,List.length_nil,Nat.reduceAdd,Nat.reduceSub,Array.replicate_succ,Array.replicate_zero,jr,jv,List.nil_append,List.cons_append]
 gi_wp2_with fail
 refine(callsIn_wide.2 (HC.o _ (HT.o.alloc _))).mono ?_;rintro e w1 ⟨rfl,hb⟩;obtain⟨hc1,hf1⟩:=bA hb;have hz1:w.heap.size<w1.heap.size:=by have:=hb.size;simp at this;omega
 have Qi:=aa (show Ϙ w w1 from zl);clear hb
 gi_wp2_with fail
 refine(callsIn_wide.2 (HF.o _ Qi.o)).mono ?_;rintro e w2 ⟨rfl,hb⟩;obtain⟨hc2,hf2⟩:=bA hb;have hz2:w.heap.size<w2.heap.size:=by have:=hb.size;omega
 have Ra:=aa (aV Qi.o hb);clear hb
 gi_wp2_with fail
 refine(callsIn_wide.2 (Jc f _ none 0 0 _)).mono ?_;rintro e w3 ⟨rfl,rfl⟩
 gi_wp2_with fail
 obtain⟨B,kT⟩: ∃B,w2.heap.size=B:=⟨_,rfl⟩;rw[kT];obtain⟨w4,hw4⟩: ∃w4,((((w2.alloc (.cells #[iv f.rows,iv f.aJ,iv f.left.1,iv f.left.2,.slice o f.ax.length c,.slice none 0 0] 154)).alloc (.cells #[.pointer (some ⟨B,0,none⟩)] 149)).alloc (.cells (tT f (.slice o f.ax.length c)) 45)).alloc (.cells #[.slice none 0 0] 52))=w4:=⟨_,rfl⟩;have aaB:w4.heap.size=B+4:=by rw[<-hw4];simp;omega
 have Ig:w.heap.size<B:=ϑ;have fV:Hid (Ϙ w w4):=aa (by rw[<-hw4];exact ai (ai (ai (ai Ra.o _) _) _) _)
 have HA4:Hid (SX B f (.slice o f.ax.length c) [] [] w4):=aa (by
  rw[<-hw4];refine⟨⟨.slice none 0 0,?_,⟨rfl,.inl ⟨rfl,rfl⟩⟩,fun g hg=>by cases hg⟩,?_,?_,?_⟩
  ·exact za6
  ·exact zbv
  ·exact zbO
  ·rw[<-kT];exact ku _ _ _ _ _)
 rw[hw4];clear hw4 hc1 hf1 hz1 hc2 hf2;have Ay: ∀b,b∈[w.heap.size,B,B+1,B+2,B+3,B+4,B+5]↔b=w.heap.size∨(B<=b/\b<B+6):=fun b=>by simp;omega
 obtain⟨Os,CL⟩: ∃Os,[w.heap.size,B,B+1,B+2,B+3,B+4,B+5]=Os:=⟨_,rfl⟩;rw[CL] at Ay;clear CL;have HT':Hid (∀W,Ϙ w W->dH W (.slice o f.ax.length c) f.ax):=aa (fun W hb=>HT.o.below hb (ah _));refine kL (Jb f mK.o (.slice o f.ax.length c) (.slice none 0 0) [] (B+1+1) (B+1+1+1)) rfl (enters_of Tryz.func195 ϰ rfl) rfl ϕ
  (fun Ms k W=>Dx w Os Ms W/\SX B f (.slice o f.ax.length c) ((bH f []).take k) Ms W)
  (fun _ _ _=>False)
  ?hInv ?mZ ?hI ?hIx ?Et ?qE ?h0
  (fun a Ms k W1 a₁ W=> ∃(x:List Int) (bt:Nat),(bH f [])[k]? =some x/\a₁={tmps:=(a.tmps.setIfInBounds 24 (j6 (oK x))).setIfInBounds 8 (.pointer (some ⟨bt,0,none⟩)),defers:=[]}/\
    (Dx w Os Ms W/\SX B f (.slice o f.ax.length c) ((bH f []).take k) Ms W)/\(W.heap[bt]? =some (.cells (ag (oK x)).toArray 157 (0,0))/\B+6<=bt/\bt∉Ms/\(∀v,W.heap[B]? =some (.cells (Bf f (.slice o f.ax.length c) v) 154 (0,0))->v.ownBlock≠some bt))/\
    (∀m∈Ms,m∉([]:List Nat)->m<W1.heap.size->W.heap[m]? =W1.heap[m]?)/\W1.heap.size<=W.heap.size)
  ?Iu ?hassign ?hbody ?hdone ?hstop
 case hInv=>
  rintro Ms k W ⟨hF,hP⟩;exact⟨hP.b2,hP.b3,HT'.o W hF.ext,aH.nil 1 W⟩
 case mZ=>rintro cd Ms W h;exact h.elim
 case hI=>
  exact za3
 case hIx=>rintro cd Ms jc Wa Wb h;exact h.elim
 case Et=>
  rintro Ms k W r ob ⟨hF,hP⟩ hr;exact za5
 case qE=>rintro cd Ms W r ob h;exact h.elim
 case h0=>
  intro o1 o2;refine⟨⟨ai (ai fV.o _) _,by simp,by simp,fun b hb=>⟨by simp,by have:=(Ay b).1 hb;simp;omega⟩⟩,?_⟩;rw[List.take_zero];exact zbb
 case Iu=>
  rintro Ms k W1 a₁ W ob ⟨x,bt,hx,ha,⟨hF,hP⟩,⟨hbt,hb6,hbM,hbv⟩,hk,hs⟩;have χ:=(hF.apart (B+5) ((Ay _).2 ϑ)).1;refine⟨x,bt,hx,ha,⟨hF.put ob ϑ,hP.kept ϕ (fun b h1 h2=>World.putObj_heap_other ϑ) (fun g h1 h2 h3=>World.putObj_heap_other ϑ) (fun m hm=> .inl hm)⟩,
   ⟨(World.putObj_heap_other ϑ).trans hbt,hb6,hbM,fun v hv=>hbv v ((World.putObj_heap_other ϑ).symm.trans hv)⟩,
   fun m hm h0 lg=>(World.putObj_heap_other (fun e=>χ (by rw[show B+5=m by omega];exact hm))).trans (hk m hm h0 lg),by simpa using hs⟩
 case hassign=>
  rintro Ms k v W hk ⟨hF,hP⟩ hE tX;obtain rfl:v=j6 (oK (bH f [])[k]):=hE;have hxk:(bH f [])[k]? =some (bH f [])[k]:=bZ hk;have hxl:=mr (bK hk);generalize (bH f [])[k]=x at*
  have Pf:=mK.o.og;obtain⟨y0,y1,y2,y3,y4,y5,y6,ω⟩:=ql (su (x:=x) ϑ);have hYS:=aa ω;rw[ω];rw[show j6 [y0,y1,y2,y3,y4,y5,y6]= .agg #[iv y0,iv y1,iv y2,iv y3,iv y4,iv y5,iv y6] from rfl]
  gi_wp2
  have hB':Ϙ W (W.alloc (.cells #[iv y0,iv y1,iv y2,iv y3,iv y4,iv y5,iv y6] 157)):=ai (aC _ _) _;refine⟨⟨x,W.heap.size,hxk,?_,⟨(hF.gM (Ext.ay hB') (fun m hm=> .inl hm)).1,hP.kept ϕ (fun b h1 h2=>aS _ _ _ ϑ) (fun g h1 h2 h3=>aS _ _ _ ϑ) (fun m hm=> .inl hm)⟩,
   ⟨?_,by omega,fun hm=>by have:=hF.bnd _ hm;omega,fun v hv e=>?_⟩,fun m hm h0 lg=>aS _ _ _ ϑ,by simp⟩,aS _ _ _ ϑ,aS _ _ _ ϑ⟩
  ·rw[hYS.o];rfl
  ·rw[hYS.o];exact av _ _
  ·obtain⟨v0,h1,h2,h3⟩:=hP.work;have h4:=(aS _ _ _ ϑ).symm.trans hv;rw[h1] at h4;simp only[Option.some.injEq,Obj.cells.injEq,and_true,Array.mk.injEq,List.cons.injEq,true_and] at h4;subst h4;have:=(h3 _ e).2;omega
 case hbody=>
  rintro Ms k W1 a₁ W busy hk ⟨x,bt,hx,rfl,⟨hF,hP⟩,⟨hbt,hb6,hbM,hbv⟩,XJ,ν⟩ ε hD;simp only[oU,List.set_cons_succ,List.set_cons_zero];obtain⟨v,Β,Μ,hv3⟩:=hP.work;obtain⟨vo,vc,rfl⟩:=aL Μ;have Vg:=hbv _ Β;obtain⟨c1,f1,l1⟩:=ae hP.ptr;obtain⟨c2,f2,l2⟩:=ae Β;have hxl:=mr (kX hx);have Pf:=mK.o.og;obtain⟨y0,y1,y2,y3,y4,y5,y6,ω⟩:=ql (su (x:=x) ϑ);have CK:=hbt;rw[ω] at CK;obtain⟨c3,f3,l3⟩:=ae (show W.heap[bt]? =some (.cells #[iv y0,iv y1,iv y2,iv y3,iv y4,iv y5,iv y6] 157 (0,0)) from CK);have hw:=(hF.apart w.heap.size ((Ay _).2 (.inl rfl)));obtain⟨gx,hgx,X0,hgx2,yx,XZ,am4⟩: ∃gx,(∀g,(Value.slice vo ((bH f []).take k).length vc).ownBlock=some g->g=gx)/\(gx=w.heap.size∨B+6<=gx)/\gx<W.heap.size/\gx∉Ms/\gx≠bt/\w.heap.size<=gx:=by
   cases wO:(Value.slice vo ((bH f []).take k).length vc).ownBlock with
   |none=>exact⟨w.heap.size,(fun g hg=>by cases hg),.inl rfl,hw.2,hw.1,by omega,by omega⟩
   |some g=>
    have h1:=aW Μ g wO;have h2:=hv3 g wO;exact⟨g,(fun g' hg=>by cases hg;rfl),.inr h1.1,h1.2,h2.1,fun e=>Vg (by rw[wO,e]),by omega⟩
  have XI:((bH f []).take k).length=k:=by rw[eO];omega
  rw[XI] at Β Μ hgx c2 hv3;have aaP:k<=2500:=by have:=ko mK.o [];omega
  have HF:=aa hF;have HP:=aa hP;have HV:=aa (af Β (af Μ hv3));have HX:=aa (af hx (af ω hxl));have HK:=aa (af XJ (af ε hD));have HG:=aa hgx;have ZZ:=aa CK;clear hF hP Β Μ hv3 hx ω hxl XJ ε hD hgx hbt CK hbv Vg hw;have q1:gx≠B:=ϑ;have q2:gx≠B+1:=ϑ;have q1':B≠gx:=ϑ;have q2':B+1≠gx:=ϑ;have q3':bt≠gx:=ϑ
  gi_wp2_with fail
  refine dD 8 [gx] (some 7) [(6,Spec.slice W.heap.size #[iv y0,iv y1,iv y2,iv y3,iv y4,iv y5,iv y6] 157 1),(7,⟨fun _ v=> ∃o c,v= .slice o (k+1) c,fun _ v Wx=>Wx.ownsRow (B+6) 157 7 v (k+1) (oH ((bH f []).take (k+1)))/\(∀g,v.ownBlock=some g->g=gx∨W.heap.size<=g)⟩)] ϰ ϰ ϰ ?_;simp only[zt];repeat ((first|refine zn ?_|refine zk ?_);simp only[zp])
  refine dI W.heap.size _ _ 1 ϱ (ah _) ϱ (by simpa using hgx2) ϕ (fun W hW=>by go_simp;try rfl) (fun b6=>?_);simp only[zp];refine bn _ ϱ ϱ (by exact⟨.slice none (k+1) 0,none,0,rfl⟩) (fun W6 hE hF=>?_) (fun v Wa Wb ho hE=>?_) (fun v hv=>?_)
  ·have G8:Ext [] W W6:=hE;obtain⟨b',hb',hge,μ⟩:=hF _ (bu _) ϰ;cases hb';have YM:=az (Ms:=[]) HV.o.2.1 G8 ϕ;have ι:aH 7 W6 (.slice (some ⟨b6,0,none⟩) 1 1) 1 (ag (oK x)):=by
    rw[HX.o.2.1];exact aH.bS 7 1 μ rfl ϖ
   refine Does.mono (cZ agQ ϱ ϱ YM ϱ ι (iE _) ϑ ϑ (by have:=G8.size;omega)) ?_;rintro v' W7 ⟨ho,TF,XL⟩;refine⟨aL ho,⟨?_,fun g hg=>?_⟩,⟨TF.os,TF.tape,TF.output,TF.size,fun b hb hn=>TF.block b hb (fun e=>hn (by rw[HG.o b e.symm];simp))⟩⟩
   ·have hl:(bH f []).take (k+1)=(bH f []).take k++[x]:=by
     rw[oQ,HX.o.1];rfl
    rw[hl];unfold oH;rw[rO];simpa [oH] using ho
   ·rcases XL with h1|h1
    ·exact .inl (HG.o g (by rw[<-h1,hg]))
    ·rw[hg] at h1;injection h1 with h1;exact .inr (by have:=G8.size;omega)
  ·exact zaP
  obtain⟨o7,c7,rfl⟩:=hv;simp only[zp];intro W8 hE hF;have G8:Ext [gx] W W8:=hE;obtain⟨nD,xB⟩:=hF _ (bu _);have aaw:W8.heap[B]? =some (.cells (Bf f (.slice o f.ax.length c) (.slice vo k vc)) 154 (0,0)):=(G8.block _ l2 (by simpa using q1')).trans HV.o.1;obtain⟨c8,f8,l8⟩:=ae aaw;have gP:=aa G8;have HO8:=aa (af nD (af xB aaw));clear hE hF G8 nD xB c1 f1 l1 c2 f2 c3 f3 l3 aaw
  gi_wp2_with fail
  have ahL:k+1=((bH f []).take (k+1)).length:=by rw[eO];omega
  obtain⟨v',hv'⟩: ∃v',Value.slice o7 (k+1) c7=v':=⟨_,rfl⟩;rw[hv'] at HO8⊢;have Ns:(W8.setCell ⟨B,5,none⟩ v').heap.size=W8.heap.size:=by simp[World.setCell]
  have hs8:=gP.o.size;have Γ: ∀b,b<W.heap.size->b≠gx->b≠B->(W8.setCell ⟨B,5,none⟩ v').heap[b]? =W.heap[b]? :=fun b hb h1 h2=>
   (dm _ _ _ _ h2).trans (gP.o.block b hb (by simpa using h1))
  have χ: ∀b∈Os,b∉Ms/\b<W.heap.size:=HF.o.apart;have Φ: ∀b,B<=b->b<B+6->b∈Os:=fun b h1 h2=>(Ay b).2 ϑ;have Yk:Dx w Os Ms (W8.setCell ⟨B,5,none⟩ v'):=HF.o.own (HF.o.ext.trans ⟨gP.o.os,gP.o.tape,gP.o.output,by rw[Ns];exact hs8,fun b hb=>(dm _ _ _ _ (by show b≠B;omega)).trans (gP.o.block b (by have:=HF.o.ext.size;omega) ϗ)⟩) (by rw[Ns];exact hs8);refine⟨⟨?_,?_,fun m hm h0 lg=>?_,by rw[Ns];omega⟩,Yk,⟨v',aG HO8.o.2.2 _,ahL▸bU HO8.o.1 fun g hg=>dm _ _ _ _ (by have:=(aW HO8.o.1 g hg).1;show g≠B;omega),fun g hg=>⟨fun hm=>?_,by rw[Ns];exact(aW HO8.o.1 g hg).2⟩⟩,?_,?_,?_⟩
  ·exact(Γ _ (χ _ (Φ (w4.heap.size+1) ϑ ϑ)).2 ϑ ϑ).trans HK.o.2.1
  ·exact(Γ _ (χ _ (Φ w4.heap.size ϑ ϑ)).2 ϑ ϑ).trans HK.o.2.2
  ·exact(Γ m (HF.o.bnd m hm) (fun e=>yx (e▸hm)) (fun e=>(χ B (Φ B ϑ ϑ)).1 (e▸hm))).trans (HK.o.1 m hm h0 lg)
  ·rcases HO8.o.2.1 g hg with h1|h1
   ·exact yx (h1▸hm)
   ·have:=HF.o.bnd g hm;omega
  ·exact(Γ _ (χ _ (Φ (B+1) ϑ ϑ)).2 ϑ ϑ).trans HP.o.ptr
  ·exact(Γ _ (χ _ (Φ (B+2) ϑ ϑ)).2 ϑ ϑ).trans HP.o.b2
  ·exact(Γ _ (χ _ (Φ (B+3) ϑ ϑ)).2 ϑ ϑ).trans HP.o.b3
 case hdone=>
  rintro Ms W ⟨hF,hP⟩ hD tX;rw[List.take_length] at hP;obtain⟨v,Β,Μ,hv3⟩:=hP.work;obtain⟨vo,vc,rfl⟩:=aL Μ;obtain⟨c1,f1,l1⟩:=ae hP.ptr;obtain⟨c2,f2,l2⟩:=ae Β;have GH:=aa hF;have HV:=aa (af Β Μ);have HL:=aa (ko mK.o []);clear hF hP Β Μ hv3;by_cases hn:(bH f []).length=0
  ·have hn':((((bH f []).length:Nat):Int)==0)=true:=by simpa using hn
   have aeO:eG f true=11:=by rw[HE.o,aB (by simpa using hn)]
   have WJ:=aa aeO;clear aeO hn
   gi_wp2_with fail
   refine⟨by simp,.inl ⟨_,_,rfl,run_takeDeferred hD,?_⟩⟩;exact⟨.tuple #[.pointer none,.int .i64 11],by simp[results,Tryz.results66,go_sem],(GH.o.put (Obj.deferred none) ϑ).ext,.inl ⟨by rw[WJ.o];simp,by rw[WJ.o]⟩⟩
  ·have hn':((((bH f []).length:Nat):Int)==0)=false:=by simpa using hn
   have hE0:eG f true=0:=by rw[HE.o,aj (by simpa using hn)]
   have HE0:=aa hE0;clear hE0 hn
   gi_wp2_with fail
   refine⟨by simp,.inl ⟨_,_,rfl,run_takeDeferred hD,?_⟩⟩;refine⟨.tuple #[.pointer (some ⟨B,0,none⟩),.int .i64 0],by simp[results,Tryz.results66,go_sem],(GH.o.put (Obj.deferred none) ϑ).ext,.inr ⟨HE0.o,B,.slice vo (bH f []).length vc,rfl,by omega,?_,HT'.o _ (GH.o.put (Obj.deferred none) ϑ).ext,?_⟩⟩
   ·exact(World.putObj_heap_other ϑ).trans HV.o.1
   ·exact zce
 case hstop=>rintro cd Ms W h;exact h.elim
end Go.Proofs.Z
namespace Go.Proofs.Z
open Go.RowKit Go.RG Go.SL Go.Shelf ig Go.TB
theorem GI (a b:Int) (g c:Nat) (w:World) (h0:w.cell? ⟨g,0,none⟩=some (iv a)) (h1:w.cell? ⟨g,1,none⟩=some (iv b)):
 Ϝ 115 #[.slice (some ⟨g,0,none⟩) 2 c] w (PV (iv (min a b)) w):=by
 have H:=aa (yh a b g c w h0 h1);go_enter Tryz.func115,Tryz.ntmps115;exact zcy
theorem L9 (r:dF) (n:Int) (w:World):Ϝ 69 #[rv r,iv n] w (PV (rv (wid r n)) w):=by
 go_enter Tryz.func69,Tryz.ntmps69;go_wp2_with fail
 refine zg 10 [] none [(3,Spec.slice (w.heap.size+2) #[iv r.1,iv n] 3 2),(4,Spec.val (iv (min r.1 n)))] ?_;simp only[zt];repeat (refine zd ?_;simp only[zp])
 refine dI (w.heap.size+2) _ _ _ ϱ ϕ ϱ ϕ ϕ (fun W hW=>by go_simp;try rfl) (fun b=>?_);simp only[zp];refine dQ _ ϱ ϱ 115 _ (fun W hW=>by go_simp;try rfl) (fun W hE hF=>?_) ?_
 ·obtain⟨c,hcb,hB,hc⟩:=hF _ (bu _) ϰ;cases hcb;exact GI r.1 n b 2 W (by simp[World.cell?,hc]) (by simp[World.cell?,hc])
 simp only[zp];repeat (refine zd ?_;simp only[zp])
 intro W hE hF;obtain⟨hc,hf⟩:=bA hE.below;have ic:=hE.size;(try simp only[bg] at ic)
 go_wp2;all_goals
  (try simp only[Exit.inBlock,Exit.then])
  refine bodyPost_ret (v:=rv (min r.1 n,max r.2 n)) (by simp[results,Tryz.results69,go_sem,hc];try omega) rfl ?_;exact⟨rfl,ze⟩
theorem Lu {w:World} {o:Option Addr} {n c:Nat} {ls:List (List Int)} (h:aH 7 w (.slice o n c) ls.length (oH ls)) (h7: ∀x∈ls,x.length<=7) {k:Nat} (hk:k<ls.length):
 ∃b off y0 y1 y2 y3 y4 y5 y6,o=some ⟨b,off,none⟩/\b<w.heap.size/\oK ls[k]=[y0,y1,y2,y3,y4,y5,y6]/\w.cell? ⟨b,off+k*7,none⟩=some (iv y0)/\w.cell? ⟨b,off+k*7+1,none⟩=some (iv y1)/\
  w.cell? ⟨b,off+k*7+2,none⟩=some (iv y2)/\w.cell? ⟨b,off+k*7+3,none⟩=some (iv y3)/\w.cell? ⟨b,off+k*7+4,none⟩=some (iv y4)/\w.cell? ⟨b,off+k*7+5,none⟩=some (iv y5)/\w.cell? ⟨b,off+k*7+6,none⟩=some (iv y6):=by
 obtain⟨hl,o',c',hv,h1,h2,h3,h4⟩:=h;cases hv;obtain⟨y0,y1,y2,y3,y4,y5,y6,ω⟩:=ql (su (h7 _ (bK hk)));cases o with
 |none=>have:=h3 rfl;omega
 |some a=>
  obtain⟨b,off,sp⟩:=a;obtain⟨hs,hc⟩:=h4 _ rfl;simp only at hs hc;subst hs;have g: ∀j (hj:j<7),(oH ls)[k*7+j]? =[iv y0,iv y1,iv y2,iv y3,iv y4,iv y5,iv y6][j]? :=fun j hj=>by
   unfold oH;have: ∀(ls:List (List Int)) (k:Nat) (hk:k<ls.length),(∀x∈ls,x.length<=7)->(ls.flatMap fun x=>ag (oK x))[k*7+j]? =(ag (oK ls[k]))[j]? :=by
    intro ls;induction ls with
    |nil=>intro k hk;simp at hk
    |cons x ls ih=>
     intro k hk h7;have hx:(ag (oK x)).length=7:=by simp[ag,su (h7 x ϕ)]
     rw[List.flatMap_cons];cases k with
     |zero=>simp only[Nat.zero_mul,Nat.zero_add,List.getElem_cons_zero];rw[rP ϑ]
     |succ k=>
      rw[lI ϑ,hx,show(k+1)*7+j-7=k*7+j from by omega];simpa using ih k (by simpa using hk) (fun y hy=>h7 y (by simp[hy]))
   rw[this ls k hk h7,ω];rfl
  have r0:=hc (k*7+0) (iv y0) (by rw[g 0 ϑ];rfl);have r1:=hc (k*7+1) (iv y1) (by rw[g 1 ϑ];rfl);have r2:=hc (k*7+2) (iv y2) (by rw[g 2 ϑ];rfl);have r3:=hc (k*7+3) (iv y3) (by rw[g 3 ϑ];rfl);have r4:=hc (k*7+4) (iv y4) (by rw[g 4 ϑ];rfl);have r5:=hc (k*7+5) (iv y5) (by rw[g 5 ϑ];rfl);have r6:=hc (k*7+6) (iv y6) (by rw[g 6 ϑ];rfl);rw[Nat.add_zero] at r0;rw[<-Nat.add_assoc] at r1 r2 r3 r4 r5 r6;exact⟨b,off,y0,y1,y2,y3,y4,y5,y6,rfl,dn w _ r0,ω,r0,r1,r2,r3,r4,r5,r6⟩
theorem RN (aM:Array Value) (hc:aM= #[]) (w:World):Ϝ 67 aM w (PV (.bool true) w):=by
 subst hc;go_enter Tryz.func67,Tryz.ntmps67;go_wp2;go_returns;exact⟨by simp,aC _ _⟩
def uT (f:bG) (ls:List (List Int)) (i:Int) (k:Nat):dF:=(ls.take k).foldl (fun r a=>wid r (kI f a i)) (kI f (ls.getD 0 []) i,kI f (ls.getD 0 []) i)
theorem Fx {f:bG} {ls:List (List Int)} {i:Int} {k:Nat} (hk:k<ls.length):uT f ls i (k+1)=wid (uT f ls i k) (kI f ls[k] i):=by
 unfold uT;rw[eT hk,List.foldl_append];rfl
theorem yI {f:bG} (hS:oV f) (a:List Int) (i:Int):0<=kI f a i/\kI f a i<=7:=by
 unfold kI C8;have:=IB a i (0:Int).toNat (f.rows-1+1-0).toNat;have:=hS.og;have:=hS.wV;omega
theorem G6 {f:bG} (hS:oV f) (ls:List (List Int)) (i:Int): ∀k,k<=ls.length->(0<=(uT f ls i k).1/\(uT f ls i k).1<=7)/\(0<=(uT f ls i k).2/\(uT f ls i k).2<=7):=by
 intro k;induction k with
 |zero=>intro _;have:=yI hS (ls.getD 0 []) i;simp only[uT,List.take_zero,List.foldl_nil];omega
 |succ k ih=>
  intro hk;rw[Fx ϑ];have:=ih ϑ;have:=yI hS ls[k] i;unfold wid;simp only;omega
def yH (f:bG):List dF:=(List.range f.aJ.toNat).map fun(i:Nat)=>uT f (bH f []) (i:Int) (bH f []).length
def WO (f:bG) (w:World) (e:Ending) (w':World):Prop:=
 Ϙ w w'/\((eG f true≠0/\e= .returned (.tuple #[.slice none 0 0,iv (eG f true)]))∨(eG f true=0/\ ∃v,e= .returned (.tuple #[v,iv 0])/\bF w' v (yH f)))
theorem Gl (f:bG) (tv:Value) (x:List Int) (y0 y1 y2 y3 y4 y5 y6:Int) (ω:oK x=[y0,y1,y2,y3,y4,y5,y6]) (who:Int) (hS:oV f) (W:World):
 Ϝ 68 #[fv f tv,.agg #[iv y0,iv y1,iv y2,iv y3,iv y4,iv y5,iv y6],iv who] W (PV (iv (kI f x who)) W):=by
 have:=KM f tv (oK x) (by rw[ω];rfl) who W hS.wV hS.og;rw[VF,ω] at this;exact this
theorem Xj:gJ Tryz.prog 118 42 (rv (0,0)) 2 16:=⟨Tryz.underlying118,by kernel_rfl,rfl,by omega⟩
theorem qc {f:bG} {b:Bool} (h:eG f b=0):oV f/\0<(bH f []).length/\b=true:=by
 unfold eG at h;split at h
 ·omega
 ·rename_i h1;split at h
  ·omega
  ·rename_i h2;split at h
   ·omega
   ·rename_i h3;refine⟨gy ϑ,?_,by simpa using h2⟩;cases hl:bH f [] with
    |nil=>rw[hl] at h3;simp at h3
    |cons x l=>simp
theorem zi (f:bG) (tv:Value) (w:World) (ht:dH w tv f.ax):Ϝ 40 #[fv f tv] w (WO f w):=by
 obtain⟨o,c,rfl⟩:=ht.open;have HA:=aa (Md f (.slice o f.ax.length c) 67 #[] true (w.alloc (.cells (tT f (.slice o f.ax.length c)) 45)) (ht.alloc _) (enters_of Tryz.func67 ϰ rfl) (fun W _=>RN #[] rfl W));clear ht;go_enter Tryz.func40,Tryz.ntmps40;go_wp2_with fail
 refine HA.o.mono ?_;rintro e w1 ⟨hb,⟨hne,rfl⟩|⟨h0,wb,v,rfl,hwb,hwk⟩⟩
 ·have HB:=aa (show Ϙ w w1 from zl);obtain⟨q,hq⟩: ∃q,eG f true=q:=⟨_,rfl⟩;exact zbz
 have HB:=aa (show Ϙ w w1 from zl);clear hb;obtain⟨hS,hpos,_⟩:=qc h0;have Zu: ∀x∈bH f [],x.length<=7:=fun x hx=>by have:=mr hx;have:=hS.og;omega
 have hcnt:=ko hS [];obtain⟨vo,vc,rfl⟩:=hwk.truth.open;have HS:=aa hS;have Bq:=aa hwk;obtain⟨dl,aaV⟩: ∃dl,yH f=dl:=⟨_,rfl⟩;have HDE:=aa aaV;have HDL:Hid (dl=(List.range f.aJ.toNat).map fun(i:Nat)=>uT f (bH f []) (i:Int) (bH f []).length):=aa (by rw[<-aaV];rfl);clear aaV;have hw3:=hS.uj;have hw0:=hS.wU;have H0:=aa h0;generalize bH f []=ls at*
 obtain⟨n,hn⟩: ∃n:Nat,f.aJ=n:=⟨f.aJ.toNat,by omega⟩;have HN:=aa hn;obtain⟨c1,f1,l1⟩:=ae hwk.cells;have Il:n<=3:=ϑ;rw[hn,Int.toNat_natCast] at HDL;clear hwk hS h0 hn;go_wp2_with fail
 rw[HN.o];have HL:=aa (af hpos (af Zu hcnt));clear hpos Zu hcnt hw3 hw0;go_loopw [6,25] (fun ov u wr=> ∃i:Nat,i<=n/\u= .int .i64 i/\(∃oo oc,ov= .slice oo i oc/\wr.ownsRow w1.heap.size 42 2 (.slice oo i oc) i (aD (dl.take i)))/\Ϙ w1 wr) (fun _ u _=>n-(intOf u).toNat)
 case atStart=>exact⟨0,bD _,rfl,⟨none,0,rfl,⟨rfl,.inl ⟨rfl,rfl⟩⟩⟩,aC _ _⟩
 case round=>
  obtain⟨i,hi,rfl,⟨oo,oc,rfl,η⟩,hB⟩:=hrel;by_cases tX:i<n
  ·have Δ:=Bq.o.below hB (ah _);obtain⟨d1,g1,m1⟩:=ae Δ.cells;obtain⟨b,off,y0,y1,y2,y3,y4,y5,y6,hvv,hb,ω,r0,r1,r2,r3,r4,r5,r6⟩:=Lu Δ.truth HL.o.2.1 HL.o.1;subst hvv;have hD:=Gl f (.slice o f.ax.length c) _ y0 y1 y2 y3 y4 y5 y6 ω (i:Int) HS.o;have hr0:uT f ls (i:Int) 0=(kI f (ls[0]'HL.o.1) i,kI f (ls[0]'HL.o.1) i):=by
    unfold uT;rw[show ls.getD 0 []=ls[0]'HL.o.1 from by simp[List.getD,HL.o.1]]
    rfl
   have hdb:=yI HS.o (ls[0]'HL.o.1) (i:Int);generalize kI f (ls[0]'HL.o.1) (i:Int)=d at*
   have HD:=aa hD;have HR0:=aa hr0;have WL:=aa hB;have HOW:=aa η;clear ω hD hr0 hB η;simp only[Nat.zero_mul,Nat.add_zero] at r0 r1 r2 r3 r4 r5 r6;have adw:0<ls.length:=HL.o.1;have amP:ls.length<=2500:=HL.o.2.2;go_upto_region 8 with(fail)
   refine zg 12 [] none [(11,Spec.val (iv d))] ?_;simp only[zt];repeat ((first|refine zn ?_|refine zk ?_);simp only[zp])
   refine zw 68 (h:=fun W hE hF=>by exact HD.o W) (t:=?_);simp only[zp];intro W hE hF;obtain⟨hc,hf⟩:=bA hE.below;have ic:=hE.size;(try simp only[bg] at ic)
   have PX:=aa (show Ϙ w1 W from aV WL.o hE.below);have hoW:=az (Ms:=[]) HOW.o hE ϕ;have hwW:=Bq.o.below PX.o (ah _);have abX:=aa hoW;clear hE hF hc hf r0 r1 r2 r3 r4 r5 r6 hb d1 g1 m1 hoW ic;obtain⟨d1,g1,m1⟩:=ae hwW.cells;have hsW:=PX.o.size;go_upto_region 10 with(fail)
   refine dz fun W9 Iq=>?_;have Ym:Ϙ W W9:=by rw[Iq];exact zl
   have sJ:W9.heap[W.heap.size]? =some (.cells #[iv d,iv d] 42 (0,0)):=by rw[Iq];exact av _ _
   have tK:=aV PX.o Ym;have Ph:=az (Ms:=[]) abX.o (Ext.ay Ym) ϕ;have Er: ∀g,(Value.slice oo i oc).ownBlock=some g->g≠W.heap.size:=fun g hg=>by have:=(aW abX.o g hg).2;omega
   have hw9:=Bq.o.below tK (ah _);clear Iq d1 g1 m1 hwW;obtain⟨d1,g1,m1⟩:=ae hw9.cells;have Y5:=aa Er;have HH9:=aa (af tK (af sJ (af Ph hw9)));have hbW:w1.heap.size<=W.heap.size:=hsW;obtain⟨b9,aa3⟩: ∃b9,W.heap.size=b9:=⟨_,rfl⟩;rw[aa3] at Y5 HH9 hbW;rw[aa3];clear Er tK sJ Ph hw9 Ym hsW PX abX aa3;go_wp2_with fail
   go_loopw [48] (fun u wq=> ∃k:Nat,k<=ls.length/\u= .int .i64 k/\wq.heap[b9]? =some (.cells #[iv (uT f ls i k).1,iv (uT f ls i k).2] 42 (0,0))/\wq.ownsRow w1.heap.size 42 2 (.slice oo i oc) i (aD (dl.take i))/\Ϙ w1 wq) (fun u _=>ls.length-(intOf u).toNat)
   case atStart=>exact⟨0,bD _,rfl,by rw[HR0.o];exact HH9.o.2.1,HH9.o.2.2.1,HH9.o.1⟩
   case round=>
    obtain⟨k,hk,rfl,MR,η,hB⟩:=hrel;by_cases hlk:k<ls.length
    ·have Δ:=Bq.o.below hB (ah _);obtain⟨q1,q2,q3⟩:=ae Δ.cells;obtain⟨e1,e2,e3⟩:=ae MR;obtain⟨b',off',z0,z1,z2,z3,z4,z5,z6,hvv,hb',hzs,s0,s1,s2,s3,s4,s5,s6⟩:=Lu Δ.truth HL.o.2.1 hlk;cases hvv;have hD2:=Gl f (.slice o f.ax.length c) _ z0 z1 z2 z3 z4 z5 z6 hzs (i:Int) HS.o;have hsu:=Fx (f:=f) (i:=(i:Int)) hlk;have ah0:=yI HS.o ls[k] (i:Int);have hrb:=G6 HS.o ls (i:Int) k hk;generalize kI f ls[k] (i:Int)=d2 at*
     generalize hrk:uT f ls (i:Int) k=r at*
     have HD2:=aa hD2;have uq:=aa hsu;have HQ:=aa (af MR (af η hB));clear hzs hD2 hsu MR η hB Δ d1 g1 m1;have adM:(k:Int)<ls.length:=ϑ;go_upto_region 13 with(fail)
     refine dz fun W5 vD=>?_;have uD:Ϙ wr W5:=by rw[vD];exact zl
     have hk5:W5.heap[wr.heap.size]? =some (.cells #[iv z0,iv z1,iv z2,iv z3,iv z4,iv z5,iv z6] 157 (0,0)):=by rw[vD];exact av _ _
     have Nz:=(uD.block _ e3).trans HQ.o.1;have hw5:=Bq.o.below (aV HQ.o.2.2 uD) (ah _);have Y7:=aa (af (aV HQ.o.2.2 uD) (af (az (Ms:=[]) HQ.o.2.1 (Ext.ay uD) ϕ) Nz));clear vD uD q1 q2 q3 e1 e2 s0 s1 s2 s3 s4 s5 s6 hb';obtain⟨q1,q2,q3⟩:=ae hw5.cells;obtain⟨e1,e2,e4⟩:=ae Nz;obtain⟨p1,p2,p3⟩:=ae hk5;clear hw5 Nz hk5;refine zg 9 [] none [(7,Spec.val (iv d2)),(8,Spec.val (rv (wid r d2)))] ?_;simp only[zt];repeat ((first|refine zn ?_|refine zk ?_);simp only[zp])
     refine zw 68 (h:=fun W hE hF=>by exact HD2.o W) (t:=?_);simp only[zp];refine zw 69 (h:=fun W hE hF=>by exact L9 r d2 W) (t:=?_);simp only[zp];intro W hE hF;obtain⟨hc,hf⟩:=bA hE.below;have ic:=hE.size;(try simp only[bg] at ic)
     have HE:=aa hE;clear hF ic;go_wp2_with fail
     go_roundw
     case rel=>
      refine⟨k+1,by omega,by go_num,?_,?_,?_⟩
      ·rw[uq.o];exact aG (aG ((HE.o.block _ e4 ϕ).trans Y7.o.2.2) _) _
      ·have h1:=az (Ms:=[]) Y7.o.2.1 HE.o ϕ;have h2:=bU (w':=W.setCell ⟨b9,0,none⟩ (iv (wid r d2).1)) h1 fun g hg=>dm _ _ _ _ (Y5.o g hg);exact bU h2 fun g hg=>dm _ _ _ _ (Y5.o g hg)
      ·exact gu (gu (aV Y7.o.1 HE.o.below) hbW _) hbW _
     case measure=>simp[intOf];omega
    ·have XI:k=ls.length:=ϑ;subst XI;have hdl:dl.take (i+1)=dl.take i++[uT f ls i ls.length]:=by
      rw[oQ];congr 1;rw[HDL.o];simp[tX]
     have ajw:=aa hdl;have hrb:=G6 HS.o ls (i:Int) _ (ah _);generalize uT f ls (i:Int) ls.length=r at*
     obtain⟨e1,e2,e3⟩:=ae MR;have HQ:=aa (af η hB);clear MR η hB hdl d1 g1 m1;go_upto_region 15 with(fail)
     go_wp2_with (at_builtin;refine eP rfl _ _ Xj rfl w1.heap.size (.slice oo i oc) i (aD (dl.take i)) rfl ?_ (.slice (some ⟨wr.heap.size,0,none⟩) 1 1) 1 [iv r.1,iv r.2] rfl ?_ (by simp[Value.oneCell']) ϑ ϑ (by have:=HQ.o.2.size;simp;omega) ?_)
     ·exact az (Ms:=[]) HQ.o.1 (Ext.ay ((aC _ _).alloc (ah _) _)) ϕ
     ·exact aH.bS 2 1 (av _ _) rfl ϖ
     ·intro v' W7 Fw TF;obtain⟨o7,c7,rfl⟩:=aL Fw;have ZX:=aa Fw;have HG7:=aa TF;clear Fw TF;go_wp2_with fail
      go_roundw
      case rel=>
       refine⟨i+1,by omega,by go_num,⟨o7,c7,rfl,?_⟩,?_⟩
       ·rw[ajw.o,mW];exact ZX.o
       ·refine Below.grown (ai HQ.o.2 _) HG7.o (by have:=HQ.o.2.size;simp;omega) (fun k e=>(aW HQ.o.1 k e).1)
      case measure=>simp[intOf];omega
  ·have Φ:i=n:=ϑ;subst Φ;have HOW:=aa (af η hB);clear η hB;go_wp2_with fail
   go_returns;refine⟨aV HB.o HOW.o.2,.inr ⟨H0.o,_,by simp;rfl,?_⟩⟩;have h1:=aH.bV HOW.o.1;have hdl:dl.length=i:=by rw[HDL.o];simp
   rw[iT ϑ] at h1;rw[HDE.o];show aH 2 _ _ dl.length (aD dl);rw[hdl];exact h1
end Go.Proofs.Z
namespace Go.Proofs.Z
open Go.RowKit Go.RG Go.SL Go.Shelf ig Go.TB
def acQ (B n:Nat) (xs:List Int) (x:Int):qY:=fun i _ v W=>
 match i with
 |2=>W.ownsRow B 3 1 v n (ag xs)
 |4=> ∃b:Nat,v= .slice (some ⟨b,0,none⟩) 1 1/\W.heap[b]? =some (.cells #[iv x] 3 (0,0))
 |_=>True
structure WM (Ms:List Nat) (eD:World->Prop):Prop where
 kept: ∀a b:World,eD a->(∀m∈Ms,b.heap[m]? =a.heap[m]?)->eD b
 none: ∀W:World,eD W-> ∀m∈Ms, ∀o,W.cell? ⟨m,o,.none⟩= .none
end Go.Proofs.Z
namespace Go.Proofs.Z
open Go.RowKit Go.RG Go.SL Go.Shelf ig Go.TB
def xW (f:bG) (n:Int):Bool:=n== -1 ||lT n 0 (f.aJ-1)
def mD (f:bG) (l:List Int):Bool:=decide (ja f=0)&&(decide ((l.length:Int)=f.rows)&&(l.all (xW f)&&ik f [] l))
theorem JI (f:bG) (tv:Value) (n:Int) (bf:Nat) (w:World) (hf:w.heap[bf]? =some (.cells (tT f tv) 45 (0,0))) (h0: -1000<=f.aJ) (h1:f.aJ<=1000):
 Ϝ 309 #[iv n,.pointer (some ⟨bf,0,none⟩)] w (PV (.bool (xW f n)) w):=by
 have HW:=aa (yu f tv n w h0 h1);obtain⟨c1,f1,l1⟩:=ae hf;clear hf;by_cases hn:n= -1
 ·subst hn;go_enter Tryz.func309,Tryz.ntmps309;go_wp2;go_returns;exact⟨by simp[xW],aC _ _⟩
 ·have hnb:(n== -1)=false:=by simpa using hn
  go_enter Tryz.func309,Tryz.ntmps309;go_wp2_with fail
  refine HW.o.mono ?_;rintro e w' ⟨rfl,hb⟩;go_wp2_with fail
  go_returns;exact⟨by simp[xW,hnb],hb⟩
theorem RS (ty:TypeId) {W:World} {g:Nat} {so:Option Addr} {c:Nat} {l:List Int} (hs:aK W (.slice so l.length c) l) (h1:1<=l.length) (h7:l.length<=7) (hg:W.heap[g]? =some (.cells #[iv 0,iv 0,iv 0,iv 0,iv 0,iv 0,iv 0] 157 (0,0))):
 ∃W',(Builtin.copy_ #[52,52] ty #[.slice (some ⟨g,0,none⟩) 7 7,.slice so l.length c]).run Tryz.prog W= .ok (iv l.length) W'/\W'.heap[g]? =some (.cells (ag (oK l)).toArray 157 (0,0))/\Ext [g] W W':=by
 obtain⟨so',c',hv,hl,hn,hc⟩:=hs.kR;cases hv;cases so with
 |none=>have:=(hn rfl).2;omega
 |some a=>
  have hil:(ag l).length=l.length:=by simp[ag]
  have h:=run_copy_row (P:=Tryz.prog) W 52 52 ty 3 g 0 7 7 a l.length c _ 157 (ag l) ϰ ϰ hg (by rw[hil];exact(Nat.min_eq_left h7).symm) (hc a rfl) (by rw[hil];simpa using h7) (iE l)
  rw[hil] at h;refine⟨_,h,?_,⟨rfl,rfl,rfl,by simp,fun k _ hm=>setRow_other _ _ _ _ (by simpa using hm)⟩⟩;rw[setRow_heap W g _ _ _ _ hg];congr 3;have e:(#[iv 0,iv 0,iv 0,iv 0,iv 0,iv 0,iv 0]:Array Value).toList=List.replicate 7 (iv 0):=rfl;rw[e,List.drop_replicate,List.take_zero,List.nil_append,Nat.zero_add];unfold oK ag;rw[List.map_append,List.map_replicate]
theorem AZ (f:bG) (tv rvv:Value) (l:List Int) (w:World) (ht:dH w tv f.ax) (hr:aK w rvv l):
 Ϝ 271 #[fv f tv,rvv] w (PV (.bool (mD f l)) w):=by
 obtain⟨o,c,rfl⟩:=ht.open;obtain⟨ro,rc,rfl⟩:=hr.open;have hrl:=hr.len;have HC:=aa (xJ f (.slice o f.ax.length c));have HT:=aa ht;have HR:=aa hr;clear ht hr;obtain⟨q,hq⟩: ∃q,ja f=q:=⟨_,rfl⟩;rw[hq] at HC;obtain⟨r,hrr⟩: ∃r,mD f l=r:=⟨_,rfl⟩;rw[hrr];have HRR:=aa hrr;clear hrr;by_cases hq0:q=0
 case neg=>
  have Cv:(q !=0)=true:=by simpa using hq0
  have hF:r=false:=by rw[<-HRR.o];unfold mD;rw[hq,decide_eq_false hq0];rfl
  have HF:=aa hF;clear hF hq hq0;go_enter Tryz.func271,Tryz.ntmps271;go_wp2_with fail
  refine(HC.o _ (HT.o.alloc _)).mono ?_;rintro e w' ⟨rfl,hb⟩;go_wp2_with fail
  go_returns;exact⟨by rw[HF.o];simp,zl⟩
 subst hq0;have hS:=gy hq;have hr0:=hS.wV;have Pf:=hS.og;have HS:=aa hS;have hF:r=(decide ((l.length:Int)=f.rows)&&(l.all (xW f)&&ik f [] l)):=by rw[<-HRR.o];unfold mD;rw[hq];rfl
 clear hq hS;by_cases Ib:(l.length:Int)=f.rows
 case neg=>
  have Cv:((l.length:Int) !=f.rows)=true:=by simpa using Ib
  have hF:r=false:=by rw[hF,decide_eq_false Ib];rfl
  have HF:=aa hF;clear hF Ib;go_enter Tryz.func271,Tryz.ntmps271;go_wp2_with fail
  refine(HC.o _ (HT.o.alloc _)).mono ?_;rintro e w' ⟨rfl,hb⟩;obtain⟨hc,hf⟩:=bA hb;have hz0:w.heap.size<w'.heap.size:=(by have:=hb.size;(try simp only[bg] at this);omega)
  go_wp2_with fail
  go_returns;exact⟨by rw[HF.o];simp,zl⟩
 have Cv:((l.length:Int) !=f.rows)=false:=by simpa using Ib
 have hl1:1<=l.length:=ϑ;have hl7:l.length<=7:=ϑ;rw[decide_eq_true Ib,Bool.true_and] at hF;have HLEN:=aa Ib;have hw0:=HS.o.wU;have hw1:=HS.o.uj;obtain⟨q,hq⟩: ∃q,l.all (xW f)=q:=⟨_,rfl⟩;rw[hq] at hF;have HF:=aa hF;have acf:=aa (fun(w':World) (hB:Ϙ w w') (hk:w'.heap[w.heap.size]? =some (.cells (tT f (.slice o f.ax.length c)) 45 (0,0)))=>
  hq▸Me l (.slice ro l.length rc) 309 #[] #[.pointer (some ⟨w.heap.size,0,none⟩)] (xW f) w' (HR.o.below hB (ah _)) (enters_of Tryz.func309 ϰ rfl)
   (fun x _ W hW=>JI f (.slice o f.ax.length c) x w.heap.size W ((hW.block _ (aP.1 hk).1).trans hk) ϑ ϑ))
 clear hF Ib hq;go_enter Tryz.func271,Tryz.ntmps271;go_wp2_with fail
 refine(HC.o _ (HT.o.alloc _)).mono ?_;rintro e w' ⟨rfl,hb⟩;obtain⟨hc,hf⟩:=bA hb;have hz0:w.heap.size<w'.heap.size:=(by have:=hb.size;(try simp only[bg] at this);omega)
 have HB:=aa (show Ϙ w w' from zl);have HK:=aa ((hb.block _ ϕ).trans (av w (.cells (tT f (.slice o f.ax.length c)) 45)));clear hb;go_wp2_with fail
 refine(acf.o w' HB.o HK.o).mono ?_;rintro e w2 ⟨rfl,hb⟩;have Ra:=aa (aV HB.o hb);have hk2:=(hb.block _ hz0).trans HK.o;clear hb hc hf hz0;cases q
 ·have hF:r=false:=by rw[HF.o];rfl
  have GH:=aa hF;clear hF;exact za9
 have hF:r=ik f [] l:=by rw[HF.o];rfl
 have GH:=aa hF;clear hF;go_upto_region 4 with(fail)
 refine dz fun W3 Η=>?_;have hB3:Ϙ w2 W3:=by rw[Η];exact zl
 have Ω:W3.heap[w2.heap.size]? =some (.cells #[iv 0,iv 0,iv 0,iv 0,iv 0,iv 0,iv 0] 157 (0,0)):=by rw[Η];exact av _ _
 obtain⟨W4,hcp,hk4,Eu⟩:=RS 3 (HR.o.below (aV Ra.o hB3) (ah _)) hl1 hl7 Ω;clear Η;have hs3:=hB3.size;have hw2:w.heap.size<w2.heap.size:=(aP.1 hk2).1;have hB4:Ϙ w W4:=fT (aV Ra.o hB3) Eu ϑ;have aej:=(Eu.block w.heap.size ϑ ϗ).trans ((hB3.block _ hw2).trans hk2);obtain⟨y0,y1,y2,y3,y4,y5,y6,ω⟩:=ql (su hl7);have hright:=vZ f HS.o o c (oK l) (su hl7) (.slice none 0 0) [] W4 (HT.o.below hB4 (ah _)) (oz W4);rw[Fz, <-GH.o,ω] at hright;have Pe:Ϝ 197 #[fv f (.slice o f.ax.length c),.agg #[iv y0,iv y1,iv y2,iv y3,iv y4,iv y5,iv y6],.slice none 0 0] W4 (PV (.bool r) W4):=hright;rw[ω] at hk4;have ad2:W4.heap[w2.heap.size]? =some (.cells #[iv y0,iv y1,iv y2,iv y3,iv y4,iv y5,iv y6] 157 (0,0)):=hk4;obtain⟨c1,f1,l1⟩:=ae aej;obtain⟨c2,f2,l2⟩:=ae ad2;have HX:=aa (af hB4 Pe);clear hB4 hright Pe hk4 ad2 aej ω Eu hB3 Ω;go_wp2_with fail
 refine HX.o.2.mono ?_;rintro e w5 ⟨rfl,hb⟩;go_wp2_with fail
 go_returns;exact⟨by simp,aV HX.o.1 hb⟩
end Go.Proofs.Z
end

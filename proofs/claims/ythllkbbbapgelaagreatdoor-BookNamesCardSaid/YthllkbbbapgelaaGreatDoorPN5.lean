/-
  Texts of this claim, packed by a program: PA PE PH.
-/
import Derived.WalkKit
import Derived.WalkLawsBesides
import Derived.WalkSpells
import Derived.Outline
import Derived.Handy
import Derived.KernelRfl
import Derived.Lib.Hide
import Derived.Deep.Cut
import Derived.Laws.CopyRow
import Derived.Test.YthllkbbbapgelaaGreatDoorPN4
set_option maxHeartbeats 8000000
set_option maxRecDepth 100000
set_option linter.all false
theorem _root_.zcF {P:Prop} (h:P:=by
 go_wp2_with (go_at_call 306;refine(vI _ _ _ _).mono ?_;rintro e w' ⟨rfl,hb⟩)
 exact za0):P:=h
theorem _root_.zcC {P:Prop} (h:P:=by
 have hC:=HC.o k uM wr IB hI;exact zad):P:=h
theorem _root_.zcH {P:Prop} (h:P:=by
 go_wp2_with fail
 refine(HC.o _).mono ?_;rintro e w' ⟨rfl,hb⟩;exact zba):P:=h
theorem _root_.zcE {P:Prop} (h:P:=by
 rintro e w' ⟨rfl,hb⟩;have R9:=aa (show Ϙ w w' from zl);clear hb;go_wp2_with fail
 refine(HF.o _ R9.o).mono ?_;rintro e w2 ⟨rfl,hb⟩;have Uy:=aa (aV R9.o hb);clear hb;exact za9):P:=h
theorem _root_.zbj {P:Prop} (h:P:=by
 go_enter Tryz.func112,Tryz.ntmps112;go_wp2;go_returns;exact⟨by simp,zl⟩):P:=h
theorem _root_.zba {P:Prop} (h:P:=by
 go_wp2_with fail
 go_returns;exact⟨by simp,zl⟩):P:=h
theorem _root_.zay {P:Prop} (h:P:=by
 clear hb;go_wp2_with fail
 go_returns;exact⟨by simp,Uy.o⟩):P:=h
theorem _root_.zbH {P:Prop} (h:P:=by
 go_round
 case rel=>exact⟨k+1,by omega,by go_num,by rw[HE.o]⟩
 case measure=>simp[intOf];omega):P:=h
theorem _root_.zbn {P:Prop} (h:P:=by
 simp only[List.forIn_cons,Sem.run_bind,px,py,pe,Result.andThen_ok,List.all_cons];cases hb:(xs.getD i 0==ys.getD i 0)
 ·simp
 ·simp only[Bool.not_true,Bool.false_eq_true,if_false,Sem.run_pure,Result.andThen_ok,Bool.true_and];exact ih fun j hj=>hl j (by simp[hj])):P:=h
theorem _root_.zag {P:Prop} (h:P:=by
 have VS:Kv f out xs (k+1)=(out.contains (k:Int) ||lV D Il Im):=by
  unfold Kv at*
  have h1:=iF.o;rw[kT,h1,Bool.true_and,show f.aj.getD k (0,0,0,(0,0))=(tw,ta,tb,(Il,Im)) from by simp[List.getD,uM,yG.o]]
  unfold xS;simp only;rw[HD.o]
 have PD:=aa VS;clear VS;by_cases hoc:out.contains (k:Int)=true
 ·have xB:=aa hoc;clear hoc;refine zg 13 [] none [(2,Spec.val (.bool true))] ?_;simp only[zt];repeat ((first|refine zn ?_|refine zk ?_);simp only[zp])
  refine zw 147 (h:=fun W hE hF=>by exact(by have:=gz out (.slice oo out.length oc) (k:Int) W (HO.o.below (MB.o.next hE.below).below (ah _));rw[xB.o] at this;exact this)) (t:=?_)
  simp only[zp];repeat ((first|refine zn ?_|refine zk ?_);simp only[zp])
  intro W hE hF;obtain⟨hc,hf⟩:=bH hE.below;have ig:=hE.size;(try simp only[bA] at ig)
  have TP:=aa (MB.o.next hE.below);clear hE hF;go_wp2_with fail
  go_roundw
  case rel=>exact⟨k+1,by omega,by go_num,by rw[PD.o,xB.o];rfl,TP.o⟩
  case measure=>simp[intOf];omega
 ·have VT:out.contains (k:Int)=false:=by simpa using hoc
  have xB:=aa VT;clear hoc VT;obtain⟨q,hq⟩: ∃q,lV D Il Im=q:=⟨_,rfl⟩;have HQ:=aa hq;clear hq;cases q
  ·skip
   refine zg 13 [] none [(2,Spec.val (.bool false)),(10,Spec.val (.bool false))] ?_;simp only[zt];repeat ((first|refine zn ?_|refine zk ?_);simp only[zp])
   refine zw 147 (h:=fun W hE hF=>by exact(by have:=gz out (.slice oo out.length oc) (k:Int) W (HO.o.below (MB.o.next hE.below).below (ah _));rw[xB.o] at this;exact this)) (t:=?_)
   simp only[zp];repeat ((first|refine zn ?_|refine zk ?_);simp only[zp])
   refine eX ϱ _ ϱ (fun W hE _=>by have:=JC.o W (hE.block _ MB.o.tab.choose_spec.1.lt ϕ);go_simp;try rfl) ?_
   simp only[zp];refine zw 267 (h:=fun W hE hF=>by exact(by have:=vK (Il,Im) D W;rw[HQ.o] at this;exact this)) (t:=?_)
   simp only[zp];repeat ((first|refine zn ?_|refine zk ?_);simp only[zp])
   intro W hE hF;obtain⟨hc,hf⟩:=bH hE.below;have ig:=hE.size;(try simp only[bA] at ig)
   have TP:=aa (MB.o.next hE.below);clear hE hF;go_wp2_with fail
   go_returns;refine⟨?_,TP.o.below⟩;have:il f out xs=false:=by
    have h1:=PD.o;rw[xB.o,HQ.o] at h1;cases hr:il f out xs
    ·rfl
    ·unfold il at hr;rw[dU,jh] at hr;unfold Kv at h1;have:((List.range (k+1)).all fun i=>out.contains (i:Int) ||xS xs (f.aj.getD i (0,0,0,(0,0))))=true:=by
      rw[jh];exact fun i hi=>hr.1 i (jQ.2 (by have:=jQ.1 hi;omega))
     rw[this] at h1;cases h1
   rw[this];simp
  ·skip
   refine zg 13 [] none [(2,Spec.val (.bool false)),(10,Spec.val (.bool true))] ?_;simp only[zt];repeat ((first|refine zn ?_|refine zk ?_);simp only[zp])
   refine zw 147 (h:=fun W hE hF=>by exact(by have:=gz out (.slice oo out.length oc) (k:Int) W (HO.o.below (MB.o.next hE.below).below (ah _));rw[xB.o] at this;exact this)) (t:=?_)
   simp only[zp];repeat ((first|refine zn ?_|refine zk ?_);simp only[zp])
   refine eX ϱ _ ϱ (fun W hE _=>by have:=JC.o W (hE.block _ MB.o.tab.choose_spec.1.lt ϕ);go_simp;try rfl) ?_
   simp only[zp];refine zw 267 (h:=fun W hE hF=>by exact(by have:=vK (Il,Im) D W;rw[HQ.o] at this;exact this)) (t:=?_)
   simp only[zp];repeat ((first|refine zn ?_|refine zk ?_);simp only[zp])
   intro W hE hF;obtain⟨hc,hf⟩:=bH hE.below;have ig:=hE.size;(try simp only[bA] at ig)
   have TP:=aa (MB.o.next hE.below);clear hE hF;go_wp2_with fail
   go_roundw
   case rel=>exact⟨k+1,by omega,by go_num,by rw[PD.o,xB.o,HQ.o];rfl,TP.o⟩
   case measure=>simp[intOf];omega):P:=h
theorem _root_.zbh {P:Prop} (h:P:=by
 by_cases h:i<x.length
 ·rw[List.getD_eq_getElem?_getD,sD h, <-List.getD_eq_getElem?_getD]
 ·rw[List.getD_eq_getElem?_getD,mD ϑ,List.getElem?_replicate];have:x.getD i 0=0:=by rw[List.getD_eq_getElem?_getD,List.getElem?_eq_none ϑ];rfl
  rw[this];split <;>rfl):P:=h
theorem _root_.zaU {P:Prop} (h:P:=by
 have HR1:=aa Ec;have Ye:=aa hcn;clear Ec BZ Χ xq hc hx hcn δ
 gi_wp2_with fail
 refine HR1.o.mono ?_;rintro e W' ⟨⟨Oa,τ⟩,⟨rfl,hJ⟩|⟨rfl,hJ⟩⟩
 ·have XO:=aa hJ;have HK':=aa Oa;clear hJ Oa
  gi_wp2_with fail
  go_returns;refine .inl ⟨by simp,by rw[Ye.o];exact XO.o,o,HO.o.1,HO.o.2.1,HO.o.2.2.1,(HS.o.below R9.o).kept (fun m hm mP=>HK'.o m hm ϕ mP)⟩
 ·have XO:=aa hJ;clear hJ Oa
  gi_wp2_with fail
  go_returns;exact .inr ⟨by simp,XO.o⟩):P:=h
theorem _root_.zbp {P:Prop} (h:P:=by
 refine⟨c+1,by omega,by go_num,o2,zX.o.1,?_,zX.o.2.2,Pp.o,?_⟩
 ·have:=congrArg (List.take i) zX.o.2.1;exact zcR
 ·rw[Nat.add_mul,Nat.one_mul, <-Nat.add_assoc];exact HJ2.o):P:=h
theorem _root_.zcu {P:Prop} (h:P:=by
 refine .inl ⟨by simp,?_,o',HO.o.1,HO.o.2.1,HO.o.2.2,EY.o⟩;rw[HCZ.o];exact PI.o):P:=h
theorem _root_.zbQ {P:Prop} (h:P:=by
 exact(aT _ _ _ ϗ).trans ((aT _ _ _ ϕ).trans (av _ _))):P:=h
theorem _root_.zaZ {P:Prop} (h:P:=by
 refine⟨⟨v,(hk _ ϑ ϑ).trans h1,bT h2 fun g hg=>ho g (aS h2 g hg).1 (aS h2 g hg).2 (h3 g hg).1,fun g hg=>⟨fun hm=>?_,by have:=(h3 g hg).2;omega⟩⟩,
  (hk _ ϑ ϑ).trans h.ptr,(hk _ ϑ ϑ).trans h.b2,(hk _ ϑ ϑ).trans h.b3⟩
 rcases hM g hm with h4|h4
 ·exact(h3 g hg).1 h4
 ·have:=(h3 g hg).2;omega):P:=h
theorem _root_.zaP {P:Prop} (h:P:=by
 exact⟨az (Ms:=[]) ho.1 hE ϕ,ho.2⟩):P:=h
theorem _root_.za3 {P:Prop} (h:P:=by
 rintro Ms jc k Wa Wb ⟨hF,hP⟩ hE η _;exact⟨(hF.gL hE η).1,hP.kept hE.size (fun b h1 h2=>(hF.gL hE η).2 b ((BC b).2 ϑ)) (fun g h1 h2 h3=>hE.block g h2 h3) η⟩):P:=h
theorem _root_.za5 {P:Prop} (h:P:=by
 exact⟨hF.put ob ϑ,hP.kept ϕ (fun b h1 h2=>World.putObj_heap_other ϑ) (fun g h1 h2 h3=>World.putObj_heap_other ϑ) (fun m hm=> .inl hm)⟩):P:=h
theorem _root_.za6 {P:Prop} (h:P:=by
 rw[<-kY];exact(aT _ _ _ ϗ).trans ((aT _ _ _ ϗ).trans ((aT _ _ _ ϕ).trans (av _ _)))):P:=h
theorem _root_.zbe {P:Prop} (h:P:=by
 exact JI.o.kept ϗ (fun b h1 h2=>(aT _ _ _ ϗ).trans (aT _ _ _ ϑ)) (fun g h1 h2 h3=>ϑ) (fun m hm=> .inl hm)):P:=h
theorem _root_.zbz {P:Prop} (h:P:=by
 rw[<-kY];exact(aT _ _ _ ϕ).trans ((aT _ _ _ ϕ).trans (dm _ _ _))):P:=h
theorem _root_.zbR {P:Prop} (h:P:=by
 rw[<-kY];exact(aT _ _ _ ϕ).trans (fM _ _ _ _)):P:=h
theorem _root_.zcf {P:Prop} (h:P:=by
 rintro e w' ⟨rfl,hb⟩;go_wp2_with fail
 go_returns;exact⟨zl,.inl ⟨HE.o.2,by rw[HE.o.1];simp⟩⟩):P:=h
theorem _root_.zci {P:Prop} (h:P:=by
 exact aH.bY (bT HV.o.2 fun g hg=>World.putObj_heap_other (by have:=(aS HV.o.2 g hg).1;omega))):P:=h
theorem _root_.zbD {P:Prop} (h:P:=by
 rw[hq] at hne⊢;have HN:=aa (af hq hne);have D5:(q==0)=false:=by simpa using hne
 clear hb hne hq;go_wp2_with fail
 go_returns;exact⟨HB.o,.inl ⟨by rw[HN.o.1];exact HN.o.2,by rw[HN.o.1];simp⟩⟩):P:=h
theorem _root_.zax {P:Prop} (h:P:=by
 rintro v' Wc ⟨ho,Y7,θ⟩;refine⟨aM ho,⟨?_,fun g hg=>?_⟩,⟨Y7.os,Y7.tape,Y7.output,Y7.size,fun b hb hn=>Y7.block b hb (fun e=>hn (by rw[HG.o b e.symm];simp))⟩⟩
 ·rw[sw];simpa using ho
 ·rcases θ with h1|h1
  ·exact .inl (HG.o g (by rw[<-h1,hg]))
  ·rw[hg] at h1;injection h1 with h1;exact .inr (by have:=Iq.size;omega)):P:=h
theorem _root_.zaz {P:Prop} (h:P:=by
 rw[show(((q+1:Nat)):Int)=(q:Int)+1 from by omega] at qY;have HC:=aa qY;have HB:=aa hB;clear qY sH ho hB Iq hE1 hF;go_wp2_with fail
 refine HC.o.mono ?_;rintro e W2 ⟨⟨hS2,Ι⟩,μ⟩;have HS2:=aa hS2;have HEE:=aa ((HE.o.trans (Ext.ax HB.o)).trans Ι);clear hS2 Ι hc hf d1 d2;have hq1:f+(q-f)=q:=ϑ;rcases μ with⟨cc,ο,rfl,sv,hsv,sH⟩|⟨hnone,rfl⟩
 ·have HR:=aa (af ο (af hsv sH));clear ο hsv sH;go_wp2_with fail
  go_returns;refine⟨⟨HS2.o,HEE.o⟩,.inl ⟨cc,?_,by simp,sv,HR.o.2⟩⟩;rw[<-vG.o];refine pq p _ _ (q-f) ϗ cc (fun j hj=>?_) ?_
  ·simp only[List.getElem_range];exact HN.o j ϑ
  ·simp only[List.getElem_range,hq1];exact HR.o.1
 ·have HR:=aa hnone;clear hnone;go_wp2_with fail
  go_roundw
  case rel=>
   refine⟨q+1,by omega,by omega,by go_num,HS2.o,HEE.o,fun j hj=>?_⟩;by_cases hjq:f+j=q
   ·rw[hjq];exact HR.o
   ·exact HN.o j ϑ
  case measure=>simp[intOf];omega):P:=h
theorem _root_.zaA {P:Prop} (h:P:=by
 go_wp2_with fail
 go_returns;exact⟨by simp,HB.o⟩):P:=h
theorem _root_.zaN {P:Prop} (h:P:=by
 obtain⟨b,hb,hc⟩:=hG rfl _ (aW _) ϰ;cases hb;have ho:W1.ownsRow wr.heap.size 3 1 (.slice o2 l.length c2) l.length (ag l):=hG rfl _ (jf _ (aW _)) ϰ;have Iq:Ext [] wr W1:=hE;have ξ:aH 1 W1 (.slice (some ⟨b4,0,none⟩) 1 1) 1 (ag [(q:Int)]):=aH.bI 1 1 hc rfl ϖ;refine Does.mono (wH oF ϱ ϱ ho ϱ ξ (ic _) ϑ ϑ Iq.size) ?_;rintro v W2 ⟨Gm,Y7⟩;rw[<-rZ] at Gm;obtain⟨o5,c5,rfl⟩:=aM Gm;exact⟨⟨o5,c5,rfl⟩,Gm,Eo ho Y7,trivial⟩):P:=h
theorem _root_.zaR {P:Prop} (h:P:=by
 have h4:=(jM.block _ q2 ϕ).trans HV.o.1;rw[qK] at h4;simp only[Option.some.injEq,Obj.cells.injEq,and_true,Array.mk.injEq,List.cons.injEq,true_and] at h4;exact h4):P:=h
theorem _root_.zbd {P:Prop} (h:P:=by
 have HR:=aa (af hS2 (af hfb (af hEE Τ)));clear ο hE hS2 hfb hEE Τ;go_wp2_with fail
 go_returns;refine⟨⟨HR.o.1,HR.o.2.2.1⟩,?_⟩;have hre:=vG.o;revert hre;cases p l
 ·intro hre;exact .inr ⟨by simpa using hre,by simp⟩
 ·intro hre;exact .inl ⟨l,by simpa using hre,by simp,_,HR.o.2.1,HR.o.2.2.2⟩):P:=h
theorem _root_.zbi {P:Prop} (h:P:=by
 have r0:=hc (k*3+0) (iv y0) (by rw[g 0 ϑ];rfl);have r1:=hc (k*3+1) (iv y1) (by rw[g 1 ϑ];rfl);have r2:=hc (k*3+2) (iv y2) (by rw[g 2 ϑ];rfl);rw[Nat.add_zero] at r0;rw[<-Nat.add_assoc] at r1 r2;exact⟨b,off,y0,y1,y2,rfl,dB w _ r0,Ε,r0,r1,r2⟩):P:=h
theorem _root_.zbm {P:Prop} (h:P:=by
 have hqI: ¬((q:Int)<=(below:Int)-((m:Int)+1)):=ϑ;go_wp2_with fail
 go_returns;refine⟨⟨HS.o,HE.o⟩,.inr ⟨?_,by simp⟩⟩;rw[<-vG.o];exact qO p _ _ (fun j hj=>by
  simp only[List.length_range] at hj;simp only[List.getElem_range];exact HN.o j ϑ)):P:=h
theorem _root_.zbo {P:Prop} (h:P:=by
 rcases hM g hm with h4|h4
 ·exact(h3 g hg).1 h4
 ·have:=(h3 g hg).2;omega):P:=h
theorem _root_.zbq {P:Prop} (h:P:=by
 have Iq:rJ wr.heap.size [] wr W1:=hE;refine bM 91 #[.slice o l.length c] (by go_simp;try rfl) ?_;refine(w9 l _ W1 (HVV.o.below (nT Iq (ah _)) (ah _)) ϑ).mono ?_;rintro e W2 ⟨v,rfl,ho,hb⟩;refine⟨v,rfl,aM ho,trivial,Ext.ax hb,bK ho Iq.size⟩):P:=h
theorem _root_.zbC {P:Prop} (h:P:=by
 refine gH (W':=W1.alloc (.cells #[iv q] 3)) (.slice (some ⟨W1.heap.size,0,none⟩) 1 1) (by go_simp;try rfl) ⟨⟨_,rfl⟩,trivial,Ext.ax ((aF _ _).alloc (ah _) _),_,rfl,heap_alloc_new _ _⟩):P:=h
theorem _root_.zb5 {P:Prop} (h:P:=by
 rw[zQ.o.1];exact aH.bI 3 1 ο rfl ϖ):P:=h
theorem _root_.zcc {P:Prop} (h:P:=by
 simp only[iQ,List.map_cons,List.map_nil,List.append_nil,List.find?_cons,List.find?_nil];cases p l <;>rfl):P:=h
theorem _root_.zct {P:Prop} (h:P:=by
 obtain⟨b,hb,hc⟩:=ho;exact⟨b,hb,(hE.block b (aN.1 hc).1 ϕ).trans hc⟩):P:=h
section
namespace Go.Proofs.Z
open Go.RowKit Go.RG Go.SL Go.Shelf gK Go.TB
abbrev JW (t:FZ):Value:= .agg #[iv t.1,iv t.2.1,iv t.2.2.1,iv t.2.2.2.1,iv t.2.2.2.2]
abbrev fv (f:bL) (tv:Value):Value:= .agg #[iv f.rows,iv f.aJ,iv f.left.1,iv f.left.2,tv]
def bP (l:List FZ):List Value:=l.flatMap fun t=>[iv t.1,iv t.2.1,iv t.2.2.1,iv t.2.2.2.1,iv t.2.2.2.2]
abbrev cz (w:World) (v:Value) (l:List FZ):Prop:=aH 5 w v l.length (bP l)
theorem vU (l:List FZ): ∀u∈bP l,u.oneCell'=true:=by
 intro u hu;obtain⟨r,_,h⟩:=nW.1 hu;simp only[eQ,List.not_mem_nil,or_false] at h;rcases h with rfl|rfl|rfl|rfl|rfl <;>rfl
theorem cz.cell {w:World} {o:Option Addr} {n c:Nat} {l:List FZ} (h:aH 5 w (.slice o n c) n (bP l)) {k:Nat} (hk:k<l.length):
 ∃b off,o=some ⟨b,off,none⟩/\b<w.heap.size/\w.cell? ⟨b,off+k*5,none⟩=some (iv l[k].1)/\w.cell? ⟨b,off+k*5+1,none⟩=some (iv l[k].2.1)/\w.cell? ⟨b,off+k*5+2,none⟩=some (iv l[k].2.2.1)/\
  w.cell? ⟨b,off+k*5+3,none⟩=some (iv l[k].2.2.2.1)/\w.cell? ⟨b,off+k*5+4,none⟩=some (iv l[k].2.2.2.2):=by
 obtain⟨hl,o',c',hv,h1,h2,h3,h4⟩:=h;cases hv;have IY:(bP l).length=l.length*5:=by simp[bP,List.length_flatMap,List.map_const',List.sum_replicate_nat]
 have hn:n=l.length:=ϑ;cases o with
 |none=>have:=h3 rfl;omega
 |some a=>
  obtain⟨b,off,sp⟩:=a;obtain⟨hs,hc⟩:=h4 _ rfl;simp only at hs hc;subst hs;have g: ∀j,j<5->(bP l)[k*5+j]? =[iv l[k].1,iv l[k].2.1,iv l[k].2.2.1,iv l[k].2.2.2.1,iv l[k].2.2.2.2][j]? :=fun j hj=>by
   unfold bP;rw[iG _ 5 (fun _=>rfl) l k j hk hj]
  have h0:=hc (k*5+0) (iv l[k].1) (by rw[g 0 ϑ];rfl);have h1:=hc (k*5+1) (iv l[k].2.1) (by rw[g 1 ϑ];rfl);have h2:=hc (k*5+2) (iv l[k].2.2.1) (by rw[g 2 ϑ];rfl);have h3:=hc (k*5+3) (iv l[k].2.2.2.1) (by rw[g 3 ϑ];rfl);have h4:=hc (k*5+4) (iv l[k].2.2.2.2) (by rw[g 4 ϑ];rfl);rw[Nat.add_zero] at h0;rw[<-Nat.add_assoc] at h1 h2 h3 h4;exact⟨b,off,rfl,dB w _ h0,h0,h1,h2,h3,h4⟩
theorem vI (n l h:Int) (w:World):Ϝ 306 #[iv n,iv l,iv h] w (PV (.bool (lV n l h)) w):=by
 by_cases h1:l<=n
 all_goals
  go_enter Tryz.func306,Tryz.ntmps306;exact zbV
theorem vK (r:dF) (n:Int) (w:World):Ϝ 267 #[rv r,iv n] w (PV (.bool (lV n r.1 r.2)) w):=by
 go_enter Tryz.func267,Tryz.ntmps267;exact zcF
theorem wX (f:bL) (tv:Value) (r:dF) (w:World):Ϝ 193 #[fv f tv,rv r] w (PV (.bool (tZ r f.rows)) w):=by
 go_enter Tryz.func193,Tryz.ntmps193;exact zb0
theorem Sa (f:bL) (tv:Value) (n:Int) (w:World) (h0: -1000<=f.rows) (h1:f.rows<=1000):Ϝ 264 #[fv f tv,iv n] w (PV (.bool (lV n 0 (f.rows-1))) w):=by
 go_enter Tryz.func264,Tryz.ntmps264;exact zcF
theorem zi (f:bL) (tv:Value) (n:Int) (w:World) (h0: -1000<=f.aJ) (h1:f.aJ<=1000):Ϝ 263 #[fv f tv,iv n] w (PV (.bool (lV n 0 (f.aJ-1))) w):=by
 go_enter Tryz.func263,Tryz.ntmps263;exact zcF
theorem wQ (f:bL) (tv:Value) (t:FZ) (w:World) (h0:0<=f.rows) (h1:f.rows<=1000) (h2:0<=f.aJ) (h3:f.aJ<=1000):
 Ϝ 192 #[fv f tv,JW t] w (PV (.bool (mZ f t)) w):=by
 go_enter Tryz.func192,Tryz.ntmps192;go_wp2_with (first|(go_at_call 263;refine(zi f _ _ _ ϑ ϑ).mono ?_;rintro e w' ⟨rfl,hb⟩;obtain⟨hc,hf⟩:=bH hb;have hz0:w.heap.size<w'.heap.size:=(by have:=hb.size;(try simp only[bA] at this);omega);have hz1:w.heap.size+1<w'.heap.size:=(by have:=hb.size;(try simp only[bA] at this);omega))|(go_at_call 264;refine(Sa f _ _ _ ϑ ϑ).mono ?_;rintro e w' ⟨rfl,hb⟩;obtain⟨hc,hf⟩:=bH hb;have hz0:w.heap.size<w'.heap.size:=(by have:=hb.size;(try simp only[bA] at this);omega);have hz1:w.heap.size+1<w'.heap.size:=(by have:=hb.size;(try simp only[bA] at this);omega))|(go_at_call 193;refine(wX f _ (_,_) _).mono ?_;rintro e w' ⟨rfl,hb⟩;obtain⟨hc,hf⟩:=bH hb;have hz0:w.heap.size<w'.heap.size:=(by have:=hb.size;(try simp only[bA] at this);omega);have hz1:w.heap.size+1<w'.heap.size:=(by have:=hb.size;(try simp only[bA] at this);omega)))
 all_goals
  go_returns;exact⟨by simp[mZ, *] <;>(intros;omega),zl⟩
end Go.Proofs.Z
namespace Go.Proofs.Z
open Go.RowKit Go.RG Go.SL Go.Shelf gK Go.TB
theorem abH (l:List FZ) (v:Value) (bg:Nat) (Nf aP:Array Value) (p:Nat->Bool) (I:Nat->World->Prop) (w:World) (eg: Ϛ Tryz.prog bg)
 (Y5: ∀k W,I k W->cz W v l)
 (qY: ∀k (hk:k<l.length) W,(∀j,j<k->p j=false)->I k W->Ϝ bg (Nf.push (JW l[k])++aP) W (fun e W'=>e= .returned (.bool (p k))/\I (k+1) W')) (h0:I 0 w):
 Ϝ 307 #[v,.func (.func bg) Nf aP] w (dN l.length p I (fun k=>iv k) (iv (-1))):=by
 have IY:=(Y5 0 w h0).len;obtain⟨o,c,rfl⟩:=(Y5 0 w h0).open;have HC:=aa qY;have HS:=aa Y5;clear qY Y5;go_enter Tryz.func307,Tryz.ntmps307;go_wp2;go_loopw [4,5,8] (fun _ _ i wr=> ∃k:Nat,k<=l.length/\i= .int .i64 k/\(∀j,j<k->p j=false)/\I k wr) (fun _ _ i _=>l.length-(intOf i).toNat)
 case atStart=>exact⟨0,bE _,rfl,fun j hj=>ϑ,h0⟩
 case round=>
  obtain⟨k,hk,rfl,IB,hI⟩:=hrel;by_cases uM:k<l.length
  ·obtain⟨b,off,rfl,hb,hc0,hc1,hc2,hc3,hc4⟩:=cz.cell (HS.o k wr hI) uM;exact zcC
  ·exact zam
theorem Xi (l:List FZ) (v:Value) (bg:Nat) (Nf aP:Array Value) (p:Nat->Bool) (I:Nat->World->Prop) (w:World) (eg: Ϛ Tryz.prog bg)
 (Y5: ∀k W,I k W->cz W v l)
 (qY: ∀k (hk:k<l.length) W,(∀j,j<k->p j=false)->I k W->Ϝ bg (Nf.push (JW l[k])++aP) W (fun e W'=>e= .returned (.bool (p k))/\I (k+1) W')) (h0:I 0 w):
 Ϝ 265 #[v,.func (.func bg) Nf aP] w (dN l.length p I (fun _=> .bool true) (.bool false)):=by
 have HI:=aa (abH l v bg Nf aP p I w eg Y5 qY h0);have IY:=(Y5 0 w h0).len;clear Y5 qY h0 eg;go_enter Tryz.func265,Tryz.ntmps265;exact zac
theorem Xx (x:FZ) (bx bg:Nat) (Nf aP:Array Value) (b:Bool) (W:World) (R:World->Prop) (eg: Ϛ Tryz.prog bg)
 (hbx:W.cell? ⟨bx,0,none⟩=some (.func (.func bg) Nf aP))
 (qY:Ϝ bg (Nf.push (JW x)++aP) (W.alloc (.cells #[iv x.1,iv x.2.1,iv x.2.2.1,iv x.2.2.2.1,iv x.2.2.2.2] 186)) (fun e W'=>e= .returned (.bool b)/\R W')):
 Ϝ 266 #[JW x,.pointer (some ⟨bx,0,none⟩)] W (fun e W'=>e= .returned (.bool !b)/\R W'):=by
 have uM:=dB W _ hbx;have HC:=aa qY;clear qY;go_enter Tryz.func266,Tryz.ntmps266;exact zao
theorem abb (x:Int) (bx bg:Nat) (Nf aP:Array Value) (b:Bool) (W:World) (R:World->Prop) (eg: Ϛ Tryz.prog bg)
 (hbx:W.cell? ⟨bx,0,none⟩=some (.func (.func bg) Nf aP))
 (qY:Ϝ bg (Nf.push (iv x)++aP) W (fun e W'=>e= .returned (.bool b)/\R W')):
 Ϝ 335 #[iv x,.pointer (some ⟨bx,0,none⟩)] W (fun e W'=>e= .returned (.bool !b)/\R W'):=by
 have uM:=dB W _ hbx;have HC:=aa qY;clear qY;go_enter Tryz.func335,Tryz.ntmps335;exact zao
theorem allT (l:List FZ) (v:Value) (bg:Nat) (Nf aP:Array Value) (p:Nat->Bool) (I:Nat->World->Prop) (w:World) (eg: Ϛ Tryz.prog bg)
 (Y5: ∀k W,I k W->cz W v l) (hal: ∀k W o,I k W->I k (W.alloc o))
 (qY: ∀k (hk:k<l.length) W,(∀j,j<k->p j=true)->I k W->Ϝ bg (Nf.push (JW l[k])++aP) W (fun e W'=>e= .returned (.bool (p k))/\I (k+1) W'/\iA w.heap.size W W')) (h0:I 0 w):
 Ϝ 194 #[v,.func (.func bg) Nf aP] w (dN l.length (fun k=>!p k) I (fun _=> .bool false) (.bool true)):=by
 have HI:=aa (Xi l v 266 #[] #[.pointer (some ⟨w.heap.size,0,none⟩)] (fun k=>!p k)
  (fun k W=>I k W/\W.heap[w.heap.size]? =some (.cells #[.func (.func bg) Nf aP] 315 (0,0))) (w.alloc (.cells #[.func (.func bg) Nf aP] 315))
  (enters_of Tryz.func266 ϰ rfl) (fun k W h=>Y5 k W h.1)
  (fun k hk W IB h=>by
    have uM:w.heap.size<W.heap.size:=(aN.1 h.2).1;refine(Xx l[k] w.heap.size bg Nf aP (p k) W (fun W'=>I (k+1) W'/\W'.heap[w.heap.size]? =some (.cells #[.func (.func bg) Nf aP] 315 (0,0))) eg (aD h.2) ?_);refine(qY k hk _ (fun j hj=>by simpa using IB j hj) (by first|exact hal _ _ _ h.1|exact h.1)).mono ?_;rintro e W' ⟨rfl,h1,h2⟩;refine⟨rfl,h1,(h2.block _ (ah _) (by first|exact uM|(simp;omega))).trans (by first|exact h.2|exact(aT _ _ _ uM).trans h.2)⟩)
  ⟨hal _ _ _ h0,heap_alloc_new w _⟩)
 have IY:=(Y5 0 w h0).len;clear Y5 qY h0 eg hal;go_enter Tryz.func194,Tryz.ntmps194;exact zae
theorem ad4 (l:List Int) (v:Value) (bg:Nat) (Nf aP:Array Value) (p:Nat->Bool) (I:Nat->World->Prop) (w:World) (eg: Ϛ Tryz.prog bg)
 (Y5: ∀k W,I k W->aL W v l) (hal: ∀k W o,I k W->I k (W.alloc o))
 (qY: ∀k (hk:k<l.length) W,(∀j,j<k->p j=true)->I k W->Ϝ bg (Nf.push (iv l[k])++aP) W (fun e W'=>e= .returned (.bool (p k))/\I (k+1) W'/\iA w.heap.size W W')) (h0:I 0 w):
 Ϝ 308 #[v,.func (.func bg) Nf aP] w (dN l.length (fun k=>!p k) I (fun _=> .bool false) (.bool true)):=by
 have HI:=aa (LD l v 335 #[] #[.pointer (some ⟨w.heap.size,0,none⟩)] (fun k=>!p k)
  (fun k W=>I k W/\W.heap[w.heap.size]? =some (.cells #[.func (.func bg) Nf aP] 274 (0,0))) (w.alloc (.cells #[.func (.func bg) Nf aP] 274))
  (enters_of Tryz.func335 ϰ rfl) (fun k W h=>Y5 k W h.1)
  (fun k hk W IB h=>by
    have uM:w.heap.size<W.heap.size:=(aN.1 h.2).1;refine(abb l[k] w.heap.size bg Nf aP (p k) W (fun W'=>I (k+1) W'/\W'.heap[w.heap.size]? =some (.cells #[.func (.func bg) Nf aP] 274 (0,0))) eg (aD h.2) ?_);refine(qY k hk _ (fun j hj=>by simpa using IB j hj) (by first|exact hal _ _ _ h.1|exact h.1)).mono ?_;rintro e W' ⟨rfl,h1,h2⟩;refine⟨rfl,h1,(h2.block _ (ah _) (by first|exact uM|(simp;omega))).trans (by first|exact h.2|exact(Below.heap_alloc _ _ _ uM).trans h.2)⟩)
  ⟨hal _ _ _ h0,heap_alloc_new w _⟩)
 have IY:=(Y5 0 w h0).len;clear Y5 qY h0 eg hal;go_enter Tryz.func308,Tryz.ntmps308;exact zae
theorem Hu (l:List FZ) (v:Value) (bg:Nat) (Nf aP:Array Value) (q:FZ->Bool) (w:World) (hv:cz w v l) (eg: Ϛ Tryz.prog bg)
 (qY: ∀x∈l, ∀W,Ϙ w W->Ϝ bg (Nf.push (JW x)++aP) W (PV (.bool (q x)) W)):
 Ϝ 194 #[v,.func (.func bg) Nf aP] w (PV (.bool (l.all q)) w):=by
 refine(allT l v bg Nf aP (fun k=>q (l.getD k (0,0,0,(0,0)))) (fun _ W=>Ϙ w W) w eg (fun k W h=>hv.below h (ah _)) (fun k W o h=>ai h o) (fun k hk W _ h=>?_) (aF _ _)).mono ?_
 ·exact zaB
 ·exact zaJ
theorem MZ (l:List Int) (v:Value) (bg:Nat) (Nf aP:Array Value) (q:Int->Bool) (w:World) (hv:aL w v l) (eg: Ϛ Tryz.prog bg)
 (qY: ∀x∈l, ∀W,Ϙ w W->Ϝ bg (Nf.push (iv x)++aP) W (PV (.bool (q x)) W)):
 Ϝ 308 #[v,.func (.func bg) Nf aP] w (PV (.bool (l.all q)) w):=by
 refine(ad4 l v bg Nf aP (fun k=>q (l.getD k 0)) (fun _ W=>Ϙ w W) w eg (fun k W h=>hv.below h (ah _)) (fun k W o h=>ai h o) (fun k hk W _ h=>?_) (aF _ _)).mono ?_
 ·exact zaB
 ·exact zaJ
end Go.Proofs.Z
namespace Go.Proofs.Z
open Go.RowKit Go.RG Go.SL Go.Shelf gK Go.TB
theorem YP {b:Int} (h1:1<=b) (h4:b<=4): ∀k:Nat,k<=7->1<=b^k/\b^k<=4^k:=by
 intro k;induction k with
 |zero=>intro _;simp
 |succ k ih=>
  intro hk;obtain⟨i1,i2⟩:=ih ϑ;rw[Int.pow_succ,Int.pow_succ];constructor
  ·have:=Int.mul_le_mul i1 h1 ϑ ϑ;omega
  ·exact Int.mul_le_mul i2 h4 ϑ ϑ
theorem U1 {b:Int} (h1:1<=b) (h4:b<=4) (k:Nat) (hk:k<=7):1<=b^k/\b^k<=16384:=by
 obtain⟨a,c⟩:=YP h1 h4 k hk;refine⟨a,Int.le_trans c ?_⟩;have: ∀k:Nat,k<=7->(4:Int)^k<=16384:=by decide
 exact this k hk
theorem LQ (f:bL) (o:Option Addr) (n c:Nat) (w:World) (a1:7<f.rows):Ϝ 112 #[fv f (.slice o n c)] w (PV (iv 3) w):=zbj
theorem LP (f:bL) (o:Option Addr) (n c:Nat) (w:World) (a1: ¬7<f.rows) (a2:3<f.aJ):Ϝ 112 #[fv f (.slice o n c)] w (PV (iv 3) w):=zbj
theorem LM (f:bL) (o:Option Addr) (n c:Nat) (w:World) (a1: ¬7<f.rows) (a2: ¬3<f.aJ) (a3:(5:Int)<n):Ϝ 112 #[fv f (.slice o n c)] w (PV (iv 3) w):=zbj
theorem LY (f:bL) (o:Option Addr) (n c:Nat) (w:World) (a1: ¬7<f.rows) (a2: ¬3<f.aJ) (a3: ¬(5:Int)<n) (b1:f.rows<1):Ϝ 112 #[fv f (.slice o n c)] w (PV (iv 1) w):=zbj
theorem LX (f:bL) (o:Option Addr) (n c:Nat) (w:World) (a1: ¬7<f.rows) (a2: ¬3<f.aJ) (a3: ¬(5:Int)<n) (b1: ¬f.rows<1) (b2:f.aJ<1):Ϝ 112 #[fv f (.slice o n c)] w (PV (iv 1) w):=zbj
theorem LW (f:bL) (o:Option Addr) (n c:Nat) (w:World) (a1: ¬7<f.rows) (a2: ¬3<f.aJ) (a3: ¬(5:Int)<n) (b1: ¬f.rows<1) (b2: ¬f.aJ<1) (b3:tZ f.left f.rows=false):
 Ϝ 112 #[fv f (.slice o n c)] w (PV (iv 1) w):=by
 go_enter Tryz.func112,Tryz.ntmps112;go_wp2_with fail
 refine(wX f _ (_,_) _).mono ?_;rintro e w' ⟨rfl,hb⟩;obtain⟨hc,hf⟩:=bH hb;have hz0:w.heap.size<w'.heap.size:=(by have:=hb.size;(try simp only[bA] at this);omega)
 rw[show tZ (f.left.1,f.left.2) f.rows=false from b3];exact zba
theorem LV (f:bL) (o:Option Addr) (c:Nat) (w:World) (hx:cz w (.slice o f.aj.length c) f.aj) (a1: ¬7<f.rows) (a2: ¬3<f.aJ) (a3: ¬(5:Int)<f.aj.length) (b1: ¬f.rows<1) (b2: ¬f.aJ<1) (b3:tZ f.left f.rows=true)
 (b4:f.aj.all (mZ f)=false):
 Ϝ 112 #[fv f (.slice o f.aj.length c)] w (PV (iv 1) w):=by
 have HX:=aa hx;have gJ:=aa b4;clear hx b4;go_enter Tryz.func112,Tryz.ntmps112;go_wp2_with fail
 refine(wX f _ (_,_) _).mono ?_;rintro e w' ⟨rfl,hb⟩;obtain⟨hc,hf⟩:=bH hb;have hz0:w.heap.size<w'.heap.size:=(by have:=hb.size;(try simp only[bA] at this);omega)
 have HB:=aa (show Ϙ w w' from zl);clear hb;rw[show tZ (f.left.1,f.left.2) f.rows=true from b3];go_wp2_with fail
 refine(Hu f.aj (.slice o f.aj.length c) 192 #[fv f (.slice o f.aj.length c)] #[] (mZ f) w' (HX.o.below HB.o (ah _)) (enters_of Tryz.func192 ϰ rfl) (fun x _ W _=>wQ f _ x W ϑ ϑ ϑ ϑ)).mono ?_;rw[gJ.o];rintro e w2 ⟨rfl,hb⟩;obtain⟨hc2,hf2⟩:=bH hb;have hz2:w.heap.size<w2.heap.size:=by have:=hb.size;omega
 have Uy:=aa (aV HB.o hb);exact zay
theorem LU (f:bL) (o:Option Addr) (c:Nat) (w:World) (hx:cz w (.slice o f.aj.length c) f.aj) (a1: ¬7<f.rows) (a2: ¬3<f.aJ) (a3: ¬(5:Int)<f.aj.length) (b1: ¬f.rows<1) (b2: ¬f.aJ<1) (b3:tZ f.left f.rows=true)
 (b4:f.aj.all (mZ f)=true) (r:Int) (hr:r=if 2500<(f.aJ+1)^f.rows.toNat then 3 else 0):
 Ϝ 112 #[fv f (.slice o f.aj.length c)] w (PV (iv r) w):=by
 have HX:=aa hx;have gJ:=aa b4;have Μ:1<=f.aJ+1/\f.aJ+1<=4:=ϑ;have HP:=aa (fun(k:Nat) (hk:k<=7)=>U1 Μ.1 Μ.2 k hk);obtain⟨n,hn⟩: ∃n:Nat,f.rows=n:=⟨f.rows.toNat,by omega⟩;have hn7:n<=7:=ϑ;have HR:Hid (r=if 2500<(f.aJ+1)^n then 3 else 0):=aa (by rw[hr,hn];rfl);have HN:=aa hn;clear hx b4 Μ hr hn;go_enter Tryz.func112,Tryz.ntmps112;go_wp2_with fail
 refine(wX f _ (_,_) _).mono ?_;rintro e w' ⟨rfl,hb⟩;obtain⟨hc,hf⟩:=bH hb;have hz0:w.heap.size<w'.heap.size:=(by have:=hb.size;(try simp only[bA] at this);omega)
 have HB:=aa (show Ϙ w w' from zl);clear hb;rw[show tZ (f.left.1,f.left.2) f.rows=true from b3];go_wp2_with fail
 refine(Hu f.aj (.slice o f.aj.length c) 192 #[fv f (.slice o f.aj.length c)] #[] (mZ f) w' (HX.o.below HB.o (ah _)) (enters_of Tryz.func192 ϰ rfl) (fun x _ W _=>wQ f _ x W ϑ ϑ ϑ ϑ)).mono ?_;rw[gJ.o];rintro e w2 ⟨rfl,hb⟩;obtain⟨hc2,hf2⟩:=bH hb;have hz2:w.heap.size<w2.heap.size:=by have:=hb.size;omega
 have Uy:=aa (aV HB.o hb);clear hb;go_wp2_with fail
 go_loop [4,47] (fun m i=> ∃k:Nat,k<=n/\i= .int .i64 k/\m= .int .i64 ((f.aJ+1)^k)) (fun _ i=>n-(intOf i).toNat)
 case atStart=>exact⟨0,bE _,rfl,by simp⟩
 case round=>
  obtain⟨k,hk,rfl,rfl⟩:=hrel;obtain⟨p1,p2⟩:=HP.o k ϑ;by_cases uM:k<n
  ·have hkI:(k:Int)<f.rows:=by have:=HN.o;omega
   obtain⟨q1,q2⟩:=HP.o (k+1) ϑ;have HE:=aa (Int.pow_succ (f.aJ+1) k);rw[Int.pow_succ] at q1 q2;generalize (f.aJ+1)^k=m at p1 p2 q1 q2 HE⊢;go_wp2;exact zbH
  ·have hkn:k=n:=ϑ;subst hkn;have hkI: ¬(k:Int)<f.rows:=by have:=HN.o;omega
   generalize (f.aJ+1)^k=m at p1 p2 HR⊢;by_cases hm:2500<m
   ·go_wp2;go_returns;exact⟨by rw[HR.o,aG hm];simp,Uy.o⟩
   ·go_wp2;go_returns;exact⟨by rw[HR.o,ak ϑ];simp,Uy.o⟩
theorem yB (f:bL) (tv:Value) (w:World) (hx:cz w tv f.aj):
 Ϝ 112 #[fv f tv] w (PV (iv (iZ f)) w):=by
 obtain⟨o,c,rfl⟩:=hx.open;by_cases ha:7<f.rows∨3<f.aJ∨5<f.aj.length
 ·rw[show iZ f=3 from by unfold iZ;rw[aG ha]]
  by_cases a1:7<f.rows
  ·exact LQ f o _ c w a1
  by_cases a2:3<f.aJ
  ·exact LP f o _ c w a1 a2
  exact LM f o _ c w a1 a2 ϑ
 obtain⟨a1,a2,a3⟩: ¬7<f.rows/\ ¬3<f.aJ/\ ¬(5:Int)<f.aj.length:=ϑ;rw[show iZ f=if f.rows<1∨f.aJ<1∨tZ f.left f.rows=false∨f.aj.all (mZ f)=false then 1 else if 2500<(f.aJ+1)^f.rows.toNat then 3 else 0 from by
  unfold iZ;rw[ak ha]]
 by_cases b1:f.rows<1
 ·rw[aG (.inl b1)];exact LY f o _ c w a1 a2 a3 b1
 by_cases b2:f.aJ<1
 ·rw[aG (.inr (.inl b2))];exact LX f o _ c w a1 a2 a3 b1 b2
 by_cases b3:tZ f.left f.rows=false
 ·rw[aG (.inr (.inr (.inl b3)))];exact LW f o _ c w a1 a2 a3 b1 b2 b3
 by_cases b4:f.aj.all (mZ f)=false
 ·rw[aG (.inr (.inr (.inr b4)))];exact LV f o c w hx a1 a2 a3 b1 b2 (by simpa using b3) b4
 exact LU f o c w hx a1 a2 a3 b1 b2 (by simpa using b3) (by simpa using b4) _ (by rw[ak (by simp only[not_or];exact⟨b1,b2,b3,b4⟩)])
end Go.Proofs.Z
namespace Go.Proofs.Z
open Go.RowKit Go.RG Go.SL Go.Shelf gK Go.TB
theorem S9 (l:List Int) (who:Int) (a k:Nat):xy l who a (k+1)=xy l who a k+(if l.getD (a+k) 0=who then 1 else 0):=by
 unfold xy;rw[List.range'_concat,List.countP_append,List.countP_singleton];by_cases h:l.getD (a+k) 0=who
 ·simp only[Nat.one_mul,h,beq_self_eq_true,if_true];omega
 ·simp only[Nat.one_mul,ak h,show(l.getD (a+k) 0==who)=false from by simpa using h,Bool.false_eq_true,if_false];omega
theorem Jh (l:List Int) (who:Int) (a k:Nat):0<=xy l who a k/\xy l who a k<=k:=by
 unfold xy;have:=List.countP_le_length (l:=List.range' a k) (p:=fun i=>l.getD i 0==who);simp only[List.length_range'] at this;omega
theorem Fx (g a n:Nat) (b:Int) (hb:b+1=(a:Int)+n) (hn:1<=n) (h7:a+n<=7) (W:World):
 (Instr.sliceAt 157 (.pointer (some ⟨g,0,none⟩)) (some (iv (a:Int))) (some (iv (b+1))) none).run Tryz.prog W= .ok (.slice (some ⟨g,a,none⟩) n (7-a)) W:=by
 have hl:Tryz.prog.arrayLen 157=7:=ϰ;have h:=run_sliceAt_array_lh (P:=Tryz.prog) W 157 ⟨g,0,none⟩ ϰ .i64 .i64 (a:Int) (b+1) ϑ ϑ (by rw[hl];omega);have hs:(sizeOf (Tryz.prog.elem 157)).run Tryz.prog W= .ok 1 W:=ϰ;rw[h,hs,hl];have e1:(b+1).toNat=a+n:=ϑ;have e2: ¬7=a:=ϑ;simp[slicedAt,e1,e2,Addr.add];omega
theorem He (xs:List Int) (hx:xs.length=7) (who:Int) (a n:Nat) (b:Int) (hb:b+1=(a:Int)+n) (hn:1<=n) (h7:a+n<=7) (w:World):
 Ϝ 114 #[kz xs,iv who,iv a,iv b] w (PV (iv (xy xs who a n)) w):=by
 have hN:=av w (.cells (ag xs).toArray 157);have HX:=aa hx;have Y5:=Fx w.heap.size a n b hb hn h7;rw[hb] at Y5;have hb0: -1<=b:=ϑ;have hb6:b<=6:=ϑ;clear hx;go_enter Tryz.func114,Tryz.ntmps114;go_wp2;have HN:=aa hN;clear hN Y5;go_loop [8,16] (fun m i=> ∃k:Nat,k<=n/\i= .int .i64 k/\m= .int .i64 (xy xs who a k)) (fun _ i=>n-(intOf i).toNat)
 case atStart=>exact⟨0,bE _,rfl,by simp[xy]⟩
 case round=>
  obtain⟨k,hk,rfl,rfl⟩:=hrel;have hbd:=Jh xs who a k;have hsu:=S9 xs who a k;by_cases uM:k<n
  ·have Q7:=fD HN.o (show a+k<xs.length by rw[HX.o];omega);have hg:xs.getD (a+k) 0=xs[a+k]'(by rw[HX.o];omega):=by simp[List.getD,HX.o,show a+k<7 by omega]
   rw[hg] at hsu;have uZ:=aa hsu;clear hg hsu;generalize xs[a+k]'(by rw[HX.o];omega)=y at*
   generalize xy xs who a k=d at*
   by_cases hy:y=who
   ·subst hy;go_wp2;go_round
    case rel=>exact⟨k+1,by omega,by go_num,by rw[uZ.o,aG rfl]⟩
    case measure=>simp[intOf];omega
   ·have hyb:(y==who)=false:=by simpa using hy
    have HY:=aa hy;clear hy;go_wp2;go_round
    case rel=>exact⟨k+1,by omega,by go_num,by rw[uZ.o,ak HY.o];simp⟩
    case measure=>simp[intOf];omega
  ·have hkn:k=n:=ϑ;subst hkn;clear hsu;generalize xy xs who a k=d at*
   exact zbl
theorem qB {l:List Int} (h:l.length=7): ∃a b c d e f g,l=[a,b,c,d,e,f,g]:=by
 match l,h with
 |[a,b,c,d,e,f,g],_=>exact⟨a,b,c,d,e,f,g,rfl⟩
theorem Ls (f:bL) (tv:Value) (xs:List Int) (hx:xs.length=7) (who:Int) (w:World) (h0:1<=f.rows) (h7:f.rows<=7):
 Ϝ 68 #[fv f tv,kz xs,iv who] w (PV (iv (kL f xs who)) w):=by
 have ψ:=He xs hx who 0 f.rows.toNat (f.rows-1) ϑ ϑ ϑ;have hd:xy xs who 0 f.rows.toNat=kL f xs who:=by
  unfold kL Eu;simp
 rw[hd] at ψ;generalize kL f xs who=d at*
 obtain⟨a,b,c,d,e,g,k,rfl⟩:=qB hx;have HC:=aa ψ;clear ψ hx hd;show Calls _ _ #[fv f tv,.agg #[iv a,iv b,iv c,iv d,iv e,iv g,iv k],iv who] _ _;go_enter Tryz.func68,Tryz.ntmps68;exact zcH
end Go.Proofs.Z
namespace Go.SL
open Go.RowKit Go.RG
theorem jw {P:Program} {o:Oper} {ρ:Operand->Value} {W:World} (t:TypeId) (x:Operand) (ho:o.op= .load t x) (b off:Nat) (hx:ρ x= .pointer (some ⟨b,off,none⟩)) (cs:List Value) (d:TypeDesc)
 (hc:W.rangeAt b off cs) (hu:P.underlying t=some d) (hd:d.isRow=true) (hi:(P.info? t).map (·.size)=some cs.length):(execOp ρ o).run P W= .ok (.value (.agg cs.toArray)) W:=by
 unfold execOp;simp only[ho,hx,Instr.loadAt,Instr.sureAddr,Sem.run_bind,Sem.run_pure,Result.andThen_ok,run_loadVar_mid W b off t cs d hc hu hd hi]
theorem qW: ∀(xs ys:List Int),xs.length=ys.length->((List.range xs.length).all fun i=>xs.getD i 0==ys.getD i 0)=(xs==ys)
 |[],[],_=>rfl
 |x::xs,y::ys,h=>by
  have ih:=qW xs ys (by simpa using h);rw[List.length_cons,List.range_succ_eq_map,List.all_cons,List.all_map];simp only[List.getD_cons_zero,Function.comp_def,List.getD_cons_succ,ih];simp[List.cons_beq_cons]
 |[],_::_,h=>by simp at h
 |_::_,[],h=>by simp at h
theorem Ah {P:Program} (w:World) (d:Nat) (t e:TypeId) (n:Nat) (ht:P.underlying t=some (.array n e)) (he:P.underlying e=some (.int .i64)) (τ: ∀w,(sizeOf e).run P w= .ok 1 w)
 (xs ys:List Int) (hx:xs.length=n) (hy:ys.length=n):
 (Op.equalIn (d+2) t (.agg (ag xs).toArray) (.agg (ag ys).toArray)).run P w= .ok (xs==ys) w:=by
 rw[<-qW xs ys (hx.trans hy.symm),hx,List.range_eq_range',Op.equalIn];simp only[Sem.run_bind,run_underlying ht,Result.andThen_ok,τ,Std.Legacy.Range.forIn_eq_forIn_range',Std.Legacy.Range.size,Nat.sub_zero,Nat.add_sub_cancel,Nat.div_one];have hl: ∀i∈List.range' 0 n 1,i<n:=fun i hi=>by simpa using(List.mem_range'_1.1 hi).2
 generalize List.range' 0 n 1=l at hl⊢;induction l with
 |nil=>simp
 |cons i l ih=>
  have hi:i<n:=hl i ϕ;have px:(part e (ag xs).toArray (i*1)).run P w= .ok (.int .i64 (xs.getD i 0)) w:=by
   simp[part,isAgg,run_underlying he,ag,List.getD,dn (show i<xs.length by omega)]
  have py:(part e (ag ys).toArray (i*1)).run P w= .ok (.int .i64 (ys.getD i 0)) w:=by
   simp[part,isAgg,run_underlying he,ag,List.getD,dn (show i<ys.length by omega)]
  have pe:(Op.equalIn (d+1) e (.int .i64 (xs.getD i 0)) (.int .i64 (ys.getD i 0))).run P w= .ok (xs.getD i 0==ys.getD i 0) w:=run_equalIn_int w d e .i64 .i64 _ _ he;exact zbn
theorem Iw {P:Program} (w:World) (t e:TypeId) (n:Nat) (ht:P.underlying t=some (.array n e)) (he:P.underlying e=some (.int .i64)) (τ: ∀w,(sizeOf e).run P w= .ok 1 w)
 (xs ys:List Int) (hx:xs.length=n) (hy:ys.length=n):
 (binOp .neq t (.agg (ag xs).toArray) (.agg (ag ys).toArray)).run P w= .ok (.bool (!(xs==ys))) w:=by
 rw[run_neq_struct,Ah w 9998 t e n ht he τ xs ys hx hy];rfl
theorem lW {P:Program} {o:Oper} {ρ:Operand->Value} {W:World} (t e tb:TypeId) (n:Nat) (x y:Operand) (ho:o.op= .binOp .neq t x y tb) (ht:P.underlying t=some (.array n e)) (he:P.underlying e=some (.int .i64)) (τ: ∀w,(sizeOf e).run P w= .ok 1 w)
 (hm:P.eqGuardType P.depth t=false) (xs ys:List Int) (hx:ρ x= .agg (ag xs).toArray) (hy:ρ y= .agg (ag ys).toArray) (hxl:xs.length=n) (hyl:ys.length=n):
 (execOp ρ o).run P W= .ok (.value (.bool (!(xs==ys)))) W:=by
 unfold execOp;simp only[ho,hx,hy,Sem.run_bind,run_eqGuard_agg W .neq t x y _ _ hm,Result.andThen_ok,Iw W t e n ht he τ xs ys hxl hyl,Sem.run_pure]
theorem Am {w:World} {base:Nat} {e:TypeId} {k:Nat} {v:Value} {A:List (List Int)} {z:List Int} (h:w.ownsRow base e k v (A.length+1) ((A++[z]).flatMap ag)) (hA: ∀x∈A,x.length=k) (hz:z.length=k):
 ∃g c,v= .slice (some ⟨g,0,none⟩) (A.length+1) c/\base<=g/\g<w.heap.size/\w.rangeAt g (A.length*k) (ag z):=by
 obtain⟨h1,⟨hv,h2⟩|⟨g,c,cs,hv,hb,hc,hn,hm,hs,hx⟩⟩:=h
 ·exact absurd h2 ϕ
 ·refine⟨g,c,hv,hb,(aN.1 hc).1,fun j u hj=>?_⟩;have hj':j<k:=by have:=(iy.1 hj).1;simpa [ag,hz] using this
  have e1:((A++[z]).flatMap ag)[A.length*k+j]? =some u:=by
   rw[sw,mD (by rw[KF A k hA];omega),KF A k hA,Nat.add_sub_cancel_left];simpa using hj
  exact zbg
end Go.SL
namespace Go.Proofs.Z
open Go.RowKit Go.RG Go.SL Go.Shelf gK Go.TB
theorem Ex (b:Bool) (n:Int) (w:World):(Instr.checkKey b 9999 3 (iv n)).run Tryz.prog w= .ok () w:=AV b 9998 n w
abbrev Str:=Int×Int×Int
abbrev abh (k:Str):Value:= .agg #[iv k.1,iv k.2.1,iv k.2.2]
theorem IV:TN Tryz.prog 368 abh (fun _=>True) where
 find w x es:=run_findKey_eq w ϰ x es
 check b a w _:=by
  unfold Instr.checkKey;simp[go_sem];simp only[Ex,Result.andThen_ok]
 eq a b w _ _:=by
  unfold Op.equal Op.maxDepth;simp[go_sem];obtain⟨a1,a2,a3⟩:=a;obtain⟨b1,b2,b3⟩:=b;by_cases h1:a1=b1 <;>by_cases h2:a2=b2 <;>by_cases h3:a3=b3 <;>simp[h1,h2,h3]
 bits a _:=by simp[Instr.sameBits]
end Go.Proofs.Z
namespace Go.Proofs.Z
open Go.RowKit Go.RG Go.SL Go.Shelf gK Go.TB
abbrev sj (f:bL) (tv:Value):Array Value:= #[iv f.rows,iv f.aJ,iv f.left.1,iv f.left.2,tv]
structure Pg (w:World) (f:bL) (tv:Value) (xs:List Int) (W:World):Prop where
 b0:W.heap[w.heap.size]? =some (.cells (sj f tv) 45 (0,0))
 b1:W.heap[w.heap.size+1]? =some (.cells (ag xs).toArray 157 (0,0))
 tab: ∃T:List (Str×Int),TabAt abh iv (fun _=>True) W (w.heap.size+2) T/\ ∀k n,TB.look k T=some n->n=Eu xs k.1 k.2.1 k.2.2
 below:Ϙ w W
theorem Pg.next {w:World} {f:bL} {tv:Value} {xs:List Int} {W W':World} (h:Pg w f tv xs W) (hb:Ϙ W W'):Pg w f tv xs W':=by
 obtain⟨T,h1,h2⟩:=h.tab;exact⟨(hb.block _ (aN.1 h.b0).1).trans h.b0,(hb.block _ (aN.1 h.b1).1).trans h.b1,⟨T,h1.below hb (ah _),h2⟩,
  h.below.trans (hb.mono h.below.size)⟩
def Kv (f:bL) (out xs:List Int) (k:Nat):Bool:=(List.range k).all fun i=>out.contains (i:Int) ||xS xs (f.aj.getD i (0,0,0,(0,0)))
theorem OP (xs:List Int) (hx:xs.length=7) (who a b:Int) (h0:0<=a) (h1:a<=b) (h2:b<7) (w:World):
 Ϝ 114 #[kz xs,iv who,iv a,iv b] w (PV (iv (Eu xs who a b)) w):=by
 have:=He xs hx who a.toNat (b+1-a).toNat b ϑ ϑ ϑ w;rw[show((a.toNat:Nat):Int)=a from by omega] at this;exact this
theorem wT (f:bL) (hS:pG f) (o:Option Addr) (c:Nat) (xs:List Int) (hx:xs.length=7) (ov:Value) (out:List Int) (w:World) (ht:cz w (.slice o f.aj.length c) f.aj) (ho:aL w ov out):
 Ϝ 197 #[fv f (.slice o f.aj.length c),kz xs,ov] w (PV (.bool (il f out xs)) w):=by
 obtain⟨oo,oc,rfl⟩:=ho.open;have hmm:= @run_makeMap Tryz.prog;obtain⟨x0,x1,x2,x3,x4,x5,x6,hxs⟩:=qB hx;have hag:kz xs= .agg #[iv x0,iv x1,iv x2,iv x3,iv x4,iv x5,iv x6]:=by rw[hxs];rfl
 have hce:(ag xs).toArray= #[iv x0,iv x1,iv x2,iv x3,iv x4,iv x5,iv x6]:=by rw[hxs];rfl
 have Ye:=aa (fun who a b h0 h1 h2 w=>hag▸OP xs hx who a b h0 h1 h2 w);rw[hag];have IY:f.aj.length<=5:=hS.Ag;have HS:=aa hS;have HT:=aa ht;have HO:=aa ho;have HX:=aa (af hx hce);clear hS ht ho hx hxs hag hce;go_enter Tryz.func197,Tryz.ntmps197;go_upto_region 2 with(fail)
 refine bU fun W1 ν=>?_;have Y6:Pg w f (.slice o f.aj.length c) xs W1:=by
  rw[ν];refine⟨(aT _ _ _ ϗ).trans ((aT _ _ _ ϕ).trans (av _ _)),?_,⟨[],IM (fM _ _ _ _),fun k n h=>by cases h⟩,zl⟩;rw[HX.o.2];exact zbU
 clear ν hmm;have c0:=ae Y6.b0;obtain⟨cc0,cf0,cl0⟩:=c0;have π:=aa Y6;clear Y6;go_wp2_with fail
 go_loopw [17] (fun i wr=> ∃k:Nat,k<=f.aj.length/\i= .int .i64 k/\Kv f out xs k=true/\Pg w f (.slice o f.aj.length c) xs wr) (fun i _=>f.aj.length-(intOf i).toNat)
 case atStart=>exact⟨0,bE _,rfl,rfl,π.o⟩
 case round=>
  obtain⟨k,hk,rfl,hok,Y6⟩:=hrel;obtain⟨MM,O4,OU⟩:=ae Y6.b0;have δ:=Y6.b1;rw[HX.o.2] at δ;obtain⟨ZW,cf2,cl2⟩:=ae δ;have EY:=aa Y6;have iF:=aa hok;clear hok δ cc0 cf0 cl0;by_cases uM:k<f.aj.length
  ·have htl:=HT.o.below Y6.below (ah _);obtain⟨b,off,hv,hb,d0,d1,d2,d3,d4⟩:=cz.cell htl uM;clear Y6 htl;have Ze:=HS.o.sG _ (bZ uM);generalize htk:f.aj[k]=t at*
   obtain⟨tw,ta,tb,Il,Im⟩:=t;obtain⟨⟨q1,q2⟩,⟨q3,q4,q5⟩,⟨q6,q7,q8⟩⟩:=Ze;cases hv;simp only at d0 d1 d2 d3 d4 q1 q2 q3 q4 q5 q6 q7 q8;have yG:=aa htk;have Qh:=HS.o.oG;obtain⟨D,hD⟩: ∃D,Eu xs tw ta tb=D:=⟨_,rfl⟩;have HC1:=aa (Ye.o tw ta tb q3 q4 ϑ);rw[hD] at HC1;have hDb:0<=D/\D<=7:=by
    rw[<-hD];have:=Jh xs tw ta.toNat (tb+1-ta).toNat;unfold Eu;omega
   have HD:=aa hD;clear htk hD;go_upto_region 6 with(fail)
   refine bU fun W6 ug=>?_;have Og:Pg w f (.slice (some ⟨b,off,none⟩) f.aj.length c) xs W6:=EY.o.next (by rw[ug];exact zl);have tL:W6.heap[wr.heap.size]? =some (.cells #[iv tw,iv ta,iv tb,iv Il,iv Im] 186 (0,0)):=by rw[ug];exact(aT _ _ _ ϕ).trans (av _ _)
   have hk10:W6.heap[wr.heap.size+1]? =some (.cells #[iv tw,iv ta,iv tb] 368 (0,0)):=by rw[ug];exact dm _ _ _
   obtain⟨T,hT,hTv⟩:=Og.tab;have jY:=fun cm=>tH IV (mt:=366) (e:=3) ϰ (z:=iv 0) (fun W=>by simp[go_sem]) hT (tw,ta,tb) trivial cm W6 rfl;have apZ:=aa (show W6.heap.size=wr.heap.size+2 by rw[ug];simp);clear ug MM O4 OU ZW cf2 cl2 d0 d1 d2 d3 d4 hb;cases hl:TB.look (tw,ta,tb) T with
   |some n=>
    have hnD:n=D:=by rw[<-HD.o];exact hTv _ _ hl
    rw[hnD] at hl;clear hnD;rw[hl] at jY;simp only[Option.map_some,Option.getD_some,Option.isSome_some] at jY;have Ξ:=jY true;simp only[if_true] at Ξ;have JC:=aa (fun W hW=>tH IV (mt:=366) (e:=3) ϰ (z:=iv 0) (fun W=>by simp[go_sem]) hT (tw,ta,tb) trivial false W hW);rw[hl] at JC;simp only[Option.map_some,Option.getD_some,Option.isSome_some,Bool.false_eq_true,if_false] at JC;have MB:=aa Og;obtain⟨cc9,cf9,cl9⟩:=ae tL;obtain⟨acQ,acP,ZV⟩:=ae hk10;clear jY hl hTv hT Og;go_upto_region 9 with(fail)
    exact zag
   |none=>
    rw[hl] at jY;simp only[Option.map_none,Option.getD_none,Option.isSome_none] at jY;have Ξ:=jY true;simp only[if_true] at Ξ;obtain⟨cc0,cf0,cl0⟩:=ae Og.b0;have δ:=Og.b1;rw[HX.o.2] at δ;obtain⟨MM,O4,OU⟩:=ae δ;obtain⟨cc9,cf9,cl9⟩:=ae tL;obtain⟨acQ,acP,ZV⟩:=ae hk10;have HS6:=aa Og;have XJ:=aa (af hT hTv);clear jY hl hTv hT Og δ;go_upto_region 8 with(fail)
    refine zg 10 [] none [(9,Spec.val (iv D))] ?_;simp only[zt];repeat ((first|refine zn ?_|refine zk ?_);simp only[zp])
    refine zw 114 (h:=fun W hE hF=>by exact HC1.o W) (t:=?_);simp only[zp];intro W hE hF;obtain⟨hc,hf⟩:=bH hE.below;have ig:=hE.size;(try simp only[bA] at ig)
    have hTW:TabAt abh iv (fun _=>True) W (w.heap.size+2) T:=XJ.o.1.below hE.below (ah _);obtain⟨W8,hrun,hT8,eT⟩:=eP IV (mt:=366) (e:=3) ϰ hTW (tw,ta,tb) trivial D;have Sd:=HS6.o.next hE.below;have Sg:Pg w f (.slice (some ⟨b,off,none⟩) f.aj.length c) xs W8:=by
     refine⟨(eT.block _ (aN.1 Sd.b0).1 ϕ).trans Sd.b0,(eT.block _ (aN.1 Sd.b1).1 ϕ).trans Sd.b1,⟨_,hT8,fun k n h=>?_⟩,dM Sd.below eT ϑ⟩;rw[uC] at h;split at h
     ·rename_i he;subst he;cases h;exact HD.o.symm
     ·exact XJ.o.2 _ _ h
    have ajp:W8.heap[wr.heap.size]? =some (.cells #[iv tw,iv ta,iv tb,iv Il,iv Im] 186 (0,0)):=
     (eT.block _ (by have:=hE.size;omega) (by have:=EY.o.tab.choose_spec.1.lt;simp;omega)).trans ((hE.block _ cl9 ϕ).trans tL)
    have afw:W8.heap[wr.heap.size+1]? =some (.cells #[iv tw,iv ta,iv tb] 368 (0,0)):=
     (eT.block _ (by have:=hE.size;omega) (by have:=EY.o.tab.choose_spec.1.lt;simp;omega)).trans ((hE.block _ ZV ϕ).trans hk10)
    have JC:=aa (fun W hW=>tH IV (mt:=366) (e:=3) ϰ (z:=iv 0) (fun W=>by simp[go_sem]) hT8 (tw,ta,tb) trivial false W hW);rw[uC,aG rfl] at JC;simp only[Option.map_some,Option.getD_some,Option.isSome_some,Bool.false_eq_true,if_false] at JC;have MB:=aa Sg;clear hT8 eT Sd Sg hTW hE hF cc0 cf0 cl0 MM O4 OU cc9 cf9 cl9 acQ acP ZV hc hf Ξ;go_upto_region 9 with(fail)
    clear hrun;obtain⟨cc9,cf9,cl9⟩:=ae ajp;obtain⟨acQ,acP,ZV⟩:=ae afw;exact zag
  ·have Y9:k=f.aj.length:=ϑ;subst Y9;have aev:kz xs= .agg #[iv x0,iv x1,iv x2,iv x3,iv x4,iv x5,iv x6]:=congrArg Value.agg HX.o.2;have HL:=aa (fun W=>aev▸Ls f (.slice o f.aj.length c) xs HX.o.1 (-1) W HS.o.xG HS.o.oG);obtain⟨d,hd⟩: ∃d,kL f xs (-1)=d:=⟨_,rfl⟩;obtain⟨q,hq⟩: ∃q,lV d f.left.1 f.left.2=q:=⟨_,rfl⟩;have HR:Hid (il f out xs=q):=aa (by
    rw[<-hq, <-hd];have h1:=iF.o;unfold Kv at h1;unfold il;rw[h1,Bool.true_and];rfl)
   have HD:=aa (af hd hq);rw[hd] at HL;clear hd hq aev Y6;go_upto_region 12 with(fail)
   refine zg 7 [] none [(4,Spec.val (iv d)),(5,Spec.val (.bool q))] ?_;simp only[zt];repeat ((first|refine zn ?_|refine zk ?_);simp only[zp])
   refine zw 68 (h:=fun W hE hF=>by exact HL.o W) (t:=?_);simp only[zp];refine zw 267 (h:=fun W hE hF=>by exact(by have:=vK f.left d W;rw[HD.o.2] at this;exact this)) (t:=?_)
   simp only[zp];repeat ((first|refine zn ?_|refine zk ?_);simp only[zp])
   intro W hE hF;obtain⟨hc,hf⟩:=bH hE.below;have ig:=hE.size;(try simp only[bA] at ig)
   have TP:=aa (EY.o.next hE.below);clear hE hF;go_wp2_with fail
   go_returns;exact⟨by rw[HR.o];simp,TP.o.below⟩
attribute [local go_sem] Oper.semAt_some
def rF (f:bL) (out:List Int) (k:Nat):Nat:=(((nU f).take k).filter (il f out)).length
theorem LG (f:bL) (out:List Int):rF f out (nU f).length=(bN f out).length:=by
 unfold rF bN;rw[List.take_length]
theorem Qz {f:bL} {out:List Int} {k:Nat} (hk:k<(nU f).length) (hp:il f out (nU f)[k]=false):rF f out (k+1)=rF f out k:=by
 unfold rF;exact zbL
theorem LF {f:bL} {out:List Int} {k:Nat} (hk:k<(nU f).length) (hp:il f out (nU f)[k]=true):rF f out (k+1)=rF f out k+1:=by
 unfold rF;exact zbL
theorem Cx {f:bL} {out:List Int} {k:Nat} (hk:k<(nU f).length) (hp:il f out (nU f)[k]=true):
 ∃hc:rF f out k<(bN f out).length,(bN f out)[rF f out k]=(nU f)[k]:=by
 have:=AL (il f out) id (nU f) k hk hp;rw[List.map_id] at this;obtain⟨hc,hx⟩:=iy.1 this;exact⟨hc,hx⟩
def oV (x:List Int):List Int:=x++List.replicate (7-x.length) 0
theorem sW {x:List Int} (h:x.length<=7):(oV x).length=7:=by simp[oV];omega
theorem U7 (x:List Int) (i:Nat):(oV x).getD i 0=x.getD i 0:=by
 unfold oV;exact zbh
theorem Lv (x:List Int) (who:Int) (a n:Nat):xy (oV x) who a n=xy x who a n:=by
 unfold xy;simp only[U7]
theorem Gq (f:bL) (out x:List Int):il f out (oV x)=il f out x:=by
 unfold il xS Eu;simp only[Lv]
theorem WY (f:bL) (x:List Int) (who:Int):kL f (oV x) who=kL f x who:=by
 unfold kL Eu;rw[Lv]
structure Ul (W:World) (bf bo iD ab bc l:Nat) (o:List Int):Prop where
 y:W.heap[iD]? =some (.cells #[.func (.yield l) #[] #[]] 318 (0,0))
 ch:W.heap[bc]? =some (.cells #[.func (.func 196) #[] #[.pointer (some ⟨bf,0,none⟩),.pointer (some ⟨ab,0,none⟩),.pointer (some ⟨bo,0,none⟩),.pointer (some ⟨iD,0,none⟩),.pointer (some ⟨bc,0,none⟩)]] 274 (0,0))
 cells:W.heap[ab]? =some (.cells (ag o).toArray 157 (0,0))
theorem Ul.kept {W W':World} {bf bo iD ab bc l:Nat} {o:List Int} (h:Ul W bf bo iD ab bc l o) (hk: ∀m∈[ab,iD,bc],m<W.heap.size->W'.heap[m]? =W.heap[m]?):Ul W' bf bo iD ab bc l o:=
 ⟨(hk _ ϕ (aN.1 h.y).1).trans h.y,(hk _ ϕ (aN.1 h.ch).1).trans h.ch,(hk _ ϕ (aN.1 h.cells).1).trans h.cells⟩
theorem Ul.below {W W':World} {bf bo iD ab bc l:Nat} {o:List Int} (h:Ul W bf bo iD ab bc l o) (hb:Ϙ W W'):Ul W' bf bo iD ab bc l o:=
 h.kept fun m _ hm=>hb.block m hm
theorem Ul.set {W:World} {bf bo iD ab bc l:Nat} {o:List Int} (h:Ul W bf bo iD ab bc l o) (hd1:iD≠ab) (hd3:bc≠ab) (i:Nat) (x:Int):Ul (W.setCell ⟨ab,i,none⟩ (iv x)) bf bo iD ab bc l (o.set i x):=
 ⟨(bV _ _ _ _ hd1).trans h.y,(bV _ _ _ _ hd3).trans h.ch,by rw[<-qC];exact aA h.cells _⟩
def ahw (_:List Nat) (x:List Int) (v:Value) (_:World):Prop:=v=kz (oV x)
structure aaX (bf bo:Nat) (f:bL) (tv ov:Value) (out:List Int) (W:World):Prop where
 fb:W.heap[bf]? =some (.cells (sj f tv) 45 (0,0))
 ob:W.heap[bo]? =some (.cells #[ov] 52 (0,0))
 sG:cz W tv f.aj
 out:aL W ov out
theorem JR (f:bL) (hS:pG f) (tv ov:Value) (out:List Int) (bf bo iD ab bc l:Nat) (hd1:iD≠ab) (hd3:bc≠ab) (J:List Nat->Option Nat->World->Prop)
 (hInv: ∀Ms s W1,J Ms s W1->aaX bf bo f tv ov out W1)
 (hstep: ∀Ms jc s W1 W2,J Ms s W1->Ext Ms W1 W2->(∀m∈jc,m∈Ms∨(W1.heap.size<=m/\m<W2.heap.size))->True->J jc s W2)
 (hY: ∀Ms k v W1 (hk:k<(bN f out).length),J Ms (some k) W1->ahw Ms (bN f out)[k] v W1->YieldAt Fence.wide 0 Tryz.prog l #[v] W1 fun e W'=>
   ((∀m∈Ms,m∉[]->m<W1.heap.size->W'.heap[m]? =W1.heap[m]?)/\W1.heap.size<=W'.heap.size)/\((e= .returned (.bool true)/\J Ms (some (k+1)) W')∨(e= .returned (.bool false)/\J Ms none W'))):
 ∀(m i k:Nat) (Ρ:List Int) (W:World) (o:List Int),i+m=f.rows.toNat->Ρ.length=i->o.length=7->o.take i=Ρ->o.drop f.rows.toNat=List.replicate (7-f.rows.toNat) 0->iO (dY f) i k Ρ->Ul W bf bo iD ab bc l o->J [ab,iD,bc] (some (rF f out k)) W->
  CallsIn Fence.wide 0 Tryz.prog 196 #[iv i,.pointer (some ⟨bf,0,none⟩),.pointer (some ⟨ab,0,none⟩),.pointer (some ⟨bo,0,none⟩),.pointer (some ⟨iD,0,none⟩),.pointer (some ⟨bc,0,none⟩)] W
   (fun e W'=>(e= .returned (.bool true)/\J [ab,iD,bc] (some (rF f out (k+(ed ((dY f).drop i)).length))) W'/\ ∃o',o'.length=7/\o'.take i=Ρ/\o'.drop f.rows.toNat=List.replicate (7-f.rows.toNat) 0/\Ul W' bf bo iD ab bc l o')∨
     (e= .returned (.bool false)/\J [ab,iD,bc] none W')):=by
 have hRl:(dY f).length=f.rows.toNat:=by simp[dY]
 intro m;induction m with
 |zero=>
  intro i k Ρ W o him hpl hol hot hod hat Y6 hJ;have hrow:(i:Int)=f.rows:=by have:=hS.xG;omega
  obtain⟨hone,hk,hx⟩:=hat.last ϑ;rw[hone];have hop:o=oV Ρ:=by
   rw[<-List.take_append_drop f.rows.toNat o,hod];rw[show f.rows.toNat=i from ϑ,hot];unfold oV;rw[hpl]
  have Χ:k<(nU f).length:=hk;have xq:(nU f)[k]=Ρ:=hx;obtain⟨hbf,Su,htl,hov⟩:=hInv _ _ _ hJ;obtain⟨ot,ct,rfl⟩:=htl.open;obtain⟨oo,oc,rfl⟩:=hov.open;have hright:=wT f hS ot ct o hol _ out W htl hov;rw[show il f out o=il f out Ρ from by rw[hop,Gq]] at hright
  obtain⟨MM,O4,OU⟩:=ae hbf;obtain⟨ZW,cf2,cl2⟩:=ae Su;obtain⟨cc3,cf3,cl3⟩:=ae Y6.y;obtain⟨x0,x1,x2,x3,x4,x5,x6,hxs⟩:=qB hol;have hag:kz o= .agg #[iv x0,iv x1,iv x2,iv x3,iv x4,iv x5,iv x6]:=by rw[hxs];rfl
  have hcb:=Y6.cells;rw[show(ag o).toArray= #[iv x0,iv x1,iv x2,iv x3,iv x4,iv x5,iv x6] from by rw[hxs];rfl] at hcb
  obtain⟨cc4,cf4,cl4⟩:=ae hcb;rw[hag] at hright;have HR:=aa hright;have HS:=aa Y6;have HJ:=aa hJ;have HI:=aa hInv;have π:=aa hstep;have HY:=aa hY;have HK:=aa (show ∃h:k<(nU f).length,(nU f)[k]=Ρ from⟨Χ,xq⟩);have HO:=aa (af hol (af hot (af hod (af hop hag))));have heq:((i:Int)==f.rows)=true:=by simpa using hrow
  clear hright hInv hstep hY Y6 hJ hbf Su htl hov hat hcb hop hag hxs hx xq hk Χ hone hrow hot hod;obtain⟨q,hq⟩: ∃q,il f out Ρ=q:=⟨_,rfl⟩;have HQ:=aa hq;rw[hq] at HR;clear hq;cases q
  ·skip
   refine callsIn_of_wp Tryz.func196 rfl trivial ?_;simp only[Tryz.ntmps196,List.size_toArray,List.length_cons,List.length_nil,Nat.reduceAdd,Nat.reduceSub,Array.replicate_succ,Array.replicate_zero,jy,jA,List.nil_append,List.cons_append]
   gi_wp2_with fail
   refine(callsIn_wide.2 HR.o).mono ?_;rintro e W1 ⟨rfl,δ⟩;have R9:=aa δ;clear δ
   gi_wp2_with fail
   go_returns;have BZ:=π.o _ _ _ _ _ HJ.o (Ext.ax R9.o) (fun m hm=> .inl hm) trivial;obtain⟨Χ,xq⟩:=HK.o;rw[<-Qz Χ (by rw[xq];exact HQ.o)] at BZ;exact .inl ⟨by simp,BZ,o,HO.o.1,HO.o.2.1,HO.o.2.2.1,HS.o.below R9.o⟩
  ·skip
   refine callsIn_of_wp Tryz.func196 rfl trivial ?_;simp only[Tryz.ntmps196,List.size_toArray,List.length_cons,List.length_nil,Nat.reduceAdd,Nat.reduceSub,Array.replicate_succ,Array.replicate_zero,jy,jA,List.nil_append,List.cons_append]
   gi_wp2_with fail
   refine(callsIn_wide.2 HR.o).mono ?_;rintro e W1 ⟨rfl,δ⟩;obtain⟨hc1,hf1⟩:=bH δ;have hs1:=δ.size;have R9:=aa δ;have BZ:=π.o _ _ _ _ _ HJ.o (Ext.ax δ) (fun m hm=> .inl hm) trivial;obtain⟨Χ,xq⟩:=HK.o;obtain⟨hc,hx⟩:=Cx Χ (by rw[xq];exact HQ.o);obtain⟨g1,t1,a1,b1,hy1,Ec⟩:=HY.o _ _ (.agg #[iv x0,iv x1,iv x2,iv x3,iv x4,iv x5,iv x6]) W1 hc BZ (by
    show _=kz (oV _);rw[hx,xq, <-HO.o.2.2.2.1,HO.o.2.2.2.2])
   have hcn:rF f out (k+1)=rF f out k+1:=LF Χ (by rw[xq];exact HQ.o);exact zaU
 |succ m ih=>
  intro i k Ρ W o him hpl hol hot hod hat Y6 hJ;have hi:i<(dY f).length:=ϑ;have ψ:=iO.count hi;have hw0:=hS.xD;have hw1:=hS.uU;have Qh:=hS.oG;have hr0:=hS.xG;have BA:(dY f)[i]=(-1,f.aJ-1):=by simp[dY]
  obtain⟨z,hz,hz4⟩: ∃z:Nat,(z:Int)=f.aJ+1/\z<=4:=⟨(f.aJ+1).toNat,by omega,by omega⟩;have τ:(dQ (dY f)[i]).toNat=z:=by rw[BA];unfold dQ;simp only;omega
  rw[τ] at ψ;obtain⟨hbf,Su,htl,hov⟩:=hInv _ _ _ hJ;obtain⟨MM,O4,OU⟩:=ae hbf;have hne:(i:Int)≠f.rows:=ϑ;have D5:((i:Int)==f.rows)=false:=by simpa using hne
  have TS:Hid (∀c:Nat,c<z->iO (dY f) (i+1) (k+c*(ed ((dY f).drop (i+1))).length) (Ρ++[(c:Int)-1])):=aa (fun c hc=>by
   have:=hat.next hi c (by rw[τ];exact hc);rw[BA] at this;rw[show(c:Int)-1= -1+(c:Int) from by omega];exact this)
  have HI:=aa hInv;have π:=aa hstep;have HS:=aa Y6;have HJ:=aa hJ;have Uk:=aa ih;have Ic:=aa (af hol (af hot hod));have HCZ:=aa ψ;have HZ:=aa hz;have hi7:i<7:=ϑ;have hiR:i<f.rows.toNat:=ϑ;clear hInv hstep hY hat Y6 hJ ih ψ hne hbf Su htl hov BA τ hi hol hot hod hRl hz;refine callsIn_of_wp Tryz.func196 rfl trivial ?_;simp only[Tryz.ntmps196,List.size_toArray,List.length_cons,List.length_nil,Nat.reduceAdd,Nat.reduceSub,Array.replicate_succ,Array.replicate_zero,jy,jA,List.nil_append,List.cons_append]
  gi_wp2_with fail
  rw[<-HZ.o]
  gi_loopw [26] (fun u wr=> ∃c:Nat,c<=z/\u= .int .i64 c/\ ∃o':List Int,o'.length=7/\o'.take i=Ρ/\o'.drop f.rows.toNat=List.replicate (7-f.rows.toNat) 0/\Ul wr bf bo iD ab bc l o'/\J [ab,iD,bc] (some (rF f out (k+c*(ed ((dY f).drop (i+1))).length))) wr)
   (fun u _=>z-(intOf u).toNat)
  case atStart=>exact⟨0,bE _,rfl,o,Ic.o.1,Ic.o.2.1,Ic.o.2.2,HS.o,by simpa using HJ.o⟩
  case round=>
   obtain⟨c,hcz,rfl,o',ho1,ho2,ho3,Y6,hJ⟩:=hrel;by_cases uM:c<z
   ·obtain⟨hbf,Su,htl,hov⟩:=HI.o _ _ _ hJ;obtain⟨cd1,L6,LJ⟩:=ae hbf;obtain⟨cd3,LZ,LH⟩:=ae Y6.ch;obtain⟨y,Q7⟩: ∃y,wr.cell? ⟨ab,i,none⟩=some (iv y):=⟨_,fD Y6.cells (show i<o'.length by omega)⟩;have hab:=dB wr _ Q7;have hfr:=bn Y6.cells i;have EY:=aa Y6;have PI:=aa hJ;have HO:=aa (af ho1 (af ho2 ho3));have oK:(c:Int)<z:=ϑ;clear Y6 hJ hbf Su htl hov ho1 ho2 ho3 MM O4 OU;have Dw:=EY.o.set hd1 hd3 i ((c:Int)-1);have WL:J [ab,iD,bc] (some (rF f out (k+c*(ed ((dY f).drop (i+1))).length))) (wr.setCell ⟨ab,i,none⟩ (iv ((c:Int)-1))):=
     π.o _ _ _ _ _ PI.o ((jo wr ⟨ab,i,none⟩ _).more (fun x hx=>by simp at hx;subst hx;simp)) (fun m hm=> .inl hm) trivial
    have qY:=Uk.o (i+1) _ (Ρ++[(c:Int)-1]) _ (o'.set i ((c:Int)-1)) ϑ (by simp[hpl]) (by simp[HO.o.1]) (by
     rw[List.take_set];rw[pE,HO.o.2.1];have Zm:i<o'.length:=by have:=HO.o.1;omega
     rw[dn Zm];simp[nZ,hpl]) (by
     rw[List.drop_set,aG hiR];exact HO.o.2.2) (TS.o c uM) Dw WL
    rw[show((i+1:Nat):Int)=(i:Int)+1 from by omega] at qY;have zS:=aa qY;clear qY Dw WL
    gi_wp2_with fail
    refine zS.o.mono ?_;rintro e W2 (⟨rfl,hJ2,o2,ho1,ho2,ho3,Dx⟩|⟨rfl,hJ2⟩)
    ·have HJ2:=aa hJ2;have Pp:=aa Dx;have zX:=aa (af ho1 (af ho2 ho3));clear hJ2 Dx ho1 ho2 ho3 cd1 L6 LJ cd3 LZ LH Q7 hab hfr
     gi_wp2_with fail
     go_roundw
     case rel=>
      exact zbp
     case measure=>simp[intOf];omega
    ·have HJ2:=aa hJ2;clear hJ2 cd1 L6 LJ cd3 LZ LH Q7 hab hfr
     gi_wp2_with fail
     go_returns;exact .inr ⟨by simp,HJ2.o⟩
   ·have Oo:c=z:=ϑ;subst Oo;have PI:=aa hJ;have EY:=aa Y6;have HO:=aa (af ho1 (af ho2 ho3));clear hJ Y6 ho1 ho2 ho3 MM O4 OU
    gi_wp2_with fail
    go_returns;exact zcu
theorem JK (f:bL) (hS:pG f) (tv ov:Value) (out:List Int) (bf bo:Nat):
 TI Tryz.prog 195 #[.pointer (some ⟨bf,0,none⟩),.pointer (some ⟨bo,0,none⟩)] (bN f out) ahw [] (fun _=>True) (aaX bf bo f tv ov out):=by
 intro l J W hInv hstep hY h0;have hch:=fun iD ab bc hd1 hd3=>JR f hS tv ov out bf bo iD ab bc l hd1 hd3 J hInv hstep hY;have Qh:=hS.oG;have hRl:(dY f).length=f.rows.toNat:=by simp[dY]
 have HCH:=aa hch;have π:=aa hstep;have HJ:=aa h0;have hn2: ∀(A B:Obj) (v:Value) (t:TypeId),(((W.alloc A).alloc B).alloc (.cells #[v] t)).cell? ⟨W.heap.size+1+1,0,none⟩=some v:=fun A B v t=>aD (fM W A B _);have hf2: ∀(A B:Obj) (v:Value) (t:TypeId),(((W.alloc A).alloc B).alloc (.cells #[v] t)).frozen? ⟨W.heap.size+1+1,0,none⟩=false:=fun A B v t=>bn (fM W A B _) 0;clear hInv hstep hY hch h0 hS;go_enter Tryz.func195,Tryz.ntmps195;go_wp2_with fail
 refine(callsIn_wide.1 (HCH.o W.heap.size (W.heap.size+1) (W.heap.size+1+1) ϑ ϑ f.rows.toNat 0 0 [] _ (List.replicate 7 0) ϑ rfl ϕ ϕ (by rw[List.drop_replicate]) (iO.zero _) ⟨?_,?_,?_⟩
  (π.o _ _ _ _ _ HJ.o (Ext.ax zl) (fun m hm=> .inr (by simp at hm;(first|omega|(simp;omega)))) trivial))).mono ?_
 ·exact zbQ
 ·exact fM _ _ _ _
 ·exact zbU
 ·rintro e W2 (⟨rfl,hJ2,_⟩|⟨rfl,hJ2⟩)
  ·have HJ2:=aa hJ2;clear hJ2 hn2 hf2;go_wp2_with fail
   go_end0
   refine⟨⟨_,rfl⟩,[W.heap.size+1,W.heap.size,W.heap.size+1+1],.inl ?_⟩;have:=HJ2.o;rw[<-LG];simpa [nU] using this
  ·have HJ2:=aa hJ2;clear hJ2 hn2 hf2;exact zbK
theorem JL (f:bL) (tv:Value) (o:Option Addr) (n c:Nat) (w:World):
 Ϝ 113 #[fv f tv,.slice o n c] w (fun e w'=>e= .returned (.func (.func 195) #[] #[.pointer (some ⟨w.heap.size,0,none⟩),.pointer (some ⟨w.heap.size+1,0,none⟩)])/\
  w'=(w.alloc (.cells (sj f tv) 45)).alloc (.cells #[.slice o n c] 52)):=by
 go_enter Tryz.func113,Tryz.ntmps113;exact zbE
end Go.Proofs.Z
namespace Go.Proofs.Z
open Go.RowKit Go.RG Go.SL Go.Shelf gK Go.TB
attribute [local go_sem] Oper.semAt_some
theorem aiu:fU Tryz.prog 152 157 (.agg #[iv 0,iv 0,iv 0,iv 0,iv 0,iv 0,iv 0]) 7 56:=⟨Tryz.underlying152,by kernel_rfl,rfl,by omega⟩
structure Fa (w:World) (Os Ms:List Nat) (W:World):Prop where
 ext:Ϙ w W
 old: ∀m∈Ms,w.heap.size<=m
 bnd: ∀m∈Ms,m<W.heap.size
 apart: ∀b∈Os,b∉Ms/\b<W.heap.size
theorem Fa.gL {w:World} {Os Ms jc:List Nat} {W1 W2:World} (h:Fa w Os Ms W1) (hE:Ext Ms W1 W2) (η: ∀m∈jc,m∈Ms∨(W1.heap.size<=m/\m<W2.heap.size)):
 Fa w Os jc W2/\ ∀b∈Os,W2.heap[b]? =W1.heap[b]? :=by
 have τ:=h.ext.size;refine⟨⟨h.ext.trans ⟨hE.os,hE.tape,hE.output,hE.size,fun k hk=>?_⟩,fun m hm=>?_,fun m hm=>?_,fun b hb=>?_⟩,fun b hb=>hE.block b (h.apart b hb).2 (h.apart b hb).1⟩
 ·exact hE.block k ϑ (fun Χ=>by have:=h.old k Χ;omega)
 ·rcases η m hm with h1|h1
  ·exact h.old m h1
  ·omega
 ·rcases η m hm with h1|h1
  ·exact eF (h.bnd m h1) hE.size
  ·exact h1.2
 ·exact zbY
theorem Fa.own {w:World} {Os Ms:List Nat} {W1 W2:World} (h:Fa w Os Ms W1) (hE:Ϙ w W2) (hs:W1.heap.size<=W2.heap.size):Fa w Os Ms W2:=
 ⟨hE,h.old,fun m hm=>eF (h.bnd m hm) hs,fun b hb=>⟨(h.apart b hb).1,eF (h.apart b hb).2 hs⟩⟩
theorem Fa.put {w:World} {Os Ms:List Nat} {W:World} (h:Fa w Os Ms W) {r:Nat} (o:Obj) (hr:w.heap.size<=r):Fa w Os Ms (W.putObj r o):=
 h.own (h.ext.trans ⟨rfl,rfl,rfl,by simp,fun k hk=>World.putObj_heap_other ϑ⟩) ϕ
def oQ (ls:List (List Int)):List Value:=ls.flatMap fun x=>ag (oV x)
abbrev Cf (f:bL) (tv v:Value):Array Value:= #[iv f.rows,iv f.aJ,iv f.left.1,iv f.left.2,tv,v]
theorem kC {f:bL} (hS:pG f) (out:List Int):(bN f out).length<=2500:=by
 have h1:=vS (dY f) (Ns hS);rw[IE] at h1;have h2:=hS.many;have h3:(bN f out).length<=(nU f).length:=List.length_filter_le _ _;unfold nU at h3;omega
structure TZ (B:Nat) (f:bL) (tv:Value) (ls:List (List Int)) (Ms:List Nat) (W:World):Prop where
 work: ∃v,W.heap[B]? =some (.cells (Cf f tv v) 154 (0,0))/\W.ownsRow (B+6) 157 7 v ls.length (oQ ls)/\ ∀g,v.ownBlock=some g->g∉Ms/\g<W.heap.size
 ptr:W.heap[B+1]? =some (.cells #[.pointer (some ⟨B,0,none⟩)] 149 (0,0))
 b2:W.heap[B+2]? =some (.cells (sj f tv) 45 (0,0))
 b3:W.heap[B+3]? =some (.cells #[.slice none 0 0] 52 (0,0))
theorem TZ.kept {B:Nat} {f:bL} {tv:Value} {ls:List (List Int)} {Ms jc:List Nat} {W W':World} (h:TZ B f tv ls Ms W) (hs:W.heap.size<=W'.heap.size) (hk: ∀b,B<=b->b<B+4->W'.heap[b]? =W.heap[b]?)
 (ho: ∀g,B+6<=g->g<W.heap.size->g∉Ms->W'.heap[g]? =W.heap[g]?) (hM: ∀m∈jc,m∈Ms∨(W.heap.size<=m/\m<W'.heap.size)):TZ B f tv ls jc W':=by
 obtain⟨v,h1,h2,h3⟩:=h.work;exact zaZ
structure TF (W:World) (wb:Nat) (f:bL) (tv v:Value) (ls:List (List Int)):Prop where
 cells:W.heap[wb]? =some (.cells (Cf f tv v) 154 (0,0))
 sG:cz W tv f.aj
 truth:aH 7 W v ls.length (oQ ls)
theorem TF.lt {W:World} {wb:Nat} {f:bL} {tv v:Value} {ls:List (List Int)} (h:TF W wb f tv v ls):wb<W.heap.size:=(aN.1 h.cells).1
theorem TF.below {W W':World} {wb:Nat} {f:bL} {tv v:Value} {ls:List (List Int)} (h:TF W wb f tv v ls) {B:Nat} (hb:Below B W W') (hB:W.heap.size<=B):TF W' wb f tv v ls:=
 ⟨(hb.block _ (by have:=h.lt;omega)).trans h.cells,h.sG.below hb hB,h.truth.below hb hB⟩
def eO (f:bL) (Ζ:Bool):Int:=if iZ f≠0 then iZ f else if Ζ=false then 2 else if(bN f []).isEmpty then 11 else 0
def XY (f:bL) (tv:Value) (Ζ:Bool) (w:World) (e:Ending) (w':World):Prop:=
 Ϙ w w'/\((eO f Ζ≠0/\e= .returned (.tuple #[.pointer none,.int .i64 (eO f Ζ)]))∨
  (eO f Ζ=0/\ ∃(wb:Nat) (v:Value),e= .returned (.tuple #[.pointer (some ⟨wb,0,none⟩),.int .i64 0])/\w.heap.size<=wb/\TF w' wb f tv v (bN f [])))
theorem MX (f:bL) (tv:Value) (g:Nat) (aP:Array Value) (Ζ:Bool) (w:World) (ht:cz w tv f.aj) (eg: Ϛ Tryz.prog g)
 (K8: ∀W,Ϙ w W->Ϝ g aP W (PV (.bool Ζ) W)):
 Ϝ 66 #[fv f tv,.func (.func g) #[] aP] w (XY f tv Ζ w):=by
 obtain⟨o,c,rfl⟩:=ht.open;have HT:=aa ht;have HF:=aa K8;clear ht K8;by_cases hf0:iZ f=0
 case neg=>
  have HE:Hid (eO f Ζ=iZ f/\eO f Ζ≠0):=aa (by unfold eO;rw[aG hf0];exact⟨rfl,hf0⟩);have HC:=aa (yB f (.slice o f.aj.length c));generalize hff:iZ f=e at*
  clear hff;go_enter Tryz.func66,Tryz.ntmps66;go_wp2_with fail
  refine(HC.o _ (HT.o.alloc _)).mono ?_;exact zcf
 have HC:=aa (fun w=>hf0▸yB f (.slice o f.aj.length c) w);have mR:=aa (gu hf0);have HF0:=aa hf0;clear hf0;cases Ζ
 ·have HE:Hid (eO f false=2):=aa (by unfold eO;rw[ak (by rw[HF0.o];simp),aG rfl]);go_enter Tryz.func66,Tryz.ntmps66;go_wp2_with fail
  refine(HC.o _ (HT.o.alloc _)).mono ?_;exact zcE
 have HE:Hid (eO f true=if(bN f []).isEmpty then 11 else 0):=aa (by unfold eO;rw[ak (by rw[HF0.o];simp),ak ϕ]);refine(callsIn_wide (n:=0)).1 ?_;refine callsIn_of_wp_marks Tryz.func66 rfl trivial ?_;simp only[Tryz.ntmps66,List.size_toArray,List.length_cons,List.length_nil,Nat.reduceAdd,Nat.reduceSub,Array.replicate_succ,Array.replicate_zero,jy,jA,List.nil_append,List.cons_append]
 gi_wp2_with fail
 refine(callsIn_wide.2 (HC.o _ (HT.o.alloc _))).mono ?_;rintro e w1 ⟨rfl,hb⟩;obtain⟨hc1,hf1⟩:=bH hb;have hz1:w.heap.size<w1.heap.size:=by have:=hb.size;simp at this;omega
 have R9:=aa (show Ϙ w w1 from zl);clear hb
 gi_wp2_with fail
 refine(callsIn_wide.2 (HF.o _ R9.o)).mono ?_;rintro e w2 ⟨rfl,hb⟩;obtain⟨hc2,hf2⟩:=bH hb;have hz2:w.heap.size<w2.heap.size:=by have:=hb.size;omega
 have Uy:=aa (aV R9.o hb);clear hb
 gi_wp2_with fail
 refine(callsIn_wide.2 (JL f _ none 0 0 _)).mono ?_;rintro e w3 ⟨rfl,rfl⟩
 gi_wp2_with fail
 obtain⟨B,kY⟩: ∃B,w2.heap.size=B:=⟨_,rfl⟩;rw[kY];obtain⟨w4,hw4⟩: ∃w4,((((w2.alloc (.cells #[iv f.rows,iv f.aJ,iv f.left.1,iv f.left.2,.slice o f.aj.length c,.slice none 0 0] 154)).alloc (.cells #[.pointer (some ⟨B,0,none⟩)] 149)).alloc (.cells (sj f (.slice o f.aj.length c)) 45)).alloc (.cells #[.slice none 0 0] 52))=w4:=⟨_,rfl⟩;have abS:w4.heap.size=B+4:=by rw[<-hw4];simp;omega
 have hwB:w.heap.size<B:=ϑ;have gJ:Hid (Ϙ w w4):=aa (by rw[<-hw4];exact ai (ai (ai (ai Uy.o _) _) _) _)
 have JI:Hid (TZ B f (.slice o f.aj.length c) [] [] w4):=aa (by
  rw[<-hw4];refine⟨⟨.slice none 0 0,?_,⟨rfl,.inl ⟨rfl,rfl⟩⟩,fun g hg=>by cases hg⟩,?_,?_,?_⟩
  ·exact za6
  ·exact zbz
  ·exact zbR
  ·rw[<-kY];exact kG _ _ _ _ _)
 rw[hw4];clear hw4 hc1 hf1 hz1 hc2 hf2;have BC: ∀b,b∈[w.heap.size,B,B+1,B+2,B+3,B+4,B+5]↔b=w.heap.size∨(B<=b/\b<B+6):=fun b=>by simp;omega
 obtain⟨Os,Ed⟩: ∃Os,[w.heap.size,B,B+1,B+2,B+3,B+4,B+5]=Os:=⟨_,rfl⟩;rw[Ed] at BC;clear Ed;have HT':Hid (∀W,Ϙ w W->cz W (.slice o f.aj.length c) f.aj):=aa (fun W hb=>HT.o.below hb (ah _));refine kQ (JK f mR.o (.slice o f.aj.length c) (.slice none 0 0) [] (B+1+1) (B+1+1+1)) rfl (enters_of Tryz.func195 ϰ rfl) rfl ϕ
  (fun Ms k W=>Fa w Os Ms W/\TZ B f (.slice o f.aj.length c) ((bN f []).take k) Ms W)
  (fun _ _ _=>False)
  ?hInv ?nk ?hI ?hIx ?FP ?qN ?h0
  (fun a Ms k W1 a₁ W=> ∃(x:List Int) (bt:Nat),(bN f [])[k]? =some x/\a₁={tmps:=(a.tmps.setIfInBounds 24 (kz (oV x))).setIfInBounds 8 (.pointer (some ⟨bt,0,none⟩)),defers:=[]}/\
    (Fa w Os Ms W/\TZ B f (.slice o f.aj.length c) ((bN f []).take k) Ms W)/\(W.heap[bt]? =some (.cells (ag (oV x)).toArray 157 (0,0))/\B+6<=bt/\bt∉Ms/\(∀v,W.heap[B]? =some (.cells (Cf f (.slice o f.aj.length c) v) 154 (0,0))->v.ownBlock≠some bt))/\
    (∀m∈Ms,m∉([]:List Nat)->m<W1.heap.size->W.heap[m]? =W1.heap[m]?)/\W1.heap.size<=W.heap.size)
  ?Jd ?hassign ?hbody ?hdone ?hstop
 case hInv=>
  rintro Ms k W ⟨hF,hP⟩;exact⟨hP.b2,hP.b3,HT'.o W hF.ext,aH.nil 1 W⟩
 case nk=>rintro cd Ms W h;exact h.elim
 case hI=>
  exact za3
 case hIx=>rintro cd Ms jc Wa Wb h;exact h.elim
 case FP=>
  rintro Ms k W r ob ⟨hF,hP⟩ hr;exact za5
 case qN=>rintro cd Ms W r ob h;exact h.elim
 case h0=>
  intro o1 o2;refine⟨⟨ai (ai gJ.o _) _,by simp,by simp,fun b hb=>⟨by simp,by have:=(BC b).1 hb;simp;omega⟩⟩,?_⟩;rw[List.take_zero];exact zbe
 case Jd=>
  rintro Ms k W1 a₁ W ob ⟨x,bt,hx,ha,⟨hF,hP⟩,⟨hbt,hb6,hbM,hbv⟩,hk,hs⟩;have ω:=(hF.apart (B+5) ((BC _).2 ϑ)).1;refine⟨x,bt,hx,ha,⟨hF.put ob ϑ,hP.kept ϕ (fun b h1 h2=>World.putObj_heap_other ϑ) (fun g h1 h2 h3=>World.putObj_heap_other ϑ) (fun m hm=> .inl hm)⟩,
   ⟨(World.putObj_heap_other ϑ).trans hbt,hb6,hbM,fun v hv=>hbv v ((World.putObj_heap_other ϑ).symm.trans hv)⟩,
   fun m hm h0 mP=>(World.putObj_heap_other (fun e=>ω (by rw[show B+5=m by omega];exact hm))).trans (hk m hm h0 mP),by simpa using hs⟩
 case hassign=>
  rintro Ms k v W hk ⟨hF,hP⟩ hE uM;obtain rfl:v=kz (oV (bN f [])[k]):=hE;have hxk:(bN f [])[k]? =some (bN f [])[k]:=dn hk;have hxl:=mF (bZ hk);generalize (bN f [])[k]=x at*
  have Qh:=mR.o.oG;obtain⟨y0,y1,y2,y3,y4,y5,y6,Ε⟩:=qB (sW (x:=x) ϑ);have hYS:=aa Ε;rw[Ε];rw[show kz [y0,y1,y2,y3,y4,y5,y6]= .agg #[iv y0,iv y1,iv y2,iv y3,iv y4,iv y5,iv y6] from rfl]
  gi_wp2
  have hB':Ϙ W (W.alloc (.cells #[iv y0,iv y1,iv y2,iv y3,iv y4,iv y5,iv y6] 157)):=ai (aF _ _) _;refine⟨⟨x,W.heap.size,hxk,?_,⟨(hF.gL (Ext.ax hB') (fun m hm=> .inl hm)).1,hP.kept ϕ (fun b h1 h2=>aT _ _ _ ϑ) (fun g h1 h2 h3=>aT _ _ _ ϑ) (fun m hm=> .inl hm)⟩,
   ⟨?_,by omega,fun hm=>by have:=hF.bnd _ hm;omega,fun v hv e=>?_⟩,fun m hm h0 mP=>aT _ _ _ ϑ,by simp⟩,aT _ _ _ ϑ,aT _ _ _ ϑ⟩
  ·rw[hYS.o];rfl
  ·rw[hYS.o];exact av _ _
  ·obtain⟨v0,h1,h2,h3⟩:=hP.work;have h4:=(aT _ _ _ ϑ).symm.trans hv;rw[h1] at h4;simp only[Option.some.injEq,Obj.cells.injEq,and_true,Array.mk.injEq,List.cons.injEq,true_and] at h4;subst h4;have:=(h3 _ e).2;omega
 case hbody=>
  rintro Ms k W1 a₁ W busy hk ⟨x,bt,hx,rfl,⟨hF,hP⟩,⟨hbt,hb6,hbM,hbv⟩,Oa,τ⟩ ι hD;simp only[nC,List.set_cons_succ,List.set_cons_zero];obtain⟨v,Η,Τ,hv3⟩:=hP.work;obtain⟨vo,vc,rfl⟩:=aM Τ;have Ws:=hbv _ Η;obtain⟨c1,f1,l1⟩:=ae hP.ptr;obtain⟨c2,f2,l2⟩:=ae Η;have hxl:=mF (lg hx);have Qh:=mR.o.oG;obtain⟨y0,y1,y2,y3,y4,y5,y6,Ε⟩:=qB (sW (x:=x) ϑ);have Eb:=hbt;rw[Ε] at Eb;obtain⟨c3,f3,l3⟩:=ae (show W.heap[bt]? =some (.cells #[iv y0,iv y1,iv y2,iv y3,iv y4,iv y5,iv y6] 157 (0,0)) from Eb);have hw:=(hF.apart w.heap.size ((BC _).2 (.inl rfl)));obtain⟨gx,hgx,Zr,hgx2,zo,Zq,aoR⟩: ∃gx,(∀g,(Value.slice vo ((bN f []).take k).length vc).ownBlock=some g->g=gx)/\(gx=w.heap.size∨B+6<=gx)/\gx<W.heap.size/\gx∉Ms/\gx≠bt/\w.heap.size<=gx:=by
   cases xu:(Value.slice vo ((bN f []).take k).length vc).ownBlock with
   |none=>exact⟨w.heap.size,(fun g hg=>by cases hg),.inl rfl,hw.2,hw.1,by omega,by omega⟩
   |some g=>
    have h1:=aS Τ g xu;have h2:=hv3 g xu;exact⟨g,(fun g' hg=>by cases hg;rfl),.inr h1.1,h1.2,h2.1,fun e=>Ws (by rw[xu,e]),by omega⟩
  have Y9:((bN f []).take k).length=k:=by rw[fJ];omega
  rw[Y9] at Η Τ hgx c2 hv3;have ab5:k<=2500:=by have:=kC mR.o [];omega
  have HF:=aa hF;have HP:=aa hP;have HV:=aa (af Η (af Τ hv3));have HX:=aa (af hx (af Ε hxl));have HK:=aa (af Oa (af ι hD));have HG:=aa hgx;have HBT:=aa Eb;clear hF hP Η Τ hv3 hx Ε hxl Oa ι hD hgx hbt Eb hbv Ws hw;have q1:gx≠B:=ϑ;have q2:gx≠B+1:=ϑ;have q1':B≠gx:=ϑ;have q2':B+1≠gx:=ϑ;have q3':bt≠gx:=ϑ
  gi_wp2_with fail
  refine dG 8 [gx] (some 7) [(6,Spec.slice W.heap.size #[iv y0,iv y1,iv y2,iv y3,iv y4,iv y5,iv y6] 157 1),(7,⟨fun _ v=> ∃o c,v= .slice o (k+1) c,fun _ v Wx=>Wx.ownsRow (B+6) 157 7 v (k+1) (oQ ((bN f []).take (k+1)))/\(∀g,v.ownBlock=some g->g=gx∨W.heap.size<=g)⟩)] ϰ ϰ ϰ ?_;simp only[zt];repeat ((first|refine zn ?_|refine zk ?_);simp only[zp])
  refine cB W.heap.size _ _ 1 ϱ (ah _) ϱ (by simpa using hgx2) ϕ (fun W hW=>by go_simp;try rfl) (fun b6=>?_);simp only[zp];refine aY _ ϱ ϱ (by exact⟨.slice none (k+1) 0,none,0,rfl⟩) (fun W6 hE hF=>?_) (fun v Wa Wb ho hE=>?_) (fun v hv=>?_)
  ·have Iq:Ext [] W W6:=hE;obtain⟨b',hb',hge,ο⟩:=hF _ (aW _) ϰ;cases hb';have VC:=az (Ms:=[]) HV.o.2.1 Iq ϕ;have ξ:aH 7 W6 (.slice (some ⟨b6,0,none⟩) 1 1) 1 (ag (oV x)):=by
    rw[HX.o.2.1];exact aH.bI 7 1 ο rfl ϖ
   refine Does.mono (dA aiu ϱ ϱ VC ϱ ξ (ic _) ϑ ϑ (by have:=Iq.size;omega)) ?_;rintro v' W7 ⟨ho,Y7,θ⟩;refine⟨aM ho,⟨?_,fun g hg=>?_⟩,⟨Y7.os,Y7.tape,Y7.output,Y7.size,fun b hb hn=>Y7.block b hb (fun e=>hn (by rw[HG.o b e.symm];simp))⟩⟩
   ·have hl:(bN f []).take (k+1)=(bN f []).take k++[x]:=by
     rw[pE,HX.o.1];rfl
    rw[hl];unfold oQ;rw[sw];simpa [oQ] using ho
   ·rcases θ with h1|h1
    ·exact .inl (HG.o g (by rw[<-h1,hg]))
    ·rw[hg] at h1;injection h1 with h1;exact .inr (by have:=Iq.size;omega)
  ·exact zaP
  obtain⟨o7,c7,rfl⟩:=hv;simp only[zp];intro W8 hE hF;have Iq:Ext [gx] W W8:=hE;obtain⟨nH,yn⟩:=hF _ (aW _);have abM:W8.heap[B]? =some (.cells (Cf f (.slice o f.aj.length c) (.slice vo k vc)) 154 (0,0)):=(Iq.block _ l2 (by simpa using q1')).trans HV.o.1;obtain⟨c8,f8,l8⟩:=ae abM;have gP:=aa Iq;have Yc:=aa (af nH (af yn abM));clear hE hF Iq nH yn c1 f1 l1 c2 f2 c3 f3 l3 abM
  gi_wp2_with fail
  have ajo:k+1=((bN f []).take (k+1)).length:=by rw[fJ];omega
  obtain⟨v',hv'⟩: ∃v',Value.slice o7 (k+1) c7=v':=⟨_,rfl⟩;rw[hv'] at Yc⊢;have Oe:(W8.setCell ⟨B,5,none⟩ v').heap.size=W8.heap.size:=by simp[World.setCell]
  have hs8:=gP.o.size;have Θ: ∀b,b<W.heap.size->b≠gx->b≠B->(W8.setCell ⟨B,5,none⟩ v').heap[b]? =W.heap[b]? :=fun b hb h1 h2=>
   (bV _ _ _ _ h2).trans (gP.o.block b hb (by simpa using h1))
  have ω: ∀b∈Os,b∉Ms/\b<W.heap.size:=HF.o.apart;have hin: ∀b,B<=b->b<B+6->b∈Os:=fun b h1 h2=>(BC b).2 ϑ;have ZE:Fa w Os Ms (W8.setCell ⟨B,5,none⟩ v'):=HF.o.own (HF.o.ext.trans ⟨gP.o.os,gP.o.tape,gP.o.output,by rw[Oe];exact hs8,fun b hb=>(bV _ _ _ _ (by show b≠B;omega)).trans (gP.o.block b (by have:=HF.o.ext.size;omega) ϗ)⟩) (by rw[Oe];exact hs8);refine⟨⟨?_,?_,fun m hm h0 mP=>?_,by rw[Oe];omega⟩,ZE,⟨v',aA Yc.o.2.2 _,ajo▸bT Yc.o.1 fun g hg=>bV _ _ _ _ (by have:=(aS Yc.o.1 g hg).1;show g≠B;omega),fun g hg=>⟨fun hm=>?_,by rw[Oe];exact(aS Yc.o.1 g hg).2⟩⟩,?_,?_,?_⟩
  ·exact(Θ _ (ω _ (hin (w4.heap.size+1) ϑ ϑ)).2 ϑ ϑ).trans HK.o.2.1
  ·exact(Θ _ (ω _ (hin w4.heap.size ϑ ϑ)).2 ϑ ϑ).trans HK.o.2.2
  ·exact(Θ m (HF.o.bnd m hm) (fun e=>zo (e▸hm)) (fun e=>(ω B (hin B ϑ ϑ)).1 (e▸hm))).trans (HK.o.1 m hm h0 mP)
  ·rcases Yc.o.2.1 g hg with h1|h1
   ·exact zo (h1▸hm)
   ·have:=HF.o.bnd g hm;omega
  ·exact(Θ _ (ω _ (hin (B+1) ϑ ϑ)).2 ϑ ϑ).trans HP.o.ptr
  ·exact(Θ _ (ω _ (hin (B+2) ϑ ϑ)).2 ϑ ϑ).trans HP.o.b2
  ·exact(Θ _ (ω _ (hin (B+3) ϑ ϑ)).2 ϑ ϑ).trans HP.o.b3
 case hdone=>
  rintro Ms W ⟨hF,hP⟩ hD uM;rw[List.take_length] at hP;obtain⟨v,Η,Τ,hv3⟩:=hP.work;obtain⟨vo,vc,rfl⟩:=aM Τ;obtain⟨c1,f1,l1⟩:=ae hP.ptr;obtain⟨c2,f2,l2⟩:=ae Η;have Ig:=aa hF;have HV:=aa (af Η Τ);have HL:=aa (kC mR.o []);clear hF hP Η Τ hv3;by_cases hn:(bN f []).length=0
  ·have hn':((((bN f []).length:Nat):Int)==0)=true:=by simpa using hn
   have agn:eO f true=11:=by rw[HE.o,aG (by simpa using hn)]
   have XR:=aa agn;clear agn hn
   gi_wp2_with fail
   refine⟨by simp,.inl ⟨_,_,rfl,run_takeDeferred hD,?_⟩⟩;exact⟨.tuple #[.pointer none,.int .i64 11],by simp[results,Tryz.results66,go_sem],(Ig.o.put (Obj.deferred none) ϑ).ext,.inl ⟨by rw[XR.o];simp,by rw[XR.o]⟩⟩
  ·have hn':((((bN f []).length:Nat):Int)==0)=false:=by simpa using hn
   have hE0:eO f true=0:=by rw[HE.o,ak (by simpa using hn)]
   have HE0:=aa hE0;clear hE0 hn
   gi_wp2_with fail
   refine⟨by simp,.inl ⟨_,_,rfl,run_takeDeferred hD,?_⟩⟩;refine⟨.tuple #[.pointer (some ⟨B,0,none⟩),.int .i64 0],by simp[results,Tryz.results66,go_sem],(Ig.o.put (Obj.deferred none) ϑ).ext,.inr ⟨HE0.o,B,.slice vo (bN f []).length vc,rfl,by omega,?_,HT'.o _ (Ig.o.put (Obj.deferred none) ϑ).ext,?_⟩⟩
   ·exact(World.putObj_heap_other ϑ).trans HV.o.1
   ·exact zci
 case hstop=>rintro cd Ms W h;exact h.elim
end Go.Proofs.Z
namespace Go.Proofs.Z
open Go.RowKit Go.RG Go.SL Go.Shelf gK Go.TB
theorem Ii (a b:Int) (g c:Nat) (w:World) (h0:w.cell? ⟨g,0,none⟩=some (iv a)) (h1:w.cell? ⟨g,1,none⟩=some (iv b)):
 Ϝ 115 #[.slice (some ⟨g,0,none⟩) 2 c] w (PV (iv (min a b)) w):=by
 have H:=aa (yX a b g c w h0 h1);go_enter Tryz.func115,Tryz.ntmps115;exact zbc
theorem MS (r:dF) (n:Int) (w:World):Ϝ 69 #[rv r,iv n] w (PV (rv (wid r n)) w):=by
 go_enter Tryz.func69,Tryz.ntmps69;go_wp2_with fail
 refine zg 10 [] none [(3,Spec.slice (w.heap.size+2) #[iv r.1,iv n] 3 2),(4,Spec.val (iv (min r.1 n)))] ?_;simp only[zt];repeat (refine zd ?_;simp only[zp])
 refine cB (w.heap.size+2) _ _ _ ϱ ϕ ϱ ϕ ϕ (fun W hW=>by go_simp;try rfl) (fun b=>?_);simp only[zp];refine dL _ ϱ ϱ 115 _ (fun W hW=>by go_simp;try rfl) (fun W hE hF=>?_) ?_
 ·obtain⟨c,hcb,hB,hc⟩:=hF _ (aW _) ϰ;cases hcb;exact Ii r.1 n b 2 W (by simp[World.cell?,hc]) (by simp[World.cell?,hc])
 simp only[zp];repeat (refine zd ?_;simp only[zp])
 intro W hE hF;obtain⟨hc,hf⟩:=bH hE.below;have ig:=hE.size;(try simp only[bA] at ig)
 go_wp2;all_goals
  (try simp only[Exit.inBlock,Exit.then])
  refine bodyPost_ret (v:=rv (min r.1 n,max r.2 n)) (by simp[results,Tryz.results69,go_sem,hc];try omega) rfl ?_;exact⟨rfl,ze⟩
theorem Mm {w:World} {o:Option Addr} {n c:Nat} {ls:List (List Int)} (h:aH 7 w (.slice o n c) ls.length (oQ ls)) (h7: ∀x∈ls,x.length<=7) {k:Nat} (hk:k<ls.length):
 ∃b off y0 y1 y2 y3 y4 y5 y6,o=some ⟨b,off,none⟩/\b<w.heap.size/\oV ls[k]=[y0,y1,y2,y3,y4,y5,y6]/\w.cell? ⟨b,off+k*7,none⟩=some (iv y0)/\w.cell? ⟨b,off+k*7+1,none⟩=some (iv y1)/\
  w.cell? ⟨b,off+k*7+2,none⟩=some (iv y2)/\w.cell? ⟨b,off+k*7+3,none⟩=some (iv y3)/\w.cell? ⟨b,off+k*7+4,none⟩=some (iv y4)/\w.cell? ⟨b,off+k*7+5,none⟩=some (iv y5)/\w.cell? ⟨b,off+k*7+6,none⟩=some (iv y6):=by
 obtain⟨hl,o',c',hv,h1,h2,h3,h4⟩:=h;cases hv;obtain⟨y0,y1,y2,y3,y4,y5,y6,Ε⟩:=qB (sW (h7 _ (bZ hk)));cases o with
 |none=>have:=h3 rfl;omega
 |some a=>
  obtain⟨b,off,sp⟩:=a;obtain⟨hs,hc⟩:=h4 _ rfl;simp only at hs hc;subst hs;have g: ∀j (hj:j<7),(oQ ls)[k*7+j]? =[iv y0,iv y1,iv y2,iv y3,iv y4,iv y5,iv y6][j]? :=fun j hj=>by
   unfold oQ;have: ∀(ls:List (List Int)) (k:Nat) (hk:k<ls.length),(∀x∈ls,x.length<=7)->(ls.flatMap fun x=>ag (oV x))[k*7+j]? =(ag (oV ls[k]))[j]? :=by
    intro ls;induction ls with
    |nil=>intro k hk;simp at hk
    |cons x ls ih=>
     intro k hk h7;have hx:(ag (oV x)).length=7:=by simp[ag,sW (h7 x ϕ)]
     rw[List.flatMap_cons];cases k with
     |zero=>simp only[Nat.zero_mul,Nat.zero_add,List.getElem_cons_zero];rw[sD ϑ]
     |succ k=>
      rw[mD ϑ,hx,show(k+1)*7+j-7=k*7+j from by omega];simpa using ih k (by simpa using hk) (fun y hy=>h7 y (by simp[hy]))
   rw[this ls k hk h7,Ε];rfl
  have r0:=hc (k*7+0) (iv y0) (by rw[g 0 ϑ];rfl);have r1:=hc (k*7+1) (iv y1) (by rw[g 1 ϑ];rfl);have r2:=hc (k*7+2) (iv y2) (by rw[g 2 ϑ];rfl);have r3:=hc (k*7+3) (iv y3) (by rw[g 3 ϑ];rfl);have r4:=hc (k*7+4) (iv y4) (by rw[g 4 ϑ];rfl);have r5:=hc (k*7+5) (iv y5) (by rw[g 5 ϑ];rfl);have r6:=hc (k*7+6) (iv y6) (by rw[g 6 ϑ];rfl);rw[Nat.add_zero] at r0;rw[<-Nat.add_assoc] at r1 r2 r3 r4 r5 r6;exact⟨b,off,y0,y1,y2,y3,y4,y5,y6,rfl,dB w _ r0,Ε,r0,r1,r2,r3,r4,r5,r6⟩
theorem SX (aP:Array Value) (hc:aP= #[]) (w:World):Ϝ 67 aP w (PV (.bool true) w):=by
 subst hc;go_enter Tryz.func67,Tryz.ntmps67;go_wp2;go_returns;exact⟨by simp,aF _ _⟩
def vO (f:bL) (ls:List (List Int)) (i:Int) (k:Nat):dF:=(ls.take k).foldl (fun r a=>wid r (kL f a i)) (kL f (ls.getD 0 []) i,kL f (ls.getD 0 []) i)
theorem Gn {f:bL} {ls:List (List Int)} {i:Int} {k:Nat} (hk:k<ls.length):vO f ls i (k+1)=wid (vO f ls i k) (kL f ls[k] i):=by
 unfold vO;rw[eG hk,List.foldl_append];rfl
theorem zF {f:bL} (hS:pG f) (a:List Int) (i:Int):0<=kL f a i/\kL f a i<=7:=by
 unfold kL Eu;have:=Jh a i (0:Int).toNat (f.rows-1+1-0).toNat;have:=hS.oG;have:=hS.xG;omega
theorem Iz {f:bL} (hS:pG f) (ls:List (List Int)) (i:Int): ∀k,k<=ls.length->(0<=(vO f ls i k).1/\(vO f ls i k).1<=7)/\(0<=(vO f ls i k).2/\(vO f ls i k).2<=7):=by
 intro k;induction k with
 |zero=>intro _;have:=zF hS (ls.getD 0 []) i;simp only[vO,List.take_zero,List.foldl_nil];omega
 |succ k ih=>
  intro hk;rw[Gn ϑ];have:=ih ϑ;have:=zF hS ls[k] i;unfold wid;simp only;omega
def zD (f:bL):List dF:=(List.range f.aJ.toNat).map fun(i:Nat)=>vO f (bN f []) (i:Int) (bN f []).length
def XX (f:bL) (w:World) (e:Ending) (w':World):Prop:=
 Ϙ w w'/\((eO f true≠0/\e= .returned (.tuple #[.slice none 0 0,iv (eO f true)]))∨(eO f true=0/\ ∃v,e= .returned (.tuple #[v,iv 0])/\bD w' v (zD f)))
theorem Ha (f:bL) (tv:Value) (x:List Int) (y0 y1 y2 y3 y4 y5 y6:Int) (Ε:oV x=[y0,y1,y2,y3,y4,y5,y6]) (who:Int) (hS:pG f) (W:World):
 Ϝ 68 #[fv f tv,.agg #[iv y0,iv y1,iv y2,iv y3,iv y4,iv y5,iv y6],iv who] W (PV (iv (kL f x who)) W):=by
 have:=Ls f tv (oV x) (by rw[Ε];rfl) who W hS.xG hS.oG;rw[WY,Ε] at this;exact this
theorem Yr:fU Tryz.prog 118 42 (rv (0,0)) 2 16:=⟨Tryz.underlying118,by kernel_rfl,rfl,by omega⟩
theorem ql {f:bL} {b:Bool} (h:eO f b=0):pG f/\0<(bN f []).length/\b=true:=by
 unfold eO at h;split at h
 ·omega
 ·rename_i h1;split at h
  ·omega
  ·rename_i h2;split at h
   ·omega
   ·rename_i h3;refine⟨gu ϑ,?_,by simpa using h2⟩;cases hl:bN f [] with
    |nil=>rw[hl] at h3;simp at h3
    |cons x l=>simp
theorem Aa (f:bL) (tv:Value) (w:World) (ht:cz w tv f.aj):Ϝ 40 #[fv f tv] w (XX f w):=by
 obtain⟨o,c,rfl⟩:=ht.open;have HA:=aa (MX f (.slice o f.aj.length c) 67 #[] true (w.alloc (.cells (sj f (.slice o f.aj.length c)) 45)) (ht.alloc _) (enters_of Tryz.func67 ϰ rfl) (fun W _=>SX #[] rfl W));clear ht;go_enter Tryz.func40,Tryz.ntmps40;go_wp2_with fail
 refine HA.o.mono ?_;rintro e w1 ⟨hb,⟨hne,rfl⟩|⟨h0,wb,v,rfl,hwb,hwk⟩⟩
 ·have HB:=aa (show Ϙ w w1 from zl);obtain⟨q,hq⟩: ∃q,eO f true=q:=⟨_,rfl⟩;exact zbD
 have HB:=aa (show Ϙ w w1 from zl);clear hb;obtain⟨hS,hpos,_⟩:=ql h0;have aaI: ∀x∈bN f [],x.length<=7:=fun x hx=>by have:=mF hx;have:=hS.oG;omega
 have hcnt:=kC hS [];obtain⟨vo,vc,rfl⟩:=hwk.truth.open;have HS:=aa hS;have Co:=aa hwk;obtain⟨dl,acd⟩: ∃dl,zD f=dl:=⟨_,rfl⟩;have HDE:=aa acd;have HDL:Hid (dl=(List.range f.aJ.toNat).map fun(i:Nat)=>vO f (bN f []) (i:Int) (bN f []).length):=aa (by rw[<-acd];rfl);clear acd;have hw3:=hS.uU;have hw0:=hS.xD;have H0:=aa h0;generalize bN f []=ls at*
 obtain⟨n,hn⟩: ∃n:Nat,f.aJ=n:=⟨f.aJ.toNat,by omega⟩;have HN:=aa hn;obtain⟨c1,f1,l1⟩:=ae hwk.cells;have I7:n<=3:=ϑ;rw[hn,Int.toNat_natCast] at HDL;clear hwk hS h0 hn;go_wp2_with fail
 rw[HN.o];have HL:=aa (af hpos (af aaI hcnt));clear hpos aaI hcnt hw3 hw0;go_loopw [6,25] (fun ov u wr=> ∃i:Nat,i<=n/\u= .int .i64 i/\(∃oo oc,ov= .slice oo i oc/\wr.ownsRow w1.heap.size 42 2 (.slice oo i oc) i (aB (dl.take i)))/\Ϙ w1 wr) (fun _ u _=>n-(intOf u).toNat)
 case atStart=>exact⟨0,bE _,rfl,⟨none,0,rfl,⟨rfl,.inl ⟨rfl,rfl⟩⟩⟩,aF _ _⟩
 case round=>
  obtain⟨i,hi,rfl,⟨oo,oc,rfl,σ⟩,hB⟩:=hrel;by_cases uM:i<n
  ·have Κ:=Co.o.below hB (ah _);obtain⟨d1,g1,m1⟩:=ae Κ.cells;obtain⟨b,off,y0,y1,y2,y3,y4,y5,y6,hvv,hb,Ε,r0,r1,r2,r3,r4,r5,r6⟩:=Mm Κ.truth HL.o.2.1 HL.o.1;subst hvv;have hD:=Ha f (.slice o f.aj.length c) _ y0 y1 y2 y3 y4 y5 y6 Ε (i:Int) HS.o;have hr0:vO f ls (i:Int) 0=(kL f (ls[0]'HL.o.1) i,kL f (ls[0]'HL.o.1) i):=by
    unfold vO;rw[show ls.getD 0 []=ls[0]'HL.o.1 from by simp[List.getD,HL.o.1]]
    rfl
   have hdb:=zF HS.o (ls[0]'HL.o.1) (i:Int);generalize kL f (ls[0]'HL.o.1) (i:Int)=d at*
   have HD:=aa hD;have HR0:=aa hr0;have XU:=aa hB;have HOW:=aa σ;clear Ε hD hr0 hB σ;simp only[Nat.zero_mul,Nat.add_zero] at r0 r1 r2 r3 r4 r5 r6;have aeT:0<ls.length:=HL.o.1;have aoE:ls.length<=2500:=HL.o.2.2;go_upto_region 8 with(fail)
   refine zg 12 [] none [(11,Spec.val (iv d))] ?_;simp only[zt];repeat ((first|refine zn ?_|refine zk ?_);simp only[zp])
   refine zw 68 (h:=fun W hE hF=>by exact HD.o W) (t:=?_);simp only[zp];intro W hE hF;obtain⟨hc,hf⟩:=bH hE.below;have ig:=hE.size;(try simp only[bA] at ig)
   have MP:=aa (show Ϙ w1 W from aV XU.o hE.below);have hoW:=az (Ms:=[]) HOW.o hE ϕ;have hwW:=Co.o.below MP.o (ah _);have adi:=aa hoW;clear hE hF hc hf r0 r1 r2 r3 r4 r5 r6 hb d1 g1 m1 hoW ig;obtain⟨d1,g1,m1⟩:=ae hwW.cells;have hsW:=MP.o.size;go_upto_region 10 with(fail)
   refine bU fun W9 Jb=>?_;have ZH:Ϙ W W9:=by rw[Jb];exact zl
   have tL:W9.heap[W.heap.size]? =some (.cells #[iv d,iv d] 42 (0,0)):=by rw[Jb];exact av _ _
   have uF:=aV MP.o ZH;have Qi:=az (Ms:=[]) adi.o (Ext.ax ZH) ϕ;have FM: ∀g,(Value.slice oo i oc).ownBlock=some g->g≠W.heap.size:=fun g hg=>by have:=(aS adi.o g hg).2;omega
   have hw9:=Co.o.below uF (ah _);clear Jb d1 g1 m1 hwW;obtain⟨d1,g1,m1⟩:=ae hw9.cells;have HG9:=aa FM;have HH9:=aa (af uF (af tL (af Qi hw9)));have hbW:w1.heap.size<=W.heap.size:=hsW;obtain⟨b9,ack⟩: ∃b9,W.heap.size=b9:=⟨_,rfl⟩;rw[ack] at HG9 HH9 hbW;rw[ack];clear FM uF tL Qi hw9 ZH hsW MP adi ack;go_wp2_with fail
   go_loopw [48] (fun u wq=> ∃k:Nat,k<=ls.length/\u= .int .i64 k/\wq.heap[b9]? =some (.cells #[iv (vO f ls i k).1,iv (vO f ls i k).2] 42 (0,0))/\wq.ownsRow w1.heap.size 42 2 (.slice oo i oc) i (aB (dl.take i))/\Ϙ w1 wq) (fun u _=>ls.length-(intOf u).toNat)
   case atStart=>exact⟨0,bE _,rfl,by rw[HR0.o];exact HH9.o.2.1,HH9.o.2.2.1,HH9.o.1⟩
   case round=>
    obtain⟨k,hk,rfl,Q7,σ,hB⟩:=hrel;by_cases Ξ:k<ls.length
    ·have Κ:=Co.o.below hB (ah _);obtain⟨q1,q2,q3⟩:=ae Κ.cells;obtain⟨e1,e2,e3⟩:=ae Q7;obtain⟨b',off',z0,z1,z2,z3,z4,z5,z6,hvv,hb',hzs,s0,s1,s2,s3,s4,s5,s6⟩:=Mm Κ.truth HL.o.2.1 Ξ;cases hvv;have hD2:=Ha f (.slice o f.aj.length c) _ z0 z1 z2 z3 z4 z5 z6 hzs (i:Int) HS.o;have hsu:=Gn (f:=f) (i:=(i:Int)) Ξ;have ajF:=zF HS.o ls[k] (i:Int);have hrb:=Iz HS.o ls (i:Int) k hk;generalize kL f ls[k] (i:Int)=d2 at*
     generalize hrk:vO f ls (i:Int) k=r at*
     have HD2:=aa hD2;have uZ:=aa hsu;have HQ:=aa (af Q7 (af σ hB));clear hzs hD2 hsu Q7 σ hB Κ d1 g1 m1;have afd:(k:Int)<ls.length:=ϑ;go_upto_region 13 with(fail)
     refine bU fun W5 qM=>?_;have vB:Ϙ wr W5:=by rw[qM];exact zl
     have hk5:W5.heap[wr.heap.size]? =some (.cells #[iv z0,iv z1,iv z2,iv z3,iv z4,iv z5,iv z6] 157 (0,0)):=by rw[qM];exact av _ _
     have hc5:=(vB.block _ e3).trans HQ.o.1;have hw5:=Co.o.below (aV HQ.o.2.2 vB) (ah _);have HBB:=aa (af (aV HQ.o.2.2 vB) (af (az (Ms:=[]) HQ.o.2.1 (Ext.ax vB) ϕ) hc5));clear qM vB q1 q2 q3 e1 e2 s0 s1 s2 s3 s4 s5 s6 hb';obtain⟨q1,q2,q3⟩:=ae hw5.cells;obtain⟨e1,e2,e4⟩:=ae hc5;obtain⟨p1,p2,p3⟩:=ae hk5;clear hw5 hc5 hk5;refine zg 9 [] none [(7,Spec.val (iv d2)),(8,Spec.val (rv (wid r d2)))] ?_;simp only[zt];repeat ((first|refine zn ?_|refine zk ?_);simp only[zp])
     refine zw 68 (h:=fun W hE hF=>by exact HD2.o W) (t:=?_);simp only[zp];refine zw 69 (h:=fun W hE hF=>by exact MS r d2 W) (t:=?_);simp only[zp];intro W hE hF;obtain⟨hc,hf⟩:=bH hE.below;have ig:=hE.size;(try simp only[bA] at ig)
     have HE:=aa hE;clear hF ig;go_wp2_with fail
     go_roundw
     case rel=>
      refine⟨k+1,by omega,by go_num,?_,?_,?_⟩
      ·rw[uZ.o];exact aA (aA ((HE.o.block _ e4 ϕ).trans HBB.o.2.2) _) _
      ·have h1:=az (Ms:=[]) HBB.o.2.1 HE.o ϕ;have h2:=bT (w':=W.setCell ⟨b9,0,none⟩ (iv (wid r d2).1)) h1 fun g hg=>bV _ _ _ _ (HG9.o g hg);exact bT h2 fun g hg=>bV _ _ _ _ (HG9.o g hg)
      ·exact dP (dP (aV HBB.o.1 HE.o.below) hbW _) hbW _
     case measure=>simp[intOf];omega
    ·have Y9:k=ls.length:=ϑ;subst Y9;have hdl:dl.take (i+1)=dl.take i++[vO f ls i ls.length]:=by
      rw[pE];congr 1;rw[HDL.o];simp[uM]
     have ak6:=aa hdl;have hrb:=Iz HS.o ls (i:Int) _ (ah _);generalize vO f ls (i:Int) ls.length=r at*
     obtain⟨e1,e2,e3⟩:=ae Q7;have HQ:=aa (af σ hB);clear Q7 σ hB hdl d1 g1 m1;go_upto_region 15 with(fail)
     go_wp2_with (at_builtin;refine ek rfl _ _ Yr rfl w1.heap.size (.slice oo i oc) i (aB (dl.take i)) rfl ?_ (.slice (some ⟨wr.heap.size,0,none⟩) 1 1) 1 [iv r.1,iv r.2] rfl ?_ (by simp[Value.oneCell']) ϑ ϑ (by have:=HQ.o.2.size;simp;omega) ?_)
     ·exact az (Ms:=[]) HQ.o.1 (Ext.ax ((aF _ _).alloc (ah _) _)) ϕ
     ·exact aH.bI 2 1 (av _ _) rfl ϖ
     ·intro v' W7 Gm Y7;obtain⟨o7,c7,rfl⟩:=aM Gm;have HO7:=aa Gm;have HG7:=aa Y7;clear Gm Y7;go_wp2_with fail
      go_roundw
      case rel=>
       refine⟨i+1,by omega,by go_num,⟨o7,c7,rfl,?_⟩,?_⟩
       ·rw[ak6.o,jJ];exact HO7.o
       ·refine Below.grown (ai HQ.o.2 _) HG7.o (by have:=HQ.o.2.size;simp;omega) (fun k e=>(aS HQ.o.1 k e).1)
      case measure=>simp[intOf];omega
  ·have hin:i=n:=ϑ;subst hin;have HOW:=aa (af σ hB);clear σ hB;go_wp2_with fail
   go_returns;refine⟨aV HB.o HOW.o.2,.inr ⟨H0.o,_,by simp;rfl,?_⟩⟩;have h1:=aH.bY HOW.o.1;have hdl:dl.length=i:=by rw[HDL.o];simp
   rw[ji ϑ] at h1;rw[HDE.o];show aH 2 _ _ dl.length (aB dl);rw[hdl];exact h1
end Go.Proofs.Z
namespace Go.Proofs.Z
open Go.RowKit Go.RG Go.SL Go.Shelf gK Go.TB
def aeb (B n:Nat) (xs:List Int) (x:Int):rH:=fun i _ v W=>
 match i with
 |2=>W.ownsRow B 3 1 v n (ag xs)
 |4=> ∃b:Nat,v= .slice (some ⟨b,0,none⟩) 1 1/\W.heap[b]? =some (.cells #[iv x] 3 (0,0))
 |_=>True
structure XV (Ms:List Nat) (eB:World->Prop):Prop where
 kept: ∀a b:World,eB a->(∀m∈Ms,b.heap[m]? =a.heap[m]?)->eB b
 none: ∀W:World,eB W-> ∀m∈Ms, ∀o,W.cell? ⟨m,o,.none⟩= .none
end Go.Proofs.Z
namespace Go.Proofs.Z
open Go.RowKit Go.RG Go.SL Go.Shelf gK Go.TB
def yM (f:bL) (n:Int):Bool:=n== -1 ||lV n 0 (f.aJ-1)
def mG (f:bL) (l:List Int):Bool:=decide (iZ f=0)&&(decide ((l.length:Int)=f.rows)&&(l.all (yM f)&&il f [] l))
theorem Kl (f:bL) (tv:Value) (n:Int) (bf:Nat) (w:World) (hf:w.heap[bf]? =some (.cells (sj f tv) 45 (0,0))) (h0: -1000<=f.aJ) (h1:f.aJ<=1000):
 Ϝ 309 #[iv n,.pointer (some ⟨bf,0,none⟩)] w (PV (.bool (yM f n)) w):=by
 have HW:=aa (zi f tv n w h0 h1);obtain⟨c1,f1,l1⟩:=ae hf;clear hf;by_cases hn:n= -1
 ·subst hn;go_enter Tryz.func309,Tryz.ntmps309;go_wp2;go_returns;exact⟨by simp[yM],aF _ _⟩
 ·have hnb:(n== -1)=false:=by simpa using hn
  go_enter Tryz.func309,Tryz.ntmps309;go_wp2_with fail
  refine HW.o.mono ?_;rintro e w' ⟨rfl,hb⟩;go_wp2_with fail
  go_returns;exact⟨by simp[yM,hnb],hb⟩
theorem Tc (ty:TypeId) {W:World} {g:Nat} {so:Option Addr} {c:Nat} {l:List Int} (hs:aL W (.slice so l.length c) l) (h1:1<=l.length) (h7:l.length<=7) (hg:W.heap[g]? =some (.cells #[iv 0,iv 0,iv 0,iv 0,iv 0,iv 0,iv 0] 157 (0,0))):
 ∃W',(Builtin.copy_ #[52,52] ty #[.slice (some ⟨g,0,none⟩) 7 7,.slice so l.length c]).run Tryz.prog W= .ok (iv l.length) W'/\W'.heap[g]? =some (.cells (ag (oV l)).toArray 157 (0,0))/\Ext [g] W W':=by
 obtain⟨so',c',hv,hl,hn,hc⟩:=hs.kW;cases hv;cases so with
 |none=>have:=(hn rfl).2;omega
 |some a=>
  have hil:(ag l).length=l.length:=by simp[ag]
  have h:=run_copy_row (P:=Tryz.prog) W 52 52 ty 3 g 0 7 7 a l.length c _ 157 (ag l) ϰ ϰ hg (by rw[hil];exact(Nat.min_eq_left h7).symm) (hc a rfl) (by rw[hil];simpa using h7) (ic l)
  rw[hil] at h;refine⟨_,h,?_,⟨rfl,rfl,rfl,by simp,fun k _ hm=>setRow_other _ _ _ _ (by simpa using hm)⟩⟩;rw[setRow_heap W g _ _ _ _ hg];congr 3;have e:(#[iv 0,iv 0,iv 0,iv 0,iv 0,iv 0,iv 0]:Array Value).toList=List.replicate 7 (iv 0):=rfl;rw[e,List.drop_replicate,List.take_zero,List.nil_append,Nat.zero_add];unfold oV ag;rw[List.map_append,List.map_replicate]
theorem BP (f:bL) (tv rvv:Value) (l:List Int) (w:World) (ht:cz w tv f.aj) (hr:aL w rvv l):
 Ϝ 271 #[fv f tv,rvv] w (PV (.bool (mG f l)) w):=by
 obtain⟨o,c,rfl⟩:=ht.open;obtain⟨ro,rc,rfl⟩:=hr.open;have hrl:=hr.len;have HC:=aa (yB f (.slice o f.aj.length c));have HT:=aa ht;have HR:=aa hr;clear ht hr;obtain⟨q,hq⟩: ∃q,iZ f=q:=⟨_,rfl⟩;rw[hq] at HC;obtain⟨r,hrr⟩: ∃r,mG f l=r:=⟨_,rfl⟩;rw[hrr];have HRR:=aa hrr;clear hrr;by_cases hq0:q=0
 case neg=>
  have D5:(q !=0)=true:=by simpa using hq0
  have hF:r=false:=by rw[<-HRR.o];unfold mG;rw[hq,decide_eq_false hq0];rfl
  have HF:=aa hF;clear hF hq hq0;go_enter Tryz.func271,Tryz.ntmps271;go_wp2_with fail
  refine(HC.o _ (HT.o.alloc _)).mono ?_;rintro e w' ⟨rfl,hb⟩;go_wp2_with fail
  go_returns;exact⟨by rw[HF.o];simp,zl⟩
 subst hq0;have hS:=gu hq;have hr0:=hS.xG;have Qh:=hS.oG;have HS:=aa hS;have hF:r=(decide ((l.length:Int)=f.rows)&&(l.all (yM f)&&il f [] l)):=by rw[<-HRR.o];unfold mG;rw[hq];rfl
 clear hq hS;by_cases IY:(l.length:Int)=f.rows
 case neg=>
  have D5:((l.length:Int) !=f.rows)=true:=by simpa using IY
  have hF:r=false:=by rw[hF,decide_eq_false IY];rfl
  have HF:=aa hF;clear hF IY;go_enter Tryz.func271,Tryz.ntmps271;go_wp2_with fail
  refine(HC.o _ (HT.o.alloc _)).mono ?_;rintro e w' ⟨rfl,hb⟩;obtain⟨hc,hf⟩:=bH hb;have hz0:w.heap.size<w'.heap.size:=(by have:=hb.size;(try simp only[bA] at this);omega)
  go_wp2_with fail
  go_returns;exact⟨by rw[HF.o];simp,zl⟩
 have D5:((l.length:Int) !=f.rows)=false:=by simpa using IY
 have hl1:1<=l.length:=ϑ;have hl7:l.length<=7:=ϑ;rw[decide_eq_true IY,Bool.true_and] at hF;have HLEN:=aa IY;have hw0:=HS.o.xD;have hw1:=HS.o.uU;obtain⟨q,hq⟩: ∃q,l.all (yM f)=q:=⟨_,rfl⟩;rw[hq] at hF;have HF:=aa hF;have adB:=aa (fun(w':World) (hB:Ϙ w w') (hk:w'.heap[w.heap.size]? =some (.cells (sj f (.slice o f.aj.length c)) 45 (0,0)))=>
  hq▸MZ l (.slice ro l.length rc) 309 #[] #[.pointer (some ⟨w.heap.size,0,none⟩)] (yM f) w' (HR.o.below hB (ah _)) (enters_of Tryz.func309 ϰ rfl)
   (fun x _ W hW=>Kl f (.slice o f.aj.length c) x w.heap.size W ((hW.block _ (aN.1 hk).1).trans hk) ϑ ϑ))
 clear hF IY hq;go_enter Tryz.func271,Tryz.ntmps271;go_wp2_with fail
 refine(HC.o _ (HT.o.alloc _)).mono ?_;rintro e w' ⟨rfl,hb⟩;obtain⟨hc,hf⟩:=bH hb;have hz0:w.heap.size<w'.heap.size:=(by have:=hb.size;(try simp only[bA] at this);omega)
 have Ig:=aa (show Ϙ w w' from zl);have HK:=aa ((hb.block _ ϕ).trans (av w (.cells (sj f (.slice o f.aj.length c)) 45)));clear hb;go_wp2_with fail
 refine(adB.o w' Ig.o HK.o).mono ?_;rintro e w2 ⟨rfl,hb⟩;have HB:=aa (aV Ig.o hb);have hk2:=(hb.block _ hz0).trans HK.o;clear hb hc hf hz0;cases q
 ·have hF:r=false:=by rw[HF.o];rfl
  have HE:=aa hF;clear hF;exact zbb
 have hF:r=il f [] l:=by rw[HF.o];rfl
 have HE:=aa hF;clear hF;go_upto_region 4 with(fail)
 refine bU fun W3 φ=>?_;have hB3:Ϙ w2 W3:=by rw[φ];exact zl
 have hk3:W3.heap[w2.heap.size]? =some (.cells #[iv 0,iv 0,iv 0,iv 0,iv 0,iv 0,iv 0] 157 (0,0)):=by rw[φ];exact av _ _
 obtain⟨W4,hcp,hk4,FQ⟩:=Tc 3 (HR.o.below (aV HB.o hB3) (ah _)) hl1 hl7 hk3;clear φ;have hs3:=hB3.size;have hw2:w.heap.size<w2.heap.size:=(aN.1 hk2).1;have hB4:Ϙ w W4:=dM (aV HB.o hB3) FQ ϑ;have afQ:=(FQ.block w.heap.size ϑ ϗ).trans ((hB3.block _ hw2).trans hk2);obtain⟨y0,y1,y2,y3,y4,y5,y6,Ε⟩:=qB (sW hl7);have hright:=wT f HS.o o c (oV l) (sW hl7) (.slice none 0 0) [] W4 (HT.o.below hB4 (ah _)) (oJ W4);rw[Gq, <-HE.o,Ε] at hright;have Qg:Ϝ 197 #[fv f (.slice o f.aj.length c),.agg #[iv y0,iv y1,iv y2,iv y3,iv y4,iv y5,iv y6],.slice none 0 0] W4 (PV (.bool r) W4):=hright;rw[Ε] at hk4;have aft:W4.heap[w2.heap.size]? =some (.cells #[iv y0,iv y1,iv y2,iv y3,iv y4,iv y5,iv y6] 157 (0,0)):=hk4;obtain⟨c1,f1,l1⟩:=ae afQ;obtain⟨c2,f2,l2⟩:=ae aft;have HX:=aa (af hB4 Qg);clear hB4 hright Qg hk4 aft afQ Ε FQ hB3 hk3;go_wp2_with fail
 refine HX.o.2.mono ?_;rintro e w5 ⟨rfl,hb⟩;go_wp2_with fail
 go_returns;exact⟨by simp,aV HX.o.1 hb⟩
end Go.Proofs.Z
end

/-
  Texts of this claim, packed by a program: HD FG HF HX HN HE HO HQ HT HY.
-/
import Derived.WalkKit
import Derived.WalkLawsBesides
import Derived.WalkSpells
import Derived.Outline
import Derived.Handy
import Derived.KernelRfl
import Derived.Lib.Hide
import Derived.Laws.CopyRow
import Derived.Lib.SlBytesConst
import Derived.Test.YthllkbbbapgelaaGreatDoorPN15
set_option maxHeartbeats 8000000
set_option maxRecDepth 100000
set_option linter.all false
theorem _root_.zcO {P:Prop} (h:P:=by
 exact(heap_setCell_other _ ⟨B+1,0,none⟩ b _ h2).trans (heap_setCell_other _ ⟨B,0,none⟩ b _ h1)):P:=h
theorem _root_.zcJ {P:Prop} (h:P:=by
 clear uX Ol;go_wp2_with fail
 go_roundw
 case rel=>
  refine⟨k+1,by omega,by go_num,o7,c7,?_⟩;exact zaT
 case measure=>simp[intOf];omega):P:=h
theorem _root_.zaT {P:Prop} (h:P:=by
 rw[yG.o];exact⟨HP.o.2.2.2.1,HP.o.2.2.1,HP.o.1,HP.o.2.1,fun c hc hne=>(HP.o.2.2.2.2 c hc hne).trans (HK.o.2.2.2.2 c hc hne)⟩):P:=h
section
namespace Go.Proofs.Z.Bk
open Go.Lib Go.RowKit Go.RG Go.SL Go.Shelf gK Go.TB Go.Proofs.Z.xC
attribute [local go_sem] Oper.semAt_some
structure TK (B:Nat) (o:Option Addr) (c:Nat) (b:ay) (k:Nat) (Ms:List Nat) (W:World):Prop where
 lines: ∃v,W.heap[B]? =some (.cells #[v] 22 (0,0))/\W.ownsRow (B+5) 9 1 v k (bz ((dE 40 0 b).take k))/\ ∀g,v.ownBlock=some g->g∉Ms/\g<W.heap.size
 bytes:W.heap[B+1]? =some (.cells #[.int .i64 (iB ((dE 40 0 b).take k):Nat)] 3 (0,0))
 box:W.heap[B+2]? =some (.cells #[.slice o b.length c] 25 (0,0))
theorem TK.kept {B:Nat} {o:Option Addr} {c:Nat} {b:ay} {k:Nat} {Ms jc:List Nat} {W W':World} (h:TK B o c b k Ms W) (hs:W.heap.size<=W'.heap.size) (hk: ∀j,B<=j->j<B+3->W'.heap[j]? =W.heap[j]?)
 (ho: ∀g,B+5<=g->g<W.heap.size->g∉Ms->W'.heap[g]? =W.heap[g]?) (hM: ∀m∈jc,m∈Ms∨(W.heap.size<=m/\m<W'.heap.size)):TK B o c b k jc W':=by
 obtain⟨v,h1,h2,h3⟩:=h.lines;refine⟨⟨v,(hk _ ϑ ϑ).trans h1,_root_.Go.Proofs.Z.bT h2 fun g hg=>ho g (aS h2 g hg).1 (aS h2 g hg).2 (h3 g hg).1,fun g hg=>⟨fun hm=>?_,by have:=(h3 g hg).2;omega⟩⟩,
  (hk _ ϑ ϑ).trans h.bytes,(hk _ ϑ ϑ).trans h.box⟩
 exact zbo
def Mt (b:ay) (w:World) (e:Ending) (W:World):Prop:=
 Ϙ w W/\ ∃v,e= .returned (.tuple #[v,.int .i64 (iB (dE 40 0 b):Nat)])/\W.ownsRow w.heap.size 9 1 v (dE 40 0 b).length (bz (dE 40 0 b))
theorem BN (x:ay) (v:Value) (w:World) (hv:aH 1 w v x.length (Lib.byteCells x)) (ζ:x.length<=1000000000):Ϝ 12 #[v] w (Mt x w):=by
 obtain⟨o,c,rfl⟩:=aH.open hv;have HV:=aa (fun W (ζ:Ϙ w W)=>hv.below ζ (ah _));clear hv;refine(callsIn_wide (n:=0)).1 ?_;refine callsIn_of_wp_marks Tryz.func12 rfl trivial ?_;simp only[Tryz.ntmps12,List.size_toArray,List.length_cons,List.length_nil,Nat.reduceAdd,Nat.reduceSub,Array.replicate_succ,Array.replicate_zero,jy,jA,List.nil_append,List.cons_append]
 gi_wp2_with fail
 refine(callsIn_wide.2 (Ke o x.length c _)).mono ?_;rintro e w1 ⟨rfl,rfl⟩
 gi_wp2_with fail
 obtain⟨B,kY⟩: ∃B,w.heap.size=B:=⟨_,rfl⟩;obtain⟨w3,hw3⟩: ∃w3,((w.alloc (.cells #[.slice none 0 0] 22)).alloc (.cells #[.int .i64 0] 3)).alloc (.cells #[.slice o x.length c] 25)=w3:=⟨_,rfl⟩;rw[hw3,kY];have VH:w3.heap.size=B+3:=by rw[<-hw3];simp;omega
 have gJ:Hid (Ϙ w w3):=aa (by rw[<-hw3];exact zl);have JI:Hid (TK B o c x 0 [] w3):=aa (by
  rw[<-hw3, <-kY];refine⟨⟨.slice none 0 0,?_,⟨rfl,.inl ⟨rfl,rfl⟩⟩,fun g hg=>by cases hg⟩,?_,?_⟩
  ·exact zbQ
  ·exact zbU
  ·exact fM _ _ _ _)
 clear hw3;have BC: ∀b,b∈[B,B+1,B+2,B+3,B+4]↔(B<=b/\b<B+5):=fun b=>by simp;omega
 obtain⟨Os,Ed⟩: ∃Os,[B,B+1,B+2,B+3,B+4]=Os:=⟨_,rfl⟩;rw[Ed] at BC;clear Ed;refine JN (Kc x ζ (B+2) o c) rfl (enters_of Tryz.func60 ϰ rfl) (by
  intro Ms b v W h;rw[h];rfl) ϕ
  (fun Ms k W=>Fa w Os Ms W/\TK B o c x k Ms W)
  (fun _ _ _=>False)
  ?hInv ?nk ?hI ?hIx ?FP ?qN ?h0
  (fun a Ms k W1 a₁ W=> ∃(l:ay) (s:Nat),(sQ x)[k]? =some (l,s)/\a₁={tmps:=(((a.tmps.setIfInBounds 8 (.string (dS l))).setIfInBounds 9 (.int .i64 (s:Int))).setIfInBounds 4 (.string (dS l))).setIfInBounds 5 (.int .i64 (s:Int)),defers:=[]}/\
    (Fa w Os Ms W/\TK B o c x k Ms W)/\(∀m∈Ms,m∉([]:List Nat)->m<W1.heap.size->W.heap[m]? =W1.heap[m]?)/\W1.heap.size<=W.heap.size)
  ?Jd ?hassign ?hbody ?hdone ?hstop
 case hInv=>
  rintro Ms k W ⟨hF,hP⟩;exact⟨hP.box,HV.o W hF.ext⟩
 case nk=>rintro cd Ms W h;exact h.elim
 case hI=>
  exact za3
 case hIx=>rintro cd Ms jc Wa Wb h;exact h.elim
 case FP=>
  rintro Ms k W r ob ⟨hF,hP⟩ hr;exact za5
 case qN=>rintro cd Ms W r ob h;exact h.elim
 case h0=>
  exact zcL
 case Jd=>
  rintro Ms k W1 a₁ W obj ⟨l,s,hb,ha,⟨hF,hP⟩,hk,hs⟩;have ω:=(hF.apart (B+4) ((BC _).2 ϑ)).1;refine⟨l,s,hb,ha,⟨hF.put obj ϑ,hP.kept ϕ (fun b h1 h2=>World.putObj_heap_other ϑ) (fun g h1 h2 h3=>World.putObj_heap_other ϑ) (fun m hm=> .inl hm)⟩,
   fun m hm h0 mP=>(World.putObj_heap_other (fun e=>ω (by rw[show B+4=m by omega];exact hm))).trans (hk m hm h0 mP),by simpa using hs⟩
 case hassign=>
  rintro Ms k v W hk ⟨hF,hP⟩ hv uM;have hxk:(sQ x)[k]? =some (sQ x)[k]:=dn hk;generalize (sQ x)[k]=b at*
  obtain⟨l,s⟩:=b;obtain rfl:v= #[.string (dS l),.int .i64 (s:Int)]:=hv
  gi_wp2
  exact⟨⟨l,s,hxk,rfl,⟨hF,hP⟩,fun _ _ _ _=>trivial,ah _⟩,trivial,trivial⟩
 case hbody=>
  rintro Ms k W1 a₁ W busy hk ⟨l,s,hb,rfl,⟨hF,hP⟩,Oa,τ⟩ ι hD;simp only[nC,List.set_cons_succ,List.set_cons_zero];have Y9:k<(dE 40 0 x).length:=by rw[sP] at hk;exact hk
  have aoK:=vQ 40 0 x;rw[dn hk,Gt hk,Option.some.injEq,Prod.mk.injEq] at hb;obtain⟨rfl,rfl⟩:=hb;have hls:(dE 40 0 x).take k++[(dE 40 0 x).getD k []]=(dE 40 0 x).take (k+1):=by
   rw[eG Y9,fK,dn Y9,Option.getD_some]
  obtain⟨l,hl⟩: ∃l,(dE 40 0 x).getD k []=l:=⟨_,rfl⟩;obtain⟨s,hs⟩: ∃s,iB ((dE 40 0 x).take (k+1))=s:=⟨_,rfl⟩;rw[hl] at hls⊢;rw[hs];obtain⟨v,Η,Τ,hv3⟩:=hP.lines;obtain⟨vo,vc,rfl⟩:=aM Τ;have ω: ∀b∈Os,b∉Ms/\b<W.heap.size:=hF.apart;have hin: ∀b,B<=b->b<B+5->b∈Os:=fun b h1 h2=>(BC b).2 ⟨h1,h2⟩;have hb5:B+5<=W.heap.size:=by have:=(ω (B+4) (hin _ ϑ ϑ)).2;omega
  obtain⟨c0,f0,l0⟩:=ae Η;obtain⟨c1,f1,l1⟩:=ae hP.bytes;have HOWN:=aa (az (Ms:=[]) Τ (Ext.ax (ai (aF W.heap.size W) (.cells #[.string (dS l)] 9))) ϕ);have HF:=aa hF;have HP:=aa hP;have HV3:=aa (af Η (af Τ hv3));have HK:=aa (af Oa (af ι hD));have vE:=aa (af hls hs);clear hF hP Η Τ hv3 Oa ι hD hls hs hl
  gi_wp2_with (gi_at_builtin;go_loud (refine lY (fun _=>trivial) rfl oP rfl _ _ Gd rfl (B+5) (.slice vo k vc) k (bz ((dE 40 0 x).take k)) rfl HOWN.o (.slice (some ⟨W.heap.size,0,none⟩) 1 1) 1 (bz [l]) rfl (aH.bI 1 1 (av _ _) rfl ϖ) (yL [l]) ϑ ϑ ϗ ?_))
  intro v' W5 Gm Y7 xu;obtain⟨o5,q5,rfl⟩:=aM Gm;have Ψ:W5.ownsRow (B+5) 9 1 (.slice o5 (k+1) q5) (k+1) (bz ((dE 40 0 x).take (k+1))):=by
   rw[<-vE.o.1];simpa [bz] using Gm
  have hBW:Below (B+5) W W5:=Below.grown ((aF (B+5) W).alloc hb5 _) Y7 ϗ (fun g e=>(aS HOWN.o g e).1);have hz5:=Y7.size;simp only[bA] at hz5;have hms: ∀m∈Ms,m<W.heap.size->W5.heap[m]? =W.heap[m]? :=fun m hm mP=>
   (Y7.block m ϗ (fun e=>(HV3.o.2.2 m e.symm).1 hm)).trans (aT _ _ _ (by simpa using mP))
  have hnew: ∀g,(Value.slice o5 (k+1) q5).ownBlock=some g->g∉Ms/\g<W5.heap.size:=fun g hg=>by
   refine⟨fun hm=>?_,(aS Ψ g hg).2⟩;rcases xu with h|h
   ·exact(HV3.o.2.2 g (h▸hg)).1 hm
   ·rw[hg] at h;have:=HF.o.bnd g hm;injection h with h;omega
  clear c0 f0 l0 c1 f1 l1;obtain⟨c0,f0,l0⟩:=ae ((hBW.block B ϑ).trans HV3.o.1);obtain⟨c1,f1,l1⟩:=ae ((hBW.block (B+1) ϑ).trans HP.o.bytes);have HN:=aa (af Ψ (af hBW (af hms hnew)));have acC:=hBW;clear Gm Y7 xu Ψ hBW hms hnew;have hk0:=(acC.block B ϑ).trans HV3.o.1;have hk1:=(acC.block (B+1) ϑ).trans HP.o.bytes;have HKK:=aa (af hk0 hk1);clear acC hk0 hk1
  gi_wp2_with fail
  obtain⟨W6,ug⟩: ∃W6,(W5.setCell {block:=B,off:=0} (Value.slice o5 (k+1) q5)).setCell {block:=B+1,off:=0} (.int .i64 (s:Int))=W6:=⟨_,rfl⟩;rw[ug];have ho: ∀b,b≠B->b≠B+1->W6.heap[b]? =W5.heap[b]? :=fun b h1 h2=>by
   rw[<-ug];exact zcO
  have Le:Below B W W6:=by
   rw[<-ug];exact(((HN.o.2.1.mono (Nat.le_add_right B 5)).setCell (p:=⟨B,0,none⟩) (ah B) _).setCell (p:=⟨B+1,0,none⟩) ϕ _)
  have hz6:W6.heap.size=W5.heap.size:=by rw[<-ug];simp
  have h0':W6.heap[B]? =some (.cells #[.slice o5 (k+1) q5] 22 (0,0)):=by
   rw[<-ug];exact(heap_setCell_other _ ⟨B+1,0,none⟩ B _ ϕ).trans (heap_setCell_same W5 B 0 _ _ _ HKK.o.1)
  have h1':W6.heap[B+1]? =some (.cells #[.int .i64 (s:Int)] 3 (0,0)):=by
   rw[<-ug];exact heap_setCell_same _ (B+1) 0 _ _ _ ((heap_setCell_other _ ⟨B,0,none⟩ (B+1) _ ϕ).trans HKK.o.2)
  have hzB:=HN.o.2.1.size;refine⟨⟨?_,?_,fun m hm h0 mP=>?_,by omega⟩,HF.o.own (HF.o.ext.trans (by rw[kY];exact Le)) ϑ,⟨⟨_,h0',?_,fun g hg=>⟨(HN.o.2.2.2 g hg).1,by have:=(HN.o.2.2.2 g hg).2;omega⟩⟩,?_,?_⟩⟩
  ·rw[VH];exact(ho _ ϑ ϑ).trans ((HN.o.2.1.block _ ϑ).trans (VH▸HK.o.2.1))
  ·rw[VH];exact(ho _ ϑ ϑ).trans ((HN.o.2.1.block _ ϑ).trans (VH▸HK.o.2.2))
  ·have n1:m≠B:=fun e=>(ω B (hin _ ϑ ϑ)).1 (e▸hm);have n2:m≠B+1:=fun e=>(ω (B+1) (hin _ ϑ ϑ)).1 (e▸hm);exact(ho m n1 n2).trans ((HN.o.2.2.1 m hm (HF.o.bnd m hm)).trans (HK.o.1 m hm h0 mP))
  ·exact _root_.Go.Proofs.Z.bT HN.o.1 fun g hg=>by
    have:=(aS HN.o.1 g hg).1;exact ho g ϑ ϑ
  ·rw[h1',vE.o.2]
  ·exact(ho _ ϑ ϑ).trans ((HN.o.2.1.block _ ϑ).trans HP.o.box)
 case hdone=>
  rintro Ms W ⟨hF,hP⟩ hD uM;rw[sP] at hP;obtain⟨v,Η,Τ,hv3⟩:=hP.lines;rw[List.take_length] at Τ;have δ:=hP.bytes;rw[List.take_length] at δ;obtain⟨vo,vc,rfl⟩:=aM Τ;obtain⟨c0,f0,l0⟩:=ae Η;obtain⟨c1,f1,l1⟩:=ae δ;have HX:=aa (af hF (af Η (af δ Τ)));have PK:=aa hD;clear hF hP Η δ Τ hv3
  gi_wp2_with fail
  gi_region
  obtain⟨W7,vz⟩: ∃W7,((W.setCell {block:=B,off:=0} (Value.slice vo (dE 40 0 x).length vc)).setCell {block:=B+1,off:=0} (.int .i64 (iB (dE 40 0 x):Nat))).drew=W7:=⟨_,rfl⟩;rw[vz];have ho: ∀b,b≠B->b≠B+1->W7.heap[b]? =W.heap[b]? :=fun b h1 h2=>by
   rw[<-vz];exact zcO
  have JH:Below B W W7:=by
   rw[<-vz];exact Below.drew (((aF B W).setCell (p:=⟨B,0,none⟩) (ah B) _).setCell (p:=⟨B+1,0,none⟩) ϕ _)
  have hz7:W7.heap.size=W.heap.size:=by rw[<-vz];simp
  have h0':W7.heap[B]? =some (.cells #[.slice vo (dE 40 0 x).length vc] 22 (0,0)):=by
   rw[<-vz];exact(heap_setCell_other _ ⟨B+1,0,none⟩ B _ ϕ).trans (heap_setCell_same W B 0 _ _ _ HX.o.2.1)
  have h1':W7.heap[B+1]? =some (.cells #[.int .i64 (iB (dE 40 0 x):Nat)] 3 (0,0)):=by
   rw[<-vz];exact heap_setCell_same _ (B+1) 0 _ _ _ ((heap_setCell_other _ ⟨B,0,none⟩ (B+1) _ ϕ).trans HX.o.2.2.1)
  have hD7:W7.heap[w3.heap.size]? =some (.deferred (some [])):=(ho _ ϑ ϑ).trans PK.o;have uX:W7.ownsRow (B+5) 9 1 (.slice vo (dE 40 0 x).length vc) (dE 40 0 x).length (bz (dE 40 0 x)):=_root_.Go.Proofs.Z.bT HX.o.2.2.2 fun g hg=>by
   have:=(aS HX.o.2.2.2 g hg).1;exact ho g ϑ ϑ
  have oL:Ϙ w W7:=HX.o.1.ext.trans (by rw[kY];exact JH);have HY:=aa (af uX (af oL hz7));clear c0 f0 l0 c1 f1 l1;have e0:=(World.putObj_heap_other (w:=W7) (o:= .deferred none) (show B≠w3.heap.size by omega)).trans h0';have e1:=(World.putObj_heap_other (w:=W7) (o:= .deferred none) (show B+1≠w3.heap.size by omega)).trans h1';obtain⟨c0,f0,l0⟩:=ae e0;obtain⟨c1,f1,l1⟩:=ae e1;clear vz ho JH h0' h1' uX oL e0 e1
  gi_wp2_with fail
  refine⟨by simp,.inl ⟨_,_,rfl,run_takeDeferred hD7,?_⟩⟩;refine⟨.tuple #[.slice vo (dE 40 0 x).length vc,.int .i64 (iB (dE 40 0 x):Nat)],by simp[results,Tryz.results12,go_sem,c0,c1],?_,_,rfl,?_⟩
  ·have Yb:Fa w [] [] W7:=⟨HY.o.2.1,by simp,by simp,by simp⟩;exact(Yb.put (Obj.deferred none) (r:=w3.heap.size) ϑ).ext
  ·exact bK (_root_.Go.Proofs.Z.bT HY.o.1 fun g hg=>World.putObj_heap_other (by have:=(aS HY.o.1 g hg).1;omega)) ϑ
 case hstop=>rintro cd Ms W h;exact h.elim
theorem L9 (c:bF) (hv kP tv hu ksu tu:Value) (es ds:List KE) (w:World) (hc:lh w hv kP tv es c) (hd:lh w hu ksu tu ds c):
 Ϝ 50 #[kv hv kP tv,kv hu ksu tu] w (PV (.bool true) w):=by
 obtain⟨ho,hcap,rfl⟩:=aH.open hc.heaps;obtain⟨uo,anD,rfl⟩:=aH.open hd.heaps;obtain⟨ko,an0,rfl⟩:=aH.open hc.aQ.1;obtain⟨lo,anW,rfl⟩:=aH.open hd.aQ.1;obtain⟨tO,anE,rfl⟩:=aH.open hc.aI;obtain⟨so,anG,rfl⟩:=aH.open hd.aI;have hlh:=hc.heaps.len;have Ξ:=hc.aQ.1.len;have hlt':=hc.aI.len;have hed:ds.length=es.length:=by rw[hd.len,hc.len]
 rw[hed];have HED:=aa hed;have HC:=aa (af hc hd);clear hc hd hed;go_enter Tryz.func50,Tryz.ntmps50;go_upto_region 1 with(fail)
 refine bU fun W1 ν=>?_;obtain⟨δ,k1,k2,hz1⟩:=nL ν;obtain⟨c1,f1,l1⟩:=ae k1;obtain⟨c2,f2',l2⟩:=ae k2;have R9:=aa δ;have HK:=aa (af k1 k2);clear δ ν k1 k2;go_wp2_with fail
 go_loopw [5] (fun i wr=> ∃k:Nat,k<=(c.heaps).length/\i= .int .i64 k/\Ϙ W1 wr) (fun i _=>(c.heaps).length-(intOf i).toNat)
 case atStart=>exact⟨0,bE _,rfl,aF _ _⟩
 case round=>
  obtain⟨k,hk,rfl,hB⟩:=hrel;obtain⟨c7,f7,l7⟩:=ae ((hB.block _ l1).trans HK.o.1);obtain⟨c8,f8,l8⟩:=ae ((hB.block _ l2).trans HK.o.2);by_cases uM:k<(c.heaps).length
  ·obtain⟨g1,o1,e1,r1,x1,x2⟩:=bD.cell (HC.o.1.heaps.below (aV R9.o hB) (ah _)) uM;obtain⟨g2,o2,e2,r2,y1,y2⟩:=bD.cell (HC.o.2.heaps.below (aV R9.o hB) (ah _)) uM;generalize (c.heaps)[k]=x at*
   have HX:=aa hB;have oK:(k:Int)<(c.heaps).length:=ϑ;cases e1;cases e2;clear hB;exact zas
  ·have k9:=(hB.block _ l1).trans HK.o.1;have k10:=(hB.block _ l2).trans HK.o.2;have ζ:=aa (aV R9.o hB);generalize wr=W3 at*
   have Bc:=aa (af k9 k10);clear hB k9 k10;go_wp2_with fail
   go_loopw [6] (fun i wr=> ∃k:Nat,k<=es.length/\i= .int .i64 k/\Ϙ W3 wr) (fun i _=>es.length-(intOf i).toNat)
   case atStart=>exact⟨0,bE _,rfl,aF _ _⟩
   case round=>
    obtain⟨k,hk,rfl,hB⟩:=hrel;obtain⟨c9,f9,l9⟩:=ae ((hB.block _ l7).trans Bc.o.1);obtain⟨c10,f10,l10⟩:=ae ((hB.block _ l8).trans Bc.o.2);by_cases uM:k<es.length
    ·have hcw:=HC.o.1.aQ.below (aV ζ.o hB) (ah _);have hdw:=HC.o.2.aQ.below (aV ζ.o hB) (ah _);have ab0:k<ds.length:=by rw[HED.o];exact uM
     obtain⟨g1,o1,e1,r1,x1⟩:=sF.cell hcw uM;obtain⟨g2,o2,e2,r2,y1⟩:=sF.cell hdw ab0;have i1:=hcw.2 _ (bZ uM);have i2:=hdw.2 _ (bZ ab0);have e3:ds[k].2=es[k].2:=by rw[HC.o.1.mem uM,HC.o.2.mem ab0]
     rw[e3] at i2;clear hcw hdw e3;generalize es[k]=x at*
     generalize ds[k].1=y at*
     obtain⟨xv,xl⟩:=x;simp only at i1 i2 x1;obtain⟨xo,xc,rfl⟩:=aH.open i1;obtain⟨yo,yc,rfl⟩:=aH.open i2;have HX:=aa hB;have HI:=aa (fun W (hb:Ϙ wr W)=>yg xl _ _ W (i1.below hb (ah _)) (i2.below hb (ah _)));have oK:(k:Int)<es.length:=ϑ;cases e1;cases e2;clear hB i1 i2;go_upto_region 11 with(fail)
     refine zg 12 [] none [(10,Spec.val (.bool true))] ?_;simp only[zt];repeat ((first|refine zn ?_|refine zk ?_);simp only[zp])
     refine zw 30 (h:=fun W hE hF=>by
      have Iq:Ext [] wr W:=hE;exact HI.o W Iq.below) (t:=?_)
     simp only[zp];repeat ((first|refine zn ?_|refine zk ?_);simp only[zp])
     intro W4 hE hF;have Ω:Ϙ wr W4:=Ext.below (show Ext [] wr W4 from hE);have gJ:=aa (aV HX.o Ω);clear hE hF Ω;go_wp2_with fail
     go_roundw;all_goals first
      |exact⟨k+1,by omega,by go_num,gJ.o⟩
      |(simp[intOf];omega)
    ·have k11:=(hB.block _ l7).trans Bc.o.1;have k12:=(hB.block _ l8).trans Bc.o.2;have lM:=aa (aV ζ.o hB);have Y9:k=es.length:=ϑ;generalize wr=W5 at*
     have MC:=aa (af k11 k12);clear hB k11 k12;go_wp2_with fail
     go_loopw [7] (fun i wr=> ∃k:Nat,k<=(c.aI).length/\i= .int .i64 k/\Ϙ W5 wr) (fun i _=>(c.aI).length-(intOf i).toNat)
     case atStart=>exact⟨0,bE _,rfl,aF _ _⟩
     case round=>
      obtain⟨k,hk,rfl,hB⟩:=hrel;obtain⟨c7,f7,l7⟩:=ae ((hB.block _ l9).trans MC.o.1);obtain⟨c8,f8,l8⟩:=ae ((hB.block _ l10).trans MC.o.2);by_cases uM:k<(c.aI).length
      ·obtain⟨g1,o1,e1,r1,x1,x2,x3,x4⟩:=pF.cell (HC.o.1.aI.below (aV lM.o hB) (ah _)) uM;obtain⟨g2,o2,e2,r2,y1,y2,y3,y4⟩:=pF.cell (HC.o.2.aI.below (aV lM.o hB) (ah _)) uM;generalize (c.aI)[k]=x at*
       have HX:=aa hB;have oK:(k:Int)<(c.aI).length:=ϑ;cases e1;cases e2;clear hB;exact zas
      ·skip
       have HR:=aa (aV lM.o hB);have Y9:k=(c.aI).length:=ϑ;clear hB;exact za7
theorem Nj (s:iE) (V U:SV) (es ds:List KE) (w:World) (hS:jT w s V es) (hT:jT w s U ds):
 Ϝ 23 #[.agg (bG s V),.agg (bG s U)] w (PV (.bool true) w):=by
 obtain⟨vt,vn,vw,vu,vr,vh,vk,vs⟩:=V;obtain⟨ut,un,uw,uu,ur,uh,uk,us⟩:=U;have HS:=aa (fun W (hb:Ϙ w W)=>af (hS.below hb (ah _)) (hT.below hb (ah _)));clear hS hT;go_enter Tryz.func23,Tryz.ntmps23;go_upto_region 1 with(fail)
 refine bU fun W1 ν=>?_;obtain⟨δ,k1,k2,hz1⟩:=nL ν;have l1:w.heap.size<W1.heap.size:=ϑ;have l2:w.heap.size+1<W1.heap.size:=ϑ;have R9:=aa δ;have HK:=aa (af k1 k2);clear δ ν k1 k2 hz1;refine wp_region_lit ?_;refine wpList_load_row rfl _ _ rfl w.heap.size rfl _ _ _ _ HK.o.1 Tryz.underlying62 rfl ϰ ?_;simp only[zp];refine wpList_load_row rfl _ _ rfl (w.heap.size+1) rfl _ _ _ _ HK.o.2 Tryz.underlying62 rfl ϰ ?_;simp only[zp];go_wp2_with fail
 refine(Ox s s _ _ W1 (HS.o W1 R9.o).1.sG (HS.o W1 R9.o).2.sG rfl).mono ?_;rintro e W2 ⟨rfl,κ⟩;have Uy:=aa (aV R9.o κ);have k3:=(κ.block _ l1).trans HK.o.1;have k4:=(κ.block _ l2).trans HK.o.2;obtain⟨c3,f3,l3⟩:=ae k3;obtain⟨c4,f4,l4⟩:=ae k4;have F4:=aa (af k3 k4);clear κ k3 k4;go_wp2_with fail
 refine(QV s.led s.led _ _ _ _ W2 (HS.o W2 Uy.o).1.Ky (HS.o W2 Uy.o).2.Ky rfl rfl rfl).mono ?_;rintro e W3 ⟨rfl,Γ⟩;have ζ:=aa (aV Uy.o Γ);have k3:=(Γ.block _ l3).trans F4.o.1;have k4:=(Γ.block _ l4).trans F4.o.2;clear c3 f3 c4 f4;obtain⟨c5,f5,l5⟩:=ae k3;obtain⟨c6,f6,l6⟩:=ae k4;have Bc:=aa (af k3 k4);clear Γ k3 k4;go_wp2_with fail
 refine(Sq s.heap _ _ _ _ _ _ W3 (HS.o W3 ζ.o).1.bJ (HS.o W3 ζ.o).1.Ab (HS.o W3 ζ.o).1.Al (HS.o W3 ζ.o).2.bJ (HS.o W3 ζ.o).2.Ab (HS.o W3 ζ.o).2.Al).mono ?_;rintro e W4 ⟨rfl,Ω⟩;have gJ:=aa (aV ζ.o Ω);have k3:=(Ω.block _ l5).trans Bc.o.1;have k4:=(Ω.block _ l6).trans Bc.o.2;clear c5 f5 c6 f6;obtain⟨c7,f7,l7⟩:=ae k3;obtain⟨c8,f8,l8⟩:=ae k4;clear Ω k3 k4;go_wp2_with fail
 refine(L9 s.cK _ _ _ _ _ _ _ _ W4 (HS.o W4 gJ.o).1.cK (HS.o W4 gJ.o).2.cK).mono ?_;rintro e W5 ⟨rfl,hb5⟩;have HR:=aa (aV gJ.o hb5);clear hb5 c7 f7 c8 f8;exact za7
def CU (b:ay):iE:=(dK aX bW (dE 40 0 b)).1
def xV (b:ay) (more:List ay):List ay:=dE 40 0 b++Cb aX (CU b) more
theorem Ri {b:ay} {more:List ay} {i:Nat} (hi:i<more.length):xV b (more.take (i+1))=xV b (more.take i)++(if(oN aX (dK aX (CU b) (more.take i)).1 more[i]).2=0 then[more[i]] else[]):=by
 unfold xV;rw[eG hi,Z9,jg];rfl
theorem Gr (b:ay) (more:List ay):xV b (more.take 0)=dE 40 0 b:=by simp[xV,Cb]
def QK (q:Int) (b:ay) (more:List ay) (w:World) (e:Ending) (w':World):Prop:=
 Ϙ w w'/\((q≠0/\e= .returned (.tuple #[.slice none 0 0,iv q]))∨(q=0/\40<(xV b more).length/\e= .returned (.tuple #[.slice none 0 0,iv 3]))∨
  (q=0/\(xV b more).length<=40/\ ∃v,e= .returned (.tuple #[v,iv 0])/\w'.ownsRow w.heap.size 5 1 v (qP (xV b more)).length (Lib.byteCells (qP (xV b more)))))
theorem Ph (b:ay) (bv:Value) (more:List ay) (mv:Value) (w:World) (hbv:aH 1 w bv b.length (Lib.byteCells b)) (hb:b.length<=1000000000) (hmv:iK w mv more) (hln: ∀l∈more,l.length<=1000000) (hE:Env w):
 Ϝ 27 #[bv,mv] w (QK (eD more) b more w):=by
 obtain⟨bo,bc,rfl⟩:=aH.open hbv;obtain⟨mo,mc,rfl⟩:=aH.open hmv;have HBV:=aa (fun W (hb:Ϙ w W)=>hbv.below hb (ah _));have vE:Hid (∀W,Ϙ w W->iK W (.slice mo more.length mc) more):=aa (fun W hb=>hmv.below hb (ah _));have HE:Hid (∀W,Ϙ w W->Env W):=aa (fun W hb=>hE.below hb (ah _));have HFA:=aa (AO more _ w hmv hln);obtain⟨eT,hq⟩: ∃eT,eD more=eT:=⟨_,rfl⟩;rw[hq] at HFA⊢;have HQ:=aa hq;clear hbv hmv hE hln hq;go_enter Tryz.func27,Tryz.ntmps27;go_wp2_with fail
 refine HFA.o.mono ?_;rintro e W1 ⟨rfl,hB1⟩;have R9:=aa hB1;clear hB1 HFA;by_cases hq0:eT=0
 rotate_left
 ·have hqb:(eT !=0)=true:=by simpa using hq0
  go_wp2_with fail
  go_returns;exact⟨R9.o,.inl ⟨hq0,by simp⟩⟩
 subst hq0;have mP:=yz HQ.o;have HML:=aa mP;have hmo:more.length<=40:=mP.1;have HRC:=aa (BN b _ W1 (HBV.o W1 R9.o) hb);clear mP;go_wp2_with fail
 refine HRC.o.mono ?_;rintro e W2 ⟨hB2,v2,rfl,Τ⟩;obtain⟨o2,c2,rfl⟩:=aM Τ;have hrl:=vQ 40 0 b;have Uy:=aa (aV R9.o hB2);have HV2:=aa Τ;have an3:=hB2.size;have an4:=R9.o.size;obtain⟨Q0,hQ0⟩: ∃Q,Q=(Value.slice o2 (dE 40 0 b).length c2).ownBlock.toList:=⟨_,rfl⟩;have acw: ∀m∈Q0,W1.heap.size<=m/\m<W2.heap.size:=fun m hm=>by
  rw[hQ0] at hm;exact aS Τ m (dh.1 hm)
 have iN:=aa (af hQ0 acw);have Ug:=aa (sS _ (dE 40 0 b) W2 (aH.bY Τ) (HE.o W2 Uy.o) (fun l hl=>by have:=xX 40 0 b l hl;omega) ϑ Q0 (fun m hm=>(acw m hm).2));clear hB2 Τ hQ0 acw HRC;go_wp2_with fail
 refine Ug.o.mono ?_;rintro e W3 ⟨Γ,V0,es0,cv,rfl,hX0,hcv⟩;obtain⟨co,cc,rfl⟩:=aM hcv;rename_i hK;refine hK _ _ ?_;refine aC rfl _ (by go_simp;first|rfl|exact⟨rfl,rfl⟩) ?_;simp only[zp];refine aC rfl _ (by go_simp;first|rfl|exact⟨rfl,rfl⟩) ?_;simp only[zp];refine aC rfl _ (by go_simp;first|rfl|exact⟨rfl,rfl⟩) ?_;simp only[zp];have hs3:=Γ.size;obtain⟨g,hg⟩: ∃g,g=W3.heap.size:=⟨_,rfl⟩;refine aC rfl (w':=(W3.alloc (.cells df 62 (0,0)))) (.pointer (some ⟨g,0,none⟩)) (by rw[hg];go_simp;try rfl) ?_;simp only[zp];have hS0:=hX0 W3 (Ext.refl _ _);have hz:(W3.alloc (.cells df 62 (0,0))).heap[g]? =some (.cells df 62 (0,0)):=by rw[hg];exact av _ _
 refine wpList_store_row rfl _ _ _ rfl g (bG (dK aX bW (dE 40 0 b)).1 V0) ϰ ϰ _ df hz ϰ ϰ (by rw[jk];exact fun u hu=>fC hS0 u (jS.2 hu)) ?_
 simp only[zp];refine gm fun W4 zu=>?_;obtain⟨W3',Zy⟩: ∃W3',W3'=W3.alloc (.cells df 62 (0,0)):=⟨_,rfl⟩;rw[<-Zy] at zu hz;have FQ:Ext [g] W3' W4:=by rw[zu];exact dz
 have hs4:=FQ.size;have aoe:W3'.heap.size=g+1:=by rw[Zy,hg];simp
 have AA:Ϙ W3 W4:=fu (by rw[Zy];exact ai (aF _ _) _) FQ ϑ
 have hk4:W4.heap[g]? =some (.cells (bG (CU b) V0) 62 (0,0)):=by rw[zu];exact setRow_heap _ _ _ _ _ _ hz
 have hX4: ∀W',Ext (g::Q0) W4 W'->jT W' (CU b) V0 es0:=fun W' Iq=>hX0 W' ⟨Iq.os.trans AA.os,Iq.tape.trans AA.tape,Iq.output.trans AA.output,eU AA.size Iq.size,fun hx H6 hm=>(Iq.block hx (by have:=AA.size;omega) (fun h=>by
  rcases eQ.1 h with h|h
  ·omega
  ·exact hm h)).trans (AA.block hx H6)⟩
 have gJ:=aa (aV Uy.o (aV Γ AA));have ho4:=az (Ms:=[]) HV2.o (Ext.ax (aV Γ AA)) ϕ;have H4:=aa (af hk4 (af hX4 ho4));have hg4:g<W4.heap.size:=ϑ;have hg2:W2.heap.size<=g:=ϑ;clear hX4 hX0 zu Zy FQ AA hk4 hz hS0 Γ hg hK hcv ho4;have agb:(dK aX bW (dE 40 0 b)).1=CU b:=rfl;rw[agb];clear agb;go_wp2_with fail
 go_loopw [7,32] (fun v7 u wr=> ∃i:Nat,i<=more.length/\u= .int .i64 i/\Ϙ w wr/\W4.heap.size<=wr.heap.size/\ ∃(n:Nat) (o:Option Addr) (c:Nat) (V:SV) (es:List KE),v7= .slice o n c/\n=(xV b (more.take i)).length/\wr.ownsRow W1.heap.size 9 1 (.slice o n c) n (bz (xV b (more.take i)))/\
  wr.heap[g]? =some (.cells (bG (dK aX (CU b) (more.take i)).1 V) 62 (0,0))/\(∀m∈(Value.slice o n c).ownBlock.toList,m≠g)/\ ∀W',Ext (g::(Value.slice o n c).ownBlock.toList) wr W'->jT W' (dK aX (CU b) (more.take i)).1 V es) (fun _ u _=>more.length-(intOf u).toNat)
 case atStart=>
  refine⟨0,bE _,rfl,gJ.o,ah _,_,o2,c2,V0,es0,rfl,by rw[Gr],by rw[Gr];exact H4.o.2.2,H4.o.1,fun m hm=>?_,fun W' Iq=>H4.o.2.1 W' ?_⟩
  ·rw[<-iN.o.1] at hm;have:=iN.o.2 m hm;omega
  ·rw[iN.o.1];exact Iq
 case round=>
  obtain⟨i,hi,rfl,hB,τ,n,oo,oc,V,es,rfl,hn,σ,hbk,hng,Sw⟩:=hrel;have aou:n<=80:=by
   have h1:=Z8 (st:=aX) (more.take i) (CU b);have h2:(more.take i).length<=more.length:=by simp;omega
   rw[hn];unfold xV;rw[cu];omega
  by_cases uM:i<more.length
  ·obtain⟨bl,off,hov,χ,hcl⟩:=nM (vE.o _ hB) uM;obtain⟨s,hs⟩: ∃s,(dK aX (CU b) (more.take i)).1=s:=⟨_,rfl⟩;have hG:eB s:=by rw[<-hs];exact wU _ (wU _ uN)
   obtain⟨L,hL⟩: ∃L,xV b (more.take i)=L:=⟨_,rfl⟩;have hTK:(dK aX (CU b) (more.take (i+1))).1=(oN aX s more[i]).1:=by rw[eG uM,Gv,hs]
   have hRL:=Ri (b:=b) uM;rw[hs,hL] at hRL;rw[hs] at hbk Sw;rw[hL] at hn σ;have hx6:more[i].length<=60:=HML.o.2 _ (bZ uM);obtain⟨GQ,K7⟩: ∃l,more[i]=l:=⟨_,rfl⟩;rw[K7] at hcl hTK hRL hx6;have HD:=aa (Xa s V es GQ wr (Sw wr (Ext.refl _ _)) hG (HE.o wr hB) ϑ (g::(Value.slice oo n oc).ownBlock.toList) (fun m hm=>by
    rcases eQ.1 hm with rfl|hm
    ·omega
    ·exact(aS σ m (dh.1 hm)).2) Sw)
   have HX:=aa (af hB (af σ (af hbk (af hng Sw))));have yG:=aa (af hTK (af hRL hn));subst hov;clear hB σ hbk hng Sw hTK hRL hn hs hL K7 hG;go_upto_region 9 with(fail)
   refine wp_region_lit ?_;refine wpList_load_row rfl _ _ rfl g rfl _ _ _ _ HX.o.2.2.1 Tryz.underlying62 rfl ϰ ?_;simp only[zp];go_wp2_with fail
   refine HD.o.mono ?_;rintro e W5 ⟨hb5,V5,es5,rfl,hS5,hX5⟩;rename_i hK;refine hK _ _ ?_;refine aC rfl _ (by go_simp;first|rfl|exact⟨rfl,rfl⟩) ?_;simp only[zp];refine aC rfl _ (by go_simp;first|rfl|exact⟨rfl,rfl⟩) ?_;simp only[zp];refine aC rfl _ (by go_simp;first|rfl|exact⟨rfl,rfl⟩) ?_;simp only[zp];obtain⟨q,hp⟩: ∃q,q=W5.heap.size:=⟨_,rfl⟩;have hs5:=hb5.size;refine aC rfl (w':=W5.alloc (.cells df 62 (0,0))) (.pointer (some ⟨q,0,none⟩)) (by rw[hp];go_simp;try rfl) ?_;simp only[zp];have hz:(W5.alloc (.cells df 62 (0,0))).heap[q]? =some (.cells df 62 (0,0)):=by rw[hp];exact av _ _
   refine wpList_store_row rfl _ _ _ rfl q (bG (oN aX s GQ).1 V5) ϰ ϰ _ df hz ϰ ϰ (by rw[jk];exact fun u hu=>fC hS5 u (jS.2 hu)) ?_
   simp only[zp];refine gm fun W6 ug=>?_;obtain⟨W5',Zw⟩: ∃W5',W5'=W5.alloc (.cells df 62 (0,0)):=⟨_,rfl⟩;rw[<-Zw] at ug hz;have p:Ext [q] W5' W6:=by rw[ug];exact dz
   have aoc:W5'.heap.size=q+1:=by rw[Zw,hp];simp
   have hs6:=p.size;have Ot:Ϙ W5 W6:=fu (by rw[Zw];exact ai (aF _ _) _) p ϑ
   have I8:W6.heap[q]? =some (.cells (bG (oN aX s GQ).1 V5) 62 (0,0)):=by rw[ug];exact setRow_heap _ _ _ _ _ _ hz
   have hb6:=aV hb5 Ot;have H5:=aa (af hb6 (af Ot (af I8 (af hS5 hX5))));clear ug Zw p Ot I8 hz hS5 hX5 hb5 hb6 hK HD;obtain⟨Δ,hcode⟩: ∃Δ,(oN aX s GQ).2=Δ:=⟨_,rfl⟩;have HC:=aa hcode;rw[hcode];clear hcode;by_cases hc0:Δ=0
   rotate_left
   ·have hcb:(Δ==0)=false:=by simpa using hc0
    have IB:(oN aX s GQ).1=s:=WZ (by rw[HC.o];exact hc0);have hrl2:=yG.o.2.1;rw[HC.o,ak hc0,List.append_nil] at hrl2;have HR:=aa (af IB hrl2);have hz6:=H5.o.1.size;clear IB hrl2;go_wp2_with fail
    refine⟨⟨i+1,by omega,by go_num,aV HX.o.1 H5.o.1,by omega,n,oo,oc,V,es,rfl,by rw[HR.o.2];exact yG.o.2.2,by rw[HR.o.2];exact az (Ms:=[]) HX.o.2.1 (Ext.ax H5.o.1) ϕ,?_,HX.o.2.2.2.1,fun W' Iq=>?_⟩,by simp[intOf];omega⟩
    ·rw[yG.o.1,HR.o.1];exact(H5.o.1.block g ϑ).trans HX.o.2.2.1
    ·rw[yG.o.1,HR.o.1];exact HX.o.2.2.2.2 W' (((show Ext [] wr W6 from Ext.ax H5.o.1).more ϕ).trans Iq)
   ·subst hc0;have hrl2:=yG.o.2.1;rw[HC.o,aG rfl] at hrl2;have HRL:=aa hrl2;clear hrl2;go_upto_region 11 with(fail)
    have hz6:=H5.o.1.size;obtain⟨Ms,η⟩: ∃Ms,Ms=(Value.slice oo n oc).ownBlock.toList:=⟨_,rfl⟩;have hm0: ∀m∈Ms,W1.heap.size<=m/\m<wr.heap.size:=fun m h=>aS HX.o.2.1 m (by rw[η] at h;exact dh.1 h);have qh: ∀m∈Ms,m<W6.heap.size:=fun m h=>by have:=hm0 m h;omega
    have Υ:q∉Ms:=fun h=>by have:=hm0 q h;omega
    have hm2:g∉Ms:=fun h=>HX.o.2.2.2.1 g (by rw[<-η];exact h) rfl;have hq5:q<W6.heap.size:=ϑ;have HM:=aa η;clear η;refine zg 5 Ms (some 4) [(3,Spec.slice W6.heap.size #[.string (dS GQ)] 9 1),(4,⟨fun _ v=> ∃o2 c2,v= .slice o2 (n+1) c2,fun _ v Wx=>Wx.ownsRow W1.heap.size 9 1 v (n+1) (bz L++bz [GQ])/\(v.ownBlock=(Value.slice oo n oc).ownBlock∨ ∃eT,v.ownBlock=some eT/\W6.heap.size<=eT)⟩)] ?_;simp only[zt];refine eX ϱ (.agg (bG (oN aX s GQ).1 V5)) ϱ (fun W hE hF=>?_) ?_
    ·exact zca
    simp only[zp];repeat ((first|refine zd ?_|refine zk ?_);simp only[zp])
    refine cB W6.heap.size _ _ 1 ϱ (ah _) ϱ qh ϕ (fun W hW=>by go_simp;try rfl) (fun b6=>?_);simp only[zp];refine aY _ ϱ ϱ (by exact⟨.slice none (n+1) 0,none,0,rfl⟩) (fun Wq hE hF=>?_) (fun v Wa Wb ho hE=>?_) (fun v hv=>?_)
    ·have Iq:Ext [] W6 Wq:=hE;obtain⟨b',hb',hge,ο⟩:=hF _ (aW _) ϰ;cases hb';have VC:=az (Ms:=[]) HX.o.2.1 ((Ext.ax H5.o.1).trans Iq) ϕ;have ξ:aH 1 Wq (.slice (some ⟨b6,0,none⟩) 1 1) 1 (bz [GQ]):=aH.bI 1 1 ο rfl ϖ;refine Does.mono (dA Gd ϱ ϱ VC ϱ ξ (yL [GQ]) ϑ ϑ (by have:=Iq.size;omega)) ?_;rintro v' W7 ⟨ho,Y7,θ⟩;refine⟨aR ho,⟨ho,θ.imp id fun h1=>⟨_,h1,Iq.size⟩⟩,⟨Y7.os,Y7.tape,Y7.output,Y7.size,fun k hk hn=>Y7.block k hk (fun e=>hn (by rw[HM.o];exact dh.2 e.symm))⟩⟩
    ·exact zaP
    obtain⟨o7,c7,rfl⟩:=hv;simp only[zp];intro W7 hE hF;obtain⟨Ya,hg6⟩:=hF _ (aW _);have ry:Ext Ms W6 W7:=hE;have hs7:=ry.size;have hkg:=(ry.block g ϑ hm2).trans ((H5.o.1.block g ϑ).trans HX.o.2.2.1);refine wpList_store_row rfl _ _ _ rfl g (bG (oN aX s GQ).1 V5) ϰ ϰ _ _ hkg ϰ rfl (by rw[jk];exact fun u hu=>fC H5.o.2.2.2.1 u (jS.2 hu)) ?_
    simp only[zp];refine gm fun W8 hW8=>?_;have oL:Ext [g] W7 W8:=by rw[hW8];exact dz
    have Qk:W8.heap[g]? =some (.cells (bG (oN aX s GQ).1 V5) 62 (0,0)):=by rw[hW8];exact setRow_heap _ _ _ _ _ _ hkg
    have hs8:=oL.size;have afY:Ϙ w W8:=zbw;have abX: ∀m∈(Value.slice o7 (n+1) c7).ownBlock.toList,m≠g:=fun m hm=>by
     rcases hg6 with h1|⟨k,h1,h2⟩
     ·rw[h1] at hm;exact HX.o.2.2.2.1 m hm
     ·rw[h1] at hm;simp at hm;omega
    have nH:=Ao (Ms:=[g]) Ya oL (fun k hk h=>abX k (dh.2 h) (by simpa using hk));have hX8: ∀W',Ext (g::(Value.slice o7 (n+1) c7).ownBlock.toList) W8 W'->jT W' (oN aX s GQ).1 V5 es5:=fun W' Iq=>by
     have h56:=H5.o.2.1;have apl:=h56.size;refine H5.o.2.2.2.2 W' ⟨Iq.os.trans (oL.os.trans (ry.os.trans h56.os)),Iq.tape.trans (oL.tape.trans (ry.tape.trans h56.tape)),Iq.output.trans (oL.output.trans (ry.output.trans h56.output)),by have:=Iq.size;omega,fun k hk hm=>?_⟩;have n2:k≠g:=fun e=>hm (by simp[e]);have n3:k∉(Value.slice oo n oc).ownBlock.toList:=fun h=>hm (nY _ h);have n4:k∉(Value.slice o7 (n+1) c7).ownBlock.toList:=fun h=>by
      exact zcp
     exact(Iq.block k ϑ (fun h=>by rcases eQ.1 h with h|h;(exact n2 h);exact n4 h)).trans ((oL.block k ϑ (by simpa using n2)).trans ((ry.block k ϑ (by rw[HM.o];exact n3)).trans (h56.block k hk)))
    have H8:=aa (af afY (af nH (af Qk (af abX hX8))));have aiX:W4.heap.size<=W8.heap.size:=ϑ;clear afY nH Qk abX hX8 hW8 oL ry hE hF Ya hg6 hkg;go_wp2_with fail
    refine⟨⟨i+1,by omega,by go_num,H8.o.1,aiX,n+1,o7,c7,V5,es5,rfl,by rw[HRL.o,cu,yG.o.2.2];rfl,?_,by rw[yG.o.1];exact H8.o.2.2.1,H8.o.2.2.2.1,fun W' Iq=>by rw[yG.o.1];exact H8.o.2.2.2.2 W' Iq⟩,by simp[intOf];omega⟩;rw[HRL.o,show bz (L++[GQ])=bz L++bz [GQ] from by simp[bz]]
    exact H8.o.2.1
  ·obtain rfl:i=more.length:=ϑ;rw[List.take_length] at hn σ;obtain⟨L,hL⟩: ∃L,xV b more=L:=⟨_,rfl⟩;rw[hL] at hn σ;have hL6: ∀l∈L,l.length<=60:=fun l hl=>by
    rw[<-hL] at hl;rcases gq.1 hl with h|h
    ·exact xX 40 0 b l h
    ·exact HML.o.2 l (Z7 more (CU b) l h)
   have MP:=aa hB;have IB: ¬(more.length:Int)<more.length:=ϑ;by_cases h40:40<n
   ·have acE:(40:Int)<(n:Int):=ϑ;have HN:=aa hn;have Ui:=aa hL;clear σ hbk hng Sw hB hn hL;go_wp2_with fail
    go_returns;exact⟨MP.o,.inr (.inl ⟨rfl,by rw[Ui.o, <-HN.o];exact h40,by simp⟩)⟩
   ·have acE: ¬(40:Int)<(n:Int):=ϑ;have hs:aH 1 wr (.slice oo n oc) n (bz L):=aH.bY σ;have HFL:=aa (Lg L (.slice oo n oc) wr (by unfold iK;rw[<-hn];exact hs) ϑ hL6);have HN:=aa hn;have Ui:=aa hL;clear σ hbk hng Sw hB hn hL hs;go_wp2_with fail
    refine HFL.o.mono ?_;rintro e W5 ⟨hb5,v5,rfl,hv5⟩;have lM:=aa (aV MP.o hb5);have HV5:=aa (bK hv5 MP.o.size);clear hb5 hv5 HFL;go_wp2_with fail
    go_returns;exact⟨lM.o,.inr (.inr ⟨rfl,by rw[Ui.o, <-HN.o];omega,v5,by simp,by rw[Ui.o];exact HV5.o⟩)⟩
def Cn:List Int:=[0,0,0,0,0,0,0,0,0,0,0,0,0,0,3,2,7,2,7,11,0,7,6,7,2,2,2,7,11,4,4]
def Jl:List Int:=[0,3,2,7,2,7,11,0,7,6,7,2,2,2,7,11,4,4]
theorem abp:(dK aX bW (fO++oW)).2=Cn:=by decide+kernel
theorem om:eD (fO++oW)=0/\eD (fO++yU)=0/\eD ([]:List ay)=0:=by decide+kernel
theorem NI:(∀l∈fO++oW,l.length<=1000000)/\ ∀l∈fO++yU,l.length<=1000000:=by decide+kernel
theorem aei:yO (dK aX bW (fO++yU)).1=aed:=by decide+kernel
theorem abq:yS (fO++yU)=11:=by decide+kernel
theorem abo:yO bW=aef:=by decide+kernel
theorem YW:pM (fO++oW)=Cn:=by
 unfold pM;rw[aG om.1];exact abp
theorem Vm:Ak (fO++yU)=aed:=by
 unfold Ak;rw[aG om.2.1,xW];unfold fV;rw[aG om.2.1];exact aei
theorem RB:Ak []=aef:=by
 unfold Ak;rw[aG om.2.2,xW];unfold fV;rw[aG om.2.2];exact abo
theorem YX:fV []=bW:=by
 unfold fV;rw[aG om.2.2];rfl
def rO (k:Nat):ay:=[114,97,116,101,32,49]++List.replicate k 49
theorem NN (k:Nat):rO (k+1)=rO k++[49]:=by
 unfold rO;rw[List.replicate_succ',jg]
theorem RS (k:Nat):(rO k).length=k+6:=by simp[rO]
theorem xZ:eD [rO 55]=3/\eD (List.replicate 41 ([]:ay))=3:=by decide+kernel
theorem Vn:yS (List.replicate 41 ([]:ay))=3:=by
 unfold yS;rw[ak (by rw[xZ.2];decide)];exact xZ.2
theorem abn:Be [rO 55]=3:=by
 unfold Be;rw[ak (by rw[xZ.1];decide)];exact xZ.1
def wJ:ay:=[48,49,58,97,58,48,50,50,51,10,114,101,115,116]
def Jr:ay:=[48,49,58,97,58,48,50,50,51,10,48,49,58,97,58,48,50,50,52,10]
def vY:List ay:=[[114,97,116,101,32,53],[98]]
def yf:List ay:=[[97],[114,97,116,101,32,53]]
theorem Vl:eD vY=0/\xV wJ vY=yf:=by decide+kernel
theorem aau:dE 40 0 Jr=[[97]]/\iB [[97]]=10:=by decide+kernel
theorem mU {P:Program} {ops:Array Oper} {rest:List Oper} {o:Oper} {a:Act} {w:World} {Q:Exit->Act->World->Prop} (hgd:o.guard=none) (ty:TypeId) (x y:Operand) (ho:o.op= .store ty x y)
 (g off:Nat) (v:Value) (cells:Array Value) (hx:a.eval x= .pointer (some ⟨g,off,none⟩)) (hy:a.eval y=v) (hvc:v.cells=cells) (t:TypeId) (old:Array Value) (hg:w.heap[g]? =some (.cells old t (0,0))) (hi:(P.info? ty).map (·.size)=some cells.size)
 (hold:off+cells.size<=old.size) (h1:cells.all (·.oneCell')=true) (new:Array Value) (hn:new=(old.toList.take off++cells.toList++old.toList.drop (off+cells.size)).toArray)
 (h:wpList P ops Q rest (a.put o.dst undef) (w.setRow g new)):wpList P ops Q (o::rest) a w:=by
 refine wpList_plain hgd fun K hK=>?_;have hr:=run_storeCells_at P g off t cells.toList 0 old w hg (by simpa using hold) (fun v hv=>(jk.1 h1) v (by simpa using hv));have hv:(storeVar ty ⟨g,off,none⟩ v).run P w= .ok () (w.setRow g new):=by
  cases hq:P.info? ty with
  |none=>simp[hq] at hi
  |some i=>
   have hs:cells.size=i.size:=by simp[hq] at hi;omega
   rw[hn];simp only[Nat.add_zero,Array.length_toList] at hr;simp[storeVar,sizeOf,typeInfo,hq,hvc,hs,hr]
 unfold Oper.wp execOp;simp only[ho,hx,hy,Instr.storeAt,Instr.sureAddr,Sem.run_bind,Sem.run_pure,Result.andThen_ok,hv];exact hK _ _ h
theorem tR4:fU Tryz.prog 84 83 (rv (0,0)) 2 16:=⟨Tryz.underlying84,by kernel_rfl,rfl,by omega⟩
theorem Nw (w:World):Ϝ 25 #[] w (fun e W=>Ϙ w W/\ ∃V,e= .returned (.agg (bG bW V))/\jT W bW V []):=by
 go_enter Tryz.func25,Tryz.ntmps25;go_upto_region 2 with(fail)
 refine bU fun W1 ν=>?_;obtain⟨δ,k1,k2,hs1⟩:=nL ν;have R9:=aa δ;have PG:=aa k1;clear δ ν k1;refine wp_region_lit ?_;refine aC rfl _ (by go_simp;first|rfl|exact⟨rfl,rfl⟩) ?_;simp only[zp];refine aC rfl _ (by go_simp;first|rfl|exact⟨rfl,rfl⟩) ?_;simp only[zp];refine aC rfl _ (by go_simp;first|rfl|exact⟨rfl,rfl⟩) ?_;simp only[zp];refine aC rfl _ (by go_simp;first|rfl|exact⟨rfl,rfl⟩) ?_;simp only[zp];refine aC rfl _ (by go_simp;first|rfl|exact⟨rfl,rfl⟩) ?_;simp only[zp];refine mU rfl _ _ _ rfl (w.heap.size+1) 0 (.agg #[iv 3,iv 2,iv 0,iv 3,.slice none 0 0,iv 10,iv 0,iv 2000,.slice none 0 0]) #[iv 3,iv 2,iv 0,iv 3,.slice none 0 0,iv 10,iv 0,iv 2000,.slice none 0 0] ϰ ϰ rfl _ _ k2 ϰ ϖ (by simp[Value.oneCell'])
  #[iv 3,iv 2,iv 0,iv 3,.slice none 0 0,iv 10,iv 0,iv 2000,.slice none 0 0,iv 0,iv 0,iv 0,iv 0,iv 0,iv 0,iv 0,.slice none 0 0,.slice none 0 0,.slice none 0 0,.slice none 0 0,.slice none 0 0,.slice none 0 0] ϱ ?_
 simp only[zp];refine gm fun W2 hW2=>?_;have Ι:Ext [w.heap.size+1] W1 W2:=by rw[hW2];exact dz
 have κ:=fu R9.o Ι ϑ;have k3:W2.heap[w.heap.size+1]? =some (.cells #[iv 3,iv 2,iv 0,iv 3,.slice none 0 0,iv 10,iv 0,iv 2000,.slice none 0 0,iv 0,iv 0,iv 0,iv 0,iv 0,iv 0,iv 0,.slice none 0 0,.slice none 0 0,.slice none 0 0,.slice none 0 0,.slice none 0 0,.slice none 0 0] 93 (0,0)):=by
  rw[hW2];exact setRow_heap _ _ _ _ _ _ k2
 have k4:=(Ι.block w.heap.size ϑ ϕ).trans PG.o;have hs2:=Ι.size;have Uy:=aa κ;have F4:=aa k4;clear hW2 Ι κ k4 k2 R9 PG;go_upto_region 3 with(fail)
 refine wp_region_lit ?_;refine aC rfl _ (by go_simp;first|rfl|exact⟨rfl,rfl⟩) ?_;simp only[zp];refine aC rfl _ (by go_simp;first|rfl|exact⟨rfl,rfl⟩) ?_;simp only[zp];refine aC rfl _ (by go_simp;first|rfl|exact⟨rfl,rfl⟩) ?_;simp only[zp];refine mU rfl _ _ _ rfl (w.heap.size+1) 9 (.agg #[iv 4,iv 10,iv 50,iv 10,iv 60,iv 30,iv 30,.slice none 0 0,.slice none 0 0,.slice none 0 0]) #[iv 4,iv 10,iv 50,iv 10,iv 60,iv 30,iv 30,.slice none 0 0,.slice none 0 0,.slice none 0 0] ϰ ϰ rfl _ _ k3 ϰ ϖ (by simp[Value.oneCell'])
  (kI (.slice none 0 0) (.slice none 0 0)) ϱ ?_
 simp only[zp];refine gm fun W3 φ=>?_;have kX:Ext [w.heap.size+1] W2 W3:=by rw[φ];exact dz
 have Γ:=fu Uy.o kX ϑ;have k5:W3.heap[w.heap.size+1]? =some (.cells (kI (.slice none 0 0) (.slice none 0 0)) 93 (0,0)):=by
  rw[φ];exact setRow_heap _ _ _ _ _ _ k3
 have k6:=(kX.block w.heap.size ϑ ϕ).trans F4.o;have hs3:=kX.size;have ζ:=aa Γ;have Bc:=aa (af k5 k6);clear φ kX Γ k5 k6 k3 Uy F4;go_wp2_with fail
 go_loopw [2] (fun u wr=> ∃i:Nat,i<=5/\u= .int .i64 i/\Ϙ w wr/\w.heap.size+2<=wr.heap.size/\ ∃(o:Option Addr) (c:Nat),wr.ownsRow (w.heap.size+2) 83 2 (.slice o i c) i (aB (List.replicate i (6,6)))/\
  wr.heap[w.heap.size+1]? =some (.cells (kI (.slice none 0 0) (.slice o i c)) 93 (0,0))/\ ∀k,k<w.heap.size+2->k≠w.heap.size+1->wr.heap[k]? =W3.heap[k]?) (fun u _=>5-(intOf u).toNat)
 case atStart=>exact⟨0,by omega,rfl,ζ.o,by omega,none,0,⟨rfl,.inl ⟨rfl,rfl⟩⟩,Bc.o.1,fun _ _ _=>rfl⟩
 case round=>
  obtain⟨i,hi,rfl,hB,τ,oo,oc,σ,hbk,hoth⟩:=hrel;obtain⟨c2,f2,l2⟩:=ae hbk;by_cases uM:i<5
  ·have HX:=aa (af hB (af σ (af hbk hoth)));have g16:=c2 16;simp only[kI] at g16;clear hB σ hbk hoth c2;go_wp2_with (at_builtin;go_loud (refine cZ rfl _ _ tR4 rfl (w.heap.size+2) (.slice oo i oc) i (aB (List.replicate i (6,6))) rfl (az (Ms:=[]) HX.o.2.1 (Ext.ax (ai (aF _ _) _)) ϕ) (.slice (some ⟨wr.heap.size,0,none⟩) 1 1) 1 [iv 6,iv 6] rfl (aH.bI 2 1 (av _ _) rfl ϖ) (by simp[Value.oneCell']) ϑ ϑ ϗ ?_))
   intro v' W6 VC mh _;obtain⟨o6,c6,rfl⟩:=aM VC;have HP:=aa (qa (i:=16) (u:= .slice o6 (i+1) c6) HX.o.1 HX.o.2.1 (Ext.ax (ai (aF _ _) _)) VC mh τ ϑ ϑ HX.o.2.2.1);obtain⟨Wp,Wj,VP⟩:=ae (((jO HX.o.1 HX.o.2.1 (Ext.ax (ai (aF _ _) _)) VC mh ϑ τ).2.2 (w.heap.size+1) ϑ).trans HX.o.2.2.1);exact zbf
  ·obtain rfl:i=5:=ϑ;have HX:=aa (af hB (af σ (af hbk hoth)));clear hB σ hbk hoth c2;go_upto_region 8 with(fail)
   refine wp_region_lit ?_;refine aC rfl _ (by go_simp;first|rfl|exact⟨rfl,rfl⟩) ?_;simp only[zp];refine aC rfl (w':=wr.alloc (.cells #[iv 40,iv 40] 137 (0,0))) (.slice (some ⟨wr.heap.size,0,none⟩) 1 1) (by go_simp;try rfl) ?_;simp only[zp];refine gm fun W5 qM=>?_;have hb5:Ϙ w W5:=by rw[qM];exact ai HX.o.1 _
   have k51:W5.heap[w.heap.size+1]? =some (.cells (kI (.slice none 0 0) (.slice oo (5:Nat) oc)) 93 (0,0)):=by
    rw[qM];exact(heap_alloc_old _ _ ϑ).trans HX.o.2.2.1
   have k50:W5.heap[w.heap.size]? =some (.cells df 93 (0,0)):=by
    rw[qM];exact(heap_alloc_old _ _ ϑ).trans ((HX.o.2.2.2 w.heap.size ϑ ϑ).trans Bc.o.2)
   have k52:W5.heap[wr.heap.size]? =some (.cells #[iv 40,iv 40] 137 (0,0)):=by
    rw[qM];exact av _ _
   have ho5:W5.ownsRow (w.heap.size+2) 83 2 (.slice oo (5:Nat) oc) 5 (aB (List.replicate 5 (6,6))):=by
    rw[qM];exact az (Ms:=[]) HX.o.2.1 (Ext.ax (ai (aF _ _) _)) ϕ
   have hs5:W5.heap.size=wr.heap.size+1:=by rw[qM];simp
   clear qM f2 l2;refine aC rfl _ (by go_simp;first|rfl|exact⟨rfl,rfl⟩) ?_;simp only[zp];refine aC rfl _ (by go_simp;first|rfl|exact⟨rfl,rfl⟩) ?_;simp only[zp];refine mU rfl _ _ _ rfl (w.heap.size+1) 19 (.slice (some ⟨wr.heap.size,0,none⟩) 1 1) #[.slice (some ⟨wr.heap.size,0,none⟩) 1 1] ϰ ϰ rfl _ _ k51 ϰ ϕ (by simp[Value.oneCell'])
    (kI (.slice (some ⟨wr.heap.size,0,none⟩) 1 1) (.slice oo (5:Nat) oc)) ϱ ?_
   simp only[zp];refine gm fun W6 ug=>?_;have ry:Ext [w.heap.size+1] W5 W6:=by rw[ug];exact dz
   have hb6:=fu hb5 ry ϑ;have k61:W6.heap[w.heap.size+1]? =some (.cells (kI (.slice (some ⟨wr.heap.size,0,none⟩) 1 1) (.slice oo (5:Nat) oc)) 93 (0,0)):=by
    rw[ug];exact setRow_heap _ _ _ _ _ _ k51
   have k62:=(ry.block wr.heap.size ϑ ϗ).trans k52;have k60:=(ry.block w.heap.size ϑ ϕ).trans k50;have K6:=az (Ms:=[w.heap.size+1]) ho5 ry ϕ;have hs6:=ry.size;clear ug ry hb5 k51 k52 k50 ho5;have H6:=aa (af hb6 (af k61 (af k62 (af k60 K6))));clear hb6 k61 k62 k60 K6;go_upto_region 9 with(fail)
   refine wp_region_lit ?_;refine wpList_load_row rfl _ _ rfl (w.heap.size+1) rfl _ _ _ _ H6.o.2.1 Tryz.underlying93 rfl ϰ ?_;simp only[zp];refine wpList_store_row rfl _ _ _ rfl w.heap.size (kI (.slice (some ⟨wr.heap.size,0,none⟩) 1 1) (.slice oo (5:Nat) oc)) ϰ ϰ _ df H6.o.2.2.2.1 ϰ ϰ ϰ ?_;simp only[zp];refine gm fun W7 vz=>?_;have oL:Ext [w.heap.size] W6 W7:=by rw[vz];exact dz
   have uY:=fu H6.o.1 oL (ah _);have Aw:W7.heap[w.heap.size]? =some (.cells (kI (.slice (some ⟨wr.heap.size,0,none⟩) 1 1) (.slice oo (5:Nat) oc)) 93 (0,0)):=by rw[vz];exact setRow_heap _ _ _ _ _ _ H6.o.2.2.2.1
   have hw7:=az (Ms:=[w.heap.size]) H6.o.2.2.2.2 oL ϕ;have hh7:=(oL.block wr.heap.size ϑ ϗ).trans H6.o.2.2.1;have H7:=aa (af uY (af Aw (af hw7 hh7)));clear vz oL uY Aw hw7 hh7;go_wp2_with fail
   refine bodyPost_ret (v:= .agg (kI (.slice (some ⟨wr.heap.size,0,none⟩) 1 1) (.slice oo (5:Nat) oc))) (results_cell_row Tryz.results25 _ _ w.heap.size _ _ (0,0) _ rfl H7.o.2.1 Tryz.underlying93 rfl ϰ) rfl ?_;refine⟨H7.o.1,⟨.slice none 0 0,.slice none 0 0,.slice oo (5:Nat) oc,.slice none 0 0,.slice none 0 0,.slice (some ⟨wr.heap.size,0,none⟩) 1 1,.slice none 0 0,.slice none 0 0⟩,rfl,?_⟩;have hn: ∀k,aH k W7 (.slice none 0 0) 0 []:=fun k=>aH.nil k _;exact⟨hn _,hn _,aH.bY H7.o.2.2.1,hn _,hn _,⟨aH.bI 2 1 H7.o.2.2.2 rfl ϖ,⟨hn _,fun e he=>by cases he⟩,rfl,hn _⟩⟩
theorem Bi: ∀(m n:Nat) (w:World),m<=4->n<=100000->Ϝ 34 #[iv n,iv m] w (PV (.string (dS (ja n m))) w):=by
 intro m;induction m with
 |zero=>
  intro n w _ _;go_enter Tryz.func34,Tryz.ntmps34;go_wp2_with fail
  go_returns;exact⟨rfl,aF _ _⟩
 |succ m ih=>
  intro n w hm hn;have h1:=aa (fun W=>ih (n/10) W ϑ ϑ);have h2:=aa (fun W=>XE (n%10) W ϑ);have hd:ja n (m+1)=ja (n/10) m++[xz (n%10)]:=rfl;have hl:=ik m (n/10);rw[hd];have e0: ¬((m:Int)+1=0):=ϑ;have e1:(n:Int).tdiv 10=((n/10:Nat):Int):=by rw[Int.tdiv_eq_ediv_of_nonneg ϑ];omega
  have e2:(n:Int).tmod 10=((n%10:Nat):Int):=by rw[Int.tmod_eq_emod_of_nonneg ϑ];omega
  rw[show decDigits (n%10)=[xz (n%10)] from jq ϑ] at h2;have hb:n%10<10:=ϑ;have ha:n/10<=10000:=ϑ;have em:((m+1:Nat):Int)=(m:Int)+1:=ϑ;have em1:(m:Int)+1-1=m:=ϑ;rw[em];clear ih hd em;generalize n/10=a at*
  generalize n%10=b at*
  go_enter Tryz.func34,Tryz.ntmps34;go_wp2_with fail
  refine(h1.o w).mono ?_;rintro e W1 ⟨rfl,hB⟩;have R9:=aa hB;clear hB;go_wp2_with fail
  refine(h2.o W1).mono ?_;rintro e W2 ⟨rfl,hB⟩;have Uy:=aa (aV R9.o hB);clear hB;have hadd:=fun W=>iR (P:=Tryz.prog) (a:=ja a m) (b:=[xz b]) rfl ϗ W;go_wp2_with fail
  go_returns;exact⟨by simp[qR],Uy.o⟩
theorem Nv (i:Nat) (GQ:ay) (w:World) (hi:i<=1000) (hl:GQ.length<=60):Ϝ 35 #[iv i,.string (dS GQ)] w (PV (iv (gM i GQ)) w):=by
 have τ:=nS GQ;go_enter Tryz.func35,Tryz.ntmps35;go_wp2_with fail
 go_loopw [5,6] (fun s u wr=> ∃j:Nat,j<=GQ.length/\u= .int .i64 j/\s= .int .i64 ((29*(i+1)+fZ 2 (GQ.take j):Nat):Int)/\Ϙ w wr) (fun _ u _=>GQ.length-(intOf u).toNat)
 case atStart=>exact⟨0,bE _,rfl,by simp[fZ];try omega,aF _ _⟩
 case round=>
  exact zap
theorem Kj (i:Nat) (GQ:ay) (w:World) (hi:i<=1000) (hl:GQ.length<=60):Ϝ 17 #[iv i,.string (dS GQ)] w (PV (.string (dS (bX i GQ))) w):=by
 have τ:=nS GQ;have h1:=aa (fun W=>Bi 2 GQ.length W ϑ ϑ);have h2:=aa (fun W=>Nv i GQ W hi hl);have hck:=Hl i GQ;have h3:=aa (fun W=>Bi 4 (gM i GQ) W ϑ ϑ);have l1:=ik 2 GQ.length;have l2:=ik 4 (gM i GQ);have hr:bX i GQ=((((ja GQ.length 2++[58])++GQ)++[58])++ja (gM i GQ) 4)++[10]:=by simp[bX]
 rw[hr];generalize ja GQ.length 2=d2 at*
 generalize ja (gM i GQ) 4=d4 at*
 generalize gM i GQ=ck at*
 have a1:=fun W=>iR (P:=Tryz.prog) (a:=d2) (b:=[58]) rfl ϗ W;have a2:=fun W=>iR (P:=Tryz.prog) (a:=d2++[58]) (b:=GQ) rfl ϗ W;have a3:=fun W=>iR (P:=Tryz.prog) (a:=(d2++[58])++GQ) (b:=[58]) rfl ϗ W;have a4:=fun W=>iR (P:=Tryz.prog) (a:=((d2++[58])++GQ)++[58]) (b:=d4) rfl ϗ W;have a5:=fun W=>iR (P:=Tryz.prog) (a:=(((d2++[58])++GQ)++[58])++d4) (b:=[10]) rfl ϗ W;obtain⟨q1,e1⟩: ∃q,d2++[58]=q:=⟨_,rfl⟩;rw[e1] at a1 a2 a3 a4 a5⊢;obtain⟨q2,e2⟩: ∃q,q1++GQ=q:=⟨_,rfl⟩;rw[e2] at a2 a3 a4 a5⊢;obtain⟨q3,e3⟩: ∃q,q2++[58]=q:=⟨_,rfl⟩;rw[e3] at a3 a4 a5⊢;obtain⟨q4,e4⟩: ∃q,q3++d4=q:=⟨_,rfl⟩;rw[e4] at a4 a5⊢;obtain⟨q5,e5⟩: ∃q,q4++[10]=q:=⟨_,rfl⟩;rw[e5] at a5⊢;clear hr e1 e2 e3 e4 e5;go_enter Tryz.func17,Tryz.ntmps17;go_wp2_with fail
 refine(h1.o w).mono ?_;rintro e W1 ⟨rfl,hb⟩;have R9:=aa hb;clear hb;go_wp2_with fail
 refine(h2.o W1).mono ?_;rintro e W2 ⟨rfl,hb⟩;have hB:=aa (aV R9.o hb);clear hb;go_wp2_with fail
 refine(h3.o W2).mono ?_;rintro e W3 ⟨rfl,hb⟩;have Uy:=aa (aV hB.o hb);exact zay
theorem Rn (ls:List ay) (v:Value) (w:World) (hv:iK w v ls) (hn:ls.length<=1000) (hl: ∀l∈ls,l.length<=60):Ϝ 16 #[v] w (PV (.string (dS (qP ls))) w):=by
 obtain⟨lo,lc,rfl⟩:=aH.open hv;have HV:=aa (fun W (hb:Ϙ w W)=>hv.below hb (ah _));have HL:=aa hl;clear hv hl;go_enter Tryz.func16,Tryz.ntmps16;go_wp2_with fail
 go_loopw [3,4] (fun s i wr=> ∃k:Nat,k<=ls.length/\i= .int .i64 k/\s= .string (dS (gU 0 (ls.take k)))/\Ϙ w wr) (fun _ i _=>ls.length-(intOf i).toNat)
 case atStart=>exact⟨0,bE _,rfl,rfl,aF _ _⟩
 case round=>
  obtain⟨k,hk,rfl,rfl,hB⟩:=hrel;have HB:=aa hB;by_cases uM:k<ls.length
  ·obtain⟨b,off,rfl,hb,hc0⟩:=nM (HV.o wr hB) uM;have htk:=G7 uM;have hx6:ls[k].length<=60:=HL.o _ (bZ uM);obtain⟨x,hx⟩: ∃x,ls[k]=x:=⟨_,rfl⟩;rw[hx] at hc0 htk hx6;have hfl:(gU 0 (ls.take k)).length<=69000:=by
    rw[zz];have:=J3 (ls.take k) fun l hl=>HL.o l (mi hl);have hj:(ls.take k).length<=1000:=by simp;omega
    omega
   have hrl:=iT k x;have HR:=aa (fun W=>Kj k x W ϑ hx6);have yG:=aa htk;generalize gU 0 (ls.take k)=f at*
   generalize bX k x=r at*
   have hadd:=fun W=>iR (P:=Tryz.prog) (a:=f) (b:=r) rfl ϑ W;clear htk hx hB;go_wp2_with fail
   refine(HR.o wr).mono ?_;rintro e W2 ⟨rfl,hB⟩;have Uy:=aa (aV HB.o hB);clear hB;go_wp2_with fail
   refine⟨⟨k+1,by omega,by go_num,by first|(rw[yG.o];done)|(rw[yG.o];simp[qR]),Uy.o⟩,by simp[intOf];omega⟩
  ·have Y9:k=ls.length:=ϑ;subst Y9;rw[List.take_length];go_wp2_with fail
   go_returns;exact⟨by simp[qP],HB.o⟩
end Go.Proofs.Z.Bk
end
section
namespace Go.Proofs.Z.gZ
open Go.RowKit Go.RG Go.SL Go.Shelf gK Go.TB
def XF (h:bS) (w:World) (e:Ending) (w':World):Prop:=
 ∃a b c,e= .returned (hv h a b c)/\bD w' a h.bJ/\aL w' b h.turns/\aU w' c h.readings/\Ϙ w w'/\(∀g,a.ownBlock=some g->w.heap.size<=g)/\(∀g,b.ownBlock=some g->w.heap.size<=g)/\ ∀g,c.ownBlock=some g->w.heap.size<=g
theorem XH (h:bS) (wv tv ru:Value) (w:World) (hw:bD w wv h.bJ) (ht:aL w tv h.turns) (hx:aU w ru h.readings) (hlw:h.bJ.length<=1000) (uM:h.turns.length<=1000) (hlx:h.readings.length<=1000):
 Ϝ 52 #[hv h wv tv ru] w (XF h w):=by
 obtain⟨ow,cw,rfl⟩:=hw.open;obtain⟨ot,ct,rfl⟩:=ht.open;obtain⟨ox,cx,rfl⟩:=hx.open;have HW:=aa hw;have HT:=aa ht;have HX:=aa hx;clear hw ht hx;go_enter Tryz.func52,Tryz.ntmps52;go_wp2_with fail
 refine bU fun W1 ν=>?_;have R9:=aa (show Ϙ w W1 from by rw[ν];exact zl);have Ca:W1.heap[w.heap.size]? =some (.cells #[.int .i64 h.last,.int .i64 h.size,.int .i64 h.aZ,.int .i64 h.die,.int .i64 h.ny,.int .i64 h.start.1,.int .i64 h.start.2,.slice ow h.bJ.length cw,.slice ot h.turns.length ct,.slice ox h.readings.length cx] 87 (0,0)):=by rw[ν];exact(aT _ _ _ (by first|omega|(simp;done)|(simp;omega))).trans (av _ _)
 have hA1:W1.heap[w.heap.size+1]? =some (.cells #[iv 0,iv 0,iv 0,iv 0,iv 0,iv 0,iv 0,.slice none 0 0,.slice none 0 0,.slice none 0 0] 55 (0,0)):=by rw[ν];exact dm _ _ _
 have s0:=(aN.1 Ca).1;have s1:=(aN.1 hA1).1;have hcr:=(ae Ca).1;have HA:=aa (af Ca hA1);clear Ca hA1 ν;refine zg 18 [] none [(12,Spec.val (rv h.start)),(15,⟨fun _ v=> ∃o c,v= .slice o h.turns.length c,fun _ v Wx=>Wx.ownsRow W1.heap.size 3 1 v h.turns.length (ag h.turns)⟩),(17,Spec.block W1.heap.size #[iv 0,iv 0,iv 0,iv 0,iv 0,iv 0,iv 0,.slice none 0 0,.slice none 0 0,.slice none 0 0] 55)] ?_;simp only[zt];repeat ((first|refine zn ?_|refine zk ?_);simp only[zp])
 refine zw 86 (h:=fun W hE hF=>by exact Uz h.start W) (t:=?_);simp only[zp];repeat ((first|refine zn ?_|refine zk ?_);simp only[zp])
 refine aY _ ϱ ϱ (by exact⟨.slice none (h.turns).length 0,none,0,rfl⟩) (fun W hE hF=>?_) (fun v Wa Wb ho hE=>az (Ms:=[]) ho hE ϕ) (fun v hv=>?_)
 ·have Iq:Ext [] W1 W:=hE;refine bM 87 #[.slice ot h.turns.length ct] (by go_simp;try rfl) ?_;refine(gZ.Vu (h.turns) _ W ((HT.o.below R9.o (ah _)).below Iq.below (ah _)) ϑ).mono ?_;rintro e W6 ⟨v,rfl,ho,hb⟩;exact⟨v,rfl,aM ho,bK ho Iq.size,Ext.ax hb⟩
 obtain⟨o5,c5,rfl⟩:=hv;simp only[zp];repeat ((first|refine zn ?_|refine zk ?_);simp only[zp])
 refine gQ W1.heap.size _ _ ϱ (ah _) ϱ ϕ ϕ (fun W hW=>by go_simp;try rfl) (fun b3=>?_);simp only[zp];intro W2 hE hF;have Iq:Ext [] W1 W2:=hE;obtain⟨b3',Γ,hbB,ZX⟩:=hF _ (aW _);cases Γ;have Gm:W2.ownsRow W1.heap.size 3 1 (.slice o5 h.turns.length c5) h.turns.length (ag h.turns):=hF _ (jf _ (aW _));obtain⟨ys,Ε⟩: ∃ys:List Value,ys=[iv h.last,iv h.size,iv h.aZ,iv h.die,iv h.ny,iv h.start.1,iv h.start.2,.slice none 0 0,.slice o5 h.turns.length c5,.slice none 0 0]:=⟨_,rfl⟩;have eys: #[iv h.last,iv h.size,iv h.aZ,iv h.die,iv h.ny,iv h.start.1,iv h.start.2,.slice none 0 0,.slice o5 h.turns.length c5,.slice none 0 0]=ys.toArray:=by rw[Ε]
 have hyl:ys.length=10:=by rw[Ε];rfl
 obtain⟨W3,Y6,hblk3,kX⟩:=Nc Tryz.prog ys (by rw[Ε];intro u hu;simp at hu;rcases hu with rfl|rfl|rfl|rfl|rfl|rfl|rfl|rfl|rfl|rfl <;>rfl) ZX (by rw[hyl];rfl);have Γ:w.heap.size+2<=b3:=ϑ;have χ:=(aN.1 ZX).1;have hz3:=kX.size;have hz2:=Iq.size;have agv:W3.heap[w.heap.size]? =some (.cells #[.int .i64 h.last,.int .i64 h.size,.int .i64 h.aZ,.int .i64 h.die,.int .i64 h.ny,.int .i64 h.start.1,.int .i64 h.start.2,.slice ow h.bJ.length cw,.slice ot h.turns.length ct,.slice ox h.readings.length cx] 87 (0,0)):=(kX.block _ ϑ ϗ).trans ((Iq.block _ s0 ϕ).trans HA.o.1);have agu:W3.heap[w.heap.size+1]? =some (.cells #[iv 0,iv 0,iv 0,iv 0,iv 0,iv 0,iv 0,.slice none 0 0,.slice none 0 0,.slice none 0 0] 55 (0,0)):=(kX.block _ ϑ ϗ).trans ((Iq.block _ s1 ϕ).trans HA.o.2);have hB3:Ϙ w W3:=dM (aV R9.o Iq.below) kX ϑ;have hne: ∀g,(Value.slice o5 h.turns.length c5).ownBlock=some g->g≠b3:=fun g hg e=>by
  subst e;obtain⟨_,⟨h1,_⟩|⟨g',c,cs,h1,_,h2,_⟩⟩:=Gm
  ·rw[h1] at hg;cases hg
  ·rw[h1] at hg;have:g'=g:=by simpa [Value.ownBlock] using hg
   subst this;rw[h2] at ZX;simp at ZX
 have hown3:=Ao Gm kX (fun x hx=>by simp at hx;subst hx;exact fun e=>hne _ e rfl);have HT3:=aa (show _/\_ from af (aH.bY hown3) (fun g hg=>af (aS hown3 g hg).2 (af (hne g hg) (show w.heap.size+2<=g from by have:=(aS hown3 g hg).1;omega))))
 have Ww:W3.heap[b3]? =some (.cells #[iv h.last,iv h.size,iv h.aZ,iv h.die,iv h.ny,iv h.start.1,iv h.start.2,.slice none 0 0,.slice o5 h.turns.length c5,.slice none 0 0] 55 (0,0)):=by rw[eys];exact hblk3
 rw[eys];have WG:b3<W3.heap.size:=ϑ;have φ:w.heap.size+2<W3.heap.size:=ϑ;have JE:=aa (af agv (af agu Ww));have ζ:=aa hB3;clear Ε eys hE hF Iq ZX Gm hblk3 kX agv agu hB3 hne hown3 Ww hcr s0 s1 hz2 hz3 χ;go_wp2_with fail
 clear Y6;go_loopw [4] (fun u wr=> ∃k:Nat,k<=h.bJ.length/\u= .int .i64 k/\ ∃oo oc,wr.heap[b3]? =some (.cells #[iv h.last,iv h.size,iv h.aZ,iv h.die,iv h.ny,iv h.start.1,iv h.start.2,.slice oo k oc,.slice o5 h.turns.length c5,.slice none 0 0] 55 (0,0))/\
  wr.ownsRow W3.heap.size 50 2 (.slice oo k oc) k (aB (h.bJ.take k))/\Ϙ w wr/\W3.heap.size<=wr.heap.size/\ ∀c,c<W3.heap.size->c≠b3->wr.heap[c]? =W3.heap[c]?) (fun u _=>h.bJ.length-(intOf u).toNat)
 case atStart=>exact⟨0,bE _,rfl,none,0,JE.o.2.2,⟨rfl,.inl ⟨rfl,rfl⟩⟩,ζ.o,ah _,fun _ _ _=>rfl⟩
 case round=>
  obtain⟨k,hk,rfl,oo,oc,ZX,Gm,hB,hsw,Oa⟩:=hrel;obtain⟨BV,_,BS⟩:=ae ((Oa w.heap.size ϑ ϑ).trans JE.o.1);obtain⟨BU,hfr2,Dy⟩:=ae ZX;have hHW:=HW.o.below hB (ah _);have HK:=aa (af ZX (af Gm (af hB (af hsw Oa))));clear ZX Gm hB hsw Oa;by_cases Ξ:k<h.bJ.length
  ·obtain⟨b,off,rfl,δ,d1,d2⟩:=bD.cell hHW Ξ;have oK:(k:Int)<h.bJ.length:=ϑ;have htk:aB (h.bJ.take (k+1))=aB (h.bJ.take k)++aB [h.bJ[k]]:=by
    rw[eG Ξ,jJ]
   clear hHW;generalize h.bJ[k]=x at*
   have yG:=aa htk;clear htk;go_wp2_with fail
   refine zg 9 [] none [(7,Spec.val (rv x)),(8,Spec.slice wr.heap.size #[iv x.1,iv x.2] 50 1)] ?_;simp only[zt];repeat ((first|refine zn ?_|refine zk ?_);simp only[zp])
   refine zw 86 (h:=fun W hE hF=>by exact Uz x W) (t:=?_);simp only[zp];refine cB wr.heap.size _ _ _ ϱ (ah _) ϱ ϕ ϕ (fun W hW=>by go_simp;try rfl) (fun b8=>?_);simp only[zp];intro W5 BD Ov;have pV:Ext [] wr W5:=BD;obtain⟨QC,tN,Sv,mQ⟩:=Ov _ (aW _);cases tN;have HE6:=aa pV;have TU:=aa mQ;have Pz:=aa (az (Ms:=[]) HK.o.2.1 pV ϕ);have hz5:=pV.size;have hsw:=HK.o.2.2.2.1;clear BD Ov pV mQ;go_wp2_with (at_builtin;go_loud (refine cZ rfl _ _ CJ rfl W3.heap.size (.slice oo k oc) k (aB (h.bJ.take k)) rfl Pz.o (.slice (some ⟨b8,0,none⟩) 1 1) 1 (aB [x]) rfl (aH.bI 2 1 TU.o rfl ϖ) (kF _) ϑ ϑ ϑ ?_))
   intro v' W6 uX Ol _;obtain⟨o7,c7,rfl⟩:=aM uX;have HP:=aa (qa (i:=7) (u:= .slice o7 (k+1) c7) HK.o.2.2.1 HK.o.2.1 HE6.o uX Ol hsw WG ϑ HK.o.1);exact zau
  ·obtain rfl:k=h.bJ.length:=ϑ;have HWT:=aa (show wr.ownsRow W3.heap.size 50 2 (.slice oo h.bJ.length oc) h.bJ.length (aB h.bJ) from by have:=HK.o.2.1;rwa [List.take_length] at this)
   clear hHW BU hfr2;go_wp2_with fail
   clear BV;have JI:=aa (show wr.heap[w.heap.size]? =_/\wr.heap[w.heap.size+1]? =_/\aH 1 wr (.slice o5 h.turns.length c5) h.turns.length (ag h.turns)/\(∀g,(Value.slice o5 h.turns.length c5).ownBlock=some g->g<wr.heap.size/\g≠b3/\w.heap.size+2<=g) from
    ⟨(HK.o.2.2.2.2 w.heap.size ϑ ϑ).trans JE.o.1,(HK.o.2.2.2.2 (w.heap.size+1) ϑ ϑ).trans JE.o.2.1,
      HT3.o.1.kept (fun b off n c hv _=>HK.o.2.2.2.2 b (HT3.o.2 b (by rw[hv];rfl)).1 (HT3.o.2 b (by rw[hv];rfl)).2.1),fun g hg=>⟨by have:=(HT3.o.2 g hg).1;have:=HK.o.2.2.2.1;omega,(HT3.o.2 g hg).2⟩⟩)
   have HWN:=aa (show ∀g,(Value.slice oo h.bJ.length oc).ownBlock=some g->g<wr.heap.size/\g≠b3 from fun g hg=>⟨(aS HWT.o g hg).2,by have:=(aS HWT.o g hg).1;omega⟩);have HK4:=aa (show wr.heap[b3]? =_/\Ϙ w wr from⟨HK.o.1,HK.o.2.2.1⟩);have Ω:b3<wr.heap.size:=by have:=HK.o.2.2.2.1;omega
   clear JE HT3 ζ HK BS Dy Ξ hk WG;obtain⟨W4,rfl⟩: ∃W4:World,W4=wr:=⟨_,rfl⟩;go_loopw [5] (fun u wq=> ∃k:Nat,k<=h.readings.length/\u= .int .i64 k/\ ∃o2 c2,wq.heap[b3]? =some (.cells #[iv h.last,iv h.size,iv h.aZ,iv h.die,iv h.ny,iv h.start.1,iv h.start.2,.slice oo h.bJ.length oc,.slice o5 h.turns.length c5,.slice o2 k c2] 55 (0,0))/\
    wq.ownsRow W4.heap.size 190 3 (.slice o2 k c2) k (aK (h.readings.take k))/\Ϙ w wq/\W4.heap.size<=wq.heap.size/\ ∀c,c<W4.heap.size->c≠b3->wq.heap[c]? =W4.heap[c]?) (fun u _=>h.readings.length-(intOf u).toNat)
   case atStart=>exact⟨0,bE _,rfl,none,0,HK4.o.1,⟨rfl,.inl ⟨rfl,rfl⟩⟩,HK4.o.2,ah _,fun _ _ _=>rfl⟩
   case round=>
    obtain⟨k,hk,rfl,o2,c2,ZX,Gm,hB,hsw,Oa⟩:=hrel;obtain⟨BV,_,BS⟩:=ae ((Oa w.heap.size ϑ ϑ).trans JI.o.1);obtain⟨BU,hfr2,Dy⟩:=ae ZX;have WM:=HX.o.below hB (ah _);have HK:=aa (af ZX (af Gm (af hB (af hsw Oa))));clear ZX Gm hB hsw Oa;by_cases Ξ:k<h.readings.length
    ·obtain⟨b,off,rfl,δ,d1,d2,d3⟩:=aU.cell WM Ξ;have oK:(k:Int)<h.readings.length:=ϑ;have htk:aK (h.readings.take (k+1))=aK (h.readings.take k)++aK [h.readings[k]]:=by
      rw[eG Ξ,vW]
     clear WM;generalize h.readings[k]=x at*
     have yG:=aa htk;clear htk;have HE6:=aa (show Ext [] wr ((wr.alloc (.cells #[iv x.1,iv x.2.1,iv x.2.2] 199)).alloc (.cells #[iv x.1,iv x.2.1,iv x.2.2] 190)) from Ext.ax (((aF _ _).alloc (ah _) _).alloc ϕ _));have Pz:=aa (az (Ms:=[]) HK.o.2.1 HE6.o ϕ);have hsw:=HK.o.2.2.2.1;go_wp2_with (at_builtin;go_loud (refine cZ rfl _ _ UE rfl W4.heap.size (.slice o2 k c2) k (aK (h.readings.take k)) rfl Pz.o (.slice (some ⟨wr.heap.size+1,0,none⟩) 1 1) 1 (aK [x]) rfl (aH.bI 3 1 (dm _ _ _) rfl ϖ) (mJ _) ϑ ϑ ϗ ?_))
     intro v' W6 uX Ol _;obtain⟨o7,c7,rfl⟩:=aM uX;have HP:=aa (qa (i:=9) (u:= .slice o7 (k+1) c7) HK.o.2.2.1 HK.o.2.1 HE6.o uX Ol hsw Ω ϑ HK.o.1);obtain⟨ajG,ajz,aiU⟩:=ae (((jO HK.o.2.2.1 HK.o.2.1 HE6.o uX Ol ϑ hsw).2.2 b3 Ω).trans HK.o.1);exact zcJ
    ·obtain rfl:k=h.readings.length:=ϑ;clear WM;have μ:=(HK.o.2.2.2.2 (w.heap.size+1) ϑ ϑ).trans JI.o.2.1;obtain⟨acf,acb,abT⟩:=ae μ;have zR:=aa μ;clear μ;go_wp2_with fail
     refine bodyPost_ret (v:=hv h (.slice oo h.bJ.length oc) (.slice o5 h.turns.length c5) (.slice o2 h.readings.length c2)) (results_cell_row Tryz.results52 _ _ (w.heap.size+1) _ _ (0,0) _ rfl (YH zR.o _ _ _ _ _ _ _ _ _ _) Tryz.underlying55 rfl ϰ) rfl ?_;refine⟨_,_,_,rfl,?_,?_,?_,Q4 ϑ HK.o.2.2.1 _ _ _ _ _ _ _ _ _ _,fun g hg=>by have:=(aS HWT.o g hg).1;omega,fun g hg=>by have:=(JI.o.2.2.2 g hg).2.2;omega,fun g hg=>by have:=(aS HK.o.2.1 g hg).1;omega⟩
     ·refine(aH.bY HWT.o).kept fun b off n c hv _=>?_;have hg:=HWN.o b (by rw[hv];rfl);have hge:=(aS HWT.o b (by rw[hv];rfl)).1;exact(Ae ϑ _ _ _ _ _ _ _ _ _ _).trans (HK.o.2.2.2.2 b hg.1 hg.2)
     ·refine JI.o.2.2.1.kept fun b off n c hv _=>?_;have hg:=JI.o.2.2.2 b (by rw[hv];rfl);exact(Ae (by have:=hg.2.2;omega) _ _ _ _ _ _ _ _ _ _).trans (HK.o.2.2.2.2 b hg.1 hg.2.1)
     ·have:=HK.o.2.1;rw[List.take_length] at this;refine aH.bY (bT this fun g hg=>Ae ?_ _ _ _ _ _ _ _ _ _ _);have:=(aS HK.o.2.1 g hg).1;omega
end Go.Proofs.Z.gZ
end
section
namespace Go.Proofs.Z.Bk
open Go.Lib Go.RowKit Go.RG Go.SL Go.Shelf gK Go.TB Go.Proofs.Z.xC
theorem JV (r:dF) (w:World):Ϝ 88 #[rv r] w (PV (rv r) w):=by
 go_enter Tryz.func88,Tryz.ntmps88;exact zbl
theorem NQ (l:List Int) (v:Value) (w:World) (h:aL w v l) (hl:l.length<=1000):Ϝ 89 #[v] w (agW l w):=by
 obtain⟨o,c,rfl⟩:=h.open;have HH:=aa h;clear h;go_enter Tryz.func89,Tryz.ntmps89;go_wp2_with (at_builtin;refine JM (by first|rfl|(simp[Region.wanted,yielded];done)) _ _ rfl rfl (av w (.cells #[] 3)) l _ rfl (HH.o.alloc _) hl ?_)
 intro po pc X hpo hpb;have HX:=aa (af hpo ((ai (aF w.heap.size w) (.cells #[] 3)).trans hpb));clear hpo hpb;go_wp2_with fail
 go_returns;exact⟨_,by simp,HX.o.1,HX.o.2⟩
theorem Les.set {base:Nat} {v:Value} {es:List LE} {W:World} (h:Les base v es W) {b i:Nat} {u:Value} (hb:b<base):Les base v es (W.setCell ⟨b,i,none⟩ u):=
 ⟨az (Ms:=[b]) h.row (jo W ⟨b,i,none⟩ u) (by simpa using hb),fun e he=>⟨az (Ms:=[b]) (h.each e he).1 (jo W ⟨b,i,none⟩ u) (by simpa using hb),(h.each e he).2⟩⟩
theorem Fv (l:List EU) (t:EU):dI (l++[t])=dI l++dI [t]:=by simp[dI]
theorem ad5:fU Tryz.prog 58 192 (JF (false,0,(0,0))) 4 32:=⟨Tryz.underlying58,by kernel_rfl,rfl,by omega⟩
def aea (B:Nat) (t:TypeId):RG.Spec:=⟨fun _ v=> ∃b:Nat,v= .slice (some ⟨b,0,none⟩) 1 1,fun xs v W=> ∃b:Nat,v= .slice (some ⟨b,0,none⟩) 1 1/\B<=b/\W.heap[b]? =some (.cells #[xs.getD 0 undef] t (0,0))⟩
def agX (c:bF) (w:World) (e:Ending) (W:World):Prop:=Ϙ w W/\ ∃u k t es,e= .returned (kv u k t)/\lh W u k t es c/\(∀g,u.ownBlock=some g->w.heap.size<=g)/\(∀g,k.ownBlock=some g->w.heap.size<=g)/\(∀g,t.ownBlock=some g->w.heap.size<=g)/\ ∀e∈es, ∀g,e.1.ownBlock=some g->w.heap.size<=g
theorem PN (c:bF) (ht' kP tv:Value) (es:List KE) (w:World) (hc:lh w ht' kP tv es c) (h1:c.heaps.length<=1000) (h2:es.length<=1000) (h3:c.aI.length<=1000) (h4: ∀e∈es,e.2.length<=1000):
 Ϝ 53 #[kv ht' kP tv] w (agX c w):=by
 obtain⟨ho,hc0,rfl⟩:=hc.heaps.open;obtain⟨ko,kc,rfl⟩:=hc.aQ.open;obtain⟨qo,tc,rfl⟩:=aH.open hc.aI;have HC:=aa (fun W (hb:Ϙ w W)=>hc.below hb (ah _));have HL4:=aa h4;have HIS:=aa hc.is;obtain⟨H,hH⟩: ∃H,c.heaps=H:=⟨_,rfl⟩;obtain⟨T,hT⟩: ∃T,c.aI=T:=⟨_,rfl⟩;have HHT:=aa (af hH hT);rw[hH] at HC h1;rw[hT] at HC h3;rw[hH,hT];have HCH:Hid (∀W,Ϙ w W->bD W (.slice ho H.length hc0) H):=aa (fun W hb=>by rw[<-hH];have:=(hc.below hb (ah _)).heaps;rwa [hH] at this⊢)
 have HCT:Hid (∀W,Ϙ w W->pF W (.slice qo T.length tc) T):=aa (fun W hb=>by rw[<-hT];have:=(hc.below hb (ah _)).aI;rwa [hT] at this⊢)
 have Yf:Hid (∀W,Ϙ w W->sF W (.slice ko es.length kc) es):=aa (fun W hb=>(hc.below hb (ah _)).aQ);clear hc h4 HC hH hT;go_enter Tryz.func53,Tryz.ntmps53;go_upto_region 2 with(fail)
 refine bU fun W3 φ=>?_;have hB3:Ϙ w W3:=by rw[φ];exact zl
 have Ca:W3.heap[w.heap.size]? =some (.cells #[.slice ho H.length hc0,.slice ko es.length kc,.slice qo T.length tc] 91 (0,0)):=by
  rw[φ];exact(heap_alloc_old _ _ ϗ).trans ((heap_alloc_old _ _ ϕ).trans (av _ _))
 have hA1:W3.heap[w.heap.size+1]? =some (.cells #[.slice none 0 0,.slice none 0 0,.slice none 0 0] 60 (0,0)):=by
  rw[φ];exact(heap_alloc_old _ _ ϕ).trans (dm _ _ _)
 have hA2:W3.heap[w.heap.size+2]? =some (.cells #[.slice none 0 0,.slice none 0 0,.slice none 0 0] 60 (0,0)):=by
  rw[φ];exact fM _ _ _ _
 have hs3:w.heap.size+2<W3.heap.size:=by rw[φ];simp
 have HA:=aa (af Ca (af hA1 (af hA2 hB3)));clear φ hB3 Ca hA1 hA2;go_wp2_with fail
 go_loopw [4] (fun u wr=> ∃k:Nat,k<=H.length/\u= .int .i64 k/\ ∃oo oc,wr.heap[w.heap.size+2]? =some (.cells #[.slice oo k oc,.slice none 0 0,.slice none 0 0] 60 (0,0))/\
  wr.ownsRow W3.heap.size 129 2 (.slice oo k oc) k (aB (H.take k))/\Ϙ w wr/\W3.heap.size<=wr.heap.size/\ ∀c,c<W3.heap.size->c≠w.heap.size+2->wr.heap[c]? =W3.heap[c]?) (fun u _=>H.length-(intOf u).toNat)
 case atStart=>exact⟨0,bE _,rfl,none,0,HA.o.2.2.1,⟨rfl,.inl ⟨rfl,rfl⟩⟩,HA.o.2.2.2,ah _,fun _ _ _=>rfl⟩
 case round=>
  obtain⟨k,hk,rfl,oo,oc,ZX,Gm,hB,hsw,Oa⟩:=hrel;obtain⟨BV,I9,BS⟩:=ae ((Oa w.heap.size ϑ ϑ).trans HA.o.1);obtain⟨BU,hfr2,Dy⟩:=ae ZX;have hHW:=HCH.o wr hB;have HK:=aa (af ZX (af Gm (af hB (af hsw Oa))));clear ZX Gm hB hsw Oa;by_cases Ξ:k<H.length
  ·obtain⟨b,off,rfl,δ,d1,d2⟩:=bD.cell hHW Ξ;have oK:(k:Int)<H.length:=ϑ;have htk:aB (H.take (k+1))=aB (H.take k)++aB [H[k]]:=by
    rw[eG Ξ,jJ]
   clear hHW;generalize H[k]=x at*
   have yG:=aa htk;clear htk;go_wp2_with fail
   refine zg 9 [] none [(7,Spec.val (rv x)),(8,Spec.slice wr.heap.size #[iv x.1,iv x.2] 129 1)] ?_;simp only[zt];repeat ((first|refine zn ?_|refine zk ?_);simp only[zp])
   refine zw 88 (h:=fun W hE hF=>by exact JV x W) (t:=?_);simp only[zp];refine cB wr.heap.size _ _ _ ϱ (ah _) ϱ ϕ ϕ (fun W hW=>by go_simp;try rfl) (fun b8=>?_);simp only[zp];intro W5 BD Ov;have pV:Ext [] wr W5:=BD;obtain⟨QC,tN,Sv,mQ⟩:=Ov _ (aW _);cases tN;have Ih:=aa pV;have TU:=aa mQ;have Pz:=aa (az (Ms:=[]) HK.o.2.1 pV ϕ);have hz5:=pV.size;have hsw:=HK.o.2.2.2.1;clear BD Ov pV mQ;go_wp2_with (at_builtin;go_loud (refine cZ rfl _ _ tKR rfl W3.heap.size (.slice oo k oc) k (aB (H.take k)) rfl Pz.o (.slice (some ⟨b8,0,none⟩) 1 1) 1 (aB [x]) rfl (aH.bI 2 1 TU.o rfl ϖ) (kF _) ϑ ϑ ϑ ?_))
   intro v' W6 uX Ol _;obtain⟨o7,c7,rfl⟩:=aM uX;have HP:=aa (qa (i:=0) (u:= .slice o7 (k+1) c7) HK.o.2.2.1 HK.o.2.1 Ih.o uX Ol hsw (show w.heap.size+2<W3.heap.size by omega) ϑ HK.o.1);obtain⟨Wp,Wj,VP⟩:=ae (((jO HK.o.2.2.1 HK.o.2.1 Ih.o uX Ol ϑ hsw).2.2 (w.heap.size+2) ϑ).trans HK.o.1);exact zcJ
  ·obtain rfl:k=H.length:=ϑ;have hWT:wr.ownsRow W3.heap.size 129 2 (.slice oo H.length oc) H.length (aB H):=by have:=HK.o.2.1;rwa [List.take_length] at this
   have HWT:=aa hWT;have HWN:=aa (show ∀g,(Value.slice oo H.length oc).ownBlock=some g->W3.heap.size<=g/\g<wr.heap.size from fun g hg=>aS hWT g hg);have JI:=aa (af ((HK.o.2.2.2.2 w.heap.size ϑ ϑ).trans HA.o.1) (af ((HK.o.2.2.2.2 (w.heap.size+1) ϑ ϑ).trans HA.o.2.1) (af HK.o.1 HK.o.2.2.1)));have hs4:W3.heap.size<=wr.heap.size:=HK.o.2.2.2.1;clear hHW BU hfr2 hWT;go_wp2_with fail
   clear BV I9 BS Dy HK hk Ξ HA;obtain⟨W4,rfl⟩: ∃W4:World,W4=wr:=⟨_,rfl⟩;go_loopw [5] (fun u wq=> ∃k:Nat,k<=es.length/\u= .int .i64 k/\ ∃(o2:Option Addr) (c2:Nat) (ds:List LE),ds.length=k/\ds.map (·.2)=(es.take k).map (·.2)/\
    wq.heap[w.heap.size+2]? =some (.cells #[.slice oo H.length oc,.slice o2 k c2,.slice none 0 0] 60 (0,0))/\Les W4.heap.size (.slice o2 k c2) ds wq/\Ϙ w wq/\W4.heap.size<=wq.heap.size/\
    ∀c,c<W4.heap.size->c≠w.heap.size+2->wq.heap[c]? =W4.heap[c]?) (fun u _=>es.length-(intOf u).toNat)
   case atStart=>exact⟨0,bE _,rfl,none,0,[],rfl,rfl,JI.o.2.2.1,⟨⟨rfl,.inl ⟨rfl,rfl⟩⟩,fun e he=>by cases he⟩,JI.o.2.2.2,ah _,fun _ _ _=>rfl⟩
   case round=>
    obtain⟨k,hk,rfl,o2,c2,ds,hdl,hdm,ZX,afh,hB,hsw,Oa⟩:=hrel;obtain⟨BV,I9,BS⟩:=ae ((Oa w.heap.size ϑ ϑ).trans JI.o.1);obtain⟨BU,hfr2,Dy⟩:=ae ZX;have hHK:=Yf.o wr hB;have HK:=aa (af ZX (af afh (af hB (af hsw Oa))));have HDM:=aa hdm;clear ZX afh hB hsw Oa hdm;by_cases Ξ:k<es.length
    ·obtain⟨b,off,rfl,δ,d1⟩:=hHK.cell Ξ;have oK:(k:Int)<es.length:=ϑ;have hxa:=hHK.2 es[k] (bZ Ξ);have hxl:=HL4.o es[k] (bZ Ξ);have yG:Hid ((es.take (k+1)).map (·.2)=(es.take k).map (·.2)++[es[k].2]):=aa (by rw[eG Ξ,List.map_append];rfl);clear hHK;generalize es[k]=x at*
     obtain⟨xv,xl⟩:=x;simp only at hxa hxl d1 yG;obtain⟨xo,xc,rfl⟩:=aH.open hxa;have HXA:=aa hxa;clear hxa;go_wp2_with fail
     refine zg 9 [] none [(7,⟨fun _ v=> ∃o c,v= .slice o xl.length c,fun _ v Wx=> ∃o c,v= .slice o xl.length c/\Wx.ownsRow wr.heap.size 3 1 (.slice o xl.length c) xl.length (ag xl)⟩),(8,aea wr.heap.size 52)] ?_;simp only[zt];repeat ((first|refine zn ?_|refine zk ?_);simp only[zp])
     refine aY _ ϱ ϱ (by exact⟨.slice none xl.length 0,none,0,rfl⟩) (fun W hE hF=>?_) (fun v Wa Wb ho hE=>?_) (fun v ht'=>?_)
     ·have Iq:Ext [] wr W:=hE;refine bM 89 #[.slice xo xl.length xc] (by go_simp;try rfl) ?_;refine(NQ xl _ W (aH.below HXA.o Iq.below (ah _)) hxl).mono ?_;rintro e W' ⟨v,rfl,ht',hb⟩;exact zch
     ·obtain⟨o,c,ht',h1⟩:=ho;exact⟨o,c,ht',az (Ms:=[]) h1 (show Ext [] Wa Wb from hE) ϕ⟩
     obtain⟨yo,yc,rfl⟩:=ht';simp only[zp];refine aY _ ϱ ϱ (by exact⟨.slice (some ⟨0,0,none⟩) 1 1,0,rfl⟩) (fun W hE hF=>?_) (fun v Wa Wb ho hE=>?_) (fun v ht'=>?_)
     ·have Iq:Ext [] wr W:=hE;exact gH (W':=W.alloc (.cells #[.slice yo xl.length yc] 52)) (.slice (some ⟨W.heap.size,0,none⟩) 1 1) (by go_simp;try rfl) ⟨⟨_,rfl⟩,⟨_,rfl,Iq.size,heap_alloc_new _ _⟩,Ext.ax ((aF _ _).alloc (ah _) _)⟩
     ·obtain⟨b,hb,hle,ο⟩:=ho;exact⟨b,hb,hle,((show Ext [] Wa Wb from hE).block b (aN.1 ο).1 ϕ).trans ο⟩
     obtain⟨b8,rfl⟩:=ht';simp only[zp];intro W5 BD Ov;have pV:Ext [] wr W5:=BD;obtain⟨QC,tN,Sv,mQ⟩:=Ov _ (aW _);cases tN;obtain⟨_,_,he,hyo⟩:=Ov _ (jf _ (aW _));cases he;have Wv:W5.heap[b8]? =some (.cells #[.slice yo xl.length yc] 52 (0,0)):=mQ;have Ih:=aa pV;have TU:=aa Wv;have hrow:wr.ownsRow W4.heap.size 52 1 (.slice o2 k c2) k (rP ds):=by have:=HK.o.2.1.row;rwa [hdl] at this
     have ag3:=aa hrow;have Pz:=aa (az (Ms:=[]) hrow pV ϕ);have HYO:=aa hyo;have hz5:=pV.size;have hsw:=HK.o.2.2.2.1;have HDL:=aa hdl;clear BD Ov pV mQ Wv hyo hrow hdl;go_wp2_with (at_builtin;go_loud (refine cZ rfl _ _ abg rfl W4.heap.size (.slice o2 k c2) k (rP ds) rfl Pz.o (.slice (some ⟨b8,0,none⟩) 1 1) 1 [.slice yo xl.length yc] rfl (aH.bI 1 1 TU.o rfl ϖ) (by intro u hu;simp at hu;subst hu;rfl) ϑ ϑ ϑ ?_))
     intro v' W6 uX Ol hn6;obtain⟨o7,c7,rfl⟩:=aM uX;have HP:=aa (qa (i:=1) (u:= .slice o7 (k+1) c7) HK.o.2.2.1 ag3.o Ih.o uX Ol hsw (show w.heap.size+2<W4.heap.size by omega) ϑ HK.o.1);have HL6:Hid (Les W4.heap.size (.slice o7 (k+1) c7) (ds++[(.slice yo xl.length yc,xl)]) W6):=aa (Vv (e:=(.slice yo xl.length yc,xl)) HK.o.2.1 Ih.o Ol hn6 (by rw[HDL.o];exact uX) HYO.o hsw);obtain⟨Wp,Wj,VP⟩:=ae (((jO HK.o.2.2.1 ag3.o Ih.o uX Ol ϑ hsw).2.2 (w.heap.size+2) ϑ).trans HK.o.1);clear uX Ol hn6;go_wp2_with fail
     go_roundw
     case rel=>
      refine⟨k+1,by omega,by go_num,o7,c7,ds++[(.slice yo xl.length yc,xl)],by rw[cu,HDL.o];rfl,?_,HP.o.2.2.2.1,Les.set HL6.o ϑ,HP.o.1,HP.o.2.1,fun c hc hne=>(HP.o.2.2.2.2 c hc hne).trans (HK.o.2.2.2.2 c hc hne)⟩;rw[yG.o,List.map_append,HDM.o];rfl
     case measure=>simp[intOf];omega
    ·obtain rfl:k=es.length:=ϑ;have afL:ds.map (·.2)=es.map (·.2):=by have:=HDM.o;rwa [List.take_length] at this
     have vE:=aa (af HK.o.2.1 (af hdl (af afL HK.o.2.2.2.2)));have HA5:=aa (af ((HK.o.2.2.2.2 w.heap.size ϑ ϑ).trans JI.o.1) (af ((HK.o.2.2.2.2 (w.heap.size+1) ϑ ϑ).trans JI.o.2.1) (af HK.o.1 HK.o.2.2.1)));have hs5:W4.heap.size<=wr.heap.size:=HK.o.2.2.2.1;clear hHK BU hfr2 afL hdl;go_wp2_with fail
     clear BV I9 BS Dy HK hk Ξ JI HDM;obtain⟨W5,rfl⟩: ∃W5:World,W5=wr:=⟨_,rfl⟩;go_loopw [6] (fun u wq=> ∃k:Nat,k<=T.length/\u= .int .i64 k/\ ∃(o3:Option Addr) (c3:Nat),
      wq.heap[w.heap.size+2]? =some (.cells #[.slice oo H.length oc,.slice o2 es.length c2,.slice o3 k c3] 60 (0,0))/\wq.ownsRow W5.heap.size 192 4 (.slice o3 k c3) k (dI (T.take k))/\Ϙ w wq/\W5.heap.size<=wq.heap.size/\
      ∀c,c<W5.heap.size->c≠w.heap.size+2->wq.heap[c]? =W5.heap[c]?) (fun u _=>T.length-(intOf u).toNat)
     case atStart=>exact⟨0,bE _,rfl,none,0,HA5.o.2.2.1,⟨rfl,.inl ⟨rfl,rfl⟩⟩,HA5.o.2.2.2,ah _,fun _ _ _=>rfl⟩
     case round=>
      obtain⟨k,hk,rfl,o3,c3,ZX,Gm,hB,hsw,Oa⟩:=hrel;obtain⟨BV,I9,BS⟩:=ae ((Oa w.heap.size ϑ ϑ).trans HA5.o.1);obtain⟨BU,hfr2,Dy⟩:=ae ZX;have hHT:=HCT.o wr hB;have HK:=aa (af ZX (af Gm (af hB (af hsw Oa))));clear ZX Gm hB hsw Oa;by_cases Ξ:k<T.length
      ·obtain⟨b,off,rfl,δ,d1,d2,d3,d4⟩:=pF.cell hHT Ξ;have oK:(k:Int)<T.length:=ϑ;have yG:Hid (dI (T.take (k+1))=dI (T.take k)++dI [T[k]]):=aa (by rw[eG Ξ,Fv]);clear hHT;generalize T[k]=x at*
       obtain⟨x0,x1,x2,x3⟩:=x;simp only at d1 d2 d3 d4;go_wp2_with fail
       refine bU fun W6 ug=>?_;have hBW:Ϙ wr W6:=by rw[ug];exact ai (aF _ _) _
       have hX7:W6.heap[wr.heap.size]? =some (.cells #[.bool x0,iv x1,iv x2,iv x3] 202 (0,0)):=by rw[ug];exact av _ _
       obtain⟨hc7,hf7,hs7⟩:=ae hX7;obtain⟨hc2',ajB,zm⟩:=ae ((hBW.block (w.heap.size+2) Dy).trans HK.o.1);have MP:=aa hBW;have hz6:=hBW.size;clear ug hBW hX7 BV I9 BS BU hfr2 d1 d2 d3 d4 δ;refine zg 11 [] none [(8,Spec.val (rv (x2,x3))),(10,Spec.slice W6.heap.size #[.bool x0,iv x1,iv x2,iv x3] 192 1)] ?_;simp only[zt];repeat ((first|refine zn ?_|refine zk ?_);simp only[zp])
       refine zw 88 (h:=fun W hE hF=>by exact JV (x2,x3) W) (t:=?_)
       simp only[zp];repeat ((first|refine zn ?_|refine zk ?_);simp only[zp])
       refine cB W6.heap.size _ _ _ ϱ (ah _) ϱ ϕ ϕ (fun W hW=>by go_simp;try rfl) (fun b8=>?_);simp only[zp];intro W7 oL Yb;have jM:Ext [] W6 W7:=oL;obtain⟨QC,tN,Sv,mQ⟩:=Yb _ (aW _);cases tN;have HE7:Hid (Ext [] wr W7):=aa ((Ext.ax MP.o).trans jM);have TU:=aa mQ;have akK:=aa (az (Ms:=[]) HK.o.2.1 HE7.o ϕ);have hz7:=HE7.o.size;have hsw:=HK.o.2.2.2.1;clear oL Yb jM mQ hc7 hf7 hs7 hc2' ajB;go_wp2_with (at_builtin;go_loud (refine cZ rfl _ _ ad5 rfl W5.heap.size (.slice o3 k c3) k (dI (T.take k)) rfl akK.o (.slice (some ⟨b8,0,none⟩) 1 1) 1 (dI [(x0,x1,(x2,x3))]) rfl (aH.bI 4 1 TU.o rfl ϖ) (CZ _) ϑ ϑ ϑ ?_))
       intro v' W8 tK ab9 _;obtain⟨o8,c8,rfl⟩:=aM tK;have HP:=aa (qa (i:=2) (u:= .slice o8 (k+1) c8) HK.o.2.2.1 HK.o.2.1 HE7.o tK ab9 hsw (show w.heap.size+2<W5.heap.size by omega) ϑ HK.o.1);obtain⟨ao6,aoV,aob⟩:=ae (((jO HK.o.2.2.1 HK.o.2.1 HE7.o tK ab9 ϑ hsw).2.2 (w.heap.size+2) ϑ).trans HK.o.1);clear tK ab9;go_wp2_with fail
       go_roundw
       case rel=>
        refine⟨k+1,by omega,by go_num,o8,c8,HP.o.2.2.2.1,?_,HP.o.1,HP.o.2.1,fun c hc hne=>(HP.o.2.2.2.2 c hc hne).trans (HK.o.2.2.2.2 c hc hne)⟩;rw[yG.o];exact HP.o.2.2.1
       case measure=>simp[intOf];omega
      ·obtain rfl:k=T.length:=ϑ;have μ:=(HK.o.2.2.2.2 (w.heap.size+1) ϑ ϑ).trans HA5.o.2.1;obtain⟨acf,acb,abT⟩:=ae μ;have zR:=aa μ;clear μ hHT;have Β:=aA (o:=2) (aA (o:=1) (aA (o:=0) zR.o (.slice oo H.length oc)) (.slice o2 es.length c2)) (.slice o3 T.length c3);have hEz:=En (w.heap.size+1) [(0,.slice oo H.length oc),(1,.slice o2 es.length c2),(2,.slice o3 T.length c3)] wr;simp only[nC,List.set_cons_succ,List.set_cons_zero] at Β;simp only[List.foldl_cons,List.foldl_nil] at hEz;have HZ:=aa (af Β hEz);clear Β hEz;go_wp2_with fail
       obtain⟨Wz,hWz⟩: ∃Wz,Wz=(((wr.setCell ⟨w.heap.size+1,0,none⟩ (.slice oo H.length oc)).setCell ⟨w.heap.size+1,1,none⟩ (.slice o2 es.length c2)).setCell ⟨w.heap.size+1,2,none⟩ (.slice o3 T.length c3)):=⟨_,rfl⟩;rw[<-hWz];obtain⟨Β,hEz⟩:=HZ.o;rw[<-hWz] at Β hEz;clear hWz HZ;have k1: ∀b,w.heap.size+3<=b->b<W5.heap.size->Wz.heap[b]? =W5.heap[b]? :=fun b h1 h2=>
        (hEz.block b (by have:=HK.o.2.2.2.1;omega) ϗ).trans (HK.o.2.2.2.2 b h2 ϑ)
       have k2: ∀b,w.heap.size+3<=b->b<W4.heap.size->Wz.heap[b]? =W4.heap[b]? :=fun b h1 h2=>(k1 b h1 ϑ).trans (vE.o.2.2.2 b h2 ϑ);refine bodyPost_ret (v:=kv (.slice oo H.length oc) (.slice o2 es.length c2) (.slice o3 T.length c3)) (results_cell_row Tryz.results53 _ _ (w.heap.size+1) _ _ (0,0) _ rfl Β Tryz.underlying60 rfl ϰ) rfl ?_;refine⟨dM HK.o.2.2.1 hEz ϑ,_,_,_,ds,rfl,⟨?_,⟨?_,fun e he=>?_⟩,vE.o.2.2.1.trans HIS.o,?_⟩,fun g hg=>by have:=(HWN.o g hg).1;omega,fun g hg=>by have:=(aS vE.o.1.row g hg).1;omega,fun g hg=>by have:=(aS HK.o.2.1 g hg).1;omega,fun e he g hg=>by have:=(aS (vE.o.1.each e he).1 g hg).1;omega⟩
       ·rw[HHT.o.1];refine(aH.bY HWT.o).kept fun b off n c ht' _=>?_;have:=HWN.o b (by rw[ht'];rfl);exact k2 b ϑ this.2
       ·have hrow:=vE.o.1.row;have hdl:=vE.o.2.1;have h0:aH 1 W5 (.slice o2 es.length c2) ds.length (rP ds):=aH.bY hrow;refine h0.kept fun b off n c ht' _=>?_;have:=aS hrow b (by rw[ht'];rfl);exact k1 b ϑ this.2
       ·have Gm:=(vE.o.1.each e he).1;refine(aH.bY Gm).kept fun b off n c ht' _=>?_;have:=aS Gm b (by rw[ht'];rfl);exact k1 b ϑ this.2
       ·rw[HHT.o.2];have Gm:=az (Ms:=[w.heap.size+1]) HK.o.2.1 hEz ϗ;rw[List.take_length] at Gm;exact aH.bY Gm
theorem uj {k:Nat} {w W:World} {v:Value} {n:Nat} {xs:List Value} (h:aH k w v n xs) {b:Nat} (hE:Ext [b] w W) (hb:v.ownBlock≠some b):aH k W v n xs:=h.ext hE fun x hx=>by obtain rfl:=dX.1 hx;exact hb
theorem aby {a b c x y z:Value} (h:kv a b c=kv x y z):a=x/\b=y/\c=z:=by simpa using h
theorem YY {l:aO} {a b x y:Value} (h:lv l a b=lv l x y):a=x/\b=y:=by simpa using h
theorem Zb {l:bS} {a b c x y z:Value} (h:gZ.hv l a b c=gZ.hv l x y z):a=x/\b=y/\c=z:=by simpa using h
def ac2 (s:iE) (w:World) (e:Ending) (W:World):Prop:=Ϙ w W/\ ∃V es,e= .returned (.agg (bG s V))/\jT W s V es
theorem TH (s:iE) (V:SV) (es:List KE) (w:World) (hS:jT w s V es) (hG:eB s):Ϝ 24 #[.agg (bG s V)] w (ac2 s w):=by
 obtain⟨vt,vn,vw,vu,vr,vh,vk,vs⟩:=V;have HS:Hid (∀W,Ϙ w W->jT W s ⟨vt,vn,vw,vu,vr,vh,vk,vs⟩ es):=aa (fun W hb=>hS.below hb (ah _));have HB:Hid (s.led.field.aj.length<=1000/\s.led.notes.length<=1000/\s.heap.bJ.length<=1000/\s.heap.turns.length<=1000/\s.heap.readings.length<=1000/\s.cK.heaps.length<=1000/\es.length<=1000/\s.cK.aI.length<=1000/\ ∀e∈es,e.2.length<=1000):=aa (by
  have h1:=hG.Ag;have h2:=hG.notes;have h3:=hG.MV;have h4:=hG.reads;have h5:=hG.L8;have h6:=hG.aQ;have h7:=hG.aI;have h8:=hS.cK.len;obtain⟨p,hp⟩:=hG.turns;have h9:s.heap.turns.length<=5:=by
   rw[hp];exact eU (List.length_filter_le _ _) ϕ
  refine⟨by omega,by omega,by omega,by omega,by omega,by omega,by omega,by omega,fun e he=>?_⟩;have:=hG.nI e.2 (by rw[<-hS.cK.is];exact List.mem_map_of_mem he);omega)
 clear hS hG;go_enter Tryz.func24,Tryz.ntmps24;go_wp2_with fail
 refine bU fun W1 ν=>?_;have hB1:Ϙ w W1:=by rw[ν];exact zl
 have Ca:W1.heap[w.heap.size]? =some (.cells (bG s ⟨vt,vn,vw,vu,vr,vh,vk,vs⟩) 93 (0,0)):=by rw[ν];exact(heap_alloc_old _ _ ϕ).trans (av _ _)
 have hA1:W1.heap[w.heap.size+1]? =some (.cells df 62 (0,0)):=by rw[ν];exact dm _ _ _
 have HA:=aa (af hB1 hA1);obtain⟨c0,f0,l0⟩:=ae Ca;have l1:=(ae hA1).2.2;clear hB1 Ca hA1 ν;have HLE:Hid (∀W,Ext [] W1 W->Ϝ 51 #[lv s.led vt vn] W (aa0 s.led W)):=aa (fun W hE=>Po s.led vt vn W (HS.o W (aV HA.o.1 hE.below)).sG (HS.o W (aV HA.o.1 hE.below)).Ky HB.o.1 HB.o.2.1);have HHE:Hid (∀W,Ext [] W1 W->Ϝ 52 #[gZ.hv s.heap vw vu vr] W (gZ.XF s.heap W)):=aa (fun W hE=>gZ.XH s.heap vw vu vr W (HS.o W (aV HA.o.1 hE.below)).bJ (HS.o W (aV HA.o.1 hE.below)).Ab (HS.o W (aV HA.o.1 hE.below)).Al HB.o.2.2.1 HB.o.2.2.2.1 HB.o.2.2.2.2.1);have HCE:Hid (∀W,Ext [] W1 W->Ϝ 53 #[kv vh vk vs] W (agX s.cK W)):=aa (fun W hE=>PN s.cK vh vk vs es W (HS.o W (aV HA.o.1 hE.below)).cK HB.o.2.2.2.2.2.1 HB.o.2.2.2.2.2.2.1 HB.o.2.2.2.2.2.2.2.1 HB.o.2.2.2.2.2.2.2.2);refine zg 9 [] none [(2,⟨fun _ v=> ∃a b,v=lv s.led a b/\(∀g,a.ownBlock=some g->W1.heap.size<=g)/\ ∀g,b.ownBlock=some g->W1.heap.size<=g,fun _ v W=> ∃a b,v=lv s.led a b/\cz W a s.led.field.aj/\aU W b s.led.notes⟩),(5,⟨fun _ v=> ∃a b c,v=gZ.hv s.heap a b c/\(∀g,a.ownBlock=some g->W1.heap.size<=g)/\(∀g,b.ownBlock=some g->W1.heap.size<=g)/\ ∀g,c.ownBlock=some g->W1.heap.size<=g,fun _ v W=> ∃a b c,v=gZ.hv s.heap a b c/\bD W a s.heap.bJ/\aL W b s.heap.turns/\aU W c s.heap.readings⟩),(8,⟨fun _ v=> ∃a b c,v=kv a b c/\(∀g,a.ownBlock=some g->W1.heap.size<=g)/\(∀g,b.ownBlock=some g->W1.heap.size<=g)/\ ∀g,c.ownBlock=some g->W1.heap.size<=g,fun _ v W=> ∃a b c es,v=kv a b c/\lh W a b c es s.cK/\ ∀e∈es, ∀g,e.1.ownBlock=some g->W1.heap.size<=g⟩)] ?_;simp only[zt];repeat ((first|refine zn ?_|refine zk ?_);simp only[zp])
 refine aY _ ϱ ϱ (by exact⟨lv s.led (.slice none 0 0) (.slice none 0 0),_,_,rfl,fun g h=>by(cases h),fun g h=>by(cases h)⟩) (fun W hE hF=>?_) (fun v Wa Wb ho hE=>?_) (fun v hv=>?_)
 ·have Iq:Ext [] W1 W:=hE;refine bM 51 #[lv s.led vt vn] (by go_simp;try rfl) ?_;refine(HLE.o W Iq).mono ?_;rintro e W' ⟨a,b,rfl,ha,hb,hB,h1,h2⟩;exact⟨_,rfl,⟨a,b,rfl,fun g hg=>eU Iq.size (h1 g hg),fun g hg=>eU Iq.size (h2 g hg)⟩,⟨a,b,rfl,ha,hb⟩,Ext.ax hB⟩
 ·obtain⟨a,b,h0,ha,hb⟩:=ho;have Iq:=(show Ext [] Wa Wb from hE).below;exact⟨a,b,h0,ha.below Iq (ah _),hb.below Iq (ah _)⟩
 obtain⟨a2,b2,rfl,x2,y2⟩:=hv;have zX:=aa (af x2 y2);clear x2 y2;simp only[zp];repeat ((first|refine zn ?_|refine zk ?_);simp only[zp])
 refine aY _ ϱ ϱ (by exact⟨gZ.hv s.heap (.slice none 0 0) (.slice none 0 0) (.slice none 0 0),_,_,_,rfl,fun g h=>by(cases h),fun g h=>by(cases h),fun g h=>by(cases h)⟩) (fun W hE hF=>?_) (fun v Wa Wb ho hE=>?_) (fun v hv=>?_)
 ·have Iq:Ext [] W1 W:=hE;refine bM 52 #[gZ.hv s.heap vw vu vr] (by go_simp;try rfl) ?_;refine(HHE.o W Iq).mono ?_;rintro e W' ⟨a,b,c,rfl,ha,hb,hc,hB,h1,h2,h3⟩;exact⟨_,rfl,⟨a,b,c,rfl,fun g hg=>eU Iq.size (h1 g hg),fun g hg=>eU Iq.size (h2 g hg),fun g hg=>eU Iq.size (h3 g hg)⟩,⟨a,b,c,rfl,ha,hb,hc⟩,Ext.ax hB⟩
 ·obtain⟨a,b,c,h0,ha,hb,hc⟩:=ho;have Iq:=(show Ext [] Wa Wb from hE).below;exact⟨a,b,c,h0,ha.below Iq (ah _),hb.below Iq (ah _),hc.below Iq (ah _)⟩
 obtain⟨a5,b5,c5,rfl,x5,y5,z5⟩:=hv;have HO5:=aa (af x5 (af y5 z5));clear x5 y5 z5;simp only[zp];repeat ((first|refine zn ?_|refine zk ?_);simp only[zp])
 refine aY _ ϱ ϱ (by exact⟨kv (.slice none 0 0) (.slice none 0 0) (.slice none 0 0),_,_,_,rfl,fun g h=>by(cases h),fun g h=>by(cases h),fun g h=>by(cases h)⟩) (fun W hE hF=>?_) (fun v Wa Wb ho hE=>?_) (fun v hv=>?_)
 ·have Iq:Ext [] W1 W:=hE;refine bM 53 #[kv vh vk vs] (by go_simp;try rfl) ?_;refine(HCE.o W Iq).mono ?_;rintro e W' ⟨hB,a,b,c,ds,rfl,hc,h1,h2,h3,h4⟩;exact⟨_,rfl,⟨a,b,c,rfl,fun g hg=>eU Iq.size (h1 g hg),fun g hg=>eU Iq.size (h2 g hg),fun g hg=>eU Iq.size (h3 g hg)⟩,⟨a,b,c,ds,rfl,hc,fun e he g hg=>eU Iq.size (h4 e he g hg)⟩,Ext.ax hB⟩
 ·obtain⟨a,b,c,ds,h0,hc,h4⟩:=ho;exact⟨a,b,c,ds,h0,hc.below (show Ext [] Wa Wb from hE).below (ah _),h4⟩
 obtain⟨a8,b8,c8,rfl,x8,y8,z8⟩:=hv;have Yc:=aa (af x8 (af y8 z8));clear x8 y8 z8;simp only[zp];intro W2 hE hF;have Iq:Ext [] W1 W2:=hE;obtain⟨_,_,_,ds,he,Lb,hds⟩:=hF _ (aW _);obtain⟨rfl,rfl,rfl⟩:=aby he;obtain⟨_,_,_,he,hw1,hw2,hw3⟩:=hF _ (jf _ (aW _));obtain⟨rfl,rfl,rfl⟩:=Zb he;obtain⟨_,_,he,ht1,ht2⟩:=hF _ (jf _ (jf _ (aW _)));obtain⟨rfl,rfl⟩:=YY he;have hS2:jT W2 s ⟨a2,b2,a5,b5,c5,a8,b8,c8⟩ ds:=⟨ht1,ht2,hw1,hw2,hw3,Lb⟩;have hk2:=(Iq.block _ l1 ϕ).trans HA.o.2;have hB2:=aV HA.o.1 Iq.below;clear hE hF c0 f0;refine aC rfl _ (by go_simp;first|rfl|exact⟨rfl,rfl⟩) ?_;simp only[zp];refine wpList_store_row rfl _ _ _ rfl (w.heap.size+1) (bG s ⟨a2,b2,a5,b5,c5,a8,b8,c8⟩) ϰ ϰ _ df hk2 ϰ ϰ (by rw[jk];exact fun u hu=>fC hS2 u (jS.2 hu)) ?_
 simp only[zp];refine gm fun W3 φ=>?_;have kX:Ext [w.heap.size+1] W2 W3:=by rw[φ];exact dz
 have hk3:W3.heap[w.heap.size+1]? =some (.cells (bG s ⟨a2,b2,a5,b5,c5,a8,b8,c8⟩) 62 (0,0)):=by rw[φ];exact setRow_heap _ _ _ _ _ _ hk2
 clear φ;go_wp2_with fail
 refine bodyPost_ret (v:= .agg (bG s ⟨a2,b2,a5,b5,c5,a8,b8,c8⟩)) (results_cell_row Tryz.results24 _ _ (w.heap.size+1) _ _ (0,0) _ rfl hk3 Tryz.underlying62 rfl ϰ) rfl ?_;have hne: ∀{v:Value},(∀g,v.ownBlock=some g->W1.heap.size<=g)->v.ownBlock≠some (w.heap.size+1):=fun h e=>by have:=h _ e;omega
 exact⟨dM hB2 kX ϑ,_,ds,rfl,⟨uj hS2.sG kX (hne zX.o.1),uj hS2.Ky kX (hne zX.o.2),uj hS2.bJ kX (hne HO5.o.1),uj hS2.Ab kX (hne HO5.o.2.1),uj hS2.Al kX (hne HO5.o.2.2),
  ⟨uj hS2.cK.heaps kX (hne Yc.o.1),⟨uj hS2.cK.aQ.1 kX (hne Yc.o.2.1),fun e he=>uj (hS2.cK.aQ.2 e he) kX (hne (hds e he))⟩,hS2.cK.is,uj hS2.cK.aI kX (hne Yc.o.2.2)⟩⟩⟩
theorem sO (ls:List ay) (n:Nat) (hn:ls.length=n) (h0:n<=100) (W0 W:World) (hW:W=W0.alloc (.cells (bz ls).toArray 9)):iK W (.slice (some ⟨W0.heap.size,0,none⟩) n n) ls:=by
 subst hn;have hk:W.heap[W0.heap.size]? =some (.cells (bz ls).toArray 9 (0,0)):=by rw[hW];exact av _ _
 exact aH.bI 1 ls.length hk (by simp[bz]) (by simp only[maxLen];omega)
theorem Cr (ls:List ay) (n:Nat) (hn:ls.length=n) (h0:n<=100) (W0 W:World) (hW:W=W0.alloc (.cells (bz ls).toArray 9)):
 Ϝ 19 #[.slice (some ⟨W0.heap.size,0,none⟩) n n] W (Ia (fO++ls) W):=
 Cs ls _ W (sO ls n hn h0 W0 W hW) ϑ
theorem RO (n:Nat) (hn:n<=1000) (W:World):
 (Instr.makeSlice 22 (iv n) (iv n)).run Tryz.prog W= .ok (.slice (some ⟨W.heap.size,0,none⟩) n n) (W.alloc (.cells (bz (List.replicate n [])).toArray 9)):=by
 obtain⟨i,hi,hz,hs,hby⟩:=info_parts Gd.info;have:=run_make (P:=Tryz.prog) W 22 9 i (.string (dS [])) Gd.und hi hz .i64 .i64 n n ϑ (Int.le_refl _) (by rw[hby];omega) ϑ;rw[this,hs];simp only[Int.toNat_natCast];congr 3;apply Array.ext
 ·simp[madeCells,bz]
 ·intro j h1 h2;simp[madeCells,Value.cells,bz];rw[Nat.mod_one];rfl
theorem YM (W:World) (C D:Array Value) (hC:C=(Lib.byteCells wJ).toArray) (hD:D=(bz vY).toArray) (hE:Env ((W.alloc (.cells C 5 (14,15))).alloc (.cells D 9))):
 Ϝ 27 #[.slice (some ⟨W.heap.size,0,none⟩) 14 14,.slice (some ⟨W.heap.size+1,0,none⟩) 2 2] ((W.alloc (.cells C 5 (14,15))).alloc (.cells D 9)) (QK (eD vY) wJ vY ((W.alloc (.cells C 5 (14,15))).alloc (.cells D 9))):=by
 subst hC hD;have h1:aH 1 (W.alloc (.cells (Lib.byteCells wJ).toArray 5 (14,15))) (.slice (some ⟨W.heap.size,0,none⟩) 14 14) 14 (Lib.byteCells wJ):=bytes_at (heap_alloc_new W _) rfl ϖ;have h2:=sO vY 2 rfl ϖ (W.alloc (.cells (Lib.byteCells wJ).toArray 5 (14,15))) _ rfl;rw[bA] at h2;exact Ph wJ _ vY _ _ (h1.alloc _) ϖ h2 ϖ hE
theorem YN (W:World) (C:Array Value) (hC:C=(Lib.byteCells Jr).toArray):Ϝ 12 #[.slice (some ⟨W.heap.size,0,none⟩) 20 20] (W.alloc (.cells C 5 (20,21))) (Mt Jr (W.alloc (.cells C 5 (20,21)))):=by
 subst hC;exact BN Jr _ _ (bytes_at (heap_alloc_new W _) rfl ϖ) ϖ
theorem F5 (w:World) (hE:Env w):Ϝ 6 #[] w (PV (.bool true) w):=by
 have HE:Hid (∀W,Ϙ w W->Env W):=aa (fun W hb=>hE.below hb (ah _));have XP:=aa (fun W (hb:Ϙ w W)=>Mj W (hE.below hb (ah _)));clear hE;go_enter Tryz.func6,Tryz.ntmps6;go_wp2_with fail
 refine(Cr oW 18 rfl ϖ w _ rfl).mono ?_;rintro e W1 ⟨o1,c1,rfl,ho1,δ⟩;have R9:=aa (aV (ai (aF w.heap.size w) _) δ);have HL1:=aa (aH.bY ho1);clear δ ho1;go_wp2_with fail
 refine(qZ (.slice o1 (fO++oW).length c1) (fO++oW) W1 (HL1.o) (HE.o W1 R9.o) (NI.1) [] ϕ).mono ?_;rintro e Pd ⟨κ,Va,esa,cv,he,hX,hC⟩;subst he;obtain⟨coa,Tf,rfl⟩:=aM hC;have hs2:=κ.size;have hS2:=hX Pd (Ext.refl _ _);rename_i hK;refine hK _ _ ?_;refine aC rfl _ (by go_simp;first|rfl|exact⟨rfl,rfl⟩) ?_;simp only[zp];refine aC rfl _ (by go_simp;first|rfl|exact⟨rfl,rfl⟩) ?_;simp only[zp];refine aC rfl _ (by go_simp;first|rfl|exact⟨rfl,rfl⟩) ?_;simp only[zp];refine aC rfl _ (by go_simp;first|rfl|exact⟨rfl,rfl⟩) ?_;simp only[zp];obtain⟨ga,hg⟩: ∃g,g=Pd.heap.size:=⟨_,rfl⟩;refine aC rfl (w':=Pd.alloc (.cells df 62 (0,0))) (.pointer (some ⟨ga,0,none⟩)) (by rw[hg];go_simp;try rfl) ?_;simp only[zp];have hz2:(Pd.alloc (.cells df 62 (0,0))).heap[ga]? =some (.cells df 62 (0,0)):=by rw[hg];exact av _ _
 refine wpList_store_row rfl _ _ _ rfl ga (bG (fV (fO++oW)) Va) ϰ ϰ _ df hz2 ϰ ϰ (by rw[jk];exact fun u hu=>fC hS2 u (jS.2 hu)) ?_
 simp only[zp];refine gm fun Hy φ=>?_;obtain⟨uQ,jL⟩: ∃uQ,uQ=Pd.alloc (.cells df 62 (0,0)):=⟨_,rfl⟩;rw[<-jL] at φ hz2;have kX:Ext [ga] uQ Hy:=by rw[φ];exact dz
 have hs3:=kX.size;have zm:uQ.heap.size=ga+1:=by rw[jL,hg];simp
 have kN:Ϙ Pd Hy:=fu (by rw[jL];exact ai (aF _ _) _) kX ϑ
 have Wd:Hy.heap[ga]? =some (.cells (bG (fV (fO++oW)) Va) 62 (0,0)):=by rw[φ];exact setRow_heap _ _ _ _ _ _ hz2
 have Γ:=aV κ kN;have afG:W1.heap.size<=ga:=ϑ;have afC:ga<Hy.heap.size:=ϑ;have H3a:=aa (af Γ (af Wd (af (hS2.below kN (ah _)) (aH.bY (az (Ms:=[]) hC (Ext.ax kN) ϕ)))));clear hX hC φ jL kX kN κ hS2 hz2 hK hs2 hs3 zm hg Γ;have Ι:aH 1 Hy (.slice coa (pM (fO++oW)).length Tf) (pM (fO++oW)).length (ag (pM (fO++oW))):=H3a.o.2.2.2;have Uy:=aa (aV R9.o H3a.o.1);rw[YW] at Ι⊢;rw[om.1];simp only[Cn,List.length_cons,List.length_nil,Nat.reduceAdd] at Ι⊢;have HC2:=aa Ι;clear Ι H3a Wd;go_wp2_with fail
 refine(Cr yU 1 rfl ϖ Hy _ rfl).mono ?_;rintro e W4 ⟨o4,c4,rfl,ho4,Ω⟩;have AA:=aV (ai (aF Hy.heap.size Hy) _) Ω;have gJ:=aa (aV Uy.o AA);have HC4:=aa (aH.below HC2.o AA (ah _));have HR4:=aa (yF _ (fO++yU) W4 (aH.bY ho4) (HE.o W4 gJ.o) NI.2);clear Ω ho4 AA R9 HL1 HC2 afG afC;go_wp2_with fail
 refine HR4.o.mono ?_;rintro e W5 ⟨hb5,rfl⟩;rw[Vm,om.2.1];have lM:=aa (aV gJ.o hb5);have HC5:=aa (aH.below HC4.o hb5 (ah _));clear hb5 HR4 HC4 gJ;go_wp2_with fail
 refine(Cr yU 1 rfl ϖ W5 _ rfl).mono ?_;rintro e W6 ⟨o6,c6,rfl,K6,hb6⟩;have Ot:=aV (ai (aF W5.heap.size W5) _) hb6;have nJ:=aa (aV lM.o Ot);have HC6:=aa (aH.below HC5.o Ot (ah _));have HR6:=aa (AZ _ (fO++yU) W6 (aH.bY K6) (HE.o W6 nJ.o) NI.2);clear hb6 K6 Ot HC5 lM;go_wp2_with fail
 refine HR6.o.mono ?_;rintro e W7 ⟨uY,u7,rfl,_⟩;rw[abq];have xM:=aa (aV nJ.o uY);have HC7:=aa (aH.below HC6.o uY (ah _));clear uY HR6 HC6 nJ;go_wp2_with fail
 refine(qZ (.slice none 0 0) ([]) W7 (aH.nil 1 W7) (HE.o W7 xM.o) ((fun l h=>by cases h)) [] ϕ).mono ?_;rintro e W2b ⟨κ,Vb,esb,cv,he,hX,hC⟩;subst he;obtain⟨cob,ccb,rfl⟩:=aM hC;have hs2:=κ.size;have hS2:=hX W2b (Ext.refl _ _);rename_i hK;refine hK _ _ ?_;refine aC rfl _ (by go_simp;first|rfl|exact⟨rfl,rfl⟩) ?_;simp only[zp];refine aC rfl _ (by go_simp;first|rfl|exact⟨rfl,rfl⟩) ?_;simp only[zp];refine aC rfl _ (by go_simp;first|rfl|exact⟨rfl,rfl⟩) ?_;simp only[zp];refine aC rfl _ (by go_simp;first|rfl|exact⟨rfl,rfl⟩) ?_;simp only[zp];obtain⟨gb,hg⟩: ∃g,g=W2b.heap.size:=⟨_,rfl⟩;refine aC rfl (w':=W2b.alloc (.cells df 62 (0,0))) (.pointer (some ⟨gb,0,none⟩)) (by rw[hg];go_simp;try rfl) ?_;simp only[zp];have hz2:(W2b.alloc (.cells df 62 (0,0))).heap[gb]? =some (.cells df 62 (0,0)):=by rw[hg];exact av _ _
 refine wpList_store_row rfl _ _ _ rfl gb (bG (fV ([])) Vb) ϰ ϰ _ df hz2 ϰ ϰ (by rw[jk];exact fun u hu=>fC hS2 u (jS.2 hu)) ?_
 simp only[zp];refine gm fun QG φ=>?_;obtain⟨uQ,jL⟩: ∃uQ,uQ=W2b.alloc (.cells df 62 (0,0)):=⟨_,rfl⟩;rw[<-jL] at φ hz2;have kX:Ext [gb] uQ QG:=by rw[φ];exact dz
 have hs3:=kX.size;have zm:uQ.heap.size=gb+1:=by rw[jL,hg];simp
 have kN:Ϙ W2b QG:=fu (by rw[jL];exact ai (aF _ _) _) kX ϑ
 have afu:QG.heap[gb]? =some (.cells (bG (fV ([])) Vb) 62 (0,0)):=by rw[φ];exact setRow_heap _ _ _ _ _ _ hz2
 have Γ:=aV κ kN;have ajy:W7.heap.size<=gb:=ϑ;have afB:gb<QG.heap.size:=ϑ;have H3b:=aa (af Γ (af afu (af (hS2.below kN (ah _)) (aH.bY (az (Ms:=[]) hC (Ext.ax kN) ϕ)))));clear hX hC φ jL kX kN κ hS2 hz2 hK hs2 hs3 zm hg Γ;have nG:=aa (aV xM.o H3b.o.1);have HC8:=aa (aH.below HC7.o H3b.o.1 (ah _));rw[om.2.2,YX] at*
 have hSb:=H3b.o.2.2.1;have HSB:=aa (fun W (hb:Ϙ QG W)=>hSb.below hb (ah _));have hlc:31<=Tf:=by obtain⟨_,o',c',hv,h1,_⟩:=HC8.o;cases hv;exact h1
 obtain⟨eb,Lp,rfl,heb,_⟩:=aL.cell (l:=Cn) HC8.o (k:=0) ϖ;have hcut:=aH.cut HC8.o (l:=13) (k:=31) ϑ ϑ;rw[show sliced (some ⟨eb,Lp,none⟩) 13 31 Tf 1= .slice (some ⟨eb,Lp+13,none⟩) 18 (Tf-13) from by unfold sliced;rw[ak ϑ];simp[Addr.add_lit]] at hcut
 have xL:=aa (show aL QG (.slice (some ⟨eb,Lp+13,none⟩) 18 (Tf-13)) Jl from hcut);have HG3:=aa H3b.o.2.1;clear hcut hSb afu ajy H3b HC8 HC7 heb;have ajL: ¬Tf=13:=ϑ;go_wp2_with fail
 refine zg 34 [] none [(10,Spec.slice QG.heap.size (ag Jl).toArray 3 18),(11,Spec.val (.bool true)),(32,⟨fun _ v=> ∃V,v= .agg (bG bW V),fun _ v W=> ∃V,v= .agg (bG bW V)/\jT W bW V []⟩),(33,⟨fun _ v=> ∃V,v= .agg (bG bW V),fun _ v W=> ∃V es,v= .agg (bG bW V)/\jT W bW V es⟩)] ?_;simp only[zt];repeat ((first|refine zn ?_|refine zk ?_);simp only[zp])
 refine cB QG.heap.size _ _ 18 ϱ (ah _) ϱ ϕ ϕ (fun W hW=>by go_simp;try rfl) (fun b10=>?_);simp only[zp];refine zv 22 (h:=fun W hE hF=>by
  obtain⟨b',hb',hge,ο⟩:=hF _ (aW _) ϰ;cases hb';exact Hg Jl _ _ W (xL.o.below (show Ext [] QG W from hE).below (ah _)) (aH.bI 1 18 ο rfl ϖ)) (t:=?_)
 simp only[zp];repeat ((first|refine zn ?_|refine zk ?_);simp only[zp])
 refine eX ϱ (.agg (bG bW Vb)) ϱ (fun W hE hF=>oD _ _ rfl gb rfl _ _ _ _ (((show Ext [] QG W from hE).block gb afB ϕ).trans HG3.o) Tryz.underlying62 rfl ϰ) ?_;simp only[zp];refine aY _ ϱ ϱ (by exact⟨_,Vb,rfl⟩) (fun W hE hF=>?_) (fun v Wa Wb ho hE=>?_) (fun v hv=>?_)
 ·have Iq:Ext [] QG W:=hE;refine bM 25 #[] (by go_simp;try rfl) ?_;refine(Nw W).mono ?_;rintro e W' ⟨hb,V,rfl,hS⟩;exact⟨_,rfl,⟨V,rfl⟩,⟨V,rfl,hS⟩,Ext.ax hb⟩
 ·obtain⟨V,h0,hS⟩:=ho;exact⟨V,h0,hS.below (show Ext [] Wa Wb from hE).below (ah _)⟩
 obtain⟨V32,rfl⟩:=hv;simp only[zp];refine aY _ ϱ ϱ (by exact⟨_,Vb,rfl⟩) (fun W hE hF=>?_) (fun v Wa Wb ho hE=>?_) (fun v hv=>?_)
 ·have Iq:Ext [] QG W:=hE;obtain⟨V',he,hS⟩:=hF _ (aW _) ϰ;refine bM 24 #[.agg (bG bW V32)] (by go_simp;try rfl) ?_;rw[he];refine(TH bW V' [] W hS uN).mono ?_;rintro e W' ⟨hb,V,es,rfl,hS'⟩;exact⟨_,rfl,⟨V,rfl⟩,⟨V,es,rfl,hS'⟩,Ext.ax hb⟩
 ·obtain⟨V,es,h0,hS⟩:=ho;exact⟨V,es,h0,hS.below (show Ext [] Wa Wb from hE).below (ah _)⟩
 obtain⟨V33,rfl⟩:=hv;simp only[zp];intro W9 hE hF;have Qu:Ext [] QG W9:=hE;obtain⟨V',Ο,he,hS9⟩:=hF _ (aW _);rw[he];have HSM:Hid (Ϝ 23 #[.agg (bG bW Vb),.agg (bG bW V')] W9 (PV (.bool true) W9)):=aa (Nj bW Vb V' esb Ο W9 (HSB.o W9 Qu.below) hS9);have oU:=aa (aV nG.o Qu.below);clear hE hF Qu he hS9 xL HG3 HSB afB ajL hlc nG;go_wp2_with fail
 refine HSM.o.mono ?_;rintro e MN ⟨rfl,vg⟩;have JD:=aa (aV oU.o vg);clear vg HSM oU;go_wp2_with fail
 go_loopw [11] (fun u wr=> ∃k:Nat,k<=55/\u= .string (dS (rO k))/\Ϙ w wr) (fun u _=>61-(match u with| .string s=>s.data.size|_=>0))
 case atStart=>exact⟨0,by omega,rfl,JD.o⟩
 case round=>
  obtain⟨k,hk,rfl,hB⟩:=hrel;have hll:=RS k;have HB:=aa hB;have vE:=aa (NN k);by_cases uM:k<55
  ·generalize rO k=L at*
   have a1:=fun W=>iR (P:=Tryz.prog) (a:=L) (b:=[49]) rfl ϗ W;clear hB;go_wp2_with fail
   go_roundw
   case rel=>exact⟨k+1,by omega,by rw[vE.o],HB.o⟩
   case measure=>simp[dS,hll];omega
  ·obtain rfl:k=55:=ϑ;clear hB vE hk uM;have HL:=aa (show ∀l∈[rO 55],l.length<=1000000 from fun l h=>by rw[dX.1 h,hll];decide);go_wp2_with fail
   refine(qZ _ [rO 55] _ (sO [rO 55] 1 rfl ϖ wr _ rfl) (HE.o _ (ai HB.o _)) HL.o [] ϕ).mono ?_;rintro e XD ⟨WH,V11,aps,apu,he,hX,hC⟩;subst he;rw[xZ.1];have ME:=aa (aV (ai HB.o _) WH);clear WH hX hC JD HB;rename_i hK;refine hK _ _ ?_;clear hK;refine aC rfl _ (by go_simp;first|rfl|exact⟨rfl,rfl⟩) ?_;simp only[zp];refine aC rfl _ (by go_simp;first|rfl|exact⟨rfl,rfl⟩) ?_;simp only[zp];refine aC rfl _ (by go_simp;first|rfl|exact⟨rfl,rfl⟩) ?_;simp only[zp];refine aC rfl _ (by go_simp;first|rfl|exact⟨rfl,rfl⟩) ?_;simp only[zp];have hmk: ∀W:World,(Instr.makeSlice 22 (.int .i64 41) (.int .i64 41)).run Tryz.prog W= .ok (.slice (some ⟨W.heap.size,0,none⟩) 41 41) (W.alloc (.cells (bz (List.replicate 41 [])).toArray 9)):=fun W=>RO 41 ϑ W;have h41: ∀l∈List.replicate 41 ([]:ay),l.length<=1000000:=fun l h=>by rw[List.eq_of_mem_replicate h];decide
   have H41:=aa h41;clear h41;go_wp2_with fail
   refine(AZ _ (List.replicate 41 []) _ (sO (List.replicate 41 []) 41 ϕ ϖ XD _ rfl) (HE.o _ (ai ME.o _)) H41.o).mono ?_;rintro e QH ⟨FO,u12,rfl,_⟩;rw[Vn];have TW:=aa (aV (ai ME.o _) FO);clear FO ME;go_wp2_with fail
   refine(xK _ [rO 55] _ (sO [rO 55] 1 rfl ϖ QH _ rfl) (HE.o _ (ai TW.o _)) HL.o).mono ?_;rintro e W13 ⟨BX,u13,rfl,_⟩;rw[abn];have aal:=aa (aV (ai TW.o _) BX);clear BX TW;go_wp2_with fail
   refine(Hw (List.replicate 41 []) _ _ (sO (List.replicate 41 []) 41 ϕ ϖ W13 _ rfl) H41.o).mono ?_;rintro e Mo ⟨af2,⟨_,rfl⟩|⟨hq,_⟩⟩;rotate_left
   ·rw[xZ.2] at hq;cases hq
   rw[xZ.2];have adA:=aa (aV (ai aal.o _) af2);clear af2 aal;go_wp2_with fail
   refine(yF _ [] Mo (aH.nil 1 Mo) (HE.o _ adA.o) (fun l h=>by cases h)).mono ?_;rintro e Pf ⟨Ld,rfl⟩;rw[RB,om.2.2];have aak:=aa (aV adA.o Ld);clear Ld adA hmk;have kc:=fun(w:World) (C:Array Value) (n c:Nat)=>Lib.run_convert_bytes_const (P:=Tryz.prog) w 25 5 C n c Tryz.underlying25 Tryz.underlying5;go_wp2_with fail
   refine(YM Pf _ _ ϰ ϰ (HE.o _ (ai (ai aak.o _) _))).mono ?_;have aht:=aa (ai (ai aak.o (.cells (Lib.byteCells wJ).toArray 5 (14,15))) (.cells (bz vY).toArray 9));rw[Vl.1];rintro e W16 ⟨Lc,⟨hq,_⟩|⟨_,hq,_⟩|⟨_,_,v16,rfl,Zd⟩⟩
   ·exact absurd rfl hq
   ·rw[Vl.2] at hq;exact absurd hq ϖ
   rw[Vl.2] at Zd;obtain⟨o16,c16,rfl⟩:=aM Zd;have TV:=aa (aV (ai (ai aak.o _) _) Lc);have ag1:=aa (aH.bY Zd);clear Lc Zd aak aht;go_wp2_with fail
   refine(YN W16 _ ϰ).mono ?_;rintro e Pe ⟨acn,v17,rfl,Zc⟩;rw[aau.1] at Zc⊢;rw[aau.2];obtain⟨o17,c17,rfl⟩:=aM Zc;have ahs:=aa (aV (ai TV.o _) acn);have akA:=aa (aH.below ag1.o (aV (ai (aF _ _) _) acn) (ah _));have akH:=aa (aH.bY Zc);clear acn Zc TV ag1;simp only[List.length_cons,List.length_nil,Nat.reduceAdd] at*
   go_wp2_with fail
   have hcv: ∀W,Ext [] Pe W->(convert 25 9 (.slice o16 (qP yf).length c16)).run Tryz.prog W= .ok (.string (dS (qP yf))) W:=fun W hE=>uK (akA.o.below hE.below (ah _));have HCV:=aa hcv;clear hcv;refine zg 45 [] none [(29,Spec.slice Pe.heap.size (bz yf).toArray 9 2),(30,Spec.val (.string (dS (qP yf)))),(35,Spec.slice Pe.heap.size (bz [[97]]).toArray 9 1),(36,Spec.val (.bool true)),(43,Spec.val (.bool true))] ?_;simp only[zt];repeat ((first|refine zn ?_|refine zk ?_);simp only[zp])
   refine eX ϱ (.string (dS (qP yf))) ϱ (fun W hE hF=>by have hk:=HCV.o W hE;go_simp;try rfl) ?_;simp only[zp];refine cB Pe.heap.size _ _ 2 ϱ (ah _) ϱ ϕ ϕ (fun W hW=>by go_simp;try rfl) (fun b29=>?_);simp only[zp];refine zv 16 (h:=fun W hE hF=>by
    obtain⟨b',hb',hge,ο⟩:=hF _ (aW _) ϰ;cases hb';exact Rn yf _ W (aH.bI 1 2 ο rfl ϖ) ϖ ϖ) (t:=?_)
   simp only[zp];repeat ((first|refine zn ?_|refine zk ?_);simp only[zp])
   refine cB Pe.heap.size _ _ 1 ϱ (ah _) ϱ ϕ ϕ (fun W hW=>by go_simp;try rfl) (fun b35=>?_);simp only[zp];refine zv 14 (h:=fun W hE hF=>by
    obtain⟨b',hb',hge,ο⟩:=hF _ (aW _) ϰ;cases hb';exact Q3 [[97]] _ _ W (akH.o.below (show Ext [] Pe W from hE).below (ah _)) (aH.bI 1 1 ο rfl ϖ)) (t:=?_)
   simp only[zp];repeat ((first|refine zn ?_|refine zk ?_);simp only[zp])
   refine zv 9 (h:=fun W hE hF=>XP.o W (aV ahs.o (show Ext [] Pe W from hE).below)) (t:=?_);simp only[zp];repeat ((first|refine zn ?_|refine zk ?_);simp only[zp])
   intro W18 hE hF;have HR:=aa (aV ahs.o (show Ext [] Pe W18 from hE).below);clear hE hF;exact za7
end Go.Proofs.Z.Bk
end

/-
  Texts of this claim, packed by a program: HD FE HS HP HR HW.
-/
import Derived.WalkKit
import Derived.WalkLawsBesides
import Derived.WalkSpells
import Derived.Outline
import Derived.Handy
import Derived.KernelRfl
import Derived.Lib.Hide
import Derived.Laws.IdiomStrings
import Derived.Test.YthllkbbbapgelaaGreatDoorPW15
set_option maxHeartbeats 8000000
set_option maxRecDepth 100000
set_option linter.all false
section
namespace Go.Proofs.YthllkbbbapgelaaGreatDoor.Bk
open Go.Lib Go.RowKit Go.RG Go.SL Go.Shelf jy Go.TB Go.Proofs.YthllkbbbapgelaaGreatDoor.AQ
attribute [local go_sem] Oper.semAt_some
structure XO (B:Nat) (o:Option Addr) (c:Nat) (b:az) (k:Nat) (Ms:List Nat) (W:World):Prop where
 lines: ∃v,W.heap[B]? =some (.cells #[v] 22 (0,0))/\W.ownsRow (B+5) 9 1 v k (bH ((cu 40 0 b).take k))/\ ∀g,v.ownBlock=some g->g∉Ms/\g<W.heap.size
 bytes:W.heap[B+1]? =some (.cells #[.int .i64 (iD ((cu 40 0 b).take k):Nat)] 3 (0,0))
 box:W.heap[B+2]? =some (.cells #[.slice o b.length c] 25 (0,0))
theorem XO.kept {B:Nat} {o:Option Addr} {c:Nat} {b:az} {k:Nat} {Ms Ms':List Nat} {W W':World} (h:XO B o c b k Ms W) (hs:W.heap.size<=W'.heap.size) (hk: ∀j,B<=j->j<B+3->W'.heap[j]? =W.heap[j]?)
 (ho: ∀g,B+5<=g->g<W.heap.size->g∉Ms->W'.heap[g]? =W.heap[g]?) (hM: ∀m∈Ms',m∈Ms∨(W.heap.size<=m/\m<W'.heap.size)):XO B o c b k Ms' W':=by
 obtain⟨v,h1,h2,h3⟩:=h.lines
 refine⟨⟨v,(hk _ (by omega) (by omega)).trans h1,_root_.Go.Proofs.YthllkbbbapgelaaGreatDoor.dn h2 fun g hg=>ho g (bD h2 g hg).1 (bD h2 g hg).2 (h3 g hg).1,fun g hg=>⟨fun hm=>?_,by have:=(h3 g hg).2;omega⟩⟩,
  (hk _ (by omega) (by omega)).trans h.bytes,(hk _ (by omega) (by omega)).trans h.box⟩
 rcases hM g hm with h4|h4
 ·exact(h3 g hg).1 h4
 ·have:=(h3 g hg).2;omega
def aa2 (b:az) (w:World) (e:Ending) (W:World):Prop:=
 Below w.heap.size w W/\ ∃v,e= .returned (.tuple #[v,.int .i64 (iD (cu 40 0 b):Nat)])/\W.ownsRow w.heap.size 9 1 v (cu 40 0 b).length (bH (cu 40 0 b))
theorem EW (b:az) (v:Value) (w:World) (hv:aN 1 w v b.length (Lib.byteCells b)) (hb:b.length<=1000000000):Calls Tryz.prog 12 #[v] w (aa2 b w):=by
 obtain⟨o,c,rfl⟩:=aN.open hv
 have HV:=ae (fun W (hb:Below w.heap.size w W)=>hv.below hb (ai _))
 clear hv
 refine(callsIn_wide (n:=0)).1 ?_
 refine callsIn_of_wp_marks Tryz.func12 rfl trivial ?_
 simp only[Tryz.ntmps12,List.size_toArray,List.length_cons,List.length_nil,Nat.reduceAdd,Nat.reduceSub,Array.replicate_succ,Array.replicate_zero,kQ,kR,List.nil_append,List.cons_append]
 gi_wp2_with fail
 refine(callsIn_wide.2 (NV o b.length c _)).mono ?_
 rintro e w1 ⟨rfl,rfl⟩
 gi_wp2_with fail
 obtain⟨B,mZ⟩: ∃B,w.heap.size=B:=⟨_,rfl⟩
 obtain⟨w3,hw3⟩: ∃w3,((w.alloc (.cells #[.slice none 0 0] 22)).alloc (.cells #[.int .i64 0] 3)).alloc (.cells #[.slice o b.length c] 25)=w3:=⟨_,rfl⟩
 rw[hw3,mZ]
 have hsz3:w3.heap.size=B+3:=by rw[<-hw3];simp;omega
 have HB3:Hid (Below w.heap.size w w3):=ae (by rw[<-hw3];exact zl)
 have HA3:Hid (XO B o c b 0 [] w3):=ae (by
  rw[<-hw3, <-mZ]
  refine⟨⟨.slice none 0 0,?_,⟨rfl,.inl ⟨rfl,rfl⟩⟩,fun g hg=>by cases hg⟩,?_,?_⟩
  ·exact(aV _ _ _ (by simp;omega)).trans ((aV _ _ _ (by simp)).trans (ay _ _))
  ·exact(aV _ _ _ (by simp)).trans (dV _ _ _)
  ·exact iq _ _ _ _)
 clear hw3
 have Ey: ∀x,x∈[B,B+1,B+2,B+3,B+4]↔(B<=x/\x<B+5):=fun x=>by simp;omega
 obtain⟨Os,G9⟩: ∃Os,[B,B+1,B+2,B+3,B+4]=Os:=⟨_,rfl⟩
 rw[G9] at Ey
 clear G9
 refine Nv (NU b hb (B+2) o c) rfl (enters_of Tryz.func60 (by kernel_rfl) rfl) (by
  intro Ms x v W h
  rw[h]
  rfl) (by simp)
  (fun Ms k W=>IB w Os Ms W/\XO B o c b k Ms W)
  (fun _ _ _=>False)
  ?hInv ?pK ?hI ?hIx ?Ja ?tX ?h0
  (fun a Ms k W1 a₁ W=> ∃(l:az) (s:Nat),(vJ b)[k]? =some (l,s)/\a₁={tmps:=(((a.tmps.setIfInBounds 8 (.string (dG l))).setIfInBounds 9 (.int .i64 (s:Int))).setIfInBounds 4 (.string (dG l))).setIfInBounds 5 (.int .i64 (s:Int)),defers:=[]}/\
    (IB w Os Ms W/\XO B o c b k Ms W)/\(∀m∈Ms,m∉([]:List Nat)->m<W1.heap.size->W.heap[m]? =W1.heap[m]?)/\W1.heap.size<=W.heap.size)
  ?MB ?hassign ?hbody ?hdone ?hstop
 case hInv=>
  rintro Ms k W ⟨hF,hP⟩
  exact⟨hP.box,HV.o W hF.ext⟩
 case pK=>rintro cd Ms W h;exact h.elim
 case hI=>
  rintro Ms Ms' k Wa Wb ⟨hF,hP⟩ hE hMs _
  exact⟨(hF.iV hE hMs).1,hP.kept hE.size (fun x h1 h2=>(hF.iV hE hMs).2 x ((Ey x).2 (by omega))) (fun g h1 h2 h3=>hE.block g h2 h3) hMs⟩
 case hIx=>rintro cd Ms Ms' Wa Wb h;exact h.elim
 case Ja=>
  rintro Ms k W r ob ⟨hF,hP⟩ hr
  exact⟨hF.put ob (by omega),hP.kept (by simp) (fun x h1 h2=>World.putObj_heap_other (by omega)) (fun g h1 h2 h3=>World.putObj_heap_other (by omega)) (fun m hm=> .inl hm)⟩
 case tX=>rintro cd Ms W r ob h;exact h.elim
 case h0=>
  intro o1 o2
  refine⟨⟨aj (aj HB3.o _) _,by simp,by simp,fun x hx=>⟨by simp,by have:=(Ey x).1 hx;simp;omega⟩⟩,?_⟩
  exact HA3.o.kept (by simp;omega) (fun x h1 h2=>(aV _ _ _ (by simp;omega)).trans (aV _ _ _ (by omega))) (fun g h1 h2 h3=>by omega) (fun m hm=> .inl hm)
 case MB=>
  rintro Ms k W1 a₁ W obj ⟨l,s,hx,ha,⟨hF,hP⟩,hk,hs⟩
  have hap:=(hF.apart (B+4) ((Ey _).2 (by omega))).1
  refine⟨l,s,hx,ha,⟨hF.put obj (by omega),hP.kept (by simp) (fun x h1 h2=>World.putObj_heap_other (by omega)) (fun g h1 h2 h3=>World.putObj_heap_other (by omega)) (fun m hm=> .inl hm)⟩,
   fun m hm h0 hml=>(World.putObj_heap_other (fun e=>hap (by rw[show B+4=m by omega];exact hm))).trans (hk m hm h0 hml),by simpa using hs⟩
 case hassign=>
  rintro Ms k v W hk ⟨hF,hP⟩ hv hlt
  have hxk:(vJ b)[k]? =some (vJ b)[k]:=dw hk
  generalize (vJ b)[k]=x at*
  obtain⟨l,s⟩:=x
  obtain rfl:v= #[.string (dG l),.int .i64 (s:Int)]:=hv
  gi_wp2
  exact⟨⟨l,s,hxk,rfl,⟨hF,hP⟩,fun _ _ _ _=>trivial,ai _⟩,trivial,trivial⟩
 case hbody=>
  rintro Ms k W1 a₁ W busy hk ⟨l,s,hx,rfl,⟨hF,hP⟩,hkeep,hsz⟩ hrec hD
  simp only[rf,List.set_cons_succ,List.set_cons_zero]
  have hkl:k<(cu 40 0 b).length:=by rw[vI] at hk;exact hk
  have aoC:=xW 40 0 b
  rw[dw hk,JI hk,Option.some.injEq,Prod.mk.injEq] at hx
  obtain⟨rfl,rfl⟩:=hx
  have hls:(cu 40 0 b).take k++[(cu 40 0 b).getD k []]=(cu 40 0 b).take (k+1):=by
   rw[iC hkl,gV,dw hkl,Option.getD_some]
  obtain⟨l,hl⟩: ∃l,(cu 40 0 b).getD k []=l:=⟨_,rfl⟩
  obtain⟨s,hs⟩: ∃s,iD ((cu 40 0 b).take (k+1))=s:=⟨_,rfl⟩
  rw[hl] at hls⊢
  rw[hs]
  obtain⟨v,hv1,hv2,hv3⟩:=hP.lines
  obtain⟨vo,vc,rfl⟩:=aW hv2
  have hap: ∀x∈Os,x∉Ms/\x<W.heap.size:=hF.apart
  have hin: ∀x,B<=x->x<B+5->x∈Os:=fun x h1 h2=>(Ey x).2 ⟨h1,h2⟩
  have hb5:B+5<=W.heap.size:=by have:=(hap (B+4) (hin _ (by omega) (by omega))).2;omega
  obtain⟨c0,f0,l0⟩:=af hv1
  obtain⟨c1,f1,l1⟩:=af hP.bytes
  have HOWN:=ae (aC (Ms:=[]) hv2 (Ext.aA (aj (aH W.heap.size W) (.cells #[.string (dG l)] 9))) (by simp))
  have HF:=ae hF
  have HP:=ae hP
  have HV3:=ae (ag hv1 (ag hv2 hv3))
  have HK:=ae (ag hkeep (ag hrec hD))
  have FQ:=ae (ag hls hs)
  clear hF hP hv1 hv2 hv3 hkeep hrec hD hls hs hl
  gi_wp2_with (gi_at_builtin;go_loud (refine nV (fun _=>trivial) rfl qN rfl _ _ Ut rfl (B+5) (.slice vo k vc) k (bH ((cu 40 0 b).take k)) rfl HOWN.o (.slice (some ⟨W.heap.size,0,none⟩) 1 1) 1 (bH [l]) rfl (aN.dB 1 1 (ay _ _) rfl (by decide)) (AY [l]) (by omega) (by omega) (by simp;omega) ?_))
  intro v' W5 hown hgr hob
  obtain⟨o5,q5,rfl⟩:=aW hown
  have hown':W5.ownsRow (B+5) 9 1 (.slice o5 (k+1) q5) (k+1) (bH ((cu 40 0 b).take (k+1))):=by
   rw[<-FQ.o.1]
   simpa [bH] using hown
  have hBW:Below (B+5) W W5:=Below.grown ((aH (B+5) W).alloc hb5 _) hgr (by simp;omega) (fun g e=>(bD HOWN.o g e).1)
  have hz5:=hgr.size
  simp only[bu] at hz5
  have hms: ∀m∈Ms,m<W.heap.size->W5.heap[m]? =W.heap[m]? :=fun m hm hml=>
   (hgr.block m (by simp;omega) (fun e=>(HV3.o.2.2 m e.symm).1 hm)).trans (aV _ _ _ (by simpa using hml))
  have hnew: ∀g,(Value.slice o5 (k+1) q5).ownBlock=some g->g∉Ms/\g<W5.heap.size:=fun g hg=>by
   refine⟨fun hm=>?_,(bD hown' g hg).2⟩
   rcases hob with h|h
   ·exact(HV3.o.2.2 g (h▸hg)).1 hm
   ·rw[hg] at h
    have:=HF.o.bnd g hm
    injection h with h
    omega
  clear c0 f0 l0 c1 f1 l1
  obtain⟨c0,f0,l0⟩:=af ((hBW.block B (by omega)).trans HV3.o.1)
  obtain⟨c1,f1,l1⟩:=af ((hBW.block (B+1) (by omega)).trans HP.o.bytes)
  have HN:=ae (ag hown' (ag hBW (ag hms hnew)))
  have aeJ:=hBW
  clear hown hgr hob hown' hBW hms hnew
  have hk0:=(aeJ.block B (by omega)).trans HV3.o.1
  have hk1:=(aeJ.block (B+1) (by omega)).trans HP.o.bytes
  have HKK:=ae (ag hk0 hk1)
  clear aeJ hk0 hk1
  gi_wp2_with fail
  obtain⟨W6,Dl⟩: ∃W6,(W5.setCell {block:=B,off:=0} (Value.slice o5 (k+1) q5)).setCell {block:=B+1,off:=0} (.int .i64 (s:Int))=W6:=⟨_,rfl⟩
  rw[Dl]
  have ho: ∀x,x≠B->x≠B+1->W6.heap[x]? =W5.heap[x]? :=fun x h1 h2=>by
   rw[<-Dl]
   exact(heap_setCell_other _ ⟨B+1,0,none⟩ x _ h2).trans (heap_setCell_other _ ⟨B,0,none⟩ x _ h1)
  have Fe:Below B W W6:=by
   rw[<-Dl]
   exact(((HN.o.2.1.mono (Nat.le_add_right B 5)).setCell (p:=⟨B,0,none⟩) (ai B) _).setCell (p:=⟨B+1,0,none⟩) (by simp) _)
  have hz6:W6.heap.size=W5.heap.size:=by rw[<-Dl];simp
  have h0':W6.heap[B]? =some (.cells #[.slice o5 (k+1) q5] 22 (0,0)):=by
   rw[<-Dl]
   exact(heap_setCell_other _ ⟨B+1,0,none⟩ B _ (by simp)).trans (heap_setCell_same W5 B 0 _ _ _ HKK.o.1)
  have h1':W6.heap[B+1]? =some (.cells #[.int .i64 (s:Int)] 3 (0,0)):=by
   rw[<-Dl]
   exact heap_setCell_same _ (B+1) 0 _ _ _ ((heap_setCell_other _ ⟨B,0,none⟩ (B+1) _ (by simp)).trans HKK.o.2)
  have hzB:=HN.o.2.1.size
  refine⟨⟨?_,?_,fun m hm h0 hml=>?_,by omega⟩,HF.o.own (HF.o.ext.trans (by rw[mZ];exact Fe)) (by omega),⟨⟨_,h0',?_,fun g hg=>⟨(HN.o.2.2.2 g hg).1,by have:=(HN.o.2.2.2 g hg).2;omega⟩⟩,?_,?_⟩⟩
  ·rw[hsz3]
   exact(ho _ (by omega) (by omega)).trans ((HN.o.2.1.block _ (by omega)).trans (hsz3▸HK.o.2.1))
  ·rw[hsz3]
   exact(ho _ (by omega) (by omega)).trans ((HN.o.2.1.block _ (by omega)).trans (hsz3▸HK.o.2.2))
  ·have n1:m≠B:=fun e=>(hap B (hin _ (by omega) (by omega))).1 (e▸hm)
   have n2:m≠B+1:=fun e=>(hap (B+1) (hin _ (by omega) (by omega))).1 (e▸hm)
   exact(ho m n1 n2).trans ((HN.o.2.2.1 m hm (HF.o.bnd m hm)).trans (HK.o.1 m hm h0 hml))
  ·exact _root_.Go.Proofs.YthllkbbbapgelaaGreatDoor.dn HN.o.1 fun g hg=>by
    have:=(bD HN.o.1 g hg).1
    exact ho g (by omega) (by omega)
  ·rw[h1',FQ.o.2]
  ·exact(ho _ (by omega) (by omega)).trans ((HN.o.2.1.block _ (by omega)).trans HP.o.box)
 case hdone=>
  rintro Ms W ⟨hF,hP⟩ hD hlt
  rw[vI] at hP
  obtain⟨v,hv1,hv2,hv3⟩:=hP.lines
  rw[List.take_length] at hv2
  have hb1:=hP.bytes
  rw[List.take_length] at hb1
  obtain⟨vo,vc,rfl⟩:=aW hv2
  obtain⟨c0,f0,l0⟩:=af hv1
  obtain⟨c1,f1,l1⟩:=af hb1
  have HX:=ae (ag hF (ag hv1 (ag hb1 hv2)))
  have Um:=ae hD
  clear hF hP hv1 hb1 hv2 hv3
  gi_wp2_with fail
  gi_region
  obtain⟨W7,zB⟩: ∃W7,((W.setCell {block:=B,off:=0} (Value.slice vo (cu 40 0 b).length vc)).setCell {block:=B+1,off:=0} (.int .i64 (iD (cu 40 0 b):Nat))).drew=W7:=⟨_,rfl⟩
  rw[zB]
  have ho: ∀x,x≠B->x≠B+1->W7.heap[x]? =W.heap[x]? :=fun x h1 h2=>by
   rw[<-zB]
   exact(heap_setCell_other _ ⟨B+1,0,none⟩ x _ h2).trans (heap_setCell_other _ ⟨B,0,none⟩ x _ h1)
  have IK:Below B W W7:=by
   rw[<-zB]
   exact Below.drew (((aH B W).setCell (p:=⟨B,0,none⟩) (ai B) _).setCell (p:=⟨B+1,0,none⟩) (by simp) _)
  have hz7:W7.heap.size=W.heap.size:=by rw[<-zB];simp
  have h0':W7.heap[B]? =some (.cells #[.slice vo (cu 40 0 b).length vc] 22 (0,0)):=by
   rw[<-zB]
   exact(heap_setCell_other _ ⟨B+1,0,none⟩ B _ (by simp)).trans (heap_setCell_same W B 0 _ _ _ HX.o.2.1)
  have h1':W7.heap[B+1]? =some (.cells #[.int .i64 (iD (cu 40 0 b):Nat)] 3 (0,0)):=by
   rw[<-zB]
   exact heap_setCell_same _ (B+1) 0 _ _ _ ((heap_setCell_other _ ⟨B,0,none⟩ (B+1) _ (by simp)).trans HX.o.2.2.1)
  have hD7:W7.heap[w3.heap.size]? =some (.deferred (some [])):=(ho _ (by omega) (by omega)).trans Um.o
  have adf:W7.ownsRow (B+5) 9 1 (.slice vo (cu 40 0 b).length vc) (cu 40 0 b).length (bH (cu 40 0 b)):=_root_.Go.Proofs.YthllkbbbapgelaaGreatDoor.dn HX.o.2.2.2 fun g hg=>by
   have:=(bD HX.o.2.2.2 g hg).1
   exact ho g (by omega) (by omega)
  have zC:Below w.heap.size w W7:=HX.o.1.ext.trans (by rw[mZ];exact IK)
  have HY:=ae (ag adf (ag zC hz7))
  clear c0 f0 l0 c1 f1 l1
  have e0:=(World.putObj_heap_other (w:=W7) (o:= .deferred none) (show B≠w3.heap.size by omega)).trans h0'
  have e1:=(World.putObj_heap_other (w:=W7) (o:= .deferred none) (show B+1≠w3.heap.size by omega)).trans h1'
  obtain⟨c0,f0,l0⟩:=af e0
  obtain⟨c1,f1,l1⟩:=af e1
  clear zB ho IK h0' h1' adf zC e0 e1
  gi_wp2_with fail
  refine⟨by simp,.inl ⟨_,_,rfl,run_takeDeferred hD7,?_⟩⟩
  refine⟨.tuple #[.slice vo (cu 40 0 b).length vc,.int .i64 (iD (cu 40 0 b):Nat)],by simp[results,Tryz.results12,go_sem,c0,c1],?_,_,rfl,?_⟩
  ·have hF7:IB w [] [] W7:=⟨HY.o.2.1,by simp,by simp,by simp⟩
   exact(hF7.put (Obj.deferred none) (r:=w3.heap.size) (by omega)).ext
  ·exact df (_root_.Go.Proofs.YthllkbbbapgelaaGreatDoor.dn HY.o.1 fun g hg=>World.putObj_heap_other (by have:=(bD HY.o.1 g hg).1;omega)) (by omega)
 case hstop=>rintro cd Ms W h;exact h.elim
end Go.Proofs.YthllkbbbapgelaaGreatDoor.Bk
end
section
namespace Go.Proofs.YthllkbbbapgelaaGreatDoor.Bk
open Go.Lib Go.RowKit Go.RG Go.SL Go.Shelf jy Go.TB Go.Proofs.YthllkbbbapgelaaGreatDoor.AQ
theorem yN:(∀l∈jU,l.length<=1000000)/\ ∀l∈jU++rF,l.length<=1000000:=by decide+kernel
theorem Nq:Lj jU=af4:=by
 unfold Lj
 rw[aF sF.1,Q5]
 unfold iZ
 rw[aF sF.1]
 exact Yt
theorem QG:yc (jU++rF)=[0,0,0,0,0,0,0,0,0,0,0,0,0,2,6,4]:=by
 unfold yc
 rw[aF sF.2]
 exact Ve
theorem aaY:fC [[97]]=0/\uM [[97]]=[48,49,58,97,58,48,50,50,51,10]:=by decide+kernel
theorem EP (w:World) (hE:Env w):Calls Tryz.prog 9 #[] w (PV (.bool true) w):=by
 have HE:Hid (∀W,Below w.heap.size w W->Env W):=ae (fun W hb=>hE.below hb (ai _))
 have HY:Hid (∀W,Calls Tryz.prog 19 #[.slice none 0 0] W (Qk jU W)):=ae (fun W=>by have h:=Nr [] (.slice none 0 0) W (aN.nil _ _) (by simp);rw[List.append_nil] at h;exact h)
 clear hE
 go_enter Tryz.func9,Tryz.ntmps9
 go_wp2_with fail
 refine(HY.o w).mono ?_
 rintro e W1 ⟨o1,c1,rfl,ho1,hb1⟩
 have HB1:=ae hb1
 have HO:=ae (Xw _ jU W1 (aN.dU ho1) (HE.o W1 hb1) yN.1)
 clear hb1 ho1
 go_wp2_with fail
 refine HO.o.mono ?_
 rintro e W2 ⟨hb2,u2,rfl,hu2⟩
 rw[Jn.1]
 rw[Jn.2] at hu2
 obtain⟨uo,uc,rfl⟩:=aN.open hu2
 have HB2:=ae (aY HB1.o hb2)
 have HU2:=ae hu2
 clear hb2 hu2 HO HB1
 simp only[List.length_cons,List.length_nil,Nat.reduceAdd]
 go_wp2_with fail
 refine(HY.o W2).mono ?_
 rintro e W3 ⟨o3,c3,rfl,ho3,hb3⟩
 have HB3:=ae (aY HB2.o hb3)
 have HU3:=ae (HU2.o.below hb3 (ai _))
 have HT:=ae (Jg _ jU W3 (aN.dU ho3) (HE.o W3 HB3.o) yN.1)
 clear hb3 ho3 HB2 HU2
 go_wp2_with fail
 refine HT.o.mono ?_
 rintro e W4 ⟨hb4,u4,rfl,hu4⟩
 rw[Jm.1]
 rw[Jm.2] at hu4
 obtain⟨vo,vc,rfl⟩:=aN.open hu4
 have HB4:=ae (aY HB3.o hb4)
 have HU4:=ae (HU3.o.below hb4 (ai _))
 have HV4:=ae hu4
 clear hb4 hu4 HT HB3 HU3
 simp only[List.length_cons,List.length_nil,Nat.reduceAdd]
 go_wp2_with fail
 refine(HY.o W4).mono ?_
 rintro e W5 ⟨o5,c5,rfl,ho5,hb5⟩
 have nD:=ae (aY HB4.o hb5)
 have HU5:=ae (HU4.o.below hb5 (ai _))
 have HV5:=ae (HV4.o.below hb5 (ai _))
 have HR:=ae (TW _ jU W5 (aN.dU ho5) (HE.o W5 nD.o) yN.1)
 clear hb5 ho5 HB4 HU4 HV4
 go_wp2_with fail
 refine HR.o.mono ?_
 rintro e W6 ⟨hb6,rfl⟩
 rw[Nq,sF.1]
 have pY:=ae (aY nD.o hb6)
 have HU6:=ae (HU5.o.below hb6 (ai _))
 have HV6:=ae (HV5.o.below hb6 (ai _))
 clear hb6 HR nD HU5 HV5
 have HW:Hid (∀W,W=W6.alloc (.cells #[.string ⟨#[97]⟩] 9)->Calls Tryz.prog 10 #[.slice (some ⟨W6.heap.size,0,none⟩) 1 1] W (U6 (fC [[97]]) [[97]] W)):=ae (fun W hW=>KH [[97]] _ W (by
  have hk:W.heap[W6.heap.size]? =some (.cells (bH [[97]]).toArray 9 (0,0)):=by rw[hW];exact ay _ _
  exact aN.dB 1 1 hk rfl (by decide)) (by decide))
 go_wp2_with fail
 refine(HW.o _ rfl).mono ?_
 rintro e W7 ⟨hb7,⟨hq,_⟩|⟨_,v7,rfl,ho7⟩⟩
 ·exact absurd aaY.1 hq
 rw[aaY.2] at ho7
 obtain⟨wo,wc,rfl⟩:=aW ho7
 have SH:=aY (aj (aH W6.heap.size W6) (.cells #[.string ⟨#[97]⟩] 9)) hb7
 have zU:=ae (aY pY.o SH)
 have HU7:=ae (HU6.o.below SH (ai _))
 have HV7:=ae (HV6.o.below SH (ai _))
 have HW7:=ae (aN.dU ho7)
 clear hb7 ho7 SH HW pY HU6 HV6
 simp only[List.length_cons,List.length_nil,Nat.reduceAdd]
 have HM:Hid (∀W,W=W7.alloc (.cells (bH rF).toArray 9)->Calls Tryz.prog 19 #[.slice (some ⟨W7.heap.size,0,none⟩) 3 3] W (Qk (jU++rF) W)):=ae (fun W hW=>Nr rF _ W (by
  have hk:W.heap[W7.heap.size]? =some (.cells (bH rF).toArray 9 (0,0)):=by rw[hW];exact ay _ _
  exact aN.dB 1 3 hk rfl (by decide)) (by decide))
 go_wp2_with fail
 refine(HM.o _ rfl).mono ?_
 rintro e W8 ⟨o8,c8,rfl,qE,hb8⟩
 have aab:=aY (aj (aH W7.heap.size W7) (.cells (bH rF).toArray 9)) hb8
 have oV:=ae (aY zU.o aab)
 have HU8:=ae (HU7.o.below aab (ai _))
 have IL:=ae (HV7.o.below aab (ai _))
 have HW8:=ae (HW7.o.below aab (ai _))
 have HL8:=ae (aN.dU qE)
 clear hb8 qE aab HM zU HU7 HV7 HW7
 go_wp2_with fail
 refine(BZ (.slice o8 (jU++rF).length c8) (jU++rF) W8 (HL8.o) (HE.o W8 oV.o) (yN.2) [] (by simp)).mono ?_
 rintro e W2a ⟨hb2,Va,esa,cv,he,hX,hC⟩
 subst he
 obtain⟨coa,cca,rfl⟩:=aW hC
 have hs2:=hb2.size
 have hS2:=hX W2a (Ext.refl _ _)
 rename_i hK
 refine hK _ _ ?_
 refine aP rfl _ (by go_simp;first|rfl|exact⟨rfl,rfl⟩) ?_
 simp only[zp]
 refine aP rfl _ (by go_simp;first|rfl|exact⟨rfl,rfl⟩) ?_
 simp only[zp]
 refine aP rfl _ (by go_simp;first|rfl|exact⟨rfl,rfl⟩) ?_
 simp only[zp]
 refine aP rfl _ (by go_simp;first|rfl|exact⟨rfl,rfl⟩) ?_
 simp only[zp]
 obtain⟨ga,hg⟩: ∃g,g=W2a.heap.size:=⟨_,rfl⟩
 refine aP rfl (w':=W2a.alloc (.cells fP 62 (0,0))) (.pointer (some ⟨ga,0,none⟩)) (by rw[hg];go_simp;try rfl) ?_
 simp only[zp]
 have hz2:(W2a.alloc (.cells fP 62 (0,0))).heap[ga]? =some (.cells fP 62 (0,0)):=by rw[hg];exact ay _ _
 refine wpList_store_row rfl _ _ _ rfl ga (dS (iZ (jU++rF)) Va) (by as_aux_lemma=>kernel_rfl) (by as_aux_lemma=>kernel_rfl) _ fP hz2 (by kernel_rfl) (by as_aux_lemma=>kernel_rfl) (by rw[oH];exact fun u hu=>ji hS2 u (pU.2 hu)) ?_
 simp only[zp]
 refine kW fun W3a hW3=>?_
 obtain⟨BU,oz⟩: ∃BU,BU=W2a.alloc (.cells fP 62 (0,0)):=⟨_,rfl⟩
 rw[<-oz] at hW3 hz2
 have yz:Ext [ga] BU W3a:=by rw[hW3];exact gB
 have hs3:=yz.size
 have hs2':BU.heap.size=ga+1:=by rw[oz,hg];simp
 have qL:Below W2a.heap.size W2a W3a:=jF (by rw[oz];exact aj (aH _ _) _) yz (by omega)
 have ag9:W3a.heap[ga]? =some (.cells (dS (iZ (jU++rF)) Va) 62 (0,0)):=by rw[hW3];exact setRow_heap _ _ _ _ _ _ hz2
 have hb3:=aY hb2 qL
 have aoN:W8.heap.size<=ga:=by omega
 have aoK:ga<W3a.heap.size:=by omega
 have H3a:=ae (ag hb3 (ag ag9 (ag (hS2.below qL (ai _)) (aN.dU (aC (Ms:=[]) hC (Ext.aA qL) (by simp))))))
 clear hX hC hW3 oz yz qL hb2 hS2 hz2 hK hs2 hs3 hs2' hg hb3
 have aak:=H3a.o.1
 have WV:aN 1 W3a (.slice coa (yc (jU++rF)).length cca) (yc (jU++rF)).length (ah (yc (jU++rF))):=H3a.o.2.2.2
 rw[QG] at WV⊢
 rw[sF.2]
 simp only[List.length_cons,List.length_nil,Nat.reduceAdd] at WV⊢
 have qQ:=ae (aY oV.o aak)
 have hU9:=HU8.o.below aak (ai _)
 have HV9:=ae (IL.o.below aak (ai _))
 have HW9:=ae (HW8.o.below aak (ai _))
 have hlc:16<=cca:=by obtain⟨_,o',c',hv,h1,_⟩:=WV;cases hv;exact h1
 obtain⟨eb,acu,rfl,heb,_⟩:=aO.cell (l:=[0,0,0,0,0,0,0,0,0,0,0,0,0,2,6,4]) WV (k:=0) (by simp)
 have hcut:=aN.cut WV (l:=13) (k:=16) (by omega) (by omega)
 rw[show sliced (some ⟨eb,acu,none⟩) 13 16 cca 1= .slice (some ⟨eb,acu+13,none⟩) 3 (cca-13) from by unfold sliced;rw[ak (by omega)];simp[Addr.add_lit]] at hcut
 have Ce:=ae (show aO W3a (.slice (some ⟨eb,acu+13,none⟩) 3 (cca-13)) [2,6,4] from hcut)
 obtain⟨ub,anP,rfl,hub,d1,d2⟩:=bT.cell (l:=[(5,20),(0,15)]) hU9 (k:=0) (by simp)
 obtain⟨ub2,al2,he,_,e1,e2⟩:=bT.cell (l:=[(5,20),(0,15)]) hU9 (k:=1) (by simp)
 injection he with he
 injection he with h1 h2
 subst h1 h2
 simp only[au,Nat.zero_mul,Nat.one_mul,Nat.add_zero] at d1 d2 e1 e2
 have HI:Hid (∀W,W=W3a.alloc (.cells #[iv 0] 3)->Calls Tryz.prog 30 #[.slice vo 1 vc,.slice (some ⟨W3a.heap.size,0,none⟩) 1 1] W (PV (.bool true) W)):=ae (fun W hW=>Sr [0] _ _ W (by rw[hW];exact HV9.o.alloc _) (by
  have hk:W.heap[W3a.heap.size]? =some (.cells #[iv 0] 3 (0,0)):=by rw[hW];exact ay _ _
  exact aN.dB 1 1 hk rfl (by decide)))
 clear HU8 IL HW8 HL8 H3a aak WV hU9 hcut ag9
 go_wp2_with fail
 refine(HI.o _ rfl).mono ?_
 rintro e TU ⟨rfl,Ap⟩
 have UT:=aY (aj (aH W3a.heap.size W3a) (.cells #[iv 0] 3)) Ap
 have X0:=ae (aY qQ.o UT)
 have hcv:(convert 25 9 (.slice wo 10 wc)).run Tryz.prog TU= .ok (.string (dG [48,49,58,97,58,48,50,50,51,10])) TU:=wV (n:=10) (HW9.o.below UT (ai _))
 have HC:Hid (∀W,W=TU.alloc (.cells #[iv 2,iv 6,iv 4] 3)->Calls Tryz.prog 22 #[.slice (some ⟨eb,acu+13,none⟩) 3 (cca-13),.slice (some ⟨TU.heap.size,0,none⟩) 3 3] W (PV (.bool true) W)):=ae (fun W hW=>Xn [2,6,4] _ _ W (by rw[hW];exact(Ce.o.below UT (ai _)).alloc _) (by
  have hk:W.heap[TU.heap.size]? =some (.cells #[iv 2,iv 6,iv 4] 3 (0,0)):=by rw[hW];exact ay _ _
  exact aN.dB 1 3 hk rfl (by decide)))
 clear Ap UT HI d1 d2 e1 e2
 go_wp2_with fail
 refine(HC.o _ rfl).mono ?_
 rintro e W11 ⟨rfl,ahy⟩
 have acW:=ae (aY X0.o (aY (aj (aH TU.heap.size TU) (.cells #[iv 2,iv 6,iv 4] 3)) ahy))
 clear ahy HC hcv
 go_wp2_with fail
 go_returns
 exact⟨rfl,acW.o⟩
theorem aap (ls:List az):(uM ls).length=iD ls:=kJ ls 0
theorem iG.to {w:World} {o:Option Addr} {ls:List az} {c:Nat} (h:aN 1 w (.slice o ls.length c) ls.length (bH ls)) {k:Nat} (hk:k<=ls.length) {x:Int} (hx:x=k):
 ∃so sc,(∀W,(Instr.slice 22 (.slice o ls.length c) none (some (iv x)) none).run Tryz.prog W= .ok (.slice so k sc) W)/\aN 1 w (.slice so k sc) k (bH (ls.take k)):=by
 subst hx
 have hc:ls.length<=c:=by obtain⟨_,o',c',hv,h1,_⟩:=h;cases hv;exact h1
 obtain⟨so,sc,h1,h2⟩:=aaC (P:=Tryz.prog) 22 (by kernel_rfl) (fun W=>by rw[show Tryz.prog.elem 22=9 by kernel_rfl];simp[go_sem]) (o:=o) (n:=ls.length) (c:=c) (iW hk hc)
 have h3:=aN.cut h (bQ _) hk
 rw[h2,List.drop_zero] at h3
 refine⟨so,sc,h1,?_⟩
 rw[show bH (ls.take k)=(bH ls).take k from by simp[bH,List.map_take]]
 exact h3
theorem ajD (k n:Nat) (hn:0<n):(k:Int).tmod (n:Int)=((k%n:Nat):Int):=by rw[Int.tmod_eq_emod_of_nonneg (by omega)];omega
def sQ (ls:List az) (k j:Nat):az:=eQ 0 (ls.take (min j k))++eQ (k+1) ((ls.take j).drop (k+1))
theorem Vx {ls:List az} {k j:Nat} (hj:j<ls.length):sQ ls k (j+1)=if j=k then sQ ls k j else sQ ls k j++bP j ls[j]:=by
 unfold sQ
 by_cases h1:j<k
 ·rw[ak (by omega),Nat.min_eq_left (by omega),Nat.min_eq_left (by omega),Dq hj]
  rw[List.drop_eq_nil_of_le (by simp;omega),List.drop_eq_nil_of_le (by simp;omega)]
  simp[eQ]
 ·by_cases h2:j=k
  ·subst h2
   rw[aF rfl,Nat.min_eq_right (by omega),Nat.min_eq_right (by omega),List.drop_eq_nil_of_le (by simp;omega),List.drop_eq_nil_of_le (by simp;omega)]
  ·rw[ak h2,Nat.min_eq_right (by omega),Nat.min_eq_right (by omega),iC hj,List.drop_append_of_le_length (by simp;omega),zQ,jg]
   congr 3
   simp
   omega
theorem VR {ls:List az} (h0:fC ls=0) {k:Nat} (hk:k+1<ls.length):
 cu 40 0 (sQ ls k ls.length)=ls.take k/\(sQ ls k ls.length).length<=5520:=by
 have hf:=tZ h0
 have h60: ∀a:List az,(∀l∈a,l∈ls)->a.length<=40->(eQ 0 a).length<=2760:=fun a ha hl=>by
  rw[kJ]
  have:=sS a fun l hm=>hf.2 l (ha l hm)
  omega
 have hd:(ls.take ls.length).drop (k+1)=ls[k+1]::ls.drop (k+2):=by rw[List.take_length,uj hk]
 constructor
 ·unfold sQ
  rw[Nat.min_eq_right (by omega),hd,eQ]
  have hl:(ls.take k).length=k:=by simp;omega
  have:=VF (a:=ls.take k) (fun l hm=>hf.2 l (kP hm)) (hf.2 _ (dh hk)) 0 40 (by omega) (eQ (k+1+1) (ls.drop (k+2)))
  rw[hl,Nat.zero_add] at this
  exact this
 ·unfold sQ
  rw[dm,kJ,kJ]
  have h1:=sS (ls.take (min ls.length k)) fun l hm=>hf.2 l (kP hm)
  have h2:=sS ((ls.take ls.length).drop (k+1)) fun l hm=>hf.2 l (kP (List.mem_of_mem_drop hm))
  have h3:(ls.take (min ls.length k)).length<=40:=by simp;omega
  have h4:((ls.take ls.length).drop (k+1)).length<=40:=by simp;omega
  omega
theorem P8 (w:World) (l:az) (hl:l.length<=1000000000):
 ∃c W,(convert 9 25 (.string (dG l))).run Tryz.prog w= .ok (.slice (some ⟨w.heap.size,0,none⟩) l.length c) W/\Below w.heap.size w W/\aN 1 W (.slice (some ⟨w.heap.size,0,none⟩) l.length c) l.length (Lib.byteCells l):=by
 have hr:=run_bytes_of_string (P:=Tryz.prog) w 9 25 5 (dG l) Tryz.underlying9 Tryz.underlying25 Tryz.underlying5
 have hs:=jE l
 have hge:=grownCap_ge w (dG l).size 0 5
 have hle:=grownCap_le_maxLen w (dG l).size 0 5 (by rw[hs];unfold maxLen;omega)
 generalize grownCap w (dG l).size 0 5=cap at*
 have hb:Below w.heap.size w (w.drew.alloc (.cells (bytesRow (dG l) cap) 5 ((bytesRow (dG l) cap).size,(bytesRow (dG l) cap).size+1))):=aj (qG (aH _ _)) _
 have hn:=heap_alloc_new w.drew (.cells (bytesRow (dG l) cap) 5 ((bytesRow (dG l) cap).size,(bytesRow (dG l) cap).size+1))
 generalize w.drew.alloc (.cells (bytesRow (dG l) cap) 5 ((bytesRow (dG l) cap).size,(bytesRow (dG l) cap).size+1))=W at*
 rw[hs] at hr hge
 refine⟨cap,W,hr,hb,by simp[Lib.byteCells],_,cap,rfl,hge,hle,(fun h=>by cases h),fun a ha=>?_⟩
 cases ha
 refine⟨rfl,fun j u hj=>?_⟩
 have hjl:j<l.length:=by
  have:=(je.1 hj).1
  simpa [Lib.byteCells] using this
 have hu:u= .int .u8 (l[j].toNat:Int):=by
  have:=(je.1 hj).2
  simpa [Lib.byteCells] using this.symm
 rw[hu]
 have hrow:=bytesRow_at (dG l) cap j (by simpa using hjl)
 have hn':W.heap[w.heap.size]? =some (.cells (bytesRow (dG l) cap) 5 ((bytesRow (dG l) cap).size,(bytesRow (dG l) cap).size+1)):=hn
 simp only[World.cell?,hn',Nat.zero_add]
 exact hrow
theorem Jl (ls:List az) (lv:Value) (k8:Int) (hk0:0<=k8) (hk8:k8<=255) (w:World) (hv:iG w lv ls) (hE:Env w):Calls Tryz.prog 5 #[lv,.int .u8 k8] w (PV (.bool true) w):=by
 obtain⟨k,rfl⟩: ∃k:Nat,k8=k:=⟨k8.toNat,by omega⟩
 have hk6:k<=255:=by omega
 clear hk0 hk8
 obtain⟨lo,lc,rfl⟩:=aN.open hv
 have HT:=ae (Qh ls _ w hv)
 have HV:=ae (fun W (hb:Below w.heap.size w W)=>hv.below hb (ai _))
 have Nk:=ae (fun W (hb:Below w.heap.size w W)=>EP W (hE.below hb (ai _)))
 clear hv hE
 obtain⟨th,hth⟩: ∃t,Jv ls=t:=⟨_,rfl⟩
 rw[hth] at HT
 clear hth
 go_enter Tryz.func5,Tryz.ntmps5
 go_wp2_with fail
 refine HT.o.mono ?_
 rintro e W1 ⟨rfl,hB1⟩
 have HB1:=ae hB1
 clear hB1 HT
 cases th with
 |false=>
  go_wp2_with fail
  refine(Nk.o W1 HB1.o).mono ?_
  rintro e Wz ⟨rfl,hbz⟩
  have XY:=ae (aY HB1.o hbz)
  clear hbz
  go_wp2_with fail
  go_returns
  exact⟨by simp,XY.o⟩
 |true=>
 have HLF:=ae (GH ls _ W1 (HV.o W1 HB1.o))
 obtain⟨q,hq⟩: ∃q,fC ls=q:=⟨_,rfl⟩
 rw[hq] at HLF
 go_wp2_with fail
 refine HLF.o.mono ?_
 rintro e W2 ⟨rfl,hB2⟩
 have HB2:=ae (aY HB1.o hB2)
 clear hB2 HLF
 by_cases hq0:q=0
 rotate_left
 ·have hqb:(q !=0)=true:=by simpa using hq0
  clear hq
  go_wp2_with fail
  refine(Nk.o W2 HB2.o).mono ?_
  rintro e Wz ⟨rfl,hbz⟩
  have XY:=ae (aY HB2.o hbz)
  clear hbz
  go_wp2_with fail
  go_returns
  exact⟨by simp,XY.o⟩
 subst hq0
 by_cases h2:ls.length<2
 ·have h2':(ls.length:Int)<2:=by omega
  clear hq
  go_wp2_with fail
  refine(Nk.o W2 HB2.o).mono ?_
  rintro e Wz ⟨rfl,hbz⟩
  have XY:=ae (aY HB2.o hbz)
  clear hbz
  go_wp2_with fail
  go_returns
  exact⟨by simp,XY.o⟩
 have h2': ¬(ls.length:Int)<2:=by omega
 have hf:=tZ hq
 have h40:ls.length<=40:=hf.1
 have HF0:=ae hq
 obtain⟨n,hn⟩: ∃n,k%(ls.length-1)=n:=⟨_,rfl⟩
 have hnl:n+1<ls.length:=by have:=Nat.mod_lt k (show 0<ls.length-1 by omega);omega
 have hmod:(k:Int).tmod ((ls.length:Int)-1)=(n:Int):=by
  rw[show(ls.length:Int)-1=((ls.length-1:Nat):Int) from by omega,ajD k _ (by omega),hn]
 have hne1: ¬((ls.length:Int)-1=0):=by omega
 have Yk:=ae (VR hq hnl)
 have HL6:=ae hf.2
 clear hq hf hn
 go_wp2_with fail
 go_loopw [6,7] (fun s i wr=> ∃j:Nat,j<=ls.length/\i= .int .i64 j/\s= .string (dG (sQ ls n j))/\Below W2.heap.size W2 wr) (fun _ i _=>ls.length-(intOf i).toNat)
 case atStart=>exact⟨0,bQ _,rfl,by simp[sQ,eQ],aH _ _⟩
 case round=>
  obtain⟨j,hj,rfl,rfl,hB⟩:=hrel
  have XZ:=ae (aY HB2.o hB)
  have HB:=ae hB
  clear hmod hne1
  by_cases hlt:j<ls.length
  ·have hnx:=Vx (k:=n) hlt
   by_cases hjn:j=n
   ·rw[aF hjn] at hnx
    have hjb:((j:Int) !=(n:Int))=false:=by simp;omega
    have Np:=ae hnx
    have HJ:=ae hjn
    clear hnx hjn hB
    generalize sQ ls n j=f at*
    go_wp2_with fail
    refine⟨⟨j+1,by omega,by go_num,by rw[Np.o],HB.o⟩,by simp[intOf];omega⟩
   ·rw[ak hjn] at hnx
    have hjb:((j:Int) !=(n:Int))=true:=by simp;omega
    obtain⟨b,off,rfl,hb,hc0⟩:=qf (HV.o wr XZ.o) hlt
    have hx6:ls[j].length<=60:=HL6.o _ (dh hlt)
    have hfl:(sQ ls n j).length<=5520:=by
     unfold sQ
     rw[dm,kJ,kJ]
     have h1:=sS (ls.take (min j n)) fun l hm=>HL6.o l (kP hm)
     have h2:=sS ((ls.take j).drop (n+1)) fun l hm=>HL6.o l (kP (List.mem_of_mem_drop hm))
     have h3:(ls.take (min j n)).length<=40:=by simp;omega
     have h4:((ls.take j).drop (n+1)).length<=40:=by simp;omega
     omega
    obtain⟨x,hx⟩: ∃x,ls[j]=x:=⟨_,rfl⟩
    rw[hx] at hc0 hx6 hnx
    have hrl:=iT j x
    have HR:=ae (fun W=>xY j x W (by omega) hx6)
    have Np:=ae hnx
    generalize sQ ls n j=f at*
    generalize bP j x=r at*
    have hadd:=fun W=>jP (P:=Tryz.prog) (a:=f) (b:=r) rfl (by omega) W
    clear hnx hx hjn hB
    go_wp2_with fail
    refine(HR.o wr).mono ?_
    rintro e W3 ⟨rfl,hB3⟩
    have HB3:=ae (aY HB.o hB3)
    clear hB3
    go_wp2_with fail
    refine⟨⟨j+1,by omega,by go_num,by first|(rw[Np.o];done)|(rw[Np.o];simp[qO]),HB3.o⟩,by simp[intOf];omega⟩
  ·obtain rfl:j=ls.length:=by omega
   obtain⟨F,hF⟩: ∃F,sQ ls n ls.length=F:=⟨_,rfl⟩
   have hpl:=Yk.o
   rw[hF] at hpl⊢
   obtain⟨c9,W3,hcv,hB3,hsl⟩:=P8 wr F (by omega)
   have HB3:=ae (aY XZ.o hB3)
   have HRC:=ae (EW F _ W3 hsl (by omega))
   have HRL:=ae hpl.1
   clear hpl hB3 hsl hF hB
   go_wp2_with fail
   refine HRC.o.mono ?_
   rintro e W4 ⟨hB4,v4,rfl,hv4⟩
   rw[HRL.o] at hv4⊢
   have hml:(ls.take n).length=n:=by simp;omega
   rw[hml] at hv4
   obtain⟨o4,c4,rfl⟩:=aW hv4
   have HB4:=ae (aY HB3.o hB4)
   have HO4:=ae (aN.dU hv4)
   obtain⟨so2,sc2,e2,t2⟩:=iG.to (HV.o W4 HB4.o) (show n<=ls.length by omega) (x:=(n:Int)) rfl
   have HTY:=ae (Jw (ls.take n) (.slice o4 n c4) (.slice so2 n sc2) W4 (by unfold iG;rw[hml];exact HO4.o) (by unfold iG;rw[hml];exact t2))
   have HFI:=ae (fun W (hb:Below W4.heap.size W4 W)=>JK (ls.take n) (.slice so2 n sc2) W (by unfold iG;rw[hml];exact aN.below t2 hb (ai _)) (by omega) (fun l hm=>HL6.o l (kP hm)))
   obtain⟨G,hG⟩: ∃G,uM (ls.take n)=G:=⟨_,rfl⟩
   have hGl:G.length=iD (ls.take n):=by rw[<-hG,aap]
   rw[hG] at HFI
   rw[<-hGl]
   have hgz:=jE G
   clear hB4 hv4 HRC hcv t2 hG hGl hml
   go_wp2_with fail
   refine HTY.o.mono ?_
   rintro e W5 ⟨rfl,vV⟩
   have nD:=ae (aY HB4.o vV)
   have HD5:=ae vV
   clear vV HTY
   go_wp2_with fail
   refine(HFI.o W5 HD5.o).mono ?_
   rintro e W6 ⟨rfl,Fe⟩
   have pY:=ae (aY nD.o Fe)
   clear Fe HFI
   go_wp2_with fail
   refine(Nk.o W6 pY.o).mono ?_
   rintro e Wz ⟨rfl,hbz⟩
   have XY:=ae (aY pY.o hbz)
   clear hbz
   go_wp2_with fail
   go_returns
   exact⟨by simp,XY.o⟩
theorem Uu (b:az) {x y:Int} {a k:Nat} (hx:x=a) (hy:y=k) (hak:a<=k) (hk:k<=b.length) (W:World):
 (Instr.slice 9 (.string (dG b)) (some (iv x)) (some (iv y)) none).run Tryz.prog W= .ok (.string (dG ((b.take k).drop a))) W:=by
 subst hx hy
 have hs:=jE b
 rw[run_slice_string W 9 (dG b) .i64 .i64 (a:Int) (k:Int) Tryz.underlying9 (by omega) (by omega) (by rw[hs];omega), <-aaM]
 rfl
theorem Yw {i n:Nat} {b:az} (hn:n<=60) (h:tJ i b n=true) (hno: ∀m,m<n->tJ i b m=false):mi i b=some ((b.drop 3).take n):=by
 unfold mi
 rw[show(List.range 61).find? (tJ i b)=some n from List.find?_range_eq_some.2 ⟨h,kD.2 (by omega),fun m hm=>by rw[hno m hm];rfl⟩]
 rfl
theorem Vh {i:Nat} {b:az} (hno: ∀m,m<61->tJ i b m=false):mi i b=none:=by
 unfold mi
 rw[List.find?_eq_none.2 fun m hm=>by rw[hno m (kD.1 hm)];simp]
 rfl
def ae7 (b:az) (w:World) (e:Ending) (W:World):Prop:=
 Below w.heap.size w W/\ ∃v,e= .returned (.tuple #[v,.int .i64 (iD (cu 40 0 b):Nat)])/\W.ownsRow w.heap.size 9 1 v (cu 40 0 b).length (bH (cu 40 0 b))
theorem VH (b:az) (w:World) (hb:b.length<=100000):Calls Tryz.prog 13 #[.string (dG b)] w (ae7 b w):=by
 have hsz:=jE b
 go_enter Tryz.func13,Tryz.ntmps13
 go_wp2_with fail
 go_loopw [4,5] (fun out a wr=> ∃(k:Nat) (o:Option Addr) (c:Nat),out= .slice o k c/\k<=(cu 40 0 b).length/\a= .int .i64 (iD ((cu 40 0 b).take k):Nat)/\wr.ownsRow w.heap.size 9 1 (.slice o k c) k (bH ((cu 40 0 b).take k))/\Below w.heap.size w wr) (fun _ a _=>b.length-(intOf a).toNat)
 case atStart=>exact⟨0,none,0,rfl,bQ _,rfl,⟨rfl,.inl ⟨rfl,rfl⟩⟩,aH _ _⟩
 case round=>
  obtain⟨k,o,c,rfl,hk,rfl,hown,hB⟩:=hrel
  have hst:=size_take b k
  have aen:=xW 40 0 b
  have HB:=ae hB
  have HO:=ae hown
  have HK:=ae hk
  by_cases h40:k<40
  rotate_left
  ·have aan: ¬(k:Int)<40:=by omega
   have hkl:=yV hk (.inl (by omega))
   have HE:Hid (wr.ownsRow w.heap.size 9 1 (.slice o k c) (cu 40 0 b).length (bH (cu 40 0 b))/\iD ((cu 40 0 b).take k)=iD (cu 40 0 b)):=ae (by
    have h:=hown
    rw[hkl,List.take_length] at h
    rw[hkl,List.take_length]
    exact⟨h,rfl⟩)
   clear hown hB hk hkl
   go_wp2_with fail
   go_returns
   exact⟨HB.o,.slice o k c,by simp[HE.o.2],HE.o.1⟩
  ·have aan:(k:Int)<40:=by omega
   obtain⟨rG,hat⟩: ∃n,iD ((cu 40 0 b).take k)=n:=⟨_,rfl⟩
   rw[hat] at hst⊢
   have HAT:=ae hat
   clear hown hB hk hat
   go_wp2_with fail
   generalize wr=Wo at*
   go_loopw [4,5,6,7] (fun out a fd nn wq=> ∃n:Nat,nn= .int .i64 n/\n<=61/\((fd= .bool false/\out= .slice o k c/\a= .int .i64 (rG:Int)/\(∀m,m<n->tJ k (b.drop rG) m=false)/\Below Wo.heap.size Wo wq)∨
    (fd= .bool true/\ ∃(l:az) (o':Option Addr) (c':Nat),mi k (b.drop rG)=some l/\out= .slice o' (k+1) c'/\a= .int .i64 ((rG+(9+l.length):Nat):Int)/\wq.ownsRow w.heap.size 9 1 (.slice o' (k+1) c') (k+1) (bH ((cu 40 0 b).take k++[l]))/\Below w.heap.size w wq))) (fun _ _ _ nn _=>62-(intOf nn).toNat)
   case atStart=>exact⟨0,rfl,by omega,.inl ⟨rfl,rfl,rfl,fun m hm=>absurd hm (Nat.not_lt_zero _),aH _ _⟩⟩
   case round=>
    obtain⟨n,rfl,aon,⟨rfl,rfl,rfl,hno,hQ⟩|⟨rfl,l,o',c',hw,rfl,rfl,hown',hQ⟩⟩:=hrel
    ·have HNO:=ae hno
     have HQ:=ae hQ
     clear hno hQ
     by_cases h60:n<=60
     ·have aam:(n:Int)<=60:=by omega
      by_cases hfit:rG+9+n<=b.length
      ·have ahh:(rG:Int)+9+(n:Int)<=(b.length:Int):=by omega
       have sl1:=Uu b (x:=(rG:Int)+3) (y:=(rG:Int)+3+(n:Int)) (a:=rG+3) (k:=rG+3+n) (by omega) (by omega) (by omega) (by omega)
       have sl2:=Uu b (x:=(rG:Int)) (y:=(rG:Int)+9+(n:Int)) (a:=rG) (k:=rG+9+n) (by omega) (by omega) (by omega) (by omega)
       have ex:(b.take (rG+3+n)).drop (rG+3)=((b.drop rG).drop 3).take n:=by rw[List.drop_take,List.drop_drop];congr 1;omega
       have ey:(b.take (rG+9+n)).drop rG=(b.drop rG).take (9+n):=by rw[List.drop_take];congr 1;omega
       rw[ex] at sl1
       rw[ey] at sl2
       obtain⟨x,hx⟩: ∃x,((b.drop rG).drop 3).take n=x:=⟨_,rfl⟩
       obtain⟨y,hy⟩: ∃y,(b.drop rG).take (9+n)=y:=⟨_,rfl⟩
       have hxl:x.length=n:=by rw[<-hx];simp;omega
       rw[hx] at sl1
       rw[hy] at sl2
       have hrec:tJ k (b.drop rG) n=(bP k x==y):=by
        unfold tJ
        rw[hx,hy,decide_eq_true (by simp;omega),Bool.true_and]
       obtain⟨r,hr⟩: ∃r,bP k x=r:=⟨_,rfl⟩
       have HR:=ae (fun W=>xY k x W (by omega) (by omega))
       rw[hr] at HR hrec
       have Iu:=ae hrec
       have HX:=ae hx
       clear ex ey hx hy hr hrec
       cases hq:(r==y) with
       |false=>
        rw[hq] at Iu
        go_upto_region 8 with(fail)
        refine zg 28 [] none [(18,Spec.val (.string (dG r)))] ?_
        simp only[zt]
        repeat ((first|refine zn ?_|refine zk ?_);simp only[zp])
        refine zw 17 (h:=fun W hE hF=>by exact HR.o W) (t:=?_)
        simp only[zp]
        repeat ((first|refine zn ?_|refine zk ?_);simp only[zp])
        intro W5 Ez hF5
        have nD:=ae (aY HQ.o (Ext.below (show Ext [] wr W5 from Ez)))
        clear Ez hF5
        go_wp2_with fail
        refine⟨⟨n+1,by go_num,by omega,.inl ⟨rfl,rfl,rfl,fun m hm=>?_,nD.o⟩⟩,by simp[intOf];omega⟩
        by_cases hm':m<n
        ·exact HNO.o m hm'
        ·rw[show m=n from by omega];exact Iu.o
       |true=>
        rw[hq] at Iu
        have HWH:=ae (show mi k (b.drop rG)=some x by rw[Yw h60 Iu.o HNO.o,HX.o])
        go_upto_region 8 with(fail)
        refine zg 28 [] none [(18,Spec.val (.string (dG r)))] ?_
        simp only[zt]
        repeat ((first|refine zn ?_|refine zk ?_);simp only[zp])
        refine zw 17 (h:=fun W hE hF=>by exact HR.o W) (t:=?_)
        simp only[zp]
        repeat ((first|refine zn ?_|refine zk ?_);simp only[zp])
        intro W5 Ez hF5
        have nD:=ae (aY HQ.o (Ext.below (show Ext [] wr W5 from Ez)))
        have HOA:=ae (aC (Ms:=[]) HO.o (Ext.aA (aj nD.o (.cells #[.string (dG x)] 9))) (by simp))
        have hz5:=(aY HB.o nD.o).size
        clear Ez hF5
        go_wp2_with (at_builtin;go_loud (refine fQ rfl _ _ Ut rfl w.heap.size (.slice o k c) k (bH ((cu 40 0 b).take k)) rfl HOA.o (.slice (some ⟨W5.heap.size,0,none⟩) 1 1) 1 (bH [x]) rfl (aN.dB 1 1 (ay _ _) rfl (by decide)) (AY [x]) (by omega) (by omega) (by simp;omega) ?_))
        intro v6 W6 hown hgr _
        obtain⟨o6,c6,rfl⟩:=aW hown
        have Jk:Hid (W6.ownsRow w.heap.size 9 1 (.slice o6 (k+1) c6) (k+1) (bH ((cu 40 0 b).take k++[x]))):=ae (by simpa [bH] using hown)
        have pY:Hid (Below w.heap.size w W6):=ae (Below.grown (aj (aY HB.o nD.o) _) hgr (by simp;omega) (fun g e=>(bD HOA.o g e).1))
        clear hown hgr HOA
        go_wp2_with fail
        refine⟨⟨n+1,by go_num,by omega,.inr ⟨rfl,x,o6,c6,HWH.o,rfl,by first|(rw[hxl];done)|(rw[hxl];congr 1;done)|(rw[hxl];congr 1;omega),Jk.o,pY.o⟩⟩,by simp[intOf];omega⟩
      ·have ahh: ¬(rG:Int)+9+(n:Int)<=(b.length:Int):=by omega
       have hrec:tJ k (b.drop rG) n=false:=by
        unfold tJ
        rw[decide_eq_false (by simp;omega),Bool.false_and]
       have Iu:=ae hrec
       clear hrec
       go_upto_region 8 with(fail)
       refine zg 28 [] none [] ?_
       simp only[zt]
       repeat ((first|refine zn ?_|refine zk ?_);simp only[zp])
       intro W5 Ez hF5
       have nD:=ae (aY HQ.o (Ext.below (show Ext [] wr W5 from Ez)))
       clear Ez hF5
       go_wp2_with fail
       refine⟨⟨n+1,by go_num,by omega,.inl ⟨rfl,rfl,rfl,fun m hm=>?_,nD.o⟩⟩,by simp[intOf];omega⟩
       by_cases hm':m<n
       ·exact HNO.o m hm'
       ·rw[show m=n from by omega];exact Iu.o
     ·have aam: ¬(n:Int)<=60:=by omega
      have hkl:=yV HK.o (.inr (by rw[HAT.o];exact Vh fun m hm=>HNO.o m (by omega)))
      have HE:Hid (wr.ownsRow w.heap.size 9 1 (.slice o k c) (cu 40 0 b).length (bH (cu 40 0 b))/\rG=iD (cu 40 0 b)):=ae (by
       have h:=aC (Ms:=[]) HO.o (Ext.aA HQ.o) (by simp)
       have h2:=HAT.o
       rw[hkl,List.take_length] at h h2
       exact⟨by rw[hkl];exact h,h2.symm⟩)
      have HBX:=ae (aY HB.o HQ.o)
      clear hkl
      go_wp2_with fail
      go_returns
      exact⟨HBX.o,.slice o k c,by simp[HE.o.2],HE.o.1⟩
    ·have hnx:=JJ HK.o h40 (l:=l) (by rw[HAT.o];exact hw)
     obtain⟨hlt,hget⟩:=hnx
     have htk:(cu 40 0 b).take k++[l]=(cu 40 0 b).take (k+1):=by rw[iC hlt,hget]
     have hsz2:iD ((cu 40 0 b).take (k+1))=rG+(9+l.length):=by rw[<-htk,CU,HAT.o];simp[iD]
     have hle:=size_take b (k+1)
     rw[htk] at hown'
     rw[hsz2] at hle
     have HN:=ae (ag hown' (ag hQ (ag hlt hsz2)))
     clear hown' hQ hw htk hget hlt hsz2
     go_wp2_with fail
     all_goals exact⟨⟨k+1,o',c',rfl,HN.o.2.2.1,by rw[HN.o.2.2.2];congr 1,HN.o.1,HN.o.2.1⟩,by simp[intOf];omega⟩
theorem IG (ls:List az) (lv:Value) (b:az) (w:World) (hv:iG w lv ls) (hE:Env w):Calls Tryz.prog 3 #[lv,.string (dG b)] w (PV (.bool true) w):=by
 obtain⟨lo,lc,rfl⟩:=aN.open hv
 have HT:=ae (Qh ls _ w hv)
 have HV:=ae (fun W (hb:Below w.heap.size w W)=>hv.below hb (ai _))
 have Nk:=ae (fun W (hb:Below w.heap.size w W)=>EP W (hE.below hb (ai _)))
 have hbz:=jE b
 clear hv hE
 obtain⟨th,hth⟩: ∃t,Jv ls=t:=⟨_,rfl⟩
 rw[hth] at HT
 go_enter Tryz.func3,Tryz.ntmps3
 go_wp2_with fail
 refine HT.o.mono ?_
 rintro e W1 ⟨rfl,hB1⟩
 have HB1:=ae hB1
 clear hB1 HT
 cases th with
 |false=>
  clear hth
  go_wp2_with fail
  refine(Nk.o W1 HB1.o).mono ?_
  rintro e Wz ⟨rfl,hbz⟩
  have XY:=ae (aY HB1.o hbz)
  clear hbz
  go_wp2_with fail
  go_returns
  exact⟨by simp,XY.o⟩
 |true=>
 by_cases hb4:400<b.length
 ·have akI:(400:Int)<b.length:=by omega
  clear hth
  go_wp2_with fail
  refine(Nk.o W1 HB1.o).mono ?_
  rintro e Wz ⟨rfl,hbz⟩
  have XY:=ae (aY HB1.o hbz)
  clear hbz
  go_wp2_with fail
  go_returns
  exact⟨by simp,XY.o⟩
 have akI: ¬(400:Int)<b.length:=by omega
 have ZB:=xO.1 hth
 have h45:ls.length<=45:=ZB.1
 have Uk:=ae (fun l (hl:l∈ls)=>show l.length<=1000000 by have:=ZB.2 l hl;omega)
 clear hth ZB
 go_wp2_with fail
 refine(RI (ls) (.slice lo ls.length lc) W1 (HV.o W1 HB1.o) (by have:=h45;omega)).mono ?_
 rintro e Wla ⟨ola,cla,rfl,hol,hbl⟩
 have alS:=ae (aY HB1.o hbl)
 have alB:=ae (aN.dU hol)
 have aqf:=ae hbl
 clear hbl hol
 have HWR:=ae (KH ls _ Wla alB.o Uk.o)
 obtain⟨q,hq⟩: ∃q,fC ls=q:=⟨_,rfl⟩
 rw[hq] at HWR
 have HQ:=ae hq
 clear hq
 go_wp2_with fail
 refine HWR.o.mono ?_
 rintro e W3 ⟨hB3,hres⟩
 obtain⟨v3,rfl,hv3⟩: ∃v,e= .returned (.tuple #[v,iv q])/\((q≠0/\v= .slice none 0 0)∨(q=0/\W3.ownsRow Wla.heap.size 5 1 v (uM ls).length (Lib.byteCells (uM ls)))):=by
  rcases hres with⟨h1,h2⟩|⟨h1,v,h2,h3⟩
  ·exact⟨_,h2,.inl ⟨h1,rfl⟩⟩
  ·exact⟨v,by rw[h1];exact h2,.inr ⟨h1,h3⟩⟩
 obtain⟨o3,n3,c3,rfl⟩: ∃o n c,v3= .slice o n c:=by
  rcases hv3 with⟨_,rfl⟩|⟨_,h⟩
  ·exact⟨_,_,_,rfl⟩
  ·obtain⟨o,c,rfl⟩:=aW h
   exact⟨_,_,_,rfl⟩
 have HB3:=ae (aY alS.o hB3)
 have HV3:=ae hv3
 obtain⟨c4,W4,hcv,hB4,hsl⟩:=P8 W3 b (by omega)
 have HB4:=ae (aY HB3.o hB4)
 have HD4:=ae hB4
 have HRC:=ae (EW b _ W4 hsl (by omega))
 clear hB3 hres hv3 hB4 hsl HWR
 go_wp2_with fail
 refine HRC.o.mono ?_
 rintro e W5 ⟨vV,v5,rfl,hv5⟩
 obtain⟨o5,c5,rfl⟩:=aW hv5
 have nD:=ae (aY HB4.o vV)
 have HD5:=ae (aY HD4.o vV)
 have HO5:=ae (aN.dU hv5)
 have HRR:=ae (VH b W5 (by omega))
 clear vV hv5 hcv HRC
 go_wp2_with fail
 refine HRR.o.mono ?_
 rintro e W6 ⟨Fe,v6,rfl,hv6⟩
 obtain⟨o6,c6,rfl⟩:=aW hv6
 have pY:=ae (aY nD.o Fe)
 have HD6:=ae (aY HD5.o Fe)
 have HTX:=ae (Jw (cu 40 0 b) (.slice o5 (cu 40 0 b).length c5) (.slice o6 (cu 40 0 b).length c6) W6 (aN.below HO5.o Fe (ai _)) (aN.dU hv6))
 clear Fe hv6 HRR HO5
 go_wp2_with fail
 refine HTX.o.mono ?_
 rintro e W7 ⟨rfl,IK⟩
 have zU:=ae (aY pY.o IK)
 have HD7:=ae (aY HD6.o IK)
 have HLF:=ae (GH ls _ W7 (HV.o W7 zU.o))
 rw[HQ.o] at HLF
 clear IK HTX
 go_wp2_with fail
 refine HLF.o.mono ?_
 rintro e W8 ⟨rfl,AU⟩
 have oV:=ae (aY zU.o AU)
 have HD8:=ae (aY HD7.o AU)
 clear AU HLF
 by_cases hq0:q=0
 rotate_left
 ·have hqb:(q !=0)=true:=by simpa using hq0
  obtain⟨_,hv⟩:=HV3.o.resolve_right fun h=>hq0 h.1
  cases hv
  go_wp2_with fail
  refine(Nk.o W8 oV.o).mono ?_
  rintro e Wz ⟨rfl,hbz⟩
  have XY:=ae (aY oV.o hbz)
  clear hbz
  go_wp2_with fail
  go_returns
  exact⟨by simp,XY.o⟩
 subst hq0
 have hv3:=(HV3.o.resolve_left fun h=>h.1 rfl).2
 have hfl:=tZ HQ.o
 obtain⟨o9,c9,he⟩:=aW hv3
 cases he
 have HO3:=ae (aN.dU hv3)
 have HFI:=ae (fun W (hb:Below w.heap.size w W)=>JK ls _ W (HV.o W hb) (by omega) hfl.2)
 obtain⟨F,hF⟩: ∃F,uM ls=F:=⟨_,rfl⟩
 rw[hF] at HO3 HFI⊢
 clear hv3 hfl hF
 go_upto_region 11 with(fail)
 refine zg 12 [] none [(6,Spec.val (.string (dG F))),(10,Spec.val (.bool true))] ?_
 simp only[zt]
 repeat ((first|refine zn ?_|refine zk ?_);simp only[zp])
 refine iw (by rfl) (.string (dG F)) (by rfl) (fun W hE hF=>?_) ?_
 ·have hb:=Ext.below (show Ext [] W8 W from hE)
  have c1:=wV (W:=W) (o:=o3) (n:=F.length) (c:=c3) (l:=F) (aN.below HO3.o (aY HD8.o hb) (ai _))
  go_simp
 simp only[zp]
 repeat ((first|refine zn ?_|refine zk ?_);simp only[zp])
 refine zw 16 (h:=fun W hE hF=>by
  have hb:=Ext.below (show Ext [] W8 W from hE)
  exact HFI.o W (aY oV.o hb)) (t:=?_)
 simp only[zp]
 repeat ((first|refine zn ?_|refine zk ?_);simp only[zp])
 refine zw 9 (h:=fun W hE hF=>by
  have hb:=Ext.below (show Ext [] W8 W from hE)
  exact Nk.o W (aY oV.o hb)) (t:=?_)
 simp only[zp]
 repeat ((first|refine zn ?_|refine zk ?_);simp only[zp])
 intro W9 hE9 hF9
 have qQ:=ae (aY oV.o (Ext.below (show Ext [] W8 W9 from hE9)))
 clear hE9 hF9
 go_wp2_with fail
 go_returns
 exact⟨by simp,qQ.o⟩
end Go.Proofs.YthllkbbbapgelaaGreatDoor.Bk
end

/-
  Texts of this claim, packed by a program: WC WD WE.
-/
import Derived.WalkKit
import Derived.WalkLawsBesides
import Derived.WalkSpells
import Derived.Outline
import Derived.Handy
import Derived.KernelRfl
import Derived.Lib.Hide
import Derived.Deep.MidRow
import Derived.Laws.StructEq
import Derived.Maps.AppendAt
import Derived.WalkMore
import Derived.Deep.LoopGhost
import Derived.OwnWalkIn
import Derived.Test.YthbpmepjmebolaaGreatDoorPS5
import Derived.Test.YthbpmepjmebolaaGreatDoorPS9
set_option maxHeartbeats 8000000
set_option maxRecDepth 100000
set_option linter.all false
section
namespace Go.SL
open Go.RowKit Go.RG
end Go.SL
namespace Go.Proofs.YthbpmepjmebolaaGreatDoor.jA
open Go.RowKit Go.RG Go.SL Go.Shelf ji
structure wz (w0:World) (mb:Nat) (aY:Int) (yK:Value) (below fb pb bb ab:Nat) (W:World):Prop where
 ext:Ext [mb] w0 W
 cache:Cache W mb aY
 found: ∃o n c,W.heap[fb]? =some (.cells #[.slice o n c] 36 (0,0))
 pass:W.heap[pb]? =some (.cells #[yK] 157 (0,0))
 bound:W.heap[bb]? =some (.cells #[iv below] 3 (0,0))
 add:W.heap[ab]? =some (.cells #[.func (.func 165) #[] #[.pointer (some ⟨fb,0,none⟩),.pointer (some ⟨pb,0,none⟩),.pointer (some ⟨bb,0,none⟩),.pointer (some ⟨ab,0,none⟩)]] 256 (0,0))
 new:w0.heap.size<=fb/\w0.heap.size<=pb/\w0.heap.size<=bb/\w0.heap.size<=ab
 old:mb<w0.heap.size
theorem wz.table {w0 W W':World} {mb:Nat} {aY:Int} {yK:Value} {below fb pb bb ab:Nat} (h:wz w0 mb aY yK below fb pb bb ab W) (hE:Ext [mb] W W') (hc:Cache W' mb aY):wz w0 mb aY yK below fb pb bb ab W':=by
 have hn:=h.new
 have ho:=h.old
 obtain⟨o,n,c,hf⟩:=h.found
 have k: ∀(b:Nat) (x:Obj),W.heap[b]? =some x->w0.heap.size<=b->W'.heap[b]? =some x:=fun b x hb hle=>(hE.block b (aT.1 hb).1 (by simp;omega)).trans hb
 exact⟨h.ext.trans hE,hc,⟨o,n,c,k _ _ hf hn.1⟩,k _ _ h.pass hn.2.1,k _ _ h.bound hn.2.2.1,k _ _ h.add hn.2.2.2,hn,ho⟩
theorem wz.below {w0 W W':World} {mb:Nat} {aY:Int} {yK:Value} {below fb pb bb ab:Nat} (h:wz w0 mb aY yK below fb pb bb ab W) (hB:Below W.heap.size W W'):wz w0 mb aY yK below fb pb bb ab W':=
 h.table (Ext.az hB) (h.cache.kept (hB.block mb h.cache.lt))
end Go.Proofs.YthbpmepjmebolaaGreatDoor.jA
namespace Go.Proofs.YthbpmepjmebolaaGreatDoor.jA
open Go.RowKit Go.RG Go.SL Go.Shelf ji
def acm (w0:World) (mb:Nat) (aY:Int) (yK:Value) (below fb pb bb ab:Nat) (r:Option (List Int)) (W:World) (e:Ending) (W':World):Prop:=
 (wz w0 mb aY yK below fb pb bb ab W'/\Ext [mb,fb] W W')/\((∃c,r=some c/\e= .returned (.bool true)/\ ∃sv,W'.heap[fb]? =some (.cells #[sv] 36 (0,0))/\aN W' sv c)∨(r=none/\e= .returned (.bool false)))
theorem wz.set {w0 W:World} {mb:Nat} {aY:Int} {yK:Value} {below fb pb bb ab:Nat} (h:wz w0 mb aY yK below fb pb bb ab W) (hd:fb≠pb/\fb≠bb/\fb≠ab) (o:Option Addr) (n c:Nat):wz w0 mb aY yK below fb pb bb ab (W.setCell ⟨fb,0,none⟩ (.slice o n c)):=by
 have hn:=h.new
 have ho:=h.old
 obtain⟨o',n',c',hf⟩:=h.found
 exact⟨h.ext.set hn.1 _,h.cache.kept (dB _ _ _ _ (by show mb≠fb;omega)),⟨o,n,c,aI hf _⟩,
  (dB _ _ _ _ (by show pb≠fb;omega)).trans h.pass,(dB _ _ _ _ (by show bb≠fb;omega)).trans h.bound,(dB _ _ _ _ (by show ab≠fb;omega)).trans h.add,hn,ho⟩
theorem wz.not {w0 W:World} {mb:Nat} {aY:Int} {yK:Value} {below fb pb bb ab:Nat} (h:wz w0 mb aY yK below fb pb bb ab W): ∀x∈[mb,fb], ∀o n,W.cell? ⟨x,o,none⟩≠some (.int .i64 n):=by
 intro x hx o n hc
 obtain⟨o',n',c',hf⟩:=h.found
 rcases gY.1 hx with rfl|hx
 ·rw[h.cache.mG o] at hc;cases hc
 ·obtain rfl:x=fb:=by simpa using hx
  simp only[World.cell?,hf] at hc
  cases o with
  |zero=>simp at hc
  |succ o=>simp at hc
theorem add_any (below:Nat) (hbl:below<=500) (p:List Int->Bool) (mb:Nat) (aY:Int) (w0:World) (pf:Nat) (pM kL:Array Value) (fb pb bb ab:Nat) (hd:fb≠pb/\fb≠bb/\fb≠ab)
 (eg: ∀args w,(callFunc pf args).run Tryz.prog w= .ok (.enter pf args) w)
 (uV: ∀l v W,Ext [mb] w0 W->Cache W mb aY->aN W v l->Calls Tryz.prog pf (pM.push v++kL) W (fun e W'=>e= .returned (.bool (p l))/\Cache W' mb aY/\Ext [mb] W W')):
 ∀(m f:Nat) (l:List Int) (v:Value) (W:World),l.length+m<=900->f<=900->m<=900->wz w0 mb aY (.func (.func pf) pM kL) below fb pb bb ab W->aN W v l->
  Calls Tryz.prog 165 #[v,iv f,iv m,.pointer (some ⟨fb,0,none⟩),.pointer (some ⟨pb,0,none⟩),.pointer (some ⟨bb,0,none⟩),.pointer (some ⟨ab,0,none⟩)] W
   (acm w0 mb aY (.func (.func pf) pM kL) below fb pb bb ab (((jG below m f).map (l++ ·)).find? p) W):=by
 intro m
 induction m with
 |zero=>
  intro f l v W h1 h2 h3 hst hv
  have hres:((jG below 0 f).map (l++ ·)).find? p=if p l then some l else none:=by
   simp only[jG,List.map_cons,List.map_nil,List.append_nil,List.find?_cons,List.find?_nil]
   cases p l <;>rfl
  obtain⟨r,hr⟩: ∃r,((jG below 0 f).map (l++ ·)).find? p=r:=⟨_,rfl⟩
  rw[hr] at hres⊢
  have wU:=ae hres
  clear hr hres
  obtain⟨o,c,rfl⟩:=hv.open
  obtain⟨o',n',c',hf⟩:=hst.found
  have c1:=aA hf
  have c2:=aA hst.pass
  have hlt:=dF W _ c1
  have hfr:=bn hf 0
  have hS:=hst.set hd o l.length c
  have hv1:aN (W.setCell ⟨fb,0,none⟩ (.slice o l.length c)) (.slice o l.length c) l:=aN.uk hv ((lY W ⟨fb,0,none⟩ _).more (Ms':=[mb,fb]) (by simp)) hst.not
  have HC:=ae (uV l _ _ hS.ext hS.cache hv1)
  have HS:=ae hst
  have LC:=ae (ag hS hv1)
  have HF:=ae hf
  have hd1: ¬pb=fb:=fun e=>hd.1 e.symm
  have hd2:=hd.1
  clear uV hst hv hS hv1 hf
  go_enter Tryz.func165,Tryz.ntmps165
  go_wp2_with fail
  refine HC.o.mono ?_
  rintro e W' ⟨rfl,hcc,hE⟩
  have hS2:=LC.o.1.table hE hcc
  have hn:=HS.o.new
  have ho:=HS.o.old
  have hfb:W'.heap[fb]? =some (.cells #[.slice o l.length c] 36 (0,0)):=(hE.block fb (by simpa [World.setCell] using hlt) (by simp;omega)).trans (aI HF.o _)
  have hEE:Ext [mb,fb] W W':=((lY W ⟨fb,0,none⟩ (.slice o l.length c)).more (by simp)).trans (hE.more (by simp))
  have hv2:aN W' (.slice o l.length c) l:=aN.uk LC.o.2 (hE.more (Ms':=[mb,fb]) (by simp)) LC.o.1.not
  have HR:=ae (ag hS2 (ag hfb (ag hEE hv2)))
  clear hcc hE hS2 hfb hEE hv2
  go_wp2_with fail
  go_returns
  refine⟨⟨HR.o.1,HR.o.2.2.1⟩,?_⟩
  have hre:=wU.o
  revert hre
  cases p l
  ·intro hre;exact .inr ⟨by simpa using hre,by simp⟩
  ·intro hre;exact .inl ⟨l,by simpa using hre,by simp,_,HR.o.2.1,HR.o.2.2.2⟩
 |succ m ih=>
  intro f l v W h1 h2 h3 hst hv
  obtain⟨o,c,rfl⟩:=hv.open
  have hres:((jG below (m+1) f).map (l++ ·)).find? p=((List.range (below-m-f)).flatMap fun j=>(jG below m (f+j+1)).map ((l++[((f+j:Nat):Int)])++ ·)).find? p:=by
   conv=>lhs;unfold jG
   rw[List.map_flatMap]
   simp only[List.map_map]
   congr 2
   funext j
   apply List.map_congr_left
   intro x _
   simp
  rw[hres]
  clear hres
  obtain⟨r,hr⟩: ∃r,((List.range (below-m-f)).flatMap fun j=>(jG below m (f+j+1)).map ((l++[((f+j:Nat):Int)])++ ·)).find? p=r:=⟨_,rfl⟩
  rw[hr]
  have wU:=ae hr
  clear hr
  have hmm:(m:Int)+1<=900:=by omega
  have hm0:((m:Int)+1==0)=false:=by simp;omega
  have ajl: ¬((m:Int)+1=0):=by omega
  rw[show(((m+1:Nat)):Int)=(m:Int)+1 from by omega]
  have HST:=ae hst
  have HV:=ae hv
  have HIH:=ae ih
  have HD:=ae hd
  clear uV hst hv ih hd
  go_enter Tryz.func165,Tryz.ntmps165
  go_wp2_with fail
  go_loopw [11] (fun i wr=> ∃q:Nat,f<=q/\q<=f+(below-m-f)/\i= .int .i64 q/\wz w0 mb aY (.func (.func pf) pM kL) below fb pb bb ab wr/\Ext [mb,fb] W wr/\
   (∀j,f+j<q->((jG below m (f+j+1)).map ((l++[((f+j:Nat):Int)])++ ·)).find? p=none)) (fun i _=>below+f+1-(intOf i).toNat)
  case atStart=>exact⟨f,ai _,by omega,rfl,HST.o,Ext.refl _ _,fun j hj=>by omega⟩
  case round=>
   obtain⟨q,hfq,hq,rfl,hst,hE,hno⟩:=hrel
   have hv:=aN.uk HV.o hE HST.o.not
   have d1:=aA hst.bound
   have d2:=aA hst.add
   have e1:=dF wr _ d1
   have e2:=dF wr _ d2
   have HS:=ae hst
   have HE:=ae hE
   have HN:=ae hno
   have HVV:=ae hv
   clear hst hE hno hv
   by_cases hlt:q<f+(below-m-f)
   ·have hqI:(q:Int)<=(below:Int)-((m:Int)+1):=by omega
    have hq9:(q:Int)<=500:=by omega
    go_wp2_with fail
    refine qi 10 [] (some 5) [(2,⟨fun _ v=> ∃o c,v= .slice o l.length c,fun _ _ _=>True⟩),(4,⟨fun _ v=> ∃b:Nat,v= .slice (some ⟨b,0,none⟩) 1 1,fun _ _ _=>True⟩),(5,⟨fun _ v=> ∃o c,v= .slice o (l.length+1) c,fun _ v W=>W.ownsRow wr.heap.size 3 1 v (l.length+1) (ah (l++[(q:Int)]))⟩)] (afl wr.heap.size l.length l q) (by kernel_rfl) (by kernel_rfl) ?_
    simp only[zt]
    repeat (refine zd ?_;simp only[zp])
    refine kJ _ (by rfl) (by rfl) (by exact⟨.slice none l.length 0,none,0,rfl⟩) (fun W1 hE hF hG=>?_) (fun _ _ _ _ _=>trivial) (fun v Wa Wb ho hE=>aB (Ms:=[]) ho hE (by simp)) (fun v hv=>?_)
    ·have hE':ug wr.heap.size [] wr W1:=hE
     refine dn 98 #[.slice o l.length c] (by go_simp;try rfl) ?_
     refine(clone_any l _ W1 (HVV.o.below (pW hE' (ai _)) (ai _)) (by omega)).mono ?_
     rintro e W2 ⟨v,rfl,ho,hb⟩
     refine⟨v,rfl,aV ho,trivial,Ext.az hb,cu ho hE'.size⟩
    obtain⟨o2,c2,rfl⟩:=hv
    simp only[zp]
    repeat (refine zd ?_;simp only[zp])
    refine kJ _ (by rfl) (by rfl) (by exact⟨.slice (some ⟨0,0,none⟩) 1 1,0,rfl⟩) (fun W1 hE hF hG=>?_) (fun _ _ _ _ _=>trivial) (fun v Wa Wb ho hE=>?_) (fun v hv=>?_)
    ·refine iU (W':=W1.alloc (.cells #[iv q] 3)) (.slice (some ⟨W1.heap.size,0,none⟩) 1 1) (by go_simp;try rfl) ⟨⟨_,rfl⟩,trivial,Ext.az ((aG _ _).alloc (ai _) _),_,rfl,heap_alloc_new _ _⟩
    ·obtain⟨b,hb,hc⟩:=ho
     exact⟨b,hb,(hE.block b (aT.1 hc).1 (by simp)).trans hc⟩
    obtain⟨b4,rfl⟩:=hv
    simp only[zp]
    refine kJ _ (by rfl) (by rfl) (by exact⟨.slice none (l.length+1) 0,none,0,rfl⟩) (fun W1 hE hF hG=>?_) (fun v Wa Wb ho hE=>aB (Ms:=[]) ho hE (by simp)) (fun _ _ _ _ _=>trivial) (fun v hv=>?_)
    ·obtain⟨b,hb,hc⟩:=hG rfl _ (bD _) (by kernel_rfl)
     cases hb
     have ho:W1.ownsRow wr.heap.size 3 1 (.slice o2 l.length c2) l.length (ah l):=hG rfl _ (ng _ (bD _)) (by kernel_rfl)
     have hE':Ext [] wr W1:=hE
     have hsrc:aP 1 W1 (.slice (some ⟨b4,0,none⟩) 1 1) 1 (ah [(q:Int)]):=aP.cZ 1 1 hc rfl (by decide)
     refine Does.mono (xU qp (by rfl) (by rfl) ho (by rfl) hsrc (jc _) (by omega) (by omega) hE'.size) ?_
     rintro v W2 ⟨hown,hgr⟩
     rw[<-uD] at hown
     obtain⟨o5,c5,rfl⟩:=aV hown
     exact⟨⟨o5,c5,rfl⟩,hown,Gi ho hgr,trivial⟩
    obtain⟨o5,c5,rfl⟩:=hv
    simp only[zp]
    repeat (refine zn ?_;simp only[zp])
    intro W1 hE1 hF
    have hE':ug wr.heap.size [] wr W1:=hE1
    have hB:=pW hE' (ai _)
    obtain⟨hc,hf⟩:=bK hB
    have ho:W1.ownsRow wr.heap.size 3 1 (.slice o5 (l.length+1) c5) (l.length+1) (ah (l++[(q:Int)])):=hF _ (bD _)
    have uH:aN W1 (.slice o5 (l.length+1) c5) (l++[(q:Int)]):=by
     have:=aP.dR ho
     unfold aN
     rw[dm]
     exact this
    have hcall:=HIH.o (q+1) (l++[(q:Int)]) _ W1 (by simp;omega) (by omega) (by omega) (HS.o.below hB) uH
    rw[show(((q+1:Nat)):Int)=(q:Int)+1 from by omega] at hcall
    have HC:=ae hcall
    have HB:=ae hB
    clear hcall uH ho hB hE' hE1 hF
    go_wp2_with fail
    refine HC.o.mono ?_
    rintro e W2 ⟨⟨hS2,hE2⟩,hres⟩
    have HS2:=ae hS2
    have HEE:=ae ((HE.o.trans (Ext.az HB.o)).trans hE2)
    clear hS2 hE2 hc hf d1 d2
    have hq1:f+(q-f)=q:=by omega
    rcases hres with⟨cc,hcc,rfl,sv,hsv,uH⟩|⟨hnone,rfl⟩
    ·have HR:=ae (ag hcc (ag hsv uH))
     clear hcc hsv uH
     go_wp2_with fail
     go_returns
     refine⟨⟨HS2.o,HEE.o⟩,.inl ⟨cc,?_,by simp,sv,HR.o.2⟩⟩
     rw[<-wU.o]
     refine qI p _ _ (q-f) (by simp;omega) cc (fun j hj=>?_) ?_
     ·simp only[List.getElem_range]
      exact HN.o j (by omega)
     ·simp only[List.getElem_range,hq1]
      exact HR.o.1
    ·have HR:=ae hnone
     clear hnone
     go_wp2_with fail
     go_roundw
     case rel=>
      refine⟨q+1,by omega,by omega,by go_num,HS2.o,HEE.o,fun j hj=>?_⟩
      by_cases hjq:f+j=q
      ·rw[hjq];exact HR.o
      ·exact HN.o j (by omega)
     case measure=>simp[intOf];omega
   ·have hqI: ¬((q:Int)<=(below:Int)-((m:Int)+1)):=by omega
    go_wp2_with fail
    go_returns
    refine⟨⟨HS.o,HE.o⟩,.inr ⟨?_,by simp⟩⟩
    rw[<-wU.o]
    exact sN p _ _ (fun j hj=>by
     simp only[List.length_range] at hj
     simp only[List.getElem_range]
     exact HN.o j (by omega))
end Go.Proofs.YthbpmepjmebolaaGreatDoor.jA
namespace Go.Proofs.YthbpmepjmebolaaGreatDoor.jA
open Go.RowKit Go.RG Go.SL Go.Shelf ji
def aep (mb:Nat) (aY:Int) (r:Option (List Int)) (w:World) (e:Ending) (W':World):Prop:=
 (Cache W' mb aY/\Ext [mb] w W')/\((∃c v,r=some c/\e= .returned (.tuple #[v,.bool true])/\aN W' v c)∨(r=none/\ ∃o n c,e= .returned (.tuple #[.slice o n c,.bool false])))
theorem wz.fin {w0 W:World} {mb:Nat} {aY:Int} {yK:Value} {below fb pb bb ab:Nat} (h:wz w0 mb aY yK below fb pb bb ab W):Cache W mb aY/\Ext [mb] w0 W:=⟨h.cache,h.ext⟩
theorem JY (below:Nat) (hbl:below<=500) (p:List Int->Bool) (mb:Nat) (aY:Int) (w:World) (hcc:Cache w mb aY) (pf:Nat) (pM kL:Array Value)
 (eg: ∀args w,(callFunc pf args).run Tryz.prog w= .ok (.enter pf args) w)
 (uV: ∀l v W,Ext [mb] w W->Cache W mb aY->aN W v l->Calls Tryz.prog pf (pM.push v++kL) W (fun e W'=>e= .returned (.bool (p l))/\Cache W' mb aY/\Ext [mb] W W')):
 Calls Tryz.prog 99 #[iv below,.func (.func pf) pM kL] w (aep mb aY (mW below p) w):=by
 have hmb:=hcc.lt
 have HA:=ae (fun(m:Nat) (W:World) (hm:m<=501) (hst:wz w mb aY (.func (.func pf) pM kL) below (w.heap.size+1+1) (w.heap.size+1) w.heap.size (w.heap.size+1+1+1) W)=>
  add_any below hbl p mb aY w pf pM kL (w.heap.size+1+1) (w.heap.size+1) w.heap.size (w.heap.size+1+1+1) (by omega) eg uV m 0 [] (.slice none 0 0) W (by simp;omega) (by omega) (by omega) hst (qA W))
 obtain⟨r,hr⟩: ∃r,mW below p=r:=⟨_,rfl⟩
 rw[hr]
 have HR:=ae hr
 have HCC:=ae hcc
 clear uV eg hcc hr
 go_enter Tryz.func99,Tryz.ntmps99
 go_wp2_with fail
 go_step3
 go_wp2_with fail
 go_step3
 go_wp2_with fail
 obtain⟨w4,hw4⟩: ∃w4,((((w.alloc (.cells #[iv below] 3)).alloc (.cells #[.func (.func pf) pM kL] 157)).alloc (.cells #[.slice none 0 0] 36)).alloc
  (.cells #[.func (.func 165) #[] #[.pointer (some ⟨w.heap.size+1+1,0,none⟩),.pointer (some ⟨w.heap.size+1,0,none⟩),.pointer (some ⟨w.heap.size,0,none⟩),.pointer (some ⟨w.heap.size+1+1+1,0,none⟩)]] 256))=w4:=⟨_,rfl⟩
 have YZ:wz w mb aY (.func (.func pf) pM kL) below (w.heap.size+1+1) (w.heap.size+1) w.heap.size (w.heap.size+1+1+1) w4:=by
  have hB:Below w.heap.size w w4:=by rw[<-hw4];exact zl
  refine⟨Ext.az hB,HCC.o.kept (hB.block mb hmb),⟨none,0,0,?_⟩,?_,?_,?_,by omega,hmb⟩
  ·rw[<-hw4];exact(aW _ _ _ (by simp)).trans (gZ _ _ _ _)
  ·rw[<-hw4];exact(aW _ _ _ (by simp)).trans ((aW _ _ _ (by simp)).trans (dW _ _ _))
  ·rw[<-hw4];exact(aW _ _ _ (by simp;omega)).trans ((aW _ _ _ (by simp;omega)).trans ((aW _ _ _ (by simp)).trans (ay _ _)))
  ·rw[<-hw4];have:=ay (((w.alloc (.cells #[iv below] 3)).alloc (.cells #[.func (.func pf) pM kL] 157)).alloc (.cells #[.slice none 0 0] 36)) (.cells #[.func (.func 165) #[] #[.pointer (some ⟨w.heap.size+1+1,0,none⟩),.pointer (some ⟨w.heap.size+1,0,none⟩),.pointer (some ⟨w.heap.size,0,none⟩),.pointer (some ⟨w.heap.size+1+1+1,0,none⟩)]] 256);simpa using this
 rw[hw4]
 have HS0:=ae YZ
 clear YZ hw4
 go_loopw [5,11] (fun b i wr=> ∃k:Nat,k<=below+1/\b= .bool false/\i= .int .i64 k/\wz w mb aY (.func (.func pf) pM kL) below (w.heap.size+1+1) (w.heap.size+1) w.heap.size (w.heap.size+1+1+1) wr/\
  (∀j,j<k->(jG below j 0).find? p=none)) (fun _ i _=>below+1-(intOf i).toNat)
 case atStart=>exact⟨0,bW _,rfl,rfl,HS0.o,fun j hj=>by omega⟩
 case round=>
  obtain⟨k,hk,rfl,rfl,hst,hno⟩:=hrel
  have d2:=aA hst.add
  have e2:=dF wr _ d2
  have HS:=ae hst
  have HN:=ae hno
  clear hst hno
  by_cases hlt:k<below+1
  ·have hkI:(k:Int)<(below:Int)+1:=by omega
   have HC:=ae (HA.o k wr (by omega) HS.o)
   go_wp2_with fail
   refine HC.o.mono ?_
   rintro e W2 ⟨⟨hS2,_⟩,hres⟩
   have HS2:=ae hS2
   rcases hres with⟨cc,hcc,rfl,sv,hsv,uH⟩|⟨hnone,rfl⟩
   ·have hr:r=some cc:=by
     rw[<-HR.o]
     exact IK (by omega) HN.o (by simpa using hcc)
    obtain⟨so,sc,rfl⟩:=uH.open
    have f1:=aA hsv
    have f2:=bn hsv 0
    have f3:=dF W2 _ f1
    have HX:=ae (ag hr (ag hsv uH))
    clear hr hsv uH hS2 hcc d2
    go_wp2_with fail
    (try rw[Exit.noGoto_ret])
    have hcell:(W2.setCell ⟨w.heap.size+1+1,0,none⟩ (.slice so cc.length sc)).cell? ⟨w.heap.size+1+1,0,none⟩=some (.slice so cc.length sc):=aA (aI HX.o.2.1 _)
    refine bodyPost_ret (v:= .tuple #[.slice so cc.length sc,.bool true]) (by simp[results,Tryz.results99,go_sem,hcell]) rfl ?_
    refine⟨(HS2.o.set (by omega) so cc.length sc).fin,.inl ⟨cc,_,HX.o.1,rfl,?_⟩⟩
    exact aN.uk HX.o.2.2 ((lY W2 ⟨w.heap.size+1+1,0,none⟩ _).more (Ms':=[mb,w.heap.size+1+1]) (by simp)) HS2.o.not
   ·have HX:=ae hnone
    clear hnone hS2 d2
    go_wp2_with fail
    go_roundw
    case rel=>
     refine⟨k+1,by omega,rfl,by go_num,HS2.o,fun j hj=>?_⟩
     by_cases hjq:j=k
     ·subst hjq;simpa using HX.o
     ·exact HN.o j (by omega)
    case measure=>simp[intOf];omega
  ·have hkI: ¬((k:Int)<(below:Int)+1):=by omega
   obtain⟨o',n',c',hf⟩:=HS.o.found
   have f1:=aA hf
   have f2:=bn hf 0
   have f3:=dF wr _ f1
   have hk1:k=below+1:=by omega
   subst hk1
   have hr:r=none:=by
    rw[<-HR.o]
    exact IJ HN.o
   go_wp2_with fail
   (try rw[Exit.noGoto_ret])
   have hcell:(wr.setCell ⟨w.heap.size+1+1,0,none⟩ (.slice o' n' c')).cell? ⟨w.heap.size+1+1,0,none⟩=some (.slice o' n' c'):=aA (aI hf _)
   refine bodyPost_ret (v:= .tuple #[.slice o' n' c',.bool false]) (by simp[results,Tryz.results99,go_sem,hcell]) rfl ?_
   exact⟨(HS.o.set (by omega) o' n' c').fin,.inr ⟨rfl,_,_,_,rfl⟩⟩
end Go.Proofs.YthbpmepjmebolaaGreatDoor.jA
namespace Go.Proofs.YthbpmepjmebolaaGreatDoor.jA
open Go.RowKit Go.RG Go.SL Go.Shelf ji
attribute [local go_sem] Oper.semAt_some
theorem XV:iq Tryz.prog 103 107 (.agg #[iv 0,iv 0,iv 0,iv 0,iv 0,iv 0,iv 0,iv 0,iv 0,iv 0]) 10 80:=⟨Tryz.underlying103,by kernel_rfl,rfl,by omega⟩
structure Evr (w:World) (wb:Nat) (tv:Value) (ls:List (List Int)) (Ms:List Nat) (W:World):Prop where
 b0:W.heap[w.heap.size]? =some (.cells #[.pointer (some ⟨wb,0,none⟩)] 100 (0,0))
 b1:W.heap[w.heap.size+1]? =some (.cells #[tv] 36 (0,0))
 out: ∃v,W.heap[w.heap.size+1+1]? =some (.cells #[v] 103 (0,0))/\W.ownsRow (w.heap.size+7) 107 10 v ls.length (ls.flatMap ah)/\ ∀g,v.ownBlock=some g->g∉Ms/\g<W.heap.size
 b3:W.heap[w.heap.size+1+1+1]? =some (.cells #[.pointer (some ⟨wb,0,none⟩)] 100 (0,0))
 b4:W.heap[w.heap.size+1+1+1+1]? =some (.cells #[.slice none 0 0] 36 (0,0))
theorem Evr.kept {w:World} {wb:Nat} {tv:Value} {ls:List (List Int)} {Ms Ms':List Nat} {W W':World} (h:Evr w wb tv ls Ms W) (hs:W.heap.size<=W'.heap.size) (hk: ∀b,w.heap.size<=b->b<w.heap.size+5->W'.heap[b]? =W.heap[b]?)
 (ho: ∀g,w.heap.size+7<=g->g<W.heap.size->g∉Ms->W'.heap[g]? =W.heap[g]?) (hM: ∀m∈Ms',m∈Ms∨(W.heap.size<=m/\m<W'.heap.size)):Evr w wb tv ls Ms' W':=by
 obtain⟨v,h1,h2,h3⟩:=h.out
 refine⟨(hk _ (by omega) (by omega)).trans h.b0,(hk _ (by omega) (by omega)).trans h.b1,⟨v,(hk _ (by omega) (by omega)).trans h1,dI h2 fun g hg=>ho g (bG h2 g hg).1 (bG h2 g hg).2 (h3 g hg).1,fun g hg=>⟨fun hm=>?_,by have:=(h3 g hg).2;omega⟩⟩,
  (hk _ (by omega) (by omega)).trans h.b3,(hk _ (by omega) (by omega)).trans h.b4⟩
 rcases hM g hm with h4|h4
 ·exact(h3 g hg).1 h4
 ·have:=(h3 g hg).2;omega
def aeV (ls:List (List Int)) (mb:Nat) (aY:Int) (w:World) (e:Ending) (w':World):Prop:=
 ∃v,e= .returned v/\w'.ownsRow w.heap.size 107 10 v ls.length (ls.flatMap ah)/\Cache w' mb aY/\Ext [mb] w w'
theorem Aa {h:bZ} (hS:Sound h) {out:List Int} {t:Int×List Int} (ht:t∈dN h out):t.2.length=h.bV.length/\(0<=t.1/\t.1<=500)/\ ∀x∈t.2,0<=x/\x<=20:=by
 unfold dN at ht
 obtain⟨x,hx,rfl⟩:=iW.1 ht
 obtain⟨s,rest,rfl,h1,h2,h3⟩:=FI hS (List.mem_filter.1 hx).1
 exact⟨h1,h2,h3⟩
theorem Uh {w W7 W8 W9:World} {wb mb:Nat} {aY:Int} {tv v v':Value} {ls:List (List Int)} {ys:List Int} {Os Ms:List Nat} {obj:Obj} (hF:Fr w mb aY Os Ms W7) (hP:Evr w wb tv ls Ms W7)
 (hv1:W7.heap[w.heap.size+1+1]? =some (.cells #[v] 103 (0,0))) (hv3: ∀g,v.ownBlock=some g->(w.heap.size+7<=g/\g<W7.heap.size)/\g∉Ms)
 (hE:Ext [] W7 W8) (hG:(W8.alloc obj).grownBy W9 v.ownBlock) (hN:v'.ownBlock=v.ownBlock∨v'.ownBlock=some (W8.heap.size+1)) (hO:W9.ownsRow (w.heap.size+7) 107 10 v' (ls.length+1) (ls.flatMap ah++ah ys))
 (hmb:mb<w.heap.size) (hs:w.heap.size+7<=W7.heap.size):
 (Fr w mb aY Os Ms (W9.setCell ⟨w.heap.size+1+1,0,none⟩ v')/\Evr w wb tv (ls++[ys]) Ms (W9.setCell ⟨w.heap.size+1+1,0,none⟩ v'))/\
   (∀b,b<W7.heap.size->v.ownBlock≠some b->b≠w.heap.size+2->(W9.setCell ⟨w.heap.size+1+1,0,none⟩ v').heap[b]? =W7.heap[b]?)/\W7.heap.size<=(W9.setCell ⟨w.heap.size+1+1,0,none⟩ v').heap.size:=by
 have h1:=hE.size
 have h2:=hG.size
 simp only[bz] at h2
 have hk: ∀b,b<W7.heap.size->v.ownBlock≠some b->W9.heap[b]? =W7.heap[b]? :=fun b hb hn=>
  (hG.block b (by simp;omega) (fun e=>hn e.symm)).trans ((aW _ _ _ (by omega)).trans (hE.block b hb (by simp)))
 have hks: ∀b,b<W7.heap.size->v.ownBlock≠some b->b≠w.heap.size+2->(W9.setCell ⟨w.heap.size+1+1,0,none⟩ v').heap[b]? =W7.heap[b]? :=fun b hb hn hne=>
  (dB _ _ _ _ (by show b≠w.heap.size+1+1;omega)).trans (hk b hb hn)
 have hlow: ∀b,b<w.heap.size+7->v.ownBlock≠some b:=fun b hb e=>by have:=(hv3 b e).1.1;omega
 have hsz:W7.heap.size<=(W9.setCell ⟨w.heap.size+1+1,0,none⟩ v').heap.size:=by simp[World.setCell];omega
 refine⟨⟨hF.own ⟨hG.os.trans (hE.os.trans hF.ext.os),hG.tape.trans (hE.tape.trans hF.ext.tape),hG.output.trans (hE.output.trans hF.ext.output),by have:=hF.ext.size;omega,fun k hk' hm=>(hks k (by omega) (hlow k (by omega)) (by omega)).trans (hF.ext.block k hk' hm)⟩ hsz (hF.cache.kept (hks mb (by omega) (hlow mb (by omega)) (by omega))),?_⟩,hks,hsz⟩
 have hb:=bG hO
 refine⟨(hks _ (by omega) (hlow _ (by omega)) (by omega)).trans hP.b0,(hks _ (by omega) (hlow _ (by omega)) (by omega)).trans hP.b1,⟨v',?_,?_,fun g hg=>⟨fun hm=>?_,by have:=(hb g hg).2;simpa [World.setCell] using this⟩⟩,(hks _ (by omega) (hlow _ (by omega)) (by omega)).trans hP.b3,(hks _ (by omega) (hlow _ (by omega)) (by omega)).trans hP.b4⟩
 ·exact aI ((hk _ (by omega) (hlow _ (by omega))).trans hv1) _
 ·rw[dm,uF]
  have:[ys].flatMap ah=ah ys:=by simp
  rw[this]
  exact dI hO fun g hg=>dB _ _ _ _ (by have:=(hb g hg).1;show g≠w.heap.size+1+1;omega)
 ·rcases hN with hN|hN
  ·exact(hv3 g (by rw[<-hN,hg])).2 hm
  ·rw[hg] at hN
   injection hN with hN
   have:=hF.bnd g hm
   omega
theorem Js (h:bZ) (hS:Sound h) (a b c tv:Value) (turns:List Int) (wb mb:Nat) (w:World) (hw:iM w wb mb h a b c) (h1:bM w a h.bV) (h2:aN w b h.turns) (h3:bI w c h.readings) (h4:aN w tv turns):
 Calls Tryz.prog 44 #[.pointer (some ⟨wb,0,none⟩),tv] w (aeV (jB h turns) mb h.aY w):=by
 obtain⟨ot,ct,rfl⟩:=h4.open
 have HW:=ae hw
 have H1:=ae h1
 have H2:=ae h2
 have H3:=ae h3
 have H4:=ae h4
 have oH:=ae hS
 have hmb:=hw.cache.lt
 clear hw h1 h2 h3 h4 hS
 refine(callsIn_wide (n:=0)).1 ?_
 refine callsIn_of_wp_marks Tryz.func44 rfl trivial ?_
 simp only[Tryz.ntmps44,List.size_toArray,List.length_cons,List.length_nil,Nat.reduceAdd,Nat.reduceSub,Array.replicate_succ,Array.replicate_zero,kZ,lg,List.nil_append,List.cons_append]
 gi_wp2_with fail
 refine(callsIn_wide.2 (zi wb _ _ _ _)).mono ?_
 rintro e w1 ⟨rfl,rfl⟩
 gi_wp2_with fail
 obtain⟨w2,hw2⟩: ∃w2,(((((w.alloc (.cells #[.pointer (some ⟨wb,0,none⟩)] 100)).alloc (.cells #[.slice ot turns.length ct] 36)).alloc (.cells #[.slice none 0 0] 103)).alloc (.cells #[.pointer (some ⟨wb,0,none⟩)] 100)).alloc (.cells #[.slice none 0 0] 36))=w2:=⟨_,rfl⟩
 have hB2:Below w.heap.size w w2:=by rw[<-hw2];exact zl
 have hsz2:w2.heap.size=w.heap.size+5:=by rw[<-hw2];simp
 have hP2:Evr w wb (.slice ot turns.length ct) [] [mb] w2:=by
  rw[<-hw2]
  have n3:=ay (((w.alloc (.cells #[.pointer (some ⟨wb,0,none⟩)] 100)).alloc (.cells #[.slice ot turns.length ct] 36)).alloc (.cells #[.slice none 0 0] 103)) (.cells #[.pointer (some ⟨wb,0,none⟩)] 100)
  have n4:=dW (((w.alloc (.cells #[.pointer (some ⟨wb,0,none⟩)] 100)).alloc (.cells #[.slice ot turns.length ct] 36)).alloc (.cells #[.slice none 0 0] 103)) (.cells #[.pointer (some ⟨wb,0,none⟩)] 100) (.cells #[.slice none 0 0] 36)
  simp only[bz] at n3 n4
  refine⟨?_,?_,⟨.slice none 0 0,?_,⟨rfl,.inl ⟨rfl,rfl⟩⟩,fun g hg=>by cases hg⟩,?_,n4⟩
  ·exact(aW _ _ _ (by first|omega|(simp;done)|(simp;omega))).trans ((aW _ _ _ (by first|omega|(simp;done)|(simp;omega))).trans ((aW _ _ _ (by first|omega|(simp;done)|(simp;omega))).trans ((aW _ _ _ (by first|omega|(simp;done)|(simp;omega))).trans (ay _ _))))
  ·exact(aW _ _ _ (by first|omega|(simp;done)|(simp;omega))).trans ((aW _ _ _ (by first|omega|(simp;done)|(simp;omega))).trans ((aW _ _ _ (by first|omega|(simp;done)|(simp;omega))).trans (dW _ _ _)))
  ·exact(aW _ _ _ (by first|omega|(simp;done)|(simp;omega))).trans ((aW _ _ _ (by first|omega|(simp;done)|(simp;omega))).trans (gZ _ _ _ _))
  ·exact(aW _ _ _ (by first|omega|(simp;done)|(simp;omega))).trans n3
 rw[hw2]
 clear hw2
 refine mi (zh h oH.out a b c (.slice none 0 0) [] wb mb (w.heap.size+1+1+1) (w.heap.size+1+1+1+1)) rfl (enters_of Tryz.func133 (by kernel_rfl) rfl) rfl (by simp;omega)
  (fun Ms k W=>Fr w mb h.aY [w.heap.size,w.heap.size+1,w.heap.size+2,w.heap.size+3,w.heap.size+4,w.heap.size+5,w.heap.size+6] Ms W/\Evr w wb (.slice ot turns.length ct) (jk h turns k) Ms W)
  (fun _ _ _=>False)
  ?hInv ?sK ?hI ?hIx ?PD ?xK ?h0
  (fun a Ms k W1 a₁ W=> ∃(t:Int×List Int) (ob bt:Nat),(dN h [])[k]? =some t/\a₁={tmps:=(a.tmps.setIfInBounds 9 (.agg #[iv t.1,.slice (some ⟨ob,1,none⟩) t.2.length t.2.length])).setIfInBounds 5 (.pointer (some ⟨bt,0,none⟩)),defers:=[]}/\
    (Fr w mb h.aY [w.heap.size,w.heap.size+1,w.heap.size+2,w.heap.size+3,w.heap.size+4,w.heap.size+5,w.heap.size+6] Ms W/\Evr w wb (.slice ot turns.length ct) (jk h turns k) Ms W)/\
    (W.heap[bt]? =some (.cells #[iv t.1,.slice (some ⟨ob,1,none⟩) t.2.length t.2.length] 163 (0,0))/\(w.heap.size+7<=bt/\ob∈Ms/\ob≠mb)/\aN W (.slice (some ⟨ob,1,none⟩) t.2.length t.2.length) t.2)/\(∀m∈Ms,m∉[mb]->m<W1.heap.size->W.heap[m]? =W1.heap[m]?)/\W1.heap.size<=W.heap.size)
  ?Rn ?hassign ?hbody ?hdone ?hstop
 case hInv=>rintro Ms k W ⟨hF,hP⟩;exact hF.aaO HW.out H1.out H2.out H3.out (qA w) hP.b3 hP.b4
 case sK=>rintro cd Ms W h;exact h.elim
 case hI=>
  rintro Ms Ms' k Wa Wb ⟨hF,hP⟩ hE hMs hc
  refine⟨(hF.iQ hE hMs hc).1,hP.kept hE.size (fun b h1 h2=>(hF.iQ hE hMs hc).2 b (by simp;omega)) (fun g h1 h2 h3=>hE.block g h2 h3) hMs⟩
 case hIx=>rintro cd Ms Ms' Wa Wb h;exact h.elim
 case PD=>
  rintro Ms k W r o ⟨hF,hP⟩ hr
  exact⟨hF.put o (by omega) hmb,hP.kept (by simp) (fun b h1 h2=>World.putObj_heap_other (by omega)) (fun g h1 h2 h3=>World.putObj_heap_other (by omega)) (fun m hm=> .inl hm)⟩
 case xK=>rintro cd Ms W r o h;exact h.elim
 case h0=>
  intro o o'
  have hB:Below w.heap.size w ((w2.alloc o).alloc o'):=aj (aj hB2 _) _
  refine⟨⟨Ext.az hB,fun m hm=> .inl (by simpa using hm),fun m hm=>(by have:=hB.size;simp at hm;omega),fun b hb=>⟨by simp at hb⊢;omega,by simp at hb⊢;omega⟩,HW.out.cache.kept (hB.block mb hmb)⟩,
   hP2.kept (by simp;omega) (fun b h1 h2=>(aW _ _ _ (by simp;omega)).trans (aW _ _ _ (by omega))) (fun g h1 h2 h3=>by omega) (fun m hm=> .inl hm)⟩
 case Rn=>
  rintro Ms k W1 a₁ W o ⟨t,ob,bt,ht,ha,⟨hF,hP⟩,⟨hbt,⟨hb7,hob,hne⟩,hsl⟩,hk,hs⟩
  have hap:=(hF.apart (w.heap.size+6) (by simp)).1
  refine⟨t,ob,bt,ht,ha,⟨hF.put o (by omega) hmb,hP.kept (by simp) (fun b h1 h2=>World.putObj_heap_other (by omega)) (fun g h1 h2 h3=>World.putObj_heap_other (by omega)) (fun m hm=> .inl hm)⟩,
   ⟨(World.putObj_heap_other (by omega)).trans hbt,⟨hb7,hob,hne⟩,hsl.kept fun b off n c hv _=>by cases hv;exact World.putObj_heap_other (fun e=>hap (by rw[show w.heap.size+6=ob by omega];exact hob))⟩,
   fun m hm h0 hml=>(World.putObj_heap_other (fun e=>hap (by rw[show w.heap.size+6=m by omega];exact hm))).trans (hk m hm h0 hml),by simpa using hs⟩
 case hassign=>
  rintro Ms k v W hk ⟨hF,hP⟩ ⟨ob,rfl,hsl,hob,hne⟩ hlt
  generalize ht:(dN h [])[k]=t at*
  have htk:(dN h [])[k]? =some t:=by rw[dG hk,ht]
  gi_wp2
  have hB:Below W.heap.size W (W.alloc (.cells #[iv t.1,.slice (some ⟨ob,1,none⟩) t.2.length t.2.length] 163)):=aj (aG _ _) _
  have hc:=hF.cache.kept (hB.block mb hF.cache.lt)
  exact⟨⟨t,ob,W.heap.size,htk,rfl,⟨(hF.iQ (Ext.az hB) (fun m hm=> .inl hm) hc).1,hP.kept (by simp) (fun b h1 h2=>aW _ _ _ (by omega)) (fun g h1 h2 h3=>aW _ _ _ (by omega)) (fun m hm=> .inl hm)⟩,
   ⟨ay _ _,⟨by omega,hob,hne⟩,hsl.alloc _⟩,fun m hm h0 hml=>aW _ _ _ (by omega),by simp⟩,aW _ _ _ (by omega),aW _ _ _ (by omega)⟩
 case hbody=>
  rintro Ms k W1 a₁ W busy hk ⟨t,ob,bt,ht,rfl,⟨hF,hP⟩,⟨hbt,⟨hb7,hob,hne⟩,hsl⟩,hkeep,hsz⟩ hrec hD
  simp only[sW,List.set_cons_succ,List.set_cons_zero]
  have htm:t∈dN h []:=mO ht
  obtain⟨hl2,hs0,hrest⟩:=Aa oH.out htm
  have hlast:=oH.out.Ar
  have hwl:=oH.out.Ey
  have c0:=aA hP.b0
  have c1:=aA hP.b1
  have k0:=dF W _ c0
  have k1:=dF W _ c1
  have kt:=(aT.1 hbt).1
  have hg: ∀i,W.cell? ⟨bt,i,none⟩=(#[iv t.1,.slice (some ⟨ob,1,none⟩) t.2.length t.2.length]:Array Value)[i]? :=fun i=>by
   simp only[World.cell?,hbt];rfl
  have acy:iM W wb mb h a b c:=HW.out.ext hF.ext hF.cache
  have Jl:aN W (.slice ot turns.length ct) turns:=H4.out.fZ hF.ext (fun x hx o=>by
   obtain rfl:x=mb:=by simpa using hx
   exact HW.out.cache.mG o)
  have anH:=hF.cache.lt
  have HPL:=ae (xu h a b c wb mb t.1 t.2 turns _ _ W acy hsl Jl (by omega) oH.out.MG oH.out.MF oH.out.Ou oH.out.Ot hs0.1 hs0.2 hrest)
  obtain⟨ys,hy⟩: ∃ys,kW h (t.1,t.2) turns=ys:=⟨_,rfl⟩
  have FO:ys.length=10:=by rw[<-hy];exact kN _ _ _ _ _ _
  rw[hy] at HPL
  have HY:=ae hy
  have HT:=ae (ag ht hk)
  have HF:=ae hF
  have HP:=ae hP
  have HK:=ae (ag hkeep (ag hrec hD))
  have HTV:=ae Jl
  clear hF hP hkeep hrec hD hbt hsl Jl acy hy ht hrest htm
  rw[hl2] at HPL
  gi_wp2_with fail
  refine(CallsIn.inRound _ (callsIn_wide.2 HPL.out)).mono ?_
  rintro e W6 ⟨rfl,hcc,hE⟩
  have hyl:(ah ys).length=10:=by simp[ah,FO]
  simp only[lJ]
  obtain⟨W7,hst,hblk,zW⟩:=xh Tryz.prog ys (ay W6 (.cells #[iv 0,iv 0,iv 0,iv 0,iv 0,iv 0,iv 0,iv 0,iv 0,iv 0] 107)) (by rw[FO];rfl)
  have hE':Ext [mb] W W7:=BZ (hE.alloc _) zW hE.size
  have agz:Cache W7 mb h.aY:=hcc.kept ((zW.block mb (by have:=hcc.lt;first|(simp;done)|(simp;omega)) (by have:=hcc.lt;first|(simp;done)|(simp;omega))).trans (aW _ _ _ hcc.lt))
  have hF7:=HF.out.own (HF.out.ext.trans hE') hE'.size agz
  have hap:=HF.out.apart
  have Rl:Evr w wb (.slice ot turns.length ct) (jk h turns k) Ms W7:=HP.out.kept hE'.size (fun b h1 h2=>hE'.block b (hap b (by first|omega|(simp;done)|(simp;omega))).2 (by first|omega|(simp;done)|(simp;omega))) (fun g h1 h2 h3=>hE'.block g h2 (by first|omega|(simp;done)|(simp;omega))) (fun m hm=> .inl hm)
  have hkp: ∀m∈Ms,m∉[mb]->m<W1.heap.size->W7.heap[m]? =W1.heap[m]? :=fun m hm h0 hml=>(hE'.block m (by omega) h0).trans (HK.out.1 m hm h0 hml)
  have hrec:=(hE'.block _ (hap (w.heap.size+6) (by simp)).2 (by first|omega|(simp;done)|(simp;omega))).trans (show W.heap[w.heap.size+6]? =some (.loop busy) from by rw[show w.heap.size+6=w2.heap.size+1 by omega];exact HK.out.2.1)
  have hD:=(hE'.block _ (hap (w.heap.size+5) (by simp)).2 (by first|omega|(simp;done)|(simp;omega))).trans (show W.heap[w.heap.size+5]? =some (.deferred (some [])) from by rw[<-hsz2];exact HK.out.2.2)
  have hs7:W1.heap.size<=W7.heap.size:=by have:=hE'.size;omega
  have hw7:w.heap.size+7<=W7.heap.size:=by have:=hE'.size;omega
  obtain⟨v,hv1,hv2,hv3⟩:=Rl.out
  obtain⟨vo,vc,rfl⟩:=aV hv2
  have d1:=aA hv1
  have d2:=bn hv1 0
  have d3:=dF W7 _ d1
  have d4:=(aT.1 hblk).1
  have hln:(jk h turns k).length<=2000:=by have:=Dt h turns k;have:=wZ oH.out [];have:=HT.out.2;omega
  have NU:=Dq (h:=h) (turns:=turns) (k:=k)
  have hsucc:jk h turns (k+1)=lq (jk h turns k) ys:=by
   rw[AU HT.out.2, <-HY.out]
   have:=HT.out.1
   rw[dG HT.out.2] at this
   injection this with this
   rw[this]
  have wJ:=ae hsucc
  have yg:=ae hF7
  have Ux:=ae Rl
  have wV:=ae (ag hkp (ag hrec (ag hD hs7)))
  have HV:=ae (ag hv1 (ag hv2 hv3))
  have HB:=ae hblk
  have aam:=ae NU
  generalize jk h turns k=ls at*
  clear hF7 Rl hkp hrec hD hap hv1 hv2 hv3 hblk zW hE' agz hE hcc NU hsucc hg c0 c1
  gi_wp2_with fail
  rcases(List.eq_nil_or_concat ls).imp id (fun⟨A,z,e⟩=>(⟨A,z,e.trans (List.concat_eq_append)⟩: ∃A z,ls=A++[z])) with rfl|⟨A,z,rfl⟩
  ·simp only[List.length_nil] at d1 HV
   refine dM 13 [] none [] (by kernel_rfl) (by kernel_rfl) (by kernel_rfl) ?_
   simp only[zt]
   repeat ((first|refine zd ?_|refine zk ?_);simp only[zp])
   have Xm:Hid (lq [] ys=[]++[ys]):=ae (by simp[lq])
   intro W8 gV VK
   have hE:Ext [] W7 W8:=gV
   obtain⟨hc,hf⟩:=bK hE.below
   have hz8:=hE.size
   have hb8:=HB.out
   obtain⟨y0,y1,y2,y3,y4,y5,y6,y7,y8,y9,hys⟩:=BD FO
   rw[hys] at hb8
   have zF: ∀i,W7.cell? ⟨W6.heap.size,i,none⟩=(#[iv y0,iv y1,iv y2,iv y3,iv y4,iv y5,iv y6,iv y7,iv y8,iv y9]:Array Value)[i]? :=fun i=>by
    simp only[World.cell?,hb8];rfl
   have hz9:W6.heap.size<W8.heap.size:=by omega
   have Dk:=aB (Ms:=[]) HV.out.2.1 hE (by simp)
   have iP:=ae hE
   have HOW:=ae Dk
   have Bo:=ae hys
   clear hE gV VK hb8 Dk hys
   gi_wp2_with (gi_at_builtin;go_loud (refine qE (fun _=>trivial) rfl uw rfl _ _ XV rfl (w.heap.size+7) (.slice vo 0 vc) 0 (List.flatMap ah []) rfl ?_ (.slice (some ⟨W8.heap.size,0,none⟩) 1 1) 1 (ah [y0,y1,y2,y3,y4,y5,y6,y7,y8,y9]) rfl ?_ (jc _) (by omega) (by omega) (by simp;omega) ?_))
   ·refine aB (Ms:=[]) (w:=W8) ?_ (Ext.az ((aG _ _).alloc (ai _) _)) (by simp)
    simpa using HOW.out
   ·exact aP.cZ 10 1 (ay _ _) rfl (by decide)
   ·intro v' W9 hown hgr hown'
    obtain⟨o9,c9,rfl⟩:=aV hown
    have wC:=ae hown
    have HG9:=ae hgr
    have HN9:=ae hown'
    have Pz:=bG HV.out.2.1
    have pO: ∀b,b<w.heap.size+7->b<W7.heap.size->W9.heap[b]? =W7.heap[b]? :=fun b hb hb7=>by
     refine(hgr.block b (by simp;omega) (fun e=>?_)).trans ((aW _ _ _ (by omega)).trans (iP.out.block b hb7 (by simp)))
     have:=Pz b e.symm
     omega
    have hc9:=hc
    have NS:W8.heap.size<W9.heap.size:=by have:=hgr.size;simp at this;omega
    have e1:W9.cell? ⟨w.heap.size+1+1,0,none⟩=some (.slice vo 0 vc):=aA ((pO _ (by omega) d3).trans HV.out.1)
    have e2:W9.frozen? ⟨w.heap.size+1+1,0,none⟩=false:=bn ((pO _ (by omega) d3).trans HV.out.1) 0
    have e3:=dF W9 _ e1
    have Cm:=ae pO
    clear hown hgr hown' pO hc9 zF hc hf Pz
    gi_wp2_with fail
    rw[Bo.out] at Xm
    obtain⟨⟨hF9,hP9⟩,hks,Q7⟩:=Uh (ls:=[]) (ys:=[y0,y1,y2,y3,y4,y5,y6,y7,y8,y9]) yg.out Ux.out HV.out.1 (fun g hg=>⟨bG HV.out.2.1 g hg,(HV.out.2.2 g hg).1⟩) iP.out HG9.out HN9.out (by simpa using wC.out) hmb hw7
    have Pz:=bG HV.out.2.1
    have hap:=yg.out.apart
    refine⟨⟨?_,?_,fun m hm h0 hml=>?_,by have:=wV.out.2.2.2;omega⟩,hF9,?_⟩
    ·exact(hks _ (by omega) (fun e=>by have:=Pz _ e;omega) (by omega)).trans wV.out.2.1
    ·exact(hks _ (by omega) (fun e=>by have:=Pz _ e;omega) (by omega)).trans wV.out.2.2.1
    ·exact(hks m (by have:=wV.out.2.2.2;omega) (fun e=>(HV.out.2.2 m e).1 hm) (fun e=>(hap (w.heap.size+2) (by simp)).1 (by rw[<-e];exact hm))).trans (wV.out.1 m hm h0 hml)
    ·rw[wJ.out,Bo.out]
     exact Xm.out▸hP9
  ·have NS:=aam.out z (by simp)
   obtain⟨gb,gc,hvv,hgb,Rh,KI⟩:=BJ (A:=A) (z:=z) (by simpa using HV.out.2.1) (fun x hx=>aam.out x (by simp[hx])) NS
   have hcap:vo=some ⟨gb,0,none⟩:=by simp at hvv;exact hvv.1
   subst hcap
   have hzl:(ah z).length=10:=by simp[ah,NS]
   have hyr:=xn HB.out
   (try simp only[dm,List.length_cons,List.length_nil,Nat.zero_add] at d1)
   (try simp only[dm,List.length_cons,List.length_nil,Nat.zero_add] at HV)
   (try simp only[dm,List.length_cons,List.length_nil,Nat.zero_add] at hln)
   have hAI:((A.length:Int)+1==0)=false:=by simp;omega
   have hA0: ¬((A.length:Int)+1=0):=by omega
   have hA1:((A.length:Int)+1).toNat=A.length+1:=by omega
   have hAm:(A.length:Int)+1-1=A.length:=by omega
   rcases hq:(z==ys) with _|_
   ·have Xm:Hid (lq (A++[z]) ys=(A++[z])++[ys]):=ae (by
     unfold lq
     rw[ak]
     simp only[List.getLast?_append,List.getLast?_singleton]
     intro e
     simp at e
     subst e;simp at hq)
    refine dM 13 [] none [] (by kernel_rfl) (by kernel_rfl) (by kernel_rfl) ?_
    simp only[zt]
    repeat ((first|refine zn ?_|refine zk ?_);simp only[zp])
    refine gI (by rfl) (.pointer (some ⟨gb,A.length*10,none⟩)) (by rfl) (fun W hW=>by go_simp;(try simp(disch:=omega) only[IntWalk.i64_in]);(try rw[aC (by omega)]);(try simp);(try (intro hx;exfalso;omega))) ?_
    simp only[zp]
    refine gI (by rfl) (.agg (ah z).toArray) (by rfl) (fun W hW=>kz 107 _ (by rfl) gb (A.length*10) (by rfl) (ah z) _ (fun j u hj=>(hW gb _ Rh (by simp)).trans (KI j u hj)) Tryz.underlying107 rfl (by rw[hzl];kernel_rfl)) ?_
    simp only[zp]
    refine gI (by rfl) (.agg (ah ys).toArray) (by rfl) (fun W hW=>kz 107 _ (by rfl) W6.heap.size 0 (by rfl) (ah ys) _ (fun j u hj=>(hW W6.heap.size _ d4 (by simp)).trans (hyr j u hj)) Tryz.underlying107 rfl (by rw[hyl];kernel_rfl)) ?_
    simp only[zp]
    refine gI (by rfl) (.bool true) (by rfl) (fun W hW=>(nI 107 3 _ 10 _ _ (by rfl) Tryz.underlying107 Tryz.underlying3 (by intro w;go_simp) (by kernel_rfl) z ys (by rfl) (by rfl) NS FO).trans (by rw[hq];rfl)) ?_
    simp only[zp]
    repeat ((first|refine zd ?_|refine zk ?_);simp only[zp])
    intro W8 gV VK
    have hE:Ext [] W7 W8:=gV
    obtain⟨hc,hf⟩:=bK hE.below
    have hz8:=hE.size
    have hb8:=HB.out
    obtain⟨y0,y1,y2,y3,y4,y5,y6,y7,y8,y9,hys⟩:=BD FO
    rw[hys] at hb8
    have zF: ∀i,W7.cell? ⟨W6.heap.size,i,none⟩=(#[iv y0,iv y1,iv y2,iv y3,iv y4,iv y5,iv y6,iv y7,iv y8,iv y9]:Array Value)[i]? :=fun i=>by
     simp only[World.cell?,hb8];rfl
    have hz9:W6.heap.size<W8.heap.size:=by omega
    have Dk:=aB (Ms:=[]) HV.out.2.1 hE (by simp)
    have iP:=ae hE
    have HOW:=ae Dk
    have Bo:=ae hys
    clear hE gV VK hb8 Dk hys
    gi_wp2_with (gi_at_builtin;go_loud (refine qE (fun _=>trivial) rfl uw rfl _ _ XV rfl (w.heap.size+7) (.slice (some ⟨gb,0,none⟩) (A.length+1) vc) (A.length+1) (List.flatMap ah (A++[z])) rfl ?_ (.slice (some ⟨W8.heap.size,0,none⟩) 1 1) 1 (ah [y0,y1,y2,y3,y4,y5,y6,y7,y8,y9]) rfl ?_ (jc _) (by omega) (by omega) (by simp;omega) ?_))
    ·refine aB (Ms:=[]) (w:=W8) ?_ (Ext.az ((aG _ _).alloc (ai _) _)) (by simp)
     simpa using HOW.out
    ·exact aP.cZ 10 1 (ay _ _) rfl (by decide)
    ·intro v' W9 hown hgr hown'
     obtain⟨o9,c9,rfl⟩:=aV hown
     have wC:=ae hown
     have HG9:=ae hgr
     have HN9:=ae hown'
     have Pz:=bG HV.out.2.1
     have pO: ∀b,b<w.heap.size+7->b<W7.heap.size->W9.heap[b]? =W7.heap[b]? :=fun b hb hb7=>by
      refine(hgr.block b (by simp;omega) (fun e=>?_)).trans ((aW _ _ _ (by omega)).trans (iP.out.block b hb7 (by simp)))
      have:=Pz b e.symm
      omega
     have hc9:=hc
     have NS:W8.heap.size<W9.heap.size:=by have:=hgr.size;simp at this;omega
     have e1:W9.cell? ⟨w.heap.size+1+1,0,none⟩=some (.slice (some ⟨gb,0,none⟩) (A.length+1) vc):=aA ((pO _ (by omega) d3).trans HV.out.1)
     have e2:W9.frozen? ⟨w.heap.size+1+1,0,none⟩=false:=bn ((pO _ (by omega) d3).trans HV.out.1) 0
     have e3:=dF W9 _ e1
     have Cm:=ae pO
     clear hown hgr hown' pO hc9 zF hc hf Pz
     gi_wp2_with fail
     rw[Bo.out] at Xm
     obtain⟨⟨hF9,hP9⟩,hks,Q7⟩:=Uh (ls:=(A++[z])) (ys:=[y0,y1,y2,y3,y4,y5,y6,y7,y8,y9]) yg.out Ux.out HV.out.1 (fun g hg=>⟨bG HV.out.2.1 g hg,(HV.out.2.2 g hg).1⟩) iP.out HG9.out HN9.out (by simpa using wC.out) hmb hw7
     have Pz:=bG HV.out.2.1
     have hap:=yg.out.apart
     refine⟨⟨?_,?_,fun m hm h0 hml=>?_,by have:=wV.out.2.2.2;omega⟩,hF9,?_⟩
     ·exact(hks _ (by omega) (fun e=>by have:=Pz _ e;omega) (by omega)).trans wV.out.2.1
     ·exact(hks _ (by omega) (fun e=>by have:=Pz _ e;omega) (by omega)).trans wV.out.2.2.1
     ·exact(hks m (by have:=wV.out.2.2.2;omega) (fun e=>(HV.out.2.2 m e).1 hm) (fun e=>(hap (w.heap.size+2) (by simp)).1 (by rw[<-e];exact hm))).trans (wV.out.1 m hm h0 hml)
     ·rw[wJ.out,Bo.out]
      exact Xm.out▸hP9
   ·obtain rfl:z=ys:=by simpa using hq
    have Xm:Hid (lq (A++[z]) z=A++[z]):=ae (by
     unfold lq
     rw[aC]
     simp)
    refine dM 13 [] none [] (by kernel_rfl) (by kernel_rfl) (by kernel_rfl) ?_
    simp only[zt]
    repeat ((first|refine zn ?_|refine zk ?_);simp only[zp])
    refine gI (by rfl) (.pointer (some ⟨gb,A.length*10,none⟩)) (by rfl) (fun W hW=>by go_simp;(try simp(disch:=omega) only[IntWalk.i64_in]);(try rw[aC (by omega)]);(try simp);(try (intro hx;exfalso;omega))) ?_
    simp only[zp]
    refine gI (by rfl) (.agg (ah z).toArray) (by rfl) (fun W hW=>kz 107 _ (by rfl) gb (A.length*10) (by rfl) (ah z) _ (fun j u hj=>(hW gb _ Rh (by simp)).trans (KI j u hj)) Tryz.underlying107 rfl (by rw[hzl];kernel_rfl)) ?_
    simp only[zp]
    refine gI (by rfl) (.agg (ah z).toArray) (by rfl) (fun W hW=>kz 107 _ (by rfl) W6.heap.size 0 (by rfl) (ah z) _ (fun j u hj=>(hW W6.heap.size _ d4 (by simp)).trans (hyr j u hj)) Tryz.underlying107 rfl (by rw[hzl];kernel_rfl)) ?_
    simp only[zp]
    refine gI (by rfl) (.bool false) (by rfl) (fun W hW=>(nI 107 3 _ 10 _ _ (by rfl) Tryz.underlying107 Tryz.underlying3 (by intro w;go_simp) (by kernel_rfl) z z (by rfl) (by rfl) NS NS).trans (by simp)) ?_
    simp only[zp]
    repeat ((first|refine zd ?_|refine zk ?_);simp only[zp])
    intro W8 gV VK
    have hE:Ext [] W7 W8:=gV
    obtain⟨hc,hf⟩:=bK hE.below
    have hz8:=hE.size
    have iP:=ae hE
    clear hE gV VK
    gi_wp2_with fail
    have hap:=yg.out.apart
    refine⟨⟨?_,?_,fun m hm h0 hml=>?_,by have:=wV.out.2.2.2;omega⟩,(yg.out.iQ (iP.out.nil) (fun m hm=> .inl hm) (yg.out.cache.kept (iP.out.block mb yg.out.cache.lt (by simp)))).1,?_⟩
    ·exact(iP.out.block _ (hap (w.heap.size+6) (by simp)).2 (by simp)).trans wV.out.2.1
    ·exact(iP.out.block _ (hap (w.heap.size+5) (by simp)).2 (by simp)).trans wV.out.2.2.1
    ·exact(iP.out.block m (by have:=wV.out.2.2.2;omega) (by simp)).trans (wV.out.1 m hm h0 hml)
    ·rw[wJ.out,Xm.out]
     exact Ux.out.kept iP.out.size (fun b h1 h2=>iP.out.block b (by omega) (by simp)) (fun g h1 h2 h3=>iP.out.block g h2 (by simp)) (fun m hm=> .inl hm)
 case hdone=>
  rintro Ms W ⟨hF,hP⟩ hD hlt
  rw[xO] at hP
  obtain⟨v,hv1,hv2,hv3⟩:=hP.out
  obtain⟨vo,vc,rfl⟩:=aV hv2
  have hc:=aA hv1
  have hf:=bn hv1 0
  have hk:=dF W _ hc
  have HF:=ae hF
  have HV:=ae (ag hv1 hv2)
  clear hF hP hv1 hv2 hv3
  gi_wp2_with fail
  rw[hsz2] at hD
  have hD':(W.setCell ⟨w.heap.size+1+1,0,none⟩ (.slice vo (jB h turns).length vc)).heap[w.heap.size+5]? =some (.deferred (some [])):=(dB _ _ _ _ (by show w.heap.size+5≠w.heap.size+1+1;omega)).trans hD
  have hcell:((W.setCell ⟨w.heap.size+1+1,0,none⟩ (.slice vo (jB h turns).length vc)).putObj (w.heap.size+5) (.deferred none)).cell? ⟨w.heap.size+1+1,0,none⟩=some (.slice vo (jB h turns).length vc):=
   aA ((World.putObj_heap_other (by omega)).trans (aI HV.out.1 _))
  refine⟨by simp,.inl ⟨_,_,rfl,run_takeDeferred hD',?_⟩⟩
  have hF2:=(HF.out.own (HF.out.ext.set (p:=⟨w.heap.size+1+1,0,none⟩) (by show w.heap.size<=w.heap.size+1+1;omega) (.slice vo (jB h turns).length vc)) (by simp[World.setCell]) (HF.out.cache.kept (dB _ _ _ _ (by show mb≠w.heap.size+1+1;omega)))).put (Obj.deferred none) (r:=w.heap.size+5) (by omega) hmb
  refine⟨.slice vo (jB h turns).length vc,by simp[results,Tryz.results44,go_sem,hcell],_,rfl,?_,hF2.cache,hF2.ext⟩
  refine cu (dI HV.out.2 fun g hg=>(World.putObj_heap_other ?_).trans (dB _ _ _ _ ?_)) (by omega)
  ·have:=(bG HV.out.2 g hg).1;omega
  ·have:=(bG HV.out.2 g hg).1;show g≠w.heap.size+1+1;omega
 case hstop=>rintro cd Ms W h;exact h.elim
end Go.Proofs.YthbpmepjmebolaaGreatDoor.jA
end
section
namespace Go.Proofs.YthbpmepjmebolaaGreatDoor.jA
open Go.RowKit Go.RG Go.SL Go.Shelf ji
def aeW (R:List dP) (mb:Nat) (aY:Int) (w:World) (e:Ending) (w':World):Prop:=
 ∃v,e= .returned v/\w'.ownsRow w.heap.size 34 2 v R.length (aF R)/\Cache w' mb aY/\Ext [mb] w w'
theorem zN (h:bZ) (hS:Sound h) (a b c tv:Value) (turns:List Int) (wb mb:Nat) (w:World) (hw:iM w wb mb h a b c) (h1:bM w a h.bV) (h2:aN w b h.turns) (h3:bI w c h.readings) (h4:aN w tv turns):
 Calls Tryz.prog 105 #[.pointer (some ⟨wb,0,none⟩),tv] w (aeW (qZ (h.last+1).toNat (jB h turns)) mb h.aY w):=by
 have HEV:=ae (Js h hS a b c tv turns wb mb w hw h1 h2 h3 h4)
 obtain⟨oa,ca,rfl⟩:=h1.open
 obtain⟨ob,cb,rfl⟩:=h2.open
 obtain⟨oc,cc,rfl⟩:=h3.open
 obtain⟨ot,ct,rfl⟩:=h4.open
 have HW:=ae hw
 have oH:=ae hS
 have hl0:=hS.Jf
 have hl9:=hS.Ar
 obtain⟨n,hn⟩: ∃n:Nat,h.last+1=n:=⟨(h.last+1).toNat,by omega⟩
 have NU:=Gj (h:=h) (turns:=turns)
 have hlen:(jB h turns).length<=2000:=ja (Rx h turns) (wZ hS [])
 rw[hn,Int.toNat_natCast]
 generalize jB h turns=ls at*
 clear hw h1 h2 h3 h4 hS
 go_enter Tryz.func105,Tryz.ntmps105
 go_wp2_with fail
 refine HEV.o.mono ?_
 rintro e w1 ⟨v,rfl,hown,hcc,hE⟩
 obtain⟨vo,vc,rfl⟩:=aV hown
 have HO:=ae hown
 have HC:=ae hcc
 have HE:=ae hE
 clear hown hcc hE
 go_wp2_with fail
 have hws:=HW.o
 go_loopw [4,12] (fun o u wr=> ∃k:Nat,k<=ls.length/\u= .int .i64 k/\ ∃oo I7,o= .slice oo (bu n ls k).length I7/\wr.ownsRow w1.heap.size 34 2 (.slice oo (bu n ls k).length I7) (bu n ls k).length (aF (bu n ls k))/\Below w1.heap.size w1 wr)
  (fun _ u _=>ls.length-(intOf u).toNat)
 case atStart=>exact⟨0,bW _,rfl,none,0,rfl,⟨rfl,.inl ⟨rfl,rfl⟩⟩,aG _ _⟩
 case round=>
  obtain⟨k,hk,rfl,oo,I7,rfl,how,hB⟩:=hrel
  by_cases hlt:k<ls.length
  ·have acC:=NU ls[k] (bY hlt)
   obtain⟨g0,c0,hv0,hg0,hr0⟩:=aa4 HO.o NU hlt
   have hvo:vo=some ⟨g0,0,none⟩:=by simp at hv0;exact hv0.1
   subst hvo
   have hr1:wr.rangeAt g0 (k*10) (ah ls[k]):=fun j u hj=>(hB.cell (p:=⟨g0,k*10+j,none⟩) hg0).trans (hr0 j u hj)
   have ajn:ls.getD k []=ls[k]:=by simp[List.getD,hlt]
   generalize ls[k]=ys at*
   obtain⟨W2,hst,hblk,hE2⟩:=xh Tryz.prog ys (ay wr (.cells #[iv 0,iv 0,iv 0,iv 0,iv 0,iv 0,iv 0,iv 0,iv 0,iv 0] 107)) (by rw[acC];rfl)
   have hyl:(ah ys).length=10:=by simp[ah,acC]
   have hB2:Below wr.heap.size wr W2:=(Ext.below (BZ ((Ext.az (aG _ _)).alloc _) hE2 (ai _)))
   have adv:iM W2 wb mb h (.slice oa h.bV.length ca) (.slice ob h.turns.length cb) (.slice oc h.readings.length cc):=(HW.o.ext HE.o HC.o).below (bg hB hB2) (ai _)
   have c2:=adv.cell
   have c3:=adv.lt
   have FV:(k:Int)<ls.length:=by omega
   have hkn:((k:Int)).toNat=k:=by omega
   have HB:=ae hB
   have HB2:=ae hB2
   have HK:=ae hblk
   have HOW:=ae how
   clear hws hB hB2 hblk how adv hE2 hr0
   go_wp2_with (refine wpList_load_mid rfl 107 _ rfl g0 (k*10) rfl (ah ys) _ hr1 Tryz.underlying107 rfl (by rw[hyl];kernel_rfl) ?_)
   refine(KN h _ _ _ n _ hl0 hl9 hn).mono ?_
   rintro e W3 ⟨rfl,hb⟩
   have HB3:=ae (bg HB2.o hb)
   have hk3:W3.heap[wr.heap.size]? =some (.cells (ah ys).toArray 107 (0,0)):=(hb.block _ (aT.1 HK.o).1).trans HK.o
   have Xl:=ae hk3
   clear hb hk3 c2 c3 hst hr1
   go_wp2_with fail
   have VE:n<=10:=by omega
   have hR:k≠0->(bu n ls k).length=n:=oU n ls k
   have hR0:k=0->bu n ls k=[]:=fun e=>by subst e;rfl
   have H3:=ae (show _/\_/\_/\_ from ag (aB (Ms:=[]) HOW.o (Ext.az HB3.o) (by simp)) (ag (fun g (hg:(Value.slice oo (bu n ls k).length I7).ownBlock=some g)=>(show g≠wr.heap.size from by have:=(bG HOW.o g hg).2;omega)) (ag (bg HB.o HB3.o) Xl.o)))
   clear HB HB2 HB3 HOW HK Xl
   generalize wr.heap.size=b6 at*
   go_loopw [4,22] (fun o u wq=> ∃i:Nat,i<=n/\u= .int .i64 i/\ ∃oo I7,o= .slice oo (eP n k (bu n ls k) ys i).length I7/\wq.ownsRow w1.heap.size 34 2 (.slice oo (eP n k (bu n ls k) ys i).length I7) (eP n k (bu n ls k) ys i).length (aF (eP n k (bu n ls k) ys i))/\
    (∀g,(Value.slice oo (eP n k (bu n ls k) ys i).length I7).ownBlock=some g->g≠b6)/\Below w1.heap.size w1 wq/\wq.heap[b6]? =some (.cells (ah ys).toArray 107 (0,0)))
    (fun _ u _=>n-(intOf u).toNat)
   case atStart=>
    refine⟨0,bW _,rfl,?_⟩
    rw[Qr hR hR0]
    exact⟨oo,I7,rfl,H3.o⟩
   case round=>
    obtain⟨i,hi,rfl,TM,Np,rfl,how,hne,hB,hblk⟩:=hrel
    by_cases hin:i<n
    ·have abu:i<ys.length:=by omega
     have hcell:=gu hblk abu
     have hgx:ys.getD i 0=ys[i]:=by simp[List.getD,abu]
     have hkb:=(aT.1 hblk).1
     have hiI:(i:Int)<10:=by omega
     have anX:(i:Int)<n:=by omega
     have hiN:((i:Int)).toNat=i:=by omega
     generalize hxx:ys[i]=x at hcell hgx
     have HX:=ae hgx
     have HOI:=ae how
     have JI:=ae hne
     have HBQ:=ae hB
     have HKQ:=ae hblk
     clear hgx how hne hB hblk hxx
     rcases Nat.eq_zero_or_pos k with hk0|hk0
     ·have agr:((k:Int)==0)=true:=by simpa using hk0
      have af7:(eP n k (bu n ls k) ys i).length=i:=by rw[hk0];exact rY _ _ _ _
      have happ:eP n k (bu n ls k) ys i++[(x,x)]=eP n k (bu n ls k) ys (i+1):=by rw[hk0, <-HX.o];exact U7
      have hlen1:(eP n k (bu n ls k) ys (i+1)).length=i+1:=by rw[hk0];exact rY _ _ _ _
      have HAP:=ae happ
      have HK0:=ae hk0
      have Tv:=ae (ag af7 hlen1)
      clear happ hk0 af7 hlen1
      go_wp2_with fail
      clear agr
      refine zg 9 [] none [(8,Spec.slice wr.heap.size #[iv x,iv x] 34 1)] ?_
      simp only[zt]
      repeat (refine zd ?_;simp only[zp])
      refine dU wr.heap.size _ _ _ (by rfl) (ai _) (by rfl) (by simp) (by simp) (fun W hW=>by go_simp;try rfl) (fun b8=>?_)
      simp only[zp]
      intro W5 Ob hF5
      have KW:Ext [] wr W5:=Ob
      obtain⟨b8',hb8,aof,acI⟩:=hF5 _ (bD _)
      cases hb8
      obtain⟨hc,hf⟩:=bK KW.below
      have hz5:=KW.size
      have HE5:=ae KW
      have HBK:=ae acI
      have hown5:=aB (Ms:=[]) HOI.o KW (by simp)
      have akK:=ae hown5
      have ank:=HBQ.o.size
      clear Ob hF5 KW acI hown5
      go_wp2_with (at_builtin;go_loud (refine dZ rfl _ _ JV rfl w1.heap.size (.slice TM (eP n k (bu n ls k) ys i).length Np) (eP n k (bu n ls k) ys i).length (aF (eP n k (bu n ls k) ys i)) rfl akK.o (.slice (some ⟨b8,0,none⟩) 1 1) 1 (aF [(x,x)]) rfl (aP.cZ 2 1 HBK.o rfl (by decide)) (og _) (by have:=Tv.o.1;omega) (by have:=Tv.o.1;omega) (by omega) ?_))
      intro v' W6 hown6 Hw acB
      have Rf:W6.ownsRow w1.heap.size 34 2 v' (eP n k (bu n ls k) ys (i+1)).length (aF (eP n k (bu n ls k) ys (i+1))):=by
       rw[Tv.o.2, <-HAP.o]
       have e1:aF (eP n k (bu n ls k) ys i++[(x,x)])=aF (eP n k (bu n ls k) ys i)++aF [(x,x)]:=by simp[aF]
       rw[e1]
       have hl:=Tv.o.1
       rw[hl] at hown6
       exact hown6
      obtain⟨o6,c6,rfl⟩:=aV Rf
      have wC:=ae Rf
      have HN9:Hid (∀g,(Value.slice o6 (eP n k (bu n ls k) ys (i+1)).length c6).ownBlock=some g->g≠b6):=ae (fun g hg=>by
       rcases acB with e|e
       ·rw[hg] at e;exact JI.o g e.symm
       ·rw[hg] at e;injection e with e;omega)
      have agJ:(Value.slice TM (eP n k (bu n ls k) ys i).length Np).ownBlock≠some b6:=fun e=>JI.o b6 e rfl
      have AO: ∀b,b<wr.heap.size->(Value.slice TM (eP n k (bu n ls k) ys i).length Np).ownBlock≠some b->W6.heap[b]? =wr.heap[b]? :=fun b hb hn=>(Hw.block b (by omega) (fun e=>hn e.symm)).trans (HE5.o.block b hb (by simp))
      have hs6:=Hw.size
      have hk6:W6.heap[b6]? =some (.cells (ah ys).toArray 107 (0,0)):=(AO b6 hkb agJ).trans HKQ.o
      have Rq:Below w1.heap.size w1 W6:=⟨Hw.os.trans (HE5.o.os.trans HBQ.o.os),Hw.tape.trans (HE5.o.tape.trans HBQ.o.tape),Hw.output.trans (HE5.o.output.trans HBQ.o.output),by omega,
       fun b hb=>(AO b (by omega) (fun e=>by have:=(bG HOI.o b e).1;omega)).trans (HBQ.o.block b hb)⟩
      have qR:=ae Rq
      have Cm:=ae hk6
      have ajK:W6.cell? ⟨b6,i,none⟩=some (.int .i64 x):=by
       have:=gu hk6 abu
       rw[this]
       have hx:=HX.o
       simp only[List.getD,dG abu,Option.getD_some] at hx
       rw[hx]
      have anQ:=(aT.1 hk6).1
      clear hown6 Hw acB Rf agJ AO hk6 Rq hc hf hcell
      go_wp2_with fail
      have hlen1:=Tv.o.2
      have ajF:(eP n k (bu n ls k) ys (i+1)).set i (wid ((eP n k (bu n ls k) ys (i+1)).getD i (0,0)) (ys.getD i 0))=eP n k (bu n ls k) ys (i+1):=by rw[HK0.o];exact Qu
      have hiL:i<((eP n k (bu n ls k) ys (i+1))).length:=by first|omega|(rw[uO _ _ _ _ _ hk0];omega)|(simp only[rY,List.length_append,List.length_cons,List.length_nil,oU,uO,ne_eq,hk0,not_false_eq_true];omega)
      (try clear hlen1)
      obtain⟨g9,c9,hv9,Hy,ajm,⟨p0,p1⟩,hfz⟩:=nZ wC.o hiL
      simp only[Value.slice.injEq,true_and] at hv9
      obtain⟨rfl,rfl⟩:=hv9
      have hgd:((eP n k (bu n ls k) ys (i+1))).getD i (0,0)=((eP n k (bu n ls k) ys (i+1)))[i]:=by simp[List.getD,hiL]
      have adG: ¬g9=b6:=HN9.o g9 rfl
      have ajx:(i:Int)<(((eP n k (bu n ls k) ys (i+1))).length:Int):=by omega
      generalize Dj:((eP n k (bu n ls k) ys (i+1)))[i]=r9 at p0 p1 hgd
      have HGD:=ae hgd
      have hf0:=hfz (i*2)
      have hf1:=hfz (i*2+1)
      clear hfz Dj hgd
      refine zg 11 [] none [(9,Spec.val (rv (wid r9 x)))] ?_
      simp only[zt]
      repeat (refine zd ?_;simp only[zp])
      refine eu _ (by rfl) (by rfl) 171 _ (fun W hW=>by go_simp;(try simp(disch:=omega) only[IntWalk.i64_in]);try rfl) (fun W hE hF=>by exact Iw r9 x W) ?_
      simp only[zp]
      repeat (refine zd ?_;simp only[zp])
      intro W8 gV VK
      have KT:Ext [] W6 W8:=gV
      obtain⟨hc8,hf8⟩:=bK KT.below
      have hz8:=KT.size
      have iP:=ae KT
      have adI:g9<W8.heap.size:=by omega
      clear gV VK KT
      go_wp2_with fail
      go_roundw
      case rel=>
       have heq:eP n k (bu n ls k) ys (i+1)=((eP n k (bu n ls k) ys (i+1))).set i (wid r9 x):=by
        rw[<-HX.o, <-HGD.o]
        exact(ajF).symm
       refine⟨i+1,by omega,by go_num,?_⟩
       rw[heq,pY]
       have hset:=nG (aB (Ms:=[]) wC.o iP.o (by simp)) hiL (wid r9 x)
       refine⟨_,_,rfl,hset,fun g hg=>by cases hg;exact adG,iw (iw (bg qR.o iP.o.below) Hy _) Hy _,?_⟩
       exact(dB _ _ _ _ (by show b6≠g9;omega)).trans ((dB _ _ _ _ (by show b6≠g9;omega)).trans ((iP.o.block b6 (aT.1 Cm.o).1 (by simp)).trans Cm.o))
      case measure=>simp[intOf];omega
     ·have anT: ¬((k:Int)=0):=by omega
      have agr:((k:Int)==0)=false:=by simp;omega
      have hk0':k≠0:=by omega
      replace hk0:k≠0:=by omega
      go_wp2_with fail
      have wC:=HOI
      have HN9:=JI
      have qR:=HBQ
      have Cm:=HKQ
      have hiL:i<((eP n k (bu n ls k) ys i)).length:=by first|omega|(rw[uO _ _ _ _ _ hk0];omega)|(simp only[rY,List.length_append,List.length_cons,List.length_nil,oU,uO,ne_eq,hk0,not_false_eq_true];omega)
      (try clear hlen1)
      obtain⟨g9,c9,hv9,Hy,ajm,⟨p0,p1⟩,hfz⟩:=nZ wC.o hiL
      simp only[Value.slice.injEq,true_and] at hv9
      obtain⟨rfl,rfl⟩:=hv9
      have hgd:((eP n k (bu n ls k) ys i)).getD i (0,0)=((eP n k (bu n ls k) ys i))[i]:=by simp[List.getD,hiL]
      have adG: ¬g9=b6:=HN9.o g9 rfl
      have ajx:(i:Int)<(((eP n k (bu n ls k) ys i)).length:Int):=by omega
      generalize Dj:((eP n k (bu n ls k) ys i))[i]=r9 at p0 p1 hgd
      have HGD:=ae hgd
      have hf0:=hfz (i*2)
      have hf1:=hfz (i*2+1)
      clear hfz Dj hgd
      refine zg 11 [] none [(9,Spec.val (rv (wid r9 x)))] ?_
      simp only[zt]
      repeat (refine zd ?_;simp only[zp])
      refine eu _ (by rfl) (by rfl) 171 _ (fun W hW=>by go_simp;(try simp(disch:=omega) only[IntWalk.i64_in]);try rfl) (fun W hE hF=>by exact Iw r9 x W) ?_
      simp only[zp]
      repeat (refine zd ?_;simp only[zp])
      intro W8 gV VK
      have KT:Ext [] wr W8:=gV
      obtain⟨hc8,hf8⟩:=bK KT.below
      have hz8:=KT.size
      have iP:=ae KT
      have adI:g9<W8.heap.size:=by omega
      clear gV VK KT
      go_wp2_with fail
      go_roundw
      case rel=>
       have heq:eP n k (bu n ls k) ys (i+1)=((eP n k (bu n ls k) ys i)).set i (wid r9 x):=by
        rw[<-HX.o, <-HGD.o]
        exact(U6 hk0 hin).symm
       refine⟨i+1,by omega,by go_num,?_⟩
       rw[heq,pY]
       have hset:=nG (aB (Ms:=[]) wC.o iP.o (by simp)) hiL (wid r9 x)
       refine⟨_,_,rfl,hset,fun g hg=>by cases hg;exact adG,iw (iw (bg qR.o iP.o.below) Hy _) Hy _,?_⟩
       exact(dB _ _ _ _ (by show b6≠g9;omega)).trans ((dB _ _ _ _ (by show b6≠g9;omega)).trans ((iP.o.block b6 (aT.1 Cm.o).1 (by simp)).trans Cm.o))
      case measure=>simp[intOf];omega
    ·have hin':i=n:=by omega
     subst hin'
     have hsucc:bu i ls (k+1)=eP i k (bu i ls k) ys i:=by
      show eP i k (bu i ls k) (ls.getD k []) i=_
      rw[ajn]
     have HS:=ae (ag hsucc (ag how hB))
     clear hsucc how hB hblk hne
     go_wp2_with fail
     go_roundw
     case rel=>
      refine⟨k+1,by omega,by go_num,?_⟩
      rw[HS.o.1]
      exact⟨_,_,rfl,HS.o.2.1,HS.o.2.2⟩
     case measure=>simp[intOf];omega
  ·have hkl:k=ls.length:=by omega
   subst hkl
   have HF:=ae (ag how hB)
   clear how hB
   go_wp2_with fail
   go_returns
   exact⟨_,by simp,cu HF.o.1 (by have:=HE.o.size;omega),HC.o.kept (HF.o.2.block mb HC.o.lt),HE.o.bel HF.o.2⟩
end Go.Proofs.YthbpmepjmebolaaGreatDoor.jA
namespace Go.Proofs.YthbpmepjmebolaaGreatDoor.jA
open Go.RowKit Go.RG Go.SL Go.Shelf ji
def lh (w:World) (v:Value) (ls:List (List Int)):Prop:=aP 10 w v ls.length (ls.flatMap ah)/\ ∀x∈ls,x.length=10
theorem lh.len {w:World} {v:Value} {ls:List (List Int)} (h:lh w v ls):ls.length<=9223372036854775807:=aP.len h.1
theorem lh.open {w:World} {v:Value} {ls:List (List Int)} (h:lh w v ls): ∃o c,v= .slice o ls.length c:=aP.open h.1
theorem lh.below {w w':World} {v:Value} {ls:List (List Int)} (h:lh w v ls) (hb:Below w.heap.size w w'):lh w' v ls:=⟨h.1.below hb (ai _),h.2⟩
theorem lh.cell {w:World} {o:Option Addr} {c:Nat} {ls:List (List Int)} (h:lh w (.slice o ls.length c) ls) {k:Nat} (hk:k<ls.length):
 ∃b off,o=some ⟨b,off,none⟩/\b<w.heap.size/\w.rangeAt b (off+k*10) (ah ls[k]):=by
 obtain⟨⟨hl,o',c',hv,h1,h2,h3,h4⟩,h10⟩:=h
 cases hv
 cases o with
 |none=>have:=h3 rfl;omega
 |some a=>
  obtain⟨b,off,sp⟩:=a
  obtain⟨hs,hc⟩:=h4 _ rfl
  simp only at hs hc
  subst hs
  have hat: ∀j u,(ah ls[k])[j]? =some u->w.cell? ⟨b,off+k*10+j,none⟩=some u:=fun j u hj=>by
   have hj':j<10:=by have:=(jg.1 hj).1;simpa [ah,h10 _ (bY hk)] using this
   have:=hc (k*10+j) u (by rw[F9 ah 10 ls (fun x hx=>by simp[ah,h10 x hx]) k j hk hj'];exact hj)
   rw[<-Nat.add_assoc] at this
   exact this
  have h0:ls[k].length=10:=h10 _ (bY hk)
  have:=hat 0 (iv (ls[k][0]'(by omega))) (by simp[ah])
  exact⟨b,off,rfl,dF w _ this,hat⟩
theorem aiU (l:List (List Int)) (v:Value) (aZ:Nat) (fst caps:Array Value) (p:Nat->Bool) (I:Nat->World->Prop) (w:World) (eg: ∀args w,(callFunc aZ args).run Tryz.prog w= .ok (.enter aZ args) w)
 (hsl: ∀k W,I k W->lh W v l)
 (hcall: ∀k (hk:k<l.length) W,(∀j,j<k->p j=false)->I k W->Calls Tryz.prog aZ (fst.push (lJ l[k])++caps) W (fun e W'=>e= .returned (.bool (p k))/\I (k+1) W')) (h0:I 0 w):
 Calls Tryz.prog 83 #[v,.func (.func aZ) fst caps] w (dY l.length p I (fun k=>iv k) (iv (-1))):=by
 have hlen:=(hsl 0 w h0).len
 have h10:=(hsl 0 w h0).2
 obtain⟨o,c,rfl⟩:=(hsl 0 w h0).open
 have HC:=ae hcall
 have HS:=ae hsl
 have HT:=ae h10
 clear hcall hsl h10
 go_enter Tryz.func83,Tryz.ntmps83
 go_wp2
 go_loopw [4,5,8] (fun _ _ i wr=> ∃k:Nat,k<=l.length/\i= .int .i64 k/\(∀j,j<k->p j=false)/\I k wr) (fun _ _ i _=>l.length-(intOf i).toNat)
 case atStart=>exact⟨0,bW _,rfl,fun j hj=>by omega,h0⟩
 case round=>
  obtain⟨k,hk,rfl,hno,hI⟩:=hrel
  by_cases hlt:k<l.length
  ·obtain⟨b,off,rfl,hb,KI⟩:=lh.cell (HS.o k wr hI) hlt
   have hC:=HC.o k hlt wr hno hI
   have hyl:(ah l[k]).length=10:=by simp[ah,HT.o _ (bY hlt)]
   have FV:(k:Int)<l.length:=by omega
   have HN:=ae hno
   clear hno
   generalize l[k]=ys at*
   go_wp2_with (refine wpList_load_mid rfl 107 _ rfl b (off+k*10) rfl (ah ys) _ KI Tryz.underlying107 rfl (by rw[hyl];kernel_rfl) ?_)
   refine hC.mono ?_
   rintro e W1 ⟨rfl,hI1⟩
   have HI:=ae hI1
   clear hI1 hI hC
   cases hp:p k
   ·go_wp2_with fail
    go_roundw
    case rel=>exact⟨k+1,by omega,by go_num,fun j hj=>(by by_cases e:j=k;(subst e;exact hp);exact HN.o j (by omega)),HI.o⟩
    case measure=>simp[intOf];omega
   ·go_wp2_with fail
    go_returns
    exact⟨k,by omega,HN.o,.inl ⟨hlt,hp,by simp,HI.o⟩⟩
  ·have hkl:k=l.length:=by omega
   have HN:=ae hno
   clear hno
   go_wp2_with fail
   go_returns
   exact⟨k,by omega,HN.o,.inr ⟨hkl,by simp,by subst hkl;exact hI⟩⟩
theorem acO (l:List (List Int)) (v:Value) (aZ:Nat) (fst caps:Array Value) (p:Nat->Bool) (I:Nat->World->Prop) (w:World) (eg: ∀args w,(callFunc aZ args).run Tryz.prog w= .ok (.enter aZ args) w)
 (hsl: ∀k W,I k W->lh W v l)
 (hcall: ∀k (hk:k<l.length) W,(∀j,j<k->p j=false)->I k W->Calls Tryz.prog aZ (fst.push (lJ l[k])++caps) W (fun e W'=>e= .returned (.bool (p k))/\I (k+1) W')) (h0:I 0 w):
 Calls Tryz.prog 47 #[v,.func (.func aZ) fst caps] w (dY l.length p I (fun _=> .bool true) (.bool false)):=by
 have HI:=ae (aiU l v aZ fst caps p I w eg hsl hcall h0)
 have hlen:=(hsl 0 w h0).len
 clear hsl hcall h0 eg
 go_enter Tryz.func47,Tryz.ntmps47
 go_wp2_with fail
 refine HI.o.mono ?_
 clear HI
 rintro e W' ⟨k,hk,hno,⟨hlt,hp,rfl,hI⟩|⟨hkl,rfl,hI⟩⟩
 ·have HN:=ae (ag hno (ag hp hI))
  clear hno hp hI
  go_wp2_with fail
  go_returns
  exact⟨k,hk,HN.o.1,.inl ⟨hlt,HN.o.2.1,by simp,HN.o.2.2⟩⟩
 ·have HN:=ae (ag hno (ag hkl hI))
  clear hno hkl hI
  go_wp2_with fail
  go_returns
  exact⟨k,hk,HN.o.1,.inr ⟨HN.o.2.1,by simp,HN.o.2.1▸HN.o.2.2⟩⟩
theorem ahu (x:List Int) (h10:x.length=10) (bx aZ:Nat) (fst caps:Array Value) (b:Bool) (W:World) (R:World->Prop) (eg: ∀args w,(callFunc aZ args).run Tryz.prog w= .ok (.enter aZ args) w)
 (hbx:W.cell? ⟨bx,0,none⟩=some (.func (.func aZ) fst caps))
 (hcall:Calls Tryz.prog aZ (fst.push (lJ x)++caps) (W.alloc (.cells (ah x).toArray 107)) (fun e W'=>e= .returned (.bool b)/\R W')):
 Calls Tryz.prog 78 #[lJ x,.pointer (some ⟨bx,0,none⟩)] W (fun e W'=>e= .returned (.bool !b)/\R W'):=by
 have hlt:=dF W _ hbx
 obtain⟨y0,y1,y2,y3,y4,y5,y6,y7,y8,y9,rfl⟩:=BD h10
 have HC:=ae hcall
 clear hcall
 show Calls Tryz.prog 78 #[.agg #[iv y0,iv y1,iv y2,iv y3,iv y4,iv y5,iv y6,iv y7,iv y8,iv y9],.pointer (some ⟨bx,0,none⟩)] W _
 go_enter Tryz.func78,Tryz.ntmps78
 go_wp2_with fail
 refine HC.o.mono ?_
 rintro e W' ⟨rfl,hR⟩
 have HR:=ae hR
 clear hR
 go_wp2_with fail
 go_returns
 exact⟨by simp,HR.o⟩
theorem WN (l:List (List Int)) (v:Value) (aZ:Nat) (fst caps:Array Value) (q:List Int->Bool) (w:World) (hv:lh w v l) (eg: ∀args w,(callFunc aZ args).run Tryz.prog w= .ok (.enter aZ args) w)
 (hcall: ∀x∈l, ∀W,Below w.heap.size w W->Calls Tryz.prog aZ (fst.push (lJ x)++caps) W (PV (.bool (q x)) W)):
 Calls Tryz.prog 45 #[v,.func (.func aZ) fst caps] w (PV (.bool (l.all q)) w):=by
 have HI:=ae (acO l v 78 #[] #[.pointer (some ⟨w.heap.size,0,none⟩)] (fun k=>!q (l.getD k []))
  (fun k W=>Below w.heap.size w W/\W.heap[w.heap.size]? =some (.cells #[.func (.func aZ) fst caps] 108 (0,0))) (w.alloc (.cells #[.func (.func aZ) fst caps] 108))
  (enters_of Tryz.func78 (by kernel_rfl) rfl) (fun k W h=>hv.below h.1)
  (fun k hk W hno h=>by
    have hlt:w.heap.size<W.heap.size:=(aT.1 h.2).1
    have hgd:l.getD k []=l[k]:=by simp[List.getD,hk]
    rw[hgd]
    refine(ahu l[k] (hv.2 _ (bY hk)) w.heap.size aZ fst caps (q l[k]) W (fun W'=>Below w.heap.size w W'/\W'.heap[w.heap.size]? =some (.cells #[.func (.func aZ) fst caps] 108 (0,0))) eg (aA h.2) ?_)
    refine(hcall l[k] (bY hk) _ (aj h.1 _)).mono ?_
    rintro e W' ⟨rfl,hb⟩
    refine⟨rfl,bg (aj h.1 _) hb,(hb.block _ (by simp;omega)).trans ((aW _ _ _ hlt).trans h.2)⟩)
  ⟨aj (aG _ _) _,heap_alloc_new w _⟩)
 have hlen:=hv.len
 obtain⟨bb,hbb⟩: ∃bb,l.all q=bb:=⟨_,rfl⟩
 rw[hbb]
 have HQ:Hid (((List.range l.length).any fun k=>!q (l.getD k []))=!bb):=ae (by rw[<-hbb, <-jL l q [],List.all_eq_not_any_not];simp)
 clear hcall eg hv hbb
 go_enter Tryz.func45,Tryz.ntmps45
 go_wp2_with fail
 refine HI.o.mono ?_
 clear HI
 intro e W' hpost
 obtain⟨rfl,k,_,hI,_⟩:=hpost.all
 have HB:=ae hI
 rw[HQ.o]
 clear hI hpost
 cases bb
 all_goals
  go_wp2_with fail
  go_returns
  exact⟨by simp,HB.o⟩
theorem RY (l:List (List Int)) (v:Value) (aZ:Nat) (fst caps:Array Value) (q:List Int->Bool) (w:World) (hv:lh w v l) (eg: ∀args w,(callFunc aZ args).run Tryz.prog w= .ok (.enter aZ args) w)
 (hcall: ∀x∈l, ∀W,Below w.heap.size w W->Calls Tryz.prog aZ (fst.push (lJ x)++caps) W (PV (.bool (q x)) W)):
 Calls Tryz.prog 47 #[v,.func (.func aZ) fst caps] w (PV (.bool (l.any q)) w):=by
 refine(acO l v aZ fst caps (fun k=>q (l.getD k [])) (fun _ W=>Below w.heap.size w W) w eg (fun k W h=>hv.below h) (fun k hk W _ h=>?_) (aG _ _)).mono ?_
 ·have hgd:l.getD k []=l[k]:=by simp[List.getD,hk]
  rw[hgd]
  refine(hcall l[k] (bY _) W h).mono ?_
  rintro e W' ⟨rfl,hb⟩
  exact⟨rfl,bg h hb⟩
 ·intro e W' hpost
  obtain⟨rfl,k,_,hI⟩:=hpost.all
  refine⟨?_,hI⟩
  have:=jL l (fun x=>!q x) []
  have e2:((List.range l.length).any fun k=>q (l.getD k []))=l.any q:=by
   rw[List.any_eq_not_all_not,this,List.any_eq_not_all_not]
  rw[e2]
  cases l.any q <;>rfl
end Go.Proofs.YthbpmepjmebolaaGreatDoor.jA
namespace Go.Proofs.YthbpmepjmebolaaGreatDoor.jA
open Go.RowKit Go.RG Go.SL Go.Shelf ji
def jM (h:bZ) (turns:List Int):List dP:=if jf h turns=0 then qZ (h.last+1).toNat (jB h turns) else[]
theorem rG {h:bZ} {turns:List Int} (he:jf h turns=0):Sound h:=by
 unfold jf at he
 split at he
 ·rename_i hf;exact absurd he hf
 ·rename_i hf;exact EN (by simpa using hf)
theorem G5 (h:bZ) (wv tv uA L9:Value) (turns:List Int) (w:World) (hw:bM w wv h.bV) (ht:aN w tv h.turns) (hx:bI w uA h.readings) (htr:aN w L9 turns):
 Calls Tryz.prog 61 #[hv h wv tv uA,L9] w (fun e w'=> ∃v,e= .returned (.tuple #[v,iv (jf h turns)])/\bM w' v (jM h turns)/\Below w.heap.size w w'):=by
 obtain⟨ow,cw,rfl⟩:=hw.open
 obtain⟨ot,ct,rfl⟩:=ht.open
 obtain⟨ox,cx,rfl⟩:=hx.open
 have HW:=ae hw
 have HT:=ae ht
 have HX:=ae hx
 clear hw ht hx
 obtain⟨oq,cq,rfl⟩:=htr.open
 have HQ:=ae htr
 clear htr
 obtain⟨E,hE⟩: ∃E,jf h turns=E:=⟨_,rfl⟩
 rw[hE]
 have HE:=ae hE
 clear hE
 go_enter Tryz.func61,Tryz.ntmps61
 go_wp2_with fail
 refine(vg h _ _ _ _ turns _ (HW.o.alloc _) (HT.o.alloc _) (HX.o.alloc _) (HQ.o.alloc _)).mono ?_
 rintro e w1 ⟨hb,⟨hne,rfl⟩|⟨h0,wb,mb,rfl,hwb,hmb,hwk⟩⟩
 ·rw[HE.o] at hne⊢
  have HB:=ae hb
  clear hb
  go_wp2_with fail
  go_returns
  exact⟨.slice none 0 0,by simp,by unfold jM;rw[HE.o,ak hne];exact pairs_nil _,bg (aj (aG _ _) _) HB.o⟩
 ·have hE0:E=0:=by rw[<-HE.o];exact h0
  subst hE0
  have HB:=ae hb
  have hS:=rG h0
  have LJ:=ae (zN h hS _ _ _ _ turns wb mb w1 hwk ((HW.o.alloc _).below hb (ai _)) ((HT.o.alloc _).below hb (ai _)) ((HX.o.alloc _).below hb (ai _)) ((HQ.o.alloc _).below hb (ai _)))
  have VF:w.heap.size<=mb:=by simp at hmb;omega
  clear hb hwk h0 hS
  go_wp2_with fail
  refine LJ.o.mono ?_
  rintro e w2 ⟨v,rfl,hown,hcc,hE2⟩
  have HB2:=ae (gX (bg (aj (aG _ _) _) HB.o) hE2 VF)
  have hsl:=aP.dR hown
  obtain⟨vo,vc,rfl⟩:=aV hown
  have HSL:=ae hsl
  clear hown hcc hE2 hsl
  go_wp2_with fail
  go_returns
  refine⟨.slice vo _ vc,by simp;rfl,?_,HB2.o⟩
  unfold jM
  rw[HE.o,aC rfl]
  exact HSL.o
def mZ (h:bZ) (turns:List Int):Int:=
 if jf h turns≠0 then 0 else if(jB h turns).all (lX h)=true then 1 else if(jB h turns).any (lX h)=true then 3 else 2
theorem yI (h:bZ) (wv tv uA L9:Value) (turns:List Int) (w:World) (hw:bM w wv h.bV) (ht:aN w tv h.turns) (hx:bI w uA h.readings) (htr:aN w L9 turns):
 Calls Tryz.prog 16 #[hv h wv tv uA,L9] w (fun e w'=>e= .returned (.tuple #[iv (mZ h turns),iv (jf h turns)])/\Below w.heap.size w w'):=by
 obtain⟨ow,cw,rfl⟩:=hw.open
 obtain⟨ot,ct,rfl⟩:=ht.open
 obtain⟨ox,cx,rfl⟩:=hx.open
 have HW:=ae hw
 have HT:=ae ht
 have HX:=ae hx
 clear hw ht hx
 obtain⟨oq,cq,rfl⟩:=htr.open
 have HQ:=ae htr
 clear htr
 obtain⟨E,hE⟩: ∃E,jf h turns=E:=⟨_,rfl⟩
 obtain⟨V,hV⟩: ∃V,mZ h turns=V:=⟨_,rfl⟩
 rw[hE,hV]
 have HE:=ae hE
 have HV:=ae hV
 clear hE hV
 go_enter Tryz.func16,Tryz.ntmps16
 go_wp2_with fail
 refine(vg h _ _ _ _ turns _ (HW.o.alloc _) (HT.o.alloc _) (HX.o.alloc _) (HQ.o.alloc _)).mono ?_
 rintro e w1 ⟨hb,⟨hne,rfl⟩|⟨h0,wb,mb,rfl,hwb,hmb,hwk⟩⟩
 ·rw[HE.o] at hne⊢
  have hv0:V=0:=by
   have hne':jf h turns≠0:=by rw[HE.o];exact hne
   rw[<-HV.o]
   unfold mZ
   rw[aC hne']
  subst hv0
  have HB:=ae hb
  clear hb
  go_wp2_with fail
  go_returns
  exact⟨by simp,bg (aj (aG _ _) _) HB.o⟩
 ·have hE0:E=0:=by rw[<-HE.o];exact h0
  subst hE0
  have HB:=ae hb
  have hS:=rG h0
  have HEV:=ae (Js h hS _ _ _ _ turns wb mb w1 hwk ((HW.o.alloc _).below hb (ai _)) ((HT.o.alloc _).below hb (ai _)) ((HX.o.alloc _).below hb (ai _)) ((HQ.o.alloc _).below hb (ai _)))
  have VF:w.heap.size+1<=mb:=by simpa using hmb
  have hl0:=hS.Jf
  have hl9:=hS.Ar
  have hbx:w1.heap[w.heap.size]? =some (.cells #[.int .i64 h.last,.int .i64 h.size,.int .i64 h.aY,.int .i64 h.die,.int .i64 h.tY,.int .i64 h.start.1,.int .i64 h.start.2,.slice ow h.bV.length cw,.slice ot h.turns.length ct,.slice ox h.readings.length cx] 39 (0,0)):=(hb.block _ (by simp)).trans (ay _ _)
  have HVV:Hid (V=if(jB h turns).all (lX h)=true then 1 else if(jB h turns).any (lX h)=true then 3 else 2):=ae (by
   rw[<-HV.o];unfold mZ;rw[ak (by rw[h0];simp)])
  have NU:=Gj (h:=h) (turns:=turns)
  generalize jB h turns=ls at*
  have HBX:=ae hbx
  have aam:=ae NU
  clear hb hwk h0 hS hbx NU
  go_wp2_with fail
  refine HEV.o.mono ?_
  rintro e w2 ⟨v,rfl,hown,hcc,hE2⟩
  have hB2:=gX (bg (aj (aG _ _) _) HB.o) hE2 (by omega)
  have hbx2:=(hE2.block w.heap.size (aT.1 HBX.o).1 (by simp;omega)).trans HBX.o
  have hsl:lh w2 v ls:=⟨aP.dR hown,aam.o⟩
  obtain⟨vo,vc,rfl⟩:=aV hown
  have hc0: ∀i,w2.cell? ⟨w.heap.size,i,none⟩=(#[.int .i64 h.last,.int .i64 h.size,.int .i64 h.aY,.int .i64 h.die,.int .i64 h.tY,.int .i64 h.start.1,.int .i64 h.start.2,.slice ow h.bV.length cw,.slice ot h.turns.length ct,.slice ox h.readings.length cx]:Array Value)[i]? :=fun i=>by
   simp only[World.cell?,hbx2];rfl
  have hs2:=(aT.1 hbx2).1
  have HB2:=ae hB2
  have HSL:=ae hsl
  clear hown hcc hE2 hsl hB2 hbx2
  go_wp2_with fail
  have hkc: ∀x∈ls, ∀W,Calls Tryz.prog 46 ((#[hv h (.slice ow h.bV.length cw) (.slice ot h.turns.length ct) (.slice ox h.readings.length cx)]:Array Value).push (lJ x)++ #[]) W (PV (.bool (lX h x)) W):=
   fun x hx W=>NP h ow ot ox _ _ _ _ _ _ x (aam.o x hx) W hl0 hl9
  have HKC:=ae hkc
  clear hkc
  refine(WN ls (.slice vo ls.length vc) 46 #[hv h (.slice ow h.bV.length cw) (.slice ot h.turns.length ct) (.slice ox h.readings.length cx)] #[] (lX h) w2 HSL.o (enters_of Tryz.func46 (by kernel_rfl) rfl) (fun x hx W _=>HKC.o x hx W)).mono ?_
  rintro e w3 ⟨rfl,hb3⟩
  have HB3:=ae hb3
  have hc3: ∀i,w3.cell? ⟨w.heap.size,i,none⟩=(#[.int .i64 h.last,.int .i64 h.size,.int .i64 h.aY,.int .i64 h.die,.int .i64 h.tY,.int .i64 h.start.1,.int .i64 h.start.2,.slice ow h.bV.length cw,.slice ot h.turns.length ct,.slice ox h.readings.length cx]:Array Value)[i]? :=fun i=>(hb3.cell (p:=⟨w.heap.size,i,none⟩) hs2).trans (hc0 i)
  clear hb3 hc0
  obtain⟨A,hA⟩: ∃A,ls.all (lX h)=A:=⟨_,rfl⟩
  rw[hA] at HVV⊢
  clear hA
  cases A
  ·go_wp2_with fail
   refine(RY ls (.slice vo ls.length vc) 46 #[hv h (.slice ow h.bV.length cw) (.slice ot h.turns.length ct) (.slice ox h.readings.length cx)] #[] (lX h) w3 (HSL.o.below HB3.o) (enters_of Tryz.func46 (by kernel_rfl) rfl) (fun x hx W _=>HKC.o x hx W)).mono ?_
   rintro e w4 ⟨rfl,hb4⟩
   have HB4:=ae hb4
   clear hb4 hc3
   obtain⟨A,hA⟩: ∃A,ls.any (lX h)=A:=⟨_,rfl⟩
   rw[hA] at HVV⊢
   clear hA
   cases A
   all_goals
    go_wp2_with fail
    go_returns
    exact⟨by rw[HVV.o];simp,bg (bg HB2.o HB3.o) HB4.o⟩
  ·go_wp2_with fail
   go_returns
   exact⟨by rw[HVV.o];simp,bg HB2.o HB3.o⟩
end Go.Proofs.YthbpmepjmebolaaGreatDoor.jA
namespace Go.Proofs.YthbpmepjmebolaaGreatDoor.jA
open Go.RowKit Go.RG Go.SL Go.Shelf ji
end Go.Proofs.YthbpmepjmebolaaGreatDoor.jA
namespace Go.Proofs.YthbpmepjmebolaaGreatDoor.jA
open Go.RowKit Go.RG Go.SL Go.Shelf ji
end Go.Proofs.YthbpmepjmebolaaGreatDoor.jA
end
section
namespace Go.Proofs.YthbpmepjmebolaaGreatDoor.jA
open Go.RowKit Go.RG Go.SL Go.Shelf ji
end Go.Proofs.YthbpmepjmebolaaGreatDoor.jA
namespace Go.Proofs.YthbpmepjmebolaaGreatDoor.jA
open Go.RowKit Go.RG Go.SL Go.Shelf ji
abbrev TE:=Int×Value×List Int
abbrev tev (e:TE):Value:= .agg #[iv e.1,e.2.1]
def qW (es:List TE):List Value:=es.flatMap fun e=>[iv e.1,e.2.1]
def Bi (w:World) (v:Value) (es:List TE):Prop:=aP 2 w v es.length (qW es)
theorem Bi.len {w:World} {v:Value} {es:List TE} (h:Bi w v es):es.length<=9223372036854775807:=aP.len h
theorem Bi.open {w:World} {v:Value} {es:List TE} (h:Bi w v es): ∃o c,v= .slice o es.length c:=aP.open h
theorem Bi.cell {w:World} {o:Option Addr} {c:Nat} {es:List TE} (h:Bi w (.slice o es.length c) es) {k:Nat} (hk:k<es.length):
 ∃b off,o=some ⟨b,off,none⟩/\b<w.heap.size/\w.cell? ⟨b,off+k*2,none⟩=some (iv es[k].1)/\w.cell? ⟨b,off+k*2+1,none⟩=some es[k].2.1:=by
 obtain⟨hl,o',c',hv,h1,h2,h3,h4⟩:=h
 cases hv
 cases o with
 |none=>have:=h3 rfl;omega
 |some a=>
  obtain⟨b,off,sp⟩:=a
  obtain⟨hs,hc⟩:=h4 _ rfl
  simp only at hs hc
  subst hs
  have h0:=hc (k*2+0) (iv es[k].1) (by unfold qW;rw[jq _ 2 (fun _=>rfl) es k 0 hk (by omega)];rfl)
  have h1:=hc (k*2+1) es[k].2.1 (by unfold qW;rw[jq _ 2 (fun _=>rfl) es k 1 hk (by omega)];rfl)
  rw[Nat.add_zero] at h0
  rw[<-Nat.add_assoc] at h1
  exact⟨b,off,rfl,dF w _ h0,h0,h1⟩
theorem ads (l:List TE) (v:Value) (aZ:Nat) (fst caps:Array Value) (p:Nat->Bool) (I:Nat->World->Prop) (w:World) (eg: ∀args w,(callFunc aZ args).run Tryz.prog w= .ok (.enter aZ args) w)
 (hsl: ∀k W,I k W->Bi W v l)
 (hcall: ∀k (hk:k<l.length) W,(∀j,j<k->p j=false)->I k W->Calls Tryz.prog aZ (fst.push (tev l[k])++caps) W (fun e W'=>e= .returned (.bool (p k))/\I (k+1) W')) (h0:I 0 w):
 Calls Tryz.prog 278 #[v,.func (.func aZ) fst caps] w (dY l.length p I (fun k=>iv k) (iv (-1))):=by
 have hlen:=(hsl 0 w h0).len
 obtain⟨o,c,rfl⟩:=(hsl 0 w h0).open
 have HC:=ae hcall
 have HS:=ae hsl
 clear hcall hsl
 go_enter Tryz.func278,Tryz.ntmps278
 go_wp2
 go_loopw [4,5,8] (fun _ _ i wr=> ∃k:Nat,k<=l.length/\i= .int .i64 k/\(∀j,j<k->p j=false)/\I k wr) (fun _ _ i _=>l.length-(intOf i).toNat)
 case atStart=>exact⟨0,bW _,rfl,fun j hj=>by omega,h0⟩
 case round=>
  obtain⟨k,hk,rfl,hno,hI⟩:=hrel
  by_cases hlt:k<l.length
  ·obtain⟨b,off,rfl,hb,hc0,hc1⟩:=Bi.cell (HS.o k wr hI) hlt
   have hC:=HC.o k hlt wr hno hI
   have HN:=ae hno
   clear hno
   go_wp2_with fail
   refine hC.mono ?_
   rintro e W1 ⟨rfl,hI1⟩
   have HI:=ae hI1
   clear hI1 hI hC
   cases hp:p k
   ·go_wp2_with fail
    go_roundw
    case rel=>exact⟨k+1,by omega,by go_num,fun j hj=>(by by_cases e:j=k;(subst e;exact hp);exact HN.o j (by omega)),HI.o⟩
    case measure=>simp[intOf];omega
   ·go_wp2_with fail
    go_returns
    exact⟨k,by omega,HN.o,.inl ⟨hlt,hp,by simp,HI.o⟩⟩
  ·have hkl:k=l.length:=by omega
   have HN:=ae hno
   clear hno
   go_wp2_with fail
   go_returns
   exact⟨k,by omega,HN.o,.inr ⟨hkl,by simp,by subst hkl;exact hI⟩⟩
theorem ZQ (l:List TE) (v:Value) (aZ:Nat) (fst caps:Array Value) (p:Nat->Bool) (I:Nat->World->Prop) (w:World) (eg: ∀args w,(callFunc aZ args).run Tryz.prog w= .ok (.enter aZ args) w)
 (hsl: ∀k W,I k W->Bi W v l)
 (hcall: ∀k (hk:k<l.length) W,(∀j,j<k->p j=false)->I k W->Calls Tryz.prog aZ (fst.push (tev l[k])++caps) W (fun e W'=>e= .returned (.bool (p k))/\I (k+1) W')) (h0:I 0 w):
 Calls Tryz.prog 239 #[v,.func (.func aZ) fst caps] w (dY l.length p I (fun _=> .bool true) (.bool false)):=by
 have HI:=ae (ads l v aZ fst caps p I w eg hsl hcall h0)
 have hlen:=(hsl 0 w h0).len
 clear hsl hcall h0 eg
 go_enter Tryz.func239,Tryz.ntmps239
 go_wp2_with fail
 refine HI.o.mono ?_
 clear HI
 rintro e W' ⟨k,hk,hno,⟨hlt,hp,rfl,hI⟩|⟨hkl,rfl,hI⟩⟩
 ·have HN:=ae (ag hno (ag hp hI))
  clear hno hp hI
  go_wp2_with fail
  go_returns
  exact⟨k,hk,HN.o.1,.inl ⟨hlt,HN.o.2.1,by simp,HN.o.2.2⟩⟩
 ·have HN:=ae (ag hno (ag hkl hI))
  clear hno hkl hI
  go_wp2_with fail
  go_returns
  exact⟨k,hk,HN.o.1,.inr ⟨HN.o.2.1,by simp,HN.o.2.1▸HN.o.2.2⟩⟩
theorem aab (x:TE) (bx aZ:Nat) (fst caps:Array Value) (b:Bool) (W:World) (R:World->Prop) (eg: ∀args w,(callFunc aZ args).run Tryz.prog w= .ok (.enter aZ args) w)
 (hbx:W.cell? ⟨bx,0,none⟩=some (.func (.func aZ) fst caps))
 (hcall:Calls Tryz.prog aZ (fst.push (tev x)++caps) (W.alloc (.cells #[iv x.1,x.2.1] 163)) (fun e W'=>e= .returned (.bool b)/\R W')):
 Calls Tryz.prog 240 #[tev x,.pointer (some ⟨bx,0,none⟩)] W (fun e W'=>e= .returned (.bool !b)/\R W'):=by
 have hlt:=dF W _ hbx
 have HC:=ae hcall
 clear hcall
 go_enter Tryz.func240,Tryz.ntmps240
 go_wp2_with fail
 refine HC.o.mono ?_
 rintro e W' ⟨rfl,hR⟩
 have HR:=ae hR
 clear hR
 go_wp2_with fail
 go_returns
 exact⟨by simp,HR.o⟩
theorem allT (l:List TE) (v:Value) (aZ:Nat) (fst caps:Array Value) (p:Nat->Bool) (I:Nat->World->Prop) (w:World) (eg: ∀args w,(callFunc aZ args).run Tryz.prog w= .ok (.enter aZ args) w)
 (hsl: ∀k W,I k W->Bi W v l) (hal: ∀k W o,I k W->I k (W.alloc o))
 (hcall: ∀k (hk:k<l.length) W,(∀j,j<k->p j=true)->I k W->Calls Tryz.prog aZ (fst.push (tev l[k])++caps) W (fun e W'=>e= .returned (.bool (p k))/\I (k+1) W'/\jh w.heap.size W W')) (h0:I 0 w):
 Calls Tryz.prog 166 #[v,.func (.func aZ) fst caps] w (dY l.length (fun k=>!p k) I (fun _=> .bool false) (.bool true)):=by
 have HI:=ae (ZQ l v 240 #[] #[.pointer (some ⟨w.heap.size,0,none⟩)] (fun k=>!p k)
  (fun k W=>I k W/\W.heap[w.heap.size]? =some (.cells #[.func (.func aZ) fst caps] 227 (0,0))) (w.alloc (.cells #[.func (.func aZ) fst caps] 227))
  (enters_of Tryz.func240 (by kernel_rfl) rfl) (fun k W h=>hsl k W h.1)
  (fun k hk W hno h=>by
    have hlt:w.heap.size<W.heap.size:=(aT.1 h.2).1
    refine(aab l[k] w.heap.size aZ fst caps (p k) W (fun W'=>I (k+1) W'/\W'.heap[w.heap.size]? =some (.cells #[.func (.func aZ) fst caps] 227 (0,0))) eg (aA h.2) ?_)
    refine(hcall k hk _ (fun j hj=>by simpa using hno j hj) (by first|exact hal _ _ _ h.1|exact h.1)).mono ?_
    rintro e W' ⟨rfl,h1,h2⟩
    refine⟨rfl,h1,(h2.block _ (ai _) (by first|exact hlt|(simp;omega))).trans (by first|exact h.2|exact(aW _ _ _ hlt).trans h.2)⟩)
  ⟨hal _ _ _ h0,heap_alloc_new w _⟩)
 have hlen:=(hsl 0 w h0).len
 clear hsl hcall h0 eg hal
 go_enter Tryz.func166,Tryz.ntmps166
 go_wp2_with fail
 refine HI.o.mono ?_
 clear HI
 rintro e W' ⟨k,hk,hno,⟨hlt,hp,rfl,hI,_⟩|⟨hkl,rfl,hI,_⟩⟩
 ·have HN:=ae (ag hno (ag hp hI))
  clear hno hp hI
  go_wp2_with fail
  go_returns
  exact⟨k,hk,HN.o.1,.inl ⟨hlt,HN.o.2.1,by simp,HN.o.2.2⟩⟩
 ·have HN:=ae (ag hno (ag hkl hI))
  clear hno hkl hI
  go_wp2_with fail
  go_returns
  exact⟨k,hk,HN.o.1,.inr ⟨HN.o.2.1,by simp,HN.o.2.1▸HN.o.2.2⟩⟩
theorem UT (h:bZ) (hS:Sound h) (oa ob oc:Option Addr) (na ca nb cb nc cc:Nat) (wb mb:Nat) (e:TE) (turns:List Int) (tv:Value) (bw bt:Nat) (W:World) (hb1:W.heap[bw]? =some (.cells #[.pointer (some ⟨wb,0,none⟩)] 100 (0,0))) (hb2:W.heap[bt]? =some (.cells #[tv] 36 (0,0)))
 (hwk:iM W wb mb h (.slice oa na ca) (.slice ob nb cb) (.slice oc nc cc)) (he:aN W e.2.1 e.2.2) (Jl:aN W tv turns) (hlen:e.2.2.length<=10) (h0:0<=e.1) (h1:e.1<=500) (Q5: ∀x∈e.2.2,0<=x/\x<=20):
 Calls Tryz.prog 167 #[tev e,.pointer (some ⟨bw,0,none⟩),.pointer (some ⟨bt,0,none⟩)] W (fun x W'=>x= .returned (.bool (lX h (kW h (e.1,e.2.2) turns)))/\Cache W' mb h.aY/\Ext [mb] W W'):=by
 obtain⟨ot,ct,rfl⟩:=Jl.open
 obtain⟨start,ws,bV⟩:=e
 replace he:aN W ws bV:=he
 simp only at hlen h0 h1 Q5
 obtain⟨ows,cws,rfl⟩:=aP.open he
 have hl0:=hS.Jf
 have hl9:=hS.Ar
 have c1:=aA hb1
 have c2:=aA hb2
 have s1:=dF W _ c1
 have s2:=dF W _ c2
 have c3:=hwk.cell
 have s3:=hwk.lt
 have hn1:=BL hwk.cache hb1
 have hn2:=BL hwk.cache hb2
 have hn3:=BL hwk.cache hwk.cells
 have hmb:=hwk.cache.lt
 obtain⟨ys,hy⟩: ∃ys,kW h (start,bV) turns=ys:=⟨_,rfl⟩
 have FO:ys.length=10:=by rw[<-hy];exact kN _ _ _ _ _ _
 have hpl:=fun(W':World) (hb:Below W.heap.size W W')=>xu h _ _ _ wb mb start bV turns _ _ W' (hwk.below hb (ai _)) (he.below hb (ai _)) (Jl.below hb (ai _)) hlen hS.MG hS.MF hS.Ou hS.Ot h0 h1 Q5
 obtain⟨q,hq⟩: ∃q,lX h ys=q:=⟨_,rfl⟩
 have hk:=fun(W':World)=>NP h oa ob oc na ca nb cb nc cc ys FO W' hl0 hl9
 show Calls Tryz.prog 167 #[.agg #[iv start,.slice ows bV.length cws],.pointer (some ⟨bw,0,none⟩),.pointer (some ⟨bt,0,none⟩)] W (fun x W'=>x= .returned (.bool (lX h (kW h (start,bV) turns)))/\Cache W' mb h.aY/\Ext [mb] W W')
 rw[hy] at hpl⊢
 rw[hq] at hk⊢
 have HPL:=ae hpl
 have HK:=ae hk
 clear hpl hk hb1 hb2 hwk he Jl Q5 hy hq hS
 go_enter Tryz.func167,Tryz.ntmps167
 go_wp2_with fail
 obtain⟨W1,hW1⟩: ∃W1,W.alloc (.cells #[iv start,.slice ows bV.length cws] 163)=W1:=⟨_,rfl⟩
 have hB1:Below W.heap.size W W1:=by rw[<-hW1];exact aj (aG _ _) _
 obtain⟨hc,hf⟩:=bK hB1
 have hz1:W1.heap.size=W.heap.size+1:=by rw[<-hW1];simp
 have hbt:W1.heap[W.heap.size]? =some (.cells #[iv start,.slice ows bV.length cws] 163 (0,0)):=by rw[<-hW1];exact ay _ _
 have hgt: ∀i,W1.cell? ⟨W.heap.size,i,none⟩=(#[iv start,.slice ows bV.length cws]:Array Value)[i]? :=fun i=>by
  simp only[World.cell?,hbt];rfl
 have z0:W.heap.size<W1.heap.size:=by omega
 have z1:bw<W1.heap.size:=by omega
 have z2:bt<W1.heap.size:=by omega
 have z3:wb<W1.heap.size:=by omega
 have hn4: ¬W.heap.size=mb:=by omega
 rw[hW1]
 have HB1:=ae hB1
 clear hW1 hB1 hbt
 refine zg 8 [mb] (some 7) [(7,⟨fun _ v=>v= .agg (ah ys).toArray,fun _ _ W=>Cache W mb h.aY⟩)] ?_
 simp only[zt]
 repeat (refine zd ?_;simp only[zp])
 refine bF _ (by rfl) (by rfl) ⟨_,rfl⟩ (fun W5 hE hF=>?_) (fun v Wa Wb hc hE=>?_) (fun v hv=>?_)
 ·have hE':Ext [] W1 W5:=hE
  refine dn 77 #[.pointer (some ⟨wb,0,none⟩),.agg #[iv start,.slice ows bV.length cws],.slice ot turns.length ct] (by go_simp;try rfl) ?_
  refine(HPL.o W5 (bg HB1.o hE'.below)).mono ?_
  rintro e W6 ⟨rfl,hcc,hE2⟩
  exact⟨_,rfl,rfl,hcc,hE2⟩
 ·have hE':Ext [] Wa Wb:=hE
  exact Cache.kept hc (hE'.block mb (Cache.lt hc) (by simp))
 obtain rfl:v= .agg (ah ys).toArray:=hv
 simp only[zp]
 intro W5 hE hF
 have hE':Ext [mb] W1 W5:=hE
 have hcc:Cache W5 mb h.aY:=hF _ (bD _)
 have HR:=ae (ag hcc ((Ext.az HB1.o).trans hE'))
 clear hE hF hE' hcc hgt
 go_wp2_with fail
 refine(HK.o W5).mono ?_
 rintro e W6 ⟨rfl,hb6⟩
 have qo:=ae hb6
 clear hb6 hc hf
 go_wp2_with fail
 go_returns
 exact⟨by simp,HR.o.1.kept (qo.o.block mb HR.o.1.lt),HR.o.2.bel qo.o⟩
theorem Yd (h:bZ) (hS:Sound h) (a b c:Value) (wb mb:Nat) (es:List TE) (ev:Value) (turns:List Int) (tv:Value) (w:World) (hwk:iM w wb mb h a b c) (h1:bM w a h.bV) (h2:aN w b h.turns) (h3:bI w c h.readings)
 (hev:Bi w ev es) (hes: ∀e∈es,aN w e.2.1 e.2.2/\e.2.2.length<=10/\(0<=e.1/\e.1<=500)/\ ∀x∈e.2.2,0<=x/\x<=20) (Jl:aN w tv turns):
 Calls Tryz.prog 101 #[.pointer (some ⟨wb,0,none⟩),ev,tv] w (fun x w'=>x= .returned (.bool (es.all fun e=>lX h (kW h (e.1,e.2.2) turns)))/\Cache w' mb h.aY/\Ext [mb] w w'):=by
 obtain⟨oa,ca,rfl⟩:=h1.open
 obtain⟨ob,cb,rfl⟩:=h2.open
 obtain⟨oc,cc,rfl⟩:=h3.open
 obtain⟨ot,ct,rfl⟩:=Jl.open
 obtain⟨oe,ce,rfl⟩:=Bi.open hev
 have hmb:=hwk.cache.lt
 obtain⟨q,hq⟩: ∃q,(es.all fun e=>lX h (kW h (e.1,e.2.2) turns))=q:=⟨_,rfl⟩
 have hall:=fun(w2:World) (hB:Below w.heap.size w w2) (hb0:w2.heap[w.heap.size]? =some (.cells #[.pointer (some ⟨wb,0,none⟩)] 100 (0,0))) (hb1:w2.heap[w.heap.size+1]? =some (.cells #[.slice ot turns.length ct] 36 (0,0)))=>
  allT es (.slice oe es.length ce) 167 #[] #[.pointer (some ⟨w.heap.size,0,none⟩),.pointer (some ⟨w.heap.size+1,0,none⟩)] (fun k=>lX h (kW h ((es.getD k (0,undef,[])).1,(es.getD k (0,undef,[])).2.2) turns))
   (fun _ W=>(Ext [mb] w W/\Cache W mb h.aY)/\W.heap[w.heap.size]? =some (.cells #[.pointer (some ⟨wb,0,none⟩)] 100 (0,0))/\W.heap[w.heap.size+1]? =some (.cells #[.slice ot turns.length ct] 36 (0,0))) w2 (enters_of Tryz.func167 (by kernel_rfl) rfl)
   (fun k W hI=>aP.fZ hev hI.1.1 (fun x hx o=>by
     obtain rfl:x=mb:=by simpa using hx
     exact hwk.cache.mG o))
   (fun k W o hI=>⟨⟨hI.1.1.alloc o,hI.1.2.kept (aW _ _ _ hI.1.2.lt)⟩,(aW _ _ _ (aT.1 hI.2.1).1).trans hI.2.1,(aW _ _ _ (aT.1 hI.2.2).1).trans hI.2.2⟩)
   (fun k hk W _ hI=>by
     have hm: ∀x∈[mb], ∀o,w.cell? ⟨x,o,none⟩=none:=fun x hx o=>by
      obtain rfl:x=mb:=by simpa using hx
      exact hwk.cache.mG o
     obtain⟨k1,k2,k3,k4⟩:=hes es[k] (bY hk)
     have hgd:es.getD k (0,undef,[])=es[k]:=by simp[List.getD,hk]
     rw[hgd]
     refine(UT h hS oa ob oc _ _ _ _ _ _ wb mb es[k] turns (.slice ot turns.length ct) w.heap.size (w.heap.size+1) W hI.2.1 hI.2.2 (hwk.ext hI.1.1 hI.1.2) (k1.fZ hI.1.1 hm) (Jl.fZ hI.1.1 hm) k2 k3.1 k3.2 k4).mono ?_
     rintro e W' ⟨rfl,hc,hE⟩
     refine⟨rfl,⟨⟨hI.1.1.trans hE,hc⟩,(hE.block _ (aT.1 hI.2.1).1 (by simp;omega)).trans hI.2.1,(hE.block _ (aT.1 hI.2.2).1 (by simp;omega)).trans hI.2.2⟩,jh.vI hE (fun x hx=>?_)⟩
     have:=hB.size
     simp at hx
     omega)
   ⟨⟨Ext.az hB,hwk.cache.kept (hB.block mb hmb)⟩,hb0,hb1⟩
 have aeT:=ae hall
 have HQ:Hid (((List.range es.length).all fun k=>lX h (kW h ((es.getD k (0,undef,[])).1,(es.getD k (0,undef,[])).2.2) turns))=q):=ae (by rw[<-hq];exact jL es (fun e=>lX h (kW h (e.1,e.2.2) turns)) (0,undef,[]))
 rw[hq]
 have hlen:=Bi.len hev
 clear hall hq hes hev hwk h1 h2 h3 Jl
 go_enter Tryz.func101,Tryz.ntmps101
 go_wp2_with fail
 refine(aeT.o _ zl ((aW _ _ _ (by simp)).trans (ay _ _)) (dW _ _ _)).mono ?_
 intro e W' hpost
 obtain⟨rfl,k,_,hI⟩:=hpost.all
 rw[jC,HQ.o]
 have HI:=ae hI
 clear hI hpost
 go_wp2_with fail
 go_returns
 exact⟨by simp,HI.o.1.2,HI.o.1.1⟩
end Go.Proofs.YthbpmepjmebolaaGreatDoor.jA
namespace Go.Proofs.YthbpmepjmebolaaGreatDoor.jA
open Go.RowKit Go.RG Go.SL Go.Shelf ji
attribute [local go_sem] Oper.semAt_some
theorem aaT:iq Tryz.prog 191 163 (.agg #[iv 0,.slice none 0 0]) 2 32:=⟨Tryz.underlying191,by kernel_rfl,rfl,by omega⟩
def ML (h:bZ) (turns:List Int):Bool:=(dN h []).all fun t=>lX h (kW h t turns)
def VW (h:bZ):Option (List Int):=mW (h.last+1).toNat (ML h)
def zK (h:bZ):Int:=if jf h []≠0 then jf h [] else if(VW h).isSome then 0 else 10
def Ru (h:bZ):List Int:=if jf h []≠0 then[] else(VW h).getD []
structure Few (w:World) (wb:Nat) (es:List TE) (Ms:List Nat) (W:World):Prop where
 b0:W.heap[w.heap.size]? =some (.cells #[.pointer (some ⟨wb,0,none⟩)] 100 (0,0))
 out: ∃v,W.heap[w.heap.size+1]? =some (.cells #[v] 191 (0,0))/\W.ownsRow (w.heap.size+6) 163 2 v es.length (qW es)/\(∀g,v.ownBlock=some g->g∉Ms/\g<W.heap.size)/\
  ∀e∈es,W.ownsRow (w.heap.size+6) 3 1 e.2.1 e.2.2.length (ah e.2.2)/\ ∀g,e.2.1.ownBlock=some g->(g∉Ms/\g<W.heap.size)/\v.ownBlock≠some g
 b3:W.heap[w.heap.size+1+1]? =some (.cells #[.pointer (some ⟨wb,0,none⟩)] 100 (0,0))
 b4:W.heap[w.heap.size+1+1+1]? =some (.cells #[.slice none 0 0] 36 (0,0))
theorem Few.kept {w:World} {wb:Nat} {es:List TE} {Ms Ms':List Nat} {W W':World} (h:Few w wb es Ms W) (hs:W.heap.size<=W'.heap.size) (hk: ∀b,w.heap.size<=b->b<w.heap.size+4->W'.heap[b]? =W.heap[b]?)
 (ho: ∀g,w.heap.size+6<=g->g<W.heap.size->g∉Ms->W'.heap[g]? =W.heap[g]?) (hM: ∀m∈Ms',m∈Ms∨(W.heap.size<=m/\m<W'.heap.size)):Few w wb es Ms' W':=by
 obtain⟨v,h1,h2,h3,h4⟩:=h.out
 have hnM: ∀g,(g∉Ms/\g<W.heap.size)->g∉Ms'/\g<W'.heap.size:=fun g ⟨hg1,hg2⟩=>⟨fun hm=>by
  rcases hM g hm with h5|h5
  ·exact hg1 h5
  ·omega,by omega⟩
 refine⟨(hk _ (by omega) (by omega)).trans h.b0,⟨v,(hk _ (by omega) (by omega)).trans h1,dI h2 fun g hg=>ho g (bG h2 g hg).1 (bG h2 g hg).2 (h3 g hg).1,fun g hg=>hnM g (h3 g hg),fun e he=>?_⟩,
  (hk _ (by omega) (by omega)).trans h.b3,(hk _ (by omega) (by omega)).trans h.b4⟩
 obtain⟨k1,k2⟩:=h4 e he
 exact⟨dI k1 fun g hg=>ho g (bG k1 g hg).1 (bG k1 g hg).2 (k2 g hg).1.1,fun g hg=>⟨hnM g (k2 g hg).1,(k2 g hg).2⟩⟩
theorem ZE {w W7 W8 W9:World} {wb mb:Nat} {aY:Int} {v v':Value} {es:List TE} {e:TE} {Os Ms:List Nat} (hF:Fr w mb aY Os Ms W7) (hP:Few w wb es Ms W7)
 (hv1:W7.heap[w.heap.size+1]? =some (.cells #[v] 191 (0,0))) (hv3: ∀g,v.ownBlock=some g->(w.heap.size+6<=g/\g<W7.heap.size)/\g∉Ms)
 (hE:Ext [] W7 W8) (hG:W8.grownBy W9 v.ownBlock) (hN:v'.ownBlock=v.ownBlock∨v'.ownBlock=some W8.heap.size) (hO:W9.ownsRow (w.heap.size+6) 163 2 v' (es.length+1) (qW es++[iv e.1,e.2.1]))
 (hC:W8.ownsRow W7.heap.size 3 1 e.2.1 e.2.2.length (ah e.2.2)) (hmb:mb<w.heap.size) (hs:w.heap.size+6<=W7.heap.size):
 (Fr w mb aY Os Ms (W9.setCell ⟨w.heap.size+1,0,none⟩ v')/\Few w wb (es++[e]) Ms (W9.setCell ⟨w.heap.size+1,0,none⟩ v'))/\
   (∀b,b<W7.heap.size->v.ownBlock≠some b->b≠w.heap.size+1->(W9.setCell ⟨w.heap.size+1,0,none⟩ v').heap[b]? =W7.heap[b]?)/\W7.heap.size<=(W9.setCell ⟨w.heap.size+1,0,none⟩ v').heap.size:=by
 have h1:=hE.size
 have h2:=hG.size
 have hk: ∀b,b<W7.heap.size->v.ownBlock≠some b->W9.heap[b]? =W7.heap[b]? :=fun b hb hn=>
  (hG.block b (by omega) (fun e=>hn e.symm)).trans (hE.block b hb (by simp))
 have hks: ∀b,b<W7.heap.size->v.ownBlock≠some b->b≠w.heap.size+1->(W9.setCell ⟨w.heap.size+1,0,none⟩ v').heap[b]? =W7.heap[b]? :=fun b hb hn hne=>
  (dB _ _ _ _ hne).trans (hk b hb hn)
 have hlow: ∀b,b<w.heap.size+6->v.ownBlock≠some b:=fun b hb e=>by have:=(hv3 b e).1.1;omega
 have hsz:W7.heap.size<=(W9.setCell ⟨w.heap.size+1,0,none⟩ v').heap.size:=by simp[World.setCell];omega
 have hb:=bG hO
 have hcb:=bG hC
 have afY: ∀g,v'.ownBlock=some g->g∉Ms/\g<W9.heap.size:=fun g hg=>⟨fun hm=>by
  rcases hN with hN|hN
  ·exact(hv3 g (by rw[<-hN,hg])).2 hm
  ·rw[hg] at hN
   injection hN with hN
   have:=hF.bnd g hm
   omega,(hb g hg).2⟩
 refine⟨⟨hF.own ⟨hG.os.trans (hE.os.trans hF.ext.os),hG.tape.trans (hE.tape.trans hF.ext.tape),hG.output.trans (hE.output.trans hF.ext.output),by have:=hF.ext.size;omega,fun k hk' hm=>(hks k (by have:=hF.ext.size;omega) (hlow k (by omega)) (by omega)).trans (hF.ext.block k hk' hm)⟩ hsz (hF.cache.kept (hks mb (by omega) (hlow mb (by omega)) (by omega))),?_⟩,hks,hsz⟩
 obtain⟨vv,q1,q2,q3,q4⟩:=hP.out
 have hvv:vv=v:=by
  rw[hv1] at q1
  simpa using q1.symm
 subst hvv
 refine⟨(hks _ (by omega) (hlow _ (by omega)) (by omega)).trans hP.b0,⟨v',?_,?_,fun g hg=>⟨(afY g hg).1,by have:=(afY g hg).2;simpa [World.setCell] using this⟩,fun x hx=>?_⟩,(hks _ (by omega) (hlow _ (by omega)) (by omega)).trans hP.b3,(hks _ (by omega) (hlow _ (by omega)) (by omega)).trans hP.b4⟩
 ·exact aI ((hk _ (by omega) (hlow _ (by omega))).trans hv1) _
 ·rw[dm]
  have:qW (es++[e])=qW es++[iv e.1,e.2.1]:=by simp[qW]
  rw[this]
  exact dI hO fun g hg=>dB _ _ _ _ (by have:=(hb g hg).1;show g≠w.heap.size+1;omega)
 ·rcases iK.1 hx with hx|hx
  ·obtain⟨k1,k2⟩:=q4 x hx
   have kb:=bG k1
   refine⟨dI k1 fun g hg=>hks g (kb g hg).2 (k2 g hg).2 (by have:=(kb g hg).1;omega),fun g hg=>⟨⟨(k2 g hg).1.1,by have:=(kb g hg).2;omega⟩,fun e1=>?_⟩⟩
   rcases hN with hN|hN
   ·exact(k2 g hg).2 (by rw[<-hN,e1])
   ·rw[e1] at hN
    injection hN with hN
    have:=(kb g hg).2
    omega
  ·obtain rfl:x=e:=by simpa using hx
   refine⟨cu (dI hC fun g hg=>(dB _ _ _ _ (by have:=(hcb g hg).1;show g≠w.heap.size+1;omega)).trans (hG.block g (hcb g hg).2 (fun e1=>by have:=(hv3 g e1.symm).1.2;have:=(hcb g hg).1;omega))) (by omega),fun g hg=>⟨⟨fun hm=>?_,?_⟩,fun e1=>?_⟩⟩
   ·have:=hF.bnd g hm;have:=(hcb g hg).1;omega
   ·have:=(hcb g hg).2;simp[World.setCell];omega
   ·rcases hN with hN|hN
    ·have:=(hv3 g (by rw[<-hN,e1])).1.2;have:=(hcb g hg).1;omega
    ·rw[e1] at hN
     injection hN with hN
     have:=(hcb g hg).2;omega
end Go.Proofs.YthbpmepjmebolaaGreatDoor.jA
namespace Go.Proofs.YthbpmepjmebolaaGreatDoor.jA
open Go.RowKit Go.RG Go.SL Go.Shelf ji
attribute [local go_sem] Oper.semAt_some
theorem Oc (h:bZ) (hS:Sound h) (a b c:Value) (wb mb:Nat) (es:List TE) (o:Option Addr) (cp:Nat) (turns:List Int) (tv:Value) (bw bt:Nat) (W:World) (hb1:W.heap[bw]? =some (.cells #[.pointer (some ⟨wb,0,none⟩)] 100 (0,0))) (hb2:W.heap[bt]? =some (.cells #[.slice o es.length cp] 191 (0,0)))
 (hwk:iM W wb mb h a b c) (h1:bM W a h.bV) (h2:aN W b h.turns) (h3:bI W c h.readings) (hev:Bi W (.slice o es.length cp) es)
 (hes: ∀e∈es,aN W e.2.1 e.2.2/\e.2.2.length<=10/\(0<=e.1/\e.1<=500)/\ ∀x∈e.2.2,0<=x/\x<=20) (Jl:aN W tv turns):
 Calls Tryz.prog 100 #[tv,.pointer (some ⟨bw,0,none⟩),.pointer (some ⟨bt,0,none⟩)] W (fun x w'=>x= .returned (.bool (es.all fun e=>lX h (kW h (e.1,e.2.2) turns)))/\Cache w' mb h.aY/\Ext [mb] W w'):=by
 have HSF:=ae (Yd h hS a b c wb mb es (.slice o es.length cp) turns tv W hwk h1 h2 h3 hev hes Jl)
 have c1:=aA hb1
 have c2:=aA hb2
 have s1:=dF W _ c1
 have s2:=dF W _ c2
 obtain⟨ot,ct,rfl⟩:=Jl.open
 generalize (es.all fun e=>lX h (kW h (e.1,e.2.2) turns))=q at*
 clear hb1 hb2 hwk h1 h2 h3 hev hes Jl
 go_enter Tryz.func100,Tryz.ntmps100
 go_wp2_with fail
 refine HSF.o.mono ?_
 rintro e W' ⟨rfl,hc,hE⟩
 have HR:=ae (ag hc hE)
 clear hc hE
 go_wp2_with fail
 go_returns
 exact⟨by simp,HR.o⟩
theorem TC (h:bZ) (wv tv uA:Value) (w:World) (hw:bM w wv h.bV) (ht:aN w tv h.turns) (hx:bI w uA h.readings):
 Calls Tryz.prog 56 #[hv h wv tv uA] w (fun e w'=> ∃v,e= .returned (.tuple #[v,iv (zK h)])/\aN w' v (Ru h)/\Below w.heap.size w w'):=by
 obtain⟨ow,cw,rfl⟩:=hw.open
 obtain⟨ot,ct,rfl⟩:=ht.open
 obtain⟨ox,cx,rfl⟩:=hx.open
 have HW:=ae hw
 have HT:=ae ht
 have HX:=ae hx
 clear hw ht hx
 obtain⟨E,hE⟩: ∃E,zK h=E:=⟨_,rfl⟩
 obtain⟨L,hL⟩: ∃L,Ru h=L:=⟨_,rfl⟩
 rw[hE,hL]
 have HE:=ae hE
 have HL:=ae hL
 clear hE hL
 refine(callsIn_wide (n:=0)).1 ?_
 refine callsIn_of_wp_marks Tryz.func56 rfl trivial ?_
 simp only[Tryz.ntmps56,List.size_toArray,List.length_cons,List.length_nil,Nat.reduceAdd,Nat.reduceSub,Array.replicate_succ,Array.replicate_zero,kZ,lg,List.nil_append,List.cons_append]
 gi_wp2_with fail
 refine(callsIn_wide.2 (vg h _ _ _ _ [] _ (HW.out.alloc _) (HT.out.alloc _) (HX.out.alloc _) (qA _))).mono ?_
 rintro e w1 ⟨hb,⟨hne,rfl⟩|⟨h0,wb,mb,rfl,hwb,hmb,hwk⟩⟩
 ·have he:E=jf h []:=by rw[<-HE.out];unfold zK;rw[aC hne]
  have hl:L=[]:=by rw[<-HL.out];unfold Ru;rw[aC hne]
  subst hl
  obtain⟨E',hE'⟩: ∃E',jf h []=E':=⟨_,rfl⟩
  rw[hE'] at hne he⊢
  subst he
  have HB:=ae hb
  clear hb
  gi_wp2_with fail
  refine⟨.tuple #[.slice none 0 0,iv E],by simp[results,Tryz.results56,go_sem],?_⟩
  exact⟨.slice none 0 0,by simp,qA _,aj (bg (aj (aG _ _) _) HB.out) _⟩
 ·have hS:=rG h0
  have VF:w.heap.size+1<=mb:=by simpa using hmb
  have hb0:w1.heap[w.heap.size]? =some (.cells #[.int .i64 h.last,.int .i64 h.size,.int .i64 h.aY,.int .i64 h.die,.int .i64 h.tY,.int .i64 h.start.1,.int .i64 h.start.2,.slice ow h.bV.length cw,.slice ot h.turns.length ct,.slice ox h.readings.length cx] 39 (0,0)):=(hb.block _ (by simp)).trans (ay _ _)
  have hbw:Below w.heap.size w w1:=bg (aj (aG _ _) _) hb
  have H1:=ae (HW.out.below hbw (ai _))
  have H2:=ae (HT.out.below hbw (ai _))
  have H3:=ae (HX.out.below hbw (ai _))
  have HBW:=ae hbw
  have HB0:=ae hb0
  have Ep:=ae hwk
  have oH:=ae hS
  have hw0:=(aT.1 hb0).1
  have FU:=hwk.cache.lt
  have Uy:Hid (E=(if(VW h).isSome then 0 else 10)/\L=(VW h).getD []):=ae ⟨by rw[<-HE.out];unfold zK;rw[ak (by rw[h0];simp)],by rw[<-HL.out];unfold Ru;rw[ak (by rw[h0];simp)]⟩
  clear hb hwk h0 hS hb0 hbw hwb hmb
  gi_wp2_with fail
  refine(callsIn_wide.2 (zi wb _ _ _ _)).mono ?_
  rintro e w1' ⟨rfl,rfl⟩
  gi_wp2_with fail
  obtain⟨w2,hw2⟩: ∃w2,((((w1.alloc (.cells #[.pointer (some ⟨wb,0,none⟩)] 100)).alloc (.cells #[.slice none 0 0] 191)).alloc (.cells #[.pointer (some ⟨wb,0,none⟩)] 100)).alloc (.cells #[.slice none 0 0] 36))=w2:=⟨_,rfl⟩
  have hB2:Below w1.heap.size w1 w2:=by rw[<-hw2];exact zl
  have hsz2:w2.heap.size=w1.heap.size+4:=by rw[<-hw2];simp
  have hP2:Few w1 wb [] [mb] w2:=by
   rw[<-hw2]
   have n3:=ay (((w1.alloc (.cells #[.pointer (some ⟨wb,0,none⟩)] 100)).alloc (.cells #[.slice none 0 0] 191)).alloc (.cells #[.pointer (some ⟨wb,0,none⟩)] 100)) (.cells #[.slice none 0 0] 36)
   simp only[bz] at n3
   refine⟨?_,⟨.slice none 0 0,?_,⟨rfl,.inl ⟨rfl,rfl⟩⟩,(fun g hg=>by cases hg),(fun e he=>by cases he)⟩,?_,n3⟩
   ·exact(aW _ _ _ (by first|omega|(simp;done)|(simp;omega))).trans ((aW _ _ _ (by first|omega|(simp;done)|(simp;omega))).trans ((aW _ _ _ (by first|omega|(simp;done)|(simp;omega))).trans (ay _ _)))
   ·exact(aW _ _ _ (by first|omega|(simp;done)|(simp;omega))).trans ((aW _ _ _ (by first|omega|(simp;done)|(simp;omega))).trans (dW _ _ _))
   ·exact(aW _ _ _ (by first|omega|(simp;done)|(simp;omega))).trans (gZ _ _ _ _)
  rw[hw2]
  clear hw2
  refine mi (zh h oH.out (.slice ow h.bV.length cw) (.slice ot h.turns.length ct) (.slice ox h.readings.length cx) (.slice none 0 0) [] wb mb (w1.heap.size+1+1) (w1.heap.size+1+1+1)) rfl (enters_of Tryz.func133 (by kernel_rfl) rfl) rfl (by simp;omega)
   (fun Ms k W=>Fr w1 mb h.aY [w1.heap.size,w1.heap.size+1,w1.heap.size+2,w1.heap.size+3,w1.heap.size+4,w1.heap.size+5] Ms W/\ ∃es:List TE,es.map (fun e=>(e.1,e.2.2))=(dN h []).take k/\Few w1 wb es Ms W)
   (fun _ _ _=>False)
   ?hInv ?sK ?hI ?hIx ?PD ?xK ?h0
   (fun a Ms k W1 a₁ W=> ∃(t:Int×List Int) (ob bt:Nat),(dN h [])[k]? =some t/\a₁={tmps:=(a.tmps.setIfInBounds 20 (.agg #[iv t.1,.slice (some ⟨ob,1,none⟩) t.2.length t.2.length])).setIfInBounds 7 (.pointer (some ⟨bt,0,none⟩)),defers:=[]}/\
     (Fr w1 mb h.aY [w1.heap.size,w1.heap.size+1,w1.heap.size+2,w1.heap.size+3,w1.heap.size+4,w1.heap.size+5] Ms W/\ ∃es:List TE,es.map (fun e=>(e.1,e.2.2))=(dN h []).take k/\Few w1 wb es Ms W)/\
     (W.heap[bt]? =some (.cells #[iv t.1,.slice (some ⟨ob,1,none⟩) t.2.length t.2.length] 163 (0,0))/\(w1.heap.size+6<=bt/\ob∈Ms/\ob≠mb)/\aN W (.slice (some ⟨ob,1,none⟩) t.2.length t.2.length) t.2)/\(∀m∈Ms,m∉[mb]->m<W1.heap.size->W.heap[m]? =W1.heap[m]?)/\W1.heap.size<=W.heap.size)
   ?Rn ?hassign ?hbody ?hdone ?hstop
  case hInv=>rintro Ms k W ⟨hF,es,hes,hP⟩;exact hF.aaO Ep.out H1.out H2.out H3.out (qA w1) hP.b3 hP.b4
  case sK=>rintro cd Ms W h;exact h.elim
  case hI=>
   rintro Ms Ms' k Wa Wb ⟨hF,es,hes,hP⟩ hE hMs hc
   exact⟨(hF.iQ hE hMs hc).1,es,hes,hP.kept hE.size (fun b h1 h2=>(hF.iQ hE hMs hc).2 b (by simp;omega)) (fun g h1 h2 h3=>hE.block g h2 h3) hMs⟩
  case hIx=>rintro cd Ms Ms' Wa Wb h;exact h.elim
  case PD=>
   rintro Ms k W r o ⟨hF,es,hes,hP⟩ hr
   exact⟨hF.put o (by omega) FU,es,hes,hP.kept (by simp) (fun b h1 h2=>World.putObj_heap_other (by omega)) (fun g h1 h2 h3=>World.putObj_heap_other (by omega)) (fun m hm=> .inl hm)⟩
  case xK=>rintro cd Ms W r o h;exact h.elim
  case h0=>
   intro o o'
   have hB:Below w1.heap.size w1 ((w2.alloc o).alloc o'):=aj (aj hB2 _) _
   exact⟨⟨Ext.az hB,fun m hm=> .inl (by simpa using hm),fun m hm=>(by have:=hB.size;simp at hm;omega),fun b hb=>⟨by simp at hb⊢;omega,by simp at hb⊢;omega⟩,Ep.out.cache.kept (hB.block mb FU)⟩,
    [],by simp,hP2.kept (by simp;omega) (fun b h1 h2=>(aW _ _ _ (by simp;omega)).trans (aW _ _ _ (by omega))) (fun g h1 h2 h3=>by omega) (fun m hm=> .inl hm)⟩
  case Rn=>
   rintro Ms k W1 a₁ W o ⟨t,ob,bt,ht,ha,⟨hF,es,hes,hP⟩,⟨hbt,⟨hb7,hob,hne⟩,hsl⟩,hk,hs⟩
   have hap:=(hF.apart (w1.heap.size+5) (by simp)).1
   refine⟨t,ob,bt,ht,ha,⟨hF.put o (by omega) FU,es,hes,hP.kept (by simp) (fun b h1 h2=>World.putObj_heap_other (by omega)) (fun g h1 h2 h3=>World.putObj_heap_other (by omega)) (fun m hm=> .inl hm)⟩,
    ⟨(World.putObj_heap_other (by omega)).trans hbt,⟨hb7,hob,hne⟩,hsl.kept fun b off n c hv _=>by cases hv;exact World.putObj_heap_other (fun e=>hap (by rw[show w1.heap.size+5=ob by omega];exact hob))⟩,
    fun m hm h0 hml=>(World.putObj_heap_other (fun e=>hap (by rw[show w1.heap.size+5=m by omega];exact hm))).trans (hk m hm h0 hml),by simpa using hs⟩
  case hassign=>
   rintro Ms k v W hk ⟨hF,es,hes,hP⟩ ⟨ob,rfl,hsl,hob,hne⟩ hlt
   generalize ht:(dN h [])[k]=t at*
   have htk:(dN h [])[k]? =some t:=by rw[dG hk,ht]
   gi_wp2
   have hB:Below W.heap.size W (W.alloc (.cells #[iv t.1,.slice (some ⟨ob,1,none⟩) t.2.length t.2.length] 163)):=aj (aG _ _) _
   have hc:=hF.cache.kept (hB.block mb hF.cache.lt)
   exact⟨⟨t,ob,W.heap.size,htk,rfl,⟨(hF.iQ (Ext.az hB) (fun m hm=> .inl hm) hc).1,es,hes,hP.kept (by simp) (fun b h1 h2=>aW _ _ _ (by omega)) (fun g h1 h2 h3=>aW _ _ _ (by omega)) (fun m hm=> .inl hm)⟩,
    ⟨ay _ _,⟨by omega,hob,hne⟩,hsl.alloc _⟩,fun m hm h0 hml=>aW _ _ _ (by omega),by simp⟩,aW _ _ _ (by omega),aW _ _ _ (by omega)⟩
  case hbody=>
   rintro Ms k W1 a₁ W busy hk ⟨t,ob,bt,ht,rfl,⟨hF,es,hes,hP⟩,⟨hbt,⟨hb7,hob,hne⟩,hsl⟩,hkeep,hsz⟩ hrec hD
   simp only[sW,List.set_cons_succ,List.set_cons_zero]
   obtain⟨v,hv1,hv2,hv3,hv4⟩:=hP.out
   obtain⟨vo,vc,rfl⟩:=aV hv2
   have htm:t∈dN h []:=mO ht
   obtain⟨hl2,hs0,hrest⟩:=Aa oH.out htm
   have hlast:=oH.out.Ar
   have hwl:=oH.out.Ey
   have hlk:es.length<=2000:=by
    have h5:=congrArg List.length hes
    rw[lU,gK] at h5
    have:=wZ oH.out []
    omega
   have d1:=aA hv1
   have d2:=bn hv1 0
   have d3:=dF W _ d1
   have kt:=(aT.1 hbt).1
   have hg: ∀i,W.cell? ⟨bt,i,none⟩=(#[iv t.1,.slice (some ⟨ob,1,none⟩) t.2.length t.2.length]:Array Value)[i]? :=fun i=>by
    simp only[World.cell?,hbt];rfl
   have hw6:w1.heap.size+6<=W.heap.size:=by omega
   have htl:t.2.length<=10:=by omega
   clear hl2
   have HT2:=ae (ag ht hk)
   have HF:=ae hF
   have HP:=ae hP
   have HES:=ae hes
   have HSL:=ae hsl
   have HV:=ae (ag hv1 (ag hv2 hv3))
   have HK:=ae (ag hkeep (ag hrec hD))
   clear hF hP hkeep hrec hD hbt hsl ht hrest htm hes hv1 hv2 hv3 hv4
   gi_wp2_with fail
   refine dM 8 [] none [(5,⟨fun _ v=> ∃o c,v= .slice o t.2.length c,fun _ v Wx=>Wx.ownsRow W.heap.size 3 1 v t.2.length (ah t.2)⟩),(7,⟨fun _ v=> ∃b:Nat,v= .slice (some ⟨b,0,none⟩) 1 1,fun xs v Wx=> ∃(b:Nat) (x:Value),xs=[.agg #[iv t.1,x]]/\v= .slice (some ⟨b,0,none⟩) 1 1/\Wx.heap[b]? =some (.cells #[iv t.1,x] 163 (0,0))⟩)] (by kernel_rfl) (by kernel_rfl) (by kernel_rfl) ?_
   simp only[zt]
   repeat (refine zd ?_;simp only[zp])
   refine bF _ (by rfl) (by rfl) (by exact⟨.slice none t.2.length 0,none,0,rfl⟩) (fun W5 hE hF=>?_) (fun v Wa Wb ho hE=>aB (Ms:=[]) ho hE (by simp)) (fun v hv=>?_)
   ·have hE':Ext [] W W5:=hE
    refine dn 98 #[.slice (some ⟨ob,1,none⟩) t.2.length t.2.length] (by go_simp;try rfl) ?_
    refine(clone_any t.2 _ W5 (HSL.out.below hE'.below (ai _)) (by omega)).mono ?_
    rintro e W6 ⟨v,rfl,ho,hb⟩
    exact⟨v,rfl,aV ho,cu ho hE'.size,Ext.az hb⟩
   obtain⟨o5,c5,rfl⟩:=hv
   simp only[zp]
   repeat (refine zd ?_;simp only[zp])
   refine bF _ (by rfl) (by rfl) (by exact⟨.slice (some ⟨0,0,none⟩) 1 1,0,rfl⟩) (fun W5 hE hF=>?_) (fun v Wa Wb ho hE=>?_) (fun v hv=>?_)
   ·refine iU (W':=W5.alloc (.cells #[iv t.1,.slice o5 t.2.length c5] 163)) (.slice (some ⟨W5.heap.size,0,none⟩) 1 1) (by go_simp;try rfl) ⟨⟨_,rfl⟩,⟨_,_,rfl,rfl,heap_alloc_new _ _⟩,Ext.az ((aG _ _).alloc (ai _) _)⟩
   ·obtain⟨b,x,hx,hv,hc⟩:=ho
    exact⟨b,x,hx,hv,(hE.block b (aT.1 hc).1 (by simp)).trans hc⟩
   obtain⟨b7,rfl⟩:=hv
   simp only[zp]
   intro W8 gV VK
   have hE:Ext [] W W8:=gV
   obtain⟨b7',x7,hx7,ajP,hblk7⟩:=VK _ (bD _)
   cases ajP
   have aiW:x7= .slice o5 t.2.length c5:=by
    have h9:[Value.agg #[iv t.1,.slice o5 t.2.length c5]]=[Value.agg #[iv t.1,x7]]:=hx7
    simp at h9
    exact h9.symm
   subst aiW
   have hcl:W8.ownsRow W.heap.size 3 1 (.slice o5 t.2.length c5) t.2.length (ah t.2):=VK _ (ng _ (bD _))
   obtain⟨hc,hf⟩:=bK hE.below
   have hz8:=hE.size
   have Dk:=aB (Ms:=[]) HV.out.2.1 hE (by simp)
   have iP:=ae hE
   have HOW:=ae Dk
   have HCL:=ae hcl
   have yZ:=ae hblk7
   clear hE gV VK Dk hcl hblk7 hx7 hg
   gi_wp2_with (gi_at_builtin;go_loud (refine qE (fun _=>trivial) rfl uw rfl _ _ aaT rfl (w1.heap.size+6) (.slice vo es.length vc) es.length (qW es) rfl HOW.out (.slice (some ⟨b7,0,none⟩) 1 1) 1 [iv t.1,.slice o5 t.2.length c5] rfl (aP.cZ 2 1 yZ.out rfl (by decide)) (by intro u hu;simp at hu;rcases hu with rfl|rfl <;>rfl) (by omega) (by omega) (by omega) ?_))
   intro v' W9 hown hgr hown'
   obtain⟨o9,c9,rfl⟩:=aV hown
   have wC:=ae hown
   have HG9:=ae hgr
   have HN9:=ae hown'
   have Pz:=bG HV.out.2.1
   have pO: ∀b,b<w1.heap.size+6->b<W.heap.size->W9.heap[b]? =W.heap[b]? :=fun b hb hb7=>
    (hgr.block b (by omega) (fun e=>by have:=Pz b e.symm;omega)).trans (iP.out.block b hb7 (by simp))
   have NS:W8.heap.size<=W9.heap.size:=hgr.size
   have e1:W9.cell? ⟨w1.heap.size+1,0,none⟩=some (.slice vo es.length vc):=aA ((pO _ (by omega) d3).trans HV.out.1)
   have e2:W9.frozen? ⟨w1.heap.size+1,0,none⟩=false:=bn ((pO _ (by omega) d3).trans HV.out.1) 0
   have e3:=dF W9 _ e1
   clear hown hgr hown' pO hc hf
   gi_wp2_with fail
   obtain⟨⟨hF9,hP9⟩,hks,Q7⟩:=ZE (e:=(t.1,.slice o5 t.2.length c5,t.2)) HF.out HP.out HV.out.1 (fun g hg=>⟨Pz g hg,(HV.out.2.2 g hg).1⟩) iP.out HG9.out HN9.out wC.out HCL.out FU hw6
   have hap:=HF.out.apart
   refine⟨⟨?_,?_,fun m hm h0 hml=>?_,by omega⟩,hF9,es++[(t.1,.slice o5 t.2.length c5,t.2)],?_,hP9⟩
   ·refine(hks _ (hap (w1.heap.size+5) (by simp)).2 (fun e=>by have:=Pz _ e;omega) (by omega)).trans ?_
    rw[show w1.heap.size+5=w2.heap.size+1 by omega];exact HK.out.2.1
   ·refine(hks _ (hap (w1.heap.size+4) (by simp)).2 (fun e=>by have:=Pz _ e;omega) (by omega)).trans ?_
    rw[<-hsz2];exact HK.out.2.2
   ·exact(hks m (by omega) (fun e=>(HV.out.2.2 m e).1 hm) (fun e=>(hap (w1.heap.size+1) (by simp)).1 (by rw[<-e];exact hm))).trans (HK.out.1 m hm h0 hml)
   ·rw[List.map_append,HES.out,ig HT2.out.2]
    have:=HT2.out.1
    rw[dG HT2.out.2] at this
    injection this with this
    rw[this]
    rfl
  case hdone=>
   rintro Ms W ⟨hF,es,hes,hP⟩ hD hlt
   rw[List.take_length] at hes
   rw[hsz2] at hD
   obtain⟨v,hv1,hv2,hv3,hv4⟩:=hP.out
   obtain⟨vo,vc,rfl⟩:=aV hv2
   have hb0:=(hF.ext.block w.heap.size hw0 (by simp;omega)).trans HB0.out
   have hc0: ∀i,W.cell? ⟨w.heap.size,i,none⟩=(#[.int .i64 h.last,.int .i64 h.size,.int .i64 h.aY,.int .i64 h.die,.int .i64 h.tY,.int .i64 h.start.1,.int .i64 h.start.2,.slice ow h.bV.length cw,.slice ot h.turns.length ct,.slice ox h.readings.length cx]:Array Value)[i]? :=fun i=>by
    simp only[World.cell?,hb0];rfl
   have t0:=(aT.1 hb0).1
   have hl0:=oH.out.Jf
   have hl9:=oH.out.Ar
   obtain⟨n,hn⟩: ∃n:Nat,h.last+1=n:=⟨(h.last+1).toNat,by omega⟩
   have hm: ∀x∈[mb], ∀o,W.cell? ⟨x,o,none⟩=none:=fun x hx o=>by
    obtain rfl:x=mb:=by simpa using hx
    exact hF.cache.mG o
   have hmw: ∀x∈[mb], ∀o,w1.cell? ⟨x,o,none⟩=none:=fun x hx o=>by
    obtain rfl:x=mb:=by simpa using hx
    exact Ep.out.cache.mG o
   have hbd: ∀e∈es,e.2.2.length<=10/\(0<=e.1/\e.1<=500)/\ ∀x∈e.2.2,0<=x/\x<=20:=fun e he=>by
    have hmem:(e.1,e.2.2)∈dN h []:=by rw[<-hes];exact iW.2 ⟨e,he,rfl⟩
    obtain⟨k1,k2,k3⟩:=Aa oH.out hmem
    have:=oH.out.Ey
    simp only at k1 k2 k3
    exact⟨by omega,k2,k3⟩
   have hsf: ∀l,(es.all fun e=>lX h (kW h (e.1,e.2.2) l))=ML h l:=fun l=>by
    unfold ML
    rw[<-hes,List.all_map]
    rfl
   have hsh:=fun(W3:World) (hB:Below W.heap.size W W3)=>JY n (by omega) (ML h) mb h.aY W3 (hF.cache.kept (hB.block mb hF.cache.lt)) 100 #[] #[.pointer (some ⟨w1.heap.size,0,none⟩),.pointer (some ⟨w1.heap.size+1,0,none⟩)] (enters_of Tryz.func100 (by kernel_rfl) rfl)
    (fun l v W' hE hcc hv=>by
      have hEW:Ext [mb] W W':=(Ext.az hB).trans hE
      have Xw:Ext [mb] w1 W':=hF.ext.trans hEW
      refine(Oc h oH.out _ _ _ wb mb es vo vc l v w1.heap.size (w1.heap.size+1) W' ((hEW.block _ (aT.1 hP.b0).1 (by simp;omega)).trans hP.b0) ((hEW.block _ (aT.1 hv1).1 (by simp;omega)).trans hv1)
       (Ep.out.ext Xw hcc) (H1.out.fZ Xw hmw) (H2.out.fZ Xw hmw) (H3.out.fZ Xw hmw) (aP.fZ (aP.dR hv2) hEW hm) (fun e he=>⟨aP.fZ (aP.dR (hv4 e he).1) hEW hm,hbd e he⟩) hv).mono ?_
      rintro x W'' ⟨rfl,k1,k2⟩
      exact⟨by rw[hsf],k1,k2⟩)
   have HSH:=ae hsh
   have HF:=ae hF
   have HD:=ae hD
   have hn':(h.last+1).toNat=n:=by omega
   have HFS:Hid (VW h=mW n (ML h)):=ae (by unfold VW;rw[hn'])
   clear hsh hF hP hD hv1 hv2 hv3 hv4 hb0 hbd hsf hm hmw hes hn'
   gi_wp2_with fail
   refine(callsIn_wide.2 (KN h _ _ _ n _ hl0 hl9 hn)).mono ?_
   rintro e W3 ⟨rfl,hb3⟩
   have HB3:=ae hb3
   clear hb3 hc0
   gi_wp2_with fail
   refine(callsIn_wide.2 (HSH.out W3 HB3.out)).mono ?_
   rintro e W4 ⟨⟨hcc,Ug⟩,hres⟩
   have Uf:Ext [mb] W W4:=(Ext.az HB3.out).trans Ug
   have hD4:W4.heap[w1.heap.size+4]? =some (.deferred (some [])):=(Uf.block _ (aT.1 HD.out).1 (by simp;omega)).trans HD.out
   have hB4:Below w.heap.size w W4:=gX (gX HBW.out HF.out.ext (by omega)) Uf (by omega)
   have HD4:=ae hD4
   have HB4:=ae hB4
   clear hcc Ug Uf hD4 hB4
   rw[<-HFS.out] at hres
   rcases hres with⟨c0,sv,hfs,rfl,uH⟩|⟨hnone,o',n',c',rfl⟩
   ·have he0:E=0:=by rw[Uy.out.1,hfs];rfl
    have hl0':L=c0:=by rw[Uy.out.2,hfs];rfl
    subst he0
    subst hl0'
    obtain⟨so,sc,rfl⟩:=uH.open
    have HIV:=ae uH
    clear uH hfs
    gi_wp2_with fail
    refine⟨by simp,.inl ⟨_,_,rfl,run_takeDeferred HD4.out,?_⟩⟩
    refine⟨.tuple #[.slice so L.length sc,iv 0],by simp[results,Tryz.results56,go_sem],⟨_,rfl,?_,gX HB4.out (Eo W4 _ _) (by have:=HBW.out.size;omega)⟩⟩
    exact aP.fZ HIV.out (Eo W4 _ _) (fun x hx o=>by
     obtain rfl:x=w1.heap.size+4:=by simpa using hx
     simp[World.cell?,HD4.out])
   ·have he0:E=10:=by rw[Uy.out.1,hnone];rfl
    have hl0':L=[]:=by rw[Uy.out.2,hnone];rfl
    subst he0
    subst hl0'
    clear hnone
    gi_wp2_with fail
    refine⟨by simp,.inl ⟨_,_,rfl,run_takeDeferred HD4.out,?_⟩⟩
    exact⟨.tuple #[.slice none 0 0,iv 10],by simp[results,Tryz.results56,go_sem],⟨_,rfl,qA _,gX HB4.out (Eo W4 _ _) (by have:=HBW.out.size;omega)⟩⟩
  case hstop=>rintro cd Ms W h;exact h.elim
end Go.Proofs.YthbpmepjmebolaaGreatDoor.jA
namespace Go.Proofs.YthbpmepjmebolaaGreatDoor.jA
open Go.RowKit Go.RG Go.SL Go.Shelf ji
end Go.Proofs.YthbpmepjmebolaaGreatDoor.jA
namespace Go.Proofs.YthbpmepjmebolaaGreatDoor.jA
open Go.RowKit Go.RG Go.SL Go.Shelf ji
end Go.Proofs.YthbpmepjmebolaaGreatDoor.jA
namespace Go.Proofs.YthbpmepjmebolaaGreatDoor.jA
open Go.RowKit Go.RG Go.SL Go.Shelf ji
end Go.Proofs.YthbpmepjmebolaaGreatDoor.jA
end

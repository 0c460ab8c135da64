/-
  Texts of this claim, packed by a program: WC WD WE.
-/
import Derived.WalkKit
import Derived.WalkLawsBesides
import Derived.WalkSpells
import Derived.Outline
import Derived.Handy
import Derived.KernelRfl
import Derived.Lib.Hide
import Derived.Deep.MidRow
import Derived.Laws.StructEq
import Derived.Maps.AppendAt
import Derived.WalkMore
import Derived.Deep.LoopGhost
import Derived.OwnWalkIn
import Derived.Test.YthbpmepjmebolaaGreatDoorPA5
import Derived.Test.YthbpmepjmebolaaGreatDoorPA9
set_option maxHeartbeats 8000000
set_option maxRecDepth 100000
set_option linter.all false
section
namespace Go.SL
open Go.RowKit Go.RG
end Go.SL
namespace Go.Proofs.YthbpmepjmebolaaGreatDoor.jJ
open Go.RowKit Go.RG Go.SL Go.Shelf jC
structure xC (w0:World) (mb:Nat) (bn:Int) (zL:Value) (below fb pb bb ab:Nat) (W:World):Prop where
 ext:Ext [mb] w0 W
 cache:Cache W mb bn
 found: ∃o n c,W.heap[fb]? =some (.cells #[.slice o n c] 36 (0,0))
 pass:W.heap[pb]? =some (.cells #[zL] 157 (0,0))
 bound:W.heap[bb]? =some (.cells #[iv below] 3 (0,0))
 add:W.heap[ab]? =some (.cells #[.func (.func 165) #[] #[.pointer (some ⟨fb,0,none⟩),.pointer (some ⟨pb,0,none⟩),.pointer (some ⟨bb,0,none⟩),.pointer (some ⟨ab,0,none⟩)]] 256 (0,0))
 new:w0.heap.size<=fb/\w0.heap.size<=pb/\w0.heap.size<=bb/\w0.heap.size<=ab
 old:mb<w0.heap.size
theorem xC.table {w0 W W':World} {mb:Nat} {bn:Int} {zL:Value} {below fb pb bb ab:Nat} (h:xC w0 mb bn zL below fb pb bb ab W) (hE:Ext [mb] W W') (hc:Cache W' mb bn):xC w0 mb bn zL below fb pb bb ab W':=by
 have hn:=h.new
 have ho:=h.old
 obtain⟨o,n,c,hf⟩:=h.found
 have k: ∀(b:Nat) (x:Obj),W.heap[b]? =some x->w0.heap.size<=b->W'.heap[b]? =some x:=fun b x hb hle=>(hE.block b (aV.1 hb).1 (by simp;omega)).trans hb
 exact⟨h.ext.trans hE,hc,⟨o,n,c,k _ _ hf hn.1⟩,k _ _ h.pass hn.2.1,k _ _ h.bound hn.2.2.1,k _ _ h.add hn.2.2.2,hn,ho⟩
theorem xC.below {w0 W W':World} {mb:Nat} {bn:Int} {zL:Value} {below fb pb bb ab:Nat} (h:xC w0 mb bn zL below fb pb bb ab W) (hB:Below W.heap.size W W'):xC w0 mb bn zL below fb pb bb ab W':=
 h.table (Ext.az hB) (h.cache.kept (hB.block mb h.cache.lt))
end Go.Proofs.YthbpmepjmebolaaGreatDoor.jJ
namespace Go.Proofs.YthbpmepjmebolaaGreatDoor.jJ
open Go.RowKit Go.RG Go.SL Go.Shelf jC
def adI (w0:World) (mb:Nat) (bn:Int) (zL:Value) (below fb pb bb ab:Nat) (r:Option (List Int)) (W:World) (e:Ending) (W':World):Prop:=
 (xC w0 mb bn zL below fb pb bb ab W'/\Ext [mb,fb] W W')/\((∃c,r=some c/\e= .returned (.bool true)/\ ∃sv,W'.heap[fb]? =some (.cells #[sv] 36 (0,0))/\aP W' sv c)∨(r=none/\e= .returned (.bool false)))
theorem xC.set {w0 W:World} {mb:Nat} {bn:Int} {zL:Value} {below fb pb bb ab:Nat} (h:xC w0 mb bn zL below fb pb bb ab W) (hd:fb≠pb/\fb≠bb/\fb≠ab) (o:Option Addr) (n c:Nat):xC w0 mb bn zL below fb pb bb ab (W.setCell ⟨fb,0,none⟩ (.slice o n c)):=by
 have hn:=h.new
 have ho:=h.old
 obtain⟨o',n',c',hf⟩:=h.found
 exact⟨h.ext.set hn.1 _,h.cache.kept (dL _ _ _ _ (by show mb≠fb;omega)),⟨o,n,c,aI hf _⟩,
  (dL _ _ _ _ (by show pb≠fb;omega)).trans h.pass,(dL _ _ _ _ (by show bb≠fb;omega)).trans h.bound,(dL _ _ _ _ (by show ab≠fb;omega)).trans h.add,hn,ho⟩
theorem xC.not {w0 W:World} {mb:Nat} {bn:Int} {zL:Value} {below fb pb bb ab:Nat} (h:xC w0 mb bn zL below fb pb bb ab W): ∀x∈[mb,fb], ∀o n,W.cell? ⟨x,o,none⟩≠some (.int .i64 n):=by
 intro x hx o n hc
 obtain⟨o',n',c',hf⟩:=h.found
 rcases gK.1 hx with rfl|hx
 ·rw[h.cache.ni o] at hc;cases hc
 ·obtain rfl:x=fb:=by simpa using hx
  simp only[World.cell?,hf] at hc
  cases o with
  |zero=>simp at hc
  |succ o=>simp at hc
theorem add_any (below:Nat) (hbl:below<=500) (p:List Int->Bool) (mb:Nat) (bn:Int) (w0:World) (pf:Nat) (qy kU:Array Value) (fb pb bb ab:Nat) (hd:fb≠pb/\fb≠bb/\fb≠ab)
 (eg: ∀args w,(callFunc pf args).run Tryz.prog w= .ok (.enter pf args) w)
 (wG: ∀l v W,Ext [mb] w0 W->Cache W mb bn->aP W v l->Calls Tryz.prog pf (qy.push v++kU) W (fun e W'=>e= .returned (.bool (p l))/\Cache W' mb bn/\Ext [mb] W W')):
 ∀(m f:Nat) (l:List Int) (v:Value) (W:World),l.length+m<=900->f<=900->m<=900->xC w0 mb bn (.func (.func pf) qy kU) below fb pb bb ab W->aP W v l->
  Calls Tryz.prog 165 #[v,iv f,iv m,.pointer (some ⟨fb,0,none⟩),.pointer (some ⟨pb,0,none⟩),.pointer (some ⟨bb,0,none⟩),.pointer (some ⟨ab,0,none⟩)] W
   (adI w0 mb bn (.func (.func pf) qy kU) below fb pb bb ab (((jQ below m f).map (l++ ·)).find? p) W):=by
 intro m
 induction m with
 |zero=>
  intro f l v W h1 h2 h3 hst hv
  have hres:((jQ below 0 f).map (l++ ·)).find? p=if p l then some l else none:=by
   simp only[jQ,List.map_cons,List.map_nil,List.append_nil,List.find?_cons,List.find?_nil]
   cases p l <;>rfl
  obtain⟨r,hr⟩: ∃r,((jQ below 0 f).map (l++ ·)).find? p=r:=⟨_,rfl⟩
  rw[hr] at hres⊢
  have xY:=ae hres
  clear hr hres
  obtain⟨o,c,rfl⟩:=hv.open
  obtain⟨o',n',c',hf⟩:=hst.found
  have c1:=aB hf
  have c2:=aB hst.pass
  have hlt:=dP W _ c1
  have hfr:=bF hf 0
  have hS:=hst.set hd o l.length c
  have hv1:aP (W.setCell ⟨fb,0,none⟩ (.slice o l.length c)) (.slice o l.length c) l:=aP.vz hv ((mO W ⟨fb,0,none⟩ _).more (Ms':=[mb,fb]) (by simp)) hst.not
  have HC:=ae (wG l _ _ hS.ext hS.cache hv1)
  have HS:=ae hst
  have NF:=ae (ag hS hv1)
  have HF:=ae hf
  have hd1: ¬pb=fb:=fun e=>hd.1 e.symm
  have hd2:=hd.1
  clear wG hst hv hS hv1 hf
  go_enter Tryz.func165,Tryz.ntmps165
  go_wp2_with fail
  refine HC.o.mono ?_
  rintro e W' ⟨rfl,hcc,hE⟩
  have hS2:=NF.o.1.table hE hcc
  have hn:=HS.o.new
  have ho:=HS.o.old
  have hfb:W'.heap[fb]? =some (.cells #[.slice o l.length c] 36 (0,0)):=(hE.block fb (by simpa [World.setCell] using hlt) (by simp;omega)).trans (aI HF.o _)
  have hEE:Ext [mb,fb] W W':=((mO W ⟨fb,0,none⟩ (.slice o l.length c)).more (by simp)).trans (hE.more (by simp))
  have hv2:aP W' (.slice o l.length c) l:=aP.vz NF.o.2 (hE.more (Ms':=[mb,fb]) (by simp)) NF.o.1.not
  have HR:=ae (ag hS2 (ag hfb (ag hEE hv2)))
  clear hcc hE hS2 hfb hEE hv2
  go_wp2_with fail
  go_returns
  refine⟨⟨HR.o.1,HR.o.2.2.1⟩,?_⟩
  have hre:=xY.o
  revert hre
  cases p l
  ·intro hre;exact .inr ⟨by simpa using hre,by simp⟩
  ·intro hre;exact .inl ⟨l,by simpa using hre,by simp,_,HR.o.2.1,HR.o.2.2.2⟩
 |succ m ih=>
  intro f l v W h1 h2 h3 hst hv
  obtain⟨o,c,rfl⟩:=hv.open
  have hres:((jQ below (m+1) f).map (l++ ·)).find? p=((List.range (below-m-f)).flatMap fun j=>(jQ below m (f+j+1)).map ((l++[((f+j:Nat):Int)])++ ·)).find? p:=by
   conv=>lhs;unfold jQ
   rw[List.map_flatMap]
   simp only[List.map_map]
   congr 2
   funext j
   apply List.map_congr_left
   intro x _
   simp
  rw[hres]
  clear hres
  obtain⟨r,hr⟩: ∃r,((List.range (below-m-f)).flatMap fun j=>(jQ below m (f+j+1)).map ((l++[((f+j:Nat):Int)])++ ·)).find? p=r:=⟨_,rfl⟩
  rw[hr]
  have xY:=ae hr
  clear hr
  have hmm:(m:Int)+1<=900:=by omega
  have hm0:((m:Int)+1==0)=false:=by simp;omega
  have akW: ¬((m:Int)+1=0):=by omega
  rw[show(((m+1:Nat)):Int)=(m:Int)+1 from by omega]
  have HST:=ae hst
  have HV:=ae hv
  have HIH:=ae ih
  have HD:=ae hd
  clear wG hst hv ih hd
  go_enter Tryz.func165,Tryz.ntmps165
  go_wp2_with fail
  go_loopw [11] (fun i wr=> ∃q:Nat,f<=q/\q<=f+(below-m-f)/\i= .int .i64 q/\xC w0 mb bn (.func (.func pf) qy kU) below fb pb bb ab wr/\Ext [mb,fb] W wr/\
   (∀j,f+j<q->((jQ below m (f+j+1)).map ((l++[((f+j:Nat):Int)])++ ·)).find? p=none)) (fun i _=>below+f+1-(intOf i).toNat)
  case atStart=>exact⟨f,ai _,by omega,rfl,HST.o,Ext.refl _ _,fun j hj=>by omega⟩
  case round=>
   obtain⟨q,hfq,hq,rfl,hst,hE,hno⟩:=hrel
   have hv:=aP.vz HV.o hE HST.o.not
   have d1:=aB hst.bound
   have d2:=aB hst.add
   have e1:=dP wr _ d1
   have e2:=dP wr _ d2
   have HS:=ae hst
   have HE:=ae hE
   have HN:=ae hno
   have HVV:=ae hv
   clear hst hE hno hv
   by_cases hlt:q<f+(below-m-f)
   ·have hqI:(q:Int)<=(below:Int)-((m:Int)+1):=by omega
    have hq9:(q:Int)<=500:=by omega
    go_wp2_with fail
    refine qL 10 [] (some 5) [(2,⟨fun _ v=> ∃o c,v= .slice o l.length c,fun _ _ _=>True⟩),(4,⟨fun _ v=> ∃b:Nat,v= .slice (some ⟨b,0,none⟩) 1 1,fun _ _ _=>True⟩),(5,⟨fun _ v=> ∃o c,v= .slice o (l.length+1) c,fun _ v W=>W.ownsRow wr.heap.size 3 1 v (l.length+1) (ah (l++[(q:Int)]))⟩)] (agK wr.heap.size l.length l q) (by kernel_rfl) (by kernel_rfl) ?_
    simp only[zt]
    repeat (refine zd ?_;simp only[zp])
    refine kR _ (by rfl) (by rfl) (by exact⟨.slice none l.length 0,none,0,rfl⟩) (fun W1 hE hF hG=>?_) (fun _ _ _ _ _=>trivial) (fun v Wa Wb ho hE=>aA (Ms:=[]) ho hE (by simp)) (fun v hv=>?_)
    ·have hE':uX wr.heap.size [] wr W1:=hE
     refine dG 98 #[.slice o l.length c] (by go_simp;try rfl) ?_
     refine(clone_any l _ W1 (HVV.o.below (qF hE' (ai _)) (ai _)) (by omega)).mono ?_
     rintro e W2 ⟨v,rfl,ho,hb⟩
     refine⟨v,rfl,aT ho,trivial,Ext.az hb,bY ho hE'.size⟩
    obtain⟨o2,c2,rfl⟩:=hv
    simp only[zp]
    repeat (refine zd ?_;simp only[zp])
    refine kR _ (by rfl) (by rfl) (by exact⟨.slice (some ⟨0,0,none⟩) 1 1,0,rfl⟩) (fun W1 hE hF hG=>?_) (fun _ _ _ _ _=>trivial) (fun v Wa Wb ho hE=>?_) (fun v hv=>?_)
    ·refine jl (W':=W1.alloc (.cells #[iv q] 3)) (.slice (some ⟨W1.heap.size,0,none⟩) 1 1) (by go_simp;try rfl) ⟨⟨_,rfl⟩,trivial,Ext.az ((aG _ _).alloc (ai _) _),_,rfl,heap_alloc_new _ _⟩
    ·obtain⟨b,hb,hc⟩:=ho
     exact⟨b,hb,(hE.block b (aV.1 hc).1 (by simp)).trans hc⟩
    obtain⟨b4,rfl⟩:=hv
    simp only[zp]
    refine kR _ (by rfl) (by rfl) (by exact⟨.slice none (l.length+1) 0,none,0,rfl⟩) (fun W1 hE hF hG=>?_) (fun v Wa Wb ho hE=>aA (Ms:=[]) ho hE (by simp)) (fun _ _ _ _ _=>trivial) (fun v hv=>?_)
    ·obtain⟨b,hb,hc⟩:=hG rfl _ (bg _) (by kernel_rfl)
     cases hb
     have ho:W1.ownsRow wr.heap.size 3 1 (.slice o2 l.length c2) l.length (ah l):=hG rfl _ (nC _ (bg _)) (by kernel_rfl)
     have hE':Ext [] wr W1:=hE
     have hsrc:aK 1 W1 (.slice (some ⟨b4,0,none⟩) 1 1) 1 (ah [(q:Int)]):=aK.dw 1 1 hc rfl (by decide)
     refine Does.mono (yQ rO (by rfl) (by rfl) ho (by rfl) hsrc (jD _) (by omega) (by omega) hE'.size) ?_
     rintro v W2 ⟨hown,hgr⟩
     rw[<-vN] at hown
     obtain⟨o5,c5,rfl⟩:=aT hown
     exact⟨⟨o5,c5,rfl⟩,hown,Ij ho hgr,trivial⟩
    obtain⟨o5,c5,rfl⟩:=hv
    simp only[zp]
    repeat (refine zn ?_;simp only[zp])
    intro W1 hE1 hF
    have hE':uX wr.heap.size [] wr W1:=hE1
    have hB:=qF hE' (ai _)
    obtain⟨hc,hf⟩:=bV hB
    have ho:W1.ownsRow wr.heap.size 3 1 (.slice o5 (l.length+1) c5) (l.length+1) (ah (l++[(q:Int)])):=hF _ (bg _)
    have vU:aP W1 (.slice o5 (l.length+1) c5) (l++[(q:Int)]):=by
     have:=aK.dR ho
     unfold aP
     rw[dE]
     exact this
    have hcall:=HIH.o (q+1) (l++[(q:Int)]) _ W1 (by simp;omega) (by omega) (by omega) (HS.o.below hB) vU
    rw[show(((q+1:Nat)):Int)=(q:Int)+1 from by omega] at hcall
    have HC:=ae hcall
    have HB:=ae hB
    clear hcall vU ho hB hE' hE1 hF
    go_wp2_with fail
    refine HC.o.mono ?_
    rintro e W2 ⟨⟨hS2,hE2⟩,hres⟩
    have HS2:=ae hS2
    have HEE:=ae ((HE.o.trans (Ext.az HB.o)).trans hE2)
    clear hS2 hE2 hc hf d1 d2
    have hq1:f+(q-f)=q:=by omega
    rcases hres with⟨cc,hcc,rfl,sv,hsv,vU⟩|⟨hnone,rfl⟩
    ·have HR:=ae (ag hcc (ag hsv vU))
     clear hcc hsv vU
     go_wp2_with fail
     go_returns
     refine⟨⟨HS2.o,HEE.o⟩,.inl ⟨cc,?_,by simp,sv,HR.o.2⟩⟩
     rw[<-xY.o]
     refine rD p _ _ (q-f) (by simp;omega) cc (fun j hj=>?_) ?_
     ·simp only[List.getElem_range]
      exact HN.o j (by omega)
     ·simp only[List.getElem_range,hq1]
      exact HR.o.1
    ·have HR:=ae hnone
     clear hnone
     go_wp2_with fail
     go_roundw
     case rel=>
      refine⟨q+1,by omega,by omega,by go_num,HS2.o,HEE.o,fun j hj=>?_⟩
      by_cases hjq:f+j=q
      ·rw[hjq];exact HR.o
      ·exact HN.o j (by omega)
     case measure=>simp[intOf];omega
   ·have hqI: ¬((q:Int)<=(below:Int)-((m:Int)+1)):=by omega
    go_wp2_with fail
    go_returns
    refine⟨⟨HS.o,HE.o⟩,.inr ⟨?_,by simp⟩⟩
    rw[<-xY.o]
    exact uq p _ _ (fun j hj=>by
     simp only[List.length_range] at hj
     simp only[List.getElem_range]
     exact HN.o j (by omega))
end Go.Proofs.YthbpmepjmebolaaGreatDoor.jJ
namespace Go.Proofs.YthbpmepjmebolaaGreatDoor.jJ
open Go.RowKit Go.RG Go.SL Go.Shelf jC
def afJ (mb:Nat) (bn:Int) (r:Option (List Int)) (w:World) (e:Ending) (W':World):Prop:=
 (Cache W' mb bn/\Ext [mb] w W')/\((∃c v,r=some c/\e= .returned (.tuple #[v,.bool true])/\aP W' v c)∨(r=none/\ ∃o n c,e= .returned (.tuple #[.slice o n c,.bool false])))
theorem xC.fin {w0 W:World} {mb:Nat} {bn:Int} {zL:Value} {below fb pb bb ab:Nat} (h:xC w0 mb bn zL below fb pb bb ab W):Cache W mb bn/\Ext [mb] w0 W:=⟨h.cache,h.ext⟩
theorem LQ (below:Nat) (hbl:below<=500) (p:List Int->Bool) (mb:Nat) (bn:Int) (w:World) (hcc:Cache w mb bn) (pf:Nat) (qy kU:Array Value)
 (eg: ∀args w,(callFunc pf args).run Tryz.prog w= .ok (.enter pf args) w)
 (wG: ∀l v W,Ext [mb] w W->Cache W mb bn->aP W v l->Calls Tryz.prog pf (qy.push v++kU) W (fun e W'=>e= .returned (.bool (p l))/\Cache W' mb bn/\Ext [mb] W W')):
 Calls Tryz.prog 99 #[iv below,.func (.func pf) qy kU] w (afJ mb bn (nN below p) w):=by
 have hmb:=hcc.lt
 have HA:=ae (fun(m:Nat) (W:World) (hm:m<=501) (hst:xC w mb bn (.func (.func pf) qy kU) below (w.heap.size+1+1) (w.heap.size+1) w.heap.size (w.heap.size+1+1+1) W)=>
  add_any below hbl p mb bn w pf qy kU (w.heap.size+1+1) (w.heap.size+1) w.heap.size (w.heap.size+1+1+1) (by omega) eg wG m 0 [] (.slice none 0 0) W (by simp;omega) (by omega) (by omega) hst (qW W))
 obtain⟨r,hr⟩: ∃r,nN below p=r:=⟨_,rfl⟩
 rw[hr]
 have HR:=ae hr
 have HCC:=ae hcc
 clear wG eg hcc hr
 go_enter Tryz.func99,Tryz.ntmps99
 go_wp2_with fail
 go_step3
 go_wp2_with fail
 go_step3
 go_wp2_with fail
 obtain⟨w4,hw4⟩: ∃w4,((((w.alloc (.cells #[iv below] 3)).alloc (.cells #[.func (.func pf) qy kU] 157)).alloc (.cells #[.slice none 0 0] 36)).alloc
  (.cells #[.func (.func 165) #[] #[.pointer (some ⟨w.heap.size+1+1,0,none⟩),.pointer (some ⟨w.heap.size+1,0,none⟩),.pointer (some ⟨w.heap.size,0,none⟩),.pointer (some ⟨w.heap.size+1+1+1,0,none⟩)]] 256))=w4:=⟨_,rfl⟩
 have aai:xC w mb bn (.func (.func pf) qy kU) below (w.heap.size+1+1) (w.heap.size+1) w.heap.size (w.heap.size+1+1+1) w4:=by
  have hB:Below w.heap.size w w4:=by rw[<-hw4];exact zl
  refine⟨Ext.az hB,HCC.o.kept (hB.block mb hmb),⟨none,0,0,?_⟩,?_,?_,?_,by omega,hmb⟩
  ·rw[<-hw4];exact(aW _ _ _ (by simp)).trans (iD _ _ _ _)
  ·rw[<-hw4];exact(aW _ _ _ (by simp)).trans ((aW _ _ _ (by simp)).trans (ed _ _ _))
  ·rw[<-hw4];exact(aW _ _ _ (by simp;omega)).trans ((aW _ _ _ (by simp;omega)).trans ((aW _ _ _ (by simp)).trans (ay _ _)))
  ·rw[<-hw4];have:=ay (((w.alloc (.cells #[iv below] 3)).alloc (.cells #[.func (.func pf) qy kU] 157)).alloc (.cells #[.slice none 0 0] 36)) (.cells #[.func (.func 165) #[] #[.pointer (some ⟨w.heap.size+1+1,0,none⟩),.pointer (some ⟨w.heap.size+1,0,none⟩),.pointer (some ⟨w.heap.size,0,none⟩),.pointer (some ⟨w.heap.size+1+1+1,0,none⟩)]] 256);simpa using this
 rw[hw4]
 have HS0:=ae aai
 clear aai hw4
 go_loopw [5,11] (fun b i wr=> ∃k:Nat,k<=below+1/\b= .bool false/\i= .int .i64 k/\xC w mb bn (.func (.func pf) qy kU) below (w.heap.size+1+1) (w.heap.size+1) w.heap.size (w.heap.size+1+1+1) wr/\
  (∀j,j<k->(jQ below j 0).find? p=none)) (fun _ i _=>below+1-(intOf i).toNat)
 case atStart=>exact⟨0,bW _,rfl,rfl,HS0.o,fun j hj=>by omega⟩
 case round=>
  obtain⟨k,hk,rfl,rfl,hst,hno⟩:=hrel
  have d2:=aB hst.add
  have e2:=dP wr _ d2
  have HS:=ae hst
  have HN:=ae hno
  clear hst hno
  by_cases hlt:k<below+1
  ·have hkI:(k:Int)<(below:Int)+1:=by omega
   have HC:=ae (HA.o k wr (by omega) HS.o)
   go_wp2_with fail
   refine HC.o.mono ?_
   rintro e W2 ⟨⟨hS2,_⟩,hres⟩
   have HS2:=ae hS2
   rcases hres with⟨cc,hcc,rfl,sv,hsv,vU⟩|⟨hnone,rfl⟩
   ·have hr:r=some cc:=by
     rw[<-HR.o]
     exact JU (by omega) HN.o (by simpa using hcc)
    obtain⟨so,sc,rfl⟩:=vU.open
    have f1:=aB hsv
    have f2:=bF hsv 0
    have f3:=dP W2 _ f1
    have HX:=ae (ag hr (ag hsv vU))
    clear hr hsv vU hS2 hcc d2
    go_wp2_with fail
    (try rw[Exit.noGoto_ret])
    have hcell:(W2.setCell ⟨w.heap.size+1+1,0,none⟩ (.slice so cc.length sc)).cell? ⟨w.heap.size+1+1,0,none⟩=some (.slice so cc.length sc):=aB (aI HX.o.2.1 _)
    refine bodyPost_ret (v:= .tuple #[.slice so cc.length sc,.bool true]) (by simp[results,Tryz.results99,go_sem,hcell]) rfl ?_
    refine⟨(HS2.o.set (by omega) so cc.length sc).fin,.inl ⟨cc,_,HX.o.1,rfl,?_⟩⟩
    exact aP.vz HX.o.2.2 ((mO W2 ⟨w.heap.size+1+1,0,none⟩ _).more (Ms':=[mb,w.heap.size+1+1]) (by simp)) HS2.o.not
   ·have HX:=ae hnone
    clear hnone hS2 d2
    go_wp2_with fail
    go_roundw
    case rel=>
     refine⟨k+1,by omega,rfl,by go_num,HS2.o,fun j hj=>?_⟩
     by_cases hjq:j=k
     ·subst hjq;simpa using HX.o
     ·exact HN.o j (by omega)
    case measure=>simp[intOf];omega
  ·have hkI: ¬((k:Int)<(below:Int)+1):=by omega
   obtain⟨o',n',c',hf⟩:=HS.o.found
   have f1:=aB hf
   have f2:=bF hf 0
   have f3:=dP wr _ f1
   have hk1:k=below+1:=by omega
   subst hk1
   have hr:r=none:=by
    rw[<-HR.o]
    exact JS HN.o
   go_wp2_with fail
   (try rw[Exit.noGoto_ret])
   have hcell:(wr.setCell ⟨w.heap.size+1+1,0,none⟩ (.slice o' n' c')).cell? ⟨w.heap.size+1+1,0,none⟩=some (.slice o' n' c'):=aB (aI hf _)
   refine bodyPost_ret (v:= .tuple #[.slice o' n' c',.bool false]) (by simp[results,Tryz.results99,go_sem,hcell]) rfl ?_
   exact⟨(HS.o.set (by omega) o' n' c').fin,.inr ⟨rfl,_,_,_,rfl⟩⟩
end Go.Proofs.YthbpmepjmebolaaGreatDoor.jJ
namespace Go.Proofs.YthbpmepjmebolaaGreatDoor.jJ
open Go.RowKit Go.RG Go.SL Go.Shelf jC
attribute [local go_sem] Oper.semAt_some
theorem Zn:iR Tryz.prog 103 107 (.agg #[iv 0,iv 0,iv 0,iv 0,iv 0,iv 0,iv 0,iv 0,iv 0,iv 0]) 10 80:=⟨Tryz.underlying103,by kernel_rfl,rfl,by omega⟩
structure Evr (w:World) (wb:Nat) (tv:Value) (ls:List (List Int)) (Ms:List Nat) (W:World):Prop where
 b0:W.heap[w.heap.size]? =some (.cells #[.pointer (some ⟨wb,0,none⟩)] 100 (0,0))
 b1:W.heap[w.heap.size+1]? =some (.cells #[tv] 36 (0,0))
 out: ∃v,W.heap[w.heap.size+1+1]? =some (.cells #[v] 103 (0,0))/\W.ownsRow (w.heap.size+7) 107 10 v ls.length (ls.flatMap ah)/\ ∀g,v.ownBlock=some g->g∉Ms/\g<W.heap.size
 b3:W.heap[w.heap.size+1+1+1]? =some (.cells #[.pointer (some ⟨wb,0,none⟩)] 100 (0,0))
 b4:W.heap[w.heap.size+1+1+1+1]? =some (.cells #[.slice none 0 0] 36 (0,0))
theorem Evr.kept {w:World} {wb:Nat} {tv:Value} {ls:List (List Int)} {Ms Ms':List Nat} {W W':World} (h:Evr w wb tv ls Ms W) (hs:W.heap.size<=W'.heap.size) (hk: ∀b,w.heap.size<=b->b<w.heap.size+5->W'.heap[b]? =W.heap[b]?)
 (ho: ∀g,w.heap.size+7<=g->g<W.heap.size->g∉Ms->W'.heap[g]? =W.heap[g]?) (hM: ∀m∈Ms',m∈Ms∨(W.heap.size<=m/\m<W'.heap.size)):Evr w wb tv ls Ms' W':=by
 obtain⟨v,h1,h2,h3⟩:=h.out
 refine⟨(hk _ (by omega) (by omega)).trans h.b0,(hk _ (by omega) (by omega)).trans h.b1,⟨v,(hk _ (by omega) (by omega)).trans h1,dQ h2 fun g hg=>ho g (bH h2 g hg).1 (bH h2 g hg).2 (h3 g hg).1,fun g hg=>⟨fun hm=>?_,by have:=(h3 g hg).2;omega⟩⟩,
  (hk _ (by omega) (by omega)).trans h.b3,(hk _ (by omega) (by omega)).trans h.b4⟩
 rcases hM g hm with h4|h4
 ·exact(h3 g hg).1 h4
 ·have:=(h3 g hg).2;omega
def agf (ls:List (List Int)) (mb:Nat) (bn:Int) (w:World) (e:Ending) (w':World):Prop:=
 ∃v,e= .returned v/\w'.ownsRow w.heap.size 107 10 v ls.length (ls.flatMap ah)/\Cache w' mb bn/\Ext [mb] w w'
theorem Bi {h:dn} (hS:Sound h) {out:List Int} {t:Int×List Int} (ht:t∈dX h out):t.2.length=h.bQ.length/\(0<=t.1/\t.1<=500)/\ ∀x∈t.2,0<=x/\x<=20:=by
 unfold dX at ht
 obtain⟨x,hx,rfl⟩:=iV.1 ht
 obtain⟨s,rest,rfl,h1,h2,h3⟩:=G8 hS (List.mem_filter.1 hx).1
 exact⟨h1,h2,h3⟩
theorem VB {w W7 W8 W9:World} {wb mb:Nat} {bn:Int} {tv v v':Value} {ls:List (List Int)} {ys:List Int} {Os Ms:List Nat} {obj:Obj} (hF:Fr w mb bn Os Ms W7) (hP:Evr w wb tv ls Ms W7)
 (hv1:W7.heap[w.heap.size+1+1]? =some (.cells #[v] 103 (0,0))) (hv3: ∀g,v.ownBlock=some g->(w.heap.size+7<=g/\g<W7.heap.size)/\g∉Ms)
 (hE:Ext [] W7 W8) (hG:(W8.alloc obj).grownBy W9 v.ownBlock) (hN:v'.ownBlock=v.ownBlock∨v'.ownBlock=some (W8.heap.size+1)) (hO:W9.ownsRow (w.heap.size+7) 107 10 v' (ls.length+1) (ls.flatMap ah++ah ys))
 (hmb:mb<w.heap.size) (hs:w.heap.size+7<=W7.heap.size):
 (Fr w mb bn Os Ms (W9.setCell ⟨w.heap.size+1+1,0,none⟩ v')/\Evr w wb tv (ls++[ys]) Ms (W9.setCell ⟨w.heap.size+1+1,0,none⟩ v'))/\
   (∀b,b<W7.heap.size->v.ownBlock≠some b->b≠w.heap.size+2->(W9.setCell ⟨w.heap.size+1+1,0,none⟩ v').heap[b]? =W7.heap[b]?)/\W7.heap.size<=(W9.setCell ⟨w.heap.size+1+1,0,none⟩ v').heap.size:=by
 have h1:=hE.size
 have h2:=hG.size
 simp only[bI] at h2
 have hk: ∀b,b<W7.heap.size->v.ownBlock≠some b->W9.heap[b]? =W7.heap[b]? :=fun b hb hn=>
  (hG.block b (by simp;omega) (fun e=>hn e.symm)).trans ((aW _ _ _ (by omega)).trans (hE.block b hb (by simp)))
 have hks: ∀b,b<W7.heap.size->v.ownBlock≠some b->b≠w.heap.size+2->(W9.setCell ⟨w.heap.size+1+1,0,none⟩ v').heap[b]? =W7.heap[b]? :=fun b hb hn hne=>
  (dL _ _ _ _ (by show b≠w.heap.size+1+1;omega)).trans (hk b hb hn)
 have hlow: ∀b,b<w.heap.size+7->v.ownBlock≠some b:=fun b hb e=>by have:=(hv3 b e).1.1;omega
 have hsz:W7.heap.size<=(W9.setCell ⟨w.heap.size+1+1,0,none⟩ v').heap.size:=by simp[World.setCell];omega
 refine⟨⟨hF.own ⟨hG.os.trans (hE.os.trans hF.ext.os),hG.tape.trans (hE.tape.trans hF.ext.tape),hG.output.trans (hE.output.trans hF.ext.output),by have:=hF.ext.size;omega,fun k hk' hm=>(hks k (by omega) (hlow k (by omega)) (by omega)).trans (hF.ext.block k hk' hm)⟩ hsz (hF.cache.kept (hks mb (by omega) (hlow mb (by omega)) (by omega))),?_⟩,hks,hsz⟩
 have hb:=bH hO
 refine⟨(hks _ (by omega) (hlow _ (by omega)) (by omega)).trans hP.b0,(hks _ (by omega) (hlow _ (by omega)) (by omega)).trans hP.b1,⟨v',?_,?_,fun g hg=>⟨fun hm=>?_,by have:=(hb g hg).2;simpa [World.setCell] using this⟩⟩,(hks _ (by omega) (hlow _ (by omega)) (by omega)).trans hP.b3,(hks _ (by omega) (hlow _ (by omega)) (by omega)).trans hP.b4⟩
 ·exact aI ((hk _ (by omega) (hlow _ (by omega))).trans hv1) _
 ·rw[dE,vO]
  have:[ys].flatMap ah=ah ys:=by simp
  rw[this]
  exact dQ hO fun g hg=>dL _ _ _ _ (by have:=(hb g hg).1;show g≠w.heap.size+1+1;omega)
 ·rcases hN with hN|hN
  ·exact(hv3 g (by rw[<-hN,hg])).2 hm
  ·rw[hg] at hN
   injection hN with hN
   have:=hF.bnd g hm
   omega
theorem KQ (h:dn) (hS:Sound h) (a b c tv:Value) (turns:List Int) (wb mb:Nat) (w:World) (hw:iW w wb mb h a b c) (h1:bM w a h.bQ) (h2:aP w b h.turns) (h3:bD w c h.readings) (h4:aP w tv turns):
 Calls Tryz.prog 44 #[.pointer (some ⟨wb,0,none⟩),tv] w (agf (jK h turns) mb h.bn w):=by
 obtain⟨ot,ct,rfl⟩:=h4.open
 have HW:=ae hw
 have H1:=ae h1
 have H2:=ae h2
 have H3:=ae h3
 have H4:=ae h4
 have oJ:=ae hS
 have hmb:=hw.cache.lt
 clear hw h1 h2 h3 h4 hS
 refine(callsIn_wide (n:=0)).1 ?_
 refine callsIn_of_wp_marks Tryz.func44 rfl trivial ?_
 simp only[Tryz.ntmps44,List.size_toArray,List.length_cons,List.length_nil,Nat.reduceAdd,Nat.reduceSub,Array.replicate_succ,Array.replicate_zero,lL,lM,List.nil_append,List.cons_append]
 gi_wp2_with fail
 refine(callsIn_wide.2 (Af wb _ _ _ _)).mono ?_
 rintro e w1 ⟨rfl,rfl⟩
 gi_wp2_with fail
 obtain⟨w2,hw2⟩: ∃w2,(((((w.alloc (.cells #[.pointer (some ⟨wb,0,none⟩)] 100)).alloc (.cells #[.slice ot turns.length ct] 36)).alloc (.cells #[.slice none 0 0] 103)).alloc (.cells #[.pointer (some ⟨wb,0,none⟩)] 100)).alloc (.cells #[.slice none 0 0] 36))=w2:=⟨_,rfl⟩
 have hB2:Below w.heap.size w w2:=by rw[<-hw2];exact zl
 have hsz2:w2.heap.size=w.heap.size+5:=by rw[<-hw2];simp
 have hP2:Evr w wb (.slice ot turns.length ct) [] [mb] w2:=by
  rw[<-hw2]
  have n3:=ay (((w.alloc (.cells #[.pointer (some ⟨wb,0,none⟩)] 100)).alloc (.cells #[.slice ot turns.length ct] 36)).alloc (.cells #[.slice none 0 0] 103)) (.cells #[.pointer (some ⟨wb,0,none⟩)] 100)
  have n4:=ed (((w.alloc (.cells #[.pointer (some ⟨wb,0,none⟩)] 100)).alloc (.cells #[.slice ot turns.length ct] 36)).alloc (.cells #[.slice none 0 0] 103)) (.cells #[.pointer (some ⟨wb,0,none⟩)] 100) (.cells #[.slice none 0 0] 36)
  simp only[bI] at n3 n4
  refine⟨?_,?_,⟨.slice none 0 0,?_,⟨rfl,.inl ⟨rfl,rfl⟩⟩,fun g hg=>by cases hg⟩,?_,n4⟩
  ·exact(aW _ _ _ (by first|omega|(simp;done)|(simp;omega))).trans ((aW _ _ _ (by first|omega|(simp;done)|(simp;omega))).trans ((aW _ _ _ (by first|omega|(simp;done)|(simp;omega))).trans ((aW _ _ _ (by first|omega|(simp;done)|(simp;omega))).trans (ay _ _))))
  ·exact(aW _ _ _ (by first|omega|(simp;done)|(simp;omega))).trans ((aW _ _ _ (by first|omega|(simp;done)|(simp;omega))).trans ((aW _ _ _ (by first|omega|(simp;done)|(simp;omega))).trans (ed _ _ _)))
  ·exact(aW _ _ _ (by first|omega|(simp;done)|(simp;omega))).trans ((aW _ _ _ (by first|omega|(simp;done)|(simp;omega))).trans (iD _ _ _ _))
  ·exact(aW _ _ _ (by first|omega|(simp;done)|(simp;omega))).trans n3
 rw[hw2]
 clear hw2
 refine mX (Ae h oJ.out a b c (.slice none 0 0) [] wb mb (w.heap.size+1+1+1) (w.heap.size+1+1+1+1)) rfl (enters_of Tryz.func133 (by kernel_rfl) rfl) rfl (by simp;omega)
  (fun Ms k W=>Fr w mb h.bn [w.heap.size,w.heap.size+1,w.heap.size+2,w.heap.size+3,w.heap.size+4,w.heap.size+5,w.heap.size+6] Ms W/\Evr w wb (.slice ot turns.length ct) (jv h turns k) Ms W)
  (fun _ _ _=>False)
  ?hInv ?um ?hI ?hIx ?Q3 ?yJ ?h0
  (fun a Ms k W1 a₁ W=> ∃(t:Int×List Int) (ob bt:Nat),(dX h [])[k]? =some t/\a₁={tmps:=(a.tmps.setIfInBounds 9 (.agg #[iv t.1,.slice (some ⟨ob,1,none⟩) t.2.length t.2.length])).setIfInBounds 5 (.pointer (some ⟨bt,0,none⟩)),defers:=[]}/\
    (Fr w mb h.bn [w.heap.size,w.heap.size+1,w.heap.size+2,w.heap.size+3,w.heap.size+4,w.heap.size+5,w.heap.size+6] Ms W/\Evr w wb (.slice ot turns.length ct) (jv h turns k) Ms W)/\
    (W.heap[bt]? =some (.cells #[iv t.1,.slice (some ⟨ob,1,none⟩) t.2.length t.2.length] 163 (0,0))/\(w.heap.size+7<=bt/\ob∈Ms/\ob≠mb)/\aP W (.slice (some ⟨ob,1,none⟩) t.2.length t.2.length) t.2)/\(∀m∈Ms,m∉[mb]->m<W1.heap.size->W.heap[m]? =W1.heap[m]?)/\W1.heap.size<=W.heap.size)
  ?TQ ?hassign ?hbody ?hdone ?hstop
 case hInv=>rintro Ms k W ⟨hF,hP⟩;exact hF.ab8 HW.out H1.out H2.out H3.out (qW w) hP.b3 hP.b4
 case um=>rintro cd Ms W h;exact h.elim
 case hI=>
  rintro Ms Ms' k Wa Wb ⟨hF,hP⟩ hE hMs hc
  refine⟨(hF.ja hE hMs hc).1,hP.kept hE.size (fun b h1 h2=>(hF.ja hE hMs hc).2 b (by simp;omega)) (fun g h1 h2 h3=>hE.block g h2 h3) hMs⟩
 case hIx=>rintro cd Ms Ms' Wa Wb h;exact h.elim
 case Q3=>
  rintro Ms k W r o ⟨hF,hP⟩ hr
  exact⟨hF.put o (by omega) hmb,hP.kept (by simp) (fun b h1 h2=>World.putObj_heap_other (by omega)) (fun g h1 h2 h3=>World.putObj_heap_other (by omega)) (fun m hm=> .inl hm)⟩
 case yJ=>rintro cd Ms W r o h;exact h.elim
 case h0=>
  intro o o'
  have hB:Below w.heap.size w ((w2.alloc o).alloc o'):=ak (ak hB2 _) _
  refine⟨⟨Ext.az hB,fun m hm=> .inl (by simpa using hm),fun m hm=>(by have:=hB.size;simp at hm;omega),fun b hb=>⟨by simp at hb⊢;omega,by simp at hb⊢;omega⟩,HW.out.cache.kept (hB.block mb hmb)⟩,
   hP2.kept (by simp;omega) (fun b h1 h2=>(aW _ _ _ (by simp;omega)).trans (aW _ _ _ (by omega))) (fun g h1 h2 h3=>by omega) (fun m hm=> .inl hm)⟩
 case TQ=>
  rintro Ms k W1 a₁ W o ⟨t,ob,bt,ht,ha,⟨hF,hP⟩,⟨hbt,⟨hb7,hob,hne⟩,hsl⟩,hk,hs⟩
  have hap:=(hF.apart (w.heap.size+6) (by simp)).1
  refine⟨t,ob,bt,ht,ha,⟨hF.put o (by omega) hmb,hP.kept (by simp) (fun b h1 h2=>World.putObj_heap_other (by omega)) (fun g h1 h2 h3=>World.putObj_heap_other (by omega)) (fun m hm=> .inl hm)⟩,
   ⟨(World.putObj_heap_other (by omega)).trans hbt,⟨hb7,hob,hne⟩,hsl.kept fun b off n c hv _=>by cases hv;exact World.putObj_heap_other (fun e=>hap (by rw[show w.heap.size+6=ob by omega];exact hob))⟩,
   fun m hm h0 hml=>(World.putObj_heap_other (fun e=>hap (by rw[show w.heap.size+6=m by omega];exact hm))).trans (hk m hm h0 hml),by simpa using hs⟩
 case hassign=>
  rintro Ms k v W hk ⟨hF,hP⟩ ⟨ob,rfl,hsl,hob,hne⟩ hlt
  generalize ht:(dX h [])[k]=t at*
  have htk:(dX h [])[k]? =some t:=by rw[dA hk,ht]
  gi_wp2
  have hB:Below W.heap.size W (W.alloc (.cells #[iv t.1,.slice (some ⟨ob,1,none⟩) t.2.length t.2.length] 163)):=ak (aG _ _) _
  have hc:=hF.cache.kept (hB.block mb hF.cache.lt)
  exact⟨⟨t,ob,W.heap.size,htk,rfl,⟨(hF.ja (Ext.az hB) (fun m hm=> .inl hm) hc).1,hP.kept (by simp) (fun b h1 h2=>aW _ _ _ (by omega)) (fun g h1 h2 h3=>aW _ _ _ (by omega)) (fun m hm=> .inl hm)⟩,
   ⟨ay _ _,⟨by omega,hob,hne⟩,hsl.alloc _⟩,fun m hm h0 hml=>aW _ _ _ (by omega),by simp⟩,aW _ _ _ (by omega),aW _ _ _ (by omega)⟩
 case hbody=>
  rintro Ms k W1 a₁ W busy hk ⟨t,ob,bt,ht,rfl,⟨hF,hP⟩,⟨hbt,⟨hb7,hob,hne⟩,hsl⟩,hkeep,hsz⟩ hrec hD
  simp only[uD,List.set_cons_succ,List.set_cons_zero]
  have htm:t∈dX h []:=mG ht
  obtain⟨hl2,hs0,hrest⟩:=Bi oJ.out htm
  have hlast:=oJ.out.BI
  have hwl:=oJ.out.Gg
  have c0:=aB hP.b0
  have c1:=aB hP.b1
  have k0:=dP W _ c0
  have k1:=dP W _ c1
  have kt:=(aV.1 hbt).1
  have hg: ∀i,W.cell? ⟨bt,i,none⟩=(#[iv t.1,.slice (some ⟨ob,1,none⟩) t.2.length t.2.length]:Array Value)[i]? :=fun i=>by
   simp only[World.cell?,hbt];rfl
  have adR:iW W wb mb h a b c:=HW.out.ext hF.ext hF.cache
  have KH:aP W (.slice ot turns.length ct) turns:=H4.out.gB hF.ext (fun x hx o=>by
   obtain rfl:x=mb:=by simpa using hx
   exact HW.out.cache.ni o)
  have apC:=hF.cache.lt
  have HPL:=ae (yz h a b c wb mb t.1 t.2 turns _ _ W adR hsl KH (by omega) oJ.out.Og oJ.out.Oe oJ.out.PZ oJ.out.PY hs0.1 hs0.2 hrest)
  obtain⟨ys,hy⟩: ∃ys,lH h (t.1,t.2) turns=ys:=⟨_,rfl⟩
  have Hf:ys.length=10:=by rw[<-hy];exact kX _ _ _ _ _ _
  rw[hy] at HPL
  have HY:=ae hy
  have HT:=ae (ag ht hk)
  have HF:=ae hF
  have HP:=ae hP
  have HK:=ae (ag hkeep (ag hrec hD))
  have HTV:=ae KH
  clear hF hP hkeep hrec hD hbt hsl KH adR hy ht hrest htm
  rw[hl2] at HPL
  gi_wp2_with fail
  refine(CallsIn.inRound _ (callsIn_wide.2 HPL.out)).mono ?_
  rintro e W6 ⟨rfl,hcc,hE⟩
  have hyl:(ah ys).length=10:=by simp[ah,Hf]
  simp only[lY]
  obtain⟨W7,hst,hblk,Bf⟩:=yl Tryz.prog ys (ay W6 (.cells #[iv 0,iv 0,iv 0,iv 0,iv 0,iv 0,iv 0,iv 0,iv 0,iv 0] 107)) (by rw[Hf];rfl)
  have hE':Ext [mb] W W7:=Dz (hE.alloc _) Bf hE.size
  have ahZ:Cache W7 mb h.bn:=hcc.kept ((Bf.block mb (by have:=hcc.lt;first|(simp;done)|(simp;omega)) (by have:=hcc.lt;first|(simp;done)|(simp;omega))).trans (aW _ _ _ hcc.lt))
  have hF7:=HF.out.own (HF.out.ext.trans hE') hE'.size ahZ
  have hap:=HF.out.apart
  have TP:Evr w wb (.slice ot turns.length ct) (jv h turns k) Ms W7:=HP.out.kept hE'.size (fun b h1 h2=>hE'.block b (hap b (by first|omega|(simp;done)|(simp;omega))).2 (by first|omega|(simp;done)|(simp;omega))) (fun g h1 h2 h3=>hE'.block g h2 (by first|omega|(simp;done)|(simp;omega))) (fun m hm=> .inl hm)
  have hkp: ∀m∈Ms,m∉[mb]->m<W1.heap.size->W7.heap[m]? =W1.heap[m]? :=fun m hm h0 hml=>(hE'.block m (by omega) h0).trans (HK.out.1 m hm h0 hml)
  have hrec:=(hE'.block _ (hap (w.heap.size+6) (by simp)).2 (by first|omega|(simp;done)|(simp;omega))).trans (show W.heap[w.heap.size+6]? =some (.loop busy) from by rw[show w.heap.size+6=w2.heap.size+1 by omega];exact HK.out.2.1)
  have hD:=(hE'.block _ (hap (w.heap.size+5) (by simp)).2 (by first|omega|(simp;done)|(simp;omega))).trans (show W.heap[w.heap.size+5]? =some (.deferred (some [])) from by rw[<-hsz2];exact HK.out.2.2)
  have hs7:W1.heap.size<=W7.heap.size:=by have:=hE'.size;omega
  have hw7:w.heap.size+7<=W7.heap.size:=by have:=hE'.size;omega
  obtain⟨v,hv1,hv2,hv3⟩:=TP.out
  obtain⟨vo,vc,rfl⟩:=aT hv2
  have d1:=aB hv1
  have d2:=bF hv1 0
  have d3:=dP W7 _ d1
  have d4:=(aV.1 hblk).1
  have hln:(jv h turns k).length<=2000:=by have:=EY h turns k;have:=yh oJ.out [];have:=HT.out.2;omega
  have Po:=EX (h:=h) (turns:=turns) (k:=k)
  have hsucc:jv h turns (k+1)=lT (jv h turns k) ys:=by
   rw[BR HT.out.2, <-HY.out]
   have:=HT.out.1
   rw[dA HT.out.2] at this
   injection this with this
   rw[this]
  have xK:=ae hsucc
  have yZ:=ae hF7
  have VS:=ae TP
  have wR:=ae (ag hkp (ag hrec (ag hD hs7)))
  have HV:=ae (ag hv1 (ag hv2 hv3))
  have HB:=ae hblk
  have abD:=ae Po
  generalize jv h turns k=ls at*
  clear hF7 TP hkp hrec hD hap hv1 hv2 hv3 hblk Bf hE' ahZ hE hcc Po hsucc hg c0 c1
  gi_wp2_with fail
  rcases(List.eq_nil_or_concat ls).imp id (fun⟨A,z,e⟩=>(⟨A,z,e.trans (List.concat_eq_append)⟩: ∃A z,ls=A++[z])) with rfl|⟨A,z,rfl⟩
  ·simp only[List.length_nil] at d1 HV
   refine dW 13 [] none [] (by kernel_rfl) (by kernel_rfl) (by kernel_rfl) ?_
   simp only[zt]
   repeat ((first|refine zd ?_|refine zk ?_);simp only[zp])
   have YQ:Hid (lT [] ys=[]++[ys]):=ae (by simp[lT])
   intro W8 ig Xy
   have hE:Ext [] W7 W8:=ig
   obtain⟨hc,hf⟩:=bV hE.below
   have hz8:=hE.size
   have hb8:=HB.out
   obtain⟨y0,y1,y2,y3,y4,y5,y6,y7,y8,y9,hys⟩:=Dc Hf
   rw[hys] at hb8
   have AA: ∀i,W7.cell? ⟨W6.heap.size,i,none⟩=(#[iv y0,iv y1,iv y2,iv y3,iv y4,iv y5,iv y6,iv y7,iv y8,iv y9]:Array Value)[i]? :=fun i=>by
    simp only[World.cell?,hb8];rfl
   have hz9:W6.heap.size<W8.heap.size:=by omega
   have EI:=aA (Ms:=[]) HV.out.2.1 hE (by simp)
   have iZ:=ae hE
   have HOW:=ae EI
   have CP:=ae hys
   clear hE ig Xy hb8 EI hys
   gi_wp2_with (gi_at_builtin;go_loud (refine qZ (fun _=>trivial) rfl vG rfl _ _ Zn rfl (w.heap.size+7) (.slice vo 0 vc) 0 (List.flatMap ah []) rfl ?_ (.slice (some ⟨W8.heap.size,0,none⟩) 1 1) 1 (ah [y0,y1,y2,y3,y4,y5,y6,y7,y8,y9]) rfl ?_ (jD _) (by omega) (by omega) (by simp;omega) ?_))
   ·refine aA (Ms:=[]) (w:=W8) ?_ (Ext.az ((aG _ _).alloc (ai _) _)) (by simp)
    simpa using HOW.out
   ·exact aK.dw 10 1 (ay _ _) rfl (by decide)
   ·intro v' W9 hown hgr hown'
    obtain⟨o9,c9,rfl⟩:=aT hown
    have xG:=ae hown
    have HG9:=ae hgr
    have HN9:=ae hown'
    have QZ:=bH HV.out.2.1
    have qA: ∀b,b<w.heap.size+7->b<W7.heap.size->W9.heap[b]? =W7.heap[b]? :=fun b hb hb7=>by
     refine(hgr.block b (by simp;omega) (fun e=>?_)).trans ((aW _ _ _ (by omega)).trans (iZ.out.block b hb7 (by simp)))
     have:=QZ b e.symm
     omega
    have hc9:=hc
    have Pm:W8.heap.size<W9.heap.size:=by have:=hgr.size;simp at this;omega
    have e1:W9.cell? ⟨w.heap.size+1+1,0,none⟩=some (.slice vo 0 vc):=aB ((qA _ (by omega) d3).trans HV.out.1)
    have e2:W9.frozen? ⟨w.heap.size+1+1,0,none⟩=false:=bF ((qA _ (by omega) d3).trans HV.out.1) 0
    have e3:=dP W9 _ e1
    have Ed:=ae qA
    clear hown hgr hown' qA hc9 AA hc hf QZ
    gi_wp2_with fail
    rw[CP.out] at YQ
    obtain⟨⟨PG,hP9⟩,hks,TF⟩:=VB (ls:=[]) (ys:=[y0,y1,y2,y3,y4,y5,y6,y7,y8,y9]) yZ.out VS.out HV.out.1 (fun g hg=>⟨bH HV.out.2.1 g hg,(HV.out.2.2 g hg).1⟩) iZ.out HG9.out HN9.out (by simpa using xG.out) hmb hw7
    have QZ:=bH HV.out.2.1
    have hap:=yZ.out.apart
    refine⟨⟨?_,?_,fun m hm h0 hml=>?_,by have:=wR.out.2.2.2;omega⟩,PG,?_⟩
    ·exact(hks _ (by omega) (fun e=>by have:=QZ _ e;omega) (by omega)).trans wR.out.2.1
    ·exact(hks _ (by omega) (fun e=>by have:=QZ _ e;omega) (by omega)).trans wR.out.2.2.1
    ·exact(hks m (by have:=wR.out.2.2.2;omega) (fun e=>(HV.out.2.2 m e).1 hm) (fun e=>(hap (w.heap.size+2) (by simp)).1 (by rw[<-e];exact hm))).trans (wR.out.1 m hm h0 hml)
    ·rw[xK.out,CP.out]
     exact YQ.out▸hP9
  ·have Pm:=abD.out z (by simp)
   obtain⟨gb,gc,hvv,hgb,TK,Fz⟩:=Dk (A:=A) (z:=z) (by simpa using HV.out.2.1) (fun x hx=>abD.out x (by simp[hx])) Pm
   have hcap:vo=some ⟨gb,0,none⟩:=by simp at hvv;exact hvv.1
   subst hcap
   have hzl:(ah z).length=10:=by simp[ah,Pm]
   have hyr:=yw HB.out
   (try simp only[dE,List.length_cons,List.length_nil,Nat.zero_add] at d1)
   (try simp only[dE,List.length_cons,List.length_nil,Nat.zero_add] at HV)
   (try simp only[dE,List.length_cons,List.length_nil,Nat.zero_add] at hln)
   have hAI:((A.length:Int)+1==0)=false:=by simp;omega
   have hA0: ¬((A.length:Int)+1=0):=by omega
   have hA1:((A.length:Int)+1).toNat=A.length+1:=by omega
   have hAm:(A.length:Int)+1-1=A.length:=by omega
   rcases hq:(z==ys) with _|_
   ·have YQ:Hid (lT (A++[z]) ys=(A++[z])++[ys]):=ae (by
     unfold lT
     rw[aj]
     simp only[List.getLast?_append,List.getLast?_singleton]
     intro e
     simp at e
     subst e;simp at hq)
    refine dW 13 [] none [] (by kernel_rfl) (by kernel_rfl) (by kernel_rfl) ?_
    simp only[zt]
    repeat ((first|refine zn ?_|refine zk ?_);simp only[zp])
    refine gq (by rfl) (.pointer (some ⟨gb,A.length*10,none⟩)) (by rfl) (fun W hW=>by go_simp;(try simp(disch:=omega) only[IntWalk.i64_in]);(try rw[aC (by omega)]);(try simp);(try (intro hx;exfalso;omega))) ?_
    simp only[zp]
    refine gq (by rfl) (.agg (ah z).toArray) (by rfl) (fun W hW=>jU 107 _ (by rfl) gb (A.length*10) (by rfl) (ah z) _ (fun j u hj=>(hW gb _ TK (by simp)).trans (Fz j u hj)) Tryz.underlying107 rfl (by rw[hzl];kernel_rfl)) ?_
    simp only[zp]
    refine gq (by rfl) (.agg (ah ys).toArray) (by rfl) (fun W hW=>jU 107 _ (by rfl) W6.heap.size 0 (by rfl) (ah ys) _ (fun j u hj=>(hW W6.heap.size _ d4 (by simp)).trans (hyr j u hj)) Tryz.underlying107 rfl (by rw[hyl];kernel_rfl)) ?_
    simp only[zp]
    refine gq (by rfl) (.bool true) (by rfl) (fun W hW=>(ou 107 3 _ 10 _ _ (by rfl) Tryz.underlying107 Tryz.underlying3 (by intro w;go_simp) (by kernel_rfl) z ys (by rfl) (by rfl) Pm Hf).trans (by rw[hq];rfl)) ?_
    simp only[zp]
    repeat ((first|refine zd ?_|refine zk ?_);simp only[zp])
    intro W8 ig Xy
    have hE:Ext [] W7 W8:=ig
    obtain⟨hc,hf⟩:=bV hE.below
    have hz8:=hE.size
    have hb8:=HB.out
    obtain⟨y0,y1,y2,y3,y4,y5,y6,y7,y8,y9,hys⟩:=Dc Hf
    rw[hys] at hb8
    have AA: ∀i,W7.cell? ⟨W6.heap.size,i,none⟩=(#[iv y0,iv y1,iv y2,iv y3,iv y4,iv y5,iv y6,iv y7,iv y8,iv y9]:Array Value)[i]? :=fun i=>by
     simp only[World.cell?,hb8];rfl
    have hz9:W6.heap.size<W8.heap.size:=by omega
    have EI:=aA (Ms:=[]) HV.out.2.1 hE (by simp)
    have iZ:=ae hE
    have HOW:=ae EI
    have CP:=ae hys
    clear hE ig Xy hb8 EI hys
    gi_wp2_with (gi_at_builtin;go_loud (refine qZ (fun _=>trivial) rfl vG rfl _ _ Zn rfl (w.heap.size+7) (.slice (some ⟨gb,0,none⟩) (A.length+1) vc) (A.length+1) (List.flatMap ah (A++[z])) rfl ?_ (.slice (some ⟨W8.heap.size,0,none⟩) 1 1) 1 (ah [y0,y1,y2,y3,y4,y5,y6,y7,y8,y9]) rfl ?_ (jD _) (by omega) (by omega) (by simp;omega) ?_))
    ·refine aA (Ms:=[]) (w:=W8) ?_ (Ext.az ((aG _ _).alloc (ai _) _)) (by simp)
     simpa using HOW.out
    ·exact aK.dw 10 1 (ay _ _) rfl (by decide)
    ·intro v' W9 hown hgr hown'
     obtain⟨o9,c9,rfl⟩:=aT hown
     have xG:=ae hown
     have HG9:=ae hgr
     have HN9:=ae hown'
     have QZ:=bH HV.out.2.1
     have qA: ∀b,b<w.heap.size+7->b<W7.heap.size->W9.heap[b]? =W7.heap[b]? :=fun b hb hb7=>by
      refine(hgr.block b (by simp;omega) (fun e=>?_)).trans ((aW _ _ _ (by omega)).trans (iZ.out.block b hb7 (by simp)))
      have:=QZ b e.symm
      omega
     have hc9:=hc
     have Pm:W8.heap.size<W9.heap.size:=by have:=hgr.size;simp at this;omega
     have e1:W9.cell? ⟨w.heap.size+1+1,0,none⟩=some (.slice (some ⟨gb,0,none⟩) (A.length+1) vc):=aB ((qA _ (by omega) d3).trans HV.out.1)
     have e2:W9.frozen? ⟨w.heap.size+1+1,0,none⟩=false:=bF ((qA _ (by omega) d3).trans HV.out.1) 0
     have e3:=dP W9 _ e1
     have Ed:=ae qA
     clear hown hgr hown' qA hc9 AA hc hf QZ
     gi_wp2_with fail
     rw[CP.out] at YQ
     obtain⟨⟨PG,hP9⟩,hks,TF⟩:=VB (ls:=(A++[z])) (ys:=[y0,y1,y2,y3,y4,y5,y6,y7,y8,y9]) yZ.out VS.out HV.out.1 (fun g hg=>⟨bH HV.out.2.1 g hg,(HV.out.2.2 g hg).1⟩) iZ.out HG9.out HN9.out (by simpa using xG.out) hmb hw7
     have QZ:=bH HV.out.2.1
     have hap:=yZ.out.apart
     refine⟨⟨?_,?_,fun m hm h0 hml=>?_,by have:=wR.out.2.2.2;omega⟩,PG,?_⟩
     ·exact(hks _ (by omega) (fun e=>by have:=QZ _ e;omega) (by omega)).trans wR.out.2.1
     ·exact(hks _ (by omega) (fun e=>by have:=QZ _ e;omega) (by omega)).trans wR.out.2.2.1
     ·exact(hks m (by have:=wR.out.2.2.2;omega) (fun e=>(HV.out.2.2 m e).1 hm) (fun e=>(hap (w.heap.size+2) (by simp)).1 (by rw[<-e];exact hm))).trans (wR.out.1 m hm h0 hml)
     ·rw[xK.out,CP.out]
      exact YQ.out▸hP9
   ·obtain rfl:z=ys:=by simpa using hq
    have YQ:Hid (lT (A++[z]) z=A++[z]):=ae (by
     unfold lT
     rw[aC]
     simp)
    refine dW 13 [] none [] (by kernel_rfl) (by kernel_rfl) (by kernel_rfl) ?_
    simp only[zt]
    repeat ((first|refine zn ?_|refine zk ?_);simp only[zp])
    refine gq (by rfl) (.pointer (some ⟨gb,A.length*10,none⟩)) (by rfl) (fun W hW=>by go_simp;(try simp(disch:=omega) only[IntWalk.i64_in]);(try rw[aC (by omega)]);(try simp);(try (intro hx;exfalso;omega))) ?_
    simp only[zp]
    refine gq (by rfl) (.agg (ah z).toArray) (by rfl) (fun W hW=>jU 107 _ (by rfl) gb (A.length*10) (by rfl) (ah z) _ (fun j u hj=>(hW gb _ TK (by simp)).trans (Fz j u hj)) Tryz.underlying107 rfl (by rw[hzl];kernel_rfl)) ?_
    simp only[zp]
    refine gq (by rfl) (.agg (ah z).toArray) (by rfl) (fun W hW=>jU 107 _ (by rfl) W6.heap.size 0 (by rfl) (ah z) _ (fun j u hj=>(hW W6.heap.size _ d4 (by simp)).trans (hyr j u hj)) Tryz.underlying107 rfl (by rw[hzl];kernel_rfl)) ?_
    simp only[zp]
    refine gq (by rfl) (.bool false) (by rfl) (fun W hW=>(ou 107 3 _ 10 _ _ (by rfl) Tryz.underlying107 Tryz.underlying3 (by intro w;go_simp) (by kernel_rfl) z z (by rfl) (by rfl) Pm Pm).trans (by simp)) ?_
    simp only[zp]
    repeat ((first|refine zd ?_|refine zk ?_);simp only[zp])
    intro W8 ig Xy
    have hE:Ext [] W7 W8:=ig
    obtain⟨hc,hf⟩:=bV hE.below
    have hz8:=hE.size
    have iZ:=ae hE
    clear hE ig Xy
    gi_wp2_with fail
    have hap:=yZ.out.apart
    refine⟨⟨?_,?_,fun m hm h0 hml=>?_,by have:=wR.out.2.2.2;omega⟩,(yZ.out.ja (iZ.out.nil) (fun m hm=> .inl hm) (yZ.out.cache.kept (iZ.out.block mb yZ.out.cache.lt (by simp)))).1,?_⟩
    ·exact(iZ.out.block _ (hap (w.heap.size+6) (by simp)).2 (by simp)).trans wR.out.2.1
    ·exact(iZ.out.block _ (hap (w.heap.size+5) (by simp)).2 (by simp)).trans wR.out.2.2.1
    ·exact(iZ.out.block m (by have:=wR.out.2.2.2;omega) (by simp)).trans (wR.out.1 m hm h0 hml)
    ·rw[xK.out,YQ.out]
     exact VS.out.kept iZ.out.size (fun b h1 h2=>iZ.out.block b (by omega) (by simp)) (fun g h1 h2 h3=>iZ.out.block g h2 (by simp)) (fun m hm=> .inl hm)
 case hdone=>
  rintro Ms W ⟨hF,hP⟩ hD hlt
  rw[yM] at hP
  obtain⟨v,hv1,hv2,hv3⟩:=hP.out
  obtain⟨vo,vc,rfl⟩:=aT hv2
  have hc:=aB hv1
  have hf:=bF hv1 0
  have hk:=dP W _ hc
  have HF:=ae hF
  have HV:=ae (ag hv1 hv2)
  clear hF hP hv1 hv2 hv3
  gi_wp2_with fail
  rw[hsz2] at hD
  have hD':(W.setCell ⟨w.heap.size+1+1,0,none⟩ (.slice vo (jK h turns).length vc)).heap[w.heap.size+5]? =some (.deferred (some [])):=(dL _ _ _ _ (by show w.heap.size+5≠w.heap.size+1+1;omega)).trans hD
  have hcell:((W.setCell ⟨w.heap.size+1+1,0,none⟩ (.slice vo (jK h turns).length vc)).putObj (w.heap.size+5) (.deferred none)).cell? ⟨w.heap.size+1+1,0,none⟩=some (.slice vo (jK h turns).length vc):=
   aB ((World.putObj_heap_other (by omega)).trans (aI HV.out.1 _))
  refine⟨by simp,.inl ⟨_,_,rfl,run_takeDeferred hD',?_⟩⟩
  have hF2:=(HF.out.own (HF.out.ext.set (p:=⟨w.heap.size+1+1,0,none⟩) (by show w.heap.size<=w.heap.size+1+1;omega) (.slice vo (jK h turns).length vc)) (by simp[World.setCell]) (HF.out.cache.kept (dL _ _ _ _ (by show mb≠w.heap.size+1+1;omega)))).put (Obj.deferred none) (r:=w.heap.size+5) (by omega) hmb
  refine⟨.slice vo (jK h turns).length vc,by simp[results,Tryz.results44,go_sem,hcell],_,rfl,?_,hF2.cache,hF2.ext⟩
  refine bY (dQ HV.out.2 fun g hg=>(World.putObj_heap_other ?_).trans (dL _ _ _ _ ?_)) (by omega)
  ·have:=(bH HV.out.2 g hg).1;omega
  ·have:=(bH HV.out.2 g hg).1;show g≠w.heap.size+1+1;omega
 case hstop=>rintro cd Ms W h;exact h.elim
end Go.Proofs.YthbpmepjmebolaaGreatDoor.jJ
end
section
namespace Go.Proofs.YthbpmepjmebolaaGreatDoor.jJ
open Go.RowKit Go.RG Go.SL Go.Shelf jC
def agh (R:List dY) (mb:Nat) (bn:Int) (w:World) (e:Ending) (w':World):Prop:=
 ∃v,e= .returned v/\w'.ownsRow w.heap.size 34 2 v R.length (aH R)/\Cache w' mb bn/\Ext [mb] w w'
theorem AY (h:dn) (hS:Sound h) (a b c tv:Value) (turns:List Int) (wb mb:Nat) (w:World) (hw:iW w wb mb h a b c) (h1:bM w a h.bQ) (h2:aP w b h.turns) (h3:bD w c h.readings) (h4:aP w tv turns):
 Calls Tryz.prog 105 #[.pointer (some ⟨wb,0,none⟩),tv] w (agh (rZ (h.last+1).toNat (jK h turns)) mb h.bn w):=by
 have HEV:=ae (KQ h hS a b c tv turns wb mb w hw h1 h2 h3 h4)
 obtain⟨oa,ca,rfl⟩:=h1.open
 obtain⟨ob,cb,rfl⟩:=h2.open
 obtain⟨oc,cc,rfl⟩:=h3.open
 obtain⟨ot,ct,rfl⟩:=h4.open
 have HW:=ae hw
 have oJ:=ae hS
 have hl0:=hS.KA
 have hl9:=hS.BI
 obtain⟨n,hn⟩: ∃n:Nat,h.last+1=n:=⟨(h.last+1).toNat,by omega⟩
 have Po:=Ik (h:=h) (turns:=turns)
 have hlen:(jK h turns).length<=2000:=jo (TY h turns) (yh hS [])
 rw[hn,Int.toNat_natCast]
 generalize jK h turns=ls at*
 clear hw h1 h2 h3 h4 hS
 go_enter Tryz.func105,Tryz.ntmps105
 go_wp2_with fail
 refine HEV.o.mono ?_
 rintro e w1 ⟨v,rfl,hown,hcc,hE⟩
 obtain⟨vo,vc,rfl⟩:=aT hown
 have HO:=ae hown
 have HC:=ae hcc
 have HE:=ae hE
 clear hown hcc hE
 go_wp2_with fail
 have hws:=HW.o
 go_loopw [4,12] (fun o u wr=> ∃k:Nat,k<=ls.length/\u= .int .i64 k/\ ∃oo Ko,o= .slice oo (bG n ls k).length Ko/\wr.ownsRow w1.heap.size 34 2 (.slice oo (bG n ls k).length Ko) (bG n ls k).length (aH (bG n ls k))/\Below w1.heap.size w1 wr)
  (fun _ u _=>ls.length-(intOf u).toNat)
 case atStart=>exact⟨0,bW _,rfl,none,0,rfl,⟨rfl,.inl ⟨rfl,rfl⟩⟩,aG _ _⟩
 case round=>
  obtain⟨k,hk,rfl,oo,Ko,rfl,how,hB⟩:=hrel
  by_cases hlt:k<ls.length
  ·have adV:=Po ls[k] (bT hlt)
   obtain⟨g0,c0,hv0,hg0,hr0⟩:=acr HO.o Po hlt
   have hvo:vo=some ⟨g0,0,none⟩:=by simp at hv0;exact hv0.1
   subst hvo
   have hr1:wr.rangeAt g0 (k*10) (ah ls[k]):=fun j u hj=>(hB.cell (p:=⟨g0,k*10+j,none⟩) hg0).trans (hr0 j u hj)
   have akY:ls.getD k []=ls[k]:=by simp[List.getD,hlt]
   generalize ls[k]=ys at*
   obtain⟨W2,hst,hblk,hE2⟩:=yl Tryz.prog ys (ay wr (.cells #[iv 0,iv 0,iv 0,iv 0,iv 0,iv 0,iv 0,iv 0,iv 0,iv 0] 107)) (by rw[adV];rfl)
   have hyl:(ah ys).length=10:=by simp[ah,adV]
   have hB2:Below wr.heap.size wr W2:=(Ext.below (Dz ((Ext.az (aG _ _)).alloc _) hE2 (ai _)))
   have aeL:iW W2 wb mb h (.slice oa h.bQ.length ca) (.slice ob h.turns.length cb) (.slice oc h.readings.length cc):=(HW.o.ext HE.o HC.o).below (aX hB hB2) (ai _)
   have c2:=aeL.cell
   have c3:=aeL.lt
   have xR:(k:Int)<ls.length:=by omega
   have hkn:((k:Int)).toNat=k:=by omega
   have HB:=ae hB
   have HB2:=ae hB2
   have HK:=ae hblk
   have HOW:=ae how
   clear hws hB hB2 hblk how aeL hE2 hr0
   go_wp2_with (refine wpList_load_mid rfl 107 _ rfl g0 (k*10) rfl (ah ys) _ hr1 Tryz.underlying107 rfl (by rw[hyl];kernel_rfl) ?_)
   refine(MQ h _ _ _ n _ hl0 hl9 hn).mono ?_
   rintro e W3 ⟨rfl,hb⟩
   have HB3:=ae (aX HB2.o hb)
   have hk3:W3.heap[wr.heap.size]? =some (.cells (ah ys).toArray 107 (0,0)):=(hb.block _ (aV.1 HK.o).1).trans HK.o
   have CW:=ae hk3
   clear hb hk3 c2 c3 hst hr1
   go_wp2_with fail
   have Xq:n<=10:=by omega
   have hR:k≠0->(bG n ls k).length=n:=qg n ls k
   have hR0:k=0->bG n ls k=[]:=fun e=>by subst e;rfl
   have H3:=ae (show _/\_/\_/\_ from ag (aA (Ms:=[]) HOW.o (Ext.az HB3.o) (by simp)) (ag (fun g (hg:(Value.slice oo (bG n ls k).length Ko).ownBlock=some g)=>(show g≠wr.heap.size from by have:=(bH HOW.o g hg).2;omega)) (ag (aX HB.o HB3.o) CW.o)))
   clear HB HB2 HB3 HOW HK CW
   generalize wr.heap.size=b6 at*
   go_loopw [4,22] (fun o u wq=> ∃i:Nat,i<=n/\u= .int .i64 i/\ ∃oo Ko,o= .slice oo (fC n k (bG n ls k) ys i).length Ko/\wq.ownsRow w1.heap.size 34 2 (.slice oo (fC n k (bG n ls k) ys i).length Ko) (fC n k (bG n ls k) ys i).length (aH (fC n k (bG n ls k) ys i))/\
    (∀g,(Value.slice oo (fC n k (bG n ls k) ys i).length Ko).ownBlock=some g->g≠b6)/\Below w1.heap.size w1 wq/\wq.heap[b6]? =some (.cells (ah ys).toArray 107 (0,0)))
    (fun _ u _=>n-(intOf u).toNat)
   case atStart=>
    refine⟨0,bW _,rfl,?_⟩
    rw[Sm hR hR0]
    exact⟨oo,Ko,rfl,H3.o⟩
   case round=>
    obtain⟨i,hi,rfl,Ve,OM,rfl,how,hne,hB,hblk⟩:=hrel
    by_cases hin:i<n
    ·have acS:i<ys.length:=by omega
     have hcell:=gJ hblk acS
     have hgx:ys.getD i 0=ys[i]:=by simp[List.getD,acS]
     have hkb:=(aV.1 hblk).1
     have hiI:(i:Int)<10:=by omega
     have apR:(i:Int)<n:=by omega
     have hiN:((i:Int)).toNat=i:=by omega
     generalize hxx:ys[i]=x at hcell hgx
     have HX:=ae hgx
     have HOI:=ae how
     have Lm:=ae hne
     have HBQ:=ae hB
     have HKQ:=ae hblk
     clear hgx how hne hB hblk hxx
     rcases Nat.eq_zero_or_pos k with hk0|hk0
     ·have ahR:((k:Int)==0)=true:=by simpa using hk0
      have ahx:(fC n k (bG n ls k) ys i).length=i:=by rw[hk0];exact tN _ _ _ _
      have happ:fC n k (bG n ls k) ys i++[(x,x)]=fC n k (bG n ls k) ys (i+1):=by rw[hk0, <-HX.o];exact WN
      have hlen1:(fC n k (bG n ls k) ys (i+1)).length=i+1:=by rw[hk0];exact tN _ _ _ _
      have HAP:=ae happ
      have HK0:=ae hk0
      have UZ:=ae (ag ahx hlen1)
      clear happ hk0 ahx hlen1
      go_wp2_with fail
      clear ahR
      refine zg 9 [] none [(8,Spec.slice wr.heap.size #[iv x,iv x] 34 1)] ?_
      simp only[zt]
      repeat (refine zd ?_;simp only[zp])
      refine cu wr.heap.size _ _ _ (by rfl) (ai _) (by rfl) (by simp) (by simp) (fun W hW=>by go_simp;try rfl) (fun b8=>?_)
      simp only[zp]
      intro W5 PI hF5
      have Nb:Ext [] wr W5:=PI
      obtain⟨b8',hb8,aqf,ad2⟩:=hF5 _ (bg _)
      cases hb8
      obtain⟨hc,hf⟩:=bV Nb.below
      have hz5:=Nb.size
      have HE5:=ae Nb
      have YR:=ae ad2
      have hown5:=aA (Ms:=[]) HOI.o Nb (by simp)
      have amw:=ae hown5
      have api:=HBQ.o.size
      clear PI hF5 Nb ad2 hown5
      go_wp2_with (at_builtin;go_loud (refine dF rfl _ _ LK rfl w1.heap.size (.slice Ve (fC n k (bG n ls k) ys i).length OM) (fC n k (bG n ls k) ys i).length (aH (fC n k (bG n ls k) ys i)) rfl amw.o (.slice (some ⟨b8,0,none⟩) 1 1) 1 (aH [(x,x)]) rfl (aK.dw 2 1 YR.o rfl (by decide)) (pz _) (by have:=UZ.o.1;omega) (by have:=UZ.o.1;omega) (by omega) ?_))
      intro v' W6 hown6 Jn adU
      have TJ:W6.ownsRow w1.heap.size 34 2 v' (fC n k (bG n ls k) ys (i+1)).length (aH (fC n k (bG n ls k) ys (i+1))):=by
       rw[UZ.o.2, <-HAP.o]
       have e1:aH (fC n k (bG n ls k) ys i++[(x,x)])=aH (fC n k (bG n ls k) ys i)++aH [(x,x)]:=by simp[aH]
       rw[e1]
       have hl:=UZ.o.1
       rw[hl] at hown6
       exact hown6
      obtain⟨o6,c6,rfl⟩:=aT TJ
      have xG:=ae TJ
      have HN9:Hid (∀g,(Value.slice o6 (fC n k (bG n ls k) ys (i+1)).length c6).ownBlock=some g->g≠b6):=ae (fun g hg=>by
       rcases adU with e|e
       ·rw[hg] at e;exact Lm.o g e.symm
       ·rw[hg] at e;injection e with e;omega)
      have ah9:(Value.slice Ve (fC n k (bG n ls k) ys i).length OM).ownBlock≠some b6:=fun e=>Lm.o b6 e rfl
      have zZ: ∀b,b<wr.heap.size->(Value.slice Ve (fC n k (bG n ls k) ys i).length OM).ownBlock≠some b->W6.heap[b]? =wr.heap[b]? :=fun b hb hn=>(Jn.block b (by omega) (fun e=>hn e.symm)).trans (HE5.o.block b hb (by simp))
      have hs6:=Jn.size
      have hk6:W6.heap[b6]? =some (.cells (ah ys).toArray 107 (0,0)):=(zZ b6 hkb ah9).trans HKQ.o
      have TS:Below w1.heap.size w1 W6:=⟨Jn.os.trans (HE5.o.os.trans HBQ.o.os),Jn.tape.trans (HE5.o.tape.trans HBQ.o.tape),Jn.output.trans (HE5.o.output.trans HBQ.o.output),by omega,
       fun b hb=>(zZ b (by omega) (fun e=>by have:=(bH HOI.o b e).1;omega)).trans (HBQ.o.block b hb)⟩
      have mW:=ae TS
      have Ed:=ae hk6
      have alm:W6.cell? ⟨b6,i,none⟩=some (.int .i64 x):=by
       have:=gJ hk6 acS
       rw[this]
       have hx:=HX.o
       simp only[List.getD,dA acS,Option.getD_some] at hx
       rw[hx]
      have apK:=(aV.1 hk6).1
      clear hown6 Jn adU TJ ah9 zZ hk6 TS hc hf hcell
      go_wp2_with fail
      have hlen1:=UZ.o.2
      have alg:(fC n k (bG n ls k) ys (i+1)).set i (wid ((fC n k (bG n ls k) ys (i+1)).getD i (0,0)) (ys.getD i 0))=fC n k (bG n ls k) ys (i+1):=by rw[HK0.o];exact Sr
      have hiL:i<((fC n k (bG n ls k) ys (i+1))).length:=by first|omega|(rw[wu _ _ _ _ _ hk0];omega)|(simp only[tN,List.length_append,List.length_cons,List.length_nil,qg,wu,ne_eq,hk0,not_false_eq_true];omega)
      (try clear hlen1)
      obtain⟨g9,c9,hv9,Jo,akX,⟨p0,p1⟩,hfz⟩:=pq xG.o hiL
      simp only[Value.slice.injEq,true_and] at hv9
      obtain⟨rfl,rfl⟩:=hv9
      have hgd:((fC n k (bG n ls k) ys (i+1))).getD i (0,0)=((fC n k (bG n ls k) ys (i+1)))[i]:=by simp[List.getD,hiL]
      have aeW: ¬g9=b6:=HN9.o g9 rfl
      have ak8:(i:Int)<(((fC n k (bG n ls k) ys (i+1))).length:Int):=by omega
      generalize EF:((fC n k (bG n ls k) ys (i+1)))[i]=r9 at p0 p1 hgd
      have HGD:=ae hgd
      have hf0:=hfz (i*2)
      have hf1:=hfz (i*2+1)
      clear hfz EF hgd
      refine zg 11 [] none [(9,Spec.val (rv (wid r9 x)))] ?_
      simp only[zt]
      repeat (refine zd ?_;simp only[zp])
      refine dK _ (by rfl) (by rfl) 171 _ (fun W hW=>by go_simp;(try simp(disch:=omega) only[IntWalk.i64_in]);try rfl) (fun W hE hF=>by exact JH r9 x W) ?_
      simp only[zp]
      repeat (refine zd ?_;simp only[zp])
      intro W8 ig Xy
      have MX:Ext [] W6 W8:=ig
      obtain⟨hc8,hf8⟩:=bV MX.below
      have hz8:=MX.size
      have iZ:=ae MX
      have aeZ:g9<W8.heap.size:=by omega
      clear ig Xy MX
      go_wp2_with fail
      go_roundw
      case rel=>
       have heq:fC n k (bG n ls k) ys (i+1)=((fC n k (bG n ls k) ys (i+1))).set i (wid r9 x):=by
        rw[<-HX.o, <-HGD.o]
        exact(alg).symm
       refine⟨i+1,by omega,by go_num,?_⟩
       rw[heq,qH]
       have hset:=nY (aA (Ms:=[]) xG.o iZ.o (by simp)) hiL (wid r9 x)
       refine⟨_,_,rfl,hset,fun g hg=>by cases hg;exact aeW,iG (iG (aX mW.o iZ.o.below) Jo _) Jo _,?_⟩
       exact(dL _ _ _ _ (by show b6≠g9;omega)).trans ((dL _ _ _ _ (by show b6≠g9;omega)).trans ((iZ.o.block b6 (aV.1 Ed.o).1 (by simp)).trans Ed.o))
      case measure=>simp[intOf];omega
     ·have apN: ¬((k:Int)=0):=by omega
      have ahR:((k:Int)==0)=false:=by simp;omega
      have hk0':k≠0:=by omega
      replace hk0:k≠0:=by omega
      go_wp2_with fail
      have xG:=HOI
      have HN9:=Lm
      have mW:=HBQ
      have Ed:=HKQ
      have hiL:i<((fC n k (bG n ls k) ys i)).length:=by first|omega|(rw[wu _ _ _ _ _ hk0];omega)|(simp only[tN,List.length_append,List.length_cons,List.length_nil,qg,wu,ne_eq,hk0,not_false_eq_true];omega)
      (try clear hlen1)
      obtain⟨g9,c9,hv9,Jo,akX,⟨p0,p1⟩,hfz⟩:=pq xG.o hiL
      simp only[Value.slice.injEq,true_and] at hv9
      obtain⟨rfl,rfl⟩:=hv9
      have hgd:((fC n k (bG n ls k) ys i)).getD i (0,0)=((fC n k (bG n ls k) ys i))[i]:=by simp[List.getD,hiL]
      have aeW: ¬g9=b6:=HN9.o g9 rfl
      have ak8:(i:Int)<(((fC n k (bG n ls k) ys i)).length:Int):=by omega
      generalize EF:((fC n k (bG n ls k) ys i))[i]=r9 at p0 p1 hgd
      have HGD:=ae hgd
      have hf0:=hfz (i*2)
      have hf1:=hfz (i*2+1)
      clear hfz EF hgd
      refine zg 11 [] none [(9,Spec.val (rv (wid r9 x)))] ?_
      simp only[zt]
      repeat (refine zd ?_;simp only[zp])
      refine dK _ (by rfl) (by rfl) 171 _ (fun W hW=>by go_simp;(try simp(disch:=omega) only[IntWalk.i64_in]);try rfl) (fun W hE hF=>by exact JH r9 x W) ?_
      simp only[zp]
      repeat (refine zd ?_;simp only[zp])
      intro W8 ig Xy
      have MX:Ext [] wr W8:=ig
      obtain⟨hc8,hf8⟩:=bV MX.below
      have hz8:=MX.size
      have iZ:=ae MX
      have aeZ:g9<W8.heap.size:=by omega
      clear ig Xy MX
      go_wp2_with fail
      go_roundw
      case rel=>
       have heq:fC n k (bG n ls k) ys (i+1)=((fC n k (bG n ls k) ys i)).set i (wid r9 x):=by
        rw[<-HX.o, <-HGD.o]
        exact(WM hk0 hin).symm
       refine⟨i+1,by omega,by go_num,?_⟩
       rw[heq,qH]
       have hset:=nY (aA (Ms:=[]) xG.o iZ.o (by simp)) hiL (wid r9 x)
       refine⟨_,_,rfl,hset,fun g hg=>by cases hg;exact aeW,iG (iG (aX mW.o iZ.o.below) Jo _) Jo _,?_⟩
       exact(dL _ _ _ _ (by show b6≠g9;omega)).trans ((dL _ _ _ _ (by show b6≠g9;omega)).trans ((iZ.o.block b6 (aV.1 Ed.o).1 (by simp)).trans Ed.o))
      case measure=>simp[intOf];omega
    ·have hin':i=n:=by omega
     subst hin'
     have hsucc:bG i ls (k+1)=fC i k (bG i ls k) ys i:=by
      show fC i k (bG i ls k) (ls.getD k []) i=_
      rw[akY]
     have HS:=ae (ag hsucc (ag how hB))
     clear hsucc how hB hblk hne
     go_wp2_with fail
     go_roundw
     case rel=>
      refine⟨k+1,by omega,by go_num,?_⟩
      rw[HS.o.1]
      exact⟨_,_,rfl,HS.o.2.1,HS.o.2.2⟩
     case measure=>simp[intOf];omega
  ·have hkl:k=ls.length:=by omega
   subst hkl
   have HF:=ae (ag how hB)
   clear how hB
   go_wp2_with fail
   go_returns
   exact⟨_,by simp,bY HF.o.1 (by have:=HE.o.size;omega),HC.o.kept (HF.o.2.block mb HC.o.lt),HE.o.bel HF.o.2⟩
end Go.Proofs.YthbpmepjmebolaaGreatDoor.jJ
namespace Go.Proofs.YthbpmepjmebolaaGreatDoor.jJ
open Go.RowKit Go.RG Go.SL Go.Shelf jC
def lQ (w:World) (v:Value) (ls:List (List Int)):Prop:=aK 10 w v ls.length (ls.flatMap ah)/\ ∀x∈ls,x.length=10
theorem lQ.len {w:World} {v:Value} {ls:List (List Int)} (h:lQ w v ls):ls.length<=9223372036854775807:=aK.len h.1
theorem lQ.open {w:World} {v:Value} {ls:List (List Int)} (h:lQ w v ls): ∃o c,v= .slice o ls.length c:=aK.open h.1
theorem lQ.below {w w':World} {v:Value} {ls:List (List Int)} (h:lQ w v ls) (hb:Below w.heap.size w w'):lQ w' v ls:=⟨h.1.below hb (ai _),h.2⟩
theorem lQ.cell {w:World} {o:Option Addr} {c:Nat} {ls:List (List Int)} (h:lQ w (.slice o ls.length c) ls) {k:Nat} (hk:k<ls.length):
 ∃b off,o=some ⟨b,off,none⟩/\b<w.heap.size/\w.rangeAt b (off+k*10) (ah ls[k]):=by
 obtain⟨⟨hl,o',c',hv,h1,h2,h3,h4⟩,h10⟩:=h
 cases hv
 cases o with
 |none=>have:=h3 rfl;omega
 |some a=>
  obtain⟨b,off,sp⟩:=a
  obtain⟨hs,hc⟩:=h4 _ rfl
  simp only at hs hc
  subst hs
  have hat: ∀j u,(ah ls[k])[j]? =some u->w.cell? ⟨b,off+k*10+j,none⟩=some u:=fun j u hj=>by
   have hj':j<10:=by have:=(jq.1 hj).1;simpa [ah,h10 _ (bT hk)] using this
   have:=hc (k*10+j) u (by rw[Ie ah 10 ls (fun x hx=>by simp[ah,h10 x hx]) k j hk hj'];exact hj)
   rw[<-Nat.add_assoc] at this
   exact this
  have h0:ls[k].length=10:=h10 _ (bT hk)
  have:=hat 0 (iv (ls[k][0]'(by omega))) (by simp[ah])
  exact⟨b,off,rfl,dP w _ this,hat⟩
theorem akw (l:List (List Int)) (v:Value) (bz:Nat) (fst caps:Array Value) (p:Nat->Bool) (I:Nat->World->Prop) (w:World) (eg: ∀args w,(callFunc bz args).run Tryz.prog w= .ok (.enter bz args) w)
 (hsl: ∀k W,I k W->lQ W v l)
 (hcall: ∀k (hk:k<l.length) W,(∀j,j<k->p j=false)->I k W->Calls Tryz.prog bz (fst.push (lY l[k])++caps) W (fun e W'=>e= .returned (.bool (p k))/\I (k+1) W')) (h0:I 0 w):
 Calls Tryz.prog 83 #[v,.func (.func bz) fst caps] w (eP l.length p I (fun k=>iv k) (iv (-1))):=by
 have hlen:=(hsl 0 w h0).len
 have h10:=(hsl 0 w h0).2
 obtain⟨o,c,rfl⟩:=(hsl 0 w h0).open
 have HC:=ae hcall
 have HS:=ae hsl
 have HT:=ae h10
 clear hcall hsl h10
 go_enter Tryz.func83,Tryz.ntmps83
 go_wp2
 go_loopw [4,5,8] (fun _ _ i wr=> ∃k:Nat,k<=l.length/\i= .int .i64 k/\(∀j,j<k->p j=false)/\I k wr) (fun _ _ i _=>l.length-(intOf i).toNat)
 case atStart=>exact⟨0,bW _,rfl,fun j hj=>by omega,h0⟩
 case round=>
  obtain⟨k,hk,rfl,hno,hI⟩:=hrel
  by_cases hlt:k<l.length
  ·obtain⟨b,off,rfl,hb,Fz⟩:=lQ.cell (HS.o k wr hI) hlt
   have hC:=HC.o k hlt wr hno hI
   have hyl:(ah l[k]).length=10:=by simp[ah,HT.o _ (bT hlt)]
   have xR:(k:Int)<l.length:=by omega
   have HN:=ae hno
   clear hno
   generalize l[k]=ys at*
   go_wp2_with (refine wpList_load_mid rfl 107 _ rfl b (off+k*10) rfl (ah ys) _ Fz Tryz.underlying107 rfl (by rw[hyl];kernel_rfl) ?_)
   refine hC.mono ?_
   rintro e W1 ⟨rfl,hI1⟩
   have HI:=ae hI1
   clear hI1 hI hC
   cases hp:p k
   ·go_wp2_with fail
    go_roundw
    case rel=>exact⟨k+1,by omega,by go_num,fun j hj=>(by by_cases e:j=k;(subst e;exact hp);exact HN.o j (by omega)),HI.o⟩
    case measure=>simp[intOf];omega
   ·go_wp2_with fail
    go_returns
    exact⟨k,by omega,HN.o,.inl ⟨hlt,hp,by simp,HI.o⟩⟩
  ·have hkl:k=l.length:=by omega
   have HN:=ae hno
   clear hno
   go_wp2_with fail
   go_returns
   exact⟨k,by omega,HN.o,.inr ⟨hkl,by simp,by subst hkl;exact hI⟩⟩
theorem ad8 (l:List (List Int)) (v:Value) (bz:Nat) (fst caps:Array Value) (p:Nat->Bool) (I:Nat->World->Prop) (w:World) (eg: ∀args w,(callFunc bz args).run Tryz.prog w= .ok (.enter bz args) w)
 (hsl: ∀k W,I k W->lQ W v l)
 (hcall: ∀k (hk:k<l.length) W,(∀j,j<k->p j=false)->I k W->Calls Tryz.prog bz (fst.push (lY l[k])++caps) W (fun e W'=>e= .returned (.bool (p k))/\I (k+1) W')) (h0:I 0 w):
 Calls Tryz.prog 47 #[v,.func (.func bz) fst caps] w (eP l.length p I (fun _=> .bool true) (.bool false)):=by
 have HI:=ae (akw l v bz fst caps p I w eg hsl hcall h0)
 have hlen:=(hsl 0 w h0).len
 clear hsl hcall h0 eg
 go_enter Tryz.func47,Tryz.ntmps47
 go_wp2_with fail
 refine HI.o.mono ?_
 clear HI
 rintro e W' ⟨k,hk,hno,⟨hlt,hp,rfl,hI⟩|⟨hkl,rfl,hI⟩⟩
 ·have HN:=ae (ag hno (ag hp hI))
  clear hno hp hI
  go_wp2_with fail
  go_returns
  exact⟨k,hk,HN.o.1,.inl ⟨hlt,HN.o.2.1,by simp,HN.o.2.2⟩⟩
 ·have HN:=ae (ag hno (ag hkl hI))
  clear hno hkl hI
  go_wp2_with fail
  go_returns
  exact⟨k,hk,HN.o.1,.inr ⟨HN.o.2.1,by simp,HN.o.2.1▸HN.o.2.2⟩⟩
theorem aiW (x:List Int) (h10:x.length=10) (bx bz:Nat) (fst caps:Array Value) (b:Bool) (W:World) (R:World->Prop) (eg: ∀args w,(callFunc bz args).run Tryz.prog w= .ok (.enter bz args) w)
 (hbx:W.cell? ⟨bx,0,none⟩=some (.func (.func bz) fst caps))
 (hcall:Calls Tryz.prog bz (fst.push (lY x)++caps) (W.alloc (.cells (ah x).toArray 107)) (fun e W'=>e= .returned (.bool b)/\R W')):
 Calls Tryz.prog 78 #[lY x,.pointer (some ⟨bx,0,none⟩)] W (fun e W'=>e= .returned (.bool !b)/\R W'):=by
 have hlt:=dP W _ hbx
 obtain⟨y0,y1,y2,y3,y4,y5,y6,y7,y8,y9,rfl⟩:=Dc h10
 have HC:=ae hcall
 clear hcall
 show Calls Tryz.prog 78 #[.agg #[iv y0,iv y1,iv y2,iv y3,iv y4,iv y5,iv y6,iv y7,iv y8,iv y9],.pointer (some ⟨bx,0,none⟩)] W _
 go_enter Tryz.func78,Tryz.ntmps78
 go_wp2_with fail
 refine HC.o.mono ?_
 rintro e W' ⟨rfl,hR⟩
 have HR:=ae hR
 clear hR
 go_wp2_with fail
 go_returns
 exact⟨by simp,HR.o⟩
theorem Yi (l:List (List Int)) (v:Value) (bz:Nat) (fst caps:Array Value) (q:List Int->Bool) (w:World) (hv:lQ w v l) (eg: ∀args w,(callFunc bz args).run Tryz.prog w= .ok (.enter bz args) w)
 (hcall: ∀x∈l, ∀W,Below w.heap.size w W->Calls Tryz.prog bz (fst.push (lY x)++caps) W (PV (.bool (q x)) W)):
 Calls Tryz.prog 45 #[v,.func (.func bz) fst caps] w (PV (.bool (l.all q)) w):=by
 have HI:=ae (ad8 l v 78 #[] #[.pointer (some ⟨w.heap.size,0,none⟩)] (fun k=>!q (l.getD k []))
  (fun k W=>Below w.heap.size w W/\W.heap[w.heap.size]? =some (.cells #[.func (.func bz) fst caps] 108 (0,0))) (w.alloc (.cells #[.func (.func bz) fst caps] 108))
  (enters_of Tryz.func78 (by kernel_rfl) rfl) (fun k W h=>hv.below h.1)
  (fun k hk W hno h=>by
    have hlt:w.heap.size<W.heap.size:=(aV.1 h.2).1
    have hgd:l.getD k []=l[k]:=by simp[List.getD,hk]
    rw[hgd]
    refine(aiW l[k] (hv.2 _ (bT hk)) w.heap.size bz fst caps (q l[k]) W (fun W'=>Below w.heap.size w W'/\W'.heap[w.heap.size]? =some (.cells #[.func (.func bz) fst caps] 108 (0,0))) eg (aB h.2) ?_)
    refine(hcall l[k] (bT hk) _ (ak h.1 _)).mono ?_
    rintro e W' ⟨rfl,hb⟩
    refine⟨rfl,aX (ak h.1 _) hb,(hb.block _ (by simp;omega)).trans ((aW _ _ _ hlt).trans h.2)⟩)
  ⟨ak (aG _ _) _,heap_alloc_new w _⟩)
 have hlen:=hv.len
 obtain⟨bb,hbb⟩: ∃bb,l.all q=bb:=⟨_,rfl⟩
 rw[hbb]
 have HQ:Hid (((List.range l.length).any fun k=>!q (l.getD k []))=!bb):=ae (by rw[<-hbb, <-jV l q [],List.all_eq_not_any_not];simp)
 clear hcall eg hv hbb
 go_enter Tryz.func45,Tryz.ntmps45
 go_wp2_with fail
 refine HI.o.mono ?_
 clear HI
 intro e W' hpost
 obtain⟨rfl,k,_,hI,_⟩:=hpost.all
 have HB:=ae hI
 rw[HQ.o]
 clear hI hpost
 cases bb
 all_goals
  go_wp2_with fail
  go_returns
  exact⟨by simp,HB.o⟩
theorem Ul (l:List (List Int)) (v:Value) (bz:Nat) (fst caps:Array Value) (q:List Int->Bool) (w:World) (hv:lQ w v l) (eg: ∀args w,(callFunc bz args).run Tryz.prog w= .ok (.enter bz args) w)
 (hcall: ∀x∈l, ∀W,Below w.heap.size w W->Calls Tryz.prog bz (fst.push (lY x)++caps) W (PV (.bool (q x)) W)):
 Calls Tryz.prog 47 #[v,.func (.func bz) fst caps] w (PV (.bool (l.any q)) w):=by
 refine(ad8 l v bz fst caps (fun k=>q (l.getD k [])) (fun _ W=>Below w.heap.size w W) w eg (fun k W h=>hv.below h) (fun k hk W _ h=>?_) (aG _ _)).mono ?_
 ·have hgd:l.getD k []=l[k]:=by simp[List.getD,hk]
  rw[hgd]
  refine(hcall l[k] (bT _) W h).mono ?_
  rintro e W' ⟨rfl,hb⟩
  exact⟨rfl,aX h hb⟩
 ·intro e W' hpost
  obtain⟨rfl,k,_,hI⟩:=hpost.all
  refine⟨?_,hI⟩
  have:=jV l (fun x=>!q x) []
  have e2:((List.range l.length).any fun k=>q (l.getD k []))=l.any q:=by
   rw[List.any_eq_not_all_not,this,List.any_eq_not_all_not]
  rw[e2]
  cases l.any q <;>rfl
end Go.Proofs.YthbpmepjmebolaaGreatDoor.jJ
namespace Go.Proofs.YthbpmepjmebolaaGreatDoor.jJ
open Go.RowKit Go.RG Go.SL Go.Shelf jC
def jW (h:dn) (turns:List Int):List dY:=if jm h turns=0 then rZ (h.last+1).toNat (jK h turns) else[]
theorem sO {h:dn} {turns:List Int} (he:jm h turns=0):Sound h:=by
 unfold jm at he
 split at he
 ·rename_i hf;exact absurd he hf
 ·rename_i hf;exact Gn (by simpa using hf)
theorem I5 (h:dn) (wv tv vJ N9:Value) (turns:List Int) (w:World) (hw:bM w wv h.bQ) (ht:aP w tv h.turns) (hx:bD w vJ h.readings) (htr:aP w N9 turns):
 Calls Tryz.prog 61 #[hv h wv tv vJ,N9] w (fun e w'=> ∃v,e= .returned (.tuple #[v,iv (jm h turns)])/\bM w' v (jW h turns)/\Below w.heap.size w w'):=by
 obtain⟨ow,cw,rfl⟩:=hw.open
 obtain⟨ot,ct,rfl⟩:=ht.open
 obtain⟨ox,cx,rfl⟩:=hx.open
 have HW:=ae hw
 have HT:=ae ht
 have HX:=ae hx
 clear hw ht hx
 obtain⟨oq,cq,rfl⟩:=htr.open
 have HQ:=ae htr
 clear htr
 obtain⟨E,hE⟩: ∃E,jm h turns=E:=⟨_,rfl⟩
 rw[hE]
 have HE:=ae hE
 clear hE
 go_enter Tryz.func61,Tryz.ntmps61
 go_wp2_with fail
 refine(wM h _ _ _ _ turns _ (HW.o.alloc _) (HT.o.alloc _) (HX.o.alloc _) (HQ.o.alloc _)).mono ?_
 rintro e w1 ⟨hb,⟨hne,rfl⟩|⟨h0,wb,mb,rfl,hwb,hmb,hwk⟩⟩
 ·rw[HE.o] at hne⊢
  have HB:=ae hb
  clear hb
  go_wp2_with fail
  go_returns
  exact⟨.slice none 0 0,by simp,by unfold jW;rw[HE.o,aj hne];exact pairs_nil _,aX (ak (aG _ _) _) HB.o⟩
 ·have hE0:E=0:=by rw[<-HE.o];exact h0
  subst hE0
  have HB:=ae hb
  have hS:=sO h0
  have NJ:=ae (AY h hS _ _ _ _ turns wb mb w1 hwk ((HW.o.alloc _).below hb (ai _)) ((HT.o.alloc _).below hb (ai _)) ((HX.o.alloc _).below hb (ai _)) ((HQ.o.alloc _).below hb (ai _)))
  have Xr:w.heap.size<=mb:=by simp at hmb;omega
  clear hb hwk h0 hS
  go_wp2_with fail
  refine NJ.o.mono ?_
  rintro e w2 ⟨v,rfl,hown,hcc,hE2⟩
  have HB2:=ae (iw (aX (ak (aG _ _) _) HB.o) hE2 Xr)
  have hsl:=aK.dR hown
  obtain⟨vo,vc,rfl⟩:=aT hown
  have HSL:=ae hsl
  clear hown hcc hE2 hsl
  go_wp2_with fail
  go_returns
  refine⟨.slice vo _ vc,by simp;rfl,?_,HB2.o⟩
  unfold jW
  rw[HE.o,aC rfl]
  exact HSL.o
def oK (h:dn) (turns:List Int):Int:=
 if jm h turns≠0 then 0 else if(jK h turns).all (mM h)=true then 1 else if(jK h turns).any (mM h)=true then 3 else 2
theorem Ec (h:dn) (wv tv vJ N9:Value) (turns:List Int) (w:World) (hw:bM w wv h.bQ) (ht:aP w tv h.turns) (hx:bD w vJ h.readings) (htr:aP w N9 turns):
 Calls Tryz.prog 16 #[hv h wv tv vJ,N9] w (fun e w'=>e= .returned (.tuple #[iv (oK h turns),iv (jm h turns)])/\Below w.heap.size w w'):=by
 obtain⟨ow,cw,rfl⟩:=hw.open
 obtain⟨ot,ct,rfl⟩:=ht.open
 obtain⟨ox,cx,rfl⟩:=hx.open
 have HW:=ae hw
 have HT:=ae ht
 have HX:=ae hx
 clear hw ht hx
 obtain⟨oq,cq,rfl⟩:=htr.open
 have HQ:=ae htr
 clear htr
 obtain⟨E,hE⟩: ∃E,jm h turns=E:=⟨_,rfl⟩
 obtain⟨V,hV⟩: ∃V,oK h turns=V:=⟨_,rfl⟩
 rw[hE,hV]
 have HE:=ae hE
 have HV:=ae hV
 clear hE hV
 go_enter Tryz.func16,Tryz.ntmps16
 go_wp2_with fail
 refine(wM h _ _ _ _ turns _ (HW.o.alloc _) (HT.o.alloc _) (HX.o.alloc _) (HQ.o.alloc _)).mono ?_
 rintro e w1 ⟨hb,⟨hne,rfl⟩|⟨h0,wb,mb,rfl,hwb,hmb,hwk⟩⟩
 ·rw[HE.o] at hne⊢
  have hv0:V=0:=by
   have hne':jm h turns≠0:=by rw[HE.o];exact hne
   rw[<-HV.o]
   unfold oK
   rw[aC hne']
  subst hv0
  have HB:=ae hb
  clear hb
  go_wp2_with fail
  go_returns
  exact⟨by simp,aX (ak (aG _ _) _) HB.o⟩
 ·have hE0:E=0:=by rw[<-HE.o];exact h0
  subst hE0
  have HB:=ae hb
  have hS:=sO h0
  have HEV:=ae (KQ h hS _ _ _ _ turns wb mb w1 hwk ((HW.o.alloc _).below hb (ai _)) ((HT.o.alloc _).below hb (ai _)) ((HX.o.alloc _).below hb (ai _)) ((HQ.o.alloc _).below hb (ai _)))
  have Xr:w.heap.size+1<=mb:=by simpa using hmb
  have hl0:=hS.KA
  have hl9:=hS.BI
  have hbx:w1.heap[w.heap.size]? =some (.cells #[.int .i64 h.last,.int .i64 h.size,.int .i64 h.bn,.int .i64 h.die,.int .i64 h.uT,.int .i64 h.start.1,.int .i64 h.start.2,.slice ow h.bQ.length cw,.slice ot h.turns.length ct,.slice ox h.readings.length cx] 39 (0,0)):=(hb.block _ (by simp)).trans (ay _ _)
  have HVV:Hid (V=if(jK h turns).all (mM h)=true then 1 else if(jK h turns).any (mM h)=true then 3 else 2):=ae (by
   rw[<-HV.o];unfold oK;rw[aj (by rw[h0];simp)])
  have Po:=Ik (h:=h) (turns:=turns)
  generalize jK h turns=ls at*
  have HBX:=ae hbx
  have abD:=ae Po
  clear hb hwk h0 hS hbx Po
  go_wp2_with fail
  refine HEV.o.mono ?_
  rintro e w2 ⟨v,rfl,hown,hcc,hE2⟩
  have hB2:=iw (aX (ak (aG _ _) _) HB.o) hE2 (by omega)
  have hbx2:=(hE2.block w.heap.size (aV.1 HBX.o).1 (by simp;omega)).trans HBX.o
  have hsl:lQ w2 v ls:=⟨aK.dR hown,abD.o⟩
  obtain⟨vo,vc,rfl⟩:=aT hown
  have hc0: ∀i,w2.cell? ⟨w.heap.size,i,none⟩=(#[.int .i64 h.last,.int .i64 h.size,.int .i64 h.bn,.int .i64 h.die,.int .i64 h.uT,.int .i64 h.start.1,.int .i64 h.start.2,.slice ow h.bQ.length cw,.slice ot h.turns.length ct,.slice ox h.readings.length cx]:Array Value)[i]? :=fun i=>by
   simp only[World.cell?,hbx2];rfl
  have hs2:=(aV.1 hbx2).1
  have HB2:=ae hB2
  have HSL:=ae hsl
  clear hown hcc hE2 hsl hB2 hbx2
  go_wp2_with fail
  have hkc: ∀x∈ls, ∀W,Calls Tryz.prog 46 ((#[hv h (.slice ow h.bQ.length cw) (.slice ot h.turns.length ct) (.slice ox h.readings.length cx)]:Array Value).push (lY x)++ #[]) W (PV (.bool (mM h x)) W):=
   fun x hx W=>Pg h ow ot ox _ _ _ _ _ _ x (abD.o x hx) W hl0 hl9
  have HKC:=ae hkc
  clear hkc
  refine(Yi ls (.slice vo ls.length vc) 46 #[hv h (.slice ow h.bQ.length cw) (.slice ot h.turns.length ct) (.slice ox h.readings.length cx)] #[] (mM h) w2 HSL.o (enters_of Tryz.func46 (by kernel_rfl) rfl) (fun x hx W _=>HKC.o x hx W)).mono ?_
  rintro e w3 ⟨rfl,hb3⟩
  have HB3:=ae hb3
  have hc3: ∀i,w3.cell? ⟨w.heap.size,i,none⟩=(#[.int .i64 h.last,.int .i64 h.size,.int .i64 h.bn,.int .i64 h.die,.int .i64 h.uT,.int .i64 h.start.1,.int .i64 h.start.2,.slice ow h.bQ.length cw,.slice ot h.turns.length ct,.slice ox h.readings.length cx]:Array Value)[i]? :=fun i=>(hb3.cell (p:=⟨w.heap.size,i,none⟩) hs2).trans (hc0 i)
  clear hb3 hc0
  obtain⟨A,hA⟩: ∃A,ls.all (mM h)=A:=⟨_,rfl⟩
  rw[hA] at HVV⊢
  clear hA
  cases A
  ·go_wp2_with fail
   refine(Ul ls (.slice vo ls.length vc) 46 #[hv h (.slice ow h.bQ.length cw) (.slice ot h.turns.length ct) (.slice ox h.readings.length cx)] #[] (mM h) w3 (HSL.o.below HB3.o) (enters_of Tryz.func46 (by kernel_rfl) rfl) (fun x hx W _=>HKC.o x hx W)).mono ?_
   rintro e w4 ⟨rfl,hb4⟩
   have HB4:=ae hb4
   clear hb4 hc3
   obtain⟨A,hA⟩: ∃A,ls.any (mM h)=A:=⟨_,rfl⟩
   rw[hA] at HVV⊢
   clear hA
   cases A
   all_goals
    go_wp2_with fail
    go_returns
    exact⟨by rw[HVV.o];simp,aX (aX HB2.o HB3.o) HB4.o⟩
  ·go_wp2_with fail
   go_returns
   exact⟨by rw[HVV.o];simp,aX HB2.o HB3.o⟩
end Go.Proofs.YthbpmepjmebolaaGreatDoor.jJ
namespace Go.Proofs.YthbpmepjmebolaaGreatDoor.jJ
open Go.RowKit Go.RG Go.SL Go.Shelf jC
end Go.Proofs.YthbpmepjmebolaaGreatDoor.jJ
namespace Go.Proofs.YthbpmepjmebolaaGreatDoor.jJ
open Go.RowKit Go.RG Go.SL Go.Shelf jC
end Go.Proofs.YthbpmepjmebolaaGreatDoor.jJ
end
section
namespace Go.Proofs.YthbpmepjmebolaaGreatDoor.jJ
open Go.RowKit Go.RG Go.SL Go.Shelf jC
end Go.Proofs.YthbpmepjmebolaaGreatDoor.jJ
namespace Go.Proofs.YthbpmepjmebolaaGreatDoor.jJ
open Go.RowKit Go.RG Go.SL Go.Shelf jC
abbrev TE:=Int×Value×List Int
abbrev tev (e:TE):Value:= .agg #[iv e.1,e.2.1]
def rV (es:List TE):List Value:=es.flatMap fun e=>[iv e.1,e.2.1]
def Cm (w:World) (v:Value) (es:List TE):Prop:=aK 2 w v es.length (rV es)
theorem Cm.len {w:World} {v:Value} {es:List TE} (h:Cm w v es):es.length<=9223372036854775807:=aK.len h
theorem Cm.open {w:World} {v:Value} {es:List TE} (h:Cm w v es): ∃o c,v= .slice o es.length c:=aK.open h
theorem Cm.cell {w:World} {o:Option Addr} {c:Nat} {es:List TE} (h:Cm w (.slice o es.length c) es) {k:Nat} (hk:k<es.length):
 ∃b off,o=some ⟨b,off,none⟩/\b<w.heap.size/\w.cell? ⟨b,off+k*2,none⟩=some (iv es[k].1)/\w.cell? ⟨b,off+k*2+1,none⟩=some es[k].2.1:=by
 obtain⟨hl,o',c',hv,h1,h2,h3,h4⟩:=h
 cases hv
 cases o with
 |none=>have:=h3 rfl;omega
 |some a=>
  obtain⟨b,off,sp⟩:=a
  obtain⟨hs,hc⟩:=h4 _ rfl
  simp only at hs hc
  subst hs
  have h0:=hc (k*2+0) (iv es[k].1) (by unfold rV;rw[jE _ 2 (fun _=>rfl) es k 0 hk (by omega)];rfl)
  have h1:=hc (k*2+1) es[k].2.1 (by unfold rV;rw[jE _ 2 (fun _=>rfl) es k 1 hk (by omega)];rfl)
  rw[Nat.add_zero] at h0
  rw[<-Nat.add_assoc] at h1
  exact⟨b,off,rfl,dP w _ h0,h0,h1⟩
theorem aeI (l:List TE) (v:Value) (bz:Nat) (fst caps:Array Value) (p:Nat->Bool) (I:Nat->World->Prop) (w:World) (eg: ∀args w,(callFunc bz args).run Tryz.prog w= .ok (.enter bz args) w)
 (hsl: ∀k W,I k W->Cm W v l)
 (hcall: ∀k (hk:k<l.length) W,(∀j,j<k->p j=false)->I k W->Calls Tryz.prog bz (fst.push (tev l[k])++caps) W (fun e W'=>e= .returned (.bool (p k))/\I (k+1) W')) (h0:I 0 w):
 Calls Tryz.prog 278 #[v,.func (.func bz) fst caps] w (eP l.length p I (fun k=>iv k) (iv (-1))):=by
 have hlen:=(hsl 0 w h0).len
 obtain⟨o,c,rfl⟩:=(hsl 0 w h0).open
 have HC:=ae hcall
 have HS:=ae hsl
 clear hcall hsl
 go_enter Tryz.func278,Tryz.ntmps278
 go_wp2
 go_loopw [4,5,8] (fun _ _ i wr=> ∃k:Nat,k<=l.length/\i= .int .i64 k/\(∀j,j<k->p j=false)/\I k wr) (fun _ _ i _=>l.length-(intOf i).toNat)
 case atStart=>exact⟨0,bW _,rfl,fun j hj=>by omega,h0⟩
 case round=>
  obtain⟨k,hk,rfl,hno,hI⟩:=hrel
  by_cases hlt:k<l.length
  ·obtain⟨b,off,rfl,hb,hc0,hc1⟩:=Cm.cell (HS.o k wr hI) hlt
   have hC:=HC.o k hlt wr hno hI
   have HN:=ae hno
   clear hno
   go_wp2_with fail
   refine hC.mono ?_
   rintro e W1 ⟨rfl,hI1⟩
   have HI:=ae hI1
   clear hI1 hI hC
   cases hp:p k
   ·go_wp2_with fail
    go_roundw
    case rel=>exact⟨k+1,by omega,by go_num,fun j hj=>(by by_cases e:j=k;(subst e;exact hp);exact HN.o j (by omega)),HI.o⟩
    case measure=>simp[intOf];omega
   ·go_wp2_with fail
    go_returns
    exact⟨k,by omega,HN.o,.inl ⟨hlt,hp,by simp,HI.o⟩⟩
  ·have hkl:k=l.length:=by omega
   have HN:=ae hno
   clear hno
   go_wp2_with fail
   go_returns
   exact⟨k,by omega,HN.o,.inr ⟨hkl,by simp,by subst hkl;exact hI⟩⟩
theorem aa9 (l:List TE) (v:Value) (bz:Nat) (fst caps:Array Value) (p:Nat->Bool) (I:Nat->World->Prop) (w:World) (eg: ∀args w,(callFunc bz args).run Tryz.prog w= .ok (.enter bz args) w)
 (hsl: ∀k W,I k W->Cm W v l)
 (hcall: ∀k (hk:k<l.length) W,(∀j,j<k->p j=false)->I k W->Calls Tryz.prog bz (fst.push (tev l[k])++caps) W (fun e W'=>e= .returned (.bool (p k))/\I (k+1) W')) (h0:I 0 w):
 Calls Tryz.prog 239 #[v,.func (.func bz) fst caps] w (eP l.length p I (fun _=> .bool true) (.bool false)):=by
 have HI:=ae (aeI l v bz fst caps p I w eg hsl hcall h0)
 have hlen:=(hsl 0 w h0).len
 clear hsl hcall h0 eg
 go_enter Tryz.func239,Tryz.ntmps239
 go_wp2_with fail
 refine HI.o.mono ?_
 clear HI
 rintro e W' ⟨k,hk,hno,⟨hlt,hp,rfl,hI⟩|⟨hkl,rfl,hI⟩⟩
 ·have HN:=ae (ag hno (ag hp hI))
  clear hno hp hI
  go_wp2_with fail
  go_returns
  exact⟨k,hk,HN.o.1,.inl ⟨hlt,HN.o.2.1,by simp,HN.o.2.2⟩⟩
 ·have HN:=ae (ag hno (ag hkl hI))
  clear hno hkl hI
  go_wp2_with fail
  go_returns
  exact⟨k,hk,HN.o.1,.inr ⟨HN.o.2.1,by simp,HN.o.2.1▸HN.o.2.2⟩⟩
theorem abo (x:TE) (bx bz:Nat) (fst caps:Array Value) (b:Bool) (W:World) (R:World->Prop) (eg: ∀args w,(callFunc bz args).run Tryz.prog w= .ok (.enter bz args) w)
 (hbx:W.cell? ⟨bx,0,none⟩=some (.func (.func bz) fst caps))
 (hcall:Calls Tryz.prog bz (fst.push (tev x)++caps) (W.alloc (.cells #[iv x.1,x.2.1] 163)) (fun e W'=>e= .returned (.bool b)/\R W')):
 Calls Tryz.prog 240 #[tev x,.pointer (some ⟨bx,0,none⟩)] W (fun e W'=>e= .returned (.bool !b)/\R W'):=by
 have hlt:=dP W _ hbx
 have HC:=ae hcall
 clear hcall
 go_enter Tryz.func240,Tryz.ntmps240
 go_wp2_with fail
 refine HC.o.mono ?_
 rintro e W' ⟨rfl,hR⟩
 have HR:=ae hR
 clear hR
 go_wp2_with fail
 go_returns
 exact⟨by simp,HR.o⟩
theorem allT (l:List TE) (v:Value) (bz:Nat) (fst caps:Array Value) (p:Nat->Bool) (I:Nat->World->Prop) (w:World) (eg: ∀args w,(callFunc bz args).run Tryz.prog w= .ok (.enter bz args) w)
 (hsl: ∀k W,I k W->Cm W v l) (hal: ∀k W o,I k W->I k (W.alloc o))
 (hcall: ∀k (hk:k<l.length) W,(∀j,j<k->p j=true)->I k W->Calls Tryz.prog bz (fst.push (tev l[k])++caps) W (fun e W'=>e= .returned (.bool (p k))/\I (k+1) W'/\jr w.heap.size W W')) (h0:I 0 w):
 Calls Tryz.prog 166 #[v,.func (.func bz) fst caps] w (eP l.length (fun k=>!p k) I (fun _=> .bool false) (.bool true)):=by
 have HI:=ae (aa9 l v 240 #[] #[.pointer (some ⟨w.heap.size,0,none⟩)] (fun k=>!p k)
  (fun k W=>I k W/\W.heap[w.heap.size]? =some (.cells #[.func (.func bz) fst caps] 227 (0,0))) (w.alloc (.cells #[.func (.func bz) fst caps] 227))
  (enters_of Tryz.func240 (by kernel_rfl) rfl) (fun k W h=>hsl k W h.1)
  (fun k hk W hno h=>by
    have hlt:w.heap.size<W.heap.size:=(aV.1 h.2).1
    refine(abo l[k] w.heap.size bz fst caps (p k) W (fun W'=>I (k+1) W'/\W'.heap[w.heap.size]? =some (.cells #[.func (.func bz) fst caps] 227 (0,0))) eg (aB h.2) ?_)
    refine(hcall k hk _ (fun j hj=>by simpa using hno j hj) (by first|exact hal _ _ _ h.1|exact h.1)).mono ?_
    rintro e W' ⟨rfl,h1,h2⟩
    refine⟨rfl,h1,(h2.block _ (ai _) (by first|exact hlt|(simp;omega))).trans (by first|exact h.2|exact(aW _ _ _ hlt).trans h.2)⟩)
  ⟨hal _ _ _ h0,heap_alloc_new w _⟩)
 have hlen:=(hsl 0 w h0).len
 clear hsl hcall h0 eg hal
 go_enter Tryz.func166,Tryz.ntmps166
 go_wp2_with fail
 refine HI.o.mono ?_
 clear HI
 rintro e W' ⟨k,hk,hno,⟨hlt,hp,rfl,hI,_⟩|⟨hkl,rfl,hI,_⟩⟩
 ·have HN:=ae (ag hno (ag hp hI))
  clear hno hp hI
  go_wp2_with fail
  go_returns
  exact⟨k,hk,HN.o.1,.inl ⟨hlt,HN.o.2.1,by simp,HN.o.2.2⟩⟩
 ·have HN:=ae (ag hno (ag hkl hI))
  clear hno hkl hI
  go_wp2_with fail
  go_returns
  exact⟨k,hk,HN.o.1,.inr ⟨HN.o.2.1,by simp,HN.o.2.1▸HN.o.2.2⟩⟩
theorem Wj (h:dn) (hS:Sound h) (oa ob oc:Option Addr) (na ca nb cb nc cc:Nat) (wb mb:Nat) (e:TE) (turns:List Int) (tv:Value) (bw bt:Nat) (W:World) (hb1:W.heap[bw]? =some (.cells #[.pointer (some ⟨wb,0,none⟩)] 100 (0,0))) (hb2:W.heap[bt]? =some (.cells #[tv] 36 (0,0)))
 (hwk:iW W wb mb h (.slice oa na ca) (.slice ob nb cb) (.slice oc nc cc)) (he:aP W e.2.1 e.2.2) (KH:aP W tv turns) (hlen:e.2.2.length<=10) (h0:0<=e.1) (h1:e.1<=500) (TD: ∀x∈e.2.2,0<=x/\x<=20):
 Calls Tryz.prog 167 #[tev e,.pointer (some ⟨bw,0,none⟩),.pointer (some ⟨bt,0,none⟩)] W (fun x W'=>x= .returned (.bool (mM h (lH h (e.1,e.2.2) turns)))/\Cache W' mb h.bn/\Ext [mb] W W'):=by
 obtain⟨ot,ct,rfl⟩:=KH.open
 obtain⟨start,ws,bQ⟩:=e
 replace he:aP W ws bQ:=he
 simp only at hlen h0 h1 TD
 obtain⟨ows,cws,rfl⟩:=aK.open he
 have hl0:=hS.KA
 have hl9:=hS.BI
 have c1:=aB hb1
 have c2:=aB hb2
 have s1:=dP W _ c1
 have s2:=dP W _ c2
 have c3:=hwk.cell
 have s3:=hwk.lt
 have hn1:=Dn hwk.cache hb1
 have hn2:=Dn hwk.cache hb2
 have hn3:=Dn hwk.cache hwk.cells
 have hmb:=hwk.cache.lt
 obtain⟨ys,hy⟩: ∃ys,lH h (start,bQ) turns=ys:=⟨_,rfl⟩
 have Hf:ys.length=10:=by rw[<-hy];exact kX _ _ _ _ _ _
 have hpl:=fun(W':World) (hb:Below W.heap.size W W')=>yz h _ _ _ wb mb start bQ turns _ _ W' (hwk.below hb (ai _)) (he.below hb (ai _)) (KH.below hb (ai _)) hlen hS.Og hS.Oe hS.PZ hS.PY h0 h1 TD
 obtain⟨q,hq⟩: ∃q,mM h ys=q:=⟨_,rfl⟩
 have hk:=fun(W':World)=>Pg h oa ob oc na ca nb cb nc cc ys Hf W' hl0 hl9
 show Calls Tryz.prog 167 #[.agg #[iv start,.slice ows bQ.length cws],.pointer (some ⟨bw,0,none⟩),.pointer (some ⟨bt,0,none⟩)] W (fun x W'=>x= .returned (.bool (mM h (lH h (start,bQ) turns)))/\Cache W' mb h.bn/\Ext [mb] W W')
 rw[hy] at hpl⊢
 rw[hq] at hk⊢
 have HPL:=ae hpl
 have HK:=ae hk
 clear hpl hk hb1 hb2 hwk he KH TD hy hq hS
 go_enter Tryz.func167,Tryz.ntmps167
 go_wp2_with fail
 obtain⟨W1,hW1⟩: ∃W1,W.alloc (.cells #[iv start,.slice ows bQ.length cws] 163)=W1:=⟨_,rfl⟩
 have hB1:Below W.heap.size W W1:=by rw[<-hW1];exact ak (aG _ _) _
 obtain⟨hc,hf⟩:=bV hB1
 have hz1:W1.heap.size=W.heap.size+1:=by rw[<-hW1];simp
 have hbt:W1.heap[W.heap.size]? =some (.cells #[iv start,.slice ows bQ.length cws] 163 (0,0)):=by rw[<-hW1];exact ay _ _
 have hgt: ∀i,W1.cell? ⟨W.heap.size,i,none⟩=(#[iv start,.slice ows bQ.length cws]:Array Value)[i]? :=fun i=>by
  simp only[World.cell?,hbt];rfl
 have z0:W.heap.size<W1.heap.size:=by omega
 have z1:bw<W1.heap.size:=by omega
 have z2:bt<W1.heap.size:=by omega
 have z3:wb<W1.heap.size:=by omega
 have hn4: ¬W.heap.size=mb:=by omega
 rw[hW1]
 have HB1:=ae hB1
 clear hW1 hB1 hbt
 refine zg 8 [mb] (some 7) [(7,⟨fun _ v=>v= .agg (ah ys).toArray,fun _ _ W=>Cache W mb h.bn⟩)] ?_
 simp only[zt]
 repeat (refine zd ?_;simp only[zp])
 refine bJ _ (by rfl) (by rfl) ⟨_,rfl⟩ (fun W5 hE hF=>?_) (fun v Wa Wb hc hE=>?_) (fun v hv=>?_)
 ·have hE':Ext [] W1 W5:=hE
  refine dG 77 #[.pointer (some ⟨wb,0,none⟩),.agg #[iv start,.slice ows bQ.length cws],.slice ot turns.length ct] (by go_simp;try rfl) ?_
  refine(HPL.o W5 (aX HB1.o hE'.below)).mono ?_
  rintro e W6 ⟨rfl,hcc,hE2⟩
  exact⟨_,rfl,rfl,hcc,hE2⟩
 ·have hE':Ext [] Wa Wb:=hE
  exact Cache.kept hc (hE'.block mb (Cache.lt hc) (by simp))
 obtain rfl:v= .agg (ah ys).toArray:=hv
 simp only[zp]
 intro W5 hE hF
 have hE':Ext [mb] W1 W5:=hE
 have hcc:Cache W5 mb h.bn:=hF _ (bg _)
 have HR:=ae (ag hcc ((Ext.az HB1.o).trans hE'))
 clear hE hF hE' hcc hgt
 go_wp2_with fail
 refine(HK.o W5).mono ?_
 rintro e W6 ⟨rfl,hb6⟩
 have qo:=ae hb6
 clear hb6 hc hf
 go_wp2_with fail
 go_returns
 exact⟨by simp,HR.o.1.kept (qo.o.block mb HR.o.1.lt),HR.o.2.bel qo.o⟩
theorem Zx (h:dn) (hS:Sound h) (a b c:Value) (wb mb:Nat) (es:List TE) (ev:Value) (turns:List Int) (tv:Value) (w:World) (hwk:iW w wb mb h a b c) (h1:bM w a h.bQ) (h2:aP w b h.turns) (h3:bD w c h.readings)
 (hev:Cm w ev es) (hes: ∀e∈es,aP w e.2.1 e.2.2/\e.2.2.length<=10/\(0<=e.1/\e.1<=500)/\ ∀x∈e.2.2,0<=x/\x<=20) (KH:aP w tv turns):
 Calls Tryz.prog 101 #[.pointer (some ⟨wb,0,none⟩),ev,tv] w (fun x w'=>x= .returned (.bool (es.all fun e=>mM h (lH h (e.1,e.2.2) turns)))/\Cache w' mb h.bn/\Ext [mb] w w'):=by
 obtain⟨oa,ca,rfl⟩:=h1.open
 obtain⟨ob,cb,rfl⟩:=h2.open
 obtain⟨oc,cc,rfl⟩:=h3.open
 obtain⟨ot,ct,rfl⟩:=KH.open
 obtain⟨oe,ce,rfl⟩:=Cm.open hev
 have hmb:=hwk.cache.lt
 obtain⟨q,hq⟩: ∃q,(es.all fun e=>mM h (lH h (e.1,e.2.2) turns))=q:=⟨_,rfl⟩
 have hall:=fun(w2:World) (hB:Below w.heap.size w w2) (hb0:w2.heap[w.heap.size]? =some (.cells #[.pointer (some ⟨wb,0,none⟩)] 100 (0,0))) (hb1:w2.heap[w.heap.size+1]? =some (.cells #[.slice ot turns.length ct] 36 (0,0)))=>
  allT es (.slice oe es.length ce) 167 #[] #[.pointer (some ⟨w.heap.size,0,none⟩),.pointer (some ⟨w.heap.size+1,0,none⟩)] (fun k=>mM h (lH h ((es.getD k (0,undef,[])).1,(es.getD k (0,undef,[])).2.2) turns))
   (fun _ W=>(Ext [mb] w W/\Cache W mb h.bn)/\W.heap[w.heap.size]? =some (.cells #[.pointer (some ⟨wb,0,none⟩)] 100 (0,0))/\W.heap[w.heap.size+1]? =some (.cells #[.slice ot turns.length ct] 36 (0,0))) w2 (enters_of Tryz.func167 (by kernel_rfl) rfl)
   (fun k W hI=>aK.gB hev hI.1.1 (fun x hx o=>by
     obtain rfl:x=mb:=by simpa using hx
     exact hwk.cache.ni o))
   (fun k W o hI=>⟨⟨hI.1.1.alloc o,hI.1.2.kept (aW _ _ _ hI.1.2.lt)⟩,(aW _ _ _ (aV.1 hI.2.1).1).trans hI.2.1,(aW _ _ _ (aV.1 hI.2.2).1).trans hI.2.2⟩)
   (fun k hk W _ hI=>by
     have hm: ∀x∈[mb], ∀o,w.cell? ⟨x,o,none⟩=none:=fun x hx o=>by
      obtain rfl:x=mb:=by simpa using hx
      exact hwk.cache.ni o
     obtain⟨k1,k2,k3,k4⟩:=hes es[k] (bT hk)
     have hgd:es.getD k (0,undef,[])=es[k]:=by simp[List.getD,hk]
     rw[hgd]
     refine(Wj h hS oa ob oc _ _ _ _ _ _ wb mb es[k] turns (.slice ot turns.length ct) w.heap.size (w.heap.size+1) W hI.2.1 hI.2.2 (hwk.ext hI.1.1 hI.1.2) (k1.gB hI.1.1 hm) (KH.gB hI.1.1 hm) k2 k3.1 k3.2 k4).mono ?_
     rintro e W' ⟨rfl,hc,hE⟩
     refine⟨rfl,⟨⟨hI.1.1.trans hE,hc⟩,(hE.block _ (aV.1 hI.2.1).1 (by simp;omega)).trans hI.2.1,(hE.block _ (aV.1 hI.2.2).1 (by simp;omega)).trans hI.2.2⟩,jr.wW hE (fun x hx=>?_)⟩
     have:=hB.size
     simp at hx
     omega)
   ⟨⟨Ext.az hB,hwk.cache.kept (hB.block mb hmb)⟩,hb0,hb1⟩
 have age:=ae hall
 have HQ:Hid (((List.range es.length).all fun k=>mM h (lH h ((es.getD k (0,undef,[])).1,(es.getD k (0,undef,[])).2.2) turns))=q):=ae (by rw[<-hq];exact jV es (fun e=>mM h (lH h (e.1,e.2.2) turns)) (0,undef,[]))
 rw[hq]
 have hlen:=Cm.len hev
 clear hall hq hes hev hwk h1 h2 h3 KH
 go_enter Tryz.func101,Tryz.ntmps101
 go_wp2_with fail
 refine(age.o _ zl ((aW _ _ _ (by simp)).trans (ay _ _)) (ed _ _ _)).mono ?_
 intro e W' hpost
 obtain⟨rfl,k,_,hI⟩:=hpost.all
 rw[jL,HQ.o]
 have HI:=ae hI
 clear hI hpost
 go_wp2_with fail
 go_returns
 exact⟨by simp,HI.o.1.2,HI.o.1.1⟩
end Go.Proofs.YthbpmepjmebolaaGreatDoor.jJ
namespace Go.Proofs.YthbpmepjmebolaaGreatDoor.jJ
open Go.RowKit Go.RG Go.SL Go.Shelf jC
attribute [local go_sem] Oper.semAt_some
theorem ace:iR Tryz.prog 191 163 (.agg #[iv 0,.slice none 0 0]) 2 32:=⟨Tryz.underlying191,by kernel_rfl,rfl,by omega⟩
def Om (h:dn) (turns:List Int):Bool:=(dX h []).all fun t=>mM h (lH h t turns)
def XG (h:dn):Option (List Int):=nN (h.last+1).toNat (Om h)
def AU (h:dn):Int:=if jm h []≠0 then jm h [] else if(XG h).isSome then 0 else 10
def TV (h:dn):List Int:=if jm h []≠0 then[] else(XG h).getD []
structure Few (w:World) (wb:Nat) (es:List TE) (Ms:List Nat) (W:World):Prop where
 b0:W.heap[w.heap.size]? =some (.cells #[.pointer (some ⟨wb,0,none⟩)] 100 (0,0))
 out: ∃v,W.heap[w.heap.size+1]? =some (.cells #[v] 191 (0,0))/\W.ownsRow (w.heap.size+6) 163 2 v es.length (rV es)/\(∀g,v.ownBlock=some g->g∉Ms/\g<W.heap.size)/\
  ∀e∈es,W.ownsRow (w.heap.size+6) 3 1 e.2.1 e.2.2.length (ah e.2.2)/\ ∀g,e.2.1.ownBlock=some g->(g∉Ms/\g<W.heap.size)/\v.ownBlock≠some g
 b3:W.heap[w.heap.size+1+1]? =some (.cells #[.pointer (some ⟨wb,0,none⟩)] 100 (0,0))
 b4:W.heap[w.heap.size+1+1+1]? =some (.cells #[.slice none 0 0] 36 (0,0))
theorem Few.kept {w:World} {wb:Nat} {es:List TE} {Ms Ms':List Nat} {W W':World} (h:Few w wb es Ms W) (hs:W.heap.size<=W'.heap.size) (hk: ∀b,w.heap.size<=b->b<w.heap.size+4->W'.heap[b]? =W.heap[b]?)
 (ho: ∀g,w.heap.size+6<=g->g<W.heap.size->g∉Ms->W'.heap[g]? =W.heap[g]?) (hM: ∀m∈Ms',m∈Ms∨(W.heap.size<=m/\m<W'.heap.size)):Few w wb es Ms' W':=by
 obtain⟨v,h1,h2,h3,h4⟩:=h.out
 have hnM: ∀g,(g∉Ms/\g<W.heap.size)->g∉Ms'/\g<W'.heap.size:=fun g ⟨hg1,hg2⟩=>⟨fun hm=>by
  rcases hM g hm with h5|h5
  ·exact hg1 h5
  ·omega,by omega⟩
 refine⟨(hk _ (by omega) (by omega)).trans h.b0,⟨v,(hk _ (by omega) (by omega)).trans h1,dQ h2 fun g hg=>ho g (bH h2 g hg).1 (bH h2 g hg).2 (h3 g hg).1,fun g hg=>hnM g (h3 g hg),fun e he=>?_⟩,
  (hk _ (by omega) (by omega)).trans h.b3,(hk _ (by omega) (by omega)).trans h.b4⟩
 obtain⟨k1,k2⟩:=h4 e he
 exact⟨dQ k1 fun g hg=>ho g (bH k1 g hg).1 (bH k1 g hg).2 (k2 g hg).1.1,fun g hg=>⟨hnM g (k2 g hg).1,(k2 g hg).2⟩⟩
theorem aaW {w W7 W8 W9:World} {wb mb:Nat} {bn:Int} {v v':Value} {es:List TE} {e:TE} {Os Ms:List Nat} (hF:Fr w mb bn Os Ms W7) (hP:Few w wb es Ms W7)
 (hv1:W7.heap[w.heap.size+1]? =some (.cells #[v] 191 (0,0))) (hv3: ∀g,v.ownBlock=some g->(w.heap.size+6<=g/\g<W7.heap.size)/\g∉Ms)
 (hE:Ext [] W7 W8) (hG:W8.grownBy W9 v.ownBlock) (hN:v'.ownBlock=v.ownBlock∨v'.ownBlock=some W8.heap.size) (hO:W9.ownsRow (w.heap.size+6) 163 2 v' (es.length+1) (rV es++[iv e.1,e.2.1]))
 (hC:W8.ownsRow W7.heap.size 3 1 e.2.1 e.2.2.length (ah e.2.2)) (hmb:mb<w.heap.size) (hs:w.heap.size+6<=W7.heap.size):
 (Fr w mb bn Os Ms (W9.setCell ⟨w.heap.size+1,0,none⟩ v')/\Few w wb (es++[e]) Ms (W9.setCell ⟨w.heap.size+1,0,none⟩ v'))/\
   (∀b,b<W7.heap.size->v.ownBlock≠some b->b≠w.heap.size+1->(W9.setCell ⟨w.heap.size+1,0,none⟩ v').heap[b]? =W7.heap[b]?)/\W7.heap.size<=(W9.setCell ⟨w.heap.size+1,0,none⟩ v').heap.size:=by
 have h1:=hE.size
 have h2:=hG.size
 have hk: ∀b,b<W7.heap.size->v.ownBlock≠some b->W9.heap[b]? =W7.heap[b]? :=fun b hb hn=>
  (hG.block b (by omega) (fun e=>hn e.symm)).trans (hE.block b hb (by simp))
 have hks: ∀b,b<W7.heap.size->v.ownBlock≠some b->b≠w.heap.size+1->(W9.setCell ⟨w.heap.size+1,0,none⟩ v').heap[b]? =W7.heap[b]? :=fun b hb hn hne=>
  (dL _ _ _ _ hne).trans (hk b hb hn)
 have hlow: ∀b,b<w.heap.size+6->v.ownBlock≠some b:=fun b hb e=>by have:=(hv3 b e).1.1;omega
 have hsz:W7.heap.size<=(W9.setCell ⟨w.heap.size+1,0,none⟩ v').heap.size:=by simp[World.setCell];omega
 have hb:=bH hO
 have hcb:=bH hC
 have aho: ∀g,v'.ownBlock=some g->g∉Ms/\g<W9.heap.size:=fun g hg=>⟨fun hm=>by
  rcases hN with hN|hN
  ·exact(hv3 g (by rw[<-hN,hg])).2 hm
  ·rw[hg] at hN
   injection hN with hN
   have:=hF.bnd g hm
   omega,(hb g hg).2⟩
 refine⟨⟨hF.own ⟨hG.os.trans (hE.os.trans hF.ext.os),hG.tape.trans (hE.tape.trans hF.ext.tape),hG.output.trans (hE.output.trans hF.ext.output),by have:=hF.ext.size;omega,fun k hk' hm=>(hks k (by have:=hF.ext.size;omega) (hlow k (by omega)) (by omega)).trans (hF.ext.block k hk' hm)⟩ hsz (hF.cache.kept (hks mb (by omega) (hlow mb (by omega)) (by omega))),?_⟩,hks,hsz⟩
 obtain⟨vv,q1,q2,q3,q4⟩:=hP.out
 have hvv:vv=v:=by
  rw[hv1] at q1
  simpa using q1.symm
 subst hvv
 refine⟨(hks _ (by omega) (hlow _ (by omega)) (by omega)).trans hP.b0,⟨v',?_,?_,fun g hg=>⟨(aho g hg).1,by have:=(aho g hg).2;simpa [World.setCell] using this⟩,fun x hx=>?_⟩,(hks _ (by omega) (hlow _ (by omega)) (by omega)).trans hP.b3,(hks _ (by omega) (hlow _ (by omega)) (by omega)).trans hP.b4⟩
 ·exact aI ((hk _ (by omega) (hlow _ (by omega))).trans hv1) _
 ·rw[dE]
  have:rV (es++[e])=rV es++[iv e.1,e.2.1]:=by simp[rV]
  rw[this]
  exact dQ hO fun g hg=>dL _ _ _ _ (by have:=(hb g hg).1;show g≠w.heap.size+1;omega)
 ·rcases iE.1 hx with hx|hx
  ·obtain⟨k1,k2⟩:=q4 x hx
   have kb:=bH k1
   refine⟨dQ k1 fun g hg=>hks g (kb g hg).2 (k2 g hg).2 (by have:=(kb g hg).1;omega),fun g hg=>⟨⟨(k2 g hg).1.1,by have:=(kb g hg).2;omega⟩,fun e1=>?_⟩⟩
   rcases hN with hN|hN
   ·exact(k2 g hg).2 (by rw[<-hN,e1])
   ·rw[e1] at hN
    injection hN with hN
    have:=(kb g hg).2
    omega
  ·obtain rfl:x=e:=by simpa using hx
   refine⟨bY (dQ hC fun g hg=>(dL _ _ _ _ (by have:=(hcb g hg).1;show g≠w.heap.size+1;omega)).trans (hG.block g (hcb g hg).2 (fun e1=>by have:=(hv3 g e1.symm).1.2;have:=(hcb g hg).1;omega))) (by omega),fun g hg=>⟨⟨fun hm=>?_,?_⟩,fun e1=>?_⟩⟩
   ·have:=hF.bnd g hm;have:=(hcb g hg).1;omega
   ·have:=(hcb g hg).2;simp[World.setCell];omega
   ·rcases hN with hN|hN
    ·have:=(hv3 g (by rw[<-hN,e1])).1.2;have:=(hcb g hg).1;omega
    ·rw[e1] at hN
     injection hN with hN
     have:=(hcb g hg).2;omega
end Go.Proofs.YthbpmepjmebolaaGreatDoor.jJ
namespace Go.Proofs.YthbpmepjmebolaaGreatDoor.jJ
open Go.RowKit Go.RG Go.SL Go.Shelf jC
attribute [local go_sem] Oper.semAt_some
theorem PK (h:dn) (hS:Sound h) (a b c:Value) (wb mb:Nat) (es:List TE) (o:Option Addr) (cp:Nat) (turns:List Int) (tv:Value) (bw bt:Nat) (W:World) (hb1:W.heap[bw]? =some (.cells #[.pointer (some ⟨wb,0,none⟩)] 100 (0,0))) (hb2:W.heap[bt]? =some (.cells #[.slice o es.length cp] 191 (0,0)))
 (hwk:iW W wb mb h a b c) (h1:bM W a h.bQ) (h2:aP W b h.turns) (h3:bD W c h.readings) (hev:Cm W (.slice o es.length cp) es)
 (hes: ∀e∈es,aP W e.2.1 e.2.2/\e.2.2.length<=10/\(0<=e.1/\e.1<=500)/\ ∀x∈e.2.2,0<=x/\x<=20) (KH:aP W tv turns):
 Calls Tryz.prog 100 #[tv,.pointer (some ⟨bw,0,none⟩),.pointer (some ⟨bt,0,none⟩)] W (fun x w'=>x= .returned (.bool (es.all fun e=>mM h (lH h (e.1,e.2.2) turns)))/\Cache w' mb h.bn/\Ext [mb] W w'):=by
 have HSF:=ae (Zx h hS a b c wb mb es (.slice o es.length cp) turns tv W hwk h1 h2 h3 hev hes KH)
 have c1:=aB hb1
 have c2:=aB hb2
 have s1:=dP W _ c1
 have s2:=dP W _ c2
 obtain⟨ot,ct,rfl⟩:=KH.open
 generalize (es.all fun e=>mM h (lH h (e.1,e.2.2) turns))=q at*
 clear hb1 hb2 hwk h1 h2 h3 hev hes KH
 go_enter Tryz.func100,Tryz.ntmps100
 go_wp2_with fail
 refine HSF.o.mono ?_
 rintro e W' ⟨rfl,hc,hE⟩
 have HR:=ae (ag hc hE)
 clear hc hE
 go_wp2_with fail
 go_returns
 exact⟨by simp,HR.o⟩
theorem U2 (h:dn) (wv tv vJ:Value) (w:World) (hw:bM w wv h.bQ) (ht:aP w tv h.turns) (hx:bD w vJ h.readings):
 Calls Tryz.prog 56 #[hv h wv tv vJ] w (fun e w'=> ∃v,e= .returned (.tuple #[v,iv (AU h)])/\aP w' v (TV h)/\Below w.heap.size w w'):=by
 obtain⟨ow,cw,rfl⟩:=hw.open
 obtain⟨ot,ct,rfl⟩:=ht.open
 obtain⟨ox,cx,rfl⟩:=hx.open
 have HW:=ae hw
 have HT:=ae ht
 have HX:=ae hx
 clear hw ht hx
 obtain⟨E,hE⟩: ∃E,AU h=E:=⟨_,rfl⟩
 obtain⟨L,hL⟩: ∃L,TV h=L:=⟨_,rfl⟩
 rw[hE,hL]
 have HE:=ae hE
 have HL:=ae hL
 clear hE hL
 refine(callsIn_wide (n:=0)).1 ?_
 refine callsIn_of_wp_marks Tryz.func56 rfl trivial ?_
 simp only[Tryz.ntmps56,List.size_toArray,List.length_cons,List.length_nil,Nat.reduceAdd,Nat.reduceSub,Array.replicate_succ,Array.replicate_zero,lL,lM,List.nil_append,List.cons_append]
 gi_wp2_with fail
 refine(callsIn_wide.2 (wM h _ _ _ _ [] _ (HW.out.alloc _) (HT.out.alloc _) (HX.out.alloc _) (qW _))).mono ?_
 rintro e w1 ⟨hb,⟨hne,rfl⟩|⟨h0,wb,mb,rfl,hwb,hmb,hwk⟩⟩
 ·have he:E=jm h []:=by rw[<-HE.out];unfold AU;rw[aC hne]
  have hl:L=[]:=by rw[<-HL.out];unfold TV;rw[aC hne]
  subst hl
  obtain⟨E',hE'⟩: ∃E',jm h []=E':=⟨_,rfl⟩
  rw[hE'] at hne he⊢
  subst he
  have HB:=ae hb
  clear hb
  gi_wp2_with fail
  refine⟨.tuple #[.slice none 0 0,iv E],by simp[results,Tryz.results56,go_sem],?_⟩
  exact⟨.slice none 0 0,by simp,qW _,ak (aX (ak (aG _ _) _) HB.out) _⟩
 ·have hS:=sO h0
  have Xr:w.heap.size+1<=mb:=by simpa using hmb
  have hb0:w1.heap[w.heap.size]? =some (.cells #[.int .i64 h.last,.int .i64 h.size,.int .i64 h.bn,.int .i64 h.die,.int .i64 h.uT,.int .i64 h.start.1,.int .i64 h.start.2,.slice ow h.bQ.length cw,.slice ot h.turns.length ct,.slice ox h.readings.length cx] 39 (0,0)):=(hb.block _ (by simp)).trans (ay _ _)
  have hbw:Below w.heap.size w w1:=aX (ak (aG _ _) _) hb
  have H1:=ae (HW.out.below hbw (ai _))
  have H2:=ae (HT.out.below hbw (ai _))
  have H3:=ae (HX.out.below hbw (ai _))
  have Y8:=ae hbw
  have HB0:=ae hb0
  have FZ:=ae hwk
  have oJ:=ae hS
  have hw0:=(aV.1 hb0).1
  have Ho:=hwk.cache.lt
  have VU:Hid (E=(if(XG h).isSome then 0 else 10)/\L=(XG h).getD []):=ae ⟨by rw[<-HE.out];unfold AU;rw[aj (by rw[h0];simp)],by rw[<-HL.out];unfold TV;rw[aj (by rw[h0];simp)]⟩
  clear hb hwk h0 hS hb0 hbw hwb hmb
  gi_wp2_with fail
  refine(callsIn_wide.2 (Af wb _ _ _ _)).mono ?_
  rintro e w1' ⟨rfl,rfl⟩
  gi_wp2_with fail
  obtain⟨w2,hw2⟩: ∃w2,((((w1.alloc (.cells #[.pointer (some ⟨wb,0,none⟩)] 100)).alloc (.cells #[.slice none 0 0] 191)).alloc (.cells #[.pointer (some ⟨wb,0,none⟩)] 100)).alloc (.cells #[.slice none 0 0] 36))=w2:=⟨_,rfl⟩
  have hB2:Below w1.heap.size w1 w2:=by rw[<-hw2];exact zl
  have hsz2:w2.heap.size=w1.heap.size+4:=by rw[<-hw2];simp
  have hP2:Few w1 wb [] [mb] w2:=by
   rw[<-hw2]
   have n3:=ay (((w1.alloc (.cells #[.pointer (some ⟨wb,0,none⟩)] 100)).alloc (.cells #[.slice none 0 0] 191)).alloc (.cells #[.pointer (some ⟨wb,0,none⟩)] 100)) (.cells #[.slice none 0 0] 36)
   simp only[bI] at n3
   refine⟨?_,⟨.slice none 0 0,?_,⟨rfl,.inl ⟨rfl,rfl⟩⟩,(fun g hg=>by cases hg),(fun e he=>by cases he)⟩,?_,n3⟩
   ·exact(aW _ _ _ (by first|omega|(simp;done)|(simp;omega))).trans ((aW _ _ _ (by first|omega|(simp;done)|(simp;omega))).trans ((aW _ _ _ (by first|omega|(simp;done)|(simp;omega))).trans (ay _ _)))
   ·exact(aW _ _ _ (by first|omega|(simp;done)|(simp;omega))).trans ((aW _ _ _ (by first|omega|(simp;done)|(simp;omega))).trans (ed _ _ _))
   ·exact(aW _ _ _ (by first|omega|(simp;done)|(simp;omega))).trans (iD _ _ _ _)
  rw[hw2]
  clear hw2
  refine mX (Ae h oJ.out (.slice ow h.bQ.length cw) (.slice ot h.turns.length ct) (.slice ox h.readings.length cx) (.slice none 0 0) [] wb mb (w1.heap.size+1+1) (w1.heap.size+1+1+1)) rfl (enters_of Tryz.func133 (by kernel_rfl) rfl) rfl (by simp;omega)
   (fun Ms k W=>Fr w1 mb h.bn [w1.heap.size,w1.heap.size+1,w1.heap.size+2,w1.heap.size+3,w1.heap.size+4,w1.heap.size+5] Ms W/\ ∃es:List TE,es.map (fun e=>(e.1,e.2.2))=(dX h []).take k/\Few w1 wb es Ms W)
   (fun _ _ _=>False)
   ?hInv ?um ?hI ?hIx ?Q3 ?yJ ?h0
   (fun a Ms k W1 a₁ W=> ∃(t:Int×List Int) (ob bt:Nat),(dX h [])[k]? =some t/\a₁={tmps:=(a.tmps.setIfInBounds 20 (.agg #[iv t.1,.slice (some ⟨ob,1,none⟩) t.2.length t.2.length])).setIfInBounds 7 (.pointer (some ⟨bt,0,none⟩)),defers:=[]}/\
     (Fr w1 mb h.bn [w1.heap.size,w1.heap.size+1,w1.heap.size+2,w1.heap.size+3,w1.heap.size+4,w1.heap.size+5] Ms W/\ ∃es:List TE,es.map (fun e=>(e.1,e.2.2))=(dX h []).take k/\Few w1 wb es Ms W)/\
     (W.heap[bt]? =some (.cells #[iv t.1,.slice (some ⟨ob,1,none⟩) t.2.length t.2.length] 163 (0,0))/\(w1.heap.size+6<=bt/\ob∈Ms/\ob≠mb)/\aP W (.slice (some ⟨ob,1,none⟩) t.2.length t.2.length) t.2)/\(∀m∈Ms,m∉[mb]->m<W1.heap.size->W.heap[m]? =W1.heap[m]?)/\W1.heap.size<=W.heap.size)
   ?TQ ?hassign ?hbody ?hdone ?hstop
  case hInv=>rintro Ms k W ⟨hF,es,hes,hP⟩;exact hF.ab8 FZ.out H1.out H2.out H3.out (qW w1) hP.b3 hP.b4
  case um=>rintro cd Ms W h;exact h.elim
  case hI=>
   rintro Ms Ms' k Wa Wb ⟨hF,es,hes,hP⟩ hE hMs hc
   exact⟨(hF.ja hE hMs hc).1,es,hes,hP.kept hE.size (fun b h1 h2=>(hF.ja hE hMs hc).2 b (by simp;omega)) (fun g h1 h2 h3=>hE.block g h2 h3) hMs⟩
  case hIx=>rintro cd Ms Ms' Wa Wb h;exact h.elim
  case Q3=>
   rintro Ms k W r o ⟨hF,es,hes,hP⟩ hr
   exact⟨hF.put o (by omega) Ho,es,hes,hP.kept (by simp) (fun b h1 h2=>World.putObj_heap_other (by omega)) (fun g h1 h2 h3=>World.putObj_heap_other (by omega)) (fun m hm=> .inl hm)⟩
  case yJ=>rintro cd Ms W r o h;exact h.elim
  case h0=>
   intro o o'
   have hB:Below w1.heap.size w1 ((w2.alloc o).alloc o'):=ak (ak hB2 _) _
   exact⟨⟨Ext.az hB,fun m hm=> .inl (by simpa using hm),fun m hm=>(by have:=hB.size;simp at hm;omega),fun b hb=>⟨by simp at hb⊢;omega,by simp at hb⊢;omega⟩,FZ.out.cache.kept (hB.block mb Ho)⟩,
    [],by simp,hP2.kept (by simp;omega) (fun b h1 h2=>(aW _ _ _ (by simp;omega)).trans (aW _ _ _ (by omega))) (fun g h1 h2 h3=>by omega) (fun m hm=> .inl hm)⟩
  case TQ=>
   rintro Ms k W1 a₁ W o ⟨t,ob,bt,ht,ha,⟨hF,es,hes,hP⟩,⟨hbt,⟨hb7,hob,hne⟩,hsl⟩,hk,hs⟩
   have hap:=(hF.apart (w1.heap.size+5) (by simp)).1
   refine⟨t,ob,bt,ht,ha,⟨hF.put o (by omega) Ho,es,hes,hP.kept (by simp) (fun b h1 h2=>World.putObj_heap_other (by omega)) (fun g h1 h2 h3=>World.putObj_heap_other (by omega)) (fun m hm=> .inl hm)⟩,
    ⟨(World.putObj_heap_other (by omega)).trans hbt,⟨hb7,hob,hne⟩,hsl.kept fun b off n c hv _=>by cases hv;exact World.putObj_heap_other (fun e=>hap (by rw[show w1.heap.size+5=ob by omega];exact hob))⟩,
    fun m hm h0 hml=>(World.putObj_heap_other (fun e=>hap (by rw[show w1.heap.size+5=m by omega];exact hm))).trans (hk m hm h0 hml),by simpa using hs⟩
  case hassign=>
   rintro Ms k v W hk ⟨hF,es,hes,hP⟩ ⟨ob,rfl,hsl,hob,hne⟩ hlt
   generalize ht:(dX h [])[k]=t at*
   have htk:(dX h [])[k]? =some t:=by rw[dA hk,ht]
   gi_wp2
   have hB:Below W.heap.size W (W.alloc (.cells #[iv t.1,.slice (some ⟨ob,1,none⟩) t.2.length t.2.length] 163)):=ak (aG _ _) _
   have hc:=hF.cache.kept (hB.block mb hF.cache.lt)
   exact⟨⟨t,ob,W.heap.size,htk,rfl,⟨(hF.ja (Ext.az hB) (fun m hm=> .inl hm) hc).1,es,hes,hP.kept (by simp) (fun b h1 h2=>aW _ _ _ (by omega)) (fun g h1 h2 h3=>aW _ _ _ (by omega)) (fun m hm=> .inl hm)⟩,
    ⟨ay _ _,⟨by omega,hob,hne⟩,hsl.alloc _⟩,fun m hm h0 hml=>aW _ _ _ (by omega),by simp⟩,aW _ _ _ (by omega),aW _ _ _ (by omega)⟩
  case hbody=>
   rintro Ms k W1 a₁ W busy hk ⟨t,ob,bt,ht,rfl,⟨hF,es,hes,hP⟩,⟨hbt,⟨hb7,hob,hne⟩,hsl⟩,hkeep,hsz⟩ hrec hD
   simp only[uD,List.set_cons_succ,List.set_cons_zero]
   obtain⟨v,hv1,hv2,hv3,hv4⟩:=hP.out
   obtain⟨vo,vc,rfl⟩:=aT hv2
   have htm:t∈dX h []:=mG ht
   obtain⟨hl2,hs0,hrest⟩:=Bi oJ.out htm
   have hlast:=oJ.out.BI
   have hwl:=oJ.out.Gg
   have hlk:es.length<=2000:=by
    have h5:=congrArg List.length hes
    rw[lJ,gX] at h5
    have:=yh oJ.out []
    omega
   have d1:=aB hv1
   have d2:=bF hv1 0
   have d3:=dP W _ d1
   have kt:=(aV.1 hbt).1
   have hg: ∀i,W.cell? ⟨bt,i,none⟩=(#[iv t.1,.slice (some ⟨ob,1,none⟩) t.2.length t.2.length]:Array Value)[i]? :=fun i=>by
    simp only[World.cell?,hbt];rfl
   have hw6:w1.heap.size+6<=W.heap.size:=by omega
   have htl:t.2.length<=10:=by omega
   clear hl2
   have HT2:=ae (ag ht hk)
   have HF:=ae hF
   have HP:=ae hP
   have HES:=ae hes
   have HSL:=ae hsl
   have HV:=ae (ag hv1 (ag hv2 hv3))
   have HK:=ae (ag hkeep (ag hrec hD))
   clear hF hP hkeep hrec hD hbt hsl ht hrest htm hes hv1 hv2 hv3 hv4
   gi_wp2_with fail
   refine dW 8 [] none [(5,⟨fun _ v=> ∃o c,v= .slice o t.2.length c,fun _ v Wx=>Wx.ownsRow W.heap.size 3 1 v t.2.length (ah t.2)⟩),(7,⟨fun _ v=> ∃b:Nat,v= .slice (some ⟨b,0,none⟩) 1 1,fun xs v Wx=> ∃(b:Nat) (x:Value),xs=[.agg #[iv t.1,x]]/\v= .slice (some ⟨b,0,none⟩) 1 1/\Wx.heap[b]? =some (.cells #[iv t.1,x] 163 (0,0))⟩)] (by kernel_rfl) (by kernel_rfl) (by kernel_rfl) ?_
   simp only[zt]
   repeat (refine zd ?_;simp only[zp])
   refine bJ _ (by rfl) (by rfl) (by exact⟨.slice none t.2.length 0,none,0,rfl⟩) (fun W5 hE hF=>?_) (fun v Wa Wb ho hE=>aA (Ms:=[]) ho hE (by simp)) (fun v hv=>?_)
   ·have hE':Ext [] W W5:=hE
    refine dG 98 #[.slice (some ⟨ob,1,none⟩) t.2.length t.2.length] (by go_simp;try rfl) ?_
    refine(clone_any t.2 _ W5 (HSL.out.below hE'.below (ai _)) (by omega)).mono ?_
    rintro e W6 ⟨v,rfl,ho,hb⟩
    exact⟨v,rfl,aT ho,bY ho hE'.size,Ext.az hb⟩
   obtain⟨o5,c5,rfl⟩:=hv
   simp only[zp]
   repeat (refine zd ?_;simp only[zp])
   refine bJ _ (by rfl) (by rfl) (by exact⟨.slice (some ⟨0,0,none⟩) 1 1,0,rfl⟩) (fun W5 hE hF=>?_) (fun v Wa Wb ho hE=>?_) (fun v hv=>?_)
   ·refine jl (W':=W5.alloc (.cells #[iv t.1,.slice o5 t.2.length c5] 163)) (.slice (some ⟨W5.heap.size,0,none⟩) 1 1) (by go_simp;try rfl) ⟨⟨_,rfl⟩,⟨_,_,rfl,rfl,heap_alloc_new _ _⟩,Ext.az ((aG _ _).alloc (ai _) _)⟩
   ·obtain⟨b,x,hx,hv,hc⟩:=ho
    exact⟨b,x,hx,hv,(hE.block b (aV.1 hc).1 (by simp)).trans hc⟩
   obtain⟨b7,rfl⟩:=hv
   simp only[zp]
   intro W8 ig Xy
   have hE:Ext [] W W8:=ig
   obtain⟨b7',x7,hx7,alr,hblk7⟩:=Xy _ (bg _)
   cases alr
   have aky:x7= .slice o5 t.2.length c5:=by
    have h9:[Value.agg #[iv t.1,.slice o5 t.2.length c5]]=[Value.agg #[iv t.1,x7]]:=hx7
    simp at h9
    exact h9.symm
   subst aky
   have hcl:W8.ownsRow W.heap.size 3 1 (.slice o5 t.2.length c5) t.2.length (ah t.2):=Xy _ (nC _ (bg _))
   obtain⟨hc,hf⟩:=bV hE.below
   have hz8:=hE.size
   have EI:=aA (Ms:=[]) HV.out.2.1 hE (by simp)
   have iZ:=ae hE
   have HOW:=ae EI
   have HCL:=ae hcl
   have xN:=ae hblk7
   clear hE ig Xy EI hcl hblk7 hx7 hg
   gi_wp2_with (gi_at_builtin;go_loud (refine qZ (fun _=>trivial) rfl vG rfl _ _ ace rfl (w1.heap.size+6) (.slice vo es.length vc) es.length (rV es) rfl HOW.out (.slice (some ⟨b7,0,none⟩) 1 1) 1 [iv t.1,.slice o5 t.2.length c5] rfl (aK.dw 2 1 xN.out rfl (by decide)) (by intro u hu;simp at hu;rcases hu with rfl|rfl <;>rfl) (by omega) (by omega) (by omega) ?_))
   intro v' W9 hown hgr hown'
   obtain⟨o9,c9,rfl⟩:=aT hown
   have xG:=ae hown
   have HG9:=ae hgr
   have HN9:=ae hown'
   have QZ:=bH HV.out.2.1
   have qA: ∀b,b<w1.heap.size+6->b<W.heap.size->W9.heap[b]? =W.heap[b]? :=fun b hb hb7=>
    (hgr.block b (by omega) (fun e=>by have:=QZ b e.symm;omega)).trans (iZ.out.block b hb7 (by simp))
   have Pm:W8.heap.size<=W9.heap.size:=hgr.size
   have e1:W9.cell? ⟨w1.heap.size+1,0,none⟩=some (.slice vo es.length vc):=aB ((qA _ (by omega) d3).trans HV.out.1)
   have e2:W9.frozen? ⟨w1.heap.size+1,0,none⟩=false:=bF ((qA _ (by omega) d3).trans HV.out.1) 0
   have e3:=dP W9 _ e1
   clear hown hgr hown' qA hc hf
   gi_wp2_with fail
   obtain⟨⟨PG,hP9⟩,hks,TF⟩:=aaW (e:=(t.1,.slice o5 t.2.length c5,t.2)) HF.out HP.out HV.out.1 (fun g hg=>⟨QZ g hg,(HV.out.2.2 g hg).1⟩) iZ.out HG9.out HN9.out xG.out HCL.out Ho hw6
   have hap:=HF.out.apart
   refine⟨⟨?_,?_,fun m hm h0 hml=>?_,by omega⟩,PG,es++[(t.1,.slice o5 t.2.length c5,t.2)],?_,hP9⟩
   ·refine(hks _ (hap (w1.heap.size+5) (by simp)).2 (fun e=>by have:=QZ _ e;omega) (by omega)).trans ?_
    rw[show w1.heap.size+5=w2.heap.size+1 by omega];exact HK.out.2.1
   ·refine(hks _ (hap (w1.heap.size+4) (by simp)).2 (fun e=>by have:=QZ _ e;omega) (by omega)).trans ?_
    rw[<-hsz2];exact HK.out.2.2
   ·exact(hks m (by omega) (fun e=>(HV.out.2.2 m e).1 hm) (fun e=>(hap (w1.heap.size+1) (by simp)).1 (by rw[<-e];exact hm))).trans (HK.out.1 m hm h0 hml)
   ·rw[List.map_append,HES.out,iy HT2.out.2]
    have:=HT2.out.1
    rw[dA HT2.out.2] at this
    injection this with this
    rw[this]
    rfl
  case hdone=>
   rintro Ms W ⟨hF,es,hes,hP⟩ hD hlt
   rw[List.take_length] at hes
   rw[hsz2] at hD
   obtain⟨v,hv1,hv2,hv3,hv4⟩:=hP.out
   obtain⟨vo,vc,rfl⟩:=aT hv2
   have hb0:=(hF.ext.block w.heap.size hw0 (by simp;omega)).trans HB0.out
   have hc0: ∀i,W.cell? ⟨w.heap.size,i,none⟩=(#[.int .i64 h.last,.int .i64 h.size,.int .i64 h.bn,.int .i64 h.die,.int .i64 h.uT,.int .i64 h.start.1,.int .i64 h.start.2,.slice ow h.bQ.length cw,.slice ot h.turns.length ct,.slice ox h.readings.length cx]:Array Value)[i]? :=fun i=>by
    simp only[World.cell?,hb0];rfl
   have t0:=(aV.1 hb0).1
   have hl0:=oJ.out.KA
   have hl9:=oJ.out.BI
   obtain⟨n,hn⟩: ∃n:Nat,h.last+1=n:=⟨(h.last+1).toNat,by omega⟩
   have hm: ∀x∈[mb], ∀o,W.cell? ⟨x,o,none⟩=none:=fun x hx o=>by
    obtain rfl:x=mb:=by simpa using hx
    exact hF.cache.ni o
   have hmw: ∀x∈[mb], ∀o,w1.cell? ⟨x,o,none⟩=none:=fun x hx o=>by
    obtain rfl:x=mb:=by simpa using hx
    exact FZ.out.cache.ni o
   have hbd: ∀e∈es,e.2.2.length<=10/\(0<=e.1/\e.1<=500)/\ ∀x∈e.2.2,0<=x/\x<=20:=fun e he=>by
    have hmem:(e.1,e.2.2)∈dX h []:=by rw[<-hes];exact iV.2 ⟨e,he,rfl⟩
    obtain⟨k1,k2,k3⟩:=Bi oJ.out hmem
    have:=oJ.out.Gg
    simp only at k1 k2 k3
    exact⟨by omega,k2,k3⟩
   have hsf: ∀l,(es.all fun e=>mM h (lH h (e.1,e.2.2) l))=Om h l:=fun l=>by
    unfold Om
    rw[<-hes,List.all_map]
    rfl
   have hsh:=fun(W3:World) (hB:Below W.heap.size W W3)=>LQ n (by omega) (Om h) mb h.bn W3 (hF.cache.kept (hB.block mb hF.cache.lt)) 100 #[] #[.pointer (some ⟨w1.heap.size,0,none⟩),.pointer (some ⟨w1.heap.size+1,0,none⟩)] (enters_of Tryz.func100 (by kernel_rfl) rfl)
    (fun l v W' hE hcc hv=>by
      have hEW:Ext [mb] W W':=(Ext.az hB).trans hE
      have YY:Ext [mb] w1 W':=hF.ext.trans hEW
      refine(PK h oJ.out _ _ _ wb mb es vo vc l v w1.heap.size (w1.heap.size+1) W' ((hEW.block _ (aV.1 hP.b0).1 (by simp;omega)).trans hP.b0) ((hEW.block _ (aV.1 hv1).1 (by simp;omega)).trans hv1)
       (FZ.out.ext YY hcc) (H1.out.gB YY hmw) (H2.out.gB YY hmw) (H3.out.gB YY hmw) (aK.gB (aK.dR hv2) hEW hm) (fun e he=>⟨aK.gB (aK.dR (hv4 e he).1) hEW hm,hbd e he⟩) hv).mono ?_
      rintro x W'' ⟨rfl,k1,k2⟩
      exact⟨by rw[hsf],k1,k2⟩)
   have HSH:=ae hsh
   have HF:=ae hF
   have HD:=ae hD
   have hn':(h.last+1).toNat=n:=by omega
   have HFS:Hid (XG h=nN n (Om h)):=ae (by unfold XG;rw[hn'])
   clear hsh hF hP hD hv1 hv2 hv3 hv4 hb0 hbd hsf hm hmw hes hn'
   gi_wp2_with fail
   refine(callsIn_wide.2 (MQ h _ _ _ n _ hl0 hl9 hn)).mono ?_
   rintro e W3 ⟨rfl,hb3⟩
   have HB3:=ae hb3
   clear hb3 hc0
   gi_wp2_with fail
   refine(callsIn_wide.2 (HSH.out W3 HB3.out)).mono ?_
   rintro e W4 ⟨⟨hcc,Vz⟩,hres⟩
   have Vy:Ext [mb] W W4:=(Ext.az HB3.out).trans Vz
   have hD4:W4.heap[w1.heap.size+4]? =some (.deferred (some [])):=(Vy.block _ (aV.1 HD.out).1 (by simp;omega)).trans HD.out
   have hB4:Below w.heap.size w W4:=iw (iw Y8.out HF.out.ext (by omega)) Vy (by omega)
   have HD4:=ae hD4
   have HB4:=ae hB4
   clear hcc Vz Vy hD4 hB4
   rw[<-HFS.out] at hres
   rcases hres with⟨c0,sv,hfs,rfl,vU⟩|⟨hnone,o',n',c',rfl⟩
   ·have he0:E=0:=by rw[VU.out.1,hfs];rfl
    have hl0':L=c0:=by rw[VU.out.2,hfs];rfl
    subst he0
    subst hl0'
    obtain⟨so,sc,rfl⟩:=vU.open
    have HIV:=ae vU
    clear vU hfs
    gi_wp2_with fail
    refine⟨by simp,.inl ⟨_,_,rfl,run_takeDeferred HD4.out,?_⟩⟩
    refine⟨.tuple #[.slice so L.length sc,iv 0],by simp[results,Tryz.results56,go_sem],⟨_,rfl,?_,iw HB4.out (FY W4 _ _) (by have:=Y8.out.size;omega)⟩⟩
    exact aK.gB HIV.out (FY W4 _ _) (fun x hx o=>by
     obtain rfl:x=w1.heap.size+4:=by simpa using hx
     simp[World.cell?,HD4.out])
   ·have he0:E=10:=by rw[VU.out.1,hnone];rfl
    have hl0':L=[]:=by rw[VU.out.2,hnone];rfl
    subst he0
    subst hl0'
    clear hnone
    gi_wp2_with fail
    refine⟨by simp,.inl ⟨_,_,rfl,run_takeDeferred HD4.out,?_⟩⟩
    exact⟨.tuple #[.slice none 0 0,iv 10],by simp[results,Tryz.results56,go_sem],⟨_,rfl,qW _,iw HB4.out (FY W4 _ _) (by have:=Y8.out.size;omega)⟩⟩
  case hstop=>rintro cd Ms W h;exact h.elim
end Go.Proofs.YthbpmepjmebolaaGreatDoor.jJ
namespace Go.Proofs.YthbpmepjmebolaaGreatDoor.jJ
open Go.RowKit Go.RG Go.SL Go.Shelf jC
end Go.Proofs.YthbpmepjmebolaaGreatDoor.jJ
namespace Go.Proofs.YthbpmepjmebolaaGreatDoor.jJ
open Go.RowKit Go.RG Go.SL Go.Shelf jC
end Go.Proofs.YthbpmepjmebolaaGreatDoor.jJ
namespace Go.Proofs.YthbpmepjmebolaaGreatDoor.jJ
open Go.RowKit Go.RG Go.SL Go.Shelf jC
end Go.Proofs.YthbpmepjmebolaaGreatDoor.jJ
end

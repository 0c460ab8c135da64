/-
  Texts of this claim, packed by a program: WC WD WE.
-/
import Derived.WalkKit
import Derived.WalkLawsBesides
import Derived.WalkSpells
import Derived.Outline
import Derived.Handy
import Derived.KernelRfl
import Derived.Lib.Hide
import Derived.Deep.MidRow
import Derived.Laws.StructEq
import Derived.Maps.AppendAt
import Derived.WalkMore
import Derived.Deep.LoopGhost
import Derived.OwnWalkIn
import Derived.Test.YthbpmepjmebolaaGreatDoorPU5
import Derived.Test.YthbpmepjmebolaaGreatDoorPU9
set_option maxHeartbeats 8000000
set_option maxRecDepth 100000
set_option linter.all false
section
namespace Go.SL
open Go.RowKit Go.RG
end Go.SL
namespace Go.Proofs.YthbpmepjmebolaaGreatDoor.jG
open Go.RowKit Go.RG Go.SL Go.Shelf jv
structure xx (w0:World) (mb:Nat) (bg:Int) (zH:Value) (below fb pb bb ab:Nat) (W:World):Prop where
 ext:Ext [mb] w0 W
 cache:Cache W mb bg
 found: ∃o n c,W.heap[fb]? =some (.cells #[.slice o n c] 36 (0,0))
 pass:W.heap[pb]? =some (.cells #[zH] 157 (0,0))
 bound:W.heap[bb]? =some (.cells #[iv below] 3 (0,0))
 add:W.heap[ab]? =some (.cells #[.func (.func 165) #[] #[.pointer (some ⟨fb,0,none⟩),.pointer (some ⟨pb,0,none⟩),.pointer (some ⟨bb,0,none⟩),.pointer (some ⟨ab,0,none⟩)]] 256 (0,0))
 new:w0.heap.size<=fb/\w0.heap.size<=pb/\w0.heap.size<=bb/\w0.heap.size<=ab
 old:mb<w0.heap.size
theorem xx.table {w0 W W':World} {mb:Nat} {bg:Int} {zH:Value} {below fb pb bb ab:Nat} (h:xx w0 mb bg zH below fb pb bb ab W) (hE:Ext [mb] W W') (hc:Cache W' mb bg):xx w0 mb bg zH below fb pb bb ab W':=by
 have hn:=h.new
 have ho:=h.old
 obtain⟨o,n,c,hf⟩:=h.found
 have k: ∀(b:Nat) (x:Obj),W.heap[b]? =some x->w0.heap.size<=b->W'.heap[b]? =some x:=fun b x hb hle=>(hE.block b (aV.1 hb).1 (by simp;omega)).trans hb
 exact⟨h.ext.trans hE,hc,⟨o,n,c,k _ _ hf hn.1⟩,k _ _ h.pass hn.2.1,k _ _ h.bound hn.2.2.1,k _ _ h.add hn.2.2.2,hn,ho⟩
theorem xx.below {w0 W W':World} {mb:Nat} {bg:Int} {zH:Value} {below fb pb bb ab:Nat} (h:xx w0 mb bg zH below fb pb bb ab W) (hB:Below W.heap.size W W'):xx w0 mb bg zH below fb pb bb ab W':=
 h.table (Ext.az hB) (h.cache.kept (hB.block mb h.cache.lt))
end Go.Proofs.YthbpmepjmebolaaGreatDoor.jG
namespace Go.Proofs.YthbpmepjmebolaaGreatDoor.jG
open Go.RowKit Go.RG Go.SL Go.Shelf jv
def adn (w0:World) (mb:Nat) (bg:Int) (zH:Value) (below fb pb bb ab:Nat) (r:Option (List Int)) (W:World) (e:Ending) (W':World):Prop:=
 (xx w0 mb bg zH below fb pb bb ab W'/\Ext [mb,fb] W W')/\((∃c,r=some c/\e= .returned (.bool true)/\ ∃sv,W'.heap[fb]? =some (.cells #[sv] 36 (0,0))/\aP W' sv c)∨(r=none/\e= .returned (.bool false)))
theorem xx.set {w0 W:World} {mb:Nat} {bg:Int} {zH:Value} {below fb pb bb ab:Nat} (h:xx w0 mb bg zH below fb pb bb ab W) (hd:fb≠pb/\fb≠bb/\fb≠ab) (o:Option Addr) (n c:Nat):xx w0 mb bg zH below fb pb bb ab (W.setCell ⟨fb,0,none⟩ (.slice o n c)):=by
 have hn:=h.new
 have ho:=h.old
 obtain⟨o',n',c',hf⟩:=h.found
 exact⟨h.ext.set hn.1 _,h.cache.kept (dI _ _ _ _ (by show mb≠fb;omega)),⟨o,n,c,aJ hf _⟩,
  (dI _ _ _ _ (by show pb≠fb;omega)).trans h.pass,(dI _ _ _ _ (by show bb≠fb;omega)).trans h.bound,(dI _ _ _ _ (by show ab≠fb;omega)).trans h.add,hn,ho⟩
theorem xx.not {w0 W:World} {mb:Nat} {bg:Int} {zH:Value} {below fb pb bb ab:Nat} (h:xx w0 mb bg zH below fb pb bb ab W): ∀x∈[mb,fb], ∀o n,W.cell? ⟨x,o,none⟩≠some (.int .i64 n):=by
 intro x hx o n hc
 obtain⟨o',n',c',hf⟩:=h.found
 rcases iy.1 hx with rfl|hx
 ·rw[h.cache.nz o] at hc;cases hc
 ·obtain rfl:x=fb:=by simpa using hx
  simp only[World.cell?,hf] at hc
  cases o with
  |zero=>simp at hc
  |succ o=>simp at hc
theorem add_any (below:Nat) (hbl:below<=500) (p:List Int->Bool) (mb:Nat) (bg:Int) (w0:World) (pf:Nat) (qj kY:Array Value) (fb pb bb ab:Nat) (hd:fb≠pb/\fb≠bb/\fb≠ab)
 (eg: ∀args w,(callFunc pf args).run Tryz.prog w= .ok (.enter pf args) w)
 (wu: ∀l v W,Ext [mb] w0 W->Cache W mb bg->aP W v l->Calls Tryz.prog pf (qj.push v++kY) W (fun e W'=>e= .returned (.bool (p l))/\Cache W' mb bg/\Ext [mb] W W')):
 ∀(m f:Nat) (l:List Int) (v:Value) (W:World),l.length+m<=900->f<=900->m<=900->xx w0 mb bg (.func (.func pf) qj kY) below fb pb bb ab W->aP W v l->
  Calls Tryz.prog 165 #[v,iv f,iv m,.pointer (some ⟨fb,0,none⟩),.pointer (some ⟨pb,0,none⟩),.pointer (some ⟨bb,0,none⟩),.pointer (some ⟨ab,0,none⟩)] W
   (adn w0 mb bg (.func (.func pf) qj kY) below fb pb bb ab (((jO below m f).map (l++ ·)).find? p) W):=by
 intro m
 induction m with
 |zero=>
  intro f l v W h1 h2 h3 hst hv
  have hres:((jO below 0 f).map (l++ ·)).find? p=if p l then some l else none:=by
   simp only[jO,List.map_cons,List.map_nil,List.append_nil,List.find?_cons,List.find?_nil]
   cases p l <;>rfl
  obtain⟨r,hr⟩: ∃r,((jO below 0 f).map (l++ ·)).find? p=r:=⟨_,rfl⟩
  rw[hr] at hres⊢
  have xU:=ae hres
  clear hr hres
  obtain⟨o,c,rfl⟩:=hv.open
  obtain⟨o',n',c',hf⟩:=hst.found
  have c1:=aC hf
  have c2:=aC hst.pass
  have hlt:=dN W _ c1
  have hfr:=bD hf 0
  have hS:=hst.set hd o l.length c
  have hv1:aP (W.setCell ⟨fb,0,none⟩ (.slice o l.length c)) (.slice o l.length c) l:=aP.uT hv ((mQ W ⟨fb,0,none⟩ _).more (Ms':=[mb,fb]) (by simp)) hst.not
  have HC:=ae (wu l _ _ hS.ext hS.cache hv1)
  have HS:=ae hst
  have Nc:=ae (ag hS hv1)
  have HF:=ae hf
  have hd1: ¬pb=fb:=fun e=>hd.1 e.symm
  have hd2:=hd.1
  clear wu hst hv hS hv1 hf
  go_enter Tryz.func165,Tryz.ntmps165
  go_wp2_with fail
  refine HC.o.mono ?_
  rintro e W' ⟨rfl,hcc,hE⟩
  have hS2:=Nc.o.1.table hE hcc
  have hn:=HS.o.new
  have ho:=HS.o.old
  have hfb:W'.heap[fb]? =some (.cells #[.slice o l.length c] 36 (0,0)):=(hE.block fb (by simpa [World.setCell] using hlt) (by simp;omega)).trans (aJ HF.o _)
  have hEE:Ext [mb,fb] W W':=((mQ W ⟨fb,0,none⟩ (.slice o l.length c)).more (by simp)).trans (hE.more (by simp))
  have hv2:aP W' (.slice o l.length c) l:=aP.uT Nc.o.2 (hE.more (Ms':=[mb,fb]) (by simp)) Nc.o.1.not
  have HR:=ae (ag hS2 (ag hfb (ag hEE hv2)))
  clear hcc hE hS2 hfb hEE hv2
  go_wp2_with fail
  go_returns
  refine⟨⟨HR.o.1,HR.o.2.2.1⟩,?_⟩
  have hre:=xU.o
  revert hre
  cases p l
  ·intro hre;exact .inr ⟨by simpa using hre,by simp⟩
  ·intro hre;exact .inl ⟨l,by simpa using hre,by simp,_,HR.o.2.1,HR.o.2.2.2⟩
 |succ m ih=>
  intro f l v W h1 h2 h3 hst hv
  obtain⟨o,c,rfl⟩:=hv.open
  have hres:((jO below (m+1) f).map (l++ ·)).find? p=((List.range (below-m-f)).flatMap fun j=>(jO below m (f+j+1)).map ((l++[((f+j:Nat):Int)])++ ·)).find? p:=by
   conv=>lhs;unfold jO
   rw[List.map_flatMap]
   simp only[List.map_map]
   congr 2
   funext j
   apply List.map_congr_left
   intro x _
   simp
  rw[hres]
  clear hres
  obtain⟨r,hr⟩: ∃r,((List.range (below-m-f)).flatMap fun j=>(jO below m (f+j+1)).map ((l++[((f+j:Nat):Int)])++ ·)).find? p=r:=⟨_,rfl⟩
  rw[hr]
  have xU:=ae hr
  clear hr
  have hmm:(m:Int)+1<=900:=by omega
  have hm0:((m:Int)+1==0)=false:=by simp;omega
  have akK: ¬((m:Int)+1=0):=by omega
  rw[show(((m+1:Nat)):Int)=(m:Int)+1 from by omega]
  have HST:=ae hst
  have HV:=ae hv
  have HIH:=ae ih
  have HD:=ae hd
  clear wu hst hv ih hd
  go_enter Tryz.func165,Tryz.ntmps165
  go_wp2_with fail
  go_loopw [11] (fun i wr=> ∃q:Nat,f<=q/\q<=f+(below-m-f)/\i= .int .i64 q/\xx w0 mb bg (.func (.func pf) qj kY) below fb pb bb ab wr/\Ext [mb,fb] W wr/\
   (∀j,f+j<q->((jO below m (f+j+1)).map ((l++[((f+j:Nat):Int)])++ ·)).find? p=none)) (fun i _=>below+f+1-(intOf i).toNat)
  case atStart=>exact⟨f,ak _,by omega,rfl,HST.o,Ext.refl _ _,fun j hj=>by omega⟩
  case round=>
   obtain⟨q,hfq,hq,rfl,hst,hE,hno⟩:=hrel
   have hv:=aP.uT HV.o hE HST.o.not
   have d1:=aC hst.bound
   have d2:=aC hst.add
   have e1:=dN wr _ d1
   have e2:=dN wr _ d2
   have HS:=ae hst
   have HE:=ae hE
   have HN:=ae hno
   have HVV:=ae hv
   clear hst hE hno hv
   by_cases hlt:q<f+(below-m-f)
   ·have hqI:(q:Int)<=(below:Int)-((m:Int)+1):=by omega
    have hq9:(q:Int)<=500:=by omega
    go_wp2_with fail
    refine qF 10 [] (some 5) [(2,⟨fun _ v=> ∃o c,v= .slice o l.length c,fun _ _ _=>True⟩),(4,⟨fun _ v=> ∃b:Nat,v= .slice (some ⟨b,0,none⟩) 1 1,fun _ _ _=>True⟩),(5,⟨fun _ v=> ∃o c,v= .slice o (l.length+1) c,fun _ v W=>W.ownsRow wr.heap.size 3 1 v (l.length+1) (ah (l++[(q:Int)]))⟩)] (agt wr.heap.size l.length l q) (by kernel_rfl) (by kernel_rfl) ?_
    simp only[zt]
    repeat (refine zd ?_;simp only[zp])
    refine kW _ (by rfl) (by rfl) (by exact⟨.slice none l.length 0,none,0,rfl⟩) (fun W1 hE hF hG=>?_) (fun _ _ _ _ _=>trivial) (fun v Wa Wb ho hE=>aB (Ms:=[]) ho hE (by simp)) (fun v hv=>?_)
    ·have hE':uO wr.heap.size [] wr W1:=hE
     refine dB 98 #[.slice o l.length c] (by go_simp;try rfl) ?_
     refine(clone_any l _ W1 (HVV.o.below (qx hE' (ak _)) (ak _)) (by omega)).mono ?_
     rintro e W2 ⟨v,rfl,ho,hb⟩
     refine⟨v,rfl,aS ho,trivial,Ext.az hb,dh ho hE'.size⟩
    obtain⟨o2,c2,rfl⟩:=hv
    simp only[zp]
    repeat (refine zd ?_;simp only[zp])
    refine kW _ (by rfl) (by rfl) (by exact⟨.slice (some ⟨0,0,none⟩) 1 1,0,rfl⟩) (fun W1 hE hF hG=>?_) (fun _ _ _ _ _=>trivial) (fun v Wa Wb ho hE=>?_) (fun v hv=>?_)
    ·refine jf (W':=W1.alloc (.cells #[iv q] 3)) (.slice (some ⟨W1.heap.size,0,none⟩) 1 1) (by go_simp;try rfl) ⟨⟨_,rfl⟩,trivial,Ext.az ((aG _ _).alloc (ak _) _),_,rfl,heap_alloc_new _ _⟩
    ·obtain⟨b,hb,hc⟩:=ho
     exact⟨b,hb,(hE.block b (aV.1 hc).1 (by simp)).trans hc⟩
    obtain⟨b4,rfl⟩:=hv
    simp only[zp]
    refine kW _ (by rfl) (by rfl) (by exact⟨.slice none (l.length+1) 0,none,0,rfl⟩) (fun W1 hE hF hG=>?_) (fun v Wa Wb ho hE=>aB (Ms:=[]) ho hE (by simp)) (fun _ _ _ _ _=>trivial) (fun v hv=>?_)
    ·obtain⟨b,hb,hc⟩:=hG rfl _ (bK _) (by kernel_rfl)
     cases hb
     have ho:W1.ownsRow wr.heap.size 3 1 (.slice o2 l.length c2) l.length (ah l):=hG rfl _ (nU _ (bK _)) (by kernel_rfl)
     have hE':Ext [] wr W1:=hE
     have hsrc:aN 1 W1 (.slice (some ⟨b4,0,none⟩) 1 1) 1 (ah [(q:Int)]):=aN.dm 1 1 hc rfl (by decide)
     refine Does.mono (yO rE (by rfl) (by rfl) ho (by rfl) hsrc (jB _) (by omega) (by omega) hE'.size) ?_
     rintro v W2 ⟨hown,hgr⟩
     rw[<-vF] at hown
     obtain⟨o5,c5,rfl⟩:=aS hown
     exact⟨⟨o5,c5,rfl⟩,hown,Hw ho hgr,trivial⟩
    obtain⟨o5,c5,rfl⟩:=hv
    simp only[zp]
    repeat (refine zn ?_;simp only[zp])
    intro W1 hE1 hF
    have hE':uO wr.heap.size [] wr W1:=hE1
    have hB:=qx hE' (ak _)
    obtain⟨hc,hf⟩:=bT hB
    have ho:W1.ownsRow wr.heap.size 3 1 (.slice o5 (l.length+1) c5) (l.length+1) (ah (l++[(q:Int)])):=hF _ (bK _)
    have vJ:aP W1 (.slice o5 (l.length+1) c5) (l++[(q:Int)]):=by
     have:=aN.dH ho
     unfold aP
     rw[dA]
     exact this
    have hcall:=HIH.o (q+1) (l++[(q:Int)]) _ W1 (by simp;omega) (by omega) (by omega) (HS.o.below hB) vJ
    rw[show(((q+1:Nat)):Int)=(q:Int)+1 from by omega] at hcall
    have HC:=ae hcall
    have HB:=ae hB
    clear hcall vJ ho hB hE' hE1 hF
    go_wp2_with fail
    refine HC.o.mono ?_
    rintro e W2 ⟨⟨hS2,hE2⟩,hres⟩
    have HS2:=ae hS2
    have HEE:=ae ((HE.o.trans (Ext.az HB.o)).trans hE2)
    clear hS2 hE2 hc hf d1 d2
    have hq1:f+(q-f)=q:=by omega
    rcases hres with⟨cc,hcc,rfl,sv,hsv,vJ⟩|⟨hnone,rfl⟩
    ·have HR:=ae (ag hcc (ag hsv vJ))
     clear hcc hsv vJ
     go_wp2_with fail
     go_returns
     refine⟨⟨HS2.o,HEE.o⟩,.inl ⟨cc,?_,by simp,sv,HR.o.2⟩⟩
     rw[<-xU.o]
     refine qY p _ _ (q-f) (by simp;omega) cc (fun j hj=>?_) ?_
     ·simp only[List.getElem_range]
      exact HN.o j (by omega)
     ·simp only[List.getElem_range,hq1]
      exact HR.o.1
    ·have HR:=ae hnone
     clear hnone
     go_wp2_with fail
     go_roundw
     case rel=>
      refine⟨q+1,by omega,by omega,by go_num,HS2.o,HEE.o,fun j hj=>?_⟩
      by_cases hjq:f+j=q
      ·rw[hjq];exact HR.o
      ·exact HN.o j (by omega)
     case measure=>simp[intOf];omega
   ·have hqI: ¬((q:Int)<=(below:Int)-((m:Int)+1)):=by omega
    go_wp2_with fail
    go_returns
    refine⟨⟨HS.o,HE.o⟩,.inr ⟨?_,by simp⟩⟩
    rw[<-xU.o]
    exact tZ p _ _ (fun j hj=>by
     simp only[List.length_range] at hj
     simp only[List.getElem_range]
     exact HN.o j (by omega))
end Go.Proofs.YthbpmepjmebolaaGreatDoor.jG
namespace Go.Proofs.YthbpmepjmebolaaGreatDoor.jG
open Go.RowKit Go.RG Go.SL Go.Shelf jv
def afp (mb:Nat) (bg:Int) (r:Option (List Int)) (w:World) (e:Ending) (W':World):Prop:=
 (Cache W' mb bg/\Ext [mb] w W')/\((∃c v,r=some c/\e= .returned (.tuple #[v,.bool true])/\aP W' v c)∨(r=none/\ ∃o n c,e= .returned (.tuple #[.slice o n c,.bool false])))
theorem xx.fin {w0 W:World} {mb:Nat} {bg:Int} {zH:Value} {below fb pb bb ab:Nat} (h:xx w0 mb bg zH below fb pb bb ab W):Cache W mb bg/\Ext [mb] w0 W:=⟨h.cache,h.ext⟩
theorem Lj (below:Nat) (hbl:below<=500) (p:List Int->Bool) (mb:Nat) (bg:Int) (w:World) (hcc:Cache w mb bg) (pf:Nat) (qj kY:Array Value)
 (eg: ∀args w,(callFunc pf args).run Tryz.prog w= .ok (.enter pf args) w)
 (wu: ∀l v W,Ext [mb] w W->Cache W mb bg->aP W v l->Calls Tryz.prog pf (qj.push v++kY) W (fun e W'=>e= .returned (.bool (p l))/\Cache W' mb bg/\Ext [mb] W W')):
 Calls Tryz.prog 99 #[iv below,.func (.func pf) qj kY] w (afp mb bg (nR below p) w):=by
 have hmb:=hcc.lt
 have HA:=ae (fun(m:Nat) (W:World) (hm:m<=501) (hst:xx w mb bg (.func (.func pf) qj kY) below (w.heap.size+1+1) (w.heap.size+1) w.heap.size (w.heap.size+1+1+1) W)=>
  add_any below hbl p mb bg w pf qj kY (w.heap.size+1+1) (w.heap.size+1) w.heap.size (w.heap.size+1+1+1) (by omega) eg wu m 0 [] (.slice none 0 0) W (by simp;omega) (by omega) (by omega) hst (qO W))
 obtain⟨r,hr⟩: ∃r,nR below p=r:=⟨_,rfl⟩
 rw[hr]
 have HR:=ae hr
 have HCC:=ae hcc
 clear wu eg hcc hr
 go_enter Tryz.func99,Tryz.ntmps99
 go_wp2_with fail
 go_step3
 go_wp2_with fail
 go_step3
 go_wp2_with fail
 obtain⟨w4,hw4⟩: ∃w4,((((w.alloc (.cells #[iv below] 3)).alloc (.cells #[.func (.func pf) qj kY] 157)).alloc (.cells #[.slice none 0 0] 36)).alloc
  (.cells #[.func (.func 165) #[] #[.pointer (some ⟨w.heap.size+1+1,0,none⟩),.pointer (some ⟨w.heap.size+1,0,none⟩),.pointer (some ⟨w.heap.size,0,none⟩),.pointer (some ⟨w.heap.size+1+1+1,0,none⟩)]] 256))=w4:=⟨_,rfl⟩
 have Z5:xx w mb bg (.func (.func pf) qj kY) below (w.heap.size+1+1) (w.heap.size+1) w.heap.size (w.heap.size+1+1+1) w4:=by
  have hB:Below w.heap.size w w4:=by rw[<-hw4];exact zl
  refine⟨Ext.az hB,HCC.o.kept (hB.block mb hmb),⟨none,0,0,?_⟩,?_,?_,?_,by omega,hmb⟩
  ·rw[<-hw4];exact(aW _ _ _ (by simp)).trans (iD _ _ _ _)
  ·rw[<-hw4];exact(aW _ _ _ (by simp)).trans ((aW _ _ _ (by simp)).trans (dY _ _ _))
  ·rw[<-hw4];exact(aW _ _ _ (by simp;omega)).trans ((aW _ _ _ (by simp;omega)).trans ((aW _ _ _ (by simp)).trans (ay _ _)))
  ·rw[<-hw4];have:=ay (((w.alloc (.cells #[iv below] 3)).alloc (.cells #[.func (.func pf) qj kY] 157)).alloc (.cells #[.slice none 0 0] 36)) (.cells #[.func (.func 165) #[] #[.pointer (some ⟨w.heap.size+1+1,0,none⟩),.pointer (some ⟨w.heap.size+1,0,none⟩),.pointer (some ⟨w.heap.size,0,none⟩),.pointer (some ⟨w.heap.size+1+1+1,0,none⟩)]] 256);simpa using this
 rw[hw4]
 have HS0:=ae Z5
 clear Z5 hw4
 go_loopw [5,11] (fun b i wr=> ∃k:Nat,k<=below+1/\b= .bool false/\i= .int .i64 k/\xx w mb bg (.func (.func pf) qj kY) below (w.heap.size+1+1) (w.heap.size+1) w.heap.size (w.heap.size+1+1+1) wr/\
  (∀j,j<k->(jO below j 0).find? p=none)) (fun _ i _=>below+1-(intOf i).toNat)
 case atStart=>exact⟨0,bU _,rfl,rfl,HS0.o,fun j hj=>by omega⟩
 case round=>
  obtain⟨k,hk,rfl,rfl,hst,hno⟩:=hrel
  have d2:=aC hst.add
  have e2:=dN wr _ d2
  have HS:=ae hst
  have HN:=ae hno
  clear hst hno
  by_cases hlt:k<below+1
  ·have hkI:(k:Int)<(below:Int)+1:=by omega
   have HC:=ae (HA.o k wr (by omega) HS.o)
   go_wp2_with fail
   refine HC.o.mono ?_
   rintro e W2 ⟨⟨hS2,_⟩,hres⟩
   have HS2:=ae hS2
   rcases hres with⟨cc,hcc,rfl,sv,hsv,vJ⟩|⟨hnone,rfl⟩
   ·have hr:r=some cc:=by
     rw[<-HR.o]
     exact JF (by omega) HN.o (by simpa using hcc)
    obtain⟨so,sc,rfl⟩:=vJ.open
    have f1:=aC hsv
    have f2:=bD hsv 0
    have f3:=dN W2 _ f1
    have HX:=ae (ag hr (ag hsv vJ))
    clear hr hsv vJ hS2 hcc d2
    go_wp2_with fail
    (try rw[Exit.noGoto_ret])
    have hcell:(W2.setCell ⟨w.heap.size+1+1,0,none⟩ (.slice so cc.length sc)).cell? ⟨w.heap.size+1+1,0,none⟩=some (.slice so cc.length sc):=aC (aJ HX.o.2.1 _)
    refine bodyPost_ret (v:= .tuple #[.slice so cc.length sc,.bool true]) (by simp[results,Tryz.results99,go_sem,hcell]) rfl ?_
    refine⟨(HS2.o.set (by omega) so cc.length sc).fin,.inl ⟨cc,_,HX.o.1,rfl,?_⟩⟩
    exact aP.uT HX.o.2.2 ((mQ W2 ⟨w.heap.size+1+1,0,none⟩ _).more (Ms':=[mb,w.heap.size+1+1]) (by simp)) HS2.o.not
   ·have HX:=ae hnone
    clear hnone hS2 d2
    go_wp2_with fail
    go_roundw
    case rel=>
     refine⟨k+1,by omega,rfl,by go_num,HS2.o,fun j hj=>?_⟩
     by_cases hjq:j=k
     ·subst hjq;simpa using HX.o
     ·exact HN.o j (by omega)
    case measure=>simp[intOf];omega
  ·have hkI: ¬((k:Int)<(below:Int)+1):=by omega
   obtain⟨o',n',c',hf⟩:=HS.o.found
   have f1:=aC hf
   have f2:=bD hf 0
   have f3:=dN wr _ f1
   have hk1:k=below+1:=by omega
   subst hk1
   have hr:r=none:=by
    rw[<-HR.o]
    exact JE HN.o
   go_wp2_with fail
   (try rw[Exit.noGoto_ret])
   have hcell:(wr.setCell ⟨w.heap.size+1+1,0,none⟩ (.slice o' n' c')).cell? ⟨w.heap.size+1+1,0,none⟩=some (.slice o' n' c'):=aC (aJ hf _)
   refine bodyPost_ret (v:= .tuple #[.slice o' n' c',.bool false]) (by simp[results,Tryz.results99,go_sem,hcell]) rfl ?_
   exact⟨(HS.o.set (by omega) o' n' c').fin,.inr ⟨rfl,_,_,_,rfl⟩⟩
end Go.Proofs.YthbpmepjmebolaaGreatDoor.jG
namespace Go.Proofs.YthbpmepjmebolaaGreatDoor.jG
open Go.RowKit Go.RG Go.SL Go.Shelf jv
attribute [local go_sem] Oper.semAt_some
theorem Za:iW Tryz.prog 103 107 (.agg #[iv 0,iv 0,iv 0,iv 0,iv 0,iv 0,iv 0,iv 0,iv 0,iv 0]) 10 80:=⟨Tryz.underlying103,by kernel_rfl,rfl,by omega⟩
structure Evr (w:World) (wb:Nat) (tv:Value) (ls:List (List Int)) (Ms:List Nat) (W:World):Prop where
 b0:W.heap[w.heap.size]? =some (.cells #[.pointer (some ⟨wb,0,none⟩)] 100 (0,0))
 b1:W.heap[w.heap.size+1]? =some (.cells #[tv] 36 (0,0))
 out: ∃v,W.heap[w.heap.size+1+1]? =some (.cells #[v] 103 (0,0))/\W.ownsRow (w.heap.size+7) 107 10 v ls.length (ls.flatMap ah)/\ ∀g,v.ownBlock=some g->g∉Ms/\g<W.heap.size
 b3:W.heap[w.heap.size+1+1+1]? =some (.cells #[.pointer (some ⟨wb,0,none⟩)] 100 (0,0))
 b4:W.heap[w.heap.size+1+1+1+1]? =some (.cells #[.slice none 0 0] 36 (0,0))
theorem Evr.kept {w:World} {wb:Nat} {tv:Value} {ls:List (List Int)} {Ms Ms':List Nat} {W W':World} (h:Evr w wb tv ls Ms W) (hs:W.heap.size<=W'.heap.size) (hk: ∀b,w.heap.size<=b->b<w.heap.size+5->W'.heap[b]? =W.heap[b]?)
 (ho: ∀g,w.heap.size+7<=g->g<W.heap.size->g∉Ms->W'.heap[g]? =W.heap[g]?) (hM: ∀m∈Ms',m∈Ms∨(W.heap.size<=m/\m<W'.heap.size)):Evr w wb tv ls Ms' W':=by
 obtain⟨v,h1,h2,h3⟩:=h.out
 refine⟨(hk _ (by omega) (by omega)).trans h.b0,(hk _ (by omega) (by omega)).trans h.b1,⟨v,(hk _ (by omega) (by omega)).trans h1,dQ h2 fun g hg=>ho g (bJ h2 g hg).1 (bJ h2 g hg).2 (h3 g hg).1,fun g hg=>⟨fun hm=>?_,by have:=(h3 g hg).2;omega⟩⟩,
  (hk _ (by omega) (by omega)).trans h.b3,(hk _ (by omega) (by omega)).trans h.b4⟩
 rcases hM g hm with h4|h4
 ·exact(h3 g hg).1 h4
 ·have:=(h3 g hg).2;omega
def afX (ls:List (List Int)) (mb:Nat) (bg:Int) (w:World) (e:Ending) (w':World):Prop:=
 ∃v,e= .returned v/\w'.ownsRow w.heap.size 107 10 v ls.length (ls.flatMap ah)/\Cache w' mb bg/\Ext [mb] w w'
theorem Bf {h:df} (hS:Sound h) {out:List Int} {t:Int×List Int} (ht:t∈dW h out):t.2.length=h.bW.length/\(0<=t.1/\t.1<=500)/\ ∀x∈t.2,0<=x/\x<=20:=by
 unfold dW at ht
 obtain⟨x,hx,rfl⟩:=iZ.1 ht
 obtain⟨s,rest,rfl,h1,h2,h3⟩:=GL hS (List.mem_filter.1 hx).1
 exact⟨h1,h2,h3⟩
theorem Vm {w W7 W8 W9:World} {wb mb:Nat} {bg:Int} {tv v v':Value} {ls:List (List Int)} {ys:List Int} {Os Ms:List Nat} {obj:Obj} (hF:Fr w mb bg Os Ms W7) (hP:Evr w wb tv ls Ms W7)
 (hv1:W7.heap[w.heap.size+1+1]? =some (.cells #[v] 103 (0,0))) (hv3: ∀g,v.ownBlock=some g->(w.heap.size+7<=g/\g<W7.heap.size)/\g∉Ms)
 (hE:Ext [] W7 W8) (hG:(W8.alloc obj).grownBy W9 v.ownBlock) (hN:v'.ownBlock=v.ownBlock∨v'.ownBlock=some (W8.heap.size+1)) (hO:W9.ownsRow (w.heap.size+7) 107 10 v' (ls.length+1) (ls.flatMap ah++ah ys))
 (hmb:mb<w.heap.size) (hs:w.heap.size+7<=W7.heap.size):
 (Fr w mb bg Os Ms (W9.setCell ⟨w.heap.size+1+1,0,none⟩ v')/\Evr w wb tv (ls++[ys]) Ms (W9.setCell ⟨w.heap.size+1+1,0,none⟩ v'))/\
   (∀b,b<W7.heap.size->v.ownBlock≠some b->b≠w.heap.size+2->(W9.setCell ⟨w.heap.size+1+1,0,none⟩ v').heap[b]? =W7.heap[b]?)/\W7.heap.size<=(W9.setCell ⟨w.heap.size+1+1,0,none⟩ v').heap.size:=by
 have h1:=hE.size
 have h2:=hG.size
 simp only[bI] at h2
 have hk: ∀b,b<W7.heap.size->v.ownBlock≠some b->W9.heap[b]? =W7.heap[b]? :=fun b hb hn=>
  (hG.block b (by simp;omega) (fun e=>hn e.symm)).trans ((aW _ _ _ (by omega)).trans (hE.block b hb (by simp)))
 have hks: ∀b,b<W7.heap.size->v.ownBlock≠some b->b≠w.heap.size+2->(W9.setCell ⟨w.heap.size+1+1,0,none⟩ v').heap[b]? =W7.heap[b]? :=fun b hb hn hne=>
  (dI _ _ _ _ (by show b≠w.heap.size+1+1;omega)).trans (hk b hb hn)
 have hlow: ∀b,b<w.heap.size+7->v.ownBlock≠some b:=fun b hb e=>by have:=(hv3 b e).1.1;omega
 have hsz:W7.heap.size<=(W9.setCell ⟨w.heap.size+1+1,0,none⟩ v').heap.size:=by simp[World.setCell];omega
 refine⟨⟨hF.own ⟨hG.os.trans (hE.os.trans hF.ext.os),hG.tape.trans (hE.tape.trans hF.ext.tape),hG.output.trans (hE.output.trans hF.ext.output),by have:=hF.ext.size;omega,fun k hk' hm=>(hks k (by omega) (hlow k (by omega)) (by omega)).trans (hF.ext.block k hk' hm)⟩ hsz (hF.cache.kept (hks mb (by omega) (hlow mb (by omega)) (by omega))),?_⟩,hks,hsz⟩
 have hb:=bJ hO
 refine⟨(hks _ (by omega) (hlow _ (by omega)) (by omega)).trans hP.b0,(hks _ (by omega) (hlow _ (by omega)) (by omega)).trans hP.b1,⟨v',?_,?_,fun g hg=>⟨fun hm=>?_,by have:=(hb g hg).2;simpa [World.setCell] using this⟩⟩,(hks _ (by omega) (hlow _ (by omega)) (by omega)).trans hP.b3,(hks _ (by omega) (hlow _ (by omega)) (by omega)).trans hP.b4⟩
 ·exact aJ ((hk _ (by omega) (hlow _ (by omega))).trans hv1) _
 ·rw[dA,vG]
  have:[ys].flatMap ah=ah ys:=by simp
  rw[this]
  exact dQ hO fun g hg=>dI _ _ _ _ (by have:=(hb g hg).1;show g≠w.heap.size+1+1;omega)
 ·rcases hN with hN|hN
  ·exact(hv3 g (by rw[<-hN,hg])).2 hm
  ·rw[hg] at hN
   injection hN with hN
   have:=hF.bnd g hm
   omega
theorem Kv (h:df) (hS:Sound h) (a b c tv:Value) (turns:List Int) (wb mb:Nat) (w:World) (hw:ja w wb mb h a b c) (h1:bP w a h.bW) (h2:aP w b h.turns) (h3:bz w c h.readings) (h4:aP w tv turns):
 Calls Tryz.prog 44 #[.pointer (some ⟨wb,0,none⟩),tv] w (afX (jI h turns) mb h.bg w):=by
 obtain⟨ot,ct,rfl⟩:=h4.open
 have HW:=ae hw
 have H1:=ae h1
 have H2:=ae h2
 have H3:=ae h3
 have H4:=ae h4
 have pz:=ae hS
 have hmb:=hw.cache.lt
 clear hw h1 h2 h3 h4 hS
 refine(callsIn_wide (n:=0)).1 ?_
 refine callsIn_of_wp_marks Tryz.func44 rfl trivial ?_
 simp only[Tryz.ntmps44,List.size_toArray,List.length_cons,List.length_nil,Nat.reduceAdd,Nat.reduceSub,Array.replicate_succ,Array.replicate_zero,lT,lU,List.nil_append,List.cons_append]
 gi_wp2_with fail
 refine(callsIn_wide.2 (zY wb _ _ _ _)).mono ?_
 rintro e w1 ⟨rfl,rfl⟩
 gi_wp2_with fail
 obtain⟨w2,hw2⟩: ∃w2,(((((w.alloc (.cells #[.pointer (some ⟨wb,0,none⟩)] 100)).alloc (.cells #[.slice ot turns.length ct] 36)).alloc (.cells #[.slice none 0 0] 103)).alloc (.cells #[.pointer (some ⟨wb,0,none⟩)] 100)).alloc (.cells #[.slice none 0 0] 36))=w2:=⟨_,rfl⟩
 have hB2:Below w.heap.size w w2:=by rw[<-hw2];exact zl
 have hsz2:w2.heap.size=w.heap.size+5:=by rw[<-hw2];simp
 have hP2:Evr w wb (.slice ot turns.length ct) [] [mb] w2:=by
  rw[<-hw2]
  have n3:=ay (((w.alloc (.cells #[.pointer (some ⟨wb,0,none⟩)] 100)).alloc (.cells #[.slice ot turns.length ct] 36)).alloc (.cells #[.slice none 0 0] 103)) (.cells #[.pointer (some ⟨wb,0,none⟩)] 100)
  have n4:=dY (((w.alloc (.cells #[.pointer (some ⟨wb,0,none⟩)] 100)).alloc (.cells #[.slice ot turns.length ct] 36)).alloc (.cells #[.slice none 0 0] 103)) (.cells #[.pointer (some ⟨wb,0,none⟩)] 100) (.cells #[.slice none 0 0] 36)
  simp only[bI] at n3 n4
  refine⟨?_,?_,⟨.slice none 0 0,?_,⟨rfl,.inl ⟨rfl,rfl⟩⟩,fun g hg=>by cases hg⟩,?_,n4⟩
  ·exact(aW _ _ _ (by first|omega|(simp;done)|(simp;omega))).trans ((aW _ _ _ (by first|omega|(simp;done)|(simp;omega))).trans ((aW _ _ _ (by first|omega|(simp;done)|(simp;omega))).trans ((aW _ _ _ (by first|omega|(simp;done)|(simp;omega))).trans (ay _ _))))
  ·exact(aW _ _ _ (by first|omega|(simp;done)|(simp;omega))).trans ((aW _ _ _ (by first|omega|(simp;done)|(simp;omega))).trans ((aW _ _ _ (by first|omega|(simp;done)|(simp;omega))).trans (dY _ _ _)))
  ·exact(aW _ _ _ (by first|omega|(simp;done)|(simp;omega))).trans ((aW _ _ _ (by first|omega|(simp;done)|(simp;omega))).trans (iD _ _ _ _))
  ·exact(aW _ _ _ (by first|omega|(simp;done)|(simp;omega))).trans n3
 rw[hw2]
 clear hw2
 refine mX (zX h pz.out a b c (.slice none 0 0) [] wb mb (w.heap.size+1+1+1) (w.heap.size+1+1+1+1)) rfl (enters_of Tryz.func133 (by kernel_rfl) rfl) rfl (by simp;omega)
  (fun Ms k W=>Fr w mb h.bg [w.heap.size,w.heap.size+1,w.heap.size+2,w.heap.size+3,w.heap.size+4,w.heap.size+5,w.heap.size+6] Ms W/\Evr w wb (.slice ot turns.length ct) (jw h turns k) Ms W)
  (fun _ _ _=>False)
  ?hInv ?tX ?hI ?hIx ?QN ?yH ?h0
  (fun a Ms k W1 a₁ W=> ∃(t:Int×List Int) (ob bt:Nat),(dW h [])[k]? =some t/\a₁={tmps:=(a.tmps.setIfInBounds 9 (.agg #[iv t.1,.slice (some ⟨ob,1,none⟩) t.2.length t.2.length])).setIfInBounds 5 (.pointer (some ⟨bt,0,none⟩)),defers:=[]}/\
    (Fr w mb h.bg [w.heap.size,w.heap.size+1,w.heap.size+2,w.heap.size+3,w.heap.size+4,w.heap.size+5,w.heap.size+6] Ms W/\Evr w wb (.slice ot turns.length ct) (jw h turns k) Ms W)/\
    (W.heap[bt]? =some (.cells #[iv t.1,.slice (some ⟨ob,1,none⟩) t.2.length t.2.length] 163 (0,0))/\(w.heap.size+7<=bt/\ob∈Ms/\ob≠mb)/\aP W (.slice (some ⟨ob,1,none⟩) t.2.length t.2.length) t.2)/\(∀m∈Ms,m∉[mb]->m<W1.heap.size->W.heap[m]? =W1.heap[m]?)/\W1.heap.size<=W.heap.size)
  ?Tv ?hassign ?hbody ?hdone ?hstop
 case hInv=>rintro Ms k W ⟨hF,hP⟩;exact hF.abM HW.out H1.out H2.out H3.out (qO w) hP.b3 hP.b4
 case tX=>rintro cd Ms W h;exact h.elim
 case hI=>
  rintro Ms Ms' k Wa Wb ⟨hF,hP⟩ hE hMs hc
  refine⟨(hF.jd hE hMs hc).1,hP.kept hE.size (fun b h1 h2=>(hF.jd hE hMs hc).2 b (by simp;omega)) (fun g h1 h2 h3=>hE.block g h2 h3) hMs⟩
 case hIx=>rintro cd Ms Ms' Wa Wb h;exact h.elim
 case QN=>
  rintro Ms k W r o ⟨hF,hP⟩ hr
  exact⟨hF.put o (by omega) hmb,hP.kept (by simp) (fun b h1 h2=>World.putObj_heap_other (by omega)) (fun g h1 h2 h3=>World.putObj_heap_other (by omega)) (fun m hm=> .inl hm)⟩
 case yH=>rintro cd Ms W r o h;exact h.elim
 case h0=>
  intro o o'
  have hB:Below w.heap.size w ((w2.alloc o).alloc o'):=aj (aj hB2 _) _
  refine⟨⟨Ext.az hB,fun m hm=> .inl (by simpa using hm),fun m hm=>(by have:=hB.size;simp at hm;omega),fun b hb=>⟨by simp at hb⊢;omega,by simp at hb⊢;omega⟩,HW.out.cache.kept (hB.block mb hmb)⟩,
   hP2.kept (by simp;omega) (fun b h1 h2=>(aW _ _ _ (by simp;omega)).trans (aW _ _ _ (by omega))) (fun g h1 h2 h3=>by omega) (fun m hm=> .inl hm)⟩
 case Tv=>
  rintro Ms k W1 a₁ W o ⟨t,ob,bt,ht,ha,⟨hF,hP⟩,⟨hbt,⟨hb7,hob,hne⟩,hsl⟩,hk,hs⟩
  have hap:=(hF.apart (w.heap.size+6) (by simp)).1
  refine⟨t,ob,bt,ht,ha,⟨hF.put o (by omega) hmb,hP.kept (by simp) (fun b h1 h2=>World.putObj_heap_other (by omega)) (fun g h1 h2 h3=>World.putObj_heap_other (by omega)) (fun m hm=> .inl hm)⟩,
   ⟨(World.putObj_heap_other (by omega)).trans hbt,⟨hb7,hob,hne⟩,hsl.kept fun b off n c hv _=>by cases hv;exact World.putObj_heap_other (fun e=>hap (by rw[show w.heap.size+6=ob by omega];exact hob))⟩,
   fun m hm h0 hml=>(World.putObj_heap_other (fun e=>hap (by rw[show w.heap.size+6=m by omega];exact hm))).trans (hk m hm h0 hml),by simpa using hs⟩
 case hassign=>
  rintro Ms k v W hk ⟨hF,hP⟩ ⟨ob,rfl,hsl,hob,hne⟩ hlt
  generalize ht:(dW h [])[k]=t at*
  have htk:(dW h [])[k]? =some t:=by rw[dP hk,ht]
  gi_wp2
  have hB:Below W.heap.size W (W.alloc (.cells #[iv t.1,.slice (some ⟨ob,1,none⟩) t.2.length t.2.length] 163)):=aj (aG _ _) _
  have hc:=hF.cache.kept (hB.block mb hF.cache.lt)
  exact⟨⟨t,ob,W.heap.size,htk,rfl,⟨(hF.jd (Ext.az hB) (fun m hm=> .inl hm) hc).1,hP.kept (by simp) (fun b h1 h2=>aW _ _ _ (by omega)) (fun g h1 h2 h3=>aW _ _ _ (by omega)) (fun m hm=> .inl hm)⟩,
   ⟨ay _ _,⟨by omega,hob,hne⟩,hsl.alloc _⟩,fun m hm h0 hml=>aW _ _ _ (by omega),by simp⟩,aW _ _ _ (by omega),aW _ _ _ (by omega)⟩
 case hbody=>
  rintro Ms k W1 a₁ W busy hk ⟨t,ob,bt,ht,rfl,⟨hF,hP⟩,⟨hbt,⟨hb7,hob,hne⟩,hsl⟩,hkeep,hsz⟩ hrec hD
  simp only[uq,List.set_cons_succ,List.set_cons_zero]
  have htm:t∈dW h []:=nJ ht
  obtain⟨hl2,hs0,hrest⟩:=Bf pz.out htm
  have hlast:=pz.out.BF
  have hwl:=pz.out.FZ
  have c0:=aC hP.b0
  have c1:=aC hP.b1
  have k0:=dN W _ c0
  have k1:=dN W _ c1
  have kt:=(aV.1 hbt).1
  have hg: ∀i,W.cell? ⟨bt,i,none⟩=(#[iv t.1,.slice (some ⟨ob,1,none⟩) t.2.length t.2.length]:Array Value)[i]? :=fun i=>by
   simp only[World.cell?,hbt];rfl
  have adv:ja W wb mb h a b c:=HW.out.ext hF.ext hF.cache
  have J8:aP W (.slice ot turns.length ct) turns:=H4.out.gz hF.ext (fun x hx o=>by
   obtain rfl:x=mb:=by simpa using hx
   exact HW.out.cache.nz o)
  have apB:=hF.cache.lt
  have Nr:=ae (yu h a b c wb mb t.1 t.2 turns _ _ W adv hsl J8 (by omega) pz.out.NS pz.out.NR pz.out.PM pz.out.PL hs0.1 hs0.2 hrest)
  obtain⟨ys,hy⟩: ∃ys,lK h (t.1,t.2) turns=ys:=⟨_,rfl⟩
  have GZ:ys.length=10:=by rw[<-hy];exact lh _ _ _ _ _ _
  rw[hy] at Nr
  have HY:=ae hy
  have HT:=ae (ag ht hk)
  have HF:=ae hF
  have HP:=ae hP
  have HK:=ae (ag hkeep (ag hrec hD))
  have HTV:=ae J8
  clear hF hP hkeep hrec hD hbt hsl J8 adv hy ht hrest htm
  rw[hl2] at Nr
  gi_wp2_with fail
  refine(CallsIn.inRound _ (callsIn_wide.2 Nr.out)).mono ?_
  rintro e W6 ⟨rfl,hcc,hE⟩
  have hyl:(ah ys).length=10:=by simp[ah,GZ]
  simp only[mg]
  obtain⟨W7,hst,hblk,Bc⟩:=yg Tryz.prog ys (ay W6 (.cells #[iv 0,iv 0,iv 0,iv 0,iv 0,iv 0,iv 0,iv 0,iv 0,iv 0] 107)) (by rw[GZ];rfl)
  have hE':Ext [mb] W W7:=Dw (hE.alloc _) Bc hE.size
  have ahH:Cache W7 mb h.bg:=hcc.kept ((Bc.block mb (by have:=hcc.lt;first|(simp;done)|(simp;omega)) (by have:=hcc.lt;first|(simp;done)|(simp;omega))).trans (aW _ _ _ hcc.lt))
  have hF7:=HF.out.own (HF.out.ext.trans hE') hE'.size ahH
  have hap:=HF.out.apart
  have Tu:Evr w wb (.slice ot turns.length ct) (jw h turns k) Ms W7:=HP.out.kept hE'.size (fun b h1 h2=>hE'.block b (hap b (by first|omega|(simp;done)|(simp;omega))).2 (by first|omega|(simp;done)|(simp;omega))) (fun g h1 h2 h3=>hE'.block g h2 (by first|omega|(simp;done)|(simp;omega))) (fun m hm=> .inl hm)
  have hkp: ∀m∈Ms,m∉[mb]->m<W1.heap.size->W7.heap[m]? =W1.heap[m]? :=fun m hm h0 hml=>(hE'.block m (by omega) h0).trans (HK.out.1 m hm h0 hml)
  have hrec:=(hE'.block _ (hap (w.heap.size+6) (by simp)).2 (by first|omega|(simp;done)|(simp;omega))).trans (show W.heap[w.heap.size+6]? =some (.loop busy) from by rw[show w.heap.size+6=w2.heap.size+1 by omega];exact HK.out.2.1)
  have hD:=(hE'.block _ (hap (w.heap.size+5) (by simp)).2 (by first|omega|(simp;done)|(simp;omega))).trans (show W.heap[w.heap.size+5]? =some (.deferred (some [])) from by rw[<-hsz2];exact HK.out.2.2)
  have hs7:W1.heap.size<=W7.heap.size:=by have:=hE'.size;omega
  have hw7:w.heap.size+7<=W7.heap.size:=by have:=hE'.size;omega
  obtain⟨v,hv1,hv2,hv3⟩:=Tu.out
  obtain⟨vo,vc,rfl⟩:=aS hv2
  have d1:=aC hv1
  have d2:=bD hv1 0
  have d3:=dN W7 _ d1
  have d4:=(aV.1 hblk).1
  have hln:(jw h turns k).length<=2000:=by have:=EX h turns k;have:=xZ pz.out [];have:=HT.out.2;omega
  have O1:=EW (h:=h) (turns:=turns) (k:=k)
  have hsucc:jw h turns (k+1)=lW (jw h turns k) ys:=by
   rw[BP HT.out.2, <-HY.out]
   have:=HT.out.1
   rw[dP HT.out.2] at this
   injection this with this
   rw[this]
  have xH:=ae hsucc
  have yU:=ae hF7
  have VD:=ae Tu
  have xB:=ae (ag hkp (ag hrec (ag hD hs7)))
  have HV:=ae (ag hv1 (ag hv2 hv3))
  have HB:=ae hblk
  have abm:=ae O1
  generalize jw h turns k=ls at*
  clear hF7 Tu hkp hrec hD hap hv1 hv2 hv3 hblk Bc hE' ahH hE hcc O1 hsucc hg c0 c1
  gi_wp2_with fail
  rcases(List.eq_nil_or_concat ls).imp id (fun⟨A,z,e⟩=>(⟨A,z,e.trans (List.concat_eq_append)⟩: ∃A z,ls=A++[z])) with rfl|⟨A,z,rfl⟩
  ·simp only[List.length_nil] at d1 HV
   refine dV 13 [] none [] (by kernel_rfl) (by kernel_rfl) (by kernel_rfl) ?_
   simp only[zt]
   repeat ((first|refine zd ?_|refine zk ?_);simp only[zp])
   have Yy:Hid (lW [] ys=[]++[ys]):=ae (by simp[lW])
   intro W8 ik Xo
   have hE:Ext [] W7 W8:=ik
   obtain⟨hc,hf⟩:=bT hE.below
   have hz8:=hE.size
   have hb8:=HB.out
   obtain⟨y0,y1,y2,y3,y4,y5,y6,y7,y8,y9,hys⟩:=CY GZ
   rw[hys] at hb8
   have Au: ∀i,W7.cell? ⟨W6.heap.size,i,none⟩=(#[iv y0,iv y1,iv y2,iv y3,iv y4,iv y5,iv y6,iv y7,iv y8,iv y9]:Array Value)[i]? :=fun i=>by
    simp only[World.cell?,hb8];rfl
   have hz9:W6.heap.size<W8.heap.size:=by omega
   have EF:=aB (Ms:=[]) HV.out.2.1 hE (by simp)
   have jc:=ae hE
   have HOW:=ae EF
   have CO:=ae hys
   clear hE ik Xo hb8 EF hys
   gi_wp2_with (gi_at_builtin;go_loud (refine qU (fun _=>trivial) rfl uX rfl _ _ Za rfl (w.heap.size+7) (.slice vo 0 vc) 0 (List.flatMap ah []) rfl ?_ (.slice (some ⟨W8.heap.size,0,none⟩) 1 1) 1 (ah [y0,y1,y2,y3,y4,y5,y6,y7,y8,y9]) rfl ?_ (jB _) (by omega) (by omega) (by simp;omega) ?_))
   ·refine aB (Ms:=[]) (w:=W8) ?_ (Ext.az ((aG _ _).alloc (ak _) _)) (by simp)
    simpa using HOW.out
   ·exact aN.dm 10 1 (ay _ _) rfl (by decide)
   ·intro v' W9 hown hgr hown'
    obtain⟨o9,c9,rfl⟩:=aS hown
    have xA:=ae hown
    have HG9:=ae hgr
    have HN9:=ae hown'
    have QM:=bJ HV.out.2.1
    have ql: ∀b,b<w.heap.size+7->b<W7.heap.size->W9.heap[b]? =W7.heap[b]? :=fun b hb hb7=>by
     refine(hgr.block b (by simp;omega) (fun e=>?_)).trans ((aW _ _ _ (by omega)).trans (jc.out.block b hb7 (by simp)))
     have:=QM b e.symm
     omega
    have hc9:=hc
    have OZ:W8.heap.size<W9.heap.size:=by have:=hgr.size;simp at this;omega
    have e1:W9.cell? ⟨w.heap.size+1+1,0,none⟩=some (.slice vo 0 vc):=aC ((ql _ (by omega) d3).trans HV.out.1)
    have e2:W9.frozen? ⟨w.heap.size+1+1,0,none⟩=false:=bD ((ql _ (by omega) d3).trans HV.out.1) 0
    have e3:=dN W9 _ e1
    have Ea:=ae ql
    clear hown hgr hown' ql hc9 Au hc hf QM
    gi_wp2_with fail
    rw[CO.out] at Yy
    obtain⟨⟨hF9,hP9⟩,hks,Td⟩:=Vm (ls:=[]) (ys:=[y0,y1,y2,y3,y4,y5,y6,y7,y8,y9]) yU.out VD.out HV.out.1 (fun g hg=>⟨bJ HV.out.2.1 g hg,(HV.out.2.2 g hg).1⟩) jc.out HG9.out HN9.out (by simpa using xA.out) hmb hw7
    have QM:=bJ HV.out.2.1
    have hap:=yU.out.apart
    refine⟨⟨?_,?_,fun m hm h0 hml=>?_,by have:=xB.out.2.2.2;omega⟩,hF9,?_⟩
    ·exact(hks _ (by omega) (fun e=>by have:=QM _ e;omega) (by omega)).trans xB.out.2.1
    ·exact(hks _ (by omega) (fun e=>by have:=QM _ e;omega) (by omega)).trans xB.out.2.2.1
    ·exact(hks m (by have:=xB.out.2.2.2;omega) (fun e=>(HV.out.2.2 m e).1 hm) (fun e=>(hap (w.heap.size+2) (by simp)).1 (by rw[<-e];exact hm))).trans (xB.out.1 m hm h0 hml)
    ·rw[xH.out,CO.out]
     exact Yy.out▸hP9
  ·have OZ:=abm.out z (by simp)
   obtain⟨gb,gc,hvv,hgb,Tm,L8⟩:=Dh (A:=A) (z:=z) (by simpa using HV.out.2.1) (fun x hx=>abm.out x (by simp[hx])) OZ
   have hcap:vo=some ⟨gb,0,none⟩:=by simp at hvv;exact hvv.1
   subst hcap
   have hzl:(ah z).length=10:=by simp[ah,OZ]
   have hyr:=yl HB.out
   (try simp only[dA,List.length_cons,List.length_nil,Nat.zero_add] at d1)
   (try simp only[dA,List.length_cons,List.length_nil,Nat.zero_add] at HV)
   (try simp only[dA,List.length_cons,List.length_nil,Nat.zero_add] at hln)
   have hAI:((A.length:Int)+1==0)=false:=by simp;omega
   have hA0: ¬((A.length:Int)+1=0):=by omega
   have hA1:((A.length:Int)+1).toNat=A.length+1:=by omega
   have hAm:(A.length:Int)+1-1=A.length:=by omega
   rcases hq:(z==ys) with _|_
   ·have Yy:Hid (lW (A++[z]) ys=(A++[z])++[ys]):=ae (by
     unfold lW
     rw[ai]
     simp only[List.getLast?_append,List.getLast?_singleton]
     intro e
     simp at e
     subst e;simp at hq)
    refine dV 13 [] none [] (by kernel_rfl) (by kernel_rfl) (by kernel_rfl) ?_
    simp only[zt]
    repeat ((first|refine zn ?_|refine zk ?_);simp only[zp])
    refine gW (by rfl) (.pointer (some ⟨gb,A.length*10,none⟩)) (by rfl) (fun W hW=>by go_simp;(try simp(disch:=omega) only[IntWalk.i64_in]);(try rw[aA (by omega)]);(try simp);(try (intro hx;exfalso;omega))) ?_
    simp only[zp]
    refine gW (by rfl) (.agg (ah z).toArray) (by rfl) (fun W hW=>kK 107 _ (by rfl) gb (A.length*10) (by rfl) (ah z) _ (fun j u hj=>(hW gb _ Tm (by simp)).trans (L8 j u hj)) Tryz.underlying107 rfl (by rw[hzl];kernel_rfl)) ?_
    simp only[zp]
    refine gW (by rfl) (.agg (ah ys).toArray) (by rfl) (fun W hW=>kK 107 _ (by rfl) W6.heap.size 0 (by rfl) (ah ys) _ (fun j u hj=>(hW W6.heap.size _ d4 (by simp)).trans (hyr j u hj)) Tryz.underlying107 rfl (by rw[hyl];kernel_rfl)) ?_
    simp only[zp]
    refine gW (by rfl) (.bool true) (by rfl) (fun W hW=>(oz 107 3 _ 10 _ _ (by rfl) Tryz.underlying107 Tryz.underlying3 (by intro w;go_simp) (by kernel_rfl) z ys (by rfl) (by rfl) OZ GZ).trans (by rw[hq];rfl)) ?_
    simp only[zp]
    repeat ((first|refine zd ?_|refine zk ?_);simp only[zp])
    intro W8 ik Xo
    have hE:Ext [] W7 W8:=ik
    obtain⟨hc,hf⟩:=bT hE.below
    have hz8:=hE.size
    have hb8:=HB.out
    obtain⟨y0,y1,y2,y3,y4,y5,y6,y7,y8,y9,hys⟩:=CY GZ
    rw[hys] at hb8
    have Au: ∀i,W7.cell? ⟨W6.heap.size,i,none⟩=(#[iv y0,iv y1,iv y2,iv y3,iv y4,iv y5,iv y6,iv y7,iv y8,iv y9]:Array Value)[i]? :=fun i=>by
     simp only[World.cell?,hb8];rfl
    have hz9:W6.heap.size<W8.heap.size:=by omega
    have EF:=aB (Ms:=[]) HV.out.2.1 hE (by simp)
    have jc:=ae hE
    have HOW:=ae EF
    have CO:=ae hys
    clear hE ik Xo hb8 EF hys
    gi_wp2_with (gi_at_builtin;go_loud (refine qU (fun _=>trivial) rfl uX rfl _ _ Za rfl (w.heap.size+7) (.slice (some ⟨gb,0,none⟩) (A.length+1) vc) (A.length+1) (List.flatMap ah (A++[z])) rfl ?_ (.slice (some ⟨W8.heap.size,0,none⟩) 1 1) 1 (ah [y0,y1,y2,y3,y4,y5,y6,y7,y8,y9]) rfl ?_ (jB _) (by omega) (by omega) (by simp;omega) ?_))
    ·refine aB (Ms:=[]) (w:=W8) ?_ (Ext.az ((aG _ _).alloc (ak _) _)) (by simp)
     simpa using HOW.out
    ·exact aN.dm 10 1 (ay _ _) rfl (by decide)
    ·intro v' W9 hown hgr hown'
     obtain⟨o9,c9,rfl⟩:=aS hown
     have xA:=ae hown
     have HG9:=ae hgr
     have HN9:=ae hown'
     have QM:=bJ HV.out.2.1
     have ql: ∀b,b<w.heap.size+7->b<W7.heap.size->W9.heap[b]? =W7.heap[b]? :=fun b hb hb7=>by
      refine(hgr.block b (by simp;omega) (fun e=>?_)).trans ((aW _ _ _ (by omega)).trans (jc.out.block b hb7 (by simp)))
      have:=QM b e.symm
      omega
     have hc9:=hc
     have OZ:W8.heap.size<W9.heap.size:=by have:=hgr.size;simp at this;omega
     have e1:W9.cell? ⟨w.heap.size+1+1,0,none⟩=some (.slice (some ⟨gb,0,none⟩) (A.length+1) vc):=aC ((ql _ (by omega) d3).trans HV.out.1)
     have e2:W9.frozen? ⟨w.heap.size+1+1,0,none⟩=false:=bD ((ql _ (by omega) d3).trans HV.out.1) 0
     have e3:=dN W9 _ e1
     have Ea:=ae ql
     clear hown hgr hown' ql hc9 Au hc hf QM
     gi_wp2_with fail
     rw[CO.out] at Yy
     obtain⟨⟨hF9,hP9⟩,hks,Td⟩:=Vm (ls:=(A++[z])) (ys:=[y0,y1,y2,y3,y4,y5,y6,y7,y8,y9]) yU.out VD.out HV.out.1 (fun g hg=>⟨bJ HV.out.2.1 g hg,(HV.out.2.2 g hg).1⟩) jc.out HG9.out HN9.out (by simpa using xA.out) hmb hw7
     have QM:=bJ HV.out.2.1
     have hap:=yU.out.apart
     refine⟨⟨?_,?_,fun m hm h0 hml=>?_,by have:=xB.out.2.2.2;omega⟩,hF9,?_⟩
     ·exact(hks _ (by omega) (fun e=>by have:=QM _ e;omega) (by omega)).trans xB.out.2.1
     ·exact(hks _ (by omega) (fun e=>by have:=QM _ e;omega) (by omega)).trans xB.out.2.2.1
     ·exact(hks m (by have:=xB.out.2.2.2;omega) (fun e=>(HV.out.2.2 m e).1 hm) (fun e=>(hap (w.heap.size+2) (by simp)).1 (by rw[<-e];exact hm))).trans (xB.out.1 m hm h0 hml)
     ·rw[xH.out,CO.out]
      exact Yy.out▸hP9
   ·obtain rfl:z=ys:=by simpa using hq
    have Yy:Hid (lW (A++[z]) z=A++[z]):=ae (by
     unfold lW
     rw[aA]
     simp)
    refine dV 13 [] none [] (by kernel_rfl) (by kernel_rfl) (by kernel_rfl) ?_
    simp only[zt]
    repeat ((first|refine zn ?_|refine zk ?_);simp only[zp])
    refine gW (by rfl) (.pointer (some ⟨gb,A.length*10,none⟩)) (by rfl) (fun W hW=>by go_simp;(try simp(disch:=omega) only[IntWalk.i64_in]);(try rw[aA (by omega)]);(try simp);(try (intro hx;exfalso;omega))) ?_
    simp only[zp]
    refine gW (by rfl) (.agg (ah z).toArray) (by rfl) (fun W hW=>kK 107 _ (by rfl) gb (A.length*10) (by rfl) (ah z) _ (fun j u hj=>(hW gb _ Tm (by simp)).trans (L8 j u hj)) Tryz.underlying107 rfl (by rw[hzl];kernel_rfl)) ?_
    simp only[zp]
    refine gW (by rfl) (.agg (ah z).toArray) (by rfl) (fun W hW=>kK 107 _ (by rfl) W6.heap.size 0 (by rfl) (ah z) _ (fun j u hj=>(hW W6.heap.size _ d4 (by simp)).trans (hyr j u hj)) Tryz.underlying107 rfl (by rw[hzl];kernel_rfl)) ?_
    simp only[zp]
    refine gW (by rfl) (.bool false) (by rfl) (fun W hW=>(oz 107 3 _ 10 _ _ (by rfl) Tryz.underlying107 Tryz.underlying3 (by intro w;go_simp) (by kernel_rfl) z z (by rfl) (by rfl) OZ OZ).trans (by simp)) ?_
    simp only[zp]
    repeat ((first|refine zd ?_|refine zk ?_);simp only[zp])
    intro W8 ik Xo
    have hE:Ext [] W7 W8:=ik
    obtain⟨hc,hf⟩:=bT hE.below
    have hz8:=hE.size
    have jc:=ae hE
    clear hE ik Xo
    gi_wp2_with fail
    have hap:=yU.out.apart
    refine⟨⟨?_,?_,fun m hm h0 hml=>?_,by have:=xB.out.2.2.2;omega⟩,(yU.out.jd (jc.out.nil) (fun m hm=> .inl hm) (yU.out.cache.kept (jc.out.block mb yU.out.cache.lt (by simp)))).1,?_⟩
    ·exact(jc.out.block _ (hap (w.heap.size+6) (by simp)).2 (by simp)).trans xB.out.2.1
    ·exact(jc.out.block _ (hap (w.heap.size+5) (by simp)).2 (by simp)).trans xB.out.2.2.1
    ·exact(jc.out.block m (by have:=xB.out.2.2.2;omega) (by simp)).trans (xB.out.1 m hm h0 hml)
    ·rw[xH.out,Yy.out]
     exact VD.out.kept jc.out.size (fun b h1 h2=>jc.out.block b (by omega) (by simp)) (fun g h1 h2 h3=>jc.out.block g h2 (by simp)) (fun m hm=> .inl hm)
 case hdone=>
  rintro Ms W ⟨hF,hP⟩ hD hlt
  rw[yK] at hP
  obtain⟨v,hv1,hv2,hv3⟩:=hP.out
  obtain⟨vo,vc,rfl⟩:=aS hv2
  have hc:=aC hv1
  have hf:=bD hv1 0
  have hk:=dN W _ hc
  have HF:=ae hF
  have HV:=ae (ag hv1 hv2)
  clear hF hP hv1 hv2 hv3
  gi_wp2_with fail
  rw[hsz2] at hD
  have hD':(W.setCell ⟨w.heap.size+1+1,0,none⟩ (.slice vo (jI h turns).length vc)).heap[w.heap.size+5]? =some (.deferred (some [])):=(dI _ _ _ _ (by show w.heap.size+5≠w.heap.size+1+1;omega)).trans hD
  have hcell:((W.setCell ⟨w.heap.size+1+1,0,none⟩ (.slice vo (jI h turns).length vc)).putObj (w.heap.size+5) (.deferred none)).cell? ⟨w.heap.size+1+1,0,none⟩=some (.slice vo (jI h turns).length vc):=
   aC ((World.putObj_heap_other (by omega)).trans (aJ HV.out.1 _))
  refine⟨by simp,.inl ⟨_,_,rfl,run_takeDeferred hD',?_⟩⟩
  have hF2:=(HF.out.own (HF.out.ext.set (p:=⟨w.heap.size+1+1,0,none⟩) (by show w.heap.size<=w.heap.size+1+1;omega) (.slice vo (jI h turns).length vc)) (by simp[World.setCell]) (HF.out.cache.kept (dI _ _ _ _ (by show mb≠w.heap.size+1+1;omega)))).put (Obj.deferred none) (r:=w.heap.size+5) (by omega) hmb
  refine⟨.slice vo (jI h turns).length vc,by simp[results,Tryz.results44,go_sem,hcell],_,rfl,?_,hF2.cache,hF2.ext⟩
  refine dh (dQ HV.out.2 fun g hg=>(World.putObj_heap_other ?_).trans (dI _ _ _ _ ?_)) (by omega)
  ·have:=(bJ HV.out.2 g hg).1;omega
  ·have:=(bJ HV.out.2 g hg).1;show g≠w.heap.size+1+1;omega
 case hstop=>rintro cd Ms W h;exact h.elim
end Go.Proofs.YthbpmepjmebolaaGreatDoor.jG
end
section
namespace Go.Proofs.YthbpmepjmebolaaGreatDoor.jG
open Go.RowKit Go.RG Go.SL Go.Shelf jv
def afY (R:List dX) (mb:Nat) (bg:Int) (w:World) (e:Ending) (w':World):Prop:=
 ∃v,e= .returned v/\w'.ownsRow w.heap.size 34 2 v R.length (aH R)/\Cache w' mb bg/\Ext [mb] w w'
theorem AU (h:df) (hS:Sound h) (a b c tv:Value) (turns:List Int) (wb mb:Nat) (w:World) (hw:ja w wb mb h a b c) (h1:bP w a h.bW) (h2:aP w b h.turns) (h3:bz w c h.readings) (h4:aP w tv turns):
 Calls Tryz.prog 105 #[.pointer (some ⟨wb,0,none⟩),tv] w (afY (rU (h.last+1).toNat (jI h turns)) mb h.bg w):=by
 have HEV:=ae (Kv h hS a b c tv turns wb mb w hw h1 h2 h3 h4)
 obtain⟨oa,ca,rfl⟩:=h1.open
 obtain⟨ob,cb,rfl⟩:=h2.open
 obtain⟨oc,cc,rfl⟩:=h3.open
 obtain⟨ot,ct,rfl⟩:=h4.open
 have HW:=ae hw
 have pz:=ae hS
 have hl0:=hS.J3
 have hl9:=hS.BF
 obtain⟨n,hn⟩: ∃n:Nat,h.last+1=n:=⟨(h.last+1).toNat,by omega⟩
 have O1:=Hy (h:=h) (turns:=turns)
 have hlen:(jI h turns).length<=2000:=jq (TI h turns) (xZ hS [])
 rw[hn,Int.toNat_natCast]
 generalize jI h turns=ls at*
 clear hw h1 h2 h3 h4 hS
 go_enter Tryz.func105,Tryz.ntmps105
 go_wp2_with fail
 refine HEV.o.mono ?_
 rintro e w1 ⟨v,rfl,hown,hcc,hE⟩
 obtain⟨vo,vc,rfl⟩:=aS hown
 have HO:=ae hown
 have HC:=ae hcc
 have HE:=ae hE
 clear hown hcc hE
 go_wp2_with fail
 have hws:=HW.o
 go_loopw [4,12] (fun o u wr=> ∃k:Nat,k<=ls.length/\u= .int .i64 k/\ ∃oo JU,o= .slice oo (bH n ls k).length JU/\wr.ownsRow w1.heap.size 34 2 (.slice oo (bH n ls k).length JU) (bH n ls k).length (aH (bH n ls k))/\Below w1.heap.size w1 wr)
  (fun _ u _=>ls.length-(intOf u).toNat)
 case atStart=>exact⟨0,bU _,rfl,none,0,rfl,⟨rfl,.inl ⟨rfl,rfl⟩⟩,aG _ _⟩
 case round=>
  obtain⟨k,hk,rfl,oo,JU,rfl,how,hB⟩:=hrel
  by_cases hlt:k<ls.length
  ·have adA:=O1 ls[k] (cZ hlt)
   obtain⟨g0,c0,hv0,hg0,hr0⟩:=ab3 HO.o O1 hlt
   have hvo:vo=some ⟨g0,0,none⟩:=by simp at hv0;exact hv0.1
   subst hvo
   have hr1:wr.rangeAt g0 (k*10) (ah ls[k]):=fun j u hj=>(hB.cell (p:=⟨g0,k*10+j,none⟩) hg0).trans (hr0 j u hj)
   have akN:ls.getD k []=ls[k]:=by simp[List.getD,hlt]
   generalize ls[k]=ys at*
   obtain⟨W2,hst,hblk,hE2⟩:=yg Tryz.prog ys (ay wr (.cells #[iv 0,iv 0,iv 0,iv 0,iv 0,iv 0,iv 0,iv 0,iv 0,iv 0] 107)) (by rw[adA];rfl)
   have hyl:(ah ys).length=10:=by simp[ah,adA]
   have hB2:Below wr.heap.size wr W2:=(Ext.below (Dw ((Ext.az (aG _ _)).alloc _) hE2 (ak _)))
   have aep:ja W2 wb mb h (.slice oa h.bW.length ca) (.slice ob h.turns.length cb) (.slice oc h.readings.length cc):=(HW.o.ext HE.o HC.o).below (aY hB hB2) (ak _)
   have c2:=aep.cell
   have c3:=aep.lt
   have xO:(k:Int)<ls.length:=by omega
   have hkn:((k:Int)).toNat=k:=by omega
   have HB:=ae hB
   have HB2:=ae hB2
   have HK:=ae hblk
   have HOW:=ae how
   clear hws hB hB2 hblk how aep hE2 hr0
   go_wp2_with (refine wpList_load_mid rfl 107 _ rfl g0 (k*10) rfl (ah ys) _ hr1 Tryz.underlying107 rfl (by rw[hyl];kernel_rfl) ?_)
   refine(Md h _ _ _ n _ hl0 hl9 hn).mono ?_
   rintro e W3 ⟨rfl,hb⟩
   have HB3:=ae (aY HB2.o hb)
   have hk3:W3.heap[wr.heap.size]? =some (.cells (ah ys).toArray 107 (0,0)):=(hb.block _ (aV.1 HK.o).1).trans HK.o
   have FU:=ae hk3
   clear hb hk3 c2 c3 hst hr1
   go_wp2_with fail
   have Xg:n<=10:=by omega
   have hR:k≠0->(bH n ls k).length=n:=pR n ls k
   have hR0:k=0->bH n ls k=[]:=fun e=>by subst e;rfl
   have H3:=ae (show _/\_/\_/\_ from ag (aB (Ms:=[]) HOW.o (Ext.az HB3.o) (by simp)) (ag (fun g (hg:(Value.slice oo (bH n ls k).length JU).ownBlock=some g)=>(show g≠wr.heap.size from by have:=(bJ HOW.o g hg).2;omega)) (ag (aY HB.o HB3.o) FU.o)))
   clear HB HB2 HB3 HOW HK FU
   generalize wr.heap.size=b6 at*
   go_loopw [4,22] (fun o u wq=> ∃i:Nat,i<=n/\u= .int .i64 i/\ ∃oo JU,o= .slice oo (fB n k (bH n ls k) ys i).length JU/\wq.ownsRow w1.heap.size 34 2 (.slice oo (fB n k (bH n ls k) ys i).length JU) (fB n k (bH n ls k) ys i).length (aH (fB n k (bH n ls k) ys i))/\
    (∀g,(Value.slice oo (fB n k (bH n ls k) ys i).length JU).ownBlock=some g->g≠b6)/\Below w1.heap.size w1 wq/\wq.heap[b6]? =some (.cells (ah ys).toArray 107 (0,0)))
    (fun _ u _=>n-(intOf u).toNat)
   case atStart=>
    refine⟨0,bU _,rfl,?_⟩
    rw[RN hR hR0]
    exact⟨oo,JU,rfl,H3.o⟩
   case round=>
    obtain⟨i,hi,rfl,UY,Ou,rfl,how,hne,hB,hblk⟩:=hrel
    by_cases hin:i<n
    ·have acs:i<ys.length:=by omega
     have hcell:=gJ hblk acs
     have hgx:ys.getD i 0=ys[i]:=by simp[List.getD,acs]
     have hkb:=(aV.1 hblk).1
     have hiI:(i:Int)<10:=by omega
     have apR:(i:Int)<n:=by omega
     have hiN:((i:Int)).toNat=i:=by omega
     generalize hxx:ys[i]=x at hcell hgx
     have HX:=ae hgx
     have HOI:=ae how
     have KO:=ae hne
     have HBQ:=ae hB
     have HKQ:=ae hblk
     clear hgx how hne hB hblk hxx
     rcases Nat.eq_zero_or_pos k with hk0|hk0
     ·have ahx:((k:Int)==0)=true:=by simpa using hk0
      have ahe:(fB n k (bH n ls k) ys i).length=i:=by rw[hk0];exact sZ _ _ _ _
      have happ:fB n k (bH n ls k) ys i++[(x,x)]=fB n k (bH n ls k) ys (i+1):=by rw[hk0, <-HX.o];exact Wn
      have hlen1:(fB n k (bH n ls k) ys (i+1)).length=i+1:=by rw[hk0];exact sZ _ _ _ _
      have HAP:=ae happ
      have HK0:=ae hk0
      have UJ:=ae (ag ahe hlen1)
      clear happ hk0 ahe hlen1
      go_wp2_with fail
      clear ahx
      refine zg 9 [] none [(8,Spec.slice wr.heap.size #[iv x,iv x] 34 1)] ?_
      simp only[zt]
      repeat (refine zd ?_;simp only[zp])
      refine eF wr.heap.size _ _ _ (by rfl) (ak _) (by rfl) (by simp) (by simp) (fun W hW=>by go_simp;try rfl) (fun b8=>?_)
      simp only[zp]
      intro W5 Ph hF5
      have MI:Ext [] wr W5:=Ph
      obtain⟨b8',hb8,aqg,adG⟩:=hF5 _ (bK _)
      cases hb8
      obtain⟨hc,hf⟩:=bT MI.below
      have hz5:=MI.size
      have HE5:=ae MI
      have HBK:=ae adG
      have hown5:=aB (Ms:=[]) HOI.o MI (by simp)
      have aml:=ae hown5
      have apg:=HBQ.o.size
      clear Ph hF5 MI adG hown5
      go_wp2_with (at_builtin;go_loud (refine dK rfl _ _ Ld rfl w1.heap.size (.slice UY (fB n k (bH n ls k) ys i).length Ou) (fB n k (bH n ls k) ys i).length (aH (fB n k (bH n ls k) ys i)) rfl aml.o (.slice (some ⟨b8,0,none⟩) 1 1) 1 (aH [(x,x)]) rfl (aN.dm 2 1 HBK.o rfl (by decide)) (oU _) (by have:=UJ.o.1;omega) (by have:=UJ.o.1;omega) (by omega) ?_))
      intro v' W6 hown6 Jc adz
      have Tj:W6.ownsRow w1.heap.size 34 2 v' (fB n k (bH n ls k) ys (i+1)).length (aH (fB n k (bH n ls k) ys (i+1))):=by
       rw[UJ.o.2, <-HAP.o]
       have e1:aH (fB n k (bH n ls k) ys i++[(x,x)])=aH (fB n k (bH n ls k) ys i)++aH [(x,x)]:=by simp[aH]
       rw[e1]
       have hl:=UJ.o.1
       rw[hl] at hown6
       exact hown6
      obtain⟨o6,c6,rfl⟩:=aS Tj
      have xA:=ae Tj
      have HN9:Hid (∀g,(Value.slice o6 (fB n k (bH n ls k) ys (i+1)).length c6).ownBlock=some g->g≠b6):=ae (fun g hg=>by
       rcases adz with e|e
       ·rw[hg] at e;exact KO.o g e.symm
       ·rw[hg] at e;injection e with e;omega)
      have ahR:(Value.slice UY (fB n k (bH n ls k) ys i).length Ou).ownBlock≠some b6:=fun e=>KO.o b6 e rfl
      have BL: ∀b,b<wr.heap.size->(Value.slice UY (fB n k (bH n ls k) ys i).length Ou).ownBlock≠some b->W6.heap[b]? =wr.heap[b]? :=fun b hb hn=>(Jc.block b (by omega) (fun e=>hn e.symm)).trans (HE5.o.block b hb (by simp))
      have hs6:=Jc.size
      have hk6:W6.heap[b6]? =some (.cells (ah ys).toArray 107 (0,0)):=(BL b6 hkb ahR).trans HKQ.o
      have TA:Below w1.heap.size w1 W6:=⟨Jc.os.trans (HE5.o.os.trans HBQ.o.os),Jc.tape.trans (HE5.o.tape.trans HBQ.o.tape),Jc.output.trans (HE5.o.output.trans HBQ.o.output),by omega,
       fun b hb=>(BL b (by omega) (fun e=>by have:=(bJ HOI.o b e).1;omega)).trans (HBQ.o.block b hb)⟩
      have rH:=ae TA
      have Ea:=ae hk6
      have ale:W6.cell? ⟨b6,i,none⟩=some (.int .i64 x):=by
       have:=gJ hk6 acs
       rw[this]
       have hx:=HX.o
       simp only[List.getD,dP acs,Option.getD_some] at hx
       rw[hx]
      have apK:=(aV.1 hk6).1
      clear hown6 Jc adz Tj ahR BL hk6 TA hc hf hcell
      go_wp2_with fail
      have hlen1:=UJ.o.2
      have ak8:(fB n k (bH n ls k) ys (i+1)).set i (wid ((fB n k (bH n ls k) ys (i+1)).getD i (0,0)) (ys.getD i 0))=fB n k (bH n ls k) ys (i+1):=by rw[HK0.o];exact RP
      have hiL:i<((fB n k (bH n ls k) ys (i+1))).length:=by first|omega|(rw[vT _ _ _ _ _ hk0];omega)|(simp only[sZ,List.length_append,List.length_cons,List.length_nil,pR,vT,ne_eq,hk0,not_false_eq_true];omega)
      (try clear hlen1)
      obtain⟨g9,c9,hv9,Jd,akM,⟨p0,p1⟩,hfz⟩:=oQ xA.o hiL
      simp only[Value.slice.injEq,true_and] at hv9
      obtain⟨rfl,rfl⟩:=hv9
      have hgd:((fB n k (bH n ls k) ys (i+1))).getD i (0,0)=((fB n k (bH n ls k) ys (i+1)))[i]:=by simp[List.getD,hiL]
      have aeA: ¬g9=b6:=HN9.o g9 rfl
      have ak1:(i:Int)<(((fB n k (bH n ls k) ys (i+1))).length:Int):=by omega
      generalize Ez:((fB n k (bH n ls k) ys (i+1)))[i]=r9 at p0 p1 hgd
      have HGD:=ae hgd
      have hf0:=hfz (i*2)
      have hf1:=hfz (i*2+1)
      clear hfz Ez hgd
      refine zg 11 [] none [(9,Spec.val (rv (wid r9 x)))] ?_
      simp only[zt]
      repeat (refine zd ?_;simp only[zp])
      refine eQ _ (by rfl) (by rfl) 171 _ (fun W hW=>by go_simp;(try simp(disch:=omega) only[IntWalk.i64_in]);try rfl) (fun W hE hF=>by exact Jt r9 x W) ?_
      simp only[zp]
      repeat (refine zd ?_;simp only[zp])
      intro W8 ik Xo
      have MG:Ext [] W6 W8:=ik
      obtain⟨hc8,hf8⟩:=bT MG.below
      have hz8:=MG.size
      have jc:=ae MG
      have aeD:g9<W8.heap.size:=by omega
      clear ik Xo MG
      go_wp2_with fail
      go_roundw
      case rel=>
       have heq:fB n k (bH n ls k) ys (i+1)=((fB n k (bH n ls k) ys (i+1))).set i (wid r9 x):=by
        rw[<-HX.o, <-HGD.o]
        exact(ak8).symm
       refine⟨i+1,by omega,by go_num,?_⟩
       rw[heq,qA]
       have hset:=og (aB (Ms:=[]) xA.o jc.o (by simp)) hiL (wid r9 x)
       refine⟨_,_,rfl,hset,fun g hg=>by cases hg;exact aeA,iH (iH (aY rH.o jc.o.below) Jd _) Jd _,?_⟩
       exact(dI _ _ _ _ (by show b6≠g9;omega)).trans ((dI _ _ _ _ (by show b6≠g9;omega)).trans ((jc.o.block b6 (aV.1 Ea.o).1 (by simp)).trans Ea.o))
      case measure=>simp[intOf];omega
     ·have apN: ¬((k:Int)=0):=by omega
      have ahx:((k:Int)==0)=false:=by simp;omega
      have hk0':k≠0:=by omega
      replace hk0:k≠0:=by omega
      go_wp2_with fail
      have xA:=HOI
      have HN9:=KO
      have rH:=HBQ
      have Ea:=HKQ
      have hiL:i<((fB n k (bH n ls k) ys i)).length:=by first|omega|(rw[vT _ _ _ _ _ hk0];omega)|(simp only[sZ,List.length_append,List.length_cons,List.length_nil,pR,vT,ne_eq,hk0,not_false_eq_true];omega)
      (try clear hlen1)
      obtain⟨g9,c9,hv9,Jd,akM,⟨p0,p1⟩,hfz⟩:=oQ xA.o hiL
      simp only[Value.slice.injEq,true_and] at hv9
      obtain⟨rfl,rfl⟩:=hv9
      have hgd:((fB n k (bH n ls k) ys i)).getD i (0,0)=((fB n k (bH n ls k) ys i))[i]:=by simp[List.getD,hiL]
      have aeA: ¬g9=b6:=HN9.o g9 rfl
      have ak1:(i:Int)<(((fB n k (bH n ls k) ys i)).length:Int):=by omega
      generalize Ez:((fB n k (bH n ls k) ys i))[i]=r9 at p0 p1 hgd
      have HGD:=ae hgd
      have hf0:=hfz (i*2)
      have hf1:=hfz (i*2+1)
      clear hfz Ez hgd
      refine zg 11 [] none [(9,Spec.val (rv (wid r9 x)))] ?_
      simp only[zt]
      repeat (refine zd ?_;simp only[zp])
      refine eQ _ (by rfl) (by rfl) 171 _ (fun W hW=>by go_simp;(try simp(disch:=omega) only[IntWalk.i64_in]);try rfl) (fun W hE hF=>by exact Jt r9 x W) ?_
      simp only[zp]
      repeat (refine zd ?_;simp only[zp])
      intro W8 ik Xo
      have MG:Ext [] wr W8:=ik
      obtain⟨hc8,hf8⟩:=bT MG.below
      have hz8:=MG.size
      have jc:=ae MG
      have aeD:g9<W8.heap.size:=by omega
      clear ik Xo MG
      go_wp2_with fail
      go_roundw
      case rel=>
       have heq:fB n k (bH n ls k) ys (i+1)=((fB n k (bH n ls k) ys i)).set i (wid r9 x):=by
        rw[<-HX.o, <-HGD.o]
        exact(Wl hk0 hin).symm
       refine⟨i+1,by omega,by go_num,?_⟩
       rw[heq,qA]
       have hset:=og (aB (Ms:=[]) xA.o jc.o (by simp)) hiL (wid r9 x)
       refine⟨_,_,rfl,hset,fun g hg=>by cases hg;exact aeA,iH (iH (aY rH.o jc.o.below) Jd _) Jd _,?_⟩
       exact(dI _ _ _ _ (by show b6≠g9;omega)).trans ((dI _ _ _ _ (by show b6≠g9;omega)).trans ((jc.o.block b6 (aV.1 Ea.o).1 (by simp)).trans Ea.o))
      case measure=>simp[intOf];omega
    ·have hin':i=n:=by omega
     subst hin'
     have hsucc:bH i ls (k+1)=fB i k (bH i ls k) ys i:=by
      show fB i k (bH i ls k) (ls.getD k []) i=_
      rw[akN]
     have HS:=ae (ag hsucc (ag how hB))
     clear hsucc how hB hblk hne
     go_wp2_with fail
     go_roundw
     case rel=>
      refine⟨k+1,by omega,by go_num,?_⟩
      rw[HS.o.1]
      exact⟨_,_,rfl,HS.o.2.1,HS.o.2.2⟩
     case measure=>simp[intOf];omega
  ·have hkl:k=ls.length:=by omega
   subst hkl
   have HF:=ae (ag how hB)
   clear how hB
   go_wp2_with fail
   go_returns
   exact⟨_,by simp,dh HF.o.1 (by have:=HE.o.size;omega),HC.o.kept (HF.o.2.block mb HC.o.lt),HE.o.bel HF.o.2⟩
end Go.Proofs.YthbpmepjmebolaaGreatDoor.jG
namespace Go.Proofs.YthbpmepjmebolaaGreatDoor.jG
open Go.RowKit Go.RG Go.SL Go.Shelf jv
def lV (w:World) (v:Value) (ls:List (List Int)):Prop:=aN 10 w v ls.length (ls.flatMap ah)/\ ∀x∈ls,x.length=10
theorem lV.len {w:World} {v:Value} {ls:List (List Int)} (h:lV w v ls):ls.length<=9223372036854775807:=aN.len h.1
theorem lV.open {w:World} {v:Value} {ls:List (List Int)} (h:lV w v ls): ∃o c,v= .slice o ls.length c:=aN.open h.1
theorem lV.below {w w':World} {v:Value} {ls:List (List Int)} (h:lV w v ls) (hb:Below w.heap.size w w'):lV w' v ls:=⟨h.1.below hb (ak _),h.2⟩
theorem lV.cell {w:World} {o:Option Addr} {c:Nat} {ls:List (List Int)} (h:lV w (.slice o ls.length c) ls) {k:Nat} (hk:k<ls.length):
 ∃b off,o=some ⟨b,off,none⟩/\b<w.heap.size/\w.rangeAt b (off+k*10) (ah ls[k]):=by
 obtain⟨⟨hl,o',c',hv,h1,h2,h3,h4⟩,h10⟩:=h
 cases hv
 cases o with
 |none=>have:=h3 rfl;omega
 |some a=>
  obtain⟨b,off,sp⟩:=a
  obtain⟨hs,hc⟩:=h4 _ rfl
  simp only at hs hc
  subst hs
  have hat: ∀j u,(ah ls[k])[j]? =some u->w.cell? ⟨b,off+k*10+j,none⟩=some u:=fun j u hj=>by
   have hj':j<10:=by have:=(ji.1 hj).1;simpa [ah,h10 _ (cZ hk)] using this
   have:=hc (k*10+j) u (by rw[Hq ah 10 ls (fun x hx=>by simp[ah,h10 x hx]) k j hk hj'];exact hj)
   rw[<-Nat.add_assoc] at this
   exact this
  have h0:ls[k].length=10:=h10 _ (cZ hk)
  have:=hat 0 (iv (ls[k][0]'(by omega))) (by simp[ah])
  exact⟨b,off,rfl,dN w _ this,hat⟩
theorem akj (l:List (List Int)) (v:Value) (bn:Nat) (fst caps:Array Value) (p:Nat->Bool) (I:Nat->World->Prop) (w:World) (eg: ∀args w,(callFunc bn args).run Tryz.prog w= .ok (.enter bn args) w)
 (hsl: ∀k W,I k W->lV W v l)
 (hcall: ∀k (hk:k<l.length) W,(∀j,j<k->p j=false)->I k W->Calls Tryz.prog bn (fst.push (mg l[k])++caps) W (fun e W'=>e= .returned (.bool (p k))/\I (k+1) W')) (h0:I 0 w):
 Calls Tryz.prog 83 #[v,.func (.func bn) fst caps] w (eG l.length p I (fun k=>iv k) (iv (-1))):=by
 have hlen:=(hsl 0 w h0).len
 have h10:=(hsl 0 w h0).2
 obtain⟨o,c,rfl⟩:=(hsl 0 w h0).open
 have HC:=ae hcall
 have HS:=ae hsl
 have HT:=ae h10
 clear hcall hsl h10
 go_enter Tryz.func83,Tryz.ntmps83
 go_wp2
 go_loopw [4,5,8] (fun _ _ i wr=> ∃k:Nat,k<=l.length/\i= .int .i64 k/\(∀j,j<k->p j=false)/\I k wr) (fun _ _ i _=>l.length-(intOf i).toNat)
 case atStart=>exact⟨0,bU _,rfl,fun j hj=>by omega,h0⟩
 case round=>
  obtain⟨k,hk,rfl,hno,hI⟩:=hrel
  by_cases hlt:k<l.length
  ·obtain⟨b,off,rfl,hb,L8⟩:=lV.cell (HS.o k wr hI) hlt
   have hC:=HC.o k hlt wr hno hI
   have hyl:(ah l[k]).length=10:=by simp[ah,HT.o _ (cZ hlt)]
   have xO:(k:Int)<l.length:=by omega
   have HN:=ae hno
   clear hno
   generalize l[k]=ys at*
   go_wp2_with (refine wpList_load_mid rfl 107 _ rfl b (off+k*10) rfl (ah ys) _ L8 Tryz.underlying107 rfl (by rw[hyl];kernel_rfl) ?_)
   refine hC.mono ?_
   rintro e W1 ⟨rfl,hI1⟩
   have HI:=ae hI1
   clear hI1 hI hC
   cases hp:p k
   ·go_wp2_with fail
    go_roundw
    case rel=>exact⟨k+1,by omega,by go_num,fun j hj=>(by by_cases e:j=k;(subst e;exact hp);exact HN.o j (by omega)),HI.o⟩
    case measure=>simp[intOf];omega
   ·go_wp2_with fail
    go_returns
    exact⟨k,by omega,HN.o,.inl ⟨hlt,hp,by simp,HI.o⟩⟩
  ·have hkl:k=l.length:=by omega
   have HN:=ae hno
   clear hno
   go_wp2_with fail
   go_returns
   exact⟨k,by omega,HN.o,.inr ⟨hkl,by simp,by subst hkl;exact hI⟩⟩
theorem adL (l:List (List Int)) (v:Value) (bn:Nat) (fst caps:Array Value) (p:Nat->Bool) (I:Nat->World->Prop) (w:World) (eg: ∀args w,(callFunc bn args).run Tryz.prog w= .ok (.enter bn args) w)
 (hsl: ∀k W,I k W->lV W v l)
 (hcall: ∀k (hk:k<l.length) W,(∀j,j<k->p j=false)->I k W->Calls Tryz.prog bn (fst.push (mg l[k])++caps) W (fun e W'=>e= .returned (.bool (p k))/\I (k+1) W')) (h0:I 0 w):
 Calls Tryz.prog 47 #[v,.func (.func bn) fst caps] w (eG l.length p I (fun _=> .bool true) (.bool false)):=by
 have HI:=ae (akj l v bn fst caps p I w eg hsl hcall h0)
 have hlen:=(hsl 0 w h0).len
 clear hsl hcall h0 eg
 go_enter Tryz.func47,Tryz.ntmps47
 go_wp2_with fail
 refine HI.o.mono ?_
 clear HI
 rintro e W' ⟨k,hk,hno,⟨hlt,hp,rfl,hI⟩|⟨hkl,rfl,hI⟩⟩
 ·have HN:=ae (ag hno (ag hp hI))
  clear hno hp hI
  go_wp2_with fail
  go_returns
  exact⟨k,hk,HN.o.1,.inl ⟨hlt,HN.o.2.1,by simp,HN.o.2.2⟩⟩
 ·have HN:=ae (ag hno (ag hkl hI))
  clear hno hkl hI
  go_wp2_with fail
  go_returns
  exact⟨k,hk,HN.o.1,.inr ⟨HN.o.2.1,by simp,HN.o.2.1▸HN.o.2.2⟩⟩
theorem aiD (x:List Int) (h10:x.length=10) (bx bn:Nat) (fst caps:Array Value) (b:Bool) (W:World) (R:World->Prop) (eg: ∀args w,(callFunc bn args).run Tryz.prog w= .ok (.enter bn args) w)
 (hbx:W.cell? ⟨bx,0,none⟩=some (.func (.func bn) fst caps))
 (hcall:Calls Tryz.prog bn (fst.push (mg x)++caps) (W.alloc (.cells (ah x).toArray 107)) (fun e W'=>e= .returned (.bool b)/\R W')):
 Calls Tryz.prog 78 #[mg x,.pointer (some ⟨bx,0,none⟩)] W (fun e W'=>e= .returned (.bool !b)/\R W'):=by
 have hlt:=dN W _ hbx
 obtain⟨y0,y1,y2,y3,y4,y5,y6,y7,y8,y9,rfl⟩:=CY h10
 have HC:=ae hcall
 clear hcall
 show Calls Tryz.prog 78 #[.agg #[iv y0,iv y1,iv y2,iv y3,iv y4,iv y5,iv y6,iv y7,iv y8,iv y9],.pointer (some ⟨bx,0,none⟩)] W _
 go_enter Tryz.func78,Tryz.ntmps78
 go_wp2_with fail
 refine HC.o.mono ?_
 rintro e W' ⟨rfl,hR⟩
 have HR:=ae hR
 clear hR
 go_wp2_with fail
 go_returns
 exact⟨by simp,HR.o⟩
theorem Ya (l:List (List Int)) (v:Value) (bn:Nat) (fst caps:Array Value) (q:List Int->Bool) (w:World) (hv:lV w v l) (eg: ∀args w,(callFunc bn args).run Tryz.prog w= .ok (.enter bn args) w)
 (hcall: ∀x∈l, ∀W,Below w.heap.size w W->Calls Tryz.prog bn (fst.push (mg x)++caps) W (PV (.bool (q x)) W)):
 Calls Tryz.prog 45 #[v,.func (.func bn) fst caps] w (PV (.bool (l.all q)) w):=by
 have HI:=ae (adL l v 78 #[] #[.pointer (some ⟨w.heap.size,0,none⟩)] (fun k=>!q (l.getD k []))
  (fun k W=>Below w.heap.size w W/\W.heap[w.heap.size]? =some (.cells #[.func (.func bn) fst caps] 108 (0,0))) (w.alloc (.cells #[.func (.func bn) fst caps] 108))
  (enters_of Tryz.func78 (by kernel_rfl) rfl) (fun k W h=>hv.below h.1)
  (fun k hk W hno h=>by
    have hlt:w.heap.size<W.heap.size:=(aV.1 h.2).1
    have hgd:l.getD k []=l[k]:=by simp[List.getD,hk]
    rw[hgd]
    refine(aiD l[k] (hv.2 _ (cZ hk)) w.heap.size bn fst caps (q l[k]) W (fun W'=>Below w.heap.size w W'/\W'.heap[w.heap.size]? =some (.cells #[.func (.func bn) fst caps] 108 (0,0))) eg (aC h.2) ?_)
    refine(hcall l[k] (cZ hk) _ (aj h.1 _)).mono ?_
    rintro e W' ⟨rfl,hb⟩
    refine⟨rfl,aY (aj h.1 _) hb,(hb.block _ (by simp;omega)).trans ((aW _ _ _ hlt).trans h.2)⟩)
  ⟨aj (aG _ _) _,heap_alloc_new w _⟩)
 have hlen:=hv.len
 obtain⟨bb,hbb⟩: ∃bb,l.all q=bb:=⟨_,rfl⟩
 rw[hbb]
 have HQ:Hid (((List.range l.length).any fun k=>!q (l.getD k []))=!bb):=ae (by rw[<-hbb, <-jT l q [],List.all_eq_not_any_not];simp)
 clear hcall eg hv hbb
 go_enter Tryz.func45,Tryz.ntmps45
 go_wp2_with fail
 refine HI.o.mono ?_
 clear HI
 intro e W' hpost
 obtain⟨rfl,k,_,hI,_⟩:=hpost.all
 have HB:=ae hI
 rw[HQ.o]
 clear hI hpost
 cases bb
 all_goals
  go_wp2_with fail
  go_returns
  exact⟨by simp,HB.o⟩
theorem TW (l:List (List Int)) (v:Value) (bn:Nat) (fst caps:Array Value) (q:List Int->Bool) (w:World) (hv:lV w v l) (eg: ∀args w,(callFunc bn args).run Tryz.prog w= .ok (.enter bn args) w)
 (hcall: ∀x∈l, ∀W,Below w.heap.size w W->Calls Tryz.prog bn (fst.push (mg x)++caps) W (PV (.bool (q x)) W)):
 Calls Tryz.prog 47 #[v,.func (.func bn) fst caps] w (PV (.bool (l.any q)) w):=by
 refine(adL l v bn fst caps (fun k=>q (l.getD k [])) (fun _ W=>Below w.heap.size w W) w eg (fun k W h=>hv.below h) (fun k hk W _ h=>?_) (aG _ _)).mono ?_
 ·have hgd:l.getD k []=l[k]:=by simp[List.getD,hk]
  rw[hgd]
  refine(hcall l[k] (cZ _) W h).mono ?_
  rintro e W' ⟨rfl,hb⟩
  exact⟨rfl,aY h hb⟩
 ·intro e W' hpost
  obtain⟨rfl,k,_,hI⟩:=hpost.all
  refine⟨?_,hI⟩
  have:=jT l (fun x=>!q x) []
  have e2:((List.range l.length).any fun k=>q (l.getD k []))=l.any q:=by
   rw[List.any_eq_not_all_not,this,List.any_eq_not_all_not]
  rw[e2]
  cases l.any q <;>rfl
end Go.Proofs.YthbpmepjmebolaaGreatDoor.jG
namespace Go.Proofs.YthbpmepjmebolaaGreatDoor.jG
open Go.RowKit Go.RG Go.SL Go.Shelf jv
def jU (h:df) (turns:List Int):List dX:=if jo h turns=0 then rU (h.last+1).toNat (jI h turns) else[]
theorem sG {h:df} {turns:List Int} (he:jo h turns=0):Sound h:=by
 unfold jo at he
 split at he
 ·rename_i hf;exact absurd he hf
 ·rename_i hf;exact Gf (by simpa using hf)
theorem IK (h:df) (wv tv vg NK:Value) (turns:List Int) (w:World) (hw:bP w wv h.bW) (ht:aP w tv h.turns) (hx:bz w vg h.readings) (htr:aP w NK turns):
 Calls Tryz.prog 61 #[hv h wv tv vg,NK] w (fun e w'=> ∃v,e= .returned (.tuple #[v,iv (jo h turns)])/\bP w' v (jU h turns)/\Below w.heap.size w w'):=by
 obtain⟨ow,cw,rfl⟩:=hw.open
 obtain⟨ot,ct,rfl⟩:=ht.open
 obtain⟨ox,cx,rfl⟩:=hx.open
 have HW:=ae hw
 have HT:=ae ht
 have HX:=ae hx
 clear hw ht hx
 obtain⟨oq,cq,rfl⟩:=htr.open
 have HQ:=ae htr
 clear htr
 obtain⟨E,hE⟩: ∃E,jo h turns=E:=⟨_,rfl⟩
 rw[hE]
 have HE:=ae hE
 clear hE
 go_enter Tryz.func61,Tryz.ntmps61
 go_wp2_with fail
 refine(wF h _ _ _ _ turns _ (HW.o.alloc _) (HT.o.alloc _) (HX.o.alloc _) (HQ.o.alloc _)).mono ?_
 rintro e w1 ⟨hb,⟨hne,rfl⟩|⟨h0,wb,mb,rfl,hwb,hmb,hwk⟩⟩
 ·rw[HE.o] at hne⊢
  have HB:=ae hb
  clear hb
  go_wp2_with fail
  go_returns
  exact⟨.slice none 0 0,by simp,by unfold jU;rw[HE.o,ai hne];exact pairs_nil _,aY (aj (aG _ _) _) HB.o⟩
 ·have hE0:E=0:=by rw[<-HE.o];exact h0
  subst hE0
  have HB:=ae hb
  have hS:=sG h0
  have Nl:=ae (AU h hS _ _ _ _ turns wb mb w1 hwk ((HW.o.alloc _).below hb (ak _)) ((HT.o.alloc _).below hb (ak _)) ((HX.o.alloc _).below hb (ak _)) ((HQ.o.alloc _).below hb (ak _)))
  have Xh:w.heap.size<=mb:=by simp at hmb;omega
  clear hb hwk h0 hS
  go_wp2_with fail
  refine Nl.o.mono ?_
  rintro e w2 ⟨v,rfl,hown,hcc,hE2⟩
  have HB2:=ae (iw (aY (aj (aG _ _) _) HB.o) hE2 Xh)
  have hsl:=aN.dH hown
  obtain⟨vo,vc,rfl⟩:=aS hown
  have HSL:=ae hsl
  clear hown hcc hE2 hsl
  go_wp2_with fail
  go_returns
  refine⟨.slice vo _ vc,by simp;rfl,?_,HB2.o⟩
  unfold jU
  rw[HE.o,aA rfl]
  exact HSL.o
def oL (h:df) (turns:List Int):Int:=
 if jo h turns≠0 then 0 else if(jI h turns).all (mP h)=true then 1 else if(jI h turns).any (mP h)=true then 3 else 2
theorem D9 (h:df) (wv tv vg NK:Value) (turns:List Int) (w:World) (hw:bP w wv h.bW) (ht:aP w tv h.turns) (hx:bz w vg h.readings) (htr:aP w NK turns):
 Calls Tryz.prog 16 #[hv h wv tv vg,NK] w (fun e w'=>e= .returned (.tuple #[iv (oL h turns),iv (jo h turns)])/\Below w.heap.size w w'):=by
 obtain⟨ow,cw,rfl⟩:=hw.open
 obtain⟨ot,ct,rfl⟩:=ht.open
 obtain⟨ox,cx,rfl⟩:=hx.open
 have HW:=ae hw
 have HT:=ae ht
 have HX:=ae hx
 clear hw ht hx
 obtain⟨oq,cq,rfl⟩:=htr.open
 have HQ:=ae htr
 clear htr
 obtain⟨E,hE⟩: ∃E,jo h turns=E:=⟨_,rfl⟩
 obtain⟨V,hV⟩: ∃V,oL h turns=V:=⟨_,rfl⟩
 rw[hE,hV]
 have HE:=ae hE
 have HV:=ae hV
 clear hE hV
 go_enter Tryz.func16,Tryz.ntmps16
 go_wp2_with fail
 refine(wF h _ _ _ _ turns _ (HW.o.alloc _) (HT.o.alloc _) (HX.o.alloc _) (HQ.o.alloc _)).mono ?_
 rintro e w1 ⟨hb,⟨hne,rfl⟩|⟨h0,wb,mb,rfl,hwb,hmb,hwk⟩⟩
 ·rw[HE.o] at hne⊢
  have hv0:V=0:=by
   have hne':jo h turns≠0:=by rw[HE.o];exact hne
   rw[<-HV.o]
   unfold oL
   rw[aA hne']
  subst hv0
  have HB:=ae hb
  clear hb
  go_wp2_with fail
  go_returns
  exact⟨by simp,aY (aj (aG _ _) _) HB.o⟩
 ·have hE0:E=0:=by rw[<-HE.o];exact h0
  subst hE0
  have HB:=ae hb
  have hS:=sG h0
  have HEV:=ae (Kv h hS _ _ _ _ turns wb mb w1 hwk ((HW.o.alloc _).below hb (ak _)) ((HT.o.alloc _).below hb (ak _)) ((HX.o.alloc _).below hb (ak _)) ((HQ.o.alloc _).below hb (ak _)))
  have Xh:w.heap.size+1<=mb:=by simpa using hmb
  have hl0:=hS.J3
  have hl9:=hS.BF
  have hbx:w1.heap[w.heap.size]? =some (.cells #[.int .i64 h.last,.int .i64 h.size,.int .i64 h.bg,.int .i64 h.die,.int .i64 h.uK,.int .i64 h.start.1,.int .i64 h.start.2,.slice ow h.bW.length cw,.slice ot h.turns.length ct,.slice ox h.readings.length cx] 39 (0,0)):=(hb.block _ (by simp)).trans (ay _ _)
  have HVV:Hid (V=if(jI h turns).all (mP h)=true then 1 else if(jI h turns).any (mP h)=true then 3 else 2):=ae (by
   rw[<-HV.o];unfold oL;rw[ai (by rw[h0];simp)])
  have O1:=Hy (h:=h) (turns:=turns)
  generalize jI h turns=ls at*
  have HBX:=ae hbx
  have abm:=ae O1
  clear hb hwk h0 hS hbx O1
  go_wp2_with fail
  refine HEV.o.mono ?_
  rintro e w2 ⟨v,rfl,hown,hcc,hE2⟩
  have hB2:=iw (aY (aj (aG _ _) _) HB.o) hE2 (by omega)
  have hbx2:=(hE2.block w.heap.size (aV.1 HBX.o).1 (by simp;omega)).trans HBX.o
  have hsl:lV w2 v ls:=⟨aN.dH hown,abm.o⟩
  obtain⟨vo,vc,rfl⟩:=aS hown
  have hc0: ∀i,w2.cell? ⟨w.heap.size,i,none⟩=(#[.int .i64 h.last,.int .i64 h.size,.int .i64 h.bg,.int .i64 h.die,.int .i64 h.uK,.int .i64 h.start.1,.int .i64 h.start.2,.slice ow h.bW.length cw,.slice ot h.turns.length ct,.slice ox h.readings.length cx]:Array Value)[i]? :=fun i=>by
   simp only[World.cell?,hbx2];rfl
  have hs2:=(aV.1 hbx2).1
  have HB2:=ae hB2
  have HSL:=ae hsl
  clear hown hcc hE2 hsl hB2 hbx2
  go_wp2_with fail
  have hkc: ∀x∈ls, ∀W,Calls Tryz.prog 46 ((#[hv h (.slice ow h.bW.length cw) (.slice ot h.turns.length ct) (.slice ox h.readings.length cx)]:Array Value).push (mg x)++ #[]) W (PV (.bool (mP h x)) W):=
   fun x hx W=>OW h ow ot ox _ _ _ _ _ _ x (abm.o x hx) W hl0 hl9
  have HKC:=ae hkc
  clear hkc
  refine(Ya ls (.slice vo ls.length vc) 46 #[hv h (.slice ow h.bW.length cw) (.slice ot h.turns.length ct) (.slice ox h.readings.length cx)] #[] (mP h) w2 HSL.o (enters_of Tryz.func46 (by kernel_rfl) rfl) (fun x hx W _=>HKC.o x hx W)).mono ?_
  rintro e w3 ⟨rfl,hb3⟩
  have HB3:=ae hb3
  have hc3: ∀i,w3.cell? ⟨w.heap.size,i,none⟩=(#[.int .i64 h.last,.int .i64 h.size,.int .i64 h.bg,.int .i64 h.die,.int .i64 h.uK,.int .i64 h.start.1,.int .i64 h.start.2,.slice ow h.bW.length cw,.slice ot h.turns.length ct,.slice ox h.readings.length cx]:Array Value)[i]? :=fun i=>(hb3.cell (p:=⟨w.heap.size,i,none⟩) hs2).trans (hc0 i)
  clear hb3 hc0
  obtain⟨A,hA⟩: ∃A,ls.all (mP h)=A:=⟨_,rfl⟩
  rw[hA] at HVV⊢
  clear hA
  cases A
  ·go_wp2_with fail
   refine(TW ls (.slice vo ls.length vc) 46 #[hv h (.slice ow h.bW.length cw) (.slice ot h.turns.length ct) (.slice ox h.readings.length cx)] #[] (mP h) w3 (HSL.o.below HB3.o) (enters_of Tryz.func46 (by kernel_rfl) rfl) (fun x hx W _=>HKC.o x hx W)).mono ?_
   rintro e w4 ⟨rfl,hb4⟩
   have HB4:=ae hb4
   clear hb4 hc3
   obtain⟨A,hA⟩: ∃A,ls.any (mP h)=A:=⟨_,rfl⟩
   rw[hA] at HVV⊢
   clear hA
   cases A
   all_goals
    go_wp2_with fail
    go_returns
    exact⟨by rw[HVV.o];simp,aY (aY HB2.o HB3.o) HB4.o⟩
  ·go_wp2_with fail
   go_returns
   exact⟨by rw[HVV.o];simp,aY HB2.o HB3.o⟩
end Go.Proofs.YthbpmepjmebolaaGreatDoor.jG
namespace Go.Proofs.YthbpmepjmebolaaGreatDoor.jG
open Go.RowKit Go.RG Go.SL Go.Shelf jv
end Go.Proofs.YthbpmepjmebolaaGreatDoor.jG
namespace Go.Proofs.YthbpmepjmebolaaGreatDoor.jG
open Go.RowKit Go.RG Go.SL Go.Shelf jv
end Go.Proofs.YthbpmepjmebolaaGreatDoor.jG
end
section
namespace Go.Proofs.YthbpmepjmebolaaGreatDoor.jG
open Go.RowKit Go.RG Go.SL Go.Shelf jv
end Go.Proofs.YthbpmepjmebolaaGreatDoor.jG
namespace Go.Proofs.YthbpmepjmebolaaGreatDoor.jG
open Go.RowKit Go.RG Go.SL Go.Shelf jv
abbrev TE:=Int×Value×List Int
abbrev tev (e:TE):Value:= .agg #[iv e.1,e.2.1]
def rO (es:List TE):List Value:=es.flatMap fun e=>[iv e.1,e.2.1]
def Cj (w:World) (v:Value) (es:List TE):Prop:=aN 2 w v es.length (rO es)
theorem Cj.len {w:World} {v:Value} {es:List TE} (h:Cj w v es):es.length<=9223372036854775807:=aN.len h
theorem Cj.open {w:World} {v:Value} {es:List TE} (h:Cj w v es): ∃o c,v= .slice o es.length c:=aN.open h
theorem Cj.cell {w:World} {o:Option Addr} {c:Nat} {es:List TE} (h:Cj w (.slice o es.length c) es) {k:Nat} (hk:k<es.length):
 ∃b off,o=some ⟨b,off,none⟩/\b<w.heap.size/\w.cell? ⟨b,off+k*2,none⟩=some (iv es[k].1)/\w.cell? ⟨b,off+k*2+1,none⟩=some es[k].2.1:=by
 obtain⟨hl,o',c',hv,h1,h2,h3,h4⟩:=h
 cases hv
 cases o with
 |none=>have:=h3 rfl;omega
 |some a=>
  obtain⟨b,off,sp⟩:=a
  obtain⟨hs,hc⟩:=h4 _ rfl
  simp only at hs hc
  subst hs
  have h0:=hc (k*2+0) (iv es[k].1) (by unfold rO;rw[jC _ 2 (fun _=>rfl) es k 0 hk (by omega)];rfl)
  have h1:=hc (k*2+1) es[k].2.1 (by unfold rO;rw[jC _ 2 (fun _=>rfl) es k 1 hk (by omega)];rfl)
  rw[Nat.add_zero] at h0
  rw[<-Nat.add_assoc] at h1
  exact⟨b,off,rfl,dN w _ h0,h0,h1⟩
theorem aem (l:List TE) (v:Value) (bn:Nat) (fst caps:Array Value) (p:Nat->Bool) (I:Nat->World->Prop) (w:World) (eg: ∀args w,(callFunc bn args).run Tryz.prog w= .ok (.enter bn args) w)
 (hsl: ∀k W,I k W->Cj W v l)
 (hcall: ∀k (hk:k<l.length) W,(∀j,j<k->p j=false)->I k W->Calls Tryz.prog bn (fst.push (tev l[k])++caps) W (fun e W'=>e= .returned (.bool (p k))/\I (k+1) W')) (h0:I 0 w):
 Calls Tryz.prog 278 #[v,.func (.func bn) fst caps] w (eG l.length p I (fun k=>iv k) (iv (-1))):=by
 have hlen:=(hsl 0 w h0).len
 obtain⟨o,c,rfl⟩:=(hsl 0 w h0).open
 have HC:=ae hcall
 have HS:=ae hsl
 clear hcall hsl
 go_enter Tryz.func278,Tryz.ntmps278
 go_wp2
 go_loopw [4,5,8] (fun _ _ i wr=> ∃k:Nat,k<=l.length/\i= .int .i64 k/\(∀j,j<k->p j=false)/\I k wr) (fun _ _ i _=>l.length-(intOf i).toNat)
 case atStart=>exact⟨0,bU _,rfl,fun j hj=>by omega,h0⟩
 case round=>
  obtain⟨k,hk,rfl,hno,hI⟩:=hrel
  by_cases hlt:k<l.length
  ·obtain⟨b,off,rfl,hb,hc0,hc1⟩:=Cj.cell (HS.o k wr hI) hlt
   have hC:=HC.o k hlt wr hno hI
   have HN:=ae hno
   clear hno
   go_wp2_with fail
   refine hC.mono ?_
   rintro e W1 ⟨rfl,hI1⟩
   have HI:=ae hI1
   clear hI1 hI hC
   cases hp:p k
   ·go_wp2_with fail
    go_roundw
    case rel=>exact⟨k+1,by omega,by go_num,fun j hj=>(by by_cases e:j=k;(subst e;exact hp);exact HN.o j (by omega)),HI.o⟩
    case measure=>simp[intOf];omega
   ·go_wp2_with fail
    go_returns
    exact⟨k,by omega,HN.o,.inl ⟨hlt,hp,by simp,HI.o⟩⟩
  ·have hkl:k=l.length:=by omega
   have HN:=ae hno
   clear hno
   go_wp2_with fail
   go_returns
   exact⟨k,by omega,HN.o,.inr ⟨hkl,by simp,by subst hkl;exact hI⟩⟩
theorem aaV (l:List TE) (v:Value) (bn:Nat) (fst caps:Array Value) (p:Nat->Bool) (I:Nat->World->Prop) (w:World) (eg: ∀args w,(callFunc bn args).run Tryz.prog w= .ok (.enter bn args) w)
 (hsl: ∀k W,I k W->Cj W v l)
 (hcall: ∀k (hk:k<l.length) W,(∀j,j<k->p j=false)->I k W->Calls Tryz.prog bn (fst.push (tev l[k])++caps) W (fun e W'=>e= .returned (.bool (p k))/\I (k+1) W')) (h0:I 0 w):
 Calls Tryz.prog 239 #[v,.func (.func bn) fst caps] w (eG l.length p I (fun _=> .bool true) (.bool false)):=by
 have HI:=ae (aem l v bn fst caps p I w eg hsl hcall h0)
 have hlen:=(hsl 0 w h0).len
 clear hsl hcall h0 eg
 go_enter Tryz.func239,Tryz.ntmps239
 go_wp2_with fail
 refine HI.o.mono ?_
 clear HI
 rintro e W' ⟨k,hk,hno,⟨hlt,hp,rfl,hI⟩|⟨hkl,rfl,hI⟩⟩
 ·have HN:=ae (ag hno (ag hp hI))
  clear hno hp hI
  go_wp2_with fail
  go_returns
  exact⟨k,hk,HN.o.1,.inl ⟨hlt,HN.o.2.1,by simp,HN.o.2.2⟩⟩
 ·have HN:=ae (ag hno (ag hkl hI))
  clear hno hkl hI
  go_wp2_with fail
  go_returns
  exact⟨k,hk,HN.o.1,.inr ⟨HN.o.2.1,by simp,HN.o.2.1▸HN.o.2.2⟩⟩
theorem aa8 (x:TE) (bx bn:Nat) (fst caps:Array Value) (b:Bool) (W:World) (R:World->Prop) (eg: ∀args w,(callFunc bn args).run Tryz.prog w= .ok (.enter bn args) w)
 (hbx:W.cell? ⟨bx,0,none⟩=some (.func (.func bn) fst caps))
 (hcall:Calls Tryz.prog bn (fst.push (tev x)++caps) (W.alloc (.cells #[iv x.1,x.2.1] 163)) (fun e W'=>e= .returned (.bool b)/\R W')):
 Calls Tryz.prog 240 #[tev x,.pointer (some ⟨bx,0,none⟩)] W (fun e W'=>e= .returned (.bool !b)/\R W'):=by
 have hlt:=dN W _ hbx
 have HC:=ae hcall
 clear hcall
 go_enter Tryz.func240,Tryz.ntmps240
 go_wp2_with fail
 refine HC.o.mono ?_
 rintro e W' ⟨rfl,hR⟩
 have HR:=ae hR
 clear hR
 go_wp2_with fail
 go_returns
 exact⟨by simp,HR.o⟩
theorem allT (l:List TE) (v:Value) (bn:Nat) (fst caps:Array Value) (p:Nat->Bool) (I:Nat->World->Prop) (w:World) (eg: ∀args w,(callFunc bn args).run Tryz.prog w= .ok (.enter bn args) w)
 (hsl: ∀k W,I k W->Cj W v l) (hal: ∀k W o,I k W->I k (W.alloc o))
 (hcall: ∀k (hk:k<l.length) W,(∀j,j<k->p j=true)->I k W->Calls Tryz.prog bn (fst.push (tev l[k])++caps) W (fun e W'=>e= .returned (.bool (p k))/\I (k+1) W'/\jr w.heap.size W W')) (h0:I 0 w):
 Calls Tryz.prog 166 #[v,.func (.func bn) fst caps] w (eG l.length (fun k=>!p k) I (fun _=> .bool false) (.bool true)):=by
 have HI:=ae (aaV l v 240 #[] #[.pointer (some ⟨w.heap.size,0,none⟩)] (fun k=>!p k)
  (fun k W=>I k W/\W.heap[w.heap.size]? =some (.cells #[.func (.func bn) fst caps] 227 (0,0))) (w.alloc (.cells #[.func (.func bn) fst caps] 227))
  (enters_of Tryz.func240 (by kernel_rfl) rfl) (fun k W h=>hsl k W h.1)
  (fun k hk W hno h=>by
    have hlt:w.heap.size<W.heap.size:=(aV.1 h.2).1
    refine(aa8 l[k] w.heap.size bn fst caps (p k) W (fun W'=>I (k+1) W'/\W'.heap[w.heap.size]? =some (.cells #[.func (.func bn) fst caps] 227 (0,0))) eg (aC h.2) ?_)
    refine(hcall k hk _ (fun j hj=>by simpa using hno j hj) (by first|exact hal _ _ _ h.1|exact h.1)).mono ?_
    rintro e W' ⟨rfl,h1,h2⟩
    refine⟨rfl,h1,(h2.block _ (ak _) (by first|exact hlt|(simp;omega))).trans (by first|exact h.2|exact(aW _ _ _ hlt).trans h.2)⟩)
  ⟨hal _ _ _ h0,heap_alloc_new w _⟩)
 have hlen:=(hsl 0 w h0).len
 clear hsl hcall h0 eg hal
 go_enter Tryz.func166,Tryz.ntmps166
 go_wp2_with fail
 refine HI.o.mono ?_
 clear HI
 rintro e W' ⟨k,hk,hno,⟨hlt,hp,rfl,hI,_⟩|⟨hkl,rfl,hI,_⟩⟩
 ·have HN:=ae (ag hno (ag hp hI))
  clear hno hp hI
  go_wp2_with fail
  go_returns
  exact⟨k,hk,HN.o.1,.inl ⟨hlt,HN.o.2.1,by simp,HN.o.2.2⟩⟩
 ·have HN:=ae (ag hno (ag hkl hI))
  clear hno hkl hI
  go_wp2_with fail
  go_returns
  exact⟨k,hk,HN.o.1,.inr ⟨HN.o.2.1,by simp,HN.o.2.1▸HN.o.2.2⟩⟩
theorem VZ (h:df) (hS:Sound h) (oa ob oc:Option Addr) (na ca nb cb nc cc:Nat) (wb mb:Nat) (e:TE) (turns:List Int) (tv:Value) (bw bt:Nat) (W:World) (hb1:W.heap[bw]? =some (.cells #[.pointer (some ⟨wb,0,none⟩)] 100 (0,0))) (hb2:W.heap[bt]? =some (.cells #[tv] 36 (0,0)))
 (hwk:ja W wb mb h (.slice oa na ca) (.slice ob nb cb) (.slice oc nc cc)) (he:aP W e.2.1 e.2.2) (J8:aP W tv turns) (hlen:e.2.2.length<=10) (h0:0<=e.1) (h1:e.1<=500) (Tc: ∀x∈e.2.2,0<=x/\x<=20):
 Calls Tryz.prog 167 #[tev e,.pointer (some ⟨bw,0,none⟩),.pointer (some ⟨bt,0,none⟩)] W (fun x W'=>x= .returned (.bool (mP h (lK h (e.1,e.2.2) turns)))/\Cache W' mb h.bg/\Ext [mb] W W'):=by
 obtain⟨ot,ct,rfl⟩:=J8.open
 obtain⟨start,ws,bW⟩:=e
 replace he:aP W ws bW:=he
 simp only at hlen h0 h1 Tc
 obtain⟨ows,cws,rfl⟩:=aN.open he
 have hl0:=hS.J3
 have hl9:=hS.BF
 have c1:=aC hb1
 have c2:=aC hb2
 have s1:=dN W _ c1
 have s2:=dN W _ c2
 have c3:=hwk.cell
 have s3:=hwk.lt
 have hn1:=Dj hwk.cache hb1
 have hn2:=Dj hwk.cache hb2
 have hn3:=Dj hwk.cache hwk.cells
 have hmb:=hwk.cache.lt
 obtain⟨ys,hy⟩: ∃ys,lK h (start,bW) turns=ys:=⟨_,rfl⟩
 have GZ:ys.length=10:=by rw[<-hy];exact lh _ _ _ _ _ _
 have hpl:=fun(W':World) (hb:Below W.heap.size W W')=>yu h _ _ _ wb mb start bW turns _ _ W' (hwk.below hb (ak _)) (he.below hb (ak _)) (J8.below hb (ak _)) hlen hS.NS hS.NR hS.PM hS.PL h0 h1 Tc
 obtain⟨q,hq⟩: ∃q,mP h ys=q:=⟨_,rfl⟩
 have hk:=fun(W':World)=>OW h oa ob oc na ca nb cb nc cc ys GZ W' hl0 hl9
 show Calls Tryz.prog 167 #[.agg #[iv start,.slice ows bW.length cws],.pointer (some ⟨bw,0,none⟩),.pointer (some ⟨bt,0,none⟩)] W (fun x W'=>x= .returned (.bool (mP h (lK h (start,bW) turns)))/\Cache W' mb h.bg/\Ext [mb] W W')
 rw[hy] at hpl⊢
 rw[hq] at hk⊢
 have Nr:=ae hpl
 have HK:=ae hk
 clear hpl hk hb1 hb2 hwk he J8 Tc hy hq hS
 go_enter Tryz.func167,Tryz.ntmps167
 go_wp2_with fail
 obtain⟨W1,hW1⟩: ∃W1,W.alloc (.cells #[iv start,.slice ows bW.length cws] 163)=W1:=⟨_,rfl⟩
 have hB1:Below W.heap.size W W1:=by rw[<-hW1];exact aj (aG _ _) _
 obtain⟨hc,hf⟩:=bT hB1
 have hz1:W1.heap.size=W.heap.size+1:=by rw[<-hW1];simp
 have hbt:W1.heap[W.heap.size]? =some (.cells #[iv start,.slice ows bW.length cws] 163 (0,0)):=by rw[<-hW1];exact ay _ _
 have hgt: ∀i,W1.cell? ⟨W.heap.size,i,none⟩=(#[iv start,.slice ows bW.length cws]:Array Value)[i]? :=fun i=>by
  simp only[World.cell?,hbt];rfl
 have z0:W.heap.size<W1.heap.size:=by omega
 have z1:bw<W1.heap.size:=by omega
 have z2:bt<W1.heap.size:=by omega
 have z3:wb<W1.heap.size:=by omega
 have hn4: ¬W.heap.size=mb:=by omega
 rw[hW1]
 have HB1:=ae hB1
 clear hW1 hB1 hbt
 refine zg 8 [mb] (some 7) [(7,⟨fun _ v=>v= .agg (ah ys).toArray,fun _ _ W=>Cache W mb h.bg⟩)] ?_
 simp only[zt]
 repeat (refine zd ?_;simp only[zp])
 refine bM _ (by rfl) (by rfl) ⟨_,rfl⟩ (fun W5 hE hF=>?_) (fun v Wa Wb hc hE=>?_) (fun v hv=>?_)
 ·have hE':Ext [] W1 W5:=hE
  refine dB 77 #[.pointer (some ⟨wb,0,none⟩),.agg #[iv start,.slice ows bW.length cws],.slice ot turns.length ct] (by go_simp;try rfl) ?_
  refine(Nr.o W5 (aY HB1.o hE'.below)).mono ?_
  rintro e W6 ⟨rfl,hcc,hE2⟩
  exact⟨_,rfl,rfl,hcc,hE2⟩
 ·have hE':Ext [] Wa Wb:=hE
  exact Cache.kept hc (hE'.block mb (Cache.lt hc) (by simp))
 obtain rfl:v= .agg (ah ys).toArray:=hv
 simp only[zp]
 intro W5 hE hF
 have hE':Ext [mb] W1 W5:=hE
 have hcc:Cache W5 mb h.bg:=hF _ (bK _)
 have HR:=ae (ag hcc ((Ext.az HB1.o).trans hE'))
 clear hE hF hE' hcc hgt
 go_wp2_with fail
 refine(HK.o W5).mono ?_
 rintro e W6 ⟨rfl,hb6⟩
 have qf:=ae hb6
 clear hb6 hc hf
 go_wp2_with fail
 go_returns
 exact⟨by simp,HR.o.1.kept (qf.o.block mb HR.o.1.lt),HR.o.2.bel qf.o⟩
theorem Zj (h:df) (hS:Sound h) (a b c:Value) (wb mb:Nat) (es:List TE) (ev:Value) (turns:List Int) (tv:Value) (w:World) (hwk:ja w wb mb h a b c) (h1:bP w a h.bW) (h2:aP w b h.turns) (h3:bz w c h.readings)
 (hev:Cj w ev es) (hes: ∀e∈es,aP w e.2.1 e.2.2/\e.2.2.length<=10/\(0<=e.1/\e.1<=500)/\ ∀x∈e.2.2,0<=x/\x<=20) (J8:aP w tv turns):
 Calls Tryz.prog 101 #[.pointer (some ⟨wb,0,none⟩),ev,tv] w (fun x w'=>x= .returned (.bool (es.all fun e=>mP h (lK h (e.1,e.2.2) turns)))/\Cache w' mb h.bg/\Ext [mb] w w'):=by
 obtain⟨oa,ca,rfl⟩:=h1.open
 obtain⟨ob,cb,rfl⟩:=h2.open
 obtain⟨oc,cc,rfl⟩:=h3.open
 obtain⟨ot,ct,rfl⟩:=J8.open
 obtain⟨oe,ce,rfl⟩:=Cj.open hev
 have hmb:=hwk.cache.lt
 obtain⟨q,hq⟩: ∃q,(es.all fun e=>mP h (lK h (e.1,e.2.2) turns))=q:=⟨_,rfl⟩
 have hall:=fun(w2:World) (hB:Below w.heap.size w w2) (hb0:w2.heap[w.heap.size]? =some (.cells #[.pointer (some ⟨wb,0,none⟩)] 100 (0,0))) (hb1:w2.heap[w.heap.size+1]? =some (.cells #[.slice ot turns.length ct] 36 (0,0)))=>
  allT es (.slice oe es.length ce) 167 #[] #[.pointer (some ⟨w.heap.size,0,none⟩),.pointer (some ⟨w.heap.size+1,0,none⟩)] (fun k=>mP h (lK h ((es.getD k (0,undef,[])).1,(es.getD k (0,undef,[])).2.2) turns))
   (fun _ W=>(Ext [mb] w W/\Cache W mb h.bg)/\W.heap[w.heap.size]? =some (.cells #[.pointer (some ⟨wb,0,none⟩)] 100 (0,0))/\W.heap[w.heap.size+1]? =some (.cells #[.slice ot turns.length ct] 36 (0,0))) w2 (enters_of Tryz.func167 (by kernel_rfl) rfl)
   (fun k W hI=>aN.gz hev hI.1.1 (fun x hx o=>by
     obtain rfl:x=mb:=by simpa using hx
     exact hwk.cache.nz o))
   (fun k W o hI=>⟨⟨hI.1.1.alloc o,hI.1.2.kept (aW _ _ _ hI.1.2.lt)⟩,(aW _ _ _ (aV.1 hI.2.1).1).trans hI.2.1,(aW _ _ _ (aV.1 hI.2.2).1).trans hI.2.2⟩)
   (fun k hk W _ hI=>by
     have hm: ∀x∈[mb], ∀o,w.cell? ⟨x,o,none⟩=none:=fun x hx o=>by
      obtain rfl:x=mb:=by simpa using hx
      exact hwk.cache.nz o
     obtain⟨k1,k2,k3,k4⟩:=hes es[k] (cZ hk)
     have hgd:es.getD k (0,undef,[])=es[k]:=by simp[List.getD,hk]
     rw[hgd]
     refine(VZ h hS oa ob oc _ _ _ _ _ _ wb mb es[k] turns (.slice ot turns.length ct) w.heap.size (w.heap.size+1) W hI.2.1 hI.2.2 (hwk.ext hI.1.1 hI.1.2) (k1.gz hI.1.1 hm) (J8.gz hI.1.1 hm) k2 k3.1 k3.2 k4).mono ?_
     rintro e W' ⟨rfl,hc,hE⟩
     refine⟨rfl,⟨⟨hI.1.1.trans hE,hc⟩,(hE.block _ (aV.1 hI.2.1).1 (by simp;omega)).trans hI.2.1,(hE.block _ (aV.1 hI.2.2).1 (by simp;omega)).trans hI.2.2⟩,jr.wO hE (fun x hx=>?_)⟩
     have:=hB.size
     simp at hx
     omega)
   ⟨⟨Ext.az hB,hwk.cache.kept (hB.block mb hmb)⟩,hb0,hb1⟩
 have afW:=ae hall
 have HQ:Hid (((List.range es.length).all fun k=>mP h (lK h ((es.getD k (0,undef,[])).1,(es.getD k (0,undef,[])).2.2) turns))=q):=ae (by rw[<-hq];exact jT es (fun e=>mP h (lK h (e.1,e.2.2) turns)) (0,undef,[]))
 rw[hq]
 have hlen:=Cj.len hev
 clear hall hq hes hev hwk h1 h2 h3 J8
 go_enter Tryz.func101,Tryz.ntmps101
 go_wp2_with fail
 refine(afW.o _ zl ((aW _ _ _ (by simp)).trans (ay _ _)) (dY _ _ _)).mono ?_
 intro e W' hpost
 obtain⟨rfl,k,_,hI⟩:=hpost.all
 rw[jJ,HQ.o]
 have HI:=ae hI
 clear hI hpost
 go_wp2_with fail
 go_returns
 exact⟨by simp,HI.o.1.2,HI.o.1.1⟩
end Go.Proofs.YthbpmepjmebolaaGreatDoor.jG
namespace Go.Proofs.YthbpmepjmebolaaGreatDoor.jG
open Go.RowKit Go.RG Go.SL Go.Shelf jv
attribute [local go_sem] Oper.semAt_some
theorem abR:iW Tryz.prog 191 163 (.agg #[iv 0,.slice none 0 0]) 2 32:=⟨Tryz.underlying191,by kernel_rfl,rfl,by omega⟩
def NY (h:df) (turns:List Int):Bool:=(dW h []).all fun t=>mP h (lK h t turns)
def Xx (h:df):Option (List Int):=nR (h.last+1).toNat (NY h)
def AL (h:df):Int:=if jo h []≠0 then jo h [] else if(Xx h).isSome then 0 else 10
def TF (h:df):List Int:=if jo h []≠0 then[] else(Xx h).getD []
structure Few (w:World) (wb:Nat) (es:List TE) (Ms:List Nat) (W:World):Prop where
 b0:W.heap[w.heap.size]? =some (.cells #[.pointer (some ⟨wb,0,none⟩)] 100 (0,0))
 out: ∃v,W.heap[w.heap.size+1]? =some (.cells #[v] 191 (0,0))/\W.ownsRow (w.heap.size+6) 163 2 v es.length (rO es)/\(∀g,v.ownBlock=some g->g∉Ms/\g<W.heap.size)/\
  ∀e∈es,W.ownsRow (w.heap.size+6) 3 1 e.2.1 e.2.2.length (ah e.2.2)/\ ∀g,e.2.1.ownBlock=some g->(g∉Ms/\g<W.heap.size)/\v.ownBlock≠some g
 b3:W.heap[w.heap.size+1+1]? =some (.cells #[.pointer (some ⟨wb,0,none⟩)] 100 (0,0))
 b4:W.heap[w.heap.size+1+1+1]? =some (.cells #[.slice none 0 0] 36 (0,0))
theorem Few.kept {w:World} {wb:Nat} {es:List TE} {Ms Ms':List Nat} {W W':World} (h:Few w wb es Ms W) (hs:W.heap.size<=W'.heap.size) (hk: ∀b,w.heap.size<=b->b<w.heap.size+4->W'.heap[b]? =W.heap[b]?)
 (ho: ∀g,w.heap.size+6<=g->g<W.heap.size->g∉Ms->W'.heap[g]? =W.heap[g]?) (hM: ∀m∈Ms',m∈Ms∨(W.heap.size<=m/\m<W'.heap.size)):Few w wb es Ms' W':=by
 obtain⟨v,h1,h2,h3,h4⟩:=h.out
 have hnM: ∀g,(g∉Ms/\g<W.heap.size)->g∉Ms'/\g<W'.heap.size:=fun g ⟨hg1,hg2⟩=>⟨fun hm=>by
  rcases hM g hm with h5|h5
  ·exact hg1 h5
  ·omega,by omega⟩
 refine⟨(hk _ (by omega) (by omega)).trans h.b0,⟨v,(hk _ (by omega) (by omega)).trans h1,dQ h2 fun g hg=>ho g (bJ h2 g hg).1 (bJ h2 g hg).2 (h3 g hg).1,fun g hg=>hnM g (h3 g hg),fun e he=>?_⟩,
  (hk _ (by omega) (by omega)).trans h.b3,(hk _ (by omega) (by omega)).trans h.b4⟩
 obtain⟨k1,k2⟩:=h4 e he
 exact⟨dQ k1 fun g hg=>ho g (bJ k1 g hg).1 (bJ k1 g hg).2 (k2 g hg).1.1,fun g hg=>⟨hnM g (k2 g hg).1,(k2 g hg).2⟩⟩
theorem aaJ {w W7 W8 W9:World} {wb mb:Nat} {bg:Int} {v v':Value} {es:List TE} {e:TE} {Os Ms:List Nat} (hF:Fr w mb bg Os Ms W7) (hP:Few w wb es Ms W7)
 (hv1:W7.heap[w.heap.size+1]? =some (.cells #[v] 191 (0,0))) (hv3: ∀g,v.ownBlock=some g->(w.heap.size+6<=g/\g<W7.heap.size)/\g∉Ms)
 (hE:Ext [] W7 W8) (hG:W8.grownBy W9 v.ownBlock) (hN:v'.ownBlock=v.ownBlock∨v'.ownBlock=some W8.heap.size) (hO:W9.ownsRow (w.heap.size+6) 163 2 v' (es.length+1) (rO es++[iv e.1,e.2.1]))
 (hC:W8.ownsRow W7.heap.size 3 1 e.2.1 e.2.2.length (ah e.2.2)) (hmb:mb<w.heap.size) (hs:w.heap.size+6<=W7.heap.size):
 (Fr w mb bg Os Ms (W9.setCell ⟨w.heap.size+1,0,none⟩ v')/\Few w wb (es++[e]) Ms (W9.setCell ⟨w.heap.size+1,0,none⟩ v'))/\
   (∀b,b<W7.heap.size->v.ownBlock≠some b->b≠w.heap.size+1->(W9.setCell ⟨w.heap.size+1,0,none⟩ v').heap[b]? =W7.heap[b]?)/\W7.heap.size<=(W9.setCell ⟨w.heap.size+1,0,none⟩ v').heap.size:=by
 have h1:=hE.size
 have h2:=hG.size
 have hk: ∀b,b<W7.heap.size->v.ownBlock≠some b->W9.heap[b]? =W7.heap[b]? :=fun b hb hn=>
  (hG.block b (by omega) (fun e=>hn e.symm)).trans (hE.block b hb (by simp))
 have hks: ∀b,b<W7.heap.size->v.ownBlock≠some b->b≠w.heap.size+1->(W9.setCell ⟨w.heap.size+1,0,none⟩ v').heap[b]? =W7.heap[b]? :=fun b hb hn hne=>
  (dI _ _ _ _ hne).trans (hk b hb hn)
 have hlow: ∀b,b<w.heap.size+6->v.ownBlock≠some b:=fun b hb e=>by have:=(hv3 b e).1.1;omega
 have hsz:W7.heap.size<=(W9.setCell ⟨w.heap.size+1,0,none⟩ v').heap.size:=by simp[World.setCell];omega
 have hb:=bJ hO
 have hcb:=bJ hC
 have ag6: ∀g,v'.ownBlock=some g->g∉Ms/\g<W9.heap.size:=fun g hg=>⟨fun hm=>by
  rcases hN with hN|hN
  ·exact(hv3 g (by rw[<-hN,hg])).2 hm
  ·rw[hg] at hN
   injection hN with hN
   have:=hF.bnd g hm
   omega,(hb g hg).2⟩
 refine⟨⟨hF.own ⟨hG.os.trans (hE.os.trans hF.ext.os),hG.tape.trans (hE.tape.trans hF.ext.tape),hG.output.trans (hE.output.trans hF.ext.output),by have:=hF.ext.size;omega,fun k hk' hm=>(hks k (by have:=hF.ext.size;omega) (hlow k (by omega)) (by omega)).trans (hF.ext.block k hk' hm)⟩ hsz (hF.cache.kept (hks mb (by omega) (hlow mb (by omega)) (by omega))),?_⟩,hks,hsz⟩
 obtain⟨vv,q1,q2,q3,q4⟩:=hP.out
 have hvv:vv=v:=by
  rw[hv1] at q1
  simpa using q1.symm
 subst hvv
 refine⟨(hks _ (by omega) (hlow _ (by omega)) (by omega)).trans hP.b0,⟨v',?_,?_,fun g hg=>⟨(ag6 g hg).1,by have:=(ag6 g hg).2;simpa [World.setCell] using this⟩,fun x hx=>?_⟩,(hks _ (by omega) (hlow _ (by omega)) (by omega)).trans hP.b3,(hks _ (by omega) (hlow _ (by omega)) (by omega)).trans hP.b4⟩
 ·exact aJ ((hk _ (by omega) (hlow _ (by omega))).trans hv1) _
 ·rw[dA]
  have:rO (es++[e])=rO es++[iv e.1,e.2.1]:=by simp[rO]
  rw[this]
  exact dQ hO fun g hg=>dI _ _ _ _ (by have:=(hb g hg).1;show g≠w.heap.size+1;omega)
 ·rcases iI.1 hx with hx|hx
  ·obtain⟨k1,k2⟩:=q4 x hx
   have kb:=bJ k1
   refine⟨dQ k1 fun g hg=>hks g (kb g hg).2 (k2 g hg).2 (by have:=(kb g hg).1;omega),fun g hg=>⟨⟨(k2 g hg).1.1,by have:=(kb g hg).2;omega⟩,fun e1=>?_⟩⟩
   rcases hN with hN|hN
   ·exact(k2 g hg).2 (by rw[<-hN,e1])
   ·rw[e1] at hN
    injection hN with hN
    have:=(kb g hg).2
    omega
  ·obtain rfl:x=e:=by simpa using hx
   refine⟨dh (dQ hC fun g hg=>(dI _ _ _ _ (by have:=(hcb g hg).1;show g≠w.heap.size+1;omega)).trans (hG.block g (hcb g hg).2 (fun e1=>by have:=(hv3 g e1.symm).1.2;have:=(hcb g hg).1;omega))) (by omega),fun g hg=>⟨⟨fun hm=>?_,?_⟩,fun e1=>?_⟩⟩
   ·have:=hF.bnd g hm;have:=(hcb g hg).1;omega
   ·have:=(hcb g hg).2;simp[World.setCell];omega
   ·rcases hN with hN|hN
    ·have:=(hv3 g (by rw[<-hN,e1])).1.2;have:=(hcb g hg).1;omega
    ·rw[e1] at hN
     injection hN with hN
     have:=(hcb g hg).2;omega
end Go.Proofs.YthbpmepjmebolaaGreatDoor.jG
namespace Go.Proofs.YthbpmepjmebolaaGreatDoor.jG
open Go.RowKit Go.RG Go.SL Go.Shelf jv
attribute [local go_sem] Oper.semAt_some
theorem Pj (h:df) (hS:Sound h) (a b c:Value) (wb mb:Nat) (es:List TE) (o:Option Addr) (cp:Nat) (turns:List Int) (tv:Value) (bw bt:Nat) (W:World) (hb1:W.heap[bw]? =some (.cells #[.pointer (some ⟨wb,0,none⟩)] 100 (0,0))) (hb2:W.heap[bt]? =some (.cells #[.slice o es.length cp] 191 (0,0)))
 (hwk:ja W wb mb h a b c) (h1:bP W a h.bW) (h2:aP W b h.turns) (h3:bz W c h.readings) (hev:Cj W (.slice o es.length cp) es)
 (hes: ∀e∈es,aP W e.2.1 e.2.2/\e.2.2.length<=10/\(0<=e.1/\e.1<=500)/\ ∀x∈e.2.2,0<=x/\x<=20) (J8:aP W tv turns):
 Calls Tryz.prog 100 #[tv,.pointer (some ⟨bw,0,none⟩),.pointer (some ⟨bt,0,none⟩)] W (fun x w'=>x= .returned (.bool (es.all fun e=>mP h (lK h (e.1,e.2.2) turns)))/\Cache w' mb h.bg/\Ext [mb] W w'):=by
 have HSF:=ae (Zj h hS a b c wb mb es (.slice o es.length cp) turns tv W hwk h1 h2 h3 hev hes J8)
 have c1:=aC hb1
 have c2:=aC hb2
 have s1:=dN W _ c1
 have s2:=dN W _ c2
 obtain⟨ot,ct,rfl⟩:=J8.open
 generalize (es.all fun e=>mP h (lK h (e.1,e.2.2) turns))=q at*
 clear hb1 hb2 hwk h1 h2 h3 hev hes J8
 go_enter Tryz.func100,Tryz.ntmps100
 go_wp2_with fail
 refine HSF.o.mono ?_
 rintro e W' ⟨rfl,hc,hE⟩
 have HR:=ae (ag hc hE)
 clear hc hE
 go_wp2_with fail
 go_returns
 exact⟨by simp,HR.o⟩
theorem UO (h:df) (wv tv vg:Value) (w:World) (hw:bP w wv h.bW) (ht:aP w tv h.turns) (hx:bz w vg h.readings):
 Calls Tryz.prog 56 #[hv h wv tv vg] w (fun e w'=> ∃v,e= .returned (.tuple #[v,iv (AL h)])/\aP w' v (TF h)/\Below w.heap.size w w'):=by
 obtain⟨ow,cw,rfl⟩:=hw.open
 obtain⟨ot,ct,rfl⟩:=ht.open
 obtain⟨ox,cx,rfl⟩:=hx.open
 have HW:=ae hw
 have HT:=ae ht
 have HX:=ae hx
 clear hw ht hx
 obtain⟨E,hE⟩: ∃E,AL h=E:=⟨_,rfl⟩
 obtain⟨L,hL⟩: ∃L,TF h=L:=⟨_,rfl⟩
 rw[hE,hL]
 have HE:=ae hE
 have HL:=ae hL
 clear hE hL
 refine(callsIn_wide (n:=0)).1 ?_
 refine callsIn_of_wp_marks Tryz.func56 rfl trivial ?_
 simp only[Tryz.ntmps56,List.size_toArray,List.length_cons,List.length_nil,Nat.reduceAdd,Nat.reduceSub,Array.replicate_succ,Array.replicate_zero,lT,lU,List.nil_append,List.cons_append]
 gi_wp2_with fail
 refine(callsIn_wide.2 (wF h _ _ _ _ [] _ (HW.out.alloc _) (HT.out.alloc _) (HX.out.alloc _) (qO _))).mono ?_
 rintro e w1 ⟨hb,⟨hne,rfl⟩|⟨h0,wb,mb,rfl,hwb,hmb,hwk⟩⟩
 ·have he:E=jo h []:=by rw[<-HE.out];unfold AL;rw[aA hne]
  have hl:L=[]:=by rw[<-HL.out];unfold TF;rw[aA hne]
  subst hl
  obtain⟨E',hE'⟩: ∃E',jo h []=E':=⟨_,rfl⟩
  rw[hE'] at hne he⊢
  subst he
  have HB:=ae hb
  clear hb
  gi_wp2_with fail
  refine⟨.tuple #[.slice none 0 0,iv E],by simp[results,Tryz.results56,go_sem],?_⟩
  exact⟨.slice none 0 0,by simp,qO _,aj (aY (aj (aG _ _) _) HB.out) _⟩
 ·have hS:=sG h0
  have Xh:w.heap.size+1<=mb:=by simpa using hmb
  have hb0:w1.heap[w.heap.size]? =some (.cells #[.int .i64 h.last,.int .i64 h.size,.int .i64 h.bg,.int .i64 h.die,.int .i64 h.uK,.int .i64 h.start.1,.int .i64 h.start.2,.slice ow h.bW.length cw,.slice ot h.turns.length ct,.slice ox h.readings.length cx] 39 (0,0)):=(hb.block _ (by simp)).trans (ay _ _)
  have hbw:Below w.heap.size w w1:=aY (aj (aG _ _) _) hb
  have H1:=ae (HW.out.below hbw (ak _))
  have H2:=ae (HT.out.below hbw (ak _))
  have H3:=ae (HX.out.below hbw (ak _))
  have HBW:=ae hbw
  have HB0:=ae hb0
  have FQ:=ae hwk
  have pz:=ae hS
  have hw0:=(aV.1 hb0).1
  have G8:=hwk.cache.lt
  have QC:Hid (E=(if(Xx h).isSome then 0 else 10)/\L=(Xx h).getD []):=ae ⟨by rw[<-HE.out];unfold AL;rw[ai (by rw[h0];simp)],by rw[<-HL.out];unfold TF;rw[ai (by rw[h0];simp)]⟩
  clear hb hwk h0 hS hb0 hbw hwb hmb
  gi_wp2_with fail
  refine(callsIn_wide.2 (zY wb _ _ _ _)).mono ?_
  rintro e w1' ⟨rfl,rfl⟩
  gi_wp2_with fail
  obtain⟨w2,hw2⟩: ∃w2,((((w1.alloc (.cells #[.pointer (some ⟨wb,0,none⟩)] 100)).alloc (.cells #[.slice none 0 0] 191)).alloc (.cells #[.pointer (some ⟨wb,0,none⟩)] 100)).alloc (.cells #[.slice none 0 0] 36))=w2:=⟨_,rfl⟩
  have hB2:Below w1.heap.size w1 w2:=by rw[<-hw2];exact zl
  have hsz2:w2.heap.size=w1.heap.size+4:=by rw[<-hw2];simp
  have hP2:Few w1 wb [] [mb] w2:=by
   rw[<-hw2]
   have n3:=ay (((w1.alloc (.cells #[.pointer (some ⟨wb,0,none⟩)] 100)).alloc (.cells #[.slice none 0 0] 191)).alloc (.cells #[.pointer (some ⟨wb,0,none⟩)] 100)) (.cells #[.slice none 0 0] 36)
   simp only[bI] at n3
   refine⟨?_,⟨.slice none 0 0,?_,⟨rfl,.inl ⟨rfl,rfl⟩⟩,(fun g hg=>by cases hg),(fun e he=>by cases he)⟩,?_,n3⟩
   ·exact(aW _ _ _ (by first|omega|(simp;done)|(simp;omega))).trans ((aW _ _ _ (by first|omega|(simp;done)|(simp;omega))).trans ((aW _ _ _ (by first|omega|(simp;done)|(simp;omega))).trans (ay _ _)))
   ·exact(aW _ _ _ (by first|omega|(simp;done)|(simp;omega))).trans ((aW _ _ _ (by first|omega|(simp;done)|(simp;omega))).trans (dY _ _ _))
   ·exact(aW _ _ _ (by first|omega|(simp;done)|(simp;omega))).trans (iD _ _ _ _)
  rw[hw2]
  clear hw2
  refine mX (zX h pz.out (.slice ow h.bW.length cw) (.slice ot h.turns.length ct) (.slice ox h.readings.length cx) (.slice none 0 0) [] wb mb (w1.heap.size+1+1) (w1.heap.size+1+1+1)) rfl (enters_of Tryz.func133 (by kernel_rfl) rfl) rfl (by simp;omega)
   (fun Ms k W=>Fr w1 mb h.bg [w1.heap.size,w1.heap.size+1,w1.heap.size+2,w1.heap.size+3,w1.heap.size+4,w1.heap.size+5] Ms W/\ ∃es:List TE,es.map (fun e=>(e.1,e.2.2))=(dW h []).take k/\Few w1 wb es Ms W)
   (fun _ _ _=>False)
   ?hInv ?tX ?hI ?hIx ?QN ?yH ?h0
   (fun a Ms k W1 a₁ W=> ∃(t:Int×List Int) (ob bt:Nat),(dW h [])[k]? =some t/\a₁={tmps:=(a.tmps.setIfInBounds 20 (.agg #[iv t.1,.slice (some ⟨ob,1,none⟩) t.2.length t.2.length])).setIfInBounds 7 (.pointer (some ⟨bt,0,none⟩)),defers:=[]}/\
     (Fr w1 mb h.bg [w1.heap.size,w1.heap.size+1,w1.heap.size+2,w1.heap.size+3,w1.heap.size+4,w1.heap.size+5] Ms W/\ ∃es:List TE,es.map (fun e=>(e.1,e.2.2))=(dW h []).take k/\Few w1 wb es Ms W)/\
     (W.heap[bt]? =some (.cells #[iv t.1,.slice (some ⟨ob,1,none⟩) t.2.length t.2.length] 163 (0,0))/\(w1.heap.size+6<=bt/\ob∈Ms/\ob≠mb)/\aP W (.slice (some ⟨ob,1,none⟩) t.2.length t.2.length) t.2)/\(∀m∈Ms,m∉[mb]->m<W1.heap.size->W.heap[m]? =W1.heap[m]?)/\W1.heap.size<=W.heap.size)
   ?Tv ?hassign ?hbody ?hdone ?hstop
  case hInv=>rintro Ms k W ⟨hF,es,hes,hP⟩;exact hF.abM FQ.out H1.out H2.out H3.out (qO w1) hP.b3 hP.b4
  case tX=>rintro cd Ms W h;exact h.elim
  case hI=>
   rintro Ms Ms' k Wa Wb ⟨hF,es,hes,hP⟩ hE hMs hc
   exact⟨(hF.jd hE hMs hc).1,es,hes,hP.kept hE.size (fun b h1 h2=>(hF.jd hE hMs hc).2 b (by simp;omega)) (fun g h1 h2 h3=>hE.block g h2 h3) hMs⟩
  case hIx=>rintro cd Ms Ms' Wa Wb h;exact h.elim
  case QN=>
   rintro Ms k W r o ⟨hF,es,hes,hP⟩ hr
   exact⟨hF.put o (by omega) G8,es,hes,hP.kept (by simp) (fun b h1 h2=>World.putObj_heap_other (by omega)) (fun g h1 h2 h3=>World.putObj_heap_other (by omega)) (fun m hm=> .inl hm)⟩
  case yH=>rintro cd Ms W r o h;exact h.elim
  case h0=>
   intro o o'
   have hB:Below w1.heap.size w1 ((w2.alloc o).alloc o'):=aj (aj hB2 _) _
   exact⟨⟨Ext.az hB,fun m hm=> .inl (by simpa using hm),fun m hm=>(by have:=hB.size;simp at hm;omega),fun b hb=>⟨by simp at hb⊢;omega,by simp at hb⊢;omega⟩,FQ.out.cache.kept (hB.block mb G8)⟩,
    [],by simp,hP2.kept (by simp;omega) (fun b h1 h2=>(aW _ _ _ (by simp;omega)).trans (aW _ _ _ (by omega))) (fun g h1 h2 h3=>by omega) (fun m hm=> .inl hm)⟩
  case Tv=>
   rintro Ms k W1 a₁ W o ⟨t,ob,bt,ht,ha,⟨hF,es,hes,hP⟩,⟨hbt,⟨hb7,hob,hne⟩,hsl⟩,hk,hs⟩
   have hap:=(hF.apart (w1.heap.size+5) (by simp)).1
   refine⟨t,ob,bt,ht,ha,⟨hF.put o (by omega) G8,es,hes,hP.kept (by simp) (fun b h1 h2=>World.putObj_heap_other (by omega)) (fun g h1 h2 h3=>World.putObj_heap_other (by omega)) (fun m hm=> .inl hm)⟩,
    ⟨(World.putObj_heap_other (by omega)).trans hbt,⟨hb7,hob,hne⟩,hsl.kept fun b off n c hv _=>by cases hv;exact World.putObj_heap_other (fun e=>hap (by rw[show w1.heap.size+5=ob by omega];exact hob))⟩,
    fun m hm h0 hml=>(World.putObj_heap_other (fun e=>hap (by rw[show w1.heap.size+5=m by omega];exact hm))).trans (hk m hm h0 hml),by simpa using hs⟩
  case hassign=>
   rintro Ms k v W hk ⟨hF,es,hes,hP⟩ ⟨ob,rfl,hsl,hob,hne⟩ hlt
   generalize ht:(dW h [])[k]=t at*
   have htk:(dW h [])[k]? =some t:=by rw[dP hk,ht]
   gi_wp2
   have hB:Below W.heap.size W (W.alloc (.cells #[iv t.1,.slice (some ⟨ob,1,none⟩) t.2.length t.2.length] 163)):=aj (aG _ _) _
   have hc:=hF.cache.kept (hB.block mb hF.cache.lt)
   exact⟨⟨t,ob,W.heap.size,htk,rfl,⟨(hF.jd (Ext.az hB) (fun m hm=> .inl hm) hc).1,es,hes,hP.kept (by simp) (fun b h1 h2=>aW _ _ _ (by omega)) (fun g h1 h2 h3=>aW _ _ _ (by omega)) (fun m hm=> .inl hm)⟩,
    ⟨ay _ _,⟨by omega,hob,hne⟩,hsl.alloc _⟩,fun m hm h0 hml=>aW _ _ _ (by omega),by simp⟩,aW _ _ _ (by omega),aW _ _ _ (by omega)⟩
  case hbody=>
   rintro Ms k W1 a₁ W busy hk ⟨t,ob,bt,ht,rfl,⟨hF,es,hes,hP⟩,⟨hbt,⟨hb7,hob,hne⟩,hsl⟩,hkeep,hsz⟩ hrec hD
   simp only[uq,List.set_cons_succ,List.set_cons_zero]
   obtain⟨v,hv1,hv2,hv3,hv4⟩:=hP.out
   obtain⟨vo,vc,rfl⟩:=aS hv2
   have htm:t∈dW h []:=nJ ht
   obtain⟨hl2,hs0,hrest⟩:=Bf pz.out htm
   have hlast:=pz.out.BF
   have hwl:=pz.out.FZ
   have hlk:es.length<=2000:=by
    have h5:=congrArg List.length hes
    rw[lN,gY] at h5
    have:=xZ pz.out []
    omega
   have d1:=aC hv1
   have d2:=bD hv1 0
   have d3:=dN W _ d1
   have kt:=(aV.1 hbt).1
   have hg: ∀i,W.cell? ⟨bt,i,none⟩=(#[iv t.1,.slice (some ⟨ob,1,none⟩) t.2.length t.2.length]:Array Value)[i]? :=fun i=>by
    simp only[World.cell?,hbt];rfl
   have hw6:w1.heap.size+6<=W.heap.size:=by omega
   have htl:t.2.length<=10:=by omega
   clear hl2
   have HT2:=ae (ag ht hk)
   have HF:=ae hF
   have HP:=ae hP
   have HES:=ae hes
   have HSL:=ae hsl
   have HV:=ae (ag hv1 (ag hv2 hv3))
   have HK:=ae (ag hkeep (ag hrec hD))
   clear hF hP hkeep hrec hD hbt hsl ht hrest htm hes hv1 hv2 hv3 hv4
   gi_wp2_with fail
   refine dV 8 [] none [(5,⟨fun _ v=> ∃o c,v= .slice o t.2.length c,fun _ v Wx=>Wx.ownsRow W.heap.size 3 1 v t.2.length (ah t.2)⟩),(7,⟨fun _ v=> ∃b:Nat,v= .slice (some ⟨b,0,none⟩) 1 1,fun xs v Wx=> ∃(b:Nat) (x:Value),xs=[.agg #[iv t.1,x]]/\v= .slice (some ⟨b,0,none⟩) 1 1/\Wx.heap[b]? =some (.cells #[iv t.1,x] 163 (0,0))⟩)] (by kernel_rfl) (by kernel_rfl) (by kernel_rfl) ?_
   simp only[zt]
   repeat (refine zd ?_;simp only[zp])
   refine bM _ (by rfl) (by rfl) (by exact⟨.slice none t.2.length 0,none,0,rfl⟩) (fun W5 hE hF=>?_) (fun v Wa Wb ho hE=>aB (Ms:=[]) ho hE (by simp)) (fun v hv=>?_)
   ·have hE':Ext [] W W5:=hE
    refine dB 98 #[.slice (some ⟨ob,1,none⟩) t.2.length t.2.length] (by go_simp;try rfl) ?_
    refine(clone_any t.2 _ W5 (HSL.out.below hE'.below (ak _)) (by omega)).mono ?_
    rintro e W6 ⟨v,rfl,ho,hb⟩
    exact⟨v,rfl,aS ho,dh ho hE'.size,Ext.az hb⟩
   obtain⟨o5,c5,rfl⟩:=hv
   simp only[zp]
   repeat (refine zd ?_;simp only[zp])
   refine bM _ (by rfl) (by rfl) (by exact⟨.slice (some ⟨0,0,none⟩) 1 1,0,rfl⟩) (fun W5 hE hF=>?_) (fun v Wa Wb ho hE=>?_) (fun v hv=>?_)
   ·refine jf (W':=W5.alloc (.cells #[iv t.1,.slice o5 t.2.length c5] 163)) (.slice (some ⟨W5.heap.size,0,none⟩) 1 1) (by go_simp;try rfl) ⟨⟨_,rfl⟩,⟨_,_,rfl,rfl,heap_alloc_new _ _⟩,Ext.az ((aG _ _).alloc (ak _) _)⟩
   ·obtain⟨b,x,hx,hv,hc⟩:=ho
    exact⟨b,x,hx,hv,(hE.block b (aV.1 hc).1 (by simp)).trans hc⟩
   obtain⟨b7,rfl⟩:=hv
   simp only[zp]
   intro W8 ik Xo
   have hE:Ext [] W W8:=ik
   obtain⟨b7',x7,hx7,alj,hblk7⟩:=Xo _ (bK _)
   cases alj
   have akl:x7= .slice o5 t.2.length c5:=by
    have h9:[Value.agg #[iv t.1,.slice o5 t.2.length c5]]=[Value.agg #[iv t.1,x7]]:=hx7
    simp at h9
    exact h9.symm
   subst akl
   have hcl:W8.ownsRow W.heap.size 3 1 (.slice o5 t.2.length c5) t.2.length (ah t.2):=Xo _ (nU _ (bK _))
   obtain⟨hc,hf⟩:=bT hE.below
   have hz8:=hE.size
   have EF:=aB (Ms:=[]) HV.out.2.1 hE (by simp)
   have jc:=ae hE
   have HOW:=ae EF
   have HCL:=ae hcl
   have Ba:=ae hblk7
   clear hE ik Xo EF hcl hblk7 hx7 hg
   gi_wp2_with (gi_at_builtin;go_loud (refine qU (fun _=>trivial) rfl uX rfl _ _ abR rfl (w1.heap.size+6) (.slice vo es.length vc) es.length (rO es) rfl HOW.out (.slice (some ⟨b7,0,none⟩) 1 1) 1 [iv t.1,.slice o5 t.2.length c5] rfl (aN.dm 2 1 Ba.out rfl (by decide)) (by intro u hu;simp at hu;rcases hu with rfl|rfl <;>rfl) (by omega) (by omega) (by omega) ?_))
   intro v' W9 hown hgr hown'
   obtain⟨o9,c9,rfl⟩:=aS hown
   have xA:=ae hown
   have HG9:=ae hgr
   have HN9:=ae hown'
   have QM:=bJ HV.out.2.1
   have ql: ∀b,b<w1.heap.size+6->b<W.heap.size->W9.heap[b]? =W.heap[b]? :=fun b hb hb7=>
    (hgr.block b (by omega) (fun e=>by have:=QM b e.symm;omega)).trans (jc.out.block b hb7 (by simp))
   have OZ:W8.heap.size<=W9.heap.size:=hgr.size
   have e1:W9.cell? ⟨w1.heap.size+1,0,none⟩=some (.slice vo es.length vc):=aC ((ql _ (by omega) d3).trans HV.out.1)
   have e2:W9.frozen? ⟨w1.heap.size+1,0,none⟩=false:=bD ((ql _ (by omega) d3).trans HV.out.1) 0
   have e3:=dN W9 _ e1
   clear hown hgr hown' ql hc hf
   gi_wp2_with fail
   obtain⟨⟨hF9,hP9⟩,hks,Td⟩:=aaJ (e:=(t.1,.slice o5 t.2.length c5,t.2)) HF.out HP.out HV.out.1 (fun g hg=>⟨QM g hg,(HV.out.2.2 g hg).1⟩) jc.out HG9.out HN9.out xA.out HCL.out G8 hw6
   have hap:=HF.out.apart
   refine⟨⟨?_,?_,fun m hm h0 hml=>?_,by omega⟩,hF9,es++[(t.1,.slice o5 t.2.length c5,t.2)],?_,hP9⟩
   ·refine(hks _ (hap (w1.heap.size+5) (by simp)).2 (fun e=>by have:=QM _ e;omega) (by omega)).trans ?_
    rw[show w1.heap.size+5=w2.heap.size+1 by omega];exact HK.out.2.1
   ·refine(hks _ (hap (w1.heap.size+4) (by simp)).2 (fun e=>by have:=QM _ e;omega) (by omega)).trans ?_
    rw[<-hsz2];exact HK.out.2.2
   ·exact(hks m (by omega) (fun e=>(HV.out.2.2 m e).1 hm) (fun e=>(hap (w1.heap.size+1) (by simp)).1 (by rw[<-e];exact hm))).trans (HK.out.1 m hm h0 hml)
   ·rw[List.map_append,HES.out,iE HT2.out.2]
    have:=HT2.out.1
    rw[dP HT2.out.2] at this
    injection this with this
    rw[this]
    rfl
  case hdone=>
   rintro Ms W ⟨hF,es,hes,hP⟩ hD hlt
   rw[List.take_length] at hes
   rw[hsz2] at hD
   obtain⟨v,hv1,hv2,hv3,hv4⟩:=hP.out
   obtain⟨vo,vc,rfl⟩:=aS hv2
   have hb0:=(hF.ext.block w.heap.size hw0 (by simp;omega)).trans HB0.out
   have hc0: ∀i,W.cell? ⟨w.heap.size,i,none⟩=(#[.int .i64 h.last,.int .i64 h.size,.int .i64 h.bg,.int .i64 h.die,.int .i64 h.uK,.int .i64 h.start.1,.int .i64 h.start.2,.slice ow h.bW.length cw,.slice ot h.turns.length ct,.slice ox h.readings.length cx]:Array Value)[i]? :=fun i=>by
    simp only[World.cell?,hb0];rfl
   have t0:=(aV.1 hb0).1
   have hl0:=pz.out.J3
   have hl9:=pz.out.BF
   obtain⟨n,hn⟩: ∃n:Nat,h.last+1=n:=⟨(h.last+1).toNat,by omega⟩
   have hm: ∀x∈[mb], ∀o,W.cell? ⟨x,o,none⟩=none:=fun x hx o=>by
    obtain rfl:x=mb:=by simpa using hx
    exact hF.cache.nz o
   have hmw: ∀x∈[mb], ∀o,w1.cell? ⟨x,o,none⟩=none:=fun x hx o=>by
    obtain rfl:x=mb:=by simpa using hx
    exact FQ.out.cache.nz o
   have hbd: ∀e∈es,e.2.2.length<=10/\(0<=e.1/\e.1<=500)/\ ∀x∈e.2.2,0<=x/\x<=20:=fun e he=>by
    have hmem:(e.1,e.2.2)∈dW h []:=by rw[<-hes];exact iZ.2 ⟨e,he,rfl⟩
    obtain⟨k1,k2,k3⟩:=Bf pz.out hmem
    have:=pz.out.FZ
    simp only at k1 k2 k3
    exact⟨by omega,k2,k3⟩
   have hsf: ∀l,(es.all fun e=>mP h (lK h (e.1,e.2.2) l))=NY h l:=fun l=>by
    unfold NY
    rw[<-hes,List.all_map]
    rfl
   have hsh:=fun(W3:World) (hB:Below W.heap.size W W3)=>Lj n (by omega) (NY h) mb h.bg W3 (hF.cache.kept (hB.block mb hF.cache.lt)) 100 #[] #[.pointer (some ⟨w1.heap.size,0,none⟩),.pointer (some ⟨w1.heap.size+1,0,none⟩)] (enters_of Tryz.func100 (by kernel_rfl) rfl)
    (fun l v W' hE hcc hv=>by
      have hEW:Ext [mb] W W':=(Ext.az hB).trans hE
      have YO:Ext [mb] w1 W':=hF.ext.trans hEW
      refine(Pj h pz.out _ _ _ wb mb es vo vc l v w1.heap.size (w1.heap.size+1) W' ((hEW.block _ (aV.1 hP.b0).1 (by simp;omega)).trans hP.b0) ((hEW.block _ (aV.1 hv1).1 (by simp;omega)).trans hv1)
       (FQ.out.ext YO hcc) (H1.out.gz YO hmw) (H2.out.gz YO hmw) (H3.out.gz YO hmw) (aN.gz (aN.dH hv2) hEW hm) (fun e he=>⟨aN.gz (aN.dH (hv4 e he).1) hEW hm,hbd e he⟩) hv).mono ?_
      rintro x W'' ⟨rfl,k1,k2⟩
      exact⟨by rw[hsf],k1,k2⟩)
   have HSH:=ae hsh
   have HF:=ae hF
   have HD:=ae hD
   have hn':(h.last+1).toNat=n:=by omega
   have HFS:Hid (Xx h=nR n (NY h)):=ae (by unfold Xx;rw[hn'])
   clear hsh hF hP hD hv1 hv2 hv3 hv4 hb0 hbd hsf hm hmw hes hn'
   gi_wp2_with fail
   refine(callsIn_wide.2 (Md h _ _ _ n _ hl0 hl9 hn)).mono ?_
   rintro e W3 ⟨rfl,hb3⟩
   have HB3:=ae hb3
   clear hb3 hc0
   gi_wp2_with fail
   refine(callsIn_wide.2 (HSH.out W3 HB3.out)).mono ?_
   rintro e W4 ⟨⟨hcc,Vl⟩,hres⟩
   have Vk:Ext [mb] W W4:=(Ext.az HB3.out).trans Vl
   have hD4:W4.heap[w1.heap.size+4]? =some (.deferred (some [])):=(Vk.block _ (aV.1 HD.out).1 (by simp;omega)).trans HD.out
   have hB4:Below w.heap.size w W4:=iw (iw HBW.out HF.out.ext (by omega)) Vk (by omega)
   have HD4:=ae hD4
   have HB4:=ae hB4
   clear hcc Vl Vk hD4 hB4
   rw[<-HFS.out] at hres
   rcases hres with⟨c0,sv,hfs,rfl,vJ⟩|⟨hnone,o',n',c',rfl⟩
   ·have he0:E=0:=by rw[QC.out.1,hfs];rfl
    have hl0':L=c0:=by rw[QC.out.2,hfs];rfl
    subst he0
    subst hl0'
    obtain⟨so,sc,rfl⟩:=vJ.open
    have HIV:=ae vJ
    clear vJ hfs
    gi_wp2_with fail
    refine⟨by simp,.inl ⟨_,_,rfl,run_takeDeferred HD4.out,?_⟩⟩
    refine⟨.tuple #[.slice so L.length sc,iv 0],by simp[results,Tryz.results56,go_sem],⟨_,rfl,?_,iw HB4.out (FP W4 _ _) (by have:=HBW.out.size;omega)⟩⟩
    exact aN.gz HIV.out (FP W4 _ _) (fun x hx o=>by
     obtain rfl:x=w1.heap.size+4:=by simpa using hx
     simp[World.cell?,HD4.out])
   ·have he0:E=10:=by rw[QC.out.1,hnone];rfl
    have hl0':L=[]:=by rw[QC.out.2,hnone];rfl
    subst he0
    subst hl0'
    clear hnone
    gi_wp2_with fail
    refine⟨by simp,.inl ⟨_,_,rfl,run_takeDeferred HD4.out,?_⟩⟩
    exact⟨.tuple #[.slice none 0 0,iv 10],by simp[results,Tryz.results56,go_sem],⟨_,rfl,qO _,iw HB4.out (FP W4 _ _) (by have:=HBW.out.size;omega)⟩⟩
  case hstop=>rintro cd Ms W h;exact h.elim
end Go.Proofs.YthbpmepjmebolaaGreatDoor.jG
namespace Go.Proofs.YthbpmepjmebolaaGreatDoor.jG
open Go.RowKit Go.RG Go.SL Go.Shelf jv
end Go.Proofs.YthbpmepjmebolaaGreatDoor.jG
namespace Go.Proofs.YthbpmepjmebolaaGreatDoor.jG
open Go.RowKit Go.RG Go.SL Go.Shelf jv
end Go.Proofs.YthbpmepjmebolaaGreatDoor.jG
namespace Go.Proofs.YthbpmepjmebolaaGreatDoor.jG
open Go.RowKit Go.RG Go.SL Go.Shelf jv
end Go.Proofs.YthbpmepjmebolaaGreatDoor.jG
end

/-
  Texts of this claim, packed by a program: WC WD WE.
-/
import Derived.WalkKit
import Derived.WalkLawsBesides
import Derived.WalkSpells
import Derived.Outline
import Derived.Handy
import Derived.KernelRfl
import Derived.Lib.Hide
import Derived.Deep.MidRow
import Derived.Laws.StructEq
import Derived.Maps.AppendAt
import Derived.WalkMore
import Derived.Deep.LoopGhost
import Derived.OwnWalkIn
import Derived.Test.YthllkbbbapgelaaGreatDoorPW5
import Derived.Test.YthllkbbbapgelaaGreatDoorPW9
set_option maxHeartbeats 8000000
set_option maxRecDepth 100000
set_option linter.all false
section
namespace Go.SL
open Go.RowKit Go.RG
end Go.SL
namespace Go.Proofs.YthllkbbbapgelaaGreatDoor.jI
open Go.RowKit Go.RG Go.SL Go.Shelf jy
structure xg (w0:World) (mb:Nat) (aZ:Int) (zA:Value) (below fb pb bb ab:Nat) (W:World):Prop where
 ext:Ext [mb] w0 W
 cache:Cache W mb aZ
 found: ∃o n c,W.heap[fb]? =some (.cells #[.slice o n c] 52 (0,0))
 pass:W.heap[pb]? =some (.cells #[zA] 163 (0,0))
 bound:W.heap[bb]? =some (.cells #[iv below] 3 (0,0))
 add:W.heap[ab]? =some (.cells #[.func (.func 149) #[] #[.pointer (some ⟨fb,0,none⟩),.pointer (some ⟨pb,0,none⟩),.pointer (some ⟨bb,0,none⟩),.pointer (some ⟨ab,0,none⟩)]] 252 (0,0))
 new:w0.heap.size<=fb/\w0.heap.size<=pb/\w0.heap.size<=bb/\w0.heap.size<=ab
 old:mb<w0.heap.size
theorem xg.table {w0 W W':World} {mb:Nat} {aZ:Int} {zA:Value} {below fb pb bb ab:Nat} (h:xg w0 mb aZ zA below fb pb bb ab W) (hE:Ext [mb] W W') (hc:Cache W' mb aZ):xg w0 mb aZ zA below fb pb bb ab W':=by
 have hn:=h.new
 have ho:=h.old
 obtain⟨o,n,c,hf⟩:=h.found
 have k: ∀(b:Nat) (x:Obj),W.heap[b]? =some x->w0.heap.size<=b->W'.heap[b]? =some x:=fun b x hb hle=>(hE.block b (aS.1 hb).1 (by simp;omega)).trans hb
 exact⟨h.ext.trans hE,hc,⟨o,n,c,k _ _ hf hn.1⟩,k _ _ h.pass hn.2.1,k _ _ h.bound hn.2.2.1,k _ _ h.add hn.2.2.2,hn,ho⟩
theorem xg.below {w0 W W':World} {mb:Nat} {aZ:Int} {zA:Value} {below fb pb bb ab:Nat} (h:xg w0 mb aZ zA below fb pb bb ab W) (hB:Below W.heap.size W W'):xg w0 mb aZ zA below fb pb bb ab W':=
 h.table (Ext.aA hB) (h.cache.kept (hB.block mb h.cache.lt))
end Go.Proofs.YthllkbbbapgelaaGreatDoor.jI
namespace Go.Proofs.YthllkbbbapgelaaGreatDoor.jI
open Go.RowKit Go.RG Go.SL Go.Shelf jy
def ac0 (w0:World) (mb:Nat) (aZ:Int) (zA:Value) (below fb pb bb ab:Nat) (r:Option (List Int)) (W:World) (e:Ending) (W':World):Prop:=
 (xg w0 mb aZ zA below fb pb bb ab W'/\Ext [mb,fb] W W')/\((∃c,r=some c/\e= .returned (.bool true)/\ ∃sv,W'.heap[fb]? =some (.cells #[sv] 52 (0,0))/\aO W' sv c)∨(r=none/\e= .returned (.bool false)))
theorem xg.set {w0 W:World} {mb:Nat} {aZ:Int} {zA:Value} {below fb pb bb ab:Nat} (h:xg w0 mb aZ zA below fb pb bb ab W) (hd:fb≠pb/\fb≠bb/\fb≠ab) (o:Option Addr) (n c:Nat):xg w0 mb aZ zA below fb pb bb ab (W.setCell ⟨fb,0,none⟩ (.slice o n c)):=by
 have hn:=h.new
 have ho:=h.old
 obtain⟨o',n',c',hf⟩:=h.found
 exact⟨h.ext.set hn.1 _,h.cache.kept (dH _ _ _ _ (by show mb≠fb;omega)),⟨o,n,c,aI hf _⟩,
  (dH _ _ _ _ (by show pb≠fb;omega)).trans h.pass,(dH _ _ _ _ (by show bb≠fb;omega)).trans h.bound,(dH _ _ _ _ (by show ab≠fb;omega)).trans h.add,hn,ho⟩
theorem xg.not {w0 W:World} {mb:Nat} {aZ:Int} {zA:Value} {below fb pb bb ab:Nat} (h:xg w0 mb aZ zA below fb pb bb ab W): ∀x∈[mb,fb], ∀o n,W.cell? ⟨x,o,none⟩≠some (.int .i64 n):=by
 intro x hx o n hc
 obtain⟨o',n',c',hf⟩:=h.found
 rcases gZ.1 hx with rfl|hx
 ·rw[h.cache.mX o] at hc;cases hc
 ·obtain rfl:x=fb:=by simpa using hx
  simp only[World.cell?,hf] at hc
  cases o with
  |zero=>simp at hc
  |succ o=>simp at hc
theorem add_any (below:Nat) (hbl:below<=500) (p:List Int->Bool) (mb:Nat) (aZ:Int) (w0:World) (pf:Nat) (qg lg:Array Value) (fb pb bb ab:Nat) (hd:fb≠pb/\fb≠bb/\fb≠ab)
 (eg: ∀args w,(callFunc pf args).run Tryz.prog w= .ok (.enter pf args) w)
 (vU: ∀l v W,Ext [mb] w0 W->Cache W mb aZ->aO W v l->Calls Tryz.prog pf (qg.push v++lg) W (fun e W'=>e= .returned (.bool (p l))/\Cache W' mb aZ/\Ext [mb] W W')):
 ∀(m f:Nat) (l:List Int) (v:Value) (W:World),l.length+m<=900->f<=900->m<=900->xg w0 mb aZ (.func (.func pf) qg lg) below fb pb bb ab W->aO W v l->
  Calls Tryz.prog 149 #[v,iv f,iv m,.pointer (some ⟨fb,0,none⟩),.pointer (some ⟨pb,0,none⟩),.pointer (some ⟨bb,0,none⟩),.pointer (some ⟨ab,0,none⟩)] W
   (ac0 w0 mb aZ (.func (.func pf) qg lg) below fb pb bb ab (((jM below m f).map (l++ ·)).find? p) W):=by
 intro m
 induction m with
 |zero=>
  intro f l v W h1 h2 h3 hst hv
  have hres:((jM below 0 f).map (l++ ·)).find? p=if p l then some l else none:=by
   simp only[jM,List.map_cons,List.map_nil,List.append_nil,List.find?_cons,List.find?_nil]
   cases p l <;>rfl
  obtain⟨r,hr⟩: ∃r,((jM below 0 f).map (l++ ·)).find? p=r:=⟨_,rfl⟩
  rw[hr] at hres⊢
  have xH:=ae hres
  clear hr hres
  obtain⟨o,c,rfl⟩:=hv.open
  obtain⟨o',n',c',hf⟩:=hst.found
  have c1:=aB hf
  have c2:=aB hst.pass
  have hlt:=dI W _ c1
  have hfr:=bn hf 0
  have hS:=hst.set hd o l.length c
  have hv1:aO (W.setCell ⟨fb,0,none⟩ (.slice o l.length c)) (.slice o l.length c) l:=aO.uN hv ((mJ W ⟨fb,0,none⟩ _).more (Ms':=[mb,fb]) (by simp)) hst.not
  have HC:=ae (vU l _ _ hS.ext hS.cache hv1)
  have HS:=ae hst
  have Nc:=ae (ag hS hv1)
  have HF:=ae hf
  have hd1: ¬pb=fb:=fun e=>hd.1 e.symm
  have hd2:=hd.1
  clear vU hst hv hS hv1 hf
  go_enter Tryz.func149,Tryz.ntmps149
  go_wp2_with fail
  refine HC.o.mono ?_
  rintro e W' ⟨rfl,hcc,hE⟩
  have hS2:=Nc.o.1.table hE hcc
  have hn:=HS.o.new
  have ho:=HS.o.old
  have hfb:W'.heap[fb]? =some (.cells #[.slice o l.length c] 52 (0,0)):=(hE.block fb (by simpa [World.setCell] using hlt) (by simp;omega)).trans (aI HF.o _)
  have hEE:Ext [mb,fb] W W':=((mJ W ⟨fb,0,none⟩ (.slice o l.length c)).more (by simp)).trans (hE.more (by simp))
  have hv2:aO W' (.slice o l.length c) l:=aO.uN Nc.o.2 (hE.more (Ms':=[mb,fb]) (by simp)) Nc.o.1.not
  have HR:=ae (ag hS2 (ag hfb (ag hEE hv2)))
  clear hcc hE hS2 hfb hEE hv2
  go_wp2_with fail
  go_returns
  refine⟨⟨HR.o.1,HR.o.2.2.1⟩,?_⟩
  have hre:=xH.o
  revert hre
  cases p l
  ·intro hre;exact .inr ⟨by simpa using hre,by simp⟩
  ·intro hre;exact .inl ⟨l,by simpa using hre,by simp,_,HR.o.2.1,HR.o.2.2.2⟩
 |succ m ih=>
  intro f l v W h1 h2 h3 hst hv
  obtain⟨o,c,rfl⟩:=hv.open
  have hres:((jM below (m+1) f).map (l++ ·)).find? p=((List.range (below-m-f)).flatMap fun j=>(jM below m (f+j+1)).map ((l++[((f+j:Nat):Int)])++ ·)).find? p:=by
   conv=>lhs;unfold jM
   rw[List.map_flatMap]
   simp only[List.map_map]
   congr 2
   funext j
   apply List.map_congr_left
   intro x _
   simp
  rw[hres]
  clear hres
  obtain⟨r,hr⟩: ∃r,((List.range (below-m-f)).flatMap fun j=>(jM below m (f+j+1)).map ((l++[((f+j:Nat):Int)])++ ·)).find? p=r:=⟨_,rfl⟩
  rw[hr]
  have xH:=ae hr
  clear hr
  have hmm:(m:Int)+1<=900:=by omega
  have hm0:((m:Int)+1==0)=false:=by simp;omega
  have ake: ¬((m:Int)+1=0):=by omega
  rw[show(((m+1:Nat)):Int)=(m:Int)+1 from by omega]
  have HST:=ae hst
  have HV:=ae hv
  have HIH:=ae ih
  have HD:=ae hd
  clear vU hst hv ih hd
  go_enter Tryz.func149,Tryz.ntmps149
  go_wp2_with fail
  go_loopw [11] (fun i wr=> ∃q:Nat,f<=q/\q<=f+(below-m-f)/\i= .int .i64 q/\xg w0 mb aZ (.func (.func pf) qg lg) below fb pb bb ab wr/\Ext [mb,fb] W wr/\
   (∀j,f+j<q->((jM below m (f+j+1)).map ((l++[((f+j:Nat):Int)])++ ·)).find? p=none)) (fun i _=>below+f+1-(intOf i).toNat)
  case atStart=>exact⟨f,ai _,by omega,rfl,HST.o,Ext.refl _ _,fun j hj=>by omega⟩
  case round=>
   obtain⟨q,hfq,hq,rfl,hst,hE,hno⟩:=hrel
   have hv:=aO.uN HV.o hE HST.o.not
   have d1:=aB hst.bound
   have d2:=aB hst.add
   have e1:=dI wr _ d1
   have e2:=dI wr _ d2
   have HS:=ae hst
   have HE:=ae hE
   have HN:=ae hno
   have HVV:=ae hv
   clear hst hE hno hv
   by_cases hlt:q<f+(below-m-f)
   ·have hqI:(q:Int)<=(below:Int)-((m:Int)+1):=by omega
    have hq9:(q:Int)<=500:=by omega
    go_wp2_with fail
    refine qB 10 [] (some 5) [(2,⟨fun _ v=> ∃o c,v= .slice o l.length c,fun _ _ _=>True⟩),(4,⟨fun _ v=> ∃b:Nat,v= .slice (some ⟨b,0,none⟩) 1 1,fun _ _ _=>True⟩),(5,⟨fun _ v=> ∃o c,v= .slice o (l.length+1) c,fun _ v W=>W.ownsRow wr.heap.size 3 1 v (l.length+1) (ah (l++[(q:Int)]))⟩)] (af1 wr.heap.size l.length l q) (by kernel_rfl) (by kernel_rfl) ?_
    simp only[zt]
    repeat (refine zd ?_;simp only[zp])
    refine kY _ (by rfl) (by rfl) (by exact⟨.slice none l.length 0,none,0,rfl⟩) (fun W1 hE hF hG=>?_) (fun _ _ _ _ _=>trivial) (fun v Wa Wb ho hE=>aC (Ms:=[]) ho hE (by simp)) (fun v hv=>?_)
    ·have hE':uI wr.heap.size [] wr W1:=hE
     refine dE 91 #[.slice o l.length c] (by go_simp;try rfl) ?_
     refine(clone_any l _ W1 (HVV.o.below (qo hE' (ai _)) (ai _)) (by omega)).mono ?_
     rintro e W2 ⟨v,rfl,ho,hb⟩
     refine⟨v,rfl,aW ho,trivial,Ext.aA hb,df ho hE'.size⟩
    obtain⟨o2,c2,rfl⟩:=hv
    simp only[zp]
    repeat (refine zd ?_;simp only[zp])
    refine kY _ (by rfl) (by rfl) (by exact⟨.slice (some ⟨0,0,none⟩) 1 1,0,rfl⟩) (fun W1 hE hF hG=>?_) (fun _ _ _ _ _=>trivial) (fun v Wa Wb ho hE=>?_) (fun v hv=>?_)
    ·refine jm (W':=W1.alloc (.cells #[iv q] 3)) (.slice (some ⟨W1.heap.size,0,none⟩) 1 1) (by go_simp;try rfl) ⟨⟨_,rfl⟩,trivial,Ext.aA ((aH _ _).alloc (ai _) _),_,rfl,heap_alloc_new _ _⟩
    ·obtain⟨b,hb,hc⟩:=ho
     exact⟨b,hb,(hE.block b (aS.1 hc).1 (by simp)).trans hc⟩
    obtain⟨b4,rfl⟩:=hv
    simp only[zp]
    refine kY _ (by rfl) (by rfl) (by exact⟨.slice none (l.length+1) 0,none,0,rfl⟩) (fun W1 hE hF hG=>?_) (fun v Wa Wb ho hE=>aC (Ms:=[]) ho hE (by simp)) (fun _ _ _ _ _=>trivial) (fun v hv=>?_)
    ·obtain⟨b,hb,hc⟩:=hG rfl _ (bF _) (by kernel_rfl)
     cases hb
     have ho:W1.ownsRow wr.heap.size 3 1 (.slice o2 l.length c2) l.length (ah l):=hG rfl _ (nJ _ (bF _)) (by kernel_rfl)
     have hE':Ext [] wr W1:=hE
     have hsrc:aN 1 W1 (.slice (some ⟨b4,0,none⟩) 1 1) 1 (ah [(q:Int)]):=aN.dB 1 1 hc rfl (by decide)
     refine Does.mono (yG sK (by rfl) (by rfl) ho (by rfl) hsrc (jL _) (by omega) (by omega) hE'.size) ?_
     rintro v W2 ⟨hown,hgr⟩
     rw[<-uY] at hown
     obtain⟨o5,c5,rfl⟩:=aW hown
     exact⟨⟨o5,c5,rfl⟩,hown,Hm ho hgr,trivial⟩
    obtain⟨o5,c5,rfl⟩:=hv
    simp only[zp]
    repeat (refine zn ?_;simp only[zp])
    intro W1 hE1 hF
    have hE':uI wr.heap.size [] wr W1:=hE1
    have hB:=qo hE' (ai _)
    obtain⟨hc,hf⟩:=bK hB
    have ho:W1.ownsRow wr.heap.size 3 1 (.slice o5 (l.length+1) c5) (l.length+1) (ah (l++[(q:Int)])):=hF _ (bF _)
    have vg:aO W1 (.slice o5 (l.length+1) c5) (l++[(q:Int)]):=by
     have:=aN.dU ho
     unfold aO
     rw[dm]
     exact this
    have hcall:=HIH.o (q+1) (l++[(q:Int)]) _ W1 (by simp;omega) (by omega) (by omega) (HS.o.below hB) vg
    rw[show(((q+1:Nat)):Int)=(q:Int)+1 from by omega] at hcall
    have HC:=ae hcall
    have HB:=ae hB
    clear hcall vg ho hB hE' hE1 hF
    go_wp2_with fail
    refine HC.o.mono ?_
    rintro e W2 ⟨⟨hS2,hE2⟩,hres⟩
    have HS2:=ae hS2
    have HEE:=ae ((HE.o.trans (Ext.aA HB.o)).trans hE2)
    clear hS2 hE2 hc hf d1 d2
    have hq1:f+(q-f)=q:=by omega
    rcases hres with⟨cc,hcc,rfl,sv,hsv,vg⟩|⟨hnone,rfl⟩
    ·have HR:=ae (ag hcc (ag hsv vg))
     clear hcc hsv vg
     go_wp2_with fail
     go_returns
     refine⟨⟨HS2.o,HEE.o⟩,.inl ⟨cc,?_,by simp,sv,HR.o.2⟩⟩
     rw[<-xH.o]
     refine qW p _ _ (q-f) (by simp;omega) cc (fun j hj=>?_) ?_
     ·simp only[List.getElem_range]
      exact HN.o j (by omega)
     ·simp only[List.getElem_range,hq1]
      exact HR.o.1
    ·have HR:=ae hnone
     clear hnone
     go_wp2_with fail
     go_roundw
     case rel=>
      refine⟨q+1,by omega,by omega,by go_num,HS2.o,HEE.o,fun j hj=>?_⟩
      by_cases hjq:f+j=q
      ·rw[hjq];exact HR.o
      ·exact HN.o j (by omega)
     case measure=>simp[intOf];omega
   ·have hqI: ¬((q:Int)<=(below:Int)-((m:Int)+1)):=by omega
    go_wp2_with fail
    go_returns
    refine⟨⟨HS.o,HE.o⟩,.inr ⟨?_,by simp⟩⟩
    rw[<-xH.o]
    exact tY p _ _ (fun j hj=>by
     simp only[List.length_range] at hj
     simp only[List.getElem_range]
     exact HN.o j (by omega))
end Go.Proofs.YthllkbbbapgelaaGreatDoor.jI
namespace Go.Proofs.YthllkbbbapgelaaGreatDoor.jI
open Go.RowKit Go.RG Go.SL Go.Shelf jy
def aeZ (mb:Nat) (aZ:Int) (r:Option (List Int)) (w:World) (e:Ending) (W':World):Prop:=
 (Cache W' mb aZ/\Ext [mb] w W')/\((∃c v,r=some c/\e= .returned (.tuple #[v,.bool true])/\aO W' v c)∨(r=none/\ ∃o n c,e= .returned (.tuple #[.slice o n c,.bool false])))
theorem xg.fin {w0 W:World} {mb:Nat} {aZ:Int} {zA:Value} {below fb pb bb ab:Nat} (h:xg w0 mb aZ zA below fb pb bb ab W):Cache W mb aZ/\Ext [mb] w0 W:=⟨h.cache,h.ext⟩
theorem La (below:Nat) (hbl:below<=500) (p:List Int->Bool) (mb:Nat) (aZ:Int) (w:World) (hcc:Cache w mb aZ) (pf:Nat) (qg lg:Array Value)
 (eg: ∀args w,(callFunc pf args).run Tryz.prog w= .ok (.enter pf args) w)
 (vU: ∀l v W,Ext [mb] w W->Cache W mb aZ->aO W v l->Calls Tryz.prog pf (qg.push v++lg) W (fun e W'=>e= .returned (.bool (p l))/\Cache W' mb aZ/\Ext [mb] W W')):
 Calls Tryz.prog 92 #[iv below,.func (.func pf) qg lg] w (aeZ mb aZ (nG below p) w):=by
 have hmb:=hcc.lt
 have HA:=ae (fun(m:Nat) (W:World) (hm:m<=501) (hst:xg w mb aZ (.func (.func pf) qg lg) below (w.heap.size+1+1) (w.heap.size+1) w.heap.size (w.heap.size+1+1+1) W)=>
  add_any below hbl p mb aZ w pf qg lg (w.heap.size+1+1) (w.heap.size+1) w.heap.size (w.heap.size+1+1+1) (by omega) eg vU m 0 [] (.slice none 0 0) W (by simp;omega) (by omega) (by omega) hst (qK W))
 obtain⟨r,hr⟩: ∃r,nG below p=r:=⟨_,rfl⟩
 rw[hr]
 have HR:=ae hr
 have HCC:=ae hcc
 clear vU eg hcc hr
 go_enter Tryz.func92,Tryz.ntmps92
 go_wp2_with fail
 go_step3
 go_wp2_with fail
 go_step3
 go_wp2_with fail
 obtain⟨w4,hw4⟩: ∃w4,((((w.alloc (.cells #[iv below] 3)).alloc (.cells #[.func (.func pf) qg lg] 163)).alloc (.cells #[.slice none 0 0] 52)).alloc
  (.cells #[.func (.func 149) #[] #[.pointer (some ⟨w.heap.size+1+1,0,none⟩),.pointer (some ⟨w.heap.size+1,0,none⟩),.pointer (some ⟨w.heap.size,0,none⟩),.pointer (some ⟨w.heap.size+1+1+1,0,none⟩)]] 252))=w4:=⟨_,rfl⟩
 have ZE:xg w mb aZ (.func (.func pf) qg lg) below (w.heap.size+1+1) (w.heap.size+1) w.heap.size (w.heap.size+1+1+1) w4:=by
  have hB:Below w.heap.size w w4:=by rw[<-hw4];exact zl
  refine⟨Ext.aA hB,HCC.o.kept (hB.block mb hmb),⟨none,0,0,?_⟩,?_,?_,?_,by omega,hmb⟩
  ·rw[<-hw4];exact(aV _ _ _ (by simp)).trans (iq _ _ _ _)
  ·rw[<-hw4];exact(aV _ _ _ (by simp)).trans ((aV _ _ _ (by simp)).trans (dV _ _ _))
  ·rw[<-hw4];exact(aV _ _ _ (by simp;omega)).trans ((aV _ _ _ (by simp;omega)).trans ((aV _ _ _ (by simp)).trans (ay _ _)))
  ·rw[<-hw4];have:=ay (((w.alloc (.cells #[iv below] 3)).alloc (.cells #[.func (.func pf) qg lg] 163)).alloc (.cells #[.slice none 0 0] 52)) (.cells #[.func (.func 149) #[] #[.pointer (some ⟨w.heap.size+1+1,0,none⟩),.pointer (some ⟨w.heap.size+1,0,none⟩),.pointer (some ⟨w.heap.size,0,none⟩),.pointer (some ⟨w.heap.size+1+1+1,0,none⟩)]] 252);simpa using this
 rw[hw4]
 have HS0:=ae ZE
 clear ZE hw4
 go_loopw [5,11] (fun b i wr=> ∃k:Nat,k<=below+1/\b= .bool false/\i= .int .i64 k/\xg w mb aZ (.func (.func pf) qg lg) below (w.heap.size+1+1) (w.heap.size+1) w.heap.size (w.heap.size+1+1+1) wr/\
  (∀j,j<k->(jM below j 0).find? p=none)) (fun _ i _=>below+1-(intOf i).toNat)
 case atStart=>exact⟨0,bQ _,rfl,rfl,HS0.o,fun j hj=>by omega⟩
 case round=>
  obtain⟨k,hk,rfl,rfl,hst,hno⟩:=hrel
  have d2:=aB hst.add
  have e2:=dI wr _ d2
  have HS:=ae hst
  have HN:=ae hno
  clear hst hno
  by_cases hlt:k<below+1
  ·have hkI:(k:Int)<(below:Int)+1:=by omega
   have HC:=ae (HA.o k wr (by omega) HS.o)
   go_wp2_with fail
   refine HC.o.mono ?_
   rintro e W2 ⟨⟨hS2,_⟩,hres⟩
   have HS2:=ae hS2
   rcases hres with⟨cc,hcc,rfl,sv,hsv,vg⟩|⟨hnone,rfl⟩
   ·have hr:r=some cc:=by
     rw[<-HR.o]
     exact JD (by omega) HN.o (by simpa using hcc)
    obtain⟨so,sc,rfl⟩:=vg.open
    have f1:=aB hsv
    have f2:=bn hsv 0
    have f3:=dI W2 _ f1
    have HX:=ae (ag hr (ag hsv vg))
    clear hr hsv vg hS2 hcc d2
    go_wp2_with fail
    (try rw[Exit.noGoto_ret])
    have hcell:(W2.setCell ⟨w.heap.size+1+1,0,none⟩ (.slice so cc.length sc)).cell? ⟨w.heap.size+1+1,0,none⟩=some (.slice so cc.length sc):=aB (aI HX.o.2.1 _)
    refine bodyPost_ret (v:= .tuple #[.slice so cc.length sc,.bool true]) (by simp[results,Tryz.results92,go_sem,hcell]) rfl ?_
    refine⟨(HS2.o.set (by omega) so cc.length sc).fin,.inl ⟨cc,_,HX.o.1,rfl,?_⟩⟩
    exact aO.uN HX.o.2.2 ((mJ W2 ⟨w.heap.size+1+1,0,none⟩ _).more (Ms':=[mb,w.heap.size+1+1]) (by simp)) HS2.o.not
   ·have HX:=ae hnone
    clear hnone hS2 d2
    go_wp2_with fail
    go_roundw
    case rel=>
     refine⟨k+1,by omega,rfl,by go_num,HS2.o,fun j hj=>?_⟩
     by_cases hjq:j=k
     ·subst hjq;simpa using HX.o
     ·exact HN.o j (by omega)
    case measure=>simp[intOf];omega
  ·have hkI: ¬((k:Int)<(below:Int)+1):=by omega
   obtain⟨o',n',c',hf⟩:=HS.o.found
   have f1:=aB hf
   have f2:=bn hf 0
   have f3:=dI wr _ f1
   have hk1:k=below+1:=by omega
   subst hk1
   have hr:r=none:=by
    rw[<-HR.o]
    exact JC HN.o
   go_wp2_with fail
   (try rw[Exit.noGoto_ret])
   have hcell:(wr.setCell ⟨w.heap.size+1+1,0,none⟩ (.slice o' n' c')).cell? ⟨w.heap.size+1+1,0,none⟩=some (.slice o' n' c'):=aB (aI hf _)
   refine bodyPost_ret (v:= .tuple #[.slice o' n' c',.bool false]) (by simp[results,Tryz.results92,go_sem,hcell]) rfl ?_
   exact⟨(HS.o.set (by omega) o' n' c').fin,.inr ⟨rfl,_,_,_,rfl⟩⟩
end Go.Proofs.YthllkbbbapgelaaGreatDoor.jI
namespace Go.Proofs.YthllkbbbapgelaaGreatDoor.jI
open Go.RowKit Go.RG Go.SL Go.Shelf jy
attribute [local go_sem] Oper.semAt_some
theorem YP:iQ Tryz.prog 174 178 (.agg #[iv 0,iv 0,iv 0,iv 0,iv 0,iv 0,iv 0,iv 0,iv 0,iv 0]) 10 80:=⟨Tryz.underlying174,by kernel_rfl,rfl,by omega⟩
structure Evr (w:World) (wb:Nat) (tv:Value) (ls:List (List Int)) (Ms:List Nat) (W:World):Prop where
 b0:W.heap[w.heap.size]? =some (.cells #[.pointer (some ⟨wb,0,none⟩)] 170 (0,0))
 b1:W.heap[w.heap.size+1]? =some (.cells #[tv] 52 (0,0))
 out: ∃v,W.heap[w.heap.size+1+1]? =some (.cells #[v] 174 (0,0))/\W.ownsRow (w.heap.size+7) 178 10 v ls.length (ls.flatMap ah)/\ ∀g,v.ownBlock=some g->g∉Ms/\g<W.heap.size
 b3:W.heap[w.heap.size+1+1+1]? =some (.cells #[.pointer (some ⟨wb,0,none⟩)] 170 (0,0))
 b4:W.heap[w.heap.size+1+1+1+1]? =some (.cells #[.slice none 0 0] 52 (0,0))
theorem Evr.kept {w:World} {wb:Nat} {tv:Value} {ls:List (List Int)} {Ms Ms':List Nat} {W W':World} (h:Evr w wb tv ls Ms W) (hs:W.heap.size<=W'.heap.size) (hk: ∀b,w.heap.size<=b->b<w.heap.size+5->W'.heap[b]? =W.heap[b]?)
 (ho: ∀g,w.heap.size+7<=g->g<W.heap.size->g∉Ms->W'.heap[g]? =W.heap[g]?) (hM: ∀m∈Ms',m∈Ms∨(W.heap.size<=m/\m<W'.heap.size)):Evr w wb tv ls Ms' W':=by
 obtain⟨v,h1,h2,h3⟩:=h.out
 refine⟨(hk _ (by omega) (by omega)).trans h.b0,(hk _ (by omega) (by omega)).trans h.b1,⟨v,(hk _ (by omega) (by omega)).trans h1,dn h2 fun g hg=>ho g (bD h2 g hg).1 (bD h2 g hg).2 (h3 g hg).1,fun g hg=>⟨fun hm=>?_,by have:=(h3 g hg).2;omega⟩⟩,
  (hk _ (by omega) (by omega)).trans h.b3,(hk _ (by omega) (by omega)).trans h.b4⟩
 rcases hM g hm with h4|h4
 ·exact(h3 g hg).1 h4
 ·have:=(h3 g hg).2;omega
def afz (ls:List (List Int)) (mb:Nat) (aZ:Int) (w:World) (e:Ending) (w':World):Prop:=
 ∃v,e= .returned v/\w'.ownsRow w.heap.size 178 10 v ls.length (ls.flatMap ah)/\Cache w' mb aZ/\Ext [mb] w w'
theorem AX {h:cZ} (hS:Sound h) {out:List Int} {t:Int×List Int} (ht:t∈dQ h out):t.2.length=h.bZ.length/\(0<=t.1/\t.1<=500)/\ ∀x∈t.2,0<=x/\x<=20:=by
 unfold dQ at ht
 obtain⟨x,hx,rfl⟩:=jc.1 ht
 obtain⟨s,rest,rfl,h1,h2,h3⟩:=GG hS (List.mem_filter.1 hx).1
 exact⟨h1,h2,h3⟩
theorem UX {w W7 W8 W9:World} {wb mb:Nat} {aZ:Int} {tv v v':Value} {ls:List (List Int)} {ys:List Int} {Os Ms:List Nat} {obj:Obj} (hF:Fr w mb aZ Os Ms W7) (hP:Evr w wb tv ls Ms W7)
 (hv1:W7.heap[w.heap.size+1+1]? =some (.cells #[v] 174 (0,0))) (hv3: ∀g,v.ownBlock=some g->(w.heap.size+7<=g/\g<W7.heap.size)/\g∉Ms)
 (hE:Ext [] W7 W8) (hG:(W8.alloc obj).grownBy W9 v.ownBlock) (hN:v'.ownBlock=v.ownBlock∨v'.ownBlock=some (W8.heap.size+1)) (hO:W9.ownsRow (w.heap.size+7) 178 10 v' (ls.length+1) (ls.flatMap ah++ah ys))
 (hmb:mb<w.heap.size) (hs:w.heap.size+7<=W7.heap.size):
 (Fr w mb aZ Os Ms (W9.setCell ⟨w.heap.size+1+1,0,none⟩ v')/\Evr w wb tv (ls++[ys]) Ms (W9.setCell ⟨w.heap.size+1+1,0,none⟩ v'))/\
   (∀b,b<W7.heap.size->v.ownBlock≠some b->b≠w.heap.size+2->(W9.setCell ⟨w.heap.size+1+1,0,none⟩ v').heap[b]? =W7.heap[b]?)/\W7.heap.size<=(W9.setCell ⟨w.heap.size+1+1,0,none⟩ v').heap.size:=by
 have h1:=hE.size
 have h2:=hG.size
 simp only[bu] at h2
 have hk: ∀b,b<W7.heap.size->v.ownBlock≠some b->W9.heap[b]? =W7.heap[b]? :=fun b hb hn=>
  (hG.block b (by simp;omega) (fun e=>hn e.symm)).trans ((aV _ _ _ (by omega)).trans (hE.block b hb (by simp)))
 have hks: ∀b,b<W7.heap.size->v.ownBlock≠some b->b≠w.heap.size+2->(W9.setCell ⟨w.heap.size+1+1,0,none⟩ v').heap[b]? =W7.heap[b]? :=fun b hb hn hne=>
  (dH _ _ _ _ (by show b≠w.heap.size+1+1;omega)).trans (hk b hb hn)
 have hlow: ∀b,b<w.heap.size+7->v.ownBlock≠some b:=fun b hb e=>by have:=(hv3 b e).1.1;omega
 have hsz:W7.heap.size<=(W9.setCell ⟨w.heap.size+1+1,0,none⟩ v').heap.size:=by simp[World.setCell];omega
 refine⟨⟨hF.own ⟨hG.os.trans (hE.os.trans hF.ext.os),hG.tape.trans (hE.tape.trans hF.ext.tape),hG.output.trans (hE.output.trans hF.ext.output),by have:=hF.ext.size;omega,fun k hk' hm=>(hks k (by omega) (hlow k (by omega)) (by omega)).trans (hF.ext.block k hk' hm)⟩ hsz (hF.cache.kept (hks mb (by omega) (hlow mb (by omega)) (by omega))),?_⟩,hks,hsz⟩
 have hb:=bD hO
 refine⟨(hks _ (by omega) (hlow _ (by omega)) (by omega)).trans hP.b0,(hks _ (by omega) (hlow _ (by omega)) (by omega)).trans hP.b1,⟨v',?_,?_,fun g hg=>⟨fun hm=>?_,by have:=(hb g hg).2;simpa [World.setCell] using this⟩⟩,(hks _ (by omega) (hlow _ (by omega)) (by omega)).trans hP.b3,(hks _ (by omega) (hlow _ (by omega)) (by omega)).trans hP.b4⟩
 ·exact aI ((hk _ (by omega) (hlow _ (by omega))).trans hv1) _
 ·rw[dm,uZ]
  have:[ys].flatMap ah=ah ys:=by simp
  rw[this]
  exact dn hO fun g hg=>dH _ _ _ _ (by have:=(hb g hg).1;show g≠w.heap.size+1+1;omega)
 ·rcases hN with hN|hN
  ·exact(hv3 g (by rw[<-hN,hg])).2 hm
  ·rw[hg] at hN
   injection hN with hN
   have:=hF.bnd g hm
   omega
theorem Kt (h:cZ) (hS:Sound h) (a b c tv:Value) (turns:List Int) (wb mb:Nat) (w:World) (hw:iY w wb mb h a b c) (h1:bT w a h.bZ) (h2:aO w b h.turns) (h3:bJ w c h.readings) (h4:aO w tv turns):
 Calls Tryz.prog 77 #[.pointer (some ⟨wb,0,none⟩),tv] w (afz (jG h turns) mb h.aZ w):=by
 obtain⟨ot,ct,rfl⟩:=h4.open
 have HW:=ae hw
 have H1:=ae h1
 have H2:=ae h2
 have H3:=ae h3
 have H4:=ae h4
 have oW:=ae hS
 have hmb:=hw.cache.lt
 clear hw h1 h2 h3 h4 hS
 refine(callsIn_wide (n:=0)).1 ?_
 refine callsIn_of_wp_marks Tryz.func77 rfl trivial ?_
 simp only[Tryz.ntmps77,List.size_toArray,List.length_cons,List.length_nil,Nat.reduceAdd,Nat.reduceSub,Array.replicate_succ,Array.replicate_zero,kQ,kR,List.nil_append,List.cons_append]
 gi_wp2_with fail
 refine(callsIn_wide.2 (zY wb _ _ _ _)).mono ?_
 rintro e w1 ⟨rfl,rfl⟩
 gi_wp2_with fail
 obtain⟨w2,hw2⟩: ∃w2,(((((w.alloc (.cells #[.pointer (some ⟨wb,0,none⟩)] 170)).alloc (.cells #[.slice ot turns.length ct] 52)).alloc (.cells #[.slice none 0 0] 174)).alloc (.cells #[.pointer (some ⟨wb,0,none⟩)] 170)).alloc (.cells #[.slice none 0 0] 52))=w2:=⟨_,rfl⟩
 have hB2:Below w.heap.size w w2:=by rw[<-hw2];exact zl
 have hsz2:w2.heap.size=w.heap.size+5:=by rw[<-hw2];simp
 have hP2:Evr w wb (.slice ot turns.length ct) [] [mb] w2:=by
  rw[<-hw2]
  have n3:=ay (((w.alloc (.cells #[.pointer (some ⟨wb,0,none⟩)] 170)).alloc (.cells #[.slice ot turns.length ct] 52)).alloc (.cells #[.slice none 0 0] 174)) (.cells #[.pointer (some ⟨wb,0,none⟩)] 170)
  have n4:=dV (((w.alloc (.cells #[.pointer (some ⟨wb,0,none⟩)] 170)).alloc (.cells #[.slice ot turns.length ct] 52)).alloc (.cells #[.slice none 0 0] 174)) (.cells #[.pointer (some ⟨wb,0,none⟩)] 170) (.cells #[.slice none 0 0] 52)
  simp only[bu] at n3 n4
  refine⟨?_,?_,⟨.slice none 0 0,?_,⟨rfl,.inl ⟨rfl,rfl⟩⟩,fun g hg=>by cases hg⟩,?_,n4⟩
  ·exact(aV _ _ _ (by first|omega|(simp;done)|(simp;omega))).trans ((aV _ _ _ (by first|omega|(simp;done)|(simp;omega))).trans ((aV _ _ _ (by first|omega|(simp;done)|(simp;omega))).trans ((aV _ _ _ (by first|omega|(simp;done)|(simp;omega))).trans (ay _ _))))
  ·exact(aV _ _ _ (by first|omega|(simp;done)|(simp;omega))).trans ((aV _ _ _ (by first|omega|(simp;done)|(simp;omega))).trans ((aV _ _ _ (by first|omega|(simp;done)|(simp;omega))).trans (dV _ _ _)))
  ·exact(aV _ _ _ (by first|omega|(simp;done)|(simp;omega))).trans ((aV _ _ _ (by first|omega|(simp;done)|(simp;omega))).trans (iq _ _ _ _))
  ·exact(aV _ _ _ (by first|omega|(simp;done)|(simp;omega))).trans n3
 rw[hw2]
 clear hw2
 refine mP (zX h oW.out a b c (.slice none 0 0) [] wb mb (w.heap.size+1+1+1) (w.heap.size+1+1+1+1)) rfl (enters_of Tryz.func144 (by kernel_rfl) rfl) rfl (by simp;omega)
  (fun Ms k W=>Fr w mb h.aZ [w.heap.size,w.heap.size+1,w.heap.size+2,w.heap.size+3,w.heap.size+4,w.heap.size+5,w.heap.size+6] Ms W/\Evr w wb (.slice ot turns.length ct) (jr h turns k) Ms W)
  (fun _ _ _=>False)
  ?hInv ?pK ?hI ?hIx ?Ja ?tX ?h0
  (fun a Ms k W1 a₁ W=> ∃(t:Int×List Int) (ob bt:Nat),(dQ h [])[k]? =some t/\a₁={tmps:=(a.tmps.setIfInBounds 9 (.agg #[iv t.1,.slice (some ⟨ob,1,none⟩) t.2.length t.2.length])).setIfInBounds 5 (.pointer (some ⟨bt,0,none⟩)),defers:=[]}/\
    (Fr w mb h.aZ [w.heap.size,w.heap.size+1,w.heap.size+2,w.heap.size+3,w.heap.size+4,w.heap.size+5,w.heap.size+6] Ms W/\Evr w wb (.slice ot turns.length ct) (jr h turns k) Ms W)/\
    (W.heap[bt]? =some (.cells #[iv t.1,.slice (some ⟨ob,1,none⟩) t.2.length t.2.length] 208 (0,0))/\(w.heap.size+7<=bt/\ob∈Ms/\ob≠mb)/\aO W (.slice (some ⟨ob,1,none⟩) t.2.length t.2.length) t.2)/\(∀m∈Ms,m∉[mb]->m<W1.heap.size->W.heap[m]? =W1.heap[m]?)/\W1.heap.size<=W.heap.size)
  ?MB ?hassign ?hbody ?hdone ?hstop
 case hInv=>rintro Ms k W ⟨hF,hP⟩;exact hF.abx HW.out H1.out H2.out H3.out (qK w) hP.b3 hP.b4
 case pK=>rintro cd Ms W h;exact h.elim
 case hI=>
  rintro Ms Ms' k Wa Wb ⟨hF,hP⟩ hE hMs hc
  refine⟨(hF.iV hE hMs hc).1,hP.kept hE.size (fun b h1 h2=>(hF.iV hE hMs hc).2 b (by simp;omega)) (fun g h1 h2 h3=>hE.block g h2 h3) hMs⟩
 case hIx=>rintro cd Ms Ms' Wa Wb h;exact h.elim
 case Ja=>
  rintro Ms k W r o ⟨hF,hP⟩ hr
  exact⟨hF.put o (by omega) hmb,hP.kept (by simp) (fun b h1 h2=>World.putObj_heap_other (by omega)) (fun g h1 h2 h3=>World.putObj_heap_other (by omega)) (fun m hm=> .inl hm)⟩
 case tX=>rintro cd Ms W r o h;exact h.elim
 case h0=>
  intro o o'
  have hB:Below w.heap.size w ((w2.alloc o).alloc o'):=aj (aj hB2 _) _
  refine⟨⟨Ext.aA hB,fun m hm=> .inl (by simpa using hm),fun m hm=>(by have:=hB.size;simp at hm;omega),fun b hb=>⟨by simp at hb⊢;omega,by simp at hb⊢;omega⟩,HW.out.cache.kept (hB.block mb hmb)⟩,
   hP2.kept (by simp;omega) (fun b h1 h2=>(aV _ _ _ (by simp;omega)).trans (aV _ _ _ (by omega))) (fun g h1 h2 h3=>by omega) (fun m hm=> .inl hm)⟩
 case MB=>
  rintro Ms k W1 a₁ W o ⟨t,ob,bt,ht,ha,⟨hF,hP⟩,⟨hbt,⟨hb7,hob,hne⟩,hsl⟩,hk,hs⟩
  have hap:=(hF.apart (w.heap.size+6) (by simp)).1
  refine⟨t,ob,bt,ht,ha,⟨hF.put o (by omega) hmb,hP.kept (by simp) (fun b h1 h2=>World.putObj_heap_other (by omega)) (fun g h1 h2 h3=>World.putObj_heap_other (by omega)) (fun m hm=> .inl hm)⟩,
   ⟨(World.putObj_heap_other (by omega)).trans hbt,⟨hb7,hob,hne⟩,hsl.kept fun b off n c hv _=>by cases hv;exact World.putObj_heap_other (fun e=>hap (by rw[show w.heap.size+6=ob by omega];exact hob))⟩,
   fun m hm h0 hml=>(World.putObj_heap_other (fun e=>hap (by rw[show w.heap.size+6=m by omega];exact hm))).trans (hk m hm h0 hml),by simpa using hs⟩
 case hassign=>
  rintro Ms k v W hk ⟨hF,hP⟩ ⟨ob,rfl,hsl,hob,hne⟩ hlt
  generalize ht:(dQ h [])[k]=t at*
  have htk:(dQ h [])[k]? =some t:=by rw[dw hk,ht]
  gi_wp2
  have hB:Below W.heap.size W (W.alloc (.cells #[iv t.1,.slice (some ⟨ob,1,none⟩) t.2.length t.2.length] 208)):=aj (aH _ _) _
  have hc:=hF.cache.kept (hB.block mb hF.cache.lt)
  exact⟨⟨t,ob,W.heap.size,htk,rfl,⟨(hF.iV (Ext.aA hB) (fun m hm=> .inl hm) hc).1,hP.kept (by simp) (fun b h1 h2=>aV _ _ _ (by omega)) (fun g h1 h2 h3=>aV _ _ _ (by omega)) (fun m hm=> .inl hm)⟩,
   ⟨ay _ _,⟨by omega,hob,hne⟩,hsl.alloc _⟩,fun m hm h0 hml=>aV _ _ _ (by omega),by simp⟩,aV _ _ _ (by omega),aV _ _ _ (by omega)⟩
 case hbody=>
  rintro Ms k W1 a₁ W busy hk ⟨t,ob,bt,ht,rfl,⟨hF,hP⟩,⟨hbt,⟨hb7,hob,hne⟩,hsl⟩,hkeep,hsz⟩ hrec hD
  simp only[rf,List.set_cons_succ,List.set_cons_zero]
  have htm:t∈dQ h []:=ni ht
  obtain⟨hl2,hs0,hrest⟩:=AX oW.out htm
  have hlast:=oW.out.Bl
  have hwl:=oW.out.FV
  have c0:=aB hP.b0
  have c1:=aB hP.b1
  have k0:=dI W _ c0
  have k1:=dI W _ c1
  have kt:=(aS.1 hbt).1
  have hg: ∀i,W.cell? ⟨bt,i,none⟩=(#[iv t.1,.slice (some ⟨ob,1,none⟩) t.2.length t.2.length]:Array Value)[i]? :=fun i=>by
   simp only[World.cell?,hbt];rfl
  have ada:iY W wb mb h a b c:=HW.out.ext hF.ext hF.cache
  have J8:aO W (.slice ot turns.length ct) turns:=H4.out.gu hF.ext (fun x hx o=>by
   obtain rfl:x=mb:=by simpa using hx
   exact HW.out.cache.mX o)
  have aoq:=hF.cache.lt
  have Yk:=ae (x9 h a b c wb mb t.1 t.2 turns _ _ W ada hsl J8 (by omega) oW.out.NM oW.out.NL oW.out.Pv oW.out.Pq hs0.1 hs0.2 hrest)
  obtain⟨ys,hy⟩: ∃ys,lL h (t.1,t.2) turns=ys:=⟨_,rfl⟩
  have GR:ys.length=10:=by rw[<-hy];exact lq _ _ _ _ _ _
  rw[hy] at Yk
  have HY:=ae hy
  have HT:=ae (ag ht hk)
  have HF:=ae hF
  have HP:=ae hP
  have HK:=ae (ag hkeep (ag hrec hD))
  have HTV:=ae J8
  clear hF hP hkeep hrec hD hbt hsl J8 ada hy ht hrest htm
  rw[hl2] at Yk
  gi_wp2_with fail
  refine(CallsIn.inRound _ (callsIn_wide.2 Yk.out)).mono ?_
  rintro e W6 ⟨rfl,hcc,hE⟩
  have hyl:(ah ys).length=10:=by simp[ah,GR]
  simp only[lY]
  obtain⟨W7,hst,hblk,zC⟩:=xQ Tryz.prog ys (ay W6 (.cells #[iv 0,iv 0,iv 0,iv 0,iv 0,iv 0,iv 0,iv 0,iv 0,iv 0] 178)) (by rw[GR];rfl)
  have hE':Ext [mb] W W7:=Dt (hE.alloc _) zC hE.size
  have ahk:Cache W7 mb h.aZ:=hcc.kept ((zC.block mb (by have:=hcc.lt;first|(simp;done)|(simp;omega)) (by have:=hcc.lt;first|(simp;done)|(simp;omega))).trans (aV _ _ _ hcc.lt))
  have hF7:=HF.out.own (HF.out.ext.trans hE') hE'.size ahk
  have hap:=HF.out.apart
  have SK:Evr w wb (.slice ot turns.length ct) (jr h turns k) Ms W7:=HP.out.kept hE'.size (fun b h1 h2=>hE'.block b (hap b (by first|omega|(simp;done)|(simp;omega))).2 (by first|omega|(simp;done)|(simp;omega))) (fun g h1 h2 h3=>hE'.block g h2 (by first|omega|(simp;done)|(simp;omega))) (fun m hm=> .inl hm)
  have hkp: ∀m∈Ms,m∉[mb]->m<W1.heap.size->W7.heap[m]? =W1.heap[m]? :=fun m hm h0 hml=>(hE'.block m (by omega) h0).trans (HK.out.1 m hm h0 hml)
  have hrec:=(hE'.block _ (hap (w.heap.size+6) (by simp)).2 (by first|omega|(simp;done)|(simp;omega))).trans (show W.heap[w.heap.size+6]? =some (.loop busy) from by rw[show w.heap.size+6=w2.heap.size+1 by omega];exact HK.out.2.1)
  have hD:=(hE'.block _ (hap (w.heap.size+5) (by simp)).2 (by first|omega|(simp;done)|(simp;omega))).trans (show W.heap[w.heap.size+5]? =some (.deferred (some [])) from by rw[<-hsz2];exact HK.out.2.2)
  have hs7:W1.heap.size<=W7.heap.size:=by have:=hE'.size;omega
  have hw7:w.heap.size+7<=W7.heap.size:=by have:=hE'.size;omega
  obtain⟨v,hv1,hv2,hv3⟩:=SK.out
  obtain⟨vo,vc,rfl⟩:=aW hv2
  have d1:=aB hv1
  have d2:=bn hv1 0
  have d3:=dI W7 _ d1
  have d4:=(aS.1 hblk).1
  have hln:(jr h turns k).length<=2000:=by have:=EI h turns k;have:=xN oW.out [];have:=HT.out.2;omega
  have OU:=EF (h:=h) (turns:=turns) (k:=k)
  have hsucc:jr h turns (k+1)=lT (jr h turns k) ys:=by
   rw[BG HT.out.2, <-HY.out]
   have:=HT.out.1
   rw[dw HT.out.2] at this
   injection this with this
   rw[this]
  have xw:=ae hsucc
  have yM:=ae hF7
  have Vb:=ae SK
  have xI:=ae (ag hkp (ag hrec (ag hD hs7)))
  have HV:=ae (ag hv1 (ag hv2 hv3))
  have HB:=ae hblk
  have aa6:=ae OU
  generalize jr h turns k=ls at*
  clear hF7 SK hkp hrec hD hap hv1 hv2 hv3 hblk zC hE' ahk hE hcc OU hsucc hg c0 c1
  gi_wp2_with fail
  rcases(List.eq_nil_or_concat ls).imp id (fun⟨A,z,e⟩=>(⟨A,z,e.trans (List.concat_eq_append)⟩: ∃A z,ls=A++[z])) with rfl|⟨A,z,rfl⟩
  ·simp only[List.length_nil] at d1 HV
   refine dP 13 [] none [] (by kernel_rfl) (by kernel_rfl) (by kernel_rfl) ?_
   simp only[zt]
   repeat ((first|refine zd ?_|refine zk ?_);simp only[zp])
   have Um:Hid (lT [] ys=[]++[ys]):=ae (by simp[lT])
   intro W8 gY WU
   have hE:Ext [] W7 W8:=gY
   obtain⟨hc,hf⟩:=bK hE.below
   have hz8:=hE.size
   have hb8:=HB.out
   obtain⟨y0,y1,y2,y3,y4,y5,y6,y7,y8,y9,hys⟩:=CS GR
   rw[hys] at hb8
   have Ak: ∀i,W7.cell? ⟨W6.heap.size,i,none⟩=(#[iv y0,iv y1,iv y2,iv y3,iv y4,iv y5,iv y6,iv y7,iv y8,iv y9]:Array Value)[i]? :=fun i=>by
    simp only[World.cell?,hb8];rfl
   have hz9:W6.heap.size<W8.heap.size:=by omega
   have Eu:=aC (Ms:=[]) HV.out.2.1 hE (by simp)
   have ja:=ae hE
   have HOW:=ae Eu
   have Cc:=ae hys
   clear hE gY WU hb8 Eu hys
   gi_wp2_with (gi_at_builtin;go_loud (refine nV (fun _=>trivial) rfl qN rfl _ _ YP rfl (w.heap.size+7) (.slice vo 0 vc) 0 (List.flatMap ah []) rfl ?_ (.slice (some ⟨W8.heap.size,0,none⟩) 1 1) 1 (ah [y0,y1,y2,y3,y4,y5,y6,y7,y8,y9]) rfl ?_ (jL _) (by omega) (by omega) (by simp;omega) ?_))
   ·refine aC (Ms:=[]) (w:=W8) ?_ (Ext.aA ((aH _ _).alloc (ai _) _)) (by simp)
    simpa using HOW.out
   ·exact aN.dB 10 1 (ay _ _) rfl (by decide)
   ·intro v' W9 hown hgr hown'
    obtain⟨o9,c9,rfl⟩:=aW hown
    have xk:=ae hown
    have HG9:=ae hgr
    have HN9:=ae hown'
    have QB:=bD HV.out.2.1
    have qh: ∀b,b<w.heap.size+7->b<W7.heap.size->W9.heap[b]? =W7.heap[b]? :=fun b hb hb7=>by
     refine(hgr.block b (by simp;omega) (fun e=>?_)).trans ((aV _ _ _ (by omega)).trans (ja.out.block b hb7 (by simp)))
     have:=QB b e.symm
     omega
    have hc9:=hc
    have OQ:W8.heap.size<W9.heap.size:=by have:=hgr.size;simp at this;omega
    have e1:W9.cell? ⟨w.heap.size+1+1,0,none⟩=some (.slice vo 0 vc):=aB ((qh _ (by omega) d3).trans HV.out.1)
    have e2:W9.frozen? ⟨w.heap.size+1+1,0,none⟩=false:=bn ((qh _ (by omega) d3).trans HV.out.1) 0
    have e3:=dI W9 _ e1
    have D8:=ae qh
    clear hown hgr hown' qh hc9 Ak hc hf QB
    gi_wp2_with fail
    rw[Cc.out] at Um
    obtain⟨⟨hF9,hP9⟩,hks,Sz⟩:=UX (ls:=[]) (ys:=[y0,y1,y2,y3,y4,y5,y6,y7,y8,y9]) yM.out Vb.out HV.out.1 (fun g hg=>⟨bD HV.out.2.1 g hg,(HV.out.2.2 g hg).1⟩) ja.out HG9.out HN9.out (by simpa using xk.out) hmb hw7
    have QB:=bD HV.out.2.1
    have hap:=yM.out.apart
    refine⟨⟨?_,?_,fun m hm h0 hml=>?_,by have:=xI.out.2.2.2;omega⟩,hF9,?_⟩
    ·exact(hks _ (by omega) (fun e=>by have:=QB _ e;omega) (by omega)).trans xI.out.2.1
    ·exact(hks _ (by omega) (fun e=>by have:=QB _ e;omega) (by omega)).trans xI.out.2.2.1
    ·exact(hks m (by have:=xI.out.2.2.2;omega) (fun e=>(HV.out.2.2 m e).1 hm) (fun e=>(hap (w.heap.size+2) (by simp)).1 (by rw[<-e];exact hm))).trans (xI.out.1 m hm h0 hml)
    ·rw[xw.out,Cc.out]
     exact Um.out▸hP9
  ·have OQ:=aa6.out z (by simp)
   obtain⟨gb,gc,hvv,hgb,SE,LY⟩:=CY (A:=A) (z:=z) (by simpa using HV.out.2.1) (fun x hx=>aa6.out x (by simp[hx])) OQ
   have hcap:vo=some ⟨gb,0,none⟩:=by simp at hvv;exact hvv.1
   subst hcap
   have hzl:(ah z).length=10:=by simp[ah,OQ]
   have hyr:=xX HB.out
   (try simp only[dm,List.length_cons,List.length_nil,Nat.zero_add] at d1)
   (try simp only[dm,List.length_cons,List.length_nil,Nat.zero_add] at HV)
   (try simp only[dm,List.length_cons,List.length_nil,Nat.zero_add] at hln)
   have hAI:((A.length:Int)+1==0)=false:=by simp;omega
   have hA0: ¬((A.length:Int)+1=0):=by omega
   have hA1:((A.length:Int)+1).toNat=A.length+1:=by omega
   have hAm:(A.length:Int)+1-1=A.length:=by omega
   rcases hq:(z==ys) with _|_
   ·have Um:Hid (lT (A++[z]) ys=(A++[z])++[ys]):=ae (by
     unfold lT
     rw[ak]
     simp only[List.getLast?_append,List.getLast?_singleton]
     intro e
     simp at e
     subst e;simp at hq)
    refine dP 13 [] none [] (by kernel_rfl) (by kernel_rfl) (by kernel_rfl) ?_
    simp only[zt]
    repeat ((first|refine zn ?_|refine zk ?_);simp only[zp])
    refine fZ (by rfl) (.pointer (some ⟨gb,A.length*10,none⟩)) (by rfl) (fun W hW=>by go_simp;(try simp(disch:=omega) only[IntWalk.i64_in]);(try rw[aF (by omega)]);(try simp);(try (intro hx;exfalso;omega))) ?_
    simp only[zp]
    refine fZ (by rfl) (.agg (ah z).toArray) (by rfl) (fun W hW=>kN 178 _ (by rfl) gb (A.length*10) (by rfl) (ah z) _ (fun j u hj=>(hW gb _ SE (by simp)).trans (LY j u hj)) Tryz.underlying178 rfl (by rw[hzl];kernel_rfl)) ?_
    simp only[zp]
    refine fZ (by rfl) (.agg (ah ys).toArray) (by rfl) (fun W hW=>kN 178 _ (by rfl) W6.heap.size 0 (by rfl) (ah ys) _ (fun j u hj=>(hW W6.heap.size _ d4 (by simp)).trans (hyr j u hj)) Tryz.underlying178 rfl (by rw[hyl];kernel_rfl)) ?_
    simp only[zp]
    refine fZ (by rfl) (.bool true) (by rfl) (fun W hW=>(nT 178 3 _ 10 _ _ (by rfl) Tryz.underlying178 Tryz.underlying3 (by intro w;go_simp) (by kernel_rfl) z ys (by rfl) (by rfl) OQ GR).trans (by rw[hq];rfl)) ?_
    simp only[zp]
    repeat ((first|refine zd ?_|refine zk ?_);simp only[zp])
    intro W8 gY WU
    have hE:Ext [] W7 W8:=gY
    obtain⟨hc,hf⟩:=bK hE.below
    have hz8:=hE.size
    have hb8:=HB.out
    obtain⟨y0,y1,y2,y3,y4,y5,y6,y7,y8,y9,hys⟩:=CS GR
    rw[hys] at hb8
    have Ak: ∀i,W7.cell? ⟨W6.heap.size,i,none⟩=(#[iv y0,iv y1,iv y2,iv y3,iv y4,iv y5,iv y6,iv y7,iv y8,iv y9]:Array Value)[i]? :=fun i=>by
     simp only[World.cell?,hb8];rfl
    have hz9:W6.heap.size<W8.heap.size:=by omega
    have Eu:=aC (Ms:=[]) HV.out.2.1 hE (by simp)
    have ja:=ae hE
    have HOW:=ae Eu
    have Cc:=ae hys
    clear hE gY WU hb8 Eu hys
    gi_wp2_with (gi_at_builtin;go_loud (refine nV (fun _=>trivial) rfl qN rfl _ _ YP rfl (w.heap.size+7) (.slice (some ⟨gb,0,none⟩) (A.length+1) vc) (A.length+1) (List.flatMap ah (A++[z])) rfl ?_ (.slice (some ⟨W8.heap.size,0,none⟩) 1 1) 1 (ah [y0,y1,y2,y3,y4,y5,y6,y7,y8,y9]) rfl ?_ (jL _) (by omega) (by omega) (by simp;omega) ?_))
    ·refine aC (Ms:=[]) (w:=W8) ?_ (Ext.aA ((aH _ _).alloc (ai _) _)) (by simp)
     simpa using HOW.out
    ·exact aN.dB 10 1 (ay _ _) rfl (by decide)
    ·intro v' W9 hown hgr hown'
     obtain⟨o9,c9,rfl⟩:=aW hown
     have xk:=ae hown
     have HG9:=ae hgr
     have HN9:=ae hown'
     have QB:=bD HV.out.2.1
     have qh: ∀b,b<w.heap.size+7->b<W7.heap.size->W9.heap[b]? =W7.heap[b]? :=fun b hb hb7=>by
      refine(hgr.block b (by simp;omega) (fun e=>?_)).trans ((aV _ _ _ (by omega)).trans (ja.out.block b hb7 (by simp)))
      have:=QB b e.symm
      omega
     have hc9:=hc
     have OQ:W8.heap.size<W9.heap.size:=by have:=hgr.size;simp at this;omega
     have e1:W9.cell? ⟨w.heap.size+1+1,0,none⟩=some (.slice (some ⟨gb,0,none⟩) (A.length+1) vc):=aB ((qh _ (by omega) d3).trans HV.out.1)
     have e2:W9.frozen? ⟨w.heap.size+1+1,0,none⟩=false:=bn ((qh _ (by omega) d3).trans HV.out.1) 0
     have e3:=dI W9 _ e1
     have D8:=ae qh
     clear hown hgr hown' qh hc9 Ak hc hf QB
     gi_wp2_with fail
     rw[Cc.out] at Um
     obtain⟨⟨hF9,hP9⟩,hks,Sz⟩:=UX (ls:=(A++[z])) (ys:=[y0,y1,y2,y3,y4,y5,y6,y7,y8,y9]) yM.out Vb.out HV.out.1 (fun g hg=>⟨bD HV.out.2.1 g hg,(HV.out.2.2 g hg).1⟩) ja.out HG9.out HN9.out (by simpa using xk.out) hmb hw7
     have QB:=bD HV.out.2.1
     have hap:=yM.out.apart
     refine⟨⟨?_,?_,fun m hm h0 hml=>?_,by have:=xI.out.2.2.2;omega⟩,hF9,?_⟩
     ·exact(hks _ (by omega) (fun e=>by have:=QB _ e;omega) (by omega)).trans xI.out.2.1
     ·exact(hks _ (by omega) (fun e=>by have:=QB _ e;omega) (by omega)).trans xI.out.2.2.1
     ·exact(hks m (by have:=xI.out.2.2.2;omega) (fun e=>(HV.out.2.2 m e).1 hm) (fun e=>(hap (w.heap.size+2) (by simp)).1 (by rw[<-e];exact hm))).trans (xI.out.1 m hm h0 hml)
     ·rw[xw.out,Cc.out]
      exact Um.out▸hP9
   ·obtain rfl:z=ys:=by simpa using hq
    have Um:Hid (lT (A++[z]) z=A++[z]):=ae (by
     unfold lT
     rw[aF]
     simp)
    refine dP 13 [] none [] (by kernel_rfl) (by kernel_rfl) (by kernel_rfl) ?_
    simp only[zt]
    repeat ((first|refine zn ?_|refine zk ?_);simp only[zp])
    refine fZ (by rfl) (.pointer (some ⟨gb,A.length*10,none⟩)) (by rfl) (fun W hW=>by go_simp;(try simp(disch:=omega) only[IntWalk.i64_in]);(try rw[aF (by omega)]);(try simp);(try (intro hx;exfalso;omega))) ?_
    simp only[zp]
    refine fZ (by rfl) (.agg (ah z).toArray) (by rfl) (fun W hW=>kN 178 _ (by rfl) gb (A.length*10) (by rfl) (ah z) _ (fun j u hj=>(hW gb _ SE (by simp)).trans (LY j u hj)) Tryz.underlying178 rfl (by rw[hzl];kernel_rfl)) ?_
    simp only[zp]
    refine fZ (by rfl) (.agg (ah z).toArray) (by rfl) (fun W hW=>kN 178 _ (by rfl) W6.heap.size 0 (by rfl) (ah z) _ (fun j u hj=>(hW W6.heap.size _ d4 (by simp)).trans (hyr j u hj)) Tryz.underlying178 rfl (by rw[hzl];kernel_rfl)) ?_
    simp only[zp]
    refine fZ (by rfl) (.bool false) (by rfl) (fun W hW=>(nT 178 3 _ 10 _ _ (by rfl) Tryz.underlying178 Tryz.underlying3 (by intro w;go_simp) (by kernel_rfl) z z (by rfl) (by rfl) OQ OQ).trans (by simp)) ?_
    simp only[zp]
    repeat ((first|refine zd ?_|refine zk ?_);simp only[zp])
    intro W8 gY WU
    have hE:Ext [] W7 W8:=gY
    obtain⟨hc,hf⟩:=bK hE.below
    have hz8:=hE.size
    have ja:=ae hE
    clear hE gY WU
    gi_wp2_with fail
    have hap:=yM.out.apart
    refine⟨⟨?_,?_,fun m hm h0 hml=>?_,by have:=xI.out.2.2.2;omega⟩,(yM.out.iV (ja.out.nil) (fun m hm=> .inl hm) (yM.out.cache.kept (ja.out.block mb yM.out.cache.lt (by simp)))).1,?_⟩
    ·exact(ja.out.block _ (hap (w.heap.size+6) (by simp)).2 (by simp)).trans xI.out.2.1
    ·exact(ja.out.block _ (hap (w.heap.size+5) (by simp)).2 (by simp)).trans xI.out.2.2.1
    ·exact(ja.out.block m (by have:=xI.out.2.2.2;omega) (by simp)).trans (xI.out.1 m hm h0 hml)
    ·rw[xw.out,Um.out]
     exact Vb.out.kept ja.out.size (fun b h1 h2=>ja.out.block b (by omega) (by simp)) (fun g h1 h2 h3=>ja.out.block g h2 (by simp)) (fun m hm=> .inl hm)
 case hdone=>
  rintro Ms W ⟨hF,hP⟩ hD hlt
  rw[yC] at hP
  obtain⟨v,hv1,hv2,hv3⟩:=hP.out
  obtain⟨vo,vc,rfl⟩:=aW hv2
  have hc:=aB hv1
  have hf:=bn hv1 0
  have hk:=dI W _ hc
  have HF:=ae hF
  have HV:=ae (ag hv1 hv2)
  clear hF hP hv1 hv2 hv3
  gi_wp2_with fail
  rw[hsz2] at hD
  have hD':(W.setCell ⟨w.heap.size+1+1,0,none⟩ (.slice vo (jG h turns).length vc)).heap[w.heap.size+5]? =some (.deferred (some [])):=(dH _ _ _ _ (by show w.heap.size+5≠w.heap.size+1+1;omega)).trans hD
  have hcell:((W.setCell ⟨w.heap.size+1+1,0,none⟩ (.slice vo (jG h turns).length vc)).putObj (w.heap.size+5) (.deferred none)).cell? ⟨w.heap.size+1+1,0,none⟩=some (.slice vo (jG h turns).length vc):=
   aB ((World.putObj_heap_other (by omega)).trans (aI HV.out.1 _))
  refine⟨by simp,.inl ⟨_,_,rfl,run_takeDeferred hD',?_⟩⟩
  have hF2:=(HF.out.own (HF.out.ext.set (p:=⟨w.heap.size+1+1,0,none⟩) (by show w.heap.size<=w.heap.size+1+1;omega) (.slice vo (jG h turns).length vc)) (by simp[World.setCell]) (HF.out.cache.kept (dH _ _ _ _ (by show mb≠w.heap.size+1+1;omega)))).put (Obj.deferred none) (r:=w.heap.size+5) (by omega) hmb
  refine⟨.slice vo (jG h turns).length vc,by simp[results,Tryz.results77,go_sem,hcell],_,rfl,?_,hF2.cache,hF2.ext⟩
  refine df (dn HV.out.2 fun g hg=>(World.putObj_heap_other ?_).trans (dH _ _ _ _ ?_)) (by omega)
  ·have:=(bD HV.out.2 g hg).1;omega
  ·have:=(bD HV.out.2 g hg).1;show g≠w.heap.size+1+1;omega
 case hstop=>rintro cd Ms W h;exact h.elim
end Go.Proofs.YthllkbbbapgelaaGreatDoor.jI
end
section
namespace Go.Proofs.YthllkbbbapgelaaGreatDoor.jI
open Go.RowKit Go.RG Go.SL Go.Shelf jy
def afA (R:List dR) (mb:Nat) (aZ:Int) (w:World) (e:Ending) (w':World):Prop:=
 ∃v,e= .returned v/\w'.ownsRow w.heap.size 50 2 v R.length (aG R)/\Cache w' mb aZ/\Ext [mb] w w'
theorem AA (h:cZ) (hS:Sound h) (a b c tv:Value) (turns:List Int) (wb mb:Nat) (w:World) (hw:iY w wb mb h a b c) (h1:bT w a h.bZ) (h2:aO w b h.turns) (h3:bJ w c h.readings) (h4:aO w tv turns):
 Calls Tryz.prog 76 #[.pointer (some ⟨wb,0,none⟩),tv] w (afA (rQ (h.last+1).toNat (jG h turns)) mb h.aZ w):=by
 have HEV:=ae (Kt h hS a b c tv turns wb mb w hw h1 h2 h3 h4)
 obtain⟨oa,ca,rfl⟩:=h1.open
 obtain⟨ob,cb,rfl⟩:=h2.open
 obtain⟨oc,cc,rfl⟩:=h3.open
 obtain⟨ot,ct,rfl⟩:=h4.open
 have HW:=ae hw
 have oW:=ae hS
 have hl0:=hS.J4
 have hl9:=hS.Bl
 obtain⟨n,hn⟩: ∃n:Nat,h.last+1=n:=⟨(h.last+1).toNat,by omega⟩
 have OU:=Ho (h:=h) (turns:=turns)
 have hlen:(jG h turns).length<=2000:=iW (SX h turns) (xN hS [])
 rw[hn,Int.toNat_natCast]
 generalize jG h turns=ls at*
 clear hw h1 h2 h3 h4 hS
 go_enter Tryz.func76,Tryz.ntmps76
 go_wp2_with fail
 refine HEV.o.mono ?_
 rintro e w1 ⟨v,rfl,hown,hcc,hE⟩
 obtain⟨vo,vc,rfl⟩:=aW hown
 have HO:=ae hown
 have HC:=ae hcc
 have HE:=ae hE
 clear hown hcc hE
 go_wp2_with fail
 have hws:=HW.o
 go_loopw [4,12] (fun o u wr=> ∃k:Nat,k<=ls.length/\u= .int .i64 k/\ ∃oo JV,o= .slice oo (bz n ls k).length JV/\wr.ownsRow w1.heap.size 50 2 (.slice oo (bz n ls k).length JV) (bz n ls k).length (aG (bz n ls k))/\Below w1.heap.size w1 wr)
  (fun _ u _=>ls.length-(intOf u).toNat)
 case atStart=>exact⟨0,bQ _,rfl,none,0,rfl,⟨rfl,.inl ⟨rfl,rfl⟩⟩,aH _ _⟩
 case round=>
  obtain⟨k,hk,rfl,oo,JV,rfl,how,hB⟩:=hrel
  by_cases hlt:k<ls.length
  ·have adh:=OU ls[k] (dh hlt)
   obtain⟨g0,c0,hv0,hg0,hr0⟩:=abO HO.o OU hlt
   have hvo:vo=some ⟨g0,0,none⟩:=by simp at hv0;exact hv0.1
   subst hvo
   have hr1:wr.rangeAt g0 (k*10) (ah ls[k]):=fun j u hj=>(hB.cell (p:=⟨g0,k*10+j,none⟩) hg0).trans (hr0 j u hj)
   have akg:ls.getD k []=ls[k]:=by simp[List.getD,hlt]
   generalize ls[k]=ys at*
   obtain⟨W2,hst,hblk,hE2⟩:=xQ Tryz.prog ys (ay wr (.cells #[iv 0,iv 0,iv 0,iv 0,iv 0,iv 0,iv 0,iv 0,iv 0,iv 0] 178)) (by rw[adh];rfl)
   have hyl:(ah ys).length=10:=by simp[ah,adh]
   have hB2:Below wr.heap.size wr W2:=(Ext.below (Dt ((Ext.aA (aH _ _)).alloc _) hE2 (ai _)))
   have aea:iY W2 wb mb h (.slice oa h.bZ.length ca) (.slice ob h.turns.length cb) (.slice oc h.readings.length cc):=(HW.o.ext HE.o HC.o).below (aY hB hB2) (ai _)
   have c2:=aea.cell
   have c3:=aea.lt
   have Fb:(k:Int)<ls.length:=by omega
   have hkn:((k:Int)).toNat=k:=by omega
   have HB:=ae hB
   have HB2:=ae hB2
   have HK:=ae hblk
   have HOW:=ae how
   clear hws hB hB2 hblk how aea hE2 hr0
   go_wp2_with (refine wpList_load_mid rfl 178 _ rfl g0 (k*10) rfl (ah ys) _ hr1 Tryz.underlying178 rfl (by rw[hyl];kernel_rfl) ?_)
   refine(L8 h _ _ _ n _ hl0 hl9 hn).mono ?_
   rintro e W3 ⟨rfl,hb⟩
   have HB3:=ae (aY HB2.o hb)
   have hk3:W3.heap[wr.heap.size]? =some (.cells (ah ys).toArray 178 (0,0)):=(hb.block _ (aS.1 HK.o).1).trans HK.o
   have XX:=ae hk3
   clear hb hk3 c2 c3 hst hr1
   go_wp2_with fail
   have WN:n<=10:=by omega
   have hR:k≠0->(bz n ls k).length=n:=pO n ls k
   have hR0:k=0->bz n ls k=[]:=fun e=>by subst e;rfl
   have H3:=ae (show _/\_/\_/\_ from ag (aC (Ms:=[]) HOW.o (Ext.aA HB3.o) (by simp)) (ag (fun g (hg:(Value.slice oo (bz n ls k).length JV).ownBlock=some g)=>(show g≠wr.heap.size from by have:=(bD HOW.o g hg).2;omega)) (ag (aY HB.o HB3.o) XX.o)))
   clear HB HB2 HB3 HOW HK XX
   generalize wr.heap.size=b6 at*
   go_loopw [4,22] (fun o u wq=> ∃i:Nat,i<=n/\u= .int .i64 i/\ ∃oo JV,o= .slice oo (eP n k (bz n ls k) ys i).length JV/\wq.ownsRow w1.heap.size 50 2 (.slice oo (eP n k (bz n ls k) ys i).length JV) (eP n k (bz n ls k) ys i).length (aG (eP n k (bz n ls k) ys i))/\
    (∀g,(Value.slice oo (eP n k (bz n ls k) ys i).length JV).ownBlock=some g->g≠b6)/\Below w1.heap.size w1 wq/\wq.heap[b6]? =some (.cells (ah ys).toArray 178 (0,0)))
    (fun _ u _=>n-(intOf u).toNat)
   case atStart=>
    refine⟨0,bQ _,rfl,?_⟩
    rw[Rl hR hR0]
    exact⟨oo,JV,rfl,H3.o⟩
   case round=>
    obtain⟨i,hi,rfl,oo3,Zi,rfl,how,hne,hB,hblk⟩:=hrel
    by_cases hin:i<n
    ·have ab7:i<ys.length:=by omega
     have hcell:=gG hblk ab7
     have hgx:ys.getD i 0=ys[i]:=by simp[List.getD,ab7]
     have hkb:=(aS.1 hblk).1
     have hiI:(i:Int)<10:=by omega
     have aoI:(i:Int)<n:=by omega
     have hiN:((i:Int)).toNat=i:=by omega
     generalize hxx:ys[i]=x at hcell hgx
     have HX:=ae hgx
     have HOI:=ae how
     have KN:=ae hne
     have HBQ:=ae hB
     have HKQ:=ae hblk
     clear hgx how hne hB hblk hxx
     rcases Nat.eq_zero_or_pos k with hk0|hk0
     ·have ahb:((k:Int)==0)=true:=by simpa using hk0
      have agS:(eP n k (bz n ls k) ys i).length=i:=by rw[hk0];exact tq _ _ _ _
      have happ:eP n k (bz n ls k) ys i++[(x,x)]=eP n k (bz n ls k) ys (i+1):=by rw[hk0, <-HX.o];exact VT
      have hlen1:(eP n k (bz n ls k) ys (i+1)).length=i+1:=by rw[hk0];exact tq _ _ _ _
      have HAP:=ae happ
      have HK0:=ae hk0
      have Uk:=ae (ag agS hlen1)
      clear happ hk0 agS hlen1
      go_wp2_with fail
      clear ahb
      refine zg 9 [] none [(8,Spec.slice wr.heap.size #[iv x,iv x] 50 1)] ?_
      simp only[zt]
      repeat (refine zd ?_;simp only[zp])
      refine dY wr.heap.size _ _ _ (by rfl) (ai _) (by rfl) (by simp) (by simp) (fun W hW=>by go_simp;try rfl) (fun b8=>?_)
      simp only[zp]
      intro W5 Ez hF5
      have MG:Ext [] wr W5:=Ez
      obtain⟨b8',hb8,ao1,adp⟩:=hF5 _ (bF _)
      cases hb8
      obtain⟨hc,hf⟩:=bK MG.below
      have hz5:=MG.size
      have HE5:=ae MG
      have HBK:=ae adp
      have hown5:=aC (Ms:=[]) HOI.o MG (by simp)
      have alv:=ae hown5
      have an5:=HBQ.o.size
      clear Ez hF5 MG adp hown5
      go_wp2_with (at_builtin;go_loud (refine fQ rfl _ _ KY rfl w1.heap.size (.slice oo3 (eP n k (bz n ls k) ys i).length Zi) (eP n k (bz n ls k) ys i).length (aG (eP n k (bz n ls k) ys i)) rfl alv.o (.slice (some ⟨b8,0,none⟩) 1 1) 1 (aG [(x,x)]) rfl (aN.dB 2 1 HBK.o rfl (by decide)) (oN _) (by have:=Uk.o.1;omega) (by have:=Uk.o.1;omega) (by omega) ?_))
      intro v' W6 hown6 I7 adg
      have SC:W6.ownsRow w1.heap.size 50 2 v' (eP n k (bz n ls k) ys (i+1)).length (aG (eP n k (bz n ls k) ys (i+1))):=by
       rw[Uk.o.2, <-HAP.o]
       have e1:aG (eP n k (bz n ls k) ys i++[(x,x)])=aG (eP n k (bz n ls k) ys i)++aG [(x,x)]:=by simp[aG]
       rw[e1]
       have hl:=Uk.o.1
       rw[hl] at hown6
       exact hown6
      obtain⟨o6,c6,rfl⟩:=aW SC
      have xk:=ae SC
      have HN9:Hid (∀g,(Value.slice o6 (eP n k (bz n ls k) ys (i+1)).length c6).ownBlock=some g->g≠b6):=ae (fun g hg=>by
       rcases adg with e|e
       ·rw[hg] at e;exact KN.o g e.symm
       ·rw[hg] at e;injection e with e;omega)
      have ahu:(Value.slice oo3 (eP n k (bz n ls k) ys i).length Zi).ownBlock≠some b6:=fun e=>KN.o b6 e rfl
      have BC: ∀b,b<wr.heap.size->(Value.slice oo3 (eP n k (bz n ls k) ys i).length Zi).ownBlock≠some b->W6.heap[b]? =wr.heap[b]? :=fun b hb hn=>(I7.block b (by omega) (fun e=>hn e.symm)).trans (HE5.o.block b hb (by simp))
      have hs6:=I7.size
      have hk6:W6.heap[b6]? =some (.cells (ah ys).toArray 178 (0,0)):=(BC b6 hkb ahu).trans HKQ.o
      have Fe:Below w1.heap.size w1 W6:=⟨I7.os.trans (HE5.o.os.trans HBQ.o.os),I7.tape.trans (HE5.o.tape.trans HBQ.o.tape),I7.output.trans (HE5.o.output.trans HBQ.o.output),by omega,
       fun b hb=>(BC b (by omega) (fun e=>by have:=(bD HOI.o b e).1;omega)).trans (HBQ.o.block b hb)⟩
      have qQ:=ae Fe
      have D8:=ae hk6
      have akA:W6.cell? ⟨b6,i,none⟩=some (.int .i64 x):=by
       have:=gG hk6 ab7
       rw[this]
       have hx:=HX.o
       simp only[List.getD,dw ab7,Option.getD_some] at hx
       rw[hx]
      have aoA:=(aS.1 hk6).1
      clear hown6 I7 adg SC ahu BC hk6 Fe hc hf hcell
      go_wp2_with fail
      have hlen1:=Uk.o.2
      have akw:(eP n k (bz n ls k) ys (i+1)).set i (wid ((eP n k (bz n ls k) ys (i+1)).getD i (0,0)) (ys.getD i 0))=eP n k (bz n ls k) ys (i+1):=by rw[HK0.o];exact Rn
      have hiL:i<((eP n k (bz n ls k) ys (i+1))).length:=by first|omega|(rw[vK _ _ _ _ _ hk0];omega)|(simp only[tq,List.length_append,List.length_cons,List.length_nil,pO,vK,ne_eq,hk0,not_false_eq_true];omega)
      (try clear hlen1)
      obtain⟨g9,c9,hv9,I8,akf,⟨p0,p1⟩,hfz⟩:=oM xk.o hiL
      simp only[Value.slice.injEq,true_and] at hv9
      obtain⟨rfl,rfl⟩:=hv9
      have hgd:((eP n k (bz n ls k) ys (i+1))).getD i (0,0)=((eP n k (bz n ls k) ys (i+1)))[i]:=by simp[List.getD,hiL]
      have aek: ¬g9=b6:=HN9.o g9 rfl
      have akp:(i:Int)<(((eP n k (bz n ls k) ys (i+1))).length:Int):=by omega
      generalize Et:((eP n k (bz n ls k) ys (i+1)))[i]=r9 at p0 p1 hgd
      have HGD:=ae hgd
      have hf0:=hfz (i*2)
      have hf1:=hfz (i*2+1)
      clear hfz Et hgd
      refine zg 11 [] none [(9,Spec.val (rv (wid r9 x)))] ?_
      simp only[zt]
      repeat (refine zd ?_;simp only[zp])
      refine eF _ (by rfl) (by rfl) 132 _ (fun W hW=>by go_simp;(try simp(disch:=omega) only[IntWalk.i64_in]);try rfl) (fun W hE hF=>by exact Jo r9 x W) ?_
      simp only[zp]
      repeat (refine zd ?_;simp only[zp])
      intro W8 gY WU
      have MC:Ext [] W6 W8:=gY
      obtain⟨hc8,hf8⟩:=bK MC.below
      have hz8:=MC.size
      have ja:=ae MC
      have aem:g9<W8.heap.size:=by omega
      clear gY WU MC
      go_wp2_with fail
      go_roundw
      case rel=>
       have heq:eP n k (bz n ls k) ys (i+1)=((eP n k (bz n ls k) ys (i+1))).set i (wid r9 x):=by
        rw[<-HX.o, <-HGD.o]
        exact(akw).symm
       refine⟨i+1,by omega,by go_num,?_⟩
       rw[heq,qw]
       have hset:=nP (aC (Ms:=[]) xk.o ja.o (by simp)) hiL (wid r9 x)
       refine⟨_,_,rfl,hset,fun g hg=>by cases hg;exact aek,iF (iF (aY qQ.o ja.o.below) I8 _) I8 _,?_⟩
       exact(dH _ _ _ _ (by show b6≠g9;omega)).trans ((dH _ _ _ _ (by show b6≠g9;omega)).trans ((ja.o.block b6 (aS.1 D8.o).1 (by simp)).trans D8.o))
      case measure=>simp[intOf];omega
     ·have aoE: ¬((k:Int)=0):=by omega
      have ahb:((k:Int)==0)=false:=by simp;omega
      have hk0':k≠0:=by omega
      replace hk0:k≠0:=by omega
      go_wp2_with fail
      have xk:=HOI
      have HN9:=KN
      have qQ:=HBQ
      have D8:=HKQ
      have hiL:i<((eP n k (bz n ls k) ys i)).length:=by first|omega|(rw[vK _ _ _ _ _ hk0];omega)|(simp only[tq,List.length_append,List.length_cons,List.length_nil,pO,vK,ne_eq,hk0,not_false_eq_true];omega)
      (try clear hlen1)
      obtain⟨g9,c9,hv9,I8,akf,⟨p0,p1⟩,hfz⟩:=oM xk.o hiL
      simp only[Value.slice.injEq,true_and] at hv9
      obtain⟨rfl,rfl⟩:=hv9
      have hgd:((eP n k (bz n ls k) ys i)).getD i (0,0)=((eP n k (bz n ls k) ys i))[i]:=by simp[List.getD,hiL]
      have aek: ¬g9=b6:=HN9.o g9 rfl
      have akp:(i:Int)<(((eP n k (bz n ls k) ys i)).length:Int):=by omega
      generalize Et:((eP n k (bz n ls k) ys i))[i]=r9 at p0 p1 hgd
      have HGD:=ae hgd
      have hf0:=hfz (i*2)
      have hf1:=hfz (i*2+1)
      clear hfz Et hgd
      refine zg 11 [] none [(9,Spec.val (rv (wid r9 x)))] ?_
      simp only[zt]
      repeat (refine zd ?_;simp only[zp])
      refine eF _ (by rfl) (by rfl) 132 _ (fun W hW=>by go_simp;(try simp(disch:=omega) only[IntWalk.i64_in]);try rfl) (fun W hE hF=>by exact Jo r9 x W) ?_
      simp only[zp]
      repeat (refine zd ?_;simp only[zp])
      intro W8 gY WU
      have MC:Ext [] wr W8:=gY
      obtain⟨hc8,hf8⟩:=bK MC.below
      have hz8:=MC.size
      have ja:=ae MC
      have aem:g9<W8.heap.size:=by omega
      clear gY WU MC
      go_wp2_with fail
      go_roundw
      case rel=>
       have heq:eP n k (bz n ls k) ys (i+1)=((eP n k (bz n ls k) ys i)).set i (wid r9 x):=by
        rw[<-HX.o, <-HGD.o]
        exact(VS hk0 hin).symm
       refine⟨i+1,by omega,by go_num,?_⟩
       rw[heq,qw]
       have hset:=nP (aC (Ms:=[]) xk.o ja.o (by simp)) hiL (wid r9 x)
       refine⟨_,_,rfl,hset,fun g hg=>by cases hg;exact aek,iF (iF (aY qQ.o ja.o.below) I8 _) I8 _,?_⟩
       exact(dH _ _ _ _ (by show b6≠g9;omega)).trans ((dH _ _ _ _ (by show b6≠g9;omega)).trans ((ja.o.block b6 (aS.1 D8.o).1 (by simp)).trans D8.o))
      case measure=>simp[intOf];omega
    ·have hin':i=n:=by omega
     subst hin'
     have hsucc:bz i ls (k+1)=eP i k (bz i ls k) ys i:=by
      show eP i k (bz i ls k) (ls.getD k []) i=_
      rw[akg]
     have HS:=ae (ag hsucc (ag how hB))
     clear hsucc how hB hblk hne
     go_wp2_with fail
     go_roundw
     case rel=>
      refine⟨k+1,by omega,by go_num,?_⟩
      rw[HS.o.1]
      exact⟨_,_,rfl,HS.o.2.1,HS.o.2.2⟩
     case measure=>simp[intOf];omega
  ·have hkl:k=ls.length:=by omega
   subst hkl
   have HF:=ae (ag how hB)
   clear how hB
   go_wp2_with fail
   go_returns
   exact⟨_,by simp,df HF.o.1 (by have:=HE.o.size;omega),HC.o.kept (HF.o.2.block mb HC.o.lt),HE.o.bel HF.o.2⟩
end Go.Proofs.YthllkbbbapgelaaGreatDoor.jI
namespace Go.Proofs.YthllkbbbapgelaaGreatDoor.jI
open Go.RowKit Go.RG Go.SL Go.Shelf jy
def lQ (w:World) (v:Value) (ls:List (List Int)):Prop:=aN 10 w v ls.length (ls.flatMap ah)/\ ∀x∈ls,x.length=10
theorem lQ.len {w:World} {v:Value} {ls:List (List Int)} (h:lQ w v ls):ls.length<=9223372036854775807:=aN.len h.1
theorem lQ.open {w:World} {v:Value} {ls:List (List Int)} (h:lQ w v ls): ∃o c,v= .slice o ls.length c:=aN.open h.1
theorem lQ.below {w w':World} {v:Value} {ls:List (List Int)} (h:lQ w v ls) (hb:Below w.heap.size w w'):lQ w' v ls:=⟨h.1.below hb (ai _),h.2⟩
theorem lQ.cell {w:World} {o:Option Addr} {c:Nat} {ls:List (List Int)} (h:lQ w (.slice o ls.length c) ls) {k:Nat} (hk:k<ls.length):
 ∃b off,o=some ⟨b,off,none⟩/\b<w.heap.size/\w.rangeAt b (off+k*10) (ah ls[k]):=by
 obtain⟨⟨hl,o',c',hv,h1,h2,h3,h4⟩,h10⟩:=h
 cases hv
 cases o with
 |none=>have:=h3 rfl;omega
 |some a=>
  obtain⟨b,off,sp⟩:=a
  obtain⟨hs,hc⟩:=h4 _ rfl
  simp only at hs hc
  subst hs
  have hat: ∀j u,(ah ls[k])[j]? =some u->w.cell? ⟨b,off+k*10+j,none⟩=some u:=fun j u hj=>by
   have hj':j<10:=by have:=(je.1 hj).1;simpa [ah,h10 _ (dh hk)] using this
   have:=hc (k*10+j) u (by rw[Hg ah 10 ls (fun x hx=>by simp[ah,h10 x hx]) k j hk hj'];exact hj)
   rw[<-Nat.add_assoc] at this
   exact this
  have h0:ls[k].length=10:=h10 _ (dh hk)
  have:=hat 0 (iv (ls[k][0]'(by omega))) (by simp[ah])
  exact⟨b,off,rfl,dI w _ this,hat⟩
theorem ajK (l:List (List Int)) (v:Value) (bg:Nat) (fst caps:Array Value) (p:Nat->Bool) (I:Nat->World->Prop) (w:World) (eg: ∀args w,(callFunc bg args).run Tryz.prog w= .ok (.enter bg args) w)
 (hsl: ∀k W,I k W->lQ W v l)
 (hcall: ∀k (hk:k<l.length) W,(∀j,j<k->p j=false)->I k W->Calls Tryz.prog bg (fst.push (lY l[k])++caps) W (fun e W'=>e= .returned (.bool (p k))/\I (k+1) W')) (h0:I 0 w):
 Calls Tryz.prog 138 #[v,.func (.func bg) fst caps] w (ed l.length p I (fun k=>iv k) (iv (-1))):=by
 have hlen:=(hsl 0 w h0).len
 have h10:=(hsl 0 w h0).2
 obtain⟨o,c,rfl⟩:=(hsl 0 w h0).open
 have HC:=ae hcall
 have HS:=ae hsl
 have HT:=ae h10
 clear hcall hsl h10
 go_enter Tryz.func138,Tryz.ntmps138
 go_wp2
 go_loopw [4,5,8] (fun _ _ i wr=> ∃k:Nat,k<=l.length/\i= .int .i64 k/\(∀j,j<k->p j=false)/\I k wr) (fun _ _ i _=>l.length-(intOf i).toNat)
 case atStart=>exact⟨0,bQ _,rfl,fun j hj=>by omega,h0⟩
 case round=>
  obtain⟨k,hk,rfl,hno,hI⟩:=hrel
  by_cases hlt:k<l.length
  ·obtain⟨b,off,rfl,hb,LY⟩:=lQ.cell (HS.o k wr hI) hlt
   have hC:=HC.o k hlt wr hno hI
   have hyl:(ah l[k]).length=10:=by simp[ah,HT.o _ (dh hlt)]
   have Fb:(k:Int)<l.length:=by omega
   have HN:=ae hno
   clear hno
   generalize l[k]=ys at*
   go_wp2_with (refine wpList_load_mid rfl 178 _ rfl b (off+k*10) rfl (ah ys) _ LY Tryz.underlying178 rfl (by rw[hyl];kernel_rfl) ?_)
   refine hC.mono ?_
   rintro e W1 ⟨rfl,hI1⟩
   have HI:=ae hI1
   clear hI1 hI hC
   cases hp:p k
   ·go_wp2_with fail
    go_roundw
    case rel=>exact⟨k+1,by omega,by go_num,fun j hj=>(by by_cases e:j=k;(subst e;exact hp);exact HN.o j (by omega)),HI.o⟩
    case measure=>simp[intOf];omega
   ·go_wp2_with fail
    go_returns
    exact⟨k,by omega,HN.o,.inl ⟨hlt,hp,by simp,HI.o⟩⟩
  ·have hkl:k=l.length:=by omega
   have HN:=ae hno
   clear hno
   go_wp2_with fail
   go_returns
   exact⟨k,by omega,HN.o,.inr ⟨hkl,by simp,by subst hkl;exact hI⟩⟩
theorem adv (l:List (List Int)) (v:Value) (bg:Nat) (fst caps:Array Value) (p:Nat->Bool) (I:Nat->World->Prop) (w:World) (eg: ∀args w,(callFunc bg args).run Tryz.prog w= .ok (.enter bg args) w)
 (hsl: ∀k W,I k W->lQ W v l)
 (hcall: ∀k (hk:k<l.length) W,(∀j,j<k->p j=false)->I k W->Calls Tryz.prog bg (fst.push (lY l[k])++caps) W (fun e W'=>e= .returned (.bool (p k))/\I (k+1) W')) (h0:I 0 w):
 Calls Tryz.prog 80 #[v,.func (.func bg) fst caps] w (ed l.length p I (fun _=> .bool true) (.bool false)):=by
 have HI:=ae (ajK l v bg fst caps p I w eg hsl hcall h0)
 have hlen:=(hsl 0 w h0).len
 clear hsl hcall h0 eg
 go_enter Tryz.func80,Tryz.ntmps80
 go_wp2_with fail
 refine HI.o.mono ?_
 clear HI
 rintro e W' ⟨k,hk,hno,⟨hlt,hp,rfl,hI⟩|⟨hkl,rfl,hI⟩⟩
 ·have HN:=ae (ag hno (ag hp hI))
  clear hno hp hI
  go_wp2_with fail
  go_returns
  exact⟨k,hk,HN.o.1,.inl ⟨hlt,HN.o.2.1,by simp,HN.o.2.2⟩⟩
 ·have HN:=ae (ag hno (ag hkl hI))
  clear hno hkl hI
  go_wp2_with fail
  go_returns
  exact⟨k,hk,HN.o.1,.inr ⟨HN.o.2.1,by simp,HN.o.2.1▸HN.o.2.2⟩⟩
theorem aib (x:List Int) (h10:x.length=10) (bx bg:Nat) (fst caps:Array Value) (b:Bool) (W:World) (R:World->Prop) (eg: ∀args w,(callFunc bg args).run Tryz.prog w= .ok (.enter bg args) w)
 (hbx:W.cell? ⟨bx,0,none⟩=some (.func (.func bg) fst caps))
 (hcall:Calls Tryz.prog bg (fst.push (lY x)++caps) (W.alloc (.cells (ah x).toArray 178)) (fun e W'=>e= .returned (.bool b)/\R W')):
 Calls Tryz.prog 134 #[lY x,.pointer (some ⟨bx,0,none⟩)] W (fun e W'=>e= .returned (.bool !b)/\R W'):=by
 have hlt:=dI W _ hbx
 obtain⟨y0,y1,y2,y3,y4,y5,y6,y7,y8,y9,rfl⟩:=CS h10
 have HC:=ae hcall
 clear hcall
 show Calls Tryz.prog 134 #[.agg #[iv y0,iv y1,iv y2,iv y3,iv y4,iv y5,iv y6,iv y7,iv y8,iv y9],.pointer (some ⟨bx,0,none⟩)] W _
 go_enter Tryz.func134,Tryz.ntmps134
 go_wp2_with fail
 refine HC.o.mono ?_
 rintro e W' ⟨rfl,hR⟩
 have HR:=ae hR
 clear hR
 go_wp2_with fail
 go_returns
 exact⟨by simp,HR.o⟩
theorem XD (l:List (List Int)) (v:Value) (bg:Nat) (fst caps:Array Value) (q:List Int->Bool) (w:World) (hv:lQ w v l) (eg: ∀args w,(callFunc bg args).run Tryz.prog w= .ok (.enter bg args) w)
 (hcall: ∀x∈l, ∀W,Below w.heap.size w W->Calls Tryz.prog bg (fst.push (lY x)++caps) W (PV (.bool (q x)) W)):
 Calls Tryz.prog 78 #[v,.func (.func bg) fst caps] w (PV (.bool (l.all q)) w):=by
 have HI:=ae (adv l v 134 #[] #[.pointer (some ⟨w.heap.size,0,none⟩)] (fun k=>!q (l.getD k []))
  (fun k W=>Below w.heap.size w W/\W.heap[w.heap.size]? =some (.cells #[.func (.func bg) fst caps] 179 (0,0))) (w.alloc (.cells #[.func (.func bg) fst caps] 179))
  (enters_of Tryz.func134 (by kernel_rfl) rfl) (fun k W h=>hv.below h.1)
  (fun k hk W hno h=>by
    have hlt:w.heap.size<W.heap.size:=(aS.1 h.2).1
    have hgd:l.getD k []=l[k]:=by simp[List.getD,hk]
    rw[hgd]
    refine(aib l[k] (hv.2 _ (dh hk)) w.heap.size bg fst caps (q l[k]) W (fun W'=>Below w.heap.size w W'/\W'.heap[w.heap.size]? =some (.cells #[.func (.func bg) fst caps] 179 (0,0))) eg (aB h.2) ?_)
    refine(hcall l[k] (dh hk) _ (aj h.1 _)).mono ?_
    rintro e W' ⟨rfl,hb⟩
    refine⟨rfl,aY (aj h.1 _) hb,(hb.block _ (by simp;omega)).trans ((aV _ _ _ hlt).trans h.2)⟩)
  ⟨aj (aH _ _) _,heap_alloc_new w _⟩)
 have hlen:=hv.len
 obtain⟨bb,hbb⟩: ∃bb,l.all q=bb:=⟨_,rfl⟩
 rw[hbb]
 have HQ:Hid (((List.range l.length).any fun k=>!q (l.getD k []))=!bb):=ae (by rw[<-hbb, <-jR l q [],List.all_eq_not_any_not];simp)
 clear hcall eg hv hbb
 go_enter Tryz.func78,Tryz.ntmps78
 go_wp2_with fail
 refine HI.o.mono ?_
 clear HI
 intro e W' hpost
 obtain⟨rfl,k,_,hI,_⟩:=hpost.all
 have HB:=ae hI
 rw[HQ.o]
 clear hI hpost
 cases bb
 all_goals
  go_wp2_with fail
  go_returns
  exact⟨by simp,HB.o⟩
theorem Tu (l:List (List Int)) (v:Value) (bg:Nat) (fst caps:Array Value) (q:List Int->Bool) (w:World) (hv:lQ w v l) (eg: ∀args w,(callFunc bg args).run Tryz.prog w= .ok (.enter bg args) w)
 (hcall: ∀x∈l, ∀W,Below w.heap.size w W->Calls Tryz.prog bg (fst.push (lY x)++caps) W (PV (.bool (q x)) W)):
 Calls Tryz.prog 80 #[v,.func (.func bg) fst caps] w (PV (.bool (l.any q)) w):=by
 refine(adv l v bg fst caps (fun k=>q (l.getD k [])) (fun _ W=>Below w.heap.size w W) w eg (fun k W h=>hv.below h) (fun k hk W _ h=>?_) (aH _ _)).mono ?_
 ·have hgd:l.getD k []=l[k]:=by simp[List.getD,hk]
  rw[hgd]
  refine(hcall l[k] (dh _) W h).mono ?_
  rintro e W' ⟨rfl,hb⟩
  exact⟨rfl,aY h hb⟩
 ·intro e W' hpost
  obtain⟨rfl,k,_,hI⟩:=hpost.all
  refine⟨?_,hI⟩
  have:=jR l (fun x=>!q x) []
  have e2:((List.range l.length).any fun k=>q (l.getD k []))=l.any q:=by
   rw[List.any_eq_not_all_not,this,List.any_eq_not_all_not]
  rw[e2]
  cases l.any q <;>rfl
end Go.Proofs.YthllkbbbapgelaaGreatDoor.jI
namespace Go.Proofs.YthllkbbbapgelaaGreatDoor.jI
open Go.RowKit Go.RG Go.SL Go.Shelf jy
def jS (h:cZ) (turns:List Int):List dR:=if jo h turns=0 then rQ (h.last+1).toNat (jG h turns) else[]
theorem sD {h:cZ} {turns:List Int} (he:jo h turns=0):Sound h:=by
 unfold jo at he
 split at he
 ·rename_i hf;exact absurd he hf
 ·rename_i hf;exact F7 (by simpa using hf)
theorem IE (h:cZ) (wv tv uU NH:Value) (turns:List Int) (w:World) (hw:bT w wv h.bZ) (ht:aO w tv h.turns) (hx:bJ w uU h.readings) (htr:aO w NH turns):
 Calls Tryz.prog 43 #[hv h wv tv uU,NH] w (fun e w'=> ∃v,e= .returned (.tuple #[v,iv (jo h turns)])/\bT w' v (jS h turns)/\Below w.heap.size w w'):=by
 obtain⟨ow,cw,rfl⟩:=hw.open
 obtain⟨ot,ct,rfl⟩:=ht.open
 obtain⟨ox,cx,rfl⟩:=hx.open
 have HW:=ae hw
 have HT:=ae ht
 have HX:=ae hx
 clear hw ht hx
 obtain⟨oq,cq,rfl⟩:=htr.open
 have HQ:=ae htr
 clear htr
 obtain⟨E,hE⟩: ∃E,jo h turns=E:=⟨_,rfl⟩
 rw[hE]
 have HE:=ae hE
 clear hE
 go_enter Tryz.func43,Tryz.ntmps43
 go_wp2_with fail
 refine(wu h _ _ _ _ turns _ (HW.o.alloc _) (HT.o.alloc _) (HX.o.alloc _) (HQ.o.alloc _)).mono ?_
 rintro e w1 ⟨hb,⟨hne,rfl⟩|⟨h0,wb,mb,rfl,hwb,hmb,hwk⟩⟩
 ·rw[HE.o] at hne⊢
  have HB:=ae hb
  clear hb
  go_wp2_with fail
  go_returns
  exact⟨.slice none 0 0,by simp,by unfold jS;rw[HE.o,ak hne];exact pairs_nil _,aY (aj (aH _ _) _) HB.o⟩
 ·have hE0:E=0:=by rw[<-HE.o];exact h0
  subst hE0
  have HB:=ae hb
  have hS:=sD h0
  have HBD:=ae (AA h hS _ _ _ _ turns wb mb w1 hwk ((HW.o.alloc _).below hb (ai _)) ((HT.o.alloc _).below hb (ai _)) ((HX.o.alloc _).below hb (ai _)) ((HQ.o.alloc _).below hb (ai _)))
  have WO:w.heap.size<=mb:=by simp at hmb;omega
  clear hb hwk h0 hS
  go_wp2_with fail
  refine HBD.o.mono ?_
  rintro e w2 ⟨v,rfl,hown,hcc,hE2⟩
  have HB2:=ae (ik (aY (aj (aH _ _) _) HB.o) hE2 WO)
  have hsl:=aN.dU hown
  obtain⟨vo,vc,rfl⟩:=aW hown
  have HSL:=ae hsl
  clear hown hcc hE2 hsl
  go_wp2_with fail
  go_returns
  refine⟨.slice vo _ vc,by simp;rfl,?_,HB2.o⟩
  unfold jS
  rw[HE.o,aF rfl]
  exact HSL.o
def ou (h:cZ) (turns:List Int):Int:=
 if jo h turns≠0 then 0 else if(jG h turns).all (mG h)=true then 1 else if(jG h turns).any (mG h)=true then 3 else 2
theorem D7 (h:cZ) (wv tv uU NH:Value) (turns:List Int) (w:World) (hw:bT w wv h.bZ) (ht:aO w tv h.turns) (hx:bJ w uU h.readings) (htr:aO w NH turns):
 Calls Tryz.prog 44 #[hv h wv tv uU,NH] w (fun e w'=>e= .returned (.tuple #[iv (ou h turns),iv (jo h turns)])/\Below w.heap.size w w'):=by
 obtain⟨ow,cw,rfl⟩:=hw.open
 obtain⟨ot,ct,rfl⟩:=ht.open
 obtain⟨ox,cx,rfl⟩:=hx.open
 have HW:=ae hw
 have HT:=ae ht
 have HX:=ae hx
 clear hw ht hx
 obtain⟨oq,cq,rfl⟩:=htr.open
 have HQ:=ae htr
 clear htr
 obtain⟨E,hE⟩: ∃E,jo h turns=E:=⟨_,rfl⟩
 obtain⟨V,hV⟩: ∃V,ou h turns=V:=⟨_,rfl⟩
 rw[hE,hV]
 have HE:=ae hE
 have HV:=ae hV
 clear hE hV
 go_enter Tryz.func44,Tryz.ntmps44
 go_wp2_with fail
 refine(wu h _ _ _ _ turns _ (HW.o.alloc _) (HT.o.alloc _) (HX.o.alloc _) (HQ.o.alloc _)).mono ?_
 rintro e w1 ⟨hb,⟨hne,rfl⟩|⟨h0,wb,mb,rfl,hwb,hmb,hwk⟩⟩
 ·rw[HE.o] at hne⊢
  have hv0:V=0:=by
   have hne':jo h turns≠0:=by rw[HE.o];exact hne
   rw[<-HV.o]
   unfold ou
   rw[aF hne']
  subst hv0
  have HB:=ae hb
  clear hb
  go_wp2_with fail
  go_returns
  exact⟨by simp,aY (aj (aH _ _) _) HB.o⟩
 ·have hE0:E=0:=by rw[<-HE.o];exact h0
  subst hE0
  have HB:=ae hb
  have hS:=sD h0
  have HEV:=ae (Kt h hS _ _ _ _ turns wb mb w1 hwk ((HW.o.alloc _).below hb (ai _)) ((HT.o.alloc _).below hb (ai _)) ((HX.o.alloc _).below hb (ai _)) ((HQ.o.alloc _).below hb (ai _)))
  have WO:w.heap.size+1<=mb:=by simpa using hmb
  have hl0:=hS.J4
  have hl9:=hS.Bl
  have hbx:w1.heap[w.heap.size]? =some (.cells #[.int .i64 h.last,.int .i64 h.size,.int .i64 h.aZ,.int .i64 h.die,.int .i64 h.uF,.int .i64 h.start.1,.int .i64 h.start.2,.slice ow h.bZ.length cw,.slice ot h.turns.length ct,.slice ox h.readings.length cx] 55 (0,0)):=(hb.block _ (by simp)).trans (ay _ _)
  have HVV:Hid (V=if(jG h turns).all (mG h)=true then 1 else if(jG h turns).any (mG h)=true then 3 else 2):=ae (by
   rw[<-HV.o];unfold ou;rw[ak (by rw[h0];simp)])
  have OU:=Ho (h:=h) (turns:=turns)
  generalize jG h turns=ls at*
  have HBX:=ae hbx
  have aa6:=ae OU
  clear hb hwk h0 hS hbx OU
  go_wp2_with fail
  refine HEV.o.mono ?_
  rintro e w2 ⟨v,rfl,hown,hcc,hE2⟩
  have hB2:=ik (aY (aj (aH _ _) _) HB.o) hE2 (by omega)
  have hbx2:=(hE2.block w.heap.size (aS.1 HBX.o).1 (by simp;omega)).trans HBX.o
  have hsl:lQ w2 v ls:=⟨aN.dU hown,aa6.o⟩
  obtain⟨vo,vc,rfl⟩:=aW hown
  have hc0: ∀i,w2.cell? ⟨w.heap.size,i,none⟩=(#[.int .i64 h.last,.int .i64 h.size,.int .i64 h.aZ,.int .i64 h.die,.int .i64 h.uF,.int .i64 h.start.1,.int .i64 h.start.2,.slice ow h.bZ.length cw,.slice ot h.turns.length ct,.slice ox h.readings.length cx]:Array Value)[i]? :=fun i=>by
   simp only[World.cell?,hbx2];rfl
  have hs2:=(aS.1 hbx2).1
  have HB2:=ae hB2
  have HSL:=ae hsl
  clear hown hcc hE2 hsl hB2 hbx2
  go_wp2_with fail
  have hkc: ∀x∈ls, ∀W,Calls Tryz.prog 79 ((#[hv h (.slice ow h.bZ.length cw) (.slice ot h.turns.length ct) (.slice ox h.readings.length cx)]:Array Value).push (lY x)++ #[]) W (PV (.bool (mG h x)) W):=
   fun x hx W=>OL h ow ot ox _ _ _ _ _ _ x (aa6.o x hx) W hl0 hl9
  have HKC:=ae hkc
  clear hkc
  refine(XD ls (.slice vo ls.length vc) 79 #[hv h (.slice ow h.bZ.length cw) (.slice ot h.turns.length ct) (.slice ox h.readings.length cx)] #[] (mG h) w2 HSL.o (enters_of Tryz.func79 (by kernel_rfl) rfl) (fun x hx W _=>HKC.o x hx W)).mono ?_
  rintro e w3 ⟨rfl,hb3⟩
  have HB3:=ae hb3
  have hc3: ∀i,w3.cell? ⟨w.heap.size,i,none⟩=(#[.int .i64 h.last,.int .i64 h.size,.int .i64 h.aZ,.int .i64 h.die,.int .i64 h.uF,.int .i64 h.start.1,.int .i64 h.start.2,.slice ow h.bZ.length cw,.slice ot h.turns.length ct,.slice ox h.readings.length cx]:Array Value)[i]? :=fun i=>(hb3.cell (p:=⟨w.heap.size,i,none⟩) hs2).trans (hc0 i)
  clear hb3 hc0
  obtain⟨A,hA⟩: ∃A,ls.all (mG h)=A:=⟨_,rfl⟩
  rw[hA] at HVV⊢
  clear hA
  cases A
  ·go_wp2_with fail
   refine(Tu ls (.slice vo ls.length vc) 79 #[hv h (.slice ow h.bZ.length cw) (.slice ot h.turns.length ct) (.slice ox h.readings.length cx)] #[] (mG h) w3 (HSL.o.below HB3.o) (enters_of Tryz.func79 (by kernel_rfl) rfl) (fun x hx W _=>HKC.o x hx W)).mono ?_
   rintro e w4 ⟨rfl,hb4⟩
   have HB4:=ae hb4
   clear hb4 hc3
   obtain⟨A,hA⟩: ∃A,ls.any (mG h)=A:=⟨_,rfl⟩
   rw[hA] at HVV⊢
   clear hA
   cases A
   all_goals
    go_wp2_with fail
    go_returns
    exact⟨by rw[HVV.o];simp,aY (aY HB2.o HB3.o) HB4.o⟩
  ·go_wp2_with fail
   go_returns
   exact⟨by rw[HVV.o];simp,aY HB2.o HB3.o⟩
end Go.Proofs.YthllkbbbapgelaaGreatDoor.jI
namespace Go.Proofs.YthllkbbbapgelaaGreatDoor.jI
open Go.RowKit Go.RG Go.SL Go.Shelf jy
end Go.Proofs.YthllkbbbapgelaaGreatDoor.jI
namespace Go.Proofs.YthllkbbbapgelaaGreatDoor.jI
open Go.RowKit Go.RG Go.SL Go.Shelf jy
end Go.Proofs.YthllkbbbapgelaaGreatDoor.jI
end
section
namespace Go.Proofs.YthllkbbbapgelaaGreatDoor.jI
open Go.RowKit Go.RG Go.SL Go.Shelf jy
end Go.Proofs.YthllkbbbapgelaaGreatDoor.jI
namespace Go.Proofs.YthllkbbbapgelaaGreatDoor.jI
open Go.RowKit Go.RG Go.SL Go.Shelf jy
abbrev TE:=Int×Value×List Int
abbrev tev (e:TE):Value:= .agg #[iv e.1,e.2.1]
def rM (es:List TE):List Value:=es.flatMap fun e=>[iv e.1,e.2.1]
def BV (w:World) (v:Value) (es:List TE):Prop:=aN 2 w v es.length (rM es)
theorem BV.len {w:World} {v:Value} {es:List TE} (h:BV w v es):es.length<=9223372036854775807:=aN.len h
theorem BV.open {w:World} {v:Value} {es:List TE} (h:BV w v es): ∃o c,v= .slice o es.length c:=aN.open h
theorem BV.cell {w:World} {o:Option Addr} {c:Nat} {es:List TE} (h:BV w (.slice o es.length c) es) {k:Nat} (hk:k<es.length):
 ∃b off,o=some ⟨b,off,none⟩/\b<w.heap.size/\w.cell? ⟨b,off+k*2,none⟩=some (iv es[k].1)/\w.cell? ⟨b,off+k*2+1,none⟩=some es[k].2.1:=by
 obtain⟨hl,o',c',hv,h1,h2,h3,h4⟩:=h
 cases hv
 cases o with
 |none=>have:=h3 rfl;omega
 |some a=>
  obtain⟨b,off,sp⟩:=a
  obtain⟨hs,hc⟩:=h4 _ rfl
  simp only at hs hc
  subst hs
  have h0:=hc (k*2+0) (iv es[k].1) (by unfold rM;rw[jA _ 2 (fun _=>rfl) es k 0 hk (by omega)];rfl)
  have h1:=hc (k*2+1) es[k].2.1 (by unfold rM;rw[jA _ 2 (fun _=>rfl) es k 1 hk (by omega)];rfl)
  rw[Nat.add_zero] at h0
  rw[<-Nat.add_assoc] at h1
  exact⟨b,off,rfl,dI w _ h0,h0,h1⟩
theorem ad7 (l:List TE) (v:Value) (bg:Nat) (fst caps:Array Value) (p:Nat->Bool) (I:Nat->World->Prop) (w:World) (eg: ∀args w,(callFunc bg args).run Tryz.prog w= .ok (.enter bg args) w)
 (hsl: ∀k W,I k W->BV W v l)
 (hcall: ∀k (hk:k<l.length) W,(∀j,j<k->p j=false)->I k W->Calls Tryz.prog bg (fst.push (tev l[k])++caps) W (fun e W'=>e= .returned (.bool (p k))/\I (k+1) W')) (h0:I 0 w):
 Calls Tryz.prog 291 #[v,.func (.func bg) fst caps] w (ed l.length p I (fun k=>iv k) (iv (-1))):=by
 have hlen:=(hsl 0 w h0).len
 obtain⟨o,c,rfl⟩:=(hsl 0 w h0).open
 have HC:=ae hcall
 have HS:=ae hsl
 clear hcall hsl
 go_enter Tryz.func291,Tryz.ntmps291
 go_wp2
 go_loopw [4,5,8] (fun _ _ i wr=> ∃k:Nat,k<=l.length/\i= .int .i64 k/\(∀j,j<k->p j=false)/\I k wr) (fun _ _ i _=>l.length-(intOf i).toNat)
 case atStart=>exact⟨0,bQ _,rfl,fun j hj=>by omega,h0⟩
 case round=>
  obtain⟨k,hk,rfl,hno,hI⟩:=hrel
  by_cases hlt:k<l.length
  ·obtain⟨b,off,rfl,hb,hc0,hc1⟩:=BV.cell (HS.o k wr hI) hlt
   have hC:=HC.o k hlt wr hno hI
   have HN:=ae hno
   clear hno
   go_wp2_with fail
   refine hC.mono ?_
   rintro e W1 ⟨rfl,hI1⟩
   have HI:=ae hI1
   clear hI1 hI hC
   cases hp:p k
   ·go_wp2_with fail
    go_roundw
    case rel=>exact⟨k+1,by omega,by go_num,fun j hj=>(by by_cases e:j=k;(subst e;exact hp);exact HN.o j (by omega)),HI.o⟩
    case measure=>simp[intOf];omega
   ·go_wp2_with fail
    go_returns
    exact⟨k,by omega,HN.o,.inl ⟨hlt,hp,by simp,HI.o⟩⟩
  ·have hkl:k=l.length:=by omega
   have HN:=ae hno
   clear hno
   go_wp2_with fail
   go_returns
   exact⟨k,by omega,HN.o,.inr ⟨hkl,by simp,by subst hkl;exact hI⟩⟩
theorem aaF (l:List TE) (v:Value) (bg:Nat) (fst caps:Array Value) (p:Nat->Bool) (I:Nat->World->Prop) (w:World) (eg: ∀args w,(callFunc bg args).run Tryz.prog w= .ok (.enter bg args) w)
 (hsl: ∀k W,I k W->BV W v l)
 (hcall: ∀k (hk:k<l.length) W,(∀j,j<k->p j=false)->I k W->Calls Tryz.prog bg (fst.push (tev l[k])++caps) W (fun e W'=>e= .returned (.bool (p k))/\I (k+1) W')) (h0:I 0 w):
 Calls Tryz.prog 236 #[v,.func (.func bg) fst caps] w (ed l.length p I (fun _=> .bool true) (.bool false)):=by
 have HI:=ae (ad7 l v bg fst caps p I w eg hsl hcall h0)
 have hlen:=(hsl 0 w h0).len
 clear hsl hcall h0 eg
 go_enter Tryz.func236,Tryz.ntmps236
 go_wp2_with fail
 refine HI.o.mono ?_
 clear HI
 rintro e W' ⟨k,hk,hno,⟨hlt,hp,rfl,hI⟩|⟨hkl,rfl,hI⟩⟩
 ·have HN:=ae (ag hno (ag hp hI))
  clear hno hp hI
  go_wp2_with fail
  go_returns
  exact⟨k,hk,HN.o.1,.inl ⟨hlt,HN.o.2.1,by simp,HN.o.2.2⟩⟩
 ·have HN:=ae (ag hno (ag hkl hI))
  clear hno hkl hI
  go_wp2_with fail
  go_returns
  exact⟨k,hk,HN.o.1,.inr ⟨HN.o.2.1,by simp,HN.o.2.1▸HN.o.2.2⟩⟩
theorem aaU (x:TE) (bx bg:Nat) (fst caps:Array Value) (b:Bool) (W:World) (R:World->Prop) (eg: ∀args w,(callFunc bg args).run Tryz.prog w= .ok (.enter bg args) w)
 (hbx:W.cell? ⟨bx,0,none⟩=some (.func (.func bg) fst caps))
 (hcall:Calls Tryz.prog bg (fst.push (tev x)++caps) (W.alloc (.cells #[iv x.1,x.2.1] 208)) (fun e W'=>e= .returned (.bool b)/\R W')):
 Calls Tryz.prog 237 #[tev x,.pointer (some ⟨bx,0,none⟩)] W (fun e W'=>e= .returned (.bool !b)/\R W'):=by
 have hlt:=dI W _ hbx
 have HC:=ae hcall
 clear hcall
 go_enter Tryz.func237,Tryz.ntmps237
 go_wp2_with fail
 refine HC.o.mono ?_
 rintro e W' ⟨rfl,hR⟩
 have HR:=ae hR
 clear hR
 go_wp2_with fail
 go_returns
 exact⟨by simp,HR.o⟩
theorem allT (l:List TE) (v:Value) (bg:Nat) (fst caps:Array Value) (p:Nat->Bool) (I:Nat->World->Prop) (w:World) (eg: ∀args w,(callFunc bg args).run Tryz.prog w= .ok (.enter bg args) w)
 (hsl: ∀k W,I k W->BV W v l) (hal: ∀k W o,I k W->I k (W.alloc o))
 (hcall: ∀k (hk:k<l.length) W,(∀j,j<k->p j=true)->I k W->Calls Tryz.prog bg (fst.push (tev l[k])++caps) W (fun e W'=>e= .returned (.bool (p k))/\I (k+1) W'/\jq w.heap.size W W')) (h0:I 0 w):
 Calls Tryz.prog 150 #[v,.func (.func bg) fst caps] w (ed l.length (fun k=>!p k) I (fun _=> .bool false) (.bool true)):=by
 have HI:=ae (aaF l v 237 #[] #[.pointer (some ⟨w.heap.size,0,none⟩)] (fun k=>!p k)
  (fun k W=>I k W/\W.heap[w.heap.size]? =some (.cells #[.func (.func bg) fst caps] 288 (0,0))) (w.alloc (.cells #[.func (.func bg) fst caps] 288))
  (enters_of Tryz.func237 (by kernel_rfl) rfl) (fun k W h=>hsl k W h.1)
  (fun k hk W hno h=>by
    have hlt:w.heap.size<W.heap.size:=(aS.1 h.2).1
    refine(aaU l[k] w.heap.size bg fst caps (p k) W (fun W'=>I (k+1) W'/\W'.heap[w.heap.size]? =some (.cells #[.func (.func bg) fst caps] 288 (0,0))) eg (aB h.2) ?_)
    refine(hcall k hk _ (fun j hj=>by simpa using hno j hj) (by first|exact hal _ _ _ h.1|exact h.1)).mono ?_
    rintro e W' ⟨rfl,h1,h2⟩
    refine⟨rfl,h1,(h2.block _ (ai _) (by first|exact hlt|(simp;omega))).trans (by first|exact h.2|exact(aV _ _ _ hlt).trans h.2)⟩)
  ⟨hal _ _ _ h0,heap_alloc_new w _⟩)
 have hlen:=(hsl 0 w h0).len
 clear hsl hcall h0 eg hal
 go_enter Tryz.func150,Tryz.ntmps150
 go_wp2_with fail
 refine HI.o.mono ?_
 clear HI
 rintro e W' ⟨k,hk,hno,⟨hlt,hp,rfl,hI,_⟩|⟨hkl,rfl,hI,_⟩⟩
 ·have HN:=ae (ag hno (ag hp hI))
  clear hno hp hI
  go_wp2_with fail
  go_returns
  exact⟨k,hk,HN.o.1,.inl ⟨hlt,HN.o.2.1,by simp,HN.o.2.2⟩⟩
 ·have HN:=ae (ag hno (ag hkl hI))
  clear hno hkl hI
  go_wp2_with fail
  go_returns
  exact⟨k,hk,HN.o.1,.inr ⟨HN.o.2.1,by simp,HN.o.2.1▸HN.o.2.2⟩⟩
theorem Vz (h:cZ) (hS:Sound h) (oa ob oc:Option Addr) (na ca nb cb nc cc:Nat) (wb mb:Nat) (e:TE) (turns:List Int) (tv:Value) (bw bt:Nat) (W:World) (hb1:W.heap[bw]? =some (.cells #[.pointer (some ⟨wb,0,none⟩)] 170 (0,0))) (hb2:W.heap[bt]? =some (.cells #[tv] 52 (0,0)))
 (hwk:iY W wb mb h (.slice oa na ca) (.slice ob nb cb) (.slice oc nc cc)) (he:aO W e.2.1 e.2.2) (J8:aO W tv turns) (hlen:e.2.2.length<=10) (h0:0<=e.1) (h1:e.1<=500) (Sv: ∀x∈e.2.2,0<=x/\x<=20):
 Calls Tryz.prog 151 #[tev e,.pointer (some ⟨bw,0,none⟩),.pointer (some ⟨bt,0,none⟩)] W (fun x W'=>x= .returned (.bool (mG h (lL h (e.1,e.2.2) turns)))/\Cache W' mb h.aZ/\Ext [mb] W W'):=by
 obtain⟨ot,ct,rfl⟩:=J8.open
 obtain⟨start,ws,bZ⟩:=e
 replace he:aO W ws bZ:=he
 simp only at hlen h0 h1 Sv
 obtain⟨ows,cws,rfl⟩:=aN.open he
 have hl0:=hS.J4
 have hl9:=hS.Bl
 have c1:=aB hb1
 have c2:=aB hb2
 have s1:=dI W _ c1
 have s2:=dI W _ c2
 have c3:=hwk.cell
 have s3:=hwk.lt
 have hn1:=CZ hwk.cache hb1
 have hn2:=CZ hwk.cache hb2
 have hn3:=CZ hwk.cache hwk.cells
 have hmb:=hwk.cache.lt
 obtain⟨ys,hy⟩: ∃ys,lL h (start,bZ) turns=ys:=⟨_,rfl⟩
 have GR:ys.length=10:=by rw[<-hy];exact lq _ _ _ _ _ _
 have hpl:=fun(W':World) (hb:Below W.heap.size W W')=>x9 h _ _ _ wb mb start bZ turns _ _ W' (hwk.below hb (ai _)) (he.below hb (ai _)) (J8.below hb (ai _)) hlen hS.NM hS.NL hS.Pv hS.Pq h0 h1 Sv
 obtain⟨q,hq⟩: ∃q,mG h ys=q:=⟨_,rfl⟩
 have hk:=fun(W':World)=>OL h oa ob oc na ca nb cb nc cc ys GR W' hl0 hl9
 show Calls Tryz.prog 151 #[.agg #[iv start,.slice ows bZ.length cws],.pointer (some ⟨bw,0,none⟩),.pointer (some ⟨bt,0,none⟩)] W (fun x W'=>x= .returned (.bool (mG h (lL h (start,bZ) turns)))/\Cache W' mb h.aZ/\Ext [mb] W W')
 rw[hy] at hpl⊢
 rw[hq] at hk⊢
 have Yk:=ae hpl
 have HK:=ae hk
 clear hpl hk hb1 hb2 hwk he J8 Sv hy hq hS
 go_enter Tryz.func151,Tryz.ntmps151
 go_wp2_with fail
 obtain⟨W1,hW1⟩: ∃W1,W.alloc (.cells #[iv start,.slice ows bZ.length cws] 208)=W1:=⟨_,rfl⟩
 have hB1:Below W.heap.size W W1:=by rw[<-hW1];exact aj (aH _ _) _
 obtain⟨hc,hf⟩:=bK hB1
 have hz1:W1.heap.size=W.heap.size+1:=by rw[<-hW1];simp
 have hbt:W1.heap[W.heap.size]? =some (.cells #[iv start,.slice ows bZ.length cws] 208 (0,0)):=by rw[<-hW1];exact ay _ _
 have hgt: ∀i,W1.cell? ⟨W.heap.size,i,none⟩=(#[iv start,.slice ows bZ.length cws]:Array Value)[i]? :=fun i=>by
  simp only[World.cell?,hbt];rfl
 have z0:W.heap.size<W1.heap.size:=by omega
 have z1:bw<W1.heap.size:=by omega
 have z2:bt<W1.heap.size:=by omega
 have z3:wb<W1.heap.size:=by omega
 have hn4: ¬W.heap.size=mb:=by omega
 rw[hW1]
 have HB1:=ae hB1
 clear hW1 hB1 hbt
 refine zg 8 [mb] (some 7) [(7,⟨fun _ v=>v= .agg (ah ys).toArray,fun _ _ W=>Cache W mb h.aZ⟩)] ?_
 simp only[zt]
 repeat (refine zd ?_;simp only[zp])
 refine bG _ (by rfl) (by rfl) ⟨_,rfl⟩ (fun W5 hE hF=>?_) (fun v Wa Wb hc hE=>?_) (fun v hv=>?_)
 ·have hE':Ext [] W1 W5:=hE
  refine dE 133 #[.pointer (some ⟨wb,0,none⟩),.agg #[iv start,.slice ows bZ.length cws],.slice ot turns.length ct] (by go_simp;try rfl) ?_
  refine(Yk.o W5 (aY HB1.o hE'.below)).mono ?_
  rintro e W6 ⟨rfl,hcc,hE2⟩
  exact⟨_,rfl,rfl,hcc,hE2⟩
 ·have hE':Ext [] Wa Wb:=hE
  exact Cache.kept hc (hE'.block mb (Cache.lt hc) (by simp))
 obtain rfl:v= .agg (ah ys).toArray:=hv
 simp only[zp]
 intro W5 hE hF
 have hE':Ext [mb] W1 W5:=hE
 have hcc:Cache W5 mb h.aZ:=hF _ (bF _)
 have HR:=ae (ag hcc ((Ext.aA HB1.o).trans hE'))
 clear hE hF hE' hcc hgt
 go_wp2_with fail
 refine(HK.o W5).mono ?_
 rintro e W6 ⟨rfl,hb6⟩
 have pY:=ae hb6
 clear hb6 hc hf
 go_wp2_with fail
 go_returns
 exact⟨by simp,HR.o.1.kept (pY.o.block mb HR.o.1.lt),HR.o.2.bel pY.o⟩
theorem YX (h:cZ) (hS:Sound h) (a b c:Value) (wb mb:Nat) (es:List TE) (ev:Value) (turns:List Int) (tv:Value) (w:World) (hwk:iY w wb mb h a b c) (h1:bT w a h.bZ) (h2:aO w b h.turns) (h3:bJ w c h.readings)
 (hev:BV w ev es) (hes: ∀e∈es,aO w e.2.1 e.2.2/\e.2.2.length<=10/\(0<=e.1/\e.1<=500)/\ ∀x∈e.2.2,0<=x/\x<=20) (J8:aO w tv turns):
 Calls Tryz.prog 95 #[.pointer (some ⟨wb,0,none⟩),ev,tv] w (fun x w'=>x= .returned (.bool (es.all fun e=>mG h (lL h (e.1,e.2.2) turns)))/\Cache w' mb h.aZ/\Ext [mb] w w'):=by
 obtain⟨oa,ca,rfl⟩:=h1.open
 obtain⟨ob,cb,rfl⟩:=h2.open
 obtain⟨oc,cc,rfl⟩:=h3.open
 obtain⟨ot,ct,rfl⟩:=J8.open
 obtain⟨oe,ce,rfl⟩:=BV.open hev
 have hmb:=hwk.cache.lt
 obtain⟨q,hq⟩: ∃q,(es.all fun e=>mG h (lL h (e.1,e.2.2) turns))=q:=⟨_,rfl⟩
 have hall:=fun(w2:World) (hB:Below w.heap.size w w2) (hb0:w2.heap[w.heap.size]? =some (.cells #[.pointer (some ⟨wb,0,none⟩)] 170 (0,0))) (hb1:w2.heap[w.heap.size+1]? =some (.cells #[.slice ot turns.length ct] 52 (0,0)))=>
  allT es (.slice oe es.length ce) 151 #[] #[.pointer (some ⟨w.heap.size,0,none⟩),.pointer (some ⟨w.heap.size+1,0,none⟩)] (fun k=>mG h (lL h ((es.getD k (0,undef,[])).1,(es.getD k (0,undef,[])).2.2) turns))
   (fun _ W=>(Ext [mb] w W/\Cache W mb h.aZ)/\W.heap[w.heap.size]? =some (.cells #[.pointer (some ⟨wb,0,none⟩)] 170 (0,0))/\W.heap[w.heap.size+1]? =some (.cells #[.slice ot turns.length ct] 52 (0,0))) w2 (enters_of Tryz.func151 (by kernel_rfl) rfl)
   (fun k W hI=>aN.gu hev hI.1.1 (fun x hx o=>by
     obtain rfl:x=mb:=by simpa using hx
     exact hwk.cache.mX o))
   (fun k W o hI=>⟨⟨hI.1.1.alloc o,hI.1.2.kept (aV _ _ _ hI.1.2.lt)⟩,(aV _ _ _ (aS.1 hI.2.1).1).trans hI.2.1,(aV _ _ _ (aS.1 hI.2.2).1).trans hI.2.2⟩)
   (fun k hk W _ hI=>by
     have hm: ∀x∈[mb], ∀o,w.cell? ⟨x,o,none⟩=none:=fun x hx o=>by
      obtain rfl:x=mb:=by simpa using hx
      exact hwk.cache.mX o
     obtain⟨k1,k2,k3,k4⟩:=hes es[k] (dh hk)
     have hgd:es.getD k (0,undef,[])=es[k]:=by simp[List.getD,hk]
     rw[hgd]
     refine(Vz h hS oa ob oc _ _ _ _ _ _ wb mb es[k] turns (.slice ot turns.length ct) w.heap.size (w.heap.size+1) W hI.2.1 hI.2.2 (hwk.ext hI.1.1 hI.1.2) (k1.gu hI.1.1 hm) (J8.gu hI.1.1 hm) k2 k3.1 k3.2 k4).mono ?_
     rintro e W' ⟨rfl,hc,hE⟩
     refine⟨rfl,⟨⟨hI.1.1.trans hE,hc⟩,(hE.block _ (aS.1 hI.2.1).1 (by simp;omega)).trans hI.2.1,(hE.block _ (aS.1 hI.2.2).1 (by simp;omega)).trans hI.2.2⟩,jq.wH hE (fun x hx=>?_)⟩
     have:=hB.size
     simp at hx
     omega)
   ⟨⟨Ext.aA hB,hwk.cache.kept (hB.block mb hmb)⟩,hb0,hb1⟩
 have afy:=ae hall
 have HQ:Hid (((List.range es.length).all fun k=>mG h (lL h ((es.getD k (0,undef,[])).1,(es.getD k (0,undef,[])).2.2) turns))=q):=ae (by rw[<-hq];exact jR es (fun e=>mG h (lL h (e.1,e.2.2) turns)) (0,undef,[]))
 rw[hq]
 have hlen:=BV.len hev
 clear hall hq hes hev hwk h1 h2 h3 J8
 go_enter Tryz.func95,Tryz.ntmps95
 go_wp2_with fail
 refine(afy.o _ zl ((aV _ _ _ (by simp)).trans (ay _ _)) (dV _ _ _)).mono ?_
 intro e W' hpost
 obtain⟨rfl,k,_,hI⟩:=hpost.all
 rw[jH,HQ.o]
 have HI:=ae hI
 clear hI hpost
 go_wp2_with fail
 go_returns
 exact⟨by simp,HI.o.1.2,HI.o.1.1⟩
end Go.Proofs.YthllkbbbapgelaaGreatDoor.jI
namespace Go.Proofs.YthllkbbbapgelaaGreatDoor.jI
open Go.RowKit Go.RG Go.SL Go.Shelf jy
attribute [local go_sem] Oper.semAt_some
theorem abC:iQ Tryz.prog 203 208 (.agg #[iv 0,.slice none 0 0]) 2 32:=⟨Tryz.underlying203,by kernel_rfl,rfl,by omega⟩
def NT (h:cZ) (turns:List Int):Bool:=(dQ h []).all fun t=>mG h (lL h t turns)
def Xb (h:cZ):Option (List Int):=nG (h.last+1).toNat (NT h)
def Au (h:cZ):Int:=if jo h []≠0 then jo h [] else if(Xb h).isSome then 0 else 10
def SQ (h:cZ):List Int:=if jo h []≠0 then[] else(Xb h).getD []
structure Few (w:World) (wb:Nat) (es:List TE) (Ms:List Nat) (W:World):Prop where
 b0:W.heap[w.heap.size]? =some (.cells #[.pointer (some ⟨wb,0,none⟩)] 170 (0,0))
 out: ∃v,W.heap[w.heap.size+1]? =some (.cells #[v] 203 (0,0))/\W.ownsRow (w.heap.size+6) 208 2 v es.length (rM es)/\(∀g,v.ownBlock=some g->g∉Ms/\g<W.heap.size)/\
  ∀e∈es,W.ownsRow (w.heap.size+6) 3 1 e.2.1 e.2.2.length (ah e.2.2)/\ ∀g,e.2.1.ownBlock=some g->(g∉Ms/\g<W.heap.size)/\v.ownBlock≠some g
 b3:W.heap[w.heap.size+1+1]? =some (.cells #[.pointer (some ⟨wb,0,none⟩)] 170 (0,0))
 b4:W.heap[w.heap.size+1+1+1]? =some (.cells #[.slice none 0 0] 52 (0,0))
theorem Few.kept {w:World} {wb:Nat} {es:List TE} {Ms Ms':List Nat} {W W':World} (h:Few w wb es Ms W) (hs:W.heap.size<=W'.heap.size) (hk: ∀b,w.heap.size<=b->b<w.heap.size+4->W'.heap[b]? =W.heap[b]?)
 (ho: ∀g,w.heap.size+6<=g->g<W.heap.size->g∉Ms->W'.heap[g]? =W.heap[g]?) (hM: ∀m∈Ms',m∈Ms∨(W.heap.size<=m/\m<W'.heap.size)):Few w wb es Ms' W':=by
 obtain⟨v,h1,h2,h3,h4⟩:=h.out
 have hnM: ∀g,(g∉Ms/\g<W.heap.size)->g∉Ms'/\g<W'.heap.size:=fun g ⟨hg1,hg2⟩=>⟨fun hm=>by
  rcases hM g hm with h5|h5
  ·exact hg1 h5
  ·omega,by omega⟩
 refine⟨(hk _ (by omega) (by omega)).trans h.b0,⟨v,(hk _ (by omega) (by omega)).trans h1,dn h2 fun g hg=>ho g (bD h2 g hg).1 (bD h2 g hg).2 (h3 g hg).1,fun g hg=>hnM g (h3 g hg),fun e he=>?_⟩,
  (hk _ (by omega) (by omega)).trans h.b3,(hk _ (by omega) (by omega)).trans h.b4⟩
 obtain⟨k1,k2⟩:=h4 e he
 exact⟨dn k1 fun g hg=>ho g (bD k1 g hg).1 (bD k1 g hg).2 (k2 g hg).1.1,fun g hg=>⟨hnM g (k2 g hg).1,(k2 g hg).2⟩⟩
theorem aar {w W7 W8 W9:World} {wb mb:Nat} {aZ:Int} {v v':Value} {es:List TE} {e:TE} {Os Ms:List Nat} (hF:Fr w mb aZ Os Ms W7) (hP:Few w wb es Ms W7)
 (hv1:W7.heap[w.heap.size+1]? =some (.cells #[v] 203 (0,0))) (hv3: ∀g,v.ownBlock=some g->(w.heap.size+6<=g/\g<W7.heap.size)/\g∉Ms)
 (hE:Ext [] W7 W8) (hG:W8.grownBy W9 v.ownBlock) (hN:v'.ownBlock=v.ownBlock∨v'.ownBlock=some W8.heap.size) (hO:W9.ownsRow (w.heap.size+6) 208 2 v' (es.length+1) (rM es++[iv e.1,e.2.1]))
 (hC:W8.ownsRow W7.heap.size 3 1 e.2.1 e.2.2.length (ah e.2.2)) (hmb:mb<w.heap.size) (hs:w.heap.size+6<=W7.heap.size):
 (Fr w mb aZ Os Ms (W9.setCell ⟨w.heap.size+1,0,none⟩ v')/\Few w wb (es++[e]) Ms (W9.setCell ⟨w.heap.size+1,0,none⟩ v'))/\
   (∀b,b<W7.heap.size->v.ownBlock≠some b->b≠w.heap.size+1->(W9.setCell ⟨w.heap.size+1,0,none⟩ v').heap[b]? =W7.heap[b]?)/\W7.heap.size<=(W9.setCell ⟨w.heap.size+1,0,none⟩ v').heap.size:=by
 have h1:=hE.size
 have h2:=hG.size
 have hk: ∀b,b<W7.heap.size->v.ownBlock≠some b->W9.heap[b]? =W7.heap[b]? :=fun b hb hn=>
  (hG.block b (by omega) (fun e=>hn e.symm)).trans (hE.block b hb (by simp))
 have hks: ∀b,b<W7.heap.size->v.ownBlock≠some b->b≠w.heap.size+1->(W9.setCell ⟨w.heap.size+1,0,none⟩ v').heap[b]? =W7.heap[b]? :=fun b hb hn hne=>
  (dH _ _ _ _ hne).trans (hk b hb hn)
 have hlow: ∀b,b<w.heap.size+6->v.ownBlock≠some b:=fun b hb e=>by have:=(hv3 b e).1.1;omega
 have hsz:W7.heap.size<=(W9.setCell ⟨w.heap.size+1,0,none⟩ v').heap.size:=by simp[World.setCell];omega
 have hb:=bD hO
 have hcb:=bD hC
 have agJ: ∀g,v'.ownBlock=some g->g∉Ms/\g<W9.heap.size:=fun g hg=>⟨fun hm=>by
  rcases hN with hN|hN
  ·exact(hv3 g (by rw[<-hN,hg])).2 hm
  ·rw[hg] at hN
   injection hN with hN
   have:=hF.bnd g hm
   omega,(hb g hg).2⟩
 refine⟨⟨hF.own ⟨hG.os.trans (hE.os.trans hF.ext.os),hG.tape.trans (hE.tape.trans hF.ext.tape),hG.output.trans (hE.output.trans hF.ext.output),by have:=hF.ext.size;omega,fun k hk' hm=>(hks k (by have:=hF.ext.size;omega) (hlow k (by omega)) (by omega)).trans (hF.ext.block k hk' hm)⟩ hsz (hF.cache.kept (hks mb (by omega) (hlow mb (by omega)) (by omega))),?_⟩,hks,hsz⟩
 obtain⟨vv,q1,q2,q3,q4⟩:=hP.out
 have hvv:vv=v:=by
  rw[hv1] at q1
  simpa using q1.symm
 subst hvv
 refine⟨(hks _ (by omega) (hlow _ (by omega)) (by omega)).trans hP.b0,⟨v',?_,?_,fun g hg=>⟨(agJ g hg).1,by have:=(agJ g hg).2;simpa [World.setCell] using this⟩,fun x hx=>?_⟩,(hks _ (by omega) (hlow _ (by omega)) (by omega)).trans hP.b3,(hks _ (by omega) (hlow _ (by omega)) (by omega)).trans hP.b4⟩
 ·exact aI ((hk _ (by omega) (hlow _ (by omega))).trans hv1) _
 ·rw[dm]
  have:rM (es++[e])=rM es++[iv e.1,e.2.1]:=by simp[rM]
  rw[this]
  exact dn hO fun g hg=>dH _ _ _ _ (by have:=(hb g hg).1;show g≠w.heap.size+1;omega)
 ·rcases iP.1 hx with hx|hx
  ·obtain⟨k1,k2⟩:=q4 x hx
   have kb:=bD k1
   refine⟨dn k1 fun g hg=>hks g (kb g hg).2 (k2 g hg).2 (by have:=(kb g hg).1;omega),fun g hg=>⟨⟨(k2 g hg).1.1,by have:=(kb g hg).2;omega⟩,fun e1=>?_⟩⟩
   rcases hN with hN|hN
   ·exact(k2 g hg).2 (by rw[<-hN,e1])
   ·rw[e1] at hN
    injection hN with hN
    have:=(kb g hg).2
    omega
  ·obtain rfl:x=e:=by simpa using hx
   refine⟨df (dn hC fun g hg=>(dH _ _ _ _ (by have:=(hcb g hg).1;show g≠w.heap.size+1;omega)).trans (hG.block g (hcb g hg).2 (fun e1=>by have:=(hv3 g e1.symm).1.2;have:=(hcb g hg).1;omega))) (by omega),fun g hg=>⟨⟨fun hm=>?_,?_⟩,fun e1=>?_⟩⟩
   ·have:=hF.bnd g hm;have:=(hcb g hg).1;omega
   ·have:=(hcb g hg).2;simp[World.setCell];omega
   ·rcases hN with hN|hN
    ·have:=(hv3 g (by rw[<-hN,e1])).1.2;have:=(hcb g hg).1;omega
    ·rw[e1] at hN
     injection hN with hN
     have:=(hcb g hg).2;omega
end Go.Proofs.YthllkbbbapgelaaGreatDoor.jI
namespace Go.Proofs.YthllkbbbapgelaaGreatDoor.jI
open Go.RowKit Go.RG Go.SL Go.Shelf jy
attribute [local go_sem] Oper.semAt_some
theorem O4 (h:cZ) (hS:Sound h) (a b c:Value) (wb mb:Nat) (es:List TE) (o:Option Addr) (cp:Nat) (turns:List Int) (tv:Value) (bw bt:Nat) (W:World) (hb1:W.heap[bw]? =some (.cells #[.pointer (some ⟨wb,0,none⟩)] 170 (0,0))) (hb2:W.heap[bt]? =some (.cells #[.slice o es.length cp] 203 (0,0)))
 (hwk:iY W wb mb h a b c) (h1:bT W a h.bZ) (h2:aO W b h.turns) (h3:bJ W c h.readings) (hev:BV W (.slice o es.length cp) es)
 (hes: ∀e∈es,aO W e.2.1 e.2.2/\e.2.2.length<=10/\(0<=e.1/\e.1<=500)/\ ∀x∈e.2.2,0<=x/\x<=20) (J8:aO W tv turns):
 Calls Tryz.prog 94 #[tv,.pointer (some ⟨bw,0,none⟩),.pointer (some ⟨bt,0,none⟩)] W (fun x w'=>x= .returned (.bool (es.all fun e=>mG h (lL h (e.1,e.2.2) turns)))/\Cache w' mb h.aZ/\Ext [mb] W w'):=by
 have HSF:=ae (YX h hS a b c wb mb es (.slice o es.length cp) turns tv W hwk h1 h2 h3 hev hes J8)
 have c1:=aB hb1
 have c2:=aB hb2
 have s1:=dI W _ c1
 have s2:=dI W _ c2
 obtain⟨ot,ct,rfl⟩:=J8.open
 generalize (es.all fun e=>mG h (lL h (e.1,e.2.2) turns))=q at*
 clear hb1 hb2 hwk h1 h2 h3 hev hes J8
 go_enter Tryz.func94,Tryz.ntmps94
 go_wp2_with fail
 refine HSF.o.mono ?_
 rintro e W' ⟨rfl,hc,hE⟩
 have HR:=ae (ag hc hE)
 clear hc hE
 go_wp2_with fail
 go_returns
 exact⟨by simp,HR.o⟩
theorem Uo (h:cZ) (wv tv uU:Value) (w:World) (hw:bT w wv h.bZ) (ht:aO w tv h.turns) (hx:bJ w uU h.readings):
 Calls Tryz.prog 54 #[hv h wv tv uU] w (fun e w'=> ∃v,e= .returned (.tuple #[v,iv (Au h)])/\aO w' v (SQ h)/\Below w.heap.size w w'):=by
 obtain⟨ow,cw,rfl⟩:=hw.open
 obtain⟨ot,ct,rfl⟩:=ht.open
 obtain⟨ox,cx,rfl⟩:=hx.open
 have HW:=ae hw
 have HT:=ae ht
 have HX:=ae hx
 clear hw ht hx
 obtain⟨E,hE⟩: ∃E,Au h=E:=⟨_,rfl⟩
 obtain⟨L,hL⟩: ∃L,SQ h=L:=⟨_,rfl⟩
 rw[hE,hL]
 have HE:=ae hE
 have HL:=ae hL
 clear hE hL
 refine(callsIn_wide (n:=0)).1 ?_
 refine callsIn_of_wp_marks Tryz.func54 rfl trivial ?_
 simp only[Tryz.ntmps54,List.size_toArray,List.length_cons,List.length_nil,Nat.reduceAdd,Nat.reduceSub,Array.replicate_succ,Array.replicate_zero,kQ,kR,List.nil_append,List.cons_append]
 gi_wp2_with fail
 refine(callsIn_wide.2 (wu h _ _ _ _ [] _ (HW.out.alloc _) (HT.out.alloc _) (HX.out.alloc _) (qK _))).mono ?_
 rintro e w1 ⟨hb,⟨hne,rfl⟩|⟨h0,wb,mb,rfl,hwb,hmb,hwk⟩⟩
 ·have he:E=jo h []:=by rw[<-HE.out];unfold Au;rw[aF hne]
  have hl:L=[]:=by rw[<-HL.out];unfold SQ;rw[aF hne]
  subst hl
  obtain⟨E',hE'⟩: ∃E',jo h []=E':=⟨_,rfl⟩
  rw[hE'] at hne he⊢
  subst he
  have HB:=ae hb
  clear hb
  gi_wp2_with fail
  refine⟨.tuple #[.slice none 0 0,iv E],by simp[results,Tryz.results54,go_sem],?_⟩
  exact⟨.slice none 0 0,by simp,qK _,aj (aY (aj (aH _ _) _) HB.out) _⟩
 ·have hS:=sD h0
  have WO:w.heap.size+1<=mb:=by simpa using hmb
  have hb0:w1.heap[w.heap.size]? =some (.cells #[.int .i64 h.last,.int .i64 h.size,.int .i64 h.aZ,.int .i64 h.die,.int .i64 h.uF,.int .i64 h.start.1,.int .i64 h.start.2,.slice ow h.bZ.length cw,.slice ot h.turns.length ct,.slice ox h.readings.length cx] 55 (0,0)):=(hb.block _ (by simp)).trans (ay _ _)
  have hbw:Below w.heap.size w w1:=aY (aj (aH _ _) _) hb
  have H1:=ae (HW.out.below hbw (ai _))
  have H2:=ae (HT.out.below hbw (ai _))
  have H3:=ae (HX.out.below hbw (ai _))
  have XZ:=ae hbw
  have HB0:=ae hb0
  have FO:=ae hwk
  have oW:=ae hS
  have hw0:=(aS.1 hb0).1
  have GY:=hwk.cache.lt
  have Vd:Hid (E=(if(Xb h).isSome then 0 else 10)/\L=(Xb h).getD []):=ae ⟨by rw[<-HE.out];unfold Au;rw[ak (by rw[h0];simp)],by rw[<-HL.out];unfold SQ;rw[ak (by rw[h0];simp)]⟩
  clear hb hwk h0 hS hb0 hbw hwb hmb
  gi_wp2_with fail
  refine(callsIn_wide.2 (zY wb _ _ _ _)).mono ?_
  rintro e w1' ⟨rfl,rfl⟩
  gi_wp2_with fail
  obtain⟨w2,hw2⟩: ∃w2,((((w1.alloc (.cells #[.pointer (some ⟨wb,0,none⟩)] 170)).alloc (.cells #[.slice none 0 0] 203)).alloc (.cells #[.pointer (some ⟨wb,0,none⟩)] 170)).alloc (.cells #[.slice none 0 0] 52))=w2:=⟨_,rfl⟩
  have hB2:Below w1.heap.size w1 w2:=by rw[<-hw2];exact zl
  have hsz2:w2.heap.size=w1.heap.size+4:=by rw[<-hw2];simp
  have hP2:Few w1 wb [] [mb] w2:=by
   rw[<-hw2]
   have n3:=ay (((w1.alloc (.cells #[.pointer (some ⟨wb,0,none⟩)] 170)).alloc (.cells #[.slice none 0 0] 203)).alloc (.cells #[.pointer (some ⟨wb,0,none⟩)] 170)) (.cells #[.slice none 0 0] 52)
   simp only[bu] at n3
   refine⟨?_,⟨.slice none 0 0,?_,⟨rfl,.inl ⟨rfl,rfl⟩⟩,(fun g hg=>by cases hg),(fun e he=>by cases he)⟩,?_,n3⟩
   ·exact(aV _ _ _ (by first|omega|(simp;done)|(simp;omega))).trans ((aV _ _ _ (by first|omega|(simp;done)|(simp;omega))).trans ((aV _ _ _ (by first|omega|(simp;done)|(simp;omega))).trans (ay _ _)))
   ·exact(aV _ _ _ (by first|omega|(simp;done)|(simp;omega))).trans ((aV _ _ _ (by first|omega|(simp;done)|(simp;omega))).trans (dV _ _ _))
   ·exact(aV _ _ _ (by first|omega|(simp;done)|(simp;omega))).trans (iq _ _ _ _)
  rw[hw2]
  clear hw2
  refine mP (zX h oW.out (.slice ow h.bZ.length cw) (.slice ot h.turns.length ct) (.slice ox h.readings.length cx) (.slice none 0 0) [] wb mb (w1.heap.size+1+1) (w1.heap.size+1+1+1)) rfl (enters_of Tryz.func144 (by kernel_rfl) rfl) rfl (by simp;omega)
   (fun Ms k W=>Fr w1 mb h.aZ [w1.heap.size,w1.heap.size+1,w1.heap.size+2,w1.heap.size+3,w1.heap.size+4,w1.heap.size+5] Ms W/\ ∃es:List TE,es.map (fun e=>(e.1,e.2.2))=(dQ h []).take k/\Few w1 wb es Ms W)
   (fun _ _ _=>False)
   ?hInv ?pK ?hI ?hIx ?Ja ?tX ?h0
   (fun a Ms k W1 a₁ W=> ∃(t:Int×List Int) (ob bt:Nat),(dQ h [])[k]? =some t/\a₁={tmps:=(a.tmps.setIfInBounds 20 (.agg #[iv t.1,.slice (some ⟨ob,1,none⟩) t.2.length t.2.length])).setIfInBounds 7 (.pointer (some ⟨bt,0,none⟩)),defers:=[]}/\
     (Fr w1 mb h.aZ [w1.heap.size,w1.heap.size+1,w1.heap.size+2,w1.heap.size+3,w1.heap.size+4,w1.heap.size+5] Ms W/\ ∃es:List TE,es.map (fun e=>(e.1,e.2.2))=(dQ h []).take k/\Few w1 wb es Ms W)/\
     (W.heap[bt]? =some (.cells #[iv t.1,.slice (some ⟨ob,1,none⟩) t.2.length t.2.length] 208 (0,0))/\(w1.heap.size+6<=bt/\ob∈Ms/\ob≠mb)/\aO W (.slice (some ⟨ob,1,none⟩) t.2.length t.2.length) t.2)/\(∀m∈Ms,m∉[mb]->m<W1.heap.size->W.heap[m]? =W1.heap[m]?)/\W1.heap.size<=W.heap.size)
   ?MB ?hassign ?hbody ?hdone ?hstop
  case hInv=>rintro Ms k W ⟨hF,es,hes,hP⟩;exact hF.abx FO.out H1.out H2.out H3.out (qK w1) hP.b3 hP.b4
  case pK=>rintro cd Ms W h;exact h.elim
  case hI=>
   rintro Ms Ms' k Wa Wb ⟨hF,es,hes,hP⟩ hE hMs hc
   exact⟨(hF.iV hE hMs hc).1,es,hes,hP.kept hE.size (fun b h1 h2=>(hF.iV hE hMs hc).2 b (by simp;omega)) (fun g h1 h2 h3=>hE.block g h2 h3) hMs⟩
  case hIx=>rintro cd Ms Ms' Wa Wb h;exact h.elim
  case Ja=>
   rintro Ms k W r o ⟨hF,es,hes,hP⟩ hr
   exact⟨hF.put o (by omega) GY,es,hes,hP.kept (by simp) (fun b h1 h2=>World.putObj_heap_other (by omega)) (fun g h1 h2 h3=>World.putObj_heap_other (by omega)) (fun m hm=> .inl hm)⟩
  case tX=>rintro cd Ms W r o h;exact h.elim
  case h0=>
   intro o o'
   have hB:Below w1.heap.size w1 ((w2.alloc o).alloc o'):=aj (aj hB2 _) _
   exact⟨⟨Ext.aA hB,fun m hm=> .inl (by simpa using hm),fun m hm=>(by have:=hB.size;simp at hm;omega),fun b hb=>⟨by simp at hb⊢;omega,by simp at hb⊢;omega⟩,FO.out.cache.kept (hB.block mb GY)⟩,
    [],by simp,hP2.kept (by simp;omega) (fun b h1 h2=>(aV _ _ _ (by simp;omega)).trans (aV _ _ _ (by omega))) (fun g h1 h2 h3=>by omega) (fun m hm=> .inl hm)⟩
  case MB=>
   rintro Ms k W1 a₁ W o ⟨t,ob,bt,ht,ha,⟨hF,es,hes,hP⟩,⟨hbt,⟨hb7,hob,hne⟩,hsl⟩,hk,hs⟩
   have hap:=(hF.apart (w1.heap.size+5) (by simp)).1
   refine⟨t,ob,bt,ht,ha,⟨hF.put o (by omega) GY,es,hes,hP.kept (by simp) (fun b h1 h2=>World.putObj_heap_other (by omega)) (fun g h1 h2 h3=>World.putObj_heap_other (by omega)) (fun m hm=> .inl hm)⟩,
    ⟨(World.putObj_heap_other (by omega)).trans hbt,⟨hb7,hob,hne⟩,hsl.kept fun b off n c hv _=>by cases hv;exact World.putObj_heap_other (fun e=>hap (by rw[show w1.heap.size+5=ob by omega];exact hob))⟩,
    fun m hm h0 hml=>(World.putObj_heap_other (fun e=>hap (by rw[show w1.heap.size+5=m by omega];exact hm))).trans (hk m hm h0 hml),by simpa using hs⟩
  case hassign=>
   rintro Ms k v W hk ⟨hF,es,hes,hP⟩ ⟨ob,rfl,hsl,hob,hne⟩ hlt
   generalize ht:(dQ h [])[k]=t at*
   have htk:(dQ h [])[k]? =some t:=by rw[dw hk,ht]
   gi_wp2
   have hB:Below W.heap.size W (W.alloc (.cells #[iv t.1,.slice (some ⟨ob,1,none⟩) t.2.length t.2.length] 208)):=aj (aH _ _) _
   have hc:=hF.cache.kept (hB.block mb hF.cache.lt)
   exact⟨⟨t,ob,W.heap.size,htk,rfl,⟨(hF.iV (Ext.aA hB) (fun m hm=> .inl hm) hc).1,es,hes,hP.kept (by simp) (fun b h1 h2=>aV _ _ _ (by omega)) (fun g h1 h2 h3=>aV _ _ _ (by omega)) (fun m hm=> .inl hm)⟩,
    ⟨ay _ _,⟨by omega,hob,hne⟩,hsl.alloc _⟩,fun m hm h0 hml=>aV _ _ _ (by omega),by simp⟩,aV _ _ _ (by omega),aV _ _ _ (by omega)⟩
  case hbody=>
   rintro Ms k W1 a₁ W busy hk ⟨t,ob,bt,ht,rfl,⟨hF,es,hes,hP⟩,⟨hbt,⟨hb7,hob,hne⟩,hsl⟩,hkeep,hsz⟩ hrec hD
   simp only[rf,List.set_cons_succ,List.set_cons_zero]
   obtain⟨v,hv1,hv2,hv3,hv4⟩:=hP.out
   obtain⟨vo,vc,rfl⟩:=aW hv2
   have htm:t∈dQ h []:=ni ht
   obtain⟨hl2,hs0,hrest⟩:=AX oW.out htm
   have hlast:=oW.out.Bl
   have hwl:=oW.out.FV
   have hlk:es.length<=2000:=by
    have h5:=congrArg List.length hes
    rw[mD,gU] at h5
    have:=xN oW.out []
    omega
   have d1:=aB hv1
   have d2:=bn hv1 0
   have d3:=dI W _ d1
   have kt:=(aS.1 hbt).1
   have hg: ∀i,W.cell? ⟨bt,i,none⟩=(#[iv t.1,.slice (some ⟨ob,1,none⟩) t.2.length t.2.length]:Array Value)[i]? :=fun i=>by
    simp only[World.cell?,hbt];rfl
   have hw6:w1.heap.size+6<=W.heap.size:=by omega
   have htl:t.2.length<=10:=by omega
   clear hl2
   have HT2:=ae (ag ht hk)
   have HF:=ae hF
   have HP:=ae hP
   have HES:=ae hes
   have HSL:=ae hsl
   have HV:=ae (ag hv1 (ag hv2 hv3))
   have HK:=ae (ag hkeep (ag hrec hD))
   clear hF hP hkeep hrec hD hbt hsl ht hrest htm hes hv1 hv2 hv3 hv4
   gi_wp2_with fail
   refine dP 8 [] none [(5,⟨fun _ v=> ∃o c,v= .slice o t.2.length c,fun _ v Wx=>Wx.ownsRow W.heap.size 3 1 v t.2.length (ah t.2)⟩),(7,⟨fun _ v=> ∃b:Nat,v= .slice (some ⟨b,0,none⟩) 1 1,fun xs v Wx=> ∃(b:Nat) (x:Value),xs=[.agg #[iv t.1,x]]/\v= .slice (some ⟨b,0,none⟩) 1 1/\Wx.heap[b]? =some (.cells #[iv t.1,x] 208 (0,0))⟩)] (by kernel_rfl) (by kernel_rfl) (by kernel_rfl) ?_
   simp only[zt]
   repeat (refine zd ?_;simp only[zp])
   refine bG _ (by rfl) (by rfl) (by exact⟨.slice none t.2.length 0,none,0,rfl⟩) (fun W5 hE hF=>?_) (fun v Wa Wb ho hE=>aC (Ms:=[]) ho hE (by simp)) (fun v hv=>?_)
   ·have hE':Ext [] W W5:=hE
    refine dE 91 #[.slice (some ⟨ob,1,none⟩) t.2.length t.2.length] (by go_simp;try rfl) ?_
    refine(clone_any t.2 _ W5 (HSL.out.below hE'.below (ai _)) (by omega)).mono ?_
    rintro e W6 ⟨v,rfl,ho,hb⟩
    exact⟨v,rfl,aW ho,df ho hE'.size,Ext.aA hb⟩
   obtain⟨o5,c5,rfl⟩:=hv
   simp only[zp]
   repeat (refine zd ?_;simp only[zp])
   refine bG _ (by rfl) (by rfl) (by exact⟨.slice (some ⟨0,0,none⟩) 1 1,0,rfl⟩) (fun W5 hE hF=>?_) (fun v Wa Wb ho hE=>?_) (fun v hv=>?_)
   ·refine jm (W':=W5.alloc (.cells #[iv t.1,.slice o5 t.2.length c5] 208)) (.slice (some ⟨W5.heap.size,0,none⟩) 1 1) (by go_simp;try rfl) ⟨⟨_,rfl⟩,⟨_,_,rfl,rfl,heap_alloc_new _ _⟩,Ext.aA ((aH _ _).alloc (ai _) _)⟩
   ·obtain⟨b,x,hx,hv,hc⟩:=ho
    exact⟨b,x,hx,hv,(hE.block b (aS.1 hc).1 (by simp)).trans hc⟩
   obtain⟨b7,rfl⟩:=hv
   simp only[zp]
   intro W8 gY WU
   have hE:Ext [] W W8:=gY
   obtain⟨b7',x7,hx7,akF,hblk7⟩:=WU _ (bF _)
   cases akF
   have ajO:x7= .slice o5 t.2.length c5:=by
    have h9:[Value.agg #[iv t.1,.slice o5 t.2.length c5]]=[Value.agg #[iv t.1,x7]]:=hx7
    simp at h9
    exact h9.symm
   subst ajO
   have hcl:W8.ownsRow W.heap.size 3 1 (.slice o5 t.2.length c5) t.2.length (ah t.2):=WU _ (nJ _ (bF _))
   obtain⟨hc,hf⟩:=bK hE.below
   have hz8:=hE.size
   have Eu:=aC (Ms:=[]) HV.out.2.1 hE (by simp)
   have ja:=ae hE
   have HOW:=ae Eu
   have HCL:=ae hcl
   have zU:=ae hblk7
   clear hE gY WU Eu hcl hblk7 hx7 hg
   gi_wp2_with (gi_at_builtin;go_loud (refine nV (fun _=>trivial) rfl qN rfl _ _ abC rfl (w1.heap.size+6) (.slice vo es.length vc) es.length (rM es) rfl HOW.out (.slice (some ⟨b7,0,none⟩) 1 1) 1 [iv t.1,.slice o5 t.2.length c5] rfl (aN.dB 2 1 zU.out rfl (by decide)) (by intro u hu;simp at hu;rcases hu with rfl|rfl <;>rfl) (by omega) (by omega) (by omega) ?_))
   intro v' W9 hown hgr hown'
   obtain⟨o9,c9,rfl⟩:=aW hown
   have xk:=ae hown
   have HG9:=ae hgr
   have HN9:=ae hown'
   have QB:=bD HV.out.2.1
   have qh: ∀b,b<w1.heap.size+6->b<W.heap.size->W9.heap[b]? =W.heap[b]? :=fun b hb hb7=>
    (hgr.block b (by omega) (fun e=>by have:=QB b e.symm;omega)).trans (ja.out.block b hb7 (by simp))
   have OQ:W8.heap.size<=W9.heap.size:=hgr.size
   have e1:W9.cell? ⟨w1.heap.size+1,0,none⟩=some (.slice vo es.length vc):=aB ((qh _ (by omega) d3).trans HV.out.1)
   have e2:W9.frozen? ⟨w1.heap.size+1,0,none⟩=false:=bn ((qh _ (by omega) d3).trans HV.out.1) 0
   have e3:=dI W9 _ e1
   clear hown hgr hown' qh hc hf
   gi_wp2_with fail
   obtain⟨⟨hF9,hP9⟩,hks,Sz⟩:=aar (e:=(t.1,.slice o5 t.2.length c5,t.2)) HF.out HP.out HV.out.1 (fun g hg=>⟨QB g hg,(HV.out.2.2 g hg).1⟩) ja.out HG9.out HN9.out xk.out HCL.out GY hw6
   have hap:=HF.out.apart
   refine⟨⟨?_,?_,fun m hm h0 hml=>?_,by omega⟩,hF9,es++[(t.1,.slice o5 t.2.length c5,t.2)],?_,hP9⟩
   ·refine(hks _ (hap (w1.heap.size+5) (by simp)).2 (fun e=>by have:=QB _ e;omega) (by omega)).trans ?_
    rw[show w1.heap.size+5=w2.heap.size+1 by omega];exact HK.out.2.1
   ·refine(hks _ (hap (w1.heap.size+4) (by simp)).2 (fun e=>by have:=QB _ e;omega) (by omega)).trans ?_
    rw[<-hsz2];exact HK.out.2.2
   ·exact(hks m (by omega) (fun e=>(HV.out.2.2 m e).1 hm) (fun e=>(hap (w1.heap.size+1) (by simp)).1 (by rw[<-e];exact hm))).trans (HK.out.1 m hm h0 hml)
   ·rw[List.map_append,HES.out,iC HT2.out.2]
    have:=HT2.out.1
    rw[dw HT2.out.2] at this
    injection this with this
    rw[this]
    rfl
  case hdone=>
   rintro Ms W ⟨hF,es,hes,hP⟩ hD hlt
   rw[List.take_length] at hes
   rw[hsz2] at hD
   obtain⟨v,hv1,hv2,hv3,hv4⟩:=hP.out
   obtain⟨vo,vc,rfl⟩:=aW hv2
   have hb0:=(hF.ext.block w.heap.size hw0 (by simp;omega)).trans HB0.out
   have hc0: ∀i,W.cell? ⟨w.heap.size,i,none⟩=(#[.int .i64 h.last,.int .i64 h.size,.int .i64 h.aZ,.int .i64 h.die,.int .i64 h.uF,.int .i64 h.start.1,.int .i64 h.start.2,.slice ow h.bZ.length cw,.slice ot h.turns.length ct,.slice ox h.readings.length cx]:Array Value)[i]? :=fun i=>by
    simp only[World.cell?,hb0];rfl
   have t0:=(aS.1 hb0).1
   have hl0:=oW.out.J4
   have hl9:=oW.out.Bl
   obtain⟨n,hn⟩: ∃n:Nat,h.last+1=n:=⟨(h.last+1).toNat,by omega⟩
   have hm: ∀x∈[mb], ∀o,W.cell? ⟨x,o,none⟩=none:=fun x hx o=>by
    obtain rfl:x=mb:=by simpa using hx
    exact hF.cache.mX o
   have hmw: ∀x∈[mb], ∀o,w1.cell? ⟨x,o,none⟩=none:=fun x hx o=>by
    obtain rfl:x=mb:=by simpa using hx
    exact FO.out.cache.mX o
   have hbd: ∀e∈es,e.2.2.length<=10/\(0<=e.1/\e.1<=500)/\ ∀x∈e.2.2,0<=x/\x<=20:=fun e he=>by
    have hmem:(e.1,e.2.2)∈dQ h []:=by rw[<-hes];exact jc.2 ⟨e,he,rfl⟩
    obtain⟨k1,k2,k3⟩:=AX oW.out hmem
    have:=oW.out.FV
    simp only at k1 k2 k3
    exact⟨by omega,k2,k3⟩
   have hsf: ∀l,(es.all fun e=>mG h (lL h (e.1,e.2.2) l))=NT h l:=fun l=>by
    unfold NT
    rw[<-hes,List.all_map]
    rfl
   have hsh:=fun(W3:World) (hB:Below W.heap.size W W3)=>La n (by omega) (NT h) mb h.aZ W3 (hF.cache.kept (hB.block mb hF.cache.lt)) 94 #[] #[.pointer (some ⟨w1.heap.size,0,none⟩),.pointer (some ⟨w1.heap.size+1,0,none⟩)] (enters_of Tryz.func94 (by kernel_rfl) rfl)
    (fun l v W' hE hcc hv=>by
      have hEW:Ext [mb] W W':=(Ext.aA hB).trans hE
      have Yg:Ext [mb] w1 W':=hF.ext.trans hEW
      refine(O4 h oW.out _ _ _ wb mb es vo vc l v w1.heap.size (w1.heap.size+1) W' ((hEW.block _ (aS.1 hP.b0).1 (by simp;omega)).trans hP.b0) ((hEW.block _ (aS.1 hv1).1 (by simp;omega)).trans hv1)
       (FO.out.ext Yg hcc) (H1.out.gu Yg hmw) (H2.out.gu Yg hmw) (H3.out.gu Yg hmw) (aN.gu (aN.dU hv2) hEW hm) (fun e he=>⟨aN.gu (aN.dU (hv4 e he).1) hEW hm,hbd e he⟩) hv).mono ?_
      rintro x W'' ⟨rfl,k1,k2⟩
      exact⟨by rw[hsf],k1,k2⟩)
   have HSH:=ae hsh
   have HF:=ae hF
   have HD:=ae hD
   have hn':(h.last+1).toNat=n:=by omega
   have HFS:Hid (Xb h=nG n (NT h)):=ae (by unfold Xb;rw[hn'])
   clear hsh hF hP hD hv1 hv2 hv3 hv4 hb0 hbd hsf hm hmw hes hn'
   gi_wp2_with fail
   refine(callsIn_wide.2 (L8 h _ _ _ n _ hl0 hl9 hn)).mono ?_
   rintro e W3 ⟨rfl,hb3⟩
   have HB3:=ae hb3
   clear hb3 hc0
   gi_wp2_with fail
   refine(callsIn_wide.2 (HSH.out W3 HB3.out)).mono ?_
   rintro e W4 ⟨⟨hcc,O1⟩,hres⟩
   have UW:Ext [mb] W W4:=(Ext.aA HB3.out).trans O1
   have hD4:W4.heap[w1.heap.size+4]? =some (.deferred (some [])):=(UW.block _ (aS.1 HD.out).1 (by simp;omega)).trans HD.out
   have hB4:Below w.heap.size w W4:=ik (ik XZ.out HF.out.ext (by omega)) UW (by omega)
   have HD4:=ae hD4
   have HB4:=ae hB4
   clear hcc O1 UW hD4 hB4
   rw[<-HFS.out] at hres
   rcases hres with⟨c0,sv,hfs,rfl,vg⟩|⟨hnone,o',n',c',rfl⟩
   ·have he0:E=0:=by rw[Vd.out.1,hfs];rfl
    have hl0':L=c0:=by rw[Vd.out.2,hfs];rfl
    subst he0
    subst hl0'
    obtain⟨so,sc,rfl⟩:=vg.open
    have HIV:=ae vg
    clear vg hfs
    gi_wp2_with fail
    refine⟨by simp,.inl ⟨_,_,rfl,run_takeDeferred HD4.out,?_⟩⟩
    refine⟨.tuple #[.slice so L.length sc,iv 0],by simp[results,Tryz.results54,go_sem],⟨_,rfl,?_,ik HB4.out (FN W4 _ _) (by have:=XZ.out.size;omega)⟩⟩
    exact aN.gu HIV.out (FN W4 _ _) (fun x hx o=>by
     obtain rfl:x=w1.heap.size+4:=by simpa using hx
     simp[World.cell?,HD4.out])
   ·have he0:E=10:=by rw[Vd.out.1,hnone];rfl
    have hl0':L=[]:=by rw[Vd.out.2,hnone];rfl
    subst he0
    subst hl0'
    clear hnone
    gi_wp2_with fail
    refine⟨by simp,.inl ⟨_,_,rfl,run_takeDeferred HD4.out,?_⟩⟩
    exact⟨.tuple #[.slice none 0 0,iv 10],by simp[results,Tryz.results54,go_sem],⟨_,rfl,qK _,ik HB4.out (FN W4 _ _) (by have:=XZ.out.size;omega)⟩⟩
  case hstop=>rintro cd Ms W h;exact h.elim
end Go.Proofs.YthllkbbbapgelaaGreatDoor.jI
namespace Go.Proofs.YthllkbbbapgelaaGreatDoor.jI
open Go.RowKit Go.RG Go.SL Go.Shelf jy
end Go.Proofs.YthllkbbbapgelaaGreatDoor.jI
namespace Go.Proofs.YthllkbbbapgelaaGreatDoor.jI
open Go.RowKit Go.RG Go.SL Go.Shelf jy
end Go.Proofs.YthllkbbbapgelaaGreatDoor.jI
namespace Go.Proofs.YthllkbbbapgelaaGreatDoor.jI
open Go.RowKit Go.RG Go.SL Go.Shelf jy
end Go.Proofs.YthllkbbbapgelaaGreatDoor.jI
end

/-
  Texts of this claim, packed by a program: WC WD.
-/
import Derived.WalkKit
import Derived.WalkLawsBesides
import Derived.WalkSpells
import Derived.Outline
import Derived.Handy
import Derived.KernelRfl
import Derived.Lib.Hide
import Derived.Deep.MidRow
import Derived.Laws.StructEq
import Derived.Maps.AppendAt
import Derived.WalkMore
import Derived.Deep.LoopGhost
import Derived.OwnWalkIn
import Derived.Test.YtabpkkbiioihaaaGreatDoorPK5
import Derived.Test.YtabpkkbiioihaaaGreatDoorPK9
set_option maxHeartbeats 8000000
set_option maxRecDepth 100000
set_option linter.all false
section
namespace Go.SL
open Go.RowKit Go.RG
end Go.SL
namespace Go.Proofs.YtabpkkbiioihaaaGreatDoor.kK
open Go.RowKit Go.RG Go.SL Go.Shelf gZ
end Go.Proofs.YtabpkkbiioihaaaGreatDoor.kK
namespace Go.Proofs.YtabpkkbiioihaaaGreatDoor.kK
open Go.RowKit Go.RG Go.SL Go.Shelf gZ
end Go.Proofs.YtabpkkbiioihaaaGreatDoor.kK
namespace Go.Proofs.YtabpkkbiioihaaaGreatDoor.kK
open Go.RowKit Go.RG Go.SL Go.Shelf gZ
end Go.Proofs.YtabpkkbiioihaaaGreatDoor.kK
namespace Go.Proofs.YtabpkkbiioihaaaGreatDoor.kK
open Go.RowKit Go.RG Go.SL Go.Shelf gZ
attribute [local go_sem] Oper.semAt_some
theorem QU:fD Tryz.prog 208 212 (.agg #[iv 0,iv 0,iv 0,iv 0,iv 0,iv 0,iv 0,iv 0,iv 0,iv 0]) 10 80:=⟨Tryz.underlying208,by kernel_rfl,rfl,by omega⟩
structure Xe (w:World) (wb:Nat) (tv:Value) (ls:List (List Int)) (Ms:List Nat) (W:World):Prop where
 b0:W.heap[w.heap.size]? =some (.cells #[.pointer (some ⟨wb,0,none⟩)] 205 (0,0))
 b1:W.heap[w.heap.size+1]? =some (.cells #[tv] 36 (0,0))
 out: ∃v,W.heap[w.heap.size+1+1]? =some (.cells #[v] 208 (0,0))/\W.ownsRow (w.heap.size+7) 212 10 v ls.length (ls.flatMap intCells)/\ ∀g,v.ownBlock=some g->g∉Ms/\g<W.heap.size
 b3:W.heap[w.heap.size+1+1+1]? =some (.cells #[.pointer (some ⟨wb,0,none⟩)] 205 (0,0))
 b4:W.heap[w.heap.size+1+1+1+1]? =some (.cells #[.slice none 0 0] 36 (0,0))
theorem Xe.kept {w:World} {wb:Nat} {tv:Value} {ls:List (List Int)} {Ms Ms':List Nat} {W W':World} (h:Xe w wb tv ls Ms W) (hs:W.heap.size<=W'.heap.size) (hk: ∀b,w.heap.size<=b->b<w.heap.size+5->W'.heap[b]? =W.heap[b]?)
 (ho: ∀g,w.heap.size+7<=g->g<W.heap.size->g∉Ms->W'.heap[g]? =W.heap[g]?) (hM: ∀m∈Ms',m∈Ms∨(W.heap.size<=m/\m<W'.heap.size)):Xe w wb tv ls Ms' W':=by
 obtain⟨v,h1,h2,h3⟩:=h.out
 refine⟨(hk _ (by omega) (by omega)).trans h.b0,(hk _ (by omega) (by omega)).trans h.b1,⟨v,(hk _ (by omega) (by omega)).trans h1,cZ h2 fun g hg=>ho g (aZ h2 g hg).1 (aZ h2 g hg).2 (h3 g hg).1,fun g hg=>⟨fun hm=>?_,by have:=(h3 g hg).2;omega⟩⟩,
  (hk _ (by omega) (by omega)).trans h.b3,(hk _ (by omega) (by omega)).trans h.b4⟩
 rcases hM g hm with h4|h4
 ·exact(h3 g hg).1 h4
 ·have:=(h3 g hg).2;omega
def ZU (ls:List (List Int)) (mb:Nat) (aY:Int) (w:World) (e:Ending) (w':World):Prop:=
 ∃v,e= .returned v/\w'.ownsRow w.heap.size 212 10 v ls.length (ls.flatMap intCells)/\Cache w' mb aY/\Ext [mb] w w'
theorem QQ {h:bF} (hS:Sound h) {out:List Int} {t:Int×List Int} (ht:t∈dN h out):t.2.length=h.bg.length/\(0<=t.1/\t.1<=500)/\ ∀x∈t.2,0<=x/\x<=20:=by
 unfold dN at ht
 obtain⟨x,hx,rfl⟩:=List.mem_map.1 ht
 obtain⟨s,rest,rfl,h1,h2,h3⟩:=zI hS (List.mem_filter.1 hx).1
 exact⟨h1,h2,h3⟩
theorem Nq {w W7 W8 W9:World} {wb mb:Nat} {aY:Int} {tv v v':Value} {ls:List (List Int)} {ys:List Int} {Os Ms:List Nat} {obj:Obj} (hF:Fr w mb aY Os Ms W7) (hP:Xe w wb tv ls Ms W7)
 (hv1:W7.heap[w.heap.size+1+1]? =some (.cells #[v] 208 (0,0))) (hv3: ∀g,v.ownBlock=some g->(w.heap.size+7<=g/\g<W7.heap.size)/\g∉Ms)
 (hE:Ext [] W7 W8) (hG:(W8.alloc obj).grownBy W9 v.ownBlock) (hN:v'.ownBlock=v.ownBlock∨v'.ownBlock=some (W8.heap.size+1)) (hO:W9.ownsRow (w.heap.size+7) 212 10 v' (ls.length+1) (ls.flatMap intCells++intCells ys))
 (hmb:mb<w.heap.size) (hs:w.heap.size+7<=W7.heap.size):
 (Fr w mb aY Os Ms (W9.setCell ⟨w.heap.size+1+1,0,none⟩ v')/\Xe w wb tv (ls++[ys]) Ms (W9.setCell ⟨w.heap.size+1+1,0,none⟩ v'))/\
   (∀b,b<W7.heap.size->v.ownBlock≠some b->b≠w.heap.size+2->(W9.setCell ⟨w.heap.size+1+1,0,none⟩ v').heap[b]? =W7.heap[b]?)/\W7.heap.size<=(W9.setCell ⟨w.heap.size+1+1,0,none⟩ v').heap.size:=by
 have h1:=hE.size
 have h2:=hG.size
 simp only[World.size_alloc] at h2
 have hk: ∀b,b<W7.heap.size->v.ownBlock≠some b->W9.heap[b]? =W7.heap[b]? :=fun b hb hn=>
  (hG.block b (by simp;omega) (fun e=>hn e.symm)).trans ((Below.heap_alloc _ _ _ (by omega)).trans (hE.block b hb (by simp)))
 have hks: ∀b,b<W7.heap.size->v.ownBlock≠some b->b≠w.heap.size+2->(W9.setCell ⟨w.heap.size+1+1,0,none⟩ v').heap[b]? =W7.heap[b]? :=fun b hb hn hne=>
  (Below.heap_setCell _ _ _ _ (by show b≠w.heap.size+1+1;omega)).trans (hk b hb hn)
 have hlow: ∀b,b<w.heap.size+7->v.ownBlock≠some b:=fun b hb e=>by have:=(hv3 b e).1.1;omega
 have hsz:W7.heap.size<=(W9.setCell ⟨w.heap.size+1+1,0,none⟩ v').heap.size:=by simp[World.setCell];omega
 refine⟨⟨hF.own ⟨hG.os.trans (hE.os.trans hF.ext.os),hG.tape.trans (hE.tape.trans hF.ext.tape),hG.output.trans (hE.output.trans hF.ext.output),by have:=hF.ext.size;omega,fun k hk' hm=>(hks k (by omega) (hlow k (by omega)) (by omega)).trans (hF.ext.block k hk' hm)⟩ hsz (hF.cache.kept (hks mb (by omega) (hlow mb (by omega)) (by omega))),?_⟩,hks,hsz⟩
 have hb:=aZ hO
 refine⟨(hks _ (by omega) (hlow _ (by omega)) (by omega)).trans hP.b0,(hks _ (by omega) (hlow _ (by omega)) (by omega)).trans hP.b1,⟨v',?_,?_,fun g hg=>⟨fun hm=>?_,by have:=(hb g hg).2;simpa [World.setCell] using this⟩⟩,(hks _ (by omega) (hlow _ (by omega)) (by omega)).trans hP.b3,(hks _ (by omega) (hlow _ (by omega)) (by omega)).trans hP.b4⟩
 ·exact ak ((hk _ (by omega) (hlow _ (by omega))).trans hv1) _
 ·rw[List.length_append,List.flatMap_append]
  have:[ys].flatMap intCells=intCells ys:=by simp
  rw[this]
  exact cZ hO fun g hg=>Below.heap_setCell _ _ _ _ (by have:=(hb g hg).1;show g≠w.heap.size+1+1;omega)
 ·rcases hN with hN|hN
  ·exact(hv3 g (by rw[<-hN,hg])).2 hm
  ·rw[hg] at hN
   injection hN with hN
   have:=hF.bnd g hm
   omega
theorem Ph (h:bF) (hS:Sound h) (a b c tv:Value) (turns:List Int) (wb mb:Nat) (w:World) (hw:gq w wb mb h a b c) (h1:bn w a h.bg) (h2:aN w b h.turns) (h3:aT w c h.readings) (h4:aN w tv turns):
 Calls Tryz.prog 148 #[.pointer (some ⟨wb,0,none⟩),tv] w (ZU (kW h turns) mb h.aY w):=by
 obtain⟨ot,ct,rfl⟩:=h4.open
 have HW:=Lib.hid hw
 have H1:=Lib.hid h1
 have H2:=Lib.hid h2
 have H3:=Lib.hid h3
 have H4:=Lib.hid h4
 have mG:=Lib.hid hS
 have hmb:=hw.cache.lt
 clear hw h1 h2 h3 h4 hS
 refine(callsIn_wide (n:=0)).1 ?_
 refine callsIn_of_wp_marks Tryz.func148 rfl trivial ?_
 simp only[Tryz.ntmps148,List.size_toArray,List.length_cons,List.length_nil,Nat.reduceAdd,Nat.reduceSub,Array.replicate_succ,Array.replicate_zero,List.push_toArray,List.append_toArray,List.nil_append,List.cons_append]
 gi_wp2_with fail
 refine(callsIn_wide.2 (yR wb _ _ _ _)).mono ?_
 rintro e w1 ⟨rfl,rfl⟩
 gi_wp2_with fail
 obtain⟨w2,hw2⟩: ∃w2,(((((w.alloc (.cells #[.pointer (some ⟨wb,0,none⟩)] 205)).alloc (.cells #[.slice ot turns.length ct] 36)).alloc (.cells #[.slice none 0 0] 208)).alloc (.cells #[.pointer (some ⟨wb,0,none⟩)] 205)).alloc (.cells #[.slice none 0 0] 36))=w2:=⟨_,rfl⟩
 have hB2:Below w.heap.size w w2:=by rw[<-hw2];exact zl
 have hsz2:w2.heap.size=w.heap.size+5:=by rw[<-hw2];simp
 have hP2:Xe w wb (.slice ot turns.length ct) [] [mb] w2:=by
  rw[<-hw2]
  have n3:=ag (((w.alloc (.cells #[.pointer (some ⟨wb,0,none⟩)] 205)).alloc (.cells #[.slice ot turns.length ct] 36)).alloc (.cells #[.slice none 0 0] 208)) (.cells #[.pointer (some ⟨wb,0,none⟩)] 205)
  have n4:=dL (((w.alloc (.cells #[.pointer (some ⟨wb,0,none⟩)] 205)).alloc (.cells #[.slice ot turns.length ct] 36)).alloc (.cells #[.slice none 0 0] 208)) (.cells #[.pointer (some ⟨wb,0,none⟩)] 205) (.cells #[.slice none 0 0] 36)
  simp only[World.size_alloc] at n3 n4
  refine⟨?_,?_,⟨.slice none 0 0,?_,⟨rfl,.inl ⟨rfl,rfl⟩⟩,fun g hg=>by cases hg⟩,?_,n4⟩
  ·exact(Below.heap_alloc _ _ _ (by first|omega|(simp;done)|(simp;omega))).trans ((Below.heap_alloc _ _ _ (by first|omega|(simp;done)|(simp;omega))).trans ((Below.heap_alloc _ _ _ (by first|omega|(simp;done)|(simp;omega))).trans ((Below.heap_alloc _ _ _ (by first|omega|(simp;done)|(simp;omega))).trans (ag _ _))))
  ·exact(Below.heap_alloc _ _ _ (by first|omega|(simp;done)|(simp;omega))).trans ((Below.heap_alloc _ _ _ (by first|omega|(simp;done)|(simp;omega))).trans ((Below.heap_alloc _ _ _ (by first|omega|(simp;done)|(simp;omega))).trans (dL _ _ _)))
  ·exact(Below.heap_alloc _ _ _ (by first|omega|(simp;done)|(simp;omega))).trans ((Below.heap_alloc _ _ _ (by first|omega|(simp;done)|(simp;omega))).trans (fJ _ _ _ _))
  ·exact(Below.heap_alloc _ _ _ (by first|omega|(simp;done)|(simp;omega))).trans n3
 rw[hw2]
 clear hw2
 refine jT (yQ h mG.out a b c (.slice none 0 0) [] wb mb (w.heap.size+1+1+1) (w.heap.size+1+1+1+1)) rfl (enters_of Tryz.func244 (by kernel_rfl) rfl) rfl (by simp;omega)
  (fun Ms k W=>Fr w mb h.aY [w.heap.size,w.heap.size+1,w.heap.size+2,w.heap.size+3,w.heap.size+4,w.heap.size+5,w.heap.size+6] Ms W/\Xe w wb (.slice ot turns.length ct) (fQ h turns k) Ms W)
  (fun _ _ _=>False)
  ?hInv ?pz ?hI ?hIx ?Nl ?uK ?h0
  (fun a Ms k W1 a₁ W=> ∃(t:Int×List Int) (ob bt:Nat),(dN h [])[k]? =some t/\a₁={tmps:=(a.tmps.setIfInBounds 9 (.agg #[iv t.1,.slice (some ⟨ob,1,none⟩) t.2.length t.2.length])).setIfInBounds 5 (.pointer (some ⟨bt,0,none⟩)),defers:=[]}/\
    (Fr w mb h.aY [w.heap.size,w.heap.size+1,w.heap.size+2,w.heap.size+3,w.heap.size+4,w.heap.size+5,w.heap.size+6] Ms W/\Xe w wb (.slice ot turns.length ct) (fQ h turns k) Ms W)/\
    (W.heap[bt]? =some (.cells #[iv t.1,.slice (some ⟨ob,1,none⟩) t.2.length t.2.length] 250 (0,0))/\(w.heap.size+7<=bt/\ob∈Ms/\ob≠mb)/\aN W (.slice (some ⟨ob,1,none⟩) t.2.length t.2.length) t.2)/\(∀m∈Ms,m∉[mb]->m<W1.heap.size->W.heap[m]? =W1.heap[m]?)/\W1.heap.size<=W.heap.size)
  ?O4 ?hassign ?hbody ?hdone ?hstop
 case hInv=>rintro Ms k W ⟨hF,hP⟩;exact hF.XY HW.out H1.out H2.out H3.out (He w) hP.b3 hP.b4
 case pz=>rintro cd Ms W h;exact h.elim
 case hI=>
  rintro Ms Ms' k Wa Wb ⟨hF,hP⟩ hE hMs hc
  refine⟨(hF.step hE hMs hc).1,hP.kept hE.size (fun b h1 h2=>(hF.step hE hMs hc).2 b (by simp;omega)) (fun g h1 h2 h3=>hE.block g h2 h3) hMs⟩
 case hIx=>rintro cd Ms Ms' Wa Wb h;exact h.elim
 case Nl=>
  rintro Ms k W r o ⟨hF,hP⟩ hr
  exact⟨hF.put o (by omega) hmb,hP.kept (by simp) (fun b h1 h2=>World.putObj_heap_other (by omega)) (fun g h1 h2 h3=>World.putObj_heap_other (by omega)) (fun m hm=> .inl hm)⟩
 case uK=>rintro cd Ms W r o h;exact h.elim
 case h0=>
  intro o o'
  have hB:Below w.heap.size w ((w2.alloc o).alloc o'):=af (af hB2 _) _
  refine⟨⟨Ext.of_below hB,fun m hm=> .inl (by simpa using hm),fun m hm=>(by have:=hB.size;simp at hm;omega),fun b hb=>⟨by simp at hb⊢;omega,by simp at hb⊢;omega⟩,HW.out.cache.kept (hB.block mb hmb)⟩,
   hP2.kept (by simp;omega) (fun b h1 h2=>(Below.heap_alloc _ _ _ (by simp;omega)).trans (Below.heap_alloc _ _ _ (by omega))) (fun g h1 h2 h3=>by omega) (fun m hm=> .inl hm)⟩
 case O4=>
  rintro Ms k W1 a₁ W o ⟨t,ob,bt,ht,ha,⟨hF,hP⟩,⟨hbt,⟨hb7,hob,hne⟩,hsl⟩,hk,hs⟩
  have hap:=(hF.apart (w.heap.size+6) (by simp)).1
  refine⟨t,ob,bt,ht,ha,⟨hF.put o (by omega) hmb,hP.kept (by simp) (fun b h1 h2=>World.putObj_heap_other (by omega)) (fun g h1 h2 h3=>World.putObj_heap_other (by omega)) (fun m hm=> .inl hm)⟩,
   ⟨(World.putObj_heap_other (by omega)).trans hbt,⟨hb7,hob,hne⟩,hsl.kept fun b off n c hv _=>by cases hv;exact World.putObj_heap_other (fun e=>hap (by rw[show w.heap.size+6=ob by omega];exact hob))⟩,
   fun m hm h0 hml=>(World.putObj_heap_other (fun e=>hap (by rw[show w.heap.size+6=m by omega];exact hm))).trans (hk m hm h0 hml),by simpa using hs⟩
 case hassign=>
  rintro Ms k v W hk ⟨hF,hP⟩ ⟨ob,rfl,hsl,hob,hne⟩ hlt
  generalize ht:(dN h [])[k]=t at*
  have htk:(dN h [])[k]? =some t:=by rw[List.getElem?_eq_getElem hk,ht]
  gi_wp2
  have hB:Below W.heap.size W (W.alloc (.cells #[iv t.1,.slice (some ⟨ob,1,none⟩) t.2.length t.2.length] 250)):=af (Below.refl _ _) _
  have hc:=hF.cache.kept (hB.block mb hF.cache.lt)
  exact⟨⟨t,ob,W.heap.size,htk,rfl,⟨(hF.step (Ext.of_below hB) (fun m hm=> .inl hm) hc).1,hP.kept (by simp) (fun b h1 h2=>Below.heap_alloc _ _ _ (by omega)) (fun g h1 h2 h3=>Below.heap_alloc _ _ _ (by omega)) (fun m hm=> .inl hm)⟩,
   ⟨ag _ _,⟨by omega,hob,hne⟩,hsl.alloc _⟩,fun m hm h0 hml=>Below.heap_alloc _ _ _ (by omega),by simp⟩,Below.heap_alloc _ _ _ (by omega),Below.heap_alloc _ _ _ (by omega)⟩
 case hbody=>
  rintro Ms k W1 a₁ W busy hk ⟨t,ob,bt,ht,rfl,⟨hF,hP⟩,⟨hbt,⟨hb7,hob,hne⟩,hsl⟩,hkeep,hsz⟩ hrec hD
  simp only[List.setIfInBounds_toArray,List.set_cons_succ,List.set_cons_zero]
  have htm:t∈dN h []:=List.mem_of_getElem? ht
  obtain⟨hl2,hs0,hrest⟩:=QQ mG.out htm
  have hlast:=mG.out.GR
  have hwl:=mG.out.Jt
  have c0:=ay hP.b0
  have c1:=ay hP.b1
  have k0:=World.block_lt_of_cell? W _ c0
  have k1:=World.block_lt_of_cell? W _ c1
  have kt:=(Array.getElem?_eq_some_iff.1 hbt).1
  have hg: ∀i,W.cell? ⟨bt,i,none⟩=(#[iv t.1,.slice (some ⟨ob,1,none⟩) t.2.length t.2.length]:Array Value)[i]? :=fun i=>by
   simp only[World.cell?,hbt];rfl
  have Xo:gq W wb mb h a b c:=HW.out.ext hF.ext hF.cache
  have Xp:aN W (.slice ot turns.length ct) turns:=H4.out.gQ hF.ext (fun x hx o=>by
   obtain rfl:x=mb:=by simpa using hx
   exact HW.out.cache.noCell o)
  have ais:=hF.cache.lt
  have U4:=Lib.hid (vH h a b c wb mb t.1 t.2 turns _ _ W Xo hsl Xp (by omega) mG.out.Q4 mG.out.Q3 mG.out.Uj mG.out.Ui hs0.1 hs0.2 hrest)
  obtain⟨ys,hy⟩: ∃ys,rD h (t.1,t.2) turns=ys:=⟨_,rfl⟩
  have ED:ys.length=10:=by rw[<-hy];exact jF _ _ _ _ _ _
  rw[hy] at U4
  have HY:=Lib.hid hy
  have HT:=Lib.hid (And.intro ht hk)
  have HF:=Lib.hid hF
  have HP:=Lib.hid hP
  have HK:=Lib.hid (And.intro hkeep (And.intro hrec hD))
  have HTV:=Lib.hid Xp
  clear hF hP hkeep hrec hD hbt hsl Xp Xo hy ht hrest htm
  rw[hl2] at U4
  gi_wp2_with fail
  refine(CallsIn.inRound _ (callsIn_wide.2 U4.out)).mono ?_
  rintro e W6 ⟨rfl,hcc,hE⟩
  have hyl:(intCells ys).length=10:=by simp[intCells,ED]
  simp only[jk]
  obtain⟨W7,hst,hblk,uV⟩:=xM Tryz.prog ys (ag W6 (.cells #[iv 0,iv 0,iv 0,iv 0,iv 0,iv 0,iv 0,iv 0,iv 0,iv 0] 212)) (by rw[ED];rfl)
  have hE':Ext [mb] W W7:=CY (hE.alloc _) uV hE.size
  have abB:Cache W7 mb h.aY:=hcc.kept ((uV.block mb (by have:=hcc.lt;first|(simp;done)|(simp;omega)) (by have:=hcc.lt;first|(simp;done)|(simp;omega))).trans (Below.heap_alloc _ _ _ hcc.lt))
  have hF7:=HF.out.own (HF.out.ext.trans hE') hE'.size abB
  have hap:=HF.out.apart
  have Y2:Xe w wb (.slice ot turns.length ct) (fQ h turns k) Ms W7:=HP.out.kept hE'.size (fun b h1 h2=>hE'.block b (hap b (by first|omega|(simp;done)|(simp;omega))).2 (by first|omega|(simp;done)|(simp;omega))) (fun g h1 h2 h3=>hE'.block g h2 (by first|omega|(simp;done)|(simp;omega))) (fun m hm=> .inl hm)
  have hkp: ∀m∈Ms,m∉[mb]->m<W1.heap.size->W7.heap[m]? =W1.heap[m]? :=fun m hm h0 hml=>(hE'.block m (by omega) h0).trans (HK.out.1 m hm h0 hml)
  have hrec:=(hE'.block _ (hap (w.heap.size+6) (by simp)).2 (by first|omega|(simp;done)|(simp;omega))).trans (show W.heap[w.heap.size+6]? =some (.loop busy) from by rw[show w.heap.size+6=w2.heap.size+1 by omega];exact HK.out.2.1)
  have hD:=(hE'.block _ (hap (w.heap.size+5) (by simp)).2 (by first|omega|(simp;done)|(simp;omega))).trans (show W.heap[w.heap.size+5]? =some (.deferred (some [])) from by rw[<-hsz2];exact HK.out.2.2)
  have hs7:W1.heap.size<=W7.heap.size:=by have:=hE'.size;omega
  have hw7:w.heap.size+7<=W7.heap.size:=by have:=hE'.size;omega
  obtain⟨v,hv1,hv2,hv3⟩:=Y2.out
  obtain⟨vo,vc,rfl⟩:=aK hv2
  have d1:=ay hv1
  have d2:=aX hv1 0
  have d3:=World.block_lt_of_cell? W7 _ d1
  have d4:=(Array.getElem?_eq_some_iff.1 hblk).1
  have hln:(fQ h turns k).length<=2000:=by have:=Ic h turns k;have:=FV mG.out [];have:=HT.out.2;omega
  have SH:=yf (h:=h) (turns:=turns) (k:=k)
  have hsucc:fQ h turns (k+1)=je (fQ h turns k) ys:=by
   rw[vZ HT.out.2, <-HY.out]
   have:=HT.out.1
   rw[List.getElem?_eq_getElem HT.out.2] at this
   injection this with this
   rw[this]
  have qA:=Lib.hid hsucc
  have su:=Lib.hid hF7
  have U5:=Lib.hid Y2
  have uY:=Lib.hid (And.intro hkp (And.intro hrec (And.intro hD hs7)))
  have HV:=Lib.hid (And.intro hv1 (And.intro hv2 hv3))
  have HB:=Lib.hid hblk
  have UK:=Lib.hid SH
  generalize fQ h turns k=ls at*
  clear hF7 Y2 hkp hrec hD hap hv1 hv2 hv3 hblk uV hE' abB hE hcc SH hsucc hg c0 c1
  gi_wp2_with fail
  rcases(List.eq_nil_or_concat ls).imp id (fun⟨A,z,e⟩=>(⟨A,z,e.trans (List.concat_eq_append)⟩: ∃A z,ls=A++[z])) with rfl|⟨A,z,rfl⟩
  ·simp only[List.length_nil] at d1 HV
   refine bY 13 [] none [] (by kernel_rfl) (by kernel_rfl) (by kernel_rfl) ?_
   simp only[zt]
   repeat ((first|refine zd ?_|refine zk ?_);simp only[zp])
   have Qp:Hid (je [] ys=[]++[ys]):=Lib.hid (by simp[je])
   intro W8 dZ hF8
   have hE:Ext [] W7 W8:=dZ
   obtain⟨hc,hf⟩:=aW hE.below
   have hz8:=hE.size
   have hb8:=HB.out
   obtain⟨y0,y1,y2,y3,y4,y5,y6,y7,y8,y9,hys⟩:=wS ED
   rw[hys] at hb8
   have uH: ∀i,W7.cell? ⟨W6.heap.size,i,none⟩=(#[iv y0,iv y1,iv y2,iv y3,iv y4,iv y5,iv y6,iv y7,iv y8,iv y9]:Array Value)[i]? :=fun i=>by
    simp only[World.cell?,hb8];rfl
   have hz9:W6.heap.size<W8.heap.size:=by omega
   have Ho:=ah (Ms:=[]) HV.out.2.1 hE (by simp)
   have fV:=Lib.hid hE
   have HOW:=Lib.hid Ho
   have wM:=Lib.hid hys
   clear hE dZ hF8 hb8 Ho hys
   gi_wp2_with (gi_at_builtin;go_loud (refine qm (fun _=>trivial) rfl rU rfl _ _ QU rfl (w.heap.size+7) (.slice vo 0 vc) 0 (List.flatMap intCells []) rfl ?_ (.slice (some ⟨W8.heap.size,0,none⟩) 1 1) 1 (intCells [y0,y1,y2,y3,y4,y5,y6,y7,y8,y9]) rfl ?_ (iT _) (by omega) (by omega) (by simp;omega) ?_))
   ·refine ah (Ms:=[]) (w:=W8) ?_ (Ext.of_below ((Below.refl _ _).alloc (Nat.le_refl _) _)) (by simp)
    simpa using HOW.out
   ·exact aB.of_block 10 1 (ag _ _) rfl (by decide)
   ·intro v' W9 hown hgr hown'
    obtain⟨o9,c9,rfl⟩:=aK hown
    have uU:=Lib.hid hown
    have ZK:=Lib.hid hgr
    have HN9:=Lib.hid hown'
    have TE:=aZ HV.out.2.1
    have qc: ∀b,b<w.heap.size+7->b<W7.heap.size->W9.heap[b]? =W7.heap[b]? :=fun b hb hb7=>by
     refine(hgr.block b (by simp;omega) (fun e=>?_)).trans ((Below.heap_alloc _ _ _ (by omega)).trans (fV.out.block b hb7 (by simp)))
     have:=TE b e.symm
     omega
    have hc9:=hc
    have Hf:W8.heap.size<W9.heap.size:=by have:=hgr.size;simp at this;omega
    have e1:W9.cell? ⟨w.heap.size+1+1,0,none⟩=some (.slice vo 0 vc):=ay ((qc _ (by omega) d3).trans HV.out.1)
    have e2:W9.frozen? ⟨w.heap.size+1+1,0,none⟩=false:=aX ((qc _ (by omega) d3).trans HV.out.1) 0
    have e3:=World.block_lt_of_cell? W9 _ e1
    have BH:=Lib.hid qc
    clear hown hgr hown' qc hc9 uH hc hf TE
    gi_wp2_with fail
    rw[wM.out] at Qp
    obtain⟨⟨ZZ,hP9⟩,hks,OQ⟩:=Nq (ls:=[]) (ys:=[y0,y1,y2,y3,y4,y5,y6,y7,y8,y9]) su.out U5.out HV.out.1 (fun g hg=>⟨aZ HV.out.2.1 g hg,(HV.out.2.2 g hg).1⟩) fV.out ZK.out HN9.out (by simpa using uU.out) hmb hw7
    have TE:=aZ HV.out.2.1
    have hap:=su.out.apart
    refine⟨⟨?_,?_,fun m hm h0 hml=>?_,by have:=uY.out.2.2.2;omega⟩,ZZ,?_⟩
    ·exact(hks _ (by omega) (fun e=>by have:=TE _ e;omega) (by omega)).trans uY.out.2.1
    ·exact(hks _ (by omega) (fun e=>by have:=TE _ e;omega) (by omega)).trans uY.out.2.2.1
    ·exact(hks m (by have:=uY.out.2.2.2;omega) (fun e=>(HV.out.2.2 m e).1 hm) (fun e=>(hap (w.heap.size+2) (by simp)).1 (by rw[<-e];exact hm))).trans (uY.out.1 m hm h0 hml)
    ·rw[qA.out,wM.out]
     exact Qp.out▸hP9
  ·have Hf:=UK.out z (by simp)
   obtain⟨gb,gc,hvv,hgb,KP,EE⟩:=wY (A:=A) (z:=z) (by simpa using HV.out.2.1) (fun x hx=>UK.out x (by simp[hx])) Hf
   have hcap:vo=some ⟨gb,0,none⟩:=by simp at hvv;exact hvv.1
   subst hcap
   have hzl:(intCells z).length=10:=by simp[intCells,Hf]
   have hyr:=qQ HB.out
   (try simp only[List.length_append,List.length_cons,List.length_nil,Nat.zero_add] at d1)
   (try simp only[List.length_append,List.length_cons,List.length_nil,Nat.zero_add] at HV)
   (try simp only[List.length_append,List.length_cons,List.length_nil,Nat.zero_add] at hln)
   have hAI:((A.length:Int)+1==0)=false:=by simp;omega
   have hA0: ¬((A.length:Int)+1=0):=by omega
   have hA1:((A.length:Int)+1).toNat=A.length+1:=by omega
   have hAm:(A.length:Int)+1-1=A.length:=by omega
   rcases hq:(z==ys) with _|_
   ·have Qp:Hid (je (A++[z]) ys=(A++[z])++[ys]):=Lib.hid (by
     unfold je
     rw[if_neg]
     simp only[List.getLast?_append,List.getLast?_singleton]
     intro e
     simp at e
     subst e;simp at hq)
    refine bY 13 [] none [] (by kernel_rfl) (by kernel_rfl) (by kernel_rfl) ?_
    simp only[zt]
    repeat ((first|refine zn ?_|refine zk ?_);simp only[zp])
    refine dS (by rfl) (.pointer (some ⟨gb,A.length*10,none⟩)) (by rfl) (fun W hW=>by go_simp;(try simp(disch:=omega) only[IntWalk.i64_in]);(try rw[if_pos (by omega)]);(try simp);(try (intro hx;exfalso;omega))) ?_
    simp only[zp]
    refine dS (by rfl) (.agg (intCells z).toArray) (by rfl) (fun W hW=>iJ 212 _ (by rfl) gb (A.length*10) (by rfl) (intCells z) _ (fun j u hj=>(hW gb _ KP (by simp)).trans (EE j u hj)) Tryz.underlying212 rfl (by rw[hzl];kernel_rfl)) ?_
    simp only[zp]
    refine dS (by rfl) (.agg (intCells ys).toArray) (by rfl) (fun W hW=>iJ 212 _ (by rfl) W6.heap.size 0 (by rfl) (intCells ys) _ (fun j u hj=>(hW W6.heap.size _ d4 (by simp)).trans (hyr j u hj)) Tryz.underlying212 rfl (by rw[hyl];kernel_rfl)) ?_
    simp only[zp]
    refine dS (by rfl) (.bool true) (by rfl) (fun W hW=>(jL 212 3 _ 10 _ _ (by rfl) Tryz.underlying212 Tryz.underlying3 (by intro w;go_simp) (by kernel_rfl) z ys (by rfl) (by rfl) Hf ED).trans (by rw[hq];rfl)) ?_
    simp only[zp]
    repeat ((first|refine zd ?_|refine zk ?_);simp only[zp])
    intro W8 dZ hF8
    have hE:Ext [] W7 W8:=dZ
    obtain⟨hc,hf⟩:=aW hE.below
    have hz8:=hE.size
    have hb8:=HB.out
    obtain⟨y0,y1,y2,y3,y4,y5,y6,y7,y8,y9,hys⟩:=wS ED
    rw[hys] at hb8
    have uH: ∀i,W7.cell? ⟨W6.heap.size,i,none⟩=(#[iv y0,iv y1,iv y2,iv y3,iv y4,iv y5,iv y6,iv y7,iv y8,iv y9]:Array Value)[i]? :=fun i=>by
     simp only[World.cell?,hb8];rfl
    have hz9:W6.heap.size<W8.heap.size:=by omega
    have Ho:=ah (Ms:=[]) HV.out.2.1 hE (by simp)
    have fV:=Lib.hid hE
    have HOW:=Lib.hid Ho
    have wM:=Lib.hid hys
    clear hE dZ hF8 hb8 Ho hys
    gi_wp2_with (gi_at_builtin;go_loud (refine qm (fun _=>trivial) rfl rU rfl _ _ QU rfl (w.heap.size+7) (.slice (some ⟨gb,0,none⟩) (A.length+1) vc) (A.length+1) (List.flatMap intCells (A++[z])) rfl ?_ (.slice (some ⟨W8.heap.size,0,none⟩) 1 1) 1 (intCells [y0,y1,y2,y3,y4,y5,y6,y7,y8,y9]) rfl ?_ (iT _) (by omega) (by omega) (by simp;omega) ?_))
    ·refine ah (Ms:=[]) (w:=W8) ?_ (Ext.of_below ((Below.refl _ _).alloc (Nat.le_refl _) _)) (by simp)
     simpa using HOW.out
    ·exact aB.of_block 10 1 (ag _ _) rfl (by decide)
    ·intro v' W9 hown hgr hown'
     obtain⟨o9,c9,rfl⟩:=aK hown
     have uU:=Lib.hid hown
     have ZK:=Lib.hid hgr
     have HN9:=Lib.hid hown'
     have TE:=aZ HV.out.2.1
     have qc: ∀b,b<w.heap.size+7->b<W7.heap.size->W9.heap[b]? =W7.heap[b]? :=fun b hb hb7=>by
      refine(hgr.block b (by simp;omega) (fun e=>?_)).trans ((Below.heap_alloc _ _ _ (by omega)).trans (fV.out.block b hb7 (by simp)))
      have:=TE b e.symm
      omega
     have hc9:=hc
     have Hf:W8.heap.size<W9.heap.size:=by have:=hgr.size;simp at this;omega
     have e1:W9.cell? ⟨w.heap.size+1+1,0,none⟩=some (.slice (some ⟨gb,0,none⟩) (A.length+1) vc):=ay ((qc _ (by omega) d3).trans HV.out.1)
     have e2:W9.frozen? ⟨w.heap.size+1+1,0,none⟩=false:=aX ((qc _ (by omega) d3).trans HV.out.1) 0
     have e3:=World.block_lt_of_cell? W9 _ e1
     have BH:=Lib.hid qc
     clear hown hgr hown' qc hc9 uH hc hf TE
     gi_wp2_with fail
     rw[wM.out] at Qp
     obtain⟨⟨ZZ,hP9⟩,hks,OQ⟩:=Nq (ls:=(A++[z])) (ys:=[y0,y1,y2,y3,y4,y5,y6,y7,y8,y9]) su.out U5.out HV.out.1 (fun g hg=>⟨aZ HV.out.2.1 g hg,(HV.out.2.2 g hg).1⟩) fV.out ZK.out HN9.out (by simpa using uU.out) hmb hw7
     have TE:=aZ HV.out.2.1
     have hap:=su.out.apart
     refine⟨⟨?_,?_,fun m hm h0 hml=>?_,by have:=uY.out.2.2.2;omega⟩,ZZ,?_⟩
     ·exact(hks _ (by omega) (fun e=>by have:=TE _ e;omega) (by omega)).trans uY.out.2.1
     ·exact(hks _ (by omega) (fun e=>by have:=TE _ e;omega) (by omega)).trans uY.out.2.2.1
     ·exact(hks m (by have:=uY.out.2.2.2;omega) (fun e=>(HV.out.2.2 m e).1 hm) (fun e=>(hap (w.heap.size+2) (by simp)).1 (by rw[<-e];exact hm))).trans (uY.out.1 m hm h0 hml)
     ·rw[qA.out,wM.out]
      exact Qp.out▸hP9
   ·obtain rfl:z=ys:=by simpa using hq
    have Qp:Hid (je (A++[z]) z=A++[z]):=Lib.hid (by
     unfold je
     rw[if_pos]
     simp)
    refine bY 13 [] none [] (by kernel_rfl) (by kernel_rfl) (by kernel_rfl) ?_
    simp only[zt]
    repeat ((first|refine zn ?_|refine zk ?_);simp only[zp])
    refine dS (by rfl) (.pointer (some ⟨gb,A.length*10,none⟩)) (by rfl) (fun W hW=>by go_simp;(try simp(disch:=omega) only[IntWalk.i64_in]);(try rw[if_pos (by omega)]);(try simp);(try (intro hx;exfalso;omega))) ?_
    simp only[zp]
    refine dS (by rfl) (.agg (intCells z).toArray) (by rfl) (fun W hW=>iJ 212 _ (by rfl) gb (A.length*10) (by rfl) (intCells z) _ (fun j u hj=>(hW gb _ KP (by simp)).trans (EE j u hj)) Tryz.underlying212 rfl (by rw[hzl];kernel_rfl)) ?_
    simp only[zp]
    refine dS (by rfl) (.agg (intCells z).toArray) (by rfl) (fun W hW=>iJ 212 _ (by rfl) W6.heap.size 0 (by rfl) (intCells z) _ (fun j u hj=>(hW W6.heap.size _ d4 (by simp)).trans (hyr j u hj)) Tryz.underlying212 rfl (by rw[hzl];kernel_rfl)) ?_
    simp only[zp]
    refine dS (by rfl) (.bool false) (by rfl) (fun W hW=>(jL 212 3 _ 10 _ _ (by rfl) Tryz.underlying212 Tryz.underlying3 (by intro w;go_simp) (by kernel_rfl) z z (by rfl) (by rfl) Hf Hf).trans (by simp)) ?_
    simp only[zp]
    repeat ((first|refine zd ?_|refine zk ?_);simp only[zp])
    intro W8 dZ hF8
    have hE:Ext [] W7 W8:=dZ
    obtain⟨hc,hf⟩:=aW hE.below
    have hz8:=hE.size
    have fV:=Lib.hid hE
    clear hE dZ hF8
    gi_wp2_with fail
    have hap:=su.out.apart
    refine⟨⟨?_,?_,fun m hm h0 hml=>?_,by have:=uY.out.2.2.2;omega⟩,(su.out.step (fV.out.nil) (fun m hm=> .inl hm) (su.out.cache.kept (fV.out.block mb su.out.cache.lt (by simp)))).1,?_⟩
    ·exact(fV.out.block _ (hap (w.heap.size+6) (by simp)).2 (by simp)).trans uY.out.2.1
    ·exact(fV.out.block _ (hap (w.heap.size+5) (by simp)).2 (by simp)).trans uY.out.2.2.1
    ·exact(fV.out.block m (by have:=uY.out.2.2.2;omega) (by simp)).trans (uY.out.1 m hm h0 hml)
    ·rw[qA.out,Qp.out]
     exact U5.out.kept fV.out.size (fun b h1 h2=>fV.out.block b (by omega) (by simp)) (fun g h1 h2 h3=>fV.out.block g h2 (by simp)) (fun m hm=> .inl hm)
 case hdone=>
  rintro Ms W ⟨hF,hP⟩ hD hlt
  rw[yg] at hP
  obtain⟨v,hv1,hv2,hv3⟩:=hP.out
  obtain⟨vo,vc,rfl⟩:=aK hv2
  have hc:=ay hv1
  have hf:=aX hv1 0
  have hk:=World.block_lt_of_cell? W _ hc
  have HF:=Lib.hid hF
  have HV:=Lib.hid (And.intro hv1 hv2)
  clear hF hP hv1 hv2 hv3
  gi_wp2_with fail
  rw[hsz2] at hD
  have hD':(W.setCell ⟨w.heap.size+1+1,0,none⟩ (.slice vo (kW h turns).length vc)).heap[w.heap.size+5]? =some (.deferred (some [])):=(Below.heap_setCell _ _ _ _ (by show w.heap.size+5≠w.heap.size+1+1;omega)).trans hD
  have hcell:((W.setCell ⟨w.heap.size+1+1,0,none⟩ (.slice vo (kW h turns).length vc)).putObj (w.heap.size+5) (.deferred none)).cell? ⟨w.heap.size+1+1,0,none⟩=some (.slice vo (kW h turns).length vc):=
   ay ((World.putObj_heap_other (by omega)).trans (ak HV.out.1 _))
  refine⟨by simp,.inl ⟨_,_,rfl,run_takeDeferred hD',?_⟩⟩
  have hF2:=(HF.out.own (HF.out.ext.set (p:=⟨w.heap.size+1+1,0,none⟩) (by show w.heap.size<=w.heap.size+1+1;omega) (.slice vo (kW h turns).length vc)) (by simp[World.setCell]) (HF.out.cache.kept (Below.heap_setCell _ _ _ _ (by show mb≠w.heap.size+1+1;omega)))).put (Obj.deferred none) (r:=w.heap.size+5) (by omega) hmb
  refine⟨.slice vo (kW h turns).length vc,by simp[results,Tryz.results148,go_sem,hcell],_,rfl,?_,hF2.cache,hF2.ext⟩
  refine bH (cZ HV.out.2 fun g hg=>(World.putObj_heap_other ?_).trans (Below.heap_setCell _ _ _ _ ?_)) (by omega)
  ·have:=(aZ HV.out.2 g hg).1;omega
  ·have:=(aZ HV.out.2 g hg).1;show g≠w.heap.size+1+1;omega
 case hstop=>rintro cd Ms W h;exact h.elim
end Go.Proofs.YtabpkkbiioihaaaGreatDoor.kK
end
section
namespace Go.Proofs.YtabpkkbiioihaaaGreatDoor.kK
open Go.RowKit Go.RG Go.SL Go.Shelf gZ
end Go.Proofs.YtabpkkbiioihaaaGreatDoor.kK
namespace Go.Proofs.YtabpkkbiioihaaaGreatDoor.kK
open Go.RowKit Go.RG Go.SL Go.Shelf gZ
def jd (w:World) (v:Value) (ls:List (List Int)):Prop:=aB 10 w v ls.length (ls.flatMap intCells)/\ ∀x∈ls,x.length=10
theorem jd.len {w:World} {v:Value} {ls:List (List Int)} (h:jd w v ls):ls.length<=9223372036854775807:=aB.len h.1
theorem jd.open {w:World} {v:Value} {ls:List (List Int)} (h:jd w v ls): ∃o c,v= .slice o ls.length c:=aB.open h.1
theorem jd.below {w w':World} {v:Value} {ls:List (List Int)} (h:jd w v ls) (hb:Below w.heap.size w w'):jd w' v ls:=⟨h.1.below hb (Nat.le_refl _),h.2⟩
theorem jd.cell {w:World} {o:Option Addr} {c:Nat} {ls:List (List Int)} (h:jd w (.slice o ls.length c) ls) {k:Nat} (hk:k<ls.length):
 ∃b off,o=some ⟨b,off,none⟩/\b<w.heap.size/\w.rangeAt b (off+k*10) (intCells ls[k]):=by
 obtain⟨⟨hl,o',c',hv,h1,h2,h3,h4⟩,h10⟩:=h
 cases hv
 cases o with
 |none=>have:=h3 rfl;omega
 |some a=>
  obtain⟨b,off,sp⟩:=a
  obtain⟨hs,hc⟩:=h4 _ rfl
  simp only at hs hc
  subst hs
  have hat: ∀j u,(intCells ls[k])[j]? =some u->w.cell? ⟨b,off+k*10+j,none⟩=some u:=fun j u hj=>by
   have hj':j<10:=by have:=(List.getElem?_eq_some_iff.1 hj).1;simpa [intCells,h10 _ (List.getElem_mem hk)] using this
   have:=hc (k*10+j) u (by rw[Hz intCells 10 ls (fun x hx=>by simp[intCells,h10 x hx]) k j hk hj'];exact hj)
   rw[<-Nat.add_assoc] at this
   exact this
  have h0:ls[k].length=10:=h10 _ (List.getElem_mem hk)
  have:=hat 0 (iv (ls[k][0]'(by omega))) (by simp[intCells])
  exact⟨b,off,rfl,World.block_lt_of_cell? w _ this,hat⟩
theorem ad4 (l:List (List Int)) (v:Value) (aI:Nat) (fst caps:Array Value) (p:Nat->Bool) (I:Nat->World->Prop) (w:World) (eg: ∀args w,(callFunc aI args).run Tryz.prog w= .ok (.enter aI args) w)
 (hsl: ∀k W,I k W->jd W v l)
 (hcall: ∀k (hk:k<l.length) W,(∀j,j<k->p j=false)->I k W->Calls Tryz.prog aI (fst.push (jk l[k])++caps) W (fun e W'=>e= .returned (.bool (p k))/\I (k+1) W')) (h0:I 0 w):
 Calls Tryz.prog 201 #[v,.func (.func aI) fst caps] w (dA l.length p I (fun k=>iv k) (iv (-1))):=by
 have hlen:=(hsl 0 w h0).len
 have h10:=(hsl 0 w h0).2
 obtain⟨o,c,rfl⟩:=(hsl 0 w h0).open
 have HC:=Lib.hid hcall
 have HS:=Lib.hid hsl
 have HT:=Lib.hid h10
 clear hcall hsl h10
 go_enter Tryz.func201,Tryz.ntmps201
 go_wp2
 go_loopw [4,5,8] (fun _ _ i wr=> ∃k:Nat,k<=l.length/\i= .int .i64 k/\(∀j,j<k->p j=false)/\I k wr) (fun _ _ i _=>l.length-(intOf i).toNat)
 case atStart=>exact⟨0,Nat.zero_le _,rfl,fun j hj=>by omega,h0⟩
 case round=>
  obtain⟨k,hk,rfl,hno,hI⟩:=hrel
  by_cases hlt:k<l.length
  ·obtain⟨b,off,rfl,hb,EE⟩:=jd.cell (HS.out k wr hI) hlt
   have hC:=HC.out k hlt wr hno hI
   have hyl:(intCells l[k]).length=10:=by simp[intCells,HT.out _ (List.getElem_mem hlt)]
   have KO:(k:Int)<l.length:=by omega
   have HN:=Lib.hid hno
   clear hno
   generalize l[k]=ys at*
   go_wp2_with (refine wpList_load_mid rfl 212 _ rfl b (off+k*10) rfl (intCells ys) _ EE Tryz.underlying212 rfl (by rw[hyl];kernel_rfl) ?_)
   refine hC.mono ?_
   rintro e W1 ⟨rfl,hI1⟩
   have HI:=Lib.hid hI1
   clear hI1 hI hC
   cases hp:p k
   ·go_wp2_with fail
    go_roundw
    case rel=>exact⟨k+1,by omega,by go_num,fun j hj=>(by by_cases e:j=k;(subst e;exact hp);exact HN.out j (by omega)),HI.out⟩
    case measure=>simp[intOf];omega
   ·go_wp2_with fail
    go_returns
    exact⟨k,by omega,HN.out,.inl ⟨hlt,hp,by simp,HI.out⟩⟩
  ·have hkl:k=l.length:=by omega
   have HN:=Lib.hid hno
   clear hno
   go_wp2_with fail
   go_returns
   exact⟨k,by omega,HN.out,.inr ⟨hkl,by simp,by subst hkl;exact hI⟩⟩
theorem XF (l:List (List Int)) (v:Value) (aI:Nat) (fst caps:Array Value) (p:Nat->Bool) (I:Nat->World->Prop) (w:World) (eg: ∀args w,(callFunc aI args).run Tryz.prog w= .ok (.enter aI args) w)
 (hsl: ∀k W,I k W->jd W v l)
 (hcall: ∀k (hk:k<l.length) W,(∀j,j<k->p j=false)->I k W->Calls Tryz.prog aI (fst.push (jk l[k])++caps) W (fun e W'=>e= .returned (.bool (p k))/\I (k+1) W')) (h0:I 0 w):
 Calls Tryz.prog 151 #[v,.func (.func aI) fst caps] w (dA l.length p I (fun _=> .bool true) (.bool false)):=by
 have HI:=Lib.hid (ad4 l v aI fst caps p I w eg hsl hcall h0)
 have hlen:=(hsl 0 w h0).len
 clear hsl hcall h0 eg
 go_enter Tryz.func151,Tryz.ntmps151
 go_wp2_with fail
 refine HI.out.mono ?_
 clear HI
 rintro e W' ⟨k,hk,hno,⟨hlt,hp,rfl,hI⟩|⟨hkl,rfl,hI⟩⟩
 ·have HN:=Lib.hid (And.intro hno (And.intro hp hI))
  clear hno hp hI
  go_wp2_with fail
  go_returns
  exact⟨k,hk,HN.out.1,.inl ⟨hlt,HN.out.2.1,by simp,HN.out.2.2⟩⟩
 ·have HN:=Lib.hid (And.intro hno (And.intro hkl hI))
  clear hno hkl hI
  go_wp2_with fail
  go_returns
  exact⟨k,hk,HN.out.1,.inr ⟨HN.out.2.1,by simp,HN.out.2.1▸HN.out.2.2⟩⟩
theorem acy (x:List Int) (h10:x.length=10) (bx aI:Nat) (fst caps:Array Value) (b:Bool) (W:World) (R:World->Prop) (eg: ∀args w,(callFunc aI args).run Tryz.prog w= .ok (.enter aI args) w)
 (hbx:W.cell? ⟨bx,0,none⟩=some (.func (.func aI) fst caps))
 (hcall:Calls Tryz.prog aI (fst.push (jk x)++caps) (W.alloc (.cells (intCells x).toArray 212)) (fun e W'=>e= .returned (.bool b)/\R W')):
 Calls Tryz.prog 198 #[jk x,.pointer (some ⟨bx,0,none⟩)] W (fun e W'=>e= .returned (.bool !b)/\R W'):=by
 have hlt:=World.block_lt_of_cell? W _ hbx
 obtain⟨y0,y1,y2,y3,y4,y5,y6,y7,y8,y9,rfl⟩:=wS h10
 have HC:=Lib.hid hcall
 clear hcall
 show Calls Tryz.prog 198 #[.agg #[iv y0,iv y1,iv y2,iv y3,iv y4,iv y5,iv y6,iv y7,iv y8,iv y9],.pointer (some ⟨bx,0,none⟩)] W _
 go_enter Tryz.func198,Tryz.ntmps198
 go_wp2_with fail
 refine HC.out.mono ?_
 rintro e W' ⟨rfl,hR⟩
 have HR:=Lib.hid hR
 clear hR
 go_wp2_with fail
 go_returns
 exact⟨by simp,HR.out⟩
theorem PY (l:List (List Int)) (v:Value) (aI:Nat) (fst caps:Array Value) (q:List Int->Bool) (w:World) (hv:jd w v l) (eg: ∀args w,(callFunc aI args).run Tryz.prog w= .ok (.enter aI args) w)
 (hcall: ∀x∈l, ∀W,Below w.heap.size w W->Calls Tryz.prog aI (fst.push (jk x)++caps) W (PV (.bool (q x)) W)):
 Calls Tryz.prog 149 #[v,.func (.func aI) fst caps] w (PV (.bool (l.all q)) w):=by
 have HI:=Lib.hid (XF l v 198 #[] #[.pointer (some ⟨w.heap.size,0,none⟩)] (fun k=>!q (l.getD k []))
  (fun k W=>Below w.heap.size w W/\W.heap[w.heap.size]? =some (.cells #[.func (.func aI) fst caps] 213 (0,0))) (w.alloc (.cells #[.func (.func aI) fst caps] 213))
  (enters_of Tryz.func198 (by kernel_rfl) rfl) (fun k W h=>hv.below h.1)
  (fun k hk W hno h=>by
    have hlt:w.heap.size<W.heap.size:=(Array.getElem?_eq_some_iff.1 h.2).1
    have hgd:l.getD k []=l[k]:=by simp[List.getD,hk]
    rw[hgd]
    refine(acy l[k] (hv.2 _ (List.getElem_mem hk)) w.heap.size aI fst caps (q l[k]) W (fun W'=>Below w.heap.size w W'/\W'.heap[w.heap.size]? =some (.cells #[.func (.func aI) fst caps] 213 (0,0))) eg (ay h.2) ?_)
    refine(hcall l[k] (List.getElem_mem hk) _ (af h.1 _)).mono ?_
    rintro e W' ⟨rfl,hb⟩
    refine⟨rfl,aH (af h.1 _) hb,(hb.block _ (by simp;omega)).trans ((Below.heap_alloc _ _ _ hlt).trans h.2)⟩)
  ⟨af (Below.refl _ _) _,heap_alloc_new w _⟩)
 have hlen:=hv.len
 obtain⟨bb,hbb⟩: ∃bb,l.all q=bb:=⟨_,rfl⟩
 rw[hbb]
 have HQ:Hid (((List.range l.length).any fun k=>!q (l.getD k []))=!bb):=Lib.hid (by rw[<-hbb, <-iC l q [],List.all_eq_not_any_not];simp)
 clear hcall eg hv hbb
 go_enter Tryz.func149,Tryz.ntmps149
 go_wp2_with fail
 refine HI.out.mono ?_
 clear HI
 intro e W' hpost
 obtain⟨rfl,k,_,hI,_⟩:=hpost.all
 have HB:=Lib.hid hI
 rw[HQ.out]
 clear hI hpost
 cases bb
 all_goals
  go_wp2_with fail
  go_returns
  exact⟨by simp,HB.out⟩
theorem Lp (l:List (List Int)) (v:Value) (aI:Nat) (fst caps:Array Value) (q:List Int->Bool) (w:World) (hv:jd w v l) (eg: ∀args w,(callFunc aI args).run Tryz.prog w= .ok (.enter aI args) w)
 (hcall: ∀x∈l, ∀W,Below w.heap.size w W->Calls Tryz.prog aI (fst.push (jk x)++caps) W (PV (.bool (q x)) W)):
 Calls Tryz.prog 151 #[v,.func (.func aI) fst caps] w (PV (.bool (l.any q)) w):=by
 refine(XF l v aI fst caps (fun k=>q (l.getD k [])) (fun _ W=>Below w.heap.size w W) w eg (fun k W h=>hv.below h) (fun k hk W _ h=>?_) (Below.refl _ _)).mono ?_
 ·have hgd:l.getD k []=l[k]:=by simp[List.getD,hk]
  rw[hgd]
  refine(hcall l[k] (List.getElem_mem _) W h).mono ?_
  rintro e W' ⟨rfl,hb⟩
  exact⟨rfl,aH h hb⟩
 ·intro e W' hpost
  obtain⟨rfl,k,_,hI⟩:=hpost.all
  refine⟨?_,hI⟩
  have:=iC l (fun x=>!q x) []
  have e2:((List.range l.length).any fun k=>q (l.getD k []))=l.any q:=by
   rw[List.any_eq_not_all_not,this,List.any_eq_not_all_not]
  rw[e2]
  cases l.any q <;>rfl
end Go.Proofs.YtabpkkbiioihaaaGreatDoor.kK
namespace Go.Proofs.YtabpkkbiioihaaaGreatDoor.kK
open Go.RowKit Go.RG Go.SL Go.Shelf gZ
theorem tH {h:bF} {turns:List Int} (he:jv h turns=0):Sound h:=by
 unfold jv at he
 split at he
 ·rename_i hf;exact absurd he hf
 ·rename_i hf;exact FY (by simpa using hf)
def uC (h:bF) (turns:List Int):Int:=
 if jv h turns≠0 then 0 else if(kW h turns).all (qx h)=true then 1 else if(kW h turns).any (qx h)=true then 3 else 2
theorem Qi (h:bF) (wv tv qC MI:Value) (turns:List Int) (w:World) (hw:bn w wv h.bg) (ht:aN w tv h.turns) (hx:aT w qC h.readings) (htr:aN w MI turns):
 Calls Tryz.prog 95 #[hv h wv tv qC,MI] w (fun e w'=>e= .returned (.tuple #[iv (uC h turns),iv (jv h turns)])/\Below w.heap.size w w'):=by
 obtain⟨ow,cw,rfl⟩:=hw.open
 obtain⟨ot,ct,rfl⟩:=ht.open
 obtain⟨ox,cx,rfl⟩:=hx.open
 have HW:=Lib.hid hw
 have HT:=Lib.hid ht
 have HX:=Lib.hid hx
 clear hw ht hx
 obtain⟨oq,cq,rfl⟩:=htr.open
 have HQ:=Lib.hid htr
 clear htr
 obtain⟨E,hE⟩: ∃E,jv h turns=E:=⟨_,rfl⟩
 obtain⟨V,hV⟩: ∃V,uC h turns=V:=⟨_,rfl⟩
 rw[hE,hV]
 have HE:=Lib.hid hE
 have HV:=Lib.hid hV
 clear hE hV
 go_enter Tryz.func95,Tryz.ntmps95
 go_wp2_with fail
 refine(xC h _ _ _ _ turns _ (HW.out.alloc _) (HT.out.alloc _) (HX.out.alloc _) (HQ.out.alloc _)).mono ?_
 rintro e w1 ⟨hb,⟨hne,rfl⟩|⟨h0,wb,mb,rfl,hwb,hmb,hwk⟩⟩
 ·rw[HE.out] at hne⊢
  have hv0:V=0:=by
   have hne':jv h turns≠0:=by rw[HE.out];exact hne
   rw[<-HV.out]
   unfold uC
   rw[if_pos hne']
  subst hv0
  have HB:=Lib.hid hb
  clear hb
  go_wp2_with fail
  go_returns
  exact⟨by simp,aH (af (Below.refl _ _) _) HB.out⟩
 ·have hE0:E=0:=by rw[<-HE.out];exact h0
  subst hE0
  have HB:=Lib.hid hb
  have hS:=tH h0
  have HEV:=Lib.hid (Ph h hS _ _ _ _ turns wb mb w1 hwk ((HW.out.alloc _).below hb (Nat.le_refl _)) ((HT.out.alloc _).below hb (Nat.le_refl _)) ((HX.out.alloc _).below hb (Nat.le_refl _)) ((HQ.out.alloc _).below hb (Nat.le_refl _)))
  have YG:w.heap.size+1<=mb:=by simpa using hmb
  have hl0:=hS.Sr
  have hl9:=hS.GR
  have hbx:w1.heap[w.heap.size]? =some (.cells #[.int .i64 h.last,.int .i64 h.size,.int .i64 h.aY,.int .i64 h.die,.int .i64 h.pI,.int .i64 h.start.1,.int .i64 h.start.2,.slice ow h.bg.length cw,.slice ot h.turns.length ct,.slice ox h.readings.length cx] 39 (0,0)):=(hb.block _ (by simp)).trans (ag _ _)
  have HVV:Hid (V=if(kW h turns).all (qx h)=true then 1 else if(kW h turns).any (qx h)=true then 3 else 2):=Lib.hid (by
   rw[<-HV.out];unfold uC;rw[if_neg (by rw[h0];simp)])
  have SH:=KU (h:=h) (turns:=turns)
  generalize kW h turns=ls at*
  have HBX:=Lib.hid hbx
  have UK:=Lib.hid SH
  clear hb hwk h0 hS hbx SH
  go_wp2_with fail
  refine HEV.out.mono ?_
  rintro e w2 ⟨v,rfl,hown,hcc,hE2⟩
  have hB2:=iF (aH (af (Below.refl _ _) _) HB.out) hE2 (by omega)
  have hbx2:=(hE2.block w.heap.size (Array.getElem?_eq_some_iff.1 HBX.out).1 (by simp;omega)).trans HBX.out
  have hsl:jd w2 v ls:=⟨aB.dn hown,UK.out⟩
  obtain⟨vo,vc,rfl⟩:=aK hown
  have hc0: ∀i,w2.cell? ⟨w.heap.size,i,none⟩=(#[.int .i64 h.last,.int .i64 h.size,.int .i64 h.aY,.int .i64 h.die,.int .i64 h.pI,.int .i64 h.start.1,.int .i64 h.start.2,.slice ow h.bg.length cw,.slice ot h.turns.length ct,.slice ox h.readings.length cx]:Array Value)[i]? :=fun i=>by
   simp only[World.cell?,hbx2];rfl
  have hs2:=(Array.getElem?_eq_some_iff.1 hbx2).1
  have HB2:=Lib.hid hB2
  have HSL:=Lib.hid hsl
  clear hown hcc hE2 hsl hB2 hbx2
  go_wp2_with fail
  have hkc: ∀x∈ls, ∀W,Calls Tryz.prog 150 ((#[hv h (.slice ow h.bg.length cw) (.slice ot h.turns.length ct) (.slice ox h.readings.length cx)]:Array Value).push (jk x)++ #[]) W (PV (.bool (qx h x)) W):=
   fun x hx W=>Sv h ow ot ox _ _ _ _ _ _ x (UK.out x hx) W hl0 hl9
  have HKC:=Lib.hid hkc
  clear hkc
  refine(PY ls (.slice vo ls.length vc) 150 #[hv h (.slice ow h.bg.length cw) (.slice ot h.turns.length ct) (.slice ox h.readings.length cx)] #[] (qx h) w2 HSL.out (enters_of Tryz.func150 (by kernel_rfl) rfl) (fun x hx W _=>HKC.out x hx W)).mono ?_
  rintro e w3 ⟨rfl,hb3⟩
  have HB3:=Lib.hid hb3
  have hc3: ∀i,w3.cell? ⟨w.heap.size,i,none⟩=(#[.int .i64 h.last,.int .i64 h.size,.int .i64 h.aY,.int .i64 h.die,.int .i64 h.pI,.int .i64 h.start.1,.int .i64 h.start.2,.slice ow h.bg.length cw,.slice ot h.turns.length ct,.slice ox h.readings.length cx]:Array Value)[i]? :=fun i=>(hb3.cell (p:=⟨w.heap.size,i,none⟩) hs2).trans (hc0 i)
  clear hb3 hc0
  obtain⟨A,hA⟩: ∃A,ls.all (qx h)=A:=⟨_,rfl⟩
  rw[hA] at HVV⊢
  clear hA
  cases A
  ·go_wp2_with fail
   refine(Lp ls (.slice vo ls.length vc) 150 #[hv h (.slice ow h.bg.length cw) (.slice ot h.turns.length ct) (.slice ox h.readings.length cx)] #[] (qx h) w3 (HSL.out.below HB3.out) (enters_of Tryz.func150 (by kernel_rfl) rfl) (fun x hx W _=>HKC.out x hx W)).mono ?_
   rintro e w4 ⟨rfl,hb4⟩
   have HB4:=Lib.hid hb4
   clear hb4 hc3
   obtain⟨A,hA⟩: ∃A,ls.any (qx h)=A:=⟨_,rfl⟩
   rw[hA] at HVV⊢
   clear hA
   cases A
   all_goals
    go_wp2_with fail
    go_returns
    exact⟨by rw[HVV.out];simp,aH (aH HB2.out HB3.out) HB4.out⟩
  ·go_wp2_with fail
   go_returns
   exact⟨by rw[HVV.out];simp,aH HB2.out HB3.out⟩
end Go.Proofs.YtabpkkbiioihaaaGreatDoor.kK
namespace Go.Proofs.YtabpkkbiioihaaaGreatDoor.kK
open Go.RowKit Go.RG Go.SL Go.Shelf gZ
end Go.Proofs.YtabpkkbiioihaaaGreatDoor.kK
namespace Go.Proofs.YtabpkkbiioihaaaGreatDoor.kK
open Go.RowKit Go.RG Go.SL Go.Shelf gZ
end Go.Proofs.YtabpkkbiioihaaaGreatDoor.kK
end

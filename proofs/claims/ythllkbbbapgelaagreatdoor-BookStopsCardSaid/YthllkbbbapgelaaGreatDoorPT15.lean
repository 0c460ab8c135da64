/-
  Texts of this claim, packed by a program: DX DY DZ EA EB EC ED EK FA HA HB FD HC EE EG YK FB.
-/
import Derived.WalkKit
import Derived.WalkLawsBesides
import Derived.WalkSpells
import Derived.Outline
import Derived.Handy
import Derived.KernelRfl
import Derived.Lib.Hide
import Derived.Lib.BufferWrite
import Derived.Laws.CopyOwn
import Derived.Laws.BytesArg
import Derived.BigRegion
import Derived.Laws.Cover3
import Derived.Scope
import Derived.Lib.Builder
import Derived.Lib.AppendStr
import Derived.Lib.UnsafeStr
import Derived.Laws.Externs
import Derived.Test.YthllkbbbapgelaaGreatDoorPT14
set_option maxHeartbeats 8000000
set_option maxRecDepth 100000
set_option linter.all false
section
namespace Go.Proofs.YthllkbbbapgelaaGreatDoor.Bk
open Go.RowKit Go.RG Go.SL Go.Shelf jl Go.TB Go.Proofs.YthllkbbbapgelaaGreatDoor.zo
abbrev fQ:Array Value:=
 #[iv 0,iv 0,iv 0,iv 0,.slice none 0 0,iv 0,iv 0,iv 0,.slice none 0 0,iv 0,iv 0,iv 0,iv 0,iv 0,iv 0,iv 0,.slice none 0 0,.slice none 0 0,.slice none 0 0,.slice none 0 0,.slice none 0 0,.slice none 0 0]
abbrev yw (hp:Value) (wt:Value):Array Value:=
 #[iv 3,iv 2,iv 0,iv 3,.slice none 0 0,iv 10,iv 0,iv 2000,.slice none 0 0,iv 4,iv 10,iv 50,iv 10,iv 60,iv 30,iv 30,wt,.slice none 0 0,.slice none 0 0,hp,.slice none 0 0,.slice none 0 0]
theorem WU (w:World):Calls Tryz.prog 63 #[] w (fun e w'=>Below w.heap.size w w'/\ ∃V es,e= .returned (.agg (dR dY V))/\pM w' dY V es/\ ∀Ms:List Nat,(∀m∈Ms,m<w.heap.size)-> ∀W',Ext Ms w' W'->pM W' dY V es):=by
 go_enter Tryz.func63,Tryz.ntmps63
 go_upto_region 1 with(fail)
 refine dM fun W1 hW1=>?_
 have hb1:Below w.heap.size w W1:=by rw[hW1];exact ak (aH _ _) _
 have hk1: ∃cs,W1.heap[w.heap.size]? =some (.cells cs 62 (0,0))/\cs.size=22:=by rw[hW1];exact⟨_,ay _ _,rfl⟩
 have hs1:W1.heap.size=w.heap.size+1:=by rw[hW1];simp
 have HB1:=ae hb1
 have XN:=ae hk1
 clear hW1 hb1 hk1
 refine wp_region_lit ?_
 refine aP rfl (w':=W1) (.agg #[iv 0,iv 3]) (by as_aux_lemma=>kernel_rfl) ?_
 simp only[zp]
 refine aP rfl (w':=W1) (.agg #[iv 3,iv 2,iv 0,iv 3,.slice none 0 0]) (by as_aux_lemma=>kernel_rfl) ?_
 simp only[zp]
 refine aP rfl (w':=W1) (.agg #[iv 0,iv 2000]) (by as_aux_lemma=>kernel_rfl) ?_
 simp only[zp]
 refine aP rfl (w':=W1) (.agg #[iv 3,iv 2,iv 0,iv 3,.slice none 0 0,iv 10,iv 0,iv 2000,.slice none 0 0]) (by as_aux_lemma=>kernel_rfl) ?_
 simp only[zp]
 refine aP rfl (w':=W1) (.agg #[iv 30,iv 30]) (by as_aux_lemma=>kernel_rfl) ?_
 simp only[zp]
 refine aP rfl (w':=W1) (.agg #[iv 4,iv 10,iv 50,iv 10,iv 60,iv 30,iv 30,.slice none 0 0,.slice none 0 0,.slice none 0 0]) (by as_aux_lemma=>kernel_rfl) ?_
 simp only[zp]
 refine aP rfl (w':=W1) (.agg #[iv 40,iv 40]) (by as_aux_lemma=>kernel_rfl) ?_
 simp only[zp]
 refine aP rfl (w':=W1.alloc (.cells #[iv 40,iv 40] 129 (0,0))) (.slice (some ⟨W1.heap.size,0,none⟩) 1 1) (by go_simp;try rfl) ?_
 simp only[zp]
 obtain⟨W2,hW2⟩: ∃W2,W2=W1.alloc (.cells #[iv 40,iv 40] 129 (0,0)):=⟨_,rfl⟩
 rw[<-hW2]
 have hb2:Below w.heap.size w W2:=by rw[hW2];exact ak HB1.o _
 have hk2:=XN.o
 obtain⟨cs,hcs,hcz⟩:=hk2
 have hk2:W2.heap[w.heap.size]? =some (.cells cs 62 (0,0)):=by rw[hW2];exact(heap_alloc_old _ _ (by omega)).trans hcs
 have hh2:W2.heap[W1.heap.size]? =some (.cells #[iv 40,iv 40] 129 (0,0)):=by rw[hW2];exact ay _ _
 have hs2:W2.heap.size=w.heap.size+2:=by rw[hW2];simp;omega
 rw[hs1]
 rw[hs1] at hh2
 clear hW2
 refine aP rfl (w':=W2) (.agg #[.slice (some ⟨w.heap.size+1,0,none⟩) 1 1,.slice none 0 0,.slice none 0 0]) (by as_aux_lemma=>kernel_rfl) ?_
 simp only[zp]
 refine aP rfl (w':=W2) (.agg (yw (.slice (some ⟨w.heap.size+1,0,none⟩) 1 1) (.slice none 0 0))) (by as_aux_lemma=>kernel_rfl) ?_
 simp only[zp]
 refine aP rfl (w':=(W2.alloc (.cells fQ 62 (0,0)))) (.pointer (some ⟨W2.heap.size,0,none⟩)) (by go_simp;try rfl) ?_
 simp only[zp]
 rw[hs2]
 refine wpList_store_row rfl _ _ _ rfl (w.heap.size+2) (yw (.slice (some ⟨w.heap.size+1,0,none⟩) 1 1) (.slice none 0 0)) (by as_aux_lemma=>kernel_rfl) (by as_aux_lemma=>kernel_rfl) _ fQ (by rw[<-hs2];exact ay _ _) (by kernel_rfl) (by as_aux_lemma=>kernel_rfl) (by as_aux_lemma=>kernel_rfl) ?_
 simp only[zp]
 refine kM fun W3 hW3=>?_
 have agW:W3.heap[w.heap.size+2]? =some (.cells (yw (.slice (some ⟨w.heap.size+1,0,none⟩) 1 1) (.slice none 0 0)) 62 (0,0)):=by
  rw[hW3];exact setRow_heap _ _ _ _ _ _ (by rw[<-hs2];exact ay _ _)
 obtain⟨BA,nX⟩: ∃BA,BA=W2.alloc (.cells fQ 62 (0,0)):=⟨_,rfl⟩
 rw[<-nX] at hW3
 have xZ:Ext [w.heap.size+2] BA W3:=by rw[hW3];exact gB
 have hs2':BA.heap.size=w.heap.size+3:=by rw[nX];simp;omega
 have hb3:Below w.heap.size w W3:=jA (by rw[nX];exact ak hb2 _) xZ (by omega)
 have hs3:=xZ.size
 have hk3:W3.heap[w.heap.size]? =some (.cells cs 62 (0,0)):=(xZ.block _ (by omega) (by simp)).trans (by rw[nX];exact(heap_alloc_old _ _ (by omega)).trans hk2)
 have hh3:W3.heap[w.heap.size+1]? =some (.cells #[iv 40,iv 40] 129 (0,0)):=(xZ.block _ (by omega) (by simp)).trans (by rw[nX];exact(heap_alloc_old _ _ (by omega)).trans hh2)
 have HB3:=ae hb3
 have Xx:=ae agW
 have HC3:=ae (ag hk3 (ag hcz hh3))
 clear hcs hcz hW3 nX xZ agW hk3 hh3 hb2 hk2 hh2 hb3
 go_wp2_with fail
 go_loopw [12] (fun u wr=> ∃i:Nat,i<=5/\u= .int .i64 i/\Below w.heap.size w wr/\w.heap.size+3<=wr.heap.size/\ ∃(o:Option Addr) (c:Nat),wr.ownsRow (w.heap.size+3) 50 2 (.slice o i c) i (aG (List.replicate i (6,6)))/\
  wr.heap[w.heap.size+2]? =some (.cells (yw (.slice (some ⟨w.heap.size+1,0,none⟩) 1 1) (.slice o i c)) 62 (0,0))/\ ∀k,k<w.heap.size+3->k≠w.heap.size+2->wr.heap[k]? =W3.heap[k]?) (fun u _=>5-(intOf u).toNat)
 case atStart=>exact⟨0,by omega,rfl,HB3.o,by omega,none,0,⟨rfl,.inl ⟨rfl,rfl⟩⟩,Xx.o,fun _ _ _=>rfl⟩
 case round=>
  obtain⟨i,hi,rfl,hB,hsz,oo,oc,how,hbk,hoth⟩:=hrel
  obtain⟨c2,f2,l2⟩:=af hbk
  by_cases hlt:i<5
  ·have HX:=ae (ag hB (ag how (ag hbk hoth)))
   have g16:=c2 16
   simp only[yw] at g16
   clear hB how hbk hoth c2
   go_wp2_with (at_builtin;go_loud (refine eU rfl _ _ jD.Ku rfl (w.heap.size+3) (.slice oo i oc) i (aG (List.replicate i (6,6))) rfl (aC (Ms:=[]) HX.o.2.1 (Ext.aA (ak (aH _ _) _)) (by simp)) (.slice (some ⟨wr.heap.size,0,none⟩) 1 1) 1 [iv 6,iv 6] rfl (aN.dD 2 1 (ay _ _) rfl (by decide)) (by simp[Value.oneCell']) (by omega) (by omega) (by simp;omega) ?_))
   intro v' W6 hown6 Iw _
   obtain⟨o6,c6,rfl⟩:=aW hown6
   have HP:=ae (aca (i:=16) (u:= .slice o6 (i+1) c6) HX.o.1 HX.o.2.1 (Ext.aA (ak (aH _ _) _)) hown6 Iw hsz (by omega) (by omega) HX.o.2.2.1)
   obtain⟨aox,aom,anI⟩:=af (((yx HX.o.1 HX.o.2.1 (Ext.aA (ak (aH _ _) _)) hown6 Iw (by omega) hsz).2.2 (w.heap.size+2) (by omega)).trans HX.o.2.2.1)
   clear hown6 Iw
   go_wp2_with fail
   go_roundw
   case rel=>
    refine⟨i+1,by omega,by go_num,HP.o.1,HP.o.2.1,o6,c6,?_,HP.o.2.2.2.1,fun k hk hne=>(HP.o.2.2.2.2 k hk hne).trans (HX.o.2.2.2 k hk hne)⟩
    have:=HP.o.2.2.1
    rw[List.replicate_succ']
    simpa [aG] using this
   case measure=>simp[intOf];omega
  ·obtain rfl:i=5:=by omega
   have HX:=ae (ag hB (ag how (ag hbk hoth)))
   clear hB how hbk hoth
   go_upto_region 6 with(fail)
   have hk0:=(HX.o.2.2.2 w.heap.size (by omega) (by omega)).trans HC3.o.1
   refine wp_region_lit ?_
   refine wpList_load_row rfl _ _ rfl (w.heap.size+2) rfl _ _ _ _ HX.o.2.2.1 Tryz.underlying62 rfl (by kernel_rfl) ?_
   simp only[zp]
   refine wpList_store_row rfl _ _ _ rfl w.heap.size (yw (.slice (some ⟨w.heap.size+1,0,none⟩) 1 1) (.slice oo (5:Nat) oc)) (by as_aux_lemma=>kernel_rfl) (by as_aux_lemma=>kernel_rfl) _ cs hk0 (by kernel_rfl) (by rw[HC3.o.2.1];rfl) (by as_aux_lemma=>kernel_rfl) ?_
   simp only[zp]
   refine kM fun W7 yV=>?_
   have yX:Ext [w.heap.size] wr W7:=by rw[yV];exact gB
   have hb7:=jA HX.o.1 yX (ai _)
   have EP:W7.heap[w.heap.size]? =some (.cells (yw (.slice (some ⟨w.heap.size+1,0,none⟩) 1 1) (.slice oo (5:Nat) oc)) 62 (0,0)):=by rw[yV];exact setRow_heap _ _ _ _ _ _ hk0
   have hw7:=aC (Ms:=[w.heap.size]) HX.o.2.1 yX (by simp)
   have hh7:=(yX.block (w.heap.size+1) (by omega) (by simp)).trans ((HX.o.2.2.2 (w.heap.size+1) (by omega) (by omega)).trans HC3.o.2.2)
   have H7:=ae (ag hb7 (ag EP (ag hw7 hh7)))
   clear yV yX hb7 EP hw7 hh7 hk0
   go_upto_region 7 with(fail)
   refine bodyPost_ret (v:= .agg (yw (.slice (some ⟨w.heap.size+1,0,none⟩) 1 1) (.slice oo (5:Nat) oc))) (results_cell_row Tryz.results63 _ _ w.heap.size _ _ (0,0) _ rfl H7.o.2.1 Tryz.underlying62 rfl (by kernel_rfl)) rfl ?_
   refine⟨H7.o.1,⟨.slice none 0 0,.slice none 0 0,.slice oo (5:Nat) oc,.slice none 0 0,.slice none 0 0,.slice (some ⟨w.heap.size+1,0,none⟩) 1 1,.slice none 0 0,.slice none 0 0⟩,[],rfl,?_⟩
   have hst: ∀Ms:List Nat,(∀m∈Ms,m<w.heap.size)-> ∀W',Ext Ms W7 W'->pM W' dY ⟨.slice none 0 0,.slice none 0 0,.slice oo (5:Nat) oc,.slice none 0 0,.slice none 0 0,.slice (some ⟨w.heap.size+1,0,none⟩) 1 1,.slice none 0 0,.slice none 0 0⟩ []:=fun Ms hMs W' hE'=>by
    have hn: ∀k,aN k W' (.slice none 0 0) 0 []:=fun k=>⟨by simp,none,0,rfl,ai _,by decide,fun _=>rfl,fun a h=>by cases h⟩
    have h1:=aC (Ms:=Ms) H7.o.2.2.1 hE' (fun m hm=>by have:=hMs m hm;omega)
    have h2:=(hE'.block (w.heap.size+1) (aS.1 H7.o.2.2.2).1 (fun h=>by have:=hMs _ h;omega)).trans H7.o.2.2.2
    exact⟨hn _,hn _,aN.dS h1,hn _,hn _,⟨aN.dD 2 1 h2 rfl (by decide),⟨hn _,fun e he=>by cases he⟩,rfl,hn _⟩⟩
   exact⟨hst [] (by simp) _ (Ext.refl _ _),hst⟩
theorem afy:iO Tryz.prog 63 26 (iv 0) 1 8:=⟨Tryz.underlying63,by kernel_rfl,rfl,by omega⟩
theorem qc {w:World} {o:Option Addr} {n c:Nat} {l:List az} (h:aN 1 w (.slice o n c) n (cZ l)) {k:Nat} (hk:k<l.length):
 ∃b off,o=some ⟨b,off,none⟩/\b<w.heap.size/\w.cell? ⟨b,off+k,none⟩=some (.string (gI l[k])):=by
 obtain⟨hl,o',c',hv,h1,h2,h3,h4⟩:=h
 cases hv
 have hn:n=l.length:=by simpa [cZ] using hl.symm
 cases o with
 |none=>have:=h3 rfl;omega
 |some a=>
  obtain⟨b,off,sp⟩:=a
  obtain⟨hs,hc⟩:=h4 _ rfl
  simp only at hs hc
  subst hs
  have:=hc k (.string (gI l[k])) (by simp[cZ,hk])
  exact⟨b,off,rfl,dG w _ this,this⟩
def ahQ (Qs:List Nat) (ls:List az) (w:World) (e:Ending) (w':World):Prop:=
 Below w.heap.size w w'/\ ∃V es cv,e= .returned (.tuple #[.agg (dR (fK bH dY ls).1 V),cv])/\(∀W',Ext Qs w' W'->pM W' (fK bH dY ls).1 V es)/\w'.ownsRow w.heap.size 26 1 cv ls.length (ah (fK bH dY ls).2)
theorem xK (lv:Value) (ls:List az) (w:World) (hls:iU w lv ls) (hE:Env w) (hln: ∀l∈ls,l.length<=1000) (hn:ls.length<=1000000) (Qs:List Nat) (hQs: ∀m∈Qs,m<w.heap.size):Calls Tryz.prog 36 #[lv] w (ahQ Qs ls w):=by
 obtain⟨ov,cv,rfl⟩:=aN.open hls
 have EY:Hid (∀W,Below w.heap.size w W->iU W (.slice ov ls.length cv) ls):=ae (fun W hb=>hls.below hb (ai _))
 have HE:Hid (∀W,Below w.heap.size w W->Env W):=ae (fun W hb=>hE.below hb (ai _))
 clear hls hE
 go_enter Tryz.func36,Tryz.ntmps36
 go_upto_region 1 with(fail)
 refine dM fun W1 hW1=>?_
 have hb1:Below w.heap.size w W1:=by rw[hW1];exact ak (aH _ _) _
 have hk1: ∃cs,W1.heap[w.heap.size]? =some (.cells cs 62 (0,0))/\cs.size=22:=by rw[hW1];exact⟨_,ay _ _,rfl⟩
 have hs1:W1.heap.size=w.heap.size+1:=by rw[hW1];simp
 have HB1:=ae hb1
 have XN:=ae hk1
 clear hW1 hb1 hk1
 go_wp2_with fail
 refine(WU W1).mono ?_
 rintro e W2 ⟨hb2,V0,es0,rfl,hS0,hX0⟩
 rename_i hK
 refine hK _ _ ?_
 have hs2:=hb2.size
 refine aP rfl (w':=(W2.alloc (.cells fQ 62 (0,0)))) (.pointer (some ⟨W2.heap.size,0,none⟩)) (by go_simp;try rfl) ?_
 simp only[zp]
 obtain⟨g,hg⟩: ∃g,g=W2.heap.size:=⟨_,rfl⟩
 rw[<-hg]
 have hz:(W2.alloc (.cells fQ 62 (0,0))).heap[g]? =some (.cells fQ 62 (0,0)):=by rw[hg];exact ay _ _
 refine wpList_store_row rfl _ _ _ rfl g (dR dY V0) (by as_aux_lemma=>kernel_rfl) (by as_aux_lemma=>kernel_rfl) _ fQ hz (by kernel_rfl) (by as_aux_lemma=>kernel_rfl) (by rw[oz];exact fun u hu=>jd hS0 u (pK.2 hu)) ?_
 simp only[zp]
 refine kM fun W3 hW3=>?_
 obtain⟨BA,nX⟩: ∃BA,BA=W2.alloc (.cells fQ 62 (0,0)):=⟨_,rfl⟩
 rw[<-nX] at hW3 hz
 have xZ:Ext [g] BA W3:=by rw[hW3];exact gB
 have hs3:=xZ.size
 have hs2':BA.heap.size=g+1:=by rw[nX,hg];simp
 have qL:Below W2.heap.size W2 W3:=jA (by rw[nX];exact ak (aH _ _) _) xZ (by omega)
 have hS3:pM W3 dY V0 es0:=hS0.below qL (ai _)
 have hk3:W3.heap[g]? =some (.cells (dR dY V0) 62 (0,0)):=by rw[hW3];exact setRow_heap _ _ _ _ _ _ hz
 have hX3: ∀W',Ext (w.heap.size::g::Qs) W3 W'->pM W' dY V0 es0:=fun W' hE'=>hX0 (w.heap.size::Qs) (fun m hm=>by
  rcases ig.1 hm with rfl|hm
  ·omega
  ·have:=hQs m hm;omega) W' ⟨qL.os▸hE'.os,hE'.tape.trans qL.tape,hE'.output.trans qL.output,iR qL.size hE'.size,fun k hk hm=>(hE'.block k (by omega) (fun h=>by
   rcases ig.1 h with h|h
   ·exact hm (by rw[h];exact List.mem_cons_self)
   ·rcases ig.1 h with h|h
    ·omega
    ·exact hm (qX _ h))).trans (qL.block k hk)⟩
 have hr3: ∃cs,W3.heap[w.heap.size]? =some (.cells cs 62 (0,0))/\cs.size=22:=by
  obtain⟨cs,h1,h2⟩:=XN.o
  exact⟨cs,(qL.block _ (by omega)).trans ((hb2.block _ (by omega)).trans h1),h2⟩
 have HB3:=ae (bn HB1.o (bn hb2 qL))
 have H3:=ae (ag hS3 (ag hk3 (ag hr3 hX3)))
 have hgw:w.heap.size+1<=g:=by omega
 have hg3:g+1<=W3.heap.size:=by omega
 clear hX3 hX0 hW3 nX xZ qL hS3 hk3 hr3 hz hS0 hb2 hg hK
 go_wp2_with fail
 go_loopw [5,13] (fun v5 u wr=> ∃i:Nat,i<=ls.length/\u= .int .i64 i/\Below w.heap.size w wr/\W3.heap.size<=wr.heap.size/\ ∃(o:Option Addr) (c:Nat) (V:SV) (es:List KE),v5= .slice o i c/\wr.ownsRow W3.heap.size 26 1 (.slice o i c) i (ah (fK bH dY (ls.take i)).2)/\
  wr.heap[g]? =some (.cells (dR (fK bH dY (ls.take i)).1 V) 62 (0,0))/\pM wr (fK bH dY (ls.take i)).1 V es/\wr.heap[w.heap.size]? =W3.heap[w.heap.size]?/\ ∀W',Ext (w.heap.size::g::((Value.slice o i c).ownBlock.toList++Qs)) wr W'->pM W' (fK bH dY (ls.take i)).1 V es) (fun _ u _=>ls.length-(intOf u).toNat)
 case atStart=>exact⟨0,bM _,rfl,HB3.o,ai _,none,0,V0,es0,rfl,⟨rfl,.inl ⟨rfl,rfl⟩⟩,H3.o.2.1,H3.o.1,rfl,H3.o.2.2.2⟩
 case round=>
  obtain⟨i,hi,rfl,hB,hsz,oo,oc,V,es,rfl,how,hbk,hS,hr0,hXM⟩:=hrel
  by_cases hlt:i<ls.length
  ·obtain⟨bl,off,hov,hbl,hcl⟩:=qc (EY.o _ hB) hlt
   have HX:=ae (ag hB (ag how (ag hbk (ag hS (ag hr0 hXM)))))
   have HD:=ae (aei (fK bH dY (ls.take i)).1 V es ls[i] wr hS (Jm _ G8) (HE.o wr hB) (hln _ (df hlt)) (w.heap.size::g::((Value.slice oo i oc).ownBlock.toList++Qs)) (fun m hm=>by
    rcases ig.1 hm with rfl|hm
    ·omega
    ·rcases ig.1 hm with rfl|hm
     ·omega
     ·rcases iM.1 hm with hm|hm
      ·exact(bD how m (dH.1 hm)).2
      ·have:=hQs m hm;omega) hXM)
   subst hov
   clear hB how hbk hS hr0 hXM
   go_upto_region 6 with(fail)
   refine wp_region_lit ?_
   refine wpList_load_row rfl _ _ rfl g rfl _ _ _ _ HX.o.2.2.1 Tryz.underlying62 rfl (by kernel_rfl) ?_
   simp only[zp]
   go_wp2_with fail
   refine HD.o.mono ?_
   rintro e W4 ⟨hb4,V4,es4,rfl,hS4,hX4⟩
   rename_i hK
   refine hK _ _ ?_
   refine aP rfl _ (by go_simp;first|rfl|exact⟨rfl,rfl⟩) ?_
   simp only[zp]
   refine aP rfl _ (by go_simp;first|rfl|exact⟨rfl,rfl⟩) ?_
   simp only[zp]
   refine aP rfl _ (by go_simp;first|rfl|exact⟨rfl,rfl⟩) ?_
   simp only[zp]
   obtain⟨q,hq⟩: ∃q,q=W4.heap.size:=⟨_,rfl⟩
   have hs4:=hb4.size
   refine aP rfl (w':=W4.alloc (.cells fQ 62 (0,0))) (.pointer (some ⟨q,0,none⟩)) (by rw[hq];go_simp;try rfl) ?_
   simp only[zp]
   have hz:(W4.alloc (.cells fQ 62 (0,0))).heap[q]? =some (.cells fQ 62 (0,0)):=by rw[hq];exact ay _ _
   refine wpList_store_row rfl _ _ _ rfl q (dR (wW bH (fK bH dY (ls.take i)).1 ls[i]).1 V4) (by as_aux_lemma=>kernel_rfl) (by as_aux_lemma=>kernel_rfl) _ fQ hz (by kernel_rfl) (by as_aux_lemma=>kernel_rfl) (by rw[oz];exact fun u hu=>jd hS4 u (pK.2 hu)) ?_
   simp only[zp]
   refine kM fun W5 xY=>?_
   obtain⟨W4',abL⟩: ∃W4',W4'=W4.alloc (.cells fQ 62 (0,0)):=⟨_,rfl⟩
   rw[<-abL] at xY hz
   have Oq:Ext [q] W4' W5:=by rw[xY];exact gB
   have abw:W4'.heap.size=q+1:=by rw[abL,hq];simp
   have hs5:=Oq.size
   have ad4:Below W4.heap.size W4 W5:=jA (by rw[abL];exact ak (aH _ _) _) Oq (by omega)
   have hk5:W5.heap[q]? =some (.cells (dR (wW bH (fK bH dY (ls.take i)).1 ls[i]).1 V4) 62 (0,0)):=by rw[xY];exact setRow_heap _ _ _ _ _ _ hz
   have hb5:=bn hb4 ad4
   have H5:=ae (ag hb5 (ag ad4 (ag hk5 (ag hS4 hX4))))
   clear xY abL Oq ad4 hk5 hz hS4 hX4 hb4 hb5 hK
   go_upto_region 7 with(fail)
   have hTK:fK bH dY (ls.take (i+1))=((wW bH (fK bH dY (ls.take i)).1 ls[i]).1,(fK bH dY (ls.take i)).2++[(wW bH (fK bH dY (ls.take i)).1 ls[i]).2]):=by rw[iC hlt,Vj]
   obtain⟨code,hcode⟩: ∃code,code=(wW bH (fK bH dY (ls.take i)).1 ls[i]).2:=⟨_,rfl⟩
   rw[<-hcode] at hTK⊢
   obtain⟨Ms,hMs⟩: ∃Ms,Ms=(Value.slice oo i oc).ownBlock.toList:=⟨_,rfl⟩
   have hm0: ∀m∈Ms,W3.heap.size<=m/\m<wr.heap.size:=fun m h=>bD HX.o.2.1 m (by rw[hMs] at h;exact dH.1 h)
   have ug: ∀m∈Ms,m<W5.heap.size:=fun m h=>by have:=hm0 m h;omega
   have hm1:q∉Ms:=fun h=>by have:=hm0 q h;omega
   have hm2:g∉Ms:=fun h=>by have:=hm0 g h;omega
   have hq5:q<W5.heap.size:=by omega
   have HTK:=ae hTK
   have HM:=ae hMs
   clear hTK hMs hcode
   refine zg 5 Ms (some 4) [(3,Spec.slice W5.heap.size #[iv code] 26 1),(4,⟨fun _ v=> ∃o2 c2,v= .slice o2 (i+1) c2,fun _ v Wx=>Wx.ownsRow W3.heap.size 26 1 v (i+1) (ah (fK bH dY (ls.take i)).2++[iv code])/\(v.ownBlock=(Value.slice oo i oc).ownBlock∨ ∃q,v.ownBlock=some q/\W5.heap.size<=q)⟩)] ?_
   simp only[zt]
   refine iE (by rfl) (.agg (dR (wW bH (fK bH dY (ls.take i)).1 ls[i]).1 V4)) (by rfl) (fun W hE hF=>?_) ?_
   ·exact zA _ _ rfl q rfl _ _ _ _ ((hE.block q hq5 hm1).trans H5.o.2.2.1) Tryz.underlying62 rfl (by kernel_rfl)
   simp only[zp]
   repeat ((first|refine zd ?_|refine zk ?_);simp only[zp])
   refine dX W5.heap.size _ _ 1 (by rfl) (ai _) (by rfl) ug (by simp) (fun W hW=>by go_simp;try rfl) (fun b6=>?_)
   simp only[zp]
   refine bG _ (by rfl) (by rfl) (by exact⟨.slice none (i+1) 0,none,0,rfl⟩) (fun W6 hE hF=>?_) (fun v Wa Wb ho hE=>?_) (fun v hv=>?_)
   ·have hE':Ext [] W5 W6:=hE
    obtain⟨b',hb',hge,hcc⟩:=hF _ (bF _) (by kernel_rfl)
    cases hb'
    have hown6:=aC (Ms:=[]) HX.o.2.1 ((Ext.aA H5.o.1).trans hE') (by simp)
    have hsrc:aN 1 W6 (.slice (some ⟨b6,0,none⟩) 1 1) 1 ([iv code]):=aN.dD 1 1 hcc rfl (by decide)
    refine Does.mono (dK afy (by rfl) (by rfl) hown6 (by rfl) hsrc (one_one code) (by omega) (by omega) (by have:=hE'.size;omega)) ?_
    rintro v' W7 ⟨ho,hgr,hcase⟩
    refine⟨aT ho,⟨ho,hcase.imp id fun h1=>⟨_,h1,hE'.size⟩⟩,⟨hgr.os,hgr.tape,hgr.output,hgr.size,fun b hb hn=>hgr.block b hb (fun e=>hn (by rw[HM.o];exact dH.2 e.symm))⟩⟩
   ·exact⟨aC (Ms:=[]) ho.1 hE (by simp),ho.2⟩
   obtain⟨o7,c7,rfl⟩:=hv
   simp only[zp]
   intro W6 hE hF
   obtain⟨Zn,hg6⟩:=hF _ (bF _)
   have A7:Ext Ms W5 W6:=hE
   have hs6:=A7.size
   have hkg:=(A7.block g (by omega) hm2).trans ((H5.o.1.block g (by omega)).trans HX.o.2.2.1)
   refine wpList_store_row rfl _ _ _ rfl g (dR (wW bH (fK bH dY (ls.take i)).1 ls[i]).1 V4) (by as_aux_lemma=>kernel_rfl) (by as_aux_lemma=>kernel_rfl) _ _ hkg (by kernel_rfl) rfl (by rw[oz];exact fun u hu=>jd H5.o.2.2.2.1 u (pK.2 hu)) ?_
   simp only[zp]
   refine kM fun W7 yV=>?_
   have yX:Ext [g] W6 W7:=by rw[yV];exact gB
   have EP:W7.heap[g]? =some (.cells (dR (wW bH (fK bH dY (ls.take i)).1 ls[i]).1 V4) 62 (0,0)):=by rw[yV];exact setRow_heap _ _ _ _ _ _ hkg
   have hs7:=yX.size
   have Rz:Below w.heap.size w W7:=by
    have akj:=bn HX.o.1 H5.o.1
    exact akj.trans ⟨yX.os.trans A7.os,yX.tape.trans A7.tape,yX.output.trans A7.output,by omega,fun k hk=>(yX.block k (by omega) (by simp;omega)).trans (A7.block k (by omega) (fun h=>by have:=hm0 k h;omega))⟩
   have ho7:=aC (Ms:=[g]) Zn yX (by simp;omega)
   have Ue:W7.heap[w.heap.size]? =W3.heap[w.heap.size]? :=(yX.block _ (by omega) (by simp;omega)).trans ((A7.block _ (by omega) (fun h=>by have:=hm0 _ h;omega)).trans ((H5.o.1.block _ (by omega)).trans HX.o.2.2.2.2.1))
   have hX7: ∀W',Ext (w.heap.size::g::((Value.slice o7 (i+1) c7).ownBlock.toList++Qs)) W7 W'->pM W' (wW bH (fK bH dY (ls.take i)).1 ls[i]).1 V4 es4:=fun W' hE'=>by
    have h45:=H5.o.2.1
    have aoM:=h45.size
    refine H5.o.2.2.2.2 W' ⟨hE'.os.trans (yX.os.trans (A7.os.trans h45.os)),hE'.tape.trans (yX.tape.trans (A7.tape.trans h45.tape)),hE'.output.trans (yX.output.trans (A7.output.trans h45.output)),by have:=hE'.size;omega,fun k hk hm=>?_⟩
    have n1:k≠w.heap.size:=fun e=>hm (by simp[e])
    have n2:k≠g:=fun e=>hm (by simp[e])
    have n3:k∉(Value.slice oo i oc).ownBlock.toList:=fun h=>hm (qX _ (qX _ (og _ h)))
    have n5:k∉Qs:=fun h=>hm (qX _ (qX _ (tY _ h)))
    have n4:k∉(Value.slice o7 (i+1) c7).ownBlock.toList:=fun h=>by
     rcases hg6 with h1|⟨x,h1,h2⟩
     ·rw[h1] at h;exact n3 h
     ·rw[h1] at h;simp at h;omega
    exact(hE'.block k (by omega) (fun h=>by rcases ig.1 h with h|h;(exact n1 h);rcases ig.1 h with h|h;(exact n2 h);rcases iM.1 h with h|h;(exact n4 h);exact n5 h)).trans ((yX.block k (by omega) (by simpa using n2)).trans ((A7.block k (by omega) (by rw[HM.o];exact n3)).trans (h45.block k hk)))
   have Y9:pM W7 (wW bH (fK bH dY (ls.take i)).1 ls[i]).1 V4 es4:=hX7 W7 (Ext.refl _ _)
   have H7:=ae (ag Rz (ag ho7 (ag EP (ag Y9 (ag Ue hX7)))))
   have ajy:W3.heap.size<=W7.heap.size:=by omega
   clear Rz ho7 EP Y9 Ue hX7 yV yX A7 hE hF Zn hg6 hkg
   go_wp2_with fail
   go_roundw
   case rel=>
    refine⟨i+1,by omega,by go_num,H7.o.1,ajy,o7,c7,V4,es4,rfl,?_⟩
    rw[HTK.o]
    refine⟨?_,H7.o.2.2.1,H7.o.2.2.2.1,H7.o.2.2.2.2.1,H7.o.2.2.2.2.2⟩
    simpa [ah] using H7.o.2.1
   case measure=>simp[intOf];omega
  ·obtain rfl:i=ls.length:=by omega
   have HX:=ae (ag hB (ag how (ag hbk (ag hS (ag hr0 hXM)))))
   clear hB how hbk hS hr0 hXM
   go_upto_region 9 with(fail)
   obtain⟨cs,hcs,hcz⟩:=H3.o.2.2.1
   have hk0:=HX.o.2.2.2.2.1.trans hcs
   refine wp_region_lit ?_
   refine wpList_load_row rfl _ _ rfl g rfl _ _ _ _ HX.o.2.2.1 Tryz.underlying62 rfl (by kernel_rfl) ?_
   simp only[zp]
   refine aP rfl _ (by go_simp;first|rfl|exact⟨rfl,rfl⟩) ?_
   simp only[zp]
   refine wpList_store_row rfl _ _ _ rfl w.heap.size (dR (fK bH dY (ls.take ls.length)).1 V) (by as_aux_lemma=>kernel_rfl) (by as_aux_lemma=>kernel_rfl) _ cs hk0 (by kernel_rfl) (by rw[hcz];rfl) (by rw[oz];exact fun u hu=>jd HX.o.2.2.2.1 u (pK.2 hu)) ?_
   simp only[zp]
   refine kM fun W7 yV=>?_
   have yX:Ext [w.heap.size] wr W7:=by rw[yV];exact gB
   have hb7:=jA HX.o.1 yX (ai _)
   have EP:W7.heap[w.heap.size]? =some (.cells (dR (fK bH dY (ls.take ls.length)).1 V) 62 (0,0)):=by rw[yV];exact setRow_heap _ _ _ _ _ _ hk0
   have hw7:=aC (Ms:=[w.heap.size]) HX.o.2.1 yX (by simp;omega)
   have Y9: ∀W',Ext Qs W7 W'->pM W' (fK bH dY (ls.take ls.length)).1 V es:=fun W' hE'=>HX.o.2.2.2.2.2 W' ((yX.more (by simp)).trans (hE'.more (fun m hm=>qX _ (qX _ (tY _ hm)))))
   have H7:=ae (ag hb7 (ag EP (ag hw7 Y9)))
   clear yV yX hb7 EP hw7 hk0 Y9
   go_wp2_with fail
   refine bodyPost_ret (v:= .tuple #[.agg (dR (fK bH dY (ls.take ls.length)).1 V),.slice oo ls.length oc]) ?_ rfl ?_
   ·have q1:=run_loadVar_row (P:=Tryz.prog) W7 w.heap.size 62 62 _ (0,0) _ H7.o.2.1 Tryz.underlying62 rfl (by kernel_rfl)
    simp[results,Tryz.results36,asAddr,q1]
   ·have h7:=H7.o
    rw[List.take_length] at h7⊢
    exact⟨h7.1,V,es,_,rfl,h7.2.2.2,cu h7.2.2.1 (by omega)⟩
theorem VE (k:Int) (l:az) (w:World) (hl:l.length<=1000000):Calls Tryz.prog 57 #[iv k,.string (gI l)] w (PV (.bool (decide ((l.length:Int)<=k))) w):=by
 have hs:(gI l).size=l.length:=by simp[ByteArray.size]
 go_enter Tryz.func57,Tryz.ntmps57
 go_wp2_with fail
 go_returns
 exact⟨rfl,aH _ _⟩
abbrev sv (l:az):Value:= .string (gI l)
theorem iU.cell {w:World} {o:Option Addr} {n c:Nat} {l:List az} (h:aN 1 w (.slice o n c) n (cZ l)) {k:Nat} (hk:k<l.length):
 ∃b off,o=some ⟨b,off,none⟩/\b<w.heap.size/\w.cell? ⟨b,off+k,none⟩=some (sv l[k]):=qc h hk
theorem ajj (l:List az) (v:Value) (aZ:Nat) (fst caps:Array Value) (p:Nat->Bool) (I:Nat->World->Prop) (w:World) (eg: ∀args w,(callFunc aZ args).run Tryz.prog w= .ok (.enter aZ args) w)
 (hsl: ∀k W,I k W->iU W v l)
 (hcall: ∀k (hk:k<l.length) W,(∀j,j<k->p j=false)->I k W->Calls Tryz.prog aZ (fst.push (sv l[k])++caps) W (fun e W'=>e= .returned (.bool (p k))/\I (k+1) W')) (h0:I 0 w):
 Calls Tryz.prog 186 #[v,.func (.func aZ) fst caps] w (dZ l.length p I (fun k=>iv k) (iv (-1))):=by
 have hlen:=(hsl 0 w h0).len
 obtain⟨o,c,rfl⟩:=(hsl 0 w h0).open
 have HC:=ae hcall
 have HS:=ae hsl
 clear hcall hsl
 go_enter Tryz.func186,Tryz.ntmps186
 go_wp2
 go_loopw [4,5,8] (fun _ _ i wr=> ∃k:Nat,k<=l.length/\i= .int .i64 k/\(∀j,j<k->p j=false)/\I k wr) (fun _ _ i _=>l.length-(intOf i).toNat)
 case atStart=>exact⟨0,bM _,rfl,fun j hj=>by omega,h0⟩
 case round=>
  obtain⟨k,hk,rfl,hno,hI⟩:=hrel
  by_cases hlt:k<l.length
  ·obtain⟨b,off,rfl,hb,hc0⟩:=iU.cell (HS.o k wr hI) hlt
   have hC:=HC.o k hlt wr hno hI
   have HN:=ae hno
   clear hno
   go_wp2_with fail
   refine hC.mono ?_
   rintro e W1 ⟨rfl,hI1⟩
   have HI:=ae hI1
   clear hI1 hI hC
   cases hp:p k
   ·go_wp2_with fail
    go_roundw
    case rel=>exact⟨k+1,by omega,by go_num,fun j hj=>(by by_cases e:j=k;(subst e;exact hp);exact HN.o j (by omega)),HI.o⟩
    case measure=>simp[intOf];omega
   ·go_wp2_with fail
    go_returns
    exact⟨k,by omega,HN.o,.inl ⟨hlt,hp,by simp,HI.o⟩⟩
  ·have hkl:k=l.length:=by omega
   have HN:=ae hno
   clear hno
   go_wp2_with fail
   go_returns
   exact⟨k,by omega,HN.o,.inr ⟨hkl,by simp,by subst hkl;exact hI⟩⟩
theorem ahA (l:List az) (v:Value) (aZ:Nat) (fst caps:Array Value) (p:Nat->Bool) (I:Nat->World->Prop) (w:World) (eg: ∀args w,(callFunc aZ args).run Tryz.prog w= .ok (.enter aZ args) w)
 (hsl: ∀k W,I k W->iU W v l)
 (hcall: ∀k (hk:k<l.length) W,(∀j,j<k->p j=false)->I k W->Calls Tryz.prog aZ (fst.push (sv l[k])++caps) W (fun e W'=>e= .returned (.bool (p k))/\I (k+1) W')) (h0:I 0 w):
 Calls Tryz.prog 105 #[v,.func (.func aZ) fst caps] w (dZ l.length p I (fun _=> .bool true) (.bool false)):=by
 have HI:=ae (ajj l v aZ fst caps p I w eg hsl hcall h0)
 have hlen:=(hsl 0 w h0).len
 clear hsl hcall h0 eg
 go_enter Tryz.func105,Tryz.ntmps105
 go_wp2_with fail
 refine HI.o.mono ?_
 clear HI
 rintro e W' ⟨k,hk,hno,⟨hlt,hp,rfl,hI⟩|⟨hkl,rfl,hI⟩⟩
 ·have HN:=ae (ag hno (ag hp hI))
  clear hno hp hI
  go_wp2_with fail
  go_returns
  exact⟨k,hk,HN.o.1,.inl ⟨hlt,HN.o.2.1,by simp,HN.o.2.2⟩⟩
 ·have HN:=ae (ag hno (ag hkl hI))
  clear hno hkl hI
  go_wp2_with fail
  go_returns
  exact⟨k,hk,HN.o.1,.inr ⟨HN.o.2.1,by simp,HN.o.2.1▸HN.o.2.2⟩⟩
theorem aak (b:Nat) (l:az) (w:World) (hc:w.cell? ⟨b,0,none⟩=some (.func (.func 57) #[iv 60] #[])) (hl:l.length<=1000000):Calls Tryz.prog 106 #[sv l,.pointer (some ⟨b,0,none⟩)] w (PV (.bool (!decide ((l.length:Int)<=60))) w):=by
 have HC:=ae (VE 60 l w hl)
 go_enter Tryz.func106,Tryz.ntmps106
 go_wp2_with fail
 refine HC.o.mono ?_
 rintro e w' ⟨rfl,hb⟩
 go_wp2_with fail
 go_returns
 exact⟨rfl,hb⟩
theorem aai (b:Nat) (l:List az) (v:Value) (w:World) (hv:iU w v l) (hc:w.cell? ⟨b,0,none⟩=some (.func (.func 57) #[iv 60] #[])) (hb:b<w.heap.size) (hln: ∀x∈l,x.length<=1000000):Calls Tryz.prog 105 #[v,.func (.func 106) #[] #[.pointer (some ⟨b,0,none⟩)]] w (PV (.bool (l.any fun x=>!decide ((x.length:Int)<=60))) w):=by
 refine(ahA l v 106 #[] #[.pointer (some ⟨b,0,none⟩)] (fun k=>!decide (((l.getD k []).length:Int)<=60)) (fun _ W=>Below w.heap.size w W) w (enters_of Tryz.func106 (by kernel_rfl) rfl) (fun k W h=>hv.below h (ai _)) (fun k hk W _ h=>?_) (aH _ _)).mono ?_
 ·refine(aak b l[k] W ((ja (h.block b hb)).trans hc) (hln _ (df hk))).mono ?_
  rintro e W' ⟨rfl,hb'⟩
  exact⟨by simp[hk],bn h hb'⟩
 ·rintro e W' ⟨k,hk,hno,⟨hlt,hp,rfl,hI⟩|⟨hkl,rfl,hI⟩⟩
  ·refine⟨?_,hI⟩
   have:(l.any fun x=>!decide ((x.length:Int)<=60))=true:=List.any_eq_true.2 ⟨l[k],df _,by simpa [hlt] using hp⟩
   rw[this]
  ·refine⟨?_,hI⟩
   have:(l.any fun x=>!decide ((x.length:Int)<=60))=false:=by
    rw[List.any_eq_false]
    intro x hx
    obtain⟨j,hj,rfl⟩:=lY hx
    have:=hno j (by omega)
    simpa [hj] using this
   rw[this]
theorem acd (l:List az) (v:Value) (w:World) (hv:iU w v l) (hln: ∀x∈l,x.length<=1000000):Calls Tryz.prog 58 #[v,.func (.func 57) #[iv 60] #[]] w (PV (.bool (!(l.any fun x=>!decide ((x.length:Int)<=60)))) w):=by
 have HV:=ae hv
 clear hv
 go_enter Tryz.func58,Tryz.ntmps58
 go_upto_region 1 with(fail)
 refine dM fun W1 hW1=>?_
 have hb1:Below w.heap.size w W1:=by rw[hW1];exact ak (aH _ _) _
 have hc1:W1.cell? ⟨w.heap.size,0,none⟩=some (.func (.func 57) #[iv 60] #[]):=by rw[hW1];exact(af (ay _ _)).1 0
 have hs1:w.heap.size<W1.heap.size:=by rw[hW1];simp
 have HA:=ae (aai w.heap.size l v W1 (aN.below HV.o hb1 (ai _)) hc1 hs1 hln)
 have HB:=ae hb1
 clear hW1 hb1 hc1 hs1
 go_wp2_with fail
 refine HA.o.mono ?_
 rintro e w' ⟨rfl,hb⟩
 go_wp2_with fail
 go_returns
 exact⟨rfl,bn HB.o hb⟩
def fH (l:List az):Int:=if 40<l.length∨(l.any fun x=>!decide ((x.length:Int)<=60))=true then 3 else 0
theorem JK (l:List az) (v:Value) (w:World) (hv:iU w v l) (hln: ∀x∈l,x.length<=1000000):Calls Tryz.prog 31 #[v] w (PV (iv (fH l)) w):=by
 have hlen:=hv.len
 obtain⟨o,c,rfl⟩:=aN.open hv
 have HA:=ae (acd l _ w hv hln)
 clear hv
 go_enter Tryz.func31,Tryz.ntmps31
 go_wp2_with fail
 ·refine HA.o.mono ?_
  rintro e w' ⟨rfl,hb⟩
  cases hq:(l.any fun x=>!decide ((x.length:Int)<=60))
  all_goals
   go_wp2_with fail
   go_returns
   refine⟨?_,hb⟩
   simp only[fH,hq]
   simp
   try omega
 ·go_returns
  refine⟨?_,aH _ _⟩
  rw[fH,aF (.inl (by omega))]
  rfl
def zeroS:jJ:=
 {led:={field:={rows:=0,aK:=0,left:=(0,0),ax:=[]},rate:=0,box:=(0,0),notes:=[]}
  heap:={last:=0,size:=0,aY:=0,die:=0,uu:=0,start:=(0,0),bW:=[],turns:=[],readings:=[]}
  dw:={heaps:=[],aU:=[],aJ:=[]}}
def zeroV:SV:=⟨.slice none 0 0,.slice none 0 0,.slice none 0 0,.slice none 0 0,.slice none 0 0,.slice none 0 0,.slice none 0 0,.slice none 0 0⟩
theorem PY:dR zeroS zeroV=fQ:=rfl
theorem aaT (w:World):pM w zeroS zeroV []:=by
 have hn: ∀k,aN k w (.slice none 0 0) 0 []:=fun k=>aN.nil k w
 exact⟨hn _,hn _,hn _,hn _,hn _,⟨hn _,⟨hn _,fun e he=>by cases he⟩,rfl,hn _⟩⟩
def iV (ls:List az):jJ:=if fH ls=0 then(fK bH dY ls).1 else zeroS
def xM (ls:List az):List Int:=if fH ls=0 then(fK bH dY ls).2 else[]
def PPl (Qs:List Nat) (ls:List az) (w:World) (e:Ending) (w':World):Prop:=
 Below w.heap.size w w'/\ ∃V es cv,e= .returned (.tuple #[.agg (dR (iV ls) V),cv,iv (fH ls)])/\(∀W',Ext Qs w' W'->pM W' (iV ls) V es)/\w'.ownsRow w.heap.size 26 1 cv (xM ls).length (ah (xM ls))
theorem Wp {ls:List az} (h:fH ls=0):ls.length<=40/\ ∀l∈ls,l.length<=60:=by
 unfold fH at h
 split at h
 ·omega
 ·rename_i hc
  simp only[not_or,Bool.not_eq_true] at hc
  refine⟨by omega,fun l hl=>?_⟩
  have:=List.any_eq_false.1 hc.2 l hl
  simp at this
  omega
theorem BD (lv:Value) (ls:List az) (w:World) (hls:iU w lv ls) (hE:Env w) (hln: ∀l∈ls,l.length<=1000000) (Qs:List Nat) (hQs: ∀m∈Qs,m<w.heap.size):Calls Tryz.prog 18 #[lv] w (PPl Qs ls w):=by
 have EY:Hid (∀W,Below w.heap.size w W->iU W lv ls):=ae (fun W hb=>hls.below hb (ai _))
 have HE:Hid (∀W,Below w.heap.size w W->Env W):=ae (fun W hb=>hE.below hb (ai _))
 have TI:=ae hln
 clear hls hE hln
 go_enter Tryz.func18,Tryz.ntmps18
 go_upto_region 1 with(fail)
 refine dM fun W1 hW1=>?_
 have hb1:Below w.heap.size w W1:=by rw[hW1];exact ak (aH _ _) _
 have hk1:W1.heap[w.heap.size]? =some (.cells fQ 62 (0,0)):=by rw[hW1];exact ay _ _
 have hs1:W1.heap.size=w.heap.size+1:=by rw[hW1];simp
 have HB1:=ae hb1
 have XN:=ae hk1
 clear hW1 hb1 hk1
 go_wp2_with fail
 refine(JK ls lv W1 (EY.o _ HB1.o) TI.o).mono ?_
 rintro e W2 ⟨rfl,hb⟩
 have HB2:=ae (bn HB1.o hb)
 have HK2:=ae ((hb.block _ (by omega)).trans XN.o)
 have hs2:=hb.size
 obtain⟨q,hq⟩: ∃q,fH ls=q:=⟨_,rfl⟩
 rw[hq]
 have HQ:=ae hq
 clear hq hb
 by_cases hz:q=0
 ·subst hz
  have HLL:=ae (Wp HQ.o)
  have HPL:=ae (xK lv ls W2 (EY.o _ HB2.o) (HE.o _ HB2.o) (fun l hl=>by have:=HLL.o.2 l hl;omega) (by have:=HLL.o.1;omega) (w.heap.size::Qs) (fun m hm=>by
   rcases ig.1 hm with rfl|hm
   ·omega
   ·have:=hQs m hm;omega))
  go_wp2_with fail
  refine HPL.o.mono ?_
  rintro e W3 ⟨hb3,V,es,cv,rfl,hX,hC⟩
  obtain⟨co,cc,rfl⟩:=aW hC
  have hs3:=hb3.size
  rename_i hK
  refine hK _ _ ?_
  refine aP rfl _ (by go_simp;first|rfl|exact⟨rfl,rfl⟩) ?_
  simp only[zp]
  refine aP rfl _ (by go_simp;first|rfl|exact⟨rfl,rfl⟩) ?_
  simp only[zp]
  refine aP rfl _ (by go_simp;first|rfl|exact⟨rfl,rfl⟩) ?_
  simp only[zp]
  have hk3:=(hb3.block _ (by omega)).trans HK2.o
  have hS3:=hX W3 (Ext.refl _ _)
  refine wpList_store_row rfl _ _ _ rfl w.heap.size (dR (fK bH dY ls).1 V) (by as_aux_lemma=>kernel_rfl) (by as_aux_lemma=>kernel_rfl) _ fQ hk3 (by kernel_rfl) (by as_aux_lemma=>kernel_rfl) (by rw[oz];exact fun u hu=>jd hS3 u (pK.2 hu)) ?_
  simp only[zp]
  refine kM fun W4 ER=>?_
  have Ot:Ext [w.heap.size] W3 W4:=by rw[ER];exact gB
  have hb4:=jA (bn HB2.o hb3) Ot (ai _)
  have hk4:W4.heap[w.heap.size]? =some (.cells (dR (fK bH dY ls).1 V) 62 (0,0)):=by rw[ER];exact setRow_heap _ _ _ _ _ _ hk3
  have hc4:=aC (Ms:=[w.heap.size]) hC Ot (by simp;omega)
  have hX4: ∀W',Ext (w.heap.size::Qs) W4 W'->pM W' (fK bH dY ls).1 V es:=fun W' hE'=>hX W' ((Ot.more (by simp)).trans hE')
  have H4:=ae (ag hb4 (ag hk4 (ag hc4 hX4)))
  clear ER Ot hb4 hk4 hc4 hX4 hk3 hX hC hb3 hS3 hK
  go_upto_region 5 with(fail)
  refine wp_region_lit ?_
  refine wpList_load_row rfl _ _ rfl w.heap.size rfl _ _ _ _ H4.o.2.1 Tryz.underlying62 rfl (by kernel_rfl) ?_
  simp only[zp]
  refine aP rfl _ (by go_simp;first|rfl|exact⟨rfl,rfl⟩) ?_
  simp only[zp]
  refine wpList_store_row rfl _ _ _ rfl w.heap.size (dR (fK bH dY ls).1 V) (by as_aux_lemma=>kernel_rfl) (by as_aux_lemma=>kernel_rfl) _ _ H4.o.2.1 (by kernel_rfl) (by as_aux_lemma=>kernel_rfl) (by rw[oz];exact fun u hu=>jd (H4.o.2.2.2 W4 (Ext.refl _ _)) u (pK.2 hu)) ?_
  simp only[zp]
  refine kM fun W5 xY=>?_
  have Oq:Ext [w.heap.size] W4 W5:=by rw[xY];exact gB
  have hk5:W5.heap[w.heap.size]? =some (.cells (dR (fK bH dY ls).1 V) 62 (0,0)):=by rw[xY];exact setRow_heap _ _ _ _ _ _ H4.o.2.1
  have H5:=ae (ag (jA H4.o.1 Oq (ai _)) (ag hk5 (ag (aC (Ms:=[w.heap.size]) H4.o.2.2.1 Oq (by simp;omega)) (fun W' (hE':Ext (w.heap.size::Qs) W5 W')=>H4.o.2.2.2 W' ((Oq.more (by simp)).trans hE')))))
  clear xY Oq hk5
  go_wp2_with fail
  refine bodyPost_ret (v:= .tuple #[.agg (dR (fK bH dY ls).1 V),.slice co ls.length cc,iv 0]) ?_ rfl ?_
  ·have q1:=run_loadVar_row (P:=Tryz.prog) W5 w.heap.size 62 62 _ (0,0) _ H5.o.2.1 Tryz.underlying62 rfl (by kernel_rfl)
   simp[results,Tryz.results18,asAddr,q1]
  ·have h5:=H5.o
   have e1:iV ls=(fK bH dY ls).1:=by unfold iV;rw[aF HQ.o]
   have e2:xM ls=(fK bH dY ls).2:=by unfold xM;rw[aF HQ.o]
   refine⟨h5.1,V,es,.slice co ls.length cc,?_,?_,?_⟩
   ·rw[e1,HQ.o]
   ·rw[e1];exact fun W' hE'=>h5.2.2.2 W' (hE'.more (fun m hm=>qX _ hm))
   ·rw[e2,Yv];exact cu h5.2.2.1 (by omega)
 ·go_upto_region 3 with(fail)
  refine wp_region_lit ?_
  refine aP rfl (w':=W2) (.agg fQ) (by as_aux_lemma=>kernel_rfl) ?_
  simp only[zp]
  refine aP rfl _ (by go_simp;first|rfl|exact⟨rfl,rfl⟩) ?_
  simp only[zp]
  refine wpList_store_row rfl _ _ _ rfl w.heap.size fQ (by as_aux_lemma=>kernel_rfl) (by as_aux_lemma=>kernel_rfl) _ fQ HK2.o (by kernel_rfl) (by as_aux_lemma=>kernel_rfl) (by as_aux_lemma=>kernel_rfl) ?_
  simp only[zp]
  refine kM fun W3 hW3=>?_
  have xZ:Ext [w.heap.size] W2 W3:=by rw[hW3];exact gB
  have hk3:W3.heap[w.heap.size]? =some (.cells fQ 62 (0,0)):=by rw[hW3];exact setRow_heap _ _ _ _ _ _ HK2.o
  have H3:=ae (ag (jA HB2.o xZ (ai _)) hk3)
  clear hW3 xZ hk3
  go_wp2_with fail
  refine bodyPost_ret (v:= .tuple #[.agg fQ,.slice none 0 0,iv q]) ?_ rfl ?_
  ·have q1:=run_loadVar_row (P:=Tryz.prog) W3 w.heap.size 62 62 _ (0,0) _ H3.o.2 Tryz.underlying62 rfl (by kernel_rfl)
   simp[results,Tryz.results18,asAddr,q1]
  ·have e1:iV ls=zeroS:=by unfold iV;rw[aj (by rw[HQ.o];exact hz)]
   have e2:xM ls=[]:=by unfold xM;rw[aj (by rw[HQ.o];exact hz)]
   refine⟨H3.o.1,zeroV,[],.slice none 0 0,?_,?_,?_⟩
   ·rw[e1,HQ.o,PY]
   ·rw[e1];exact fun W' _=>aaT W'
   ·rw[e2];exact⟨rfl,.inl ⟨rfl,rfl⟩⟩
def Js (ls:List az):Int:=if fH ls=0 then gV (iV ls).led true else fH ls
def Jt (ls:List az):List dQ:=if fH ls=0 then(if gV (iV ls).led true=0 then Bv oI (iV ls).led (gm (iV ls).led) else[]) else[]
def I8 (ls:List az):Int:=if fH ls=0 then jD.zX (iV ls).heap else fH ls
def I9 (ls:List az):List Int:=if fH ls=0 then jD.RJ (iV ls).heap else[]
def akP (ls:List az) (w:World) (e:Ending) (w':World):Prop:=Below w.heap.size w w'/\ ∃u,e= .returned (.tuple #[u,iv (Js ls)])/\bP w' u (Jt ls)
def akM (ls:List az) (w:World) (e:Ending) (w':World):Prop:=Below w.heap.size w w'/\ ∃u,e= .returned (.tuple #[u,iv (I8 ls)])/\aO w' u (I9 ls)
theorem WW (lv:Value) (ls:List az) (w:World) (hls:iU w lv ls) (hE:Env w) (hln: ∀l∈ls,l.length<=1000000):Calls Tryz.prog 21 #[lv] w (akP ls w):=by
 have EY:=ae hls
 have HE:=ae hE
 have TI:=ae hln
 clear hls hE hln
 obtain⟨q,hq⟩: ∃q,fH ls=q:=⟨_,rfl⟩
 have HQ:=ae hq
 go_enter Tryz.func21,Tryz.ntmps21
 go_wp2_with fail
 refine(BD lv ls w (EY.o) (HE.o) (TI.o) [] (by simp)).mono ?_
 rintro e W2 ⟨hb2,V,es,cv,he,hX,hC⟩
 rw[hq] at he
 subst he
 obtain⟨co,cc,rfl⟩:=aW hC
 have hs2:=hb2.size
 have hS2:=hX W2 (Ext.refl _ _)
 rename_i hK
 refine hK _ _ ?_
 refine aP rfl _ (by go_simp;first|rfl|exact⟨rfl,rfl⟩) ?_
 simp only[zp]
 refine aP rfl _ (by go_simp;first|rfl|exact⟨rfl,rfl⟩) ?_
 simp only[zp]
 refine aP rfl _ (by go_simp;first|rfl|exact⟨rfl,rfl⟩) ?_
 simp only[zp]
 refine aP rfl _ (by go_simp;first|rfl|exact⟨rfl,rfl⟩) ?_
 simp only[zp]
 obtain⟨g,hg⟩: ∃g,g=W2.heap.size:=⟨_,rfl⟩
 refine aP rfl (w':=W2.alloc (.cells fQ 62 (0,0))) (.pointer (some ⟨g,0,none⟩)) (by rw[hg];go_simp;try rfl) ?_
 simp only[zp]
 have hz2:(W2.alloc (.cells fQ 62 (0,0))).heap[g]? =some (.cells fQ 62 (0,0)):=by rw[hg];exact ay _ _
 refine wpList_store_row rfl _ _ _ rfl g (dR (iV ls) V) (by as_aux_lemma=>kernel_rfl) (by as_aux_lemma=>kernel_rfl) _ fQ hz2 (by kernel_rfl) (by as_aux_lemma=>kernel_rfl) (by rw[oz];exact fun u hu=>jd hS2 u (pK.2 hu)) ?_
 simp only[zp]
 refine kM fun W3 hW3=>?_
 obtain⟨BA,nX⟩: ∃BA,BA=W2.alloc (.cells fQ 62 (0,0)):=⟨_,rfl⟩
 rw[<-nX] at hW3 hz2
 have xZ:Ext [g] BA W3:=by rw[hW3];exact gB
 have hs3:=xZ.size
 have hs2':BA.heap.size=g+1:=by rw[nX,hg];simp
 have qL:Below W2.heap.size W2 W3:=jA (by rw[nX];exact ak (aH _ _) _) xZ (by omega)
 have hk3:W3.heap[g]? =some (.cells (dR (iV ls) V) 62 (0,0)):=by rw[hW3];exact setRow_heap _ _ _ _ _ _ hz2
 have hb3:=bn hb2 qL
 have hg3:w.heap.size<=g:=by omega
 have hgs:g<W3.heap.size:=by omega
 have H3:=ae (ag hb3 (ag hk3 (hS2.below qL (ai _))))
 clear hX hC hW3 nX xZ qL hb2 hS2 hz2 hK hs2 hs3 hs2' hg hb3
 clear hq
 obtain⟨vt,vn,vw,vu,vr,vh,vk,vs⟩:=V
 obtain⟨c3,f3,l3⟩:=af hk3
 by_cases hz:q=0
 rotate_left
 ·go_wp2_with fail
  go_returns
  have hqq:fH ls≠0:=by rw[HQ.o];exact hz
  have h1:Js ls=q:=by unfold Js;rw[aj hqq,HQ.o]
  have h2:Jt ls=[]:=by unfold Jt;rw[aj hqq]
  refine⟨H3.o.1,.slice none 0 0,?_,?_⟩
  ·rw[h1];simp
  ·rw[h2];exact aN.nil _ _
 ·subst hz
  have HO:=ae (PG (iV ls).led vt vn W3 H3.o.2.2.xn H3.o.2.2.Vr)
  have h1:Js ls=gV (iV ls).led true:=by unfold Js;rw[aF HQ.o]
  have h2:Jt ls=if gV (iV ls).led true=0 then Bv oI (iV ls).led (gm (iV ls).led) else[]:=by unfold Jt;rw[aF HQ.o]
  obtain⟨q2,hq2⟩: ∃q,gV (iV ls).led true=q:=⟨_,rfl⟩
  rw[hq2] at h1 h2
  have HH:=ae (ag h1 h2)
  clear h1 h2
  go_wp2_with fail
  refine HO.o.mono ?_
  rintro e W4 ⟨hb4,hp⟩
  rw[hq2] at hp
  have HB4:=ae (bn H3.o.1 hb4)
  clear hb4 hq2
  rcases hp with⟨hne,rfl⟩|⟨h0,u,rfl,hu⟩
  ·have HN:=ae hne
   clear hne
   go_wp2_with fail
   go_returns
   refine⟨HB4.o,.slice none 0 0,?_,?_⟩
   ·rw[HH.o.1];simp
   ·rw[HH.o.2,aj HN.o];exact aN.nil _ _
  ·subst h0
   have HU:=ae hu
   obtain⟨uo,uc,rfl⟩:=hu.open
   clear hu
   go_wp2_with fail
   go_returns
   refine⟨HB4.o,.slice uo (Bv oI (iV ls).led (gm (iV ls).led)).length uc,?_,?_⟩
   ·rw[HH.o.1];simp
   ·rw[HH.o.2];simpa using HU.o
theorem IM (lv:Value) (ls:List az) (w:World) (hls:iU w lv ls) (hE:Env w) (hln: ∀l∈ls,l.length<=1000000):Calls Tryz.prog 26 #[lv] w (akM ls w):=by
 have EY:=ae hls
 have HE:=ae hE
 have TI:=ae hln
 clear hls hE hln
 obtain⟨q,hq⟩: ∃q,fH ls=q:=⟨_,rfl⟩
 have HQ:=ae hq
 go_enter Tryz.func26,Tryz.ntmps26
 go_wp2_with fail
 refine(BD lv ls w (EY.o) (HE.o) (TI.o) [] (by simp)).mono ?_
 rintro e W2 ⟨hb2,V,es,cv,he,hX,hC⟩
 rw[hq] at he
 subst he
 obtain⟨co,cc,rfl⟩:=aW hC
 have hs2:=hb2.size
 have hS2:=hX W2 (Ext.refl _ _)
 rename_i hK
 refine hK _ _ ?_
 refine aP rfl _ (by go_simp;first|rfl|exact⟨rfl,rfl⟩) ?_
 simp only[zp]
 refine aP rfl _ (by go_simp;first|rfl|exact⟨rfl,rfl⟩) ?_
 simp only[zp]
 refine aP rfl _ (by go_simp;first|rfl|exact⟨rfl,rfl⟩) ?_
 simp only[zp]
 refine aP rfl _ (by go_simp;first|rfl|exact⟨rfl,rfl⟩) ?_
 simp only[zp]
 obtain⟨g,hg⟩: ∃g,g=W2.heap.size:=⟨_,rfl⟩
 refine aP rfl (w':=W2.alloc (.cells fQ 62 (0,0))) (.pointer (some ⟨g,0,none⟩)) (by rw[hg];go_simp;try rfl) ?_
 simp only[zp]
 have hz2:(W2.alloc (.cells fQ 62 (0,0))).heap[g]? =some (.cells fQ 62 (0,0)):=by rw[hg];exact ay _ _
 refine wpList_store_row rfl _ _ _ rfl g (dR (iV ls) V) (by as_aux_lemma=>kernel_rfl) (by as_aux_lemma=>kernel_rfl) _ fQ hz2 (by kernel_rfl) (by as_aux_lemma=>kernel_rfl) (by rw[oz];exact fun u hu=>jd hS2 u (pK.2 hu)) ?_
 simp only[zp]
 refine kM fun W3 hW3=>?_
 obtain⟨BA,nX⟩: ∃BA,BA=W2.alloc (.cells fQ 62 (0,0)):=⟨_,rfl⟩
 rw[<-nX] at hW3 hz2
 have xZ:Ext [g] BA W3:=by rw[hW3];exact gB
 have hs3:=xZ.size
 have hs2':BA.heap.size=g+1:=by rw[nX,hg];simp
 have qL:Below W2.heap.size W2 W3:=jA (by rw[nX];exact ak (aH _ _) _) xZ (by omega)
 have hk3:W3.heap[g]? =some (.cells (dR (iV ls) V) 62 (0,0)):=by rw[hW3];exact setRow_heap _ _ _ _ _ _ hz2
 have hb3:=bn hb2 qL
 have hg3:w.heap.size<=g:=by omega
 have hgs:g<W3.heap.size:=by omega
 have H3:=ae (ag hb3 (ag hk3 (hS2.below qL (ai _))))
 clear hX hC hW3 nX xZ qL hb2 hS2 hz2 hK hs2 hs3 hs2' hg hb3
 clear hq
 obtain⟨vt,vn,vw,vu,vr,vh,vk,vs⟩:=V
 obtain⟨c3,f3,l3⟩:=af hk3
 by_cases hz:q=0
 rotate_left
 ·go_wp2_with fail
  go_returns
  have hqq:fH ls≠0:=by rw[HQ.o];exact hz
  have h1:I8 ls=q:=by unfold I8;rw[aj hqq,HQ.o]
  have h2:I9 ls=[]:=by unfold I9;rw[aj hqq]
  refine⟨H3.o.1,.slice none 0 0,?_,?_⟩
  ·rw[h1];simp
  ·rw[h2];exact aN.nil _ _
 ·subst hz
  have HO:=ae (jD.TM (iV ls).heap vw vu vr W3 H3.o.2.2.bW H3.o.2.2.Ih H3.o.2.2.PR)
  have h1:I8 ls=jD.zX (iV ls).heap:=by unfold I8;rw[aF HQ.o]
  have h2:I9 ls=jD.RJ (iV ls).heap:=by unfold I9;rw[aF HQ.o]
  obtain⟨q2,hq2⟩: ∃q,jD.zX (iV ls).heap=q:=⟨_,rfl⟩
  rw[hq2] at h1
  have HH:=ae (ag h1 h2)
  clear h1 h2
  go_wp2_with fail
  refine HO.o.mono ?_
  rintro e W4 ⟨u,he,hu,hb4⟩
  rw[hq2] at he
  subst he
  have HB4:=ae (bn H3.o.1 hb4)
  have HU:=ae hu
  obtain⟨uo,uc,rfl⟩:=hu.open
  clear hb4 hq2 hu
  go_wp2_with fail
  go_returns
  refine⟨HB4.o,.slice uo (jD.RJ (iV ls).heap).length uc,?_,?_⟩
  ·rw[HH.o.1];simp
  ·rw[HH.o.2];exact HU.o
theorem ng (l:az):(gI l).size=l.length:=by simp[ByteArray.size]
abbrev uv (c:UInt8):Value:= .int .u8 (c.toNat:Int)
theorem Bq (a b:az):gI a++gI b=gI (a++b):=by
 apply ByteArray.ext
 simp
theorem qB {P:Program} {a b c:az} (hc:c=a++b) (h:a.length+b.length<=1000000000) (W:World):(Op.stringOp .add (gI a) (gI b)).run P W= .ok (.string (gI c)) W:=by
 have h1:=ng a
 have h2:=ng b
 subst hc
 unfold Op.stringOp
 rw[aj (by rw[h1,h2];have:IntKind.i64.max=9223372036854775807:=rfl;omega),Bq]
 simp
theorem IJ: ∀(l:az) (k:Nat) (c:UInt8),jI k (l++[c])=jI k l+(k+l.length)*c.toNat:=by
 intro l
 induction l with
 |nil=>intro k c;simp[jI]
 |cons x l ih=>intro k c;simp only[List.cons_append,jI,ih,List.length_cons];rw[show k+1+l.length=k+(l.length+1) from by omega];omega
theorem Eb: ∀(l:az) (k:Nat),k+l.length<=62->jI k l<=15810*l.length:=by
 intro l
 induction l with
 |nil=>intro k _;exact ai _
 |cons x l ih=>
  intro k h
  simp only[List.length_cons] at h
  have h1:=ih (k+1) (by omega)
  have h2:k*x.toNat<=62*255:=Nat.mul_le_mul (by omega) (by have:=x.toNat_lt;omega)
  simp only[jI,List.length_cons]
  omega
theorem aep (m:Nat) (h:m<=62*255):wrap64 (m:Int)=m:=IntWalk.wrap64_in _ ⟨by omega,by omega⟩
theorem aeo (i S m:Nat) (h1:i<=1000) (h2:S<=948600) (h3:m<=62*255):wrap64 (29*((i:Int)+1)+S+m)=29*((i:Int)+1)+S+m:=IntWalk.wrap64_in _ ⟨by omega,by omega⟩
theorem vO (i:Nat) (line:az) (w:World) (hi:i<=1000) (hl:line.length<=60):Calls Tryz.prog 187 #[iv i,.string (gI line)] w (PV (iv (jZ i line)) w):=by
 have hsz:=ng line
 go_enter Tryz.func187,Tryz.ntmps187
 go_wp2_with fail
 go_loopw [5,12] (fun s u wr=> ∃j:Nat,j<=line.length/\u= .int .i64 j/\s= .int .i64 ((29*(i+1)+jI 2 (line.take j):Nat):Int)/\Below w.heap.size w wr) (fun _ u _=>line.length-(intOf u).toNat)
 case atStart=>exact⟨0,bM _,rfl,by simp[jI];try omega,aH _ _⟩
 case round=>
  obtain⟨j,hj,rfl,rfl,hb⟩:=hrel
  by_cases hlt:j<line.length
  ·have hle:=Eb (line.take j) 2 (by simp;omega)
   have hlj:(line.take j).length=j:=by simp;omega
   rw[hlj] at hle
   obtain⟨c,hc⟩: ∃c,line[j]=c:=⟨_,rfl⟩
   have hcx:(gI line)[j]'(by rw[hsz];exact hlt)=c:=by rw[<-hc];rfl
   have hcl:=c.toNat_lt
   have hmul:(j+2)*c.toNat<=62*255:=Nat.mul_le_mul (by omega) (by omega)
   have hst:jI 2 (line.take (j+1))=jI 2 (line.take j)+(2+j)*c.toNat:=by
    rw[iC hlt,IJ,hlj,hc]
   have HST:=ae hst
   generalize hS:jI 2 (line.take j)=S at*
   obtain⟨m,hm⟩: ∃m,(j+2)*c.toNat=m:=⟨_,rfl⟩
   have hmI:((j:Int)+2)*(c.toNat:Int)=(m:Int):=by rw[<-hm];simp
   have HM:Hid ((2+j)*c.toNat=m):=ae (by rw[<-hm,Nat.add_comm])
   rw[hm] at hmul
   have akp:S<=948600:=by omega
   have w1:wrap64 (m:Int)=m:=aep m hmul
   have w2:wrap64 (29*((i:Int)+1)+S+m)=29*((i:Int)+1)+S+m:=aeo i S m hi akp hmul
   clear hst hS hlj hc hm
   go_wp2_with fail
   refine⟨⟨j+1,by omega,by go_num,?_,hb⟩,by simp[intOf];omega⟩
   rw[HST.o,HM.o]
   congr 1
   omega
  ·have hjl:j=line.length:=by omega
   subst hjl
   have hle:=Eb line 2 (by omega)
   rw[List.take_length]
   have HC:Hid (((29*(i+1)+jI 2 line:Nat):Int)%9949=(jZ i line:Nat)):=ae (by unfold jZ;omega)
   obtain⟨S,hS⟩: ∃S,29*(i+1)+jI 2 line=S:=⟨_,rfl⟩
   rw[hS] at HC⊢
   clear hle hS
   go_wp2_with fail
   go_returns
   exact⟨by simp[HC.o],hb⟩
theorem GM: ∀(i n:Nat),lH n (i+1)=EU (n/10^i%10)::lH n i:=by
 intro i
 induction i with
 |zero=>intro n;simp[lH]
 |succ i ih=>
  intro n
  rw[lH,ih (n/10),show lH n (i+1)=lH (n/10) i++[EU (n%10)] from rfl,Nat.div_div_eq_div_mul, <-Nat.pow_succ',List.cons_append]
def dv (k:Nat):Value:= .int .u8 ((48+k:Nat):Int)
theorem Uo {k:Nat} (h:k<10):dv k=uv (EU k):=by unfold dv uv;rw[mi h]
theorem MX (n:Nat) (hn:n<1000000) (w:World):Calls Tryz.prog 108 #[iv n] w (PV (.agg (Lib.byteCells (lH n 4)).toArray) w):=by
 obtain⟨d0,hd0⟩: ∃d,n%10=d:=⟨_,rfl⟩
 obtain⟨d1,hd1⟩: ∃d,n/10%10=d:=⟨_,rfl⟩
 obtain⟨d2,hd2⟩: ∃d,n/10/10%10=d:=⟨_,rfl⟩
 obtain⟨d3,hd3⟩: ∃d,n/10/10/10%10=d:=⟨_,rfl⟩
 have b0:d0<10:=by omega
 have b1:d1<10:=by omega
 have b2:d2<10:=by omega
 have b3:d3<10:=by omega
 have HD:Hid (lH n 4=[EU d3,EU d2,EU d1,EU d0]):=ae (by simp[lH,hd0,hd1,hd2,hd3])
 obtain⟨n1,hn1⟩: ∃m,n/10=m:=⟨_,rfl⟩
 rw[hn1] at hd1 hd2 hd3
 obtain⟨n2,hn2⟩: ∃m,n1/10=m:=⟨_,rfl⟩
 rw[hn2] at hd2 hd3
 obtain⟨n3,hn3⟩: ∃m,n2/10=m:=⟨_,rfl⟩
 rw[hn3] at hd3
 obtain⟨n4,hn4⟩: ∃m,n3/10=m:=⟨_,rfl⟩
 have q0:(n:Int)%10=d0:=by omega
 have q1:(n1:Int)%10=d1:=by omega
 have q2:(n2:Int)%10=d2:=by omega
 have q3:(n3:Int)%10=d3:=by omega
 have r0:(n:Int)/10=n1:=by omega
 have r1:(n1:Int)/10=n2:=by omega
 have r2:(n2:Int)/10=n3:=by omega
 have r3:(n3:Int)/10=n4:=by omega
 clear hd0 hd1 hd2 hd3 hn1 hn2 hn3 hn4
 go_enter Tryz.func108,Tryz.ntmps108
 go_wp2_with fail
 go_loopw [0,4] (fun s u wr=>Below w.heap.size w wr/\((s=iv n/\u=iv 0/\wr.heap[w.heap.size]? =some (.cells #[.int .u8 0,.int .u8 0,.int .u8 0,.int .u8 0] 233 (0,0)))∨
  (s=iv n1/\u=iv 1/\wr.heap[w.heap.size]? =some (.cells #[.int .u8 0,.int .u8 0,.int .u8 0,dv d0] 233 (0,0)))∨
  (s=iv n2/\u=iv 2/\wr.heap[w.heap.size]? =some (.cells #[.int .u8 0,.int .u8 0,dv d1,dv d0] 233 (0,0)))∨
  (s=iv n3/\u=iv 3/\wr.heap[w.heap.size]? =some (.cells #[.int .u8 0,dv d2,dv d1,dv d0] 233 (0,0)))∨
  (s=iv n4/\u=iv 4/\wr.heap[w.heap.size]? =some (.cells #[dv d3,dv d2,dv d1,dv d0] 233 (0,0))))) (fun _ u _=>4-(intOf u).toNat)
 case atStart=>exact⟨ak (aH _ _) _,.inl ⟨rfl,rfl,ay _ _⟩⟩
 case round=>
  obtain⟨hB,hc⟩:=hrel
  rcases hc with⟨rfl,rfl,hk⟩|⟨rfl,rfl,hk⟩|⟨rfl,rfl,hk⟩|⟨rfl,rfl,hk⟩|⟨rfl,rfl,hk⟩
  ·obtain⟨c0,f0,l0⟩:=af hk
   have HX:=ae (ag hB hk)
   clear hB hk
   go_wp2_with fail
   exact⟨⟨iD HX.o.1 (ai _) _,.inr (.inl ⟨rfl,rfl,aI HX.o.2 _⟩)⟩,by simp[intOf]⟩
  ·obtain⟨c0,f0,l0⟩:=af hk
   have HX:=ae (ag hB hk)
   clear hB hk
   go_wp2_with fail
   exact⟨⟨iD HX.o.1 (ai _) _,.inr (.inr (.inl ⟨rfl,rfl,aI HX.o.2 _⟩))⟩,by simp[intOf]⟩
  ·obtain⟨c0,f0,l0⟩:=af hk
   have HX:=ae (ag hB hk)
   clear hB hk
   go_wp2_with fail
   exact⟨⟨iD HX.o.1 (ai _) _,.inr (.inr (.inr (.inl ⟨rfl,rfl,aI HX.o.2 _⟩)))⟩,by simp[intOf]⟩
  ·obtain⟨c0,f0,l0⟩:=af hk
   have HX:=ae (ag hB hk)
   clear hB hk
   go_wp2_with fail
   exact⟨⟨iD HX.o.1 (ai _) _,.inr (.inr (.inr (.inr ⟨rfl,rfl,aI HX.o.2 _⟩)))⟩,by simp[intOf]⟩
  ·obtain⟨c0,f0,l0⟩:=af hk
   have HX:=ae (ag hB hk)
   clear hB hk
   go_upto_region 7 with(fail)
   refine wp_region_lit ?_
   refine wpList_load_row rfl _ _ rfl w.heap.size rfl _ _ _ _ HX.o.2 Tryz.underlying233 rfl (by kernel_rfl) ?_
   simp only[zp]
   refine wpList_store_row rfl _ _ _ rfl w.heap.size #[dv d3,dv d2,dv d1,dv d0] (by as_aux_lemma=>kernel_rfl) (by as_aux_lemma=>kernel_rfl) _ _ HX.o.2 (by kernel_rfl) (by as_aux_lemma=>kernel_rfl) (by simp[dv,Value.oneCell']) ?_
   simp only[zp]
   refine kM fun W5 xY=>?_
   have Oq:Ext [w.heap.size] wr W5:=by rw[xY];exact gB
   have hk5:W5.heap[w.heap.size]? =some (.cells #[dv d3,dv d2,dv d1,dv d0] 233 (0,0)):=by rw[xY];exact setRow_heap _ _ _ _ _ _ HX.o.2
   have H5:=ae (ag (jA HX.o.1 Oq (ai _)) hk5)
   clear xY Oq hk5
   go_wp2_with fail
   refine bodyPost_ret (v:= .agg #[dv d3,dv d2,dv d1,dv d0]) ?_ rfl ?_
   ·have q1:=run_loadVar_row (P:=Tryz.prog) W5 w.heap.size 233 233 _ (0,0) _ H5.o.2 Tryz.underlying233 rfl (by kernel_rfl)
    simp[results,Tryz.results108,asAddr,q1]
   ·refine⟨?_,H5.o.1⟩
    rw[HD.o,Uo b0,Uo b1,Uo b2,Uo b3]
    rfl
theorem yN (n:Nat): ∃a b c d,lH n 4=[a,b,c,d]:=by
 have h:=jT 4 n
 match hq:lH n 4,h with
 |[a,b,c,d],_=>exact⟨a,b,c,d,rfl⟩
def TP (i:Nat) (line:az):List Value:=Lib.byteCells (58::58::10::lH (jZ i line) 4)
abbrev z7:Array Value:= #[.int .u8 0,.int .u8 0,.int .u8 0,.int .u8 0,.int .u8 0,.int .u8 0,.int .u8 0]
theorem Ff (i:Nat) (line:az) (w:World) (hi:i<=1000) (hl:line.length<=60):Calls Tryz.prog 107 #[iv i,.string (gI line)] w (PV (.agg (TP i line).toArray) w):=by
 obtain⟨a,b,c,d,hd⟩:=yN (jZ i line)
 have HD:=ae hd
 have hcl:=WQ i line
 have HCK:=ae (fun W=>vO i line W hi hl)
 have HSH:=ae (fun W=>MX (jZ i line) (by omega) W)
 unfold TP
 rw[hd]
 have hQ:=HD
 clear hd HD
 generalize jZ i line=k at*
 go_enter Tryz.func107,Tryz.ntmps107
 go_upto_region 1 with(fail)
 refine dM fun W1 hW1=>?_
 have hb1:Below w.heap.size w W1:=by rw[hW1];exact ak (aH _ _) _
 have hk1:W1.heap[w.heap.size]? =some (.cells z7 235 (0,0)):=by rw[hW1];exact ay _ _
 have hs1:w.heap.size<W1.heap.size:=by rw[hW1];simp
 have HB1:=ae hb1
 have XN:=ae hk1
 clear hW1 hb1 hk1
 go_wp2_with fail
 refine(HCK.o W1).mono ?_
 rintro e W2 ⟨rfl,hb⟩
 have hs2:=hb.size
 have HB2:=ae (bn HB1.o hb)
 have HK2:=ae ((hb.block _ hs1).trans XN.o)
 clear hb
 go_wp2_with fail
 refine(HSH.o W2).mono ?_
 rintro e W3 ⟨he,hb⟩
 rw[hQ.o] at he
 subst he
 have hs3:=hb.size
 have HB3:=ae (bn HB2.o hb)
 have hk3:=(hb.block w.heap.size (by omega)).trans HK2.o
 clear hb
 rename_i hK
 refine hK _ _ ?_
 refine aP rfl (w':=W3) (.agg #[uv 58,uv 58,uv 10,uv a,uv b,uv c,uv d]) (by as_aux_lemma=>kernel_rfl) ?_
 simp only[zp]
 refine wpList_store_row rfl _ _ _ rfl w.heap.size #[uv 58,uv 58,uv 10,uv a,uv b,uv c,uv d] (by as_aux_lemma=>kernel_rfl) (by as_aux_lemma=>kernel_rfl) _ z7 hk3 (by kernel_rfl) (by as_aux_lemma=>kernel_rfl) (by simp[Value.oneCell']) ?_
 simp only[zp]
 refine kM fun W4 ER=>?_
 have Ot:Ext [w.heap.size] W3 W4:=by rw[ER];exact gB
 have hk4:W4.heap[w.heap.size]? =some (.cells #[uv 58,uv 58,uv 10,uv a,uv b,uv c,uv d] 235 (0,0)):=by rw[ER];exact setRow_heap _ _ _ _ _ _ hk3
 have H4:=ae (ag (jA HB3.o Ot (ai _)) hk4)
 clear ER Ot hk4 hk3 hK
 go_wp2_with fail
 refine bodyPost_ret (v:= .agg #[uv 58,uv 58,uv 10,uv a,uv b,uv c,uv d]) ?_ rfl ?_
 ·have q1:=run_loadVar_row (P:=Tryz.prog) W4 w.heap.size 235 235 _ (0,0) _ H4.o.2 Tryz.underlying235 rfl (by kernel_rfl)
  simp[results,Tryz.results107,asAddr,q1]
 ·exact⟨rfl,H4.o.1⟩
theorem aN.cut {w:World} {o:Option Addr} {n c:Nat} {xs:List Value} (h:aN 1 w (.slice o n c) n xs) {l k:Nat} (hlk:l<=k) (hk:k<=n):aN 1 w (sliced o l k c 1) (k-l) ((xs.take k).drop l):=by
 obtain⟨hl,o',c',hv,h1,h2,h3,h4⟩:=h
 injection hv with e1 e2 e3
 subst e1 e3
 have hlen:xs.length=n:=by simpa using hl
 refine⟨by simp;omega,(if c=l then o else o.map (·.add (l*1))),c-l,rfl,by omega,by omega,fun ho=>?_,fun a ha=>?_⟩
 ·split at ho
  ·omega
  ·cases o with
   |none=>have:=h3 rfl;omega
   |some a=>cases ho
 ·split at ha
  ·rename_i hcl
   obtain⟨hs,hc⟩:=h4 a ha
   refine⟨hs,fun j u hj=>?_⟩
   have:(xs.take k).drop l=[]:=List.drop_eq_nil_of_le (by simp;omega)
   rw[this] at hj
   cases hj
  ·cases o with
   |none=>cases ha
   |some b=>
    obtain⟨hs,hc⟩:=h4 b rfl
    obtain⟨bb,off,sp⟩:=b
    simp only at hs hc
    subst hs
    simp only[Option.map_some,Option.some.injEq,Nat.mul_one] at ha
    rw[Addr.add_lit] at ha
    subst ha
    refine⟨rfl,fun j u hj=>?_⟩
    rw[List.getElem?_drop,List.getElem?_take] at hj
    split at hj
    ·have:=hc _ _ hj
     simpa [Nat.add_assoc] using this
    ·cases hj
theorem ab1 {P:Program} (t:TypeId) (hu:P.underlying t=some (.slice (P.elem t))) (hsz: ∀W,(sizeOf (P.elem t)).run P W= .ok 1 W) {o:Option Addr} {n c:Nat} {l k:Nat} (hlk:l<=k) (hk:k<=c):
 ∃so sc,(∀W,(Instr.slice t (.slice o n c) (some (iv (l:Int))) (some (iv (k:Int))) none).run P W= .ok (.slice so (k-l) sc) W)/\sliced o l k c 1= .slice so (k-l) sc:=by
 refine⟨_,_,fun W=>?_,rfl⟩
 rw[run_slice_lh (P:=P) W t o n c hu .i64 .i64 (l:Int) (k:Int) (by omega) (by omega) (by omega)]
 rw[hsz]
 rfl
theorem Z5 {P:Program} (t:TypeId) (hu:P.underlying t=some (.slice (P.elem t))) (hsz: ∀W,(sizeOf (P.elem t)).run P W= .ok 1 W) {o:Option Addr} {n c:Nat} {l:Nat} (hl:l<=n):
 ∃so sc,(∀W,(Instr.slice t (.slice o n c) (some (iv (l:Int))) none none).run P W= .ok (.slice so (n-l) sc) W)/\sliced o l n c 1= .slice so (n-l) sc:=by
 refine⟨_,_,fun W=>?_,rfl⟩
 rw[run_slice_l (P:=P) W t o n c hu .i64 (l:Int) (by omega) (by omega)]
 rw[hsz]
 rfl
theorem Z4 {P:Program} (t:TypeId) (hu:P.underlying t=some (.slice (P.elem t))) (hsz: ∀W,(sizeOf (P.elem t)).run P W= .ok 1 W) {o:Option Addr} {n c:Nat} {k:Nat} (hk:k<=c):
 ∃so sc,(∀W,(Instr.slice t (.slice o n c) none (some (iv (k:Int))) none).run P W= .ok (.slice so (k-0) sc) W)/\sliced o 0 k c 1= .slice so (k-0) sc:=by
 refine⟨_,_,fun W=>?_,rfl⟩
 rw[run_slice_h (P:=P) W t o n c hu .i64 (k:Int) (by omega) (by omega)]
 rw[hsz]
 rfl
theorem BytesAt.cell {w:World} {o:Option Addr} {n c:Nat} {l:az} (h:aN 1 w (.slice o n c) n (Lib.byteCells l)) {k:Nat} (hk:k<l.length):
 ∃b off,o=some ⟨b,off,none⟩/\b<w.heap.size/\w.cell? ⟨b,off+k,none⟩=some (.int .u8 (l[k].toNat:Int)):=by
 obtain⟨hl,o',c',hv,h1,h2,h3,h4⟩:=h
 cases hv
 have hn:n=l.length:=by simpa [Lib.byteCells] using hl.symm
 cases o with
 |none=>have:=h3 rfl;omega
 |some a=>
  obtain⟨b,off,sp⟩:=a
  obtain⟨hs,hc⟩:=h4 _ rfl
  simp only at hs hc
  subst hs
  have:=hc k (.int .u8 (l[k].toNat:Int)) (by simp[Lib.byteCells,hk])
  exact⟨b,off,rfl,dG w _ this,this⟩
theorem CY {l:az} {a k:Nat}:((Lib.byteCells l).take k).drop a=Lib.byteCells ((l.take k).drop a):=by simp[Lib.byteCells,List.map_take,List.map_drop]
theorem uB:Tryz.prog.underlying 25=some (.slice (Tryz.prog.elem 25)):=by kernel_rfl
theorem szB (W:World):(sizeOf (Tryz.prog.elem 25)).run Tryz.prog W= .ok 1 W:=by
 rw[show Tryz.prog.elem 25=5 by kernel_rfl]
 simp[go_sem]
theorem Fh:iO Tryz.prog 25 5 (.int .u8 0) 1 1:=⟨Tryz.underlying25,by kernel_rfl,rfl,by omega⟩
end Go.Proofs.YthllkbbbapgelaaGreatDoor.Bk
end
section
namespace Go.Proofs.YthllkbbbapgelaaGreatDoor.Bk
open Go.Lib Go.RowKit Go.RG Go.SL Go.Shelf jl Go.TB Go.Proofs.YthllkbbbapgelaaGreatDoor.zo
theorem Fp {A B C cs:List Value} (h:B.length=cs.length):splice (A++(B++C)) A.length cs=A++(cs++C):=by
 unfold splice
 rw[nD (ai _),jW (ai _), <-h,List.drop_append]
 simp
theorem set_mid {A C:List Value} {x y:Value}:(A++(x::C)).set A.length y=A++(y::C):=by
 rw[qy _ _ (ai _),Nat.sub_self,List.set_cons_zero]
theorem Nk {a b c d e f x y z:Value} {ln Z:List Value} (hZ:Z.length=ln.length+9):
 (splice ((splice ((splice Z 0 [a,b]).set 2 x) 3 ln).set (3+ln.length) y) (4+ln.length) [c,d,e,f]).set (8+ln.length) z=a::b::x::(ln++[y,c,d,e,f,z]):=by
 obtain⟨z0,z1,z2,Z1,y0,y1,y2,y3,y4,y5,rfl,h1⟩: ∃z0 z1 z2 Z1 y0 y1 y2 y3 y4 y5,Z=z0::z1::z2::(Z1++[y0,y1,y2,y3,y4,y5])/\Z1.length=ln.length:=by
  match Z,hZ with
  |z0::z1::z2::Z',hZ=>
   have hl:Z'.length=ln.length+6:=by simp at hZ;omega
   refine⟨z0,z1,z2,Z'.take ln.length,?_⟩
   have h6:(Z'.drop ln.length).length=6:=by rw[kY];omega
   match hq:Z'.drop ln.length,h6 with
   |[y0,y1,y2,y3,y4,y5],_=>exact⟨y0,y1,y2,y3,y4,y5,by rw[<-hq,List.take_append_drop],by rw[gJ];omega⟩
 have s1:splice (z0::z1::z2::(Z1++[y0,y1,y2,y3,y4,y5])) 0 [a,b]=a::b::z2::(Z1++[y0,y1,y2,y3,y4,y5]):=rfl
 rw[s1]
 have s2:(a::b::z2::(Z1++[y0,y1,y2,y3,y4,y5])).set 2 x=[a,b,x]++(Z1++[y0,y1,y2,y3,y4,y5]):=rfl
 rw[s2,show(3:Nat)=[a,b,x].length from rfl,Fp h1]
 have s3:[a,b,x]++(ln++[y0,y1,y2,y3,y4,y5])=([a,b,x]++ln)++(y0::[y1,y2,y3,y4,y5]):=by simp
 rw[s3,show[a,b,x].length+ln.length=([a,b,x]++ln).length from by simp;omega,set_mid]
 have s4:([a,b,x]++ln)++(y::[y1,y2,y3,y4,y5])=([a,b,x]++ln++[y])++([y1,y2,y3,y4]++[y5]):=by simp
 rw[s4,show 4+ln.length=([a,b,x]++ln++[y]).length from by simp;omega,Fp (B:=[y1,y2,y3,y4]) (cs:=[c,d,e,f]) rfl]
 have s5:([a,b,x]++ln++[y])++([c,d,e,f]++[y5])=([a,b,x]++ln++[y,c,d,e,f])++(y5::[]):=by simp
 rw[s5,show 8+ln.length=([a,b,x]++ln++[y,c,d,e,f]).length from by simp;omega,set_mid]
 simp
theorem zZ {W:World} {o:Option Addr} {n c:Nat} {l:az} (h:aN 1 W (.slice o n c) n (Lib.byteCells l)):(convert 25 9 (.slice o n c)).run Tryz.prog W= .ok (.string (gI l)) W:=by
 obtain⟨hl,o',c',hv,h1,h2,h3,h4⟩:=h
 cases hv
 have hn:l.length=n:=by simpa [Lib.byteCells] using hl
 cases o with
 |none=>
  have:n=0:=by have:=h3 rfl;omega
  subst this
  obtain rfl:=ku hn
  rw[run_convert_bytes_nil W 25 5 Tryz.underlying25 Tryz.underlying5 _ _ 9 Tryz.underlying9]
  rfl
 |some a=>
  obtain⟨b,off,sp⟩:=a
  obtain⟨hs,hc⟩:=h4 _ rfl
  simp only at hs hc
  subst hs
  rw[run_convert_bytes_arg W 25 5 Tryz.underlying25 Tryz.underlying5 b off n c (l.map fun x=>(x.toNat:Int)) (by simpa using hn) (fun i hi=>by
   have hi':i<l.length:=by omega
   have:=hc i (.int .u8 (l[i].toNat:Int)) (by simp[Lib.byteCells,hi'])
   rw[this]
   simp[List.getD,hi']) 9 Tryz.underlying9]
  congr 1
  congr 1
  simp only[strOfNums,gI]
  congr 1
  apply Array.ext
  ·simp
  ·intro j h1 h2
   simp
theorem aaW {w W1:World} {A B:Array Value} {t u:TypeId} (h:W1=(w.alloc (.cells A t)).alloc (.cells B u)):
 Below w.heap.size w W1/\W1.heap[w.heap.size]? =some (.cells A t (0,0))/\W1.heap[w.heap.size+1]? =some (.cells B u (0,0))/\W1.heap.size=w.heap.size+2:=by
 subst h
 exact⟨ak (ak (aH _ _) _) _,(aV _ _ _ (by simp)).trans (ay _ _),dU _ _ _,by simp⟩
theorem row_step {W W':World} {g t5:Nat} {L X:List Value} {t:TypeId} {o:Obj} (h:W'=W.setRow g L.toArray) (hk:W.heap[g]? =some (.cells X.toArray t (0,0))) (hne:g≠t5) (h5:W.heap[t5]? =some o):
 W'.heap[t5]? =some o/\W'.heap[g]? =some (.cells L.toArray t (0,0))/\Below g W W':=by
 subst h
 exact⟨(setRow_other W g t5 _ (Ne.symm hne)).trans h5,setRow_heap W g _ _ t _ hk,below_setRow (aH _ _) (ai _) _⟩
theorem CW {W W':World} {g t5 j:Nat} {v:Value} {X:List Value} {t:TypeId} {o:Obj} (h:W'=W.setCell ⟨g,j,none⟩ v) (hk:W.heap[g]? =some (.cells X.toArray t (0,0))) (hne:g≠t5) (h5:W.heap[t5]? =some o):
 W'.heap[t5]? =some o/\W'.heap[g]? =some (.cells (X.set j v).toArray t (0,0))/\Below g W W':=by
 subst h
 refine⟨(heap_setCell_other W ⟨g,j,none⟩ t5 v (Ne.symm hne)).trans h5,?_,(aH g W).setCell (p:=⟨g,j,none⟩) (ai _) v⟩
 rw[heap_setCell_same W g j _ t v hk,qY]
theorem QU (n:Nat) (hn:n<=1000) (W:World):
 (Instr.makeSlice 25 (iv n) (iv n)).run Tryz.prog W= .ok (.slice (some ⟨W.heap.size,0,none⟩) n n) (W.alloc (.cells (List.replicate n (Value.int .u8 0)).toArray 5)):=by
 obtain⟨i,hi,hz,hs,hby⟩:=info_parts Fh.info
 have:=run_make (P:=Tryz.prog) W 25 5 i (.int .u8 0) Fh.und hi hz .i64 .i64 n n (by omega) (Int.le_refl _) (by rw[hby];omega) (by omega)
 rw[this,hs]
 simp only[Int.toNat_natCast]
 congr 3
 apply Array.ext
 ·simp[madeCells]
 ·intro j h1 h2
  simp[madeCells,Value.cells]
  rw[Nat.mod_one]
  rfl
theorem IE {n:Nat} {p q r s:UInt8} (h:lH n 4=[p,q,r,s]):lH n 2=[r,s]:=by
 rw[GM 3,GM 2] at h
 injection h with _ h
 injection h with _ h
def akO (i:Nat) (line:az) (w:World) (e:Ending) (w':World):Prop:=
 Below w.heap.size w w'/\ ∃g n,n=9+line.length/\e= .returned (.slice (some ⟨g,0,none⟩) n n)/\w.heap.size<=g/\w'.heap[g]? =some (.cells (Lib.byteCells (bZ i line)).toArray 5 (0,0))
theorem Qz (i:Nat) (line:az) (w:World) (hi:i<=1000) (hl:line.length<=60):Calls Tryz.prog 59 #[iv i,.string (gI line)] w (akO i line w):=by
 obtain⟨a,b,c,d,hd⟩:=yN (jZ i line)
 obtain⟨p,q,r,s,hs⟩:=yN line.length
 have HT:=Ff i line w hi hl
 have HSH:=ae (fun W=>MX line.length (by omega) W)
 unfold TP at HT
 rw[hd] at HT
 rw[hs] at HSH
 have hrec:Lib.byteCells (bZ i line)=uv r::uv s::uv 58::(Lib.byteCells line++[uv 58,uv a,uv b,uv c,uv d,uv 10]):=by
  unfold bZ
  rw[hd,IE hs]
  simp[Lib.byteCells,uv]
 have hbl:(Lib.byteCells line).length=line.length:=by simp[Lib.byteCells]
 have hsz:=ng line
 obtain⟨c1,hc1⟩: ∃c,c=(58:UInt8):=⟨_,rfl⟩
 obtain⟨c3,hc3⟩: ∃c,c=(10:UInt8):=⟨_,rfl⟩
 rw[<-hc1, <-hc3] at HT hrec
 have HR:=ae hrec
 have HTT:Hid (Calls Tryz.prog 107 #[iv i,.string (gI line)] w (PV (.agg #[uv c1,uv c1,uv c3,uv a,uv b,uv c,uv d]) w)):=ae HT
 have HSW:Hid (∀W,Calls Tryz.prog 108 #[iv line.length] W (PV (.agg #[uv p,uv q,uv r,uv s]) W)):=ae HSH.o
 have HBL:=ae hbl
 clear hd hs hrec hc1 hc3 HT hbl HSH
 go_enter Tryz.func59,Tryz.ntmps59
 go_wp2_with fail
 refine HTT.o.mono ?_
 rintro e W1 ⟨rfl,hb1⟩
 have HB1:=ae hb1
 go_wp2_with fail
 refine(HSW.o W1).mono ?_
 rintro e W2 ⟨rfl,hb2⟩
 have HB2:=ae (bn HB1.o hb2)
 clear hb1 hb2
 go_upto_region 2 with(fail)
 refine dM fun W3 hW3=>?_
 obtain⟨hb3,k5,k6,hz3⟩:=aaW hW3
 have HB3:=ae (bn HB2.o hb3)
 have Xx:=ae (ag k5 k6)
 clear hW3 hb3 k5 k6
 obtain⟨N,hN⟩: ∃N,N=9+line.length:=⟨_,rfl⟩
 have hmk:(Instr.makeSlice 25 (iv (3+(line.length:Int)+6)) (iv (3+(line.length:Int)+6))).run Tryz.prog W3= .ok (.slice (some ⟨W3.heap.size,0,none⟩) N N) (W3.alloc (.cells (List.replicate N (Value.int .u8 0)).toArray 5)):=by
  have e:(3+(line.length:Int)+6)=((N:Nat):Int):=by omega
  rw[e]
  exact QU N (by omega) W3
 go_upto_region 3 with(fail)
 refine dM fun W4 ER=>?_
 have k7:W4.heap[W2.heap.size+2]? =some (.cells (List.replicate (9+line.length) (Value.int .u8 0)).toArray 5 (0,0)):=by
  rw[ER, <-hz3,List.toArray_replicate]
  exact ay _ _
 have hb4:Below W3.heap.size W3 W4:=by rw[ER];exact ak (aH _ _) _
 have hw2:w.heap.size<=W2.heap.size:=HB2.o.size
 have HB4:=ae (bn HB3.o hb4)
 have k5:=(hb4.block W2.heap.size (by omega)).trans Xx.o.1
 have k6:=(hb4.block (W2.heap.size+1) (by omega)).trans Xx.o.2
 clear ER hb4 hmk hN Xx
 obtain⟨g,hg⟩: ∃g,W2.heap.size+2=g:=⟨_,rfl⟩
 obtain⟨t6,h6⟩: ∃g,W2.heap.size+1=g:=⟨_,rfl⟩
 obtain⟨t5,h5⟩: ∃g,W2.heap.size=g:=⟨_,rfl⟩
 rw[hg] at k7⊢
 rw[h6] at k6⊢
 rw[h5] at k5⊢
 have hne:g≠t5/\g≠t6/\w.heap.size<=g:=by omega
 have J5:=ae hne
 clear hg h6 h5 hne hz3 hw2
 have xw:=ae k7
 have XM:=ae k5
 have HK6:=ae k6
 obtain⟨c6,f6,l6⟩:=af k6
 clear k5 k6 k7
 have hc6: ∀j v,[uv r,uv s][j]? =some v->W4.cell? ((⟨t6,2,none⟩:Addr).add j)=some v:=fun j v hj=>by
  match j,hj with
  |0,hj=>exact(c6 2).trans hj
  |1,hj=>exact(c6 3).trans hj
 obtain⟨L0,hL0⟩: ∃L0,L0=List.replicate (9+line.length) (Value.int .u8 0):=⟨_,rfl⟩
 have hl0:L0.length=9+line.length:=by rw[hL0,List.length_replicate]
 have k7:=xw.o
 rw[<-hL0] at k7
 have hcp:(Builtin.copy_ #[25,25] 3 #[.slice (some ⟨g,0,none⟩) (9+line.length) (9+line.length),.slice (some ⟨t6,2,none⟩) 2 2]).run Tryz.prog W4= .ok (goInt 2) (W4.setRow g (splice L0 0 [uv r,uv s]).toArray):=by
  have h:=run_copy_row (P:=Tryz.prog) W4 25 25 3 5 g 0 (9+line.length) (9+line.length) ⟨t6,2,none⟩ 2 2 L0.toArray 5 [uv r,uv s] Tryz.underlying25 (by kernel_rfl) k7 (by rw[show Nat.min 2 (9+line.length)=2 from Nat.min_eq_left (by omega)];rfl) hc6 (by simp;omega) (by simp[uv,Value.oneCell'])
  exact h
 have HL0:=ae hl0
 clear hc6 hL0 hl0 xw
 have xw:=ae k7
 clear k7
 go_upto_region 4 with(fail)
 refine dM fun W5 xY=>?_
 obtain⟨L1,hL1⟩: ∃L1,L1=splice L0 0 [uv r,uv s]:=⟨_,rfl⟩
 rw[<-hL1] at xY
 have hl1:L1.length=9+line.length:=by rw[hL1,length_splice _ _ _ (by rw[HL0.o];simp;omega),HL0.o]
 obtain⟨h5,k7,hb5⟩:=row_step xY xw.o (J5.o.1) XM.o
 have pV:=ae (HB4.o.trans (hb5.mono J5.o.2.2))
 have HL1:=ae (ag hL1 hl1)
 obtain⟨c5,f5,l5⟩:=af h5
 obtain⟨x2,g7⟩: ∃x,W5.cell? ⟨g,2,none⟩=some x:=⟨L1[2]'(by omega),by rw[(af k7).1 2];simp⟩
 obtain⟨_,f7,l7⟩:=af k7
 have H5:=ae (ag h5 k7)
 clear xY h5 k7 hb5 hL1 hl1 hcp c6 f6 l6 XM HK6 xw HB4
 go_upto_region 5 with(fail)
 refine dM fun W6 Cm=>?_
 obtain⟨h6,k8,hb6⟩:=CW Cm H5.o.2 J5.o.1 H5.o.1
 obtain⟨L2,hL2⟩: ∃L2,L2=L1.set 2 (uv c1):=⟨_,rfl⟩
 have hl2:L2.length=9+line.length:=by rw[hL2,qp,HL1.o.2]
 rw[<-hL2] at k8
 have qG:=ae (pV.o.trans (hb6.mono J5.o.2.2))
 have HL2:=ae (ag hL2 hl2)
 have H6:=ae (ag h6 k8)
 clear Cm h6 k8 hb6 hL2 hl2 c5 f5 l5 g7 f7 l7 H5 pV
 have hcq:(Builtin.copy_ #[25,9] 3 #[.slice (some ⟨g,3,none⟩) (9+line.length-3) (9+line.length-3),.string (gI line)]).run Tryz.prog W6= .ok (goInt line.length) (W6.setRow g (splice L2 3 (Lib.byteCells line)).toArray):=by
  have h:=Lib.run_copy_row_string (P:=Tryz.prog) W6 25 9 3 5 g 3 (9+line.length-3) (9+line.length-3) (gI line) L2.toArray 5 Tryz.underlying25 (by kernel_rfl) H6.o.2 (by rw[hsz];omega) (by rw[hsz];have:=HL2.o.2;simp;omega)
  rw[h,hsz]
  have e:L2.toArray.toList.take 3++Lib.byteCells (gI line).data.toList++L2.toArray.toList.drop (3+line.length)=splice L2 3 (Lib.byteCells line):=by
   unfold splice
   rw[HBL.o,kZ]
  rw[e]
 go_upto_region 6 with(fail)
 refine dM fun W7 yV=>?_
 obtain⟨L3,hL3⟩: ∃L3,L3=splice L2 3 (Lib.byteCells line):=⟨_,rfl⟩
 rw[<-hL3] at yV
 have hl3:L3.length=9+line.length:=by rw[hL3,length_splice _ _ _ (by rw[HL2.o.2,HBL.o];omega),HL2.o.2]
 obtain⟨h7,k8,hb7⟩:=row_step yV H6.o.2 J5.o.1 H6.o.1
 have zB:=ae (qG.o.trans (hb7.mono J5.o.2.2))
 have HL3:=ae (ag hL3 hl3)
 have H7:=ae (ag h7 k8)
 clear yV h7 k8 hb7 hL3 hl3 hcq H6 qG
 go_upto_region 7 with(fail)
 rw[show 9+line.length-(3+line.length)=6 from by omega]
 obtain⟨c7,f7,l7⟩:=af H7.o.1
 obtain⟨c8,f8,l8⟩:=af H7.o.2
 obtain⟨x3,g3⟩: ∃x,W7.cell? ⟨g,3+line.length,none⟩=some x:=⟨L3[3+line.length]'(by have:=HL3.o.2;omega),by rw[c8 (3+line.length)];simp⟩
 clear c8
 go_upto_region 8 with(fail)
 refine dM fun W8 hW8=>?_
 obtain⟨h8,k8,hb8⟩:=CW hW8 H7.o.2 J5.o.1 H7.o.1
 obtain⟨L4,hL4⟩: ∃L4,L4=L3.set (3+line.length) (uv c1):=⟨_,rfl⟩
 have hl4:L4.length=9+line.length:=by rw[hL4,qp,HL3.o.2]
 rw[<-hL4] at k8
 have pU:=ae (zB.o.trans (hb8.mono J5.o.2.2))
 have HL4:=ae (ag hL4 hl4)
 have H8:=ae (ag h8 k8)
 clear hW8 h8 k8 hb8 hL4 hl4 c7 f7 l7 f8 l8 g3 H7 zB
 have hct: ∀j v,[uv a,uv b,uv c,uv d][j]? =some v->W8.drew.cell? ((⟨t5,3,none⟩:Addr).add j)=some v:=fun j v hj=>by
  obtain⟨c5,_,_⟩:=af H8.o.1
  match j,hj with
  |0,hj=>exact(c5 3).trans hj
  |1,hj=>exact(c5 4).trans hj
  |2,hj=>exact(c5 5).trans hj
  |3,hj=>exact(c5 6).trans hj
 have hcr:(Builtin.copy_ #[25,25] 3 #[.slice (some ⟨g,3+line.length+1,none⟩) 5 5,.slice (some ⟨t5,3,none⟩) 4 4]).run Tryz.prog W8.drew= .ok (goInt 4) (W8.drew.setRow g (splice L4 (4+line.length) [uv a,uv b,uv c,uv d]).toArray):=by
  rw[show 3+line.length+1=4+line.length from by omega]
  have h:=run_copy_row (P:=Tryz.prog) W8.drew 25 25 3 5 g (4+line.length) 5 5 ⟨t5,3,none⟩ 4 4 L4.toArray 5 [uv a,uv b,uv c,uv d] Tryz.underlying25 (by kernel_rfl) H8.o.2 rfl hct (by have:=HL4.o.2;simp;omega) (by simp[uv,Value.oneCell'])
  rw[h,kZ]
  rfl
 clear hct
 go_region
 go_upto_region 9 with(fail)
 refine dM fun W9 Lm=>?_
 obtain⟨L5,hL5⟩: ∃L5,L5=splice L4 (4+line.length) [uv a,uv b,uv c,uv d]:=⟨_,rfl⟩
 rw[<-hL5] at Lm
 have hl5:L5.length=9+line.length:=by rw[hL5,length_splice _ _ _ (by rw[HL4.o.2];simp;omega),HL4.o.2]
 obtain⟨h9,k9,wE⟩:=row_step (W:=W8.drew) Lm H8.o.2 J5.o.1 H8.o.1
 have pW:=ae (pU.o.drew.trans (wE.mono J5.o.2.2))
 have HL5:=ae (ag hL5 hl5)
 obtain⟨c5,f5,l5⟩:=af h9
 obtain⟨c8,f8,l8⟩:=af k9
 obtain⟨x5,g5⟩: ∃x,W9.cell? ⟨g,3+line.length+5,none⟩=some x:=⟨L5[3+line.length+5]'(by omega),by rw[c8 (3+line.length+5)];simp⟩
 have H9:=ae (ag h9 k9)
 clear Lm h9 k9 wE hL5 hl5 hcr H8 pU c8
 go_upto_region 10 with(fail)
 refine dM fun Td ahb=>?_
 obtain⟨_,k10,zU⟩:=CW ahb H9.o.2 J5.o.1 H9.o.1
 have Xz:=ae (pW.o.trans (zU.mono J5.o.2.2))
 have HF:Hid (Td.heap[g]? =some (.cells (Lib.byteCells (bZ i line)).toArray 5 (0,0))):=by
  have e:=Nk (a:=uv r) (b:=uv s) (c:=uv a) (d:=uv b) (e:=uv c) (f:=uv d) (x:=uv c1) (y:=uv c1) (z:=uv c3) (ln:=Lib.byteCells line) (Z:=L0) (by rw[HL0.o,HBL.o];omega)
  rw[HBL.o, <-HL1.o.1, <-HL2.o.1, <-HL3.o.1, <-HL4.o.1, <-HL5.o.1, <-HR.o] at e
  rw[show 3+line.length+5=8+line.length from by omega] at k10
  show _=_
  rw[k10, <-e]
 clear ahb k10 zU c5 f5 l5 f8 l8 g5 H9 pW
 go_wp2_with fail
 go_returns
 exact⟨Xz.o,g,_,rfl,rfl,J5.o.2.2,HF.o⟩
theorem BytesAt.from {w:World} {o:Option Addr} {l:az} {c:Nat} (h:aN 1 w (.slice o l.length c) l.length (Lib.byteCells l)) {a:Nat} (ha:a<=l.length) {x:Int} (hx:x=a):
 ∃so sc,(∀W,(Instr.slice 25 (.slice o l.length c) (some (iv x)) none none).run Tryz.prog W= .ok (.slice so (l.drop a).length sc) W)/\aN 1 w (.slice so (l.drop a).length sc) (l.drop a).length (Lib.byteCells (l.drop a)):=by
 subst hx
 obtain⟨so,sc,h1,h2⟩:=Z5 (P:=Tryz.prog) 25 uB szB (o:=o) (c:=c) ha
 have h3:=aN.cut h ha (ai _)
 rw[h2,CY,List.take_length] at h3
 rw[kY]
 exact⟨so,sc,h1,h3⟩
theorem BytesAt.mid {w:World} {o:Option Addr} {l:az} {c:Nat} (h:aN 1 w (.slice o l.length c) l.length (Lib.byteCells l)) {a k:Nat} (ha:a<=k) (hk:k<=l.length) {x y:Int} (hx:x=a) (hy:y=k):
 ∃so sc,(∀W,(Instr.slice 25 (.slice o l.length c) (some (iv x)) (some (iv y)) none).run Tryz.prog W= .ok (.slice so (k-a) sc) W)/\aN 1 w (.slice so (k-a) sc) (k-a) (Lib.byteCells ((l.take k).drop a)):=by
 subst hx hy
 have hc:l.length<=c:=by obtain⟨_,o',c',hv,h1,_⟩:=h;cases hv;exact h1
 obtain⟨so,sc,h1,h2⟩:=ab1 (P:=Tryz.prog) 25 uB szB (o:=o) (n:=l.length) (c:=c) ha (iR hk hc)
 have h3:=aN.cut h ha hk
 rw[h2,CY] at h3
 exact⟨so,sc,h1,h3⟩
theorem BytesAt.to {w:World} {o:Option Addr} {l:az} {c:Nat} (h:aN 1 w (.slice o l.length c) l.length (Lib.byteCells l)) {k:Nat} (hk:k<=l.length) {x:Int} (hx:x=k):
 ∃so sc,(∀W,(Instr.slice 25 (.slice o l.length c) none (some (iv x)) none).run Tryz.prog W= .ok (.slice so k sc) W)/\aN 1 w (.slice so k sc) k (Lib.byteCells (l.take k)):=by
 subst hx
 have hc:l.length<=c:=by obtain⟨_,o',c',hv,h1,_⟩:=h;cases hv;exact h1
 obtain⟨so,sc,h1,h2⟩:=Z4 (P:=Tryz.prog) 25 uB szB (o:=o) (n:=l.length) (c:=c) (iR hk hc)
 have h3:=aN.cut h (bM _) hk
 rw[h2,CY,List.drop_zero] at h3
 exact⟨so,sc,h1,h3⟩
def WL (b:az):Nat->Nat
 |0=>0
 |k+1=>WL b k*10+((b.getD k 0).toNat-48)
theorem NL {b:az} (h: ∀j,j<2->jU (b.getD j 0)=true):qC b=some (WL b 2):=by
 unfold qC
 rw[h 0 (by omega),h 1 (by omega)]
 simp[WL]
 omega
theorem F8 {b:az} {k:Nat} (hk:k<2) (h:jU (b.getD k 0)=false):qC b=none:=by
 unfold qC
 rw[aj]
 intro hc
 rw[eF] at hc
 have:k=0∨k=1:=by omega
 rcases this with rfl|rfl
 ·rw[hc.1] at h;cases h
 ·rw[hc.2] at h;cases h
theorem aek (b:az): ∀k,k<=2->WL b k<=3000:=by
 intro k hk
 have h0:=(b.getD 0 0).toNat_lt
 have h1:=(b.getD 1 0).toNat_lt
 match k,hk with
 |0,_=>simp[WL]
 |1,_=>simp only[WL];omega
 |2,_=>simp only[WL];omega
def akR (b:az) (w:World) (e:Ending) (W:World):Prop:=
 Below w.heap.size w W/\((qC b=none/\e= .returned (.tuple #[iv 0,.bool false]))∨ ∃n,qC b=some n/\n<=3000/\e= .returned (.tuple #[iv n,.bool (decide (n<=60))]))
theorem QZ (b:az) (v:Value) (w:World) (hv:aN 1 w v b.length (Lib.byteCells b)) (h2:2<=b.length):Calls Tryz.prog 109 #[v] w (akR b w):=by
 obtain⟨o,c,rfl⟩:=aN.open hv
 obtain⟨so,sc,hsl,hs⟩:=BytesAt.to hv h2 (x:=2) rfl
 have HS:=ae hs
 clear hv hs
 go_enter Tryz.func109,Tryz.ntmps109
 go_wp2_with fail
 go_loopw [4,10] (fun u i wr=> ∃k:Nat,k<=2/\i= .int .i64 k/\u= .int .i64 (WL b k:Nat)/\(∀j,j<k->jU (b.getD j 0)=true)/\Below w.heap.size w wr) (fun _ i _=>2-(intOf i).toNat)
 case atStart=>exact⟨0,bM _,rfl,rfl,fun j hj=>absurd hj (Nat.not_lt_zero _),aH _ _⟩
 case round=>
  obtain⟨k,hk,rfl,rfl,hd,hB⟩:=hrel
  have HB:=ae hB
  have HD:=ae hd
  have hdl:=aek b k hk
  by_cases hlt:k<2
  ·have htl:(b.take 2).length=2:=by simp;omega
   obtain⟨g,off,rfl,hg,hc⟩:=BytesAt.cell (l:=b.take 2) (aN.below HS.o hB (ai _)) (k:=k) (by omega)
   have hck:(b.take 2)[k]'(by omega)=b.getD k 0:=by rw[List.getElem_take,getD_eq (by omega)]
   rw[hck] at hc
   obtain⟨m,hm⟩: ∃m,(b.getD k 0).toNat=m:=⟨_,rfl⟩
   have hm9:m<=255:=by have:=(b.getD k 0).toNat_lt;omega
   have hst:WL b (k+1)=WL b k*10+(m-48):=by rw[WL,hm]
   have hdg:jU (b.getD k 0)=(decide (48<=m)&&decide (m<=57)):=by unfold jU;rw[hm]
   rw[hm] at hc
   have HST:=ae hst
   have HDG:=ae hdg
   generalize WL b k=d at*
   clear hst hdg hd hck htl hm hB
   by_cases h1:m<48
   ·have h1':(m:Int)<48:=by omega
    go_wp2_with fail
    go_returns
    exact⟨HB.o,.inl ⟨F8 hlt (by rw[HDG.o,decide_eq_false (by omega),Bool.false_and]),rfl⟩⟩
   ·by_cases h2':57<m
    ·have h3: ¬(m:Int)<48:=by omega
     have h4:(57:Int)<m:=by omega
     go_wp2_with fail
     go_returns
     exact⟨HB.o,.inl ⟨F8 hlt (by rw[HDG.o,decide_eq_false (p:=m<=57) (by omega),Bool.and_false]),rfl⟩⟩
    ·have h3: ¬(m:Int)<48:=by omega
     have h4: ¬(57:Int)<m:=by omega
     have hw8:IntKind.u8.wrap ((m:Int)-48)=((m-48:Nat):Int):=by
      have hb:(2:Int)^IntKind.u8.bits=256:=by decide
      simp only[IntKind.wrap,hb,show IntKind.u8.signed=false from rfl,Bool.false_and,Bool.false_eq_true,if_false];omega
     have hw9:wrap64 ((d:Int)*10+((m-48:Nat):Int))=((d*10+(m-48):Nat):Int):=by rw[IntWalk.wrap64_in _ ⟨by omega,by omega⟩];omega
     go_wp2_with fail
     refine⟨⟨k+1,by omega,by go_num,?_,?_,HB.o⟩,by simp[intOf];omega⟩
     ·rw[HST.o]
      try rfl
     ·intro j hj
      by_cases hjk:j<k
      ·exact HD.o j hjk
      ·obtain rfl:j=k:=by omega
       rw[HDG.o,decide_eq_true (by omega),decide_eq_true (by omega)];rfl
  ·obtain rfl:k=2:=by omega
   have hy:=NL hd
   have HY:=ae hy
   generalize WL b 2=d at*
   clear hy hd HD hB
   go_wp2_with fail
   go_returns
   exact⟨HB.o,.inr ⟨d,HY.o,hdl,by simp;omega⟩⟩
abbrev yE (l:List Int):List Value:=l.map (fun x=>Value.int .u8 x)
theorem wS {P:Program} (w:World) (d:Nat) (t e:TypeId) (n:Nat) (ht:P.underlying t=some (.array n e)) (he:P.underlying e=some (.int .u8)) (hsz: ∀w,(sizeOf e).run P w= .ok 1 w)
 (xs ys:List Int) (hx:xs.length=n) (hy:ys.length=n):
 (Op.equalIn (d+2) t (.agg (yE xs).toArray) (.agg (yE ys).toArray)).run P w= .ok (xs==ys) w:=by
 rw[<-tX xs ys (hx.trans hy.symm),hx,List.range_eq_range',Op.equalIn]
 simp only[Sem.run_bind,run_underlying ht,Result.andThen_ok,hsz,Std.Legacy.Range.forIn_eq_forIn_range',Std.Legacy.Range.size,Nat.sub_zero,Nat.add_sub_cancel,Nat.div_one]
 have hl: ∀i∈List.range' 0 n 1,i<n:=fun i hi=>by simpa using(List.mem_range'_1.1 hi).2
 generalize List.range' 0 n 1=l at hl⊢
 induction l with
 |nil=>simp
 |cons i l ih=>
  have hi:i<n:=hl i (by simp)
  have px:(part e (yE xs).toArray (i*1)).run P w= .ok (.int .u8 (xs.getD i 0)) w:=by
   simp[part,isAgg,run_underlying he,yE,List.getD,dn (show i<xs.length by omega)]
  have py:(part e (yE ys).toArray (i*1)).run P w= .ok (.int .u8 (ys.getD i 0)) w:=by
   simp[part,isAgg,run_underlying he,yE,List.getD,dn (show i<ys.length by omega)]
  have pe:(Op.equalIn (d+1) e (.int .u8 (xs.getD i 0)) (.int .u8 (ys.getD i 0))).run P w= .ok (xs.getD i 0==ys.getD i 0) w:=run_equalIn_int w d e .u8 .u8 _ _ he
  simp only[List.forIn_cons,Sem.run_bind,px,py,pe,Result.andThen_ok,List.all_cons]
  cases hb:(xs.getD i 0==ys.getD i 0)
  ·simp
  ·simp only[Bool.not_true,Bool.false_eq_true,if_false,Sem.run_pure,Result.andThen_ok,Bool.true_and]
   exact ih fun j hj=>hl j (by simp[hj])
theorem OA (l m:az):(l.map (fun(c:UInt8)=>(c.toNat:Int))==m.map (fun(c:UInt8)=>(c.toNat:Int)))=(l==m):=by
 rw[Bool.eq_iff_iff,beq_iff_eq,beq_iff_eq]
 refine⟨fun h=>?_,fun h=>by rw[h]⟩
 have hi: ∀a b:UInt8,(a.toNat:Int)=(b.toNat:Int)->a=b:=fun a b h=>UInt8.toNat_inj.1 (by omega)
 exact(List.map_inj_right hi).1 h
def aeD (i:Nat) (b:az) (w:World) (e:Ending) (W:World):Prop:=
 Below w.heap.size w W/\ ∃s is,e= .returned (.tuple #[.string s,.bool is])/\((is=true/\ ∃l,oQ i b=some l/\s=gI l)∨(is=false/\oQ i b=none))
theorem KJ {w W1:World} {A:Array Value} {t:TypeId} (h:W1=(w.alloc (.cells A t)).drew):
 Below w.heap.size w W1/\W1.heap[w.heap.size]? =some (.cells A t (0,0)):=by
 subst h
 exact⟨rO (ak (aH _ _) _),ay _ _⟩
theorem UM (i:Nat) (b:az) (v:Value) (w:World) (hv:aN 1 w v b.length (Lib.byteCells b)) (hi:i<=1000) (hb:b.length<=1000000000):Calls Tryz.prog 61 #[iv i,v] w (aeD i b w):=by
 obtain⟨o,c,rfl⟩:=aN.open hv
 have HV:=ae (fun W (hb:Below w.heap.size w W)=>hv.below hb (ai _))
 clear hv
 go_enter Tryz.func61,Tryz.ntmps61
 by_cases h9:b.length<9
 ·have h9':(b.length:Int)<9:=by omega
  go_wp2_with fail
  go_returns
  exact⟨aH _ _,_,_,rfl,.inr ⟨rfl,by unfold oQ;rw[aF h9]⟩⟩
 have h9': ¬(b.length:Int)<9:=by omega
 have HL:=ae (QZ b _ w (HV.o w (aH _ _)) (by omega))
 go_wp2_with fail
 refine HL.o.mono ?_
 rintro e W1 ⟨hb1,⟨hn,rfl⟩|⟨n,hn,hn3,rfl⟩⟩
 ·have HB1:=ae hb1
  have HN:=ae hn
  clear hb1 hn
  go_wp2_with fail
  go_returns
  exact⟨HB1.o,_,_,rfl,.inr ⟨rfl,by unfold oQ;rw[aj h9,HN.o]⟩⟩
 have HB1:=ae hb1
 have HN:=ae hn
 clear hb1 hn HL
 by_cases h60:n<=60
 rotate_left
 ·rw[decide_eq_false h60]
  go_wp2_with fail
  go_returns
  exact⟨HB1.o,_,_,rfl,.inr ⟨rfl,by unfold oQ;rw[aj h9,HN.o];simp only;rw[aF (.inl (by omega))]⟩⟩
 rw[decide_eq_true h60]
 by_cases hbn:b.length<9+n
 ·have ake:(b.length:Int)<3+(n:Int)+6:=by omega
  go_wp2_with fail
  go_returns
  exact⟨HB1.o,_,_,rfl,.inr ⟨rfl,by unfold oQ;rw[aj h9,HN.o];simp only;rw[aF (.inr hbn)]⟩⟩
 have ake: ¬(b.length:Int)<3+(n:Int)+6:=by omega
 have hv1:=HV.o W1 HB1.o
 obtain⟨s1,q1,e1,t1⟩:=BytesAt.mid hv1 (a:=3) (k:=3+n) (by omega) (by omega) (x:=3) (y:=3+(n:Int)) rfl (by omega)
 obtain⟨s2,q2,e2,t2⟩:=BytesAt.from hv1 (a:=3+n) (by omega) (x:=3+(n:Int)) (by omega)
 rw[show 3+n-3=n from by omega] at t1
 simp only[show 3+n-3=n from by omega] at e1
 have hln:((b.take (3+n)).drop 3).length=n:=by simp;omega
 have hlt:(b.take (3+n)).drop 3=(b.drop 3).take n:=by rw[List.drop_take];congr 1;omega
 have c1:=zZ (W:=W1) (o:=s1) (n:=n) (c:=q1) (l:=(b.take (3+n)).drop 3) t1
 have c2:=zZ (W:=W1.drew) (o:=s1) (n:=n) (c:=q1) (l:=(b.take (3+n)).drop 3) (aN.below t1 (rO (aH W1.heap.size W1)) (ai _))
 have hdl:(b.drop (3+n)).length=b.length-(3+n):=by simp
 obtain⟨s3,q3,e3,t3⟩:=BytesAt.mid t2 (a:=1) (k:=5) (by omega) (by omega) (x:=1) (y:=5) rfl rfl
 obtain⟨g1,f1,rfl,hg1,z1⟩:=BytesAt.cell hv1 (k:=2) (by omega)
 obtain⟨g2,f2,rfl,hg2,z2⟩:=BytesAt.cell t2 (k:=0) (by omega)
 obtain⟨_,_,hq,_,z3⟩:=BytesAt.cell t2 (k:=5) (by omega)
 cases hq
 obtain⟨x0,x1,x2,x3,hX⟩: ∃x0 x1 x2 x3,((b.drop (3+n)).take 5).drop 1=[x0,x1,x2,x3]:=by
  have h4:(((b.drop (3+n)).take 5).drop 1).length=4:=by simp;omega
  match hq:((b.drop (3+n)).take 5).drop 1,h4 with
  |[a,b,c,d],_=>exact⟨a,b,c,d,rfl⟩
 rw[hX] at t3
 obtain⟨g3,f3,rfl,hg3,y0⟩:=BytesAt.cell (l:=[x0,x1,x2,x3]) t3 (k:=0) (by simp)
 obtain⟨_,_,hq,_,y1⟩:=BytesAt.cell (l:=[x0,x1,x2,x3]) t3 (k:=1) (by simp)
 cases hq
 obtain⟨_,_,hq,_,y2⟩:=BytesAt.cell (l:=[x0,x1,x2,x3]) t3 (k:=2) (by simp)
 cases hq
 obtain⟨_,_,hq,_,y3⟩:=BytesAt.cell (l:=[x0,x1,x2,x3]) t3 (k:=3) (by simp)
 cases hq
 simp only[Nat.add_zero,au] at y0 y1 y2 y3 z2
 obtain⟨p2,hp2⟩: ∃x,b[2]=x:=⟨_,rfl⟩
 obtain⟨p0,hp0⟩: ∃x,(b.drop (3+n))[0]'(by omega)=x:=⟨_,rfl⟩
 obtain⟨p5,hp5⟩: ∃x,(b.drop (3+n))[5]'(by omega)=x:=⟨_,rfl⟩
 rw[hp2] at z1
 rw[hp0] at z2
 rw[hp5] at z3
 obtain⟨line,acM⟩: ∃x,(b.take (3+n)).drop 3=x:=⟨_,rfl⟩
 rw[acM] at c1 c2 hln hlt
 have hp2':b.getD 2 0=p2:=by rw[<-hp2,getD_eq (by omega)]
 have agc:b.getD (3+n) 0=p0:=by rw[<-hp0,getD_eq (by omega),List.getElem_drop];rfl
 have agb:b.getD (8+n) 0=p5:=by rw[<-hp5,getD_eq (by omega),List.getElem_drop];congr 1;omega
 simp only[Nat.reduceSub] at e3
 obtain⟨m,hm⟩: ∃m,(b.drop (3+n)).length=m:=⟨_,rfl⟩
 rw[hm] at e2 e3
 have hm0:(0:Int)<(m:Int):=by omega
 have hm5:(5:Int)<(m:Int):=by omega
 have hb2:(2:Int)<(b.length:Int):=by omega
 have ha: ∀W,(Instr.arrayAt 233 (.slice (some ⟨g3,f3,none⟩) 4 q3)).run Tryz.prog W= .ok (.pointer (some ⟨g3,f3,none⟩)) W:=fun W=>run_arrayAt W 233 _ 4 _ 4 q3 Tryz.underlying233 (ai _)
 have HT:=ae (fun W=>Ff i line W hi (by omega))
 have HX:=ae (ag hX (ag hp2' (ag agc (ag agb (ag hlt hln)))))
 clear hv1 t1 t2 t3 hX hp2 hp0 hp5 hp2' agc agb acM hlt hln HV hdl hm
 go_upto_region 6 with(fail)
 go_region
 go_upto_region 7 with(fail)
 refine dM fun W2 hW2=>?_
 have hb2:Below W1.heap.size W1 W2:=by rw[hW2];exact rO (aH _ _)
 have HB2:=ae (bn HB1.o hb2)
 have y0:=((bJ hb2).1 g3 f3 hg3).trans y0
 have y1:=((bJ hb2).1 g3 (f3+1) hg3).trans y1
 have y2:=((bJ hb2).1 g3 (f3+2) hg3).trans y2
 have y3:=((bJ hb2).1 g3 (f3+3) hg3).trans y3
 have z1:=((bJ hb2).1 g1 (f1+2) hg1).trans z1
 have z2:=((bJ hb2).1 g2 f2 hg2).trans z2
 have z3:=((bJ hb2).1 g2 (f2+5) hg2).trans z3
 have hg1:=fJ hg1 hb2.size
 have hg2:=fJ hg2 hb2.size
 have hg3:=fJ hg3 hb2.size
 clear hW2 hb2 c1 c2
 go_region
 go_upto_region 8 with(fail)
 refine dM fun W3 hW3=>?_
 obtain⟨hb3,k3⟩:=KJ hW3
 have HB3:=ae (bn HB2.o hb3)
 obtain⟨d0,d1,d2,d3,hd⟩:=yN (jZ i line)
 have HD:=ae hd
 have HT2:Hid (∀W,Calls Tryz.prog 107 #[iv i,.string (gI line)] W (PV (.agg #[uv 58,uv 58,uv 10,uv d0,uv d1,uv d2,uv d3]) W)):=ae fun W=>by
  have:=HT.o W
  unfold TP at this
  rw[hd] at this
  exact this
 obtain⟨cc,ff,ll⟩:=af k3
 clear hd hW3 hb3 k3 HT y0 y1 y2 y3 z1 z2 z3
 refine zg 8 [] none [(4,Spec.val (.agg #[uv 58,uv 58,uv 10,uv d0,uv d1,uv d2,uv d3]))] ?_
 simp only[zt]
 repeat ((first|refine zn ?_|refine zk ?_);simp only[zp])
 refine zw 107 (h:=fun W hE hF=>by exact HT2.o W) (t:=?_)
 simp only[zp]
 obtain⟨A,hA⟩: ∃A,([p2,p0,p5]==([58,58,10]:az))=A:=⟨_,rfl⟩
 obtain⟨B,hB⟩: ∃B,([x0,x1,x2,x3]==([d0,d1,d2,d3]:az))=B:=⟨_,rfl⟩
 have q1: ∀W:World,(Op.equalIn 9999 231 (.agg #[.int .u8 (p2.toNat:Int),.int .u8 (p0.toNat:Int),.int .u8 (p5.toNat:Int)]) (.agg #[uv 58,uv 58,uv 10])).run Tryz.prog W= .ok A W:=fun W=>by
  have q:=wS (P:=Tryz.prog) W 9997 231 5 3 Tryz.underlying231 Tryz.underlying5 (by intro w;go_simp) ([p2,p0,p5].map fun(c:UInt8)=>(c.toNat:Int)) (([58,58,10]:az).map fun(c:UInt8)=>(c.toNat:Int)) rfl rfl
  rw[OA,hA] at q
  exact q
 have q2: ∀W:World,(Op.equalIn 9999 233 (.agg #[.int .u8 (x0.toNat:Int),.int .u8 (x1.toNat:Int),.int .u8 (x2.toNat:Int),.int .u8 (x3.toNat:Int)]) (.agg #[uv d0,uv d1,uv d2,uv d3])).run Tryz.prog W= .ok B W:=fun W=>by
  have q:=wS (P:=Tryz.prog) W 9997 233 5 4 Tryz.underlying233 Tryz.underlying5 (by intro w;go_simp) ([x0,x1,x2,x3].map fun(c:UInt8)=>(c.toNat:Int)) (([d0,d1,d2,d3]:az).map fun(c:UInt8)=>(c.toNat:Int)) rfl rfl
  rw[OA,hB] at q
  exact q
 have HAB:=ae (ag hA hB)
 clear hA hB
 refine fZ (by rfl) (.bool (A&&B)) (by rfl) (fun W hW=>by
  go_simp
  cases A <;>cases B <;>simp[q1,q2]) ?_
 simp only[zp]
 repeat ((first|refine zn ?_|refine zk ?_);simp only[zp])
 intro W4 Ot hF4
 have hb4:Below W3.heap.size W3 W4:=Ext.below (show Ext [] W3 W4 from Ot)
 have HB4:=ae (bn HB3.o hb4)
 have hw:oQ i b=if Fe i n b then some ((b.drop 3).take n) else none:=by unfold oQ;rw[aj h9,HN.o];simp only;rw[aj (by omega)]
 obtain⟨x1',x2',x3',x4',x5',x6'⟩:=HX.o
 have hX:(b.drop (4+n)).take 4=[x0,x1,x2,x3]:=by
  rw[<-x1',List.drop_take,List.drop_drop,show 3+n+1=4+n from by omega]
 have ht:Fe i n b=(A&&B):=by
  unfold Fe
  rw[x2',x3',x4',hX, <-x5',HD.o, <-HAB.o.1, <-HAB.o.2]
  simp[Bool.and_assoc]
 rw[ht, <-x5'] at hw
 have HW:=ae hw
 clear Ot hF4 hb4 hw x1' x2' x3' x4' x5' x6' hX ht cc ff q1 q2
 go_wp2_with fail
 go_returns
 refine⟨HB4.o,_,_,rfl,?_⟩
 rw[HW.o]
 cases (A&&B)
 ·exact .inr ⟨rfl,rfl⟩
 ·exact .inl ⟨rfl,_,rfl,rfl⟩
theorem Fv: ∀(ls:List az),(∀l∈ls,l.length<=60)->eY ls<=69*ls.length:=by
 intro ls
 induction ls with
 |nil=>intro _;exact ai _
 |cons l ls ih=>
  intro h
  have h1:=ih fun x hx=>h x (qX _ hx)
  have h2:=h l List.mem_cons_self
  simp only[eY,List.length_cons]
  omega
theorem Wl {ls:List az} {k:Nat} (hk:k<ls.length):fG 0 (ls.take (k+1))=fG 0 (ls.take k)++bZ k ls[k]:=by
 rw[iC hk,IC,gJ,Nat.zero_add,Nat.min_eq_left (by omega)]
theorem aad (l:az):(Lib.byteCells l).toArray.size=l.length:=by simp[Lib.byteCells]
theorem bytes_at {W:World} {g n:Nat} {l:az} {t:TypeId} {fr:Nat×Nat} (h:W.heap[g]? =some (.cells (Lib.byteCells l).toArray t fr)) (hn:l.length=n) (hm:n<=maxLen):aN 1 W (.slice (some ⟨g,0,none⟩) n n) n (Lib.byteCells l):=
 aN.dD (cs:=(Lib.byteCells l).toArray) 1 n h (by rw[aad,hn,Nat.mul_one]) hm
theorem CX (l:az): ∀u∈Lib.byteCells l,u.oneCell'=true:=by
 intro u hu
 simp only[Lib.byteCells,iZ] at hu
 obtain⟨x,_,rfl⟩:=hu
 rfl
def ac5 (l:az) (w:World) (e:Ending) (w':World):Prop:=Below w.heap.size w w'/\ ∃v,e= .returned v/\w'.ownsRow w.heap.size 5 1 v l.length (Lib.byteCells l)
theorem ZN (ls:List az) (v:Value) (w:World) (hv:iU w v ls) (hn:ls.length<=1000) (hl: ∀l∈ls,l.length<=60):Calls Tryz.prog 32 #[v] w (ac5 (wV ls) w):=by
 obtain⟨lo,lc,rfl⟩:=aN.open hv
 have HV:=ae hv
 have HL:=ae hl
 clear hv hl
 go_enter Tryz.func32,Tryz.ntmps32
 go_wp2_with fail
 go_loopw [2,7] (fun u i wr=> ∃k:Nat,k<=ls.length/\i= .int .i64 k/\Below w.heap.size w wr/\wr.ownsRow w.heap.size 5 1 u (fG 0 (ls.take k)).length (Lib.byteCells (fG 0 (ls.take k)))) (fun _ i _=>ls.length-(intOf i).toNat)
 case atStart=>exact⟨0,bM _,rfl,aH _ _,⟨rfl,.inl ⟨rfl,rfl⟩⟩⟩
 case round=>
  obtain⟨k,hk,rfl,hB,how⟩:=hrel
  by_cases hlt:k<ls.length
  ·obtain⟨g1,f1,e1,r1,c1⟩:=qc (HV.o.below hB (ai _)) hlt
   have HB:=ae hB
   have HT:=ae (Wl hlt)
   have hll:=HL.o _ (df hlt)
   have hs1:(fG 0 (ls.take k)).length<=69*k:=by
    have h1:=Fv (ls.take k) fun l h=>HL.o l (nZ h)
    rw[gJ,Nat.min_eq_left (by omega)] at h1
    rw[wH]
    exact h1
   have HR:=ae (Qz k ls[k] wr (by omega) hll)
   have HQ:=ae (iy k ls[k])
   obtain⟨x,hx⟩: ∃x,x=ls[k]:=⟨_,rfl⟩
   rw[<-hx] at c1 HR HT HQ hll
   clear hx
   generalize hA:fG 0 (ls.take k)=A at*
   have hlo:=aW how
   obtain⟨oo,oc,rfl⟩:=hlo
   have HO:=ae how
   have Es:(k:Int)<ls.length:=by omega
   cases e1
   clear hB how hA
   go_wp2_with fail
   refine HR.o.mono ?_
   rintro e W2 ⟨hb2,g,n,rfl,rfl,hg,hk2⟩
   have HB2:=ae (bn HB.o hb2)
   have Ew:=ae (aC (Ms:=[]) HO.o (Ext.aA hb2) (by simp))
   have HS2:Hid (aN 1 W2 (.slice (some ⟨g,0,none⟩) (9+x.length) (9+x.length)) (9+x.length) (Lib.byteCells (bZ k x))):=ae (bytes_at hk2 HQ.o (by simp only[maxLen];omega))
   clear hb2 hk2 hg
   go_wp2_with (at_builtin;go_loud (refine eU rfl _ _ Fh rfl w.heap.size (.slice oo A.length oc) A.length (Lib.byteCells A) rfl Ew.o (.slice (some ⟨g,0,none⟩) (9+x.length) (9+x.length)) (9+x.length) (Lib.byteCells (bZ k x)) rfl HS2.o (CX _) (by omega) (by omega) HB2.o.size ?_))
   intro v' W3 hown hgr _
   have hB3:Below w.heap.size w W3:=Below.grown HB2.o hgr (by have:=HB2.o.size;omega) (fun g e=>(bD Ew.o g e).1)
   have HB3:=ae hB3
   have hown3:W3.ownsRow w.heap.size 5 1 v' (fG 0 (ls.take (k+1))).length (Lib.byteCells (fG 0 (ls.take (k+1)))):=by
    rw[HT.o,show Lib.byteCells (A++bZ k x)=Lib.byteCells A++Lib.byteCells (bZ k x) from by simp[Lib.byteCells],dh,HQ.o]
    exact hown
   have HO3:=ae hown3
   clear hown hgr hB3 hown3
   go_wp2_with fail
   go_roundw
   all_goals first
    |exact⟨k+1,by omega,by go_num,HB3.o,HO3.o⟩
    |(simp[intOf];omega)
  ·have hkl:k=ls.length:=by omega
   have HO:Hid (wr.ownsRow w.heap.size 5 1 u2 (wV ls).length (Lib.byteCells (wV ls))):=ae (by
    rw[hkl,List.take_length] at how
    exact how)
   have HB:=ae hB
   clear hB how
   go_wp2_with fail
   go_returns
   exact⟨HB.o,_,rfl,HO.o⟩
theorem nY {ls:List az} (h:fH ls=0):ls.length<=40/\ ∀l∈ls,l.length<=60:=by
 unfold fH at h
 split at h
 ·omega
 ·rename_i hc
  refine⟨by omega,fun l hl=>?_⟩
  apply Classical.byContradiction
  intro hn
  exact hc (.inr (List.any_eq_true.2 ⟨l,hl,by simp;omega⟩))
def Uy (q:Int) (ls:List az) (w:World) (e:Ending) (w':World):Prop:=
 Below w.heap.size w w'/\((q≠0/\e= .returned (.tuple #[.slice none 0 0,iv q]))∨(q=0/\ ∃v,e= .returned (.tuple #[v,iv 0])/\w'.ownsRow w.heap.size 5 1 v (wV ls).length (Lib.byteCells (wV ls))))
theorem JY (ls:List az) (v:Value) (w:World) (hv:iU w v ls) (hln: ∀x∈ls,x.length<=1000000):Calls Tryz.prog 10 #[v] w (Uy (fH ls) ls w):=by
 have HF:=ae (JK ls v w hv hln)
 have HW:Hid (fH ls=0-> ∀W,Below w.heap.size w W->Calls Tryz.prog 32 #[v] W (ac5 (wV ls) W)):=ae (fun h W hb=>ZN ls v W (hv.below hb (ai _)) (by have:=(nY h).1;omega) (nY h).2)
 obtain⟨lo,lc,rfl⟩:=aN.open hv
 clear hv
 obtain⟨q,hq⟩: ∃q,fH ls=q:=⟨_,rfl⟩
 rw[hq] at HF HW⊢
 have HQ:=ae hq
 clear hq
 go_enter Tryz.func10,Tryz.ntmps10
 go_wp2_with fail
 refine HF.o.mono ?_
 rintro e W1 ⟨rfl,hb1⟩
 have HB1:=ae hb1
 clear hb1
 by_cases hz:q=0
 ·subst hz
  go_wp2_with fail
  refine(HW.o (by trivial) W1 HB1.o).mono ?_
  rintro e W2 ⟨hb2,v2,rfl,ho⟩
  have HB2:=ae (bn HB1.o hb2)
  obtain⟨o2,c2,rfl⟩:=aW ho
  have HO:=ae (cu ho HB1.o.size)
  clear hb2 ho
  go_wp2_with fail
  go_returns
  exact⟨HB2.o,.inr ⟨rfl,_,rfl,HO.o⟩⟩
 ·go_wp2_with fail
  go_returns
  exact⟨HB1.o,.inl ⟨hz,rfl⟩⟩
theorem TU: ∀(f i:Nat) (b:az) (k:Nat),k<=(dL f i b).length->dL (f-k) (i+k) (b.drop (eY ((dL f i b).take k)))=(dL f i b).drop k:=by
 intro f
 induction f with
 |zero=>
  intro i b k hk
  obtain rfl:k=0:=by simpa [dL] using hk
  simp[dL,eY]
 |succ f ih=>
  intro i b k hk
  cases k with
  |zero=>simp[eY]
  |succ k=>
   cases hw:pX i b with
   |none=>
    have:dL (f+1) i b=[]:=by simp[dL,hw]
    rw[this] at hk
    simp at hk
   |some l=>
    have hr:dL (f+1) i b=l::dL f (i+1) (b.drop (9+l.length)):=by simp[dL,hw]
    rw[hr] at hk⊢
    have:=ih (i+1) (b.drop (9+l.length)) k (by simpa using hk)
    rw[List.take_succ_cons,List.drop_succ_cons,eY, <-this,List.drop_drop,show f+1-(k+1)=f-k from by omega,show i+(k+1)=i+1+k from by omega]
theorem U9 {b:az} {k:Nat} (hk:k<=(dL 40 0 b).length) (h40:k<40) {l:az} (h:pX k (b.drop (eY ((dL 40 0 b).take k)))=some l): ∃h:k<(dL 40 0 b).length,(dL 40 0 b)[k]=l:=by
 have h1:=TU 40 0 b k hk
 obtain⟨f,hf⟩: ∃f,40-k=f+1:=⟨39-k,by omega⟩
 rw[hf,Nat.zero_add,dL,h] at h1
 simp only at h1
 have hlt:k<(dL 40 0 b).length:=by
  by_cases hc:k<(dL 40 0 b).length
  ·exact hc
  ·have h2:(dL 40 0 b).drop k=[]:=List.drop_eq_nil_of_le (by omega)
   rw[h2] at h1
   cases h1
 rw[uO hlt] at h1
 exact⟨hlt,(List.cons.inj h1).1.symm⟩
theorem Jl {b:az} {k:Nat} (hk:k<=(dL 40 0 b).length) (h:40<=k∨pX k (b.drop (eY ((dL 40 0 b).take k)))=none):k=(dL 40 0 b).length:=by
 rcases h with h|h
 ·have:=Ar 40 0 b;omega
 ·by_cases h40:40<=k
  ·have:=Ar 40 0 b;omega
  have h1:=TU 40 0 b k hk
  obtain⟨f,hf⟩: ∃f,40-k=f+1:=⟨39-k,by omega⟩
  rw[hf,Nat.zero_add,dL,h] at h1
  have:(dL 40 0 b).length-k=0:=by rw[<-List.length_drop, <-h1];rfl
  omega
theorem size_take (b:az) (k:Nat):eY ((dL 40 0 b).take k)<=b.length:=by
 have h1:=U3 40 0 b
 have h2:eY (dL 40 0 b)=eY ((dL 40 0 b).take k)+eY ((dL 40 0 b).drop k):=by rw[<-uZ,List.take_append_drop]
 omega
def vg (b:az):List (az×Nat):=(List.range (dL 40 0 b).length).map fun k=>((dL 40 0 b).getD k [],eY ((dL 40 0 b).take (k+1)))
theorem ve (b:az):(vg b).length=(dL 40 0 b).length:=by simp[vg]
theorem Jk {b:az} {k:Nat} (hk:k<(vg b).length):(vg b)[k]=((dL 40 0 b).getD k [],eY ((dL 40 0 b).take (k+1))):=by simp[vg]
def ahP (_:List Nat) (x:az×Nat) (v:Array Value) (_:World):Prop:=v= #[.string (gI x.1),iv x.2]
def aeB (bx:Nat) (o:Option Addr) (c:Nat) (b:az) (W:World):Prop:=
 W.heap[bx]? =some (.cells #[.slice o b.length c] 25 (0,0))/\aN 1 W (.slice o b.length c) b.length (Lib.byteCells b)
theorem Ej {P:Program} {n:Nat} {c:Code} {Q:Exit->Act->World->Prop} {a:Act} {w:World} (h:c.wpIn Fence.wide n P (Exit.noGoto Q) a w):(Code.scope c).wpIn Fence.wide n P Q a w:=
 wpIn_wide.2 (wp_scope_straight (wpIn_wide.1 h))
theorem Nh (b:az) (hb:b.length<=1000000000) (bx:Nat) (o:Option Addr) (c:Nat):
 aez Tryz.prog 60 #[.pointer (some ⟨bx,0,none⟩)] (vg b) ahP [] (fun _=>True) (aeB bx o c b):=by
 intro y J W hInv hstep hY h0
 refine callsIn_wide.1 (show CallsIn Fence.wide 0 _ _ _ _ _ from ?_)
 have HI:=ae hInv
 have HST:=ae hstep
 have HY:=ae hY
 have H0:=ae h0
 clear hInv hstep hY h0
 refine callsIn_of_wp Tryz.func60 rfl trivial ?_
 simp only[Tryz.ntmps60,List.size_toArray,List.length_cons,List.length_nil,Nat.reduceAdd,Nat.reduceSub,Array.replicate_succ,Array.replicate_zero,kG,kH,List.nil_append,List.cons_append]
 refine Ej ?_
 gi_wp2_with fail
 refine wpIn_label ?_
 rename_i hK
 refine hK _ _ ?_
 gi_wp2_with fail
 gi_loopw [3,7] (fun a i wr=> ∃k:Nat,k<=(dL 40 0 b).length/\i= .int .i64 k/\a= .int .i64 (eY ((dL 40 0 b).take k):Nat)/\J [] (some k) wr) (fun _ i _=>40-(intOf i).toNat)
 case atStart=>exact⟨0,bM _,rfl,rfl,H0.o⟩
 case round=>
  obtain⟨k,hk,rfl,rfl,hJ⟩:=hrel
  have HJ:=ae hJ
  have hst:=size_take b k
  have HK:=ae hk
  have agx:=Ar 40 0 b
  by_cases h40:k<40
  rotate_left
  ·have aef: ¬(k:Int)<40:=by omega
   have HE:Hid (J [] (some (vg b).length) wr):=ae (by rw[ve, <-Jl hk (.inl (by omega))];exact hJ)
   clear hJ hst hk agx
   gi_wp2_with fail
   go_end0
   exact⟨⟨_,rfl⟩,[],.inl HE.o⟩
  ·obtain⟨hbx,hsl⟩:=HI.o _ _ _ hJ
   obtain⟨cc,ff,ll⟩:=af hbx
   obtain⟨at_,hat⟩: ∃n,eY ((dL 40 0 b).take k)=n:=⟨_,rfl⟩
   rw[hat] at hst⊢
   obtain⟨so,sc,e1,t1⟩:=BytesAt.from hsl hst (x:=(at_:Int)) rfl
   have HW:=ae (UM k (b.drop at_) _ wr t1 (by omega) (by simp;omega))
   have HAT:=ae hat
   have aef:(k:Int)<40:=by omega
   obtain⟨m,hm⟩: ∃m,(b.drop at_).length=m:=⟨_,rfl⟩
   rw[hm] at e1 HW
   have HDL:=ae hm
   clear hJ hk agx hbx hsl t1 hat hm
   gi_wp2_with fail
   refine(callsIn_wide.2 HW.o).mono ?_
   rintro e W1 ⟨hb1,s,is,rfl,h⟩
   have HB1:=ae hb1
   have hJ1:=HST.o _ [] _ _ _ HJ.o (Ext.aA hb1) (fun m hm=> .inl hm) trivial
   rcases h with⟨rfl,l,hl,rfl⟩|⟨rfl,hn⟩
   rotate_left
   ·have HE:Hid (J [] (some (vg b).length) W1):=ae (by
     rw[ve, <-Jl HK.o (.inr (by rw[HAT.o, <-I5];exact hn))];exact hJ1)
    clear hJ1 hn hb1 HW e1
    gi_wp2_with fail
    simp only[Exit.noGoto]
    go_end0
    exact⟨⟨_,rfl⟩,[],.inl HE.o⟩
   ·obtain⟨hlt,hget⟩:=U9 HK.o h40 (l:=l) (by rw[HAT.o, <-I5];exact hl)
    have hend:((eY ((dL 40 0 b).take (k+1)):Nat):Int)=(at_:Int)+(3+(l.length:Int)+6):=by
     rw[iC hlt,uZ,HAT.o,hget]
     simp only[eY]
     omega
    have hk':k<(vg b).length:=by rw[ve];exact hlt
    have agw:l.length<=60:=by rw[<-hget];exact read_short 40 0 b _ (df hlt)
    have hsz:=ng l
    obtain⟨g1,t1,a1,b1,hy1,hR1⟩:=HY.o [] k #[.string (gI l),.int .i64 ((at_:Int)+(3+(l.length:Int)+6))] W1 hk' hJ1 (by
     unfold ahP
     rw[Jk]
     simp only[gW,dn hlt,Option.getD_some,hget]
     rw[hend])
    have HR1:=ae hR1
    have alj:=ae hend
    have HLT:=ae hlt
    clear hJ1 hR1 hend hget hl hb1 HW e1 hk' hlt
    gi_wp2_with fail
    refine HR1.o.mono ?_
    rintro e W2 ⟨⟨hkeep,hsz2⟩,⟨rfl,hJ2⟩|⟨rfl,hJ2⟩⟩
    ·have HJ2:=ae hJ2
     clear hJ2 hkeep hsz2 hy1 HR1
     gi_wp2_with fail
     refine⟨⟨k+1,HLT.o,by go_num,by rw[alj.o],HJ2.o⟩,by simp[intOf];omega⟩
    ·have HJ2:=ae hJ2
     clear hJ2 hkeep hsz2 hy1 HR1
     gi_wp2_with fail
     simp only[Exit.noGoto]
     go_returns
     exact⟨⟨_,rfl⟩,[],.inr HJ2.o⟩
theorem Nj (o:Option Addr) (n c:Nat) (w:World):
 Calls Tryz.prog 33 #[.slice o n c] w (fun e w'=>e= .returned (.func (.func 60) #[] #[.pointer (some ⟨w.heap.size,0,none⟩)])/\w'=w.alloc (.cells #[.slice o n c] 25)):=by
 go_enter Tryz.func33,Tryz.ntmps33
 go_wp2
 go_returns
 exact⟨by simp,rfl⟩
end Go.Proofs.YthllkbbbapgelaaGreatDoor.Bk
end
section
namespace Go.Proofs.YthllkbbbapgelaaGreatDoor.Bk
open Go.RowKit Go.RG Go.SL Go.Shelf jl Go.TB Go.Proofs.YthllkbbbapgelaaGreatDoor.zo
def wY (xs:List Value):Prop:= ∀u∈xs, ∃k,u= .int .u8 k
theorem XY (s:ByteArray):wY (Lib.strCells s):=fun u hu=>by
 simp only[Lib.strCells,iZ] at hu
 obtain⟨b,_,rfl⟩:=hu
 exact⟨_,rfl⟩
theorem J9 {a b:List Value} (ha:wY a) (hb:wY b):wY (a++b):=fun u hu=>by
 rcases iM.1 hu with h|h
 ·exact ha u h
 ·exact hb u h
theorem aaV (n:Nat):wY (Builtin.zeroCells (Value.int .u8 0).cells n).toList:=fun u hu=>by
 have:u∈(Builtin.zeroCells (Value.int .u8 0).cells n):=pK.1 hu
 obtain⟨i,hi,rfl⟩:=Array.mem_iff_getElem.1 this
 refine⟨0,?_⟩
 simp[Builtin.zeroCells,Value.cells,Nat.mod_one]
section
variable {P : Program} {w : World}
theorem Ep (base:Nat) (t u ty e:TypeId) (i:TypeInfo) (ht:P.underlying t=some (.slice e)) (hu:P.underlying u=some .string) (hi:P.info? e=some i) (hz:i.zero=some (.int .u8 0))
 (hsize:i.size=1) (hby:i.bytes=1)
 (v:Value) (n:Nat) (xs:List Value) (hown:w.ownsRow base e 1 v n xs) (hU: ∀q,v.ownBlock=some q-> ∀cs t f,w.heap[q]? =some (.cells cs t f)->wY cs.toList) (s:ByteArray)
 (h63:n+s.size<=maxLen) (hbytes:n+s.size<=140737488355328) (hbase:base<=w.heap.size):
 ∃v' w',(Builtin.append_ #[t,u] ty #[v,.string s]).run P w= .ok v' w'/\w'.ownsRow base e 1 v' (n+s.size) (xs++Lib.strCells s)/\w.grownBy w' v.ownBlock/\
  (∀q,v'.ownBlock=some q-> ∀cs t f,w'.heap[q]? =some (.cells cs t f)->wY cs.toList):=by
 have hsmall:n+s.size<=9223372036854775807:=by simp only[maxLen] at h63;omega
 have hxl:xs.length=n:=by simpa using hown.1
 have hlen:(xs++Lib.strCells s).length=(n+s.size)*1:=by rw[dh,hxl,Lib.strCells_length,Nat.mul_one]
 have hxU:wY xs:=by
  rcases hown.2 with⟨rfl,rfl⟩|⟨g,cap,cur,rfl,hbg,hg,hnc,hcm,hcs,htake⟩
  ·have:xs=[]:=ku hxl
   subst this
   exact fun u hu=>by cases hu
  ·have:=hU g rfl cur e (0,0) hg
   rw[<-htake]
   exact fun u hu=>this u (nZ hu)
 have grown: ∀(old:Nat),old<n+s.size-> ∀(row:Option Nat),
  (w.drew.alloc (.cells (xs.toArray++(Lib.strCells s).toArray++Builtin.zeroCells (Value.int .u8 0).cells (grownCap w (n+s.size) old e-(n+s.size))) e)).ownsRow base e 1
    (.slice (some ⟨w.heap.size,0,none⟩) (n+s.size) (grownCap w (n+s.size) old e)) (n+s.size) (xs++Lib.strCells s)/\
  w.grownBy (w.drew.alloc (.cells (xs.toArray++(Lib.strCells s).toArray++Builtin.zeroCells (Value.int .u8 0).cells (grownCap w (n+s.size) old e-(n+s.size))) e)) row/\
  ∀cs t f,(w.drew.alloc (.cells (xs.toArray++(Lib.strCells s).toArray++Builtin.zeroCells (Value.int .u8 0).cells (grownCap w (n+s.size) old e-(n+s.size))) e)).heap[w.heap.size]? =some (.cells cs t f)->wY cs.toList:=by
  intro old ho row
  have hge:=grownCap_ge w (n+s.size) old e
  have hcm:grownCap w (n+s.size) old e<=maxLen:=grownCap_le_maxLen w (n+s.size) old e h63
  refine⟨⟨hlen,.inr ⟨w.heap.size,_,_,rfl,hbase,heap_alloc_new w.drew _,hge,hcm,?_,?_⟩⟩,⟨rfl,rfl,rfl,by simp,fun k hk _=>heap_alloc_old w.drew _ hk⟩,fun cs t f h=>?_⟩
  ·have hz1:(Value.int IntKind.u8 0).cells.size=1:=rfl
   simp only[Array.size_append,List.size_toArray,size_zeroCells,hz1,hxl,Lib.strCells_length]
   omega
  ·simp only[Array.toList_append,List.append_assoc]
   rw[<-List.append_assoc, <-hlen]
   exact List.take_left
  ·have h2:=(heap_alloc_new w.drew (.cells (xs.toArray++(Lib.strCells s).toArray++Builtin.zeroCells (Value.int .u8 0).cells (grownCap w (n+s.size) old e-(n+s.size))) e)).symm.trans h
   simp only[Option.some.injEq,Obj.cells.injEq] at h2
   rw[<-h2.1]
   simp only[Array.toList_append]
   exact J9 (J9 hxU (XY s)) (aaV _)
 rcases hown.2 with⟨rfl,rfl⟩|⟨g,cap,cur,rfl,hbg,hg,hnc,hcm,hcs,htake⟩
 ·have hx:xs=[]:=ku hxl
  subst hx
  by_cases hm:s.size=0
  ·have hn:Lib.strCells s=[]:=ku (by rw[Lib.strCells_length];exact hm)
   refine⟨.slice none 0 0,w,?_,by rw[hm,hn];exact World.ownsRow_nil w base e 1,⟨rfl,rfl,rfl,ai _,fun _ _ _=>rfl⟩,fun q hq=>by cases hq⟩
   have hf:=Lib.run_firstCells_string (P:=P) w 1 s
   rw[hm] at hf
   simp[Builtin.append_,run_underlying ht,run_underlying hu,sizeOf,typeInfo,hi,hsize,Builtin.lenOf,hm,hf]
  ·have hr:=run_append_nil_string (P:=P) w t u ty e i (.int .u8 0) ht hu hi hz s (by omega) (by omega) (by rw[hby];omega)
   have hgr:=grown 0 (by omega) (Value.ownBlock (.slice none 0 0))
   simp only[Nat.zero_add,List.nil_append,Array.empty_append] at hgr⊢
   have e1:(s.data.map fun b=>Value.int .u8 b.toNat)=(Lib.strCells s).toArray:=by
    apply Array.ext'
    simp[Lib.strCells]
   rw[e1] at hr
   refine⟨_,_,hr,hgr.1,hgr.2.1,fun q hq=>?_⟩
   obtain rfl:=jy hq
   exact hgr.2.2
 ·by_cases hroom:n+s.size<=cap
  ·have hcs':cur.size=cap:=by simpa using hcs
   have hr:=Lib.run_append_room_string (P:=P) w t u ty e i ht hu hi hsize g n cap cur hg s hroom (by omega)
   refine⟨_,_,hr,⟨hlen,.inr ⟨g,cap,_,rfl,hbg,setRow_heap w g cur _ e _ hg,hroom,hcm,?_,?_⟩⟩,⟨rfl,rfl,rfl,by simp,fun k _ hk=>setRow_other w g k _ (fun e=>hk (by simp[Value.ownBlock,e]))⟩,fun q hq cs t f h=>?_⟩
   ·simp only[List.size_toArray,dh,gJ,kY,Array.length_toList,Lib.strCells_length]
    omega
   ·have ht':cur.toList.take n=xs:=by simpa using htake
    rw[ht', <-hlen]
    exact List.take_left
   ·obtain rfl:=jy hq
    rw[setRow_heap w g cur _ e _ hg] at h
    simp only[Option.some.injEq,Obj.cells.injEq] at h
    rw[<-h.1]
    have hc:=hU g rfl cur e (0,0) hg
    exact J9 (J9 (fun u hu=>hc u (nZ hu)) (XY s)) (fun u hu=>hc u (List.mem_of_mem_drop hu))
  ·have holds: ∀j u,xs[j]? =some u->w.cell? ((⟨g,0,none⟩:Addr).add j)=some u:=hown.cells (g:=g) rfl
   have hr:=Lib.run_append_grow_string (P:=P) w t u ty e i (.int .u8 0) ht hu hi hz ⟨g,0,none⟩ n cap xs (by rw[hsize];simpa using hxl) holds s (by omega) (by omega) (by rw[hby];exact growslice_fits (by omega) (by omega))
   have hgr:=grown cap (by omega) (Value.ownBlock (.slice (some ⟨g,0,none⟩) n cap))
   refine⟨_,_,hr,hgr.1,hgr.2.1,fun q hq=>?_⟩
   obtain rfl:=jy hq
   exact hgr.2.2
theorem zC {ops:Array Oper} {rest:List Oper} {o:Oper} {a:Act} {Q:Exit->Act->World->Prop} (hgd:o.guard=none) (sl x:Operand) (t u:TypeId)
 (ho:o.op= .call {callee:= .builtin .append,args:= #[sl,x],argTypes:= #[t,u]})
 (base:Nat) (e:TypeId) (i:TypeInfo) (ht:P.underlying t=some (.slice e)) (hu:P.underlying u=some .string) (hi:P.info? e=some i) (hz:i.zero=some (.int .u8 0))
 (hsize:i.size=1) (hby:i.bytes=1)
 (v:Value) (n:Nat) (xs:List Value) (hs:a.eval sl=v) (hown:w.ownsRow base e 1 v n xs) (hU: ∀q,v.ownBlock=some q-> ∀cs t f,w.heap[q]? =some (.cells cs t f)->wY cs.toList) (s:ByteArray) (hx:a.eval x= .string s)
 (h63:n+s.size<=maxLen) (hbytes:n+s.size<=140737488355328) (hbase:base<=w.heap.size)
 (h: ∀v' w',w'.ownsRow base e 1 v' (n+s.size) (xs++Lib.strCells s)->w.grownBy w' v.ownBlock->(∀q,v'.ownBlock=some q-> ∀cs t f,w'.heap[q]? =some (.cells cs t f)->wY cs.toList)->wpList P ops Q rest (a.put o.dst v') w'):wpList P ops Q (o::rest) a w:=by
 refine wpList_plain hgd fun K hK=>?_
 obtain⟨v',w',hr,h2,h3,h4⟩:=Ep (P:=P) base t u o.type e i ht hu hi hz hsize hby v n xs hown hU s h63 hbytes hbase
 unfold Oper.wp execOp
 simp only[ho,resolve,invoke,builtin,Sem.run_bind,Sem.run_pure,Result.andThen_ok,List.map_toArray,List.map_cons,List.map_nil,hs,hx,hr]
 exact hK _ _ (h v' w' h2 h3 h4)
end
def BJ (B b:Nat) (p:Value) (bs:az) (w:World):Prop:=
 B<=b/\ ∃v,w.heap[b]? =some (.cells #[p,v] 111 (0,0))/\w.ownsRow B 5 1 v bs.length (Lib.byteCells bs)/\v.ownBlock≠some b/\ ∀q,v.ownBlock=some q-> ∀cs t f,w.heap[q]? =some (.cells cs t f)->wY cs.toList
def Buf (B b:Nat) (bs:az) (w:World):Prop:=BJ B b (.pointer none) bs w∨BJ B b (.pointer (some ⟨b,0,none⟩)) bs w
theorem BJ.at_ {B b:Nat} {p:Value} {bs:az} {w:World} (h:BJ B b p bs w):Lib.BuilderAt 111 5 B b p (Lib.byteCells bs) w:=by
 obtain⟨h1,v,h2,h3,h4,_⟩:=h
 exact⟨h1,v,h2,by rw[Lib.byteCells_length];exact h3,h4⟩
theorem Buf.is {B b:Nat} {bs:az} {w:World} (h:Buf B b bs w):Lib.IsBuilder 111 5 B b (Lib.byteCells bs) w:=h.imp BJ.at_ BJ.at_
theorem BJ.below {B b:Nat} {p:Value} {bs:az} {w W:World} (h:BJ B b p bs w) (hb:Below w.heap.size w W):BJ B b p bs W:=by
 obtain⟨h1,v,h2,h3,h4,h5⟩:=h
 have hlt:=(aS.1 h2).1
 refine⟨h1,v,(hb.block b hlt).trans h2,aC (Ms:=[]) h3 (Ext.aA hb) (by simp),h4,fun q hq cs t f hc=>?_⟩
 rw[hb.block q (bD h3 q hq).2] at hc
 exact h5 q hq cs t f hc
theorem Buf.below {B b:Nat} {bs:az} {w W:World} (h:Buf B b bs w) (hb:Below w.heap.size w W):Buf B b bs W:=h.imp (fun x=>x.below hb) (fun x=>x.below hb)
structure Wr (B:Nat) (w w':World):Prop where
 below:Below B w w'
 size:w.heap.size<=w'.heap.size
 ints: ∀k,k<w.heap.size->(∃o n,w.cell? ⟨k,o,none⟩=some (iv n))->w'.heap[k]? =w.heap[k]?
theorem Wr.refl (B:Nat) (w:World):Wr B w w:=⟨aH _ _,ai _,fun _ _ _=>rfl⟩
theorem Wr.trans {B:Nat} {a b c:World} (h:Wr B a b) (k:Wr B b c):Wr B a c:=
 ⟨h.below.trans k.below,iR h.size k.size,fun i hi hc=>by
   have h1:=h.ints i hi hc
   obtain⟨o,n,hc⟩:=hc
   exact(k.ints i (fJ hi h.size) ⟨o,n,by rw[ja (w:=a) h1];exact hc⟩).trans h1⟩
theorem Wr.aA {B:Nat} {w w':World} (h:Below w.heap.size w w') (hB:B<=w.heap.size):Wr B w w':=⟨h.mono hB,h.size,fun k hk _=>h.block k hk⟩
theorem Wr.list {B:Nat} {w w':World} (h:Wr B w w') {size:Nat} {v:Value} {n:Nat} {xs:List Value} (hs:aN size w v n xs) (hi: ∀u∈xs, ∃k,u=iv k):aN size w' v n xs:=by
 obtain⟨hl,o,c,rfl,h1,h2,h3,h4⟩:=hs
 refine⟨hl,o,c,rfl,h1,h2,h3,fun a ha=>?_⟩
 obtain⟨hs,hc⟩:=h4 a ha
 obtain⟨b,off,sp⟩:=a
 simp only at hs hc
 subst hs
 refine⟨rfl,fun j u hj=>?_⟩
 have hcell:=hc j u hj
 obtain⟨k,rfl⟩:=hi u (mW hj)
 rw[ja (w:=w) (h.ints b (dG w _ hcell) ⟨_,_,hcell⟩)]
 exact hcell
theorem abu (l:List Int): ∀u∈ah l, ∃k,u=iv k:=fun u hu=>by
 obtain⟨k,_,rfl⟩:=iZ.1 hu
 exact⟨k,rfl⟩
theorem AU (l:List dQ): ∀u∈aG l, ∃k,u=iv k:=fun u hu=>by
 obtain⟨r,_,h⟩:=qw.1 hu
 rcases ig.1 h with rfl|h
 ·exact⟨_,rfl⟩
 ·obtain rfl:=fC.1 h
  exact⟨_,rfl⟩
theorem BJ.YT {B b:Nat} {p:Value} {bs:az} {w:World} (h:BJ B b p bs w) (hp: ∀n,p≠iv n) {o:Nat} {n:Int}:w.cell? ⟨b,o,none⟩≠some (iv n):=by
 obtain⟨h1,v,h2,h3,_⟩:=h
 intro e
 rw[Lib.cell_of_heap h2] at e
 match o with
 |0=>exact hp n (by simpa using e)
 |1=>
  have e':v=iv n:=by simpa using e
  rcases h3.2 with⟨hv,_⟩|⟨g,cap,cur,hv,_⟩ <;>rw[hv] at e' <;>cases e'
 |o+2=>simp at e
theorem BJ.wr {B b:Nat} {p:Value} {bs:az} {w w':World} (h:BJ B b p bs w) (hp: ∀n,p≠iv n) {v:Value} (hv:w.cell? ⟨b,1,none⟩=some v) (hb:Below B w w') (hs:w.heap.size<=w'.heap.size)
 (hk: ∀k,k<w.heap.size->k≠b->v.ownBlock≠some k->w'.heap[k]? =w.heap[k]?):Wr B w w':=by
 refine⟨hb,hs,fun k hk' hc=>?_⟩
 obtain⟨o,n,hc⟩:=hc
 refine hk k hk' (fun e=>?_) (fun e=>?_)
 ·subst e;exact h.YT hp hc
 ·obtain⟨h1,v',h2,h3,h4,h5⟩:=h
  rw[Lib.cell_of_heap h2] at hv
  obtain rfl:v'=v:=by simpa using hv
  rcases h3.2 with⟨hv,_⟩|⟨g,cap,cur,hv,_,hg,_⟩
  ·rw[hv] at e;cases e
  ·rw[hv] at e
   obtain rfl:g=k:=by simpa [Value.ownBlock] using e
   rw[Lib.cell_of_heap hg] at hc
   obtain⟨k',hk'⟩:=h5 g (by rw[hv];rfl) cur _ _ hg (iv n) (by rw[pK];exact Array.mem_of_getElem? hc)
   cases hk'
theorem Pn (b:Nat) (w:World) (h0:w.cell? ⟨b,0,none⟩=some (.pointer (some ⟨b,0,none⟩))):
 Calls Tryz.prog 64 #[.pointer (some ⟨b,0,none⟩)] w fun e w'=>e= .returned (.tuple #[])/\w'=w:=by
 obtain⟨j,hj,hjs⟩:=Option.map_eq_some_iff.1 (show(Tryz.prog.info? 111).map (·.size)=some 2 by kernel_rfl)
 go_enter Tryz.func64,Tryz.ntmps64
 go_wp2
 rw[Lib.run_neq_ptr_same w _ Tryz.underlying109 hj]
 go_wp2
 go_end0
 exact⟨rfl,rfl⟩
theorem LW (b:Nat) (w:World) (h0:w.cell? ⟨b,0,none⟩=some (.pointer none)) (hsh:w.shape? b=some (111,2)) (hfz:w.frozen? ⟨b,0,none⟩=false):
 Calls Tryz.prog 64 #[.pointer (some ⟨b,0,none⟩)] w fun e w'=>e= .returned (.tuple #[])/\w'=w.setCell ⟨b,0,none⟩ (.pointer (some ⟨b,0,none⟩)):=by
 obtain⟨j,hj,hjs⟩:=Option.map_eq_some_iff.1 (show(Tryz.prog.info? 111).map (·.size)=some 2 by kernel_rfl)
 go_enter Tryz.func64,Tryz.ntmps64
 go_wp2
 rw[Lib.run_to_unsafe w ⟨b,0,none⟩ Tryz.underlying109 Tryz.underlying239 hj (by rw[hjs];decide) hsh (Nat.zero_lt_succ 1)]
 simp only[Result.andThen]
 rw[Oper.upon_value]
 go_wp2
 rw[run_callFunc_extern Tryz.func110 (by kernel_rfl) (by kernel_rfl) (by kernel_rfl) (e:=Extern.AbiNoEscape.same) (by kernel_rfl)]
 rw[Lib.run_noEscape]
 simp only[Result.andThen]
 rw[Oper.upon_value]
 go_wp2
 rw[Lib.run_from_unsafe w ⟨b,0,none⟩ Tryz.underlying239 Tryz.underlying109 hj hsh (by kernel_rfl)]
 simp only[Result.andThen]
 rw[Oper.upon_value]
 go_wp2
 go_end0
 exact⟨rfl,rfl⟩
theorem SY (B b:Nat) (bs:az) (w:World) (h:Buf B b bs w):
 Calls Tryz.prog 64 #[.pointer (some ⟨b,0,none⟩)] w fun e w'=>e= .returned (.tuple #[])/\BJ B b (.pointer (some ⟨b,0,none⟩)) bs w'/\Wr B w w':=by
 rcases h with h|h
 ·refine(LW b w h.at_.cell0 h.at_.shape h.at_.frozen0).mono ?_
  rintro e w' ⟨rfl,rfl⟩
  have hlt:=h.at_.lt
  have hw:Wr B w (w.setCell ⟨b,0,none⟩ (.pointer (some ⟨b,0,none⟩))):=
   ⟨(aH B w).setCell (p:=⟨b,0,none⟩) h.1 _,by simp[World.setCell],fun k hk hc=>by
     obtain⟨o,n,hc⟩:=hc
     refine dF _ _ _ _ (fun e=>?_)
     subst e
     exact h.YT (fun _ e=>by cases e) hc⟩
  obtain⟨h1,v,h2,h3,h4,h5⟩:=h
  refine⟨rfl,⟨h1,v,?_,?_,h4,fun q hq cs t f hc=>?_⟩,hw⟩
  ·simp[World.setCell,Array.getElem?_modify,h2]
  ·exact h3.kept (row:=some b) ⟨rfl,rfl,rfl,by simp[World.setCell],fun k _ hk=>dF _ _ _ _ (fun e=>hk (by simp[e]))⟩ (Or.inr h4)
  ·rw[dF _ _ _ _ (fun e=>h4 (by rw[hq,e]))] at hc
   exact h5 q hq cs t f hc
 ·refine(Pn b w h.at_.cell0).mono ?_
  rintro e w' ⟨rfl,rfl⟩
  exact⟨rfl,h,Wr.refl _ _⟩
theorem uT (B b:Nat) (bs s:az) (w:World) (h:Buf B b bs w) (hBw:B<=w.heap.size) (hlen:bs.length+s.length<=1000000):
 Calls Tryz.prog 38 #[.pointer (some ⟨b,0,none⟩),.string (gI s)] w fun e w'=>(∃v,e= .returned v)/\Buf B b (bs++s) w'/\Wr B w w':=by
 have hsz:(gI s).size=s.length:=by simp[ByteArray.size]
 obtain⟨i0,hi,hz0,hz1,hz2⟩:=info_parts (show(Tryz.prog.info? 5).map (fun i=>(i.zero,i.size,i.bytes))=some (some (.int .u8 0),1,1) by kernel_rfl)
 have HC:=ae (SY B b bs w h)
 clear h
 go_enter Tryz.func38,Tryz.ntmps38
 go_wp2_with fail
 refine HC.o.mono ?_
 rintro e w1 ⟨rfl,h1,hw1⟩
 have hp: ∀n,(Value.pointer (some ⟨b,0,none⟩))≠iv n:=fun _ e=>by cases e
 have HA:=ae h1
 obtain⟨hB,v,hbk,hown,hne,hU⟩:=h1
 have c0:w1.cell? ⟨b,0,none⟩=some (.pointer (some ⟨b,0,none⟩)):=by rw[Lib.cell_of_heap hbk];rfl
 have c1:w1.cell? ⟨b,1,none⟩=some v:=by rw[Lib.cell_of_heap hbk];rfl
 go_wp2_with (at_builtin;refine zC rfl _ _ 25 9 rfl B 5 i0 Tryz.underlying25 Tryz.underlying9 hi hz0 hz1 hz2 _ _ _ rfl hown hU (gI s) rfl ?c3 ?c4 ?c5 ?_)
 case c3=>rw[hsz];unfold maxLen;omega
 case c4=>rw[hsz];omega
 case c5=>have:=hw1.size;omega
 intro v' w2 hown' hgrow hU'
 have hlt:b<w1.heap.size:=(aS.1 hbk).1
 have hb2:w2.heap[b]? =some (.cells #[.pointer (some ⟨b,0,none⟩),v] 111 (0,0)):=by
  rw[hgrow.block b hlt (fun e=>hne e.symm)]
  exact hbk
 have d0:w2.cell? ⟨b,0,none⟩=some (.pointer (some ⟨b,0,none⟩)):=by rw[Lib.cell_of_heap hb2];rfl
 have d1:w2.cell? ⟨b,1,none⟩=some v:=by rw[Lib.cell_of_heap hb2];rfl
 have f1:w2.frozen? ⟨b,1,none⟩=false:=Lib.frozen_of_heap hb2 1
 obtain⟨ao,n',cap,rfl⟩: ∃ao n' cap,v'= .slice ao n' cap:=by
  rcases hown'.2 with⟨hv,_⟩|⟨g,cap,cur,hv,_⟩
  ·exact⟨_,_,_,hv⟩
  ·exact⟨_,_,_,hv⟩
 have hne':=Lib.ownBlock_ne hown' hb2 (show 111≠5 by decide)
 have HG:=ae (ag hown' (ag hgrow (ag hU' (ag hw1 (ag c1 (ag hown hb2))))))
 clear hown' hgrow hU' hw1 hU hb2 hown
 go_wp2
 go_ret2
 obtain⟨hown',hgrow,hU',hw1,c1',hown,hb2⟩:=HG.o
 refine⟨⟨_,rfl⟩,.inr ⟨hB,_,?_,?_,hne',fun q hq cs t f hc=>?_⟩,hw1.trans (HA.o.wr hp c1' ?_ ?_ ?_)⟩
 ·simp[World.setCell,Array.getElem?_modify,hb2]
 ·have h3:w2.ownsRow B 5 1 (.slice ao n' cap) (bs++s).length (Lib.byteCells (bs++s)):=by
   rw[dh,Lib.byteCells_append, <-hsz]
   exact hown'
  exact h3.kept (row:=some b) ⟨rfl,rfl,rfl,by simp[World.setCell],fun k _ hk=>dF _ _ _ _ (fun e=>hk (by simp[e]))⟩ (Or.inr hne')
 ·rw[dF _ _ _ _ (fun e=>hne' (by rw[hq,e]))] at hc
  first|exact hU' q hq cs t f hc|exact hU' q hq cs t f.1 f.2 hc
 ·exact((aH B w1).grown hgrow (by have:=hw1.size;omega) (fun k hk=>(hown.lt k hk).1)).setCell (p:=⟨b,1,none⟩) hB _
 ·have:=hgrow.size;simp[World.setCell];omega
 ·intro k hk hkb hkv
  exact(dF _ _ _ _ (fun e=>hkb e)).trans (hgrow.block k hk (fun e=>hkv e.symm))
end Go.Proofs.YthllkbbbapgelaaGreatDoor.Bk
end
section
namespace Go.Proofs.YthllkbbbapgelaaGreatDoor.Bk
open Go.RowKit Go.RG Go.SL Go.Shelf jl Go.TB Go.Proofs.YthllkbbbapgelaaGreatDoor.zo
abbrev kL (n:Int):Prop:= -1000000000<=n/\n<=1000000000
theorem qJ {n:Int} (h:kL n):(Lib.itoa n).length<=11:=by
 unfold Lib.itoa
 split
 ·have:=Sr 9 n.natAbs (by omega)
  simp only[List.length_cons];omega
 ·have:=Sr 9 n.toNat (by omega)
  omega
theorem xU (n:Int) (h:kL n) (w:World) (hE:Env w):Calls Tryz.prog 39 #[iv n] w (PV (.string (gI (Lib.itoa n))) w):=by
 refine(Go.Proofs.Tryz.strconv_Itoa n (by omega) (by omega) w (Un hE (by kernel_rfl))).mono ?_
 rintro e w2 ⟨rfl,k,os,rfl⟩
 exact⟨rfl,Gy w k os⟩
def gX (word:az) (r:dQ):az:=word++[32]++Lib.itoa r.1++[46,46]++Lib.itoa r.2++[10]
theorem BL {word:az} {r:dQ} (h1:kL r.1) (h2:kL r.2):(gX word r).length<=word.length+26:=by
 have:=qJ h1
 have:=qJ h2
 simp only[gX,dh,List.length_cons,List.length_nil]
 omega
theorem rU (word:az): ∀{l:List dQ},(∀r∈l,kL r.1/\kL r.2)->(l.flatMap (gX word)).length<=(word.length+26)*l.length:=by
 intro l
 induction l with
 |nil=>intro _;simp
 |cons r l ih=>
  intro h
  have h1:=h r (by simp)
  have h2:=BL (word:=word) h1.1 h1.2
  have h3:=ih (fun x hx=>h x (by simp[hx]))
  rw[List.flatMap_cons,dh,List.length_cons,Nat.mul_add]
  omega
theorem rY (B b:Nat) (bs word:az) (r:dQ) (w:World) (h:Buf B b bs w) (hBw:B<=w.heap.size) (hB4:4<=B) (hE:Env w) (h1:kL r.1) (h2:kL r.2) (hlen:bs.length+(word.length+26)<=1000000):
 Calls Tryz.prog 37 #[.string (gI word),iv r.1,iv r.2,.pointer (some ⟨b,0,none⟩)] w fun e w'=>(∃v,e= .returned v)/\Buf B b (bs++gX word r) w'/\Wr B w w':=by
 have HE:Hid (∀W,Below w.heap.size w W->Env W):=ae (fun W hb=>hE.below hb (ai _))
 have HBu:=ae h
 have HS:=ae (ag h1 h2)
 have l1:=qJ h1
 have l2:=qJ h2
 obtain⟨s1,hs1⟩: ∃s,Lib.itoa r.1=s:=⟨_,rfl⟩
 obtain⟨s2,hs2⟩: ∃s,Lib.itoa r.2=s:=⟨_,rfl⟩
 rw[hs1] at l1
 rw[hs2] at l2
 have a1:=fun W=>qB (P:=Tryz.prog) (a:=word) (b:=[32]) rfl (by simp;omega) W
 have a2:=fun W=>qB (P:=Tryz.prog) (a:=word++[32]) (b:=s1) rfl (by simp;omega) W
 have a3:=fun W=>qB (P:=Tryz.prog) (a:=word++[32]++s1) (b:=[46,46]) rfl (by simp;omega) W
 have a4:=fun W=>qB (P:=Tryz.prog) (a:=word++[32]++s1++[46,46]) (b:=s2) rfl (by simp;omega) W
 have a5:=fun W=>qB (P:=Tryz.prog) (a:=word++[32]++s1++[46,46]++s2) (b:=[10]) rfl (by simp;omega) W
 have HW:Hid (gX word r=word++[32]++s1++[46,46]++s2++[10]):=ae (by unfold gX;rw[hs1,hs2])
 have H1:=ae hs1
 have H2:=ae hs2
 obtain⟨lo,hi⟩:=r
 simp only at*
 clear h hE h1 h2 hs1 hs2
 go_enter Tryz.func37,Tryz.ntmps37
 go_wp2_with fail
 refine(xU lo HS.o.1 _ (HE.o _ (aH _ _))).mono ?_
 rintro e w1 ⟨rfl,hb1⟩
 rw[H1.o]
 have HB1:=ae hb1
 clear hb1
 go_wp2_with fail
 refine(xU hi HS.o.2 _ (HE.o _ HB1.o)).mono ?_
 rintro e w2 ⟨rfl,hb2⟩
 rw[H2.o]
 have HB2:=ae (bn HB1.o hb2)
 have hs2:=HB2.o.size
 have e5:gI (word++32::s1)++{data:= #[46,46]}++gI s2++{data:= #[10]}=gI (word++[32]++s1++[46,46]++s2++[10]):=by
  show gI (word++32::s1)++gI [46,46]++gI s2++gI [10]=_
  rw[Bq,Bq,Bq]
  simp
 clear hb2
 go_wp2_with fail
 refine(uT B b bs _ w2 (HBu.o.below HB2.o) (by omega) (by simp;omega)).mono ?_
 rintro e w3 ⟨⟨v,rfl⟩,h3,h4⟩
 have H3:=ae (ag h3 h4)
 clear h3 h4 e5
 go_wp2_with fail
 go_end0
 refine⟨⟨_,rfl⟩,?_,(Wr.aA HB2.o (by omega)).trans H3.o.2⟩
 rw[HW.o]
 simpa using H3.o.1
theorem wF {α:Type} {l:List α} {i:Nat} {d:α} (h:i<l.length):l.getD i d=l[i]:=by simp[List.getD,h]
theorem Ph (n:Nat) (ls:List (List Int)): ∀k,k<=ls.length->k≠0-> ∀i,i<n->
 (∀l∈ls.take k,((bz n ls k).getD i (0,0)).1<=l.getD i 0/\l.getD i 0<=((bz n ls k).getD i (0,0)).2)/\
 (∃l∈ls.take k,((bz n ls k).getD i (0,0)).1=l.getD i 0)/\(∃l∈ls.take k,((bz n ls k).getD i (0,0)).2=l.getD i 0):=by
 intro k
 induction k with
 |zero=>intro _ h;exact absurd rfl h
 |succ k ih=>
  intro hk _ i hi
  have hk':k<ls.length:=by omega
  have ht:ls.take (k+1)=ls.take k++[ls[k]]:=iC hk'
  have hg:ls.getD k []=ls[k]:=wF hk'
  by_cases h0:k=0
  ·subst h0
   have e:(bz n ls 1).getD i (0,0)=((ls[0]).getD i 0,(ls[0]).getD i 0):=by
    simp only[bz,eH,hg]
    rw[wF (by simp;omega)]
    simp
   rw[e]
   simp only[Nat.zero_add] at ht⊢
   rw[ht]
   exact⟨fun l hl=>by obtain rfl:=fC.1 (by simpa using hl);exact⟨Int.le_refl _,Int.le_refl _⟩,⟨ls[0],by simp,rfl⟩,⟨ls[0],by simp,rfl⟩⟩
  ·obtain⟨h1,⟨l2,hl2,h2⟩,⟨l3,hl3,h3⟩⟩:=ih (by omega) h0 i hi
   have hlen:=pI n ls k h0
   have e:(bz n ls (k+1)).getD i (0,0)=wid ((bz n ls k).getD i (0,0)) ((ls[k]).getD i 0):=by
    simp only[bz,eH,hg,h0,if_false]
    rw[wF (by simp;omega)]
    simp[hi]
   rw[e,ht]
   generalize (bz n ls k).getD i (0,0)=r at*
   simp only[wid]
   refine⟨fun l hl=>?_,?_,?_⟩
   ·rcases iM.1 hl with hl|hl
    ·have:=h1 l hl;omega
    ·obtain rfl:=fC.1 hl;omega
   ·by_cases hc:r.1<=(ls[k]).getD i 0
    ·exact⟨l2,og _ hl2,by omega⟩
    ·exact⟨ls[k],tY _ (fC.2 rfl),by omega⟩
   ·by_cases hc:(ls[k]).getD i 0<=r.2
    ·exact⟨l3,og _ hl3,by omega⟩
    ·exact⟨ls[k],tY _ (fC.2 rfl),by omega⟩
theorem Pj {n:Nat} {ls:List (List Int)} (h:ls≠[]):(rM n ls).length=n:=pI n ls _ (by cases ls <;>simp_all)
theorem SX {n:Nat} {ls:List (List Int)} (h:ls≠[]) {i:Nat} (hi:i<n):
 (∀l∈ls,((rM n ls).getD i (0,0)).1<=l.getD i 0/\l.getD i 0<=((rM n ls).getD i (0,0)).2)/\
 (∃l∈ls,((rM n ls).getD i (0,0)).1=l.getD i 0)/\(∃l∈ls,((rM n ls).getD i (0,0)).2=l.getD i 0):=by
 have:=Ph n ls ls.length (ai _) (by cases ls <;>simp_all) i hi
 rwa [List.take_length] at this
structure Ux (s:jJ):Prop where
 field:fO s.led.field true=0
 led:iL s.led=0
 heap:vM s.heap=0
 ask:jD.jh s.heap s.heap.turns=0
 keeps:jD.nV s.heap s.heap.turns≠2
 dw:qi s.dw=0
 ab9:iY s.dw true=0
theorem U0 {s:jJ}:bH s=0↔Ux s:=by
 unfold bH
 constructor
 ·intro h
  split at h;· omega
  split at h;· omega
  split at h;· omega
  split at h;· omega
  split at h;· omega
  split at h;· omega
  split at h;· omega
  rename_i a b c d e f g
  exact⟨by simpa using a,by simpa using b,by simpa using c,by simpa using d,e,by simpa using f,by simpa using g⟩
 ·rintro⟨a,b,c,d,e,f,g⟩
  simp[a,b,c,d,e,f,g]
theorem LU:bH dY=0:=by decide+kernel
theorem abd (ls:List az):fP (fK bH dY ls).1/\Ux (fK bH dY ls).1:=⟨Jm _ G8,U0.1 (Nv _ LU)⟩
theorem Yx {ls:List az} (h:fH ls=0):fP (iV ls)/\Ux (iV ls):=by
 unfold iV
 rw[aF h]
 exact abd ls
theorem RY {f:bQ} (h:fO f true=0): ∀r∈Bf f,kL r.1/\kL r.2:=by
 intro r hr
 have hf:jS f=0:=by
  unfold fO at h
  split at h
  ·omega
  ·rename_i hq;simpa using hq
 unfold Bf at hr
 obtain⟨i,_,rfl⟩:=iZ.1 hr
 have:=KA (iF hf) (bT f []) (i:Int) _ (ai _)
 exact⟨⟨by omega,by omega⟩,by omega,by omega⟩
theorem NQ {l:aQ} (h:iL l=0):(nz l).length<=5/\ ∀i∈nz l,0<=i/\i<=4:=by
 obtain⟨hS,hp⟩:=pG h
 obtain⟨_,h2,_⟩:=NR hp
 have hm:=hS.many
 refine⟨by have:=h2.len;omega,fun i hi=>?_⟩
 have:=((La _ _).1 h2).2 i hi
 omega
theorem QL {l:aQ} (h:gV l true=0): ∀r∈Bv oI l (gm l),kL r.1/\kL r.2:=by
 intro r hr
 obtain⟨hS,hp⟩:=Pq h
 obtain⟨i,hi,rfl⟩:=lY hr
 have hl:=Ut hp oI
 have afZ:=aae hp oI (i:=i) (by omega)
 rw[wF hi] at afZ
 have key: ∀d∈gm l,jw l [] d=true-> -2000<=(oI (d.getD i 0) ((kJ l [] d).getD i (0,0))).1/\(oI (d.getD i 0) ((kJ l [] d).getD i (0,0))).2<=2000/\ -2000<=(oI (d.getD i 0) ((kJ l [] d).getD i (0,0))).2/\(oI (d.getD i 0) ((kJ l [] d).getD i (0,0))).1<=2000:=fun d hd hc=>by
  have hb:=Ny hS hd hc (i:=i) (by omega)
  obtain⟨t,ht,rfl⟩:=Jz.1 hd
  have hF:=iF hS.field
  have hw:=hF.wR
  have hd2:=GK (rate:=l.rate) (by have:=hS.rate;omega) hS.rate.2 t (aa9 hS ht) i (by omega)
  unfold oI
  simp only
  omega
 obtain⟨⟨⟨y,⟨d,hd,hc,rfl⟩,hy⟩,_⟩,⟨⟨z,⟨e,he,hce,rfl⟩,hz⟩,_⟩⟩:=afZ
 have k1:=key d hd hc
 have k2:=key e he hce
 exact⟨⟨by omega,by omega⟩,by omega,by omega⟩
theorem Gn {s:jJ} (hG:fP s) (hS:Ux s):(jD.jM s.heap s.heap.turns).length=5/\kL ((jD.jM s.heap s.heap.turns).getD 4 (0,0)).1/\kL ((jD.jM s.heap s.heap.turns).getD 4 (0,0)).2:=by
 have hl:=hG.heap.1
 unfold jD.jM
 rw[aF hS.ask,hl]
 have hne:jB s.heap s.heap.turns≠[]:=by
  have ha:=hS.ask
  unfold jD.jh at ha
  split at ha;· omega
  split at ha;· omega
  split at ha;· omega
  rename_i hq
  exact RN (by cases hq2:dP s.heap [] <;>simp_all)
 have hb: ∀y∈jB s.heap s.heap.turns,0<=y.getD 4 0/\y.getD 4 0<=900:=fun y hy=>by
  obtain⟨t,ht,rfl⟩:=(FX _ _ _).1 hy
  have hSo:=Fq hS.heap
  obtain⟨a1,a2,a3⟩:=jD.Aj hSo ht
  have hw:=hG.UN
  have hbd:=Om s.heap.turns hSo.MW hSo.MV hSo.OM hSo.OL a2.1 a2.2 a3 (by omega)
  by_cases h4:4<(lD s.heap t s.heap.turns).length
  ·rw[wF h4]
   exact hbd _ (df _)
  ·rw[gW,List.getElem?_eq_none (by omega)]
   exact⟨by decide,by decide⟩
 obtain⟨_,⟨y,hy,e1⟩,⟨z,hz,e2⟩⟩:=SX hne (n:=5) (i:=4) (by omega)
 have b1:=hb y hy
 have b2:=hb z hz
 refine⟨Pj hne,?_,?_⟩
 ·show kL ((rM 5 (jB s.heap s.heap.turns)).getD 4 (0,0)).1
  rw[e1]
  exact⟨by omega,by omega⟩
 ·show kL ((rM 5 (jB s.heap s.heap.turns)).getD 4 (0,0)).2
  rw[e2]
  exact⟨by omega,by omega⟩
theorem Dy (h:bY) (t:List Int):kL (jD.nV h t):=by
 unfold jD.nV
 split
 ·exact⟨by decide,by decide⟩
 ·split
  ·exact⟨by decide,by decide⟩
  ·split <;>exact⟨by decide,by decide⟩
theorem GX {c:bK} (h:iY c true=0): ∀r∈jv c,kL r.1/\kL r.2:=by
 intro r hr
 obtain⟨hS,h0,_⟩:=He h
 unfold jv at hr
 obtain⟨i,hi,rfl⟩:=iZ.1 hr
 have hi':=kX.1 hi
 have:=TS hS mF h0 (i:=c.heaps.length+i) (by unfold mZ;omega) _ (ai _)
 unfold Ap
 exact⟨⟨by omega,by omega⟩,by omega,by omega⟩
end Go.Proofs.YthllkbbbapgelaaGreatDoor.Bk
end
section
namespace Go.Proofs.YthllkbbbapgelaaGreatDoor.Bk
open Go.Lib Go.RowKit Go.RG Go.SL Go.Shelf jl Go.TB Go.Proofs.YthllkbbbapgelaaGreatDoor.zo
theorem Rl (l:List Int) (v u:Value) (w:World) (h:aO w v l) (k:aO w u l):Calls Tryz.prog 30 #[v,u] w (PV (.bool true) w):=by
 obtain⟨o1,q1,rfl⟩:=aN.open h
 obtain⟨o2,q2,rfl⟩:=aN.open k
 have hl1:=h.len
 have HH:=ae (ag h k)
 clear h k
 have hne:((l.length:Int) !=(l.length:Int))=false:=by simp
 go_enter Tryz.func30,Tryz.ntmps30
 go_wp2_with fail
 go_loopw [5] (fun i wr=> ∃k:Nat,k<=l.length/\i= .int .i64 k/\Below w.heap.size w wr) (fun i _=>l.length-(intOf i).toNat)
 case atStart=>exact⟨0,bM _,rfl,aH _ _⟩
 case round=>
  obtain⟨k,hk,rfl,hB⟩:=hrel
  by_cases hlt:k<l.length
  ·obtain⟨g1,f1,e1,r1,c1⟩:=aO.cell (HH.o.1.below hB (ai _)) hlt
   obtain⟨g2,f2,e2,r2,c2⟩:=aO.cell (HH.o.2.below hB (ai _)) hlt
   generalize l[k]=x at*
   have HX:=ae hB
   have Es:(k:Int)<l.length:=by omega
   cases e1
   cases e2
   clear hB
   have hnb:(x !=x)=false:=by simp
   have hnc:(x==x)=true:=by simp
   go_wp2_with fail
   go_region
   all_goals go_wp2_with fail
   all_goals go_roundw
   all_goals first
    |exact⟨k+1,by omega,by go_num,rO HX.o⟩
    |(simp[intOf];omega)
  ·have HR:=ae hB
   clear hB
   go_wp2_with fail
   go_returns
   exact⟨rfl,HR.o⟩
theorem WN (l:List Int) (v u:Value) (w:World) (h:aO w v l) (k:aO w u l):Calls Tryz.prog 22 #[v,u] w (PV (.bool true) w):=by
 obtain⟨o1,q1,rfl⟩:=aN.open h
 obtain⟨o2,q2,rfl⟩:=aN.open k
 have hl1:=h.len
 have HH:=ae (ag h k)
 clear h k
 have hne:((l.length:Int) !=(l.length:Int))=false:=by simp
 go_enter Tryz.func22,Tryz.ntmps22
 go_wp2_with fail
 go_loopw [5] (fun i wr=> ∃k:Nat,k<=l.length/\i= .int .i64 k/\Below w.heap.size w wr) (fun i _=>l.length-(intOf i).toNat)
 case atStart=>exact⟨0,bM _,rfl,aH _ _⟩
 case round=>
  obtain⟨k,hk,rfl,hB⟩:=hrel
  by_cases hlt:k<l.length
  ·obtain⟨g1,f1,e1,r1,c1⟩:=aO.cell (HH.o.1.below hB (ai _)) hlt
   obtain⟨g2,f2,e2,r2,c2⟩:=aO.cell (HH.o.2.below hB (ai _)) hlt
   generalize l[k]=x at*
   have HX:=ae hB
   have Es:(k:Int)<l.length:=by omega
   cases e1
   cases e2
   clear hB
   have hnb:(x !=x)=false:=by simp
   have hnc:(x==x)=true:=by simp
   go_wp2_with fail
   go_region
   all_goals go_wp2_with fail
   all_goals go_roundw
   all_goals first
    |exact⟨k+1,by omega,by go_num,rO HX.o⟩
    |(simp[intOf];omega)
  ·have HR:=ae hB
   clear hB
   go_wp2_with fail
   go_returns
   exact⟨rfl,HR.o⟩
theorem Ja (l:List az) (v u:Value) (w:World) (h:iU w v l) (k:iU w u l):Calls Tryz.prog 14 #[v,u] w (PV (.bool true) w):=by
 obtain⟨o1,q1,rfl⟩:=aN.open h
 obtain⟨o2,q2,rfl⟩:=aN.open k
 have hl1:=h.len
 have HH:=ae (ag h k)
 clear h k
 have hne:((l.length:Int) !=(l.length:Int))=false:=by simp
 go_enter Tryz.func14,Tryz.ntmps14
 go_wp2_with fail
 go_loopw [5] (fun i wr=> ∃k:Nat,k<=l.length/\i= .int .i64 k/\Below w.heap.size w wr) (fun i _=>l.length-(intOf i).toNat)
 case atStart=>exact⟨0,bM _,rfl,aH _ _⟩
 case round=>
  obtain⟨k,hk,rfl,hB⟩:=hrel
  by_cases hlt:k<l.length
  ·obtain⟨g1,f1,e1,r1,c1⟩:=qc (HH.o.1.below hB (ai _)) hlt
   obtain⟨g2,f2,e2,r2,c2⟩:=qc (HH.o.2.below hB (ai _)) hlt
   generalize l[k]=x at*
   have HX:=ae hB
   have Es:(k:Int)<l.length:=by omega
   cases e1
   cases e2
   clear hB
   have hnb:(x !=x)=false:=by simp
   have hnc:(x==x)=true:=by simp
   go_wp2_with fail
   go_region
   all_goals go_wp2_with fail
   all_goals go_roundw
   all_goals first
    |exact⟨k+1,by omega,by go_num,rO HX.o⟩
    |(simp[intOf];omega)
  ·have HR:=ae hB
   clear hB
   go_wp2_with fail
   go_returns
   exact⟨rfl,HR.o⟩
end Go.Proofs.YthllkbbbapgelaaGreatDoor.Bk
end

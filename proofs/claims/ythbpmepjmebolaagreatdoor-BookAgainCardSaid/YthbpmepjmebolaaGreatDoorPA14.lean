/-
  Texts of this claim, packed by a program: DQ DR DS DT DU DW DV DX DY DZ EA EB EC EL EM EP.
-/
import Derived.WalkKit
import Derived.WalkLawsBesides
import Derived.WalkSpells
import Derived.Outline
import Derived.Handy
import Derived.KernelRfl
import Derived.Lib.Hide
import Derived.Deep.Cut
import Derived.Lib.AtoiAllCases
import Derived.Lib.SplitLaws
import Derived.Lib.IndexBytes
import Derived.Defers
import Derived.Recover
import Derived.Laws.Pointers
import Derived.Laws.Tables
import Derived.Lib.BufferWrite
import Derived.Laws.CopyOwn
import Derived.BigRegion
import Derived.Laws.DeepStrings4
import Derived.Test.YthbpmepjmebolaaGreatDoorPA13
set_option maxHeartbeats 8000000
set_option maxRecDepth 100000
set_option linter.all false
section
namespace Go.Proofs.YthbpmepjmebolaaGreatDoor.Bk
open Go.RowKit Go.RG Go.SL Go.Shelf jC Go.TB Go.Proofs.YthbpmepjmebolaaGreatDoor.Be
def Eh (s:jA) (V:SV) (n:Nat) (kc:List Value):List Row:=
 [⟨118,5,V.uK,s.led.field.au.length,dS s.led.field.au⟩,⟨120,3,V.QX,s.led.notes.length,aY s.led.notes⟩,
   ⟨34,2,V.bQ,s.heap.bQ.length,aH s.heap.bQ⟩,⟨3,1,V.Fj,s.heap.turns.length,ah s.heap.turns⟩,⟨122,3,V.Fv,s.heap.readings.length,aY s.heap.readings⟩,
   ⟨112,2,V.hps,s.bP.heaps.length,aH s.bP.heaps⟩,⟨36,1,V.cks,n,kc⟩,⟨124,4,V.trs,s.bP.aJ.length,gV s.bP.aJ⟩]
theorem Wn (s:jA) (V:SV) (es:List KE):iM s V es=Eh s V es.length (fD es)++es.map zN:=rfl
theorem Wl (s:jA) (V:SV) (n:Nat) (kc kc':List Value) (X:List Row):(Eh s V n kc++X).set 6 ⟨36,1,V.cks,n,kc'⟩=Eh s V n kc'++X:=rfl
theorem Di (s:jA) (V:SV) (n:Nat) (kc:List Value) (X:List Row):(Eh s V n kc++X)[6]? =some ⟨36,1,V.cks,n,kc⟩:=rfl
theorem J7 {w:World} {N:Nat} {t:TypeId} {size:Nat} {v:Value} {n:Nat} {xs:List Value} (h:w.ownsRow N t size v n xs) {g:Nat} (hg:v.ownBlock=some g): ∃cur,w.heap[g]? =some (.cells cur t (0,0)):=by
 obtain⟨h1,⟨rfl,h2⟩|⟨g',c,cs,rfl,hb,hc,h3⟩⟩:=h
 ·cases hg
 ·cases hg;exact⟨cs,hc⟩
theorem xW.ZM {N:Nat} {w:World} {bx:Nat} {R:List Row} (hbx:bx<w.heap.size) (hN:N<=bx) (hown: ∀r∈R,w.ownsRow (bx+1) r.t r.size r.v r.n r.xs) (hnd:(R.map (·.t)).Nodup):xW N w bx R where
 own i r hr:=bY (hown r (mG hr)) (by omega)
 apart i j a b ha hb hij:=by
  rcases hq:a.v.ownBlock with _|g
  ·exact .inl rfl
  ·refine .inr fun e=>?_
   obtain⟨c1,h1⟩:=J7 (hown a (mG ha)) hq
   obtain⟨c2,h2⟩:=J7 (hown b (mG hb)) e.symm
   rw[h1] at h2
   have ht:a.t=b.t:=by injection h2 with h2;injection h2
   refine hij ((List.getElem?_inj (i:=i) (j:=j) (by simpa using(jq.1 ha).1:i<(R.map (·.t)).length) hnd).1 ?_)
   rw[qJ,qJ,ha,hb,Option.map_some,Option.map_some,ht]
 off i r hr e:=by
  have:=((hown r (mG hr)).lt bx e).1
  omega
 lt:=hbx
 base:=hN
theorem xW.move {N:Nat} {w W:World} {bx wb:Nat} {R:List Row} (h:xW N w bx R) (hE:Ext [] w W) (hwb:w.heap.size<=wb) (hlt:wb<W.heap.size):xW N W wb R where
 own i r hr:=aA (h.own i r hr) hE (by simp)
 apart:=h.apart
 off i r hr e:=by have:=((h.own i r hr).lt wb e).2;omega
 lt:=hlt
 base:=by have:=h.base;have:=h.lt;omega
theorem acu {w:World} {v:Value} {es:List KE} (h:vT w v es): ∀u∈fD es,u.oneCell'=true:=by
 intro u hu
 obtain⟨e,he,rfl⟩:=iV.1 hu
 obtain⟨o,c,hv⟩:=aK.open (h.2 e he)
 rw[hv];rfl
theorem F8 (s:jA) (V:SV) (es:List KE) (w:World) (hS:oD w s V es) (hG:fZ s):Calls Tryz.prog 114 #[.agg (dD s V)] w
 (fun e w'=>Below w.heap.size w w'/\ ∃wb V' es',e= .returned (.pointer (some ⟨wb,0,none⟩))/\jX w.heap.size w' wb s V' es'):=by
 obtain⟨vt,vn,vw,vu,vr,vh,vk,vs⟩:=V
 have HS:Hid (∀W,Below w.heap.size w W->oD W s ⟨vt,vn,vw,vu,vr,vh,vk,vs⟩ es):=ae (fun W hb=>hS.below hb (ai _))
 have hek:es.length=s.bP.aQ.length:=hS.bP.len
 have jB:=ae (acu hS.bP.aQ)
 have HG:=ae hG
 have hl5:=hG.Ah
 have hn5:=hG.notes
 have hw5:=hG.CY
 have MO:=hG.reads
 have hh3:=hG.yT
 have hk3:=hG.aQ
 have ht5:=hG.aJ
 have hu5:s.heap.turns.length<=5:=by obtain⟨p,hp⟩:=hG.turns;rw[hp];exact Dq p
 have hke:es.length<=3:=by omega
 have hwl:s.heap.bQ.length<=5:=by omega
 have HEK:=ae hek
 clear hS hG hek hw5
 go_enter Tryz.func114,Tryz.ntmps114
 go_wp2_with fail
 refine dH fun W1 hW1=>?_
 have hb1:W1.heap[w.heap.size]? =some (.cells (dD s ⟨vt,vn,vw,vu,vr,vh,vk,vs⟩) 46 (0,0)):=by rw[hW1];exact ay _ _
 have HB1:=ae (show Below w.heap.size w W1 from by rw[hW1];exact ak (aG _ _) _)
 have hsz1:w.heap.size<W1.heap.size:=(aV.1 hb1).1
 obtain⟨c1,f1,l1⟩:=af hb1
 have VT:=ae hb1
 clear hW1 hb1
 refine RX.gG (fun _ _=>False) 10 [] none [(5,⟨fun _ v=> ∃o c,v= .slice o s.led.field.au.length c,fun _ v Wx=>Wx.ownsRow W1.heap.size 118 5 v s.led.field.au.length (dS s.led.field.au)⟩),(9,⟨fun _ v=> ∃o c,v= .slice o s.led.notes.length c,fun _ v Wx=>Wx.ownsRow W1.heap.size 120 3 v s.led.notes.length (aY s.led.notes)⟩)] (by rintro ps a1 Wx hdf h;exact h.elim) (by as_aux_lemma=>kernel_rfl) (by as_aux_lemma=>kernel_rfl) ?_
 simp only[zt]
 repeat (refine RX.zd ?_;simp only[zp])
 refine RX.bJ _ (by rfl) (by rfl) (by exact⟨.slice none (s.led.field.au.length) 0,none,0,rfl⟩) (fun Wq hE hF=>?_) (fun v Wa Wb ho hE=>?_) (fun v hv=>?_)
 ·have hE':Ext [] W1 Wq:=hE
  refine RX.dG 199 #[vt] (by go_simp;try rfl) ?_
  refine(Nq (s.led.field.au.length) (dS s.led.field.au) vt Wq (HS.o Wq (aX HB1.o hE'.below)).uK (En _) (by omega)).mono ?_
  rintro e w' ⟨v',rfl,ho,hb⟩
  exact .inl ⟨_,rfl,aU ho,bY ho hE'.size,Ext.az hb⟩
 ·exact aA (Ms:=[]) ho hE (by simp)
 obtain⟨Eo,E5,rfl⟩:=hv
 simp only[zp]
 repeat (refine RX.zd ?_;simp only[zp])
 refine RX.bJ _ (by rfl) (by rfl) (by exact⟨.slice none (s.led.notes.length) 0,none,0,rfl⟩) (fun Wq hE hF=>?_) (fun v Wa Wb ho hE=>?_) (fun v hv=>?_)
 ·have hE':Ext [] W1 Wq:=hE
  refine RX.dG 200 #[vn] (by go_simp;try rfl) ?_
  refine(Jt (s.led.notes.length) (aY s.led.notes) vn Wq (HS.o Wq (aX HB1.o hE'.below)).QX (ve _) (by omega)).mono ?_
  rintro e w' ⟨v',rfl,ho,hb⟩
  exact .inl ⟨_,rfl,aU ho,bY ho hE'.size,Ext.az hb⟩
 ·exact aA (Ms:=[]) ho hE (by simp)
 obtain⟨Ep,E8,rfl⟩:=hv
 simp only[zp]
 repeat (refine RX.zd ?_;simp only[zp])
 intro Wt hE hF
 have aas:Wt.ownsRow W1.heap.size 120 3 (.slice Ep s.led.notes.length E8) s.led.notes.length (aY s.led.notes):=hF _ (bg _)
 have aaq:Wt.ownsRow W1.heap.size 118 5 (.slice Eo s.led.field.au.length E5) s.led.field.au.length (dS s.led.field.au):=hF _ (nC _ (bg _))
 have hE':Ext [] W1 Wt:=hE
 have HBt:=ae (aX HB1.o hE'.below)
 have hbt:=(hE'.block _ l1 (by simp)).trans VT.o
 have HKt:=ae hbt
 have YZ:=ae hE'
 obtain⟨ct,ft,lt⟩:=af hbt
 clear hE hF hE' hbt c1 f1
 have Ba:=ae aaq
 have Bc:=ae aas
 clear aaq aas
 go_upto_region 3 with(fail)
 refine dH fun W2 qB=>?_
 have hbk:W2.heap[w.heap.size]? =some (.cells (dD s ⟨.slice Eo s.led.field.au.length E5,.slice Ep s.led.notes.length E8,vw,vu,vr,vh,vk,vs⟩) 46 (0,0)):=by rw[qB];exact aI (aI (HKt.o) _) _
 have HB2:=ae (show Below w.heap.size w W2 from by rw[qB];exact((HBt.o).setCell (ai _) _).setCell (ai _) _)
 have hEs:Ext [w.heap.size] Wt W2:=by rw[qB];exact(gI).trans gI
 have Ba:=ae (bY (base:=W1.heap.size) (aA (Ms:=[w.heap.size]) Ba.o hEs (by simp;exact hsz1)) (ai _))
 have Bc:=ae (bY (base:=W1.heap.size) (aA (Ms:=[w.heap.size]) Bc.o hEs (by simp;exact hsz1)) (ai _))
 have hsz2:W1.heap.size<=W2.heap.size:=by have:=hEs.size;have:=YZ.o.size;omega
 obtain⟨c2,f2,l2⟩:=af hbk
 have NM:=ae hbk
 clear qB hbk hEs ct ft
 refine RX.gG (fun _ _=>False) 12 [] none [(3,⟨fun _ v=> ∃o c,v= .slice o s.heap.bQ.length c,fun _ v Wx=>Wx.ownsRow W2.heap.size 34 2 v s.heap.bQ.length (aH s.heap.bQ)⟩),(7,⟨fun _ v=> ∃o c,v= .slice o s.heap.turns.length c,fun _ v Wx=>Wx.ownsRow W2.heap.size 3 1 v s.heap.turns.length (ah s.heap.turns)⟩),(11,⟨fun _ v=> ∃o c,v= .slice o s.heap.readings.length c,fun _ v Wx=>Wx.ownsRow W2.heap.size 122 3 v s.heap.readings.length (aY s.heap.readings)⟩)] (by rintro ps a1 Wx hdf h;exact h.elim) (by as_aux_lemma=>kernel_rfl) (by as_aux_lemma=>kernel_rfl) ?_
 simp only[zt]
 repeat (refine RX.zd ?_;simp only[zp])
 refine RX.bJ _ (by rfl) (by rfl) (by exact⟨.slice none (s.heap.bQ.length) 0,none,0,rfl⟩) (fun Wq hE hF=>?_) (fun v Wa Wb ho hE=>?_) (fun v hv=>?_)
 ·have hE':Ext [] W2 Wq:=hE
  refine RX.dG 201 #[vw] (by go_simp;try rfl) ?_
  refine(Nl (s.heap.bQ.length) (aH s.heap.bQ) vw Wq (HS.o Wq (aX HB2.o hE'.below)).bQ (pz _) (by omega)).mono ?_
  rintro e w' ⟨v',rfl,ho,hb⟩
  exact .inl ⟨_,rfl,aU ho,bY ho hE'.size,Ext.az hb⟩
 ·exact aA (Ms:=[]) ho hE (by simp)
 obtain⟨GI,IC,rfl⟩:=hv
 simp only[zp]
 repeat (refine RX.zd ?_;simp only[zp])
 refine RX.bJ _ (by rfl) (by rfl) (by exact⟨.slice none (s.heap.turns.length) 0,none,0,rfl⟩) (fun Wq hE hF=>?_) (fun v Wa Wb ho hE=>?_) (fun v hv=>?_)
 ·have hE':Ext [] W2 Wq:=hE
  refine RX.dG 98 #[vu] (by go_simp;try rfl) ?_
  refine(Cc (s.heap.turns.length) (ah s.heap.turns) vu Wq (HS.o Wq (aX HB2.o hE'.below)).Fj (jD _) (by omega)).mono ?_
  rintro e w' ⟨v',rfl,ho,hb⟩
  exact .inl ⟨_,rfl,aU ho,bY ho hE'.size,Ext.az hb⟩
 ·exact aA (Ms:=[]) ho hE (by simp)
 obtain⟨GK,IE,rfl⟩:=hv
 simp only[zp]
 repeat (refine RX.zd ?_;simp only[zp])
 refine RX.bJ _ (by rfl) (by rfl) (by exact⟨.slice none (s.heap.readings.length) 0,none,0,rfl⟩) (fun Wq hE hF=>?_) (fun v Wa Wb ho hE=>?_) (fun v hv=>?_)
 ·have hE':Ext [] W2 Wq:=hE
  refine RX.dG 202 #[vr] (by go_simp;try rfl) ?_
  refine(Js (s.heap.readings.length) (aY s.heap.readings) vr Wq (HS.o Wq (aX HB2.o hE'.below)).Fv (ve _) (by omega)).mono ?_
  rintro e w' ⟨v',rfl,ho,hb⟩
  exact .inl ⟨_,rfl,aU ho,bY ho hE'.size,Ext.az hb⟩
 ·exact aA (Ms:=[]) ho hE (by simp)
 obtain⟨GL,IG,rfl⟩:=hv
 simp only[zp]
 repeat (refine RX.zd ?_;simp only[zp])
 intro Wt hE hF
 have aar:Wt.ownsRow W2.heap.size 122 3 (.slice GL s.heap.readings.length IG) s.heap.readings.length (aY s.heap.readings):=hF _ (bg _)
 have aao:Wt.ownsRow W2.heap.size 3 1 (.slice GK s.heap.turns.length IE) s.heap.turns.length (ah s.heap.turns):=hF _ (nC _ (bg _))
 have aan:Wt.ownsRow W2.heap.size 34 2 (.slice GI s.heap.bQ.length IC) s.heap.bQ.length (aH s.heap.bQ):=hF _ (nC _ (nC _ (bg _)))
 have hE':Ext [] W2 Wt:=hE
 have HBt:=ae (aX HB2.o hE'.below)
 have hbt:=(hE'.block _ l2 (by simp)).trans NM.o
 have HKt:=ae hbt
 have YZ:=ae hE'
 obtain⟨ct,ft,lt⟩:=af hbt
 clear hE hF hE' hbt c2 f2
 have IW:=ae aan
 have IX:=ae aao
 have IY:=ae aar
 clear aan aao aar
 go_upto_region 4 with(fail)
 refine dH fun W3 qB=>?_
 have hbk:W3.heap[w.heap.size]? =some (.cells (dD s ⟨.slice Eo s.led.field.au.length E5,.slice Ep s.led.notes.length E8,.slice GI s.heap.bQ.length IC,.slice GK s.heap.turns.length IE,.slice GL s.heap.readings.length IG,vh,vk,vs⟩) 46 (0,0)):=by rw[qB];exact aI (aI (aI (HKt.o) _) _) _
 have HB3:=ae (show Below w.heap.size w W3 from by rw[qB];exact(((HBt.o).setCell (ai _) _).setCell (ai _) _).setCell (ai _) _)
 have hEs:Ext [w.heap.size] Wt W3:=by rw[qB];exact((gI).trans gI).trans gI
 have Ba:=ae (aA (Ms:=[w.heap.size]) (aA (Ms:=[]) Ba.o YZ.o (by simp)) hEs (by simp;exact hsz1))
 have Bc:=ae (aA (Ms:=[w.heap.size]) (aA (Ms:=[]) Bc.o YZ.o (by simp)) hEs (by simp;exact hsz1))
 have IW:=ae (bY (base:=W1.heap.size) (aA (Ms:=[w.heap.size]) IW.o hEs (by simp;omega)) (by omega))
 have IX:=ae (bY (base:=W1.heap.size) (aA (Ms:=[w.heap.size]) IX.o hEs (by simp;omega)) (by omega))
 have IY:=ae (bY (base:=W1.heap.size) (aA (Ms:=[w.heap.size]) IY.o hEs (by simp;omega)) (by omega))
 have hsz3:W1.heap.size<=W3.heap.size:=by have:=hEs.size;have:=YZ.o.size;omega
 obtain⟨c3,f3,l3⟩:=af hbk
 have CW:=ae hbk
 clear qB hbk hEs ct ft
 refine RX.gG (fun _ _=>False) 12 [] none [(3,⟨fun _ v=> ∃o c,v= .slice o s.bP.heaps.length c,fun _ v Wx=>Wx.ownsRow W3.heap.size 112 2 v s.bP.heaps.length (aH s.bP.heaps)⟩),(7,⟨fun _ v=> ∃o c,v= .slice o es.length c,fun _ v Wx=>Wx.ownsRow W3.heap.size 36 1 v es.length (fD es)⟩),(11,⟨fun _ v=> ∃o c,v= .slice o s.bP.aJ.length c,fun _ v Wx=>Wx.ownsRow W3.heap.size 124 4 v s.bP.aJ.length (gV s.bP.aJ)⟩)] (by rintro ps a1 Wx hdf h;exact h.elim) (by as_aux_lemma=>kernel_rfl) (by as_aux_lemma=>kernel_rfl) ?_
 simp only[zt]
 repeat (refine RX.zd ?_;simp only[zp])
 refine RX.bJ _ (by rfl) (by rfl) (by exact⟨.slice none (s.bP.heaps.length) 0,none,0,rfl⟩) (fun Wq hE hF=>?_) (fun v Wa Wb ho hE=>?_) (fun v hv=>?_)
 ·have hE':Ext [] W3 Wq:=hE
  refine RX.dG 203 #[vh] (by go_simp;try rfl) ?_
  refine(Nr (s.bP.heaps.length) (aH s.bP.heaps) vh Wq (HS.o Wq (aX HB3.o hE'.below)).bP.heaps (pz _) (by omega)).mono ?_
  rintro e w' ⟨v',rfl,ho,hb⟩
  exact .inl ⟨_,rfl,aU ho,bY ho hE'.size,Ext.az hb⟩
 ·exact aA (Ms:=[]) ho hE (by simp)
 obtain⟨Kr,KZ,rfl⟩:=hv
 simp only[zp]
 repeat (refine RX.zd ?_;simp only[zp])
 refine RX.bJ _ (by rfl) (by rfl) (by exact⟨.slice none (es.length) 0,none,0,rfl⟩) (fun Wq hE hF=>?_) (fun v Wa Wb ho hE=>?_) (fun v hv=>?_)
 ·have hE':Ext [] W3 Wq:=hE
  refine RX.dG 204 #[vk] (by go_simp;try rfl) ?_
  refine(Ns (es.length) (fD es) vk Wq (HS.o Wq (aX HB3.o hE'.below)).bP.aQ.1 (jB.o) (by omega)).mono ?_
  rintro e w' ⟨v',rfl,ho,hb⟩
  exact .inl ⟨_,rfl,aU ho,bY ho hE'.size,Ext.az hb⟩
 ·exact aA (Ms:=[]) ho hE (by simp)
 obtain⟨GM,Cf,rfl⟩:=hv
 simp only[zp]
 repeat (refine RX.zd ?_;simp only[zp])
 refine RX.bJ _ (by rfl) (by rfl) (by exact⟨.slice none (s.bP.aJ.length) 0,none,0,rfl⟩) (fun Wq hE hF=>?_) (fun v Wa Wb ho hE=>?_) (fun v hv=>?_)
 ·have hE':Ext [] W3 Wq:=hE
  refine RX.dG 205 #[vs] (by go_simp;try rfl) ?_
  refine(Np (s.bP.aJ.length) (gV s.bP.aJ) vs Wq (HS.o Wq (aX HB3.o hE'.below)).bP.aJ (OH _) (by omega)).mono ?_
  rintro e w' ⟨v',rfl,ho,hb⟩
  exact .inl ⟨_,rfl,aU ho,bY ho hE'.size,Ext.az hb⟩
 ·exact aA (Ms:=[]) ho hE (by simp)
 obtain⟨Kq,KY,rfl⟩:=hv
 simp only[zp]
 repeat (refine RX.zd ?_;simp only[zp])
 intro Wt hE hF
 have aap:Wt.ownsRow W3.heap.size 124 4 (.slice Kq s.bP.aJ.length KY) s.bP.aJ.length (gV s.bP.aJ):=hF _ (bg _)
 have aau:Wt.ownsRow W3.heap.size 36 1 (.slice GM es.length Cf) es.length (fD es):=hF _ (nC _ (bg _))
 have aat:Wt.ownsRow W3.heap.size 112 2 (.slice Kr s.bP.heaps.length KZ) s.bP.heaps.length (aH s.bP.heaps):=hF _ (nC _ (nC _ (bg _)))
 have hE':Ext [] W3 Wt:=hE
 have HBt:=ae (aX HB3.o hE'.below)
 have hbt:=(hE'.block _ l3 (by simp)).trans CW.o
 have HKt:=ae hbt
 have YZ:=ae hE'
 obtain⟨ct,ft,lt⟩:=af hbt
 clear hE hF hE' hbt c3 f3
 have UU:=ae aat
 have UW:=ae aau
 have UT:=ae aap
 clear aat aau aap
 go_upto_region 5 with(fail)
 refine dH fun W4 qB=>?_
 have hbk:W4.heap[w.heap.size]? =some (.cells (dD s ⟨.slice Eo s.led.field.au.length E5,.slice Ep s.led.notes.length E8,.slice GI s.heap.bQ.length IC,.slice GK s.heap.turns.length IE,.slice GL s.heap.readings.length IG,.slice Kr s.bP.heaps.length KZ,.slice GM es.length Cf,.slice Kq s.bP.aJ.length KY⟩) 46 (0,0)):=by rw[qB];exact aI (aI (aI (HKt.o) _) _) _
 have HB4:=ae (show Below w.heap.size w W4 from by rw[qB];exact(((HBt.o).setCell (ai _) _).setCell (ai _) _).setCell (ai _) _)
 have hEs:Ext [w.heap.size] Wt W4:=by rw[qB];exact((gI).trans gI).trans gI
 have Ba:=ae (aA (Ms:=[w.heap.size]) (aA (Ms:=[]) Ba.o YZ.o (by simp)) hEs (by simp;exact hsz1))
 have Bc:=ae (aA (Ms:=[w.heap.size]) (aA (Ms:=[]) Bc.o YZ.o (by simp)) hEs (by simp;exact hsz1))
 have IW:=ae (aA (Ms:=[w.heap.size]) (aA (Ms:=[]) IW.o YZ.o (by simp)) hEs (by simp;exact hsz1))
 have IX:=ae (aA (Ms:=[w.heap.size]) (aA (Ms:=[]) IX.o YZ.o (by simp)) hEs (by simp;exact hsz1))
 have IY:=ae (aA (Ms:=[w.heap.size]) (aA (Ms:=[]) IY.o YZ.o (by simp)) hEs (by simp;exact hsz1))
 have UU:=ae (bY (base:=W1.heap.size) (aA (Ms:=[w.heap.size]) UU.o hEs (by simp;omega)) (by omega))
 have UW:=ae (bY (base:=W1.heap.size) (aA (Ms:=[w.heap.size]) UW.o hEs (by simp;omega)) (by omega))
 have UT:=ae (bY (base:=W1.heap.size) (aA (Ms:=[w.heap.size]) UT.o hEs (by simp;omega)) (by omega))
 have aeQ:W1.heap.size<=W4.heap.size:=by have:=hEs.size;have:=YZ.o.size;omega
 obtain⟨c4,f4,l4⟩:=af hbk
 have HK4:=ae hbk
 clear qB hbk hEs ct ft
 have hR0:xW w.heap.size W4 w.heap.size (Eh s ⟨.slice Eo s.led.field.au.length E5,.slice Ep s.led.notes.length E8,.slice GI s.heap.bQ.length IC,.slice GK s.heap.turns.length IE,.slice GL s.heap.readings.length IG,.slice Kr s.bP.heaps.length KZ,.slice GM es.length Cf,.slice Kq s.bP.aJ.length KY⟩ es.length (fD es)):=by
  refine xW.ZM (by have:=HB4.o.size;omega) (ai _) ?_ (by simp[Eh])
  intro r hr
  simp only[Eh,gK,List.not_mem_nil,or_false] at hr
  rcases hr with rfl|rfl|rfl|rfl|rfl|rfl|rfl|rfl
  ·exact bY Ba.o (by omega)
  ·exact bY Bc.o (by omega)
  ·exact bY IW.o (by omega)
  ·exact bY IX.o (by omega)
  ·exact bY IY.o (by omega)
  ·exact bY UU.o (by omega)
  ·exact bY UW.o (by omega)
  ·exact bY UT.o (by omega)
 have HR0:=ae hR0
 clear hR0
 go_wp2_with fail
 go_loopw [4,5,58] (fun _ _ u wr=> ∃i:Nat,i<=es.length/\u= .int .i64 i/\Below w.heap.size w wr/\wr.heap[w.heap.size]? =some (.cells (dD s ⟨.slice Eo s.led.field.au.length E5,.slice Ep s.led.notes.length E8,.slice GI s.heap.bQ.length IC,.slice GK s.heap.turns.length IE,.slice GL s.heap.readings.length IG,.slice Kr s.bP.heaps.length KZ,.slice GM es.length Cf,.slice Kq s.bP.aJ.length KY⟩) 46 (0,0))/\ ∃es':List KE,es'.length=i/\es'.map (·.2)=s.bP.aQ.take i/\xW w.heap.size wr w.heap.size (Eh s ⟨.slice Eo s.led.field.au.length E5,.slice Ep s.led.notes.length E8,.slice GI s.heap.bQ.length IC,.slice GK s.heap.turns.length IE,.slice GL s.heap.readings.length IG,.slice Kr s.bP.heaps.length KZ,.slice GM es.length Cf,.slice Kq s.bP.aJ.length KY⟩ es.length (fD (es'++es.drop i))++es'.map zN)) (fun _ _ u _=>es.length-(intOf u).toNat)
 case atStart=>exact⟨0,bW _,rfl,HB4.o,HK4.o,[],rfl,rfl,by simpa using HR0.o⟩
 case round=>
  obtain⟨i,hi,rfl,hB,hbk,es',Jp,hes',hOr⟩:=hrel
  obtain⟨c5,f5,l5⟩:=af hbk
  by_cases hlt:i<es.length
  ·have hcx:=HEK.o
   obtain⟨ev,el,Du⟩: ∃ev el,es[i]? =some (ev,el):=⟨_,_,dA hlt⟩
   have hcas:s.bP.aQ[i]? =some el:=by rw[<-(HS.o w (aG _ _)).bP.is,qJ,Du];rfl
   have alh:el.length<=3:=by have:=(HG.o.oL el (mG hcas)).1;omega
   have h6:wr.ownsRow w.heap.size 36 1 (.slice GM es.length Cf) es.length (fD (es'++es.drop i)):=hOr.own 6 _ (Di _ _ _ _ _)
   obtain⟨gk,ala,hgk,hfk,hkl⟩:=gZ h6 (by omega)
   subst ala
   have hgx:(fD (es'++es.drop i))[i]? =some ev:=by
    unfold fD
    rw[qJ,nT (by omega),Jp,Nat.sub_self,List.getElem?_drop,Nat.add_zero,Du];rfl
   obtain⟨hg',eg'⟩:=jq.1 hgx
   have g6:=(hgk i hg').trans (by rw[eg'])
   have HX:=ae (ag hB (ag hbk (ag Jp (ag hes' (ag hOr (ag h6 (ag Du hcas)))))))
   have hgb:gk≠w.heap.size:=fun e=>hOr.off 6 _ (Di _ _ _ _ _) (by rw[<-e];rfl)
   clear hB hbk Jp hes' hOr h6 hgx hg' eg' hgk Du hcas hcx
   go_wp2_with fail
   refine RX.gG (fun _ _=>False) 6 [] none [(5,⟨fun _ v=> ∃o c,v= .slice o el.length c,fun _ v Wx=>Wx.ownsRow wr.heap.size 3 1 v el.length (ah el)⟩)] (by rintro ps a1 Wx hdf h;exact h.elim) (by as_aux_lemma=>kernel_rfl) (by as_aux_lemma=>kernel_rfl) ?_
   simp only[zt]
   repeat (refine RX.zd ?_;simp only[zp])
   refine RX.bJ _ (by rfl) (by rfl) (by exact⟨.slice none el.length 0,none,0,rfl⟩) (fun Wq hE hF=>?_) (fun v Wa Wb ho hE=>?_) (fun v hv=>?_)
   ·have hE':Ext [] wr Wq:=hE
    refine RX.dG 98 #[ev] (by go_simp;try rfl) ?_
    refine(Cc el.length (ah el) ev Wq ((HS.o Wq (aX HX.o.1 (show Below wr.heap.size wr Wq from hE'.below))).bP.aQ.2 (ev,el) (mG HX.o.2.2.2.2.2.2.1)) (jD _) (by omega)).mono ?_
    rintro e w' ⟨v',rfl,ho,hb⟩
    exact .inl ⟨_,rfl,aU ho,bY ho hE'.size,Ext.az hb⟩
   ·exact aA (Ms:=[]) ho hE (by simp)
   obtain⟨o8,c8,rfl⟩:=hv
   simp only[zp]
   intro W8 hE hF
   have qM:W8.ownsRow wr.heap.size 3 1 (.slice o8 el.length c8) el.length (ah el):=hF _ (bg _)
   have ig:Ext [] wr W8:=hE
   have hbl:=(ig.block _ l5 (by simp)).trans HX.o.2.1
   obtain⟨c9,f9,l9⟩:=af hbl
   have hR1:=HX.o.2.2.2.2.1.push (zN (.slice o8 el.length c8,el)) ig (by simp) (bY qM (by have:=HX.o.1.size;omega)) (by rcases hq:(Value.slice o8 el.length c8).ownBlock with _|g;(exact .inl hq);(exact .inr ⟨g,hq,(qM.lt g hq).1⟩))
   have h68:=aA (Ms:=[]) HX.o.2.2.2.2.2.1 ig (by simp)
   obtain⟨gk',ae8,alb,ap2,apJ⟩:=gZ h68 (by omega)
   cases ae8
   have g7:=(ig.cell gk i hkl (by simp)).trans g6
   have H8:=ae (ag ig (ag hbl (ag hR1 h68)))
   clear hE hF qM ig hbl hR1 h68 alb c5 f5 g6 hfk
   go_wp2_with fail
   go_roundw
   case rel=>
    refine⟨i+1,by omega,by go_num,(aX HX.o.1 H8.o.1.below).setCell (H8.o.2.2.2.lt gk rfl).1 _,((gI (W:=W8) (b:=gk) (off:=i) (v:= .slice o8 el.length c8)).block _ l9 (by simpa using fun e=>hgb e.symm)).trans H8.o.2.1,es'++[(.slice o8 el.length c8,el)],by simp[HX.o.2.2.1],?_,?_⟩
    ·rw[List.map_append,HX.o.2.2.2.1,rF,HX.o.2.2.2.2.2.2.2];rfl
    ·have hS:=lU H8.o.2.2.2 i (.slice o8 el.length c8)
     have hk2:(fD (es'++es.drop i)).set i (.slice o8 el.length c8)=fD (es'++[(.slice o8 el.length c8,el)]++es.drop (i+1)):=by
      unfold fD
      rw[List.map_append,qK _ _ (by simp[HX.o.2.2.1]),lJ,HX.o.2.2.1,Nat.sub_self,A7 hlt,List.map_cons,List.set_cons_zero]
      simp
     have hP:=H8.o.2.2.1.put (i:=6) (r:=⟨36,1,.slice (some ⟨gk,0,none⟩) es.length Cf,es.length,fD (es'++es.drop i)⟩) (by rw[nS];exact Di _ _ _ _ _) ⟨36,1,.slice (some ⟨gk,0,none⟩) es.length Cf,es.length,fD (es'++[(.slice o8 el.length c8,el)]++es.drop (i+1))⟩ (gI (W:=W8) (b:=gk) (off:=i) (v:= .slice o8 el.length c8)) (fun m hm=> .inr (.inr (by rw[dZ.1 hm];rfl))) (by rw[hk2] at hS;exact hS) (.inl rfl)
     rw[nS,Wl] at hP
     rw[List.map_append]
     exact hP
   case measure=>simp[intOf];omega
  ·obtain rfl:i=es.length:=by omega
   have HX:=ae (ag hB (ag hbk (ag Jp (ag hes' hOr))))
   clear hB hbk Jp hes' hOr
   go_upto_region 10 with(fail)
   refine wp_region_lit ?_
   refine wpList_load_row rfl _ _ rfl w.heap.size rfl _ _ _ _ HX.o.2.1 Tryz.underlying46 rfl (by kernel_rfl) ?_
   simp only[zp]
   clear c5 f5
   go_wp2_with fail
   trace_state
   go_returns
   refine⟨ak HX.o.1 _,wr.heap.size,⟨.slice Eo s.led.field.au.length E5,.slice Ep s.led.notes.length E8,.slice GI s.heap.bQ.length IC,.slice GK s.heap.turns.length IE,.slice GL s.heap.readings.length IG,.slice Kr s.bP.heaps.length KZ,.slice GM es.length Cf,.slice Kq s.bP.aJ.length KY⟩,es',by simp,⟨ay _ _,?_,?_⟩⟩
   ·have h:=HX.o.2.2.2.2
    rw[List.drop_length,List.append_nil] at h
    rw[Wn,HX.o.2.2.1]
    exact h.move (Ext.az (ak (aG _ _) _)) (ai _) (by simp)
   ·rw[HX.o.2.2.2.1,kK (by have:=HEK.o;omega)]
structure Env (w:World):Prop where
 pow: ∃t f,w.heap[0]? =some (.cells (Lib.pow10Tab.map fun z=>Value.int .u64 z).toArray t f)
 len: ∃m,w.cell? ⟨1,0,none⟩=some (.int .i64 m)/\1<w.heap.size
 syn: ∃tp p t f,w.heap[2]? =some (.cells #[.iface tp p] t f)
 rng: ∃tp p t f,w.heap[3]? =some (.cells #[.iface tp p] t f)
theorem Env.lts {w:World} (h:Env w):0<w.heap.size/\1<w.heap.size/\2<w.heap.size/\3<w.heap.size:=by
 obtain⟨t,f,h0⟩:=h.pow
 obtain⟨m,h1,hl⟩:=h.len
 obtain⟨tp,p,t2,f2,h2⟩:=h.syn
 obtain⟨tp3,p3,t3,f3,h3⟩:=h.rng
 exact⟨(aV.1 h0).1,hl,(aV.1 h2).1,(aV.1 h3).1⟩
theorem Env.size {w:World} (h:Env w):4<=w.heap.size:=by
 have:=h.lts
 omega
theorem Env.below {w W:World} (h:Env w) {B:Nat} (hb:Below B w W) (hB:w.heap.size<=B):Env W:=by
 have h4:=h.lts
 have hz:=hb.size
 obtain⟨t,f,h0⟩:=h.pow
 obtain⟨m,h1,hl⟩:=h.len
 obtain⟨tp,p,t2,f2,h2⟩:=h.syn
 obtain⟨tp3,p3,t3,f3,h3⟩:=h.rng
 exact⟨⟨t,f,(hb.block 0 (by omega)).trans h0⟩,⟨m,(jd (hb.block 1 (by omega))).trans h1,by omega⟩,⟨tp,p,t2,f2,(hb.block 2 (by omega)).trans h2⟩,⟨tp3,p3,t3,f3,(hb.block 3 (by omega)).trans h3⟩⟩
theorem Rj {w:World} {g:Nat} {cs:Array Value} {t:TypeId} {f:Nat×Nat} (h:w.heap[g]? =some (.cells cs t f)) {nm:String} (hn:Tryz.prog.globalNamed nm=some g):w.var? Tryz.prog nm=some cs:=by
 simp[World.var?,hn,h]
theorem VC {w:World} (h:Env w) {nm:String} (hn:Tryz.prog.globalNamed nm=some 0):Lib.TabIs Tryz.prog w nm .u64 Lib.pow10Tab:=by
 obtain⟨t,f,h0⟩:=h.pow
 exact Rj h0 hn
abbrev dV (l:aF):ByteArray:=⟨l.toArray⟩
theorem bytesWorld_below (w:World) (t:TypeId) (s:ByteArray):Below w.heap.size w (Lib.bytesWorld w t s):=by
 unfold Lib.bytesWorld
 refine⟨rfl,rfl,rfl,?_,fun i hi=>?_⟩
 ·simp[World.freeze]
 ·have:w.heap.size≠i:=by omega
  simp[World.freeze,Array.getElem?_modify,this]
  exact heap_alloc_old _ _ hi
theorem Ic (w:World) (k:Nat) (os:Array Obj):Below w.heap.size w (Go.Sort.grow (w.drewN k) os):=by
 refine⟨rfl,rfl,rfl,by simp[Go.Sort.grow,World.drewN],fun i hi=>?_⟩
 rw[Go.Sort.heap_grow_old _ _ (by simpa [World.drewN] using hi)]
 rfl
theorem abh (l:aF) (w:World) (hE:Env w) (hl:l.length<=1000):Calls Tryz.prog 198 #[.string (dV l)] w
 (fun e w'=>Below w.heap.size w w'/\((∃v,Lib.atoiAll l= .ok v/\e= .returned (.tuple #[iv v,.nilIface]))∨((∀v,Lib.atoiAll l≠ .ok v)/\ ∃v t p,e= .returned (.tuple #[iv v,.iface t p])))):=by
 have hs:(dV l).size=l.length:=by simp[dV,ByteArray.size]
 cases ha:Lib.atoiAll l with
 |ok v=>
  refine(Go.Proofs.Tryz.strconv_Atoi_ok (dV l) (by rw[hs];omega) v ha w).mono ?_
  rintro e w' ⟨rfl,h|⟨t,h⟩⟩
  ·subst h;exact⟨aG _ _,.inl ⟨v,rfl,rfl⟩⟩
  ·subst h;exact⟨bytesWorld_below _ _ _,.inl ⟨v,rfl,rfl⟩⟩
 |range=>
  obtain⟨tp,p,t2,f2,h2⟩:=hE.rng
  refine(Go.Proofs.Tryz.strconv_Atoi_range_var (dV l) (by rw[hs];omega) ha tp p w (Rj h2 (by kernel_rfl))).mono ?_
  rintro e w' ⟨M,rfl,h1,h2,h3⟩
  exact⟨h3,.inr ⟨(fun v h=>by cases h),_,_,_,rfl⟩⟩
 |_=>
  obtain⟨tp,p,t2,f2,h2⟩:=hE.syn
  refine(Go.Proofs.Tryz.strconv_Atoi_syntax_var (dV l) (by rw[hs];omega) ha tp p w (Rj h2 (by kernel_rfl))).mono ?_
  rintro e w' ⟨M,rfl,h1,h2,h3⟩
  exact⟨h3,.inr ⟨(fun v h=>by cases h),_,_,_,rfl⟩⟩
theorem ZT {l:aF} (h: ∀v,Lib.atoiAll l≠ .ok v):lu l=none:=by
 cases hn:lu l with
 |none=>rfl
 |some v=>
  have h4:=(FT hn).2
  have:=Lib.atoiAll_short l (by omega)
  rw[Fa hn] at this
  exact absurd this (h v)
theorem GU {l:aF} {v n:Int} (h:Lib.atoiAll l= .ok v) (hn:lu l=some n):v=n:=by
 have h4:=(FT hn).2
 have:=Lib.atoiAll_short l (by omega)
 rw[Fa hn,h] at this
 injection this
def amf (l:aF) (w:World) (e:Ending) (w':World):Prop:=Below w.heap.size w w'/\ ∃v,e= .returned (.tuple #[iv v,.bool (lu l).isSome])/\ ∀n,lu l=some n->v=n
theorem SG (l:aF) (w:World) (hE:Env w) (hl:l.length<=1000):Calls Tryz.prog 113 #[.string (dV l)] w (amf l w):=by
 have hs:(dV l).size=l.length:=by simp[dV,ByteArray.size]
 have HA:=ae (abh l w hE hl)
 have HE:=ae hE
 clear hE
 go_enter Tryz.func113,Tryz.ntmps113
 go_wp2_with fail
 refine HA.o.mono ?_
 rintro e w1 ⟨hb,⟨v,hv,rfl⟩|⟨hno,v,t,p,rfl⟩⟩
 ·have HB:=ae hb
  have HV:=ae hv
  clear hb hv
  by_cases h0:0<=v
  ·by_cases h4:l.length<=4
   ·have h5:(l.length:Int)<=4:=by omega
    go_wp2_with fail
    refine(Go.Proofs.Tryz.strconv_Itoa v (by omega) (by have:=(Lib.atoiAll_bounds HV.o).2;omega) w1 (VC (HE.o.below HB.o (ai _)) (by kernel_rfl))).mono ?_
    rintro e w2 ⟨rfl,k,os,rfl⟩
    have HG:=ae (Ic w1 k os)
    obtain⟨w3,hw3⟩: ∃w3,w3=Go.Sort.grow (w1.drewN k) os:=⟨_,rfl⟩
    rw[<-hw3] at HG⊢
    clear hw3
    go_wp2_with fail
    go_returns
    refine⟨aX HB.o HG.o,v,?_,fun n hn=>GU HV.o hn⟩
    by_cases he:Lib.itoa v=l
    ·rw[OQ h0 h4 he];simp[he]
    ·have hn:lu l=none:=by
      cases hn:lu l with
      |none=>rfl
      |some n=>exact absurd (GU HV.o hn▸aad hn) he
     rw[hn]
     have:(Lib.itoa v==l)=false:=by simpa using he
     simp[this]
   ·have h5: ¬(l.length:Int)<=4:=by omega
    go_wp2_with fail
    go_returns
    refine⟨HB.o,v,?_,fun n hn=>GU HV.o hn⟩
    have hn:lu l=none:=by
     cases hn:lu l with
     |none=>rfl
     |some n=>exact absurd (FT hn).2 h4
    rw[hn];simp
  ·go_wp2_with fail
   go_returns
   refine⟨HB.o,v,?_,fun n hn=>GU HV.o hn⟩
   have hn:lu l=none:=by
    cases hn:lu l with
    |none=>rfl
    |some n=>have h1:=GU HV.o hn;have h2:=(Md hn).1;omega
   rw[hn];simp
 ·have HB:=ae hb
  have HN:=ae (ZT hno)
  clear hb hno
  go_wp2_with fail
  go_returns
  exact⟨HB.o,v,by rw[HN.o];simp,fun n hn=>by rw[HN.o] at hn;cases hn⟩
theorem LP: ∀l:aF,Lib.splitK [32] 0 (Lib.count l [32]) l=bZ l:=by
 intro l
 induction l with
 |nil=>rfl
 |cons c l ih=>
  by_cases hc:c=32
  ·subst hc
   rw[Lib.count_cons_eq,Nat.add_comm,Lib.splitK,Lib.index_one,Lib.indexByte,bZ,aC rfl]
   simp[ih]
  ·rw[Lib.count_cons_ne c 32 l hc,bZ,aj hc]
   cases hk:Lib.count l [32] with
   |zero=>
    rw[hk] at ih
    rw[<-ih]
    rfl
   |succ k=>
    rw[hk] at ih
    have hb:(c==32)=false:=by simpa using hc
    have hi:Lib.index l [32]≠ -1:=fun h=>by have:=Lib.count_miss h;omega
    have hge:=Lib.index_ge l [32]
    obtain⟨i,hi2⟩: ∃i:Nat,Lib.index l [32]=i:=⟨(Lib.index l [32]).toNat,by omega⟩
    have e1:(Lib.index l [32]== -1)=false:=by simpa using hi
    have hj:Lib.index (c::l) [32]=(i:Int)+1:=by
     rw[Lib.index_one,Lib.indexByte,hb, <-Lib.index_one,e1,hi2];rfl
    have e2:(Lib.index (c::l) [32]== -1)=false:=by rw[hj];simp;omega
    rw[Lib.splitK,e1] at ih
    rw[Lib.splitK,e2]
    simp only[Bool.false_eq_true,if_false,Nat.add_zero,List.length_singleton] at ih⊢
    rw[<-ih,hj,hi2]
    have h1:((i:Int)+1).toNat=i+1:=by omega
    rw[h1]
    simp
theorem Eg (l:aF):(Lib.splitB ⟨#[32]⟩ 0 (Lib.countB (dV l) ⟨#[32]⟩) (dV l)).map (·.data.toList)=bZ l:=by
 rw[Lib.splitB_data]
 exact LP l
abbrev aZ (ps:List aF):List Value:=ps.map fun p=> .string (dV p)
abbrev iY (w:World) (v:Value) (ps:List aF):Prop:=aK 1 w v ps.length (aZ ps)
theorem XZ (s:ByteArray):dV s.data.toList=s:=by cases s;simp[dV]
theorem Wi (l:aF) (w:World) (hE:Env w) (hl:l.length<=1000):Calls Tryz.prog 110 #[.string (dV l),.string ⟨#[32]⟩] w
 (fun e w'=> ∃n,n=(bZ l).length/\e= .returned (.slice (some ⟨w.heap.size,0,none⟩) n n)/\w'=w.alloc (.cells (aZ (bZ l)).toArray 9)):=by
 obtain⟨m,hm,_⟩:=hE.len
 have hs:(dV l).size=l.length:=by simp[dV,ByteArray.size]
 have hlen:=Lib.splitB_all ⟨#[32]⟩ (by decide) 0 _ (dV l) rfl
 refine(Go.Proofs.Tryz.strings_Split (dV l) ⟨#[32]⟩ m w (by rw[hs];omega) hm (by decide)).mono ?_
 rintro e w' ⟨rfl,rfl⟩
 refine⟨_,?_,rfl,?_⟩
 ·rw[<-Eg,lJ,hlen]
 ·rw[<-Eg]
  congr 3
  unfold aZ
  rw[List.map_map]
  apply List.map_congr_left
  intro x _
  simp only[Function.comp,XZ]
theorem catch_idle (x y z:Addr) (w:World):
 CallsD Tryz.prog 109 #[.pointer (some x),.pointer (some y),.pointer (some z)] .returning w fun e u' w'=>e= .returned (.tuple #[])/\u'= .returning/\w'=w:=by
 refine callsD_of_wpS Tryz.func109 rfl fun c₀ cs hu=>?_
 apply wpS_seq
 apply wpS_region
 simp[wpOpsS,go_sem,recoverD,hu,Tryz.ntmps109,Exit.thenS]
 refine wpS_of_wp ?_
 go_wp2
 cases c₀
 simp_all [bodyPostS,results,Tryz.results109]
theorem Ac {P:Program} {o:Oper} {ρ:Operand->Value} {w:World} (ty:TypeId) (x:Operand) (ho:o.op= .load ty x)
 (g:Nat) (hx:ρ x= .pointer (some ⟨g,0,none⟩)) (t:TypeId) (cs:Array Value) (fr:Nat×Nat) (d:TypeDesc) (hg:w.heap[g]? =some (.cells cs t fr))
 (hu:P.underlying ty=some d) (hd:(match d with| .struct _| .array _ _=>true|_=>false)=true) (hi:(P.info? ty).map (·.size)=some cs.size):(execOp ρ o).run P w= .ok (.value (.agg cs)) w:=by
 unfold execOp
 simp only[ho,hx,Instr.loadAt,Instr.sureAddr,Sem.run_bind,Sem.run_pure,Result.andThen_ok,run_loadVar_row w g t ty cs fr d hg hu hd hi]
theorem yL {P:Program} {o:Oper} {ρ:Operand->Value} {w:World} (ty:TypeId) (x y:Operand) (ho:o.op= .store ty x y)
 (g:Nat) (cells:Array Value) (hx:ρ x= .pointer (some ⟨g,0,none⟩)) (hy:ρ y= .agg cells)
 (t:TypeId) (old:Array Value) (hg:w.heap[g]? =some (.cells old t (0,0))) (hi:(P.info? ty).map (·.size)=some cells.size)
 (hold:old.size=cells.size) (h1:cells.all (·.oneCell')=true):(execOp ρ o).run P w= .ok .skip (w.setRow g cells):=by
 unfold execOp
 simp only[ho,hx,hy,Instr.storeAt,Instr.sureAddr,Sem.run_bind,Sem.run_pure,Result.andThen_ok,run_storeVar_row w g t ty old cells hg hi hold h1]
theorem wI {P:Program} {o:Oper} {ρ:Operand->Value} {W W':World} {R:Value->World->Prop} (he:(execOp ρ o).run P W= .ok .skip W') (h:R undef W'):Does P o ρ W R:=by
 unfold Does;rw[he];exact h
theorem IK (v:Value) (w:World):(Instr.typeAssert (.iface 200 v) 20 200 true).run Tryz.prog w= .ok (.tuple #[v,.bool true]) w:=by
 have hu:Tryz.prog.underlying 200=_:=Tryz.underlying200
 simp[Instr.typeAssert,run_underlying hu,go_sem]
theorem Jv (bs ba be:Nat) (S:Array Value) (A:Array Value) (ec:Value) (code:Int) (w:World) (hS:w.heap[bs]? =some (.cells S 46 (0,0))) (hA:w.heap[ba]? =some (.cells A 46 (0,0))) (hE:w.heap[be]? =some (.cells #[ec] 52 (0,0)))
 (hsz:S.size=22) (hsa:A.size=22) (h1:bs≠ba) (h2:bs≠be) (h3:ba≠be) (hone: ∀u∈S.toList,u.oneCell'=true):
 CallsD Tryz.prog 109 #[.pointer (some ⟨bs,0,none⟩),.pointer (some ⟨ba,0,none⟩),.pointer (some ⟨be,0,none⟩)] (.panicking (kG code)) w fun e u' w'=>
  e= .returned (.tuple #[])/\u'= .panicking [{v:= .iface 200 (.agg #[iv code]),recovered:=true}]/\Ext [ba,be] w w'/\w'.heap[ba]? =some (.cells S 46 (0,0))/\w'.heap[be]? =some (.cells #[iv code] 52 (0,0)):=by
 refine callsD_of_wpS Tryz.func109 rfl fun c₀ cs hu=>?_
 apply wpS_seq
 apply wpS_region
 have hta:=IK (.agg #[iv code]) w
 obtain⟨cS,fS,lS⟩:=af hS
 obtain⟨cA,fA,lA⟩:=af hA
 obtain⟨cE,fE,lE⟩:=af hE
 simp[wpOpsS,go_sem,recoverD,hu,Tryz.ntmps109,Exit.thenS]
 refine wpS_of_wp ?_
 simp only[Array.replicate_succ,Array.replicate_zero,lL,lM,List.nil_append,List.cons_append,uD,List.set_cons_succ,List.set_cons_zero]
 go_wp2
 refine dH fun W1 hW1=>?_
 have k1:W1.heap[w.heap.size]? =some (.cells #[iv code] 200 (0,0)):=by rw[hW1];exact ay _ _
 have kS:W1.heap[bs]? =some (.cells S 46 (0,0)):=by rw[hW1];exact(heap_alloc_old _ _ lS).trans hS
 have kA:W1.heap[ba]? =some (.cells A 46 (0,0)):=by rw[hW1];exact(heap_alloc_old _ _ lA).trans hA
 have kE:W1.heap[be]? =some (.cells #[ec] 52 (0,0)):=by rw[hW1];exact(heap_alloc_old _ _ lE).trans hE
 have hB1:Ext [] w W1:=by rw[hW1];exact Ext.az (ak (aG _ _) _)
 have hw1:w.heap.size<W1.heap.size:=(aV.1 k1).1
 obtain⟨d1,g1,m1⟩:=af k1
 have hne1:ba≠w.heap.size:=by omega
 have hne2:w.heap.size≠ba:=by omega
 clear hW1 hta cS fS cA fA cE fE
 refine zg 4 [ba] (some 3) [(3,⟨fun _ v=>v=undef,fun _ _ Wx=>Wx.heap[ba]? =some (.cells S 46 (0,0))⟩)] ?_
 simp only[zt]
 refine iH (by rfl) (.agg S) (by rfl) (fun W hE hF=>?_) ?_
 ·have hs:=(hE.block bs (by omega) (by simpa using h1)).trans kS
  exact Ac _ _ rfl bs rfl _ _ _ _ hs Tryz.underlying46 rfl (by rw[hsz];kernel_rfl)
 simp only[zp]
 repeat ((first|refine zd ?_|refine zk ?_);simp only[zp])
 refine bJ _ (by rfl) (by rfl) ⟨_,rfl⟩ (fun W hE hF=>?_) (fun v Wa Wb ho hE=>?_) (fun v hv=>?_)
 ·have hE':Ext [] W1 W:=hE
  have ha:=(hE'.block ba (by omega) (by simp)).trans kA
  refine wI (W':=W.setRow ba S) (yL _ _ _ rfl ba S rfl rfl _ _ ha (by rw[hsz];kernel_rfl) (by rw[hsz,hsa]) (by rw[nD];exact fun u hu=>hone u (nR.2 hu))) ⟨rfl,setRow_heap W ba A S _ _ ha,?_⟩
  exact(show Ext [ba] W (W.setRow ba S) from fK)
 ·have hE':Ext [] Wa Wb:=hE
  have ho':Wa.heap[ba]? =some (.cells S 46 (0,0)):=ho
  exact(hE'.block ba (aV.1 ho').1 (by simp)).trans ho'
 obtain rfl:v=undef:=hv
 simp only[zp]
 intro W hE hF
 have hx:W.heap[ba]? =some (.cells S 46 (0,0)):=hF _ (bg _)
 have hE':Ext [ba] W1 W:=hE
 have he:=(hE'.block be (by omega) (by simpa using fun e=>h3 e.symm)).trans kE
 obtain⟨d2,g2,m2⟩:=af he
 have d20:=d2 0
 simp at d20
 have HX:=ae (ag hx (ag hE' he))
 clear hE hF hx hE' he d1 g1 d2
 go_wp2
 refine⟨rfl,_,rfl,.tuple #[],by simp[results,Tryz.results109],rfl,rfl,?_,?_,?_⟩
 ·exact(Ext.nil hB1).trans ((HX.o.2.1.more (by simp)).trans (gI.more (by simp)))
 ·exact(heap_setCell_other W ⟨be,0,none⟩ ba _ h3).trans HX.o.1
 ·exact aI HX.o.2.2 _
structure I4 (B:Nat) (w w':World):Prop where
 ext:uX B [] w w'
 maps: ∀(k:Nat) es cl,w.heap[k]? =some (.map es cl)->w'.heap[k]? =some (.map es cl)
theorem I4.wW {B:Nat} {w w':World} (h:Ext [] w w'):I4 B w w':=⟨uX.wW h,fun k es cl hk=>(h.block k (aV.1 hk).1 (by simp)).trans hk⟩
theorem Wp (B:Nat):IP (Ext []) (I4 B):=⟨Ext.refl [],Ext.trans,fun h k=>⟨h.ext.trans k.ext,fun i es cl hi=>k.maps i es cl (h.maps i es cl hi)⟩,I4.wW⟩
instance (W0:World):Kept (I4 W0.heap.size) [] W0:=⟨I4.wW,fun h=>⟨h.ext.os,h.ext.tape,h.ext.output,h.ext.size,fun k hk hm=>h.ext.block k hk hk hm⟩⟩
structure Fr (bs:Nat) (S:Array Value) (W:World):Prop where
 s:W.heap[bs]? =some (.cells S 46 (0,0))
 a: ∃A,W.heap[bs+1]? =some (.cells A 46 (0,0))/\A.size=22
 e: ∃ec,W.heap[bs+2]? =some (.cells #[ec] 52 (0,0))
theorem Fr.below {bs:Nat} {S:Array Value} {w W:World} (h:Fr bs S w) {B:Nat} (hb:Below B w W) (hB:bs+2<B):Fr bs S W:=by
 obtain⟨A,h1,h2⟩:=h.a
 obtain⟨ec,h3⟩:=h.e
 exact⟨(hb.block _ (by omega)).trans h.s,⟨A,(hb.block _ (by omega)).trans h1,h2⟩,⟨ec,(hb.block _ (by omega)).trans h3⟩⟩
theorem Ha {bs:Nat} {S:Array Value} (hsz:S.size=22) (hone: ∀u∈S.toList,u.oneCell'=true) {W:World} (hF:Fr bs S W) (code:Int) (tmps:Array Value) (R:Ending->World->Prop)
 (h4:tmps.getD 4 undef= .pointer (some ⟨bs+1,0,none⟩)) (h5:tmps.getD 5 undef= .pointer (some ⟨bs+2,0,none⟩))
 (hR: ∀W',Ext [bs+1,bs+2] W W'->R (.returned (.tuple #[.agg S,iv code])) W'):
 Leaves Tryz.prog Tryz.f67 tmps R [{target:= .fn (.func 109) #[.pointer (some ⟨bs,0,none⟩),.pointer (some ⟨bs+1,0,none⟩),.pointer (some ⟨bs+2,0,none⟩)],args:= #[]}] (.panicking (kG code)) W:=by
 obtain⟨A,hA,hAs⟩:=hF.a
 obtain⟨ec,hE⟩:=hF.e
 refine leaves_cons (f:=109) (args:= #[.pointer (some ⟨bs,0,none⟩),.pointer (some ⟨bs+1,0,none⟩),.pointer (some ⟨bs+2,0,none⟩)]) (by simp) (by simp[go_sem]) ?_
 refine(Jv bs (bs+1) (bs+2) S A ec code W hF.s hA hE hsz hAs (by omega) (by omega) (by omega) hone).mono ?_
 rintro e u' w'' ⟨rfl,rfl,Vy,hA',hE'⟩
 have hr:(results Tryz.f67 tmps).run Tryz.prog w''= .ok (.tuple #[.agg S,iv code]) w'':=by
  have q1:=run_loadVar_row (P:=Tryz.prog) w'' (bs+1) 46 46 S (0,0) _ hA' Tryz.underlying46 rfl (by rw[hsz];kernel_rfl)
  obtain⟨ce,fe,le⟩:=af hE'
  have c0:=ce 0
  simp only[A8] at h4 h5
  simp[results,Tryz.results67,h4,h5,asAddr,q1]
  simp[go_sem,c0]
 show Leaves _ _ _ _ [] .returning w''
 exact⟨_,hr,hR w'' Vy⟩
theorem OX {bs:Nat} {S':Array Value} (hsz:S'.size=22) {W:World} (hA:W.heap[bs+1]? =some (.cells S' 46 (0,0))) (hE:W.heap[bs+2]? =some (.cells #[iv 0] 52 (0,0))) (tmps:Array Value) (R:Ending->World->Prop)
 (h4:tmps.getD 4 undef= .pointer (some ⟨bs+1,0,none⟩)) (h5:tmps.getD 5 undef= .pointer (some ⟨bs+2,0,none⟩))
 (hR:R (.returned (.tuple #[.agg S',iv 0])) W):
 Leaves Tryz.prog Tryz.f67 tmps R [{target:= .fn (.func 109) #[.pointer (some ⟨bs,0,none⟩),.pointer (some ⟨bs+1,0,none⟩),.pointer (some ⟨bs+2,0,none⟩)],args:= #[]}] .returning W:=by
 refine leaves_cons (f:=109) (args:= #[.pointer (some ⟨bs,0,none⟩),.pointer (some ⟨bs+1,0,none⟩),.pointer (some ⟨bs+2,0,none⟩)]) (by simp) (by simp[go_sem]) ?_
 refine(catch_idle ⟨bs,0,none⟩ ⟨bs+1,0,none⟩ ⟨bs+2,0,none⟩ W).mono ?_
 rintro e u' w'' ⟨rfl,rfl,rfl⟩
 have hr:(results Tryz.f67 tmps).run Tryz.prog w''= .ok (.tuple #[.agg S',iv 0]) w'':=by
  have q1:=run_loadVar_row (P:=Tryz.prog) w'' (bs+1) 46 46 S' (0,0) _ hA Tryz.underlying46 rfl (by rw[hsz];kernel_rfl)
  obtain⟨ce,fe,le⟩:=af hE
  have c0:=ce 0
  simp only[A8] at h4 h5
  simp[results,Tryz.results67,h4,h5,asAddr,q1]
  simp[go_sem,c0]
 show Leaves _ _ _ _ [] .returning w''
 exact⟨_,hr,hR⟩
theorem TZ (c:iO) (args:Array Value) (w:World):(callFunc (gU c) args).run Tryz.prog w= .ok (.enter (gU c) args) w:=by
 cases c
 ·exact enters_of Tryz.func176 (by kernel_rfl) rfl args w
 ·exact enters_of Tryz.func177 (by kernel_rfl) rfl args w
 ·exact enters_of Tryz.func178 (by kernel_rfl) rfl args w
 ·exact enters_of Tryz.func179 (by kernel_rfl) rfl args w
 ·exact enters_of Tryz.func180 (by kernel_rfl) rfl args w
 ·exact enters_of Tryz.func181 (by kernel_rfl) rfl args w
 ·exact enters_of Tryz.func182 (by kernel_rfl) rfl args w
 ·exact enters_of Tryz.func183 (by kernel_rfl) rfl args w
 ·exact enters_of Tryz.func184 (by kernel_rfl) rfl args w
 ·exact enters_of Tryz.func185 (by kernel_rfl) rfl args w
 ·exact enters_of Tryz.func186 (by kernel_rfl) rfl args w
 ·exact enters_of Tryz.func187 (by kernel_rfl) rfl args w
 ·exact enters_of Tryz.func188 (by kernel_rfl) rfl args w
 ·exact enters_of Tryz.func189 (by kernel_rfl) rfl args w
 ·exact enters_of Tryz.func190 (by kernel_rfl) rfl args w
 ·exact enters_of Tryz.func191 (by kernel_rfl) rfl args w
 ·exact enters_of Tryz.func192 (by kernel_rfl) rfl args w
 ·exact enters_of Tryz.func193 (by kernel_rfl) rfl args w
 ·exact enters_of Tryz.func194 (by kernel_rfl) rfl args w
 ·exact enters_of Tryz.func195 (by kernel_rfl) rfl args w
 ·exact enters_of Tryz.func196 (by kernel_rfl) rfl args w
theorem adr (c:iO) (n:List Int) (hn:n.length=c.many) (hb: ∀x∈n,0<=x/\x<=9999) (N:Nat) (w:World) (wb:Nat) (s:jA) (V:SV) (es:List KE) (ns:Value) (hO:jX N w wb s V es) (hns:n≠[]->sD N w ns n) (hG:fZ s):
 Calls Tryz.prog (gU c) #[.pointer (some ⟨wb,0,none⟩),ns] w (rJ N wb (iU s c n) w):=by
 cases c
 ·have:n=[]:=kF hn
  subst this
  exact acn N w wb s V es ns hO hG
 ·obtain⟨a,b,rfl⟩: ∃a b,n=[a,b]:=by
   simp only[iO.many] at hn
   match n,hn with
   |[a,b],_=>exact⟨a,b,rfl⟩
  have h:=hns (by simp)
  exact Z8 N w wb s V es ns a b hO h
 ·obtain⟨a,b,d,e,f,rfl⟩: ∃a b d e f,n=[a,b,d,e,f]:=by
   simp only[iO.many] at hn
   match n,hn with
   |[a,b,d,e,f],_=>exact⟨a,b,d,e,f,rfl⟩
  have h:=hns (by simp)
  exact zo N w wb s V es ns a b d e f hO h hG
 ·obtain⟨a,b,d,rfl⟩: ∃a b d,n=[a,b,d]:=by
   simp only[iO.many] at hn
   match n,hn with
   |[a,b,d],_=>exact⟨a,b,d,rfl⟩
  have h:=hns (by simp)
  obtain⟨a',rfl⟩: ∃k:Nat,a=k:=⟨a.toNat,by have:=hb a (by simp);omega⟩
  exact Zf N w wb s V es ns a' b d hO h
 ·obtain⟨a,rfl⟩: ∃a,n=[a]:=by
   simp only[iO.many] at hn
   match n,hn with
   |[a],_=>exact⟨a,rfl⟩
  have h:=hns (by simp)
  obtain⟨a',rfl⟩: ∃k:Nat,a=k:=⟨a.toNat,by have:=hb a (by simp);omega⟩
  exact N8 N w wb s V es ns a' hO h hG
 ·obtain⟨a,rfl⟩: ∃a,n=[a]:=by
   simp only[iO.many] at hn
   match n,hn with
   |[a],_=>exact⟨a,rfl⟩
  have h:=hns (by simp)
  exact ZA N w wb s V es ns a hO h
 ·obtain⟨a,b,rfl⟩: ∃a b,n=[a,b]:=by
   simp only[iO.many] at hn
   match n,hn with
   |[a,b],_=>exact⟨a,b,rfl⟩
  have h:=hns (by simp)
  exact adm N w wb s V es ns a b hO h
 ·obtain⟨a,b,d,rfl⟩: ∃a b d,n=[a,b,d]:=by
   simp only[iO.many] at hn
   match n,hn with
   |[a,b,d],_=>exact⟨a,b,d,rfl⟩
  have h:=hns (by simp)
  exact note_any N w wb s V es ns a b d hO h hG
 ·obtain⟨a,rfl⟩: ∃a,n=[a]:=by
   simp only[iO.many] at hn
   match n,hn with
   |[a],_=>exact⟨a,rfl⟩
  have h:=hns (by simp)
  obtain⟨a',rfl⟩: ∃k:Nat,a=k:=⟨a.toNat,by have:=hb a (by simp);omega⟩
  exact Zg N w wb s V es ns a' hO h hG
 ·obtain⟨a,b,rfl⟩: ∃a b,n=[a,b]:=by
   simp only[iO.many] at hn
   match n,hn with
   |[a,b],_=>exact⟨a,b,rfl⟩
  have h:=hns (by simp)
  exact We N w wb s V es ns a b hO h ((hb a (by simp)))
 ·obtain⟨a,b,d,rfl⟩: ∃a b d,n=[a,b,d]:=by
   simp only[iO.many] at hn
   match n,hn with
   |[a,b,d],_=>exact⟨a,b,d,rfl⟩
  have h:=hns (by simp)
  obtain⟨a',rfl⟩: ∃k:Nat,a=k:=⟨a.toNat,by have:=hb a (by simp);omega⟩
  exact Lt N w wb s V es ns a' b d hO h hG ((hb b (by simp)))
 ·obtain⟨a,rfl⟩: ∃a,n=[a]:=by
   simp only[iO.many] at hn
   match n,hn with
   |[a],_=>exact⟨a,rfl⟩
  have h:=hns (by simp)
  exact Zi N w wb s V es ns a hO h hG ((hb a (by simp)).1)
 ·obtain⟨a,rfl⟩: ∃a,n=[a]:=by
   simp only[iO.many] at hn
   match n,hn with
   |[a],_=>exact⟨a,rfl⟩
  have h:=hns (by simp)
  exact Rk N w wb s V es ns a hO h hG
 ·obtain⟨a,b,d,rfl⟩: ∃a b d,n=[a,b,d]:=by
   simp only[iO.many] at hn
   match n,hn with
   |[a,b,d],_=>exact⟨a,b,d,rfl⟩
  have h:=hns (by simp)
  exact aae N w wb s V es ns a b d hO h hG
 ·obtain⟨a,rfl⟩: ∃a,n=[a]:=by
   simp only[iO.many] at hn
   match n,hn with
   |[a],_=>exact⟨a,rfl⟩
  have h:=hns (by simp)
  obtain⟨a',rfl⟩: ∃k:Nat,a=k:=⟨a.toNat,by have:=hb a (by simp);omega⟩
  exact Rl N w wb s V es ns a' hO h hG
 ·obtain⟨a,b,rfl⟩: ∃a b,n=[a,b]:=by
   simp only[iO.many] at hn
   match n,hn with
   |[a,b],_=>exact⟨a,b,rfl⟩
  have h:=hns (by simp)
  exact aaF N w wb s V es ns a b hO h hG ((hb a (by simp)))
 ·obtain⟨a,b,d,rfl⟩: ∃a b d,n=[a,b,d]:=by
   simp only[iO.many] at hn
   match n,hn with
   |[a,b,d],_=>exact⟨a,b,d,rfl⟩
  have h:=hns (by simp)
  obtain⟨a',rfl⟩: ∃k:Nat,a=k:=⟨a.toNat,by have:=hb a (by simp);omega⟩
  exact tq N w wb s V es ns a' b d hO h ((hb b (by simp)))
 ·obtain⟨a,b,rfl⟩: ∃a b,n=[a,b]:=by
   simp only[iO.many] at hn
   match n,hn with
   |[a,b],_=>exact⟨a,b,rfl⟩
  have h:=hns (by simp)
  obtain⟨a',rfl⟩: ∃k:Nat,a=k:=⟨a.toNat,by have:=hb a (by simp);omega⟩
  exact abd N w wb s V es ns a' b hO h hG
 ·obtain⟨a,b,d,rfl⟩: ∃a b d,n=[a,b,d]:=by
   simp only[iO.many] at hn
   match n,hn with
   |[a,b,d],_=>exact⟨a,b,d,rfl⟩
  have h:=hns (by simp)
  obtain⟨a',rfl⟩: ∃k:Nat,a=k:=⟨a.toNat,by have:=hb a (by simp);omega⟩
  obtain⟨b',rfl⟩: ∃k:Nat,b=k:=⟨b.toNat,by have:=hb b (by simp);omega⟩
  exact aaU N w wb s V es ns a' b' d hO h hG
 ·obtain⟨a,b,d,rfl⟩: ∃a b d,n=[a,b,d]:=by
   simp only[iO.many] at hn
   match n,hn with
   |[a,b,d],_=>exact⟨a,b,d,rfl⟩
  have h:=hns (by simp)
  exact try_any N w wb s V es ns a b d hO h hG ⟨(hb a (by simp)),(hb b (by simp))⟩
 ·obtain⟨a,rfl⟩: ∃a,n=[a]:=by
   simp only[iO.many] at hn
   match n,hn with
   |[a],_=>exact⟨a,rfl⟩
  have h:=hns (by simp)
  obtain⟨a',rfl⟩: ∃k:Nat,a=k:=⟨a.toNat,by have:=hb a (by simp);omega⟩
  exact VZ N w wb s V es ns a' hO h hG
theorem VW: ∀l:aF,(bZ l).length<=l.length+1:=by
 intro l
 induction l with
 |nil=>simp[bZ]
 |cons c l ih=>
  rw[bZ]
  split
  ·simp;omega
  ·have:=kQ l
   cases h:bZ l with
   |nil=>exact absurd h this
   |cons x ps=>rw[h] at ih;simp at ih⊢;omega
theorem aN {P:Program} {w w':World} {ops:Array Oper} {rest:List Oper} {o:Oper} {a:Act} {Q:Exit->Act->World->Prop} (hg:o.guard=none) (v:Value) (h:(execOp a.eval o).run P w= .ok (.value v) w') (hK:wpList P ops Q rest (a.put o.dst v) w'):wpList P ops Q (o::rest) a w:=by
 refine wpList_plain hg fun K hK'=>?_
 exact zF (R:=fun v1 w1=>v1=v/\w1=w') (jl v h ⟨rfl,rfl⟩) fun v1 w1 ⟨h1,h2⟩=>by rw[h1,h2];exact hK' _ _ hK
theorem kC {P:Program} {ops:Array Oper} {l:List Oper} {Q:Exit->Act->World->Prop} {a:Act} {W:World} (h: ∀W',W'=W->wpList P ops Q l a W'):wpList P ops Q l a W:=h W rfl
theorem NV: ∀(l:aF) (p:aF),p∈bZ l->p.length<=l.length:=by
 intro l
 induction l with
 |nil=>intro p h;simp[bZ] at h;subst h;simp
 |cons c l ih=>
  intro p h
  rw[bZ] at h
  split at h
  ·rcases gK.1 h with rfl|h
   ·simp
   ·have:=ih p h;simp;omega
  ·cases hw:bZ l with
   |nil=>exact absurd hw (kQ l)
   |cons x ps=>
    rw[hw] at h
    simp only[List.headD_cons,List.tail_cons] at h
    rcases gK.1 h with rfl|h
    ·have:=ih x (by rw[hw];simp);simp;omega
    ·have:=ih p (by rw[hw];simp[h]);simp;omega
theorem GN: ∀(ps:List aF) (p:aF) (ns:List Int) (n:Int),kV ps=some ns->lu p=some n->kV (ps++[p])=some (ns++[n]):=by
 intro ps
 induction ps with
 |nil=>intro p ns n h1 h2;obtain rfl:=jH h1;simp[kV,h2]
 |cons q ps ih=>
  intro p ns n h1 h2
  unfold kV at h1
  cases hq:lu q with
  |none=>rw[hq] at h1;cases h1
  |some x=>
   cases hs:kV ps with
   |none=>rw[hq,hs] at h1;cases h1
   |some y=>
    rw[hq,hs] at h1
    obtain rfl:=jH h1
    rw[List.cons_append,kV,hq,ih p y n hs h2]
    rfl
theorem Ku: ∀(ps:List aF) (i:Nat) (p:aF),ps[i]? =some p->lu p=none->kV ps=none:=by
 intro ps
 induction ps with
 |nil=>intro i p h;cases h
 |cons q ps ih=>
  intro i p h hn
  cases i with
  |zero=>
   simp only[List.getElem?_cons_zero,Option.some.injEq] at h
   subst h
   rw[kV,hn];rfl
  |succ i=>
   rw[kV,ih i p (by simpa using h) hn]
   cases lu q <;>rfl
def PDo (Ms:List Nat) (s:jA) (l:aF) (w:World) (e:Ending) (w':World):Prop:=
 Below w.heap.size w w'/\ ∃V es,e= .returned (.tuple #[.agg (dD (wJ bK s l).1 V),iv (wJ bK s l).2])/\oD w' (wJ bK s l).1 V es/\ ∀W',Ext Ms w' W'->oD W' (wJ bK s l).1 V es
theorem iP {w:World} {s:jA} {V:SV} {es:List KE} (h:oD w s V es): ∀u∈(dD s V).toList,u.oneCell'=true:=by
 obtain⟨o1,c1,h1⟩:=aK.open h.uK
 obtain⟨o2,c2,h2⟩:=aK.open h.QX
 obtain⟨o3,c3,h3⟩:=aK.open h.bQ
 obtain⟨o4,c4,h4⟩:=aK.open h.Fj
 obtain⟨o5,c5,h5⟩:=aK.open h.Fv
 obtain⟨o6,c6,h6⟩:=aK.open h.bP.heaps
 obtain⟨o7,c7,h7⟩:=aK.open h.bP.aQ.1
 obtain⟨o8,c8,h8⟩:=aK.open h.bP.aJ
 simp[dD,h1,h2,h3,h4,h5,h6,h7,h8,Value.oneCell']
theorem afs (s:jA) (V:SV) (es:List KE) (l:aF) (w:World) (hS:oD w s V es) (hG:fZ s) (hE:Env w) (hl:l.length<=1000) (Ms:List Nat) (hMs: ∀m∈Ms,m<w.heap.size) (hSM: ∀W',Ext Ms w W'->oD W' s V es):Calls Tryz.prog 67 #[.agg (dD s V),.string (dV l)] w (PDo Ms s l w):=by
 obtain⟨vt,vn,vw,vu,vr,vh,vk,vs⟩:=V
 have HS:Hid (∀W,Below w.heap.size w W->oD W s ⟨vt,vn,vw,vu,vr,vh,vk,vs⟩ es):=ae (fun W hb=>hS.below hb (ai _))
 have HE:Hid (∀W,Below w.heap.size w W->Env W):=ae (fun W hb=>hE.below hb (ai _))
 have HG:=ae hG
 have aq5:=ae (iP hS)
 have abE:Hid (∀(code:Int),wJ bK s l=(s,code)-> ∀W,Below w.heap.size w W->Fr w.heap.size (dD s ⟨vt,vn,vw,vu,vr,vh,vk,vs⟩) W-> ∀tmps:Array Value,tmps.getD 4 undef= .pointer (some ⟨w.heap.size+1,0,none⟩)->tmps.getD 5 undef= .pointer (some ⟨w.heap.size+2,0,none⟩)->
  Leaves Tryz.prog Tryz.f67 tmps (PDo Ms s l w) [{target:= .fn (.func 109) #[.pointer (some ⟨w.heap.size,0,none⟩),.pointer (some ⟨w.heap.size+1,0,none⟩),.pointer (some ⟨w.heap.size+2,0,none⟩)],args:= #[]}] (.panicking (kG code)) W):=ae (by
  intro code hd W hb hF tmps h4 h5
  refine Ha rfl (iP hS) hF code tmps _ h4 h5 (fun W' Vy=>?_)
  have hb':Below w.heap.size w W':=hb.trans ⟨Vy.os,Vy.tape,Vy.output,Vy.size,fun k hk=>Vy.block k (by have:=hb.size;omega) (by simp;omega)⟩
  refine⟨hb',⟨vt,vn,vw,vu,vr,vh,vk,vs⟩,es,?_,?_,fun W'' hE'=>?_⟩
  ·rw[hd]
  ·rw[hd];exact hS.below hb' (ai _)
  ·rw[hd];exact hSM W'' ((Ext.az hb').trans hE'))
 have HMS:=ae hMs
 clear hS hE hG hMs hSM
 go_enter_defers Tryz.func67,Tryz.ntmps67
 go_upto_region 2 with(fail)
 refine dH fun W0 hW0=>?_
 have hF0:Fr w.heap.size (dD s ⟨vt,vn,vw,vu,vr,vh,vk,vs⟩) W0:=by
  rw[hW0]
  refine⟨?_,?_,?_⟩
  ·exact(heap_alloc_old _ _ (by simp;omega)).trans ((heap_alloc_old _ _ (by simp)).trans (ay _ _))
  ·exact⟨_,(heap_alloc_old _ _ (by simp)).trans (ed _ _ _),rfl⟩
  ·exact⟨_,iD _ _ _ _⟩
 have HB0:=ae (show Below w.heap.size w W0 from by rw[hW0];exact ak (ak (ak (aG _ _) _) _) _)
 have hs0:w.heap.size+3<=W0.heap.size:=by rw[hW0];simp
 have HF0:=ae hF0
 clear hW0 hF0
 go_wp2_with fail
 refine(Wi l W0 (HE.o _ HB0.o) hl).mono ?_
 rintro e W1 ⟨np,hnp,rfl,hW1⟩
 have HB1:=ae (show Below w.heap.size w W1 from by rw[hW1];exact ak HB0.o _)
 have HF1:=ae (show Fr w.heap.size (dD s ⟨vt,vn,vw,vu,vr,vh,vk,vs⟩) W1 from by rw[hW1];exact HF0.o.below (ak (aG _ _) _) (by omega))
 have hp1:W1.heap[W0.heap.size]? =some (.cells (aZ (bZ l)).toArray 9 (0,0)):=by rw[hW1];exact ay _ _
 have hsz1:W1.heap.size=W0.heap.size+1:=by rw[hW1];simp
 have hsz:w.heap.size+4<=W1.heap.size:=by omega
 obtain⟨pb,hpb⟩: ∃pb,pb=W0.heap.size:=⟨_,rfl⟩
 rw[<-hpb] at hp1⊢
 have hpl:pb<W1.heap.size:=by omega
 have hpw:w.heap.size+3<=pb:=by omega
 have hn1:1<=np:=by rw[hnp];have:=kQ l;cases h:bZ l <;>simp_all
 have hn0:0<np:=by omega
 have hnI:(0:Int)<(np:Int):=by omega
 obtain⟨x0,ps,hws⟩: ∃x0 ps,bZ l=x0::ps:=by
  cases h:bZ l with
  |nil=>exact absurd h (kQ l)
  |cons x ps=>exact⟨x,ps,rfl⟩
 obtain⟨c1,f1,l1⟩:=af hp1
 have g0:W1.cell? ⟨pb,0,none⟩=some (.string (dV x0)):=by rw[c1,hws];rfl
 have Y6:=ae (ag hp1 (ag hnp hws))
 clear hW1 hp1 hnp hws hpb hsz1 c1 f1 hs0
 go_wp2_with fail
 refine kP (Wp W1.heap.size) ((Ext.refl [] _).drew) (Ps:=(fun i _ v W=>match i with|8=> ∃b:Nat,v= .pointer (some ⟨b,0,none⟩)/\W1.heap.size<=b/\ ∃x y,W.heap[b]? =some (.cells #[x,y] 204 (0,0))|_=>True)) 10 (some 9)
  [(0,⟨fun _ v=> ∃mb,v= .map (some mb),fun _ v W=> ∃mb,v= .map (some mb)/\TabAt V8 wev (fun _=>True) W mb Ry⟩),(8,⟨fun _ v=> ∃b:Nat,v= .pointer (some ⟨b,0,none⟩),fun _ _ _=>True⟩),
    (9,⟨fun _ v=>v=undef,fun xs _ W=> ∃(b:Nat) (x y:Value),xs=[.pointer (some ⟨b,0,none⟩),.agg #[x,y]]/\W1.heap.size<=b/\W.heap[b]? =some (.cells #[x,y] 204 (0,0))⟩)] (by as_aux_lemma=>kernel_rfl) (by as_aux_lemma=>kernel_rfl) ?_
 simp only[zt]
 refine kR _ (by rfl) (by rfl) (by exact⟨.map (some 0),0,rfl⟩) (fun Wa hE hF hG=>?_) (fun v Wa Wb ho hE=>?_) (fun _ _ _ _ _=>trivial) (fun v hv=>?_)
 ·have hE':I4 W1.heap.size W1 Wa:=hE
  refine dG 111 #[] (by go_simp;try rfl) ?_
  refine(VX Wa).mono ?_
  rintro e w' ⟨mb,rfl,h1,h2,h3⟩
  exact⟨_,rfl,⟨mb,rfl⟩,⟨mb,rfl,h2⟩,Ext.az h3,trivial⟩
 ·obtain⟨mb,hv,ht⟩:=ho
  have hE':I4 W1.heap.size Wa Wb:=hE
  obtain⟨h0,es',cl,hm,hx⟩:=ht
  exact⟨mb,hv,h0,es',cl,hE'.maps _ _ _ hm,hx⟩
 obtain⟨mb,rfl⟩:=hv
 simp only[zp]
 repeat ((first|refine zd ?_|refine zk ?_);simp only[zp])
 have hm:Tryz.prog.underlying 206=some (.map 9 204):=by kernel_rfl
 have hz:=fun w=>Tryz.zeroValue204 w
 obtain⟨n1,fv,bq,hT1,hone,hcase⟩: ∃(n1:Int) (fv:Value) (bq:Bool),Value.tuple #[((TB.look (dV x0) Ry).map wev).getD (.agg #[iv 0,.nilFunc]),.bool (TB.look (dV x0) Ry).isSome]= .tuple #[.agg #[iv n1,fv],.bool bq]/\fv.oneCell'=true/\
  ((uz x0=none/\bq=false/\n1=0)∨ ∃c,uz x0=some c/\bq=true/\n1=c.many/\fv= .func (.func (gU c)) #[] #[]):=by
  rw[Z4]
  have hx:(dV x0).data.toList=x0:=by simp[dV]
  rw[hx]
  cases hc:uz x0 with
  |none=>exact⟨0,.nilFunc,false,rfl,rfl,.inl ⟨rfl,rfl,rfl⟩⟩
  |some c=>exact⟨c.many,.func (.func (gU c)) #[] #[],true,rfl,rfl,.inr ⟨c,rfl,rfl,rfl,rfl⟩⟩
 have hlk: ∀(W:World),TabAt V8 wev (fun _=>True) W mb Ry->(Instr.lookup 206 (.map (some mb)) (.string (dV x0)) true).run Tryz.prog W= .ok (.tuple #[.agg #[iv n1,fv],.bool bq]) W:=fun W hT=>by
  have:=wF uN hm hz hT (dV x0) trivial true W rfl
  rw[aC rfl] at this
  rw[this]
  exact congrArg (fun q=>Result.ok q W) hT1
 have NH:=ae hlk
 have HC:=ae hcase
 clear hlk hm hT1 hcase hz
 refine iH (by rfl) (.tuple #[.agg #[iv n1,fv],.bool bq]) (by rfl) (fun W hE hF=>?_) ?_
 ·obtain⟨mb',hmb,hT⟩:=hF _ (bg _) (by kernel_rfl)
  cases hmb
  have:=NH.o W hT
  go_simp
 simp only[zp]
 repeat ((first|refine zd ?_|refine zk ?_);simp only[zp])
 refine kR _ (by rfl) (by rfl) (by exact⟨.pointer (some ⟨0,0,none⟩),0,rfl⟩) (fun Wa hE hF hG=>?_) (fun _ _ _ _ _=>trivial) (fun v Wa Wb ho hE=>?_) (fun v hv=>?_)
 ·have hE':I4 W1.heap.size W1 Wa:=hE
  exact jl (W':=Wa.alloc (.cells #[iv 0,.nilFunc] 204)) (.pointer (some ⟨Wa.heap.size,0,none⟩)) (by go_simp;try rfl) ⟨⟨_,rfl⟩,trivial,Ext.az ((aG _ _).alloc (ai _) _),_,rfl,hE'.ext.size,_,_,heap_alloc_new _ _⟩
 ·obtain⟨b,hb,hge,x,y,hc⟩:=ho
  exact⟨b,hb,hge,x,y,(hE.block b (aV.1 hc).1 (by simp)).trans hc⟩
 obtain⟨b8,rfl⟩:=hv
 simp only[zp]
 refine kR _ (by rfl) (by rfl) (by exact⟨_,rfl⟩) (fun Wa hE hF hG=>?_) (fun v Wa Wb ho hE=>?_) (fun _ _ _ _ _=>trivial) (fun v hv=>?_)
 ·obtain⟨b,hb,hge,x,y,hc⟩:=hG rfl _ (bg _) (by kernel_rfl)
  cases hb
  refine wI (W':=Wa.setRow b8 #[iv n1,fv]) ?_ ⟨rfl,⟨b8,iv n1,fv,rfl,hge,setRow_heap Wa b8 _ _ _ _ hc⟩,?_,trivial⟩
  ·exact yL _ _ _ rfl b8 #[iv n1,fv] rfl rfl _ _ hc (by kernel_rfl) rfl (by rw[nD];intro u hu;simp only[List.mem_toArray,gK,List.not_mem_nil,or_false] at hu;rcases hu with rfl|rfl;(exact rfl);(exact hone))
  ·exact(show I4 W1.heap.size Wa (Wa.setRow b8 #[iv n1,fv]) from⟨⟨rfl,rfl,rfl,by simp,fun k _ hkB _=>setRow_other _ _ _ _ (by omega)⟩,fun k es' cl hk=>by
    have hne:k≠b8:=fun e=>by subst e;rw[hc] at hk;cases hk
    exact(setRow_other _ _ _ _ hne).trans hk⟩)
 ·obtain⟨b,x,y,h1,h2,h3⟩:=ho
  have hE':Ext [] Wa Wb:=hE
  exact⟨b,x,y,h1,h2,(hE'.block b (aV.1 h3).1 (by simp)).trans h3⟩
 obtain rfl:v=undef:=hv
 simp only[zp]
 intro W2 hE2 hF2
 obtain⟨b8',x8,y8,hx8,apV,hb8⟩:=hF2 _ (bg _)
 have XA:I4 W1.heap.size W1 W2:=hE2
 obtain⟨rfl,rfl,rfl⟩:b8'=b8/\x8=iv n1/\y8=fv:=by
  have h:=(show[Value.pointer (some ⟨b8,0,none⟩),.agg #[iv n1,fv]]=[.pointer (some ⟨b8',0,none⟩),.agg #[x8,y8]] from hx8)
  simp at h
  exact⟨h.1.symm,h.2.1.symm,h.2.2.symm⟩
 have xU:Below W1.heap.size W1 W2:=⟨XA.ext.os,XA.ext.tape,XA.ext.output,XA.ext.size,fun k hk=>XA.ext.block k hk hk (by simp)⟩
 have HB2:=ae (aX HB1.o xU)
 have HF2:=ae (HF1.o.below xU (by omega))
 have hp2:=(xU.block pb hpl).trans Y6.o.1
 have hs2:=xU.size
 have HP2:=ae (ag hp2 hb8)
 obtain⟨c2,f2,l2⟩:=af hb8
 have hone':=ae hone
 clear hE2 hF2 hx8 XA xU hp2 hb8 hone g0
 rcases HC.o with⟨hc0,hbq,Xq⟩|⟨c,hc0,hbq,Xq,hfv⟩
 ·subst hbq
  have hd:wJ bK s l=(s,4):=Cb (by unfold pg;rw[Y6.o.2.2];simp[hc0])
  have HD:=ae hd
  clear hd
  go_wp2_with fail
  refine(eF 4 [true] W2 (by simp) _ (by simp[dN]) _ _ rfl).mono ?_
  rintro e W3 ⟨hb,⟨hc,rfl⟩|⟨hc,rfl⟩⟩
  ·exact absurd hc (by decide)
  ·exact abE.o 4 HD.o W3 (aX HB2.o hb) (HF2.o.below hb (by omega)) _ rfl rfl
 ·subst hbq
  subst Xq
  subst hfv
  have ahr:np=ps.length+1:=by rw[Y6.o.2.1,Y6.o.2.2];rfl
  have apx:(np:Int)<=1001:=by have:=VW l;rw[<-Y6.o.2.1] at this;omega
  have HNP:=ae ahr
  clear ahr
  go_wp2_with fail
  refine(eF 4 [(np:Int)-1 !=c.many] W2 (by simp) _ (by simp[dN]) _ _ rfl).mono ?_
  rintro e W3 ⟨hb,⟨hc,rfl⟩|⟨hc,rfl⟩⟩
  rotate_left
  ·have hd:wJ bK s l=(s,4):=Cb (by
    unfold pg
    rw[Y6.o.2.2,List.headD_cons,hc0,Option.bind_some,List.tail_cons,aj]
    intro e
    have:=HNP.o
    simp at hc
    omega)
   exact abE.o 4 hd W3 (aX HB2.o hb) (HF2.o.below hb (by omega)) _ rfl rfl
  have hcm:ps.length=c.many:=by
   have:=HNP.o
   simp at hc
   omega
  have HB3:=ae (aX HB2.o hb)
  have HF3:=ae (HF2.o.below hb (by omega))
  have hp3:=(hb.block pb (by omega)).trans HP2.o.1
  have ah8:=(hb.block b8' l2).trans HP2.o.2
  have akN:pb<W3.heap.size:=(aV.1 hp3).1
  obtain⟨off,hA⟩: ∃off,(if np=1 then(some ⟨pb,0,none⟩:Option Addr) else some ⟨pb,1,none⟩)=some ⟨pb,off,none⟩:=by split <;>exact⟨_,rfl⟩
  have hoff: ∀i,i<ps.length->off=1:=fun i hi=>by
   have:=HNP.o
   rw[aj (by omega)] at hA
   injection hA with h;injection h with _ h2 _;exact h2.symm
  have HO:=ae (ag hoff hcm)
  have HP3:=ae (ag hp3 (ag ah8 hc0))
  have hn1':(1:Int)<=(np:Int):=by omega
  clear hb hc hcm hp3 ah8 hoff c2 f2 hc0
  go_wp2_with fail
  have HN0:Hid (kV []=some []):=ae rfl
  go_loopw [9,11,12,13,41] (fun v9 _ _ _ u wr=> ∃i:Nat,i<=ps.length/\u= .int .i64 i/\Below W3.heap.size W3 wr/\ ∃(ns:List Int) (o:Option Addr) (c9:Nat),kV (ps.take i)=some ns/\v9= .slice o i c9/\wr.ownsRow W3.heap.size 3 1 (.slice o i c9) i (ah ns)) (fun _ _ _ _ u _=>ps.length-(intOf u).toNat)
  case atStart=>exact⟨0,bW _,rfl,aG _ _,[],none,0,rfl,rfl,⟨rfl,.inl ⟨rfl,rfl⟩⟩⟩
  case round=>
   obtain⟨i,hi,rfl,hB,ns,o9,c9,hns,rfl,how⟩:=hrel
   have ahq:=HNP.o
   by_cases hlt:i<ps.length
   ·have hlt2:(i:Int)<((np-1:Nat):Int):=by omega
    have hlt3:i<np-1:=by omega
    have hpr:=(hB.block pb akN).trans HP3.o.1
    obtain⟨cp,fp,lp⟩:=af hpr
    have gi:wr.cell? ⟨pb,off+i,none⟩=some (.string (dV ps[i])):=by
     rw[HO.o.1 i hlt,cp,Y6.o.2.2]
     simp[aZ,hlt,Nat.add_comm]
    have aeS:ps[i].length<=1000:=by
     have:=NV l ps[i] (by rw[Y6.o.2.2];simp)
     omega
    have HNA:=ae (SG ps[i] wr (HE.o wr (aX HB3.o hB)) aeS)
    have HX:=ae (ag hB (ag hns how))
    clear hB hns how cp hpr ahq
    go_wp2_with fail
    refine HNA.o.mono ?_
    rintro e W4 ⟨hb4,v,rfl,hv⟩
    cases hnb:lu ps[i] with
    |none=>
     rw[hnb] at hv
     have HB4:=ae (aX HX.o.1 hb4)
     have hd:wJ bK s l=(s,4):=Cb (by
      unfold pg
      rw[Y6.o.2.2,List.headD_cons,HP3.o.2.2,Option.bind_some,List.tail_cons,Ku ps i ps[i] (dA hlt) hnb]
      simp)
     have HD:=ae hd
     clear hd hb4 hv hnb HNA gi fp lp
     simp only[Option.isSome_none]
     go_wp2_with fail
     refine(eF 4 [true] W4 (by simp) _ (by simp[dN]) _ _ rfl).mono ?_
     rintro e W5 ⟨hb,⟨hc,rfl⟩|⟨hc,rfl⟩⟩
     ·exact absurd hc (by decide)
     ·exact abE.o 4 HD.o W5 (aX HB3.o (aX HB4.o hb)) (HF3.o.below (aX HB4.o hb) (by omega)) _ rfl rfl
    |some n=>
     rw[hnb] at hv
     obtain rfl:v=n:=hv n rfl
     have HB4:=ae (aX HX.o.1 hb4)
     have ahl:=aA (Ms:=[]) HX.o.2.2 (Ext.az hb4) (by simp)
     have HN4:=ae hnb
     have HW4:=ae (ag ahl hb4)
     clear hb4 hv hnb HNA gi fp lp ahl
     simp only[Option.isSome_some]
     go_wp2_with fail
     refine(eF 4 [false] W4 (by simp) _ (by simp[dN]) _ _ rfl).mono ?_
     rintro e W5 ⟨hb,⟨hc,rfl⟩|⟨hc,rfl⟩⟩
     rotate_left
     ·exact absurd hc (by decide)
     have aak:=aA (Ms:=[]) HW4.o.1 (Ext.az hb) (by simp)
     have nM:=ae (aX HB4.o hb)
     have HW5:=ae aak
     have hs5:=nM.o.size
     have hi5:i<=1001:=by omega
     clear hb hc aak
     go_wp2_with (at_builtin;go_loud (refine dF rfl _ _ rO rfl W3.heap.size (.slice o9 i c9) i (ah ns) rfl (aA (Ms:=[]) HW5.o (Ext.az (ak (aG _ _) _)) (by simp)) (.slice (some ⟨W5.heap.size,0,none⟩) 1 1) 1 [iv v] rfl (aK.dw 1 1 (ay _ _) rfl (by decide)) (one_one v) (by omega) (by omega) (by simp;omega) ?_))
     intro v' W6 hown hgr hN
     obtain⟨o6,c6,rfl⟩:=aU hown
     have hpu:=yX nM.o HW5.o (Ext.az (ak (aG _ _) _)) hown hgr (ai _) nM.o.size
     have HP:=ae (ag hpu hown)
     clear hpu hown hgr hN
     go_wp2_with fail
     go_roundw
     case rel=>
      refine⟨i+1,by omega,by go_num,HP.o.1.1,ns++[v],o6,c6,?_,rfl,?_⟩
      ·rw[rF,dA hlt]
       exact GN _ _ _ _ HX.o.2.1 HN4.o
      ·rw[vN]
       exact HP.o.2
     case measure=>simp[intOf];omega
   ·obtain rfl:i=ps.length:=by omega
    rw[List.take_length] at hns
    have hp:pg l=some (c,ns):=by
     unfold pg
     rw[Y6.o.2.2,List.headD_cons,HP3.o.2.2,Option.bind_some,List.tail_cons,aC HO.o.2,hns]
     rfl
    have ah5:=(hB.block b8' (by have:=(aV.1 HP3.o.2.1).1;omega)).trans HP3.o.2.1
    obtain⟨c8,f8,l8⟩:=af ah5
    obtain⟨hwl,hnl,hnb,akR⟩:=tV hp
    have HX:=ae (ag hB (ag how (ag hp (ag hnl hnb))))
    have akT: ¬((ps.length:Nat):Int)<((np-1:Nat):Int):=by omega
    have anp: ¬ps.length<np-1:=by omega
    clear hB how hp hns hwl hnl hnb akR ah5 ahq
    go_upto_region 13 with(fail)
    have hFr:=HF3.o.below HX.o.1 (by omega)
    refine wp_region_lit ?_
    refine wpList_load_row rfl _ _ rfl w.heap.size rfl _ _ _ _ hFr.s Tryz.underlying46 rfl (by kernel_rfl) ?_
    simp only[zp]
    have HFr:=ae hFr
    have FZ:=ae (F8 s ⟨vt,vn,vw,vu,vr,vh,vk,vs⟩ es wr (HS.o wr (aX HB3.o HX.o.1)) HG.o)
    have AA:=l8
    have HC8:=ae c8
    clear hFr c8 f8
    go_wp2_with fail
    refine FZ.o.mono ?_
    rintro e W4 ⟨hb4,wb,V',es',rfl,hO4⟩
    have aeZ:b8'<W3.heap.size:=(aV.1 HP3.o.2.1).1
    have hsr:=HX.o.1.size
    have ah7:=(hb4.block b8' (by omega)).trans ((HX.o.1.block b8' aeZ).trans HP3.o.2.1)
    obtain⟨c4,f4,l4⟩:=af ah7
    have hns:ns≠[]->sD wr.heap.size W4 (.slice o9 ps.length c9) ns:=fun hne=>by
     have hown4:=aA (Ms:=[]) HX.o.2.1 (Ext.az hb4) (by simp)
     have hlen:ps.length=ns.length:=by rw[HX.o.2.2.2.1,HO.o.2]
     have hpos:0<ps.length:=by rw[hlen];exact List.length_pos_iff.2 hne
     obtain⟨g,rfl,hcg,hfg,hgl⟩:=gZ hown4 hpos
     obtain⟨g2,hg2,aqe,_,Xu⟩:=gZ HX.o.2.1 hpos
     cases hg2
     refine⟨g,c9,by rw[hlen],Xu,fun j hj=>?_⟩
     have:=hcg j (by simpa [ah] using hj)
     simpa [ah] using this
    have alM:=TZ c
    have HA:=ae (adr c ns HX.o.2.2.2.1 HX.o.2.2.2.2 wr.heap.size W4 wb s V' es' (.slice o9 ps.length c9) hO4 hns HG.o)
    have HB4:=ae (aX HX.o.1 hb4)
    have UY:=ae hO4
    clear ah7 hns hb4 hO4
    go_wp2_with fail
    refine HA.o.mono ?_
    rintro e W5 ⟨hb5,⟨h0,rfl,V2,es2,hO5⟩|⟨hne,rfl⟩⟩
    rotate_left
    ·have hd:wJ bK s l=(s,(iU s c ns).1):=by rw[zG HX.o.2.2.1,aC hne]
     have aic:=HB4.o.trans (hb5.mono (show W3.heap.size<=wr.heap.size from hsr))
     exact abE.o _ hd W5 (aX HB3.o aic) (HF3.o.below aic (by omega)) _ rfl rfl
    have nM:=ae (HB4.o.trans (hb5.mono (show W3.heap.size<=wr.heap.size from hsr)))
    have HO5:=ae (ag h0 hO5)
    have hl5:=hO5.rows.lt
    have HST:=ae (Wh (iU s c ns).2 V2 es2 W5 hO5.st)
    have hk5:=hO5.blk
    clear hb5 h0 hO5 HA c4 f4 alM
    go_upto_region 15 with(fail)
    refine wp_region_lit ?_
    refine aN rfl _ (by go_simp;first|rfl|exact⟨rfl,rfl⟩) ?_
    simp only[zp]
    refine aN rfl _ (by go_simp;first|rfl|exact⟨rfl,rfl⟩) ?_
    simp only[zp]
    refine aN rfl _ (by go_simp;first|rfl|exact⟨rfl,rfl⟩) ?_
    simp only[zp]
    refine wpList_load_row rfl _ _ rfl wb rfl _ _ _ _ hk5 Tryz.underlying46 rfl (by kernel_rfl) ?_
    simp only[zp]
    have NI:=ae hk5
    clear hk5
    go_wp2_with fail
    refine HST.o.mono ?_
    rintro e W6 ⟨hb6,⟨h0,rfl⟩|⟨hne,rfl⟩⟩
    rotate_left
    ·have hd:wJ bK s l=(s,bK (iU s c ns).2):=by rw[zG HX.o.2.2.1,aj (by rw[HO5.o.1];simp),aC hne]
     have aib:=aX nM.o hb6
     exact abE.o _ hd W6 (aX HB3.o aib) (HF3.o.below aib (by omega)) _ rfl rfl
    have qo:=ae (aX nM.o hb6)
    have hk6:=(hb6.block wb hl5).trans NI.o
    have F6:=ae (ag h0 (HO5.o.2.below hb6))
    clear hb6 h0 HST
    go_upto_region 16 with(fail)
    refine wp_region_lit ?_
    refine aN rfl _ (by go_simp;first|rfl|exact⟨rfl,rfl⟩) ?_
    simp only[zp]
    refine aN rfl _ (by go_simp;first|rfl|exact⟨rfl,rfl⟩) ?_
    simp only[zp]
    refine aN rfl _ (by go_simp;first|rfl|exact⟨rfl,rfl⟩) ?_
    simp only[zp]
    refine wpList_load_row rfl _ _ rfl wb rfl _ _ _ _ hk6 Tryz.underlying46 rfl (by kernel_rfl) ?_
    simp only[zp]
    have afk:=HF3.o.below qo.o (by omega)
    obtain⟨A6,hA6,aiD⟩:=afk.a
    obtain⟨ec6,zZ⟩:=afk.e
    refine wpList_store_row rfl _ _ _ rfl (w.heap.size+1) _ rfl rfl _ _ hA6 (by kernel_rfl) (by rw[aiD];rfl) (by rw[nD];exact fun u hu=>iP F6.o.2.st u (nR.2 hu)) ?_
    simp only[zp]
    refine kC fun W7 FI=>?_
    have hA7:W7.heap[w.heap.size+1]? =some (.cells (dD (iU s c ns).2 V2) 46 (0,0)):=by rw[FI];exact setRow_heap W6 _ A6 _ _ _ hA6
    have afn:Ext [w.heap.size+1] W6 W7:=by rw[FI];exact fK
    have Bf:=(afn.block (w.heap.size+2) (aV.1 zZ).1 (by simp)).trans zZ
    obtain⟨c7,f7,l7⟩:=af Bf
    have c70:=c7 0
    simp at c70
    have HX7:=ae (ag hA7 (ag afn Bf))
    clear FI hA7 afn Bf hA6 zZ afk aiD c7 hk6
    go_wp2_with fail
    have hd:wJ bK s l=((iU s c ns).2,0):=by rw[zG HX.o.2.2.1,aj (by rw[HO5.o.1];simp),aj (by rw[F6.o.1];simp)]
    have MZ:Ext [w.heap.size+1,w.heap.size+2] W6 (W7.setCell ⟨w.heap.size+2,0,none⟩ (iv 0)):=(HX7.o.2.1.more (by simp)).trans (gI.more (by simp))
    have hA8:=(heap_setCell_other W7 ⟨w.heap.size+2,0,none⟩ (w.heap.size+1) (iv 0) (by simp)).trans HX7.o.1
    have aia:=qo.o
    have hsb:=aia.size
    refine OX rfl hA8 (aI HX7.o.2.2 _) _ _ rfl rfl ⟨?_,V2,es2,?_,?_,fun W' hE'=>?_⟩
    ·exact(aX HB3.o aia).trans ⟨MZ.os,MZ.tape,MZ.output,MZ.size,fun k hk=>MZ.block k (by have:=HB3.o.size;omega) (by simp;omega)⟩
    ·rw[hd]
    ·rw[hd]
     have Hz:=F6.o.2
     have hNb:=Hz.rows.base
     exact(show jX wr.heap.size _ wb (iU s c ns).2 V2 es2 from⟨(MZ.block wb Hz.rows.lt (by simp;omega)).trans Hz.blk,Hz.rows.keep MZ (fun m hm=> .inr (by simp at hm;omega)),Hz.es⟩).st
    ·rw[hd]
     have Hz:=F6.o.2
     have hNb:=Hz.rows.base
     have hO9:jX wr.heap.size _ wb (iU s c ns).2 V2 es2:=⟨(MZ.block wb Hz.rows.lt (by simp;omega)).trans Hz.blk,Hz.rows.keep MZ (fun m hm=> .inr (by simp at hm;omega)),Hz.es⟩
     have hsr:=HX.o.1.size
     have hs3:=HB3.o.size
     have hlt: ∀m∈Ms,m<wr.heap.size:=fun m hm=>by have:=HMS.o m hm;omega
     exact(show jX wr.heap.size W' wb (iU s c ns).2 V2 es2 from⟨(hE'.block wb hO9.rows.lt (fun h=>by have:=hlt wb h;omega)).trans hO9.blk,hO9.rows.keep hE' (fun m hm=> .inr (hlt m hm)),hO9.es⟩).st
abbrev eu:Array Value:=
 #[iv 0,iv 0,iv 0,iv 0,.slice none 0 0,iv 0,iv 0,iv 0,.slice none 0 0,iv 0,iv 0,iv 0,iv 0,iv 0,iv 0,iv 0,.slice none 0 0,.slice none 0 0,.slice none 0 0,.slice none 0 0,.slice none 0 0,.slice none 0 0]
abbrev yV (hp:Value) (wt:Value):Array Value:=
 #[iv 3,iv 2,iv 0,iv 3,.slice none 0 0,iv 10,iv 0,iv 2000,.slice none 0 0,iv 4,iv 10,iv 50,iv 10,iv 60,iv 30,iv 30,wt,.slice none 0 0,.slice none 0 0,hp,.slice none 0 0,.slice none 0 0]
theorem X0 (w:World):Calls Tryz.prog 66 #[] w (fun e w'=>Below w.heap.size w w'/\ ∃V es,e= .returned (.agg (dD eG V))/\oD w' eG V es/\ ∀Ms:List Nat,(∀m∈Ms,m<w.heap.size)-> ∀W',Ext Ms w' W'->oD W' eG V es):=by
 go_enter Tryz.func66,Tryz.ntmps66
 go_upto_region 1 with(fail)
 refine dH fun W1 hW1=>?_
 have hb1:Below w.heap.size w W1:=by rw[hW1];exact ak (aG _ _) _
 have hk1: ∃cs,W1.heap[w.heap.size]? =some (.cells cs 46 (0,0))/\cs.size=22:=by rw[hW1];exact⟨_,ay _ _,rfl⟩
 have hs1:W1.heap.size=w.heap.size+1:=by rw[hW1];simp
 have HB1:=ae hb1
 have VT:=ae hk1
 clear hW1 hb1 hk1
 refine wp_region_lit ?_
 refine aN rfl (w':=W1) (.agg #[iv 0,iv 3]) (by as_aux_lemma=>kernel_rfl) ?_
 simp only[zp]
 refine aN rfl (w':=W1) (.agg #[iv 3,iv 2,iv 0,iv 3,.slice none 0 0]) (by as_aux_lemma=>kernel_rfl) ?_
 simp only[zp]
 refine aN rfl (w':=W1) (.agg #[iv 0,iv 2000]) (by as_aux_lemma=>kernel_rfl) ?_
 simp only[zp]
 refine aN rfl (w':=W1) (.agg #[iv 3,iv 2,iv 0,iv 3,.slice none 0 0,iv 10,iv 0,iv 2000,.slice none 0 0]) (by as_aux_lemma=>kernel_rfl) ?_
 simp only[zp]
 refine aN rfl (w':=W1) (.agg #[iv 30,iv 30]) (by as_aux_lemma=>kernel_rfl) ?_
 simp only[zp]
 refine aN rfl (w':=W1) (.agg #[iv 4,iv 10,iv 50,iv 10,iv 60,iv 30,iv 30,.slice none 0 0,.slice none 0 0,.slice none 0 0]) (by as_aux_lemma=>kernel_rfl) ?_
 simp only[zp]
 refine aN rfl (w':=W1) (.agg #[iv 40,iv 40]) (by as_aux_lemma=>kernel_rfl) ?_
 simp only[zp]
 refine aN rfl (w':=W1.alloc (.cells #[iv 40,iv 40] 112 (0,0))) (.slice (some ⟨W1.heap.size,0,none⟩) 1 1) (by go_simp;try rfl) ?_
 simp only[zp]
 obtain⟨W2,hW2⟩: ∃W2,W2=W1.alloc (.cells #[iv 40,iv 40] 112 (0,0)):=⟨_,rfl⟩
 rw[<-hW2]
 have hb2:Below w.heap.size w W2:=by rw[hW2];exact ak HB1.o _
 have hk2:=VT.o
 obtain⟨cs,hcs,hcz⟩:=hk2
 have hk2:W2.heap[w.heap.size]? =some (.cells cs 46 (0,0)):=by rw[hW2];exact(heap_alloc_old _ _ (by omega)).trans hcs
 have hh2:W2.heap[W1.heap.size]? =some (.cells #[iv 40,iv 40] 112 (0,0)):=by rw[hW2];exact ay _ _
 have hs2:W2.heap.size=w.heap.size+2:=by rw[hW2];simp;omega
 rw[hs1]
 rw[hs1] at hh2
 clear hW2
 refine aN rfl (w':=W2) (.agg #[.slice (some ⟨w.heap.size+1,0,none⟩) 1 1,.slice none 0 0,.slice none 0 0]) (by as_aux_lemma=>kernel_rfl) ?_
 simp only[zp]
 refine aN rfl (w':=W2) (.agg (yV (.slice (some ⟨w.heap.size+1,0,none⟩) 1 1) (.slice none 0 0))) (by as_aux_lemma=>kernel_rfl) ?_
 simp only[zp]
 refine aN rfl (w':=(W2.alloc (.cells eu 46 (0,0)))) (.pointer (some ⟨W2.heap.size,0,none⟩)) (by go_simp;try rfl) ?_
 simp only[zp]
 rw[hs2]
 refine wpList_store_row rfl _ _ _ rfl (w.heap.size+2) (yV (.slice (some ⟨w.heap.size+1,0,none⟩) 1 1) (.slice none 0 0)) (by as_aux_lemma=>kernel_rfl) (by as_aux_lemma=>kernel_rfl) _ eu (by rw[<-hs2];exact ay _ _) (by kernel_rfl) (by as_aux_lemma=>kernel_rfl) (by as_aux_lemma=>kernel_rfl) ?_
 simp only[zp]
 refine kC fun W3 hW3=>?_
 have ah2:W3.heap[w.heap.size+2]? =some (.cells (yV (.slice (some ⟨w.heap.size+1,0,none⟩) 1 1) (.slice none 0 0)) 46 (0,0)):=by
  rw[hW3];exact setRow_heap _ _ _ _ _ _ (by rw[<-hs2];exact ay _ _)
 obtain⟨xB,kY⟩: ∃xB,xB=W2.alloc (.cells eu 46 (0,0)):=⟨_,rfl⟩
 rw[<-kY] at hW3
 have uJ:Ext [w.heap.size+2] xB W3:=by rw[hW3];exact fK
 have hs2':xB.heap.size=w.heap.size+3:=by rw[kY];simp;omega
 have hb3:Below w.heap.size w W3:=jf (by rw[kY];exact ak hb2 _) uJ (by omega)
 have hs3:=uJ.size
 have hk3:W3.heap[w.heap.size]? =some (.cells cs 46 (0,0)):=(uJ.block _ (by omega) (by simp)).trans (by rw[kY];exact(heap_alloc_old _ _ (by omega)).trans hk2)
 have hh3:W3.heap[w.heap.size+1]? =some (.cells #[iv 40,iv 40] 112 (0,0)):=(uJ.block _ (by omega) (by simp)).trans (by rw[kY];exact(heap_alloc_old _ _ (by omega)).trans hh2)
 have HB3:=ae hb3
 have CW:=ae ah2
 have HC3:=ae (ag hk3 (ag hcz hh3))
 clear hcs hcz hW3 kY uJ ah2 hk3 hh3 hb2 hk2 hh2 hb3
 go_wp2_with fail
 go_loopw [12] (fun u wr=> ∃i:Nat,i<=5/\u= .int .i64 i/\Below w.heap.size w wr/\w.heap.size+3<=wr.heap.size/\ ∃(o:Option Addr) (c:Nat),wr.ownsRow (w.heap.size+3) 34 2 (.slice o i c) i (aH (List.replicate i (6,6)))/\
  wr.heap[w.heap.size+2]? =some (.cells (yV (.slice (some ⟨w.heap.size+1,0,none⟩) 1 1) (.slice o i c)) 46 (0,0))/\ ∀k,k<w.heap.size+3->k≠w.heap.size+2->wr.heap[k]? =W3.heap[k]?) (fun u _=>5-(intOf u).toNat)
 case atStart=>exact⟨0,by omega,rfl,HB3.o,by omega,none,0,⟨rfl,.inl ⟨rfl,rfl⟩⟩,CW.o,fun _ _ _=>rfl⟩
 case round=>
  obtain⟨i,hi,rfl,hB,hsz,oo,oc,how,hbk,hoth⟩:=hrel
  obtain⟨c2,f2,l2⟩:=af hbk
  by_cases hlt:i<5
  ·have HX:=ae (ag hB (ag how (ag hbk hoth)))
   have g16:=c2 16
   simp only[yV] at g16
   clear hB how hbk hoth c2
   go_wp2_with (at_builtin;go_loud (refine dF rfl _ _ jJ.LK rfl (w.heap.size+3) (.slice oo i oc) i (aH (List.replicate i (6,6))) rfl (aA (Ms:=[]) HX.o.2.1 (Ext.az (ak (aG _ _) _)) (by simp)) (.slice (some ⟨wr.heap.size,0,none⟩) 1 1) 1 [iv 6,iv 6] rfl (aK.dw 2 1 (ay _ _) rfl (by decide)) (by simp[Value.oneCell']) (by omega) (by omega) (by simp;omega) ?_))
   intro v' W6 hown6 Jn _
   obtain⟨o6,c6,rfl⟩:=aT hown6
   have HP:=ae (ado (i:=16) (u:= .slice o6 (i+1) c6) HX.o.1 HX.o.2.1 (Ext.az (ak (aG _ _) _)) hown6 Jn hsz (by omega) (by omega) HX.o.2.2.1)
   obtain⟨aqd,ap0,apk⟩:=af (((yX HX.o.1 HX.o.2.1 (Ext.az (ak (aG _ _) _)) hown6 Jn (by omega) hsz).2.2 (w.heap.size+2) (by omega)).trans HX.o.2.2.1)
   clear hown6 Jn
   go_wp2_with fail
   go_roundw
   case rel=>
    refine⟨i+1,by omega,by go_num,HP.o.1,HP.o.2.1,o6,c6,?_,HP.o.2.2.2.1,fun k hk hne=>(HP.o.2.2.2.2 k hk hne).trans (HX.o.2.2.2 k hk hne)⟩
    have:=HP.o.2.2.1
    rw[List.replicate_succ']
    simpa [aH] using this
   case measure=>simp[intOf];omega
  ·obtain rfl:i=5:=by omega
   have HX:=ae (ag hB (ag how (ag hbk hoth)))
   clear hB how hbk hoth
   go_upto_region 6 with(fail)
   have hk0:=(HX.o.2.2.2 w.heap.size (by omega) (by omega)).trans HC3.o.1
   refine wp_region_lit ?_
   refine wpList_load_row rfl _ _ rfl (w.heap.size+2) rfl _ _ _ _ HX.o.2.2.1 Tryz.underlying46 rfl (by kernel_rfl) ?_
   simp only[zp]
   refine wpList_store_row rfl _ _ _ rfl w.heap.size (yV (.slice (some ⟨w.heap.size+1,0,none⟩) 1 1) (.slice oo (5:Nat) oc)) (by as_aux_lemma=>kernel_rfl) (by as_aux_lemma=>kernel_rfl) _ cs hk0 (by kernel_rfl) (by rw[HC3.o.2.1];rfl) (by as_aux_lemma=>kernel_rfl) ?_
   simp only[zp]
   refine kC fun W7 FI=>?_
   have Bf:Ext [w.heap.size] wr W7:=by rw[FI];exact fK
   have hb7:=jf HX.o.1 Bf (ai _)
   have EN:W7.heap[w.heap.size]? =some (.cells (yV (.slice (some ⟨w.heap.size+1,0,none⟩) 1 1) (.slice oo (5:Nat) oc)) 46 (0,0)):=by rw[FI];exact setRow_heap _ _ _ _ _ _ hk0
   have hw7:=aA (Ms:=[w.heap.size]) HX.o.2.1 Bf (by simp)
   have hh7:=(Bf.block (w.heap.size+1) (by omega) (by simp)).trans ((HX.o.2.2.2 (w.heap.size+1) (by omega) (by omega)).trans HC3.o.2.2)
   have H7:=ae (ag hb7 (ag EN (ag hw7 hh7)))
   clear FI Bf hb7 EN hw7 hh7 hk0
   go_upto_region 7 with(fail)
   refine bodyPost_ret (v:= .agg (yV (.slice (some ⟨w.heap.size+1,0,none⟩) 1 1) (.slice oo (5:Nat) oc))) (results_cell_row Tryz.results66 _ _ w.heap.size _ _ (0,0) _ rfl H7.o.2.1 Tryz.underlying46 rfl (by kernel_rfl)) rfl ?_
   refine⟨H7.o.1,⟨.slice none 0 0,.slice none 0 0,.slice oo (5:Nat) oc,.slice none 0 0,.slice none 0 0,.slice (some ⟨w.heap.size+1,0,none⟩) 1 1,.slice none 0 0,.slice none 0 0⟩,[],rfl,?_⟩
   have hst: ∀Ms:List Nat,(∀m∈Ms,m<w.heap.size)-> ∀W',Ext Ms W7 W'->oD W' eG ⟨.slice none 0 0,.slice none 0 0,.slice oo (5:Nat) oc,.slice none 0 0,.slice none 0 0,.slice (some ⟨w.heap.size+1,0,none⟩) 1 1,.slice none 0 0,.slice none 0 0⟩ []:=fun Ms hMs W' hE'=>by
    have hn: ∀k,aK k W' (.slice none 0 0) 0 []:=fun k=>⟨by simp,none,0,rfl,ai _,by decide,fun _=>rfl,fun a h=>by cases h⟩
    have h1:=aA (Ms:=Ms) H7.o.2.2.1 hE' (fun m hm=>by have:=hMs m hm;omega)
    have h2:=(hE'.block (w.heap.size+1) (aV.1 H7.o.2.2.2).1 (fun h=>by have:=hMs _ h;omega)).trans H7.o.2.2.2
    exact⟨hn _,hn _,aK.dR h1,hn _,hn _,⟨aK.dw 2 1 h2 rfl (by decide),⟨hn _,fun e he=>by cases he⟩,rfl,hn _⟩⟩
   exact⟨hst [] (by simp) _ (Ext.refl _ _),hst⟩
theorem agH:iR Tryz.prog 51 52 (iv 0) 1 8:=⟨Tryz.underlying51,by kernel_rfl,rfl,by omega⟩
theorem Df {w:World} {o:Option Addr} {n c:Nat} {l:List aF} (h:aK 1 w (.slice o n c) n (aZ l)) {k:Nat} (hk:k<l.length):
 ∃b off,o=some ⟨b,off,none⟩/\b<w.heap.size/\w.cell? ⟨b,off+k,none⟩=some (.string (dV l[k])):=by
 obtain⟨hl,o',c',hv,h1,h2,h3,h4⟩:=h
 cases hv
 have hn:n=l.length:=by simpa [aZ] using hl.symm
 cases o with
 |none=>have:=h3 rfl;omega
 |some a=>
  obtain⟨b,off,sp⟩:=a
  obtain⟨hs,hc⟩:=h4 _ rfl
  simp only at hs hc
  subst hs
  have:=hc k (.string (dV l[k])) (by simp[aZ,hk])
  exact⟨b,off,rfl,dP w _ this,this⟩
def ai0 (Qs:List Nat) (ls:List aF) (w:World) (e:Ending) (w':World):Prop:=
 Below w.heap.size w w'/\ ∃V es cv,e= .returned (.tuple #[.agg (dD (fB bK eG ls).1 V),cv])/\(∀W',Ext Qs w' W'->oD W' (fB bK eG ls).1 V es)/\w'.ownsRow w.heap.size 52 1 cv ls.length (ah (fB bK eG ls).2)
theorem yz (lv:Value) (ls:List aF) (w:World) (hls:iY w lv ls) (hE:Env w) (hln: ∀l∈ls,l.length<=1000) (hn:ls.length<=1000000) (Qs:List Nat) (hQs: ∀m∈Qs,m<w.heap.size):Calls Tryz.prog 38 #[lv] w (ai0 Qs ls w):=by
 obtain⟨ov,cv,rfl⟩:=aK.open hls
 have JC:Hid (∀W,Below w.heap.size w W->iY W (.slice ov ls.length cv) ls):=ae (fun W hb=>hls.below hb (ai _))
 have HE:Hid (∀W,Below w.heap.size w W->Env W):=ae (fun W hb=>hE.below hb (ai _))
 clear hls hE
 go_enter Tryz.func38,Tryz.ntmps38
 go_upto_region 1 with(fail)
 refine dH fun W1 hW1=>?_
 have hb1:Below w.heap.size w W1:=by rw[hW1];exact ak (aG _ _) _
 have hk1: ∃cs,W1.heap[w.heap.size]? =some (.cells cs 46 (0,0))/\cs.size=22:=by rw[hW1];exact⟨_,ay _ _,rfl⟩
 have hs1:W1.heap.size=w.heap.size+1:=by rw[hW1];simp
 have HB1:=ae hb1
 have VT:=ae hk1
 clear hW1 hb1 hk1
 go_wp2_with fail
 refine(X0 W1).mono ?_
 rintro e W2 ⟨hb2,V0,es0,rfl,hS0,hX0⟩
 rename_i hK
 refine hK _ _ ?_
 have hs2:=hb2.size
 refine aN rfl (w':=(W2.alloc (.cells eu 46 (0,0)))) (.pointer (some ⟨W2.heap.size,0,none⟩)) (by go_simp;try rfl) ?_
 simp only[zp]
 obtain⟨g,hg⟩: ∃g,g=W2.heap.size:=⟨_,rfl⟩
 rw[<-hg]
 have hz:(W2.alloc (.cells eu 46 (0,0))).heap[g]? =some (.cells eu 46 (0,0)):=by rw[hg];exact ay _ _
 refine wpList_store_row rfl _ _ _ rfl g (dD eG V0) (by as_aux_lemma=>kernel_rfl) (by as_aux_lemma=>kernel_rfl) _ eu hz (by kernel_rfl) (by as_aux_lemma=>kernel_rfl) (by rw[nD];exact fun u hu=>iP hS0 u (nR.2 hu)) ?_
 simp only[zp]
 refine kC fun W3 hW3=>?_
 obtain⟨xB,kY⟩: ∃xB,xB=W2.alloc (.cells eu 46 (0,0)):=⟨_,rfl⟩
 rw[<-kY] at hW3 hz
 have uJ:Ext [g] xB W3:=by rw[hW3];exact fK
 have hs3:=uJ.size
 have hs2':xB.heap.size=g+1:=by rw[kY,hg];simp
 have mV:Below W2.heap.size W2 W3:=jf (by rw[kY];exact ak (aG _ _) _) uJ (by omega)
 have hS3:oD W3 eG V0 es0:=hS0.below mV (ai _)
 have hk3:W3.heap[g]? =some (.cells (dD eG V0) 46 (0,0)):=by rw[hW3];exact setRow_heap _ _ _ _ _ _ hz
 have hX3: ∀W',Ext (w.heap.size::g::Qs) W3 W'->oD W' eG V0 es0:=fun W' hE'=>hX0 (w.heap.size::Qs) (fun m hm=>by
  rcases gK.1 hm with rfl|hm
  ·omega
  ·have:=hQs m hm;omega) W' ⟨mV.os▸hE'.os,hE'.tape.trans mV.tape,hE'.output.trans mV.output,jo mV.size hE'.size,fun k hk hm=>(hE'.block k (by omega) (fun h=>by
   rcases gK.1 h with h|h
   ·exact hm (by rw[h];exact List.mem_cons_self)
   ·rcases gK.1 h with h|h
    ·omega
    ·exact hm (qj _ h))).trans (mV.block k hk)⟩
 have hr3: ∃cs,W3.heap[w.heap.size]? =some (.cells cs 46 (0,0))/\cs.size=22:=by
  obtain⟨cs,h1,h2⟩:=VT.o
  exact⟨cs,(mV.block _ (by omega)).trans ((hb2.block _ (by omega)).trans h1),h2⟩
 have HB3:=ae (aX HB1.o (aX hb2 mV))
 have H3:=ae (ag hS3 (ag hk3 (ag hr3 hX3)))
 have hgw:w.heap.size+1<=g:=by omega
 have hg3:g+1<=W3.heap.size:=by omega
 clear hX3 hX0 hW3 kY uJ mV hS3 hk3 hr3 hz hS0 hb2 hg hK
 go_wp2_with fail
 go_loopw [5,13] (fun v5 u wr=> ∃i:Nat,i<=ls.length/\u= .int .i64 i/\Below w.heap.size w wr/\W3.heap.size<=wr.heap.size/\ ∃(o:Option Addr) (c:Nat) (V:SV) (es:List KE),v5= .slice o i c/\wr.ownsRow W3.heap.size 52 1 (.slice o i c) i (ah (fB bK eG (ls.take i)).2)/\
  wr.heap[g]? =some (.cells (dD (fB bK eG (ls.take i)).1 V) 46 (0,0))/\oD wr (fB bK eG (ls.take i)).1 V es/\wr.heap[w.heap.size]? =W3.heap[w.heap.size]?/\ ∀W',Ext (w.heap.size::g::((Value.slice o i c).ownBlock.toList++Qs)) wr W'->oD W' (fB bK eG (ls.take i)).1 V es) (fun _ u _=>ls.length-(intOf u).toNat)
 case atStart=>exact⟨0,bW _,rfl,HB3.o,ai _,none,0,V0,es0,rfl,⟨rfl,.inl ⟨rfl,rfl⟩⟩,H3.o.2.1,H3.o.1,rfl,H3.o.2.2.2⟩
 case round=>
  obtain⟨i,hi,rfl,hB,hsz,oo,oc,V,es,rfl,how,hbk,hS,hr0,hXM⟩:=hrel
  by_cases hlt:i<ls.length
  ·obtain⟨bl,off,hov,hbl,hcl⟩:=Df (JC.o _ hB) hlt
   have HX:=ae (ag hB (ag how (ag hbk (ag hS (ag hr0 hXM)))))
   have HD:=ae (afs (fB bK eG (ls.take i)).1 V es ls[i] wr hS (JZ _ IJ) (HE.o wr hB) (hln _ (bT hlt)) (w.heap.size::g::((Value.slice oo i oc).ownBlock.toList++Qs)) (fun m hm=>by
    rcases gK.1 hm with rfl|hm
    ·omega
    ·rcases gK.1 hm with rfl|hm
     ·omega
     ·rcases iE.1 hm with hm|hm
      ·exact(bH how m (dM.1 hm)).2
      ·have:=hQs m hm;omega) hXM)
   subst hov
   clear hB how hbk hS hr0 hXM
   go_upto_region 6 with(fail)
   refine wp_region_lit ?_
   refine wpList_load_row rfl _ _ rfl g rfl _ _ _ _ HX.o.2.2.1 Tryz.underlying46 rfl (by kernel_rfl) ?_
   simp only[zp]
   go_wp2_with fail
   refine HD.o.mono ?_
   rintro e W4 ⟨hb4,V4,es4,rfl,hS4,hX4⟩
   rename_i hK
   refine hK _ _ ?_
   refine aN rfl _ (by go_simp;first|rfl|exact⟨rfl,rfl⟩) ?_
   simp only[zp]
   refine aN rfl _ (by go_simp;first|rfl|exact⟨rfl,rfl⟩) ?_
   simp only[zp]
   refine aN rfl _ (by go_simp;first|rfl|exact⟨rfl,rfl⟩) ?_
   simp only[zp]
   obtain⟨q,hq⟩: ∃q,q=W4.heap.size:=⟨_,rfl⟩
   have hs4:=hb4.size
   refine aN rfl (w':=W4.alloc (.cells eu 46 (0,0))) (.pointer (some ⟨q,0,none⟩)) (by rw[hq];go_simp;try rfl) ?_
   simp only[zp]
   have hz:(W4.alloc (.cells eu 46 (0,0))).heap[q]? =some (.cells eu 46 (0,0)):=by rw[hq];exact ay _ _
   refine wpList_store_row rfl _ _ _ rfl q (dD (wJ bK (fB bK eG (ls.take i)).1 ls[i]).1 V4) (by as_aux_lemma=>kernel_rfl) (by as_aux_lemma=>kernel_rfl) _ eu hz (by kernel_rfl) (by as_aux_lemma=>kernel_rfl) (by rw[nD];exact fun u hu=>iP hS4 u (nR.2 hu)) ?_
   simp only[zp]
   refine kC fun W5 yI=>?_
   obtain⟨W4',acZ⟩: ∃W4',W4'=W4.alloc (.cells eu 46 (0,0)):=⟨_,rfl⟩
   rw[<-acZ] at yI hz
   have PI:Ext [q] W4' W5:=by rw[yI];exact fK
   have acK:W4'.heap.size=q+1:=by rw[acZ,hq];simp
   have hs5:=PI.size
   have afg:Below W4.heap.size W4 W5:=jf (by rw[acZ];exact ak (aG _ _) _) PI (by omega)
   have hk5:W5.heap[q]? =some (.cells (dD (wJ bK (fB bK eG (ls.take i)).1 ls[i]).1 V4) 46 (0,0)):=by rw[yI];exact setRow_heap _ _ _ _ _ _ hz
   have hb5:=aX hb4 afg
   have H5:=ae (ag hb5 (ag afg (ag hk5 (ag hS4 hX4))))
   clear yI acZ PI afg hk5 hz hS4 hX4 hb4 hb5 hK
   go_upto_region 7 with(fail)
   have hTK:fB bK eG (ls.take (i+1))=((wJ bK (fB bK eG (ls.take i)).1 ls[i]).1,(fB bK eG (ls.take i)).2++[(wJ bK (fB bK eG (ls.take i)).1 ls[i]).2]):=by rw[iy hlt,WJ]
   obtain⟨code,hcode⟩: ∃code,code=(wJ bK (fB bK eG (ls.take i)).1 ls[i]).2:=⟨_,rfl⟩
   rw[<-hcode] at hTK⊢
   obtain⟨Ms,hMs⟩: ∃Ms,Ms=(Value.slice oo i oc).ownBlock.toList:=⟨_,rfl⟩
   have hm0: ∀m∈Ms,W3.heap.size<=m/\m<wr.heap.size:=fun m h=>bH HX.o.2.1 m (by rw[hMs] at h;exact dM.1 h)
   have xJ: ∀m∈Ms,m<W5.heap.size:=fun m h=>by have:=hm0 m h;omega
   have hm1:q∉Ms:=fun h=>by have:=hm0 q h;omega
   have hm2:g∉Ms:=fun h=>by have:=hm0 g h;omega
   have hq5:q<W5.heap.size:=by omega
   have QP:=ae hTK
   have HM:=ae hMs
   clear hTK hMs hcode
   refine zg 5 Ms (some 4) [(3,Spec.slice W5.heap.size #[iv code] 52 1),(4,⟨fun _ v=> ∃o2 c2,v= .slice o2 (i+1) c2,fun _ v Wx=>Wx.ownsRow W3.heap.size 52 1 v (i+1) (ah (fB bK eG (ls.take i)).2++[iv code])/\(v.ownBlock=(Value.slice oo i oc).ownBlock∨ ∃q,v.ownBlock=some q/\W5.heap.size<=q)⟩)] ?_
   simp only[zt]
   refine iH (by rfl) (.agg (dD (wJ bK (fB bK eG (ls.take i)).1 ls[i]).1 V4)) (by rfl) (fun W hE hF=>?_) ?_
   ·exact Ac _ _ rfl q rfl _ _ _ _ ((hE.block q hq5 hm1).trans H5.o.2.2.1) Tryz.underlying46 rfl (by kernel_rfl)
   simp only[zp]
   repeat ((first|refine zd ?_|refine zk ?_);simp only[zp])
   refine cu W5.heap.size _ _ 1 (by rfl) (ai _) (by rfl) xJ (by simp) (fun W hW=>by go_simp;try rfl) (fun b6=>?_)
   simp only[zp]
   refine bJ _ (by rfl) (by rfl) (by exact⟨.slice none (i+1) 0,none,0,rfl⟩) (fun W6 hE hF=>?_) (fun v Wa Wb ho hE=>?_) (fun v hv=>?_)
   ·have hE':Ext [] W5 W6:=hE
    obtain⟨b',hb',hge,hcc⟩:=hF _ (bg _) (by kernel_rfl)
    cases hb'
    have hown6:=aA (Ms:=[]) HX.o.2.1 ((Ext.az H5.o.1).trans hE') (by simp)
    have hsrc:aK 1 W6 (.slice (some ⟨b6,0,none⟩) 1 1) 1 ([iv code]):=aK.dw 1 1 hcc rfl (by decide)
    refine Does.mono (dU agH (by rfl) (by rfl) hown6 (by rfl) hsrc (one_one code) (by omega) (by omega) (by have:=hE'.size;omega)) ?_
    rintro v' W7 ⟨ho,hgr,hcase⟩
    refine⟨aU ho,⟨ho,hcase.imp id fun h1=>⟨_,h1,hE'.size⟩⟩,⟨hgr.os,hgr.tape,hgr.output,hgr.size,fun b hb hn=>hgr.block b hb (fun e=>hn (by rw[HM.o];exact dM.2 e.symm))⟩⟩
   ·exact⟨aA (Ms:=[]) ho.1 hE (by simp),ho.2⟩
   obtain⟨o7,c7,rfl⟩:=hv
   simp only[zp]
   intro W6 hE hF
   obtain⟨ho6,hg6⟩:=hF _ (bg _)
   have zZ:Ext Ms W5 W6:=hE
   have hs6:=zZ.size
   have hkg:=(zZ.block g (by omega) hm2).trans ((H5.o.1.block g (by omega)).trans HX.o.2.2.1)
   refine wpList_store_row rfl _ _ _ rfl g (dD (wJ bK (fB bK eG (ls.take i)).1 ls[i]).1 V4) (by as_aux_lemma=>kernel_rfl) (by as_aux_lemma=>kernel_rfl) _ _ hkg (by kernel_rfl) rfl (by rw[nD];exact fun u hu=>iP H5.o.2.2.2.1 u (nR.2 hu)) ?_
   simp only[zp]
   refine kC fun W7 FI=>?_
   have Bf:Ext [g] W6 W7:=by rw[FI];exact fK
   have EN:W7.heap[g]? =some (.cells (dD (wJ bK (fB bK eG (ls.take i)).1 ls[i]).1 V4) 46 (0,0)):=by rw[FI];exact setRow_heap _ _ _ _ _ _ hkg
   have hs7:=Bf.size
   have TM:Below w.heap.size w W7:=by
    have alv:=aX HX.o.1 H5.o.1
    exact alv.trans ⟨Bf.os.trans zZ.os,Bf.tape.trans zZ.tape,Bf.output.trans zZ.output,by omega,fun k hk=>(Bf.block k (by omega) (by simp;omega)).trans (zZ.block k (by omega) (fun h=>by have:=hm0 k h;omega))⟩
   have ho7:=aA (Ms:=[g]) ho6 Bf (by simp;omega)
   have Vp:W7.heap[w.heap.size]? =W3.heap[w.heap.size]? :=(Bf.block _ (by omega) (by simp;omega)).trans ((zZ.block _ (by omega) (fun h=>by have:=hm0 _ h;omega)).trans ((H5.o.1.block _ (by omega)).trans HX.o.2.2.2.2.1))
   have hX7: ∀W',Ext (w.heap.size::g::((Value.slice o7 (i+1) c7).ownBlock.toList++Qs)) W7 W'->oD W' (wJ bK (fB bK eG (ls.take i)).1 ls[i]).1 V4 es4:=fun W' hE'=>by
    have h45:=H5.o.2.1
    have aqr:=h45.size
    refine H5.o.2.2.2.2 W' ⟨hE'.os.trans (Bf.os.trans (zZ.os.trans h45.os)),hE'.tape.trans (Bf.tape.trans (zZ.tape.trans h45.tape)),hE'.output.trans (Bf.output.trans (zZ.output.trans h45.output)),by have:=hE'.size;omega,fun k hk hm=>?_⟩
    have n1:k≠w.heap.size:=fun e=>hm (by simp[e])
    have n2:k≠g:=fun e=>hm (by simp[e])
    have n3:k∉(Value.slice oo i oc).ownBlock.toList:=fun h=>hm (qj _ (qj _ (oN _ h)))
    have n5:k∉Qs:=fun h=>hm (qj _ (qj _ (uF _ h)))
    have n4:k∉(Value.slice o7 (i+1) c7).ownBlock.toList:=fun h=>by
     rcases hg6 with h1|⟨x,h1,h2⟩
     ·rw[h1] at h;exact n3 h
     ·rw[h1] at h;simp at h;omega
    exact(hE'.block k (by omega) (fun h=>by rcases gK.1 h with h|h;(exact n1 h);rcases gK.1 h with h|h;(exact n2 h);rcases iE.1 h with h|h;(exact n4 h);exact n5 h)).trans ((Bf.block k (by omega) (by simpa using n2)).trans ((zZ.block k (by omega) (by rw[HM.o];exact n3)).trans (h45.block k hk)))
   have aah:oD W7 (wJ bK (fB bK eG (ls.take i)).1 ls[i]).1 V4 es4:=hX7 W7 (Ext.refl _ _)
   have H7:=ae (ag TM (ag ho7 (ag EN (ag aah (ag Vp hX7)))))
   have akI:W3.heap.size<=W7.heap.size:=by omega
   clear TM ho7 EN aah Vp hX7 FI Bf zZ hE hF ho6 hg6 hkg
   go_wp2_with fail
   go_roundw
   case rel=>
    refine⟨i+1,by omega,by go_num,H7.o.1,akI,o7,c7,V4,es4,rfl,?_⟩
    rw[QP.o]
    refine⟨?_,H7.o.2.2.1,H7.o.2.2.2.1,H7.o.2.2.2.2.1,H7.o.2.2.2.2.2⟩
    simpa [ah] using H7.o.2.1
   case measure=>simp[intOf];omega
  ·obtain rfl:i=ls.length:=by omega
   have HX:=ae (ag hB (ag how (ag hbk (ag hS (ag hr0 hXM)))))
   clear hB how hbk hS hr0 hXM
   go_upto_region 9 with(fail)
   obtain⟨cs,hcs,hcz⟩:=H3.o.2.2.1
   have hk0:=HX.o.2.2.2.2.1.trans hcs
   refine wp_region_lit ?_
   refine wpList_load_row rfl _ _ rfl g rfl _ _ _ _ HX.o.2.2.1 Tryz.underlying46 rfl (by kernel_rfl) ?_
   simp only[zp]
   refine aN rfl _ (by go_simp;first|rfl|exact⟨rfl,rfl⟩) ?_
   simp only[zp]
   refine wpList_store_row rfl _ _ _ rfl w.heap.size (dD (fB bK eG (ls.take ls.length)).1 V) (by as_aux_lemma=>kernel_rfl) (by as_aux_lemma=>kernel_rfl) _ cs hk0 (by kernel_rfl) (by rw[hcz];rfl) (by rw[nD];exact fun u hu=>iP HX.o.2.2.2.1 u (nR.2 hu)) ?_
   simp only[zp]
   refine kC fun W7 FI=>?_
   have Bf:Ext [w.heap.size] wr W7:=by rw[FI];exact fK
   have hb7:=jf HX.o.1 Bf (ai _)
   have EN:W7.heap[w.heap.size]? =some (.cells (dD (fB bK eG (ls.take ls.length)).1 V) 46 (0,0)):=by rw[FI];exact setRow_heap _ _ _ _ _ _ hk0
   have hw7:=aA (Ms:=[w.heap.size]) HX.o.2.1 Bf (by simp;omega)
   have aah: ∀W',Ext Qs W7 W'->oD W' (fB bK eG (ls.take ls.length)).1 V es:=fun W' hE'=>HX.o.2.2.2.2.2 W' ((Bf.more (by simp)).trans (hE'.more (fun m hm=>qj _ (qj _ (uF _ hm)))))
   have H7:=ae (ag hb7 (ag EN (ag hw7 aah)))
   clear FI Bf hb7 EN hw7 hk0 aah
   go_wp2_with fail
   refine bodyPost_ret (v:= .tuple #[.agg (dD (fB bK eG (ls.take ls.length)).1 V),.slice oo ls.length oc]) ?_ rfl ?_
   ·have q1:=run_loadVar_row (P:=Tryz.prog) W7 w.heap.size 46 46 _ (0,0) _ H7.o.2.1 Tryz.underlying46 rfl (by kernel_rfl)
    simp[results,Tryz.results38,asAddr,q1]
   ·have h7:=H7.o
    rw[List.take_length] at h7⊢
    exact⟨h7.1,V,es,_,rfl,h7.2.2.2,bY h7.2.2.1 (by omega)⟩
theorem Xb (k:Int) (l:aF) (w:World) (hl:l.length<=1000000):Calls Tryz.prog 64 #[iv k,.string (dV l)] w (PV (.bool (decide ((l.length:Int)<=k))) w):=by
 have hs:(dV l).size=l.length:=by simp[ByteArray.size]
 go_enter Tryz.func64,Tryz.ntmps64
 go_wp2_with fail
 go_returns
 exact⟨rfl,aG _ _⟩
abbrev sv (l:aF):Value:= .string (dV l)
theorem iY.cell {w:World} {o:Option Addr} {n c:Nat} {l:List aF} (h:aK 1 w (.slice o n c) n (aZ l)) {k:Nat} (hk:k<l.length):
 ∃b off,o=some ⟨b,off,none⟩/\b<w.heap.size/\w.cell? ⟨b,off+k,none⟩=some (sv l[k]):=Df h hk
theorem akt (l:List aF) (v:Value) (bz:Nat) (fst caps:Array Value) (p:Nat->Bool) (I:Nat->World->Prop) (w:World) (eg: ∀args w,(callFunc bz args).run Tryz.prog w= .ok (.enter bz args) w)
 (hsl: ∀k W,I k W->iY W v l)
 (hcall: ∀k (hk:k<l.length) W,(∀j,j<k->p j=false)->I k W->Calls Tryz.prog bz (fst.push (sv l[k])++caps) W (fun e W'=>e= .returned (.bool (p k))/\I (k+1) W')) (h0:I 0 w):
 Calls Tryz.prog 174 #[v,.func (.func bz) fst caps] w (eP l.length p I (fun k=>iv k) (iv (-1))):=by
 have hlen:=(hsl 0 w h0).len
 obtain⟨o,c,rfl⟩:=(hsl 0 w h0).open
 have HC:=ae hcall
 have HS:=ae hsl
 clear hcall hsl
 go_enter Tryz.func174,Tryz.ntmps174
 go_wp2
 go_loopw [4,5,8] (fun _ _ i wr=> ∃k:Nat,k<=l.length/\i= .int .i64 k/\(∀j,j<k->p j=false)/\I k wr) (fun _ _ i _=>l.length-(intOf i).toNat)
 case atStart=>exact⟨0,bW _,rfl,fun j hj=>by omega,h0⟩
 case round=>
  obtain⟨k,hk,rfl,hno,hI⟩:=hrel
  by_cases hlt:k<l.length
  ·obtain⟨b,off,rfl,hb,hc0⟩:=iY.cell (HS.o k wr hI) hlt
   have hC:=HC.o k hlt wr hno hI
   have HN:=ae hno
   clear hno
   go_wp2_with fail
   refine hC.mono ?_
   rintro e W1 ⟨rfl,hI1⟩
   have HI:=ae hI1
   clear hI1 hI hC
   cases hp:p k
   ·go_wp2_with fail
    go_roundw
    case rel=>exact⟨k+1,by omega,by go_num,fun j hj=>(by by_cases e:j=k;(subst e;exact hp);exact HN.o j (by omega)),HI.o⟩
    case measure=>simp[intOf];omega
   ·go_wp2_with fail
    go_returns
    exact⟨k,by omega,HN.o,.inl ⟨hlt,hp,by simp,HI.o⟩⟩
  ·have hkl:k=l.length:=by omega
   have HN:=ae hno
   clear hno
   go_wp2_with fail
   go_returns
   exact⟨k,by omega,HN.o,.inr ⟨hkl,by simp,by subst hkl;exact hI⟩⟩
theorem aiK (l:List aF) (v:Value) (bz:Nat) (fst caps:Array Value) (p:Nat->Bool) (I:Nat->World->Prop) (w:World) (eg: ∀args w,(callFunc bz args).run Tryz.prog w= .ok (.enter bz args) w)
 (hsl: ∀k W,I k W->iY W v l)
 (hcall: ∀k (hk:k<l.length) W,(∀j,j<k->p j=false)->I k W->Calls Tryz.prog bz (fst.push (sv l[k])++caps) W (fun e W'=>e= .returned (.bool (p k))/\I (k+1) W')) (h0:I 0 w):
 Calls Tryz.prog 107 #[v,.func (.func bz) fst caps] w (eP l.length p I (fun _=> .bool true) (.bool false)):=by
 have HI:=ae (akt l v bz fst caps p I w eg hsl hcall h0)
 have hlen:=(hsl 0 w h0).len
 clear hsl hcall h0 eg
 go_enter Tryz.func107,Tryz.ntmps107
 go_wp2_with fail
 refine HI.o.mono ?_
 clear HI
 rintro e W' ⟨k,hk,hno,⟨hlt,hp,rfl,hI⟩|⟨hkl,rfl,hI⟩⟩
 ·have HN:=ae (ag hno (ag hp hI))
  clear hno hp hI
  go_wp2_with fail
  go_returns
  exact⟨k,hk,HN.o.1,.inl ⟨hlt,HN.o.2.1,by simp,HN.o.2.2⟩⟩
 ·have HN:=ae (ag hno (ag hkl hI))
  clear hno hkl hI
  go_wp2_with fail
  go_returns
  exact⟨k,hk,HN.o.1,.inr ⟨HN.o.2.1,by simp,HN.o.2.1▸HN.o.2.2⟩⟩
theorem abn (b:Nat) (l:aF) (w:World) (hc:w.cell? ⟨b,0,none⟩=some (.func (.func 64) #[iv 60] #[])) (hl:l.length<=1000000):Calls Tryz.prog 108 #[sv l,.pointer (some ⟨b,0,none⟩)] w (PV (.bool (!decide ((l.length:Int)<=60))) w):=by
 have HC:=ae (Xb 60 l w hl)
 go_enter Tryz.func108,Tryz.ntmps108
 go_wp2_with fail
 refine HC.o.mono ?_
 rintro e w' ⟨rfl,hb⟩
 go_wp2_with fail
 go_returns
 exact⟨rfl,hb⟩
theorem abl (b:Nat) (l:List aF) (v:Value) (w:World) (hv:iY w v l) (hc:w.cell? ⟨b,0,none⟩=some (.func (.func 64) #[iv 60] #[])) (hb:b<w.heap.size) (hln: ∀x∈l,x.length<=1000000):Calls Tryz.prog 107 #[v,.func (.func 108) #[] #[.pointer (some ⟨b,0,none⟩)]] w (PV (.bool (l.any fun x=>!decide ((x.length:Int)<=60))) w):=by
 refine(aiK l v 108 #[] #[.pointer (some ⟨b,0,none⟩)] (fun k=>!decide (((l.getD k []).length:Int)<=60)) (fun _ W=>Below w.heap.size w W) w (enters_of Tryz.func108 (by kernel_rfl) rfl) (fun k W h=>hv.below h (ai _)) (fun k hk W _ h=>?_) (aG _ _)).mono ?_
 ·refine(abn b l[k] W ((jd (h.block b hb)).trans hc) (hln _ (bT hk))).mono ?_
  rintro e W' ⟨rfl,hb'⟩
  exact⟨by simp[hk],aX h hb'⟩
 ·rintro e W' ⟨k,hk,hno,⟨hlt,hp,rfl,hI⟩|⟨hkl,rfl,hI⟩⟩
  ·refine⟨?_,hI⟩
   have:(l.any fun x=>!decide ((x.length:Int)<=60))=true:=List.any_eq_true.2 ⟨l[k],bT _,by simpa [hlt] using hp⟩
   rw[this]
  ·refine⟨?_,hI⟩
   have:(l.any fun x=>!decide ((x.length:Int)<=60))=false:=by
    rw[List.any_eq_false]
    intro x hx
    obtain⟨j,hj,rfl⟩:=mF hx
    have:=hno j (by omega)
    simpa [hj] using this
   rw[this]
theorem adq (l:List aF) (v:Value) (w:World) (hv:iY w v l) (hln: ∀x∈l,x.length<=1000000):Calls Tryz.prog 65 #[v,.func (.func 64) #[iv 60] #[]] w (PV (.bool (!(l.any fun x=>!decide ((x.length:Int)<=60)))) w):=by
 have HV:=ae hv
 clear hv
 go_enter Tryz.func65,Tryz.ntmps65
 go_upto_region 1 with(fail)
 refine dH fun W1 hW1=>?_
 have hb1:Below w.heap.size w W1:=by rw[hW1];exact ak (aG _ _) _
 have hc1:W1.cell? ⟨w.heap.size,0,none⟩=some (.func (.func 64) #[iv 60] #[]):=by rw[hW1];exact(af (ay _ _)).1 0
 have hs1:w.heap.size<W1.heap.size:=by rw[hW1];simp
 have HA:=ae (abl w.heap.size l v W1 (aK.below HV.o hb1 (ai _)) hc1 hs1 hln)
 have HB:=ae hb1
 clear hW1 hb1 hc1 hs1
 go_wp2_with fail
 refine HA.o.mono ?_
 rintro e w' ⟨rfl,hb⟩
 go_wp2_with fail
 go_returns
 exact⟨rfl,aX HB.o hb⟩
def eH (l:List aF):Int:=if 40<l.length∨(l.any fun x=>!decide ((x.length:Int)<=60))=true then 3 else 0
theorem KP (l:List aF) (v:Value) (w:World) (hv:iY w v l) (hln: ∀x∈l,x.length<=1000000):Calls Tryz.prog 37 #[v] w (PV (iv (eH l)) w):=by
 have hlen:=hv.len
 obtain⟨o,c,rfl⟩:=aK.open hv
 have HA:=ae (adq l _ w hv hln)
 clear hv
 go_enter Tryz.func37,Tryz.ntmps37
 go_wp2_with fail
 ·refine HA.o.mono ?_
  rintro e w' ⟨rfl,hb⟩
  cases hq:(l.any fun x=>!decide ((x.length:Int)<=60))
  all_goals
   go_wp2_with fail
   go_returns
   refine⟨?_,hb⟩
   simp only[eH,hq]
   simp
   try omega
 ·go_returns
  refine⟨?_,aG _ _⟩
  rw[eH,aC (.inl (by omega))]
  rfl
def zeroS:jA:=
 {led:={field:={rows:=0,aO:=0,left:=(0,0),au:=[]},rate:=0,box:=(0,0),notes:=[]}
  heap:={last:=0,size:=0,bn:=0,die:=0,uT:=0,start:=(0,0),bQ:=[],turns:=[],readings:=[]}
  bP:={heaps:=[],aQ:=[],aJ:=[]}}
def zeroV:SV:=⟨.slice none 0 0,.slice none 0 0,.slice none 0 0,.slice none 0 0,.slice none 0 0,.slice none 0 0,.slice none 0 0,.slice none 0 0⟩
theorem Q5:dD zeroS zeroV=eu:=rfl
theorem ab5 (w:World):oD w zeroS zeroV []:=by
 have hn: ∀k,aK k w (.slice none 0 0) 0 []:=fun k=>aK.nil k w
 exact⟨hn _,hn _,hn _,hn _,hn _,⟨hn _,⟨hn _,fun e he=>by cases he⟩,rfl,hn _⟩⟩
def gu (ls:List aF):jA:=if eH ls=0 then(fB bK eG ls).1 else zeroS
def oW (ls:List aF):List Int:=if eH ls=0 then(fB bK eG ls).2 else[]
def PPl (Qs:List Nat) (ls:List aF) (w:World) (e:Ending) (w':World):Prop:=
 Below w.heap.size w w'/\ ∃V es cv,e= .returned (.tuple #[.agg (dD (gu ls) V),cv,iv (eH ls)])/\(∀W',Ext Qs w' W'->oD W' (gu ls) V es)/\w'.ownsRow w.heap.size 52 1 cv (oW ls).length (ah (oW ls))
theorem zC {ls:List aF} (h:eH ls=0):ls.length<=40/\ ∀l∈ls,l.length<=60:=by
 unfold eH at h
 split at h
 ·omega
 ·rename_i hc
  simp only[not_or,Bool.not_eq_true] at hc
  refine⟨by omega,fun l hl=>?_⟩
  have:=List.any_eq_false.1 hc.2 l hl
  simp at this
  omega
theorem wO (lv:Value) (ls:List aF) (w:World) (hls:iY w lv ls) (hE:Env w) (hln: ∀l∈ls,l.length<=1000000) (Qs:List Nat) (hQs: ∀m∈Qs,m<w.heap.size):Calls Tryz.prog 13 #[lv] w (PPl Qs ls w):=by
 have JC:Hid (∀W,Below w.heap.size w W->iY W lv ls):=ae (fun W hb=>hls.below hb (ai _))
 have HE:Hid (∀W,Below w.heap.size w W->Env W):=ae (fun W hb=>hE.below hb (ai _))
 have UZ:=ae hln
 clear hls hE hln
 go_enter Tryz.func13,Tryz.ntmps13
 go_upto_region 1 with(fail)
 refine dH fun W1 hW1=>?_
 have hb1:Below w.heap.size w W1:=by rw[hW1];exact ak (aG _ _) _
 have hk1:W1.heap[w.heap.size]? =some (.cells eu 46 (0,0)):=by rw[hW1];exact ay _ _
 have hs1:W1.heap.size=w.heap.size+1:=by rw[hW1];simp
 have HB1:=ae hb1
 have VT:=ae hk1
 clear hW1 hb1 hk1
 go_wp2_with fail
 refine(KP ls lv W1 (JC.o _ HB1.o) UZ.o).mono ?_
 rintro e W2 ⟨rfl,hb⟩
 have HB2:=ae (aX HB1.o hb)
 have NM:=ae ((hb.block _ (by omega)).trans VT.o)
 have hs2:=hb.size
 obtain⟨q,hq⟩: ∃q,eH ls=q:=⟨_,rfl⟩
 rw[hq]
 have HQ:=ae hq
 clear hq hb
 by_cases hz:q=0
 ·subst hz
  have HLL:=ae (zC HQ.o)
  have HPL:=ae (yz lv ls W2 (JC.o _ HB2.o) (HE.o _ HB2.o) (fun l hl=>by have:=HLL.o.2 l hl;omega) (by have:=HLL.o.1;omega) (w.heap.size::Qs) (fun m hm=>by
   rcases gK.1 hm with rfl|hm
   ·omega
   ·have:=hQs m hm;omega))
  go_wp2_with fail
  refine HPL.o.mono ?_
  rintro e W3 ⟨hb3,V,es,cv,rfl,hX,hC⟩
  obtain⟨co,cc,rfl⟩:=aT hC
  have hs3:=hb3.size
  rename_i hK
  refine hK _ _ ?_
  refine aN rfl _ (by go_simp;first|rfl|exact⟨rfl,rfl⟩) ?_
  simp only[zp]
  refine aN rfl _ (by go_simp;first|rfl|exact⟨rfl,rfl⟩) ?_
  simp only[zp]
  refine aN rfl _ (by go_simp;first|rfl|exact⟨rfl,rfl⟩) ?_
  simp only[zp]
  have hk3:=(hb3.block _ (by omega)).trans NM.o
  have hS3:=hX W3 (Ext.refl _ _)
  refine wpList_store_row rfl _ _ _ rfl w.heap.size (dD (fB bK eG ls).1 V) (by as_aux_lemma=>kernel_rfl) (by as_aux_lemma=>kernel_rfl) _ eu hk3 (by kernel_rfl) (by as_aux_lemma=>kernel_rfl) (by rw[nD];exact fun u hu=>iP hS3 u (nR.2 hu)) ?_
  simp only[zp]
  refine kC fun W4 FW=>?_
  have Vz:Ext [w.heap.size] W3 W4:=by rw[FW];exact fK
  have hb4:=jf (aX HB2.o hb3) Vz (ai _)
  have hk4:W4.heap[w.heap.size]? =some (.cells (dD (fB bK eG ls).1 V) 46 (0,0)):=by rw[FW];exact setRow_heap _ _ _ _ _ _ hk3
  have hc4:=aA (Ms:=[w.heap.size]) hC Vz (by simp;omega)
  have hX4: ∀W',Ext (w.heap.size::Qs) W4 W'->oD W' (fB bK eG ls).1 V es:=fun W' hE'=>hX W' ((Vz.more (by simp)).trans hE')
  have H4:=ae (ag hb4 (ag hk4 (ag hc4 hX4)))
  clear FW Vz hb4 hk4 hc4 hX4 hk3 hX hC hb3 hS3 hK
  go_upto_region 5 with(fail)
  refine wp_region_lit ?_
  refine wpList_load_row rfl _ _ rfl w.heap.size rfl _ _ _ _ H4.o.2.1 Tryz.underlying46 rfl (by kernel_rfl) ?_
  simp only[zp]
  refine aN rfl _ (by go_simp;first|rfl|exact⟨rfl,rfl⟩) ?_
  simp only[zp]
  refine wpList_store_row rfl _ _ _ rfl w.heap.size (dD (fB bK eG ls).1 V) (by as_aux_lemma=>kernel_rfl) (by as_aux_lemma=>kernel_rfl) _ _ H4.o.2.1 (by kernel_rfl) (by as_aux_lemma=>kernel_rfl) (by rw[nD];exact fun u hu=>iP (H4.o.2.2.2 W4 (Ext.refl _ _)) u (nR.2 hu)) ?_
  simp only[zp]
  refine kC fun W5 yI=>?_
  have PI:Ext [w.heap.size] W4 W5:=by rw[yI];exact fK
  have hk5:W5.heap[w.heap.size]? =some (.cells (dD (fB bK eG ls).1 V) 46 (0,0)):=by rw[yI];exact setRow_heap _ _ _ _ _ _ H4.o.2.1
  have H5:=ae (ag (jf H4.o.1 PI (ai _)) (ag hk5 (ag (aA (Ms:=[w.heap.size]) H4.o.2.2.1 PI (by simp;omega)) (fun W' (hE':Ext (w.heap.size::Qs) W5 W')=>H4.o.2.2.2 W' ((PI.more (by simp)).trans hE')))))
  clear yI PI hk5
  go_wp2_with fail
  refine bodyPost_ret (v:= .tuple #[.agg (dD (fB bK eG ls).1 V),.slice co ls.length cc,iv 0]) ?_ rfl ?_
  ·have q1:=run_loadVar_row (P:=Tryz.prog) W5 w.heap.size 46 46 _ (0,0) _ H5.o.2.1 Tryz.underlying46 rfl (by kernel_rfl)
   simp[results,Tryz.results13,asAddr,q1]
  ·have h5:=H5.o
   have e1:gu ls=(fB bK eG ls).1:=by unfold gu;rw[aC HQ.o]
   have e2:oW ls=(fB bK eG ls).2:=by unfold oW;rw[aC HQ.o]
   refine⟨h5.1,V,es,.slice co ls.length cc,?_,?_,?_⟩
   ·rw[e1,HQ.o]
   ·rw[e1];exact fun W' hE'=>h5.2.2.2 W' (hE'.more (fun m hm=>qj _ hm))
   ·rw[e2,Gx];exact bY h5.2.2.1 (by omega)
 ·go_upto_region 3 with(fail)
  refine wp_region_lit ?_
  refine aN rfl (w':=W2) (.agg eu) (by as_aux_lemma=>kernel_rfl) ?_
  simp only[zp]
  refine aN rfl _ (by go_simp;first|rfl|exact⟨rfl,rfl⟩) ?_
  simp only[zp]
  refine wpList_store_row rfl _ _ _ rfl w.heap.size eu (by as_aux_lemma=>kernel_rfl) (by as_aux_lemma=>kernel_rfl) _ eu NM.o (by kernel_rfl) (by as_aux_lemma=>kernel_rfl) (by as_aux_lemma=>kernel_rfl) ?_
  simp only[zp]
  refine kC fun W3 hW3=>?_
  have uJ:Ext [w.heap.size] W2 W3:=by rw[hW3];exact fK
  have hk3:W3.heap[w.heap.size]? =some (.cells eu 46 (0,0)):=by rw[hW3];exact setRow_heap _ _ _ _ _ _ NM.o
  have H3:=ae (ag (jf HB2.o uJ (ai _)) hk3)
  clear hW3 uJ hk3
  go_wp2_with fail
  refine bodyPost_ret (v:= .tuple #[.agg eu,.slice none 0 0,iv q]) ?_ rfl ?_
  ·have q1:=run_loadVar_row (P:=Tryz.prog) W3 w.heap.size 46 46 _ (0,0) _ H3.o.2 Tryz.underlying46 rfl (by kernel_rfl)
   simp[results,Tryz.results13,asAddr,q1]
  ·have e1:gu ls=zeroS:=by unfold gu;rw[aj (by rw[HQ.o];exact hz)]
   have e2:oW ls=[]:=by unfold oW;rw[aj (by rw[HQ.o];exact hz)]
   refine⟨H3.o.1,zeroV,[],.slice none 0 0,?_,?_,?_⟩
   ·rw[e1,HQ.o,Q5]
   ·rw[e1];exact fun W' _=>ab5 W'
   ·rw[e2];exact⟨rfl,.inl ⟨rfl,rfl⟩⟩
def J8 (ls:List aF):Int:=if eH ls=0 then gW (gu ls).led true else eH ls
def J9 (ls:List aF):List dY:=if eH ls=0 then(if gW (gu ls).led true=0 then Ci oZ (gu ls).led (gy (gu ls).led) else[]) else[]
def JK (ls:List aF):Int:=if eH ls=0 then jJ.AU (gu ls).heap else eH ls
def JL (ls:List aF):List Int:=if eH ls=0 then jJ.TV (gu ls).heap else[]
def ame (ls:List aF) (w:World) (e:Ending) (w':World):Prop:=Below w.heap.size w w'/\ ∃u,e= .returned (.tuple #[u,iv (J8 ls)])/\bM w' u (J9 ls)
def amb (ls:List aF) (w:World) (e:Ending) (w':World):Prop:=Below w.heap.size w w'/\ ∃u,e= .returned (.tuple #[u,iv (JK ls)])/\aP w' u (JL ls)
theorem Yb (lv:Value) (ls:List aF) (w:World) (hls:iY w lv ls) (hE:Env w) (hln: ∀l∈ls,l.length<=1000000):Calls Tryz.prog 30 #[lv] w (ame ls w):=by
 have JC:=ae hls
 have HE:=ae hE
 have UZ:=ae hln
 clear hls hE hln
 obtain⟨q,hq⟩: ∃q,eH ls=q:=⟨_,rfl⟩
 have HQ:=ae hq
 go_enter Tryz.func30,Tryz.ntmps30
 go_wp2_with fail
 refine(wO lv ls w (JC.o) (HE.o) (UZ.o) [] (by simp)).mono ?_
 rintro e W2 ⟨hb2,V,es,cv,he,hX,hC⟩
 rw[hq] at he
 subst he
 obtain⟨co,cc,rfl⟩:=aT hC
 have hs2:=hb2.size
 have hS2:=hX W2 (Ext.refl _ _)
 rename_i hK
 refine hK _ _ ?_
 refine aN rfl _ (by go_simp;first|rfl|exact⟨rfl,rfl⟩) ?_
 simp only[zp]
 refine aN rfl _ (by go_simp;first|rfl|exact⟨rfl,rfl⟩) ?_
 simp only[zp]
 refine aN rfl _ (by go_simp;first|rfl|exact⟨rfl,rfl⟩) ?_
 simp only[zp]
 refine aN rfl _ (by go_simp;first|rfl|exact⟨rfl,rfl⟩) ?_
 simp only[zp]
 obtain⟨g,hg⟩: ∃g,g=W2.heap.size:=⟨_,rfl⟩
 refine aN rfl (w':=W2.alloc (.cells eu 46 (0,0))) (.pointer (some ⟨g,0,none⟩)) (by rw[hg];go_simp;try rfl) ?_
 simp only[zp]
 have hz2:(W2.alloc (.cells eu 46 (0,0))).heap[g]? =some (.cells eu 46 (0,0)):=by rw[hg];exact ay _ _
 refine wpList_store_row rfl _ _ _ rfl g (dD (gu ls) V) (by as_aux_lemma=>kernel_rfl) (by as_aux_lemma=>kernel_rfl) _ eu hz2 (by kernel_rfl) (by as_aux_lemma=>kernel_rfl) (by rw[nD];exact fun u hu=>iP hS2 u (nR.2 hu)) ?_
 simp only[zp]
 refine kC fun W3 hW3=>?_
 obtain⟨xB,kY⟩: ∃xB,xB=W2.alloc (.cells eu 46 (0,0)):=⟨_,rfl⟩
 rw[<-kY] at hW3 hz2
 have uJ:Ext [g] xB W3:=by rw[hW3];exact fK
 have hs3:=uJ.size
 have hs2':xB.heap.size=g+1:=by rw[kY,hg];simp
 have mV:Below W2.heap.size W2 W3:=jf (by rw[kY];exact ak (aG _ _) _) uJ (by omega)
 have hk3:W3.heap[g]? =some (.cells (dD (gu ls) V) 46 (0,0)):=by rw[hW3];exact setRow_heap _ _ _ _ _ _ hz2
 have hb3:=aX hb2 mV
 have hg3:w.heap.size<=g:=by omega
 have hgs:g<W3.heap.size:=by omega
 have H3:=ae (ag hb3 (ag hk3 (hS2.below mV (ai _))))
 clear hX hC hW3 kY uJ mV hb2 hS2 hz2 hK hs2 hs3 hs2' hg hb3
 clear hq
 obtain⟨vt,vn,vw,vu,vr,vh,vk,vs⟩:=V
 obtain⟨c3,f3,l3⟩:=af hk3
 by_cases hz:q=0
 rotate_left
 ·go_wp2_with fail
  go_returns
  have hqq:eH ls≠0:=by rw[HQ.o];exact hz
  have h1:J8 ls=q:=by unfold J8;rw[aj hqq,HQ.o]
  have h2:J9 ls=[]:=by unfold J9;rw[aj hqq]
  refine⟨H3.o.1,.slice none 0 0,?_,?_⟩
  ·rw[h1];simp
  ·rw[h2];exact aK.nil _ _
 ·subst hz
  have HO:=ae (QM (gu ls).led vt vn W3 H3.o.2.2.uK H3.o.2.2.QX)
  have h1:J8 ls=gW (gu ls).led true:=by unfold J8;rw[aC HQ.o]
  have h2:J9 ls=if gW (gu ls).led true=0 then Ci oZ (gu ls).led (gy (gu ls).led) else[]:=by unfold J9;rw[aC HQ.o]
  obtain⟨q2,hq2⟩: ∃q,gW (gu ls).led true=q:=⟨_,rfl⟩
  rw[hq2] at h1 h2
  have HH:=ae (ag h1 h2)
  clear h1 h2
  go_wp2_with fail
  refine HO.o.mono ?_
  rintro e W4 ⟨hb4,hp⟩
  rw[hq2] at hp
  have HB4:=ae (aX H3.o.1 hb4)
  clear hb4 hq2
  rcases hp with⟨hne,rfl⟩|⟨h0,u,rfl,hu⟩
  ·have HN:=ae hne
   clear hne
   go_wp2_with fail
   go_returns
   refine⟨HB4.o,.slice none 0 0,?_,?_⟩
   ·rw[HH.o.1];simp
   ·rw[HH.o.2,aj HN.o];exact aK.nil _ _
  ·subst h0
   have HU:=ae hu
   obtain⟨uo,uc,rfl⟩:=hu.open
   clear hu
   go_wp2_with fail
   go_returns
   refine⟨HB4.o,.slice uo (Ci oZ (gu ls).led (gy (gu ls).led)).length uc,?_,?_⟩
   ·rw[HH.o.1];simp
   ·rw[HH.o.2];simpa using HU.o
theorem Jy (lv:Value) (ls:List aF) (w:World) (hls:iY w lv ls) (hE:Env w) (hln: ∀l∈ls,l.length<=1000000):Calls Tryz.prog 32 #[lv] w (amb ls w):=by
 have JC:=ae hls
 have HE:=ae hE
 have UZ:=ae hln
 clear hls hE hln
 obtain⟨q,hq⟩: ∃q,eH ls=q:=⟨_,rfl⟩
 have HQ:=ae hq
 go_enter Tryz.func32,Tryz.ntmps32
 go_wp2_with fail
 refine(wO lv ls w (JC.o) (HE.o) (UZ.o) [] (by simp)).mono ?_
 rintro e W2 ⟨hb2,V,es,cv,he,hX,hC⟩
 rw[hq] at he
 subst he
 obtain⟨co,cc,rfl⟩:=aT hC
 have hs2:=hb2.size
 have hS2:=hX W2 (Ext.refl _ _)
 rename_i hK
 refine hK _ _ ?_
 refine aN rfl _ (by go_simp;first|rfl|exact⟨rfl,rfl⟩) ?_
 simp only[zp]
 refine aN rfl _ (by go_simp;first|rfl|exact⟨rfl,rfl⟩) ?_
 simp only[zp]
 refine aN rfl _ (by go_simp;first|rfl|exact⟨rfl,rfl⟩) ?_
 simp only[zp]
 refine aN rfl _ (by go_simp;first|rfl|exact⟨rfl,rfl⟩) ?_
 simp only[zp]
 obtain⟨g,hg⟩: ∃g,g=W2.heap.size:=⟨_,rfl⟩
 refine aN rfl (w':=W2.alloc (.cells eu 46 (0,0))) (.pointer (some ⟨g,0,none⟩)) (by rw[hg];go_simp;try rfl) ?_
 simp only[zp]
 have hz2:(W2.alloc (.cells eu 46 (0,0))).heap[g]? =some (.cells eu 46 (0,0)):=by rw[hg];exact ay _ _
 refine wpList_store_row rfl _ _ _ rfl g (dD (gu ls) V) (by as_aux_lemma=>kernel_rfl) (by as_aux_lemma=>kernel_rfl) _ eu hz2 (by kernel_rfl) (by as_aux_lemma=>kernel_rfl) (by rw[nD];exact fun u hu=>iP hS2 u (nR.2 hu)) ?_
 simp only[zp]
 refine kC fun W3 hW3=>?_
 obtain⟨xB,kY⟩: ∃xB,xB=W2.alloc (.cells eu 46 (0,0)):=⟨_,rfl⟩
 rw[<-kY] at hW3 hz2
 have uJ:Ext [g] xB W3:=by rw[hW3];exact fK
 have hs3:=uJ.size
 have hs2':xB.heap.size=g+1:=by rw[kY,hg];simp
 have mV:Below W2.heap.size W2 W3:=jf (by rw[kY];exact ak (aG _ _) _) uJ (by omega)
 have hk3:W3.heap[g]? =some (.cells (dD (gu ls) V) 46 (0,0)):=by rw[hW3];exact setRow_heap _ _ _ _ _ _ hz2
 have hb3:=aX hb2 mV
 have hg3:w.heap.size<=g:=by omega
 have hgs:g<W3.heap.size:=by omega
 have H3:=ae (ag hb3 (ag hk3 (hS2.below mV (ai _))))
 clear hX hC hW3 kY uJ mV hb2 hS2 hz2 hK hs2 hs3 hs2' hg hb3
 clear hq
 obtain⟨vt,vn,vw,vu,vr,vh,vk,vs⟩:=V
 obtain⟨c3,f3,l3⟩:=af hk3
 by_cases hz:q=0
 rotate_left
 ·go_wp2_with fail
  go_returns
  have hqq:eH ls≠0:=by rw[HQ.o];exact hz
  have h1:JK ls=q:=by unfold JK;rw[aj hqq,HQ.o]
  have h2:JL ls=[]:=by unfold JL;rw[aj hqq]
  refine⟨H3.o.1,.slice none 0 0,?_,?_⟩
  ·rw[h1];simp
  ·rw[h2];exact aK.nil _ _
 ·subst hz
  have HO:=ae (jJ.U2 (gu ls).heap vw vu vr W3 H3.o.2.2.bQ H3.o.2.2.Fj H3.o.2.2.Fv)
  have h1:JK ls=jJ.AU (gu ls).heap:=by unfold JK;rw[aC HQ.o]
  have h2:JL ls=jJ.TV (gu ls).heap:=by unfold JL;rw[aC HQ.o]
  obtain⟨q2,hq2⟩: ∃q,jJ.AU (gu ls).heap=q:=⟨_,rfl⟩
  rw[hq2] at h1
  have HH:=ae (ag h1 h2)
  clear h1 h2
  go_wp2_with fail
  refine HO.o.mono ?_
  rintro e W4 ⟨u,he,hu,hb4⟩
  rw[hq2] at he
  subst he
  have HB4:=ae (aX H3.o.1 hb4)
  have HU:=ae hu
  obtain⟨uo,uc,rfl⟩:=hu.open
  clear hb4 hq2 hu
  go_wp2_with fail
  go_returns
  refine⟨HB4.o,.slice uo (jJ.TV (gu ls).heap).length uc,?_,?_⟩
  ·rw[HH.o.1];simp
  ·rw[HH.o.2];exact HU.o
theorem pK (l:aF):(dV l).size=l.length:=by simp[ByteArray.size]
abbrev uv (c:UInt8):Value:= .int .u8 (c.toNat:Int)
theorem yU (a b:aF):dV a++dV b=dV (a++b):=by
 apply ByteArray.ext
 simp
theorem abf (l:aF) (a b:Nat):(dV l).extract a b=dV ((l.take b).drop a):=by
 apply ByteArray.ext
 simp[List.drop_take]
theorem nH {P:Program} {a b c:aF} (hc:c=a++b) (h:a.length+b.length<=1000000000) (W:World):(Op.stringOp .add (dV a) (dV b)).run P W= .ok (.string (dV c)) W:=by
 have h1:=pK a
 have h2:=pK b
 subst hc
 unfold Op.stringOp
 rw[aj (by rw[h1,h2];have:IntKind.i64.max=9223372036854775807:=rfl;omega),yU]
 simp
theorem Ju: ∀(l:aF) (k:Nat) (c:UInt8),jR k (l++[c])=jR k l+(k+l.length)*c.toNat:=by
 intro l
 induction l with
 |nil=>intro k c;simp[jR]
 |cons x l ih=>intro k c;simp only[List.cons_append,jR,ih,List.length_cons];rw[show k+1+l.length=k+(l.length+1) from by omega];omega
theorem EZ: ∀(l:aF) (k:Nat),k+l.length<=62->jR k l<=15810*l.length:=by
 intro l
 induction l with
 |nil=>intro k _;exact ai _
 |cons x l ih=>
  intro k h
  simp only[List.length_cons] at h
  have h1:=ih (k+1) (by omega)
  have h2:k*x.toNat<=62*255:=Nat.mul_le_mul (by omega) (by have:=x.toNat_lt;omega)
  simp only[jR,List.length_cons]
  omega
theorem afy (m:Nat) (h:m<=62*255):wrap64 (m:Int)=m:=IntWalk.wrap64_in _ ⟨by omega,by omega⟩
theorem afx (i S m:Nat) (h1:i<=1000) (h2:S<=948600) (h3:m<=62*255):wrap64 (29*((i:Int)+1)+S+m)=29*((i:Int)+1)+S+m:=IntWalk.wrap64_in _ ⟨by omega,by omega⟩
theorem wK (i:Nat) (line:aF) (w:World) (hi:i<=1000) (hl:line.length<=60):Calls Tryz.prog 245 #[iv i,.string (dV line)] w (PV (iv (uA i line)) w):=by
 have hsz:=pK line
 go_enter Tryz.func245,Tryz.ntmps245
 go_wp2_with fail
 go_loopw [5,12] (fun s u wr=> ∃j:Nat,j<=line.length/\u= .int .i64 j/\s= .int .i64 ((29*(i+1)+jR 2 (line.take j):Nat):Int)/\Below w.heap.size w wr) (fun _ u _=>line.length-(intOf u).toNat)
 case atStart=>exact⟨0,bW _,rfl,by simp[jR];try omega,aG _ _⟩
 case round=>
  obtain⟨j,hj,rfl,rfl,hb⟩:=hrel
  by_cases hlt:j<line.length
  ·have hle:=EZ (line.take j) 2 (by simp;omega)
   have hlj:(line.take j).length=j:=by simp;omega
   rw[hlj] at hle
   obtain⟨c,hc⟩: ∃c,line[j]=c:=⟨_,rfl⟩
   have hcx:(dV line)[j]'(by rw[hsz];exact hlt)=c:=by rw[<-hc];rfl
   have hcl:=c.toNat_lt
   have hmul:(j+2)*c.toNat<=62*255:=Nat.mul_le_mul (by omega) (by omega)
   have hst:jR 2 (line.take (j+1))=jR 2 (line.take j)+(2+j)*c.toNat:=by
    rw[iy hlt,Ju,hlj,hc]
   have HST:=ae hst
   generalize hS:jR 2 (line.take j)=S at*
   obtain⟨m,hm⟩: ∃m,(j+2)*c.toNat=m:=⟨_,rfl⟩
   have hmI:((j:Int)+2)*(c.toNat:Int)=(m:Int):=by rw[<-hm];simp
   have HM:Hid ((2+j)*c.toNat=m):=ae (by rw[<-hm,Nat.add_comm])
   rw[hm] at hmul
   have alG:S<=948600:=by omega
   have w1:wrap64 (m:Int)=m:=afy m hmul
   have w2:wrap64 (29*((i:Int)+1)+S+m)=29*((i:Int)+1)+S+m:=afx i S m hi alG hmul
   clear hst hS hlj hc hm
   go_wp2_with fail
   refine⟨⟨j+1,by omega,by go_num,?_,hb⟩,by simp[intOf];omega⟩
   rw[HST.o,HM.o]
   congr 1
   omega
  ·have hjl:j=line.length:=by omega
   subst hjl
   have hle:=EZ line 2 (by omega)
   rw[List.take_length]
   have HC:Hid (((29*(i+1)+jR 2 line:Nat):Int)%9949=(uA i line:Nat)):=ae (by unfold uA;omega)
   obtain⟨S,hS⟩: ∃S,29*(i+1)+jR 2 line=S:=⟨_,rfl⟩
   rw[hS] at HC⊢
   clear hle hS
   go_wp2_with fail
   go_returns
   exact⟨by simp[HC.o],hb⟩
theorem Td (ls:List aF) (v:Value) (w:World) (hv:iY w v ls):Calls Tryz.prog 28 #[v] w (PV (iv (eH ls)) w):=by
 have hlen:=hv.len
 obtain⟨o,c,rfl⟩:=aK.open hv
 have HV:=ae hv
 clear hv
 by_cases h40:40<ls.length
 ·have alV:(40:Int)<ls.length:=by omega
  have HR:Hid (eH ls=3):=ae (by unfold eH;rw[aC (.inl h40)])
  go_enter Tryz.func28,Tryz.ntmps28
  go_wp2_with fail
  go_returns
  exact⟨by rw[HR.o];simp,aG _ _⟩
 ·have alV: ¬(40:Int)<ls.length:=by omega
  go_enter Tryz.func28,Tryz.ntmps28
  go_wp2_with fail
  go_loopw [3] (fun i wr=> ∃k:Nat,k<=ls.length/\i= .int .i64 k/\(∀j (h:j<ls.length),j<k->ls[j].length<=60)/\Below w.heap.size w wr) (fun i _=>ls.length-(intOf i).toNat)
  case atStart=>exact⟨0,bW _,rfl,fun j _ hj=>by omega,aG _ _⟩
  case round=>
   obtain⟨k,hk,rfl,hno,hB⟩:=hrel
   by_cases hlt:k<ls.length
   ·obtain⟨b,off,rfl,hb,hc0⟩:=iY.cell (aK.below HV.o hB (ai _)) hlt
    have HN:=ae hno
    have HB:=ae hB
    have HK:=ae (fun h=>hno k hlt h)
    obtain⟨x,hx⟩: ∃x,ls[k]=x:=⟨_,rfl⟩
    rw[hx] at hc0
    have hs:(dV x).size=x.length:=pK x
    have HX:=ae hx
    clear hno hB hx
    by_cases h60:x.length<=60
    ·have afp: ¬(60:Int)<x.length:=by omega
     go_wp2_with fail
     go_roundw
     case rel=>exact⟨k+1,by omega,by go_num,fun j h hj=>(by by_cases e:j=k;(subst e;rw[HX.o];exact h60);exact HN.o j h (by omega)),HB.o⟩
     case measure=>simp[intOf];omega
    ·have afp:(60:Int)<x.length:=by omega
     go_wp2_with fail
     go_returns
     refine⟨?_,HB.o⟩
     have:eH ls=3:=by
      unfold eH
      rw[aC (.inr (List.any_eq_true.2 ⟨x,by rw[<-HX.o];exact bT _,by simp;omega⟩))]
     rw[this]
     simp
   ·have hkl:k=ls.length:=by omega
    have HN:=ae hno
    have HB:=ae hB
    clear hno hB
    go_wp2_with fail
    go_returns
    refine⟨?_,HB.o⟩
    have:eH ls=0:=by
     unfold eH
     rw[aj]
     simp only[not_or,Bool.not_eq_true]
     refine⟨h40,List.any_eq_false.2 fun x hx=>?_⟩
     obtain⟨j,hj,rfl⟩:=mF hx
     have:=HN.o j hj (by omega)
     simp;omega
    rw[this]
    simp
def JM (ls:List aF):Bool:=decide (ls.length<=45)&&ls.all fun x=>decide (x.length<=80)
theorem vX {ls:List aF}:JM ls=true↔ls.length<=45/\ ∀x∈ls,x.length<=80:=by
 unfold JM
 rw[fG,eX,jS]
 exact⟨fun h=>⟨h.1,fun x hx=>of_decide_eq_true (h.2 x hx)⟩,fun h=>⟨h.1,fun x hx=>decide_eq_true (h.2 x hx)⟩⟩
theorem abx (ls:List aF) (v:Value) (w:World) (hv:iY w v ls):Calls Tryz.prog 27 #[v] w (PV (.bool (JM ls)) w):=by
 have hlen:=hv.len
 obtain⟨o,c,rfl⟩:=aK.open hv
 have HV:=ae hv
 clear hv
 obtain⟨q,hq⟩: ∃q,JM ls=q:=⟨_,rfl⟩
 rw[hq]
 have HQ:=ae hq
 clear hq
 go_enter Tryz.func27,Tryz.ntmps27
 go_wp2_with fail
 go_loopw [3] (fun i wr=> ∃k:Nat,k<=ls.length/\k<=46/\i= .int .i64 k/\(∀j (h:j<ls.length),j<k->ls[j].length<=80)/\Below w.heap.size w wr) (fun i _=>ls.length-(intOf i).toNat)
 case atStart=>exact⟨0,bW _,bW _,rfl,fun j _ hj=>by omega,aG _ _⟩
 case round=>
  obtain⟨k,hk,h46,rfl,hno,hB⟩:=hrel
  have HB:=ae hB
  have HN:=ae hno
  by_cases hlt:k<ls.length
  ·by_cases apL:k<46
   ·have ahK:(k:Int)<46:=by omega
    obtain⟨b,off,rfl,hb,hc0⟩:=iY.cell (aK.below HV.o hB (ai _)) hlt
    obtain⟨x,hx⟩: ∃x,ls[k]=x:=⟨_,rfl⟩
    rw[hx] at hc0
    have hs:(dV x).size=x.length:=pK x
    have HX:=ae hx
    clear hno hB hx
    by_cases h60:x.length<=80
    ·have afp: ¬(80:Int)<x.length:=by omega
     go_wp2_with fail
     go_roundw
     case rel=>exact⟨k+1,by omega,by omega,by go_num,fun j h hj=>(by by_cases e:j=k;(subst e;rw[HX.o];exact h60);exact HN.o j h (by omega)),HB.o⟩
     case measure=>simp[intOf];omega
    ·have afp:(80:Int)<x.length:=by omega
     have hq0:q=false:=by
      rw[<-HQ.o,Bool.eq_false_iff]
      intro h
      exact h60 ((vX.1 h).2 x (by rw[<-HX.o];exact bT _))
     subst hq0
     go_wp2_with fail
     go_returns
     exact⟨by simp,HB.o⟩
   ·have ahK: ¬(k:Int)<46:=by omega
    have hq0:q=false:=by
     rw[<-HQ.o,Bool.eq_false_iff]
     intro h
     have:=(vX.1 h).1
     omega
    have h45: ¬(ls.length:Int)<=45:=by omega
    subst hq0
    clear hno hB
    go_wp2_with fail
    go_returns
    exact⟨by simp,HB.o⟩
  ·have hkl:k=ls.length:=by omega
   clear hno hB
   by_cases h45:ls.length<=45
   ·have alU:(ls.length:Int)<=45:=by omega
    have hq1:q=true:=by
     rw[<-HQ.o]
     refine vX.2 ⟨h45,fun x hx=>?_⟩
     obtain⟨j,hj,rfl⟩:=mF hx
     exact HN.o j hj (by omega)
    subst hq1
    go_wp2_with fail
    go_returns
    exact⟨by simp,HB.o⟩
   ·have alU: ¬(ls.length:Int)<=45:=by omega
    have hq0:q=false:=by
     rw[<-HQ.o,Bool.eq_false_iff]
     intro h
     exact h45 (vX.1 h).1
    subst hq0
    go_wp2_with fail
    go_returns
    exact⟨by simp,HB.o⟩
theorem Bg: ∀l:aF,bZ (l++[32])=bZ l++[[]]:=by
 intro l
 induction l with
 |nil=>rfl
 |cons c l ih=>
  rw[List.cons_append,bZ,bZ,ih]
  split
  ·rfl
  ·cases hw:bZ l with
   |nil=>exact absurd hw (kQ l)
   |cons x y=>rfl
theorem NT {c:UInt8} (hc:c≠32): ∀(l:aF) (A:List aF) (x:aF),bZ l=A++[x]->bZ (l++[c])=A++[x++[c]]:=by
 intro l
 induction l with
 |nil=>
  intro A x h
  have h1:A=[]/\x=[]:=by
   cases A with
   |nil=>simpa [bZ] using h
   |cons a A=>simp[bZ] at h
  obtain⟨rfl,rfl⟩:=h1
  show bZ [c]=[[c]]
  simp[bZ,hc]
 |cons d l ih=>
  intro A x h
  rw[List.cons_append,bZ]
  rw[bZ] at h
  split at h
  ·rename_i hd
   rw[aC hd]
   cases A with
   |nil=>
    simp only[List.nil_append,List.cons.injEq] at h
    exact absurd h.2 (kQ l)
   |cons a A=>
    simp only[List.cons_append,List.cons.injEq] at h
    rw[ih A x h.2, <-h.1]
    rfl
  ·rename_i hd
   rw[aj hd]
   cases hw:bZ l with
   |nil=>exact absurd hw (kQ l)
   |cons y ys=>
    rw[hw] at h
    simp only[List.headD_cons,List.tail_cons] at h
    cases A with
    |nil=>
     simp only[List.nil_append,List.cons.injEq] at h
     obtain⟨rfl,hys⟩:=h
     rw[ih [] y (by rw[hw,hys];rfl)]
     rfl
    |cons a A=>
     simp only[List.cons_append,List.cons.injEq] at h
     obtain⟨rfl,hys⟩:=h
     rw[ih (y::A) x (by rw[hw,hys];rfl)]
     rfl
theorem Bj:iR Tryz.prog 22 9 (.string ⟨#[]⟩) 1 16:=⟨Tryz.underlying22,by kernel_rfl,rfl,by omega⟩
theorem Vf (s:ByteArray): ∀u∈[Value.string s],u.oneCell'=true:=fun u hu=>by obtain rfl:=dZ.1 hu;rfl
def adu (ps:List aF) (w:World) (e:Ending) (w':World):Prop:= ∃v,e= .returned v/\w'.ownsRow w.heap.size 9 1 v ps.length (aZ ps)/\Below w.heap.size w w'
theorem Gf: ∀l:aF,(bZ l).length<=l.length+1:=by
 intro l
 induction l with
 |nil=>simp[bZ]
 |cons c l ih=>
  rw[bZ]
  split
  ·simpa using ih
  ·cases hw:bZ l with
   |nil=>exact absurd hw (kQ l)
   |cons x y=>rw[hw] at ih;simp at ih⊢;omega
theorem Gv (l:aF) (w:World) (hl:l.length<=1000):Calls Tryz.prog 20 #[.string (dV l)] w (adu (bZ l) w):=by
 have hsz:=pK l
 have hcut: ∀(a b:Nat),(dV l).extract a b=dV ((l.take b).drop a):=fun a b=>abf l a b
 go_enter Tryz.func20,Tryz.ntmps20
 go_wp2_with fail
 go_loopw [3,4,5] (fun v f i wr=> ∃(i' f':Nat) (out:List aF) (o:Option Addr) (c:Nat),i'<=l.length/\f'<=i'/\i= .int .i64 i'/\f= .int .i64 f'/\v= .slice o out.length c/\bZ (l.take i')=out++[(l.take i').drop f']/\
  wr.ownsRow w.heap.size 9 1 (.slice o out.length c) out.length (aZ out)/\Below w.heap.size w wr) (fun _ _ i _=>l.length-(intOf i).toNat)
 case atStart=>exact⟨0,0,[],none,0,bW _,ai _,rfl,rfl,rfl,rfl,⟨rfl,.inl ⟨rfl,rfl⟩⟩,aG _ _⟩
 case round=>
  obtain⟨i,f,out,o,c,hi,hf,rfl,rfl,rfl,hw,ho,hB⟩:=hrel
  have hol:out.length<=1001:=by
   have:=Gf (l.take i)
   rw[hw] at this
   simp at this
   omega
  have HX:=ae (ag hw (ag ho hB))
  have hsB:=hB.size
  clear hw ho hB
  by_cases hlt:i<l.length
  ·obtain⟨x,hx⟩: ∃x,l[i]=x:=⟨_,rfl⟩
   have hgx:(dV l)[i]'(by rw[hsz];exact hlt)=x:=hx
   have htk:l.take (i+1)=l.take i++[x]:=by rw[iy hlt,hx]
   have QP:=ae htk
   clear htk hx
   by_cases h32:x=32
   ·subst h32
    go_wp2_with (at_builtin;go_loud (refine dF rfl _ _ Bj rfl w.heap.size (.slice o out.length c) out.length (aZ out) rfl (aA (Ms:=[]) HX.o.2.1 (Ext.az (ak (aG _ _) _)) (by simp)) (.slice (some ⟨wr.heap.size,0,none⟩) 1 1) 1 [.string (dV ((l.take i).drop f))] rfl (aK.dw 1 1 (ay _ _) rfl (by decide)) (Vf _) (by omega) (by omega) (by simp;omega) ?_))
    intro v' Wc hown hgr hcase
    obtain⟨Ve,OM,rfl⟩:=aT hown
    have hwB:Below wr.heap.size wr (wr.alloc (.cells #[.string (dV ((l.take i).drop f))] 9)):=ak (aG _ _) _
    have HY:=ae (ag hown (Below.grown (aX HX.o.2.2 hwB) hgr (by have:=hwB.size;omega) (fun g e=>(bH HX.o.2.1 g e).1)))
    clear hown hgr hcase hwB
    go_wp2_with fail
    go_roundw
    case rel=>
     refine⟨i+1,i+1,out++[(l.take i).drop f],Ve,OM,by omega,by omega,by go_num,by go_num,by simp,?_,?_,HY.o.2⟩
     ·rw[QP.o,Bg,HX.o.1]
      simp
      omega
     ·have:=HY.o.1
      simpa [aZ] using this
    case measure=>simp[intOf];omega
   ·have hne: ¬((x.toNat:Int)=32):=by
     intro h
     exact h32 (UInt8.toNat_inj.1 (by rw[show(32:UInt8).toNat=32 from rfl];omega))
    go_wp2_with fail
    go_roundw
    case rel=>
     refine⟨i+1,f,out,o,c,by omega,by omega,by go_num,rfl,rfl,?_,HX.o.2.1,HX.o.2.2⟩
     rw[QP.o,NT h32 _ out ((l.take i).drop f) HX.o.1]
     congr 2
     rw[List.drop_append_of_le_length (by simp;omega)]
    case measure=>simp[intOf];omega
  ·have hil:i=l.length:=by omega
   subst hil
   have HW:=ae HX.o.1
   rw[List.take_length] at HW
   have HL:=ae (show(l.take l.length).drop f=l.drop f by rw[List.take_length])
   go_wp2_with (at_builtin;go_loud (refine dF rfl _ _ Bj rfl w.heap.size (.slice o out.length c) out.length (aZ out) rfl (aA (Ms:=[]) HX.o.2.1 (Ext.az (ak (aG _ _) _)) (by simp)) (.slice (some ⟨wr.heap.size,0,none⟩) 1 1) 1 [.string (dV (l.drop f))] (by rfl) (aK.dw 1 1 (ay _ _) rfl (by decide)) (Vf _) (by omega) (by omega) (by simp;omega) ?_))
   intro v' Wc hown hgr hcase
   obtain⟨Ve,OM,rfl⟩:=aT hown
   have hwB:Below wr.heap.size wr (wr.alloc (.cells #[.string (dV (l.drop f))] 9)):=ak (aG _ _) _
   have HY:=ae (ag hown (Below.grown (aX HX.o.2.2 hwB) hgr (by have:=hwB.size;omega) (fun g e=>(bH HX.o.2.1 g e).1)))
   clear hown hgr hcase hwB
   go_wp2_with fail
   go_returns
   refine⟨.slice Ve (out.length+1) OM,by simp,?_,HY.o.2⟩
   rw[HW.o]
   have:=HY.o.1
   simpa [aZ] using this
def yC (l:aF):Int:=match uz l with|some c=>(c.many:Int)|none=> -1
theorem Wv (l:aF) (w:World):Calls Tryz.prog 94 #[.string (dV l)] w (PV (iv (yC l)) w):=by
 unfold yC
 cases hc:uz l with
 |some c=>
  obtain rfl:=Iw hc
  clear hc
  cases c <;>
  ·show Calls _ _ _ _ (PV _ w)
   dsimp only[iO.word,iO.many]
   go_enter Tryz.func94,Tryz.ntmps94
   go_wp2_with fail
   go_returns
   exact⟨by simp,aG _ _⟩
 |none=>
  have n0:(l==[114,111,119])=false:=jI.2 (fM hc .row)
  have n1:(l==[108,101,102,116])=false:=jI.2 (fM hc .left)
  have n2:(l==[116,97,108,108,121])=false:=jI.2 (fM hc .tally)
  have n3:(l==[119,97,115,104])=false:=jI.2 (fM hc .xP)
  have n4:(l==[117,110,116,97,108,108,121])=false:=jI.2 (fM hc .mJ)
  have n5:(l==[114,97,116,101])=false:=jI.2 (fM hc .rate)
  have n6:(l==[98,111,120])=false:=jI.2 (fM hc .box)
  have n7:(l==[110,111,116,101])=false:=jI.2 (fM hc .note)
  have n8:(l==[118,111,105,100])=false:=jI.2 (fM hc .void)
  have n9:(l==[115,116,97,114,116])=false:=jI.2 (fM hc .start)
  have n10:(l==[119,101,116])=false:=jI.2 (fM hc .bQ)
  have n11:(l==[116,117,114,110])=false:=jI.2 (fM hc .turn)
  have n12:(l==[117,110,116,117,114,110])=false:=jI.2 (fM hc .pR)
  have n13:(l==[105,114,111,110])=false:=jI.2 (fM hc .BM)
  have n14:(l==[117,110,114,101,97,100])=false:=jI.2 (fM hc .unread)
  have n15:(l==[104,101,97,112])=false:=jI.2 (fM hc .heap)
  have n16:(l==[115,116,114,111,110,103])=false:=jI.2 (fM hc .strong)
  have n17:(l==[99,97,115,107])=false:=jI.2 (fM hc .oL)
  have n18:(l==[102,105,108,108])=false:=jI.2 (fM hc .fill)
  have n19:(l==[116,114,121])=false:=jI.2 (fM hc .Bh)
  have n20:(l==[117,110,116,114,121])=false:=jI.2 (fM hc .uZ)
  clear hc
  show Calls _ _ _ _ (PV (iv (-1)) w)
  go_enter Tryz.func94,Tryz.ntmps94
  go_wp2_with fail
  go_returns
  exact⟨by simp,aG _ _⟩
end Go.Proofs.YthbpmepjmebolaaGreatDoor.Bk
end

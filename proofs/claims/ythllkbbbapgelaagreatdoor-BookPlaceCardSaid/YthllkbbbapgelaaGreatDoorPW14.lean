/-
  Texts of this claim, packed by a program: DQ DR DS DT DU DW DV DX DY DZ EA EB EC ED EK.
-/
import Derived.WalkKit
import Derived.WalkLawsBesides
import Derived.WalkSpells
import Derived.Outline
import Derived.Handy
import Derived.KernelRfl
import Derived.Lib.Hide
import Derived.Deep.Cut
import Derived.Lib.AtoiAllCases
import Derived.Lib.SplitLaws
import Derived.Lib.IndexBytes
import Derived.Defers
import Derived.Recover
import Derived.Laws.Pointers
import Derived.Laws.Tables
import Derived.Lib.BufferWrite
import Derived.Laws.CopyOwn
import Derived.Test.YthllkbbbapgelaaGreatDoorPW13
set_option maxHeartbeats 8000000
set_option maxRecDepth 100000
set_option linter.all false
section
namespace Go.Proofs.YthllkbbbapgelaaGreatDoor.Bk
open Go.RowKit Go.RG Go.SL Go.Shelf jy Go.TB Go.Proofs.YthllkbbbapgelaaGreatDoor.AQ
def Ec (s:jO) (V:SV) (n:Nat) (kc:List Value):List Row:=
 [⟨186,5,V.xE,s.led.field.ax.length,dL s.led.field.ax⟩,⟨188,3,V.VY,s.led.notes.length,aX s.led.notes⟩,
   ⟨50,2,V.bZ,s.heap.bZ.length,aG s.heap.bZ⟩,⟨3,1,V.IQ,s.heap.turns.length,ah s.heap.turns⟩,⟨190,3,V.Qw,s.heap.readings.length,aX s.heap.readings⟩,
   ⟨129,2,V.hps,s.dA.heaps.length,aG s.dA.heaps⟩,⟨52,1,V.cks,n,kc⟩,⟨192,4,V.trs,s.dA.aJ.length,gK s.dA.aJ⟩]
theorem VC (s:jO) (V:SV) (es:List KE):iK s V es=Ec s V es.length (eU es)++es.map zD:=rfl
theorem VB (s:jO) (V:SV) (n:Nat) (kc kc':List Value) (X:List Row):(Ec s V n kc++X).set 6 ⟨52,1,V.cks,n,kc'⟩=Ec s V n kc'++X:=rfl
theorem CW (s:jO) (V:SV) (n:Nat) (kc:List Value) (X:List Row):(Ec s V n kc++X)[6]? =some ⟨52,1,V.cks,n,kc⟩:=rfl
theorem JR {w:World} {N:Nat} {t:TypeId} {size:Nat} {v:Value} {n:Nat} {xs:List Value} (h:w.ownsRow N t size v n xs) {g:Nat} (hg:v.ownBlock=some g): ∃cur,w.heap[g]? =some (.cells cur t (0,0)):=by
 obtain⟨h1,⟨rfl,h2⟩|⟨g',c,cs,rfl,hb,hc,h3⟩⟩:=h
 ·cases hg
 ·cases hg;exact⟨cs,hc⟩
theorem xB.Zf {N:Nat} {w:World} {bx:Nat} {R:List Row} (hbx:bx<w.heap.size) (hN:N<=bx) (hown: ∀r∈R,w.ownsRow (bx+1) r.t r.size r.v r.n r.xs) (hnd:(R.map (·.t)).Nodup):xB N w bx R where
 own i r hr:=df (hown r (ni hr)) (by omega)
 apart i j a b ha hb hij:=by
  rcases hq:a.v.ownBlock with _|g
  ·exact .inl rfl
  ·refine .inr fun e=>?_
   obtain⟨c1,h1⟩:=JR (hown a (ni ha)) hq
   obtain⟨c2,h2⟩:=JR (hown b (ni hb)) e.symm
   rw[h1] at h2
   have ht:a.t=b.t:=by injection h2 with h2;injection h2
   refine hij ((List.getElem?_inj (i:=i) (j:=j) (by simpa using(je.1 ha).1:i<(R.map (·.t)).length) hnd).1 ?_)
   rw[qy,qy,ha,hb,Option.map_some,Option.map_some,ht]
 off i r hr e:=by
  have:=((hown r (ni hr)).lt bx e).1
  omega
 lt:=hbx
 base:=hN
theorem xB.move {N:Nat} {w W:World} {bx wb:Nat} {R:List Row} (h:xB N w bx R) (hE:Ext [] w W) (hwb:w.heap.size<=wb) (hlt:wb<W.heap.size):xB N W wb R where
 own i r hr:=aC (h.own i r hr) hE (by simp)
 apart:=h.apart
 off i r hr e:=by have:=((h.own i r hr).lt wb e).2;omega
 lt:=hlt
 base:=by have:=h.base;have:=h.lt;omega
theorem abQ {w:World} {v:Value} {es:List KE} (h:xC w v es): ∀u∈eU es,u.oneCell'=true:=by
 intro u hu
 obtain⟨e,he,rfl⟩:=jc.1 hu
 obtain⟨o,c,hv⟩:=aN.open (h.2 e he)
 rw[hv];rfl
theorem FU (s:jO) (V:SV) (es:List KE) (w:World) (hS:pV w s V es) (hG:fO s):Calls Tryz.prog 101 #[.agg (dS s V)] w
 (fun e w'=>Below w.heap.size w w'/\ ∃wb V' es',e= .returned (.pointer (some ⟨wb,0,none⟩))/\jT w.heap.size w' wb s V' es'):=by
 obtain⟨vt,vn,vw,vu,vr,vh,vk,vs⟩:=V
 have HS:Hid (∀W,Below w.heap.size w W->pV W s ⟨vt,vn,vw,vu,vr,vh,vk,vs⟩ es):=ae (fun W hb=>hS.below hb (ai _))
 have hek:es.length=s.dA.aU.length:=hS.dA.len
 have jw:=ae (abQ hS.dA.aU)
 have HG:=ae hG
 have hl5:=hG.E5
 have hn5:=hG.notes
 have hw5:=hG.Vk
 have LZ:=hG.reads
 have hh3:=hG.TL
 have hk3:=hG.aU
 have ht5:=hG.aJ
 have hu5:s.heap.turns.length<=5:=by obtain⟨p,hp⟩:=hG.turns;rw[hp];exact Dh p
 have hke:es.length<=3:=by omega
 have hwl:s.heap.bZ.length<=5:=by omega
 have HEK:=ae hek
 clear hS hG hek hw5
 go_enter Tryz.func101,Tryz.ntmps101
 go_wp2_with fail
 refine dN fun W1 hW1=>?_
 have hb1:W1.heap[w.heap.size]? =some (.cells (dS s ⟨vt,vn,vw,vu,vr,vh,vk,vs⟩) 62 (0,0)):=by rw[hW1];exact ay _ _
 have HB1:=ae (show Below w.heap.size w W1 from by rw[hW1];exact aj (aH _ _) _)
 have hsz1:w.heap.size<W1.heap.size:=(aS.1 hb1).1
 obtain⟨c1,f1,l1⟩:=af hb1
 have Yo:=ae hb1
 clear hW1 hb1
 refine RX.gy (fun _ _=>False) 10 [] none [(5,⟨fun _ v=> ∃o c,v= .slice o s.led.field.ax.length c,fun _ v Wx=>Wx.ownsRow W1.heap.size 186 5 v s.led.field.ax.length (dL s.led.field.ax)⟩),(9,⟨fun _ v=> ∃o c,v= .slice o s.led.notes.length c,fun _ v Wx=>Wx.ownsRow W1.heap.size 188 3 v s.led.notes.length (aX s.led.notes)⟩)] (by rintro ps a1 Wx hdf h;exact h.elim) (by as_aux_lemma=>kernel_rfl) (by as_aux_lemma=>kernel_rfl) ?_
 simp only[zt]
 repeat (refine RX.zd ?_;simp only[zp])
 refine RX.bG _ (by rfl) (by rfl) (by exact⟨.slice none (s.led.field.ax.length) 0,none,0,rfl⟩) (fun Wq hE hF=>?_) (fun v Wa Wb ho hE=>?_) (fun v hv=>?_)
 ·have hE':Ext [] W1 Wq:=hE
  refine RX.dE 176 #[vt] (by go_simp;try rfl) ?_
  refine(MO (s.led.field.ax.length) (dL s.led.field.ax) vt Wq (HS.o Wq (aY HB1.o hE'.below)).xE (Eg _) (by omega)).mono ?_
  rintro e w' ⟨v',rfl,ho,hb⟩
  exact .inl ⟨_,rfl,aT ho,df ho hE'.size,Ext.aA hb⟩
 ·exact aC (Ms:=[]) ho hE (by simp)
 obtain⟨Eh,EN,rfl⟩:=hv
 simp only[zp]
 repeat (refine RX.zd ?_;simp only[zp])
 refine RX.bG _ (by rfl) (by rfl) (by exact⟨.slice none (s.led.notes.length) 0,none,0,rfl⟩) (fun Wq hE hF=>?_) (fun v Wa Wb ho hE=>?_) (fun v hv=>?_)
 ·have hE':Ext [] W1 Wq:=hE
  refine RX.dE 177 #[vn] (by go_simp;try rfl) ?_
  refine(Jd (s.led.notes.length) (aX s.led.notes) vn Wq (HS.o Wq (aY HB1.o hE'.below)).VY (uK _) (by omega)).mono ?_
  rintro e w' ⟨v',rfl,ho,hb⟩
  exact .inl ⟨_,rfl,aT ho,df ho hE'.size,Ext.aA hb⟩
 ·exact aC (Ms:=[]) ho hE (by simp)
 obtain⟨Ei,EO,rfl⟩:=hv
 simp only[zp]
 repeat (refine RX.zd ?_;simp only[zp])
 intro Wt hE hF
 have ZO:Wt.ownsRow W1.heap.size 188 3 (.slice Ei s.led.notes.length EO) s.led.notes.length (aX s.led.notes):=hF _ (bF _)
 have ZM:Wt.ownsRow W1.heap.size 186 5 (.slice Eh s.led.field.ax.length EN) s.led.field.ax.length (dL s.led.field.ax):=hF _ (nJ _ (bF _))
 have hE':Ext [] W1 Wt:=hE
 have HBt:=ae (aY HB1.o hE'.below)
 have hbt:=(hE'.block _ l1 (by simp)).trans Yo.o
 have HKt:=ae hbt
 have Yh:=ae hE'
 obtain⟨ct,ft,lt⟩:=af hbt
 clear hE hF hE' hbt c1 f1
 have AO:=ae ZM
 have AP:=ae ZO
 clear ZM ZO
 go_upto_region 3 with(fail)
 refine dN fun W2 qi=>?_
 have hbk:W2.heap[w.heap.size]? =some (.cells (dS s ⟨.slice Eh s.led.field.ax.length EN,.slice Ei s.led.notes.length EO,vw,vu,vr,vh,vk,vs⟩) 62 (0,0)):=by rw[qi];exact aI (aI (HKt.o) _) _
 have HB2:=ae (show Below w.heap.size w W2 from by rw[qi];exact((HBt.o).setCell (ai _) _).setCell (ai _) _)
 have hEs:Ext [w.heap.size] Wt W2:=by rw[qi];exact(gz).trans gz
 have AO:=ae (df (base:=W1.heap.size) (aC (Ms:=[w.heap.size]) AO.o hEs (by simp;exact hsz1)) (ai _))
 have AP:=ae (df (base:=W1.heap.size) (aC (Ms:=[w.heap.size]) AP.o hEs (by simp;exact hsz1)) (ai _))
 have hsz2:W1.heap.size<=W2.heap.size:=by have:=hEs.size;have:=Yh.o.size;omega
 obtain⟨c2,f2,l2⟩:=af hbk
 have HK2:=ae hbk
 clear qi hbk hEs ct ft
 refine RX.gy (fun _ _=>False) 12 [] none [(3,⟨fun _ v=> ∃o c,v= .slice o s.heap.bZ.length c,fun _ v Wx=>Wx.ownsRow W2.heap.size 50 2 v s.heap.bZ.length (aG s.heap.bZ)⟩),(7,⟨fun _ v=> ∃o c,v= .slice o s.heap.turns.length c,fun _ v Wx=>Wx.ownsRow W2.heap.size 3 1 v s.heap.turns.length (ah s.heap.turns)⟩),(11,⟨fun _ v=> ∃o c,v= .slice o s.heap.readings.length c,fun _ v Wx=>Wx.ownsRow W2.heap.size 190 3 v s.heap.readings.length (aX s.heap.readings)⟩)] (by rintro ps a1 Wx hdf h;exact h.elim) (by as_aux_lemma=>kernel_rfl) (by as_aux_lemma=>kernel_rfl) ?_
 simp only[zt]
 repeat (refine RX.zd ?_;simp only[zp])
 refine RX.bG _ (by rfl) (by rfl) (by exact⟨.slice none (s.heap.bZ.length) 0,none,0,rfl⟩) (fun Wq hE hF=>?_) (fun v Wa Wb ho hE=>?_) (fun v hv=>?_)
 ·have hE':Ext [] W2 Wq:=hE
  refine RX.dE 178 #[vw] (by go_simp;try rfl) ?_
  refine(MM (s.heap.bZ.length) (aG s.heap.bZ) vw Wq (HS.o Wq (aY HB2.o hE'.below)).bZ (oN _) (by omega)).mono ?_
  rintro e w' ⟨v',rfl,ho,hb⟩
  exact .inl ⟨_,rfl,aT ho,df ho hE'.size,Ext.aA hb⟩
 ·exact aC (Ms:=[]) ho hE (by simp)
 obtain⟨Gn,Ic,rfl⟩:=hv
 simp only[zp]
 repeat (refine RX.zd ?_;simp only[zp])
 refine RX.bG _ (by rfl) (by rfl) (by exact⟨.slice none (s.heap.turns.length) 0,none,0,rfl⟩) (fun Wq hE hF=>?_) (fun v Wa Wb ho hE=>?_) (fun v hv=>?_)
 ·have hE':Ext [] W2 Wq:=hE
  refine RX.dE 91 #[vu] (by go_simp;try rfl) ?_
  refine(BN (s.heap.turns.length) (ah s.heap.turns) vu Wq (HS.o Wq (aY HB2.o hE'.below)).IQ (jL _) (by omega)).mono ?_
  rintro e w' ⟨v',rfl,ho,hb⟩
  exact .inl ⟨_,rfl,aT ho,df ho hE'.size,Ext.aA hb⟩
 ·exact aC (Ms:=[]) ho hE (by simp)
 obtain⟨Gp,Ie,rfl⟩:=hv
 simp only[zp]
 repeat (refine RX.zd ?_;simp only[zp])
 refine RX.bG _ (by rfl) (by rfl) (by exact⟨.slice none (s.heap.readings.length) 0,none,0,rfl⟩) (fun Wq hE hF=>?_) (fun v Wa Wb ho hE=>?_) (fun v hv=>?_)
 ·have hE':Ext [] W2 Wq:=hE
  refine RX.dE 179 #[vr] (by go_simp;try rfl) ?_
  refine(Jc (s.heap.readings.length) (aX s.heap.readings) vr Wq (HS.o Wq (aY HB2.o hE'.below)).Qw (uK _) (by omega)).mono ?_
  rintro e w' ⟨v',rfl,ho,hb⟩
  exact .inl ⟨_,rfl,aT ho,df ho hE'.size,Ext.aA hb⟩
 ·exact aC (Ms:=[]) ho hE (by simp)
 obtain⟨Gq,Ig,rfl⟩:=hv
 simp only[zp]
 repeat (refine RX.zd ?_;simp only[zp])
 intro Wt hE hF
 have ZN:Wt.ownsRow W2.heap.size 190 3 (.slice Gq s.heap.readings.length Ig) s.heap.readings.length (aX s.heap.readings):=hF _ (bF _)
 have ZK:Wt.ownsRow W2.heap.size 3 1 (.slice Gp s.heap.turns.length Ie) s.heap.turns.length (ah s.heap.turns):=hF _ (nJ _ (bF _))
 have ZJ:Wt.ownsRow W2.heap.size 50 2 (.slice Gn s.heap.bZ.length Ic) s.heap.bZ.length (aG s.heap.bZ):=hF _ (nJ _ (nJ _ (bF _)))
 have hE':Ext [] W2 Wt:=hE
 have HBt:=ae (aY HB2.o hE'.below)
 have hbt:=(hE'.block _ l2 (by simp)).trans HK2.o
 have HKt:=ae hbt
 have Yh:=ae hE'
 obtain⟨ct,ft,lt⟩:=af hbt
 clear hE hF hE' hbt c2 f2
 have Iy:=ae ZJ
 have Iz:=ae ZK
 have IA:=ae ZN
 clear ZJ ZK ZN
 go_upto_region 4 with(fail)
 refine dN fun W3 qi=>?_
 have hbk:W3.heap[w.heap.size]? =some (.cells (dS s ⟨.slice Eh s.led.field.ax.length EN,.slice Ei s.led.notes.length EO,.slice Gn s.heap.bZ.length Ic,.slice Gp s.heap.turns.length Ie,.slice Gq s.heap.readings.length Ig,vh,vk,vs⟩) 62 (0,0)):=by rw[qi];exact aI (aI (aI (HKt.o) _) _) _
 have HB3:=ae (show Below w.heap.size w W3 from by rw[qi];exact(((HBt.o).setCell (ai _) _).setCell (ai _) _).setCell (ai _) _)
 have hEs:Ext [w.heap.size] Wt W3:=by rw[qi];exact((gz).trans gz).trans gz
 have AO:=ae (aC (Ms:=[w.heap.size]) (aC (Ms:=[]) AO.o Yh.o (by simp)) hEs (by simp;exact hsz1))
 have AP:=ae (aC (Ms:=[w.heap.size]) (aC (Ms:=[]) AP.o Yh.o (by simp)) hEs (by simp;exact hsz1))
 have Iy:=ae (df (base:=W1.heap.size) (aC (Ms:=[w.heap.size]) Iy.o hEs (by simp;omega)) (by omega))
 have Iz:=ae (df (base:=W1.heap.size) (aC (Ms:=[w.heap.size]) Iz.o hEs (by simp;omega)) (by omega))
 have IA:=ae (df (base:=W1.heap.size) (aC (Ms:=[w.heap.size]) IA.o hEs (by simp;omega)) (by omega))
 have hsz3:W1.heap.size<=W3.heap.size:=by have:=hEs.size;have:=Yh.o.size;omega
 obtain⟨c3,f3,l3⟩:=af hbk
 have XX:=ae hbk
 clear qi hbk hEs ct ft
 refine RX.gy (fun _ _=>False) 12 [] none [(3,⟨fun _ v=> ∃o c,v= .slice o s.dA.heaps.length c,fun _ v Wx=>Wx.ownsRow W3.heap.size 129 2 v s.dA.heaps.length (aG s.dA.heaps)⟩),(7,⟨fun _ v=> ∃o c,v= .slice o es.length c,fun _ v Wx=>Wx.ownsRow W3.heap.size 52 1 v es.length (eU es)⟩),(11,⟨fun _ v=> ∃o c,v= .slice o s.dA.aJ.length c,fun _ v Wx=>Wx.ownsRow W3.heap.size 192 4 v s.dA.aJ.length (gK s.dA.aJ)⟩)] (by rintro ps a1 Wx hdf h;exact h.elim) (by as_aux_lemma=>kernel_rfl) (by as_aux_lemma=>kernel_rfl) ?_
 simp only[zt]
 repeat (refine RX.zd ?_;simp only[zp])
 refine RX.bG _ (by rfl) (by rfl) (by exact⟨.slice none (s.dA.heaps.length) 0,none,0,rfl⟩) (fun Wq hE hF=>?_) (fun v Wa Wb ho hE=>?_) (fun v hv=>?_)
 ·have hE':Ext [] W3 Wq:=hE
  refine RX.dE 180 #[vh] (by go_simp;try rfl) ?_
  refine(MP (s.dA.heaps.length) (aG s.dA.heaps) vh Wq (HS.o Wq (aY HB3.o hE'.below)).dA.heaps (oN _) (by omega)).mono ?_
  rintro e w' ⟨v',rfl,ho,hb⟩
  exact .inl ⟨_,rfl,aT ho,df ho hE'.size,Ext.aA hb⟩
 ·exact aC (Ms:=[]) ho hE (by simp)
 obtain⟨JX,KC,rfl⟩:=hv
 simp only[zp]
 repeat (refine RX.zd ?_;simp only[zp])
 refine RX.bG _ (by rfl) (by rfl) (by exact⟨.slice none (es.length) 0,none,0,rfl⟩) (fun Wq hE hF=>?_) (fun v Wa Wb ho hE=>?_) (fun v hv=>?_)
 ·have hE':Ext [] W3 Wq:=hE
  refine RX.dE 181 #[vk] (by go_simp;try rfl) ?_
  refine(MQ (es.length) (eU es) vk Wq (HS.o Wq (aY HB3.o hE'.below)).dA.aU.1 (jw.o) (by omega)).mono ?_
  rintro e w' ⟨v',rfl,ho,hb⟩
  exact .inl ⟨_,rfl,aT ho,df ho hE'.size,Ext.aA hb⟩
 ·exact aC (Ms:=[]) ho hE (by simp)
 obtain⟨Gt,BP,rfl⟩:=hv
 simp only[zp]
 repeat (refine RX.zd ?_;simp only[zp])
 refine RX.bG _ (by rfl) (by rfl) (by exact⟨.slice none (s.dA.aJ.length) 0,none,0,rfl⟩) (fun Wq hE hF=>?_) (fun v Wa Wb ho hE=>?_) (fun v hv=>?_)
 ·have hE':Ext [] W3 Wq:=hE
  refine RX.dE 182 #[vs] (by go_simp;try rfl) ?_
  refine(MN (s.dA.aJ.length) (gK s.dA.aJ) vs Wq (HS.o Wq (aY HB3.o hE'.below)).dA.aJ (Oh _) (by omega)).mono ?_
  rintro e w' ⟨v',rfl,ho,hb⟩
  exact .inl ⟨_,rfl,aT ho,df ho hE'.size,Ext.aA hb⟩
 ·exact aC (Ms:=[]) ho hE (by simp)
 obtain⟨JW,KA,rfl⟩:=hv
 simp only[zp]
 repeat (refine RX.zd ?_;simp only[zp])
 intro Wt hE hF
 have ZL:Wt.ownsRow W3.heap.size 192 4 (.slice JW s.dA.aJ.length KA) s.dA.aJ.length (gK s.dA.aJ):=hF _ (bF _)
 have ZQ:Wt.ownsRow W3.heap.size 52 1 (.slice Gt es.length BP) es.length (eU es):=hF _ (nJ _ (bF _))
 have ZP:Wt.ownsRow W3.heap.size 129 2 (.slice JX s.dA.heaps.length KC) s.dA.heaps.length (aG s.dA.heaps):=hF _ (nJ _ (nJ _ (bF _)))
 have hE':Ext [] W3 Wt:=hE
 have HBt:=ae (aY HB3.o hE'.below)
 have hbt:=(hE'.block _ l3 (by simp)).trans XX.o
 have HKt:=ae hbt
 have Yh:=ae hE'
 obtain⟨ct,ft,lt⟩:=af hbt
 clear hE hF hE' hbt c3 f3
 have Uh:=ae ZP
 have Ui:=ae ZQ
 have Ug:=ae ZL
 clear ZP ZQ ZL
 go_upto_region 5 with(fail)
 refine dN fun W4 qi=>?_
 have hbk:W4.heap[w.heap.size]? =some (.cells (dS s ⟨.slice Eh s.led.field.ax.length EN,.slice Ei s.led.notes.length EO,.slice Gn s.heap.bZ.length Ic,.slice Gp s.heap.turns.length Ie,.slice Gq s.heap.readings.length Ig,.slice JX s.dA.heaps.length KC,.slice Gt es.length BP,.slice JW s.dA.aJ.length KA⟩) 62 (0,0)):=by rw[qi];exact aI (aI (aI (HKt.o) _) _) _
 have HB4:=ae (show Below w.heap.size w W4 from by rw[qi];exact(((HBt.o).setCell (ai _) _).setCell (ai _) _).setCell (ai _) _)
 have hEs:Ext [w.heap.size] Wt W4:=by rw[qi];exact((gz).trans gz).trans gz
 have AO:=ae (aC (Ms:=[w.heap.size]) (aC (Ms:=[]) AO.o Yh.o (by simp)) hEs (by simp;exact hsz1))
 have AP:=ae (aC (Ms:=[w.heap.size]) (aC (Ms:=[]) AP.o Yh.o (by simp)) hEs (by simp;exact hsz1))
 have Iy:=ae (aC (Ms:=[w.heap.size]) (aC (Ms:=[]) Iy.o Yh.o (by simp)) hEs (by simp;exact hsz1))
 have Iz:=ae (aC (Ms:=[w.heap.size]) (aC (Ms:=[]) Iz.o Yh.o (by simp)) hEs (by simp;exact hsz1))
 have IA:=ae (aC (Ms:=[w.heap.size]) (aC (Ms:=[]) IA.o Yh.o (by simp)) hEs (by simp;exact hsz1))
 have Uh:=ae (df (base:=W1.heap.size) (aC (Ms:=[w.heap.size]) Uh.o hEs (by simp;omega)) (by omega))
 have Ui:=ae (df (base:=W1.heap.size) (aC (Ms:=[w.heap.size]) Ui.o hEs (by simp;omega)) (by omega))
 have Ug:=ae (df (base:=W1.heap.size) (aC (Ms:=[w.heap.size]) Ug.o hEs (by simp;omega)) (by omega))
 have aef:W1.heap.size<=W4.heap.size:=by have:=hEs.size;have:=Yh.o.size;omega
 obtain⟨c4,f4,l4⟩:=af hbk
 have HK4:=ae hbk
 clear qi hbk hEs ct ft
 have hR0:xB w.heap.size W4 w.heap.size (Ec s ⟨.slice Eh s.led.field.ax.length EN,.slice Ei s.led.notes.length EO,.slice Gn s.heap.bZ.length Ic,.slice Gp s.heap.turns.length Ie,.slice Gq s.heap.readings.length Ig,.slice JX s.dA.heaps.length KC,.slice Gt es.length BP,.slice JW s.dA.aJ.length KA⟩ es.length (eU es)):=by
  refine xB.Zf (by have:=HB4.o.size;omega) (ai _) ?_ (by simp[Ec])
  intro r hr
  simp only[Ec,gZ,List.not_mem_nil,or_false] at hr
  rcases hr with rfl|rfl|rfl|rfl|rfl|rfl|rfl|rfl
  ·exact df AO.o (by omega)
  ·exact df AP.o (by omega)
  ·exact df Iy.o (by omega)
  ·exact df Iz.o (by omega)
  ·exact df IA.o (by omega)
  ·exact df Uh.o (by omega)
  ·exact df Ui.o (by omega)
  ·exact df Ug.o (by omega)
 have HR0:=ae hR0
 clear hR0
 go_wp2_with fail
 go_loopw [4,5,58] (fun _ _ u wr=> ∃i:Nat,i<=es.length/\u= .int .i64 i/\Below w.heap.size w wr/\wr.heap[w.heap.size]? =some (.cells (dS s ⟨.slice Eh s.led.field.ax.length EN,.slice Ei s.led.notes.length EO,.slice Gn s.heap.bZ.length Ic,.slice Gp s.heap.turns.length Ie,.slice Gq s.heap.readings.length Ig,.slice JX s.dA.heaps.length KC,.slice Gt es.length BP,.slice JW s.dA.aJ.length KA⟩) 62 (0,0))/\ ∃es':List KE,es'.length=i/\es'.map (·.2)=s.dA.aU.take i/\xB w.heap.size wr w.heap.size (Ec s ⟨.slice Eh s.led.field.ax.length EN,.slice Ei s.led.notes.length EO,.slice Gn s.heap.bZ.length Ic,.slice Gp s.heap.turns.length Ie,.slice Gq s.heap.readings.length Ig,.slice JX s.dA.heaps.length KC,.slice Gt es.length BP,.slice JW s.dA.aJ.length KA⟩ es.length (eU (es'++es.drop i))++es'.map zD)) (fun _ _ u _=>es.length-(intOf u).toNat)
 case atStart=>exact⟨0,bQ _,rfl,HB4.o,HK4.o,[],rfl,rfl,by simpa using HR0.o⟩
 case round=>
  obtain⟨i,hi,rfl,hB,hbk,es',I9,hes',hOr⟩:=hrel
  obtain⟨c5,f5,l5⟩:=af hbk
  by_cases hlt:i<es.length
  ·have hcx:=HEK.o
   obtain⟨ev,el,Dj⟩: ∃ev el,es[i]? =some (ev,el):=⟨_,_,dw hlt⟩
   have hcas:s.dA.aU[i]? =some el:=by rw[<-(HS.o w (aH _ _)).dA.is,qy,Dj];rfl
   have akx:el.length<=3:=by have:=(HG.o.qm el (ni hcas)).1;omega
   have h6:wr.ownsRow w.heap.size 52 1 (.slice Gt es.length BP) es.length (eU (es'++es.drop i)):=hOr.own 6 _ (CW _ _ _ _ _)
   obtain⟨gk,akq,hgk,hfk,hkl⟩:=gX h6 (by omega)
   subst akq
   have hgx:(eU (es'++es.drop i))[i]? =some ev:=by
    unfold eU
    rw[qy,oG (by omega),I9,Nat.sub_self,List.getElem?_drop,Nat.add_zero,Dj];rfl
   obtain⟨hg',eg'⟩:=je.1 hgx
   have g6:=(hgk i hg').trans (by rw[eg'])
   have HX:=ae (ag hB (ag hbk (ag I9 (ag hes' (ag hOr (ag h6 (ag Dj hcas)))))))
   have hgb:gk≠w.heap.size:=fun e=>hOr.off 6 _ (CW _ _ _ _ _) (by rw[<-e];rfl)
   clear hB hbk I9 hes' hOr h6 hgx hg' eg' hgk Dj hcas hcx
   go_wp2_with fail
   refine RX.gy (fun _ _=>False) 6 [] none [(5,⟨fun _ v=> ∃o c,v= .slice o el.length c,fun _ v Wx=>Wx.ownsRow wr.heap.size 3 1 v el.length (ah el)⟩)] (by rintro ps a1 Wx hdf h;exact h.elim) (by as_aux_lemma=>kernel_rfl) (by as_aux_lemma=>kernel_rfl) ?_
   simp only[zt]
   repeat (refine RX.zd ?_;simp only[zp])
   refine RX.bG _ (by rfl) (by rfl) (by exact⟨.slice none el.length 0,none,0,rfl⟩) (fun Wq hE hF=>?_) (fun v Wa Wb ho hE=>?_) (fun v hv=>?_)
   ·have hE':Ext [] wr Wq:=hE
    refine RX.dE 91 #[ev] (by go_simp;try rfl) ?_
    refine(BN el.length (ah el) ev Wq ((HS.o Wq (aY HX.o.1 (show Below wr.heap.size wr Wq from hE'.below))).dA.aU.2 (ev,el) (ni HX.o.2.2.2.2.2.2.1)) (jL _) (by omega)).mono ?_
    rintro e w' ⟨v',rfl,ho,hb⟩
    exact .inl ⟨_,rfl,aT ho,df ho hE'.size,Ext.aA hb⟩
   ·exact aC (Ms:=[]) ho hE (by simp)
   obtain⟨o8,c8,rfl⟩:=hv
   simp only[zp]
   intro W8 hE hF
   have qE:W8.ownsRow wr.heap.size 3 1 (.slice o8 el.length c8) el.length (ah el):=hF _ (bF _)
   have gY:Ext [] wr W8:=hE
   have hbl:=(gY.block _ l5 (by simp)).trans HX.o.2.1
   obtain⟨c9,f9,l9⟩:=af hbl
   have hR1:=HX.o.2.2.2.2.1.push (zD (.slice o8 el.length c8,el)) gY (by simp) (df qE (by have:=HX.o.1.size;omega)) (by rcases hq:(Value.slice o8 el.length c8).ownBlock with _|g;(exact .inl hq);(exact .inr ⟨g,hq,(qE.lt g hq).1⟩))
   have h68:=aC (Ms:=[]) HX.o.2.2.2.2.2.1 gY (by simp)
   obtain⟨gk',aet,akr,aoQ,aoz⟩:=gX h68 (by omega)
   cases aet
   have g7:=(gY.cell gk i hkl (by simp)).trans g6
   have H8:=ae (ag gY (ag hbl (ag hR1 h68)))
   clear hE hF qE gY hbl hR1 h68 akr c5 f5 g6 hfk
   go_wp2_with fail
   go_roundw
   case rel=>
    refine⟨i+1,by omega,by go_num,(aY HX.o.1 H8.o.1.below).setCell (H8.o.2.2.2.lt gk rfl).1 _,((gz (W:=W8) (b:=gk) (off:=i) (v:= .slice o8 el.length c8)).block _ l9 (by simpa using fun e=>hgb e.symm)).trans H8.o.2.1,es'++[(.slice o8 el.length c8,el)],by simp[HX.o.2.2.1],?_,?_⟩
    ·rw[List.map_append,HX.o.2.2.2.1,qY,HX.o.2.2.2.2.2.2.2];rfl
    ·have hS:=lU H8.o.2.2.2 i (.slice o8 el.length c8)
     have hk2:(eU (es'++es.drop i)).set i (.slice o8 el.length c8)=eU (es'++[(.slice o8 el.length c8,el)]++es.drop (i+1)):=by
      unfold eU
      rw[List.map_append,qA _ _ (by simp[HX.o.2.2.1]),mD,HX.o.2.2.1,Nat.sub_self,uj hlt,List.map_cons,List.set_cons_zero]
      simp
     have hP:=H8.o.2.2.1.put (i:=6) (r:=⟨52,1,.slice (some ⟨gk,0,none⟩) es.length BP,es.length,eU (es'++es.drop i)⟩) (by rw[jg];exact CW _ _ _ _ _) ⟨52,1,.slice (some ⟨gk,0,none⟩) es.length BP,es.length,eU (es'++[(.slice o8 el.length c8,el)]++es.drop (i+1))⟩ (gz (W:=W8) (b:=gk) (off:=i) (v:= .slice o8 el.length c8)) (fun m hm=> .inr (.inr (by rw[fD.1 hm];rfl))) (by rw[hk2] at hS;exact hS) (.inl rfl)
     rw[jg,VB] at hP
     rw[List.map_append]
     exact hP
   case measure=>simp[intOf];omega
  ·obtain rfl:i=es.length:=by omega
   have HX:=ae (ag hB (ag hbk (ag I9 (ag hes' hOr))))
   clear hB hbk I9 hes' hOr
   go_upto_region 10 with(fail)
   refine wp_region_lit ?_
   refine wpList_load_row rfl _ _ rfl w.heap.size rfl _ _ _ _ HX.o.2.1 Tryz.underlying62 rfl (by kernel_rfl) ?_
   simp only[zp]
   clear c5 f5
   go_wp2_with fail
   trace_state
   go_returns
   refine⟨aj HX.o.1 _,wr.heap.size,⟨.slice Eh s.led.field.ax.length EN,.slice Ei s.led.notes.length EO,.slice Gn s.heap.bZ.length Ic,.slice Gp s.heap.turns.length Ie,.slice Gq s.heap.readings.length Ig,.slice JX s.dA.heaps.length KC,.slice Gt es.length BP,.slice JW s.dA.aJ.length KA⟩,es',by simp,⟨ay _ _,?_,?_⟩⟩
   ·have h:=HX.o.2.2.2.2
    rw[List.drop_length,List.append_nil] at h
    rw[VC,HX.o.2.2.1]
    exact h.move (Ext.aA (aj (aH _ _) _)) (ai _) (by simp)
   ·rw[HX.o.2.2.2.1,kF (by have:=HEK.o;omega)]
structure Env (w:World):Prop where
 pow: ∃t f,w.heap[0]? =some (.cells (Lib.pow10Tab.map fun z=>Value.int .u64 z).toArray t f)
 len: ∃m,w.cell? ⟨1,0,none⟩=some (.int .i64 m)/\1<w.heap.size
 syn: ∃tp p t f,w.heap[2]? =some (.cells #[.iface tp p] t f)
 rng: ∃tp p t f,w.heap[3]? =some (.cells #[.iface tp p] t f)
theorem Env.lts {w:World} (h:Env w):0<w.heap.size/\1<w.heap.size/\2<w.heap.size/\3<w.heap.size:=by
 obtain⟨t,f,h0⟩:=h.pow
 obtain⟨m,h1,hl⟩:=h.len
 obtain⟨tp,p,t2,f2,h2⟩:=h.syn
 obtain⟨tp3,p3,t3,f3,h3⟩:=h.rng
 exact⟨(aS.1 h0).1,hl,(aS.1 h2).1,(aS.1 h3).1⟩
theorem Env.size {w:World} (h:Env w):4<=w.heap.size:=by
 have:=h.lts
 omega
theorem Env.below {w W:World} (h:Env w) {B:Nat} (hb:Below B w W) (hB:w.heap.size<=B):Env W:=by
 have h4:=h.lts
 have hz:=hb.size
 obtain⟨t,f,h0⟩:=h.pow
 obtain⟨m,h1,hl⟩:=h.len
 obtain⟨tp,p,t2,f2,h2⟩:=h.syn
 obtain⟨tp3,p3,t3,f3,h3⟩:=h.rng
 exact⟨⟨t,f,(hb.block 0 (by omega)).trans h0⟩,⟨m,(jd (hb.block 1 (by omega))).trans h1,by omega⟩,⟨tp,p,t2,f2,(hb.block 2 (by omega)).trans h2⟩,⟨tp3,p3,t3,f3,(hb.block 3 (by omega)).trans h3⟩⟩
theorem QM {w:World} {g:Nat} {cs:Array Value} {t:TypeId} {f:Nat×Nat} (h:w.heap[g]? =some (.cells cs t f)) {nm:String} (hn:Tryz.prog.globalNamed nm=some g):w.var? Tryz.prog nm=some cs:=by
 simp[World.var?,hn,h]
theorem UY {w:World} (h:Env w) {nm:String} (hn:Tryz.prog.globalNamed nm=some 0):Lib.TabIs Tryz.prog w nm .u64 Lib.pow10Tab:=by
 obtain⟨t,f,h0⟩:=h.pow
 exact QM h0 hn
abbrev dG (l:az):ByteArray:=⟨l.toArray⟩
theorem bytesWorld_below (w:World) (t:TypeId) (s:ByteArray):Below w.heap.size w (Lib.bytesWorld w t s):=by
 unfold Lib.bytesWorld
 refine⟨rfl,rfl,rfl,?_,fun i hi=>?_⟩
 ·simp[World.freeze]
 ·have:w.heap.size≠i:=by omega
  simp[World.freeze,Array.getElem?_modify,this]
  exact heap_alloc_old _ _ hi
theorem Hf (w:World) (k:Nat) (os:Array Obj):Below w.heap.size w (Go.Sort.grow (w.drewN k) os):=by
 refine⟨rfl,rfl,rfl,by simp[Go.Sort.grow,World.drewN],fun i hi=>?_⟩
 rw[Go.Sort.heap_grow_old _ _ (by simpa [World.drewN] using hi)]
 rfl
theorem aaO (l:az) (w:World) (hE:Env w) (hl:l.length<=1000):Calls Tryz.prog 175 #[.string (dG l)] w
 (fun e w'=>Below w.heap.size w w'/\((∃v,Lib.atoiAll l= .ok v/\e= .returned (.tuple #[iv v,.nilIface]))∨((∀v,Lib.atoiAll l≠ .ok v)/\ ∃v t p,e= .returned (.tuple #[iv v,.iface t p])))):=by
 have hs:(dG l).size=l.length:=by simp[dG,ByteArray.size]
 cases ha:Lib.atoiAll l with
 |ok v=>
  refine(Go.Proofs.Tryz.strconv_Atoi_ok (dG l) (by rw[hs];omega) v ha w).mono ?_
  rintro e w' ⟨rfl,h|⟨t,h⟩⟩
  ·subst h;exact⟨aH _ _,.inl ⟨v,rfl,rfl⟩⟩
  ·subst h;exact⟨bytesWorld_below _ _ _,.inl ⟨v,rfl,rfl⟩⟩
 |range=>
  obtain⟨tp,p,t2,f2,h2⟩:=hE.rng
  refine(Go.Proofs.Tryz.strconv_Atoi_range_var (dG l) (by rw[hs];omega) ha tp p w (QM h2 (by kernel_rfl))).mono ?_
  rintro e w' ⟨M,rfl,h1,h2,h3⟩
  exact⟨h3,.inr ⟨(fun v h=>by cases h),_,_,_,rfl⟩⟩
 |_=>
  obtain⟨tp,p,t2,f2,h2⟩:=hE.syn
  refine(Go.Proofs.Tryz.strconv_Atoi_syntax_var (dG l) (by rw[hs];omega) ha tp p w (QM h2 (by kernel_rfl))).mono ?_
  rintro e w' ⟨M,rfl,h1,h2,h3⟩
  exact⟨h3,.inr ⟨(fun v h=>by cases h),_,_,_,rfl⟩⟩
theorem Zk {l:az} (h: ∀v,Lib.atoiAll l≠ .ok v):pI l=none:=by
 cases hn:pI l with
 |none=>rfl
 |some v=>
  have h4:=(Fv hn).2
  have:=Lib.atoiAll_short l (by omega)
  rw[ER hn] at this
  exact absurd this (h v)
theorem Gu {l:az} {v n:Int} (h:Lib.atoiAll l= .ok v) (hn:pI l=some n):v=n:=by
 have h4:=(Fv hn).2
 have:=Lib.atoiAll_short l (by omega)
 rw[ER hn,h] at this
 injection this
def ale (l:az) (w:World) (e:Ending) (w':World):Prop:=Below w.heap.size w w'/\ ∃v,e= .returned (.tuple #[iv v,.bool (pI l).isSome])/\ ∀n,pI l=some n->v=n
theorem Rw (l:az) (w:World) (hE:Env w) (hl:l.length<=1000):Calls Tryz.prog 100 #[.string (dG l)] w (ale l w):=by
 have hs:(dG l).size=l.length:=by simp[dG,ByteArray.size]
 have HA:=ae (aaO l w hE hl)
 have HE:=ae hE
 clear hE
 go_enter Tryz.func100,Tryz.ntmps100
 go_wp2_with fail
 refine HA.o.mono ?_
 rintro e w1 ⟨hb,⟨v,hv,rfl⟩|⟨hno,v,t,p,rfl⟩⟩
 ·have HB:=ae hb
  have HV:=ae hv
  clear hb hv
  by_cases h0:0<=v
  ·by_cases h4:l.length<=4
   ·have h5:(l.length:Int)<=4:=by omega
    go_wp2_with fail
    refine(Go.Proofs.Tryz.strconv_Itoa v (by omega) (by have:=(Lib.atoiAll_bounds HV.o).2;omega) w1 (UY (HE.o.below HB.o (ai _)) (by kernel_rfl))).mono ?_
    rintro e w2 ⟨rfl,k,os,rfl⟩
    have HG:=ae (Hf w1 k os)
    obtain⟨w3,hw3⟩: ∃w3,w3=Go.Sort.grow (w1.drewN k) os:=⟨_,rfl⟩
    rw[<-hw3] at HG⊢
    clear hw3
    go_wp2_with fail
    go_returns
    refine⟨aY HB.o HG.o,v,?_,fun n hn=>Gu HV.o hn⟩
    by_cases he:Lib.itoa v=l
    ·rw[Ol h0 h4 he];simp[he]
    ·have hn:pI l=none:=by
      cases hn:pI l with
      |none=>rfl
      |some n=>exact absurd (Gu HV.o hn▸Zx hn) he
     rw[hn]
     have:(Lib.itoa v==l)=false:=by simpa using he
     simp[this]
   ·have h5: ¬(l.length:Int)<=4:=by omega
    go_wp2_with fail
    go_returns
    refine⟨HB.o,v,?_,fun n hn=>Gu HV.o hn⟩
    have hn:pI l=none:=by
     cases hn:pI l with
     |none=>rfl
     |some n=>exact absurd (Fv hn).2 h4
    rw[hn];simp
  ·go_wp2_with fail
   go_returns
   refine⟨HB.o,v,?_,fun n hn=>Gu HV.o hn⟩
   have hn:pI l=none:=by
    cases hn:pI l with
    |none=>rfl
    |some n=>have h1:=Gu HV.o hn;have h2:=(Ls hn).1;omega
   rw[hn];simp
 ·have HB:=ae hb
  have HN:=ae (Zk hno)
  clear hb hno
  go_wp2_with fail
  go_returns
  exact⟨HB.o,v,by rw[HN.o];simp,fun n hn=>by rw[HN.o] at hn;cases hn⟩
theorem KZ: ∀l:az,Lib.splitK [32] 0 (Lib.count l [32]) l=iL l:=by
 intro l
 induction l with
 |nil=>rfl
 |cons c l ih=>
  by_cases hc:c=32
  ·subst hc
   rw[Lib.count_cons_eq,Nat.add_comm,Lib.splitK,Lib.index_one,Lib.indexByte,iL,aF rfl]
   simp[ih]
  ·rw[Lib.count_cons_ne c 32 l hc,iL,ak hc]
   cases hk:Lib.count l [32] with
   |zero=>
    rw[hk] at ih
    rw[<-ih]
    rfl
   |succ k=>
    rw[hk] at ih
    have hb:(c==32)=false:=by simpa using hc
    have hi:Lib.index l [32]≠ -1:=fun h=>by have:=Lib.count_miss h;omega
    have hge:=Lib.index_ge l [32]
    obtain⟨i,hi2⟩: ∃i:Nat,Lib.index l [32]=i:=⟨(Lib.index l [32]).toNat,by omega⟩
    have e1:(Lib.index l [32]== -1)=false:=by simpa using hi
    have hj:Lib.index (c::l) [32]=(i:Int)+1:=by
     rw[Lib.index_one,Lib.indexByte,hb, <-Lib.index_one,e1,hi2];rfl
    have e2:(Lib.index (c::l) [32]== -1)=false:=by rw[hj];simp;omega
    rw[Lib.splitK,e1] at ih
    rw[Lib.splitK,e2]
    simp only[Bool.false_eq_true,if_false,Nat.add_zero,List.length_singleton] at ih⊢
    rw[<-ih,hj,hi2]
    have h1:((i:Int)+1).toNat=i+1:=by omega
    rw[h1]
    simp
theorem Eb (l:az):(Lib.splitB ⟨#[32]⟩ 0 (Lib.countB (dG l) ⟨#[32]⟩) (dG l)).map (·.data.toList)=iL l:=by
 rw[Lib.splitB_data]
 exact KZ l
abbrev bH (ps:List az):List Value:=ps.map fun p=> .string (dG p)
abbrev iG (w:World) (v:Value) (ps:List az):Prop:=aN 1 w v ps.length (bH ps)
theorem Xt (s:ByteArray):dG s.data.toList=s:=by cases s;simp[dG]
theorem Vw (l:az) (w:World) (hE:Env w) (hl:l.length<=1000):Calls Tryz.prog 97 #[.string (dG l),.string ⟨#[32]⟩] w
 (fun e w'=> ∃n,n=(iL l).length/\e= .returned (.slice (some ⟨w.heap.size,0,none⟩) n n)/\w'=w.alloc (.cells (bH (iL l)).toArray 9)):=by
 obtain⟨m,hm,_⟩:=hE.len
 have hs:(dG l).size=l.length:=by simp[dG,ByteArray.size]
 have hlen:=Lib.splitB_all ⟨#[32]⟩ (by decide) 0 _ (dG l) rfl
 refine(Go.Proofs.Tryz.strings_Split (dG l) ⟨#[32]⟩ m w (by rw[hs];omega) hm (by decide)).mono ?_
 rintro e w' ⟨rfl,rfl⟩
 refine⟨_,?_,rfl,?_⟩
 ·rw[<-Eb,mD,hlen]
 ·rw[<-Eb]
  congr 3
  unfold bH
  rw[List.map_map]
  apply List.map_congr_left
  intro x _
  simp only[Function.comp,Xt]
theorem catch_idle (x y z:Addr) (w:World):
 CallsD Tryz.prog 96 #[.pointer (some x),.pointer (some y),.pointer (some z)] .returning w fun e u' w'=>e= .returned (.tuple #[])/\u'= .returning/\w'=w:=by
 refine callsD_of_wpS Tryz.func96 rfl fun c₀ cs hu=>?_
 apply wpS_seq
 apply wpS_region
 simp[wpOpsS,go_sem,recoverD,hu,Tryz.ntmps96,Exit.thenS]
 refine wpS_of_wp ?_
 go_wp2
 cases c₀
 simp_all [bodyPostS,results,Tryz.results96]
theorem zS {P:Program} {o:Oper} {ρ:Operand->Value} {w:World} (ty:TypeId) (x:Operand) (ho:o.op= .load ty x)
 (g:Nat) (hx:ρ x= .pointer (some ⟨g,0,none⟩)) (t:TypeId) (cs:Array Value) (fr:Nat×Nat) (d:TypeDesc) (hg:w.heap[g]? =some (.cells cs t fr))
 (hu:P.underlying ty=some d) (hd:(match d with| .struct _| .array _ _=>true|_=>false)=true) (hi:(P.info? ty).map (·.size)=some cs.size):(execOp ρ o).run P w= .ok (.value (.agg cs)) w:=by
 unfold execOp
 simp only[ho,hx,Instr.loadAt,Instr.sureAddr,Sem.run_bind,Sem.run_pure,Result.andThen_ok,run_loadVar_row w g t ty cs fr d hg hu hd hi]
theorem yB {P:Program} {o:Oper} {ρ:Operand->Value} {w:World} (ty:TypeId) (x y:Operand) (ho:o.op= .store ty x y)
 (g:Nat) (cells:Array Value) (hx:ρ x= .pointer (some ⟨g,0,none⟩)) (hy:ρ y= .agg cells)
 (t:TypeId) (old:Array Value) (hg:w.heap[g]? =some (.cells old t (0,0))) (hi:(P.info? ty).map (·.size)=some cells.size)
 (hold:old.size=cells.size) (h1:cells.all (·.oneCell')=true):(execOp ρ o).run P w= .ok .skip (w.setRow g cells):=by
 unfold execOp
 simp only[ho,hx,hy,Instr.storeAt,Instr.sureAddr,Sem.run_bind,Sem.run_pure,Result.andThen_ok,run_storeVar_row w g t ty old cells hg hi hold h1]
theorem vX {P:Program} {o:Oper} {ρ:Operand->Value} {W W':World} {R:Value->World->Prop} (he:(execOp ρ o).run P W= .ok .skip W') (h:R undef W'):Does P o ρ W R:=by
 unfold Does;rw[he];exact h
theorem Ij (v:Value) (w:World):(Instr.typeAssert (.iface 214 v) 20 214 true).run Tryz.prog w= .ok (.tuple #[v,.bool true]) w:=by
 have hu:Tryz.prog.underlying 214=_:=Tryz.underlying214
 simp[Instr.typeAssert,run_underlying hu,go_sem]
theorem Je (bs ba be:Nat) (S:Array Value) (A:Array Value) (ec:Value) (code:Int) (w:World) (hS:w.heap[bs]? =some (.cells S 62 (0,0))) (hA:w.heap[ba]? =some (.cells A 62 (0,0))) (hE:w.heap[be]? =some (.cells #[ec] 26 (0,0)))
 (hsz:S.size=22) (hsa:A.size=22) (h1:bs≠ba) (h2:bs≠be) (h3:ba≠be) (hone: ∀u∈S.toList,u.oneCell'=true):
 CallsD Tryz.prog 96 #[.pointer (some ⟨bs,0,none⟩),.pointer (some ⟨ba,0,none⟩),.pointer (some ⟨be,0,none⟩)] (.panicking (kH code)) w fun e u' w'=>
  e= .returned (.tuple #[])/\u'= .panicking [{v:= .iface 214 (.agg #[iv code]),recovered:=true}]/\Ext [ba,be] w w'/\w'.heap[ba]? =some (.cells S 62 (0,0))/\w'.heap[be]? =some (.cells #[iv code] 26 (0,0)):=by
 refine callsD_of_wpS Tryz.func96 rfl fun c₀ cs hu=>?_
 apply wpS_seq
 apply wpS_region
 have hta:=Ij (.agg #[iv code]) w
 obtain⟨cS,fS,lS⟩:=af hS
 obtain⟨cA,fA,lA⟩:=af hA
 obtain⟨cE,fE,lE⟩:=af hE
 simp[wpOpsS,go_sem,recoverD,hu,Tryz.ntmps96,Exit.thenS]
 refine wpS_of_wp ?_
 simp only[Array.replicate_succ,Array.replicate_zero,kQ,kR,List.nil_append,List.cons_append,rf,List.set_cons_succ,List.set_cons_zero]
 go_wp2
 refine dN fun W1 hW1=>?_
 have k1:W1.heap[w.heap.size]? =some (.cells #[iv code] 214 (0,0)):=by rw[hW1];exact ay _ _
 have kS:W1.heap[bs]? =some (.cells S 62 (0,0)):=by rw[hW1];exact(heap_alloc_old _ _ lS).trans hS
 have kA:W1.heap[ba]? =some (.cells A 62 (0,0)):=by rw[hW1];exact(heap_alloc_old _ _ lA).trans hA
 have kE:W1.heap[be]? =some (.cells #[ec] 26 (0,0)):=by rw[hW1];exact(heap_alloc_old _ _ lE).trans hE
 have hB1:Ext [] w W1:=by rw[hW1];exact Ext.aA (aj (aH _ _) _)
 have hw1:w.heap.size<W1.heap.size:=(aS.1 k1).1
 obtain⟨d1,g1,m1⟩:=af k1
 have hne1:ba≠w.heap.size:=by omega
 have hne2:w.heap.size≠ba:=by omega
 clear hW1 hta cS fS cA fA cE fE
 refine zg 4 [ba] (some 3) [(3,⟨fun _ v=>v=undef,fun _ _ Wx=>Wx.heap[ba]? =some (.cells S 62 (0,0))⟩)] ?_
 simp only[zt]
 refine iw (by rfl) (.agg S) (by rfl) (fun W hE hF=>?_) ?_
 ·have hs:=(hE.block bs (by omega) (by simpa using h1)).trans kS
  exact zS _ _ rfl bs rfl _ _ _ _ hs Tryz.underlying62 rfl (by rw[hsz];kernel_rfl)
 simp only[zp]
 repeat ((first|refine zd ?_|refine zk ?_);simp only[zp])
 refine bG _ (by rfl) (by rfl) ⟨_,rfl⟩ (fun W hE hF=>?_) (fun v Wa Wb ho hE=>?_) (fun v hv=>?_)
 ·have hE':Ext [] W1 W:=hE
  have ha:=(hE'.block ba (by omega) (by simp)).trans kA
  refine vX (W':=W.setRow ba S) (yB _ _ _ rfl ba S rfl rfl _ _ ha (by rw[hsz];kernel_rfl) (by rw[hsz,hsa]) (by rw[oH];exact fun u hu=>hone u (pU.2 hu))) ⟨rfl,setRow_heap W ba A S _ _ ha,?_⟩
  exact(show Ext [ba] W (W.setRow ba S) from gB)
 ·have hE':Ext [] Wa Wb:=hE
  have ho':Wa.heap[ba]? =some (.cells S 62 (0,0)):=ho
  exact(hE'.block ba (aS.1 ho').1 (by simp)).trans ho'
 obtain rfl:v=undef:=hv
 simp only[zp]
 intro W hE hF
 have hx:W.heap[ba]? =some (.cells S 62 (0,0)):=hF _ (bF _)
 have hE':Ext [ba] W1 W:=hE
 have he:=(hE'.block be (by omega) (by simpa using fun e=>h3 e.symm)).trans kE
 obtain⟨d2,g2,m2⟩:=af he
 have d20:=d2 0
 simp at d20
 have HX:=ae (ag hx (ag hE' he))
 clear hE hF hx hE' he d1 g1 d2
 go_wp2
 refine⟨rfl,_,rfl,.tuple #[],by simp[results,Tryz.results96],rfl,rfl,?_,?_,?_⟩
 ·exact(Ext.nil hB1).trans ((HX.o.2.1.more (by simp)).trans (gz.more (by simp)))
 ·exact(heap_setCell_other W ⟨be,0,none⟩ ba _ h3).trans HX.o.1
 ·exact aI HX.o.2.2 _
structure IC (B:Nat) (w w':World):Prop where
 ext:uI B [] w w'
 maps: ∀(k:Nat) es cl,w.heap[k]? =some (.map es cl)->w'.heap[k]? =some (.map es cl)
theorem IC.wH {B:Nat} {w w':World} (h:Ext [] w w'):IC B w w':=⟨uI.wH h,fun k es cl hk=>(h.block k (aS.1 hk).1 (by simp)).trans hk⟩
theorem VD (B:Nat):Ip (Ext []) (IC B):=⟨Ext.refl [],Ext.trans,fun h k=>⟨h.ext.trans k.ext,fun i es cl hi=>k.maps i es cl (h.maps i es cl hi)⟩,IC.wH⟩
instance (W0:World):Kept (IC W0.heap.size) [] W0:=⟨IC.wH,fun h=>⟨h.ext.os,h.ext.tape,h.ext.output,h.ext.size,fun k hk hm=>h.ext.block k hk hk hm⟩⟩
structure Fr (bs:Nat) (S:Array Value) (W:World):Prop where
 s:W.heap[bs]? =some (.cells S 62 (0,0))
 a: ∃A,W.heap[bs+1]? =some (.cells A 62 (0,0))/\A.size=22
 e: ∃ec,W.heap[bs+2]? =some (.cells #[ec] 26 (0,0))
theorem Fr.below {bs:Nat} {S:Array Value} {w W:World} (h:Fr bs S w) {B:Nat} (hb:Below B w W) (hB:bs+2<B):Fr bs S W:=by
 obtain⟨A,h1,h2⟩:=h.a
 obtain⟨ec,h3⟩:=h.e
 exact⟨(hb.block _ (by omega)).trans h.s,⟨A,(hb.block _ (by omega)).trans h1,h2⟩,⟨ec,(hb.block _ (by omega)).trans h3⟩⟩
theorem GL {bs:Nat} {S:Array Value} (hsz:S.size=22) (hone: ∀u∈S.toList,u.oneCell'=true) {W:World} (hF:Fr bs S W) (code:Int) (tmps:Array Value) (R:Ending->World->Prop)
 (h4:tmps.getD 4 undef= .pointer (some ⟨bs+1,0,none⟩)) (h5:tmps.getD 5 undef= .pointer (some ⟨bs+2,0,none⟩))
 (hR: ∀W',Ext [bs+1,bs+2] W W'->R (.returned (.tuple #[.agg S,iv code])) W'):
 Leaves Tryz.prog Tryz.f55 tmps R [{target:= .fn (.func 96) #[.pointer (some ⟨bs,0,none⟩),.pointer (some ⟨bs+1,0,none⟩),.pointer (some ⟨bs+2,0,none⟩)],args:= #[]}] (.panicking (kH code)) W:=by
 obtain⟨A,hA,hAs⟩:=hF.a
 obtain⟨ec,hE⟩:=hF.e
 refine leaves_cons (f:=96) (args:= #[.pointer (some ⟨bs,0,none⟩),.pointer (some ⟨bs+1,0,none⟩),.pointer (some ⟨bs+2,0,none⟩)]) (by simp) (by simp[go_sem]) ?_
 refine(Je bs (bs+1) (bs+2) S A ec code W hF.s hA hE hsz hAs (by omega) (by omega) (by omega) hone).mono ?_
 rintro e u' w'' ⟨rfl,rfl,UW,hA',hE'⟩
 have hr:(results Tryz.f55 tmps).run Tryz.prog w''= .ok (.tuple #[.agg S,iv code]) w'':=by
  have q1:=run_loadVar_row (P:=Tryz.prog) w'' (bs+1) 62 62 S (0,0) _ hA' Tryz.underlying62 rfl (by rw[hsz];kernel_rfl)
  obtain⟨ce,fe,le⟩:=af hE'
  have c0:=ce 0
  simp only[AL] at h4 h5
  simp[results,Tryz.results55,h4,h5,asAddr,q1]
  simp[go_sem,c0]
 show Leaves _ _ _ _ [] .returning w''
 exact⟨_,hr,hR w'' UW⟩
theorem Ov {bs:Nat} {S':Array Value} (hsz:S'.size=22) {W:World} (hA:W.heap[bs+1]? =some (.cells S' 62 (0,0))) (hE:W.heap[bs+2]? =some (.cells #[iv 0] 26 (0,0))) (tmps:Array Value) (R:Ending->World->Prop)
 (h4:tmps.getD 4 undef= .pointer (some ⟨bs+1,0,none⟩)) (h5:tmps.getD 5 undef= .pointer (some ⟨bs+2,0,none⟩))
 (hR:R (.returned (.tuple #[.agg S',iv 0])) W):
 Leaves Tryz.prog Tryz.f55 tmps R [{target:= .fn (.func 96) #[.pointer (some ⟨bs,0,none⟩),.pointer (some ⟨bs+1,0,none⟩),.pointer (some ⟨bs+2,0,none⟩)],args:= #[]}] .returning W:=by
 refine leaves_cons (f:=96) (args:= #[.pointer (some ⟨bs,0,none⟩),.pointer (some ⟨bs+1,0,none⟩),.pointer (some ⟨bs+2,0,none⟩)]) (by simp) (by simp[go_sem]) ?_
 refine(catch_idle ⟨bs,0,none⟩ ⟨bs+1,0,none⟩ ⟨bs+2,0,none⟩ W).mono ?_
 rintro e u' w'' ⟨rfl,rfl,rfl⟩
 have hr:(results Tryz.f55 tmps).run Tryz.prog w''= .ok (.tuple #[.agg S',iv 0]) w'':=by
  have q1:=run_loadVar_row (P:=Tryz.prog) w'' (bs+1) 62 62 S' (0,0) _ hA Tryz.underlying62 rfl (by rw[hsz];kernel_rfl)
  obtain⟨ce,fe,le⟩:=af hE
  have c0:=ce 0
  simp only[AL] at h4 h5
  simp[results,Tryz.results55,h4,h5,asAddr,q1]
  simp[go_sem,c0]
 show Leaves _ _ _ _ [] .returning w''
 exact⟨_,hr,hR⟩
theorem SY (c:lI) (args:Array Value) (w:World):(callFunc (gJ c) args).run Tryz.prog w= .ok (.enter (gJ c) args) w:=by
 cases c
 ·exact enters_of Tryz.func153 (by kernel_rfl) rfl args w
 ·exact enters_of Tryz.func154 (by kernel_rfl) rfl args w
 ·exact enters_of Tryz.func155 (by kernel_rfl) rfl args w
 ·exact enters_of Tryz.func156 (by kernel_rfl) rfl args w
 ·exact enters_of Tryz.func157 (by kernel_rfl) rfl args w
 ·exact enters_of Tryz.func158 (by kernel_rfl) rfl args w
 ·exact enters_of Tryz.func159 (by kernel_rfl) rfl args w
 ·exact enters_of Tryz.func160 (by kernel_rfl) rfl args w
 ·exact enters_of Tryz.func161 (by kernel_rfl) rfl args w
 ·exact enters_of Tryz.func162 (by kernel_rfl) rfl args w
 ·exact enters_of Tryz.func163 (by kernel_rfl) rfl args w
 ·exact enters_of Tryz.func164 (by kernel_rfl) rfl args w
 ·exact enters_of Tryz.func165 (by kernel_rfl) rfl args w
 ·exact enters_of Tryz.func166 (by kernel_rfl) rfl args w
 ·exact enters_of Tryz.func167 (by kernel_rfl) rfl args w
 ·exact enters_of Tryz.func168 (by kernel_rfl) rfl args w
 ·exact enters_of Tryz.func169 (by kernel_rfl) rfl args w
 ·exact enters_of Tryz.func170 (by kernel_rfl) rfl args w
 ·exact enters_of Tryz.func171 (by kernel_rfl) rfl args w
 ·exact enters_of Tryz.func172 (by kernel_rfl) rfl args w
 ·exact enters_of Tryz.func173 (by kernel_rfl) rfl args w
theorem acM (c:lI) (n:List Int) (hn:n.length=c.many) (hb: ∀x∈n,0<=x/\x<=9999) (N:Nat) (w:World) (wb:Nat) (s:jO) (V:SV) (es:List KE) (ns:Value) (hO:jT N w wb s V es) (hns:n≠[]->rV N w ns n) (hG:fO s):
 Calls Tryz.prog (gJ c) #[.pointer (some ⟨wb,0,none⟩),ns] w (rC N wb (jh s c n) w):=by
 cases c
 ·have:n=[]:=kG hn
  subst this
  exact abL N w wb s V es ns hO hG
 ·obtain⟨a,b,rfl⟩: ∃a b,n=[a,b]:=by
   simp only[lI.many] at hn
   match n,hn with
   |[a,b],_=>exact⟨a,b,rfl⟩
  have h:=hns (by simp)
  exact Zu N w wb s V es ns a b hO h
 ·obtain⟨a,b,d,e,f,rfl⟩: ∃a b d e f,n=[a,b,d,e,f]:=by
   simp only[lI.many] at hn
   match n,hn with
   |[a,b,d,e,f],_=>exact⟨a,b,d,e,f,rfl⟩
  have h:=hns (by simp)
  exact yR N w wb s V es ns a b d e f hO h hG
 ·obtain⟨a,b,d,rfl⟩: ∃a b d,n=[a,b,d]:=by
   simp only[lI.many] at hn
   match n,hn with
   |[a,b,d],_=>exact⟨a,b,d,rfl⟩
  have h:=hns (by simp)
  obtain⟨a',rfl⟩: ∃k:Nat,a=k:=⟨a.toNat,by have:=hb a (by simp);omega⟩
  exact Yy N w wb s V es ns a' b d hO h
 ·obtain⟨a,rfl⟩: ∃a,n=[a]:=by
   simp only[lI.many] at hn
   match n,hn with
   |[a],_=>exact⟨a,rfl⟩
  have h:=hns (by simp)
  obtain⟨a',rfl⟩: ∃k:Nat,a=k:=⟨a.toNat,by have:=hb a (by simp);omega⟩
  exact NG N w wb s V es ns a' hO h hG
 ·obtain⟨a,rfl⟩: ∃a,n=[a]:=by
   simp only[lI.many] at hn
   match n,hn with
   |[a],_=>exact⟨a,rfl⟩
  have h:=hns (by simp)
  exact Y1 N w wb s V es ns a hO h
 ·obtain⟨a,b,rfl⟩: ∃a b,n=[a,b]:=by
   simp only[lI.many] at hn
   match n,hn with
   |[a,b],_=>exact⟨a,b,rfl⟩
  have h:=hns (by simp)
  exact acH N w wb s V es ns a b hO h
 ·obtain⟨a,b,d,rfl⟩: ∃a b d,n=[a,b,d]:=by
   simp only[lI.many] at hn
   match n,hn with
   |[a,b,d],_=>exact⟨a,b,d,rfl⟩
  have h:=hns (by simp)
  exact note_any N w wb s V es ns a b d hO h hG
 ·obtain⟨a,rfl⟩: ∃a,n=[a]:=by
   simp only[lI.many] at hn
   match n,hn with
   |[a],_=>exact⟨a,rfl⟩
  have h:=hns (by simp)
  obtain⟨a',rfl⟩: ∃k:Nat,a=k:=⟨a.toNat,by have:=hb a (by simp);omega⟩
  exact Yz N w wb s V es ns a' hO h hG
 ·obtain⟨a,b,rfl⟩: ∃a b,n=[a,b]:=by
   simp only[lI.many] at hn
   match n,hn with
   |[a,b],_=>exact⟨a,b,rfl⟩
  have h:=hns (by simp)
  exact Vs N w wb s V es ns a b hO h ((hb a (by simp)))
 ·obtain⟨a,b,d,rfl⟩: ∃a b d,n=[a,b,d]:=by
   simp only[lI.many] at hn
   match n,hn with
   |[a,b,d],_=>exact⟨a,b,d,rfl⟩
  have h:=hns (by simp)
  obtain⟨a',rfl⟩: ∃k:Nat,a=k:=⟨a.toNat,by have:=hb a (by simp);omega⟩
  exact KQ N w wb s V es ns a' b d hO h hG ((hb b (by simp)))
 ·obtain⟨a,rfl⟩: ∃a,n=[a]:=by
   simp only[lI.many] at hn
   match n,hn with
   |[a],_=>exact⟨a,rfl⟩
  have h:=hns (by simp)
  exact YJ N w wb s V es ns a hO h hG ((hb a (by simp)).1)
 ·obtain⟨a,rfl⟩: ∃a,n=[a]:=by
   simp only[lI.many] at hn
   match n,hn with
   |[a],_=>exact⟨a,rfl⟩
  have h:=hns (by simp)
  exact QN N w wb s V es ns a hO h hG
 ·obtain⟨a,b,d,rfl⟩: ∃a b d,n=[a,b,d]:=by
   simp only[lI.many] at hn
   match n,hn with
   |[a,b,d],_=>exact⟨a,b,d,rfl⟩
  have h:=hns (by simp)
  exact Zy N w wb s V es ns a b d hO h hG
 ·obtain⟨a,rfl⟩: ∃a,n=[a]:=by
   simp only[lI.many] at hn
   match n,hn with
   |[a],_=>exact⟨a,rfl⟩
  have h:=hns (by simp)
  obtain⟨a',rfl⟩: ∃k:Nat,a=k:=⟨a.toNat,by have:=hb a (by simp);omega⟩
  exact QO N w wb s V es ns a' hO h hG
 ·obtain⟨a,b,rfl⟩: ∃a b,n=[a,b]:=by
   simp only[lI.many] at hn
   match n,hn with
   |[a,b],_=>exact⟨a,b,rfl⟩
  have h:=hns (by simp)
  exact Z5 N w wb s V es ns a b hO h hG ((hb a (by simp)))
 ·obtain⟨a,b,d,rfl⟩: ∃a b d,n=[a,b,d]:=by
   simp only[lI.many] at hn
   match n,hn with
   |[a,b,d],_=>exact⟨a,b,d,rfl⟩
  have h:=hns (by simp)
  obtain⟨a',rfl⟩: ∃k:Nat,a=k:=⟨a.toNat,by have:=hb a (by simp);omega⟩
  exact sO N w wb s V es ns a' b d hO h ((hb b (by simp)))
 ·obtain⟨a,b,rfl⟩: ∃a b,n=[a,b]:=by
   simp only[lI.many] at hn
   match n,hn with
   |[a,b],_=>exact⟨a,b,rfl⟩
  have h:=hns (by simp)
  obtain⟨a',rfl⟩: ∃k:Nat,a=k:=⟨a.toNat,by have:=hb a (by simp);omega⟩
  exact aaK N w wb s V es ns a' b hO h hG
 ·obtain⟨a,b,d,rfl⟩: ∃a b d,n=[a,b,d]:=by
   simp only[lI.many] at hn
   match n,hn with
   |[a,b,d],_=>exact⟨a,b,d,rfl⟩
  have h:=hns (by simp)
  obtain⟨a',rfl⟩: ∃k:Nat,a=k:=⟨a.toNat,by have:=hb a (by simp);omega⟩
  obtain⟨b',rfl⟩: ∃k:Nat,b=k:=⟨b.toNat,by have:=hb b (by simp);omega⟩
  exact aao N w wb s V es ns a' b' d hO h hG
 ·obtain⟨a,b,d,rfl⟩: ∃a b d,n=[a,b,d]:=by
   simp only[lI.many] at hn
   match n,hn with
   |[a,b,d],_=>exact⟨a,b,d,rfl⟩
  have h:=hns (by simp)
  exact try_any N w wb s V es ns a b d hO h hG ⟨(hb a (by simp)),(hb b (by simp))⟩
 ·obtain⟨a,rfl⟩: ∃a,n=[a]:=by
   simp only[lI.many] at hn
   match n,hn with
   |[a],_=>exact⟨a,rfl⟩
  have h:=hns (by simp)
  obtain⟨a',rfl⟩: ∃k:Nat,a=k:=⟨a.toNat,by have:=hb a (by simp);omega⟩
  exact Vl N w wb s V es ns a' hO h hG
theorem Vf: ∀l:az,(iL l).length<=l.length+1:=by
 intro l
 induction l with
 |nil=>simp[iL]
 |cons c l ih=>
  rw[iL]
  split
  ·simp;omega
  ·have:=yO l
   cases h:iL l with
   |nil=>exact absurd h this
   |cons x ps=>rw[h] at ih;simp at ih⊢;omega
theorem aP {P:Program} {w w':World} {ops:Array Oper} {rest:List Oper} {o:Oper} {a:Act} {Q:Exit->Act->World->Prop} (hg:o.guard=none) (v:Value) (h:(execOp a.eval o).run P w= .ok (.value v) w') (hK:wpList P ops Q rest (a.put o.dst v) w'):wpList P ops Q (o::rest) a w:=by
 refine wpList_plain hg fun K hK'=>?_
 exact zi (R:=fun v1 w1=>v1=v/\w1=w') (jm v h ⟨rfl,rfl⟩) fun v1 w1 ⟨h1,h2⟩=>by rw[h1,h2];exact hK' _ _ hK
theorem kW {P:Program} {ops:Array Oper} {l:List Oper} {Q:Exit->Act->World->Prop} {a:Act} {W:World} (h: ∀W',W'=W->wpList P ops Q l a W'):wpList P ops Q l a W:=h W rfl
theorem Yu: ∀(l:az) (p:az),p∈iL l->p.length<=l.length:=by
 intro l
 induction l with
 |nil=>intro p h;simp[iL] at h;subst h;simp
 |cons c l ih=>
  intro p h
  rw[iL] at h
  split at h
  ·rcases gZ.1 h with rfl|h
   ·simp
   ·have:=ih p h;simp;omega
  ·cases hw:iL l with
   |nil=>exact absurd hw (yO l)
   |cons x ps=>
    rw[hw] at h
    simp only[List.headD_cons,List.tail_cons] at h
    rcases gZ.1 h with rfl|h
    ·have:=ih x (by rw[hw];simp);simp;omega
    ·have:=ih p (by rw[hw];simp[h]);simp;omega
theorem Ru: ∀(ps:List az) (p:az) (ns:List Int) (n:Int),nR ps=some ns->pI p=some n->nR (ps++[p])=some (ns++[n]):=by
 intro ps
 induction ps with
 |nil=>intro p ns n h1 h2;obtain rfl:=jD h1;simp[nR,h2]
 |cons q ps ih=>
  intro p ns n h1 h2
  unfold nR at h1
  cases hq:pI q with
  |none=>rw[hq] at h1;cases h1
  |some x=>
   cases hs:nR ps with
   |none=>rw[hq,hs] at h1;cases h1
   |some y=>
    rw[hq,hs] at h1
    obtain rfl:=jD h1
    rw[List.cons_append,nR,hq,ih p y n hs h2]
    rfl
theorem VX: ∀(ps:List az) (i:Nat) (p:az),ps[i]? =some p->pI p=none->nR ps=none:=by
 intro ps
 induction ps with
 |nil=>intro i p h;cases h
 |cons q ps ih=>
  intro i p h hn
  cases i with
  |zero=>
   simp only[List.getElem?_cons_zero,Option.some.injEq] at h
   subst h
   rw[nR,hn];rfl
  |succ i=>
   rw[nR,ih i p (by simpa using h) hn]
   cases pI q <;>rfl
def PDo (Ms:List Nat) (s:jO) (l:az) (w:World) (e:Ending) (w':World):Prop:=
 Below w.heap.size w w'/\ ∃V es,e= .returned (.tuple #[.agg (dS (xu bI s l).1 V),iv (xu bI s l).2])/\pV w' (xu bI s l).1 V es/\ ∀W',Ext Ms w' W'->pV W' (xu bI s l).1 V es
theorem ji {w:World} {s:jO} {V:SV} {es:List KE} (h:pV w s V es): ∀u∈(dS s V).toList,u.oneCell'=true:=by
 obtain⟨o1,c1,h1⟩:=aN.open h.xE
 obtain⟨o2,c2,h2⟩:=aN.open h.VY
 obtain⟨o3,c3,h3⟩:=aN.open h.bZ
 obtain⟨o4,c4,h4⟩:=aN.open h.IQ
 obtain⟨o5,c5,h5⟩:=aN.open h.Qw
 obtain⟨o6,c6,h6⟩:=aN.open h.dA.heaps
 obtain⟨o7,c7,h7⟩:=aN.open h.dA.aU.1
 obtain⟨o8,c8,h8⟩:=aN.open h.dA.aJ
 simp[dS,h1,h2,h3,h4,h5,h6,h7,h8,Value.oneCell']
theorem aeM (s:jO) (V:SV) (es:List KE) (l:az) (w:World) (hS:pV w s V es) (hG:fO s) (hE:Env w) (hl:l.length<=1000) (Ms:List Nat) (hMs: ∀m∈Ms,m<w.heap.size) (hSM: ∀W',Ext Ms w W'->pV W' s V es):Calls Tryz.prog 55 #[.agg (dS s V),.string (dG l)] w (PDo Ms s l w):=by
 obtain⟨vt,vn,vw,vu,vr,vh,vk,vs⟩:=V
 have HS:Hid (∀W,Below w.heap.size w W->pV W s ⟨vt,vn,vw,vu,vr,vh,vk,vs⟩ es):=ae (fun W hb=>hS.below hb (ai _))
 have HE:Hid (∀W,Below w.heap.size w W->Env W):=ae (fun W hb=>hE.below hb (ai _))
 have HG:=ae hG
 have apP:=ae (ji hS)
 have aa7:Hid (∀(code:Int),xu bI s l=(s,code)-> ∀W,Below w.heap.size w W->Fr w.heap.size (dS s ⟨vt,vn,vw,vu,vr,vh,vk,vs⟩) W-> ∀tmps:Array Value,tmps.getD 4 undef= .pointer (some ⟨w.heap.size+1,0,none⟩)->tmps.getD 5 undef= .pointer (some ⟨w.heap.size+2,0,none⟩)->
  Leaves Tryz.prog Tryz.f55 tmps (PDo Ms s l w) [{target:= .fn (.func 96) #[.pointer (some ⟨w.heap.size,0,none⟩),.pointer (some ⟨w.heap.size+1,0,none⟩),.pointer (some ⟨w.heap.size+2,0,none⟩)],args:= #[]}] (.panicking (kH code)) W):=ae (by
  intro code hd W hb hF tmps h4 h5
  refine GL rfl (ji hS) hF code tmps _ h4 h5 (fun W' UW=>?_)
  have hb':Below w.heap.size w W':=hb.trans ⟨UW.os,UW.tape,UW.output,UW.size,fun k hk=>UW.block k (by have:=hb.size;omega) (by simp;omega)⟩
  refine⟨hb',⟨vt,vn,vw,vu,vr,vh,vk,vs⟩,es,?_,?_,fun W'' hE'=>?_⟩
  ·rw[hd]
  ·rw[hd];exact hS.below hb' (ai _)
  ·rw[hd];exact hSM W'' ((Ext.aA hb').trans hE'))
 have HMS:=ae hMs
 clear hS hE hG hMs hSM
 go_enter_defers Tryz.func55,Tryz.ntmps55
 go_upto_region 2 with(fail)
 refine dN fun W0 hW0=>?_
 have hF0:Fr w.heap.size (dS s ⟨vt,vn,vw,vu,vr,vh,vk,vs⟩) W0:=by
  rw[hW0]
  refine⟨?_,?_,?_⟩
  ·exact(heap_alloc_old _ _ (by simp;omega)).trans ((heap_alloc_old _ _ (by simp)).trans (ay _ _))
  ·exact⟨_,(heap_alloc_old _ _ (by simp)).trans (dV _ _ _),rfl⟩
  ·exact⟨_,iq _ _ _ _⟩
 have HB0:=ae (show Below w.heap.size w W0 from by rw[hW0];exact aj (aj (aj (aH _ _) _) _) _)
 have hs0:w.heap.size+3<=W0.heap.size:=by rw[hW0];simp
 have HF0:=ae hF0
 clear hW0 hF0
 go_wp2_with fail
 refine(Vw l W0 (HE.o _ HB0.o) hl).mono ?_
 rintro e W1 ⟨np,hnp,rfl,hW1⟩
 have HB1:=ae (show Below w.heap.size w W1 from by rw[hW1];exact aj HB0.o _)
 have HF1:=ae (show Fr w.heap.size (dS s ⟨vt,vn,vw,vu,vr,vh,vk,vs⟩) W1 from by rw[hW1];exact HF0.o.below (aj (aH _ _) _) (by omega))
 have hp1:W1.heap[W0.heap.size]? =some (.cells (bH (iL l)).toArray 9 (0,0)):=by rw[hW1];exact ay _ _
 have hsz1:W1.heap.size=W0.heap.size+1:=by rw[hW1];simp
 have hsz:w.heap.size+4<=W1.heap.size:=by omega
 obtain⟨pb,hpb⟩: ∃pb,pb=W0.heap.size:=⟨_,rfl⟩
 rw[<-hpb] at hp1⊢
 have hpl:pb<W1.heap.size:=by omega
 have hpw:w.heap.size+3<=pb:=by omega
 have hn1:1<=np:=by rw[hnp];have:=yO l;cases h:iL l <;>simp_all
 have hn0:0<np:=by omega
 have hnI:(0:Int)<(np:Int):=by omega
 obtain⟨x0,ps,hws⟩: ∃x0 ps,iL l=x0::ps:=by
  cases h:iL l with
  |nil=>exact absurd h (yO l)
  |cons x ps=>exact⟨x,ps,rfl⟩
 obtain⟨c1,f1,l1⟩:=af hp1
 have g0:W1.cell? ⟨pb,0,none⟩=some (.string (dG x0)):=by rw[c1,hws];rfl
 have Yl:=ae (ag hp1 (ag hnp hws))
 clear hW1 hp1 hnp hws hpb hsz1 c1 f1 hs0
 go_wp2_with fail
 refine kX (VD W1.heap.size) ((Ext.refl [] _).drew) (Ps:=(fun i _ v W=>match i with|8=> ∃b:Nat,v= .pointer (some ⟨b,0,none⟩)/\W1.heap.size<=b/\ ∃x y,W.heap[b]? =some (.cells #[x,y] 218 (0,0))|_=>True)) 10 (some 9)
  [(0,⟨fun _ v=> ∃mb,v= .map (some mb),fun _ v W=> ∃mb,v= .map (some mb)/\TabAt Vr wev (fun _=>True) W mb QU⟩),(8,⟨fun _ v=> ∃b:Nat,v= .pointer (some ⟨b,0,none⟩),fun _ _ _=>True⟩),
    (9,⟨fun _ v=>v=undef,fun xs _ W=> ∃(b:Nat) (x y:Value),xs=[.pointer (some ⟨b,0,none⟩),.agg #[x,y]]/\W1.heap.size<=b/\W.heap[b]? =some (.cells #[x,y] 218 (0,0))⟩)] (by as_aux_lemma=>kernel_rfl) (by as_aux_lemma=>kernel_rfl) ?_
 simp only[zt]
 refine kY _ (by rfl) (by rfl) (by exact⟨.map (some 0),0,rfl⟩) (fun Wa hE hF hG=>?_) (fun v Wa Wb ho hE=>?_) (fun _ _ _ _ _=>trivial) (fun v hv=>?_)
 ·have hE':IC W1.heap.size W1 Wa:=hE
  refine dE 98 #[] (by go_simp;try rfl) ?_
  refine(Vg Wa).mono ?_
  rintro e w' ⟨mb,rfl,h1,h2,h3⟩
  exact⟨_,rfl,⟨mb,rfl⟩,⟨mb,rfl,h2⟩,Ext.aA h3,trivial⟩
 ·obtain⟨mb,hv,ht⟩:=ho
  have hE':IC W1.heap.size Wa Wb:=hE
  obtain⟨h0,es',cl,hm,hx⟩:=ht
  exact⟨mb,hv,h0,es',cl,hE'.maps _ _ _ hm,hx⟩
 obtain⟨mb,rfl⟩:=hv
 simp only[zp]
 repeat ((first|refine zd ?_|refine zk ?_);simp only[zp])
 have hm:Tryz.prog.underlying 220=some (.map 9 218):=by kernel_rfl
 have hz:=fun w=>Tryz.zeroValue218 w
 obtain⟨n1,fv,bq,hT1,hone,hcase⟩: ∃(n1:Int) (fv:Value) (bq:Bool),Value.tuple #[((TB.look (dG x0) QU).map wev).getD (.agg #[iv 0,.nilFunc]),.bool (TB.look (dG x0) QU).isSome]= .tuple #[.agg #[iv n1,fv],.bool bq]/\fv.oneCell'=true/\
  ((Hw x0=none/\bq=false/\n1=0)∨ ∃c,Hw x0=some c/\bq=true/\n1=c.many/\fv= .func (.func (gJ c)) #[] #[]):=by
  rw[Zq]
  have hx:(dG x0).data.toList=x0:=by simp[dG]
  rw[hx]
  cases hc:Hw x0 with
  |none=>exact⟨0,.nilFunc,false,rfl,rfl,.inl ⟨rfl,rfl,rfl⟩⟩
  |some c=>exact⟨c.many,.func (.func (gJ c)) #[] #[],true,rfl,rfl,.inr ⟨c,rfl,rfl,rfl,rfl⟩⟩
 have hlk: ∀(W:World),TabAt Vr wev (fun _=>True) W mb QU->(Instr.lookup 220 (.map (some mb)) (.string (dG x0)) true).run Tryz.prog W= .ok (.tuple #[.agg #[iv n1,fv],.bool bq]) W:=fun W hT=>by
  have:=vT uy hm hz hT (dG x0) trivial true W rfl
  rw[aF rfl] at this
  rw[this]
  exact congrArg (fun q=>Result.ok q W) hT1
 have Nj:=ae hlk
 have HC:=ae hcase
 clear hlk hm hT1 hcase hz
 refine iw (by rfl) (.tuple #[.agg #[iv n1,fv],.bool bq]) (by rfl) (fun W hE hF=>?_) ?_
 ·obtain⟨mb',hmb,hT⟩:=hF _ (bF _) (by kernel_rfl)
  cases hmb
  have:=Nj.o W hT
  go_simp
 simp only[zp]
 repeat ((first|refine zd ?_|refine zk ?_);simp only[zp])
 refine kY _ (by rfl) (by rfl) (by exact⟨.pointer (some ⟨0,0,none⟩),0,rfl⟩) (fun Wa hE hF hG=>?_) (fun _ _ _ _ _=>trivial) (fun v Wa Wb ho hE=>?_) (fun v hv=>?_)
 ·have hE':IC W1.heap.size W1 Wa:=hE
  exact jm (W':=Wa.alloc (.cells #[iv 0,.nilFunc] 218)) (.pointer (some ⟨Wa.heap.size,0,none⟩)) (by go_simp;try rfl) ⟨⟨_,rfl⟩,trivial,Ext.aA ((aH _ _).alloc (ai _) _),_,rfl,hE'.ext.size,_,_,heap_alloc_new _ _⟩
 ·obtain⟨b,hb,hge,x,y,hc⟩:=ho
  exact⟨b,hb,hge,x,y,(hE.block b (aS.1 hc).1 (by simp)).trans hc⟩
 obtain⟨b8,rfl⟩:=hv
 simp only[zp]
 refine kY _ (by rfl) (by rfl) (by exact⟨_,rfl⟩) (fun Wa hE hF hG=>?_) (fun v Wa Wb ho hE=>?_) (fun _ _ _ _ _=>trivial) (fun v hv=>?_)
 ·obtain⟨b,hb,hge,x,y,hc⟩:=hG rfl _ (bF _) (by kernel_rfl)
  cases hb
  refine vX (W':=Wa.setRow b8 #[iv n1,fv]) ?_ ⟨rfl,⟨b8,iv n1,fv,rfl,hge,setRow_heap Wa b8 _ _ _ _ hc⟩,?_,trivial⟩
  ·exact yB _ _ _ rfl b8 #[iv n1,fv] rfl rfl _ _ hc (by kernel_rfl) rfl (by rw[oH];intro u hu;simp only[List.mem_toArray,gZ,List.not_mem_nil,or_false] at hu;rcases hu with rfl|rfl;(exact rfl);(exact hone))
  ·exact(show IC W1.heap.size Wa (Wa.setRow b8 #[iv n1,fv]) from⟨⟨rfl,rfl,rfl,by simp,fun k _ hkB _=>setRow_other _ _ _ _ (by omega)⟩,fun k es' cl hk=>by
    have hne:k≠b8:=fun e=>by subst e;rw[hc] at hk;cases hk
    exact(setRow_other _ _ _ _ hne).trans hk⟩)
 ·obtain⟨b,x,y,h1,h2,h3⟩:=ho
  have hE':Ext [] Wa Wb:=hE
  exact⟨b,x,y,h1,h2,(hE'.block b (aS.1 h3).1 (by simp)).trans h3⟩
 obtain rfl:v=undef:=hv
 simp only[zp]
 intro W2 hE2 hF2
 obtain⟨b8',x8,y8,hx8,aoL,hb8⟩:=hF2 _ (bF _)
 have WW:IC W1.heap.size W1 W2:=hE2
 obtain⟨rfl,rfl,rfl⟩:b8'=b8/\x8=iv n1/\y8=fv:=by
  have h:=(show[Value.pointer (some ⟨b8,0,none⟩),.agg #[iv n1,fv]]=[.pointer (some ⟨b8',0,none⟩),.agg #[x8,y8]] from hx8)
  simp at h
  exact⟨h.1.symm,h.2.1.symm,h.2.2.symm⟩
 have xA:Below W1.heap.size W1 W2:=⟨WW.ext.os,WW.ext.tape,WW.ext.output,WW.ext.size,fun k hk=>WW.ext.block k hk hk (by simp)⟩
 have HB2:=ae (aY HB1.o xA)
 have HF2:=ae (HF1.o.below xA (by omega))
 have hp2:=(xA.block pb hpl).trans Yl.o.1
 have hs2:=xA.size
 have HP2:=ae (ag hp2 hb8)
 obtain⟨c2,f2,l2⟩:=af hb8
 have hone':=ae hone
 clear hE2 hF2 hx8 WW xA hp2 hb8 hone g0
 rcases HC.o with⟨hc0,hbq,WN⟩|⟨c,hc0,hbq,WN,hfv⟩
 ·subst hbq
  have hd:xu bI s l=(s,4):=BM (by unfold vM;rw[Yl.o.2.2];simp[hc0])
  have HD:=ae hd
  clear hd
  go_wp2_with fail
  refine(dX 4 [true] W2 (by simp) _ (by simp[dK]) _ _ rfl).mono ?_
  rintro e W3 ⟨hb,⟨hc,rfl⟩|⟨hc,rfl⟩⟩
  ·exact absurd hc (by decide)
  ·exact aa7.o 4 HD.o W3 (aY HB2.o hb) (HF2.o.below hb (by omega)) _ rfl rfl
 ·subst hbq
  subst WN
  subst hfv
  have agM:np=ps.length+1:=by rw[Yl.o.2.1,Yl.o.2.2];rfl
  have aoj:(np:Int)<=1001:=by have:=Vf l;rw[<-Yl.o.2.1] at this;omega
  have HNP:=ae agM
  clear agM
  go_wp2_with fail
  refine(dX 4 [(np:Int)-1 !=c.many] W2 (by simp) _ (by simp[dK]) _ _ rfl).mono ?_
  rintro e W3 ⟨hb,⟨hc,rfl⟩|⟨hc,rfl⟩⟩
  rotate_left
  ·have hd:xu bI s l=(s,4):=BM (by
    unfold vM
    rw[Yl.o.2.2,List.headD_cons,hc0,Option.bind_some,List.tail_cons,ak]
    intro e
    have:=HNP.o
    simp at hc
    omega)
   exact aa7.o 4 hd W3 (aY HB2.o hb) (HF2.o.below hb (by omega)) _ rfl rfl
  have hcm:ps.length=c.many:=by
   have:=HNP.o
   simp at hc
   omega
  have HB3:=ae (aY HB2.o hb)
  have HF3:=ae (HF2.o.below hb (by omega))
  have hp3:=(hb.block pb (by omega)).trans HP2.o.1
  have aht:=(hb.block b8' l2).trans HP2.o.2
  have aj2:pb<W3.heap.size:=(aS.1 hp3).1
  obtain⟨off,hA⟩: ∃off,(if np=1 then(some ⟨pb,0,none⟩:Option Addr) else some ⟨pb,1,none⟩)=some ⟨pb,off,none⟩:=by split <;>exact⟨_,rfl⟩
  have hoff: ∀i,i<ps.length->off=1:=fun i hi=>by
   have:=HNP.o
   rw[ak (by omega)] at hA
   injection hA with h;injection h with _ h2 _;exact h2.symm
  have HO:=ae (ag hoff hcm)
  have HP3:=ae (ag hp3 (ag aht hc0))
  have hn1':(1:Int)<=(np:Int):=by omega
  clear hb hc hcm hp3 aht hoff c2 f2 hc0
  go_wp2_with fail
  have HN0:Hid (nR []=some []):=ae rfl
  go_loopw [9,11,12,13,41] (fun v9 _ _ _ u wr=> ∃i:Nat,i<=ps.length/\u= .int .i64 i/\Below W3.heap.size W3 wr/\ ∃(ns:List Int) (o:Option Addr) (c9:Nat),nR (ps.take i)=some ns/\v9= .slice o i c9/\wr.ownsRow W3.heap.size 3 1 (.slice o i c9) i (ah ns)) (fun _ _ _ _ u _=>ps.length-(intOf u).toNat)
  case atStart=>exact⟨0,bQ _,rfl,aH _ _,[],none,0,rfl,rfl,⟨rfl,.inl ⟨rfl,rfl⟩⟩⟩
  case round=>
   obtain⟨i,hi,rfl,hB,ns,o9,c9,hns,rfl,how⟩:=hrel
   have agL:=HNP.o
   by_cases hlt:i<ps.length
   ·have hlt2:(i:Int)<((np-1:Nat):Int):=by omega
    have hlt3:i<np-1:=by omega
    have hpr:=(hB.block pb aj2).trans HP3.o.1
    obtain⟨cp,fp,lp⟩:=af hpr
    have gi:wr.cell? ⟨pb,off+i,none⟩=some (.string (dG ps[i])):=by
     rw[HO.o.1 i hlt,cp,Yl.o.2.2]
     simp[bH,hlt,Nat.add_comm]
    have aj1:ps[i].length<=1000:=by
     have:=Yu l ps[i] (by rw[Yl.o.2.2];simp)
     omega
    have HNA:=ae (Rw ps[i] wr (HE.o wr (aY HB3.o hB)) aj1)
    have HX:=ae (ag hB (ag hns how))
    clear hB hns how cp hpr agL
    go_wp2_with fail
    refine HNA.o.mono ?_
    rintro e W4 ⟨hb4,v,rfl,hv⟩
    cases hnb:pI ps[i] with
    |none=>
     rw[hnb] at hv
     have HB4:=ae (aY HX.o.1 hb4)
     have hd:xu bI s l=(s,4):=BM (by
      unfold vM
      rw[Yl.o.2.2,List.headD_cons,HP3.o.2.2,Option.bind_some,List.tail_cons,VX ps i ps[i] (dw hlt) hnb]
      simp)
     have HD:=ae hd
     clear hd hb4 hv hnb HNA gi fp lp
     simp only[Option.isSome_none]
     go_wp2_with fail
     refine(dX 4 [true] W4 (by simp) _ (by simp[dK]) _ _ rfl).mono ?_
     rintro e W5 ⟨hb,⟨hc,rfl⟩|⟨hc,rfl⟩⟩
     ·exact absurd hc (by decide)
     ·exact aa7.o 4 HD.o W5 (aY HB3.o (aY HB4.o hb)) (HF3.o.below (aY HB4.o hb) (by omega)) _ rfl rfl
    |some n=>
     rw[hnb] at hv
     obtain rfl:v=n:=hv n rfl
     have HB4:=ae (aY HX.o.1 hb4)
     have agH:=aC (Ms:=[]) HX.o.2.2 (Ext.aA hb4) (by simp)
     have HN4:=ae hnb
     have HW4:=ae (ag agH hb4)
     clear hb4 hv hnb HNA gi fp lp agH
     simp only[Option.isSome_some]
     go_wp2_with fail
     refine(dX 4 [false] W4 (by simp) _ (by simp[dK]) _ _ rfl).mono ?_
     rintro e W5 ⟨hb,⟨hc,rfl⟩|⟨hc,rfl⟩⟩
     rotate_left
     ·exact absurd hc (by decide)
     have ZG:=aC (Ms:=[]) HW4.o.1 (Ext.aA hb) (by simp)
     have nD:=ae (aY HB4.o hb)
     have HW5:=ae ZG
     have hs5:=nD.o.size
     have hi5:i<=1001:=by omega
     clear hb hc ZG
     go_wp2_with (at_builtin;go_loud (refine fQ rfl _ _ sK rfl W3.heap.size (.slice o9 i c9) i (ah ns) rfl (aC (Ms:=[]) HW5.o (Ext.aA (aj (aH _ _) _)) (by simp)) (.slice (some ⟨W5.heap.size,0,none⟩) 1 1) 1 [iv v] rfl (aN.dB 1 1 (ay _ _) rfl (by decide)) (one_one v) (by omega) (by omega) (by simp;omega) ?_))
     intro v' W6 hown hgr hN
     obtain⟨o6,c6,rfl⟩:=aT hown
     have hpu:=yJ nD.o HW5.o (Ext.aA (aj (aH _ _) _)) hown hgr (ai _) nD.o.size
     have HP:=ae (ag hpu hown)
     clear hpu hown hgr hN
     go_wp2_with fail
     go_roundw
     case rel=>
      refine⟨i+1,by omega,by go_num,HP.o.1.1,ns++[v],o6,c6,?_,rfl,?_⟩
      ·rw[qY,dw hlt]
       exact Ru _ _ _ _ HX.o.2.1 HN4.o
      ·rw[uY]
       exact HP.o.2
     case measure=>simp[intOf];omega
   ·obtain rfl:i=ps.length:=by omega
    rw[List.take_length] at hns
    have hp:vM l=some (c,ns):=by
     unfold vM
     rw[Yl.o.2.2,List.headD_cons,HP3.o.2.2,Option.bind_some,List.tail_cons,aF HO.o.2,hns]
     rfl
    have ahq:=(hB.block b8' (by have:=(aS.1 HP3.o.2.1).1;omega)).trans HP3.o.2.1
    obtain⟨c8,f8,l8⟩:=af ahq
    obtain⟨hwl,hnl,hnb,aj9⟩:=Gi hp
    have HX:=ae (ag hB (ag how (ag hp (ag hnl hnb))))
    have aok: ¬((ps.length:Nat):Int)<((np-1:Nat):Int):=by omega
    have amn: ¬ps.length<np-1:=by omega
    clear hB how hp hns hwl hnl hnb aj9 ahq agL
    go_upto_region 13 with(fail)
    have hFr:=HF3.o.below HX.o.1 (by omega)
    refine wp_region_lit ?_
    refine wpList_load_row rfl _ _ rfl w.heap.size rfl _ _ _ _ hFr.s Tryz.underlying62 rfl (by kernel_rfl) ?_
    simp only[zp]
    have HFr:=ae hFr
    have FO:=ae (FU s ⟨vt,vn,vw,vu,vr,vh,vk,vs⟩ es wr (HS.o wr (aY HB3.o HX.o.1)) HG.o)
    have Ak:=l8
    have HC8:=ae c8
    clear hFr c8 f8
    go_wp2_with fail
    refine FO.o.mono ?_
    rintro e W4 ⟨hb4,wb,V',es',rfl,hO4⟩
    have aem:b8'<W3.heap.size:=(aS.1 HP3.o.2.1).1
    have hsr:=HX.o.1.size
    have ahs:=(hb4.block b8' (by omega)).trans ((HX.o.1.block b8' aem).trans HP3.o.2.1)
    obtain⟨c4,f4,l4⟩:=af ahs
    have hns:ns≠[]->rV wr.heap.size W4 (.slice o9 ps.length c9) ns:=fun hne=>by
     have hown4:=aC (Ms:=[]) HX.o.2.1 (Ext.aA hb4) (by simp)
     have hlen:ps.length=ns.length:=by rw[HX.o.2.2.2.1,HO.o.2]
     have hpos:0<ps.length:=by rw[hlen];exact List.length_pos_iff.2 hne
     obtain⟨g,rfl,hcg,hfg,hgl⟩:=gX hown4 hpos
     obtain⟨g2,hg2,ao0,_,WR⟩:=gX HX.o.2.1 hpos
     cases hg2
     refine⟨g,c9,by rw[hlen],WR,fun j hj=>?_⟩
     have:=hcg j (by simpa [ah] using hj)
     simpa [ah] using this
    have akU:=SY c
    have HA:=ae (acM c ns HX.o.2.2.2.1 HX.o.2.2.2.2 wr.heap.size W4 wb s V' es' (.slice o9 ps.length c9) hO4 hns HG.o)
    have HB4:=ae (aY HX.o.1 hb4)
    have HO4:=ae hO4
    clear ahs hns hb4 hO4
    go_wp2_with fail
    refine HA.o.mono ?_
    rintro e W5 ⟨hb5,⟨h0,rfl,V2,es2,hO5⟩|⟨hne,rfl⟩⟩
    rotate_left
    ·have hd:xu bI s l=(s,(jh s c ns).1):=by rw[BL HX.o.2.2.1,aF hne]
     have ahx:=HB4.o.trans (hb5.mono (show W3.heap.size<=wr.heap.size from hsr))
     exact aa7.o _ hd W5 (aY HB3.o ahx) (HF3.o.below ahx (by omega)) _ rfl rfl
    have nD:=ae (HB4.o.trans (hb5.mono (show W3.heap.size<=wr.heap.size from hsr)))
    have HO5:=ae (ag h0 hO5)
    have hl5:=hO5.rows.lt
    have HST:=ae (Vu (jh s c ns).2 V2 es2 W5 hO5.st)
    have hk5:=hO5.blk
    clear hb5 h0 hO5 HA c4 f4 akU
    go_upto_region 15 with(fail)
    refine wp_region_lit ?_
    refine aP rfl _ (by go_simp;first|rfl|exact⟨rfl,rfl⟩) ?_
    simp only[zp]
    refine aP rfl _ (by go_simp;first|rfl|exact⟨rfl,rfl⟩) ?_
    simp only[zp]
    refine aP rfl _ (by go_simp;first|rfl|exact⟨rfl,rfl⟩) ?_
    simp only[zp]
    refine wpList_load_row rfl _ _ rfl wb rfl _ _ _ _ hk5 Tryz.underlying62 rfl (by kernel_rfl) ?_
    simp only[zp]
    have Yn:=ae hk5
    clear hk5
    go_wp2_with fail
    refine HST.o.mono ?_
    rintro e W6 ⟨hb6,⟨h0,rfl⟩|⟨hne,rfl⟩⟩
    rotate_left
    ·have hd:xu bI s l=(s,bI (jh s c ns).2):=by rw[BL HX.o.2.2.1,ak (by rw[HO5.o.1];simp),aF hne]
     have ahw:=aY nD.o hb6
     exact aa7.o _ hd W6 (aY HB3.o ahw) (HF3.o.below ahw (by omega)) _ rfl rfl
    have pY:=ae (aY nD.o hb6)
    have hk6:=(hb6.block wb hl5).trans Yn.o
    have Jk:=ae (ag h0 (HO5.o.2.below hb6))
    clear hb6 h0 HST
    go_upto_region 16 with(fail)
    refine wp_region_lit ?_
    refine aP rfl _ (by go_simp;first|rfl|exact⟨rfl,rfl⟩) ?_
    simp only[zp]
    refine aP rfl _ (by go_simp;first|rfl|exact⟨rfl,rfl⟩) ?_
    simp only[zp]
    refine aP rfl _ (by go_simp;first|rfl|exact⟨rfl,rfl⟩) ?_
    simp only[zp]
    refine wpList_load_row rfl _ _ rfl wb rfl _ _ _ _ hk6 Tryz.underlying62 rfl (by kernel_rfl) ?_
    simp only[zp]
    have aeE:=HF3.o.below pY.o (by omega)
    obtain⟨A6,hA6,ahS⟩:=aeE.a
    obtain⟨ec6,BC⟩:=aeE.e
    refine wpList_store_row rfl _ _ _ rfl (w.heap.size+1) _ rfl rfl _ _ hA6 (by kernel_rfl) (by rw[ahS];rfl) (by rw[oH];exact fun u hu=>ji Jk.o.2.st u (pU.2 hu)) ?_
    simp only[zp]
    refine kW fun W7 zB=>?_
    have hA7:W7.heap[w.heap.size+1]? =some (.cells (dS (jh s c ns).2 V2) 62 (0,0)):=by rw[zB];exact setRow_heap W6 _ A6 _ _ _ hA6
    have aeI:Ext [w.heap.size+1] W6 W7:=by rw[zB];exact gB
    have zC:=(aeI.block (w.heap.size+2) (aS.1 BC).1 (by simp)).trans BC
    obtain⟨c7,f7,l7⟩:=af zC
    have c70:=c7 0
    simp at c70
    have HX7:=ae (ag hA7 (ag aeI zC))
    clear zB hA7 aeI zC hA6 BC aeE ahS c7 hk6
    go_wp2_with fail
    have hd:xu bI s l=((jh s c ns).2,0):=by rw[BL HX.o.2.2.1,ak (by rw[HO5.o.1];simp),ak (by rw[Jk.o.1];simp)]
    have MF:Ext [w.heap.size+1,w.heap.size+2] W6 (W7.setCell ⟨w.heap.size+2,0,none⟩ (iv 0)):=(HX7.o.2.1.more (by simp)).trans (gz.more (by simp))
    have hA8:=(heap_setCell_other W7 ⟨w.heap.size+2,0,none⟩ (w.heap.size+1) (iv 0) (by simp)).trans HX7.o.1
    have ahv:=pY.o
    have hsb:=ahv.size
    refine Ov rfl hA8 (aI HX7.o.2.2 _) _ _ rfl rfl ⟨?_,V2,es2,?_,?_,fun W' hE'=>?_⟩
    ·exact(aY HB3.o ahv).trans ⟨MF.os,MF.tape,MF.output,MF.size,fun k hk=>MF.block k (by have:=HB3.o.size;omega) (by simp;omega)⟩
    ·rw[hd]
    ·rw[hd]
     have Ha:=Jk.o.2
     have hNb:=Ha.rows.base
     exact(show jT wr.heap.size _ wb (jh s c ns).2 V2 es2 from⟨(MF.block wb Ha.rows.lt (by simp;omega)).trans Ha.blk,Ha.rows.keep MF (fun m hm=> .inr (by simp at hm;omega)),Ha.es⟩).st
    ·rw[hd]
     have Ha:=Jk.o.2
     have hNb:=Ha.rows.base
     have hO9:jT wr.heap.size _ wb (jh s c ns).2 V2 es2:=⟨(MF.block wb Ha.rows.lt (by simp;omega)).trans Ha.blk,Ha.rows.keep MF (fun m hm=> .inr (by simp at hm;omega)),Ha.es⟩
     have hsr:=HX.o.1.size
     have hs3:=HB3.o.size
     have hlt: ∀m∈Ms,m<wr.heap.size:=fun m hm=>by have:=HMS.o m hm;omega
     exact(show jT wr.heap.size W' wb (jh s c ns).2 V2 es2 from⟨(hE'.block wb hO9.rows.lt (fun h=>by have:=hlt wb h;omega)).trans hO9.blk,hO9.rows.keep hE' (fun m hm=> .inr (hlt m hm)),hO9.es⟩).st
abbrev fP:Array Value:=
 #[iv 0,iv 0,iv 0,iv 0,.slice none 0 0,iv 0,iv 0,iv 0,.slice none 0 0,iv 0,iv 0,iv 0,iv 0,iv 0,iv 0,iv 0,.slice none 0 0,.slice none 0 0,.slice none 0 0,.slice none 0 0,.slice none 0 0,.slice none 0 0]
abbrev yI (hp:Value) (wt:Value):Array Value:=
 #[iv 3,iv 2,iv 0,iv 3,.slice none 0 0,iv 10,iv 0,iv 2000,.slice none 0 0,iv 4,iv 10,iv 50,iv 10,iv 60,iv 30,iv 30,wt,.slice none 0 0,.slice none 0 0,hp,.slice none 0 0,.slice none 0 0]
theorem Xu (w:World):Calls Tryz.prog 63 #[] w (fun e w'=>Below w.heap.size w w'/\ ∃V es,e= .returned (.agg (dS dZ V))/\pV w' dZ V es/\ ∀Ms:List Nat,(∀m∈Ms,m<w.heap.size)-> ∀W',Ext Ms w' W'->pV W' dZ V es):=by
 go_enter Tryz.func63,Tryz.ntmps63
 go_upto_region 1 with(fail)
 refine dN fun W1 hW1=>?_
 have hb1:Below w.heap.size w W1:=by rw[hW1];exact aj (aH _ _) _
 have hk1: ∃cs,W1.heap[w.heap.size]? =some (.cells cs 62 (0,0))/\cs.size=22:=by rw[hW1];exact⟨_,ay _ _,rfl⟩
 have hs1:W1.heap.size=w.heap.size+1:=by rw[hW1];simp
 have HB1:=ae hb1
 have Yo:=ae hk1
 clear hW1 hb1 hk1
 refine wp_region_lit ?_
 refine aP rfl (w':=W1) (.agg #[iv 0,iv 3]) (by as_aux_lemma=>kernel_rfl) ?_
 simp only[zp]
 refine aP rfl (w':=W1) (.agg #[iv 3,iv 2,iv 0,iv 3,.slice none 0 0]) (by as_aux_lemma=>kernel_rfl) ?_
 simp only[zp]
 refine aP rfl (w':=W1) (.agg #[iv 0,iv 2000]) (by as_aux_lemma=>kernel_rfl) ?_
 simp only[zp]
 refine aP rfl (w':=W1) (.agg #[iv 3,iv 2,iv 0,iv 3,.slice none 0 0,iv 10,iv 0,iv 2000,.slice none 0 0]) (by as_aux_lemma=>kernel_rfl) ?_
 simp only[zp]
 refine aP rfl (w':=W1) (.agg #[iv 30,iv 30]) (by as_aux_lemma=>kernel_rfl) ?_
 simp only[zp]
 refine aP rfl (w':=W1) (.agg #[iv 4,iv 10,iv 50,iv 10,iv 60,iv 30,iv 30,.slice none 0 0,.slice none 0 0,.slice none 0 0]) (by as_aux_lemma=>kernel_rfl) ?_
 simp only[zp]
 refine aP rfl (w':=W1) (.agg #[iv 40,iv 40]) (by as_aux_lemma=>kernel_rfl) ?_
 simp only[zp]
 refine aP rfl (w':=W1.alloc (.cells #[iv 40,iv 40] 129 (0,0))) (.slice (some ⟨W1.heap.size,0,none⟩) 1 1) (by go_simp;try rfl) ?_
 simp only[zp]
 obtain⟨W2,hW2⟩: ∃W2,W2=W1.alloc (.cells #[iv 40,iv 40] 129 (0,0)):=⟨_,rfl⟩
 rw[<-hW2]
 have hb2:Below w.heap.size w W2:=by rw[hW2];exact aj HB1.o _
 have hk2:=Yo.o
 obtain⟨cs,hcs,hcz⟩:=hk2
 have hk2:W2.heap[w.heap.size]? =some (.cells cs 62 (0,0)):=by rw[hW2];exact(heap_alloc_old _ _ (by omega)).trans hcs
 have hh2:W2.heap[W1.heap.size]? =some (.cells #[iv 40,iv 40] 129 (0,0)):=by rw[hW2];exact ay _ _
 have hs2:W2.heap.size=w.heap.size+2:=by rw[hW2];simp;omega
 rw[hs1]
 rw[hs1] at hh2
 clear hW2
 refine aP rfl (w':=W2) (.agg #[.slice (some ⟨w.heap.size+1,0,none⟩) 1 1,.slice none 0 0,.slice none 0 0]) (by as_aux_lemma=>kernel_rfl) ?_
 simp only[zp]
 refine aP rfl (w':=W2) (.agg (yI (.slice (some ⟨w.heap.size+1,0,none⟩) 1 1) (.slice none 0 0))) (by as_aux_lemma=>kernel_rfl) ?_
 simp only[zp]
 refine aP rfl (w':=(W2.alloc (.cells fP 62 (0,0)))) (.pointer (some ⟨W2.heap.size,0,none⟩)) (by go_simp;try rfl) ?_
 simp only[zp]
 rw[hs2]
 refine wpList_store_row rfl _ _ _ rfl (w.heap.size+2) (yI (.slice (some ⟨w.heap.size+1,0,none⟩) 1 1) (.slice none 0 0)) (by as_aux_lemma=>kernel_rfl) (by as_aux_lemma=>kernel_rfl) _ fP (by rw[<-hs2];exact ay _ _) (by kernel_rfl) (by as_aux_lemma=>kernel_rfl) (by as_aux_lemma=>kernel_rfl) ?_
 simp only[zp]
 refine kW fun W3 hW3=>?_
 have ahn:W3.heap[w.heap.size+2]? =some (.cells (yI (.slice (some ⟨w.heap.size+1,0,none⟩) 1 1) (.slice none 0 0)) 62 (0,0)):=by
  rw[hW3];exact setRow_heap _ _ _ _ _ _ (by rw[<-hs2];exact ay _ _)
 obtain⟨BU,oz⟩: ∃BU,BU=W2.alloc (.cells fP 62 (0,0)):=⟨_,rfl⟩
 rw[<-oz] at hW3
 have yz:Ext [w.heap.size+2] BU W3:=by rw[hW3];exact gB
 have hs2':BU.heap.size=w.heap.size+3:=by rw[oz];simp;omega
 have hb3:Below w.heap.size w W3:=jF (by rw[oz];exact aj hb2 _) yz (by omega)
 have hs3:=yz.size
 have hk3:W3.heap[w.heap.size]? =some (.cells cs 62 (0,0)):=(yz.block _ (by omega) (by simp)).trans (by rw[oz];exact(heap_alloc_old _ _ (by omega)).trans hk2)
 have hh3:W3.heap[w.heap.size+1]? =some (.cells #[iv 40,iv 40] 129 (0,0)):=(yz.block _ (by omega) (by simp)).trans (by rw[oz];exact(heap_alloc_old _ _ (by omega)).trans hh2)
 have HB3:=ae hb3
 have XX:=ae ahn
 have HC3:=ae (ag hk3 (ag hcz hh3))
 clear hcs hcz hW3 oz yz ahn hk3 hh3 hb2 hk2 hh2 hb3
 go_wp2_with fail
 go_loopw [12] (fun u wr=> ∃i:Nat,i<=5/\u= .int .i64 i/\Below w.heap.size w wr/\w.heap.size+3<=wr.heap.size/\ ∃(o:Option Addr) (c:Nat),wr.ownsRow (w.heap.size+3) 50 2 (.slice o i c) i (aG (List.replicate i (6,6)))/\
  wr.heap[w.heap.size+2]? =some (.cells (yI (.slice (some ⟨w.heap.size+1,0,none⟩) 1 1) (.slice o i c)) 62 (0,0))/\ ∀k,k<w.heap.size+3->k≠w.heap.size+2->wr.heap[k]? =W3.heap[k]?) (fun u _=>5-(intOf u).toNat)
 case atStart=>exact⟨0,by omega,rfl,HB3.o,by omega,none,0,⟨rfl,.inl ⟨rfl,rfl⟩⟩,XX.o,fun _ _ _=>rfl⟩
 case round=>
  obtain⟨i,hi,rfl,hB,hsz,oo,oc,how,hbk,hoth⟩:=hrel
  obtain⟨c2,f2,l2⟩:=af hbk
  by_cases hlt:i<5
  ·have HX:=ae (ag hB (ag how (ag hbk hoth)))
   have g16:=c2 16
   simp only[yI] at g16
   clear hB how hbk hoth c2
   go_wp2_with (at_builtin;go_loud (refine fQ rfl _ _ jI.KY rfl (w.heap.size+3) (.slice oo i oc) i (aG (List.replicate i (6,6))) rfl (aC (Ms:=[]) HX.o.2.1 (Ext.aA (aj (aH _ _) _)) (by simp)) (.slice (some ⟨wr.heap.size,0,none⟩) 1 1) 1 [iv 6,iv 6] rfl (aN.dB 2 1 (ay _ _) rfl (by decide)) (by simp[Value.oneCell']) (by omega) (by omega) (by simp;omega) ?_))
   intro v' W6 hown6 I7 _
   obtain⟨o6,c6,rfl⟩:=aW hown6
   have HP:=ae (acJ (i:=16) (u:= .slice o6 (i+1) c6) HX.o.1 HX.o.2.1 (Ext.aA (aj (aH _ _) _)) hown6 I7 hsz (by omega) (by omega) HX.o.2.2.1)
   obtain⟨aoZ,aoO,an7⟩:=af (((yJ HX.o.1 HX.o.2.1 (Ext.aA (aj (aH _ _) _)) hown6 I7 (by omega) hsz).2.2 (w.heap.size+2) (by omega)).trans HX.o.2.2.1)
   clear hown6 I7
   go_wp2_with fail
   go_roundw
   case rel=>
    refine⟨i+1,by omega,by go_num,HP.o.1,HP.o.2.1,o6,c6,?_,HP.o.2.2.2.1,fun k hk hne=>(HP.o.2.2.2.2 k hk hne).trans (HX.o.2.2.2 k hk hne)⟩
    have:=HP.o.2.2.1
    rw[List.replicate_succ']
    simpa [aG] using this
   case measure=>simp[intOf];omega
  ·obtain rfl:i=5:=by omega
   have HX:=ae (ag hB (ag how (ag hbk hoth)))
   clear hB how hbk hoth
   go_upto_region 6 with(fail)
   have hk0:=(HX.o.2.2.2 w.heap.size (by omega) (by omega)).trans HC3.o.1
   refine wp_region_lit ?_
   refine wpList_load_row rfl _ _ rfl (w.heap.size+2) rfl _ _ _ _ HX.o.2.2.1 Tryz.underlying62 rfl (by kernel_rfl) ?_
   simp only[zp]
   refine wpList_store_row rfl _ _ _ rfl w.heap.size (yI (.slice (some ⟨w.heap.size+1,0,none⟩) 1 1) (.slice oo (5:Nat) oc)) (by as_aux_lemma=>kernel_rfl) (by as_aux_lemma=>kernel_rfl) _ cs hk0 (by kernel_rfl) (by rw[HC3.o.2.1];rfl) (by as_aux_lemma=>kernel_rfl) ?_
   simp only[zp]
   refine kW fun W7 zB=>?_
   have zC:Ext [w.heap.size] wr W7:=by rw[zB];exact gB
   have hb7:=jF HX.o.1 zC (ai _)
   have FI:W7.heap[w.heap.size]? =some (.cells (yI (.slice (some ⟨w.heap.size+1,0,none⟩) 1 1) (.slice oo (5:Nat) oc)) 62 (0,0)):=by rw[zB];exact setRow_heap _ _ _ _ _ _ hk0
   have hw7:=aC (Ms:=[w.heap.size]) HX.o.2.1 zC (by simp)
   have hh7:=(zC.block (w.heap.size+1) (by omega) (by simp)).trans ((HX.o.2.2.2 (w.heap.size+1) (by omega) (by omega)).trans HC3.o.2.2)
   have H7:=ae (ag hb7 (ag FI (ag hw7 hh7)))
   clear zB zC hb7 FI hw7 hh7 hk0
   go_upto_region 7 with(fail)
   refine bodyPost_ret (v:= .agg (yI (.slice (some ⟨w.heap.size+1,0,none⟩) 1 1) (.slice oo (5:Nat) oc))) (results_cell_row Tryz.results63 _ _ w.heap.size _ _ (0,0) _ rfl H7.o.2.1 Tryz.underlying62 rfl (by kernel_rfl)) rfl ?_
   refine⟨H7.o.1,⟨.slice none 0 0,.slice none 0 0,.slice oo (5:Nat) oc,.slice none 0 0,.slice none 0 0,.slice (some ⟨w.heap.size+1,0,none⟩) 1 1,.slice none 0 0,.slice none 0 0⟩,[],rfl,?_⟩
   have hst: ∀Ms:List Nat,(∀m∈Ms,m<w.heap.size)-> ∀W',Ext Ms W7 W'->pV W' dZ ⟨.slice none 0 0,.slice none 0 0,.slice oo (5:Nat) oc,.slice none 0 0,.slice none 0 0,.slice (some ⟨w.heap.size+1,0,none⟩) 1 1,.slice none 0 0,.slice none 0 0⟩ []:=fun Ms hMs W' hE'=>by
    have hn: ∀k,aN k W' (.slice none 0 0) 0 []:=fun k=>⟨by simp,none,0,rfl,ai _,by decide,fun _=>rfl,fun a h=>by cases h⟩
    have h1:=aC (Ms:=Ms) H7.o.2.2.1 hE' (fun m hm=>by have:=hMs m hm;omega)
    have h2:=(hE'.block (w.heap.size+1) (aS.1 H7.o.2.2.2).1 (fun h=>by have:=hMs _ h;omega)).trans H7.o.2.2.2
    exact⟨hn _,hn _,aN.dU h1,hn _,hn _,⟨aN.dB 2 1 h2 rfl (by decide),⟨hn _,fun e he=>by cases he⟩,rfl,hn _⟩⟩
   exact⟨hst [] (by simp) _ (Ext.refl _ _),hst⟩
theorem afZ:iQ Tryz.prog 63 26 (iv 0) 1 8:=⟨Tryz.underlying63,by kernel_rfl,rfl,by omega⟩
theorem qf {w:World} {o:Option Addr} {n c:Nat} {l:List az} (h:aN 1 w (.slice o n c) n (bH l)) {k:Nat} (hk:k<l.length):
 ∃b off,o=some ⟨b,off,none⟩/\b<w.heap.size/\w.cell? ⟨b,off+k,none⟩=some (.string (dG l[k])):=by
 obtain⟨hl,o',c',hv,h1,h2,h3,h4⟩:=h
 cases hv
 have hn:n=l.length:=by simpa [bH] using hl.symm
 cases o with
 |none=>have:=h3 rfl;omega
 |some a=>
  obtain⟨b,off,sp⟩:=a
  obtain⟨hs,hc⟩:=h4 _ rfl
  simp only at hs hc
  subst hs
  have:=hc k (.string (dG l[k])) (by simp[bH,hk])
  exact⟨b,off,rfl,dI w _ this,this⟩
def aif (Qs:List Nat) (ls:List az) (w:World) (e:Ending) (w':World):Prop:=
 Below w.heap.size w w'/\ ∃V es cv,e= .returned (.tuple #[.agg (dS (fJ bI dZ ls).1 V),cv])/\(∀W',Ext Qs w' W'->pV W' (fJ bI dZ ls).1 V es)/\w'.ownsRow w.heap.size 26 1 cv ls.length (ah (fJ bI dZ ls).2)
theorem x9 (lv:Value) (ls:List az) (w:World) (hls:iG w lv ls) (hE:Env w) (hln: ∀l∈ls,l.length<=1000) (hn:ls.length<=1000000) (Qs:List Nat) (hQs: ∀m∈Qs,m<w.heap.size):Calls Tryz.prog 36 #[lv] w (aif Qs ls w):=by
 obtain⟨ov,cv,rfl⟩:=aN.open hls
 have FQ:Hid (∀W,Below w.heap.size w W->iG W (.slice ov ls.length cv) ls):=ae (fun W hb=>hls.below hb (ai _))
 have HE:Hid (∀W,Below w.heap.size w W->Env W):=ae (fun W hb=>hE.below hb (ai _))
 clear hls hE
 go_enter Tryz.func36,Tryz.ntmps36
 go_upto_region 1 with(fail)
 refine dN fun W1 hW1=>?_
 have hb1:Below w.heap.size w W1:=by rw[hW1];exact aj (aH _ _) _
 have hk1: ∃cs,W1.heap[w.heap.size]? =some (.cells cs 62 (0,0))/\cs.size=22:=by rw[hW1];exact⟨_,ay _ _,rfl⟩
 have hs1:W1.heap.size=w.heap.size+1:=by rw[hW1];simp
 have HB1:=ae hb1
 have Yo:=ae hk1
 clear hW1 hb1 hk1
 go_wp2_with fail
 refine(Xu W1).mono ?_
 rintro e W2 ⟨hb2,V0,es0,rfl,hS0,hX0⟩
 rename_i hK
 refine hK _ _ ?_
 have hs2:=hb2.size
 refine aP rfl (w':=(W2.alloc (.cells fP 62 (0,0)))) (.pointer (some ⟨W2.heap.size,0,none⟩)) (by go_simp;try rfl) ?_
 simp only[zp]
 obtain⟨g,hg⟩: ∃g,g=W2.heap.size:=⟨_,rfl⟩
 rw[<-hg]
 have hz:(W2.alloc (.cells fP 62 (0,0))).heap[g]? =some (.cells fP 62 (0,0)):=by rw[hg];exact ay _ _
 refine wpList_store_row rfl _ _ _ rfl g (dS dZ V0) (by as_aux_lemma=>kernel_rfl) (by as_aux_lemma=>kernel_rfl) _ fP hz (by kernel_rfl) (by as_aux_lemma=>kernel_rfl) (by rw[oH];exact fun u hu=>ji hS0 u (pU.2 hu)) ?_
 simp only[zp]
 refine kW fun W3 hW3=>?_
 obtain⟨BU,oz⟩: ∃BU,BU=W2.alloc (.cells fP 62 (0,0)):=⟨_,rfl⟩
 rw[<-oz] at hW3 hz
 have yz:Ext [g] BU W3:=by rw[hW3];exact gB
 have hs3:=yz.size
 have hs2':BU.heap.size=g+1:=by rw[oz,hg];simp
 have qL:Below W2.heap.size W2 W3:=jF (by rw[oz];exact aj (aH _ _) _) yz (by omega)
 have hS3:pV W3 dZ V0 es0:=hS0.below qL (ai _)
 have hk3:W3.heap[g]? =some (.cells (dS dZ V0) 62 (0,0)):=by rw[hW3];exact setRow_heap _ _ _ _ _ _ hz
 have hX3: ∀W',Ext (w.heap.size::g::Qs) W3 W'->pV W' dZ V0 es0:=fun W' hE'=>hX0 (w.heap.size::Qs) (fun m hm=>by
  rcases gZ.1 hm with rfl|hm
  ·omega
  ·have:=hQs m hm;omega) W' ⟨qL.os▸hE'.os,hE'.tape.trans qL.tape,hE'.output.trans qL.output,iW qL.size hE'.size,fun k hk hm=>(hE'.block k (by omega) (fun h=>by
   rcases gZ.1 h with h|h
   ·exact hm (by rw[h];exact List.mem_cons_self)
   ·rcases gZ.1 h with h|h
    ·omega
    ·exact hm (qZ _ h))).trans (qL.block k hk)⟩
 have hr3: ∃cs,W3.heap[w.heap.size]? =some (.cells cs 62 (0,0))/\cs.size=22:=by
  obtain⟨cs,h1,h2⟩:=Yo.o
  exact⟨cs,(qL.block _ (by omega)).trans ((hb2.block _ (by omega)).trans h1),h2⟩
 have HB3:=ae (aY HB1.o (aY hb2 qL))
 have H3:=ae (ag hS3 (ag hk3 (ag hr3 hX3)))
 have hgw:w.heap.size+1<=g:=by omega
 have hg3:g+1<=W3.heap.size:=by omega
 clear hX3 hX0 hW3 oz yz qL hS3 hk3 hr3 hz hS0 hb2 hg hK
 go_wp2_with fail
 go_loopw [5,13] (fun v5 u wr=> ∃i:Nat,i<=ls.length/\u= .int .i64 i/\Below w.heap.size w wr/\W3.heap.size<=wr.heap.size/\ ∃(o:Option Addr) (c:Nat) (V:SV) (es:List KE),v5= .slice o i c/\wr.ownsRow W3.heap.size 26 1 (.slice o i c) i (ah (fJ bI dZ (ls.take i)).2)/\
  wr.heap[g]? =some (.cells (dS (fJ bI dZ (ls.take i)).1 V) 62 (0,0))/\pV wr (fJ bI dZ (ls.take i)).1 V es/\wr.heap[w.heap.size]? =W3.heap[w.heap.size]?/\ ∀W',Ext (w.heap.size::g::((Value.slice o i c).ownBlock.toList++Qs)) wr W'->pV W' (fJ bI dZ (ls.take i)).1 V es) (fun _ u _=>ls.length-(intOf u).toNat)
 case atStart=>exact⟨0,bQ _,rfl,HB3.o,ai _,none,0,V0,es0,rfl,⟨rfl,.inl ⟨rfl,rfl⟩⟩,H3.o.2.1,H3.o.1,rfl,H3.o.2.2.2⟩
 case round=>
  obtain⟨i,hi,rfl,hB,hsz,oo,oc,V,es,rfl,how,hbk,hS,hr0,hXM⟩:=hrel
  by_cases hlt:i<ls.length
  ·obtain⟨bl,off,hov,hbl,hcl⟩:=qf (FQ.o _ hB) hlt
   have HX:=ae (ag hB (ag how (ag hbk (ag hS (ag hr0 hXM)))))
   have HD:=ae (aeM (fJ bI dZ (ls.take i)).1 V es ls[i] wr hS (JL _ Ii) (HE.o wr hB) (hln _ (dh hlt)) (w.heap.size::g::((Value.slice oo i oc).ownBlock.toList++Qs)) (fun m hm=>by
    rcases gZ.1 hm with rfl|hm
    ·omega
    ·rcases gZ.1 hm with rfl|hm
     ·omega
     ·rcases iP.1 hm with hm|hm
      ·exact(bD how m (dJ.1 hm)).2
      ·have:=hQs m hm;omega) hXM)
   subst hov
   clear hB how hbk hS hr0 hXM
   go_upto_region 6 with(fail)
   refine wp_region_lit ?_
   refine wpList_load_row rfl _ _ rfl g rfl _ _ _ _ HX.o.2.2.1 Tryz.underlying62 rfl (by kernel_rfl) ?_
   simp only[zp]
   go_wp2_with fail
   refine HD.o.mono ?_
   rintro e W4 ⟨hb4,V4,es4,rfl,hS4,hX4⟩
   rename_i hK
   refine hK _ _ ?_
   refine aP rfl _ (by go_simp;first|rfl|exact⟨rfl,rfl⟩) ?_
   simp only[zp]
   refine aP rfl _ (by go_simp;first|rfl|exact⟨rfl,rfl⟩) ?_
   simp only[zp]
   refine aP rfl _ (by go_simp;first|rfl|exact⟨rfl,rfl⟩) ?_
   simp only[zp]
   obtain⟨q,hq⟩: ∃q,q=W4.heap.size:=⟨_,rfl⟩
   have hs4:=hb4.size
   refine aP rfl (w':=W4.alloc (.cells fP 62 (0,0))) (.pointer (some ⟨q,0,none⟩)) (by rw[hq];go_simp;try rfl) ?_
   simp only[zp]
   have hz:(W4.alloc (.cells fP 62 (0,0))).heap[q]? =some (.cells fP 62 (0,0)):=by rw[hq];exact ay _ _
   refine wpList_store_row rfl _ _ _ rfl q (dS (xu bI (fJ bI dZ (ls.take i)).1 ls[i]).1 V4) (by as_aux_lemma=>kernel_rfl) (by as_aux_lemma=>kernel_rfl) _ fP hz (by kernel_rfl) (by as_aux_lemma=>kernel_rfl) (by rw[oH];exact fun u hu=>ji hS4 u (pU.2 hu)) ?_
   simp only[zp]
   refine kW fun W5 yx=>?_
   obtain⟨W4',acf⟩: ∃W4',W4'=W4.alloc (.cells fP 62 (0,0)):=⟨_,rfl⟩
   rw[<-acf] at yx hz
   have Ez:Ext [q] W4' W5:=by rw[yx];exact gB
   have abZ:W4'.heap.size=q+1:=by rw[acf,hq];simp
   have hs5:=Ez.size
   have aez:Below W4.heap.size W4 W5:=jF (by rw[acf];exact aj (aH _ _) _) Ez (by omega)
   have hk5:W5.heap[q]? =some (.cells (dS (xu bI (fJ bI dZ (ls.take i)).1 ls[i]).1 V4) 62 (0,0)):=by rw[yx];exact setRow_heap _ _ _ _ _ _ hz
   have hb5:=aY hb4 aez
   have H5:=ae (ag hb5 (ag aez (ag hk5 (ag hS4 hX4))))
   clear yx acf Ez aez hk5 hz hS4 hX4 hb4 hb5 hK
   go_upto_region 7 with(fail)
   have hTK:fJ bI dZ (ls.take (i+1))=((xu bI (fJ bI dZ (ls.take i)).1 ls[i]).1,(fJ bI dZ (ls.take i)).2++[(xu bI (fJ bI dZ (ls.take i)).1 ls[i]).2]):=by rw[iC hlt,VQ]
   obtain⟨code,hcode⟩: ∃code,code=(xu bI (fJ bI dZ (ls.take i)).1 ls[i]).2:=⟨_,rfl⟩
   rw[<-hcode] at hTK⊢
   obtain⟨Ms,hMs⟩: ∃Ms,Ms=(Value.slice oo i oc).ownBlock.toList:=⟨_,rfl⟩
   have hm0: ∀m∈Ms,W3.heap.size<=m/\m<wr.heap.size:=fun m h=>bD HX.o.2.1 m (by rw[hMs] at h;exact dJ.1 h)
   have uu: ∀m∈Ms,m<W5.heap.size:=fun m h=>by have:=hm0 m h;omega
   have hm1:q∉Ms:=fun h=>by have:=hm0 q h;omega
   have hm2:g∉Ms:=fun h=>by have:=hm0 g h;omega
   have hq5:q<W5.heap.size:=by omega
   have HTK:=ae hTK
   have HM:=ae hMs
   clear hTK hMs hcode
   refine zg 5 Ms (some 4) [(3,Spec.slice W5.heap.size #[iv code] 26 1),(4,⟨fun _ v=> ∃o2 c2,v= .slice o2 (i+1) c2,fun _ v Wx=>Wx.ownsRow W3.heap.size 26 1 v (i+1) (ah (fJ bI dZ (ls.take i)).2++[iv code])/\(v.ownBlock=(Value.slice oo i oc).ownBlock∨ ∃q,v.ownBlock=some q/\W5.heap.size<=q)⟩)] ?_
   simp only[zt]
   refine iw (by rfl) (.agg (dS (xu bI (fJ bI dZ (ls.take i)).1 ls[i]).1 V4)) (by rfl) (fun W hE hF=>?_) ?_
   ·exact zS _ _ rfl q rfl _ _ _ _ ((hE.block q hq5 hm1).trans H5.o.2.2.1) Tryz.underlying62 rfl (by kernel_rfl)
   simp only[zp]
   repeat ((first|refine zd ?_|refine zk ?_);simp only[zp])
   refine dY W5.heap.size _ _ 1 (by rfl) (ai _) (by rfl) uu (by simp) (fun W hW=>by go_simp;try rfl) (fun b6=>?_)
   simp only[zp]
   refine bG _ (by rfl) (by rfl) (by exact⟨.slice none (i+1) 0,none,0,rfl⟩) (fun W6 hE hF=>?_) (fun v Wa Wb ho hE=>?_) (fun v hv=>?_)
   ·have hE':Ext [] W5 W6:=hE
    obtain⟨b',hb',hge,hcc⟩:=hF _ (bF _) (by kernel_rfl)
    cases hb'
    have hown6:=aC (Ms:=[]) HX.o.2.1 ((Ext.aA H5.o.1).trans hE') (by simp)
    have hsrc:aN 1 W6 (.slice (some ⟨b6,0,none⟩) 1 1) 1 ([iv code]):=aN.dB 1 1 hcc rfl (by decide)
    refine Does.mono (dM afZ (by rfl) (by rfl) hown6 (by rfl) hsrc (one_one code) (by omega) (by omega) (by have:=hE'.size;omega)) ?_
    rintro v' W7 ⟨ho,hgr,hcase⟩
    refine⟨aT ho,⟨ho,hcase.imp id fun h1=>⟨_,h1,hE'.size⟩⟩,⟨hgr.os,hgr.tape,hgr.output,hgr.size,fun b hb hn=>hgr.block b hb (fun e=>hn (by rw[HM.o];exact dJ.2 e.symm))⟩⟩
   ·exact⟨aC (Ms:=[]) ho.1 hE (by simp),ho.2⟩
   obtain⟨o7,c7,rfl⟩:=hv
   simp only[zp]
   intro W6 hE hF
   obtain⟨ZR,hg6⟩:=hF _ (bF _)
   have BC:Ext Ms W5 W6:=hE
   have hs6:=BC.size
   have hkg:=(BC.block g (by omega) hm2).trans ((H5.o.1.block g (by omega)).trans HX.o.2.2.1)
   refine wpList_store_row rfl _ _ _ rfl g (dS (xu bI (fJ bI dZ (ls.take i)).1 ls[i]).1 V4) (by as_aux_lemma=>kernel_rfl) (by as_aux_lemma=>kernel_rfl) _ _ hkg (by kernel_rfl) rfl (by rw[oH];exact fun u hu=>ji H5.o.2.2.2.1 u (pU.2 hu)) ?_
   simp only[zp]
   refine kW fun W7 zB=>?_
   have zC:Ext [g] W6 W7:=by rw[zB];exact gB
   have FI:W7.heap[g]? =some (.cells (dS (xu bI (fJ bI dZ (ls.take i)).1 ls[i]).1 V4) 62 (0,0)):=by rw[zB];exact setRow_heap _ _ _ _ _ _ hkg
   have hs7:=zC.size
   have SH:Below w.heap.size w W7:=by
    have akJ:=aY HX.o.1 H5.o.1
    exact akJ.trans ⟨zC.os.trans BC.os,zC.tape.trans BC.tape,zC.output.trans BC.output,by omega,fun k hk=>(zC.block k (by omega) (by simp;omega)).trans (BC.block k (by omega) (fun h=>by have:=hm0 k h;omega))⟩
   have ho7:=aC (Ms:=[g]) ZR zC (by simp;omega)
   have UM:W7.heap[w.heap.size]? =W3.heap[w.heap.size]? :=(zC.block _ (by omega) (by simp;omega)).trans ((BC.block _ (by omega) (fun h=>by have:=hm0 _ h;omega)).trans ((H5.o.1.block _ (by omega)).trans HX.o.2.2.2.2.1))
   have hX7: ∀W',Ext (w.heap.size::g::((Value.slice o7 (i+1) c7).ownBlock.toList++Qs)) W7 W'->pV W' (xu bI (fJ bI dZ (ls.take i)).1 ls[i]).1 V4 es4:=fun W' hE'=>by
    have h45:=H5.o.2.1
    have ape:=h45.size
    refine H5.o.2.2.2.2 W' ⟨hE'.os.trans (zC.os.trans (BC.os.trans h45.os)),hE'.tape.trans (zC.tape.trans (BC.tape.trans h45.tape)),hE'.output.trans (zC.output.trans (BC.output.trans h45.output)),by have:=hE'.size;omega,fun k hk hm=>?_⟩
    have n1:k≠w.heap.size:=fun e=>hm (by simp[e])
    have n2:k≠g:=fun e=>hm (by simp[e])
    have n3:k∉(Value.slice oo i oc).ownBlock.toList:=fun h=>hm (qZ _ (qZ _ (oD _ h)))
    have n5:k∉Qs:=fun h=>hm (qZ _ (qZ _ (uk _ h)))
    have n4:k∉(Value.slice o7 (i+1) c7).ownBlock.toList:=fun h=>by
     rcases hg6 with h1|⟨x,h1,h2⟩
     ·rw[h1] at h;exact n3 h
     ·rw[h1] at h;simp at h;omega
    exact(hE'.block k (by omega) (fun h=>by rcases gZ.1 h with h|h;(exact n1 h);rcases gZ.1 h with h|h;(exact n2 h);rcases iP.1 h with h|h;(exact n4 h);exact n5 h)).trans ((zC.block k (by omega) (by simpa using n2)).trans ((BC.block k (by omega) (by rw[HM.o];exact n3)).trans (h45.block k hk)))
   have ZC:pV W7 (xu bI (fJ bI dZ (ls.take i)).1 ls[i]).1 V4 es4:=hX7 W7 (Ext.refl _ _)
   have H7:=ae (ag SH (ag ho7 (ag FI (ag ZC (ag UM hX7)))))
   have ajX:W3.heap.size<=W7.heap.size:=by omega
   clear SH ho7 FI ZC UM hX7 zB zC BC hE hF ZR hg6 hkg
   go_wp2_with fail
   go_roundw
   case rel=>
    refine⟨i+1,by omega,by go_num,H7.o.1,ajX,o7,c7,V4,es4,rfl,?_⟩
    rw[HTK.o]
    refine⟨?_,H7.o.2.2.1,H7.o.2.2.2.1,H7.o.2.2.2.2.1,H7.o.2.2.2.2.2⟩
    simpa [ah] using H7.o.2.1
   case measure=>simp[intOf];omega
  ·obtain rfl:i=ls.length:=by omega
   have HX:=ae (ag hB (ag how (ag hbk (ag hS (ag hr0 hXM)))))
   clear hB how hbk hS hr0 hXM
   go_upto_region 9 with(fail)
   obtain⟨cs,hcs,hcz⟩:=H3.o.2.2.1
   have hk0:=HX.o.2.2.2.2.1.trans hcs
   refine wp_region_lit ?_
   refine wpList_load_row rfl _ _ rfl g rfl _ _ _ _ HX.o.2.2.1 Tryz.underlying62 rfl (by kernel_rfl) ?_
   simp only[zp]
   refine aP rfl _ (by go_simp;first|rfl|exact⟨rfl,rfl⟩) ?_
   simp only[zp]
   refine wpList_store_row rfl _ _ _ rfl w.heap.size (dS (fJ bI dZ (ls.take ls.length)).1 V) (by as_aux_lemma=>kernel_rfl) (by as_aux_lemma=>kernel_rfl) _ cs hk0 (by kernel_rfl) (by rw[hcz];rfl) (by rw[oH];exact fun u hu=>ji HX.o.2.2.2.1 u (pU.2 hu)) ?_
   simp only[zp]
   refine kW fun W7 zB=>?_
   have zC:Ext [w.heap.size] wr W7:=by rw[zB];exact gB
   have hb7:=jF HX.o.1 zC (ai _)
   have FI:W7.heap[w.heap.size]? =some (.cells (dS (fJ bI dZ (ls.take ls.length)).1 V) 62 (0,0)):=by rw[zB];exact setRow_heap _ _ _ _ _ _ hk0
   have hw7:=aC (Ms:=[w.heap.size]) HX.o.2.1 zC (by simp;omega)
   have ZC: ∀W',Ext Qs W7 W'->pV W' (fJ bI dZ (ls.take ls.length)).1 V es:=fun W' hE'=>HX.o.2.2.2.2.2 W' ((zC.more (by simp)).trans (hE'.more (fun m hm=>qZ _ (qZ _ (uk _ hm)))))
   have H7:=ae (ag hb7 (ag FI (ag hw7 ZC)))
   clear zB zC hb7 FI hw7 hk0 ZC
   go_wp2_with fail
   refine bodyPost_ret (v:= .tuple #[.agg (dS (fJ bI dZ (ls.take ls.length)).1 V),.slice oo ls.length oc]) ?_ rfl ?_
   ·have q1:=run_loadVar_row (P:=Tryz.prog) W7 w.heap.size 62 62 _ (0,0) _ H7.o.2.1 Tryz.underlying62 rfl (by kernel_rfl)
    simp[results,Tryz.results36,asAddr,q1]
   ·have h7:=H7.o
    rw[List.take_length] at h7⊢
    exact⟨h7.1,V,es,_,rfl,h7.2.2.2,df h7.2.2.1 (by omega)⟩
theorem Wj (k:Int) (l:az) (w:World) (hl:l.length<=1000000):Calls Tryz.prog 57 #[iv k,.string (dG l)] w (PV (.bool (decide ((l.length:Int)<=k))) w):=by
 have hs:(dG l).size=l.length:=by simp[ByteArray.size]
 go_enter Tryz.func57,Tryz.ntmps57
 go_wp2_with fail
 go_returns
 exact⟨rfl,aH _ _⟩
abbrev sv (l:az):Value:= .string (dG l)
theorem iG.cell {w:World} {o:Option Addr} {n c:Nat} {l:List az} (h:aN 1 w (.slice o n c) n (bH l)) {k:Nat} (hk:k<l.length):
 ∃b off,o=some ⟨b,off,none⟩/\b<w.heap.size/\w.cell? ⟨b,off+k,none⟩=some (sv l[k]):=qf h hk
theorem ajH (l:List az) (v:Value) (bg:Nat) (fst caps:Array Value) (p:Nat->Bool) (I:Nat->World->Prop) (w:World) (eg: ∀args w,(callFunc bg args).run Tryz.prog w= .ok (.enter bg args) w)
 (hsl: ∀k W,I k W->iG W v l)
 (hcall: ∀k (hk:k<l.length) W,(∀j,j<k->p j=false)->I k W->Calls Tryz.prog bg (fst.push (sv l[k])++caps) W (fun e W'=>e= .returned (.bool (p k))/\I (k+1) W')) (h0:I 0 w):
 Calls Tryz.prog 186 #[v,.func (.func bg) fst caps] w (ed l.length p I (fun k=>iv k) (iv (-1))):=by
 have hlen:=(hsl 0 w h0).len
 obtain⟨o,c,rfl⟩:=(hsl 0 w h0).open
 have HC:=ae hcall
 have HS:=ae hsl
 clear hcall hsl
 go_enter Tryz.func186,Tryz.ntmps186
 go_wp2
 go_loopw [4,5,8] (fun _ _ i wr=> ∃k:Nat,k<=l.length/\i= .int .i64 k/\(∀j,j<k->p j=false)/\I k wr) (fun _ _ i _=>l.length-(intOf i).toNat)
 case atStart=>exact⟨0,bQ _,rfl,fun j hj=>by omega,h0⟩
 case round=>
  obtain⟨k,hk,rfl,hno,hI⟩:=hrel
  by_cases hlt:k<l.length
  ·obtain⟨b,off,rfl,hb,hc0⟩:=iG.cell (HS.o k wr hI) hlt
   have hC:=HC.o k hlt wr hno hI
   have HN:=ae hno
   clear hno
   go_wp2_with fail
   refine hC.mono ?_
   rintro e W1 ⟨rfl,hI1⟩
   have HI:=ae hI1
   clear hI1 hI hC
   cases hp:p k
   ·go_wp2_with fail
    go_roundw
    case rel=>exact⟨k+1,by omega,by go_num,fun j hj=>(by by_cases e:j=k;(subst e;exact hp);exact HN.o j (by omega)),HI.o⟩
    case measure=>simp[intOf];omega
   ·go_wp2_with fail
    go_returns
    exact⟨k,by omega,HN.o,.inl ⟨hlt,hp,by simp,HI.o⟩⟩
  ·have hkl:k=l.length:=by omega
   have HN:=ae hno
   clear hno
   go_wp2_with fail
   go_returns
   exact⟨k,by omega,HN.o,.inr ⟨hkl,by simp,by subst hkl;exact hI⟩⟩
theorem ahZ (l:List az) (v:Value) (bg:Nat) (fst caps:Array Value) (p:Nat->Bool) (I:Nat->World->Prop) (w:World) (eg: ∀args w,(callFunc bg args).run Tryz.prog w= .ok (.enter bg args) w)
 (hsl: ∀k W,I k W->iG W v l)
 (hcall: ∀k (hk:k<l.length) W,(∀j,j<k->p j=false)->I k W->Calls Tryz.prog bg (fst.push (sv l[k])++caps) W (fun e W'=>e= .returned (.bool (p k))/\I (k+1) W')) (h0:I 0 w):
 Calls Tryz.prog 105 #[v,.func (.func bg) fst caps] w (ed l.length p I (fun _=> .bool true) (.bool false)):=by
 have HI:=ae (ajH l v bg fst caps p I w eg hsl hcall h0)
 have hlen:=(hsl 0 w h0).len
 clear hsl hcall h0 eg
 go_enter Tryz.func105,Tryz.ntmps105
 go_wp2_with fail
 refine HI.o.mono ?_
 clear HI
 rintro e W' ⟨k,hk,hno,⟨hlt,hp,rfl,hI⟩|⟨hkl,rfl,hI⟩⟩
 ·have HN:=ae (ag hno (ag hp hI))
  clear hno hp hI
  go_wp2_with fail
  go_returns
  exact⟨k,hk,HN.o.1,.inl ⟨hlt,HN.o.2.1,by simp,HN.o.2.2⟩⟩
 ·have HN:=ae (ag hno (ag hkl hI))
  clear hno hkl hI
  go_wp2_with fail
  go_returns
  exact⟨k,hk,HN.o.1,.inr ⟨HN.o.2.1,by simp,HN.o.2.1▸HN.o.2.2⟩⟩
theorem aaT (b:Nat) (l:az) (w:World) (hc:w.cell? ⟨b,0,none⟩=some (.func (.func 57) #[iv 60] #[])) (hl:l.length<=1000000):Calls Tryz.prog 106 #[sv l,.pointer (some ⟨b,0,none⟩)] w (PV (.bool (!decide ((l.length:Int)<=60))) w):=by
 have HC:=ae (Wj 60 l w hl)
 go_enter Tryz.func106,Tryz.ntmps106
 go_wp2_with fail
 refine HC.o.mono ?_
 rintro e w' ⟨rfl,hb⟩
 go_wp2_with fail
 go_returns
 exact⟨rfl,hb⟩
theorem aaR (b:Nat) (l:List az) (v:Value) (w:World) (hv:iG w v l) (hc:w.cell? ⟨b,0,none⟩=some (.func (.func 57) #[iv 60] #[])) (hb:b<w.heap.size) (hln: ∀x∈l,x.length<=1000000):Calls Tryz.prog 105 #[v,.func (.func 106) #[] #[.pointer (some ⟨b,0,none⟩)]] w (PV (.bool (l.any fun x=>!decide ((x.length:Int)<=60))) w):=by
 refine(ahZ l v 106 #[] #[.pointer (some ⟨b,0,none⟩)] (fun k=>!decide (((l.getD k []).length:Int)<=60)) (fun _ W=>Below w.heap.size w W) w (enters_of Tryz.func106 (by kernel_rfl) rfl) (fun k W h=>hv.below h (ai _)) (fun k hk W _ h=>?_) (aH _ _)).mono ?_
 ·refine(aaT b l[k] W ((jd (h.block b hb)).trans hc) (hln _ (dh hk))).mono ?_
  rintro e W' ⟨rfl,hb'⟩
  exact⟨by simp[hk],aY h hb'⟩
 ·rintro e W' ⟨k,hk,hno,⟨hlt,hp,rfl,hI⟩|⟨hkl,rfl,hI⟩⟩
  ·refine⟨?_,hI⟩
   have:(l.any fun x=>!decide ((x.length:Int)<=60))=true:=List.any_eq_true.2 ⟨l[k],dh _,by simpa [hlt] using hp⟩
   rw[this]
  ·refine⟨?_,hI⟩
   have:(l.any fun x=>!decide ((x.length:Int)<=60))=false:=by
    rw[List.any_eq_false]
    intro x hx
    obtain⟨j,hj,rfl⟩:=mF hx
    have:=hno j (by omega)
    simpa [hj] using this
   rw[this]
theorem acL (l:List az) (v:Value) (w:World) (hv:iG w v l) (hln: ∀x∈l,x.length<=1000000):Calls Tryz.prog 58 #[v,.func (.func 57) #[iv 60] #[]] w (PV (.bool (!(l.any fun x=>!decide ((x.length:Int)<=60)))) w):=by
 have HV:=ae hv
 clear hv
 go_enter Tryz.func58,Tryz.ntmps58
 go_upto_region 1 with(fail)
 refine dN fun W1 hW1=>?_
 have hb1:Below w.heap.size w W1:=by rw[hW1];exact aj (aH _ _) _
 have hc1:W1.cell? ⟨w.heap.size,0,none⟩=some (.func (.func 57) #[iv 60] #[]):=by rw[hW1];exact(af (ay _ _)).1 0
 have hs1:w.heap.size<W1.heap.size:=by rw[hW1];simp
 have HA:=ae (aaR w.heap.size l v W1 (aN.below HV.o hb1 (ai _)) hc1 hs1 hln)
 have HB:=ae hb1
 clear hW1 hb1 hc1 hs1
 go_wp2_with fail
 refine HA.o.mono ?_
 rintro e w' ⟨rfl,hb⟩
 go_wp2_with fail
 go_returns
 exact⟨rfl,aY HB.o hb⟩
def fC (l:List az):Int:=if 40<l.length∨(l.any fun x=>!decide ((x.length:Int)<=60))=true then 3 else 0
theorem Kr (l:List az) (v:Value) (w:World) (hv:iG w v l) (hln: ∀x∈l,x.length<=1000000):Calls Tryz.prog 31 #[v] w (PV (iv (fC l)) w):=by
 have hlen:=hv.len
 obtain⟨o,c,rfl⟩:=aN.open hv
 have HA:=ae (acL l _ w hv hln)
 clear hv
 go_enter Tryz.func31,Tryz.ntmps31
 go_wp2_with fail
 ·refine HA.o.mono ?_
  rintro e w' ⟨rfl,hb⟩
  cases hq:(l.any fun x=>!decide ((x.length:Int)<=60))
  all_goals
   go_wp2_with fail
   go_returns
   refine⟨?_,hb⟩
   simp only[fC,hq]
   simp
   try omega
 ·go_returns
  refine⟨?_,aH _ _⟩
  rw[fC,aF (.inl (by omega))]
  rfl
def zeroS:jO:=
 {led:={field:={rows:=0,aK:=0,left:=(0,0),ax:=[]},rate:=0,box:=(0,0),notes:=[]}
  heap:={last:=0,size:=0,aZ:=0,die:=0,uF:=0,start:=(0,0),bZ:=[],turns:=[],readings:=[]}
  dA:={heaps:=[],aU:=[],aJ:=[]}}
def zeroV:SV:=⟨.slice none 0 0,.slice none 0 0,.slice none 0 0,.slice none 0 0,.slice none 0 0,.slice none 0 0,.slice none 0 0,.slice none 0 0⟩
theorem QE:dS zeroS zeroV=fP:=rfl
theorem abt (w:World):pV w zeroS zeroV []:=by
 have hn: ∀k,aN k w (.slice none 0 0) 0 []:=fun k=>aN.nil k w
 exact⟨hn _,hn _,hn _,hn _,hn _,⟨hn _,⟨hn _,fun e he=>by cases he⟩,rfl,hn _⟩⟩
def iZ (ls:List az):jO:=if fC ls=0 then(fJ bI dZ ls).1 else zeroS
def yc (ls:List az):List Int:=if fC ls=0 then(fJ bI dZ ls).2 else[]
def PPl (Qs:List Nat) (ls:List az) (w:World) (e:Ending) (w':World):Prop:=
 Below w.heap.size w w'/\ ∃V es cv,e= .returned (.tuple #[.agg (dS (iZ ls) V),cv,iv (fC ls)])/\(∀W',Ext Qs w' W'->pV W' (iZ ls) V es)/\w'.ownsRow w.heap.size 26 1 cv (yc ls).length (ah (yc ls))
theorem Xc {ls:List az} (h:fC ls=0):ls.length<=40/\ ∀l∈ls,l.length<=60:=by
 unfold fC at h
 split at h
 ·omega
 ·rename_i hc
  simp only[not_or,Bool.not_eq_true] at hc
  refine⟨by omega,fun l hl=>?_⟩
  have:=List.any_eq_false.1 hc.2 l hl
  simp at this
  omega
theorem BZ (lv:Value) (ls:List az) (w:World) (hls:iG w lv ls) (hE:Env w) (hln: ∀l∈ls,l.length<=1000000) (Qs:List Nat) (hQs: ∀m∈Qs,m<w.heap.size):Calls Tryz.prog 18 #[lv] w (PPl Qs ls w):=by
 have FQ:Hid (∀W,Below w.heap.size w W->iG W lv ls):=ae (fun W hb=>hls.below hb (ai _))
 have HE:Hid (∀W,Below w.heap.size w W->Env W):=ae (fun W hb=>hE.below hb (ai _))
 have Uk:=ae hln
 clear hls hE hln
 go_enter Tryz.func18,Tryz.ntmps18
 go_upto_region 1 with(fail)
 refine dN fun W1 hW1=>?_
 have hb1:Below w.heap.size w W1:=by rw[hW1];exact aj (aH _ _) _
 have hk1:W1.heap[w.heap.size]? =some (.cells fP 62 (0,0)):=by rw[hW1];exact ay _ _
 have hs1:W1.heap.size=w.heap.size+1:=by rw[hW1];simp
 have HB1:=ae hb1
 have Yo:=ae hk1
 clear hW1 hb1 hk1
 go_wp2_with fail
 refine(Kr ls lv W1 (FQ.o _ HB1.o) Uk.o).mono ?_
 rintro e W2 ⟨rfl,hb⟩
 have HB2:=ae (aY HB1.o hb)
 have HK2:=ae ((hb.block _ (by omega)).trans Yo.o)
 have hs2:=hb.size
 obtain⟨q,hq⟩: ∃q,fC ls=q:=⟨_,rfl⟩
 rw[hq]
 have HQ:=ae hq
 clear hq hb
 by_cases hz:q=0
 ·subst hz
  have HLL:=ae (Xc HQ.o)
  have Yk:=ae (x9 lv ls W2 (FQ.o _ HB2.o) (HE.o _ HB2.o) (fun l hl=>by have:=HLL.o.2 l hl;omega) (by have:=HLL.o.1;omega) (w.heap.size::Qs) (fun m hm=>by
   rcases gZ.1 hm with rfl|hm
   ·omega
   ·have:=hQs m hm;omega))
  go_wp2_with fail
  refine Yk.o.mono ?_
  rintro e W3 ⟨hb3,V,es,cv,rfl,hX,hC⟩
  obtain⟨co,cc,rfl⟩:=aW hC
  have hs3:=hb3.size
  rename_i hK
  refine hK _ _ ?_
  refine aP rfl _ (by go_simp;first|rfl|exact⟨rfl,rfl⟩) ?_
  simp only[zp]
  refine aP rfl _ (by go_simp;first|rfl|exact⟨rfl,rfl⟩) ?_
  simp only[zp]
  refine aP rfl _ (by go_simp;first|rfl|exact⟨rfl,rfl⟩) ?_
  simp only[zp]
  have hk3:=(hb3.block _ (by omega)).trans HK2.o
  have hS3:=hX W3 (Ext.refl _ _)
  refine wpList_store_row rfl _ _ _ rfl w.heap.size (dS (fJ bI dZ ls).1 V) (by as_aux_lemma=>kernel_rfl) (by as_aux_lemma=>kernel_rfl) _ fP hk3 (by kernel_rfl) (by as_aux_lemma=>kernel_rfl) (by rw[oH];exact fun u hu=>ji hS3 u (pU.2 hu)) ?_
  simp only[zp]
  refine kW fun W4 FK=>?_
  have O1:Ext [w.heap.size] W3 W4:=by rw[FK];exact gB
  have hb4:=jF (aY HB2.o hb3) O1 (ai _)
  have hk4:W4.heap[w.heap.size]? =some (.cells (dS (fJ bI dZ ls).1 V) 62 (0,0)):=by rw[FK];exact setRow_heap _ _ _ _ _ _ hk3
  have hc4:=aC (Ms:=[w.heap.size]) hC O1 (by simp;omega)
  have hX4: ∀W',Ext (w.heap.size::Qs) W4 W'->pV W' (fJ bI dZ ls).1 V es:=fun W' hE'=>hX W' ((O1.more (by simp)).trans hE')
  have H4:=ae (ag hb4 (ag hk4 (ag hc4 hX4)))
  clear FK O1 hb4 hk4 hc4 hX4 hk3 hX hC hb3 hS3 hK
  go_upto_region 5 with(fail)
  refine wp_region_lit ?_
  refine wpList_load_row rfl _ _ rfl w.heap.size rfl _ _ _ _ H4.o.2.1 Tryz.underlying62 rfl (by kernel_rfl) ?_
  simp only[zp]
  refine aP rfl _ (by go_simp;first|rfl|exact⟨rfl,rfl⟩) ?_
  simp only[zp]
  refine wpList_store_row rfl _ _ _ rfl w.heap.size (dS (fJ bI dZ ls).1 V) (by as_aux_lemma=>kernel_rfl) (by as_aux_lemma=>kernel_rfl) _ _ H4.o.2.1 (by kernel_rfl) (by as_aux_lemma=>kernel_rfl) (by rw[oH];exact fun u hu=>ji (H4.o.2.2.2 W4 (Ext.refl _ _)) u (pU.2 hu)) ?_
  simp only[zp]
  refine kW fun W5 yx=>?_
  have Ez:Ext [w.heap.size] W4 W5:=by rw[yx];exact gB
  have hk5:W5.heap[w.heap.size]? =some (.cells (dS (fJ bI dZ ls).1 V) 62 (0,0)):=by rw[yx];exact setRow_heap _ _ _ _ _ _ H4.o.2.1
  have H5:=ae (ag (jF H4.o.1 Ez (ai _)) (ag hk5 (ag (aC (Ms:=[w.heap.size]) H4.o.2.2.1 Ez (by simp;omega)) (fun W' (hE':Ext (w.heap.size::Qs) W5 W')=>H4.o.2.2.2 W' ((Ez.more (by simp)).trans hE')))))
  clear yx Ez hk5
  go_wp2_with fail
  refine bodyPost_ret (v:= .tuple #[.agg (dS (fJ bI dZ ls).1 V),.slice co ls.length cc,iv 0]) ?_ rfl ?_
  ·have q1:=run_loadVar_row (P:=Tryz.prog) W5 w.heap.size 62 62 _ (0,0) _ H5.o.2.1 Tryz.underlying62 rfl (by kernel_rfl)
   simp[results,Tryz.results18,asAddr,q1]
  ·have h5:=H5.o
   have e1:iZ ls=(fJ bI dZ ls).1:=by unfold iZ;rw[aF HQ.o]
   have e2:yc ls=(fJ bI dZ ls).2:=by unfold yc;rw[aF HQ.o]
   refine⟨h5.1,V,es,.slice co ls.length cc,?_,?_,?_⟩
   ·rw[e1,HQ.o]
   ·rw[e1];exact fun W' hE'=>h5.2.2.2 W' (hE'.more (fun m hm=>qZ _ hm))
   ·rw[e2,Y5];exact df h5.2.2.1 (by omega)
 ·go_upto_region 3 with(fail)
  refine wp_region_lit ?_
  refine aP rfl (w':=W2) (.agg fP) (by as_aux_lemma=>kernel_rfl) ?_
  simp only[zp]
  refine aP rfl _ (by go_simp;first|rfl|exact⟨rfl,rfl⟩) ?_
  simp only[zp]
  refine wpList_store_row rfl _ _ _ rfl w.heap.size fP (by as_aux_lemma=>kernel_rfl) (by as_aux_lemma=>kernel_rfl) _ fP HK2.o (by kernel_rfl) (by as_aux_lemma=>kernel_rfl) (by as_aux_lemma=>kernel_rfl) ?_
  simp only[zp]
  refine kW fun W3 hW3=>?_
  have yz:Ext [w.heap.size] W2 W3:=by rw[hW3];exact gB
  have hk3:W3.heap[w.heap.size]? =some (.cells fP 62 (0,0)):=by rw[hW3];exact setRow_heap _ _ _ _ _ _ HK2.o
  have H3:=ae (ag (jF HB2.o yz (ai _)) hk3)
  clear hW3 yz hk3
  go_wp2_with fail
  refine bodyPost_ret (v:= .tuple #[.agg fP,.slice none 0 0,iv q]) ?_ rfl ?_
  ·have q1:=run_loadVar_row (P:=Tryz.prog) W3 w.heap.size 62 62 _ (0,0) _ H3.o.2 Tryz.underlying62 rfl (by kernel_rfl)
   simp[results,Tryz.results18,asAddr,q1]
  ·have e1:iZ ls=zeroS:=by unfold iZ;rw[ak (by rw[HQ.o];exact hz)]
   have e2:yc ls=[]:=by unfold yc;rw[ak (by rw[HQ.o];exact hz)]
   refine⟨H3.o.1,zeroV,[],.slice none 0 0,?_,?_,?_⟩
   ·rw[e1,HQ.o,QE]
   ·rw[e1];exact fun W' _=>abt W'
   ·rw[e2];exact⟨rfl,.inl ⟨rfl,rfl⟩⟩
def JS (ls:List az):Int:=if fC ls=0 then gQ (iZ ls).led true else fC ls
def JU (ls:List az):List dR:=if fC ls=0 then(if gQ (iZ ls).led true=0 then BQ oL (iZ ls).led (gm (iZ ls).led) else[]) else[]
def Jt (ls:List az):Int:=if fC ls=0 then jI.Au (iZ ls).heap else fC ls
def Ju (ls:List az):List Int:=if fC ls=0 then jI.SQ (iZ ls).heap else[]
def ald (ls:List az) (w:World) (e:Ending) (w':World):Prop:=Below w.heap.size w w'/\ ∃u,e= .returned (.tuple #[u,iv (JS ls)])/\bT w' u (JU ls)
def ala (ls:List az) (w:World) (e:Ending) (w':World):Prop:=Below w.heap.size w w'/\ ∃u,e= .returned (.tuple #[u,iv (Jt ls)])/\aO w' u (Ju ls)
theorem Xw (lv:Value) (ls:List az) (w:World) (hls:iG w lv ls) (hE:Env w) (hln: ∀l∈ls,l.length<=1000000):Calls Tryz.prog 21 #[lv] w (ald ls w):=by
 have FQ:=ae hls
 have HE:=ae hE
 have Uk:=ae hln
 clear hls hE hln
 obtain⟨q,hq⟩: ∃q,fC ls=q:=⟨_,rfl⟩
 have HQ:=ae hq
 go_enter Tryz.func21,Tryz.ntmps21
 go_wp2_with fail
 refine(BZ lv ls w (FQ.o) (HE.o) (Uk.o) [] (by simp)).mono ?_
 rintro e W2 ⟨hb2,V,es,cv,he,hX,hC⟩
 rw[hq] at he
 subst he
 obtain⟨co,cc,rfl⟩:=aW hC
 have hs2:=hb2.size
 have hS2:=hX W2 (Ext.refl _ _)
 rename_i hK
 refine hK _ _ ?_
 refine aP rfl _ (by go_simp;first|rfl|exact⟨rfl,rfl⟩) ?_
 simp only[zp]
 refine aP rfl _ (by go_simp;first|rfl|exact⟨rfl,rfl⟩) ?_
 simp only[zp]
 refine aP rfl _ (by go_simp;first|rfl|exact⟨rfl,rfl⟩) ?_
 simp only[zp]
 refine aP rfl _ (by go_simp;first|rfl|exact⟨rfl,rfl⟩) ?_
 simp only[zp]
 obtain⟨g,hg⟩: ∃g,g=W2.heap.size:=⟨_,rfl⟩
 refine aP rfl (w':=W2.alloc (.cells fP 62 (0,0))) (.pointer (some ⟨g,0,none⟩)) (by rw[hg];go_simp;try rfl) ?_
 simp only[zp]
 have hz2:(W2.alloc (.cells fP 62 (0,0))).heap[g]? =some (.cells fP 62 (0,0)):=by rw[hg];exact ay _ _
 refine wpList_store_row rfl _ _ _ rfl g (dS (iZ ls) V) (by as_aux_lemma=>kernel_rfl) (by as_aux_lemma=>kernel_rfl) _ fP hz2 (by kernel_rfl) (by as_aux_lemma=>kernel_rfl) (by rw[oH];exact fun u hu=>ji hS2 u (pU.2 hu)) ?_
 simp only[zp]
 refine kW fun W3 hW3=>?_
 obtain⟨BU,oz⟩: ∃BU,BU=W2.alloc (.cells fP 62 (0,0)):=⟨_,rfl⟩
 rw[<-oz] at hW3 hz2
 have yz:Ext [g] BU W3:=by rw[hW3];exact gB
 have hs3:=yz.size
 have hs2':BU.heap.size=g+1:=by rw[oz,hg];simp
 have qL:Below W2.heap.size W2 W3:=jF (by rw[oz];exact aj (aH _ _) _) yz (by omega)
 have hk3:W3.heap[g]? =some (.cells (dS (iZ ls) V) 62 (0,0)):=by rw[hW3];exact setRow_heap _ _ _ _ _ _ hz2
 have hb3:=aY hb2 qL
 have hg3:w.heap.size<=g:=by omega
 have hgs:g<W3.heap.size:=by omega
 have H3:=ae (ag hb3 (ag hk3 (hS2.below qL (ai _))))
 clear hX hC hW3 oz yz qL hb2 hS2 hz2 hK hs2 hs3 hs2' hg hb3
 clear hq
 obtain⟨vt,vn,vw,vu,vr,vh,vk,vs⟩:=V
 obtain⟨c3,f3,l3⟩:=af hk3
 by_cases hz:q=0
 rotate_left
 ·go_wp2_with fail
  go_returns
  have hqq:fC ls≠0:=by rw[HQ.o];exact hz
  have h1:JS ls=q:=by unfold JS;rw[ak hqq,HQ.o]
  have h2:JU ls=[]:=by unfold JU;rw[ak hqq]
  refine⟨H3.o.1,.slice none 0 0,?_,?_⟩
  ·rw[h1];simp
  ·rw[h2];exact aN.nil _ _
 ·subst hz
  have HO:=ae (Ql (iZ ls).led vt vn W3 H3.o.2.2.xE H3.o.2.2.VY)
  have h1:JS ls=gQ (iZ ls).led true:=by unfold JS;rw[aF HQ.o]
  have h2:JU ls=if gQ (iZ ls).led true=0 then BQ oL (iZ ls).led (gm (iZ ls).led) else[]:=by unfold JU;rw[aF HQ.o]
  obtain⟨q2,hq2⟩: ∃q,gQ (iZ ls).led true=q:=⟨_,rfl⟩
  rw[hq2] at h1 h2
  have HH:=ae (ag h1 h2)
  clear h1 h2
  go_wp2_with fail
  refine HO.o.mono ?_
  rintro e W4 ⟨hb4,hp⟩
  rw[hq2] at hp
  have HB4:=ae (aY H3.o.1 hb4)
  clear hb4 hq2
  rcases hp with⟨hne,rfl⟩|⟨h0,u,rfl,hu⟩
  ·have HN:=ae hne
   clear hne
   go_wp2_with fail
   go_returns
   refine⟨HB4.o,.slice none 0 0,?_,?_⟩
   ·rw[HH.o.1];simp
   ·rw[HH.o.2,ak HN.o];exact aN.nil _ _
  ·subst h0
   have HU:=ae hu
   obtain⟨uo,uc,rfl⟩:=hu.open
   clear hu
   go_wp2_with fail
   go_returns
   refine⟨HB4.o,.slice uo (BQ oL (iZ ls).led (gm (iZ ls).led)).length uc,?_,?_⟩
   ·rw[HH.o.1];simp
   ·rw[HH.o.2];simpa using HU.o
theorem Jg (lv:Value) (ls:List az) (w:World) (hls:iG w lv ls) (hE:Env w) (hln: ∀l∈ls,l.length<=1000000):Calls Tryz.prog 26 #[lv] w (ala ls w):=by
 have FQ:=ae hls
 have HE:=ae hE
 have Uk:=ae hln
 clear hls hE hln
 obtain⟨q,hq⟩: ∃q,fC ls=q:=⟨_,rfl⟩
 have HQ:=ae hq
 go_enter Tryz.func26,Tryz.ntmps26
 go_wp2_with fail
 refine(BZ lv ls w (FQ.o) (HE.o) (Uk.o) [] (by simp)).mono ?_
 rintro e W2 ⟨hb2,V,es,cv,he,hX,hC⟩
 rw[hq] at he
 subst he
 obtain⟨co,cc,rfl⟩:=aW hC
 have hs2:=hb2.size
 have hS2:=hX W2 (Ext.refl _ _)
 rename_i hK
 refine hK _ _ ?_
 refine aP rfl _ (by go_simp;first|rfl|exact⟨rfl,rfl⟩) ?_
 simp only[zp]
 refine aP rfl _ (by go_simp;first|rfl|exact⟨rfl,rfl⟩) ?_
 simp only[zp]
 refine aP rfl _ (by go_simp;first|rfl|exact⟨rfl,rfl⟩) ?_
 simp only[zp]
 refine aP rfl _ (by go_simp;first|rfl|exact⟨rfl,rfl⟩) ?_
 simp only[zp]
 obtain⟨g,hg⟩: ∃g,g=W2.heap.size:=⟨_,rfl⟩
 refine aP rfl (w':=W2.alloc (.cells fP 62 (0,0))) (.pointer (some ⟨g,0,none⟩)) (by rw[hg];go_simp;try rfl) ?_
 simp only[zp]
 have hz2:(W2.alloc (.cells fP 62 (0,0))).heap[g]? =some (.cells fP 62 (0,0)):=by rw[hg];exact ay _ _
 refine wpList_store_row rfl _ _ _ rfl g (dS (iZ ls) V) (by as_aux_lemma=>kernel_rfl) (by as_aux_lemma=>kernel_rfl) _ fP hz2 (by kernel_rfl) (by as_aux_lemma=>kernel_rfl) (by rw[oH];exact fun u hu=>ji hS2 u (pU.2 hu)) ?_
 simp only[zp]
 refine kW fun W3 hW3=>?_
 obtain⟨BU,oz⟩: ∃BU,BU=W2.alloc (.cells fP 62 (0,0)):=⟨_,rfl⟩
 rw[<-oz] at hW3 hz2
 have yz:Ext [g] BU W3:=by rw[hW3];exact gB
 have hs3:=yz.size
 have hs2':BU.heap.size=g+1:=by rw[oz,hg];simp
 have qL:Below W2.heap.size W2 W3:=jF (by rw[oz];exact aj (aH _ _) _) yz (by omega)
 have hk3:W3.heap[g]? =some (.cells (dS (iZ ls) V) 62 (0,0)):=by rw[hW3];exact setRow_heap _ _ _ _ _ _ hz2
 have hb3:=aY hb2 qL
 have hg3:w.heap.size<=g:=by omega
 have hgs:g<W3.heap.size:=by omega
 have H3:=ae (ag hb3 (ag hk3 (hS2.below qL (ai _))))
 clear hX hC hW3 oz yz qL hb2 hS2 hz2 hK hs2 hs3 hs2' hg hb3
 clear hq
 obtain⟨vt,vn,vw,vu,vr,vh,vk,vs⟩:=V
 obtain⟨c3,f3,l3⟩:=af hk3
 by_cases hz:q=0
 rotate_left
 ·go_wp2_with fail
  go_returns
  have hqq:fC ls≠0:=by rw[HQ.o];exact hz
  have h1:Jt ls=q:=by unfold Jt;rw[ak hqq,HQ.o]
  have h2:Ju ls=[]:=by unfold Ju;rw[ak hqq]
  refine⟨H3.o.1,.slice none 0 0,?_,?_⟩
  ·rw[h1];simp
  ·rw[h2];exact aN.nil _ _
 ·subst hz
  have HO:=ae (jI.Uo (iZ ls).heap vw vu vr W3 H3.o.2.2.bZ H3.o.2.2.IQ H3.o.2.2.Qw)
  have h1:Jt ls=jI.Au (iZ ls).heap:=by unfold Jt;rw[aF HQ.o]
  have h2:Ju ls=jI.SQ (iZ ls).heap:=by unfold Ju;rw[aF HQ.o]
  obtain⟨q2,hq2⟩: ∃q,jI.Au (iZ ls).heap=q:=⟨_,rfl⟩
  rw[hq2] at h1
  have HH:=ae (ag h1 h2)
  clear h1 h2
  go_wp2_with fail
  refine HO.o.mono ?_
  rintro e W4 ⟨u,he,hu,hb4⟩
  rw[hq2] at he
  subst he
  have HB4:=ae (aY H3.o.1 hb4)
  have HU:=ae hu
  obtain⟨uo,uc,rfl⟩:=hu.open
  clear hb4 hq2 hu
  go_wp2_with fail
  go_returns
  refine⟨HB4.o,.slice uo (jI.SQ (iZ ls).heap).length uc,?_,?_⟩
  ·rw[HH.o.1];simp
  ·rw[HH.o.2];exact HU.o
theorem jE (l:az):(dG l).size=l.length:=by simp[ByteArray.size]
abbrev uv (c:UInt8):Value:= .int .u8 (c.toNat:Int)
theorem qO (a b:az):dG a++dG b=dG (a++b):=by
 apply ByteArray.ext
 simp
theorem aaM (l:az) (a b:Nat):(dG l).extract a b=dG ((l.take b).drop a):=by
 apply ByteArray.ext
 simp[List.drop_take]
theorem jP {P:Program} {a b c:az} (hc:c=a++b) (h:a.length+b.length<=1000000000) (W:World):(Op.stringOp .add (dG a) (dG b)).run P W= .ok (.string (dG c)) W:=by
 have h1:=jE a
 have h2:=jE b
 subst hc
 unfold Op.stringOp
 rw[ak (by rw[h1,h2];have:IntKind.i64.max=9223372036854775807:=rfl;omega),qO]
 simp
theorem zT: ∀(l:az) (k:Nat) (c:UInt8),iy k (l++[c])=iy k l+(k+l.length)*c.toNat:=by
 intro l
 induction l with
 |nil=>intro k c;simp[iy]
 |cons x l ih=>intro k c;simp only[List.cons_append,iy,ih,List.length_cons];rw[show k+1+l.length=k+(l.length+1) from by omega];omega
theorem uP: ∀(l:az) (k:Nat),k+l.length<=62->iy k l<=15810*l.length:=by
 intro l
 induction l with
 |nil=>intro k _;exact ai _
 |cons x l ih=>
  intro k h
  simp only[List.length_cons] at h
  have h1:=ih (k+1) (by omega)
  have h2:k*x.toNat<=62*255:=Nat.mul_le_mul (by omega) (by have:=x.toNat_lt;omega)
  simp only[iy,List.length_cons]
  omega
theorem aaJ (m:Nat) (h:m<=62*255):wrap64 (m:Int)=m:=IntWalk.wrap64_in _ ⟨by omega,by omega⟩
theorem aaI (i S m:Nat) (h1:i<=1000) (h2:S<=948600) (h3:m<=62*255):wrap64 (29*((i:Int)+1)+S+m)=29*((i:Int)+1)+S+m:=IntWalk.wrap64_in _ ⟨by omega,by omega⟩
theorem vY (i:Nat) (line:az) (w:World) (hi:i<=1000) (hl:line.length<=60):Calls Tryz.prog 187 #[iv i,.string (dG line)] w (PV (iv (iE i line)) w):=by
 have hsz:=jE line
 go_enter Tryz.func187,Tryz.ntmps187
 go_wp2_with fail
 go_loopw [5,12] (fun s u wr=> ∃j:Nat,j<=line.length/\u= .int .i64 j/\s= .int .i64 ((29*(i+1)+iy 2 (line.take j):Nat):Int)/\Below w.heap.size w wr) (fun _ u _=>line.length-(intOf u).toNat)
 case atStart=>exact⟨0,bQ _,rfl,by simp[iy];try omega,aH _ _⟩
 case round=>
  obtain⟨j,hj,rfl,rfl,hb⟩:=hrel
  by_cases hlt:j<line.length
  ·have hle:=uP (line.take j) 2 (by simp;omega)
   have hlj:(line.take j).length=j:=by simp;omega
   rw[hlj] at hle
   obtain⟨c,hc⟩: ∃c,line[j]=c:=⟨_,rfl⟩
   have hcx:(dG line)[j]'(by rw[hsz];exact hlt)=c:=by rw[<-hc];rfl
   have hcl:=c.toNat_lt
   have hmul:(j+2)*c.toNat<=62*255:=Nat.mul_le_mul (by omega) (by omega)
   have hst:iy 2 (line.take (j+1))=iy 2 (line.take j)+(2+j)*c.toNat:=by
    rw[iC hlt,zT,hlj,hc]
   have HST:=ae hst
   generalize hS:iy 2 (line.take j)=S at*
   obtain⟨m,hm⟩: ∃m,(j+2)*c.toNat=m:=⟨_,rfl⟩
   have hmI:((j:Int)+2)*(c.toNat:Int)=(m:Int):=by rw[<-hm];simp
   have HM:Hid ((2+j)*c.toNat=m):=ae (by rw[<-hm,Nat.add_comm])
   rw[hm] at hmul
   have aeC:S<=948600:=by omega
   have w1:wrap64 (m:Int)=m:=aaJ m hmul
   have w2:wrap64 (29*((i:Int)+1)+S+m)=29*((i:Int)+1)+S+m:=aaI i S m hi aeC hmul
   clear hst hS hlj hc hm
   go_wp2_with fail
   refine⟨⟨j+1,by omega,by go_num,?_,hb⟩,by simp[intOf];omega⟩
   rw[HST.o,HM.o]
   congr 1
   omega
  ·have hjl:j=line.length:=by omega
   subst hjl
   have hle:=uP line 2 (by omega)
   rw[List.take_length]
   have HC:Hid (((29*(i+1)+iy 2 line:Nat):Int)%9949=(iE i line:Nat)):=ae (by unfold iE;omega)
   obtain⟨S,hS⟩: ∃S,29*(i+1)+iy 2 line=S:=⟨_,rfl⟩
   rw[hS] at HC⊢
   clear hle hS
   go_wp2_with fail
   go_returns
   exact⟨by simp[HC.o],hb⟩
theorem Ht: ∀(i n:Nat),jY n (i+1)=zH (n/10^i%10)::jY n i:=by
 intro i
 induction i with
 |zero=>intro n;simp[jY]
 |succ i ih=>
  intro n
  rw[jY,ih (n/10),show jY n (i+1)=jY (n/10) i++[zH (n%10)] from rfl,Nat.div_div_eq_div_mul, <-Nat.pow_succ',List.cons_append]
def dv (k:Nat):Value:= .int .u8 ((48+k:Nat):Int)
theorem UZ {k:Nat} (h:k<10):dv k=uv (zH k):=by unfold dv uv;rw[lN h]
theorem NP (n:Nat) (hn:n<1000000) (w:World):Calls Tryz.prog 108 #[iv n] w (PV (.agg (Lib.byteCells (jY n 4)).toArray) w):=by
 obtain⟨d0,hd0⟩: ∃d,n%10=d:=⟨_,rfl⟩
 obtain⟨d1,hd1⟩: ∃d,n/10%10=d:=⟨_,rfl⟩
 obtain⟨d2,hd2⟩: ∃d,n/10/10%10=d:=⟨_,rfl⟩
 obtain⟨d3,hd3⟩: ∃d,n/10/10/10%10=d:=⟨_,rfl⟩
 have b0:d0<10:=by omega
 have b1:d1<10:=by omega
 have b2:d2<10:=by omega
 have b3:d3<10:=by omega
 have HD:Hid (jY n 4=[zH d3,zH d2,zH d1,zH d0]):=ae (by simp[jY,hd0,hd1,hd2,hd3])
 obtain⟨n1,hn1⟩: ∃m,n/10=m:=⟨_,rfl⟩
 rw[hn1] at hd1 hd2 hd3
 obtain⟨n2,hn2⟩: ∃m,n1/10=m:=⟨_,rfl⟩
 rw[hn2] at hd2 hd3
 obtain⟨n3,hn3⟩: ∃m,n2/10=m:=⟨_,rfl⟩
 rw[hn3] at hd3
 obtain⟨n4,hn4⟩: ∃m,n3/10=m:=⟨_,rfl⟩
 have q0:(n:Int)%10=d0:=by omega
 have q1:(n1:Int)%10=d1:=by omega
 have q2:(n2:Int)%10=d2:=by omega
 have q3:(n3:Int)%10=d3:=by omega
 have r0:(n:Int)/10=n1:=by omega
 have r1:(n1:Int)/10=n2:=by omega
 have r2:(n2:Int)/10=n3:=by omega
 have r3:(n3:Int)/10=n4:=by omega
 clear hd0 hd1 hd2 hd3 hn1 hn2 hn3 hn4
 go_enter Tryz.func108,Tryz.ntmps108
 go_wp2_with fail
 go_loopw [0,4] (fun s u wr=>Below w.heap.size w wr/\((s=iv n/\u=iv 0/\wr.heap[w.heap.size]? =some (.cells #[.int .u8 0,.int .u8 0,.int .u8 0,.int .u8 0] 233 (0,0)))∨
  (s=iv n1/\u=iv 1/\wr.heap[w.heap.size]? =some (.cells #[.int .u8 0,.int .u8 0,.int .u8 0,dv d0] 233 (0,0)))∨
  (s=iv n2/\u=iv 2/\wr.heap[w.heap.size]? =some (.cells #[.int .u8 0,.int .u8 0,dv d1,dv d0] 233 (0,0)))∨
  (s=iv n3/\u=iv 3/\wr.heap[w.heap.size]? =some (.cells #[.int .u8 0,dv d2,dv d1,dv d0] 233 (0,0)))∨
  (s=iv n4/\u=iv 4/\wr.heap[w.heap.size]? =some (.cells #[dv d3,dv d2,dv d1,dv d0] 233 (0,0))))) (fun _ u _=>4-(intOf u).toNat)
 case atStart=>exact⟨aj (aH _ _) _,.inl ⟨rfl,rfl,ay _ _⟩⟩
 case round=>
  obtain⟨hB,hc⟩:=hrel
  rcases hc with⟨rfl,rfl,hk⟩|⟨rfl,rfl,hk⟩|⟨rfl,rfl,hk⟩|⟨rfl,rfl,hk⟩|⟨rfl,rfl,hk⟩
  ·obtain⟨c0,f0,l0⟩:=af hk
   have HX:=ae (ag hB hk)
   clear hB hk
   go_wp2_with fail
   exact⟨⟨iF HX.o.1 (ai _) _,.inr (.inl ⟨rfl,rfl,aI HX.o.2 _⟩)⟩,by simp[intOf]⟩
  ·obtain⟨c0,f0,l0⟩:=af hk
   have HX:=ae (ag hB hk)
   clear hB hk
   go_wp2_with fail
   exact⟨⟨iF HX.o.1 (ai _) _,.inr (.inr (.inl ⟨rfl,rfl,aI HX.o.2 _⟩))⟩,by simp[intOf]⟩
  ·obtain⟨c0,f0,l0⟩:=af hk
   have HX:=ae (ag hB hk)
   clear hB hk
   go_wp2_with fail
   exact⟨⟨iF HX.o.1 (ai _) _,.inr (.inr (.inr (.inl ⟨rfl,rfl,aI HX.o.2 _⟩)))⟩,by simp[intOf]⟩
  ·obtain⟨c0,f0,l0⟩:=af hk
   have HX:=ae (ag hB hk)
   clear hB hk
   go_wp2_with fail
   exact⟨⟨iF HX.o.1 (ai _) _,.inr (.inr (.inr (.inr ⟨rfl,rfl,aI HX.o.2 _⟩)))⟩,by simp[intOf]⟩
  ·obtain⟨c0,f0,l0⟩:=af hk
   have HX:=ae (ag hB hk)
   clear hB hk
   go_upto_region 7 with(fail)
   refine wp_region_lit ?_
   refine wpList_load_row rfl _ _ rfl w.heap.size rfl _ _ _ _ HX.o.2 Tryz.underlying233 rfl (by kernel_rfl) ?_
   simp only[zp]
   refine wpList_store_row rfl _ _ _ rfl w.heap.size #[dv d3,dv d2,dv d1,dv d0] (by as_aux_lemma=>kernel_rfl) (by as_aux_lemma=>kernel_rfl) _ _ HX.o.2 (by kernel_rfl) (by as_aux_lemma=>kernel_rfl) (by simp[dv,Value.oneCell']) ?_
   simp only[zp]
   refine kW fun W5 yx=>?_
   have Ez:Ext [w.heap.size] wr W5:=by rw[yx];exact gB
   have hk5:W5.heap[w.heap.size]? =some (.cells #[dv d3,dv d2,dv d1,dv d0] 233 (0,0)):=by rw[yx];exact setRow_heap _ _ _ _ _ _ HX.o.2
   have H5:=ae (ag (jF HX.o.1 Ez (ai _)) hk5)
   clear yx Ez hk5
   go_wp2_with fail
   refine bodyPost_ret (v:= .agg #[dv d3,dv d2,dv d1,dv d0]) ?_ rfl ?_
   ·have q1:=run_loadVar_row (P:=Tryz.prog) W5 w.heap.size 233 233 _ (0,0) _ H5.o.2 Tryz.underlying233 rfl (by kernel_rfl)
    simp[results,Tryz.results108,asAddr,q1]
   ·refine⟨?_,H5.o.1⟩
    rw[HD.o,UZ b0,UZ b1,UZ b2,UZ b3]
    rfl
theorem zf (n:Nat): ∃a b c d,jY n 4=[a,b,c,d]:=by
 have h:=iU 4 n
 match hq:jY n 4,h with
 |[a,b,c,d],_=>exact⟨a,b,c,d,rfl⟩
def Us (i:Nat) (line:az):List Value:=Lib.byteCells (58::58::10::jY (iE i line) 4)
abbrev z7:Array Value:= #[.int .u8 0,.int .u8 0,.int .u8 0,.int .u8 0,.int .u8 0,.int .u8 0,.int .u8 0]
theorem FY (i:Nat) (line:az) (w:World) (hi:i<=1000) (hl:line.length<=60):Calls Tryz.prog 107 #[iv i,.string (dG line)] w (PV (.agg (Us i line).toArray) w):=by
 obtain⟨a,b,c,d,hd⟩:=zf (iE i line)
 have HD:=ae hd
 have hcl:=zo i line
 have HCK:=ae (fun W=>vY i line W hi hl)
 have HSH:=ae (fun W=>NP (iE i line) (by omega) W)
 unfold Us
 rw[hd]
 have hQ:=HD
 clear hd HD
 generalize iE i line=k at*
 go_enter Tryz.func107,Tryz.ntmps107
 go_upto_region 1 with(fail)
 refine dN fun W1 hW1=>?_
 have hb1:Below w.heap.size w W1:=by rw[hW1];exact aj (aH _ _) _
 have hk1:W1.heap[w.heap.size]? =some (.cells z7 235 (0,0)):=by rw[hW1];exact ay _ _
 have hs1:w.heap.size<W1.heap.size:=by rw[hW1];simp
 have HB1:=ae hb1
 have Yo:=ae hk1
 clear hW1 hb1 hk1
 go_wp2_with fail
 refine(HCK.o W1).mono ?_
 rintro e W2 ⟨rfl,hb⟩
 have hs2:=hb.size
 have HB2:=ae (aY HB1.o hb)
 have HK2:=ae ((hb.block _ hs1).trans Yo.o)
 clear hb
 go_wp2_with fail
 refine(HSH.o W2).mono ?_
 rintro e W3 ⟨he,hb⟩
 rw[hQ.o] at he
 subst he
 have hs3:=hb.size
 have HB3:=ae (aY HB2.o hb)
 have hk3:=(hb.block w.heap.size (by omega)).trans HK2.o
 clear hb
 rename_i hK
 refine hK _ _ ?_
 refine aP rfl (w':=W3) (.agg #[uv 58,uv 58,uv 10,uv a,uv b,uv c,uv d]) (by as_aux_lemma=>kernel_rfl) ?_
 simp only[zp]
 refine wpList_store_row rfl _ _ _ rfl w.heap.size #[uv 58,uv 58,uv 10,uv a,uv b,uv c,uv d] (by as_aux_lemma=>kernel_rfl) (by as_aux_lemma=>kernel_rfl) _ z7 hk3 (by kernel_rfl) (by as_aux_lemma=>kernel_rfl) (by simp[Value.oneCell']) ?_
 simp only[zp]
 refine kW fun W4 FK=>?_
 have O1:Ext [w.heap.size] W3 W4:=by rw[FK];exact gB
 have hk4:W4.heap[w.heap.size]? =some (.cells #[uv 58,uv 58,uv 10,uv a,uv b,uv c,uv d] 235 (0,0)):=by rw[FK];exact setRow_heap _ _ _ _ _ _ hk3
 have H4:=ae (ag (jF HB3.o O1 (ai _)) hk4)
 clear FK O1 hk4 hk3 hK
 go_wp2_with fail
 refine bodyPost_ret (v:= .agg #[uv 58,uv 58,uv 10,uv a,uv b,uv c,uv d]) ?_ rfl ?_
 ·have q1:=run_loadVar_row (P:=Tryz.prog) W4 w.heap.size 235 235 _ (0,0) _ H4.o.2 Tryz.underlying235 rfl (by kernel_rfl)
  simp[results,Tryz.results107,asAddr,q1]
 ·exact⟨rfl,H4.o.1⟩
theorem aN.cut {w:World} {o:Option Addr} {n c:Nat} {xs:List Value} (h:aN 1 w (.slice o n c) n xs) {l k:Nat} (hlk:l<=k) (hk:k<=n):aN 1 w (sliced o l k c 1) (k-l) ((xs.take k).drop l):=by
 obtain⟨hl,o',c',hv,h1,h2,h3,h4⟩:=h
 injection hv with e1 e2 e3
 subst e1 e3
 have hlen:xs.length=n:=by simpa using hl
 refine⟨by simp;omega,(if c=l then o else o.map (·.add (l*1))),c-l,rfl,by omega,by omega,fun ho=>?_,fun a ha=>?_⟩
 ·split at ho
  ·omega
  ·cases o with
   |none=>have:=h3 rfl;omega
   |some a=>cases ho
 ·split at ha
  ·rename_i hcl
   obtain⟨hs,hc⟩:=h4 a ha
   refine⟨hs,fun j u hj=>?_⟩
   have:(xs.take k).drop l=[]:=List.drop_eq_nil_of_le (by simp;omega)
   rw[this] at hj
   cases hj
  ·cases o with
   |none=>cases ha
   |some b=>
    obtain⟨hs,hc⟩:=h4 b rfl
    obtain⟨bb,off,sp⟩:=b
    simp only at hs hc
    subst hs
    simp only[Option.map_some,Option.some.injEq,Nat.mul_one] at ha
    rw[Addr.add_lit] at ha
    subst ha
    refine⟨rfl,fun j u hj=>?_⟩
    rw[List.getElem?_drop,List.getElem?_take] at hj
    split at hj
    ·have:=hc _ _ hj
     simpa [Nat.add_assoc] using this
    ·cases hj
theorem acB {P:Program} (t:TypeId) (hu:P.underlying t=some (.slice (P.elem t))) (hsz: ∀W,(sizeOf (P.elem t)).run P W= .ok 1 W) {o:Option Addr} {n c:Nat} {l k:Nat} (hlk:l<=k) (hk:k<=c):
 ∃so sc,(∀W,(Instr.slice t (.slice o n c) (some (iv (l:Int))) (some (iv (k:Int))) none).run P W= .ok (.slice so (k-l) sc) W)/\sliced o l k c 1= .slice so (k-l) sc:=by
 refine⟨_,_,fun W=>?_,rfl⟩
 rw[run_slice_lh (P:=P) W t o n c hu .i64 .i64 (l:Int) (k:Int) (by omega) (by omega) (by omega)]
 rw[hsz]
 rfl
theorem aaD {P:Program} (t:TypeId) (hu:P.underlying t=some (.slice (P.elem t))) (hsz: ∀W,(sizeOf (P.elem t)).run P W= .ok 1 W) {o:Option Addr} {n c:Nat} {l:Nat} (hl:l<=n):
 ∃so sc,(∀W,(Instr.slice t (.slice o n c) (some (iv (l:Int))) none none).run P W= .ok (.slice so (n-l) sc) W)/\sliced o l n c 1= .slice so (n-l) sc:=by
 refine⟨_,_,fun W=>?_,rfl⟩
 rw[run_slice_l (P:=P) W t o n c hu .i64 (l:Int) (by omega) (by omega)]
 rw[hsz]
 rfl
theorem aaC {P:Program} (t:TypeId) (hu:P.underlying t=some (.slice (P.elem t))) (hsz: ∀W,(sizeOf (P.elem t)).run P W= .ok 1 W) {o:Option Addr} {n c:Nat} {k:Nat} (hk:k<=c):
 ∃so sc,(∀W,(Instr.slice t (.slice o n c) none (some (iv (k:Int))) none).run P W= .ok (.slice so (k-0) sc) W)/\sliced o 0 k c 1= .slice so (k-0) sc:=by
 refine⟨_,_,fun W=>?_,rfl⟩
 rw[run_slice_h (P:=P) W t o n c hu .i64 (k:Int) (by omega) (by omega)]
 rw[hsz]
 rfl
theorem BytesAt.cell {w:World} {o:Option Addr} {n c:Nat} {l:az} (h:aN 1 w (.slice o n c) n (Lib.byteCells l)) {k:Nat} (hk:k<l.length):
 ∃b off,o=some ⟨b,off,none⟩/\b<w.heap.size/\w.cell? ⟨b,off+k,none⟩=some (.int .u8 (l[k].toNat:Int)):=by
 obtain⟨hl,o',c',hv,h1,h2,h3,h4⟩:=h
 cases hv
 have hn:n=l.length:=by simpa [Lib.byteCells] using hl.symm
 cases o with
 |none=>have:=h3 rfl;omega
 |some a=>
  obtain⟨b,off,sp⟩:=a
  obtain⟨hs,hc⟩:=h4 _ rfl
  simp only at hs hc
  subst hs
  have:=hc k (.int .u8 (l[k].toNat:Int)) (by simp[Lib.byteCells,hk])
  exact⟨b,off,rfl,dI w _ this,this⟩
theorem Dz {l:az} {a k:Nat}:((Lib.byteCells l).take k).drop a=Lib.byteCells ((l.take k).drop a):=by simp[Lib.byteCells,List.map_take,List.map_drop]
theorem uB:Tryz.prog.underlying 25=some (.slice (Tryz.prog.elem 25)):=by kernel_rfl
theorem szB (W:World):(sizeOf (Tryz.prog.elem 25)).run Tryz.prog W= .ok 1 W:=by
 rw[show Tryz.prog.elem 25=5 by kernel_rfl]
 simp[go_sem]
theorem QV:iQ Tryz.prog 25 5 (.int .u8 0) 1 1:=⟨Tryz.underlying25,by kernel_rfl,rfl,by omega⟩
end Go.Proofs.YthllkbbbapgelaaGreatDoor.Bk
end

/-
  Texts of this claim, packed by a program: DQ DR DS DT DU DW DV DX DY DZ EA EB EE.
-/
import Derived.WalkKit
import Derived.WalkLawsBesides
import Derived.WalkSpells
import Derived.Outline
import Derived.Handy
import Derived.KernelRfl
import Derived.Lib.Hide
import Derived.Deep.Cut
import Derived.Lib.AtoiAllCases
import Derived.Lib.SplitLaws
import Derived.Lib.IndexBytes
import Derived.Defers
import Derived.Recover
import Derived.Laws.Pointers
import Derived.Laws.Tables
import Derived.Lib.Builder
import Derived.Lib.AppendStr
import Derived.Lib.UnsafeStr
import Derived.Laws.Externs
import Derived.Test.YthbpmepjmebolaaGreatDoorPS13
set_option maxHeartbeats 8000000
set_option maxRecDepth 100000
set_option linter.all false
section
namespace Go.Proofs.YthbpmepjmebolaaGreatDoor.Bk
open Go.RowKit Go.RG Go.SL Go.Shelf ji Go.TB Go.Proofs.YthbpmepjmebolaaGreatDoor.yR
def CQ (s:jI) (V:SV) (n:Nat) (kc:List Value):List Row:=
 [⟨118,5,V.wF,s.led.field.ax.length,dJ s.led.field.ax⟩,⟨120,3,V.TR,s.led.notes.length,aX s.led.notes⟩,
   ⟨34,2,V.bV,s.heap.bV.length,aF s.heap.bV⟩,⟨3,1,V.Ef,s.heap.turns.length,ah s.heap.turns⟩,⟨122,3,V.MO,s.heap.readings.length,aX s.heap.readings⟩,
   ⟨112,2,V.hps,s.df.heaps.length,aF s.df.heaps⟩,⟨36,1,V.cks,n,kc⟩,⟨124,4,V.trs,s.df.aJ.length,gG s.df.aJ⟩]
theorem UW (s:jI) (V:SV) (es:List KE):iH s V es=CQ s V es.length (eQ es)++es.map yM:=rfl
theorem UU (s:jI) (V:SV) (n:Nat) (kc kc':List Value) (X:List Row):(CQ s V n kc++X).set 6 ⟨36,1,V.cks,n,kc'⟩=CQ s V n kc'++X:=rfl
theorem BH (s:jI) (V:SV) (n:Nat) (kc:List Value) (X:List Row):(CQ s V n kc++X)[6]? =some ⟨36,1,V.cks,n,kc⟩:=rfl
theorem IZ {w:World} {N:Nat} {t:TypeId} {size:Nat} {v:Value} {n:Nat} {xs:List Value} (h:w.ownsRow N t size v n xs) {g:Nat} (hg:v.ownBlock=some g): ∃cur,w.heap[g]? =some (.cells cur t (0,0)):=by
 obtain⟨h1,⟨rfl,h2⟩|⟨g',c,cs,rfl,hb,hc,h3⟩⟩:=h
 ·cases hg
 ·cases hg;exact⟨cs,hc⟩
theorem wQ.Yt {N:Nat} {w:World} {bx:Nat} {R:List Row} (hbx:bx<w.heap.size) (hN:N<=bx) (hown: ∀r∈R,w.ownsRow (bx+1) r.t r.size r.v r.n r.xs) (hnd:(R.map (·.t)).Nodup):wQ N w bx R where
 own i r hr:=cu (hown r (mO hr)) (by omega)
 apart i j a b ha hb hij:=by
  rcases hq:a.v.ownBlock with _|g
  ·exact .inl rfl
  ·refine .inr fun e=>?_
   obtain⟨c1,h1⟩:=IZ (hown a (mO ha)) hq
   obtain⟨c2,h2⟩:=IZ (hown b (mO hb)) e.symm
   rw[h1] at h2
   have ht:a.t=b.t:=by injection h2 with h2;injection h2
   refine hij ((List.getElem?_inj (i:=i) (j:=j) (by simpa using(jg.1 ha).1:i<(R.map (·.t)).length) hnd).1 ?_)
   rw[qf,qf,ha,hb,Option.map_some,Option.map_some,ht]
 off i r hr e:=by
  have:=((hown r (mO hr)).lt bx e).1
  omega
 lt:=hbx
 base:=hN
theorem wQ.move {N:Nat} {w W:World} {bx wb:Nat} {R:List Row} (h:wQ N w bx R) (hE:Ext [] w W) (hwb:w.heap.size<=wb) (hlt:wb<W.heap.size):wQ N W wb R where
 own i r hr:=aB (h.own i r hr) hE (by simp)
 apart:=h.apart
 off i r hr e:=by have:=((h.own i r hr).lt wb e).2;omega
 lt:=hlt
 base:=by have:=h.base;have:=h.lt;omega
theorem aa6 {w:World} {v:Value} {es:List KE} (h:wR w v es): ∀u∈eQ es,u.oneCell'=true:=by
 intro u hu
 obtain⟨e,he,rfl⟩:=iW.1 hu
 obtain⟨o,c,hv⟩:=aP.open (h.2 e he)
 rw[hv];rfl
theorem Eu (s:jI) (V:SV) (es:List KE) (w:World) (hS:oZ w s V es) (hG:Good s):Calls Tryz.prog 114 #[.agg (dL s V)] w
 (fun e w'=>Below w.heap.size w w'/\ ∃wb V' es',e= .returned (.pointer (some ⟨wb,0,none⟩))/\jO w.heap.size w' wb s V' es'):=by
 obtain⟨vt,vn,vw,vu,vr,vh,vk,vs⟩:=V
 have HS:Hid (∀W,Below w.heap.size w W->oZ W s ⟨vt,vn,vw,vu,vr,vh,vk,vs⟩ es):=ae (fun W hb=>hS.below hb (ai _))
 have hek:es.length=s.df.aU.length:=hS.df.len
 have jo:=ae (aa6 hS.df.aU)
 have HG:=ae hG
 have hl5:=hG.D7
 have hn5:=hG.notes
 have hw5:=hG.UE
 have KJ:=hG.reads
 have hh3:=hG.SB
 have hk3:=hG.aU
 have ht5:=hG.aJ
 have hu5:s.heap.turns.length<=5:=by obtain⟨p,hp⟩:=hG.turns;rw[hp];exact BN p
 have hke:es.length<=3:=by omega
 have hwl:s.heap.bV.length<=5:=by omega
 have HEK:=ae hek
 clear hS hG hek hw5
 go_enter Tryz.func114,Tryz.ntmps114
 go_wp2_with fail
 refine dQ fun W1 hW1=>?_
 have hb1:W1.heap[w.heap.size]? =some (.cells (dL s ⟨vt,vn,vw,vu,vr,vh,vk,vs⟩) 46 (0,0)):=by rw[hW1];exact ay _ _
 have HB1:=ae (show Below w.heap.size w W1 from by rw[hW1];exact aj (aG _ _) _)
 have hsz1:w.heap.size<W1.heap.size:=(aT.1 hb1).1
 obtain⟨c1,f1,l1⟩:=af hb1
 have XD:=ae hb1
 clear hW1 hb1
 refine RX.gm (fun _ _=>False) 10 [] none [(5,⟨fun _ v=> ∃o c,v= .slice o s.led.field.ax.length c,fun _ v Wx=>Wx.ownsRow W1.heap.size 118 5 v s.led.field.ax.length (dJ s.led.field.ax)⟩),(9,⟨fun _ v=> ∃o c,v= .slice o s.led.notes.length c,fun _ v Wx=>Wx.ownsRow W1.heap.size 120 3 v s.led.notes.length (aX s.led.notes)⟩)] (by rintro ps a1 Wx hdf h;exact h.elim) (by as_aux_lemma=>kernel_rfl) (by as_aux_lemma=>kernel_rfl) ?_
 simp only[zt]
 repeat (refine RX.zd ?_;simp only[zp])
 refine RX.bF _ (by rfl) (by rfl) (by exact⟨.slice none (s.led.field.ax.length) 0,none,0,rfl⟩) (fun Wq hE hF=>?_) (fun v Wa Wb ho hE=>?_) (fun v hv=>?_)
 ·have hE':Ext [] W1 Wq:=hE
  refine RX.dn 199 #[vt] (by go_simp;try rfl) ?_
  refine(Le (s.led.field.ax.length) (dJ s.led.field.ax) vt Wq (HS.o Wq (bg HB1.o hE'.below)).wF (CW _) (by omega)).mono ?_
  rintro e w' ⟨v',rfl,ho,hb⟩
  exact .inl ⟨_,rfl,aS ho,cu ho hE'.size,Ext.az hb⟩
 ·exact aB (Ms:=[]) ho hE (by simp)
 obtain⟨CX,Dv,rfl⟩:=hv
 simp only[zp]
 repeat (refine RX.zd ?_;simp only[zp])
 refine RX.bF _ (by rfl) (by rfl) (by exact⟨.slice none (s.led.notes.length) 0,none,0,rfl⟩) (fun Wq hE hF=>?_) (fun v Wa Wb ho hE=>?_) (fun v hv=>?_)
 ·have hE':Ext [] W1 Wq:=hE
  refine RX.dn 200 #[vn] (by go_simp;try rfl) ?_
  refine(Ie (s.led.notes.length) (aX s.led.notes) vn Wq (HS.o Wq (bg HB1.o hE'.below)).TR (uj _) (by omega)).mono ?_
  rintro e w' ⟨v',rfl,ho,hb⟩
  exact .inl ⟨_,rfl,aS ho,cu ho hE'.size,Ext.az hb⟩
 ·exact aB (Ms:=[]) ho hE (by simp)
 obtain⟨CY,Dw,rfl⟩:=hv
 simp only[zp]
 repeat (refine RX.zd ?_;simp only[zp])
 intro Wt hE hF
 have Za:Wt.ownsRow W1.heap.size 120 3 (.slice CY s.led.notes.length Dw) s.led.notes.length (aX s.led.notes):=hF _ (bD _)
 have Y8:Wt.ownsRow W1.heap.size 118 5 (.slice CX s.led.field.ax.length Dv) s.led.field.ax.length (dJ s.led.field.ax):=hF _ (ng _ (bD _))
 have hE':Ext [] W1 Wt:=hE
 have HBt:=ae (bg HB1.o hE'.below)
 have hbt:=(hE'.block _ l1 (by simp)).trans XD.o
 have HKt:=ae hbt
 have Xx:=ae hE'
 obtain⟨ct,ft,lt⟩:=af hbt
 clear hE hF hE' hbt c1 f1
 have zT:=ae Y8
 have zU:=ae Za
 clear Y8 Za
 go_upto_region 3 with(fail)
 refine dQ fun W2 pR=>?_
 have hbk:W2.heap[w.heap.size]? =some (.cells (dL s ⟨.slice CX s.led.field.ax.length Dv,.slice CY s.led.notes.length Dw,vw,vu,vr,vh,vk,vs⟩) 46 (0,0)):=by rw[pR];exact aI (aI (HKt.o) _) _
 have HB2:=ae (show Below w.heap.size w W2 from by rw[pR];exact((HBt.o).setCell (ai _) _).setCell (ai _) _)
 have hEs:Ext [w.heap.size] Wt W2:=by rw[pR];exact(gq).trans gq
 have zT:=ae (cu (base:=W1.heap.size) (aB (Ms:=[w.heap.size]) zT.o hEs (by simp;exact hsz1)) (ai _))
 have zU:=ae (cu (base:=W1.heap.size) (aB (Ms:=[w.heap.size]) zU.o hEs (by simp;exact hsz1)) (ai _))
 have hsz2:W1.heap.size<=W2.heap.size:=by have:=hEs.size;have:=Xx.o.size;omega
 obtain⟨c2,f2,l2⟩:=af hbk
 have HK2:=ae hbk
 clear pR hbk hEs ct ft
 refine RX.gm (fun _ _=>False) 12 [] none [(3,⟨fun _ v=> ∃o c,v= .slice o s.heap.bV.length c,fun _ v Wx=>Wx.ownsRow W2.heap.size 34 2 v s.heap.bV.length (aF s.heap.bV)⟩),(7,⟨fun _ v=> ∃o c,v= .slice o s.heap.turns.length c,fun _ v Wx=>Wx.ownsRow W2.heap.size 3 1 v s.heap.turns.length (ah s.heap.turns)⟩),(11,⟨fun _ v=> ∃o c,v= .slice o s.heap.readings.length c,fun _ v Wx=>Wx.ownsRow W2.heap.size 122 3 v s.heap.readings.length (aX s.heap.readings)⟩)] (by rintro ps a1 Wx hdf h;exact h.elim) (by as_aux_lemma=>kernel_rfl) (by as_aux_lemma=>kernel_rfl) ?_
 simp only[zt]
 repeat (refine RX.zd ?_;simp only[zp])
 refine RX.bF _ (by rfl) (by rfl) (by exact⟨.slice none (s.heap.bV.length) 0,none,0,rfl⟩) (fun Wq hE hF=>?_) (fun v Wa Wb ho hE=>?_) (fun v hv=>?_)
 ·have hE':Ext [] W2 Wq:=hE
  refine RX.dn 201 #[vw] (by go_simp;try rfl) ?_
  refine(Lc (s.heap.bV.length) (aF s.heap.bV) vw Wq (HS.o Wq (bg HB2.o hE'.below)).bV (og _) (by omega)).mono ?_
  rintro e w' ⟨v',rfl,ho,hb⟩
  exact .inl ⟨_,rfl,aS ho,cu ho hE'.size,Ext.az hb⟩
 ·exact aB (Ms:=[]) ho hE (by simp)
 obtain⟨Fb,Gx,rfl⟩:=hv
 simp only[zp]
 repeat (refine RX.zd ?_;simp only[zp])
 refine RX.bF _ (by rfl) (by rfl) (by exact⟨.slice none (s.heap.turns.length) 0,none,0,rfl⟩) (fun Wq hE hF=>?_) (fun v Wa Wb ho hE=>?_) (fun v hv=>?_)
 ·have hE':Ext [] W2 Wq:=hE
  refine RX.dn 98 #[vu] (by go_simp;try rfl) ?_
  refine(Bc (s.heap.turns.length) (ah s.heap.turns) vu Wq (HS.o Wq (bg HB2.o hE'.below)).Ef (jc _) (by omega)).mono ?_
  rintro e w' ⟨v',rfl,ho,hb⟩
  exact .inl ⟨_,rfl,aS ho,cu ho hE'.size,Ext.az hb⟩
 ·exact aB (Ms:=[]) ho hE (by simp)
 obtain⟨Fe,Gy,rfl⟩:=hv
 simp only[zp]
 repeat (refine RX.zd ?_;simp only[zp])
 refine RX.bF _ (by rfl) (by rfl) (by exact⟨.slice none (s.heap.readings.length) 0,none,0,rfl⟩) (fun Wq hE hF=>?_) (fun v Wa Wb ho hE=>?_) (fun v hv=>?_)
 ·have hE':Ext [] W2 Wq:=hE
  refine RX.dn 202 #[vr] (by go_simp;try rfl) ?_
  refine(Ic (s.heap.readings.length) (aX s.heap.readings) vr Wq (HS.o Wq (bg HB2.o hE'.below)).MO (uj _) (by omega)).mono ?_
  rintro e w' ⟨v',rfl,ho,hb⟩
  exact .inl ⟨_,rfl,aS ho,cu ho hE'.size,Ext.az hb⟩
 ·exact aB (Ms:=[]) ho hE (by simp)
 obtain⟨Ff,Gz,rfl⟩:=hv
 simp only[zp]
 repeat (refine RX.zd ?_;simp only[zp])
 intro Wt hE hF
 have Y9:Wt.ownsRow W2.heap.size 122 3 (.slice Ff s.heap.readings.length Gz) s.heap.readings.length (aX s.heap.readings):=hF _ (bD _)
 have Y6:Wt.ownsRow W2.heap.size 3 1 (.slice Fe s.heap.turns.length Gy) s.heap.turns.length (ah s.heap.turns):=hF _ (ng _ (bD _))
 have Y5:Wt.ownsRow W2.heap.size 34 2 (.slice Fb s.heap.bV.length Gx) s.heap.bV.length (aF s.heap.bV):=hF _ (ng _ (ng _ (bD _)))
 have hE':Ext [] W2 Wt:=hE
 have HBt:=ae (bg HB2.o hE'.below)
 have hbt:=(hE'.block _ l2 (by simp)).trans HK2.o
 have HKt:=ae hbt
 have Xx:=ae hE'
 obtain⟨ct,ft,lt⟩:=af hbt
 clear hE hF hE' hbt c2 f2
 have GV:=ae Y5
 have GX:=ae Y6
 have GY:=ae Y9
 clear Y5 Y6 Y9
 go_upto_region 4 with(fail)
 refine dQ fun W3 pR=>?_
 have hbk:W3.heap[w.heap.size]? =some (.cells (dL s ⟨.slice CX s.led.field.ax.length Dv,.slice CY s.led.notes.length Dw,.slice Fb s.heap.bV.length Gx,.slice Fe s.heap.turns.length Gy,.slice Ff s.heap.readings.length Gz,vh,vk,vs⟩) 46 (0,0)):=by rw[pR];exact aI (aI (aI (HKt.o) _) _) _
 have HB3:=ae (show Below w.heap.size w W3 from by rw[pR];exact(((HBt.o).setCell (ai _) _).setCell (ai _) _).setCell (ai _) _)
 have hEs:Ext [w.heap.size] Wt W3:=by rw[pR];exact((gq).trans gq).trans gq
 have zT:=ae (aB (Ms:=[w.heap.size]) (aB (Ms:=[]) zT.o Xx.o (by simp)) hEs (by simp;exact hsz1))
 have zU:=ae (aB (Ms:=[w.heap.size]) (aB (Ms:=[]) zU.o Xx.o (by simp)) hEs (by simp;exact hsz1))
 have GV:=ae (cu (base:=W1.heap.size) (aB (Ms:=[w.heap.size]) GV.o hEs (by simp;omega)) (by omega))
 have GX:=ae (cu (base:=W1.heap.size) (aB (Ms:=[w.heap.size]) GX.o hEs (by simp;omega)) (by omega))
 have GY:=ae (cu (base:=W1.heap.size) (aB (Ms:=[w.heap.size]) GY.o hEs (by simp;omega)) (by omega))
 have hsz3:W1.heap.size<=W3.heap.size:=by have:=hEs.size;have:=Xx.o.size;omega
 obtain⟨c3,f3,l3⟩:=af hbk
 have Xl:=ae hbk
 clear pR hbk hEs ct ft
 refine RX.gm (fun _ _=>False) 12 [] none [(3,⟨fun _ v=> ∃o c,v= .slice o s.df.heaps.length c,fun _ v Wx=>Wx.ownsRow W3.heap.size 112 2 v s.df.heaps.length (aF s.df.heaps)⟩),(7,⟨fun _ v=> ∃o c,v= .slice o es.length c,fun _ v Wx=>Wx.ownsRow W3.heap.size 36 1 v es.length (eQ es)⟩),(11,⟨fun _ v=> ∃o c,v= .slice o s.df.aJ.length c,fun _ v Wx=>Wx.ownsRow W3.heap.size 124 4 v s.df.aJ.length (gG s.df.aJ)⟩)] (by rintro ps a1 Wx hdf h;exact h.elim) (by as_aux_lemma=>kernel_rfl) (by as_aux_lemma=>kernel_rfl) ?_
 simp only[zt]
 repeat (refine RX.zd ?_;simp only[zp])
 refine RX.bF _ (by rfl) (by rfl) (by exact⟨.slice none (s.df.heaps.length) 0,none,0,rfl⟩) (fun Wq hE hF=>?_) (fun v Wa Wb ho hE=>?_) (fun v hv=>?_)
 ·have hE':Ext [] W3 Wq:=hE
  refine RX.dn 203 #[vh] (by go_simp;try rfl) ?_
  refine(Lh (s.df.heaps.length) (aF s.df.heaps) vh Wq (HS.o Wq (bg HB3.o hE'.below)).df.heaps (og _) (by omega)).mono ?_
  rintro e w' ⟨v',rfl,ho,hb⟩
  exact .inl ⟨_,rfl,aS ho,cu ho hE'.size,Ext.az hb⟩
 ·exact aB (Ms:=[]) ho hE (by simp)
 obtain⟨I9,JB,rfl⟩:=hv
 simp only[zp]
 repeat (refine RX.zd ?_;simp only[zp])
 refine RX.bF _ (by rfl) (by rfl) (by exact⟨.slice none (es.length) 0,none,0,rfl⟩) (fun Wq hE hF=>?_) (fun v Wa Wb ho hE=>?_) (fun v hv=>?_)
 ·have hE':Ext [] W3 Wq:=hE
  refine RX.dn 204 #[vk] (by go_simp;try rfl) ?_
  refine(Lj (es.length) (eQ es) vk Wq (HS.o Wq (bg HB3.o hE'.below)).df.aU.1 (jo.o) (by omega)).mono ?_
  rintro e w' ⟨v',rfl,ho,hb⟩
  exact .inl ⟨_,rfl,aS ho,cu ho hE'.size,Ext.az hb⟩
 ·exact aB (Ms:=[]) ho hE (by simp)
 obtain⟨Fg,Be,rfl⟩:=hv
 simp only[zp]
 repeat (refine RX.zd ?_;simp only[zp])
 refine RX.bF _ (by rfl) (by rfl) (by exact⟨.slice none (s.df.aJ.length) 0,none,0,rfl⟩) (fun Wq hE hF=>?_) (fun v Wa Wb ho hE=>?_) (fun v hv=>?_)
 ·have hE':Ext [] W3 Wq:=hE
  refine RX.dn 205 #[vs] (by go_simp;try rfl) ?_
  refine(Ld (s.df.aJ.length) (gG s.df.aJ) vs Wq (HS.o Wq (bg HB3.o hE'.below)).df.aJ (Nh _) (by omega)).mono ?_
  rintro e w' ⟨v',rfl,ho,hb⟩
  exact .inl ⟨_,rfl,aS ho,cu ho hE'.size,Ext.az hb⟩
 ·exact aB (Ms:=[]) ho hE (by simp)
 obtain⟨I8,JA,rfl⟩:=hv
 simp only[zp]
 repeat (refine RX.zd ?_;simp only[zp])
 intro Wt hE hF
 have Y7:Wt.ownsRow W3.heap.size 124 4 (.slice I8 s.df.aJ.length JA) s.df.aJ.length (gG s.df.aJ):=hF _ (bD _)
 have Zc:Wt.ownsRow W3.heap.size 36 1 (.slice Fg es.length Be) es.length (eQ es):=hF _ (ng _ (bD _))
 have Zb:Wt.ownsRow W3.heap.size 112 2 (.slice I9 s.df.heaps.length JB) s.df.heaps.length (aF s.df.heaps):=hF _ (ng _ (ng _ (bD _)))
 have hE':Ext [] W3 Wt:=hE
 have HBt:=ae (bg HB3.o hE'.below)
 have hbt:=(hE'.block _ l3 (by simp)).trans Xl.o
 have HKt:=ae hbt
 have Xx:=ae hE'
 obtain⟨ct,ft,lt⟩:=af hbt
 clear hE hF hE' hbt c3 f3
 have Tq:=ae Zb
 have Tt:=ae Zc
 have Tn:=ae Y7
 clear Zb Zc Y7
 go_upto_region 5 with(fail)
 refine dQ fun W4 pR=>?_
 have hbk:W4.heap[w.heap.size]? =some (.cells (dL s ⟨.slice CX s.led.field.ax.length Dv,.slice CY s.led.notes.length Dw,.slice Fb s.heap.bV.length Gx,.slice Fe s.heap.turns.length Gy,.slice Ff s.heap.readings.length Gz,.slice I9 s.df.heaps.length JB,.slice Fg es.length Be,.slice I8 s.df.aJ.length JA⟩) 46 (0,0)):=by rw[pR];exact aI (aI (aI (HKt.o) _) _) _
 have HB4:=ae (show Below w.heap.size w W4 from by rw[pR];exact(((HBt.o).setCell (ai _) _).setCell (ai _) _).setCell (ai _) _)
 have hEs:Ext [w.heap.size] Wt W4:=by rw[pR];exact((gq).trans gq).trans gq
 have zT:=ae (aB (Ms:=[w.heap.size]) (aB (Ms:=[]) zT.o Xx.o (by simp)) hEs (by simp;exact hsz1))
 have zU:=ae (aB (Ms:=[w.heap.size]) (aB (Ms:=[]) zU.o Xx.o (by simp)) hEs (by simp;exact hsz1))
 have GV:=ae (aB (Ms:=[w.heap.size]) (aB (Ms:=[]) GV.o Xx.o (by simp)) hEs (by simp;exact hsz1))
 have GX:=ae (aB (Ms:=[w.heap.size]) (aB (Ms:=[]) GX.o Xx.o (by simp)) hEs (by simp;exact hsz1))
 have GY:=ae (aB (Ms:=[w.heap.size]) (aB (Ms:=[]) GY.o Xx.o (by simp)) hEs (by simp;exact hsz1))
 have Tq:=ae (cu (base:=W1.heap.size) (aB (Ms:=[w.heap.size]) Tq.o hEs (by simp;omega)) (by omega))
 have Tt:=ae (cu (base:=W1.heap.size) (aB (Ms:=[w.heap.size]) Tt.o hEs (by simp;omega)) (by omega))
 have Tn:=ae (cu (base:=W1.heap.size) (aB (Ms:=[w.heap.size]) Tn.o hEs (by simp;omega)) (by omega))
 have adA:W1.heap.size<=W4.heap.size:=by have:=hEs.size;have:=Xx.o.size;omega
 obtain⟨c4,f4,l4⟩:=af hbk
 have HK4:=ae hbk
 clear pR hbk hEs ct ft
 have hR0:wQ w.heap.size W4 w.heap.size (CQ s ⟨.slice CX s.led.field.ax.length Dv,.slice CY s.led.notes.length Dw,.slice Fb s.heap.bV.length Gx,.slice Fe s.heap.turns.length Gy,.slice Ff s.heap.readings.length Gz,.slice I9 s.df.heaps.length JB,.slice Fg es.length Be,.slice I8 s.df.aJ.length JA⟩ es.length (eQ es)):=by
  refine wQ.Yt (by have:=HB4.o.size;omega) (ai _) ?_ (by simp[CQ])
  intro r hr
  simp only[CQ,gY,List.not_mem_nil,or_false] at hr
  rcases hr with rfl|rfl|rfl|rfl|rfl|rfl|rfl|rfl
  ·exact cu zT.o (by omega)
  ·exact cu zU.o (by omega)
  ·exact cu GV.o (by omega)
  ·exact cu GX.o (by omega)
  ·exact cu GY.o (by omega)
  ·exact cu Tq.o (by omega)
  ·exact cu Tt.o (by omega)
  ·exact cu Tn.o (by omega)
 have HR0:=ae hR0
 clear hR0
 go_wp2_with fail
 go_loopw [4,5,58] (fun _ _ u wr=> ∃i:Nat,i<=es.length/\u= .int .i64 i/\Below w.heap.size w wr/\wr.heap[w.heap.size]? =some (.cells (dL s ⟨.slice CX s.led.field.ax.length Dv,.slice CY s.led.notes.length Dw,.slice Fb s.heap.bV.length Gx,.slice Fe s.heap.turns.length Gy,.slice Ff s.heap.readings.length Gz,.slice I9 s.df.heaps.length JB,.slice Fg es.length Be,.slice I8 s.df.aJ.length JA⟩) 46 (0,0))/\ ∃es':List KE,es'.length=i/\es'.map (·.2)=s.df.aU.take i/\wQ w.heap.size wr w.heap.size (CQ s ⟨.slice CX s.led.field.ax.length Dv,.slice CY s.led.notes.length Dw,.slice Fb s.heap.bV.length Gx,.slice Fe s.heap.turns.length Gy,.slice Ff s.heap.readings.length Gz,.slice I9 s.df.heaps.length JB,.slice Fg es.length Be,.slice I8 s.df.aJ.length JA⟩ es.length (eQ (es'++es.drop i))++es'.map yM)) (fun _ _ u _=>es.length-(intOf u).toNat)
 case atStart=>exact⟨0,bW _,rfl,HB4.o,HK4.o,[],rfl,rfl,by simpa using HR0.o⟩
 case round=>
  obtain⟨i,hi,rfl,hB,hbk,es',Hz,hes',hOr⟩:=hrel
  obtain⟨c5,f5,l5⟩:=af hbk
  by_cases hlt:i<es.length
  ·have hcx:=HEK.o
   obtain⟨ev,el,BP⟩: ∃ev el,es[i]? =some (ev,el):=⟨_,_,dG hlt⟩
   have hcas:s.df.aU[i]? =some el:=by rw[<-(HS.o w (aG _ _)).df.is,qf,BP];rfl
   have ajG:el.length<=3:=by have:=(HG.o.pI el (mO hcas)).1;omega
   have h6:wr.ownsRow w.heap.size 36 1 (.slice Fg es.length Be) es.length (eQ (es'++es.drop i)):=hOr.own 6 _ (BH _ _ _ _ _)
   obtain⟨gk,ajy,hgk,hfk,hkl⟩:=gU h6 (by omega)
   subst ajy
   have hgx:(eQ (es'++es.drop i))[i]? =some ev:=by
    unfold eQ
    rw[qf,nT (by omega),Hz,Nat.sub_self,List.getElem?_drop,Nat.add_zero,BP];rfl
   obtain⟨hg',eg'⟩:=jg.1 hgx
   have g6:=(hgk i hg').trans (by rw[eg'])
   have HX:=ae (ag hB (ag hbk (ag Hz (ag hes' (ag hOr (ag h6 (ag BP hcas)))))))
   have hgb:gk≠w.heap.size:=fun e=>hOr.off 6 _ (BH _ _ _ _ _) (by rw[<-e];rfl)
   clear hB hbk Hz hes' hOr h6 hgx hg' eg' hgk BP hcas hcx
   go_wp2_with fail
   refine RX.gm (fun _ _=>False) 6 [] none [(5,⟨fun _ v=> ∃o c,v= .slice o el.length c,fun _ v Wx=>Wx.ownsRow wr.heap.size 3 1 v el.length (ah el)⟩)] (by rintro ps a1 Wx hdf h;exact h.elim) (by as_aux_lemma=>kernel_rfl) (by as_aux_lemma=>kernel_rfl) ?_
   simp only[zt]
   repeat (refine RX.zd ?_;simp only[zp])
   refine RX.bF _ (by rfl) (by rfl) (by exact⟨.slice none el.length 0,none,0,rfl⟩) (fun Wq hE hF=>?_) (fun v Wa Wb ho hE=>?_) (fun v hv=>?_)
   ·have hE':Ext [] wr Wq:=hE
    refine RX.dn 98 #[ev] (by go_simp;try rfl) ?_
    refine(Bc el.length (ah el) ev Wq ((HS.o Wq (bg HX.o.1 (show Below wr.heap.size wr Wq from hE'.below))).df.aU.2 (ev,el) (mO HX.o.2.2.2.2.2.2.1)) (jc _) (by omega)).mono ?_
    rintro e w' ⟨v',rfl,ho,hb⟩
    exact .inl ⟨_,rfl,aS ho,cu ho hE'.size,Ext.az hb⟩
   ·exact aB (Ms:=[]) ho hE (by simp)
   obtain⟨o8,c8,rfl⟩:=hv
   simp only[zp]
   intro W8 hE hF
   have ql:W8.ownsRow wr.heap.size 3 1 (.slice o8 el.length c8) el.length (ah el):=hF _ (bD _)
   have gV:Ext [] wr W8:=hE
   have hbl:=(gV.block _ l5 (by simp)).trans HX.o.2.1
   obtain⟨c9,f9,l9⟩:=af hbl
   have hR1:=HX.o.2.2.2.2.1.push (yM (.slice o8 el.length c8,el)) gV (by simp) (cu ql (by have:=HX.o.1.size;omega)) (by rcases hq:(Value.slice o8 el.length c8).ownBlock with _|g;(exact .inl hq);(exact .inr ⟨g,hq,(ql.lt g hq).1⟩))
   have h68:=aB (Ms:=[]) HX.o.2.2.2.2.2.1 gV (by simp)
   obtain⟨gk',adQ,ajz,an3,anP⟩:=gU h68 (by omega)
   cases adQ
   have g7:=(gV.cell gk i hkl (by simp)).trans g6
   have H8:=ae (ag gV (ag hbl (ag hR1 h68)))
   clear hE hF ql gV hbl hR1 h68 ajz c5 f5 g6 hfk
   go_wp2_with fail
   go_roundw
   case rel=>
    refine⟨i+1,by omega,by go_num,(bg HX.o.1 H8.o.1.below).setCell (H8.o.2.2.2.lt gk rfl).1 _,((gq (W:=W8) (b:=gk) (off:=i) (v:= .slice o8 el.length c8)).block _ l9 (by simpa using fun e=>hgb e.symm)).trans H8.o.2.1,es'++[(.slice o8 el.length c8,el)],by simp[HX.o.2.2.1],?_,?_⟩
    ·rw[List.map_append,HX.o.2.2.2.1,qK,HX.o.2.2.2.2.2.2.2];rfl
    ·have hS:=lu H8.o.2.2.2 i (.slice o8 el.length c8)
     have hk2:(eQ (es'++es.drop i)).set i (.slice o8 el.length c8)=eQ (es'++[(.slice o8 el.length c8,el)]++es.drop (i+1)):=by
      unfold eQ
      rw[List.map_append,qh _ _ (by simp[HX.o.2.2.1]),lU,HX.o.2.2.1,Nat.sub_self,zQ hlt,List.map_cons,List.set_cons_zero]
      simp
     have hP:=H8.o.2.2.1.put (i:=6) (r:=⟨36,1,.slice (some ⟨gk,0,none⟩) es.length Be,es.length,eQ (es'++es.drop i)⟩) (by rw[ni];exact BH _ _ _ _ _) ⟨36,1,.slice (some ⟨gk,0,none⟩) es.length Be,es.length,eQ (es'++[(.slice o8 el.length c8,el)]++es.drop (i+1))⟩ (gq (W:=W8) (b:=gk) (off:=i) (v:= .slice o8 el.length c8)) (fun m hm=> .inr (.inr (by rw[eY.1 hm];rfl))) (by rw[hk2] at hS;exact hS) (.inl rfl)
     rw[ni,UU] at hP
     rw[List.map_append]
     exact hP
   case measure=>simp[intOf];omega
  ·obtain rfl:i=es.length:=by omega
   have HX:=ae (ag hB (ag hbk (ag Hz (ag hes' hOr))))
   clear hB hbk Hz hes' hOr
   go_upto_region 10 with(fail)
   refine wp_region_lit ?_
   refine wpList_load_row rfl _ _ rfl w.heap.size rfl _ _ _ _ HX.o.2.1 Tryz.underlying46 rfl (by kernel_rfl) ?_
   simp only[zp]
   clear c5 f5
   go_wp2_with fail
   trace_state
   go_returns
   refine⟨aj HX.o.1 _,wr.heap.size,⟨.slice CX s.led.field.ax.length Dv,.slice CY s.led.notes.length Dw,.slice Fb s.heap.bV.length Gx,.slice Fe s.heap.turns.length Gy,.slice Ff s.heap.readings.length Gz,.slice I9 s.df.heaps.length JB,.slice Fg es.length Be,.slice I8 s.df.aJ.length JA⟩,es',by simp,⟨ay _ _,?_,?_⟩⟩
   ·have h:=HX.o.2.2.2.2
    rw[List.drop_length,List.append_nil] at h
    rw[UW,HX.o.2.2.1]
    exact h.move (Ext.az (aj (aG _ _) _)) (ai _) (by simp)
   ·rw[HX.o.2.2.2.1,kC (by have:=HEK.o;omega)]
structure Env (w:World):Prop where
 pow: ∃t f,w.heap[0]? =some (.cells (Lib.pow10Tab.map fun z=>Value.int .u64 z).toArray t f)
 len: ∃m,w.cell? ⟨1,0,none⟩=some (.int .i64 m)/\1<w.heap.size
 syn: ∃tp p t f,w.heap[2]? =some (.cells #[.iface tp p] t f)
 rng: ∃tp p t f,w.heap[3]? =some (.cells #[.iface tp p] t f)
theorem Env.lts {w:World} (h:Env w):0<w.heap.size/\1<w.heap.size/\2<w.heap.size/\3<w.heap.size:=by
 obtain⟨t,f,h0⟩:=h.pow
 obtain⟨m,h1,hl⟩:=h.len
 obtain⟨tp,p,t2,f2,h2⟩:=h.syn
 obtain⟨tp3,p3,t3,f3,h3⟩:=h.rng
 exact⟨(aT.1 h0).1,hl,(aT.1 h2).1,(aT.1 h3).1⟩
theorem Env.size {w:World} (h:Env w):4<=w.heap.size:=by
 have:=h.lts
 omega
theorem Env.below {w W:World} (h:Env w) {B:Nat} (hb:Below B w W) (hB:w.heap.size<=B):Env W:=by
 have h4:=h.lts
 have hz:=hb.size
 obtain⟨t,f,h0⟩:=h.pow
 obtain⟨m,h1,hl⟩:=h.len
 obtain⟨tp,p,t2,f2,h2⟩:=h.syn
 obtain⟨tp3,p3,t3,f3,h3⟩:=h.rng
 exact⟨⟨t,f,(hb.block 0 (by omega)).trans h0⟩,⟨m,(iY (hb.block 1 (by omega))).trans h1,by omega⟩,⟨tp,p,t2,f2,(hb.block 2 (by omega)).trans h2⟩,⟨tp3,p3,t3,f3,(hb.block 3 (by omega)).trans h3⟩⟩
theorem PQ {w:World} {g:Nat} {cs:Array Value} {t:TypeId} {f:Nat×Nat} (h:w.heap[g]? =some (.cells cs t f)) {nm:String} (hn:Tryz.prog.globalNamed nm=some g):w.var? Tryz.prog nm=some cs:=by
 simp[World.var?,hn,h]
theorem Ui {w:World} (h:Env w) {nm:String} (hn:Tryz.prog.globalNamed nm=some 0):Lib.TabIs Tryz.prog w nm .u64 Lib.pow10Tab:=by
 obtain⟨t,f,h0⟩:=h.pow
 exact PQ h0 hn
abbrev fD (l:aH):ByteArray:=⟨l.toArray⟩
theorem bytesWorld_below (w:World) (t:TypeId) (s:ByteArray):Below w.heap.size w (Lib.bytesWorld w t s):=by
 unfold Lib.bytesWorld
 refine⟨rfl,rfl,rfl,?_,fun i hi=>?_⟩
 ·simp[World.freeze]
 ·have:w.heap.size≠i:=by omega
  simp[World.freeze,Array.getElem?_modify,this]
  exact heap_alloc_old _ _ hi
theorem F8 (w:World) (k:Nat) (os:Array Obj):Below w.heap.size w (Go.Sort.grow (w.drewN k) os):=by
 refine⟨rfl,rfl,rfl,by simp[Go.Sort.grow,World.drewN],fun i hi=>?_⟩
 rw[Go.Sort.heap_grow_old _ _ (by simpa [World.drewN] using hi)]
 rfl
theorem ZY (l:aH) (w:World) (hE:Env w) (hl:l.length<=1000):Calls Tryz.prog 198 #[.string (fD l)] w
 (fun e w'=>Below w.heap.size w w'/\((∃v,Lib.atoiAll l= .ok v/\e= .returned (.tuple #[iv v,.nilIface]))∨((∀v,Lib.atoiAll l≠ .ok v)/\ ∃v t p,e= .returned (.tuple #[iv v,.iface t p])))):=by
 have hs:(fD l).size=l.length:=by simp[fD,ByteArray.size]
 cases ha:Lib.atoiAll l with
 |ok v=>
  refine(Go.Proofs.Tryz.strconv_Atoi_ok (fD l) (by rw[hs];omega) v ha w).mono ?_
  rintro e w' ⟨rfl,h|⟨t,h⟩⟩
  ·subst h;exact⟨aG _ _,.inl ⟨v,rfl,rfl⟩⟩
  ·subst h;exact⟨bytesWorld_below _ _ _,.inl ⟨v,rfl,rfl⟩⟩
 |range=>
  obtain⟨tp,p,t2,f2,h2⟩:=hE.rng
  refine(Go.Proofs.Tryz.strconv_Atoi_range_var (fD l) (by rw[hs];omega) ha tp p w (PQ h2 (by kernel_rfl))).mono ?_
  rintro e w' ⟨M,rfl,h1,h2,h3⟩
  exact⟨h3,.inr ⟨(fun v h=>by cases h),_,_,_,rfl⟩⟩
 |_=>
  obtain⟨tp,p,t2,f2,h2⟩:=hE.syn
  refine(Go.Proofs.Tryz.strconv_Atoi_syntax_var (fD l) (by rw[hs];omega) ha tp p w (PQ h2 (by kernel_rfl))).mono ?_
  rintro e w' ⟨M,rfl,h1,h2,h3⟩
  exact⟨h3,.inr ⟨(fun v h=>by cases h),_,_,_,rfl⟩⟩
theorem Yy {l:aH} (h: ∀v,Lib.atoiAll l≠ .ok v):kT l=none:=by
 cases hn:kT l with
 |none=>rfl
 |some v=>
  have h4:=(Eh hn).2
  have:=Lib.atoiAll_short l (by omega)
  rw[Dx hn] at this
  exact absurd this (h v)
theorem Fj {l:aH} {v n:Int} (h:Lib.atoiAll l= .ok v) (hn:kT l=some n):v=n:=by
 have h4:=(Eh hn).2
 have:=Lib.atoiAll_short l (by omega)
 rw[Dx hn,h] at this
 injection this
def aku (l:aH) (w:World) (e:Ending) (w':World):Prop:=Below w.heap.size w w'/\ ∃v,e= .returned (.tuple #[iv v,.bool (kT l).isSome])/\ ∀n,kT l=some n->v=n
theorem QC (l:aH) (w:World) (hE:Env w) (hl:l.length<=1000):Calls Tryz.prog 113 #[.string (fD l)] w (aku l w):=by
 have hs:(fD l).size=l.length:=by simp[fD,ByteArray.size]
 have HA:=ae (ZY l w hE hl)
 have HE:=ae hE
 clear hE
 go_enter Tryz.func113,Tryz.ntmps113
 go_wp2_with fail
 refine HA.o.mono ?_
 rintro e w1 ⟨hb,⟨v,hv,rfl⟩|⟨hno,v,t,p,rfl⟩⟩
 ·have HB:=ae hb
  have HV:=ae hv
  clear hb hv
  by_cases h0:0<=v
  ·by_cases h4:l.length<=4
   ·have h5:(l.length:Int)<=4:=by omega
    go_wp2_with fail
    refine(Go.Proofs.Tryz.strconv_Itoa v (by omega) (by have:=(Lib.atoiAll_bounds HV.o).2;omega) w1 (Ui (HE.o.below HB.o (ai _)) (by kernel_rfl))).mono ?_
    rintro e w2 ⟨rfl,k,os,rfl⟩
    have HG:=ae (F8 w1 k os)
    obtain⟨w3,hw3⟩: ∃w3,w3=Go.Sort.grow (w1.drewN k) os:=⟨_,rfl⟩
    rw[<-hw3] at HG⊢
    clear hw3
    go_wp2_with fail
    go_returns
    refine⟨bg HB.o HG.o,v,?_,fun n hn=>Fj HV.o hn⟩
    by_cases he:Lib.itoa v=l
    ·rw[Nr h0 h4 he];simp[he]
    ·have hn:kT l=none:=by
      cases hn:kT l with
      |none=>rfl
      |some n=>exact absurd (Fj HV.o hn▸YU hn) he
     rw[hn]
     have:(Lib.itoa v==l)=false:=by simpa using he
     simp[this]
   ·have h5: ¬(l.length:Int)<=4:=by omega
    go_wp2_with fail
    go_returns
    refine⟨HB.o,v,?_,fun n hn=>Fj HV.o hn⟩
    have hn:kT l=none:=by
     cases hn:kT l with
     |none=>rfl
     |some n=>exact absurd (Eh hn).2 h4
    rw[hn];simp
  ·go_wp2_with fail
   go_returns
   refine⟨HB.o,v,?_,fun n hn=>Fj HV.o hn⟩
   have hn:kT l=none:=by
    cases hn:kT l with
    |none=>rfl
    |some n=>have h1:=Fj HV.o hn;have h2:=(Kr hn).1;omega
   rw[hn];simp
 ·have HB:=ae hb
  have HN:=ae (Yy hno)
  clear hb hno
  go_wp2_with fail
  go_returns
  exact⟨HB.o,v,by rw[HN.o];simp,fun n hn=>by rw[HN.o] at hn;cases hn⟩
theorem JX: ∀l:aH,Lib.splitK [32] 0 (Lib.count l [32]) l=dh l:=by
 intro l
 induction l with
 |nil=>rfl
 |cons c l ih=>
  by_cases hc:c=32
  ·subst hc
   rw[Lib.count_cons_eq,Nat.add_comm,Lib.splitK,Lib.index_one,Lib.indexByte,dh,aC rfl]
   simp[ih]
  ·rw[Lib.count_cons_ne c 32 l hc,dh,ak hc]
   cases hk:Lib.count l [32] with
   |zero=>
    rw[hk] at ih
    rw[<-ih]
    rfl
   |succ k=>
    rw[hk] at ih
    have hb:(c==32)=false:=by simpa using hc
    have hi:Lib.index l [32]≠ -1:=fun h=>by have:=Lib.count_miss h;omega
    have hge:=Lib.index_ge l [32]
    obtain⟨i,hi2⟩: ∃i:Nat,Lib.index l [32]=i:=⟨(Lib.index l [32]).toNat,by omega⟩
    have e1:(Lib.index l [32]== -1)=false:=by simpa using hi
    have hj:Lib.index (c::l) [32]=(i:Int)+1:=by
     rw[Lib.index_one,Lib.indexByte,hb, <-Lib.index_one,e1,hi2];rfl
    have e2:(Lib.index (c::l) [32]== -1)=false:=by rw[hj];simp;omega
    rw[Lib.splitK,e1] at ih
    rw[Lib.splitK,e2]
    simp only[Bool.false_eq_true,if_false,Nat.add_zero,List.length_singleton] at ih⊢
    rw[<-ih,hj,hi2]
    have h1:((i:Int)+1).toNat=i+1:=by omega
    rw[h1]
    simp
theorem CP (l:aH):(Lib.splitB ⟨#[32]⟩ 0 (Lib.countB (fD l) ⟨#[32]⟩) (fD l)).map (·.data.toList)=dh l:=by
 rw[Lib.splitB_data]
 exact JX l
abbrev dH (ps:List aH):List Value:=ps.map fun p=> .string (fD p)
abbrev iO (w:World) (v:Value) (ps:List aH):Prop:=aP 1 w v ps.length (dH ps)
theorem Ws (s:ByteArray):fD s.data.toList=s:=by cases s;simp[fD]
theorem UR (l:aH) (w:World) (hE:Env w) (hl:l.length<=1000):Calls Tryz.prog 110 #[.string (fD l),.string ⟨#[32]⟩] w
 (fun e w'=> ∃n,n=(dh l).length/\e= .returned (.slice (some ⟨w.heap.size,0,none⟩) n n)/\w'=w.alloc (.cells (dH (dh l)).toArray 9)):=by
 obtain⟨m,hm,_⟩:=hE.len
 have hs:(fD l).size=l.length:=by simp[fD,ByteArray.size]
 have hlen:=Lib.splitB_all ⟨#[32]⟩ (by decide) 0 _ (fD l) rfl
 refine(Go.Proofs.Tryz.strings_Split (fD l) ⟨#[32]⟩ m w (by rw[hs];omega) hm (by decide)).mono ?_
 rintro e w' ⟨rfl,rfl⟩
 refine⟨_,?_,rfl,?_⟩
 ·rw[<-CP,lU,hlen]
 ·rw[<-CP]
  congr 3
  unfold dH
  rw[List.map_map]
  apply List.map_congr_left
  intro x _
  simp only[Function.comp,Ws]
theorem catch_idle (x y z:Addr) (w:World):
 CallsD Tryz.prog 109 #[.pointer (some x),.pointer (some y),.pointer (some z)] .returning w fun e u' w'=>e= .returned (.tuple #[])/\u'= .returning/\w'=w:=by
 refine callsD_of_wpS Tryz.func109 rfl fun c₀ cs hu=>?_
 apply wpS_seq
 apply wpS_region
 simp[wpOpsS,go_sem,recoverD,hu,Tryz.ntmps109,Exit.thenS]
 refine wpS_of_wp ?_
 go_wp2
 cases c₀
 simp_all [bodyPostS,results,Tryz.results109]
theorem yY {P:Program} {o:Oper} {ρ:Operand->Value} {w:World} (ty:TypeId) (x:Operand) (ho:o.op= .load ty x)
 (g:Nat) (hx:ρ x= .pointer (some ⟨g,0,none⟩)) (t:TypeId) (cs:Array Value) (fr:Nat×Nat) (d:TypeDesc) (hg:w.heap[g]? =some (.cells cs t fr))
 (hu:P.underlying ty=some d) (hd:(match d with| .struct _| .array _ _=>true|_=>false)=true) (hi:(P.info? ty).map (·.size)=some cs.size):(execOp ρ o).run P w= .ok (.value (.agg cs)) w:=by
 unfold execOp
 simp only[ho,hx,Instr.loadAt,Instr.sureAddr,Sem.run_bind,Sem.run_pure,Result.andThen_ok,run_loadVar_row w g t ty cs fr d hg hu hd hi]
theorem xN {P:Program} {o:Oper} {ρ:Operand->Value} {w:World} (ty:TypeId) (x y:Operand) (ho:o.op= .store ty x y)
 (g:Nat) (cells:Array Value) (hx:ρ x= .pointer (some ⟨g,0,none⟩)) (hy:ρ y= .agg cells)
 (t:TypeId) (old:Array Value) (hg:w.heap[g]? =some (.cells old t (0,0))) (hi:(P.info? ty).map (·.size)=some cells.size)
 (hold:old.size=cells.size) (h1:cells.all (·.oneCell')=true):(execOp ρ o).run P w= .ok .skip (w.setRow g cells):=by
 unfold execOp
 simp only[ho,hx,hy,Instr.storeAt,Instr.sureAddr,Sem.run_bind,Sem.run_pure,Result.andThen_ok,run_storeVar_row w g t ty old cells hg hi hold h1]
theorem uY {P:Program} {o:Oper} {ρ:Operand->Value} {W W':World} {R:Value->World->Prop} (he:(execOp ρ o).run P W= .ok .skip W') (h:R undef W'):Does P o ρ W R:=by
 unfold Does;rw[he];exact h
theorem GI (v:Value) (w:World):(Instr.typeAssert (.iface 200 v) 20 200 true).run Tryz.prog w= .ok (.tuple #[v,.bool true]) w:=by
 have hu:Tryz.prog.underlying 200=_:=Tryz.underlying200
 simp[Instr.typeAssert,run_underlying hu,go_sem]
theorem Ih (bs ba be:Nat) (S:Array Value) (A:Array Value) (ec:Value) (code:Int) (w:World) (hS:w.heap[bs]? =some (.cells S 46 (0,0))) (hA:w.heap[ba]? =some (.cells A 46 (0,0))) (hE:w.heap[be]? =some (.cells #[ec] 52 (0,0)))
 (hsz:S.size=22) (hsa:A.size=22) (h1:bs≠ba) (h2:bs≠be) (h3:ba≠be) (hone: ∀u∈S.toList,u.oneCell'=true):
 CallsD Tryz.prog 109 #[.pointer (some ⟨bs,0,none⟩),.pointer (some ⟨ba,0,none⟩),.pointer (some ⟨be,0,none⟩)] (.panicking (jW code)) w fun e u' w'=>
  e= .returned (.tuple #[])/\u'= .panicking [{v:= .iface 200 (.agg #[iv code]),recovered:=true}]/\Ext [ba,be] w w'/\w'.heap[ba]? =some (.cells S 46 (0,0))/\w'.heap[be]? =some (.cells #[iv code] 52 (0,0)):=by
 refine callsD_of_wpS Tryz.func109 rfl fun c₀ cs hu=>?_
 apply wpS_seq
 apply wpS_region
 have hta:=GI (.agg #[iv code]) w
 obtain⟨cS,fS,lS⟩:=af hS
 obtain⟨cA,fA,lA⟩:=af hA
 obtain⟨cE,fE,lE⟩:=af hE
 simp[wpOpsS,go_sem,recoverD,hu,Tryz.ntmps109,Exit.thenS]
 refine wpS_of_wp ?_
 simp only[Array.replicate_succ,Array.replicate_zero,kZ,lg,List.nil_append,List.cons_append,sW,List.set_cons_succ,List.set_cons_zero]
 go_wp2
 refine dQ fun W1 hW1=>?_
 have k1:W1.heap[w.heap.size]? =some (.cells #[iv code] 200 (0,0)):=by rw[hW1];exact ay _ _
 have kS:W1.heap[bs]? =some (.cells S 46 (0,0)):=by rw[hW1];exact(heap_alloc_old _ _ lS).trans hS
 have kA:W1.heap[ba]? =some (.cells A 46 (0,0)):=by rw[hW1];exact(heap_alloc_old _ _ lA).trans hA
 have kE:W1.heap[be]? =some (.cells #[ec] 52 (0,0)):=by rw[hW1];exact(heap_alloc_old _ _ lE).trans hE
 have hB1:Ext [] w W1:=by rw[hW1];exact Ext.az (aj (aG _ _) _)
 have hw1:w.heap.size<W1.heap.size:=(aT.1 k1).1
 obtain⟨d1,g1,m1⟩:=af k1
 have hne1:ba≠w.heap.size:=by omega
 have hne2:w.heap.size≠ba:=by omega
 clear hW1 hta cS fS cA fA cE fE
 refine zg 4 [ba] (some 3) [(3,⟨fun _ v=>v=undef,fun _ _ Wx=>Wx.heap[ba]? =some (.cells S 46 (0,0))⟩)] ?_
 simp only[zt]
 refine iy (by rfl) (.agg S) (by rfl) (fun W hE hF=>?_) ?_
 ·have hs:=(hE.block bs (by omega) (by simpa using h1)).trans kS
  exact yY _ _ rfl bs rfl _ _ _ _ hs Tryz.underlying46 rfl (by rw[hsz];kernel_rfl)
 simp only[zp]
 repeat ((first|refine zd ?_|refine zk ?_);simp only[zp])
 refine bF _ (by rfl) (by rfl) ⟨_,rfl⟩ (fun W hE hF=>?_) (fun v Wa Wb ho hE=>?_) (fun v hv=>?_)
 ·have hE':Ext [] W1 W:=hE
  have ha:=(hE'.block ba (by omega) (by simp)).trans kA
  refine uY (W':=W.setRow ba S) (xN _ _ _ rfl ba S rfl rfl _ _ ha (by rw[hsz];kernel_rfl) (by rw[hsz,hsa]) (by rw[ny];exact fun u hu=>hone u (nR.2 hu))) ⟨rfl,setRow_heap W ba A S _ _ ha,?_⟩
  exact(show Ext [ba] W (W.setRow ba S) from fP)
 ·have hE':Ext [] Wa Wb:=hE
  have ho':Wa.heap[ba]? =some (.cells S 46 (0,0)):=ho
  exact(hE'.block ba (aT.1 ho').1 (by simp)).trans ho'
 obtain rfl:v=undef:=hv
 simp only[zp]
 intro W hE hF
 have hx:W.heap[ba]? =some (.cells S 46 (0,0)):=hF _ (bD _)
 have hE':Ext [ba] W1 W:=hE
 have he:=(hE'.block be (by omega) (by simpa using fun e=>h3 e.symm)).trans kE
 obtain⟨d2,g2,m2⟩:=af he
 have d20:=d2 0
 simp at d20
 have HX:=ae (ag hx (ag hE' he))
 clear hE hF hx hE' he d1 g1 d2
 go_wp2
 refine⟨rfl,_,rfl,.tuple #[],by simp[results,Tryz.results109],rfl,rfl,?_,?_,?_⟩
 ·exact(Ext.nil hB1).trans ((HX.o.2.1.more (by simp)).trans (gq.more (by simp)))
 ·exact(heap_setCell_other W ⟨be,0,none⟩ ba _ h3).trans HX.o.1
 ·exact aI HX.o.2.2 _
structure GZ (B:Nat) (w w':World):Prop where
 ext:ug B [] w w'
 maps: ∀(k:Nat) es cl,w.heap[k]? =some (.map es cl)->w'.heap[k]? =some (.map es cl)
theorem GZ.vI {B:Nat} {w w':World} (h:Ext [] w w'):GZ B w w':=⟨ug.vI h,fun k es cl hk=>(h.block k (aT.1 hk).1 (by simp)).trans hk⟩
theorem UX (B:Nat):GM (Ext []) (GZ B):=⟨Ext.refl [],Ext.trans,fun h k=>⟨h.ext.trans k.ext,fun i es cl hi=>k.maps i es cl (h.maps i es cl hi)⟩,GZ.vI⟩
instance (W0:World):Kept (GZ W0.heap.size) [] W0:=⟨GZ.vI,fun h=>⟨h.ext.os,h.ext.tape,h.ext.output,h.ext.size,fun k hk hm=>h.ext.block k hk hk hm⟩⟩
structure Fr (bs:Nat) (S:Array Value) (W:World):Prop where
 s:W.heap[bs]? =some (.cells S 46 (0,0))
 a: ∃A,W.heap[bs+1]? =some (.cells A 46 (0,0))/\A.size=22
 e: ∃ec,W.heap[bs+2]? =some (.cells #[ec] 52 (0,0))
theorem Fr.below {bs:Nat} {S:Array Value} {w W:World} (h:Fr bs S w) {B:Nat} (hb:Below B w W) (hB:bs+2<B):Fr bs S W:=by
 obtain⟨A,h1,h2⟩:=h.a
 obtain⟨ec,h3⟩:=h.e
 exact⟨(hb.block _ (by omega)).trans h.s,⟨A,(hb.block _ (by omega)).trans h1,h2⟩,⟨ec,(hb.block _ (by omega)).trans h3⟩⟩
theorem FM {bs:Nat} {S:Array Value} (hsz:S.size=22) (hone: ∀u∈S.toList,u.oneCell'=true) {W:World} (hF:Fr bs S W) (code:Int) (tmps:Array Value) (R:Ending->World->Prop)
 (h4:tmps.getD 4 undef= .pointer (some ⟨bs+1,0,none⟩)) (h5:tmps.getD 5 undef= .pointer (some ⟨bs+2,0,none⟩))
 (hR: ∀W',Ext [bs+1,bs+2] W W'->R (.returned (.tuple #[.agg S,iv code])) W'):
 Leaves Tryz.prog Tryz.f67 tmps R [{target:= .fn (.func 109) #[.pointer (some ⟨bs,0,none⟩),.pointer (some ⟨bs+1,0,none⟩),.pointer (some ⟨bs+2,0,none⟩)],args:= #[]}] (.panicking (jW code)) W:=by
 obtain⟨A,hA,hAs⟩:=hF.a
 obtain⟨ec,hE⟩:=hF.e
 refine leaves_cons (f:=109) (args:= #[.pointer (some ⟨bs,0,none⟩),.pointer (some ⟨bs+1,0,none⟩),.pointer (some ⟨bs+2,0,none⟩)]) (by simp) (by simp[go_sem]) ?_
 refine(Ih bs (bs+1) (bs+2) S A ec code W hF.s hA hE hsz hAs (by omega) (by omega) (by omega) hone).mono ?_
 rintro e u' w'' ⟨rfl,rfl,Uf,hA',hE'⟩
 have hr:(results Tryz.f67 tmps).run Tryz.prog w''= .ok (.tuple #[.agg S,iv code]) w'':=by
  have q1:=run_loadVar_row (P:=Tryz.prog) w'' (bs+1) 46 46 S (0,0) _ hA' Tryz.underlying46 rfl (by rw[hsz];kernel_rfl)
  obtain⟨ce,fe,le⟩:=af hE'
  have c0:=ce 0
  simp only[zS] at h4 h5
  simp[results,Tryz.results67,h4,h5,asAddr,q1]
  simp[go_sem,c0]
 show Leaves _ _ _ _ [] .returning w''
 exact⟨_,hr,hR w'' Uf⟩
theorem Ny {bs:Nat} {S':Array Value} (hsz:S'.size=22) {W:World} (hA:W.heap[bs+1]? =some (.cells S' 46 (0,0))) (hE:W.heap[bs+2]? =some (.cells #[iv 0] 52 (0,0))) (tmps:Array Value) (R:Ending->World->Prop)
 (h4:tmps.getD 4 undef= .pointer (some ⟨bs+1,0,none⟩)) (h5:tmps.getD 5 undef= .pointer (some ⟨bs+2,0,none⟩))
 (hR:R (.returned (.tuple #[.agg S',iv 0])) W):
 Leaves Tryz.prog Tryz.f67 tmps R [{target:= .fn (.func 109) #[.pointer (some ⟨bs,0,none⟩),.pointer (some ⟨bs+1,0,none⟩),.pointer (some ⟨bs+2,0,none⟩)],args:= #[]}] .returning W:=by
 refine leaves_cons (f:=109) (args:= #[.pointer (some ⟨bs,0,none⟩),.pointer (some ⟨bs+1,0,none⟩),.pointer (some ⟨bs+2,0,none⟩)]) (by simp) (by simp[go_sem]) ?_
 refine(catch_idle ⟨bs,0,none⟩ ⟨bs+1,0,none⟩ ⟨bs+2,0,none⟩ W).mono ?_
 rintro e u' w'' ⟨rfl,rfl,rfl⟩
 have hr:(results Tryz.f67 tmps).run Tryz.prog w''= .ok (.tuple #[.agg S',iv 0]) w'':=by
  have q1:=run_loadVar_row (P:=Tryz.prog) w'' (bs+1) 46 46 S' (0,0) _ hA Tryz.underlying46 rfl (by rw[hsz];kernel_rfl)
  obtain⟨ce,fe,le⟩:=af hE
  have c0:=ce 0
  simp only[zS] at h4 h5
  simp[results,Tryz.results67,h4,h5,asAddr,q1]
  simp[go_sem,c0]
 show Leaves _ _ _ _ [] .returning w''
 exact⟨_,hr,hR⟩
theorem Ry (c:jZ) (args:Array Value) (w:World):(callFunc (gB c) args).run Tryz.prog w= .ok (.enter (gB c) args) w:=by
 cases c
 ·exact enters_of Tryz.func176 (by kernel_rfl) rfl args w
 ·exact enters_of Tryz.func177 (by kernel_rfl) rfl args w
 ·exact enters_of Tryz.func178 (by kernel_rfl) rfl args w
 ·exact enters_of Tryz.func179 (by kernel_rfl) rfl args w
 ·exact enters_of Tryz.func180 (by kernel_rfl) rfl args w
 ·exact enters_of Tryz.func181 (by kernel_rfl) rfl args w
 ·exact enters_of Tryz.func182 (by kernel_rfl) rfl args w
 ·exact enters_of Tryz.func183 (by kernel_rfl) rfl args w
 ·exact enters_of Tryz.func184 (by kernel_rfl) rfl args w
 ·exact enters_of Tryz.func185 (by kernel_rfl) rfl args w
 ·exact enters_of Tryz.func186 (by kernel_rfl) rfl args w
 ·exact enters_of Tryz.func187 (by kernel_rfl) rfl args w
 ·exact enters_of Tryz.func188 (by kernel_rfl) rfl args w
 ·exact enters_of Tryz.func189 (by kernel_rfl) rfl args w
 ·exact enters_of Tryz.func190 (by kernel_rfl) rfl args w
 ·exact enters_of Tryz.func191 (by kernel_rfl) rfl args w
 ·exact enters_of Tryz.func192 (by kernel_rfl) rfl args w
 ·exact enters_of Tryz.func193 (by kernel_rfl) rfl args w
 ·exact enters_of Tryz.func194 (by kernel_rfl) rfl args w
 ·exact enters_of Tryz.func195 (by kernel_rfl) rfl args w
 ·exact enters_of Tryz.func196 (by kernel_rfl) rfl args w
theorem ab3 (c:jZ) (n:List Int) (hn:n.length=c.many) (hb: ∀x∈n,0<=x/\x<=9999) (N:Nat) (w:World) (wb:Nat) (s:jI) (V:SV) (es:List KE) (ns:Value) (hO:jO N w wb s V es) (hns:n≠[]->ru N w ns n) (hG:Good s):
 Calls Tryz.prog (gB c) #[.pointer (some ⟨wb,0,none⟩),ns] w (qN N wb (jb s c n) w):=by
 cases c
 ·have:n=[]:=jT hn
  subst this
  exact aa1 N w wb s V es ns hO hG
 ·obtain⟨a,b,rfl⟩: ∃a b,n=[a,b]:=by
   simp only[jZ.many] at hn
   match n,hn with
   |[a,b],_=>exact⟨a,b,rfl⟩
  have h:=hns (by simp)
  exact YQ N w wb s V es ns a b hO h
 ·obtain⟨a,b,d,e,f,rfl⟩: ∃a b d e f,n=[a,b,d,e,f]:=by
   simp only[jZ.many] at hn
   match n,hn with
   |[a,b,d,e,f],_=>exact⟨a,b,d,e,f,rfl⟩
  have h:=hns (by simp)
  exact yu N w wb s V es ns a b d e f hO h hG
 ·obtain⟨a,b,d,rfl⟩: ∃a b d,n=[a,b,d]:=by
   simp only[jZ.many] at hn
   match n,hn with
   |[a,b,d],_=>exact⟨a,b,d,rfl⟩
  have h:=hns (by simp)
  obtain⟨a',rfl⟩: ∃k:Nat,a=k:=⟨a.toNat,by have:=hb a (by simp);omega⟩
  exact XL N w wb s V es ns a' b d hO h
 ·obtain⟨a,rfl⟩: ∃a,n=[a]:=by
   simp only[jZ.many] at hn
   match n,hn with
   |[a],_=>exact⟨a,rfl⟩
  have h:=hns (by simp)
  obtain⟨a',rfl⟩: ∃k:Nat,a=k:=⟨a.toNat,by have:=hb a (by simp);omega⟩
  exact L8 N w wb s V es ns a' hO h hG
 ·obtain⟨a,rfl⟩: ∃a,n=[a]:=by
   simp only[jZ.many] at hn
   match n,hn with
   |[a],_=>exact⟨a,rfl⟩
  have h:=hns (by simp)
  exact Yg N w wb s V es ns a hO h
 ·obtain⟨a,b,rfl⟩: ∃a b,n=[a,b]:=by
   simp only[jZ.many] at hn
   match n,hn with
   |[a,b],_=>exact⟨a,b,rfl⟩
  have h:=hns (by simp)
  exact abY N w wb s V es ns a b hO h
 ·obtain⟨a,b,d,rfl⟩: ∃a b d,n=[a,b,d]:=by
   simp only[jZ.many] at hn
   match n,hn with
   |[a,b,d],_=>exact⟨a,b,d,rfl⟩
  have h:=hns (by simp)
  exact note_any N w wb s V es ns a b d hO h hG
 ·obtain⟨a,rfl⟩: ∃a,n=[a]:=by
   simp only[jZ.many] at hn
   match n,hn with
   |[a],_=>exact⟨a,rfl⟩
  have h:=hns (by simp)
  obtain⟨a',rfl⟩: ∃k:Nat,a=k:=⟨a.toNat,by have:=hb a (by simp);omega⟩
  exact XM N w wb s V es ns a' hO h hG
 ·obtain⟨a,b,rfl⟩: ∃a b,n=[a,b]:=by
   simp only[jZ.many] at hn
   match n,hn with
   |[a,b],_=>exact⟨a,b,rfl⟩
  have h:=hns (by simp)
  exact UN N w wb s V es ns a b hO h ((hb a (by simp)))
 ·obtain⟨a,b,d,rfl⟩: ∃a b d,n=[a,b,d]:=by
   simp only[jZ.many] at hn
   match n,hn with
   |[a,b,d],_=>exact⟨a,b,d,rfl⟩
  have h:=hns (by simp)
  obtain⟨a',rfl⟩: ∃k:Nat,a=k:=⟨a.toNat,by have:=hb a (by simp);omega⟩
  exact JM N w wb s V es ns a' b d hO h hG ((hb b (by simp)))
 ·obtain⟨a,rfl⟩: ∃a,n=[a]:=by
   simp only[jZ.many] at hn
   match n,hn with
   |[a],_=>exact⟨a,rfl⟩
  have h:=hns (by simp)
  exact XP N w wb s V es ns a hO h hG ((hb a (by simp)).1)
 ·obtain⟨a,rfl⟩: ∃a,n=[a]:=by
   simp only[jZ.many] at hn
   match n,hn with
   |[a],_=>exact⟨a,rfl⟩
  have h:=hns (by simp)
  exact PR N w wb s V es ns a hO h hG
 ·obtain⟨a,b,d,rfl⟩: ∃a b d,n=[a,b,d]:=by
   simp only[jZ.many] at hn
   match n,hn with
   |[a,b,d],_=>exact⟨a,b,d,rfl⟩
  have h:=hns (by simp)
  exact YV N w wb s V es ns a b d hO h hG
 ·obtain⟨a,rfl⟩: ∃a,n=[a]:=by
   simp only[jZ.many] at hn
   match n,hn with
   |[a],_=>exact⟨a,rfl⟩
  have h:=hns (by simp)
  obtain⟨a',rfl⟩: ∃k:Nat,a=k:=⟨a.toNat,by have:=hb a (by simp);omega⟩
  exact PS N w wb s V es ns a' hO h hG
 ·obtain⟨a,b,rfl⟩: ∃a b,n=[a,b]:=by
   simp only[jZ.many] at hn
   match n,hn with
   |[a,b],_=>exact⟨a,b,rfl⟩
  have h:=hns (by simp)
  exact Zm N w wb s V es ns a b hO h hG ((hb a (by simp)))
 ·obtain⟨a,b,d,rfl⟩: ∃a b d,n=[a,b,d]:=by
   simp only[jZ.many] at hn
   match n,hn with
   |[a,b,d],_=>exact⟨a,b,d,rfl⟩
  have h:=hns (by simp)
  obtain⟨a',rfl⟩: ∃k:Nat,a=k:=⟨a.toNat,by have:=hb a (by simp);omega⟩
  exact rQ N w wb s V es ns a' b d hO h ((hb b (by simp)))
 ·obtain⟨a,b,rfl⟩: ∃a b,n=[a,b]:=by
   simp only[jZ.many] at hn
   match n,hn with
   |[a,b],_=>exact⟨a,b,rfl⟩
  have h:=hns (by simp)
  obtain⟨a',rfl⟩: ∃k:Nat,a=k:=⟨a.toNat,by have:=hb a (by simp);omega⟩
  exact ZU N w wb s V es ns a' b hO h hG
 ·obtain⟨a,b,d,rfl⟩: ∃a b d,n=[a,b,d]:=by
   simp only[jZ.many] at hn
   match n,hn with
   |[a,b,d],_=>exact⟨a,b,d,rfl⟩
  have h:=hns (by simp)
  obtain⟨a',rfl⟩: ∃k:Nat,a=k:=⟨a.toNat,by have:=hb a (by simp);omega⟩
  obtain⟨b',rfl⟩: ∃k:Nat,b=k:=⟨b.toNat,by have:=hb b (by simp);omega⟩
  exact ZB N w wb s V es ns a' b' d hO h hG
 ·obtain⟨a,b,d,rfl⟩: ∃a b d,n=[a,b,d]:=by
   simp only[jZ.many] at hn
   match n,hn with
   |[a,b,d],_=>exact⟨a,b,d,rfl⟩
  have h:=hns (by simp)
  exact try_any N w wb s V es ns a b d hO h hG ⟨(hb a (by simp)),(hb b (by simp))⟩
 ·obtain⟨a,rfl⟩: ∃a,n=[a]:=by
   simp only[jZ.many] at hn
   match n,hn with
   |[a],_=>exact⟨a,rfl⟩
  have h:=hns (by simp)
  obtain⟨a',rfl⟩: ∃k:Nat,a=k:=⟨a.toNat,by have:=hb a (by simp);omega⟩
  exact UF N w wb s V es ns a' hO h hG
theorem UB: ∀l:aH,(dh l).length<=l.length+1:=by
 intro l
 induction l with
 |nil=>simp[dh]
 |cons c l ih=>
  rw[dh]
  split
  ·simp;omega
  ·have:=lK l
   cases h:dh l with
   |nil=>exact absurd h this
   |cons x ps=>rw[h] at ih;simp at ih⊢;omega
theorem aO {P:Program} {w w':World} {ops:Array Oper} {rest:List Oper} {o:Oper} {a:Act} {Q:Exit->Act->World->Prop} (hg:o.guard=none) (v:Value) (h:(execOp a.eval o).run P w= .ok (.value v) w') (hK:wpList P ops Q rest (a.put o.dst v) w'):wpList P ops Q (o::rest) a w:=by
 refine wpList_plain hg fun K hK'=>?_
 exact yD (R:=fun v1 w1=>v1=v/\w1=w') (iU v h ⟨rfl,rfl⟩) fun v1 w1 ⟨h1,h2⟩=>by rw[h1,h2];exact hK' _ _ hK
theorem jX {P:Program} {ops:Array Oper} {l:List Oper} {Q:Exit->Act->World->Prop} {a:Act} {W:World} (h: ∀W',W'=W->wpList P ops Q l a W'):wpList P ops Q l a W:=h W rfl
theorem LW: ∀(l:aH) (p:aH),p∈dh l->p.length<=l.length:=by
 intro l
 induction l with
 |nil=>intro p h;simp[dh] at h;subst h;simp
 |cons c l ih=>
  intro p h
  rw[dh] at h
  split at h
  ·rcases gY.1 h with rfl|h
   ·simp
   ·have:=ih p h;simp;omega
  ·cases hw:dh l with
   |nil=>exact absurd hw (lK l)
   |cons x ps=>
    rw[hw] at h
    simp only[List.headD_cons,List.tail_cons] at h
    rcases gY.1 h with rfl|h
    ·have:=ih x (by rw[hw];simp);simp;omega
    ·have:=ih p (by rw[hw];simp[h]);simp;omega
theorem Fh: ∀(ps:List aH) (p:aH) (ns:List Int) (n:Int),lD ps=some ns->kT p=some n->lD (ps++[p])=some (ns++[n]):=by
 intro ps
 induction ps with
 |nil=>intro p ns n h1 h2;obtain rfl:=jw h1;simp[lD,h2]
 |cons q ps ih=>
  intro p ns n h1 h2
  unfold lD at h1
  cases hq:kT q with
  |none=>rw[hq] at h1;cases h1
  |some x=>
   cases hs:lD ps with
   |none=>rw[hq,hs] at h1;cases h1
   |some y=>
    rw[hq,hs] at h1
    obtain rfl:=jw h1
    rw[List.cons_append,lD,hq,ih p y n hs h2]
    rfl
theorem Jb: ∀(ps:List aH) (i:Nat) (p:aH),ps[i]? =some p->kT p=none->lD ps=none:=by
 intro ps
 induction ps with
 |nil=>intro i p h;cases h
 |cons q ps ih=>
  intro i p h hn
  cases i with
  |zero=>
   simp only[List.getElem?_cons_zero,Option.some.injEq] at h
   subst h
   rw[lD,hn];rfl
  |succ i=>
   rw[lD,ih i p (by simpa using h) hn]
   cases kT q <;>rfl
def PDo (Ms:List Nat) (s:jI) (l:aH) (w:World) (e:Ending) (w':World):Prop:=
 Below w.heap.size w w'/\ ∃V es,e= .returned (.tuple #[.agg (dL (wI bH s l).1 V),iv (wI bH s l).2])/\oZ w' (wI bH s l).1 V es/\ ∀W',Ext Ms w' W'->oZ W' (wI bH s l).1 V es
theorem iR {w:World} {s:jI} {V:SV} {es:List KE} (h:oZ w s V es): ∀u∈(dL s V).toList,u.oneCell'=true:=by
 obtain⟨o1,c1,h1⟩:=aP.open h.wF
 obtain⟨o2,c2,h2⟩:=aP.open h.TR
 obtain⟨o3,c3,h3⟩:=aP.open h.bV
 obtain⟨o4,c4,h4⟩:=aP.open h.Ef
 obtain⟨o5,c5,h5⟩:=aP.open h.MO
 obtain⟨o6,c6,h6⟩:=aP.open h.df.heaps
 obtain⟨o7,c7,h7⟩:=aP.open h.df.aU.1
 obtain⟨o8,c8,h8⟩:=aP.open h.df.aJ
 simp[dL,h1,h2,h3,h4,h5,h6,h7,h8,Value.oneCell']
theorem aea (s:jI) (V:SV) (es:List KE) (l:aH) (w:World) (hS:oZ w s V es) (hG:Good s) (hE:Env w) (hl:l.length<=1000) (Ms:List Nat) (hMs: ∀m∈Ms,m<w.heap.size) (hSM: ∀W',Ext Ms w W'->oZ W' s V es):Calls Tryz.prog 67 #[.agg (dL s V),.string (fD l)] w (PDo Ms s l w):=by
 obtain⟨vt,vn,vw,vu,vr,vh,vk,vs⟩:=V
 have HS:Hid (∀W,Below w.heap.size w W->oZ W s ⟨vt,vn,vw,vu,vr,vh,vk,vs⟩ es):=ae (fun W hb=>hS.below hb (ai _))
 have HE:Hid (∀W,Below w.heap.size w W->Env W):=ae (fun W hb=>hE.below hb (ai _))
 have HG:=ae hG
 have ao1:=ae (iR hS)
 have aan:Hid (∀(code:Int),wI bH s l=(s,code)-> ∀W,Below w.heap.size w W->Fr w.heap.size (dL s ⟨vt,vn,vw,vu,vr,vh,vk,vs⟩) W-> ∀tmps:Array Value,tmps.getD 4 undef= .pointer (some ⟨w.heap.size+1,0,none⟩)->tmps.getD 5 undef= .pointer (some ⟨w.heap.size+2,0,none⟩)->
  Leaves Tryz.prog Tryz.f67 tmps (PDo Ms s l w) [{target:= .fn (.func 109) #[.pointer (some ⟨w.heap.size,0,none⟩),.pointer (some ⟨w.heap.size+1,0,none⟩),.pointer (some ⟨w.heap.size+2,0,none⟩)],args:= #[]}] (.panicking (jW code)) W):=ae (by
  intro code hd W hb hF tmps h4 h5
  refine FM rfl (iR hS) hF code tmps _ h4 h5 (fun W' Uf=>?_)
  have hb':Below w.heap.size w W':=hb.trans ⟨Uf.os,Uf.tape,Uf.output,Uf.size,fun k hk=>Uf.block k (by have:=hb.size;omega) (by simp;omega)⟩
  refine⟨hb',⟨vt,vn,vw,vu,vr,vh,vk,vs⟩,es,?_,?_,fun W'' hE'=>?_⟩
  ·rw[hd]
  ·rw[hd];exact hS.below hb' (ai _)
  ·rw[hd];exact hSM W'' ((Ext.az hb').trans hE'))
 have HMS:=ae hMs
 clear hS hE hG hMs hSM
 go_enter_defers Tryz.func67,Tryz.ntmps67
 go_upto_region 2 with(fail)
 refine dQ fun W0 hW0=>?_
 have hF0:Fr w.heap.size (dL s ⟨vt,vn,vw,vu,vr,vh,vk,vs⟩) W0:=by
  rw[hW0]
  refine⟨?_,?_,?_⟩
  ·exact(heap_alloc_old _ _ (by simp;omega)).trans ((heap_alloc_old _ _ (by simp)).trans (ay _ _))
  ·exact⟨_,(heap_alloc_old _ _ (by simp)).trans (dW _ _ _),rfl⟩
  ·exact⟨_,gZ _ _ _ _⟩
 have HB0:=ae (show Below w.heap.size w W0 from by rw[hW0];exact aj (aj (aj (aG _ _) _) _) _)
 have hs0:w.heap.size+3<=W0.heap.size:=by rw[hW0];simp
 have HF0:=ae hF0
 clear hW0 hF0
 go_wp2_with fail
 refine(UR l W0 (HE.o _ HB0.o) hl).mono ?_
 rintro e W1 ⟨np,hnp,rfl,hW1⟩
 have HB1:=ae (show Below w.heap.size w W1 from by rw[hW1];exact aj HB0.o _)
 have HF1:=ae (show Fr w.heap.size (dL s ⟨vt,vn,vw,vu,vr,vh,vk,vs⟩) W1 from by rw[hW1];exact HF0.o.below (aj (aG _ _) _) (by omega))
 have hp1:W1.heap[W0.heap.size]? =some (.cells (dH (dh l)).toArray 9 (0,0)):=by rw[hW1];exact ay _ _
 have hsz1:W1.heap.size=W0.heap.size+1:=by rw[hW1];simp
 have hsz:w.heap.size+4<=W1.heap.size:=by omega
 obtain⟨pb,hpb⟩: ∃pb,pb=W0.heap.size:=⟨_,rfl⟩
 rw[<-hpb] at hp1⊢
 have hpl:pb<W1.heap.size:=by omega
 have hpw:w.heap.size+3<=pb:=by omega
 have hn1:1<=np:=by rw[hnp];have:=lK l;cases h:dh l <;>simp_all
 have hn0:0<np:=by omega
 have hnI:(0:Int)<(np:Int):=by omega
 obtain⟨x0,ps,hws⟩: ∃x0 ps,dh l=x0::ps:=by
  cases h:dh l with
  |nil=>exact absurd h (lK l)
  |cons x ps=>exact⟨x,ps,rfl⟩
 obtain⟨c1,f1,l1⟩:=af hp1
 have g0:W1.cell? ⟨pb,0,none⟩=some (.string (fD x0)):=by rw[c1,hws];rfl
 have XA:=ae (ag hp1 (ag hnp hws))
 clear hW1 hp1 hnp hws hpb hsz1 c1 f1 hs0
 go_wp2_with fail
 refine kH (UX W1.heap.size) ((Ext.refl [] _).drew) (Ps:=(fun i _ v W=>match i with|8=> ∃b:Nat,v= .pointer (some ⟨b,0,none⟩)/\W1.heap.size<=b/\ ∃x y,W.heap[b]? =some (.cells #[x,y] 204 (0,0))|_=>True)) 10 (some 9)
  [(0,⟨fun _ v=> ∃mb,v= .map (some mb),fun _ v W=> ∃mb,v= .map (some mb)/\TabAt UL wev (fun _=>True) W mb P8⟩),(8,⟨fun _ v=> ∃b:Nat,v= .pointer (some ⟨b,0,none⟩),fun _ _ _=>True⟩),
    (9,⟨fun _ v=>v=undef,fun xs _ W=> ∃(b:Nat) (x y:Value),xs=[.pointer (some ⟨b,0,none⟩),.agg #[x,y]]/\W1.heap.size<=b/\W.heap[b]? =some (.cells #[x,y] 204 (0,0))⟩)] (by as_aux_lemma=>kernel_rfl) (by as_aux_lemma=>kernel_rfl) ?_
 simp only[zt]
 refine kJ _ (by rfl) (by rfl) (by exact⟨.map (some 0),0,rfl⟩) (fun Wa hE hF hG=>?_) (fun v Wa Wb ho hE=>?_) (fun _ _ _ _ _=>trivial) (fun v hv=>?_)
 ·have hE':GZ W1.heap.size W1 Wa:=hE
  refine dn 111 #[] (by go_simp;try rfl) ?_
  refine(UC Wa).mono ?_
  rintro e w' ⟨mb,rfl,h1,h2,h3⟩
  exact⟨_,rfl,⟨mb,rfl⟩,⟨mb,rfl,h2⟩,Ext.az h3,trivial⟩
 ·obtain⟨mb,hv,ht⟩:=ho
  have hE':GZ W1.heap.size Wa Wb:=hE
  obtain⟨h0,es',cl,hm,hx⟩:=ht
  exact⟨mb,hv,h0,es',cl,hE'.maps _ _ _ hm,hx⟩
 obtain⟨mb,rfl⟩:=hv
 simp only[zp]
 repeat ((first|refine zd ?_|refine zk ?_);simp only[zp])
 have hm:Tryz.prog.underlying 206=some (.map 9 204):=by kernel_rfl
 have hz:=fun w=>Tryz.zeroValue204 w
 obtain⟨n1,fv,bq,hT1,hone,hcase⟩: ∃(n1:Int) (fv:Value) (bq:Bool),Value.tuple #[((TB.look (fD x0) P8).map wev).getD (.agg #[iv 0,.nilFunc]),.bool (TB.look (fD x0) P8).isSome]= .tuple #[.agg #[iv n1,fv],.bool bq]/\fv.oneCell'=true/\
  ((sQ x0=none/\bq=false/\n1=0)∨ ∃c,sQ x0=some c/\bq=true/\n1=c.many/\fv= .func (.func (gB c)) #[] #[]):=by
  rw[YN]
  have hx:(fD x0).data.toList=x0:=by simp[fD]
  rw[hx]
  cases hc:sQ x0 with
  |none=>exact⟨0,.nilFunc,false,rfl,rfl,.inl ⟨rfl,rfl,rfl⟩⟩
  |some c=>exact⟨c.many,.func (.func (gB c)) #[] #[],true,rfl,rfl,.inr ⟨c,rfl,rfl,rfl,rfl⟩⟩
 have hlk: ∀(W:World),TabAt UL wev (fun _=>True) W mb P8->(Instr.lookup 206 (.map (some mb)) (.string (fD x0)) true).run Tryz.prog W= .ok (.tuple #[.agg #[iv n1,fv],.bool bq]) W:=fun W hT=>by
  have:=uU tJ hm hz hT (fD x0) trivial true W rfl
  rw[aC rfl] at this
  rw[this]
  exact congrArg (fun q=>Result.ok q W) hT1
 have LH:=ae hlk
 have HC:=ae hcase
 clear hlk hm hT1 hcase hz
 refine iy (by rfl) (.tuple #[.agg #[iv n1,fv],.bool bq]) (by rfl) (fun W hE hF=>?_) ?_
 ·obtain⟨mb',hmb,hT⟩:=hF _ (bD _) (by kernel_rfl)
  cases hmb
  have:=LH.o W hT
  go_simp
 simp only[zp]
 repeat ((first|refine zd ?_|refine zk ?_);simp only[zp])
 refine kJ _ (by rfl) (by rfl) (by exact⟨.pointer (some ⟨0,0,none⟩),0,rfl⟩) (fun Wa hE hF hG=>?_) (fun _ _ _ _ _=>trivial) (fun v Wa Wb ho hE=>?_) (fun v hv=>?_)
 ·have hE':GZ W1.heap.size W1 Wa:=hE
  exact iU (W':=Wa.alloc (.cells #[iv 0,.nilFunc] 204)) (.pointer (some ⟨Wa.heap.size,0,none⟩)) (by go_simp;try rfl) ⟨⟨_,rfl⟩,trivial,Ext.az ((aG _ _).alloc (ai _) _),_,rfl,hE'.ext.size,_,_,heap_alloc_new _ _⟩
 ·obtain⟨b,hb,hge,x,y,hc⟩:=ho
  exact⟨b,hb,hge,x,y,(hE.block b (aT.1 hc).1 (by simp)).trans hc⟩
 obtain⟨b8,rfl⟩:=hv
 simp only[zp]
 refine kJ _ (by rfl) (by rfl) (by exact⟨_,rfl⟩) (fun Wa hE hF hG=>?_) (fun v Wa Wb ho hE=>?_) (fun _ _ _ _ _=>trivial) (fun v hv=>?_)
 ·obtain⟨b,hb,hge,x,y,hc⟩:=hG rfl _ (bD _) (by kernel_rfl)
  cases hb
  refine uY (W':=Wa.setRow b8 #[iv n1,fv]) ?_ ⟨rfl,⟨b8,iv n1,fv,rfl,hge,setRow_heap Wa b8 _ _ _ _ hc⟩,?_,trivial⟩
  ·exact xN _ _ _ rfl b8 #[iv n1,fv] rfl rfl _ _ hc (by kernel_rfl) rfl (by rw[ny];intro u hu;simp only[List.mem_toArray,gY,List.not_mem_nil,or_false] at hu;rcases hu with rfl|rfl;(exact rfl);(exact hone))
  ·exact(show GZ W1.heap.size Wa (Wa.setRow b8 #[iv n1,fv]) from⟨⟨rfl,rfl,rfl,by simp,fun k _ hkB _=>setRow_other _ _ _ _ (by omega)⟩,fun k es' cl hk=>by
    have hne:k≠b8:=fun e=>by subst e;rw[hc] at hk;cases hk
    exact(setRow_other _ _ _ _ hne).trans hk⟩)
 ·obtain⟨b,x,y,h1,h2,h3⟩:=ho
  have hE':Ext [] Wa Wb:=hE
  exact⟨b,x,y,h1,h2,(hE'.block b (aT.1 h3).1 (by simp)).trans h3⟩
 obtain rfl:v=undef:=hv
 simp only[zp]
 intro W2 hE2 hF2
 obtain⟨b8',x8,y8,hx8,anZ,hb8⟩:=hF2 _ (bD _)
 have VQ:GZ W1.heap.size W1 W2:=hE2
 obtain⟨rfl,rfl,rfl⟩:b8'=b8/\x8=iv n1/\y8=fv:=by
  have h:=(show[Value.pointer (some ⟨b8,0,none⟩),.agg #[iv n1,fv]]=[.pointer (some ⟨b8',0,none⟩),.agg #[x8,y8]] from hx8)
  simp at h
  exact⟨h.1.symm,h.2.1.symm,h.2.2.symm⟩
 have wP:Below W1.heap.size W1 W2:=⟨VQ.ext.os,VQ.ext.tape,VQ.ext.output,VQ.ext.size,fun k hk=>VQ.ext.block k hk hk (by simp)⟩
 have HB2:=ae (bg HB1.o wP)
 have HF2:=ae (HF1.o.below wP (by omega))
 have hp2:=(wP.block pb hpl).trans XA.o.1
 have hs2:=wP.size
 have HP2:=ae (ag hp2 hb8)
 obtain⟨c2,f2,l2⟩:=af hb8
 have hone':=ae hone
 clear hE2 hF2 hx8 VQ wP hp2 hb8 hone g0
 rcases HC.o with⟨hc0,hbq,VE⟩|⟨c,hc0,hbq,VE,hfv⟩
 ·subst hbq
  have hd:wI bH s l=(s,4):=Ba (by unfold pJ;rw[XA.o.2.2];simp[hc0])
  have HD:=ae hd
  clear hd
  go_wp2_with fail
  refine(dV 4 [true] W2 (by simp) _ (by simp[dE]) _ _ rfl).mono ?_
  rintro e W3 ⟨hb,⟨hc,rfl⟩|⟨hc,rfl⟩⟩
  ·exact absurd hc (by decide)
  ·exact aan.o 4 HD.o W3 (bg HB2.o hb) (HF2.o.below hb (by omega)) _ rfl rfl
 ·subst hbq
  subst VE
  subst hfv
  have af1:np=ps.length+1:=by rw[XA.o.2.1,XA.o.2.2];rfl
  have anB:(np:Int)<=1001:=by have:=UB l;rw[<-XA.o.2.1] at this;omega
  have HNP:=ae af1
  clear af1
  go_wp2_with fail
  refine(dV 4 [(np:Int)-1 !=c.many] W2 (by simp) _ (by simp[dE]) _ _ rfl).mono ?_
  rintro e W3 ⟨hb,⟨hc,rfl⟩|⟨hc,rfl⟩⟩
  rotate_left
  ·have hd:wI bH s l=(s,4):=Ba (by
    unfold pJ
    rw[XA.o.2.2,List.headD_cons,hc0,Option.bind_some,List.tail_cons,ak]
    intro e
    have:=HNP.o
    simp at hc
    omega)
   exact aan.o 4 hd W3 (bg HB2.o hb) (HF2.o.below hb (by omega)) _ rfl rfl
  have hcm:ps.length=c.many:=by
   have:=HNP.o
   simp at hc
   omega
  have HB3:=ae (bg HB2.o hb)
  have HF3:=ae (HF2.o.below hb (by omega))
  have hp3:=(hb.block pb (by omega)).trans HP2.o.1
  have agI:=(hb.block b8' l2).trans HP2.o.2
  have ajb:pb<W3.heap.size:=(aT.1 hp3).1
  obtain⟨off,hA⟩: ∃off,(if np=1 then(some ⟨pb,0,none⟩:Option Addr) else some ⟨pb,1,none⟩)=some ⟨pb,off,none⟩:=by split <;>exact⟨_,rfl⟩
  have hoff: ∀i,i<ps.length->off=1:=fun i hi=>by
   have:=HNP.o
   rw[ak (by omega)] at hA
   injection hA with h;injection h with _ h2 _;exact h2.symm
  have HO:=ae (ag hoff hcm)
  have HP3:=ae (ag hp3 (ag agI hc0))
  have hn1':(1:Int)<=(np:Int):=by omega
  clear hb hc hcm hp3 agI hoff c2 f2 hc0
  go_wp2_with fail
  have HN0:Hid (lD []=some []):=ae rfl
  go_loopw [9,11,12,13,41] (fun v9 _ _ _ u wr=> ∃i:Nat,i<=ps.length/\u= .int .i64 i/\Below W3.heap.size W3 wr/\ ∃(ns:List Int) (o:Option Addr) (c9:Nat),lD (ps.take i)=some ns/\v9= .slice o i c9/\wr.ownsRow W3.heap.size 3 1 (.slice o i c9) i (ah ns)) (fun _ _ _ _ u _=>ps.length-(intOf u).toNat)
  case atStart=>exact⟨0,bW _,rfl,aG _ _,[],none,0,rfl,rfl,⟨rfl,.inl ⟨rfl,rfl⟩⟩⟩
  case round=>
   obtain⟨i,hi,rfl,hB,ns,o9,c9,hns,rfl,how⟩:=hrel
   have af0:=HNP.o
   by_cases hlt:i<ps.length
   ·have hlt2:(i:Int)<((np-1:Nat):Int):=by omega
    have hlt3:i<np-1:=by omega
    have hpr:=(hB.block pb ajb).trans HP3.o.1
    obtain⟨cp,fp,lp⟩:=af hpr
    have gi:wr.cell? ⟨pb,off+i,none⟩=some (.string (fD ps[i])):=by
     rw[HO.o.1 i hlt,cp,XA.o.2.2]
     simp[dH,hlt,Nat.add_comm]
    have adC:ps[i].length<=1000:=by
     have:=LW l ps[i] (by rw[XA.o.2.2];simp)
     omega
    have HNA:=ae (QC ps[i] wr (HE.o wr (bg HB3.o hB)) adC)
    have HX:=ae (ag hB (ag hns how))
    clear hB hns how cp hpr af0
    go_wp2_with fail
    refine HNA.o.mono ?_
    rintro e W4 ⟨hb4,v,rfl,hv⟩
    cases hnb:kT ps[i] with
    |none=>
     rw[hnb] at hv
     have HB4:=ae (bg HX.o.1 hb4)
     have hd:wI bH s l=(s,4):=Ba (by
      unfold pJ
      rw[XA.o.2.2,List.headD_cons,HP3.o.2.2,Option.bind_some,List.tail_cons,Jb ps i ps[i] (dG hlt) hnb]
      simp)
     have HD:=ae hd
     clear hd hb4 hv hnb HNA gi fp lp
     simp only[Option.isSome_none]
     go_wp2_with fail
     refine(dV 4 [true] W4 (by simp) _ (by simp[dE]) _ _ rfl).mono ?_
     rintro e W5 ⟨hb,⟨hc,rfl⟩|⟨hc,rfl⟩⟩
     ·exact absurd hc (by decide)
     ·exact aan.o 4 HD.o W5 (bg HB3.o (bg HB4.o hb)) (HF3.o.below (bg HB4.o hb) (by omega)) _ rfl rfl
    |some n=>
     rw[hnb] at hv
     obtain rfl:v=n:=hv n rfl
     have HB4:=ae (bg HX.o.1 hb4)
     have afW:=aB (Ms:=[]) HX.o.2.2 (Ext.az hb4) (by simp)
     have HN4:=ae hnb
     have HW4:=ae (ag afW hb4)
     clear hb4 hv hnb HNA gi fp lp afW
     simp only[Option.isSome_some]
     go_wp2_with fail
     refine(dV 4 [false] W4 (by simp) _ (by simp[dE]) _ _ rfl).mono ?_
     rintro e W5 ⟨hb,⟨hc,rfl⟩|⟨hc,rfl⟩⟩
     rotate_left
     ·exact absurd hc (by decide)
     have Y1:=aB (Ms:=[]) HW4.o.1 (Ext.az hb) (by simp)
     have pz:=ae (bg HB4.o hb)
     have HW5:=ae Y1
     have hs5:=pz.o.size
     have hi5:i<=1001:=by omega
     clear hb hc Y1
     go_wp2_with (at_builtin;go_loud (refine dZ rfl _ _ qp rfl W3.heap.size (.slice o9 i c9) i (ah ns) rfl (aB (Ms:=[]) HW5.o (Ext.az (aj (aG _ _) _)) (by simp)) (.slice (some ⟨W5.heap.size,0,none⟩) 1 1) 1 [iv v] rfl (aP.cZ 1 1 (ay _ _) rfl (by decide)) (one_one v) (by omega) (by omega) (by simp;omega) ?_))
     intro v' W6 hown hgr hN
     obtain⟨o6,c6,rfl⟩:=aS hown
     have hpu:=xZ pz.o HW5.o (Ext.az (aj (aG _ _) _)) hown hgr (ai _) pz.o.size
     have HP:=ae (ag hpu hown)
     clear hpu hown hgr hN
     go_wp2_with fail
     go_roundw
     case rel=>
      refine⟨i+1,by omega,by go_num,HP.o.1.1,ns++[v],o6,c6,?_,rfl,?_⟩
      ·rw[qK,dG hlt]
       exact Fh _ _ _ _ HX.o.2.1 HN4.o
      ·rw[uD]
       exact HP.o.2
     case measure=>simp[intOf];omega
   ·obtain rfl:i=ps.length:=by omega
    rw[List.take_length] at hns
    have hp:pJ l=some (c,ns):=by
     unfold pJ
     rw[XA.o.2.2,List.headD_cons,HP3.o.2.2,Option.bind_some,List.tail_cons,aC HO.o.2,hns]
     rfl
    have agF:=(hB.block b8' (by have:=(aT.1 HP3.o.2.1).1;omega)).trans HP3.o.2.1
    obtain⟨c8,f8,l8⟩:=af agF
    obtain⟨hwl,hnl,hnb,ajf⟩:=rZ hp
    have HX:=ae (ag hB (ag how (ag hp (ag hnl hnb))))
    have anC: ¬((ps.length:Nat):Int)<((np-1:Nat):Int):=by omega
    have alz: ¬ps.length<np-1:=by omega
    clear hB how hp hns hwl hnl hnb ajf agF af0
    go_upto_region 13 with(fail)
    have hFr:=HF3.o.below HX.o.1 (by omega)
    refine wp_region_lit ?_
    refine wpList_load_row rfl _ _ rfl w.heap.size rfl _ _ _ _ hFr.s Tryz.underlying46 rfl (by kernel_rfl) ?_
    simp only[zp]
    have HFr:=ae hFr
    have Ep:=ae (Eu s ⟨vt,vn,vw,vu,vr,vh,vk,vs⟩ es wr (HS.o wr (bg HB3.o HX.o.1)) HG.o)
    have zF:=l8
    have HC8:=ae c8
    clear hFr c8 f8
    go_wp2_with fail
    refine Ep.o.mono ?_
    rintro e W4 ⟨hb4,wb,V',es',rfl,hO4⟩
    have adI:b8'<W3.heap.size:=(aT.1 HP3.o.2.1).1
    have hsr:=HX.o.1.size
    have agH:=(hb4.block b8' (by omega)).trans ((HX.o.1.block b8' adI).trans HP3.o.2.1)
    obtain⟨c4,f4,l4⟩:=af agH
    have hns:ns≠[]->ru wr.heap.size W4 (.slice o9 ps.length c9) ns:=fun hne=>by
     have hown4:=aB (Ms:=[]) HX.o.2.1 (Ext.az hb4) (by simp)
     have hlen:ps.length=ns.length:=by rw[HX.o.2.2.2.1,HO.o.2]
     have hpos:0<ps.length:=by rw[hlen];exact List.length_pos_iff.2 hne
     obtain⟨g,rfl,hcg,hfg,hgl⟩:=gU hown4 hpos
     obtain⟨g2,hg2,aoe,_,VH⟩:=gU HX.o.2.1 hpos
     cases hg2
     refine⟨g,c9,by rw[hlen],VH,fun j hj=>?_⟩
     have:=hcg j (by simpa [ah] using hj)
     simpa [ah] using this
    have aj6:=Ry c
    have HA:=ae (ab3 c ns HX.o.2.2.2.1 HX.o.2.2.2.2 wr.heap.size W4 wb s V' es' (.slice o9 ps.length c9) hO4 hns HG.o)
    have HB4:=ae (bg HX.o.1 hb4)
    have Xj:=ae hO4
    clear agH hns hb4 hO4
    go_wp2_with fail
    refine HA.o.mono ?_
    rintro e W5 ⟨hb5,⟨h0,rfl,V2,es2,hO5⟩|⟨hne,rfl⟩⟩
    rotate_left
    ·have hd:wI bH s l=(s,(jb s c ns).1):=by rw[A8 HX.o.2.2.1,aC hne]
     have agM:=HB4.o.trans (hb5.mono (show W3.heap.size<=wr.heap.size from hsr))
     exact aan.o _ hd W5 (bg HB3.o agM) (HF3.o.below agM (by omega)) _ rfl rfl
    have pz:=ae (HB4.o.trans (hb5.mono (show W3.heap.size<=wr.heap.size from hsr)))
    have HO5:=ae (ag h0 hO5)
    have hl5:=hO5.rows.lt
    have HST:=ae (UQ (jb s c ns).2 V2 es2 W5 hO5.st)
    have hk5:=hO5.blk
    clear hb5 h0 hO5 HA c4 f4 aj6
    go_upto_region 15 with(fail)
    refine wp_region_lit ?_
    refine aO rfl _ (by go_simp;first|rfl|exact⟨rfl,rfl⟩) ?_
    simp only[zp]
    refine aO rfl _ (by go_simp;first|rfl|exact⟨rfl,rfl⟩) ?_
    simp only[zp]
    refine aO rfl _ (by go_simp;first|rfl|exact⟨rfl,rfl⟩) ?_
    simp only[zp]
    refine wpList_load_row rfl _ _ rfl wb rfl _ _ _ _ hk5 Tryz.underlying46 rfl (by kernel_rfl) ?_
    simp only[zp]
    have XC:=ae hk5
    clear hk5
    go_wp2_with fail
    refine HST.o.mono ?_
    rintro e W6 ⟨hb6,⟨h0,rfl⟩|⟨hne,rfl⟩⟩
    rotate_left
    ·have hd:wI bH s l=(s,bH (jb s c ns).2):=by rw[A8 HX.o.2.2.1,ak (by rw[HO5.o.1];simp),aC hne]
     have agL:=bg pz.o hb6
     exact aan.o _ hd W6 (bg HB3.o agL) (HF3.o.below agL (by omega)) _ rfl rfl
    have qo:=ae (bg pz.o hb6)
    have hk6:=(hb6.block wb hl5).trans XC.o
    have LG:=ae (ag h0 (HO5.o.2.below hb6))
    clear hb6 h0 HST
    go_upto_region 16 with(fail)
    refine wp_region_lit ?_
    refine aO rfl _ (by go_simp;first|rfl|exact⟨rfl,rfl⟩) ?_
    simp only[zp]
    refine aO rfl _ (by go_simp;first|rfl|exact⟨rfl,rfl⟩) ?_
    simp only[zp]
    refine aO rfl _ (by go_simp;first|rfl|exact⟨rfl,rfl⟩) ?_
    simp only[zp]
    refine wpList_load_row rfl _ _ rfl wb rfl _ _ _ _ hk6 Tryz.underlying46 rfl (by kernel_rfl) ?_
    simp only[zp]
    have ad3:=HF3.o.below qo.o (by omega)
    obtain⟨A6,hA6,ahb⟩:=ad3.a
    obtain⟨ec6,AO⟩:=ad3.e
    refine wpList_store_row rfl _ _ _ rfl (w.heap.size+1) _ rfl rfl _ _ hA6 (by kernel_rfl) (by rw[ahb];rfl) (by rw[ny];exact fun u hu=>iR LG.o.2.st u (nR.2 hu)) ?_
    simp only[zp]
    refine jX fun W7 Ea=>?_
    have hA7:W7.heap[w.heap.size+1]? =some (.cells (dL (jb s c ns).2 V2) 46 (0,0)):=by rw[Ea];exact setRow_heap W6 _ A6 _ _ _ hA6
    have ad5:Ext [w.heap.size+1] W6 W7:=by rw[Ea];exact fP
    have zW:=(ad5.block (w.heap.size+2) (aT.1 AO).1 (by simp)).trans AO
    obtain⟨c7,f7,l7⟩:=af zW
    have c70:=c7 0
    simp at c70
    have HX7:=ae (ag hA7 (ag ad5 zW))
    clear Ea hA7 ad5 zW hA6 AO ad3 ahb c7 hk6
    go_wp2_with fail
    have hd:wI bH s l=((jb s c ns).2,0):=by rw[A8 HX.o.2.2.1,ak (by rw[HO5.o.1];simp),ak (by rw[LG.o.1];simp)]
    have KU:Ext [w.heap.size+1,w.heap.size+2] W6 (W7.setCell ⟨w.heap.size+2,0,none⟩ (iv 0)):=(HX7.o.2.1.more (by simp)).trans (gq.more (by simp))
    have hA8:=(heap_setCell_other W7 ⟨w.heap.size+2,0,none⟩ (w.heap.size+1) (iv 0) (by simp)).trans HX7.o.1
    have agK:=qo.o
    have hsb:=agK.size
    refine Ny rfl hA8 (aI HX7.o.2.2 _) _ _ rfl rfl ⟨?_,V2,es2,?_,?_,fun W' hE'=>?_⟩
    ·exact(bg HB3.o agK).trans ⟨KU.os,KU.tape,KU.output,KU.size,fun k hk=>KU.block k (by have:=HB3.o.size;omega) (by simp;omega)⟩
    ·rw[hd]
    ·rw[hd]
     have F6:=LG.o.2
     have hNb:=F6.rows.base
     exact(show jO wr.heap.size _ wb (jb s c ns).2 V2 es2 from⟨(KU.block wb F6.rows.lt (by simp;omega)).trans F6.blk,F6.rows.keep KU (fun m hm=> .inr (by simp at hm;omega)),F6.es⟩).st
    ·rw[hd]
     have F6:=LG.o.2
     have hNb:=F6.rows.base
     have hO9:jO wr.heap.size _ wb (jb s c ns).2 V2 es2:=⟨(KU.block wb F6.rows.lt (by simp;omega)).trans F6.blk,F6.rows.keep KU (fun m hm=> .inr (by simp at hm;omega)),F6.es⟩
     have hsr:=HX.o.1.size
     have hs3:=HB3.o.size
     have hlt: ∀m∈Ms,m<wr.heap.size:=fun m hm=>by have:=HMS.o m hm;omega
     exact(show jO wr.heap.size W' wb (jb s c ns).2 V2 es2 from⟨(hE'.block wb hO9.rows.lt (fun h=>by have:=hlt wb h;omega)).trans hO9.blk,hO9.rows.keep hE' (fun m hm=> .inr (hlt m hm)),hO9.es⟩).st
abbrev eG:Array Value:=
 #[iv 0,iv 0,iv 0,iv 0,.slice none 0 0,iv 0,iv 0,iv 0,.slice none 0 0,iv 0,iv 0,iv 0,iv 0,iv 0,iv 0,iv 0,.slice none 0 0,.slice none 0 0,.slice none 0 0,.slice none 0 0,.slice none 0 0,.slice none 0 0]
abbrev xY (hp:Value) (wt:Value):Array Value:=
 #[iv 3,iv 2,iv 0,iv 3,.slice none 0 0,iv 10,iv 0,iv 2000,.slice none 0 0,iv 4,iv 10,iv 50,iv 10,iv 60,iv 30,iv 30,wt,.slice none 0 0,.slice none 0 0,hp,.slice none 0 0,.slice none 0 0]
theorem Wu (w:World):Calls Tryz.prog 66 #[] w (fun e w'=>Below w.heap.size w w'/\ ∃V es,e= .returned (.agg (dL dX V))/\oZ w' dX V es/\ ∀Ms:List Nat,(∀m∈Ms,m<w.heap.size)-> ∀W',Ext Ms w' W'->oZ W' dX V es):=by
 go_enter Tryz.func66,Tryz.ntmps66
 go_upto_region 1 with(fail)
 refine dQ fun W1 hW1=>?_
 have hb1:Below w.heap.size w W1:=by rw[hW1];exact aj (aG _ _) _
 have hk1: ∃cs,W1.heap[w.heap.size]? =some (.cells cs 46 (0,0))/\cs.size=22:=by rw[hW1];exact⟨_,ay _ _,rfl⟩
 have hs1:W1.heap.size=w.heap.size+1:=by rw[hW1];simp
 have HB1:=ae hb1
 have XD:=ae hk1
 clear hW1 hb1 hk1
 refine wp_region_lit ?_
 refine aO rfl (w':=W1) (.agg #[iv 0,iv 3]) (by as_aux_lemma=>kernel_rfl) ?_
 simp only[zp]
 refine aO rfl (w':=W1) (.agg #[iv 3,iv 2,iv 0,iv 3,.slice none 0 0]) (by as_aux_lemma=>kernel_rfl) ?_
 simp only[zp]
 refine aO rfl (w':=W1) (.agg #[iv 0,iv 2000]) (by as_aux_lemma=>kernel_rfl) ?_
 simp only[zp]
 refine aO rfl (w':=W1) (.agg #[iv 3,iv 2,iv 0,iv 3,.slice none 0 0,iv 10,iv 0,iv 2000,.slice none 0 0]) (by as_aux_lemma=>kernel_rfl) ?_
 simp only[zp]
 refine aO rfl (w':=W1) (.agg #[iv 30,iv 30]) (by as_aux_lemma=>kernel_rfl) ?_
 simp only[zp]
 refine aO rfl (w':=W1) (.agg #[iv 4,iv 10,iv 50,iv 10,iv 60,iv 30,iv 30,.slice none 0 0,.slice none 0 0,.slice none 0 0]) (by as_aux_lemma=>kernel_rfl) ?_
 simp only[zp]
 refine aO rfl (w':=W1) (.agg #[iv 40,iv 40]) (by as_aux_lemma=>kernel_rfl) ?_
 simp only[zp]
 refine aO rfl (w':=W1.alloc (.cells #[iv 40,iv 40] 112 (0,0))) (.slice (some ⟨W1.heap.size,0,none⟩) 1 1) (by go_simp;try rfl) ?_
 simp only[zp]
 obtain⟨W2,hW2⟩: ∃W2,W2=W1.alloc (.cells #[iv 40,iv 40] 112 (0,0)):=⟨_,rfl⟩
 rw[<-hW2]
 have hb2:Below w.heap.size w W2:=by rw[hW2];exact aj HB1.o _
 have hk2:=XD.o
 obtain⟨cs,hcs,hcz⟩:=hk2
 have hk2:W2.heap[w.heap.size]? =some (.cells cs 46 (0,0)):=by rw[hW2];exact(heap_alloc_old _ _ (by omega)).trans hcs
 have hh2:W2.heap[W1.heap.size]? =some (.cells #[iv 40,iv 40] 112 (0,0)):=by rw[hW2];exact ay _ _
 have hs2:W2.heap.size=w.heap.size+2:=by rw[hW2];simp;omega
 rw[hs1]
 rw[hs1] at hh2
 clear hW2
 refine aO rfl (w':=W2) (.agg #[.slice (some ⟨w.heap.size+1,0,none⟩) 1 1,.slice none 0 0,.slice none 0 0]) (by as_aux_lemma=>kernel_rfl) ?_
 simp only[zp]
 refine aO rfl (w':=W2) (.agg (xY (.slice (some ⟨w.heap.size+1,0,none⟩) 1 1) (.slice none 0 0))) (by as_aux_lemma=>kernel_rfl) ?_
 simp only[zp]
 refine aO rfl (w':=(W2.alloc (.cells eG 46 (0,0)))) (.pointer (some ⟨W2.heap.size,0,none⟩)) (by go_simp;try rfl) ?_
 simp only[zp]
 rw[hs2]
 refine wpList_store_row rfl _ _ _ rfl (w.heap.size+2) (xY (.slice (some ⟨w.heap.size+1,0,none⟩) 1 1) (.slice none 0 0)) (by as_aux_lemma=>kernel_rfl) (by as_aux_lemma=>kernel_rfl) _ eG (by rw[<-hs2];exact ay _ _) (by kernel_rfl) (by as_aux_lemma=>kernel_rfl) (by as_aux_lemma=>kernel_rfl) ?_
 simp only[zp]
 refine jX fun W3 hW3=>?_
 have agC:W3.heap[w.heap.size+2]? =some (.cells (xY (.slice (some ⟨w.heap.size+1,0,none⟩) 1 1) (.slice none 0 0)) 46 (0,0)):=by
  rw[hW3];exact setRow_heap _ _ _ _ _ _ (by rw[<-hs2];exact ay _ _)
 obtain⟨yG,mg⟩: ∃yG,yG=W2.alloc (.cells eG 46 (0,0)):=⟨_,rfl⟩
 rw[<-mg] at hW3
 have vS:Ext [w.heap.size+2] yG W3:=by rw[hW3];exact fP
 have hs2':yG.heap.size=w.heap.size+3:=by rw[mg];simp;omega
 have hb3:Below w.heap.size w W3:=je (by rw[mg];exact aj hb2 _) vS (by omega)
 have hs3:=vS.size
 have hk3:W3.heap[w.heap.size]? =some (.cells cs 46 (0,0)):=(vS.block _ (by omega) (by simp)).trans (by rw[mg];exact(heap_alloc_old _ _ (by omega)).trans hk2)
 have hh3:W3.heap[w.heap.size+1]? =some (.cells #[iv 40,iv 40] 112 (0,0)):=(vS.block _ (by omega) (by simp)).trans (by rw[mg];exact(heap_alloc_old _ _ (by omega)).trans hh2)
 have HB3:=ae hb3
 have Xl:=ae agC
 have HC3:=ae (ag hk3 (ag hcz hh3))
 clear hcs hcz hW3 mg vS agC hk3 hh3 hb2 hk2 hh2 hb3
 go_wp2_with fail
 go_loopw [12] (fun u wr=> ∃i:Nat,i<=5/\u= .int .i64 i/\Below w.heap.size w wr/\w.heap.size+3<=wr.heap.size/\ ∃(o:Option Addr) (c:Nat),wr.ownsRow (w.heap.size+3) 34 2 (.slice o i c) i (aF (List.replicate i (6,6)))/\
  wr.heap[w.heap.size+2]? =some (.cells (xY (.slice (some ⟨w.heap.size+1,0,none⟩) 1 1) (.slice o i c)) 46 (0,0))/\ ∀k,k<w.heap.size+3->k≠w.heap.size+2->wr.heap[k]? =W3.heap[k]?) (fun u _=>5-(intOf u).toNat)
 case atStart=>exact⟨0,by omega,rfl,HB3.o,by omega,none,0,⟨rfl,.inl ⟨rfl,rfl⟩⟩,Xl.o,fun _ _ _=>rfl⟩
 case round=>
  obtain⟨i,hi,rfl,hB,hsz,oo,oc,how,hbk,hoth⟩:=hrel
  obtain⟨c2,f2,l2⟩:=af hbk
  by_cases hlt:i<5
  ·have HX:=ae (ag hB (ag how (ag hbk hoth)))
   have g16:=c2 16
   simp only[xY] at g16
   clear hB how hbk hoth c2
   go_wp2_with (at_builtin;go_loud (refine dZ rfl _ _ jA.JV rfl (w.heap.size+3) (.slice oo i oc) i (aF (List.replicate i (6,6))) rfl (aB (Ms:=[]) HX.o.2.1 (Ext.az (aj (aG _ _) _)) (by simp)) (.slice (some ⟨wr.heap.size,0,none⟩) 1 1) 1 [iv 6,iv 6] rfl (aP.cZ 2 1 (ay _ _) rfl (by decide)) (by simp[Value.oneCell']) (by omega) (by omega) (by simp;omega) ?_))
   intro v' W6 hown6 Hw _
   obtain⟨o6,c6,rfl⟩:=aV hown6
   have HP:=ae (abZ (i:=16) (u:= .slice o6 (i+1) c6) HX.o.1 HX.o.2.1 (Ext.az (aj (aG _ _) _)) hown6 Hw hsz (by omega) (by omega) HX.o.2.2.1)
   obtain⟨aod,an1,ann⟩:=af (((xZ HX.o.1 HX.o.2.1 (Ext.az (aj (aG _ _) _)) hown6 Hw (by omega) hsz).2.2 (w.heap.size+2) (by omega)).trans HX.o.2.2.1)
   clear hown6 Hw
   go_wp2_with fail
   go_roundw
   case rel=>
    refine⟨i+1,by omega,by go_num,HP.o.1,HP.o.2.1,o6,c6,?_,HP.o.2.2.2.1,fun k hk hne=>(HP.o.2.2.2.2 k hk hne).trans (HX.o.2.2.2 k hk hne)⟩
    have:=HP.o.2.2.1
    rw[List.replicate_succ']
    simpa [aF] using this
   case measure=>simp[intOf];omega
  ·obtain rfl:i=5:=by omega
   have HX:=ae (ag hB (ag how (ag hbk hoth)))
   clear hB how hbk hoth
   go_upto_region 6 with(fail)
   have hk0:=(HX.o.2.2.2 w.heap.size (by omega) (by omega)).trans HC3.o.1
   refine wp_region_lit ?_
   refine wpList_load_row rfl _ _ rfl (w.heap.size+2) rfl _ _ _ _ HX.o.2.2.1 Tryz.underlying46 rfl (by kernel_rfl) ?_
   simp only[zp]
   refine wpList_store_row rfl _ _ _ rfl w.heap.size (xY (.slice (some ⟨w.heap.size+1,0,none⟩) 1 1) (.slice oo (5:Nat) oc)) (by as_aux_lemma=>kernel_rfl) (by as_aux_lemma=>kernel_rfl) _ cs hk0 (by kernel_rfl) (by rw[HC3.o.2.1];rfl) (by as_aux_lemma=>kernel_rfl) ?_
   simp only[zp]
   refine jX fun W7 Ea=>?_
   have zW:Ext [w.heap.size] wr W7:=by rw[Ea];exact fP
   have hb7:=je HX.o.1 zW (ai _)
   have Dl:W7.heap[w.heap.size]? =some (.cells (xY (.slice (some ⟨w.heap.size+1,0,none⟩) 1 1) (.slice oo (5:Nat) oc)) 46 (0,0)):=by rw[Ea];exact setRow_heap _ _ _ _ _ _ hk0
   have hw7:=aB (Ms:=[w.heap.size]) HX.o.2.1 zW (by simp)
   have hh7:=(zW.block (w.heap.size+1) (by omega) (by simp)).trans ((HX.o.2.2.2 (w.heap.size+1) (by omega) (by omega)).trans HC3.o.2.2)
   have H7:=ae (ag hb7 (ag Dl (ag hw7 hh7)))
   clear Ea zW hb7 Dl hw7 hh7 hk0
   go_upto_region 7 with(fail)
   refine bodyPost_ret (v:= .agg (xY (.slice (some ⟨w.heap.size+1,0,none⟩) 1 1) (.slice oo (5:Nat) oc))) (results_cell_row Tryz.results66 _ _ w.heap.size _ _ (0,0) _ rfl H7.o.2.1 Tryz.underlying46 rfl (by kernel_rfl)) rfl ?_
   refine⟨H7.o.1,⟨.slice none 0 0,.slice none 0 0,.slice oo (5:Nat) oc,.slice none 0 0,.slice none 0 0,.slice (some ⟨w.heap.size+1,0,none⟩) 1 1,.slice none 0 0,.slice none 0 0⟩,[],rfl,?_⟩
   have hst: ∀Ms:List Nat,(∀m∈Ms,m<w.heap.size)-> ∀W',Ext Ms W7 W'->oZ W' dX ⟨.slice none 0 0,.slice none 0 0,.slice oo (5:Nat) oc,.slice none 0 0,.slice none 0 0,.slice (some ⟨w.heap.size+1,0,none⟩) 1 1,.slice none 0 0,.slice none 0 0⟩ []:=fun Ms hMs W' hE'=>by
    have hn: ∀k,aP k W' (.slice none 0 0) 0 []:=fun k=>⟨by simp,none,0,rfl,ai _,by decide,fun _=>rfl,fun a h=>by cases h⟩
    have h1:=aB (Ms:=Ms) H7.o.2.2.1 hE' (fun m hm=>by have:=hMs m hm;omega)
    have h2:=(hE'.block (w.heap.size+1) (aT.1 H7.o.2.2.2).1 (fun h=>by have:=hMs _ h;omega)).trans H7.o.2.2.2
    exact⟨hn _,hn _,aP.dR h1,hn _,hn _,⟨aP.cZ 2 1 h2 rfl (by decide),⟨hn _,fun e he=>by cases he⟩,rfl,hn _⟩⟩
   exact⟨hst [] (by simp) _ (Ext.refl _ _),hst⟩
theorem afj:iq Tryz.prog 51 52 (iv 0) 1 8:=⟨Tryz.underlying51,by kernel_rfl,rfl,by omega⟩
theorem BF {w:World} {o:Option Addr} {n c:Nat} {l:List aH} (h:aP 1 w (.slice o n c) n (dH l)) {k:Nat} (hk:k<l.length):
 ∃b off,o=some ⟨b,off,none⟩/\b<w.heap.size/\w.cell? ⟨b,off+k,none⟩=some (.string (fD l[k])):=by
 obtain⟨hl,o',c',hv,h1,h2,h3,h4⟩:=h
 cases hv
 have hn:n=l.length:=by simpa [dH] using hl.symm
 cases o with
 |none=>have:=h3 rfl;omega
 |some a=>
  obtain⟨b,off,sp⟩:=a
  obtain⟨hs,hc⟩:=h4 _ rfl
  simp only at hs hc
  subst hs
  have:=hc k (.string (fD l[k])) (by simp[dH,hk])
  exact⟨b,off,rfl,dF w _ this,this⟩
def ahy (Qs:List Nat) (ls:List aH) (w:World) (e:Ending) (w':World):Prop:=
 Below w.heap.size w w'/\ ∃V es cv,e= .returned (.tuple #[.agg (dL (fJ bH dX ls).1 V),cv])/\(∀W',Ext Qs w' W'->oZ W' (fJ bH dX ls).1 V es)/\w'.ownsRow w.heap.size 52 1 cv ls.length (ah (fJ bH dX ls).2)
theorem xu (lv:Value) (ls:List aH) (w:World) (hls:iO w lv ls) (hE:Env w) (hln: ∀l∈ls,l.length<=1000) (hn:ls.length<=1000000) (Qs:List Nat) (hQs: ∀m∈Qs,m<w.heap.size):Calls Tryz.prog 38 #[lv] w (ahy Qs ls w):=by
 obtain⟨ov,cv,rfl⟩:=aP.open hls
 have Iq:Hid (∀W,Below w.heap.size w W->iO W (.slice ov ls.length cv) ls):=ae (fun W hb=>hls.below hb (ai _))
 have HE:Hid (∀W,Below w.heap.size w W->Env W):=ae (fun W hb=>hE.below hb (ai _))
 clear hls hE
 go_enter Tryz.func38,Tryz.ntmps38
 go_upto_region 1 with(fail)
 refine dQ fun W1 hW1=>?_
 have hb1:Below w.heap.size w W1:=by rw[hW1];exact aj (aG _ _) _
 have hk1: ∃cs,W1.heap[w.heap.size]? =some (.cells cs 46 (0,0))/\cs.size=22:=by rw[hW1];exact⟨_,ay _ _,rfl⟩
 have hs1:W1.heap.size=w.heap.size+1:=by rw[hW1];simp
 have HB1:=ae hb1
 have XD:=ae hk1
 clear hW1 hb1 hk1
 go_wp2_with fail
 refine(Wu W1).mono ?_
 rintro e W2 ⟨hb2,V0,es0,rfl,hS0,hX0⟩
 rename_i hK
 refine hK _ _ ?_
 have hs2:=hb2.size
 refine aO rfl (w':=(W2.alloc (.cells eG 46 (0,0)))) (.pointer (some ⟨W2.heap.size,0,none⟩)) (by go_simp;try rfl) ?_
 simp only[zp]
 obtain⟨g,hg⟩: ∃g,g=W2.heap.size:=⟨_,rfl⟩
 rw[<-hg]
 have hz:(W2.alloc (.cells eG 46 (0,0))).heap[g]? =some (.cells eG 46 (0,0)):=by rw[hg];exact ay _ _
 refine wpList_store_row rfl _ _ _ rfl g (dL dX V0) (by as_aux_lemma=>kernel_rfl) (by as_aux_lemma=>kernel_rfl) _ eG hz (by kernel_rfl) (by as_aux_lemma=>kernel_rfl) (by rw[ny];exact fun u hu=>iR hS0 u (nR.2 hu)) ?_
 simp only[zp]
 refine jX fun W3 hW3=>?_
 obtain⟨yG,mg⟩: ∃yG,yG=W2.alloc (.cells eG 46 (0,0)):=⟨_,rfl⟩
 rw[<-mg] at hW3 hz
 have vS:Ext [g] yG W3:=by rw[hW3];exact fP
 have hs3:=vS.size
 have hs2':yG.heap.size=g+1:=by rw[mg,hg];simp
 have nP:Below W2.heap.size W2 W3:=je (by rw[mg];exact aj (aG _ _) _) vS (by omega)
 have hS3:oZ W3 dX V0 es0:=hS0.below nP (ai _)
 have hk3:W3.heap[g]? =some (.cells (dL dX V0) 46 (0,0)):=by rw[hW3];exact setRow_heap _ _ _ _ _ _ hz
 have hX3: ∀W',Ext (w.heap.size::g::Qs) W3 W'->oZ W' dX V0 es0:=fun W' hE'=>hX0 (w.heap.size::Qs) (fun m hm=>by
  rcases gY.1 hm with rfl|hm
  ·omega
  ·have:=hQs m hm;omega) W' ⟨nP.os▸hE'.os,hE'.tape.trans nP.tape,hE'.output.trans nP.output,ja nP.size hE'.size,fun k hk hm=>(hE'.block k (by omega) (fun h=>by
   rcases gY.1 h with h|h
   ·exact hm (by rw[h];exact List.mem_cons_self)
   ·rcases gY.1 h with h|h
    ·omega
    ·exact hm (qg _ h))).trans (nP.block k hk)⟩
 have hr3: ∃cs,W3.heap[w.heap.size]? =some (.cells cs 46 (0,0))/\cs.size=22:=by
  obtain⟨cs,h1,h2⟩:=XD.o
  exact⟨cs,(nP.block _ (by omega)).trans ((hb2.block _ (by omega)).trans h1),h2⟩
 have HB3:=ae (bg HB1.o (bg hb2 nP))
 have H3:=ae (ag hS3 (ag hk3 (ag hr3 hX3)))
 have hgw:w.heap.size+1<=g:=by omega
 have hg3:g+1<=W3.heap.size:=by omega
 clear hX3 hX0 hW3 mg vS nP hS3 hk3 hr3 hz hS0 hb2 hg hK
 go_wp2_with fail
 go_loopw [5,13] (fun v5 u wr=> ∃i:Nat,i<=ls.length/\u= .int .i64 i/\Below w.heap.size w wr/\W3.heap.size<=wr.heap.size/\ ∃(o:Option Addr) (c:Nat) (V:SV) (es:List KE),v5= .slice o i c/\wr.ownsRow W3.heap.size 52 1 (.slice o i c) i (ah (fJ bH dX (ls.take i)).2)/\
  wr.heap[g]? =some (.cells (dL (fJ bH dX (ls.take i)).1 V) 46 (0,0))/\oZ wr (fJ bH dX (ls.take i)).1 V es/\wr.heap[w.heap.size]? =W3.heap[w.heap.size]?/\ ∀W',Ext (w.heap.size::g::((Value.slice o i c).ownBlock.toList++Qs)) wr W'->oZ W' (fJ bH dX (ls.take i)).1 V es) (fun _ u _=>ls.length-(intOf u).toNat)
 case atStart=>exact⟨0,bW _,rfl,HB3.o,ai _,none,0,V0,es0,rfl,⟨rfl,.inl ⟨rfl,rfl⟩⟩,H3.o.2.1,H3.o.1,rfl,H3.o.2.2.2⟩
 case round=>
  obtain⟨i,hi,rfl,hB,hsz,oo,oc,V,es,rfl,how,hbk,hS,hr0,hXM⟩:=hrel
  by_cases hlt:i<ls.length
  ·obtain⟨bl,off,hov,hbl,hcl⟩:=BF (Iq.o _ hB) hlt
   have HX:=ae (ag hB (ag how (ag hbk (ag hS (ag hr0 hXM)))))
   have HD:=ae (aea (fJ bH dX (ls.take i)).1 V es ls[i] wr hS (IU _ GH) (HE.o wr hB) (hln _ (bY hlt)) (w.heap.size::g::((Value.slice oo i oc).ownBlock.toList++Qs)) (fun m hm=>by
    rcases gY.1 hm with rfl|hm
    ·omega
    ·rcases gY.1 hm with rfl|hm
     ·omega
     ·rcases iK.1 hm with hm|hm
      ·exact(bG how m (dD.1 hm)).2
      ·have:=hQs m hm;omega) hXM)
   subst hov
   clear hB how hbk hS hr0 hXM
   go_upto_region 6 with(fail)
   refine wp_region_lit ?_
   refine wpList_load_row rfl _ _ rfl g rfl _ _ _ _ HX.o.2.2.1 Tryz.underlying46 rfl (by kernel_rfl) ?_
   simp only[zp]
   go_wp2_with fail
   refine HD.o.mono ?_
   rintro e W4 ⟨hb4,V4,es4,rfl,hS4,hX4⟩
   rename_i hK
   refine hK _ _ ?_
   refine aO rfl _ (by go_simp;first|rfl|exact⟨rfl,rfl⟩) ?_
   simp only[zp]
   refine aO rfl _ (by go_simp;first|rfl|exact⟨rfl,rfl⟩) ?_
   simp only[zp]
   refine aO rfl _ (by go_simp;first|rfl|exact⟨rfl,rfl⟩) ?_
   simp only[zp]
   obtain⟨q,hq⟩: ∃q,q=W4.heap.size:=⟨_,rfl⟩
   have hs4:=hb4.size
   refine aO rfl (w':=W4.alloc (.cells eG 46 (0,0))) (.pointer (some ⟨q,0,none⟩)) (by rw[hq];go_simp;try rfl) ?_
   simp only[zp]
   have hz:(W4.alloc (.cells eG 46 (0,0))).heap[q]? =some (.cells eG 46 (0,0)):=by rw[hq];exact ay _ _
   refine wpList_store_row rfl _ _ _ rfl q (dL (wI bH (fJ bH dX (ls.take i)).1 ls[i]).1 V4) (by as_aux_lemma=>kernel_rfl) (by as_aux_lemma=>kernel_rfl) _ eG hz (by kernel_rfl) (by as_aux_lemma=>kernel_rfl) (by rw[ny];exact fun u hu=>iR hS4 u (nR.2 hu)) ?_
   simp only[zp]
   refine jX fun W5 xJ=>?_
   obtain⟨W4',abC⟩: ∃W4',W4'=W4.alloc (.cells eG 46 (0,0)):=⟨_,rfl⟩
   rw[<-abC] at xJ hz
   have Ob:Ext [q] W4' W5:=by rw[xJ];exact fP
   have abm:W4'.heap.size=q+1:=by rw[abC,hq];simp
   have hs5:=Ob.size
   have adY:Below W4.heap.size W4 W5:=je (by rw[abC];exact aj (aG _ _) _) Ob (by omega)
   have hk5:W5.heap[q]? =some (.cells (dL (wI bH (fJ bH dX (ls.take i)).1 ls[i]).1 V4) 46 (0,0)):=by rw[xJ];exact setRow_heap _ _ _ _ _ _ hz
   have hb5:=bg hb4 adY
   have H5:=ae (ag hb5 (ag adY (ag hk5 (ag hS4 hX4))))
   clear xJ abC Ob adY hk5 hz hS4 hX4 hb4 hb5 hK
   go_upto_region 7 with(fail)
   have hTK:fJ bH dX (ls.take (i+1))=((wI bH (fJ bH dX (ls.take i)).1 ls[i]).1,(fJ bH dX (ls.take i)).2++[(wI bH (fJ bH dX (ls.take i)).1 ls[i]).2]):=by rw[ig hlt,U5]
   obtain⟨code,hcode⟩: ∃code,code=(wI bH (fJ bH dX (ls.take i)).1 ls[i]).2:=⟨_,rfl⟩
   rw[<-hcode] at hTK⊢
   obtain⟨Ms,hMs⟩: ∃Ms,Ms=(Value.slice oo i oc).ownBlock.toList:=⟨_,rfl⟩
   have hm0: ∀m∈Ms,W3.heap.size<=m/\m<wr.heap.size:=fun m h=>bG HX.o.2.1 m (by rw[hMs] at h;exact dD.1 h)
   have wH: ∀m∈Ms,m<W5.heap.size:=fun m h=>by have:=hm0 m h;omega
   have hm1:q∉Ms:=fun h=>by have:=hm0 q h;omega
   have hm2:g∉Ms:=fun h=>by have:=hm0 g h;omega
   have hq5:q<W5.heap.size:=by omega
   have Td:=ae hTK
   have HM:=ae hMs
   clear hTK hMs hcode
   refine zg 5 Ms (some 4) [(3,Spec.slice W5.heap.size #[iv code] 52 1),(4,⟨fun _ v=> ∃o2 c2,v= .slice o2 (i+1) c2,fun _ v Wx=>Wx.ownsRow W3.heap.size 52 1 v (i+1) (ah (fJ bH dX (ls.take i)).2++[iv code])/\(v.ownBlock=(Value.slice oo i oc).ownBlock∨ ∃q,v.ownBlock=some q/\W5.heap.size<=q)⟩)] ?_
   simp only[zt]
   refine iy (by rfl) (.agg (dL (wI bH (fJ bH dX (ls.take i)).1 ls[i]).1 V4)) (by rfl) (fun W hE hF=>?_) ?_
   ·exact yY _ _ rfl q rfl _ _ _ _ ((hE.block q hq5 hm1).trans H5.o.2.2.1) Tryz.underlying46 rfl (by kernel_rfl)
   simp only[zp]
   repeat ((first|refine zd ?_|refine zk ?_);simp only[zp])
   refine dU W5.heap.size _ _ 1 (by rfl) (ai _) (by rfl) wH (by simp) (fun W hW=>by go_simp;try rfl) (fun b6=>?_)
   simp only[zp]
   refine bF _ (by rfl) (by rfl) (by exact⟨.slice none (i+1) 0,none,0,rfl⟩) (fun W6 hE hF=>?_) (fun v Wa Wb ho hE=>?_) (fun v hv=>?_)
   ·have hE':Ext [] W5 W6:=hE
    obtain⟨b',hb',hge,hcc⟩:=hF _ (bD _) (by kernel_rfl)
    cases hb'
    have hown6:=aB (Ms:=[]) HX.o.2.1 ((Ext.az H5.o.1).trans hE') (by simp)
    have hsrc:aP 1 W6 (.slice (some ⟨b6,0,none⟩) 1 1) 1 ([iv code]):=aP.cZ 1 1 hcc rfl (by decide)
    refine Does.mono (dK afj (by rfl) (by rfl) hown6 (by rfl) hsrc (one_one code) (by omega) (by omega) (by have:=hE'.size;omega)) ?_
    rintro v' W7 ⟨ho,hgr,hcase⟩
    refine⟨aS ho,⟨ho,hcase.imp id fun h1=>⟨_,h1,hE'.size⟩⟩,⟨hgr.os,hgr.tape,hgr.output,hgr.size,fun b hb hn=>hgr.block b hb (fun e=>hn (by rw[HM.o];exact dD.2 e.symm))⟩⟩
   ·exact⟨aB (Ms:=[]) ho.1 hE (by simp),ho.2⟩
   obtain⟨o7,c7,rfl⟩:=hv
   simp only[zp]
   intro W6 hE hF
   obtain⟨Zd,hg6⟩:=hF _ (bD _)
   have AO:Ext Ms W5 W6:=hE
   have hs6:=AO.size
   have hkg:=(AO.block g (by omega) hm2).trans ((H5.o.1.block g (by omega)).trans HX.o.2.2.1)
   refine wpList_store_row rfl _ _ _ rfl g (dL (wI bH (fJ bH dX (ls.take i)).1 ls[i]).1 V4) (by as_aux_lemma=>kernel_rfl) (by as_aux_lemma=>kernel_rfl) _ _ hkg (by kernel_rfl) rfl (by rw[ny];exact fun u hu=>iR H5.o.2.2.2.1 u (nR.2 hu)) ?_
   simp only[zp]
   refine jX fun W7 Ea=>?_
   have zW:Ext [g] W6 W7:=by rw[Ea];exact fP
   have Dl:W7.heap[g]? =some (.cells (dL (wI bH (fJ bH dX (ls.take i)).1 ls[i]).1 V4) 46 (0,0)):=by rw[Ea];exact setRow_heap _ _ _ _ _ _ hkg
   have hs7:=zW.size
   have Rj:Below w.heap.size w W7:=by
    have ajS:=bg HX.o.1 H5.o.1
    exact ajS.trans ⟨zW.os.trans AO.os,zW.tape.trans AO.tape,zW.output.trans AO.output,by omega,fun k hk=>(zW.block k (by omega) (by simp;omega)).trans (AO.block k (by omega) (fun h=>by have:=hm0 k h;omega))⟩
   have ho7:=aB (Ms:=[g]) Zd zW (by simp;omega)
   have TW:W7.heap[w.heap.size]? =W3.heap[w.heap.size]? :=(zW.block _ (by omega) (by simp;omega)).trans ((AO.block _ (by omega) (fun h=>by have:=hm0 _ h;omega)).trans ((H5.o.1.block _ (by omega)).trans HX.o.2.2.2.2.1))
   have hX7: ∀W',Ext (w.heap.size::g::((Value.slice o7 (i+1) c7).ownBlock.toList++Qs)) W7 W'->oZ W' (wI bH (fJ bH dX (ls.take i)).1 ls[i]).1 V4 es4:=fun W' hE'=>by
    have h45:=H5.o.2.1
    have aoq:=h45.size
    refine H5.o.2.2.2.2 W' ⟨hE'.os.trans (zW.os.trans (AO.os.trans h45.os)),hE'.tape.trans (zW.tape.trans (AO.tape.trans h45.tape)),hE'.output.trans (zW.output.trans (AO.output.trans h45.output)),by have:=hE'.size;omega,fun k hk hm=>?_⟩
    have n1:k≠w.heap.size:=fun e=>hm (by simp[e])
    have n2:k≠g:=fun e=>hm (by simp[e])
    have n3:k∉(Value.slice oo i oc).ownBlock.toList:=fun h=>hm (qg _ (qg _ (nS _ h)))
    have n5:k∉Qs:=fun h=>hm (qg _ (qg _ (sZ _ h)))
    have n4:k∉(Value.slice o7 (i+1) c7).ownBlock.toList:=fun h=>by
     rcases hg6 with h1|⟨x,h1,h2⟩
     ·rw[h1] at h;exact n3 h
     ·rw[h1] at h;simp at h;omega
    exact(hE'.block k (by omega) (fun h=>by rcases gY.1 h with h|h;(exact n1 h);rcases gY.1 h with h|h;(exact n2 h);rcases iK.1 h with h|h;(exact n4 h);exact n5 h)).trans ((zW.block k (by omega) (by simpa using n2)).trans ((AO.block k (by omega) (by rw[HM.o];exact n3)).trans (h45.block k hk)))
   have YY:oZ W7 (wI bH (fJ bH dX (ls.take i)).1 ls[i]).1 V4 es4:=hX7 W7 (Ext.refl _ _)
   have H7:=ae (ag Rj (ag ho7 (ag Dl (ag YY (ag TW hX7)))))
   have ai6:W3.heap.size<=W7.heap.size:=by omega
   clear Rj ho7 Dl YY TW hX7 Ea zW AO hE hF Zd hg6 hkg
   go_wp2_with fail
   go_roundw
   case rel=>
    refine⟨i+1,by omega,by go_num,H7.o.1,ai6,o7,c7,V4,es4,rfl,?_⟩
    rw[Td.o]
    refine⟨?_,H7.o.2.2.1,H7.o.2.2.2.1,H7.o.2.2.2.2.1,H7.o.2.2.2.2.2⟩
    simpa [ah] using H7.o.2.1
   case measure=>simp[intOf];omega
  ·obtain rfl:i=ls.length:=by omega
   have HX:=ae (ag hB (ag how (ag hbk (ag hS (ag hr0 hXM)))))
   clear hB how hbk hS hr0 hXM
   go_upto_region 9 with(fail)
   obtain⟨cs,hcs,hcz⟩:=H3.o.2.2.1
   have hk0:=HX.o.2.2.2.2.1.trans hcs
   refine wp_region_lit ?_
   refine wpList_load_row rfl _ _ rfl g rfl _ _ _ _ HX.o.2.2.1 Tryz.underlying46 rfl (by kernel_rfl) ?_
   simp only[zp]
   refine aO rfl _ (by go_simp;first|rfl|exact⟨rfl,rfl⟩) ?_
   simp only[zp]
   refine wpList_store_row rfl _ _ _ rfl w.heap.size (dL (fJ bH dX (ls.take ls.length)).1 V) (by as_aux_lemma=>kernel_rfl) (by as_aux_lemma=>kernel_rfl) _ cs hk0 (by kernel_rfl) (by rw[hcz];rfl) (by rw[ny];exact fun u hu=>iR HX.o.2.2.2.1 u (nR.2 hu)) ?_
   simp only[zp]
   refine jX fun W7 Ea=>?_
   have zW:Ext [w.heap.size] wr W7:=by rw[Ea];exact fP
   have hb7:=je HX.o.1 zW (ai _)
   have Dl:W7.heap[w.heap.size]? =some (.cells (dL (fJ bH dX (ls.take ls.length)).1 V) 46 (0,0)):=by rw[Ea];exact setRow_heap _ _ _ _ _ _ hk0
   have hw7:=aB (Ms:=[w.heap.size]) HX.o.2.1 zW (by simp;omega)
   have YY: ∀W',Ext Qs W7 W'->oZ W' (fJ bH dX (ls.take ls.length)).1 V es:=fun W' hE'=>HX.o.2.2.2.2.2 W' ((zW.more (by simp)).trans (hE'.more (fun m hm=>qg _ (qg _ (sZ _ hm)))))
   have H7:=ae (ag hb7 (ag Dl (ag hw7 YY)))
   clear Ea zW hb7 Dl hw7 hk0 YY
   go_wp2_with fail
   refine bodyPost_ret (v:= .tuple #[.agg (dL (fJ bH dX (ls.take ls.length)).1 V),.slice oo ls.length oc]) ?_ rfl ?_
   ·have q1:=run_loadVar_row (P:=Tryz.prog) W7 w.heap.size 46 46 _ (0,0) _ H7.o.2.1 Tryz.underlying46 rfl (by kernel_rfl)
    simp[results,Tryz.results38,asAddr,q1]
   ·have h7:=H7.o
    rw[List.take_length] at h7⊢
    exact⟨h7.1,V,es,_,rfl,h7.2.2.2,cu h7.2.2.1 (by omega)⟩
theorem Vo (k:Int) (l:aH) (w:World) (hl:l.length<=1000000):Calls Tryz.prog 64 #[iv k,.string (fD l)] w (PV (.bool (decide ((l.length:Int)<=k))) w):=by
 have hs:(fD l).size=l.length:=by simp[ByteArray.size]
 go_enter Tryz.func64,Tryz.ntmps64
 go_wp2_with fail
 go_returns
 exact⟨rfl,aG _ _⟩
abbrev sv (l:aH):Value:= .string (fD l)
theorem iO.cell {w:World} {o:Option Addr} {n c:Nat} {l:List aH} (h:aP 1 w (.slice o n c) n (dH l)) {k:Nat} (hk:k<l.length):
 ∃b off,o=some ⟨b,off,none⟩/\b<w.heap.size/\w.cell? ⟨b,off+k,none⟩=some (sv l[k]):=BF h hk
theorem aiR (l:List aH) (v:Value) (aZ:Nat) (fst caps:Array Value) (p:Nat->Bool) (I:Nat->World->Prop) (w:World) (eg: ∀args w,(callFunc aZ args).run Tryz.prog w= .ok (.enter aZ args) w)
 (hsl: ∀k W,I k W->iO W v l)
 (hcall: ∀k (hk:k<l.length) W,(∀j,j<k->p j=false)->I k W->Calls Tryz.prog aZ (fst.push (sv l[k])++caps) W (fun e W'=>e= .returned (.bool (p k))/\I (k+1) W')) (h0:I 0 w):
 Calls Tryz.prog 174 #[v,.func (.func aZ) fst caps] w (dY l.length p I (fun k=>iv k) (iv (-1))):=by
 have hlen:=(hsl 0 w h0).len
 obtain⟨o,c,rfl⟩:=(hsl 0 w h0).open
 have HC:=ae hcall
 have HS:=ae hsl
 clear hcall hsl
 go_enter Tryz.func174,Tryz.ntmps174
 go_wp2
 go_loopw [4,5,8] (fun _ _ i wr=> ∃k:Nat,k<=l.length/\i= .int .i64 k/\(∀j,j<k->p j=false)/\I k wr) (fun _ _ i _=>l.length-(intOf i).toNat)
 case atStart=>exact⟨0,bW _,rfl,fun j hj=>by omega,h0⟩
 case round=>
  obtain⟨k,hk,rfl,hno,hI⟩:=hrel
  by_cases hlt:k<l.length
  ·obtain⟨b,off,rfl,hb,hc0⟩:=iO.cell (HS.o k wr hI) hlt
   have hC:=HC.o k hlt wr hno hI
   have HN:=ae hno
   clear hno
   go_wp2_with fail
   refine hC.mono ?_
   rintro e W1 ⟨rfl,hI1⟩
   have HI:=ae hI1
   clear hI1 hI hC
   cases hp:p k
   ·go_wp2_with fail
    go_roundw
    case rel=>exact⟨k+1,by omega,by go_num,fun j hj=>(by by_cases e:j=k;(subst e;exact hp);exact HN.o j (by omega)),HI.o⟩
    case measure=>simp[intOf];omega
   ·go_wp2_with fail
    go_returns
    exact⟨k,by omega,HN.o,.inl ⟨hlt,hp,by simp,HI.o⟩⟩
  ·have hkl:k=l.length:=by omega
   have HN:=ae hno
   clear hno
   go_wp2_with fail
   go_returns
   exact⟨k,by omega,HN.o,.inr ⟨hkl,by simp,by subst hkl;exact hI⟩⟩
theorem ahi (l:List aH) (v:Value) (aZ:Nat) (fst caps:Array Value) (p:Nat->Bool) (I:Nat->World->Prop) (w:World) (eg: ∀args w,(callFunc aZ args).run Tryz.prog w= .ok (.enter aZ args) w)
 (hsl: ∀k W,I k W->iO W v l)
 (hcall: ∀k (hk:k<l.length) W,(∀j,j<k->p j=false)->I k W->Calls Tryz.prog aZ (fst.push (sv l[k])++caps) W (fun e W'=>e= .returned (.bool (p k))/\I (k+1) W')) (h0:I 0 w):
 Calls Tryz.prog 107 #[v,.func (.func aZ) fst caps] w (dY l.length p I (fun _=> .bool true) (.bool false)):=by
 have HI:=ae (aiR l v aZ fst caps p I w eg hsl hcall h0)
 have hlen:=(hsl 0 w h0).len
 clear hsl hcall h0 eg
 go_enter Tryz.func107,Tryz.ntmps107
 go_wp2_with fail
 refine HI.o.mono ?_
 clear HI
 rintro e W' ⟨k,hk,hno,⟨hlt,hp,rfl,hI⟩|⟨hkl,rfl,hI⟩⟩
 ·have HN:=ae (ag hno (ag hp hI))
  clear hno hp hI
  go_wp2_with fail
  go_returns
  exact⟨k,hk,HN.o.1,.inl ⟨hlt,HN.o.2.1,by simp,HN.o.2.2⟩⟩
 ·have HN:=ae (ag hno (ag hkl hI))
  clear hno hkl hI
  go_wp2_with fail
  go_returns
  exact⟨k,hk,HN.o.1,.inr ⟨HN.o.2.1,by simp,HN.o.2.1▸HN.o.2.2⟩⟩
theorem Z9 (b:Nat) (l:aH) (w:World) (hc:w.cell? ⟨b,0,none⟩=some (.func (.func 64) #[iv 60] #[])) (hl:l.length<=1000000):Calls Tryz.prog 108 #[sv l,.pointer (some ⟨b,0,none⟩)] w (PV (.bool (!decide ((l.length:Int)<=60))) w):=by
 have HC:=ae (Vo 60 l w hl)
 go_enter Tryz.func108,Tryz.ntmps108
 go_wp2_with fail
 refine HC.o.mono ?_
 rintro e w' ⟨rfl,hb⟩
 go_wp2_with fail
 go_returns
 exact⟨rfl,hb⟩
theorem Z7 (b:Nat) (l:List aH) (v:Value) (w:World) (hv:iO w v l) (hc:w.cell? ⟨b,0,none⟩=some (.func (.func 64) #[iv 60] #[])) (hb:b<w.heap.size) (hln: ∀x∈l,x.length<=1000000):Calls Tryz.prog 107 #[v,.func (.func 108) #[] #[.pointer (some ⟨b,0,none⟩)]] w (PV (.bool (l.any fun x=>!decide ((x.length:Int)<=60))) w):=by
 refine(ahi l v 108 #[] #[.pointer (some ⟨b,0,none⟩)] (fun k=>!decide (((l.getD k []).length:Int)<=60)) (fun _ W=>Below w.heap.size w W) w (enters_of Tryz.func108 (by kernel_rfl) rfl) (fun k W h=>hv.below h (ai _)) (fun k hk W _ h=>?_) (aG _ _)).mono ?_
 ·refine(Z9 b l[k] W ((iY (h.block b hb)).trans hc) (hln _ (bY hk))).mono ?_
  rintro e W' ⟨rfl,hb'⟩
  exact⟨by simp[hk],bg h hb'⟩
 ·rintro e W' ⟨k,hk,hno,⟨hlt,hp,rfl,hI⟩|⟨hkl,rfl,hI⟩⟩
  ·refine⟨?_,hI⟩
   have:(l.any fun x=>!decide ((x.length:Int)<=60))=true:=List.any_eq_true.2 ⟨l[k],bY _,by simpa [hlt] using hp⟩
   rw[this]
  ·refine⟨?_,hI⟩
   have:(l.any fun x=>!decide ((x.length:Int)<=60))=false:=by
    rw[List.any_eq_false]
    intro x hx
    obtain⟨j,hj,rfl⟩:=lV hx
    have:=hno j (by omega)
    simpa [hj] using this
   rw[this]
theorem ab2 (l:List aH) (v:Value) (w:World) (hv:iO w v l) (hln: ∀x∈l,x.length<=1000000):Calls Tryz.prog 65 #[v,.func (.func 64) #[iv 60] #[]] w (PV (.bool (!(l.any fun x=>!decide ((x.length:Int)<=60)))) w):=by
 have HV:=ae hv
 clear hv
 go_enter Tryz.func65,Tryz.ntmps65
 go_upto_region 1 with(fail)
 refine dQ fun W1 hW1=>?_
 have hb1:Below w.heap.size w W1:=by rw[hW1];exact aj (aG _ _) _
 have hc1:W1.cell? ⟨w.heap.size,0,none⟩=some (.func (.func 64) #[iv 60] #[]):=by rw[hW1];exact(af (ay _ _)).1 0
 have hs1:w.heap.size<W1.heap.size:=by rw[hW1];simp
 have HA:=ae (Z7 w.heap.size l v W1 (aP.below HV.o hb1 (ai _)) hc1 hs1 hln)
 have HB:=ae hb1
 clear hW1 hb1 hc1 hs1
 go_wp2_with fail
 refine HA.o.mono ?_
 rintro e w' ⟨rfl,hb⟩
 go_wp2_with fail
 go_returns
 exact⟨rfl,bg HB.o hb⟩
def fH (l:List aH):Int:=if 40<l.length∨(l.any fun x=>!decide ((x.length:Int)<=60))=true then 3 else 0
theorem Jr (l:List aH) (v:Value) (w:World) (hv:iO w v l) (hln: ∀x∈l,x.length<=1000000):Calls Tryz.prog 37 #[v] w (PV (iv (fH l)) w):=by
 have hlen:=hv.len
 obtain⟨o,c,rfl⟩:=aP.open hv
 have HA:=ae (ab2 l _ w hv hln)
 clear hv
 go_enter Tryz.func37,Tryz.ntmps37
 go_wp2_with fail
 ·refine HA.o.mono ?_
  rintro e w' ⟨rfl,hb⟩
  cases hq:(l.any fun x=>!decide ((x.length:Int)<=60))
  all_goals
   go_wp2_with fail
   go_returns
   refine⟨?_,hb⟩
   simp only[fH,hq]
   simp
   try omega
 ·go_returns
  refine⟨?_,aG _ _⟩
  rw[fH,aC (.inl (by omega))]
  rfl
def zeroS:jI:=
 {led:={field:={rows:=0,aK:=0,left:=(0,0),ax:=[]},rate:=0,box:=(0,0),notes:=[]}
  heap:={last:=0,size:=0,aY:=0,die:=0,tY:=0,start:=(0,0),bV:=[],turns:=[],readings:=[]}
  df:={heaps:=[],aU:=[],aJ:=[]}}
def zeroV:SV:=⟨.slice none 0 0,.slice none 0 0,.slice none 0 0,.slice none 0 0,.slice none 0 0,.slice none 0 0,.slice none 0 0,.slice none 0 0⟩
theorem PI:dL zeroS zeroV=eG:=rfl
theorem aaK (w:World):oZ w zeroS zeroV []:=by
 have hn: ∀k,aP k w (.slice none 0 0) 0 []:=fun k=>aP.nil k w
 exact⟨hn _,hn _,hn _,hn _,hn _,⟨hn _,⟨hn _,fun e he=>by cases he⟩,rfl,hn _⟩⟩
def iD (ls:List aH):jI:=if fH ls=0 then(fJ bH dX ls).1 else zeroS
def xw (ls:List aH):List Int:=if fH ls=0 then(fJ bH dX ls).2 else[]
def PPl (Qs:List Nat) (ls:List aH) (w:World) (e:Ending) (w':World):Prop:=
 Below w.heap.size w w'/\ ∃V es cv,e= .returned (.tuple #[.agg (dL (iD ls) V),cv,iv (fH ls)])/\(∀W',Ext Qs w' W'->oZ W' (iD ls) V es)/\w'.ownsRow w.heap.size 52 1 cv (xw ls).length (ah (xw ls))
theorem BX {ls:List aH} (h:fH ls=0):ls.length<=40/\ ∀l∈ls,l.length<=60:=by
 unfold fH at h
 split at h
 ·omega
 ·rename_i hc
  simp only[not_or,Bool.not_eq_true] at hc
  refine⟨by omega,fun l hl=>?_⟩
  have:=List.any_eq_false.1 hc.2 l hl
  simp at this
  omega
theorem yf (lv:Value) (ls:List aH) (w:World) (hls:iO w lv ls) (hE:Env w) (hln: ∀l∈ls,l.length<=1000000) (Qs:List Nat) (hQs: ∀m∈Qs,m<w.heap.size):Calls Tryz.prog 13 #[lv] w (PPl Qs ls w):=by
 have Iq:Hid (∀W,Below w.heap.size w W->iO W lv ls):=ae (fun W hb=>hls.below hb (ai _))
 have HE:Hid (∀W,Below w.heap.size w W->Env W):=ae (fun W hb=>hE.below hb (ai _))
 have Tv:=ae hln
 clear hls hE hln
 go_enter Tryz.func13,Tryz.ntmps13
 go_upto_region 1 with(fail)
 refine dQ fun W1 hW1=>?_
 have hb1:Below w.heap.size w W1:=by rw[hW1];exact aj (aG _ _) _
 have hk1:W1.heap[w.heap.size]? =some (.cells eG 46 (0,0)):=by rw[hW1];exact ay _ _
 have hs1:W1.heap.size=w.heap.size+1:=by rw[hW1];simp
 have HB1:=ae hb1
 have XD:=ae hk1
 clear hW1 hb1 hk1
 go_wp2_with fail
 refine(Jr ls lv W1 (Iq.o _ HB1.o) Tv.o).mono ?_
 rintro e W2 ⟨rfl,hb⟩
 have HB2:=ae (bg HB1.o hb)
 have HK2:=ae ((hb.block _ (by omega)).trans XD.o)
 have hs2:=hb.size
 obtain⟨q,hq⟩: ∃q,fH ls=q:=⟨_,rfl⟩
 rw[hq]
 have HQ:=ae hq
 clear hq hb
 by_cases hz:q=0
 ·subst hz
  have HLL:=ae (BX HQ.o)
  have HPL:=ae (xu lv ls W2 (Iq.o _ HB2.o) (HE.o _ HB2.o) (fun l hl=>by have:=HLL.o.2 l hl;omega) (by have:=HLL.o.1;omega) (w.heap.size::Qs) (fun m hm=>by
   rcases gY.1 hm with rfl|hm
   ·omega
   ·have:=hQs m hm;omega))
  go_wp2_with fail
  refine HPL.o.mono ?_
  rintro e W3 ⟨hb3,V,es,cv,rfl,hX,hC⟩
  obtain⟨co,cc,rfl⟩:=aV hC
  have hs3:=hb3.size
  rename_i hK
  refine hK _ _ ?_
  refine aO rfl _ (by go_simp;first|rfl|exact⟨rfl,rfl⟩) ?_
  simp only[zp]
  refine aO rfl _ (by go_simp;first|rfl|exact⟨rfl,rfl⟩) ?_
  simp only[zp]
  refine aO rfl _ (by go_simp;first|rfl|exact⟨rfl,rfl⟩) ?_
  simp only[zp]
  have hk3:=(hb3.block _ (by omega)).trans HK2.o
  have hS3:=hX W3 (Ext.refl _ _)
  refine wpList_store_row rfl _ _ _ rfl w.heap.size (dL (fJ bH dX ls).1 V) (by as_aux_lemma=>kernel_rfl) (by as_aux_lemma=>kernel_rfl) _ eG hk3 (by kernel_rfl) (by as_aux_lemma=>kernel_rfl) (by rw[ny];exact fun u hu=>iR hS3 u (nR.2 hu)) ?_
  simp only[zp]
  refine jX fun W4 Em=>?_
  have Ug:Ext [w.heap.size] W3 W4:=by rw[Em];exact fP
  have hb4:=je (bg HB2.o hb3) Ug (ai _)
  have hk4:W4.heap[w.heap.size]? =some (.cells (dL (fJ bH dX ls).1 V) 46 (0,0)):=by rw[Em];exact setRow_heap _ _ _ _ _ _ hk3
  have hc4:=aB (Ms:=[w.heap.size]) hC Ug (by simp;omega)
  have hX4: ∀W',Ext (w.heap.size::Qs) W4 W'->oZ W' (fJ bH dX ls).1 V es:=fun W' hE'=>hX W' ((Ug.more (by simp)).trans hE')
  have H4:=ae (ag hb4 (ag hk4 (ag hc4 hX4)))
  clear Em Ug hb4 hk4 hc4 hX4 hk3 hX hC hb3 hS3 hK
  go_upto_region 5 with(fail)
  refine wp_region_lit ?_
  refine wpList_load_row rfl _ _ rfl w.heap.size rfl _ _ _ _ H4.o.2.1 Tryz.underlying46 rfl (by kernel_rfl) ?_
  simp only[zp]
  refine aO rfl _ (by go_simp;first|rfl|exact⟨rfl,rfl⟩) ?_
  simp only[zp]
  refine wpList_store_row rfl _ _ _ rfl w.heap.size (dL (fJ bH dX ls).1 V) (by as_aux_lemma=>kernel_rfl) (by as_aux_lemma=>kernel_rfl) _ _ H4.o.2.1 (by kernel_rfl) (by as_aux_lemma=>kernel_rfl) (by rw[ny];exact fun u hu=>iR (H4.o.2.2.2 W4 (Ext.refl _ _)) u (nR.2 hu)) ?_
  simp only[zp]
  refine jX fun W5 xJ=>?_
  have Ob:Ext [w.heap.size] W4 W5:=by rw[xJ];exact fP
  have hk5:W5.heap[w.heap.size]? =some (.cells (dL (fJ bH dX ls).1 V) 46 (0,0)):=by rw[xJ];exact setRow_heap _ _ _ _ _ _ H4.o.2.1
  have H5:=ae (ag (je H4.o.1 Ob (ai _)) (ag hk5 (ag (aB (Ms:=[w.heap.size]) H4.o.2.2.1 Ob (by simp;omega)) (fun W' (hE':Ext (w.heap.size::Qs) W5 W')=>H4.o.2.2.2 W' ((Ob.more (by simp)).trans hE')))))
  clear xJ Ob hk5
  go_wp2_with fail
  refine bodyPost_ret (v:= .tuple #[.agg (dL (fJ bH dX ls).1 V),.slice co ls.length cc,iv 0]) ?_ rfl ?_
  ·have q1:=run_loadVar_row (P:=Tryz.prog) W5 w.heap.size 46 46 _ (0,0) _ H5.o.2.1 Tryz.underlying46 rfl (by kernel_rfl)
   simp[results,Tryz.results13,asAddr,q1]
  ·have h5:=H5.o
   have e1:iD ls=(fJ bH dX ls).1:=by unfold iD;rw[aC HQ.o]
   have e2:xw ls=(fJ bH dX ls).2:=by unfold xw;rw[aC HQ.o]
   refine⟨h5.1,V,es,.slice co ls.length cc,?_,?_,?_⟩
   ·rw[e1,HQ.o]
   ·rw[e1];exact fun W' hE'=>h5.2.2.2 W' (hE'.more (fun m hm=>qg _ hm))
   ·rw[e2,Yk];exact cu h5.2.2.1 (by omega)
 ·go_upto_region 3 with(fail)
  refine wp_region_lit ?_
  refine aO rfl (w':=W2) (.agg eG) (by as_aux_lemma=>kernel_rfl) ?_
  simp only[zp]
  refine aO rfl _ (by go_simp;first|rfl|exact⟨rfl,rfl⟩) ?_
  simp only[zp]
  refine wpList_store_row rfl _ _ _ rfl w.heap.size eG (by as_aux_lemma=>kernel_rfl) (by as_aux_lemma=>kernel_rfl) _ eG HK2.o (by kernel_rfl) (by as_aux_lemma=>kernel_rfl) (by as_aux_lemma=>kernel_rfl) ?_
  simp only[zp]
  refine jX fun W3 hW3=>?_
  have vS:Ext [w.heap.size] W2 W3:=by rw[hW3];exact fP
  have hk3:W3.heap[w.heap.size]? =some (.cells eG 46 (0,0)):=by rw[hW3];exact setRow_heap _ _ _ _ _ _ HK2.o
  have H3:=ae (ag (je HB2.o vS (ai _)) hk3)
  clear hW3 vS hk3
  go_wp2_with fail
  refine bodyPost_ret (v:= .tuple #[.agg eG,.slice none 0 0,iv q]) ?_ rfl ?_
  ·have q1:=run_loadVar_row (P:=Tryz.prog) W3 w.heap.size 46 46 _ (0,0) _ H3.o.2 Tryz.underlying46 rfl (by kernel_rfl)
   simp[results,Tryz.results13,asAddr,q1]
  ·have e1:iD ls=zeroS:=by unfold iD;rw[ak (by rw[HQ.o];exact hz)]
   have e2:xw ls=[]:=by unfold xw;rw[ak (by rw[HQ.o];exact hz)]
   refine⟨H3.o.1,zeroV,[],.slice none 0 0,?_,?_,?_⟩
   ·rw[e1,HQ.o,PI]
   ·rw[e1];exact fun W' _=>aaK W'
   ·rw[e2];exact⟨rfl,.inl ⟨rfl,rfl⟩⟩
def I4 (ls:List aH):Int:=if fH ls=0 then gJ (iD ls).led true else fH ls
def I5 (ls:List aH):List dP:=if fH ls=0 then(if gJ (iD ls).led true=0 then Bg nY (iD ls).led (fU (iD ls).led) else[]) else[]
def IA (ls:List aH):Int:=if fH ls=0 then jA.zK (iD ls).heap else fH ls
def IB (ls:List aH):List Int:=if fH ls=0 then jA.Ru (iD ls).heap else[]
def akt (ls:List aH) (w:World) (e:Ending) (w':World):Prop:=Below w.heap.size w w'/\ ∃u,e= .returned (.tuple #[u,iv (I4 ls)])/\bM w' u (I5 ls)
def akq (ls:List aH) (w:World) (e:Ending) (w':World):Prop:=Below w.heap.size w w'/\ ∃u,e= .returned (.tuple #[u,iv (IA ls)])/\aN w' u (IB ls)
theorem Wy (lv:Value) (ls:List aH) (w:World) (hls:iO w lv ls) (hE:Env w) (hln: ∀l∈ls,l.length<=1000000):Calls Tryz.prog 30 #[lv] w (akt ls w):=by
 have Iq:=ae hls
 have HE:=ae hE
 have Tv:=ae hln
 clear hls hE hln
 obtain⟨q,hq⟩: ∃q,fH ls=q:=⟨_,rfl⟩
 have HQ:=ae hq
 go_enter Tryz.func30,Tryz.ntmps30
 go_wp2_with fail
 refine(yf lv ls w (Iq.o) (HE.o) (Tv.o) [] (by simp)).mono ?_
 rintro e W2 ⟨hb2,V,es,cv,he,hX,hC⟩
 rw[hq] at he
 subst he
 obtain⟨co,cc,rfl⟩:=aV hC
 have hs2:=hb2.size
 have hS2:=hX W2 (Ext.refl _ _)
 rename_i hK
 refine hK _ _ ?_
 refine aO rfl _ (by go_simp;first|rfl|exact⟨rfl,rfl⟩) ?_
 simp only[zp]
 refine aO rfl _ (by go_simp;first|rfl|exact⟨rfl,rfl⟩) ?_
 simp only[zp]
 refine aO rfl _ (by go_simp;first|rfl|exact⟨rfl,rfl⟩) ?_
 simp only[zp]
 refine aO rfl _ (by go_simp;first|rfl|exact⟨rfl,rfl⟩) ?_
 simp only[zp]
 obtain⟨g,hg⟩: ∃g,g=W2.heap.size:=⟨_,rfl⟩
 refine aO rfl (w':=W2.alloc (.cells eG 46 (0,0))) (.pointer (some ⟨g,0,none⟩)) (by rw[hg];go_simp;try rfl) ?_
 simp only[zp]
 have hz2:(W2.alloc (.cells eG 46 (0,0))).heap[g]? =some (.cells eG 46 (0,0)):=by rw[hg];exact ay _ _
 refine wpList_store_row rfl _ _ _ rfl g (dL (iD ls) V) (by as_aux_lemma=>kernel_rfl) (by as_aux_lemma=>kernel_rfl) _ eG hz2 (by kernel_rfl) (by as_aux_lemma=>kernel_rfl) (by rw[ny];exact fun u hu=>iR hS2 u (nR.2 hu)) ?_
 simp only[zp]
 refine jX fun W3 hW3=>?_
 obtain⟨yG,mg⟩: ∃yG,yG=W2.alloc (.cells eG 46 (0,0)):=⟨_,rfl⟩
 rw[<-mg] at hW3 hz2
 have vS:Ext [g] yG W3:=by rw[hW3];exact fP
 have hs3:=vS.size
 have hs2':yG.heap.size=g+1:=by rw[mg,hg];simp
 have nP:Below W2.heap.size W2 W3:=je (by rw[mg];exact aj (aG _ _) _) vS (by omega)
 have hk3:W3.heap[g]? =some (.cells (dL (iD ls) V) 46 (0,0)):=by rw[hW3];exact setRow_heap _ _ _ _ _ _ hz2
 have hb3:=bg hb2 nP
 have hg3:w.heap.size<=g:=by omega
 have hgs:g<W3.heap.size:=by omega
 have H3:=ae (ag hb3 (ag hk3 (hS2.below nP (ai _))))
 clear hX hC hW3 mg vS nP hb2 hS2 hz2 hK hs2 hs3 hs2' hg hb3
 clear hq
 obtain⟨vt,vn,vw,vu,vr,vh,vk,vs⟩:=V
 obtain⟨c3,f3,l3⟩:=af hk3
 by_cases hz:q=0
 rotate_left
 ·go_wp2_with fail
  go_returns
  have hqq:fH ls≠0:=by rw[HQ.o];exact hz
  have h1:I4 ls=q:=by unfold I4;rw[ak hqq,HQ.o]
  have h2:I5 ls=[]:=by unfold I5;rw[ak hqq]
  refine⟨H3.o.1,.slice none 0 0,?_,?_⟩
  ·rw[h1];simp
  ·rw[h2];exact aP.nil _ _
 ·subst hz
  have HO:=ae (O9 (iD ls).led vt vn W3 H3.o.2.2.wF H3.o.2.2.TR)
  have h1:I4 ls=gJ (iD ls).led true:=by unfold I4;rw[aC HQ.o]
  have h2:I5 ls=if gJ (iD ls).led true=0 then Bg nY (iD ls).led (fU (iD ls).led) else[]:=by unfold I5;rw[aC HQ.o]
  obtain⟨q2,hq2⟩: ∃q,gJ (iD ls).led true=q:=⟨_,rfl⟩
  rw[hq2] at h1 h2
  have HH:=ae (ag h1 h2)
  clear h1 h2
  go_wp2_with fail
  refine HO.o.mono ?_
  rintro e W4 ⟨hb4,hp⟩
  rw[hq2] at hp
  have HB4:=ae (bg H3.o.1 hb4)
  clear hb4 hq2
  rcases hp with⟨hne,rfl⟩|⟨h0,u,rfl,hu⟩
  ·have HN:=ae hne
   clear hne
   go_wp2_with fail
   go_returns
   refine⟨HB4.o,.slice none 0 0,?_,?_⟩
   ·rw[HH.o.1];simp
   ·rw[HH.o.2,ak HN.o];exact aP.nil _ _
  ·subst h0
   have HU:=ae hu
   obtain⟨uo,uc,rfl⟩:=hu.open
   clear hu
   go_wp2_with fail
   go_returns
   refine⟨HB4.o,.slice uo (Bg nY (iD ls).led (fU (iD ls).led)).length uc,?_,?_⟩
   ·rw[HH.o.1];simp
   ·rw[HH.o.2];simpa using HU.o
theorem Ij (lv:Value) (ls:List aH) (w:World) (hls:iO w lv ls) (hE:Env w) (hln: ∀l∈ls,l.length<=1000000):Calls Tryz.prog 32 #[lv] w (akq ls w):=by
 have Iq:=ae hls
 have HE:=ae hE
 have Tv:=ae hln
 clear hls hE hln
 obtain⟨q,hq⟩: ∃q,fH ls=q:=⟨_,rfl⟩
 have HQ:=ae hq
 go_enter Tryz.func32,Tryz.ntmps32
 go_wp2_with fail
 refine(yf lv ls w (Iq.o) (HE.o) (Tv.o) [] (by simp)).mono ?_
 rintro e W2 ⟨hb2,V,es,cv,he,hX,hC⟩
 rw[hq] at he
 subst he
 obtain⟨co,cc,rfl⟩:=aV hC
 have hs2:=hb2.size
 have hS2:=hX W2 (Ext.refl _ _)
 rename_i hK
 refine hK _ _ ?_
 refine aO rfl _ (by go_simp;first|rfl|exact⟨rfl,rfl⟩) ?_
 simp only[zp]
 refine aO rfl _ (by go_simp;first|rfl|exact⟨rfl,rfl⟩) ?_
 simp only[zp]
 refine aO rfl _ (by go_simp;first|rfl|exact⟨rfl,rfl⟩) ?_
 simp only[zp]
 refine aO rfl _ (by go_simp;first|rfl|exact⟨rfl,rfl⟩) ?_
 simp only[zp]
 obtain⟨g,hg⟩: ∃g,g=W2.heap.size:=⟨_,rfl⟩
 refine aO rfl (w':=W2.alloc (.cells eG 46 (0,0))) (.pointer (some ⟨g,0,none⟩)) (by rw[hg];go_simp;try rfl) ?_
 simp only[zp]
 have hz2:(W2.alloc (.cells eG 46 (0,0))).heap[g]? =some (.cells eG 46 (0,0)):=by rw[hg];exact ay _ _
 refine wpList_store_row rfl _ _ _ rfl g (dL (iD ls) V) (by as_aux_lemma=>kernel_rfl) (by as_aux_lemma=>kernel_rfl) _ eG hz2 (by kernel_rfl) (by as_aux_lemma=>kernel_rfl) (by rw[ny];exact fun u hu=>iR hS2 u (nR.2 hu)) ?_
 simp only[zp]
 refine jX fun W3 hW3=>?_
 obtain⟨yG,mg⟩: ∃yG,yG=W2.alloc (.cells eG 46 (0,0)):=⟨_,rfl⟩
 rw[<-mg] at hW3 hz2
 have vS:Ext [g] yG W3:=by rw[hW3];exact fP
 have hs3:=vS.size
 have hs2':yG.heap.size=g+1:=by rw[mg,hg];simp
 have nP:Below W2.heap.size W2 W3:=je (by rw[mg];exact aj (aG _ _) _) vS (by omega)
 have hk3:W3.heap[g]? =some (.cells (dL (iD ls) V) 46 (0,0)):=by rw[hW3];exact setRow_heap _ _ _ _ _ _ hz2
 have hb3:=bg hb2 nP
 have hg3:w.heap.size<=g:=by omega
 have hgs:g<W3.heap.size:=by omega
 have H3:=ae (ag hb3 (ag hk3 (hS2.below nP (ai _))))
 clear hX hC hW3 mg vS nP hb2 hS2 hz2 hK hs2 hs3 hs2' hg hb3
 clear hq
 obtain⟨vt,vn,vw,vu,vr,vh,vk,vs⟩:=V
 obtain⟨c3,f3,l3⟩:=af hk3
 by_cases hz:q=0
 rotate_left
 ·go_wp2_with fail
  go_returns
  have hqq:fH ls≠0:=by rw[HQ.o];exact hz
  have h1:IA ls=q:=by unfold IA;rw[ak hqq,HQ.o]
  have h2:IB ls=[]:=by unfold IB;rw[ak hqq]
  refine⟨H3.o.1,.slice none 0 0,?_,?_⟩
  ·rw[h1];simp
  ·rw[h2];exact aP.nil _ _
 ·subst hz
  have HO:=ae (jA.TC (iD ls).heap vw vu vr W3 H3.o.2.2.bV H3.o.2.2.Ef H3.o.2.2.MO)
  have h1:IA ls=jA.zK (iD ls).heap:=by unfold IA;rw[aC HQ.o]
  have h2:IB ls=jA.Ru (iD ls).heap:=by unfold IB;rw[aC HQ.o]
  obtain⟨q2,hq2⟩: ∃q,jA.zK (iD ls).heap=q:=⟨_,rfl⟩
  rw[hq2] at h1
  have HH:=ae (ag h1 h2)
  clear h1 h2
  go_wp2_with fail
  refine HO.o.mono ?_
  rintro e W4 ⟨u,he,hu,hb4⟩
  rw[hq2] at he
  subst he
  have HB4:=ae (bg H3.o.1 hb4)
  have HU:=ae hu
  obtain⟨uo,uc,rfl⟩:=hu.open
  clear hb4 hq2 hu
  go_wp2_with fail
  go_returns
  refine⟨HB4.o,.slice uo (jA.Ru (iD ls).heap).length uc,?_,?_⟩
  ·rw[HH.o.1];simp
  ·rw[HH.o.2];exact HU.o
end Go.Proofs.YthbpmepjmebolaaGreatDoor.Bk
end
section
namespace Go.Proofs.YthbpmepjmebolaaGreatDoor.Bk
open Go.RowKit Go.RG Go.SL Go.Shelf ji Go.TB Go.Proofs.YthbpmepjmebolaaGreatDoor.yR
def wM (xs:List Value):Prop:= ∀u∈xs, ∃k,u= .int .u8 k
theorem XN (s:ByteArray):wM (Lib.strCells s):=fun u hu=>by
 simp only[Lib.strCells,iW] at hu
 obtain⟨b,_,rfl⟩:=hu
 exact⟨_,rfl⟩
theorem JP {a b:List Value} (ha:wM a) (hb:wM b):wM (a++b):=fun u hu=>by
 rcases iK.1 hu with h|h
 ·exact ha u h
 ·exact hb u h
theorem aaM (n:Nat):wM (Builtin.zeroCells (Value.int .u8 0).cells n).toList:=fun u hu=>by
 have:u∈(Builtin.zeroCells (Value.int .u8 0).cells n):=nR.1 hu
 obtain⟨i,hi,rfl⟩:=Array.mem_iff_getElem.1 this
 refine⟨0,?_⟩
 simp[Builtin.zeroCells,Value.cells,Nat.mod_one]
section
variable {P : Program} {w : World}
theorem D9 (base:Nat) (t u ty e:TypeId) (i:TypeInfo) (ht:P.underlying t=some (.slice e)) (hu:P.underlying u=some .string) (hi:P.info? e=some i) (hz:i.zero=some (.int .u8 0))
 (hsize:i.size=1) (hby:i.bytes=1)
 (v:Value) (n:Nat) (xs:List Value) (hown:w.ownsRow base e 1 v n xs) (hU: ∀q,v.ownBlock=some q-> ∀cs t f,w.heap[q]? =some (.cells cs t f)->wM cs.toList) (s:ByteArray)
 (h63:n+s.size<=maxLen) (hbytes:n+s.size<=140737488355328) (hbase:base<=w.heap.size):
 ∃v' w',(Builtin.append_ #[t,u] ty #[v,.string s]).run P w= .ok v' w'/\w'.ownsRow base e 1 v' (n+s.size) (xs++Lib.strCells s)/\w.grownBy w' v.ownBlock/\
  (∀q,v'.ownBlock=some q-> ∀cs t f,w'.heap[q]? =some (.cells cs t f)->wM cs.toList):=by
 have hsmall:n+s.size<=9223372036854775807:=by simp only[maxLen] at h63;omega
 have hxl:xs.length=n:=by simpa using hown.1
 have hlen:(xs++Lib.strCells s).length=(n+s.size)*1:=by rw[dm,hxl,Lib.strCells_length,Nat.mul_one]
 have hxU:wM xs:=by
  rcases hown.2 with⟨rfl,rfl⟩|⟨g,cap,cur,rfl,hbg,hg,hnc,hcm,hcs,htake⟩
  ·have:xs=[]:=jT hxl
   subst this
   exact fun u hu=>by cases hu
  ·have:=hU g rfl cur e (0,0) hg
   rw[<-htake]
   exact fun u hu=>this u (oW hu)
 have grown: ∀(old:Nat),old<n+s.size-> ∀(row:Option Nat),
  (w.drew.alloc (.cells (xs.toArray++(Lib.strCells s).toArray++Builtin.zeroCells (Value.int .u8 0).cells (grownCap w (n+s.size) old e-(n+s.size))) e)).ownsRow base e 1
    (.slice (some ⟨w.heap.size,0,none⟩) (n+s.size) (grownCap w (n+s.size) old e)) (n+s.size) (xs++Lib.strCells s)/\
  w.grownBy (w.drew.alloc (.cells (xs.toArray++(Lib.strCells s).toArray++Builtin.zeroCells (Value.int .u8 0).cells (grownCap w (n+s.size) old e-(n+s.size))) e)) row/\
  ∀cs t f,(w.drew.alloc (.cells (xs.toArray++(Lib.strCells s).toArray++Builtin.zeroCells (Value.int .u8 0).cells (grownCap w (n+s.size) old e-(n+s.size))) e)).heap[w.heap.size]? =some (.cells cs t f)->wM cs.toList:=by
  intro old ho row
  have hge:=grownCap_ge w (n+s.size) old e
  have hcm:grownCap w (n+s.size) old e<=maxLen:=grownCap_le_maxLen w (n+s.size) old e h63
  refine⟨⟨hlen,.inr ⟨w.heap.size,_,_,rfl,hbase,heap_alloc_new w.drew _,hge,hcm,?_,?_⟩⟩,⟨rfl,rfl,rfl,by simp,fun k hk _=>heap_alloc_old w.drew _ hk⟩,fun cs t f h=>?_⟩
  ·have hz1:(Value.int IntKind.u8 0).cells.size=1:=rfl
   simp only[Array.size_append,List.size_toArray,size_zeroCells,hz1,hxl,Lib.strCells_length]
   omega
  ·simp only[Array.toList_append,List.append_assoc]
   rw[<-List.append_assoc, <-hlen]
   exact List.take_left
  ·have h2:=(heap_alloc_new w.drew (.cells (xs.toArray++(Lib.strCells s).toArray++Builtin.zeroCells (Value.int .u8 0).cells (grownCap w (n+s.size) old e-(n+s.size))) e)).symm.trans h
   simp only[Option.some.injEq,Obj.cells.injEq] at h2
   rw[<-h2.1]
   simp only[Array.toList_append]
   exact JP (JP hxU (XN s)) (aaM _)
 rcases hown.2 with⟨rfl,rfl⟩|⟨g,cap,cur,rfl,hbg,hg,hnc,hcm,hcs,htake⟩
 ·have hx:xs=[]:=jT hxl
  subst hx
  by_cases hm:s.size=0
  ·have hn:Lib.strCells s=[]:=jT (by rw[Lib.strCells_length];exact hm)
   refine⟨.slice none 0 0,w,?_,by rw[hm,hn];exact World.ownsRow_nil w base e 1,⟨rfl,rfl,rfl,ai _,fun _ _ _=>rfl⟩,fun q hq=>by cases hq⟩
   have hf:=Lib.run_firstCells_string (P:=P) w 1 s
   rw[hm] at hf
   simp[Builtin.append_,run_underlying ht,run_underlying hu,sizeOf,typeInfo,hi,hsize,Builtin.lenOf,hm,hf]
  ·have hr:=run_append_nil_string (P:=P) w t u ty e i (.int .u8 0) ht hu hi hz s (by omega) (by omega) (by rw[hby];omega)
   have hgr:=grown 0 (by omega) (Value.ownBlock (.slice none 0 0))
   simp only[Nat.zero_add,List.nil_append,Array.empty_append] at hgr⊢
   have e1:(s.data.map fun b=>Value.int .u8 b.toNat)=(Lib.strCells s).toArray:=by
    apply Array.ext'
    simp[Lib.strCells]
   rw[e1] at hr
   refine⟨_,_,hr,hgr.1,hgr.2.1,fun q hq=>?_⟩
   obtain rfl:=jw hq
   exact hgr.2.2
 ·by_cases hroom:n+s.size<=cap
  ·have hcs':cur.size=cap:=by simpa using hcs
   have hr:=Lib.run_append_room_string (P:=P) w t u ty e i ht hu hi hsize g n cap cur hg s hroom (by omega)
   refine⟨_,_,hr,⟨hlen,.inr ⟨g,cap,_,rfl,hbg,setRow_heap w g cur _ e _ hg,hroom,hcm,?_,?_⟩⟩,⟨rfl,rfl,rfl,by simp,fun k _ hk=>setRow_other w g k _ (fun e=>hk (by simp[Value.ownBlock,e]))⟩,fun q hq cs t f h=>?_⟩
   ·simp only[List.size_toArray,dm,gK,kY,Array.length_toList,Lib.strCells_length]
    omega
   ·have ht':cur.toList.take n=xs:=by simpa using htake
    rw[ht', <-hlen]
    exact List.take_left
   ·obtain rfl:=jw hq
    rw[setRow_heap w g cur _ e _ hg] at h
    simp only[Option.some.injEq,Obj.cells.injEq] at h
    rw[<-h.1]
    have hc:=hU g rfl cur e (0,0) hg
    exact JP (JP (fun u hu=>hc u (oW hu)) (XN s)) (fun u hu=>hc u (List.mem_of_mem_drop hu))
  ·have holds: ∀j u,xs[j]? =some u->w.cell? ((⟨g,0,none⟩:Addr).add j)=some u:=hown.cells (g:=g) rfl
   have hr:=Lib.run_append_grow_string (P:=P) w t u ty e i (.int .u8 0) ht hu hi hz ⟨g,0,none⟩ n cap xs (by rw[hsize];simpa using hxl) holds s (by omega) (by omega) (by rw[hby];exact growslice_fits (by omega) (by omega))
   have hgr:=grown cap (by omega) (Value.ownBlock (.slice (some ⟨g,0,none⟩) n cap))
   refine⟨_,_,hr,hgr.1,hgr.2.1,fun q hq=>?_⟩
   obtain rfl:=jw hq
   exact hgr.2.2
theorem zf {ops:Array Oper} {rest:List Oper} {o:Oper} {a:Act} {Q:Exit->Act->World->Prop} (hgd:o.guard=none) (sl x:Operand) (t u:TypeId)
 (ho:o.op= .call {callee:= .builtin .append,args:= #[sl,x],argTypes:= #[t,u]})
 (base:Nat) (e:TypeId) (i:TypeInfo) (ht:P.underlying t=some (.slice e)) (hu:P.underlying u=some .string) (hi:P.info? e=some i) (hz:i.zero=some (.int .u8 0))
 (hsize:i.size=1) (hby:i.bytes=1)
 (v:Value) (n:Nat) (xs:List Value) (hs:a.eval sl=v) (hown:w.ownsRow base e 1 v n xs) (hU: ∀q,v.ownBlock=some q-> ∀cs t f,w.heap[q]? =some (.cells cs t f)->wM cs.toList) (s:ByteArray) (hx:a.eval x= .string s)
 (h63:n+s.size<=maxLen) (hbytes:n+s.size<=140737488355328) (hbase:base<=w.heap.size)
 (h: ∀v' w',w'.ownsRow base e 1 v' (n+s.size) (xs++Lib.strCells s)->w.grownBy w' v.ownBlock->(∀q,v'.ownBlock=some q-> ∀cs t f,w'.heap[q]? =some (.cells cs t f)->wM cs.toList)->wpList P ops Q rest (a.put o.dst v') w'):wpList P ops Q (o::rest) a w:=by
 refine wpList_plain hgd fun K hK=>?_
 obtain⟨v',w',hr,h2,h3,h4⟩:=D9 (P:=P) base t u o.type e i ht hu hi hz hsize hby v n xs hown hU s h63 hbytes hbase
 unfold Oper.wp execOp
 simp only[ho,resolve,invoke,builtin,Sem.run_bind,Sem.run_pure,Result.andThen_ok,List.map_toArray,List.map_cons,List.map_nil,hs,hx,hr]
 exact hK _ _ (h v' w' h2 h3 h4)
end
def Bz (B b:Nat) (p:Value) (bs:aH) (w:World):Prop:=
 B<=b/\ ∃v,w.heap[b]? =some (.cells #[p,v] 133 (0,0))/\w.ownsRow B 5 1 v bs.length (Lib.byteCells bs)/\v.ownBlock≠some b/\ ∀q,v.ownBlock=some q-> ∀cs t f,w.heap[q]? =some (.cells cs t f)->wM cs.toList
def Buf (B b:Nat) (bs:aH) (w:World):Prop:=Bz B b (.pointer none) bs w∨Bz B b (.pointer (some ⟨b,0,none⟩)) bs w
theorem Bz.at_ {B b:Nat} {p:Value} {bs:aH} {w:World} (h:Bz B b p bs w):Lib.BuilderAt 133 5 B b p (Lib.byteCells bs) w:=by
 obtain⟨h1,v,h2,h3,h4,_⟩:=h
 exact⟨h1,v,h2,by rw[Lib.byteCells_length];exact h3,h4⟩
theorem Buf.is {B b:Nat} {bs:aH} {w:World} (h:Buf B b bs w):Lib.IsBuilder 133 5 B b (Lib.byteCells bs) w:=h.imp Bz.at_ Bz.at_
theorem Bz.below {B b:Nat} {p:Value} {bs:aH} {w W:World} (h:Bz B b p bs w) (hb:Below w.heap.size w W):Bz B b p bs W:=by
 obtain⟨h1,v,h2,h3,h4,h5⟩:=h
 have hlt:=(aT.1 h2).1
 refine⟨h1,v,(hb.block b hlt).trans h2,aB (Ms:=[]) h3 (Ext.az hb) (by simp),h4,fun q hq cs t f hc=>?_⟩
 rw[hb.block q (bG h3 q hq).2] at hc
 exact h5 q hq cs t f hc
theorem Buf.below {B b:Nat} {bs:aH} {w W:World} (h:Buf B b bs w) (hb:Below w.heap.size w W):Buf B b bs W:=h.imp (fun x=>x.below hb) (fun x=>x.below hb)
structure Wr (B:Nat) (w w':World):Prop where
 below:Below B w w'
 size:w.heap.size<=w'.heap.size
 ints: ∀k,k<w.heap.size->(∃o n,w.cell? ⟨k,o,none⟩=some (iv n))->w'.heap[k]? =w.heap[k]?
theorem Wr.refl (B:Nat) (w:World):Wr B w w:=⟨aG _ _,ai _,fun _ _ _=>rfl⟩
theorem Wr.trans {B:Nat} {a b c:World} (h:Wr B a b) (k:Wr B b c):Wr B a c:=
 ⟨h.below.trans k.below,ja h.size k.size,fun i hi hc=>by
   have h1:=h.ints i hi hc
   obtain⟨o,n,hc⟩:=hc
   exact(k.ints i (gy hi h.size) ⟨o,n,by rw[iY (w:=a) h1];exact hc⟩).trans h1⟩
theorem Wr.az {B:Nat} {w w':World} (h:Below w.heap.size w w') (hB:B<=w.heap.size):Wr B w w':=⟨h.mono hB,h.size,fun k hk _=>h.block k hk⟩
theorem Wr.list {B:Nat} {w w':World} (h:Wr B w w') {size:Nat} {v:Value} {n:Nat} {xs:List Value} (hs:aP size w v n xs) (hi: ∀u∈xs, ∃k,u=iv k):aP size w' v n xs:=by
 obtain⟨hl,o,c,rfl,h1,h2,h3,h4⟩:=hs
 refine⟨hl,o,c,rfl,h1,h2,h3,fun a ha=>?_⟩
 obtain⟨hs,hc⟩:=h4 a ha
 obtain⟨b,off,sp⟩:=a
 simp only at hs hc
 subst hs
 refine⟨rfl,fun j u hj=>?_⟩
 have hcell:=hc j u hj
 obtain⟨k,rfl⟩:=hi u (mO hj)
 rw[iY (w:=w) (h.ints b (dF w _ hcell) ⟨_,_,hcell⟩)]
 exact hcell
theorem abk (l:List Int): ∀u∈ah l, ∃k,u=iv k:=fun u hu=>by
 obtain⟨k,_,rfl⟩:=iW.1 hu
 exact⟨k,rfl⟩
theorem Au (l:List dP): ∀u∈aF l, ∃k,u=iv k:=fun u hu=>by
 obtain⟨r,_,h⟩:=qc.1 hu
 rcases gY.1 h with rfl|h
 ·exact⟨_,rfl⟩
 ·obtain rfl:=eY.1 h
  exact⟨_,rfl⟩
theorem Bz.Yz {B b:Nat} {p:Value} {bs:aH} {w:World} (h:Bz B b p bs w) (hp: ∀n,p≠iv n) {o:Nat} {n:Int}:w.cell? ⟨b,o,none⟩≠some (iv n):=by
 obtain⟨h1,v,h2,h3,_⟩:=h
 intro e
 rw[Lib.cell_of_heap h2] at e
 match o with
 |0=>exact hp n (by simpa using e)
 |1=>
  have e':v=iv n:=by simpa using e
  rcases h3.2 with⟨hv,_⟩|⟨g,cap,cur,hv,_⟩ <;>rw[hv] at e' <;>cases e'
 |o+2=>simp at e
theorem Bz.wr {B b:Nat} {p:Value} {bs:aH} {w w':World} (h:Bz B b p bs w) (hp: ∀n,p≠iv n) {v:Value} (hv:w.cell? ⟨b,1,none⟩=some v) (hb:Below B w w') (hs:w.heap.size<=w'.heap.size)
 (hk: ∀k,k<w.heap.size->k≠b->v.ownBlock≠some k->w'.heap[k]? =w.heap[k]?):Wr B w w':=by
 refine⟨hb,hs,fun k hk' hc=>?_⟩
 obtain⟨o,n,hc⟩:=hc
 refine hk k hk' (fun e=>?_) (fun e=>?_)
 ·subst e;exact h.Yz hp hc
 ·obtain⟨h1,v',h2,h3,h4,h5⟩:=h
  rw[Lib.cell_of_heap h2] at hv
  obtain rfl:v'=v:=by simpa using hv
  rcases h3.2 with⟨hv,_⟩|⟨g,cap,cur,hv,_,hg,_⟩
  ·rw[hv] at e;cases e
  ·rw[hv] at e
   obtain rfl:g=k:=by simpa [Value.ownBlock] using e
   rw[Lib.cell_of_heap hg] at hc
   obtain⟨k',hk'⟩:=h5 g (by rw[hv];rfl) cur _ _ hg (iv n) (by rw[nR];exact Array.mem_of_getElem? hc)
   cases hk'
theorem OZ (b:Nat) (w:World) (h0:w.cell? ⟨b,0,none⟩=some (.pointer (some ⟨b,0,none⟩))):
 Calls Tryz.prog 102 #[.pointer (some ⟨b,0,none⟩)] w fun e w'=>e= .returned (.tuple #[])/\w'=w:=by
 obtain⟨j,hj,hjs⟩:=Option.map_eq_some_iff.1 (show(Tryz.prog.info? 133).map (·.size)=some 2 by kernel_rfl)
 go_enter Tryz.func102,Tryz.ntmps102
 go_wp2
 rw[Lib.run_neq_ptr_same w _ Tryz.underlying131 hj]
 go_wp2
 go_end0
 exact⟨rfl,rfl⟩
theorem Lp (b:Nat) (w:World) (h0:w.cell? ⟨b,0,none⟩=some (.pointer none)) (hsh:w.shape? b=some (133,2)) (hfz:w.frozen? ⟨b,0,none⟩=false):
 Calls Tryz.prog 102 #[.pointer (some ⟨b,0,none⟩)] w fun e w'=>e= .returned (.tuple #[])/\w'=w.setCell ⟨b,0,none⟩ (.pointer (some ⟨b,0,none⟩)):=by
 obtain⟨j,hj,hjs⟩:=Option.map_eq_some_iff.1 (show(Tryz.prog.info? 133).map (·.size)=some 2 by kernel_rfl)
 go_enter Tryz.func102,Tryz.ntmps102
 go_wp2
 rw[Lib.run_to_unsafe w ⟨b,0,none⟩ Tryz.underlying131 Tryz.underlying258 hj (by rw[hjs];decide) hsh (Nat.zero_lt_succ 1)]
 simp only[Result.andThen]
 rw[Oper.upon_value]
 go_wp2
 rw[run_callFunc_extern Tryz.func168 (by kernel_rfl) (by kernel_rfl) (by kernel_rfl) (e:=Extern.AbiNoEscape.same) (by kernel_rfl)]
 rw[Lib.run_noEscape]
 simp only[Result.andThen]
 rw[Oper.upon_value]
 go_wp2
 rw[Lib.run_from_unsafe w ⟨b,0,none⟩ Tryz.underlying258 Tryz.underlying131 hj hsh (by kernel_rfl)]
 simp only[Result.andThen]
 rw[Oper.upon_value]
 go_wp2
 go_end0
 exact⟨rfl,rfl⟩
theorem SG (B b:Nat) (bs:aH) (w:World) (h:Buf B b bs w):
 Calls Tryz.prog 102 #[.pointer (some ⟨b,0,none⟩)] w fun e w'=>e= .returned (.tuple #[])/\Bz B b (.pointer (some ⟨b,0,none⟩)) bs w'/\Wr B w w':=by
 rcases h with h|h
 ·refine(Lp b w h.at_.cell0 h.at_.shape h.at_.frozen0).mono ?_
  rintro e w' ⟨rfl,rfl⟩
  have hlt:=h.at_.lt
  have hw:Wr B w (w.setCell ⟨b,0,none⟩ (.pointer (some ⟨b,0,none⟩))):=
   ⟨(aG B w).setCell (p:=⟨b,0,none⟩) h.1 _,by simp[World.setCell],fun k hk hc=>by
     obtain⟨o,n,hc⟩:=hc
     refine dB _ _ _ _ (fun e=>?_)
     subst e
     exact h.Yz (fun _ e=>by cases e) hc⟩
  obtain⟨h1,v,h2,h3,h4,h5⟩:=h
  refine⟨rfl,⟨h1,v,?_,?_,h4,fun q hq cs t f hc=>?_⟩,hw⟩
  ·simp[World.setCell,Array.getElem?_modify,h2]
  ·exact h3.kept (row:=some b) ⟨rfl,rfl,rfl,by simp[World.setCell],fun k _ hk=>dB _ _ _ _ (fun e=>hk (by simp[e]))⟩ (Or.inr h4)
  ·rw[dB _ _ _ _ (fun e=>h4 (by rw[hq,e]))] at hc
   exact h5 q hq cs t f hc
 ·refine(OZ b w h.at_.cell0).mono ?_
  rintro e w' ⟨rfl,rfl⟩
  exact⟨rfl,h,Wr.refl _ _⟩
theorem uI (B b:Nat) (bs s:aH) (w:World) (h:Buf B b bs w) (hBw:B<=w.heap.size) (hlen:bs.length+s.length<=1000000):
 Calls Tryz.prog 58 #[.pointer (some ⟨b,0,none⟩),.string (fD s)] w fun e w'=>(∃v,e= .returned v)/\Buf B b (bs++s) w'/\Wr B w w':=by
 have hsz:(fD s).size=s.length:=by simp[ByteArray.size]
 obtain⟨i0,hi,hz0,hz1,hz2⟩:=info_parts (show(Tryz.prog.info? 5).map (fun i=>(i.zero,i.size,i.bytes))=some (some (.int .u8 0),1,1) by kernel_rfl)
 have HC:=ae (SG B b bs w h)
 clear h
 go_enter Tryz.func58,Tryz.ntmps58
 go_wp2_with fail
 refine HC.o.mono ?_
 rintro e w1 ⟨rfl,h1,hw1⟩
 have hp: ∀n,(Value.pointer (some ⟨b,0,none⟩))≠iv n:=fun _ e=>by cases e
 have HA:=ae h1
 obtain⟨hB,v,hbk,hown,hne,hU⟩:=h1
 have c0:w1.cell? ⟨b,0,none⟩=some (.pointer (some ⟨b,0,none⟩)):=by rw[Lib.cell_of_heap hbk];rfl
 have c1:w1.cell? ⟨b,1,none⟩=some v:=by rw[Lib.cell_of_heap hbk];rfl
 go_wp2_with (at_builtin;refine zf rfl _ _ 83 9 rfl B 5 i0 Tryz.underlying83 Tryz.underlying9 hi hz0 hz1 hz2 _ _ _ rfl hown hU (fD s) rfl ?c3 ?c4 ?c5 ?_)
 case c3=>rw[hsz];unfold maxLen;omega
 case c4=>rw[hsz];omega
 case c5=>have:=hw1.size;omega
 intro v' w2 hown' hgrow hU'
 have hlt:b<w1.heap.size:=(aT.1 hbk).1
 have hb2:w2.heap[b]? =some (.cells #[.pointer (some ⟨b,0,none⟩),v] 133 (0,0)):=by
  rw[hgrow.block b hlt (fun e=>hne e.symm)]
  exact hbk
 have d0:w2.cell? ⟨b,0,none⟩=some (.pointer (some ⟨b,0,none⟩)):=by rw[Lib.cell_of_heap hb2];rfl
 have d1:w2.cell? ⟨b,1,none⟩=some v:=by rw[Lib.cell_of_heap hb2];rfl
 have f1:w2.frozen? ⟨b,1,none⟩=false:=Lib.frozen_of_heap hb2 1
 obtain⟨ao,n',cap,rfl⟩: ∃ao n' cap,v'= .slice ao n' cap:=by
  rcases hown'.2 with⟨hv,_⟩|⟨g,cap,cur,hv,_⟩
  ·exact⟨_,_,_,hv⟩
  ·exact⟨_,_,_,hv⟩
 have hne':=Lib.ownBlock_ne hown' hb2 (show 133≠5 by decide)
 have HG:=ae (ag hown' (ag hgrow (ag hU' (ag hw1 (ag c1 (ag hown hb2))))))
 clear hown' hgrow hU' hw1 hU hb2 hown
 go_wp2
 go_ret2
 obtain⟨hown',hgrow,hU',hw1,c1',hown,hb2⟩:=HG.o
 refine⟨⟨_,rfl⟩,.inr ⟨hB,_,?_,?_,hne',fun q hq cs t f hc=>?_⟩,hw1.trans (HA.o.wr hp c1' ?_ ?_ ?_)⟩
 ·simp[World.setCell,Array.getElem?_modify,hb2]
 ·have h3:w2.ownsRow B 5 1 (.slice ao n' cap) (bs++s).length (Lib.byteCells (bs++s)):=by
   rw[dm,Lib.byteCells_append, <-hsz]
   exact hown'
  exact h3.kept (row:=some b) ⟨rfl,rfl,rfl,by simp[World.setCell],fun k _ hk=>dB _ _ _ _ (fun e=>hk (by simp[e]))⟩ (Or.inr hne')
 ·rw[dB _ _ _ _ (fun e=>hne' (by rw[hq,e]))] at hc
  first|exact hU' q hq cs t f hc|exact hU' q hq cs t f.1 f.2 hc
 ·exact((aG B w1).grown hgrow (by have:=hw1.size;omega) (fun k hk=>(hown.lt k hk).1)).setCell (p:=⟨b,1,none⟩) hB _
 ·have:=hgrow.size;simp[World.setCell];omega
 ·intro k hk hkb hkv
  exact(dB _ _ _ _ (fun e=>hkb e)).trans (hgrow.block k hk (fun e=>hkv e.symm))
end Go.Proofs.YthbpmepjmebolaaGreatDoor.Bk
end

/-
  Texts of this claim, packed by a program: DQ DR DS DT DU DW DV DX DY DZ EA EB EE.
-/
import Derived.WalkKit
import Derived.WalkLawsBesides
import Derived.WalkSpells
import Derived.Outline
import Derived.Handy
import Derived.KernelRfl
import Derived.Lib.Hide
import Derived.Deep.Cut
import Derived.Lib.AtoiAllCases
import Derived.Lib.SplitLaws
import Derived.Lib.IndexBytes
import Derived.Defers
import Derived.Recover
import Derived.Laws.Pointers
import Derived.Laws.Tables
import Derived.Lib.Builder
import Derived.Lib.AppendStr
import Derived.Lib.UnsafeStr
import Derived.Laws.Externs
import Derived.Test.YthbpmepjmebolaaGreatDoorPU13
set_option maxHeartbeats 8000000
set_option maxRecDepth 100000
set_option linter.all false
section
namespace Go.Proofs.YthbpmepjmebolaaGreatDoor.Bk
open Go.RowKit Go.RG Go.SL Go.Shelf jv Go.TB Go.Proofs.YthbpmepjmebolaaGreatDoor.zF
def Ef (s:jF) (V:SV) (n:Nat) (kc:List Value):List Row:=
 [⟨118,5,V.vO,s.led.field.ax.length,dS s.led.field.ax⟩,⟨120,3,V.QL,s.led.notes.length,aX s.led.notes⟩,
   ⟨34,2,V.bW,s.heap.bW.length,aH s.heap.bW⟩,⟨3,1,V.Fg,s.heap.turns.length,ah s.heap.turns⟩,⟨122,3,V.Eh,s.heap.readings.length,aX s.heap.readings⟩,
   ⟨112,2,V.hps,s.dn.heaps.length,aH s.dn.heaps⟩,⟨36,1,V.cks,n,kc⟩,⟨124,4,V.trs,s.dn.aK.length,gV s.dn.aK⟩]
theorem V5 (s:jF) (V:SV) (es:List KE):iR s V es=Ef s V es.length (fD es)++es.map zJ:=rfl
theorem V3 (s:jF) (V:SV) (n:Nat) (kc kc':List Value) (X:List Row):(Ef s V n kc++X).set 6 ⟨36,1,V.cks,n,kc'⟩=Ef s V n kc'++X:=rfl
theorem C9 (s:jF) (V:SV) (n:Nat) (kc:List Value) (X:List Row):(Ef s V n kc++X)[6]? =some ⟨36,1,V.cks,n,kc⟩:=rfl
theorem JQ {w:World} {N:Nat} {t:TypeId} {size:Nat} {v:Value} {n:Nat} {xs:List Value} (h:w.ownsRow N t size v n xs) {g:Nat} (hg:v.ownBlock=some g): ∃cur,w.heap[g]? =some (.cells cur t (0,0)):=by
 obtain⟨h1,⟨rfl,h2⟩|⟨g',c,cs,rfl,hb,hc,h3⟩⟩:=h
 ·cases hg
 ·cases hg;exact⟨cs,hc⟩
theorem xQ.ZA {N:Nat} {w:World} {bx:Nat} {R:List Row} (hbx:bx<w.heap.size) (hN:N<=bx) (hown: ∀r∈R,w.ownsRow (bx+1) r.t r.size r.v r.n r.xs) (hnd:(R.map (·.t)).Nodup):xQ N w bx R where
 own i r hr:=dh (hown r (nJ hr)) (by omega)
 apart i j a b ha hb hij:=by
  rcases hq:a.v.ownBlock with _|g
  ·exact .inl rfl
  ·refine .inr fun e=>?_
   obtain⟨c1,h1⟩:=JQ (hown a (nJ ha)) hq
   obtain⟨c2,h2⟩:=JQ (hown b (nJ hb)) e.symm
   rw[h1] at h2
   have ht:a.t=b.t:=by injection h2 with h2;injection h2
   refine hij ((List.getElem?_inj (i:=i) (j:=j) (by simpa using(ji.1 ha).1:i<(R.map (·.t)).length) hnd).1 ?_)
   rw[qC,qC,ha,hb,Option.map_some,Option.map_some,ht]
 off i r hr e:=by
  have:=((hown r (nJ hr)).lt bx e).1
  omega
 lt:=hbx
 base:=hN
theorem xQ.move {N:Nat} {w W:World} {bx wb:Nat} {R:List Row} (h:xQ N w bx R) (hE:Ext [] w W) (hwb:w.heap.size<=wb) (hlt:wb<W.heap.size):xQ N W wb R where
 own i r hr:=aB (h.own i r hr) hE (by simp)
 apart:=h.apart
 off i r hr e:=by have:=((h.own i r hr).lt wb e).2;omega
 lt:=hlt
 base:=by have:=h.base;have:=h.lt;omega
theorem ab5 {w:World} {v:Value} {es:List KE} (h:wG w v es): ∀u∈fD es,u.oneCell'=true:=by
 intro u hu
 obtain⟨e,he,rfl⟩:=iZ.1 hu
 obtain⟨o,c,hv⟩:=aN.open (h.2 e he)
 rw[hv];rfl
theorem FW (s:jF) (V:SV) (es:List KE) (w:World) (hS:oG w s V es) (hG:gu s):Calls Tryz.prog 114 #[.agg (dw s V)] w
 (fun e w'=>Below w.heap.size w w'/\ ∃wb V' es',e= .returned (.pointer (some ⟨wb,0,none⟩))/\jV w.heap.size w' wb s V' es'):=by
 obtain⟨vt,vn,vw,vu,vr,vh,vk,vs⟩:=V
 have HS:Hid (∀W,Below w.heap.size w W->oG W s ⟨vt,vn,vw,vu,vr,vh,vk,vs⟩ es):=ae (fun W hb=>hS.below hb (ak _))
 have hek:es.length=s.dn.aT.length:=hS.dn.len
 have jA:=ae (ab5 hS.dn.aT)
 have HG:=ae hG
 have hl5:=hG.Ae
 have hn5:=hG.notes
 have hw5:=hG.VJ
 have L9:=hG.reads
 have hh3:=hG.Uh
 have hk3:=hG.aT
 have ht5:=hG.aK
 have hu5:s.heap.turns.length<=5:=by obtain⟨p,hp⟩:=hG.turns;rw[hp];exact Dl p
 have hke:es.length<=3:=by omega
 have hwl:s.heap.bW.length<=5:=by omega
 have HEK:=ae hek
 clear hS hG hek hw5
 go_enter Tryz.func114,Tryz.ntmps114
 go_wp2_with fail
 refine dF fun W1 hW1=>?_
 have hb1:W1.heap[w.heap.size]? =some (.cells (dw s ⟨vt,vn,vw,vu,vr,vh,vk,vs⟩) 46 (0,0)):=by rw[hW1];exact ay _ _
 have HB1:=ae (show Below w.heap.size w W1 from by rw[hW1];exact aj (aG _ _) _)
 have hsz1:w.heap.size<W1.heap.size:=(aV.1 hb1).1
 obtain⟨c1,f1,l1⟩:=af hb1
 have UL:=ae hb1
 clear hW1 hb1
 refine RX.gB (fun _ _=>False) 10 [] none [(5,⟨fun _ v=> ∃o c,v= .slice o s.led.field.ax.length c,fun _ v Wx=>Wx.ownsRow W1.heap.size 118 5 v s.led.field.ax.length (dS s.led.field.ax)⟩),(9,⟨fun _ v=> ∃o c,v= .slice o s.led.notes.length c,fun _ v Wx=>Wx.ownsRow W1.heap.size 120 3 v s.led.notes.length (aX s.led.notes)⟩)] (by rintro ps a1 Wx hdf h;exact h.elim) (by as_aux_lemma=>kernel_rfl) (by as_aux_lemma=>kernel_rfl) ?_
 simp only[zt]
 repeat (refine RX.zd ?_;simp only[zp])
 refine RX.bM _ (by rfl) (by rfl) (by exact⟨.slice none (s.led.field.ax.length) 0,none,0,rfl⟩) (fun Wq hE hF=>?_) (fun v Wa Wb ho hE=>?_) (fun v hv=>?_)
 ·have hE':Ext [] W1 Wq:=hE
  refine RX.dB 199 #[vt] (by go_simp;try rfl) ?_
  refine(MP (s.led.field.ax.length) (dS s.led.field.ax) vt Wq (HS.o Wq (aY HB1.o hE'.below)).vO (Em _) (by omega)).mono ?_
  rintro e w' ⟨v',rfl,ho,hb⟩
  exact .inl ⟨_,rfl,aU ho,dh ho hE'.size,Ext.az hb⟩
 ·exact aB (Ms:=[]) ho hE (by simp)
 obtain⟨En,EZ,rfl⟩:=hv
 simp only[zp]
 repeat (refine RX.zd ?_;simp only[zp])
 refine RX.bM _ (by rfl) (by rfl) (by exact⟨.slice none (s.led.notes.length) 0,none,0,rfl⟩) (fun Wq hE hF=>?_) (fun v Wa Wb ho hE=>?_) (fun v hv=>?_)
 ·have hE':Ext [] W1 Wq:=hE
  refine RX.dB 200 #[vn] (by go_simp;try rfl) ?_
  refine(Ji (s.led.notes.length) (aX s.led.notes) vn Wq (HS.o Wq (aY HB1.o hE'.below)).QL (uS _) (by omega)).mono ?_
  rintro e w' ⟨v',rfl,ho,hb⟩
  exact .inl ⟨_,rfl,aU ho,dh ho hE'.size,Ext.az hb⟩
 ·exact aB (Ms:=[]) ho hE (by simp)
 obtain⟨Eo,E5,rfl⟩:=hv
 simp only[zp]
 repeat (refine RX.zd ?_;simp only[zp])
 intro Wt hE hF
 have aah:Wt.ownsRow W1.heap.size 120 3 (.slice Eo s.led.notes.length E5) s.led.notes.length (aX s.led.notes):=hF _ (bK _)
 have aaf:Wt.ownsRow W1.heap.size 118 5 (.slice En s.led.field.ax.length EZ) s.led.field.ax.length (dS s.led.field.ax):=hF _ (nU _ (bK _))
 have hE':Ext [] W1 Wt:=hE
 have HBt:=ae (aY HB1.o hE'.below)
 have hbt:=(hE'.block _ l1 (by simp)).trans UL.o
 have HKt:=ae hbt
 have YP:=ae hE'
 obtain⟨ct,ft,lt⟩:=af hbt
 clear hE hF hE' hbt c1 f1
 have AZ:=ae aaf
 have A7:=ae aah
 clear aaf aah
 go_upto_region 3 with(fail)
 refine dF fun W2 qm=>?_
 have hbk:W2.heap[w.heap.size]? =some (.cells (dw s ⟨.slice En s.led.field.ax.length EZ,.slice Eo s.led.notes.length E5,vw,vu,vr,vh,vk,vs⟩) 46 (0,0)):=by rw[qm];exact aJ (aJ (HKt.o) _) _
 have HB2:=ae (show Below w.heap.size w W2 from by rw[qm];exact((HBt.o).setCell (ak _) _).setCell (ak _) _)
 have hEs:Ext [w.heap.size] Wt W2:=by rw[qm];exact(gG).trans gG
 have AZ:=ae (dh (base:=W1.heap.size) (aB (Ms:=[w.heap.size]) AZ.o hEs (by simp;exact hsz1)) (ak _))
 have A7:=ae (dh (base:=W1.heap.size) (aB (Ms:=[w.heap.size]) A7.o hEs (by simp;exact hsz1)) (ak _))
 have hsz2:W1.heap.size<=W2.heap.size:=by have:=hEs.size;have:=YP.o.size;omega
 obtain⟨c2,f2,l2⟩:=af hbk
 have KP:=ae hbk
 clear qm hbk hEs ct ft
 refine RX.gB (fun _ _=>False) 12 [] none [(3,⟨fun _ v=> ∃o c,v= .slice o s.heap.bW.length c,fun _ v Wx=>Wx.ownsRow W2.heap.size 34 2 v s.heap.bW.length (aH s.heap.bW)⟩),(7,⟨fun _ v=> ∃o c,v= .slice o s.heap.turns.length c,fun _ v Wx=>Wx.ownsRow W2.heap.size 3 1 v s.heap.turns.length (ah s.heap.turns)⟩),(11,⟨fun _ v=> ∃o c,v= .slice o s.heap.readings.length c,fun _ v Wx=>Wx.ownsRow W2.heap.size 122 3 v s.heap.readings.length (aX s.heap.readings)⟩)] (by rintro ps a1 Wx hdf h;exact h.elim) (by as_aux_lemma=>kernel_rfl) (by as_aux_lemma=>kernel_rfl) ?_
 simp only[zt]
 repeat (refine RX.zd ?_;simp only[zp])
 refine RX.bM _ (by rfl) (by rfl) (by exact⟨.slice none (s.heap.bW.length) 0,none,0,rfl⟩) (fun Wq hE hF=>?_) (fun v Wa Wb ho hE=>?_) (fun v hv=>?_)
 ·have hE':Ext [] W2 Wq:=hE
  refine RX.dB 201 #[vw] (by go_simp;try rfl) ?_
  refine(MN (s.heap.bW.length) (aH s.heap.bW) vw Wq (HS.o Wq (aY HB2.o hE'.below)).bW (oU _) (by omega)).mono ?_
  rintro e w' ⟨v',rfl,ho,hb⟩
  exact .inl ⟨_,rfl,aU ho,dh ho hE'.size,Ext.az hb⟩
 ·exact aB (Ms:=[]) ho hE (by simp)
 obtain⟨Gt,Il,rfl⟩:=hv
 simp only[zp]
 repeat (refine RX.zd ?_;simp only[zp])
 refine RX.bM _ (by rfl) (by rfl) (by exact⟨.slice none (s.heap.turns.length) 0,none,0,rfl⟩) (fun Wq hE hF=>?_) (fun v Wa Wb ho hE=>?_) (fun v hv=>?_)
 ·have hE':Ext [] W2 Wq:=hE
  refine RX.dB 98 #[vu] (by go_simp;try rfl) ?_
  refine(BZ (s.heap.turns.length) (ah s.heap.turns) vu Wq (HS.o Wq (aY HB2.o hE'.below)).Fg (jB _) (by omega)).mono ?_
  rintro e w' ⟨v',rfl,ho,hb⟩
  exact .inl ⟨_,rfl,aU ho,dh ho hE'.size,Ext.az hb⟩
 ·exact aB (Ms:=[]) ho hE (by simp)
 obtain⟨Gu,Io,rfl⟩:=hv
 simp only[zp]
 repeat (refine RX.zd ?_;simp only[zp])
 refine RX.bM _ (by rfl) (by rfl) (by exact⟨.slice none (s.heap.readings.length) 0,none,0,rfl⟩) (fun Wq hE hF=>?_) (fun v Wa Wb ho hE=>?_) (fun v hv=>?_)
 ·have hE':Ext [] W2 Wq:=hE
  refine RX.dB 202 #[vr] (by go_simp;try rfl) ?_
  refine(Jh (s.heap.readings.length) (aX s.heap.readings) vr Wq (HS.o Wq (aY HB2.o hE'.below)).Eh (uS _) (by omega)).mono ?_
  rintro e w' ⟨v',rfl,ho,hb⟩
  exact .inl ⟨_,rfl,aU ho,dh ho hE'.size,Ext.az hb⟩
 ·exact aB (Ms:=[]) ho hE (by simp)
 obtain⟨Gv,Ip,rfl⟩:=hv
 simp only[zp]
 repeat (refine RX.zd ?_;simp only[zp])
 intro Wt hE hF
 have aag:Wt.ownsRow W2.heap.size 122 3 (.slice Gv s.heap.readings.length Ip) s.heap.readings.length (aX s.heap.readings):=hF _ (bK _)
 have aad:Wt.ownsRow W2.heap.size 3 1 (.slice Gu s.heap.turns.length Io) s.heap.turns.length (ah s.heap.turns):=hF _ (nU _ (bK _))
 have aac:Wt.ownsRow W2.heap.size 34 2 (.slice Gt s.heap.bW.length Il) s.heap.bW.length (aH s.heap.bW):=hF _ (nU _ (nU _ (bK _)))
 have hE':Ext [] W2 Wt:=hE
 have HBt:=ae (aY HB2.o hE'.below)
 have hbt:=(hE'.block _ l2 (by simp)).trans KP.o
 have HKt:=ae hbt
 have YP:=ae hE'
 obtain⟨ct,ft,lt⟩:=af hbt
 clear hE hF hE' hbt c2 f2
 have IE:=ae aac
 have IG:=ae aad
 have II:=ae aag
 clear aac aad aag
 go_upto_region 4 with(fail)
 refine dF fun W3 qm=>?_
 have hbk:W3.heap[w.heap.size]? =some (.cells (dw s ⟨.slice En s.led.field.ax.length EZ,.slice Eo s.led.notes.length E5,.slice Gt s.heap.bW.length Il,.slice Gu s.heap.turns.length Io,.slice Gv s.heap.readings.length Ip,vh,vk,vs⟩) 46 (0,0)):=by rw[qm];exact aJ (aJ (aJ (HKt.o) _) _) _
 have HB3:=ae (show Below w.heap.size w W3 from by rw[qm];exact(((HBt.o).setCell (ak _) _).setCell (ak _) _).setCell (ak _) _)
 have hEs:Ext [w.heap.size] Wt W3:=by rw[qm];exact((gG).trans gG).trans gG
 have AZ:=ae (aB (Ms:=[w.heap.size]) (aB (Ms:=[]) AZ.o YP.o (by simp)) hEs (by simp;exact hsz1))
 have A7:=ae (aB (Ms:=[w.heap.size]) (aB (Ms:=[]) A7.o YP.o (by simp)) hEs (by simp;exact hsz1))
 have IE:=ae (dh (base:=W1.heap.size) (aB (Ms:=[w.heap.size]) IE.o hEs (by simp;omega)) (by omega))
 have IG:=ae (dh (base:=W1.heap.size) (aB (Ms:=[w.heap.size]) IG.o hEs (by simp;omega)) (by omega))
 have II:=ae (dh (base:=W1.heap.size) (aB (Ms:=[w.heap.size]) II.o hEs (by simp;omega)) (by omega))
 have hsz3:W1.heap.size<=W3.heap.size:=by have:=hEs.size;have:=YP.o.size;omega
 obtain⟨c3,f3,l3⟩:=af hbk
 have FU:=ae hbk
 clear qm hbk hEs ct ft
 refine RX.gB (fun _ _=>False) 12 [] none [(3,⟨fun _ v=> ∃o c,v= .slice o s.dn.heaps.length c,fun _ v Wx=>Wx.ownsRow W3.heap.size 112 2 v s.dn.heaps.length (aH s.dn.heaps)⟩),(7,⟨fun _ v=> ∃o c,v= .slice o es.length c,fun _ v Wx=>Wx.ownsRow W3.heap.size 36 1 v es.length (fD es)⟩),(11,⟨fun _ v=> ∃o c,v= .slice o s.dn.aK.length c,fun _ v Wx=>Wx.ownsRow W3.heap.size 124 4 v s.dn.aK.length (gV s.dn.aK)⟩)] (by rintro ps a1 Wx hdf h;exact h.elim) (by as_aux_lemma=>kernel_rfl) (by as_aux_lemma=>kernel_rfl) ?_
 simp only[zt]
 repeat (refine RX.zd ?_;simp only[zp])
 refine RX.bM _ (by rfl) (by rfl) (by exact⟨.slice none (s.dn.heaps.length) 0,none,0,rfl⟩) (fun Wq hE hF=>?_) (fun v Wa Wb ho hE=>?_) (fun v hv=>?_)
 ·have hE':Ext [] W3 Wq:=hE
  refine RX.dB 203 #[vh] (by go_simp;try rfl) ?_
  refine(MQ (s.dn.heaps.length) (aH s.dn.heaps) vh Wq (HS.o Wq (aY HB3.o hE'.below)).dn.heaps (oU _) (by omega)).mono ?_
  rintro e w' ⟨v',rfl,ho,hb⟩
  exact .inl ⟨_,rfl,aU ho,dh ho hE'.size,Ext.az hb⟩
 ·exact aB (Ms:=[]) ho hE (by simp)
 obtain⟨JW,KF,rfl⟩:=hv
 simp only[zp]
 repeat (refine RX.zd ?_;simp only[zp])
 refine RX.bM _ (by rfl) (by rfl) (by exact⟨.slice none (es.length) 0,none,0,rfl⟩) (fun Wq hE hF=>?_) (fun v Wa Wb ho hE=>?_) (fun v hv=>?_)
 ·have hE':Ext [] W3 Wq:=hE
  refine RX.dB 204 #[vk] (by go_simp;try rfl) ?_
  refine(MR (es.length) (fD es) vk Wq (HS.o Wq (aY HB3.o hE'.below)).dn.aT.1 (jA.o) (by omega)).mono ?_
  rintro e w' ⟨v',rfl,ho,hb⟩
  exact .inl ⟨_,rfl,aU ho,dh ho hE'.size,Ext.az hb⟩
 ·exact aB (Ms:=[]) ho hE (by simp)
 obtain⟨Gw,Cc,rfl⟩:=hv
 simp only[zp]
 repeat (refine RX.zd ?_;simp only[zp])
 refine RX.bM _ (by rfl) (by rfl) (by exact⟨.slice none (s.dn.aK.length) 0,none,0,rfl⟩) (fun Wq hE hF=>?_) (fun v Wa Wb ho hE=>?_) (fun v hv=>?_)
 ·have hE':Ext [] W3 Wq:=hE
  refine RX.dB 205 #[vs] (by go_simp;try rfl) ?_
  refine(MO (s.dn.aK.length) (gV s.dn.aK) vs Wq (HS.o Wq (aY HB3.o hE'.below)).dn.aK (Om _) (by omega)).mono ?_
  rintro e w' ⟨v',rfl,ho,hb⟩
  exact .inl ⟨_,rfl,aU ho,dh ho hE'.size,Ext.az hb⟩
 ·exact aB (Ms:=[]) ho hE (by simp)
 obtain⟨JV,KD,rfl⟩:=hv
 simp only[zp]
 repeat (refine RX.zd ?_;simp only[zp])
 intro Wt hE hF
 have aae:Wt.ownsRow W3.heap.size 124 4 (.slice JV s.dn.aK.length KD) s.dn.aK.length (gV s.dn.aK):=hF _ (bK _)
 have aaj:Wt.ownsRow W3.heap.size 36 1 (.slice Gw es.length Cc) es.length (fD es):=hF _ (nU _ (bK _))
 have aai:Wt.ownsRow W3.heap.size 112 2 (.slice JW s.dn.heaps.length KF) s.dn.heaps.length (aH s.dn.heaps):=hF _ (nU _ (nU _ (bK _)))
 have hE':Ext [] W3 Wt:=hE
 have HBt:=ae (aY HB3.o hE'.below)
 have hbt:=(hE'.block _ l3 (by simp)).trans FU.o
 have HKt:=ae hbt
 have YP:=ae hE'
 obtain⟨ct,ft,lt⟩:=af hbt
 clear hE hF hE' hbt c3 f3
 have UF:=ae aai
 have UG:=ae aaj
 have UE:=ae aae
 clear aai aaj aae
 go_upto_region 5 with(fail)
 refine dF fun W4 qm=>?_
 have hbk:W4.heap[w.heap.size]? =some (.cells (dw s ⟨.slice En s.led.field.ax.length EZ,.slice Eo s.led.notes.length E5,.slice Gt s.heap.bW.length Il,.slice Gu s.heap.turns.length Io,.slice Gv s.heap.readings.length Ip,.slice JW s.dn.heaps.length KF,.slice Gw es.length Cc,.slice JV s.dn.aK.length KD⟩) 46 (0,0)):=by rw[qm];exact aJ (aJ (aJ (HKt.o) _) _) _
 have HB4:=ae (show Below w.heap.size w W4 from by rw[qm];exact(((HBt.o).setCell (ak _) _).setCell (ak _) _).setCell (ak _) _)
 have hEs:Ext [w.heap.size] Wt W4:=by rw[qm];exact((gG).trans gG).trans gG
 have AZ:=ae (aB (Ms:=[w.heap.size]) (aB (Ms:=[]) AZ.o YP.o (by simp)) hEs (by simp;exact hsz1))
 have A7:=ae (aB (Ms:=[w.heap.size]) (aB (Ms:=[]) A7.o YP.o (by simp)) hEs (by simp;exact hsz1))
 have IE:=ae (aB (Ms:=[w.heap.size]) (aB (Ms:=[]) IE.o YP.o (by simp)) hEs (by simp;exact hsz1))
 have IG:=ae (aB (Ms:=[w.heap.size]) (aB (Ms:=[]) IG.o YP.o (by simp)) hEs (by simp;exact hsz1))
 have II:=ae (aB (Ms:=[w.heap.size]) (aB (Ms:=[]) II.o YP.o (by simp)) hEs (by simp;exact hsz1))
 have UF:=ae (dh (base:=W1.heap.size) (aB (Ms:=[w.heap.size]) UF.o hEs (by simp;omega)) (by omega))
 have UG:=ae (dh (base:=W1.heap.size) (aB (Ms:=[w.heap.size]) UG.o hEs (by simp;omega)) (by omega))
 have UE:=ae (dh (base:=W1.heap.size) (aB (Ms:=[w.heap.size]) UE.o hEs (by simp;omega)) (by omega))
 have aeu:W1.heap.size<=W4.heap.size:=by have:=hEs.size;have:=YP.o.size;omega
 obtain⟨c4,f4,l4⟩:=af hbk
 have HK4:=ae hbk
 clear qm hbk hEs ct ft
 have hR0:xQ w.heap.size W4 w.heap.size (Ef s ⟨.slice En s.led.field.ax.length EZ,.slice Eo s.led.notes.length E5,.slice Gt s.heap.bW.length Il,.slice Gu s.heap.turns.length Io,.slice Gv s.heap.readings.length Ip,.slice JW s.dn.heaps.length KF,.slice Gw es.length Cc,.slice JV s.dn.aK.length KD⟩ es.length (fD es)):=by
  refine xQ.ZA (by have:=HB4.o.size;omega) (ak _) ?_ (by simp[Ef])
  intro r hr
  simp only[Ef,iy,List.not_mem_nil,or_false] at hr
  rcases hr with rfl|rfl|rfl|rfl|rfl|rfl|rfl|rfl
  ·exact dh AZ.o (by omega)
  ·exact dh A7.o (by omega)
  ·exact dh IE.o (by omega)
  ·exact dh IG.o (by omega)
  ·exact dh II.o (by omega)
  ·exact dh UF.o (by omega)
  ·exact dh UG.o (by omega)
  ·exact dh UE.o (by omega)
 have HR0:=ae hR0
 clear hR0
 go_wp2_with fail
 go_loopw [4,5,58] (fun _ _ u wr=> ∃i:Nat,i<=es.length/\u= .int .i64 i/\Below w.heap.size w wr/\wr.heap[w.heap.size]? =some (.cells (dw s ⟨.slice En s.led.field.ax.length EZ,.slice Eo s.led.notes.length E5,.slice Gt s.heap.bW.length Il,.slice Gu s.heap.turns.length Io,.slice Gv s.heap.readings.length Ip,.slice JW s.dn.heaps.length KF,.slice Gw es.length Cc,.slice JV s.dn.aK.length KD⟩) 46 (0,0))/\ ∃es':List KE,es'.length=i/\es'.map (·.2)=s.dn.aT.take i/\xQ w.heap.size wr w.heap.size (Ef s ⟨.slice En s.led.field.ax.length EZ,.slice Eo s.led.notes.length E5,.slice Gt s.heap.bW.length Il,.slice Gu s.heap.turns.length Io,.slice Gv s.heap.readings.length Ip,.slice JW s.dn.heaps.length KF,.slice Gw es.length Cc,.slice JV s.dn.aK.length KD⟩ es.length (fD (es'++es.drop i))++es'.map zJ)) (fun _ _ u _=>es.length-(intOf u).toNat)
 case atStart=>exact⟨0,bU _,rfl,HB4.o,HK4.o,[],rfl,rfl,by simpa using HR0.o⟩
 case round=>
  obtain⟨i,hi,rfl,hB,hbk,es',Je,hes',hOr⟩:=hrel
  obtain⟨c5,f5,l5⟩:=af hbk
  by_cases hlt:i<es.length
  ·have hcx:=HEK.o
   obtain⟨ev,el,Dp⟩: ∃ev el,es[i]? =some (ev,el):=⟨_,_,dP hlt⟩
   have hcas:s.dn.aT[i]? =some el:=by rw[<-(HS.o w (aG _ _)).dn.is,qC,Dp];rfl
   have ak9:el.length<=3:=by have:=(HG.o.qh el (nJ hcas)).1;omega
   have h6:wr.ownsRow w.heap.size 36 1 (.slice Gw es.length Cc) es.length (fD (es'++es.drop i)):=hOr.own 6 _ (C9 _ _ _ _ _)
   obtain⟨gk,ak2,hgk,hfk,hkl⟩:=ig h6 (by omega)
   subst ak2
   have hgx:(fD (es'++es.drop i))[i]? =some ev:=by
    unfold fD
    rw[qC,nK (by omega),Je,Nat.sub_self,List.getElem?_drop,Nat.add_zero,Dp];rfl
   obtain⟨hg',eg'⟩:=ji.1 hgx
   have g6:=(hgk i hg').trans (by rw[eg'])
   have HX:=ae (ag hB (ag hbk (ag Je (ag hes' (ag hOr (ag h6 (ag Dp hcas)))))))
   have hgb:gk≠w.heap.size:=fun e=>hOr.off 6 _ (C9 _ _ _ _ _) (by rw[<-e];rfl)
   clear hB hbk Je hes' hOr h6 hgx hg' eg' hgk Dp hcas hcx
   go_wp2_with fail
   refine RX.gB (fun _ _=>False) 6 [] none [(5,⟨fun _ v=> ∃o c,v= .slice o el.length c,fun _ v Wx=>Wx.ownsRow wr.heap.size 3 1 v el.length (ah el)⟩)] (by rintro ps a1 Wx hdf h;exact h.elim) (by as_aux_lemma=>kernel_rfl) (by as_aux_lemma=>kernel_rfl) ?_
   simp only[zt]
   repeat (refine RX.zd ?_;simp only[zp])
   refine RX.bM _ (by rfl) (by rfl) (by exact⟨.slice none el.length 0,none,0,rfl⟩) (fun Wq hE hF=>?_) (fun v Wa Wb ho hE=>?_) (fun v hv=>?_)
   ·have hE':Ext [] wr Wq:=hE
    refine RX.dB 98 #[ev] (by go_simp;try rfl) ?_
    refine(BZ el.length (ah el) ev Wq ((HS.o Wq (aY HX.o.1 (show Below wr.heap.size wr Wq from hE'.below))).dn.aT.2 (ev,el) (nJ HX.o.2.2.2.2.2.2.1)) (jB _) (by omega)).mono ?_
    rintro e w' ⟨v',rfl,ho,hb⟩
    exact .inl ⟨_,rfl,aU ho,dh ho hE'.size,Ext.az hb⟩
   ·exact aB (Ms:=[]) ho hE (by simp)
   obtain⟨o8,c8,rfl⟩:=hv
   simp only[zp]
   intro W8 hE hF
   have qG:W8.ownsRow wr.heap.size 3 1 (.slice o8 el.length c8) el.length (ah el):=hF _ (bK _)
   have ik:Ext [] wr W8:=hE
   have hbl:=(ik.block _ l5 (by simp)).trans HX.o.2.1
   obtain⟨c9,f9,l9⟩:=af hbl
   have hR1:=HX.o.2.2.2.2.1.push (zJ (.slice o8 el.length c8,el)) ik (by simp) (dh qG (by have:=HX.o.1.size;omega)) (by rcases hq:(Value.slice o8 el.length c8).ownBlock with _|g;(exact .inl hq);(exact .inr ⟨g,hq,(qG.lt g hq).1⟩))
   have h68:=aB (Ms:=[]) HX.o.2.2.2.2.2.1 ik (by simp)
   obtain⟨gk',aeL,ak3,ap4,apJ⟩:=ig h68 (by omega)
   cases aeL
   have g7:=(ik.cell gk i hkl (by simp)).trans g6
   have H8:=ae (ag ik (ag hbl (ag hR1 h68)))
   clear hE hF qG ik hbl hR1 h68 ak3 c5 f5 g6 hfk
   go_wp2_with fail
   go_roundw
   case rel=>
    refine⟨i+1,by omega,by go_num,(aY HX.o.1 H8.o.1.below).setCell (H8.o.2.2.2.lt gk rfl).1 _,((gG (W:=W8) (b:=gk) (off:=i) (v:= .slice o8 el.length c8)).block _ l9 (by simpa using fun e=>hgb e.symm)).trans H8.o.2.1,es'++[(.slice o8 el.length c8,el)],by simp[HX.o.2.2.1],?_,?_⟩
    ·rw[List.map_append,HX.o.2.2.2.1,rf,HX.o.2.2.2.2.2.2.2];rfl
    ·have hS:=lX H8.o.2.2.2 i (.slice o8 el.length c8)
     have hk2:(fD (es'++es.drop i)).set i (.slice o8 el.length c8)=fD (es'++[(.slice o8 el.length c8,el)]++es.drop (i+1)):=by
      unfold fD
      rw[List.map_append,qE _ _ (by simp[HX.o.2.2.1]),lN,HX.o.2.2.1,Nat.sub_self,AX hlt,List.map_cons,List.set_cons_zero]
      simp
     have hP:=H8.o.2.2.1.put (i:=6) (r:=⟨36,1,.slice (some ⟨gk,0,none⟩) es.length Cc,es.length,fD (es'++es.drop i)⟩) (by rw[nV];exact C9 _ _ _ _ _) ⟨36,1,.slice (some ⟨gk,0,none⟩) es.length Cc,es.length,fD (es'++[(.slice o8 el.length c8,el)]++es.drop (i+1))⟩ (gG (W:=W8) (b:=gk) (off:=i) (v:= .slice o8 el.length c8)) (fun m hm=> .inr (.inr (by rw[eU.1 hm];rfl))) (by rw[hk2] at hS;exact hS) (.inl rfl)
     rw[nV,V3] at hP
     rw[List.map_append]
     exact hP
   case measure=>simp[intOf];omega
  ·obtain rfl:i=es.length:=by omega
   have HX:=ae (ag hB (ag hbk (ag Je (ag hes' hOr))))
   clear hB hbk Je hes' hOr
   go_upto_region 10 with(fail)
   refine wp_region_lit ?_
   refine wpList_load_row rfl _ _ rfl w.heap.size rfl _ _ _ _ HX.o.2.1 Tryz.underlying46 rfl (by kernel_rfl) ?_
   simp only[zp]
   clear c5 f5
   go_wp2_with fail
   trace_state
   go_returns
   refine⟨aj HX.o.1 _,wr.heap.size,⟨.slice En s.led.field.ax.length EZ,.slice Eo s.led.notes.length E5,.slice Gt s.heap.bW.length Il,.slice Gu s.heap.turns.length Io,.slice Gv s.heap.readings.length Ip,.slice JW s.dn.heaps.length KF,.slice Gw es.length Cc,.slice JV s.dn.aK.length KD⟩,es',by simp,⟨ay _ _,?_,?_⟩⟩
   ·have h:=HX.o.2.2.2.2
    rw[List.drop_length,List.append_nil] at h
    rw[V5,HX.o.2.2.1]
    exact h.move (Ext.az (aj (aG _ _) _)) (ak _) (by simp)
   ·rw[HX.o.2.2.2.1,kL (by have:=HEK.o;omega)]
structure Env (w:World):Prop where
 pow: ∃t f,w.heap[0]? =some (.cells (Lib.pow10Tab.map fun z=>Value.int .u64 z).toArray t f)
 len: ∃m,w.cell? ⟨1,0,none⟩=some (.int .i64 m)/\1<w.heap.size
 syn: ∃tp p t f,w.heap[2]? =some (.cells #[.iface tp p] t f)
 rng: ∃tp p t f,w.heap[3]? =some (.cells #[.iface tp p] t f)
theorem Env.lts {w:World} (h:Env w):0<w.heap.size/\1<w.heap.size/\2<w.heap.size/\3<w.heap.size:=by
 obtain⟨t,f,h0⟩:=h.pow
 obtain⟨m,h1,hl⟩:=h.len
 obtain⟨tp,p,t2,f2,h2⟩:=h.syn
 obtain⟨tp3,p3,t3,f3,h3⟩:=h.rng
 exact⟨(aV.1 h0).1,hl,(aV.1 h2).1,(aV.1 h3).1⟩
theorem Env.size {w:World} (h:Env w):4<=w.heap.size:=by
 have:=h.lts
 omega
theorem Env.below {w W:World} (h:Env w) {B:Nat} (hb:Below B w W) (hB:w.heap.size<=B):Env W:=by
 have h4:=h.lts
 have hz:=hb.size
 obtain⟨t,f,h0⟩:=h.pow
 obtain⟨m,h1,hl⟩:=h.len
 obtain⟨tp,p,t2,f2,h2⟩:=h.syn
 obtain⟨tp3,p3,t3,f3,h3⟩:=h.rng
 exact⟨⟨t,f,(hb.block 0 (by omega)).trans h0⟩,⟨m,(jh (hb.block 1 (by omega))).trans h1,by omega⟩,⟨tp,p,t2,f2,(hb.block 2 (by omega)).trans h2⟩,⟨tp3,p3,t3,f3,(hb.block 3 (by omega)).trans h3⟩⟩
theorem QW {w:World} {g:Nat} {cs:Array Value} {t:TypeId} {f:Nat×Nat} (h:w.heap[g]? =some (.cells cs t f)) {nm:String} (hn:Tryz.prog.globalNamed nm=some g):w.var? Tryz.prog nm=some cs:=by
 simp[World.var?,hn,h]
theorem Vo {w:World} (h:Env w) {nm:String} (hn:Tryz.prog.globalNamed nm=some 0):Lib.TabIs Tryz.prog w nm .u64 Lib.pow10Tab:=by
 obtain⟨t,f,h0⟩:=h.pow
 exact QW h0 hn
abbrev eu (l:aF):ByteArray:=⟨l.toArray⟩
theorem bytesWorld_below (w:World) (t:TypeId) (s:ByteArray):Below w.heap.size w (Lib.bytesWorld w t s):=by
 unfold Lib.bytesWorld
 refine⟨rfl,rfl,rfl,?_,fun i hi=>?_⟩
 ·simp[World.freeze]
 ·have:w.heap.size≠i:=by omega
  simp[World.freeze,Array.getElem?_modify,this]
  exact heap_alloc_old _ _ hi
theorem Ho (w:World) (k:Nat) (os:Array Obj):Below w.heap.size w (Go.Sort.grow (w.drewN k) os):=by
 refine⟨rfl,rfl,rfl,by simp[Go.Sort.grow,World.drewN],fun i hi=>?_⟩
 rw[Go.Sort.heap_grow_old _ _ (by simpa [World.drewN] using hi)]
 rfl
theorem aa2 (l:aF) (w:World) (hE:Env w) (hl:l.length<=1000):Calls Tryz.prog 198 #[.string (eu l)] w
 (fun e w'=>Below w.heap.size w w'/\((∃v,Lib.atoiAll l= .ok v/\e= .returned (.tuple #[iv v,.nilIface]))∨((∀v,Lib.atoiAll l≠ .ok v)/\ ∃v t p,e= .returned (.tuple #[iv v,.iface t p])))):=by
 have hs:(eu l).size=l.length:=by simp[eu,ByteArray.size]
 cases ha:Lib.atoiAll l with
 |ok v=>
  refine(Go.Proofs.Tryz.strconv_Atoi_ok (eu l) (by rw[hs];omega) v ha w).mono ?_
  rintro e w' ⟨rfl,h|⟨t,h⟩⟩
  ·subst h;exact⟨aG _ _,.inl ⟨v,rfl,rfl⟩⟩
  ·subst h;exact⟨bytesWorld_below _ _ _,.inl ⟨v,rfl,rfl⟩⟩
 |range=>
  obtain⟨tp,p,t2,f2,h2⟩:=hE.rng
  refine(Go.Proofs.Tryz.strconv_Atoi_range_var (eu l) (by rw[hs];omega) ha tp p w (QW h2 (by kernel_rfl))).mono ?_
  rintro e w' ⟨M,rfl,h1,h2,h3⟩
  exact⟨h3,.inr ⟨(fun v h=>by cases h),_,_,_,rfl⟩⟩
 |_=>
  obtain⟨tp,p,t2,f2,h2⟩:=hE.syn
  refine(Go.Proofs.Tryz.strconv_Atoi_syntax_var (eu l) (by rw[hs];omega) ha tp p w (QW h2 (by kernel_rfl))).mono ?_
  rintro e w' ⟨M,rfl,h1,h2,h3⟩
  exact⟨h3,.inr ⟨(fun v h=>by cases h),_,_,_,rfl⟩⟩
theorem ZH {l:aF} (h: ∀v,Lib.atoiAll l≠ .ok v):kZ l=none:=by
 cases hn:kZ l with
 |none=>rfl
 |some v=>
  have h4:=(Bq hn).2
  have:=Lib.atoiAll_short l (by omega)
  rw[E8 hn] at this
  exact absurd this (h v)
theorem Gy {l:aF} {v n:Int} (h:Lib.atoiAll l= .ok v) (hn:kZ l=some n):v=n:=by
 have h4:=(Bq hn).2
 have:=Lib.atoiAll_short l (by omega)
 rw[E8 hn,h] at this
 injection this
def al4 (l:aF) (w:World) (e:Ending) (w':World):Prop:=Below w.heap.size w w'/\ ∃v,e= .returned (.tuple #[iv v,.bool (kZ l).isSome])/\ ∀n,kZ l=some n->v=n
theorem Si (l:aF) (w:World) (hE:Env w) (hl:l.length<=1000):Calls Tryz.prog 113 #[.string (eu l)] w (al4 l w):=by
 have hs:(eu l).size=l.length:=by simp[eu,ByteArray.size]
 have HA:=ae (aa2 l w hE hl)
 have HE:=ae hE
 clear hE
 go_enter Tryz.func113,Tryz.ntmps113
 go_wp2_with fail
 refine HA.o.mono ?_
 rintro e w1 ⟨hb,⟨v,hv,rfl⟩|⟨hno,v,t,p,rfl⟩⟩
 ·have HB:=ae hb
  have HV:=ae hv
  clear hb hv
  by_cases h0:0<=v
  ·by_cases h4:l.length<=4
   ·have h5:(l.length:Int)<=4:=by omega
    go_wp2_with fail
    refine(Go.Proofs.Tryz.strconv_Itoa v (by omega) (by have:=(Lib.atoiAll_bounds HV.o).2;omega) w1 (Vo (HE.o.below HB.o (ak _)) (by kernel_rfl))).mono ?_
    rintro e w2 ⟨rfl,k,os,rfl⟩
    have HG:=ae (Ho w1 k os)
    obtain⟨w3,hw3⟩: ∃w3,w3=Go.Sort.grow (w1.drewN k) os:=⟨_,rfl⟩
    rw[<-hw3] at HG⊢
    clear hw3
    go_wp2_with fail
    go_returns
    refine⟨aY HB.o HG.o,v,?_,fun n hn=>Gy HV.o hn⟩
    by_cases he:Lib.itoa v=l
    ·rw[Ox h0 h4 he];simp[he]
    ·have hn:kZ l=none:=by
      cases hn:kZ l with
      |none=>rfl
      |some n=>exact absurd (Gy HV.o hn▸ZW hn) he
     rw[hn]
     have:(Lib.itoa v==l)=false:=by simpa using he
     simp[this]
   ·have h5: ¬(l.length:Int)<=4:=by omega
    go_wp2_with fail
    go_returns
    refine⟨HB.o,v,?_,fun n hn=>Gy HV.o hn⟩
    have hn:kZ l=none:=by
     cases hn:kZ l with
     |none=>rfl
     |some n=>exact absurd (Bq hn).2 h4
    rw[hn];simp
  ·go_wp2_with fail
   go_returns
   refine⟨HB.o,v,?_,fun n hn=>Gy HV.o hn⟩
   have hn:kZ l=none:=by
    cases hn:kZ l with
    |none=>rfl
    |some n=>have h1:=Gy HV.o hn;have h2:=(LH hn).1;omega
   rw[hn];simp
 ·have HB:=ae hb
  have HN:=ae (ZH hno)
  clear hb hno
  go_wp2_with fail
  go_returns
  exact⟨HB.o,v,by rw[HN.o];simp,fun n hn=>by rw[HN.o] at hn;cases hn⟩
theorem Lh: ∀l:aF,Lib.splitK [32] 0 (Lib.count l [32]) l=bG l:=by
 intro l
 induction l with
 |nil=>rfl
 |cons c l ih=>
  by_cases hc:c=32
  ·subst hc
   rw[Lib.count_cons_eq,Nat.add_comm,Lib.splitK,Lib.index_one,Lib.indexByte,bG,aA rfl]
   simp[ih]
  ·rw[Lib.count_cons_ne c 32 l hc,bG,ai hc]
   cases hk:Lib.count l [32] with
   |zero=>
    rw[hk] at ih
    rw[<-ih]
    rfl
   |succ k=>
    rw[hk] at ih
    have hb:(c==32)=false:=by simpa using hc
    have hi:Lib.index l [32]≠ -1:=fun h=>by have:=Lib.count_miss h;omega
    have hge:=Lib.index_ge l [32]
    obtain⟨i,hi2⟩: ∃i:Nat,Lib.index l [32]=i:=⟨(Lib.index l [32]).toNat,by omega⟩
    have e1:(Lib.index l [32]== -1)=false:=by simpa using hi
    have hj:Lib.index (c::l) [32]=(i:Int)+1:=by
     rw[Lib.index_one,Lib.indexByte,hb, <-Lib.index_one,e1,hi2];rfl
    have e2:(Lib.index (c::l) [32]== -1)=false:=by rw[hj];simp;omega
    rw[Lib.splitK,e1] at ih
    rw[Lib.splitK,e2]
    simp only[Bool.false_eq_true,if_false,Nat.add_zero,List.length_singleton] at ih⊢
    rw[<-ih,hj,hi2]
    have h1:((i:Int)+1).toNat=i+1:=by omega
    rw[h1]
    simp
theorem Ee (l:aF):(Lib.splitB ⟨#[32]⟩ 0 (Lib.countB (eu l) ⟨#[32]⟩) (eu l)).map (·.data.toList)=bG l:=by
 rw[Lib.splitB_data]
 exact Lh l
abbrev aZ (ps:List aF):List Value:=ps.map fun p=> .string (eu p)
abbrev jb (w:World) (v:Value) (ps:List aF):Prop:=aN 1 w v ps.length (aZ ps)
theorem XQ (s:ByteArray):eu s.data.toList=s:=by cases s;simp[eu]
theorem VY (l:aF) (w:World) (hE:Env w) (hl:l.length<=1000):Calls Tryz.prog 110 #[.string (eu l),.string ⟨#[32]⟩] w
 (fun e w'=> ∃n,n=(bG l).length/\e= .returned (.slice (some ⟨w.heap.size,0,none⟩) n n)/\w'=w.alloc (.cells (aZ (bG l)).toArray 9)):=by
 obtain⟨m,hm,_⟩:=hE.len
 have hs:(eu l).size=l.length:=by simp[eu,ByteArray.size]
 have hlen:=Lib.splitB_all ⟨#[32]⟩ (by decide) 0 _ (eu l) rfl
 refine(Go.Proofs.Tryz.strings_Split (eu l) ⟨#[32]⟩ m w (by rw[hs];omega) hm (by decide)).mono ?_
 rintro e w' ⟨rfl,rfl⟩
 refine⟨_,?_,rfl,?_⟩
 ·rw[<-Ee,lN,hlen]
 ·rw[<-Ee]
  congr 3
  unfold aZ
  rw[List.map_map]
  apply List.map_congr_left
  intro x _
  simp only[Function.comp,XQ]
theorem catch_idle (x y z:Addr) (w:World):
 CallsD Tryz.prog 109 #[.pointer (some x),.pointer (some y),.pointer (some z)] .returning w fun e u' w'=>e= .returned (.tuple #[])/\u'= .returning/\w'=w:=by
 refine callsD_of_wpS Tryz.func109 rfl fun c₀ cs hu=>?_
 apply wpS_seq
 apply wpS_region
 simp[wpOpsS,go_sem,recoverD,hu,Tryz.ntmps109,Exit.thenS]
 refine wpS_of_wp ?_
 go_wp2
 cases c₀
 simp_all [bodyPostS,results,Tryz.results109]
theorem zV {P:Program} {o:Oper} {ρ:Operand->Value} {w:World} (ty:TypeId) (x:Operand) (ho:o.op= .load ty x)
 (g:Nat) (hx:ρ x= .pointer (some ⟨g,0,none⟩)) (t:TypeId) (cs:Array Value) (fr:Nat×Nat) (d:TypeDesc) (hg:w.heap[g]? =some (.cells cs t fr))
 (hu:P.underlying ty=some d) (hd:(match d with| .struct _| .array _ _=>true|_=>false)=true) (hi:(P.info? ty).map (·.size)=some cs.size):(execOp ρ o).run P w= .ok (.value (.agg cs)) w:=by
 unfold execOp
 simp only[ho,hx,Instr.loadAt,Instr.sureAddr,Sem.run_bind,Sem.run_pure,Result.andThen_ok,run_loadVar_row w g t ty cs fr d hg hu hd hi]
theorem yJ {P:Program} {o:Oper} {ρ:Operand->Value} {w:World} (ty:TypeId) (x y:Operand) (ho:o.op= .store ty x y)
 (g:Nat) (cells:Array Value) (hx:ρ x= .pointer (some ⟨g,0,none⟩)) (hy:ρ y= .agg cells)
 (t:TypeId) (old:Array Value) (hg:w.heap[g]? =some (.cells old t (0,0))) (hi:(P.info? ty).map (·.size)=some cells.size)
 (hold:old.size=cells.size) (h1:cells.all (·.oneCell')=true):(execOp ρ o).run P w= .ok .skip (w.setRow g cells):=by
 unfold execOp
 simp only[ho,hx,hy,Instr.storeAt,Instr.sureAddr,Sem.run_bind,Sem.run_pure,Result.andThen_ok,run_storeVar_row w g t ty old cells hg hi hold h1]
theorem wB {P:Program} {o:Oper} {ρ:Operand->Value} {W W':World} {R:Value->World->Prop} (he:(execOp ρ o).run P W= .ok .skip W') (h:R undef W'):Does P o ρ W R:=by
 unfold Does;rw[he];exact h
theorem Iu (v:Value) (w:World):(Instr.typeAssert (.iface 200 v) 20 200 true).run Tryz.prog w= .ok (.tuple #[v,.bool true]) w:=by
 have hu:Tryz.prog.underlying 200=_:=Tryz.underlying200
 simp[Instr.typeAssert,run_underlying hu,go_sem]
theorem Jk (bs ba be:Nat) (S:Array Value) (A:Array Value) (ec:Value) (code:Int) (w:World) (hS:w.heap[bs]? =some (.cells S 46 (0,0))) (hA:w.heap[ba]? =some (.cells A 46 (0,0))) (hE:w.heap[be]? =some (.cells #[ec] 52 (0,0)))
 (hsz:S.size=22) (hsa:A.size=22) (h1:bs≠ba) (h2:bs≠be) (h3:ba≠be) (hone: ∀u∈S.toList,u.oneCell'=true):
 CallsD Tryz.prog 109 #[.pointer (some ⟨bs,0,none⟩),.pointer (some ⟨ba,0,none⟩),.pointer (some ⟨be,0,none⟩)] (.panicking (kG code)) w fun e u' w'=>
  e= .returned (.tuple #[])/\u'= .panicking [{v:= .iface 200 (.agg #[iv code]),recovered:=true}]/\Ext [ba,be] w w'/\w'.heap[ba]? =some (.cells S 46 (0,0))/\w'.heap[be]? =some (.cells #[iv code] 52 (0,0)):=by
 refine callsD_of_wpS Tryz.func109 rfl fun c₀ cs hu=>?_
 apply wpS_seq
 apply wpS_region
 have hta:=Iu (.agg #[iv code]) w
 obtain⟨cS,fS,lS⟩:=af hS
 obtain⟨cA,fA,lA⟩:=af hA
 obtain⟨cE,fE,lE⟩:=af hE
 simp[wpOpsS,go_sem,recoverD,hu,Tryz.ntmps109,Exit.thenS]
 refine wpS_of_wp ?_
 simp only[Array.replicate_succ,Array.replicate_zero,lT,lU,List.nil_append,List.cons_append,uq,List.set_cons_succ,List.set_cons_zero]
 go_wp2
 refine dF fun W1 hW1=>?_
 have k1:W1.heap[w.heap.size]? =some (.cells #[iv code] 200 (0,0)):=by rw[hW1];exact ay _ _
 have kS:W1.heap[bs]? =some (.cells S 46 (0,0)):=by rw[hW1];exact(heap_alloc_old _ _ lS).trans hS
 have kA:W1.heap[ba]? =some (.cells A 46 (0,0)):=by rw[hW1];exact(heap_alloc_old _ _ lA).trans hA
 have kE:W1.heap[be]? =some (.cells #[ec] 52 (0,0)):=by rw[hW1];exact(heap_alloc_old _ _ lE).trans hE
 have hB1:Ext [] w W1:=by rw[hW1];exact Ext.az (aj (aG _ _) _)
 have hw1:w.heap.size<W1.heap.size:=(aV.1 k1).1
 obtain⟨d1,g1,m1⟩:=af k1
 have hne1:ba≠w.heap.size:=by omega
 have hne2:w.heap.size≠ba:=by omega
 clear hW1 hta cS fS cA fA cE fE
 refine zg 4 [ba] (some 3) [(3,⟨fun _ v=>v=undef,fun _ _ Wx=>Wx.heap[ba]? =some (.cells S 46 (0,0))⟩)] ?_
 simp only[zt]
 refine iJ (by rfl) (.agg S) (by rfl) (fun W hE hF=>?_) ?_
 ·have hs:=(hE.block bs (by omega) (by simpa using h1)).trans kS
  exact zV _ _ rfl bs rfl _ _ _ _ hs Tryz.underlying46 rfl (by rw[hsz];kernel_rfl)
 simp only[zp]
 repeat ((first|refine zd ?_|refine zk ?_);simp only[zp])
 refine bM _ (by rfl) (by rfl) ⟨_,rfl⟩ (fun W hE hF=>?_) (fun v Wa Wb ho hE=>?_) (fun v hv=>?_)
 ·have hE':Ext [] W1 W:=hE
  have ha:=(hE'.block ba (by omega) (by simp)).trans kA
  refine wB (W':=W.setRow ba S) (yJ _ _ _ rfl ba S rfl rfl _ _ ha (by rw[hsz];kernel_rfl) (by rw[hsz,hsa]) (by rw[mM];exact fun u hu=>hone u (nH.2 hu))) ⟨rfl,setRow_heap W ba A S _ _ ha,?_⟩
  exact(show Ext [ba] W (W.setRow ba S) from fG)
 ·have hE':Ext [] Wa Wb:=hE
  have ho':Wa.heap[ba]? =some (.cells S 46 (0,0)):=ho
  exact(hE'.block ba (aV.1 ho').1 (by simp)).trans ho'
 obtain rfl:v=undef:=hv
 simp only[zp]
 intro W hE hF
 have hx:W.heap[ba]? =some (.cells S 46 (0,0)):=hF _ (bK _)
 have hE':Ext [ba] W1 W:=hE
 have he:=(hE'.block be (by omega) (by simpa using fun e=>h3 e.symm)).trans kE
 obtain⟨d2,g2,m2⟩:=af he
 have d20:=d2 0
 simp at d20
 have HX:=ae (ag hx (ag hE' he))
 clear hE hF hx hE' he d1 g1 d2
 go_wp2
 refine⟨rfl,_,rfl,.tuple #[],by simp[results,Tryz.results109],rfl,rfl,?_,?_,?_⟩
 ·exact(Ext.nil hB1).trans ((HX.o.2.1.more (by simp)).trans (gG.more (by simp)))
 ·exact(heap_setCell_other W ⟨be,0,none⟩ ba _ h3).trans HX.o.1
 ·exact aJ HX.o.2.2 _
structure IJ (B:Nat) (w w':World):Prop where
 ext:uO B [] w w'
 maps: ∀(k:Nat) es cl,w.heap[k]? =some (.map es cl)->w'.heap[k]? =some (.map es cl)
theorem IJ.wO {B:Nat} {w w':World} (h:Ext [] w w'):IJ B w w':=⟨uO.wO h,fun k es cl hk=>(h.block k (aV.1 hk).1 (by simp)).trans hk⟩
theorem V6 (B:Nat):Iz (Ext []) (IJ B):=⟨Ext.refl [],Ext.trans,fun h k=>⟨h.ext.trans k.ext,fun i es cl hi=>k.maps i es cl (h.maps i es cl hi)⟩,IJ.wO⟩
instance (W0:World):Kept (IJ W0.heap.size) [] W0:=⟨IJ.wO,fun h=>⟨h.ext.os,h.ext.tape,h.ext.output,h.ext.size,fun k hk hm=>h.ext.block k hk hk hm⟩⟩
structure Fr (bs:Nat) (S:Array Value) (W:World):Prop where
 s:W.heap[bs]? =some (.cells S 46 (0,0))
 a: ∃A,W.heap[bs+1]? =some (.cells A 46 (0,0))/\A.size=22
 e: ∃ec,W.heap[bs+2]? =some (.cells #[ec] 52 (0,0))
theorem Fr.below {bs:Nat} {S:Array Value} {w W:World} (h:Fr bs S w) {B:Nat} (hb:Below B w W) (hB:bs+2<B):Fr bs S W:=by
 obtain⟨A,h1,h2⟩:=h.a
 obtain⟨ec,h3⟩:=h.e
 exact⟨(hb.block _ (by omega)).trans h.s,⟨A,(hb.block _ (by omega)).trans h1,h2⟩,⟨ec,(hb.block _ (by omega)).trans h3⟩⟩
theorem GN {bs:Nat} {S:Array Value} (hsz:S.size=22) (hone: ∀u∈S.toList,u.oneCell'=true) {W:World} (hF:Fr bs S W) (code:Int) (tmps:Array Value) (R:Ending->World->Prop)
 (h4:tmps.getD 4 undef= .pointer (some ⟨bs+1,0,none⟩)) (h5:tmps.getD 5 undef= .pointer (some ⟨bs+2,0,none⟩))
 (hR: ∀W',Ext [bs+1,bs+2] W W'->R (.returned (.tuple #[.agg S,iv code])) W'):
 Leaves Tryz.prog Tryz.f67 tmps R [{target:= .fn (.func 109) #[.pointer (some ⟨bs,0,none⟩),.pointer (some ⟨bs+1,0,none⟩),.pointer (some ⟨bs+2,0,none⟩)],args:= #[]}] (.panicking (kG code)) W:=by
 obtain⟨A,hA,hAs⟩:=hF.a
 obtain⟨ec,hE⟩:=hF.e
 refine leaves_cons (f:=109) (args:= #[.pointer (some ⟨bs,0,none⟩),.pointer (some ⟨bs+1,0,none⟩),.pointer (some ⟨bs+2,0,none⟩)]) (by simp) (by simp[go_sem]) ?_
 refine(Jk bs (bs+1) (bs+2) S A ec code W hF.s hA hE hsz hAs (by omega) (by omega) (by omega) hone).mono ?_
 rintro e u' w'' ⟨rfl,rfl,Vk,hA',hE'⟩
 have hr:(results Tryz.f67 tmps).run Tryz.prog w''= .ok (.tuple #[.agg S,iv code]) w'':=by
  have q1:=run_loadVar_row (P:=Tryz.prog) w'' (bs+1) 46 46 S (0,0) _ hA' Tryz.underlying46 rfl (by rw[hsz];kernel_rfl)
  obtain⟨ce,fe,le⟩:=af hE'
  have c0:=ce 0
  simp only[AY] at h4 h5
  simp[results,Tryz.results67,h4,h5,asAddr,q1]
  simp[go_sem,c0]
 show Leaves _ _ _ _ [] .returning w''
 exact⟨_,hr,hR w'' Vk⟩
theorem OD {bs:Nat} {S':Array Value} (hsz:S'.size=22) {W:World} (hA:W.heap[bs+1]? =some (.cells S' 46 (0,0))) (hE:W.heap[bs+2]? =some (.cells #[iv 0] 52 (0,0))) (tmps:Array Value) (R:Ending->World->Prop)
 (h4:tmps.getD 4 undef= .pointer (some ⟨bs+1,0,none⟩)) (h5:tmps.getD 5 undef= .pointer (some ⟨bs+2,0,none⟩))
 (hR:R (.returned (.tuple #[.agg S',iv 0])) W):
 Leaves Tryz.prog Tryz.f67 tmps R [{target:= .fn (.func 109) #[.pointer (some ⟨bs,0,none⟩),.pointer (some ⟨bs+1,0,none⟩),.pointer (some ⟨bs+2,0,none⟩)],args:= #[]}] .returning W:=by
 refine leaves_cons (f:=109) (args:= #[.pointer (some ⟨bs,0,none⟩),.pointer (some ⟨bs+1,0,none⟩),.pointer (some ⟨bs+2,0,none⟩)]) (by simp) (by simp[go_sem]) ?_
 refine(catch_idle ⟨bs,0,none⟩ ⟨bs+1,0,none⟩ ⟨bs+2,0,none⟩ W).mono ?_
 rintro e u' w'' ⟨rfl,rfl,rfl⟩
 have hr:(results Tryz.f67 tmps).run Tryz.prog w''= .ok (.tuple #[.agg S',iv 0]) w'':=by
  have q1:=run_loadVar_row (P:=Tryz.prog) w'' (bs+1) 46 46 S' (0,0) _ hA Tryz.underlying46 rfl (by rw[hsz];kernel_rfl)
  obtain⟨ce,fe,le⟩:=af hE
  have c0:=ce 0
  simp only[AY] at h4 h5
  simp[results,Tryz.results67,h4,h5,asAddr,q1]
  simp[go_sem,c0]
 show Leaves _ _ _ _ [] .returning w''
 exact⟨_,hr,hR⟩
theorem TJ (c:jl) (args:Array Value) (w:World):(callFunc (gQ c) args).run Tryz.prog w= .ok (.enter (gQ c) args) w:=by
 cases c
 ·exact enters_of Tryz.func176 (by kernel_rfl) rfl args w
 ·exact enters_of Tryz.func177 (by kernel_rfl) rfl args w
 ·exact enters_of Tryz.func178 (by kernel_rfl) rfl args w
 ·exact enters_of Tryz.func179 (by kernel_rfl) rfl args w
 ·exact enters_of Tryz.func180 (by kernel_rfl) rfl args w
 ·exact enters_of Tryz.func181 (by kernel_rfl) rfl args w
 ·exact enters_of Tryz.func182 (by kernel_rfl) rfl args w
 ·exact enters_of Tryz.func183 (by kernel_rfl) rfl args w
 ·exact enters_of Tryz.func184 (by kernel_rfl) rfl args w
 ·exact enters_of Tryz.func185 (by kernel_rfl) rfl args w
 ·exact enters_of Tryz.func186 (by kernel_rfl) rfl args w
 ·exact enters_of Tryz.func187 (by kernel_rfl) rfl args w
 ·exact enters_of Tryz.func188 (by kernel_rfl) rfl args w
 ·exact enters_of Tryz.func189 (by kernel_rfl) rfl args w
 ·exact enters_of Tryz.func190 (by kernel_rfl) rfl args w
 ·exact enters_of Tryz.func191 (by kernel_rfl) rfl args w
 ·exact enters_of Tryz.func192 (by kernel_rfl) rfl args w
 ·exact enters_of Tryz.func193 (by kernel_rfl) rfl args w
 ·exact enters_of Tryz.func194 (by kernel_rfl) rfl args w
 ·exact enters_of Tryz.func195 (by kernel_rfl) rfl args w
 ·exact enters_of Tryz.func196 (by kernel_rfl) rfl args w
theorem ac1 (c:jl) (n:List Int) (hn:n.length=c.many) (hb: ∀x∈n,0<=x/\x<=9999) (N:Nat) (w:World) (wb:Nat) (s:jF) (V:SV) (es:List KE) (ns:Value) (hO:jV N w wb s V es) (hns:n≠[]->rW N w ns n) (hG:gu s):
 Calls Tryz.prog (gQ c) #[.pointer (some ⟨wb,0,none⟩),ns] w (rC N wb (iL s c n) w):=by
 cases c
 ·have:n=[]:=kD hn
  subst this
  exact abZ N w wb s V es ns hO hG
 ·obtain⟨a,b,rfl⟩: ∃a b,n=[a,b]:=by
   simp only[jl.many] at hn
   match n,hn with
   |[a,b],_=>exact⟨a,b,rfl⟩
  have h:=hns (by simp)
  exact ZR N w wb s V es ns a b hO h
 ·obtain⟨a,b,d,e,f,rfl⟩: ∃a b d e f,n=[a,b,d,e,f]:=by
   simp only[jl.many] at hn
   match n,hn with
   |[a,b,d,e,f],_=>exact⟨a,b,d,e,f,rfl⟩
  have h:=hns (by simp)
  exact yZ N w wb s V es ns a b d e f hO h hG
 ·obtain⟨a,b,d,rfl⟩: ∃a b d,n=[a,b,d]:=by
   simp only[jl.many] at hn
   match n,hn with
   |[a,b,d],_=>exact⟨a,b,d,rfl⟩
  have h:=hns (by simp)
  obtain⟨a',rfl⟩: ∃k:Nat,a=k:=⟨a.toNat,by have:=hb a (by simp);omega⟩
  exact Y0 N w wb s V es ns a' b d hO h
 ·obtain⟨a,rfl⟩: ∃a,n=[a]:=by
   simp only[jl.many] at hn
   match n,hn with
   |[a],_=>exact⟨a,rfl⟩
  have h:=hns (by simp)
  obtain⟨a',rfl⟩: ∃k:Nat,a=k:=⟨a.toNat,by have:=hb a (by simp);omega⟩
  exact NJ N w wb s V es ns a' hO h hG
 ·obtain⟨a,rfl⟩: ∃a,n=[a]:=by
   simp only[jl.many] at hn
   match n,hn with
   |[a],_=>exact⟨a,rfl⟩
  have h:=hns (by simp)
  exact Zm N w wb s V es ns a hO h
 ·obtain⟨a,b,rfl⟩: ∃a b,n=[a,b]:=by
   simp only[jl.many] at hn
   match n,hn with
   |[a,b],_=>exact⟨a,b,rfl⟩
  have h:=hns (by simp)
  exact acW N w wb s V es ns a b hO h
 ·obtain⟨a,b,d,rfl⟩: ∃a b d,n=[a,b,d]:=by
   simp only[jl.many] at hn
   match n,hn with
   |[a,b,d],_=>exact⟨a,b,d,rfl⟩
  have h:=hns (by simp)
  exact note_any N w wb s V es ns a b d hO h hG
 ·obtain⟨a,rfl⟩: ∃a,n=[a]:=by
   simp only[jl.many] at hn
   match n,hn with
   |[a],_=>exact⟨a,rfl⟩
  have h:=hns (by simp)
  obtain⟨a',rfl⟩: ∃k:Nat,a=k:=⟨a.toNat,by have:=hb a (by simp);omega⟩
  exact Y1 N w wb s V es ns a' hO h hG
 ·obtain⟨a,b,rfl⟩: ∃a b,n=[a,b]:=by
   simp only[jl.many] at hn
   match n,hn with
   |[a,b],_=>exact⟨a,b,rfl⟩
  have h:=hns (by simp)
  exact VW N w wb s V es ns a b hO h ((hb a (by simp)))
 ·obtain⟨a,b,d,rfl⟩: ∃a b d,n=[a,b,d]:=by
   simp only[jl.many] at hn
   match n,hn with
   |[a,b,d],_=>exact⟨a,b,d,rfl⟩
  have h:=hns (by simp)
  obtain⟨a',rfl⟩: ∃k:Nat,a=k:=⟨a.toNat,by have:=hb a (by simp);omega⟩
  exact KU N w wb s V es ns a' b d hO h hG ((hb b (by simp)))
 ·obtain⟨a,rfl⟩: ∃a,n=[a]:=by
   simp only[jl.many] at hn
   match n,hn with
   |[a],_=>exact⟨a,rfl⟩
  have h:=hns (by simp)
  exact Y5 N w wb s V es ns a hO h hG ((hb a (by simp)).1)
 ·obtain⟨a,rfl⟩: ∃a,n=[a]:=by
   simp only[jl.many] at hn
   match n,hn with
   |[a],_=>exact⟨a,rfl⟩
  have h:=hns (by simp)
  exact QX N w wb s V es ns a hO h hG
 ·obtain⟨a,b,d,rfl⟩: ∃a b d,n=[a,b,d]:=by
   simp only[jl.many] at hn
   match n,hn with
   |[a,b,d],_=>exact⟨a,b,d,rfl⟩
  have h:=hns (by simp)
  exact ZX N w wb s V es ns a b d hO h hG
 ·obtain⟨a,rfl⟩: ∃a,n=[a]:=by
   simp only[jl.many] at hn
   match n,hn with
   |[a],_=>exact⟨a,rfl⟩
  have h:=hns (by simp)
  obtain⟨a',rfl⟩: ∃k:Nat,a=k:=⟨a.toNat,by have:=hb a (by simp);omega⟩
  exact QY N w wb s V es ns a' hO h hG
 ·obtain⟨a,b,rfl⟩: ∃a b,n=[a,b]:=by
   simp only[jl.many] at hn
   match n,hn with
   |[a,b],_=>exact⟨a,b,rfl⟩
  have h:=hns (by simp)
  exact aat N w wb s V es ns a b hO h hG ((hb a (by simp)))
 ·obtain⟨a,b,d,rfl⟩: ∃a b d,n=[a,b,d]:=by
   simp only[jl.many] at hn
   match n,hn with
   |[a,b,d],_=>exact⟨a,b,d,rfl⟩
  have h:=hns (by simp)
  obtain⟨a',rfl⟩: ∃k:Nat,a=k:=⟨a.toNat,by have:=hb a (by simp);omega⟩
  exact sQ N w wb s V es ns a' b d hO h ((hb b (by simp)))
 ·obtain⟨a,b,rfl⟩: ∃a b,n=[a,b]:=by
   simp only[jl.many] at hn
   match n,hn with
   |[a,b],_=>exact⟨a,b,rfl⟩
  have h:=hns (by simp)
  obtain⟨a',rfl⟩: ∃k:Nat,a=k:=⟨a.toNat,by have:=hb a (by simp);omega⟩
  exact aaY N w wb s V es ns a' b hO h hG
 ·obtain⟨a,b,d,rfl⟩: ∃a b d,n=[a,b,d]:=by
   simp only[jl.many] at hn
   match n,hn with
   |[a,b,d],_=>exact⟨a,b,d,rfl⟩
  have h:=hns (by simp)
  obtain⟨a',rfl⟩: ∃k:Nat,a=k:=⟨a.toNat,by have:=hb a (by simp);omega⟩
  obtain⟨b',rfl⟩: ∃k:Nat,b=k:=⟨b.toNat,by have:=hb b (by simp);omega⟩
  exact aaH N w wb s V es ns a' b' d hO h hG
 ·obtain⟨a,b,d,rfl⟩: ∃a b d,n=[a,b,d]:=by
   simp only[jl.many] at hn
   match n,hn with
   |[a,b,d],_=>exact⟨a,b,d,rfl⟩
  have h:=hns (by simp)
  exact try_any N w wb s V es ns a b d hO h hG ⟨(hb a (by simp)),(hb b (by simp))⟩
 ·obtain⟨a,rfl⟩: ∃a,n=[a]:=by
   simp only[jl.many] at hn
   match n,hn with
   |[a],_=>exact⟨a,rfl⟩
  have h:=hns (by simp)
  obtain⟨a',rfl⟩: ∃k:Nat,a=k:=⟨a.toNat,by have:=hb a (by simp);omega⟩
  exact VP N w wb s V es ns a' hO h hG
theorem VH: ∀l:aF,(bG l).length<=l.length+1:=by
 intro l
 induction l with
 |nil=>simp[bG]
 |cons c l ih=>
  rw[bG]
  split
  ·simp;omega
  ·have:=jH l
   cases h:bG l with
   |nil=>exact absurd h this
   |cons x ps=>rw[h] at ih;simp at ih⊢;omega
theorem aI {P:Program} {w w':World} {ops:Array Oper} {rest:List Oper} {o:Oper} {a:Act} {Q:Exit->Act->World->Prop} (hg:o.guard=none) (v:Value) (h:(execOp a.eval o).run P w= .ok (.value v) w') (hK:wpList P ops Q rest (a.put o.dst v) w'):wpList P ops Q (o::rest) a w:=by
 refine wpList_plain hg fun K hK'=>?_
 exact xh (R:=fun v1 w1=>v1=v/\w1=w') (jf v h ⟨rfl,rfl⟩) fun v1 w1 ⟨h1,h2⟩=>by rw[h1,h2];exact hK' _ _ hK
theorem jQ {P:Program} {ops:Array Oper} {l:List Oper} {Q:Exit->Act->World->Prop} {a:Act} {W:World} (h: ∀W',W'=W->wpList P ops Q l a W'):wpList P ops Q l a W:=h W rfl
theorem ND: ∀(l:aF) (p:aF),p∈bG l->p.length<=l.length:=by
 intro l
 induction l with
 |nil=>intro p h;simp[bG] at h;subst h;simp
 |cons c l ih=>
  intro p h
  rw[bG] at h
  split at h
  ·rcases iy.1 h with rfl|h
   ·simp
   ·have:=ih p h;simp;omega
  ·cases hw:bG l with
   |nil=>exact absurd hw (jH l)
   |cons x ps=>
    rw[hw] at h
    simp only[List.headD_cons,List.tail_cons] at h
    rcases iy.1 h with rfl|h
    ·have:=ih x (by rw[hw];simp);simp;omega
    ·have:=ih p (by rw[hw];simp[h]);simp;omega
theorem Gx: ∀(ps:List aF) (p:aF) (ns:List Int) (n:Int),kN ps=some ns->kZ p=some n->kN (ps++[p])=some (ns++[n]):=by
 intro ps
 induction ps with
 |nil=>intro p ns n h1 h2;obtain rfl:=iV h1;simp[kN,h2]
 |cons q ps ih=>
  intro p ns n h1 h2
  unfold kN at h1
  cases hq:kZ q with
  |none=>rw[hq] at h1;cases h1
  |some x=>
   cases hs:kN ps with
   |none=>rw[hq,hs] at h1;cases h1
   |some y=>
    rw[hq,hs] at h1
    obtain rfl:=iV h1
    rw[List.cons_append,kN,hq,ih p y n hs h2]
    rfl
theorem JX: ∀(ps:List aF) (i:Nat) (p:aF),ps[i]? =some p->kZ p=none->kN ps=none:=by
 intro ps
 induction ps with
 |nil=>intro i p h;cases h
 |cons q ps ih=>
  intro i p h hn
  cases i with
  |zero=>
   simp only[List.getElem?_cons_zero,Option.some.injEq] at h
   subst h
   rw[kN,hn];rfl
  |succ i=>
   rw[kN,ih i p (by simpa using h) hn]
   cases kZ q <;>rfl
def PDo (Ms:List Nat) (s:jF) (l:aF) (w:World) (e:Ending) (w':World):Prop:=
 Below w.heap.size w w'/\ ∃V es,e= .returned (.tuple #[.agg (dw (qR bF s l).1 V),iv (qR bF s l).2])/\oG w' (qR bF s l).1 V es/\ ∀W',Ext Ms w' W'->oG W' (qR bF s l).1 V es
theorem iG {w:World} {s:jF} {V:SV} {es:List KE} (h:oG w s V es): ∀u∈(dw s V).toList,u.oneCell'=true:=by
 obtain⟨o1,c1,h1⟩:=aN.open h.vO
 obtain⟨o2,c2,h2⟩:=aN.open h.QL
 obtain⟨o3,c3,h3⟩:=aN.open h.bW
 obtain⟨o4,c4,h4⟩:=aN.open h.Fg
 obtain⟨o5,c5,h5⟩:=aN.open h.Eh
 obtain⟨o6,c6,h6⟩:=aN.open h.dn.heaps
 obtain⟨o7,c7,h7⟩:=aN.open h.dn.aT.1
 obtain⟨o8,c8,h8⟩:=aN.open h.dn.aK
 simp[dw,h1,h2,h3,h4,h5,h6,h7,h8,Value.oneCell']
theorem ae6 (s:jF) (V:SV) (es:List KE) (l:aF) (w:World) (hS:oG w s V es) (hG:gu s) (hE:Env w) (hl:l.length<=1000) (Ms:List Nat) (hMs: ∀m∈Ms,m<w.heap.size) (hSM: ∀W',Ext Ms w W'->oG W' s V es):Calls Tryz.prog 67 #[.agg (dw s V),.string (eu l)] w (PDo Ms s l w):=by
 obtain⟨vt,vn,vw,vu,vr,vh,vk,vs⟩:=V
 have HS:Hid (∀W,Below w.heap.size w W->oG W s ⟨vt,vn,vw,vu,vr,vh,vk,vs⟩ es):=ae (fun W hb=>hS.below hb (ak _))
 have HE:Hid (∀W,Below w.heap.size w W->Env W):=ae (fun W hb=>hE.below hb (ak _))
 have HG:=ae hG
 have aq9:=ae (iG hS)
 have abn:Hid (∀(code:Int),qR bF s l=(s,code)-> ∀W,Below w.heap.size w W->Fr w.heap.size (dw s ⟨vt,vn,vw,vu,vr,vh,vk,vs⟩) W-> ∀tmps:Array Value,tmps.getD 4 undef= .pointer (some ⟨w.heap.size+1,0,none⟩)->tmps.getD 5 undef= .pointer (some ⟨w.heap.size+2,0,none⟩)->
  Leaves Tryz.prog Tryz.f67 tmps (PDo Ms s l w) [{target:= .fn (.func 109) #[.pointer (some ⟨w.heap.size,0,none⟩),.pointer (some ⟨w.heap.size+1,0,none⟩),.pointer (some ⟨w.heap.size+2,0,none⟩)],args:= #[]}] (.panicking (kG code)) W):=ae (by
  intro code hd W hb hF tmps h4 h5
  refine GN rfl (iG hS) hF code tmps _ h4 h5 (fun W' Vk=>?_)
  have hb':Below w.heap.size w W':=hb.trans ⟨Vk.os,Vk.tape,Vk.output,Vk.size,fun k hk=>Vk.block k (by have:=hb.size;omega) (by simp;omega)⟩
  refine⟨hb',⟨vt,vn,vw,vu,vr,vh,vk,vs⟩,es,?_,?_,fun W'' hE'=>?_⟩
  ·rw[hd]
  ·rw[hd];exact hS.below hb' (ak _)
  ·rw[hd];exact hSM W'' ((Ext.az hb').trans hE'))
 have HMS:=ae hMs
 clear hS hE hG hMs hSM
 go_enter_defers Tryz.func67,Tryz.ntmps67
 go_upto_region 2 with(fail)
 refine dF fun W0 hW0=>?_
 have hF0:Fr w.heap.size (dw s ⟨vt,vn,vw,vu,vr,vh,vk,vs⟩) W0:=by
  rw[hW0]
  refine⟨?_,?_,?_⟩
  ·exact(heap_alloc_old _ _ (by simp;omega)).trans ((heap_alloc_old _ _ (by simp)).trans (ay _ _))
  ·exact⟨_,(heap_alloc_old _ _ (by simp)).trans (dY _ _ _),rfl⟩
  ·exact⟨_,iD _ _ _ _⟩
 have HB0:=ae (show Below w.heap.size w W0 from by rw[hW0];exact aj (aj (aj (aG _ _) _) _) _)
 have hs0:w.heap.size+3<=W0.heap.size:=by rw[hW0];simp
 have HF0:=ae hF0
 clear hW0 hF0
 go_wp2_with fail
 refine(VY l W0 (HE.o _ HB0.o) hl).mono ?_
 rintro e W1 ⟨np,hnp,rfl,hW1⟩
 have HB1:=ae (show Below w.heap.size w W1 from by rw[hW1];exact aj HB0.o _)
 have HF1:=ae (show Fr w.heap.size (dw s ⟨vt,vn,vw,vu,vr,vh,vk,vs⟩) W1 from by rw[hW1];exact HF0.o.below (aj (aG _ _) _) (by omega))
 have hp1:W1.heap[W0.heap.size]? =some (.cells (aZ (bG l)).toArray 9 (0,0)):=by rw[hW1];exact ay _ _
 have hsz1:W1.heap.size=W0.heap.size+1:=by rw[hW1];simp
 have hsz:w.heap.size+4<=W1.heap.size:=by omega
 obtain⟨pb,hpb⟩: ∃pb,pb=W0.heap.size:=⟨_,rfl⟩
 rw[<-hpb] at hp1⊢
 have hpl:pb<W1.heap.size:=by omega
 have hpw:w.heap.size+3<=pb:=by omega
 have hn1:1<=np:=by rw[hnp];have:=jH l;cases h:bG l <;>simp_all
 have hn0:0<np:=by omega
 have hnI:(0:Int)<(np:Int):=by omega
 obtain⟨x0,ps,hws⟩: ∃x0 ps,bG l=x0::ps:=by
  cases h:bG l with
  |nil=>exact absurd h (jH l)
  |cons x ps=>exact⟨x,ps,rfl⟩
 obtain⟨c1,f1,l1⟩:=af hp1
 have g0:W1.cell? ⟨pb,0,none⟩=some (.string (eu x0)):=by rw[c1,hws];rfl
 have YS:=ae (ag hp1 (ag hnp hws))
 clear hW1 hp1 hnp hws hpb hsz1 c1 f1 hs0
 go_wp2_with fail
 refine kU (V6 W1.heap.size) ((Ext.refl [] _).drew) (Ps:=(fun i _ v W=>match i with|8=> ∃b:Nat,v= .pointer (some ⟨b,0,none⟩)/\W1.heap.size<=b/\ ∃x y,W.heap[b]? =some (.cells #[x,y] 204 (0,0))|_=>True)) 10 (some 9)
  [(0,⟨fun _ v=> ∃mb,v= .map (some mb),fun _ v W=> ∃mb,v= .map (some mb)/\TabAt VU wev (fun _=>True) W mb Rh⟩),(8,⟨fun _ v=> ∃b:Nat,v= .pointer (some ⟨b,0,none⟩),fun _ _ _=>True⟩),
    (9,⟨fun _ v=>v=undef,fun xs _ W=> ∃(b:Nat) (x y:Value),xs=[.pointer (some ⟨b,0,none⟩),.agg #[x,y]]/\W1.heap.size<=b/\W.heap[b]? =some (.cells #[x,y] 204 (0,0))⟩)] (by as_aux_lemma=>kernel_rfl) (by as_aux_lemma=>kernel_rfl) ?_
 simp only[zt]
 refine kW _ (by rfl) (by rfl) (by exact⟨.map (some 0),0,rfl⟩) (fun Wa hE hF hG=>?_) (fun v Wa Wb ho hE=>?_) (fun _ _ _ _ _=>trivial) (fun v hv=>?_)
 ·have hE':IJ W1.heap.size W1 Wa:=hE
  refine dB 111 #[] (by go_simp;try rfl) ?_
  refine(VI Wa).mono ?_
  rintro e w' ⟨mb,rfl,h1,h2,h3⟩
  exact⟨_,rfl,⟨mb,rfl⟩,⟨mb,rfl,h2⟩,Ext.az h3,trivial⟩
 ·obtain⟨mb,hv,ht⟩:=ho
  have hE':IJ W1.heap.size Wa Wb:=hE
  obtain⟨h0,es',cl,hm,hx⟩:=ht
  exact⟨mb,hv,h0,es',cl,hE'.maps _ _ _ hm,hx⟩
 obtain⟨mb,rfl⟩:=hv
 simp only[zp]
 repeat ((first|refine zd ?_|refine zk ?_);simp only[zp])
 have hm:Tryz.prog.underlying 206=some (.map 9 204):=by kernel_rfl
 have hz:=fun w=>Tryz.zeroValue204 w
 obtain⟨n1,fv,bq,hT1,hone,hcase⟩: ∃(n1:Int) (fv:Value) (bq:Bool),Value.tuple #[((TB.look (eu x0) Rh).map wev).getD (.agg #[iv 0,.nilFunc]),.bool (TB.look (eu x0) Rh).isSome]= .tuple #[.agg #[iv n1,fv],.bool bq]/\fv.oneCell'=true/\
  ((ug x0=none/\bq=false/\n1=0)∨ ∃c,ug x0=some c/\bq=true/\n1=c.many/\fv= .func (.func (gQ c)) #[] #[]):=by
  rw[ZO]
  have hx:(eu x0).data.toList=x0:=by simp[eu]
  rw[hx]
  cases hc:ug x0 with
  |none=>exact⟨0,.nilFunc,false,rfl,rfl,.inl ⟨rfl,rfl,rfl⟩⟩
  |some c=>exact⟨c.many,.func (.func (gQ c)) #[] #[],true,rfl,rfl,.inr ⟨c,rfl,rfl,rfl,rfl⟩⟩
 have hlk: ∀(W:World),TabAt VU wev (fun _=>True) W mb Rh->(Instr.lookup 206 (.map (some mb)) (.string (eu x0)) true).run Tryz.prog W= .ok (.tuple #[.agg #[iv n1,fv],.bool bq]) W:=fun W hT=>by
  have:=vZ uF hm hz hT (eu x0) trivial true W rfl
  rw[aA rfl] at this
  rw[this]
  exact congrArg (fun q=>Result.ok q W) hT1
 have Nk:=ae hlk
 have HC:=ae hcase
 clear hlk hm hT1 hcase hz
 refine iJ (by rfl) (.tuple #[.agg #[iv n1,fv],.bool bq]) (by rfl) (fun W hE hF=>?_) ?_
 ·obtain⟨mb',hmb,hT⟩:=hF _ (bK _) (by kernel_rfl)
  cases hmb
  have:=Nk.o W hT
  go_simp
 simp only[zp]
 repeat ((first|refine zd ?_|refine zk ?_);simp only[zp])
 refine kW _ (by rfl) (by rfl) (by exact⟨.pointer (some ⟨0,0,none⟩),0,rfl⟩) (fun Wa hE hF hG=>?_) (fun _ _ _ _ _=>trivial) (fun v Wa Wb ho hE=>?_) (fun v hv=>?_)
 ·have hE':IJ W1.heap.size W1 Wa:=hE
  exact jf (W':=Wa.alloc (.cells #[iv 0,.nilFunc] 204)) (.pointer (some ⟨Wa.heap.size,0,none⟩)) (by go_simp;try rfl) ⟨⟨_,rfl⟩,trivial,Ext.az ((aG _ _).alloc (ak _) _),_,rfl,hE'.ext.size,_,_,heap_alloc_new _ _⟩
 ·obtain⟨b,hb,hge,x,y,hc⟩:=ho
  exact⟨b,hb,hge,x,y,(hE.block b (aV.1 hc).1 (by simp)).trans hc⟩
 obtain⟨b8,rfl⟩:=hv
 simp only[zp]
 refine kW _ (by rfl) (by rfl) (by exact⟨_,rfl⟩) (fun Wa hE hF hG=>?_) (fun v Wa Wb ho hE=>?_) (fun _ _ _ _ _=>trivial) (fun v hv=>?_)
 ·obtain⟨b,hb,hge,x,y,hc⟩:=hG rfl _ (bK _) (by kernel_rfl)
  cases hb
  refine wB (W':=Wa.setRow b8 #[iv n1,fv]) ?_ ⟨rfl,⟨b8,iv n1,fv,rfl,hge,setRow_heap Wa b8 _ _ _ _ hc⟩,?_,trivial⟩
  ·exact yJ _ _ _ rfl b8 #[iv n1,fv] rfl rfl _ _ hc (by kernel_rfl) rfl (by rw[mM];intro u hu;simp only[List.mem_toArray,iy,List.not_mem_nil,or_false] at hu;rcases hu with rfl|rfl;(exact rfl);(exact hone))
  ·exact(show IJ W1.heap.size Wa (Wa.setRow b8 #[iv n1,fv]) from⟨⟨rfl,rfl,rfl,by simp,fun k _ hkB _=>setRow_other _ _ _ _ (by omega)⟩,fun k es' cl hk=>by
    have hne:k≠b8:=fun e=>by subst e;rw[hc] at hk;cases hk
    exact(setRow_other _ _ _ _ hne).trans hk⟩)
 ·obtain⟨b,x,y,h1,h2,h3⟩:=ho
  have hE':Ext [] Wa Wb:=hE
  exact⟨b,x,y,h1,h2,(hE'.block b (aV.1 h3).1 (by simp)).trans h3⟩
 obtain rfl:v=undef:=hv
 simp only[zp]
 intro W2 hE2 hF2
 obtain⟨b8',x8,y8,hx8,apW,hb8⟩:=hF2 _ (bK _)
 have Xq:IJ W1.heap.size W1 W2:=hE2
 obtain⟨rfl,rfl,rfl⟩:b8'=b8/\x8=iv n1/\y8=fv:=by
  have h:=(show[Value.pointer (some ⟨b8,0,none⟩),.agg #[iv n1,fv]]=[.pointer (some ⟨b8',0,none⟩),.agg #[x8,y8]] from hx8)
  simp at h
  exact⟨h.1.symm,h.2.1.symm,h.2.2.symm⟩
 have xP:Below W1.heap.size W1 W2:=⟨Xq.ext.os,Xq.ext.tape,Xq.ext.output,Xq.ext.size,fun k hk=>Xq.ext.block k hk hk (by simp)⟩
 have HB2:=ae (aY HB1.o xP)
 have HF2:=ae (HF1.o.below xP (by omega))
 have hp2:=(xP.block pb hpl).trans YS.o.1
 have hs2:=xP.size
 have HP2:=ae (ag hp2 hb8)
 obtain⟨c2,f2,l2⟩:=af hb8
 have hone':=ae hone
 clear hE2 hF2 hx8 Xq xP hp2 hb8 hone g0
 rcases HC.o with⟨hc0,hbq,Xg⟩|⟨c,hc0,hbq,Xg,hfv⟩
 ·subst hbq
  have hd:qR bF s l=(s,4):=BX (by unfold mO;rw[YS.o.2.2];simp[hc0])
  have HD:=ae hd
  clear hd
  go_wp2_with fail
  refine(dZ 4 [true] W2 (by simp) _ (by simp[dL]) _ _ rfl).mono ?_
  rintro e W3 ⟨hb,⟨hc,rfl⟩|⟨hc,rfl⟩⟩
  ·exact absurd hc (by decide)
  ·exact abn.o 4 HD.o W3 (aY HB2.o hb) (HF2.o.below hb (by omega)) _ rfl rfl
 ·subst hbq
  subst Xg
  subst hfv
  have ag9:np=ps.length+1:=by rw[YS.o.2.1,YS.o.2.2];rfl
  have apv:(np:Int)<=1001:=by have:=VH l;rw[<-YS.o.2.1] at this;omega
  have HNP:=ae ag9
  clear ag9
  go_wp2_with fail
  refine(dZ 4 [(np:Int)-1 !=c.many] W2 (by simp) _ (by simp[dL]) _ _ rfl).mono ?_
  rintro e W3 ⟨hb,⟨hc,rfl⟩|⟨hc,rfl⟩⟩
  rotate_left
  ·have hd:qR bF s l=(s,4):=BX (by
    unfold mO
    rw[YS.o.2.2,List.headD_cons,hc0,Option.bind_some,List.tail_cons,ai]
    intro e
    have:=HNP.o
    simp at hc
    omega)
   exact abn.o 4 hd W3 (aY HB2.o hb) (HF2.o.below hb (by omega)) _ rfl rfl
  have hcm:ps.length=c.many:=by
   have:=HNP.o
   simp at hc
   omega
  have HB3:=ae (aY HB2.o hb)
  have HF3:=ae (HF2.o.below hb (by omega))
  have hp3:=(hb.block pb (by omega)).trans HP2.o.1
  have ahQ:=(hb.block b8' l2).trans HP2.o.2
  have akA:pb<W3.heap.size:=(aV.1 hp3).1
  obtain⟨off,hA⟩: ∃off,(if np=1 then(some ⟨pb,0,none⟩:Option Addr) else some ⟨pb,1,none⟩)=some ⟨pb,off,none⟩:=by split <;>exact⟨_,rfl⟩
  have hoff: ∀i,i<ps.length->off=1:=fun i hi=>by
   have:=HNP.o
   rw[ai (by omega)] at hA
   injection hA with h;injection h with _ h2 _;exact h2.symm
  have HO:=ae (ag hoff hcm)
  have VE:=ae (ag hp3 (ag ahQ hc0))
  have hn1':(1:Int)<=(np:Int):=by omega
  clear hb hc hcm hp3 ahQ hoff c2 f2 hc0
  go_wp2_with fail
  have HN0:Hid (kN []=some []):=ae rfl
  go_loopw [9,11,12,13,41] (fun v9 _ _ _ u wr=> ∃i:Nat,i<=ps.length/\u= .int .i64 i/\Below W3.heap.size W3 wr/\ ∃(ns:List Int) (o:Option Addr) (c9:Nat),kN (ps.take i)=some ns/\v9= .slice o i c9/\wr.ownsRow W3.heap.size 3 1 (.slice o i c9) i (ah ns)) (fun _ _ _ _ u _=>ps.length-(intOf u).toNat)
  case atStart=>exact⟨0,bU _,rfl,aG _ _,[],none,0,rfl,rfl,⟨rfl,.inl ⟨rfl,rfl⟩⟩⟩
  case round=>
   obtain⟨i,hi,rfl,hB,ns,o9,c9,hns,rfl,how⟩:=hrel
   have ag8:=HNP.o
   by_cases hlt:i<ps.length
   ·have hlt2:(i:Int)<((np-1:Nat):Int):=by omega
    have hlt3:i<np-1:=by omega
    have hpr:=(hB.block pb akA).trans VE.o.1
    obtain⟨cp,fp,lp⟩:=af hpr
    have gi:wr.cell? ⟨pb,off+i,none⟩=some (.string (eu ps[i])):=by
     rw[HO.o.1 i hlt,cp,YS.o.2.2]
     simp[aZ,hlt,Nat.add_comm]
    have aew:ps[i].length<=1000:=by
     have:=ND l ps[i] (by rw[YS.o.2.2];simp)
     omega
    have HNA:=ae (Si ps[i] wr (HE.o wr (aY HB3.o hB)) aew)
    have HX:=ae (ag hB (ag hns how))
    clear hB hns how cp hpr ag8
    go_wp2_with fail
    refine HNA.o.mono ?_
    rintro e W4 ⟨hb4,v,rfl,hv⟩
    cases hnb:kZ ps[i] with
    |none=>
     rw[hnb] at hv
     have HB4:=ae (aY HX.o.1 hb4)
     have hd:qR bF s l=(s,4):=BX (by
      unfold mO
      rw[YS.o.2.2,List.headD_cons,VE.o.2.2,Option.bind_some,List.tail_cons,JX ps i ps[i] (dP hlt) hnb]
      simp)
     have HD:=ae hd
     clear hd hb4 hv hnb HNA gi fp lp
     simp only[Option.isSome_none]
     go_wp2_with fail
     refine(dZ 4 [true] W4 (by simp) _ (by simp[dL]) _ _ rfl).mono ?_
     rintro e W5 ⟨hb,⟨hc,rfl⟩|⟨hc,rfl⟩⟩
     ·exact absurd hc (by decide)
     ·exact abn.o 4 HD.o W5 (aY HB3.o (aY HB4.o hb)) (HF3.o.below (aY HB4.o hb) (by omega)) _ rfl rfl
    |some n=>
     rw[hnb] at hv
     obtain rfl:v=n:=hv n rfl
     have HB4:=ae (aY HX.o.1 hb4)
     have ag4:=aB (Ms:=[]) HX.o.2.2 (Ext.az hb4) (by simp)
     have HN4:=ae hnb
     have HW4:=ae (ag ag4 hb4)
     clear hb4 hv hnb HNA gi fp lp ag4
     simp only[Option.isSome_some]
     go_wp2_with fail
     refine(dZ 4 [false] W4 (by simp) _ (by simp[dL]) _ _ rfl).mono ?_
     rintro e W5 ⟨hb,⟨hc,rfl⟩|⟨hc,rfl⟩⟩
     rotate_left
     ·exact absurd hc (by decide)
     have Z8:=aB (Ms:=[]) HW4.o.1 (Ext.az hb) (by simp)
     have oK:=ae (aY HB4.o hb)
     have HW5:=ae Z8
     have hs5:=oK.o.size
     have hi5:i<=1001:=by omega
     clear hb hc Z8
     go_wp2_with (at_builtin;go_loud (refine dK rfl _ _ rE rfl W3.heap.size (.slice o9 i c9) i (ah ns) rfl (aB (Ms:=[]) HW5.o (Ext.az (aj (aG _ _) _)) (by simp)) (.slice (some ⟨W5.heap.size,0,none⟩) 1 1) 1 [iv v] rfl (aN.dm 1 1 (ay _ _) rfl (by decide)) (one_one v) (by omega) (by omega) (by simp;omega) ?_))
     intro v' W6 hown hgr hN
     obtain⟨o6,c6,rfl⟩:=aU hown
     have hpu:=yS oK.o HW5.o (Ext.az (aj (aG _ _) _)) hown hgr (ak _) oK.o.size
     have HP:=ae (ag hpu hown)
     clear hpu hown hgr hN
     go_wp2_with fail
     go_roundw
     case rel=>
      refine⟨i+1,by omega,by go_num,HP.o.1.1,ns++[v],o6,c6,?_,rfl,?_⟩
      ·rw[rf,dP hlt]
       exact Gx _ _ _ _ HX.o.2.1 HN4.o
      ·rw[vF]
       exact HP.o.2
     case measure=>simp[intOf];omega
   ·obtain rfl:i=ps.length:=by omega
    rw[List.take_length] at hns
    have hp:mO l=some (c,ns):=by
     unfold mO
     rw[YS.o.2.2,List.headD_cons,VE.o.2.2,Option.bind_some,List.tail_cons,aA HO.o.2,hns]
     rfl
    have ahN:=(hB.block b8' (by have:=(aV.1 VE.o.2.1).1;omega)).trans VE.o.2.1
    obtain⟨c8,f8,l8⟩:=af ahN
    obtain⟨hwl,hnl,hnb,akE⟩:=ni hp
    have HX:=ae (ag hB (ag how (ag hp (ag hnl hnb))))
    have apw: ¬((ps.length:Nat):Int)<((np-1:Nat):Int):=by omega
    have anm: ¬ps.length<np-1:=by omega
    clear hB how hp hns hwl hnl hnb akE ahN ag8
    go_upto_region 13 with(fail)
    have hFr:=HF3.o.below HX.o.1 (by omega)
    refine wp_region_lit ?_
    refine wpList_load_row rfl _ _ rfl w.heap.size rfl _ _ _ _ hFr.s Tryz.underlying46 rfl (by kernel_rfl) ?_
    simp only[zp]
    have HFr:=ae hFr
    have FQ:=ae (FW s ⟨vt,vn,vw,vu,vr,vh,vk,vs⟩ es wr (HS.o wr (aY HB3.o HX.o.1)) HG.o)
    have Au:=l8
    have HC8:=ae c8
    clear hFr c8 f8
    go_wp2_with fail
    refine FQ.o.mono ?_
    rintro e W4 ⟨hb4,wb,V',es',rfl,hO4⟩
    have aeD:b8'<W3.heap.size:=(aV.1 VE.o.2.1).1
    have hsr:=HX.o.1.size
    have ahP:=(hb4.block b8' (by omega)).trans ((HX.o.1.block b8' aeD).trans VE.o.2.1)
    obtain⟨c4,f4,l4⟩:=af ahP
    have hns:ns≠[]->rW wr.heap.size W4 (.slice o9 ps.length c9) ns:=fun hne=>by
     have hown4:=aB (Ms:=[]) HX.o.2.1 (Ext.az hb4) (by simp)
     have hlen:ps.length=ns.length:=by rw[HX.o.2.2.2.1,HO.o.2]
     have hpos:0<ps.length:=by rw[hlen];exact List.length_pos_iff.2 hne
     obtain⟨g,rfl,hcg,hfg,hgl⟩:=ig hown4 hpos
     obtain⟨g2,hg2,aqf,_,Xj⟩:=ig HX.o.2.1 hpos
     cases hg2
     refine⟨g,c9,by rw[hlen],Xj,fun j hj=>?_⟩
     have:=hcg j (by simpa [ah] using hj)
     simpa [ah] using this
    have alB:=TJ c
    have HA:=ae (ac1 c ns HX.o.2.2.2.1 HX.o.2.2.2.2 wr.heap.size W4 wb s V' es' (.slice o9 ps.length c9) hO4 hns HG.o)
    have HB4:=ae (aY HX.o.1 hb4)
    have Yw:=ae hO4
    clear ahP hns hb4 hO4
    go_wp2_with fail
    refine HA.o.mono ?_
    rintro e W5 ⟨hb5,⟨h0,rfl,V2,es2,hO5⟩|⟨hne,rfl⟩⟩
    rotate_left
    ·have hd:qR bF s l=(s,(iL s c ns).1):=by rw[zA HX.o.2.2.1,aA hne]
     have ahU:=HB4.o.trans (hb5.mono (show W3.heap.size<=wr.heap.size from hsr))
     exact abn.o _ hd W5 (aY HB3.o ahU) (HF3.o.below ahU (by omega)) _ rfl rfl
    have oK:=ae (HB4.o.trans (hb5.mono (show W3.heap.size<=wr.heap.size from hsr)))
    have HO5:=ae (ag h0 hO5)
    have hl5:=hO5.rows.lt
    have HST:=ae (VX (iL s c ns).2 V2 es2 W5 hO5.st)
    have hk5:=hO5.blk
    clear hb5 h0 hO5 HA c4 f4 alB
    go_upto_region 15 with(fail)
    refine wp_region_lit ?_
    refine aI rfl _ (by go_simp;first|rfl|exact⟨rfl,rfl⟩) ?_
    simp only[zp]
    refine aI rfl _ (by go_simp;first|rfl|exact⟨rfl,rfl⟩) ?_
    simp only[zp]
    refine aI rfl _ (by go_simp;first|rfl|exact⟨rfl,rfl⟩) ?_
    simp only[zp]
    refine wpList_load_row rfl _ _ rfl wb rfl _ _ _ _ hk5 Tryz.underlying46 rfl (by kernel_rfl) ?_
    simp only[zp]
    have UK:=ae hk5
    clear hk5
    go_wp2_with fail
    refine HST.o.mono ?_
    rintro e W6 ⟨hb6,⟨h0,rfl⟩|⟨hne,rfl⟩⟩
    rotate_left
    ·have hd:qR bF s l=(s,bF (iL s c ns).2):=by rw[zA HX.o.2.2.1,ai (by rw[HO5.o.1];simp),aA hne]
     have ahT:=aY oK.o hb6
     exact abn.o _ hd W6 (aY HB3.o ahT) (HF3.o.below ahT (by omega)) _ rfl rfl
    have qf:=ae (aY oK.o hb6)
    have hk6:=(hb6.block wb hl5).trans UK.o
    have Nj:=ae (ag h0 (HO5.o.2.below hb6))
    clear hb6 h0 HST
    go_upto_region 16 with(fail)
    refine wp_region_lit ?_
    refine aI rfl _ (by go_simp;first|rfl|exact⟨rfl,rfl⟩) ?_
    simp only[zp]
    refine aI rfl _ (by go_simp;first|rfl|exact⟨rfl,rfl⟩) ?_
    simp only[zp]
    refine aI rfl _ (by go_simp;first|rfl|exact⟨rfl,rfl⟩) ?_
    simp only[zp]
    refine wpList_load_row rfl _ _ rfl wb rfl _ _ _ _ hk6 Tryz.underlying46 rfl (by kernel_rfl) ?_
    simp only[zp]
    have aeY:=HF3.o.below qf.o (by omega)
    obtain⟨A6,hA6,aik⟩:=aeY.a
    obtain⟨ec6,BL⟩:=aeY.e
    refine wpList_store_row rfl _ _ _ rfl (w.heap.size+1) _ rfl rfl _ _ hA6 (by kernel_rfl) (by rw[aik];rfl) (by rw[mM];exact fun u hu=>iG Nj.o.2.st u (nH.2 hu)) ?_
    simp only[zp]
    refine jQ fun W7 Fp=>?_
    have hA7:W7.heap[w.heap.size+1]? =some (.cells (dw (iL s c ns).2 V2) 46 (0,0)):=by rw[Fp];exact setRow_heap W6 _ A6 _ _ _ hA6
    have ae0:Ext [w.heap.size+1] W6 W7:=by rw[Fp];exact fG
    have Bc:=(ae0.block (w.heap.size+2) (aV.1 BL).1 (by simp)).trans BL
    obtain⟨c7,f7,l7⟩:=af Bc
    have c70:=c7 0
    simp at c70
    have HX7:=ae (ag hA7 (ag ae0 Bc))
    clear Fp hA7 ae0 Bc hA6 BL aeY aik c7 hk6
    go_wp2_with fail
    have hd:qR bF s l=((iL s c ns).2,0):=by rw[zA HX.o.2.2.1,ai (by rw[HO5.o.1];simp),ai (by rw[Nj.o.1];simp)]
    have MH:Ext [w.heap.size+1,w.heap.size+2] W6 (W7.setCell ⟨w.heap.size+2,0,none⟩ (iv 0)):=(HX7.o.2.1.more (by simp)).trans (gG.more (by simp))
    have hA8:=(heap_setCell_other W7 ⟨w.heap.size+2,0,none⟩ (w.heap.size+1) (iv 0) (by simp)).trans HX7.o.1
    have ahS:=qf.o
    have hsb:=ahS.size
    refine OD rfl hA8 (aJ HX7.o.2.2 _) _ _ rfl rfl ⟨?_,V2,es2,?_,?_,fun W' hE'=>?_⟩
    ·exact(aY HB3.o ahS).trans ⟨MH.os,MH.tape,MH.output,MH.size,fun k hk=>MH.block k (by have:=HB3.o.size;omega) (by simp;omega)⟩
    ·rw[hd]
    ·rw[hd]
     have Hl:=Nj.o.2
     have hNb:=Hl.rows.base
     exact(show jV wr.heap.size _ wb (iL s c ns).2 V2 es2 from⟨(MH.block wb Hl.rows.lt (by simp;omega)).trans Hl.blk,Hl.rows.keep MH (fun m hm=> .inr (by simp at hm;omega)),Hl.es⟩).st
    ·rw[hd]
     have Hl:=Nj.o.2
     have hNb:=Hl.rows.base
     have hO9:jV wr.heap.size _ wb (iL s c ns).2 V2 es2:=⟨(MH.block wb Hl.rows.lt (by simp;omega)).trans Hl.blk,Hl.rows.keep MH (fun m hm=> .inr (by simp at hm;omega)),Hl.es⟩
     have hsr:=HX.o.1.size
     have hs3:=HB3.o.size
     have hlt: ∀m∈Ms,m<wr.heap.size:=fun m hm=>by have:=HMS.o m hm;omega
     exact(show jV wr.heap.size W' wb (iL s c ns).2 V2 es2 from⟨(hE'.block wb hO9.rows.lt (fun h=>by have:=hlt wb h;omega)).trans hO9.blk,hO9.rows.keep hE' (fun m hm=> .inr (hlt m hm)),hO9.es⟩).st
abbrev dR:Array Value:=
 #[iv 0,iv 0,iv 0,iv 0,.slice none 0 0,iv 0,iv 0,iv 0,.slice none 0 0,iv 0,iv 0,iv 0,iv 0,iv 0,iv 0,iv 0,.slice none 0 0,.slice none 0 0,.slice none 0 0,.slice none 0 0,.slice none 0 0,.slice none 0 0]
abbrev yR (hp:Value) (wt:Value):Array Value:=
 #[iv 3,iv 2,iv 0,iv 3,.slice none 0 0,iv 10,iv 0,iv 2000,.slice none 0 0,iv 4,iv 10,iv 50,iv 10,iv 60,iv 30,iv 30,wt,.slice none 0 0,.slice none 0 0,hp,.slice none 0 0,.slice none 0 0]
theorem XR (w:World):Calls Tryz.prog 66 #[] w (fun e w'=>Below w.heap.size w w'/\ ∃V es,e= .returned (.agg (dw ed V))/\oG w' ed V es/\ ∀Ms:List Nat,(∀m∈Ms,m<w.heap.size)-> ∀W',Ext Ms w' W'->oG W' ed V es):=by
 go_enter Tryz.func66,Tryz.ntmps66
 go_upto_region 1 with(fail)
 refine dF fun W1 hW1=>?_
 have hb1:Below w.heap.size w W1:=by rw[hW1];exact aj (aG _ _) _
 have hk1: ∃cs,W1.heap[w.heap.size]? =some (.cells cs 46 (0,0))/\cs.size=22:=by rw[hW1];exact⟨_,ay _ _,rfl⟩
 have hs1:W1.heap.size=w.heap.size+1:=by rw[hW1];simp
 have HB1:=ae hb1
 have UL:=ae hk1
 clear hW1 hb1 hk1
 refine wp_region_lit ?_
 refine aI rfl (w':=W1) (.agg #[iv 0,iv 3]) (by as_aux_lemma=>kernel_rfl) ?_
 simp only[zp]
 refine aI rfl (w':=W1) (.agg #[iv 3,iv 2,iv 0,iv 3,.slice none 0 0]) (by as_aux_lemma=>kernel_rfl) ?_
 simp only[zp]
 refine aI rfl (w':=W1) (.agg #[iv 0,iv 2000]) (by as_aux_lemma=>kernel_rfl) ?_
 simp only[zp]
 refine aI rfl (w':=W1) (.agg #[iv 3,iv 2,iv 0,iv 3,.slice none 0 0,iv 10,iv 0,iv 2000,.slice none 0 0]) (by as_aux_lemma=>kernel_rfl) ?_
 simp only[zp]
 refine aI rfl (w':=W1) (.agg #[iv 30,iv 30]) (by as_aux_lemma=>kernel_rfl) ?_
 simp only[zp]
 refine aI rfl (w':=W1) (.agg #[iv 4,iv 10,iv 50,iv 10,iv 60,iv 30,iv 30,.slice none 0 0,.slice none 0 0,.slice none 0 0]) (by as_aux_lemma=>kernel_rfl) ?_
 simp only[zp]
 refine aI rfl (w':=W1) (.agg #[iv 40,iv 40]) (by as_aux_lemma=>kernel_rfl) ?_
 simp only[zp]
 refine aI rfl (w':=W1.alloc (.cells #[iv 40,iv 40] 112 (0,0))) (.slice (some ⟨W1.heap.size,0,none⟩) 1 1) (by go_simp;try rfl) ?_
 simp only[zp]
 obtain⟨W2,hW2⟩: ∃W2,W2=W1.alloc (.cells #[iv 40,iv 40] 112 (0,0)):=⟨_,rfl⟩
 rw[<-hW2]
 have hb2:Below w.heap.size w W2:=by rw[hW2];exact aj HB1.o _
 have hk2:=UL.o
 obtain⟨cs,hcs,hcz⟩:=hk2
 have hk2:W2.heap[w.heap.size]? =some (.cells cs 46 (0,0)):=by rw[hW2];exact(heap_alloc_old _ _ (by omega)).trans hcs
 have hh2:W2.heap[W1.heap.size]? =some (.cells #[iv 40,iv 40] 112 (0,0)):=by rw[hW2];exact ay _ _
 have hs2:W2.heap.size=w.heap.size+2:=by rw[hW2];simp;omega
 rw[hs1]
 rw[hs1] at hh2
 clear hW2
 refine aI rfl (w':=W2) (.agg #[.slice (some ⟨w.heap.size+1,0,none⟩) 1 1,.slice none 0 0,.slice none 0 0]) (by as_aux_lemma=>kernel_rfl) ?_
 simp only[zp]
 refine aI rfl (w':=W2) (.agg (yR (.slice (some ⟨w.heap.size+1,0,none⟩) 1 1) (.slice none 0 0))) (by as_aux_lemma=>kernel_rfl) ?_
 simp only[zp]
 refine aI rfl (w':=(W2.alloc (.cells dR 46 (0,0)))) (.pointer (some ⟨W2.heap.size,0,none⟩)) (by go_simp;try rfl) ?_
 simp only[zp]
 rw[hs2]
 refine wpList_store_row rfl _ _ _ rfl (w.heap.size+2) (yR (.slice (some ⟨w.heap.size+1,0,none⟩) 1 1) (.slice none 0 0)) (by as_aux_lemma=>kernel_rfl) (by as_aux_lemma=>kernel_rfl) _ dR (by rw[<-hs2];exact ay _ _) (by kernel_rfl) (by as_aux_lemma=>kernel_rfl) (by as_aux_lemma=>kernel_rfl) ?_
 simp only[zp]
 refine jQ fun W3 hW3=>?_
 have ahK:W3.heap[w.heap.size+2]? =some (.cells (yR (.slice (some ⟨w.heap.size+1,0,none⟩) 1 1) (.slice none 0 0)) 46 (0,0)):=by
  rw[hW3];exact setRow_heap _ _ _ _ _ _ (by rw[<-hs2];exact ay _ _)
 obtain⟨uZ,ku⟩: ∃uZ,uZ=W2.alloc (.cells dR 46 (0,0)):=⟨_,rfl⟩
 rw[<-ku] at hW3
 have tY:Ext [w.heap.size+2] uZ W3:=by rw[hW3];exact fG
 have hs2':uZ.heap.size=w.heap.size+3:=by rw[ku];simp;omega
 have hb3:Below w.heap.size w W3:=iY (by rw[ku];exact aj hb2 _) tY (by omega)
 have hs3:=tY.size
 have hk3:W3.heap[w.heap.size]? =some (.cells cs 46 (0,0)):=(tY.block _ (by omega) (by simp)).trans (by rw[ku];exact(heap_alloc_old _ _ (by omega)).trans hk2)
 have hh3:W3.heap[w.heap.size+1]? =some (.cells #[iv 40,iv 40] 112 (0,0)):=(tY.block _ (by omega) (by simp)).trans (by rw[ku];exact(heap_alloc_old _ _ (by omega)).trans hh2)
 have HB3:=ae hb3
 have FU:=ae ahK
 have HC3:=ae (ag hk3 (ag hcz hh3))
 clear hcs hcz hW3 ku tY ahK hk3 hh3 hb2 hk2 hh2 hb3
 go_wp2_with fail
 go_loopw [12] (fun u wr=> ∃i:Nat,i<=5/\u= .int .i64 i/\Below w.heap.size w wr/\w.heap.size+3<=wr.heap.size/\ ∃(o:Option Addr) (c:Nat),wr.ownsRow (w.heap.size+3) 34 2 (.slice o i c) i (aH (List.replicate i (6,6)))/\
  wr.heap[w.heap.size+2]? =some (.cells (yR (.slice (some ⟨w.heap.size+1,0,none⟩) 1 1) (.slice o i c)) 46 (0,0))/\ ∀k,k<w.heap.size+3->k≠w.heap.size+2->wr.heap[k]? =W3.heap[k]?) (fun u _=>5-(intOf u).toNat)
 case atStart=>exact⟨0,by omega,rfl,HB3.o,by omega,none,0,⟨rfl,.inl ⟨rfl,rfl⟩⟩,FU.o,fun _ _ _=>rfl⟩
 case round=>
  obtain⟨i,hi,rfl,hB,hsz,oo,oc,how,hbk,hoth⟩:=hrel
  obtain⟨c2,f2,l2⟩:=af hbk
  by_cases hlt:i<5
  ·have HX:=ae (ag hB (ag how (ag hbk hoth)))
   have g16:=c2 16
   simp only[yR] at g16
   clear hB how hbk hoth c2
   go_wp2_with (at_builtin;go_loud (refine dK rfl _ _ jG.Ld rfl (w.heap.size+3) (.slice oo i oc) i (aH (List.replicate i (6,6))) rfl (aB (Ms:=[]) HX.o.2.1 (Ext.az (aj (aG _ _) _)) (by simp)) (.slice (some ⟨wr.heap.size,0,none⟩) 1 1) 1 [iv 6,iv 6] rfl (aN.dm 2 1 (ay _ _) rfl (by decide)) (by simp[Value.oneCell']) (by omega) (by omega) (by simp;omega) ?_))
   intro v' W6 hown6 Jc _
   obtain⟨o6,c6,rfl⟩:=aS hown6
   have HP:=ae (acY (i:=16) (u:= .slice o6 (i+1) c6) HX.o.1 HX.o.2.1 (Ext.az (aj (aG _ _) _)) hown6 Jc hsz (by omega) (by omega) HX.o.2.2.1)
   obtain⟨aqe,ap2,api⟩:=af (((yS HX.o.1 HX.o.2.1 (Ext.az (aj (aG _ _) _)) hown6 Jc (by omega) hsz).2.2 (w.heap.size+2) (by omega)).trans HX.o.2.2.1)
   clear hown6 Jc
   go_wp2_with fail
   go_roundw
   case rel=>
    refine⟨i+1,by omega,by go_num,HP.o.1,HP.o.2.1,o6,c6,?_,HP.o.2.2.2.1,fun k hk hne=>(HP.o.2.2.2.2 k hk hne).trans (HX.o.2.2.2 k hk hne)⟩
    have:=HP.o.2.2.1
    rw[List.replicate_succ']
    simpa [aH] using this
   case measure=>simp[intOf];omega
  ·obtain rfl:i=5:=by omega
   have HX:=ae (ag hB (ag how (ag hbk hoth)))
   clear hB how hbk hoth
   go_upto_region 6 with(fail)
   have hk0:=(HX.o.2.2.2 w.heap.size (by omega) (by omega)).trans HC3.o.1
   refine wp_region_lit ?_
   refine wpList_load_row rfl _ _ rfl (w.heap.size+2) rfl _ _ _ _ HX.o.2.2.1 Tryz.underlying46 rfl (by kernel_rfl) ?_
   simp only[zp]
   refine wpList_store_row rfl _ _ _ rfl w.heap.size (yR (.slice (some ⟨w.heap.size+1,0,none⟩) 1 1) (.slice oo (5:Nat) oc)) (by as_aux_lemma=>kernel_rfl) (by as_aux_lemma=>kernel_rfl) _ cs hk0 (by kernel_rfl) (by rw[HC3.o.2.1];rfl) (by as_aux_lemma=>kernel_rfl) ?_
   simp only[zp]
   refine jQ fun W7 Fp=>?_
   have Bc:Ext [w.heap.size] wr W7:=by rw[Fp];exact fG
   have hb7:=iY HX.o.1 Bc (ak _)
   have EI:W7.heap[w.heap.size]? =some (.cells (yR (.slice (some ⟨w.heap.size+1,0,none⟩) 1 1) (.slice oo (5:Nat) oc)) 46 (0,0)):=by rw[Fp];exact setRow_heap _ _ _ _ _ _ hk0
   have hw7:=aB (Ms:=[w.heap.size]) HX.o.2.1 Bc (by simp)
   have hh7:=(Bc.block (w.heap.size+1) (by omega) (by simp)).trans ((HX.o.2.2.2 (w.heap.size+1) (by omega) (by omega)).trans HC3.o.2.2)
   have H7:=ae (ag hb7 (ag EI (ag hw7 hh7)))
   clear Fp Bc hb7 EI hw7 hh7 hk0
   go_upto_region 7 with(fail)
   refine bodyPost_ret (v:= .agg (yR (.slice (some ⟨w.heap.size+1,0,none⟩) 1 1) (.slice oo (5:Nat) oc))) (results_cell_row Tryz.results66 _ _ w.heap.size _ _ (0,0) _ rfl H7.o.2.1 Tryz.underlying46 rfl (by kernel_rfl)) rfl ?_
   refine⟨H7.o.1,⟨.slice none 0 0,.slice none 0 0,.slice oo (5:Nat) oc,.slice none 0 0,.slice none 0 0,.slice (some ⟨w.heap.size+1,0,none⟩) 1 1,.slice none 0 0,.slice none 0 0⟩,[],rfl,?_⟩
   have hst: ∀Ms:List Nat,(∀m∈Ms,m<w.heap.size)-> ∀W',Ext Ms W7 W'->oG W' ed ⟨.slice none 0 0,.slice none 0 0,.slice oo (5:Nat) oc,.slice none 0 0,.slice none 0 0,.slice (some ⟨w.heap.size+1,0,none⟩) 1 1,.slice none 0 0,.slice none 0 0⟩ []:=fun Ms hMs W' hE'=>by
    have hn: ∀k,aN k W' (.slice none 0 0) 0 []:=fun k=>⟨by simp,none,0,rfl,ak _,by decide,fun _=>rfl,fun a h=>by cases h⟩
    have h1:=aB (Ms:=Ms) H7.o.2.2.1 hE' (fun m hm=>by have:=hMs m hm;omega)
    have h2:=(hE'.block (w.heap.size+1) (aV.1 H7.o.2.2.2).1 (fun h=>by have:=hMs _ h;omega)).trans H7.o.2.2.2
    exact⟨hn _,hn _,aN.dH h1,hn _,hn _,⟨aN.dm 2 1 h2 rfl (by decide),⟨hn _,fun e he=>by cases he⟩,rfl,hn _⟩⟩
   exact⟨hst [] (by simp) _ (Ext.refl _ _),hst⟩
theorem agr:iW Tryz.prog 51 52 (iv 0) 1 8:=⟨Tryz.underlying51,by kernel_rfl,rfl,by omega⟩
theorem zh {w:World} {o:Option Addr} {n c:Nat} {l:List aF} (h:aN 1 w (.slice o n c) n (aZ l)) {k:Nat} (hk:k<l.length):
 ∃b off,o=some ⟨b,off,none⟩/\b<w.heap.size/\w.cell? ⟨b,off+k,none⟩=some (.string (eu l[k])):=by
 obtain⟨hl,o',c',hv,h1,h2,h3,h4⟩:=h
 cases hv
 have hn:n=l.length:=by simpa [aZ] using hl.symm
 cases o with
 |none=>have:=h3 rfl;omega
 |some a=>
  obtain⟨b,off,sp⟩:=a
  obtain⟨hs,hc⟩:=h4 _ rfl
  simp only at hs hc
  subst hs
  have:=hc k (.string (eu l[k])) (by simp[aZ,hk])
  exact⟨b,off,rfl,dN w _ this,this⟩
def aiI (Qs:List Nat) (ls:List aF) (w:World) (e:Ending) (w':World):Prop:=
 Below w.heap.size w w'/\ ∃V es cv,e= .returned (.tuple #[.agg (dw (fK bF ed ls).1 V),cv])/\(∀W',Ext Qs w' W'->oG W' (fK bF ed ls).1 V es)/\w'.ownsRow w.heap.size 52 1 cv ls.length (ah (fK bF ed ls).2)
theorem yu (lv:Value) (ls:List aF) (w:World) (hls:jb w lv ls) (hE:Env w) (hln: ∀l∈ls,l.length<=1000) (hn:ls.length<=1000000) (Qs:List Nat) (hQs: ∀m∈Qs,m<w.heap.size):Calls Tryz.prog 38 #[lv] w (aiI Qs ls w):=by
 obtain⟨ov,cv,rfl⟩:=aN.open hls
 have Jq:Hid (∀W,Below w.heap.size w W->jb W (.slice ov ls.length cv) ls):=ae (fun W hb=>hls.below hb (ak _))
 have HE:Hid (∀W,Below w.heap.size w W->Env W):=ae (fun W hb=>hE.below hb (ak _))
 clear hls hE
 go_enter Tryz.func38,Tryz.ntmps38
 go_upto_region 1 with(fail)
 refine dF fun W1 hW1=>?_
 have hb1:Below w.heap.size w W1:=by rw[hW1];exact aj (aG _ _) _
 have hk1: ∃cs,W1.heap[w.heap.size]? =some (.cells cs 46 (0,0))/\cs.size=22:=by rw[hW1];exact⟨_,ay _ _,rfl⟩
 have hs1:W1.heap.size=w.heap.size+1:=by rw[hW1];simp
 have HB1:=ae hb1
 have UL:=ae hk1
 clear hW1 hb1 hk1
 go_wp2_with fail
 refine(XR W1).mono ?_
 rintro e W2 ⟨hb2,V0,es0,rfl,hS0,hX0⟩
 rename_i hK
 refine hK _ _ ?_
 have hs2:=hb2.size
 refine aI rfl (w':=(W2.alloc (.cells dR 46 (0,0)))) (.pointer (some ⟨W2.heap.size,0,none⟩)) (by go_simp;try rfl) ?_
 simp only[zp]
 obtain⟨g,hg⟩: ∃g,g=W2.heap.size:=⟨_,rfl⟩
 rw[<-hg]
 have hz:(W2.alloc (.cells dR 46 (0,0))).heap[g]? =some (.cells dR 46 (0,0)):=by rw[hg];exact ay _ _
 refine wpList_store_row rfl _ _ _ rfl g (dw ed V0) (by as_aux_lemma=>kernel_rfl) (by as_aux_lemma=>kernel_rfl) _ dR hz (by kernel_rfl) (by as_aux_lemma=>kernel_rfl) (by rw[mM];exact fun u hu=>iG hS0 u (nH.2 hu)) ?_
 simp only[zp]
 refine jQ fun W3 hW3=>?_
 obtain⟨uZ,ku⟩: ∃uZ,uZ=W2.alloc (.cells dR 46 (0,0)):=⟨_,rfl⟩
 rw[<-ku] at hW3 hz
 have tY:Ext [g] uZ W3:=by rw[hW3];exact fG
 have hs3:=tY.size
 have hs2':uZ.heap.size=g+1:=by rw[ku,hg];simp
 have lq:Below W2.heap.size W2 W3:=iY (by rw[ku];exact aj (aG _ _) _) tY (by omega)
 have hS3:oG W3 ed V0 es0:=hS0.below lq (ak _)
 have hk3:W3.heap[g]? =some (.cells (dw ed V0) 46 (0,0)):=by rw[hW3];exact setRow_heap _ _ _ _ _ _ hz
 have hX3: ∀W',Ext (w.heap.size::g::Qs) W3 W'->oG W' ed V0 es0:=fun W' hE'=>hX0 (w.heap.size::Qs) (fun m hm=>by
  rcases iy.1 hm with rfl|hm
  ·omega
  ·have:=hQs m hm;omega) W' ⟨lq.os▸hE'.os,hE'.tape.trans lq.tape,hE'.output.trans lq.output,jq lq.size hE'.size,fun k hk hm=>(hE'.block k (by omega) (fun h=>by
   rcases iy.1 h with h|h
   ·exact hm (by rw[h];exact List.mem_cons_self)
   ·rcases iy.1 h with h|h
    ·omega
    ·exact hm (pV _ h))).trans (lq.block k hk)⟩
 have hr3: ∃cs,W3.heap[w.heap.size]? =some (.cells cs 46 (0,0))/\cs.size=22:=by
  obtain⟨cs,h1,h2⟩:=UL.o
  exact⟨cs,(lq.block _ (by omega)).trans ((hb2.block _ (by omega)).trans h1),h2⟩
 have HB3:=ae (aY HB1.o (aY hb2 lq))
 have H3:=ae (ag hS3 (ag hk3 (ag hr3 hX3)))
 have hgw:w.heap.size+1<=g:=by omega
 have hg3:g+1<=W3.heap.size:=by omega
 clear hX3 hX0 hW3 ku tY lq hS3 hk3 hr3 hz hS0 hb2 hg hK
 go_wp2_with fail
 go_loopw [5,13] (fun v5 u wr=> ∃i:Nat,i<=ls.length/\u= .int .i64 i/\Below w.heap.size w wr/\W3.heap.size<=wr.heap.size/\ ∃(o:Option Addr) (c:Nat) (V:SV) (es:List KE),v5= .slice o i c/\wr.ownsRow W3.heap.size 52 1 (.slice o i c) i (ah (fK bF ed (ls.take i)).2)/\
  wr.heap[g]? =some (.cells (dw (fK bF ed (ls.take i)).1 V) 46 (0,0))/\oG wr (fK bF ed (ls.take i)).1 V es/\wr.heap[w.heap.size]? =W3.heap[w.heap.size]?/\ ∀W',Ext (w.heap.size::g::((Value.slice o i c).ownBlock.toList++Qs)) wr W'->oG W' (fK bF ed (ls.take i)).1 V es) (fun _ u _=>ls.length-(intOf u).toNat)
 case atStart=>exact⟨0,bU _,rfl,HB3.o,ak _,none,0,V0,es0,rfl,⟨rfl,.inl ⟨rfl,rfl⟩⟩,H3.o.2.1,H3.o.1,rfl,H3.o.2.2.2⟩
 case round=>
  obtain⟨i,hi,rfl,hB,hsz,oo,oc,V,es,rfl,how,hbk,hS,hr0,hXM⟩:=hrel
  by_cases hlt:i<ls.length
  ·obtain⟨bl,off,hov,hbl,hcl⟩:=zh (Jq.o _ hB) hlt
   have HX:=ae (ag hB (ag how (ag hbk (ag hS (ag hr0 hXM)))))
   have HD:=ae (ae6 (fK bF ed (ls.take i)).1 V es ls[i] wr hS (JK _ Ir) (HE.o wr hB) (hln _ (cZ hlt)) (w.heap.size::g::((Value.slice oo i oc).ownBlock.toList++Qs)) (fun m hm=>by
    rcases iy.1 hm with rfl|hm
    ·omega
    ·rcases iy.1 hm with rfl|hm
     ·omega
     ·rcases iI.1 hm with hm|hm
      ·exact(bJ how m (dJ.1 hm)).2
      ·have:=hQs m hm;omega) hXM)
   subst hov
   clear hB how hbk hS hr0 hXM
   go_upto_region 6 with(fail)
   refine wp_region_lit ?_
   refine wpList_load_row rfl _ _ rfl g rfl _ _ _ _ HX.o.2.2.1 Tryz.underlying46 rfl (by kernel_rfl) ?_
   simp only[zp]
   go_wp2_with fail
   refine HD.o.mono ?_
   rintro e W4 ⟨hb4,V4,es4,rfl,hS4,hX4⟩
   rename_i hK
   refine hK _ _ ?_
   refine aI rfl _ (by go_simp;first|rfl|exact⟨rfl,rfl⟩) ?_
   simp only[zp]
   refine aI rfl _ (by go_simp;first|rfl|exact⟨rfl,rfl⟩) ?_
   simp only[zp]
   refine aI rfl _ (by go_simp;first|rfl|exact⟨rfl,rfl⟩) ?_
   simp only[zp]
   obtain⟨q,hq⟩: ∃q,q=W4.heap.size:=⟨_,rfl⟩
   have hs4:=hb4.size
   refine aI rfl (w':=W4.alloc (.cells dR 46 (0,0))) (.pointer (some ⟨q,0,none⟩)) (by rw[hq];go_simp;try rfl) ?_
   simp only[zp]
   have hz:(W4.alloc (.cells dR 46 (0,0))).heap[q]? =some (.cells dR 46 (0,0)):=by rw[hq];exact ay _ _
   refine wpList_store_row rfl _ _ _ rfl q (dw (qR bF (fK bF ed (ls.take i)).1 ls[i]).1 V4) (by as_aux_lemma=>kernel_rfl) (by as_aux_lemma=>kernel_rfl) _ dR hz (by kernel_rfl) (by as_aux_lemma=>kernel_rfl) (by rw[mM];exact fun u hu=>iG hS4 u (nH.2 hu)) ?_
   simp only[zp]
   refine jQ fun W5 yG=>?_
   obtain⟨W4',acB⟩: ∃W4',W4'=W4.alloc (.cells dR 46 (0,0)):=⟨_,rfl⟩
   rw[<-acB] at yG hz
   have Ph:Ext [q] W4' W5:=by rw[yG];exact fG
   have acj:W4'.heap.size=q+1:=by rw[acB,hq];simp
   have hs5:=Ph.size
   have aeT:Below W4.heap.size W4 W5:=iY (by rw[acB];exact aj (aG _ _) _) Ph (by omega)
   have hk5:W5.heap[q]? =some (.cells (dw (qR bF (fK bF ed (ls.take i)).1 ls[i]).1 V4) 46 (0,0)):=by rw[yG];exact setRow_heap _ _ _ _ _ _ hz
   have hb5:=aY hb4 aeT
   have H5:=ae (ag hb5 (ag aeT (ag hk5 (ag hS4 hX4))))
   clear yG acB Ph aeT hk5 hz hS4 hX4 hb4 hb5 hK
   go_upto_region 7 with(fail)
   have hTK:fK bF ed (ls.take (i+1))=((qR bF (fK bF ed (ls.take i)).1 ls[i]).1,(fK bF ed (ls.take i)).2++[(qR bF (fK bF ed (ls.take i)).1 ls[i]).2]):=by rw[iE hlt,Df]
   obtain⟨code,hcode⟩: ∃code,code=(qR bF (fK bF ed (ls.take i)).1 ls[i]).2:=⟨_,rfl⟩
   rw[<-hcode] at hTK⊢
   obtain⟨Ms,hMs⟩: ∃Ms,Ms=(Value.slice oo i oc).ownBlock.toList:=⟨_,rfl⟩
   have hm0: ∀m∈Ms,W3.heap.size<=m/\m<wr.heap.size:=fun m h=>bJ HX.o.2.1 m (by rw[hMs] at h;exact dJ.1 h)
   have xG: ∀m∈Ms,m<W5.heap.size:=fun m h=>by have:=hm0 m h;omega
   have hm1:q∉Ms:=fun h=>by have:=hm0 q h;omega
   have hm2:g∉Ms:=fun h=>by have:=hm0 g h;omega
   have hq5:q<W5.heap.size:=by omega
   have Ux:=ae hTK
   have HM:=ae hMs
   clear hTK hMs hcode
   refine zg 5 Ms (some 4) [(3,Spec.slice W5.heap.size #[iv code] 52 1),(4,⟨fun _ v=> ∃o2 c2,v= .slice o2 (i+1) c2,fun _ v Wx=>Wx.ownsRow W3.heap.size 52 1 v (i+1) (ah (fK bF ed (ls.take i)).2++[iv code])/\(v.ownBlock=(Value.slice oo i oc).ownBlock∨ ∃q,v.ownBlock=some q/\W5.heap.size<=q)⟩)] ?_
   simp only[zt]
   refine iJ (by rfl) (.agg (dw (qR bF (fK bF ed (ls.take i)).1 ls[i]).1 V4)) (by rfl) (fun W hE hF=>?_) ?_
   ·exact zV _ _ rfl q rfl _ _ _ _ ((hE.block q hq5 hm1).trans H5.o.2.2.1) Tryz.underlying46 rfl (by kernel_rfl)
   simp only[zp]
   repeat ((first|refine zd ?_|refine zk ?_);simp only[zp])
   refine eF W5.heap.size _ _ 1 (by rfl) (ak _) (by rfl) xG (by simp) (fun W hW=>by go_simp;try rfl) (fun b6=>?_)
   simp only[zp]
   refine bM _ (by rfl) (by rfl) (by exact⟨.slice none (i+1) 0,none,0,rfl⟩) (fun W6 hE hF=>?_) (fun v Wa Wb ho hE=>?_) (fun v hv=>?_)
   ·have hE':Ext [] W5 W6:=hE
    obtain⟨b',hb',hge,hcc⟩:=hF _ (bK _) (by kernel_rfl)
    cases hb'
    have hown6:=aB (Ms:=[]) HX.o.2.1 ((Ext.az H5.o.1).trans hE') (by simp)
    have hsrc:aN 1 W6 (.slice (some ⟨b6,0,none⟩) 1 1) 1 ([iv code]):=aN.dm 1 1 hcc rfl (by decide)
    refine Does.mono (dU agr (by rfl) (by rfl) hown6 (by rfl) hsrc (one_one code) (by omega) (by omega) (by have:=hE'.size;omega)) ?_
    rintro v' W7 ⟨ho,hgr,hcase⟩
    refine⟨aU ho,⟨ho,hcase.imp id fun h1=>⟨_,h1,hE'.size⟩⟩,⟨hgr.os,hgr.tape,hgr.output,hgr.size,fun b hb hn=>hgr.block b hb (fun e=>hn (by rw[HM.o];exact dJ.2 e.symm))⟩⟩
   ·exact⟨aB (Ms:=[]) ho.1 hE (by simp),ho.2⟩
   obtain⟨o7,c7,rfl⟩:=hv
   simp only[zp]
   intro W6 hE hF
   obtain⟨ho6,hg6⟩:=hF _ (bK _)
   have BL:Ext Ms W5 W6:=hE
   have hs6:=BL.size
   have hkg:=(BL.block g (by omega) hm2).trans ((H5.o.1.block g (by omega)).trans HX.o.2.2.1)
   refine wpList_store_row rfl _ _ _ rfl g (dw (qR bF (fK bF ed (ls.take i)).1 ls[i]).1 V4) (by as_aux_lemma=>kernel_rfl) (by as_aux_lemma=>kernel_rfl) _ _ hkg (by kernel_rfl) rfl (by rw[mM];exact fun u hu=>iG H5.o.2.2.2.1 u (nH.2 hu)) ?_
   simp only[zp]
   refine jQ fun W7 Fp=>?_
   have Bc:Ext [g] W6 W7:=by rw[Fp];exact fG
   have EI:W7.heap[g]? =some (.cells (dw (qR bF (fK bF ed (ls.take i)).1 ls[i]).1 V4) 46 (0,0)):=by rw[Fp];exact setRow_heap _ _ _ _ _ _ hkg
   have hs7:=Bc.size
   have Tq:Below w.heap.size w W7:=by
    have aln:=aY HX.o.1 H5.o.1
    exact aln.trans ⟨Bc.os.trans BL.os,Bc.tape.trans BL.tape,Bc.output.trans BL.output,by omega,fun k hk=>(Bc.block k (by omega) (by simp;omega)).trans (BL.block k (by omega) (fun h=>by have:=hm0 k h;omega))⟩
   have ho7:=aB (Ms:=[g]) ho6 Bc (by simp;omega)
   have U7:W7.heap[w.heap.size]? =W3.heap[w.heap.size]? :=(Bc.block _ (by omega) (by simp;omega)).trans ((BL.block _ (by omega) (fun h=>by have:=hm0 _ h;omega)).trans ((H5.o.1.block _ (by omega)).trans HX.o.2.2.2.2.1))
   have hX7: ∀W',Ext (w.heap.size::g::((Value.slice o7 (i+1) c7).ownBlock.toList++Qs)) W7 W'->oG W' (qR bF (fK bF ed (ls.take i)).1 ls[i]).1 V4 es4:=fun W' hE'=>by
    have h45:=H5.o.2.1
    have aqs:=h45.size
    refine H5.o.2.2.2.2 W' ⟨hE'.os.trans (Bc.os.trans (BL.os.trans h45.os)),hE'.tape.trans (Bc.tape.trans (BL.tape.trans h45.tape)),hE'.output.trans (Bc.output.trans (BL.output.trans h45.output)),by have:=hE'.size;omega,fun k hk hm=>?_⟩
    have n1:k≠w.heap.size:=fun e=>hm (by simp[e])
    have n2:k≠g:=fun e=>hm (by simp[e])
    have n3:k∉(Value.slice oo i oc).ownBlock.toList:=fun h=>hm (pV _ (pV _ (nI _ h)))
    have n5:k∉Qs:=fun h=>hm (pV _ (pV _ (uy _ h)))
    have n4:k∉(Value.slice o7 (i+1) c7).ownBlock.toList:=fun h=>by
     rcases hg6 with h1|⟨x,h1,h2⟩
     ·rw[h1] at h;exact n3 h
     ·rw[h1] at h;simp at h;omega
    exact(hE'.block k (by omega) (fun h=>by rcases iy.1 h with h|h;(exact n1 h);rcases iy.1 h with h|h;(exact n2 h);rcases iI.1 h with h|h;(exact n4 h);exact n5 h)).trans ((Bc.block k (by omega) (by simpa using n2)).trans ((BL.block k (by omega) (by rw[HM.o];exact n3)).trans (h45.block k hk)))
   have Z4:oG W7 (qR bF (fK bF ed (ls.take i)).1 ls[i]).1 V4 es4:=hX7 W7 (Ext.refl _ _)
   have H7:=ae (ag Tq (ag ho7 (ag EI (ag Z4 (ag U7 hX7)))))
   have akv:W3.heap.size<=W7.heap.size:=by omega
   clear Tq ho7 EI Z4 U7 hX7 Fp Bc BL hE hF ho6 hg6 hkg
   go_wp2_with fail
   go_roundw
   case rel=>
    refine⟨i+1,by omega,by go_num,H7.o.1,akv,o7,c7,V4,es4,rfl,?_⟩
    rw[Ux.o]
    refine⟨?_,H7.o.2.2.1,H7.o.2.2.2.1,H7.o.2.2.2.2.1,H7.o.2.2.2.2.2⟩
    simpa [ah] using H7.o.2.1
   case measure=>simp[intOf];omega
  ·obtain rfl:i=ls.length:=by omega
   have HX:=ae (ag hB (ag how (ag hbk (ag hS (ag hr0 hXM)))))
   clear hB how hbk hS hr0 hXM
   go_upto_region 9 with(fail)
   obtain⟨cs,hcs,hcz⟩:=H3.o.2.2.1
   have hk0:=HX.o.2.2.2.2.1.trans hcs
   refine wp_region_lit ?_
   refine wpList_load_row rfl _ _ rfl g rfl _ _ _ _ HX.o.2.2.1 Tryz.underlying46 rfl (by kernel_rfl) ?_
   simp only[zp]
   refine aI rfl _ (by go_simp;first|rfl|exact⟨rfl,rfl⟩) ?_
   simp only[zp]
   refine wpList_store_row rfl _ _ _ rfl w.heap.size (dw (fK bF ed (ls.take ls.length)).1 V) (by as_aux_lemma=>kernel_rfl) (by as_aux_lemma=>kernel_rfl) _ cs hk0 (by kernel_rfl) (by rw[hcz];rfl) (by rw[mM];exact fun u hu=>iG HX.o.2.2.2.1 u (nH.2 hu)) ?_
   simp only[zp]
   refine jQ fun W7 Fp=>?_
   have Bc:Ext [w.heap.size] wr W7:=by rw[Fp];exact fG
   have hb7:=iY HX.o.1 Bc (ak _)
   have EI:W7.heap[w.heap.size]? =some (.cells (dw (fK bF ed (ls.take ls.length)).1 V) 46 (0,0)):=by rw[Fp];exact setRow_heap _ _ _ _ _ _ hk0
   have hw7:=aB (Ms:=[w.heap.size]) HX.o.2.1 Bc (by simp;omega)
   have Z4: ∀W',Ext Qs W7 W'->oG W' (fK bF ed (ls.take ls.length)).1 V es:=fun W' hE'=>HX.o.2.2.2.2.2 W' ((Bc.more (by simp)).trans (hE'.more (fun m hm=>pV _ (pV _ (uy _ hm)))))
   have H7:=ae (ag hb7 (ag EI (ag hw7 Z4)))
   clear Fp Bc hb7 EI hw7 hk0 Z4
   go_wp2_with fail
   refine bodyPost_ret (v:= .tuple #[.agg (dw (fK bF ed (ls.take ls.length)).1 V),.slice oo ls.length oc]) ?_ rfl ?_
   ·have q1:=run_loadVar_row (P:=Tryz.prog) W7 w.heap.size 46 46 _ (0,0) _ H7.o.2.1 Tryz.underlying46 rfl (by kernel_rfl)
    simp[results,Tryz.results38,asAddr,q1]
   ·have h7:=H7.o
    rw[List.take_length] at h7⊢
    exact⟨h7.1,V,es,_,rfl,h7.2.2.2,dh h7.2.2.1 (by omega)⟩
theorem WQ (k:Int) (l:aF) (w:World) (hl:l.length<=1000000):Calls Tryz.prog 64 #[iv k,.string (eu l)] w (PV (.bool (decide ((l.length:Int)<=k))) w):=by
 have hs:(eu l).size=l.length:=by simp[ByteArray.size]
 go_enter Tryz.func64,Tryz.ntmps64
 go_wp2_with fail
 go_returns
 exact⟨rfl,aG _ _⟩
abbrev sv (l:aF):Value:= .string (eu l)
theorem jb.cell {w:World} {o:Option Addr} {n c:Nat} {l:List aF} (h:aN 1 w (.slice o n c) n (aZ l)) {k:Nat} (hk:k<l.length):
 ∃b off,o=some ⟨b,off,none⟩/\b<w.heap.size/\w.cell? ⟨b,off+k,none⟩=some (sv l[k]):=zh h hk
theorem akg (l:List aF) (v:Value) (bn:Nat) (fst caps:Array Value) (p:Nat->Bool) (I:Nat->World->Prop) (w:World) (eg: ∀args w,(callFunc bn args).run Tryz.prog w= .ok (.enter bn args) w)
 (hsl: ∀k W,I k W->jb W v l)
 (hcall: ∀k (hk:k<l.length) W,(∀j,j<k->p j=false)->I k W->Calls Tryz.prog bn (fst.push (sv l[k])++caps) W (fun e W'=>e= .returned (.bool (p k))/\I (k+1) W')) (h0:I 0 w):
 Calls Tryz.prog 174 #[v,.func (.func bn) fst caps] w (eG l.length p I (fun k=>iv k) (iv (-1))):=by
 have hlen:=(hsl 0 w h0).len
 obtain⟨o,c,rfl⟩:=(hsl 0 w h0).open
 have HC:=ae hcall
 have HS:=ae hsl
 clear hcall hsl
 go_enter Tryz.func174,Tryz.ntmps174
 go_wp2
 go_loopw [4,5,8] (fun _ _ i wr=> ∃k:Nat,k<=l.length/\i= .int .i64 k/\(∀j,j<k->p j=false)/\I k wr) (fun _ _ i _=>l.length-(intOf i).toNat)
 case atStart=>exact⟨0,bU _,rfl,fun j hj=>by omega,h0⟩
 case round=>
  obtain⟨k,hk,rfl,hno,hI⟩:=hrel
  by_cases hlt:k<l.length
  ·obtain⟨b,off,rfl,hb,hc0⟩:=jb.cell (HS.o k wr hI) hlt
   have hC:=HC.o k hlt wr hno hI
   have HN:=ae hno
   clear hno
   go_wp2_with fail
   refine hC.mono ?_
   rintro e W1 ⟨rfl,hI1⟩
   have HI:=ae hI1
   clear hI1 hI hC
   cases hp:p k
   ·go_wp2_with fail
    go_roundw
    case rel=>exact⟨k+1,by omega,by go_num,fun j hj=>(by by_cases e:j=k;(subst e;exact hp);exact HN.o j (by omega)),HI.o⟩
    case measure=>simp[intOf];omega
   ·go_wp2_with fail
    go_returns
    exact⟨k,by omega,HN.o,.inl ⟨hlt,hp,by simp,HI.o⟩⟩
  ·have hkl:k=l.length:=by omega
   have HN:=ae hno
   clear hno
   go_wp2_with fail
   go_returns
   exact⟨k,by omega,HN.o,.inr ⟨hkl,by simp,by subst hkl;exact hI⟩⟩
theorem air (l:List aF) (v:Value) (bn:Nat) (fst caps:Array Value) (p:Nat->Bool) (I:Nat->World->Prop) (w:World) (eg: ∀args w,(callFunc bn args).run Tryz.prog w= .ok (.enter bn args) w)
 (hsl: ∀k W,I k W->jb W v l)
 (hcall: ∀k (hk:k<l.length) W,(∀j,j<k->p j=false)->I k W->Calls Tryz.prog bn (fst.push (sv l[k])++caps) W (fun e W'=>e= .returned (.bool (p k))/\I (k+1) W')) (h0:I 0 w):
 Calls Tryz.prog 107 #[v,.func (.func bn) fst caps] w (eG l.length p I (fun _=> .bool true) (.bool false)):=by
 have HI:=ae (akg l v bn fst caps p I w eg hsl hcall h0)
 have hlen:=(hsl 0 w h0).len
 clear hsl hcall h0 eg
 go_enter Tryz.func107,Tryz.ntmps107
 go_wp2_with fail
 refine HI.o.mono ?_
 clear HI
 rintro e W' ⟨k,hk,hno,⟨hlt,hp,rfl,hI⟩|⟨hkl,rfl,hI⟩⟩
 ·have HN:=ae (ag hno (ag hp hI))
  clear hno hp hI
  go_wp2_with fail
  go_returns
  exact⟨k,hk,HN.o.1,.inl ⟨hlt,HN.o.2.1,by simp,HN.o.2.2⟩⟩
 ·have HN:=ae (ag hno (ag hkl hI))
  clear hno hkl hI
  go_wp2_with fail
  go_returns
  exact⟨k,hk,HN.o.1,.inr ⟨HN.o.2.1,by simp,HN.o.2.1▸HN.o.2.2⟩⟩
theorem aa7 (b:Nat) (l:aF) (w:World) (hc:w.cell? ⟨b,0,none⟩=some (.func (.func 64) #[iv 60] #[])) (hl:l.length<=1000000):Calls Tryz.prog 108 #[sv l,.pointer (some ⟨b,0,none⟩)] w (PV (.bool (!decide ((l.length:Int)<=60))) w):=by
 have HC:=ae (WQ 60 l w hl)
 go_enter Tryz.func108,Tryz.ntmps108
 go_wp2_with fail
 refine HC.o.mono ?_
 rintro e w' ⟨rfl,hb⟩
 go_wp2_with fail
 go_returns
 exact⟨rfl,hb⟩
theorem aa5 (b:Nat) (l:List aF) (v:Value) (w:World) (hv:jb w v l) (hc:w.cell? ⟨b,0,none⟩=some (.func (.func 64) #[iv 60] #[])) (hb:b<w.heap.size) (hln: ∀x∈l,x.length<=1000000):Calls Tryz.prog 107 #[v,.func (.func 108) #[] #[.pointer (some ⟨b,0,none⟩)]] w (PV (.bool (l.any fun x=>!decide ((x.length:Int)<=60))) w):=by
 refine(air l v 108 #[] #[.pointer (some ⟨b,0,none⟩)] (fun k=>!decide (((l.getD k []).length:Int)<=60)) (fun _ W=>Below w.heap.size w W) w (enters_of Tryz.func108 (by kernel_rfl) rfl) (fun k W h=>hv.below h (ak _)) (fun k hk W _ h=>?_) (aG _ _)).mono ?_
 ·refine(aa7 b l[k] W ((jh (h.block b hb)).trans hc) (hln _ (cZ hk))).mono ?_
  rintro e W' ⟨rfl,hb'⟩
  exact⟨by simp[hk],aY h hb'⟩
 ·rintro e W' ⟨k,hk,hno,⟨hlt,hp,rfl,hI⟩|⟨hkl,rfl,hI⟩⟩
  ·refine⟨?_,hI⟩
   have:(l.any fun x=>!decide ((x.length:Int)<=60))=true:=List.any_eq_true.2 ⟨l[k],cZ _,by simpa [hlt] using hp⟩
   rw[this]
  ·refine⟨?_,hI⟩
   have:(l.any fun x=>!decide ((x.length:Int)<=60))=false:=by
    rw[List.any_eq_false]
    intro x hx
    obtain⟨j,hj,rfl⟩:=mJ hx
    have:=hno j (by omega)
    simpa [hj] using this
   rw[this]
theorem ac0 (l:List aF) (v:Value) (w:World) (hv:jb w v l) (hln: ∀x∈l,x.length<=1000000):Calls Tryz.prog 65 #[v,.func (.func 64) #[iv 60] #[]] w (PV (.bool (!(l.any fun x=>!decide ((x.length:Int)<=60)))) w):=by
 have HV:=ae hv
 clear hv
 go_enter Tryz.func65,Tryz.ntmps65
 go_upto_region 1 with(fail)
 refine dF fun W1 hW1=>?_
 have hb1:Below w.heap.size w W1:=by rw[hW1];exact aj (aG _ _) _
 have hc1:W1.cell? ⟨w.heap.size,0,none⟩=some (.func (.func 64) #[iv 60] #[]):=by rw[hW1];exact(af (ay _ _)).1 0
 have hs1:w.heap.size<W1.heap.size:=by rw[hW1];simp
 have HA:=ae (aa5 w.heap.size l v W1 (aN.below HV.o hb1 (ak _)) hc1 hs1 hln)
 have HB:=ae hb1
 clear hW1 hb1 hc1 hs1
 go_wp2_with fail
 refine HA.o.mono ?_
 rintro e w' ⟨rfl,hb⟩
 go_wp2_with fail
 go_returns
 exact⟨rfl,aY HB.o hb⟩
def dG (l:List aF):Int:=if 40<l.length∨(l.any fun x=>!decide ((x.length:Int)<=60))=true then 3 else 0
theorem Ku (l:List aF) (v:Value) (w:World) (hv:jb w v l) (hln: ∀x∈l,x.length<=1000000):Calls Tryz.prog 37 #[v] w (PV (iv (dG l)) w):=by
 have hlen:=hv.len
 obtain⟨o,c,rfl⟩:=aN.open hv
 have HA:=ae (ac0 l _ w hv hln)
 clear hv
 go_enter Tryz.func37,Tryz.ntmps37
 go_wp2_with fail
 ·refine HA.o.mono ?_
  rintro e w' ⟨rfl,hb⟩
  cases hq:(l.any fun x=>!decide ((x.length:Int)<=60))
  all_goals
   go_wp2_with fail
   go_returns
   refine⟨?_,hb⟩
   simp only[dG,hq]
   simp
   try omega
 ·go_returns
  refine⟨?_,aG _ _⟩
  rw[dG,aA (.inl (by omega))]
  rfl
def zeroS:jF:=
 {led:={field:={rows:=0,aO:=0,left:=(0,0),ax:=[]},rate:=0,box:=(0,0),notes:=[]}
  heap:={last:=0,size:=0,bg:=0,die:=0,uK:=0,start:=(0,0),bW:=[],turns:=[],readings:=[]}
  dn:={heaps:=[],aT:=[],aK:=[]}}
def zeroV:SV:=⟨.slice none 0 0,.slice none 0 0,.slice none 0 0,.slice none 0 0,.slice none 0 0,.slice none 0 0,.slice none 0 0,.slice none 0 0⟩
theorem QP:dw zeroS zeroV=dR:=rfl
theorem abI (w:World):oG w zeroS zeroV []:=by
 have hn: ∀k,aN k w (.slice none 0 0) 0 []:=fun k=>aN.nil k w
 exact⟨hn _,hn _,hn _,hn _,hn _,⟨hn _,⟨hn _,fun e he=>by cases he⟩,rfl,hn _⟩⟩
def eP (ls:List aF):jF:=if dG ls=0 then(fK bF ed ls).1 else zeroS
def je (ls:List aF):List Int:=if dG ls=0 then(fK bF ed ls).2 else[]
def PPl (Qs:List Nat) (ls:List aF) (w:World) (e:Ending) (w':World):Prop:=
 Below w.heap.size w w'/\ ∃V es cv,e= .returned (.tuple #[.agg (dw (eP ls) V),cv,iv (dG ls)])/\(∀W',Ext Qs w' W'->oG W' (eP ls) V es)/\w'.ownsRow w.heap.size 52 1 cv (je ls).length (ah (je ls))
theorem qo {ls:List aF} (h:dG ls=0):ls.length<=40/\ ∀l∈ls,l.length<=60:=by
 unfold dG at h
 split at h
 ·omega
 ·rename_i hc
  simp only[not_or,Bool.not_eq_true] at hc
  refine⟨by omega,fun l hl=>?_⟩
  have:=List.any_eq_false.1 hc.2 l hl
  simp at this
  omega
theorem uA (lv:Value) (ls:List aF) (w:World) (hls:jb w lv ls) (hE:Env w) (hln: ∀l∈ls,l.length<=1000000) (Qs:List Nat) (hQs: ∀m∈Qs,m<w.heap.size):Calls Tryz.prog 13 #[lv] w (PPl Qs ls w):=by
 have Jq:Hid (∀W,Below w.heap.size w W->jb W lv ls):=ae (fun W hb=>hls.below hb (ak _))
 have HE:Hid (∀W,Below w.heap.size w W->Env W):=ae (fun W hb=>hE.below hb (ak _))
 have UJ:=ae hln
 clear hls hE hln
 go_enter Tryz.func13,Tryz.ntmps13
 go_upto_region 1 with(fail)
 refine dF fun W1 hW1=>?_
 have hb1:Below w.heap.size w W1:=by rw[hW1];exact aj (aG _ _) _
 have hk1:W1.heap[w.heap.size]? =some (.cells dR 46 (0,0)):=by rw[hW1];exact ay _ _
 have hs1:W1.heap.size=w.heap.size+1:=by rw[hW1];simp
 have HB1:=ae hb1
 have UL:=ae hk1
 clear hW1 hb1 hk1
 go_wp2_with fail
 refine(Ku ls lv W1 (Jq.o _ HB1.o) UJ.o).mono ?_
 rintro e W2 ⟨rfl,hb⟩
 have HB2:=ae (aY HB1.o hb)
 have KP:=ae ((hb.block _ (by omega)).trans UL.o)
 have hs2:=hb.size
 obtain⟨q,hq⟩: ∃q,dG ls=q:=⟨_,rfl⟩
 rw[hq]
 have HQ:=ae hq
 clear hq hb
 by_cases hz:q=0
 ·subst hz
  have HLL:=ae (qo HQ.o)
  have Nr:=ae (yu lv ls W2 (Jq.o _ HB2.o) (HE.o _ HB2.o) (fun l hl=>by have:=HLL.o.2 l hl;omega) (by have:=HLL.o.1;omega) (w.heap.size::Qs) (fun m hm=>by
   rcases iy.1 hm with rfl|hm
   ·omega
   ·have:=hQs m hm;omega))
  go_wp2_with fail
  refine Nr.o.mono ?_
  rintro e W3 ⟨hb3,V,es,cv,rfl,hX,hC⟩
  obtain⟨co,cc,rfl⟩:=aS hC
  have hs3:=hb3.size
  rename_i hK
  refine hK _ _ ?_
  refine aI rfl _ (by go_simp;first|rfl|exact⟨rfl,rfl⟩) ?_
  simp only[zp]
  refine aI rfl _ (by go_simp;first|rfl|exact⟨rfl,rfl⟩) ?_
  simp only[zp]
  refine aI rfl _ (by go_simp;first|rfl|exact⟨rfl,rfl⟩) ?_
  simp only[zp]
  have hk3:=(hb3.block _ (by omega)).trans KP.o
  have hS3:=hX W3 (Ext.refl _ _)
  refine wpList_store_row rfl _ _ _ rfl w.heap.size (dw (fK bF ed ls).1 V) (by as_aux_lemma=>kernel_rfl) (by as_aux_lemma=>kernel_rfl) _ dR hk3 (by kernel_rfl) (by as_aux_lemma=>kernel_rfl) (by rw[mM];exact fun u hu=>iG hS3 u (nH.2 hu)) ?_
  simp only[zp]
  refine jQ fun W4 FO=>?_
  have Vl:Ext [w.heap.size] W3 W4:=by rw[FO];exact fG
  have hb4:=iY (aY HB2.o hb3) Vl (ak _)
  have hk4:W4.heap[w.heap.size]? =some (.cells (dw (fK bF ed ls).1 V) 46 (0,0)):=by rw[FO];exact setRow_heap _ _ _ _ _ _ hk3
  have hc4:=aB (Ms:=[w.heap.size]) hC Vl (by simp;omega)
  have hX4: ∀W',Ext (w.heap.size::Qs) W4 W'->oG W' (fK bF ed ls).1 V es:=fun W' hE'=>hX W' ((Vl.more (by simp)).trans hE')
  have H4:=ae (ag hb4 (ag hk4 (ag hc4 hX4)))
  clear FO Vl hb4 hk4 hc4 hX4 hk3 hX hC hb3 hS3 hK
  go_upto_region 5 with(fail)
  refine wp_region_lit ?_
  refine wpList_load_row rfl _ _ rfl w.heap.size rfl _ _ _ _ H4.o.2.1 Tryz.underlying46 rfl (by kernel_rfl) ?_
  simp only[zp]
  refine aI rfl _ (by go_simp;first|rfl|exact⟨rfl,rfl⟩) ?_
  simp only[zp]
  refine wpList_store_row rfl _ _ _ rfl w.heap.size (dw (fK bF ed ls).1 V) (by as_aux_lemma=>kernel_rfl) (by as_aux_lemma=>kernel_rfl) _ _ H4.o.2.1 (by kernel_rfl) (by as_aux_lemma=>kernel_rfl) (by rw[mM];exact fun u hu=>iG (H4.o.2.2.2 W4 (Ext.refl _ _)) u (nH.2 hu)) ?_
  simp only[zp]
  refine jQ fun W5 yG=>?_
  have Ph:Ext [w.heap.size] W4 W5:=by rw[yG];exact fG
  have hk5:W5.heap[w.heap.size]? =some (.cells (dw (fK bF ed ls).1 V) 46 (0,0)):=by rw[yG];exact setRow_heap _ _ _ _ _ _ H4.o.2.1
  have H5:=ae (ag (iY H4.o.1 Ph (ak _)) (ag hk5 (ag (aB (Ms:=[w.heap.size]) H4.o.2.2.1 Ph (by simp;omega)) (fun W' (hE':Ext (w.heap.size::Qs) W5 W')=>H4.o.2.2.2 W' ((Ph.more (by simp)).trans hE')))))
  clear yG Ph hk5
  go_wp2_with fail
  refine bodyPost_ret (v:= .tuple #[.agg (dw (fK bF ed ls).1 V),.slice co ls.length cc,iv 0]) ?_ rfl ?_
  ·have q1:=run_loadVar_row (P:=Tryz.prog) W5 w.heap.size 46 46 _ (0,0) _ H5.o.2.1 Tryz.underlying46 rfl (by kernel_rfl)
   simp[results,Tryz.results13,asAddr,q1]
  ·have h5:=H5.o
   have e1:eP ls=(fK bF ed ls).1:=by unfold eP;rw[aA HQ.o]
   have e2:je ls=(fK bF ed ls).2:=by unfold je;rw[aA HQ.o]
   refine⟨h5.1,V,es,.slice co ls.length cc,?_,?_,?_⟩
   ·rw[e1,HQ.o]
   ·rw[e1];exact fun W' hE'=>h5.2.2.2 W' (hE'.more (fun m hm=>pV _ hm))
   ·rw[e2,Gm];exact dh h5.2.2.1 (by omega)
 ·go_upto_region 3 with(fail)
  refine wp_region_lit ?_
  refine aI rfl (w':=W2) (.agg dR) (by as_aux_lemma=>kernel_rfl) ?_
  simp only[zp]
  refine aI rfl _ (by go_simp;first|rfl|exact⟨rfl,rfl⟩) ?_
  simp only[zp]
  refine wpList_store_row rfl _ _ _ rfl w.heap.size dR (by as_aux_lemma=>kernel_rfl) (by as_aux_lemma=>kernel_rfl) _ dR KP.o (by kernel_rfl) (by as_aux_lemma=>kernel_rfl) (by as_aux_lemma=>kernel_rfl) ?_
  simp only[zp]
  refine jQ fun W3 hW3=>?_
  have tY:Ext [w.heap.size] W2 W3:=by rw[hW3];exact fG
  have hk3:W3.heap[w.heap.size]? =some (.cells dR 46 (0,0)):=by rw[hW3];exact setRow_heap _ _ _ _ _ _ KP.o
  have H3:=ae (ag (iY HB2.o tY (ak _)) hk3)
  clear hW3 tY hk3
  go_wp2_with fail
  refine bodyPost_ret (v:= .tuple #[.agg dR,.slice none 0 0,iv q]) ?_ rfl ?_
  ·have q1:=run_loadVar_row (P:=Tryz.prog) W3 w.heap.size 46 46 _ (0,0) _ H3.o.2 Tryz.underlying46 rfl (by kernel_rfl)
   simp[results,Tryz.results13,asAddr,q1]
  ·have e1:eP ls=zeroS:=by unfold eP;rw[ai (by rw[HQ.o];exact hz)]
   have e2:je ls=[]:=by unfold je;rw[ai (by rw[HQ.o];exact hz)]
   refine⟨H3.o.1,zeroV,[],.slice none 0 0,?_,?_,?_⟩
   ·rw[e1,HQ.o,QP]
   ·rw[e1];exact fun W' _=>abI W'
   ·rw[e2];exact⟨rfl,.inl ⟨rfl,rfl⟩⟩
def JR (ls:List aF):Int:=if dG ls=0 then gX (eP ls).led true else dG ls
def JS (ls:List aF):List dX:=if dG ls=0 then(if gX (eP ls).led true=0 then Ce oP (eP ls).led (gq (eP ls).led) else[]) else[]
def Jw (ls:List aF):Int:=if dG ls=0 then jG.AL (eP ls).heap else dG ls
def Jy (ls:List aF):List Int:=if dG ls=0 then jG.TF (eP ls).heap else[]
def al3 (ls:List aF) (w:World) (e:Ending) (w':World):Prop:=Below w.heap.size w w'/\ ∃u,e= .returned (.tuple #[u,iv (JR ls)])/\bP w' u (JS ls)
def al0 (ls:List aF) (w:World) (e:Ending) (w':World):Prop:=Below w.heap.size w w'/\ ∃u,e= .returned (.tuple #[u,iv (Jw ls)])/\aP w' u (Jy ls)
theorem XU (lv:Value) (ls:List aF) (w:World) (hls:jb w lv ls) (hE:Env w) (hln: ∀l∈ls,l.length<=1000000):Calls Tryz.prog 30 #[lv] w (al3 ls w):=by
 have Jq:=ae hls
 have HE:=ae hE
 have UJ:=ae hln
 clear hls hE hln
 obtain⟨q,hq⟩: ∃q,dG ls=q:=⟨_,rfl⟩
 have HQ:=ae hq
 go_enter Tryz.func30,Tryz.ntmps30
 go_wp2_with fail
 refine(uA lv ls w (Jq.o) (HE.o) (UJ.o) [] (by simp)).mono ?_
 rintro e W2 ⟨hb2,V,es,cv,he,hX,hC⟩
 rw[hq] at he
 subst he
 obtain⟨co,cc,rfl⟩:=aS hC
 have hs2:=hb2.size
 have hS2:=hX W2 (Ext.refl _ _)
 rename_i hK
 refine hK _ _ ?_
 refine aI rfl _ (by go_simp;first|rfl|exact⟨rfl,rfl⟩) ?_
 simp only[zp]
 refine aI rfl _ (by go_simp;first|rfl|exact⟨rfl,rfl⟩) ?_
 simp only[zp]
 refine aI rfl _ (by go_simp;first|rfl|exact⟨rfl,rfl⟩) ?_
 simp only[zp]
 refine aI rfl _ (by go_simp;first|rfl|exact⟨rfl,rfl⟩) ?_
 simp only[zp]
 obtain⟨g,hg⟩: ∃g,g=W2.heap.size:=⟨_,rfl⟩
 refine aI rfl (w':=W2.alloc (.cells dR 46 (0,0))) (.pointer (some ⟨g,0,none⟩)) (by rw[hg];go_simp;try rfl) ?_
 simp only[zp]
 have hz2:(W2.alloc (.cells dR 46 (0,0))).heap[g]? =some (.cells dR 46 (0,0)):=by rw[hg];exact ay _ _
 refine wpList_store_row rfl _ _ _ rfl g (dw (eP ls) V) (by as_aux_lemma=>kernel_rfl) (by as_aux_lemma=>kernel_rfl) _ dR hz2 (by kernel_rfl) (by as_aux_lemma=>kernel_rfl) (by rw[mM];exact fun u hu=>iG hS2 u (nH.2 hu)) ?_
 simp only[zp]
 refine jQ fun W3 hW3=>?_
 obtain⟨uZ,ku⟩: ∃uZ,uZ=W2.alloc (.cells dR 46 (0,0)):=⟨_,rfl⟩
 rw[<-ku] at hW3 hz2
 have tY:Ext [g] uZ W3:=by rw[hW3];exact fG
 have hs3:=tY.size
 have hs2':uZ.heap.size=g+1:=by rw[ku,hg];simp
 have lq:Below W2.heap.size W2 W3:=iY (by rw[ku];exact aj (aG _ _) _) tY (by omega)
 have hk3:W3.heap[g]? =some (.cells (dw (eP ls) V) 46 (0,0)):=by rw[hW3];exact setRow_heap _ _ _ _ _ _ hz2
 have hb3:=aY hb2 lq
 have hg3:w.heap.size<=g:=by omega
 have hgs:g<W3.heap.size:=by omega
 have H3:=ae (ag hb3 (ag hk3 (hS2.below lq (ak _))))
 clear hX hC hW3 ku tY lq hb2 hS2 hz2 hK hs2 hs3 hs2' hg hb3
 clear hq
 obtain⟨vt,vn,vw,vu,vr,vh,vk,vs⟩:=V
 obtain⟨c3,f3,l3⟩:=af hk3
 by_cases hz:q=0
 rotate_left
 ·go_wp2_with fail
  go_returns
  have hqq:dG ls≠0:=by rw[HQ.o];exact hz
  have h1:JR ls=q:=by unfold JR;rw[ai hqq,HQ.o]
  have h2:JS ls=[]:=by unfold JS;rw[ai hqq]
  refine⟨H3.o.1,.slice none 0 0,?_,?_⟩
  ·rw[h1];simp
  ·rw[h2];exact aN.nil _ _
 ·subst hz
  have HO:=ae (Qx (eP ls).led vt vn W3 H3.o.2.2.vO H3.o.2.2.QL)
  have h1:JR ls=gX (eP ls).led true:=by unfold JR;rw[aA HQ.o]
  have h2:JS ls=if gX (eP ls).led true=0 then Ce oP (eP ls).led (gq (eP ls).led) else[]:=by unfold JS;rw[aA HQ.o]
  obtain⟨q2,hq2⟩: ∃q,gX (eP ls).led true=q:=⟨_,rfl⟩
  rw[hq2] at h1 h2
  have HH:=ae (ag h1 h2)
  clear h1 h2
  go_wp2_with fail
  refine HO.o.mono ?_
  rintro e W4 ⟨hb4,hp⟩
  rw[hq2] at hp
  have HB4:=ae (aY H3.o.1 hb4)
  clear hb4 hq2
  rcases hp with⟨hne,rfl⟩|⟨h0,u,rfl,hu⟩
  ·have HN:=ae hne
   clear hne
   go_wp2_with fail
   go_returns
   refine⟨HB4.o,.slice none 0 0,?_,?_⟩
   ·rw[HH.o.1];simp
   ·rw[HH.o.2,ai HN.o];exact aN.nil _ _
  ·subst h0
   have HU:=ae hu
   obtain⟨uo,uc,rfl⟩:=hu.open
   clear hu
   go_wp2_with fail
   go_returns
   refine⟨HB4.o,.slice uo (Ce oP (eP ls).led (gq (eP ls).led)).length uc,?_,?_⟩
   ·rw[HH.o.1];simp
   ·rw[HH.o.2];simpa using HU.o
theorem Jm (lv:Value) (ls:List aF) (w:World) (hls:jb w lv ls) (hE:Env w) (hln: ∀l∈ls,l.length<=1000000):Calls Tryz.prog 32 #[lv] w (al0 ls w):=by
 have Jq:=ae hls
 have HE:=ae hE
 have UJ:=ae hln
 clear hls hE hln
 obtain⟨q,hq⟩: ∃q,dG ls=q:=⟨_,rfl⟩
 have HQ:=ae hq
 go_enter Tryz.func32,Tryz.ntmps32
 go_wp2_with fail
 refine(uA lv ls w (Jq.o) (HE.o) (UJ.o) [] (by simp)).mono ?_
 rintro e W2 ⟨hb2,V,es,cv,he,hX,hC⟩
 rw[hq] at he
 subst he
 obtain⟨co,cc,rfl⟩:=aS hC
 have hs2:=hb2.size
 have hS2:=hX W2 (Ext.refl _ _)
 rename_i hK
 refine hK _ _ ?_
 refine aI rfl _ (by go_simp;first|rfl|exact⟨rfl,rfl⟩) ?_
 simp only[zp]
 refine aI rfl _ (by go_simp;first|rfl|exact⟨rfl,rfl⟩) ?_
 simp only[zp]
 refine aI rfl _ (by go_simp;first|rfl|exact⟨rfl,rfl⟩) ?_
 simp only[zp]
 refine aI rfl _ (by go_simp;first|rfl|exact⟨rfl,rfl⟩) ?_
 simp only[zp]
 obtain⟨g,hg⟩: ∃g,g=W2.heap.size:=⟨_,rfl⟩
 refine aI rfl (w':=W2.alloc (.cells dR 46 (0,0))) (.pointer (some ⟨g,0,none⟩)) (by rw[hg];go_simp;try rfl) ?_
 simp only[zp]
 have hz2:(W2.alloc (.cells dR 46 (0,0))).heap[g]? =some (.cells dR 46 (0,0)):=by rw[hg];exact ay _ _
 refine wpList_store_row rfl _ _ _ rfl g (dw (eP ls) V) (by as_aux_lemma=>kernel_rfl) (by as_aux_lemma=>kernel_rfl) _ dR hz2 (by kernel_rfl) (by as_aux_lemma=>kernel_rfl) (by rw[mM];exact fun u hu=>iG hS2 u (nH.2 hu)) ?_
 simp only[zp]
 refine jQ fun W3 hW3=>?_
 obtain⟨uZ,ku⟩: ∃uZ,uZ=W2.alloc (.cells dR 46 (0,0)):=⟨_,rfl⟩
 rw[<-ku] at hW3 hz2
 have tY:Ext [g] uZ W3:=by rw[hW3];exact fG
 have hs3:=tY.size
 have hs2':uZ.heap.size=g+1:=by rw[ku,hg];simp
 have lq:Below W2.heap.size W2 W3:=iY (by rw[ku];exact aj (aG _ _) _) tY (by omega)
 have hk3:W3.heap[g]? =some (.cells (dw (eP ls) V) 46 (0,0)):=by rw[hW3];exact setRow_heap _ _ _ _ _ _ hz2
 have hb3:=aY hb2 lq
 have hg3:w.heap.size<=g:=by omega
 have hgs:g<W3.heap.size:=by omega
 have H3:=ae (ag hb3 (ag hk3 (hS2.below lq (ak _))))
 clear hX hC hW3 ku tY lq hb2 hS2 hz2 hK hs2 hs3 hs2' hg hb3
 clear hq
 obtain⟨vt,vn,vw,vu,vr,vh,vk,vs⟩:=V
 obtain⟨c3,f3,l3⟩:=af hk3
 by_cases hz:q=0
 rotate_left
 ·go_wp2_with fail
  go_returns
  have hqq:dG ls≠0:=by rw[HQ.o];exact hz
  have h1:Jw ls=q:=by unfold Jw;rw[ai hqq,HQ.o]
  have h2:Jy ls=[]:=by unfold Jy;rw[ai hqq]
  refine⟨H3.o.1,.slice none 0 0,?_,?_⟩
  ·rw[h1];simp
  ·rw[h2];exact aN.nil _ _
 ·subst hz
  have HO:=ae (jG.UO (eP ls).heap vw vu vr W3 H3.o.2.2.bW H3.o.2.2.Fg H3.o.2.2.Eh)
  have h1:Jw ls=jG.AL (eP ls).heap:=by unfold Jw;rw[aA HQ.o]
  have h2:Jy ls=jG.TF (eP ls).heap:=by unfold Jy;rw[aA HQ.o]
  obtain⟨q2,hq2⟩: ∃q,jG.AL (eP ls).heap=q:=⟨_,rfl⟩
  rw[hq2] at h1
  have HH:=ae (ag h1 h2)
  clear h1 h2
  go_wp2_with fail
  refine HO.o.mono ?_
  rintro e W4 ⟨u,he,hu,hb4⟩
  rw[hq2] at he
  subst he
  have HB4:=ae (aY H3.o.1 hb4)
  have HU:=ae hu
  obtain⟨uo,uc,rfl⟩:=hu.open
  clear hb4 hq2 hu
  go_wp2_with fail
  go_returns
  refine⟨HB4.o,.slice uo (jG.TF (eP ls).heap).length uc,?_,?_⟩
  ·rw[HH.o.1];simp
  ·rw[HH.o.2];exact HU.o
end Go.Proofs.YthbpmepjmebolaaGreatDoor.Bk
end
section
namespace Go.Proofs.YthbpmepjmebolaaGreatDoor.Bk
open Go.RowKit Go.RG Go.SL Go.Shelf jv Go.TB Go.Proofs.YthbpmepjmebolaaGreatDoor.zF
def xJ (xs:List Value):Prop:= ∀u∈xs, ∃k,u= .int .u8 k
theorem Y4 (s:ByteArray):xJ (Lib.strCells s):=fun u hu=>by
 simp only[Lib.strCells,iZ] at hu
 obtain⟨b,_,rfl⟩:=hu
 exact⟨_,rfl⟩
theorem KX {a b:List Value} (ha:xJ a) (hb:xJ b):xJ (a++b):=fun u hu=>by
 rcases iI.1 hu with h|h
 ·exact ha u h
 ·exact hb u h
theorem abK (n:Nat):xJ (Builtin.zeroCells (Value.int .u8 0).cells n).toList:=fun u hu=>by
 have:u∈(Builtin.zeroCells (Value.int .u8 0).cells n):=nH.1 hu
 obtain⟨i,hi,rfl⟩:=Array.mem_iff_getElem.1 this
 refine⟨0,?_⟩
 simp[Builtin.zeroCells,Value.cells,Nat.mod_one]
section
variable {P : Program} {w : World}
theorem Fj (base:Nat) (t u ty e:TypeId) (i:TypeInfo) (ht:P.underlying t=some (.slice e)) (hu:P.underlying u=some .string) (hi:P.info? e=some i) (hz:i.zero=some (.int .u8 0))
 (hsize:i.size=1) (hby:i.bytes=1)
 (v:Value) (n:Nat) (xs:List Value) (hown:w.ownsRow base e 1 v n xs) (hU: ∀q,v.ownBlock=some q-> ∀cs t f,w.heap[q]? =some (.cells cs t f)->xJ cs.toList) (s:ByteArray)
 (h63:n+s.size<=maxLen) (hbytes:n+s.size<=140737488355328) (hbase:base<=w.heap.size):
 ∃v' w',(Builtin.append_ #[t,u] ty #[v,.string s]).run P w= .ok v' w'/\w'.ownsRow base e 1 v' (n+s.size) (xs++Lib.strCells s)/\w.grownBy w' v.ownBlock/\
  (∀q,v'.ownBlock=some q-> ∀cs t f,w'.heap[q]? =some (.cells cs t f)->xJ cs.toList):=by
 have hsmall:n+s.size<=9223372036854775807:=by simp only[maxLen] at h63;omega
 have hxl:xs.length=n:=by simpa using hown.1
 have hlen:(xs++Lib.strCells s).length=(n+s.size)*1:=by rw[dA,hxl,Lib.strCells_length,Nat.mul_one]
 have hxU:xJ xs:=by
  rcases hown.2 with⟨rfl,rfl⟩|⟨g,cap,cur,rfl,hbg,hg,hnc,hcm,hcs,htake⟩
  ·have:xs=[]:=kD hxl
   subst this
   exact fun u hu=>by cases hu
  ·have:=hU g rfl cur e (0,0) hg
   rw[<-htake]
   exact fun u hu=>this u (pW hu)
 have grown: ∀(old:Nat),old<n+s.size-> ∀(row:Option Nat),
  (w.drew.alloc (.cells (xs.toArray++(Lib.strCells s).toArray++Builtin.zeroCells (Value.int .u8 0).cells (grownCap w (n+s.size) old e-(n+s.size))) e)).ownsRow base e 1
    (.slice (some ⟨w.heap.size,0,none⟩) (n+s.size) (grownCap w (n+s.size) old e)) (n+s.size) (xs++Lib.strCells s)/\
  w.grownBy (w.drew.alloc (.cells (xs.toArray++(Lib.strCells s).toArray++Builtin.zeroCells (Value.int .u8 0).cells (grownCap w (n+s.size) old e-(n+s.size))) e)) row/\
  ∀cs t f,(w.drew.alloc (.cells (xs.toArray++(Lib.strCells s).toArray++Builtin.zeroCells (Value.int .u8 0).cells (grownCap w (n+s.size) old e-(n+s.size))) e)).heap[w.heap.size]? =some (.cells cs t f)->xJ cs.toList:=by
  intro old ho row
  have hge:=grownCap_ge w (n+s.size) old e
  have hcm:grownCap w (n+s.size) old e<=maxLen:=grownCap_le_maxLen w (n+s.size) old e h63
  refine⟨⟨hlen,.inr ⟨w.heap.size,_,_,rfl,hbase,heap_alloc_new w.drew _,hge,hcm,?_,?_⟩⟩,⟨rfl,rfl,rfl,by simp,fun k hk _=>heap_alloc_old w.drew _ hk⟩,fun cs t f h=>?_⟩
  ·have hz1:(Value.int IntKind.u8 0).cells.size=1:=rfl
   simp only[Array.size_append,List.size_toArray,size_zeroCells,hz1,hxl,Lib.strCells_length]
   omega
  ·simp only[Array.toList_append,List.append_assoc]
   rw[<-List.append_assoc, <-hlen]
   exact List.take_left
  ·have h2:=(heap_alloc_new w.drew (.cells (xs.toArray++(Lib.strCells s).toArray++Builtin.zeroCells (Value.int .u8 0).cells (grownCap w (n+s.size) old e-(n+s.size))) e)).symm.trans h
   simp only[Option.some.injEq,Obj.cells.injEq] at h2
   rw[<-h2.1]
   simp only[Array.toList_append]
   exact KX (KX hxU (Y4 s)) (abK _)
 rcases hown.2 with⟨rfl,rfl⟩|⟨g,cap,cur,rfl,hbg,hg,hnc,hcm,hcs,htake⟩
 ·have hx:xs=[]:=kD hxl
  subst hx
  by_cases hm:s.size=0
  ·have hn:Lib.strCells s=[]:=kD (by rw[Lib.strCells_length];exact hm)
   refine⟨.slice none 0 0,w,?_,by rw[hm,hn];exact World.ownsRow_nil w base e 1,⟨rfl,rfl,rfl,ak _,fun _ _ _=>rfl⟩,fun q hq=>by cases hq⟩
   have hf:=Lib.run_firstCells_string (P:=P) w 1 s
   rw[hm] at hf
   simp[Builtin.append_,run_underlying ht,run_underlying hu,sizeOf,typeInfo,hi,hsize,Builtin.lenOf,hm,hf]
  ·have hr:=run_append_nil_string (P:=P) w t u ty e i (.int .u8 0) ht hu hi hz s (by omega) (by omega) (by rw[hby];omega)
   have hgr:=grown 0 (by omega) (Value.ownBlock (.slice none 0 0))
   simp only[Nat.zero_add,List.nil_append,Array.empty_append] at hgr⊢
   have e1:(s.data.map fun b=>Value.int .u8 b.toNat)=(Lib.strCells s).toArray:=by
    apply Array.ext'
    simp[Lib.strCells]
   rw[e1] at hr
   refine⟨_,_,hr,hgr.1,hgr.2.1,fun q hq=>?_⟩
   obtain rfl:=iV hq
   exact hgr.2.2
 ·by_cases hroom:n+s.size<=cap
  ·have hcs':cur.size=cap:=by simpa using hcs
   have hr:=Lib.run_append_room_string (P:=P) w t u ty e i ht hu hi hsize g n cap cur hg s hroom (by omega)
   refine⟨_,_,hr,⟨hlen,.inr ⟨g,cap,_,rfl,hbg,setRow_heap w g cur _ e _ hg,hroom,hcm,?_,?_⟩⟩,⟨rfl,rfl,rfl,by simp,fun k _ hk=>setRow_other w g k _ (fun e=>hk (by simp[Value.ownBlock,e]))⟩,fun q hq cs t f h=>?_⟩
   ·simp only[List.size_toArray,dA,gY,lQ,Array.length_toList,Lib.strCells_length]
    omega
   ·have ht':cur.toList.take n=xs:=by simpa using htake
    rw[ht', <-hlen]
    exact List.take_left
   ·obtain rfl:=iV hq
    rw[setRow_heap w g cur _ e _ hg] at h
    simp only[Option.some.injEq,Obj.cells.injEq] at h
    rw[<-h.1]
    have hc:=hU g rfl cur e (0,0) hg
    exact KX (KX (fun u hu=>hc u (pW hu)) (Y4 s)) (fun u hu=>hc u (List.mem_of_mem_drop hu))
  ·have holds: ∀j u,xs[j]? =some u->w.cell? ((⟨g,0,none⟩:Addr).add j)=some u:=hown.cells (g:=g) rfl
   have hr:=Lib.run_append_grow_string (P:=P) w t u ty e i (.int .u8 0) ht hu hi hz ⟨g,0,none⟩ n cap xs (by rw[hsize];simpa using hxl) holds s (by omega) (by omega) (by rw[hby];exact growslice_fits (by omega) (by omega))
   have hgr:=grown cap (by omega) (Value.ownBlock (.slice (some ⟨g,0,none⟩) n cap))
   refine⟨_,_,hr,hgr.1,hgr.2.1,fun q hq=>?_⟩
   obtain rfl:=iV hq
   exact hgr.2.2
theorem zW {ops:Array Oper} {rest:List Oper} {o:Oper} {a:Act} {Q:Exit->Act->World->Prop} (hgd:o.guard=none) (sl x:Operand) (t u:TypeId)
 (ho:o.op= .call {callee:= .builtin .append,args:= #[sl,x],argTypes:= #[t,u]})
 (base:Nat) (e:TypeId) (i:TypeInfo) (ht:P.underlying t=some (.slice e)) (hu:P.underlying u=some .string) (hi:P.info? e=some i) (hz:i.zero=some (.int .u8 0))
 (hsize:i.size=1) (hby:i.bytes=1)
 (v:Value) (n:Nat) (xs:List Value) (hs:a.eval sl=v) (hown:w.ownsRow base e 1 v n xs) (hU: ∀q,v.ownBlock=some q-> ∀cs t f,w.heap[q]? =some (.cells cs t f)->xJ cs.toList) (s:ByteArray) (hx:a.eval x= .string s)
 (h63:n+s.size<=maxLen) (hbytes:n+s.size<=140737488355328) (hbase:base<=w.heap.size)
 (h: ∀v' w',w'.ownsRow base e 1 v' (n+s.size) (xs++Lib.strCells s)->w.grownBy w' v.ownBlock->(∀q,v'.ownBlock=some q-> ∀cs t f,w'.heap[q]? =some (.cells cs t f)->xJ cs.toList)->wpList P ops Q rest (a.put o.dst v') w'):wpList P ops Q (o::rest) a w:=by
 refine wpList_plain hgd fun K hK=>?_
 obtain⟨v',w',hr,h2,h3,h4⟩:=Fj (P:=P) base t u o.type e i ht hu hi hz hsize hby v n xs hown hU s h63 hbytes hbase
 unfold Oper.wp execOp
 simp only[ho,resolve,invoke,builtin,Sem.run_bind,Sem.run_pure,Result.andThen_ok,List.map_toArray,List.map_cons,List.map_nil,hs,hx,hr]
 exact hK _ _ (h v' w' h2 h3 h4)
end
def CS (B b:Nat) (p:Value) (bs:aF) (w:World):Prop:=
 B<=b/\ ∃v,w.heap[b]? =some (.cells #[p,v] 133 (0,0))/\w.ownsRow B 5 1 v bs.length (Lib.byteCells bs)/\v.ownBlock≠some b/\ ∀q,v.ownBlock=some q-> ∀cs t f,w.heap[q]? =some (.cells cs t f)->xJ cs.toList
def Buf (B b:Nat) (bs:aF) (w:World):Prop:=CS B b (.pointer none) bs w∨CS B b (.pointer (some ⟨b,0,none⟩)) bs w
theorem CS.at_ {B b:Nat} {p:Value} {bs:aF} {w:World} (h:CS B b p bs w):Lib.BuilderAt 133 5 B b p (Lib.byteCells bs) w:=by
 obtain⟨h1,v,h2,h3,h4,_⟩:=h
 exact⟨h1,v,h2,by rw[Lib.byteCells_length];exact h3,h4⟩
theorem Buf.is {B b:Nat} {bs:aF} {w:World} (h:Buf B b bs w):Lib.IsBuilder 133 5 B b (Lib.byteCells bs) w:=h.imp CS.at_ CS.at_
theorem CS.below {B b:Nat} {p:Value} {bs:aF} {w W:World} (h:CS B b p bs w) (hb:Below w.heap.size w W):CS B b p bs W:=by
 obtain⟨h1,v,h2,h3,h4,h5⟩:=h
 have hlt:=(aV.1 h2).1
 refine⟨h1,v,(hb.block b hlt).trans h2,aB (Ms:=[]) h3 (Ext.az hb) (by simp),h4,fun q hq cs t f hc=>?_⟩
 rw[hb.block q (bJ h3 q hq).2] at hc
 exact h5 q hq cs t f hc
theorem Buf.below {B b:Nat} {bs:aF} {w W:World} (h:Buf B b bs w) (hb:Below w.heap.size w W):Buf B b bs W:=h.imp (fun x=>x.below hb) (fun x=>x.below hb)
structure Wr (B:Nat) (w w':World):Prop where
 below:Below B w w'
 size:w.heap.size<=w'.heap.size
 ints: ∀k,k<w.heap.size->(∃o n,w.cell? ⟨k,o,none⟩=some (iv n))->w'.heap[k]? =w.heap[k]?
theorem Wr.refl (B:Nat) (w:World):Wr B w w:=⟨aG _ _,ak _,fun _ _ _=>rfl⟩
theorem Wr.trans {B:Nat} {a b c:World} (h:Wr B a b) (k:Wr B b c):Wr B a c:=
 ⟨h.below.trans k.below,jq h.size k.size,fun i hi hc=>by
   have h1:=h.ints i hi hc
   obtain⟨o,n,hc⟩:=hc
   exact(k.ints i (fZ hi h.size) ⟨o,n,by rw[jh (w:=a) h1];exact hc⟩).trans h1⟩
theorem Wr.az {B:Nat} {w w':World} (h:Below w.heap.size w w') (hB:B<=w.heap.size):Wr B w w':=⟨h.mono hB,h.size,fun k hk _=>h.block k hk⟩
theorem Wr.list {B:Nat} {w w':World} (h:Wr B w w') {size:Nat} {v:Value} {n:Nat} {xs:List Value} (hs:aN size w v n xs) (hi: ∀u∈xs, ∃k,u=iv k):aN size w' v n xs:=by
 obtain⟨hl,o,c,rfl,h1,h2,h3,h4⟩:=hs
 refine⟨hl,o,c,rfl,h1,h2,h3,fun a ha=>?_⟩
 obtain⟨hs,hc⟩:=h4 a ha
 obtain⟨b,off,sp⟩:=a
 simp only at hs hc
 subst hs
 refine⟨rfl,fun j u hj=>?_⟩
 have hcell:=hc j u hj
 obtain⟨k,rfl⟩:=hi u (nJ hj)
 rw[jh (w:=w) (h.ints b (dN w _ hcell) ⟨_,_,hcell⟩)]
 exact hcell
theorem ach (l:List Int): ∀u∈ah l, ∃k,u=iv k:=fun u hu=>by
 obtain⟨k,_,rfl⟩:=iZ.1 hu
 exact⟨k,rfl⟩
theorem BG (l:List dX): ∀u∈aH l, ∃k,u=iv k:=fun u hu=>by
 obtain⟨r,_,h⟩:=qB.1 hu
 rcases iy.1 h with rfl|h
 ·exact⟨_,rfl⟩
 ·obtain rfl:=eU.1 h
  exact⟨_,rfl⟩
theorem CS.ZI {B b:Nat} {p:Value} {bs:aF} {w:World} (h:CS B b p bs w) (hp: ∀n,p≠iv n) {o:Nat} {n:Int}:w.cell? ⟨b,o,none⟩≠some (iv n):=by
 obtain⟨h1,v,h2,h3,_⟩:=h
 intro e
 rw[Lib.cell_of_heap h2] at e
 match o with
 |0=>exact hp n (by simpa using e)
 |1=>
  have e':v=iv n:=by simpa using e
  rcases h3.2 with⟨hv,_⟩|⟨g,cap,cur,hv,_⟩ <;>rw[hv] at e' <;>cases e'
 |o+2=>simp at e
theorem CS.wr {B b:Nat} {p:Value} {bs:aF} {w w':World} (h:CS B b p bs w) (hp: ∀n,p≠iv n) {v:Value} (hv:w.cell? ⟨b,1,none⟩=some v) (hb:Below B w w') (hs:w.heap.size<=w'.heap.size)
 (hk: ∀k,k<w.heap.size->k≠b->v.ownBlock≠some k->w'.heap[k]? =w.heap[k]?):Wr B w w':=by
 refine⟨hb,hs,fun k hk' hc=>?_⟩
 obtain⟨o,n,hc⟩:=hc
 refine hk k hk' (fun e=>?_) (fun e=>?_)
 ·subst e;exact h.ZI hp hc
 ·obtain⟨h1,v',h2,h3,h4,h5⟩:=h
  rw[Lib.cell_of_heap h2] at hv
  obtain rfl:v'=v:=by simpa using hv
  rcases h3.2 with⟨hv,_⟩|⟨g,cap,cur,hv,_,hg,_⟩
  ·rw[hv] at e;cases e
  ·rw[hv] at e
   obtain rfl:g=k:=by simpa [Value.ownBlock] using e
   rw[Lib.cell_of_heap hg] at hc
   obtain⟨k',hk'⟩:=h5 g (by rw[hv];rfl) cur _ _ hg (iv n) (by rw[nH];exact Array.mem_of_getElem? hc)
   cases hk'
theorem Ql (b:Nat) (w:World) (h0:w.cell? ⟨b,0,none⟩=some (.pointer (some ⟨b,0,none⟩))):
 Calls Tryz.prog 102 #[.pointer (some ⟨b,0,none⟩)] w fun e w'=>e= .returned (.tuple #[])/\w'=w:=by
 obtain⟨j,hj,hjs⟩:=Option.map_eq_some_iff.1 (show(Tryz.prog.info? 133).map (·.size)=some 2 by kernel_rfl)
 go_enter Tryz.func102,Tryz.ntmps102
 go_wp2
 rw[Lib.run_neq_ptr_same w _ Tryz.underlying131 hj]
 go_wp2
 go_end0
 exact⟨rfl,rfl⟩
theorem MW (b:Nat) (w:World) (h0:w.cell? ⟨b,0,none⟩=some (.pointer none)) (hsh:w.shape? b=some (133,2)) (hfz:w.frozen? ⟨b,0,none⟩=false):
 Calls Tryz.prog 102 #[.pointer (some ⟨b,0,none⟩)] w fun e w'=>e= .returned (.tuple #[])/\w'=w.setCell ⟨b,0,none⟩ (.pointer (some ⟨b,0,none⟩)):=by
 obtain⟨j,hj,hjs⟩:=Option.map_eq_some_iff.1 (show(Tryz.prog.info? 133).map (·.size)=some 2 by kernel_rfl)
 go_enter Tryz.func102,Tryz.ntmps102
 go_wp2
 rw[Lib.run_to_unsafe w ⟨b,0,none⟩ Tryz.underlying131 Tryz.underlying258 hj (by rw[hjs];decide) hsh (Nat.zero_lt_succ 1)]
 simp only[Result.andThen]
 rw[Oper.upon_value]
 go_wp2
 rw[run_callFunc_extern Tryz.func168 (by kernel_rfl) (by kernel_rfl) (by kernel_rfl) (e:=Extern.AbiNoEscape.same) (by kernel_rfl)]
 rw[Lib.run_noEscape]
 simp only[Result.andThen]
 rw[Oper.upon_value]
 go_wp2
 rw[Lib.run_from_unsafe w ⟨b,0,none⟩ Tryz.underlying258 Tryz.underlying131 hj hsh (by kernel_rfl)]
 simp only[Result.andThen]
 rw[Oper.upon_value]
 go_wp2
 go_end0
 exact⟨rfl,rfl⟩
theorem Uk (B b:Nat) (bs:aF) (w:World) (h:Buf B b bs w):
 Calls Tryz.prog 102 #[.pointer (some ⟨b,0,none⟩)] w fun e w'=>e= .returned (.tuple #[])/\CS B b (.pointer (some ⟨b,0,none⟩)) bs w'/\Wr B w w':=by
 rcases h with h|h
 ·refine(MW b w h.at_.cell0 h.at_.shape h.at_.frozen0).mono ?_
  rintro e w' ⟨rfl,rfl⟩
  have hlt:=h.at_.lt
  have hw:Wr B w (w.setCell ⟨b,0,none⟩ (.pointer (some ⟨b,0,none⟩))):=
   ⟨(aG B w).setCell (p:=⟨b,0,none⟩) h.1 _,by simp[World.setCell],fun k hk hc=>by
     obtain⟨o,n,hc⟩:=hc
     refine dI _ _ _ _ (fun e=>?_)
     subst e
     exact h.ZI (fun _ e=>by cases e) hc⟩
  obtain⟨h1,v,h2,h3,h4,h5⟩:=h
  refine⟨rfl,⟨h1,v,?_,?_,h4,fun q hq cs t f hc=>?_⟩,hw⟩
  ·simp[World.setCell,Array.getElem?_modify,h2]
  ·exact h3.kept (row:=some b) ⟨rfl,rfl,rfl,by simp[World.setCell],fun k _ hk=>dI _ _ _ _ (fun e=>hk (by simp[e]))⟩ (Or.inr h4)
  ·rw[dI _ _ _ _ (fun e=>h4 (by rw[hq,e]))] at hc
   exact h5 q hq cs t f hc
 ·refine(Ql b w h.at_.cell0).mono ?_
  rintro e w' ⟨rfl,rfl⟩
  exact⟨rfl,h,Wr.refl _ _⟩
theorem vK (B b:Nat) (bs s:aF) (w:World) (h:Buf B b bs w) (hBw:B<=w.heap.size) (hlen:bs.length+s.length<=1000000):
 Calls Tryz.prog 58 #[.pointer (some ⟨b,0,none⟩),.string (eu s)] w fun e w'=>(∃v,e= .returned v)/\Buf B b (bs++s) w'/\Wr B w w':=by
 have hsz:(eu s).size=s.length:=by simp[ByteArray.size]
 obtain⟨i0,hi,hz0,hz1,hz2⟩:=info_parts (show(Tryz.prog.info? 5).map (fun i=>(i.zero,i.size,i.bytes))=some (some (.int .u8 0),1,1) by kernel_rfl)
 have HC:=ae (Uk B b bs w h)
 clear h
 go_enter Tryz.func58,Tryz.ntmps58
 go_wp2_with fail
 refine HC.o.mono ?_
 rintro e w1 ⟨rfl,h1,hw1⟩
 have hp: ∀n,(Value.pointer (some ⟨b,0,none⟩))≠iv n:=fun _ e=>by cases e
 have HA:=ae h1
 obtain⟨hB,v,hbk,hown,hne,hU⟩:=h1
 have c0:w1.cell? ⟨b,0,none⟩=some (.pointer (some ⟨b,0,none⟩)):=by rw[Lib.cell_of_heap hbk];rfl
 have c1:w1.cell? ⟨b,1,none⟩=some v:=by rw[Lib.cell_of_heap hbk];rfl
 go_wp2_with (at_builtin;refine zW rfl _ _ 83 9 rfl B 5 i0 Tryz.underlying83 Tryz.underlying9 hi hz0 hz1 hz2 _ _ _ rfl hown hU (eu s) rfl ?c3 ?c4 ?c5 ?_)
 case c3=>rw[hsz];unfold maxLen;omega
 case c4=>rw[hsz];omega
 case c5=>have:=hw1.size;omega
 intro v' w2 hown' hgrow hU'
 have hlt:b<w1.heap.size:=(aV.1 hbk).1
 have hb2:w2.heap[b]? =some (.cells #[.pointer (some ⟨b,0,none⟩),v] 133 (0,0)):=by
  rw[hgrow.block b hlt (fun e=>hne e.symm)]
  exact hbk
 have d0:w2.cell? ⟨b,0,none⟩=some (.pointer (some ⟨b,0,none⟩)):=by rw[Lib.cell_of_heap hb2];rfl
 have d1:w2.cell? ⟨b,1,none⟩=some v:=by rw[Lib.cell_of_heap hb2];rfl
 have f1:w2.frozen? ⟨b,1,none⟩=false:=Lib.frozen_of_heap hb2 1
 obtain⟨ao,n',cap,rfl⟩: ∃ao n' cap,v'= .slice ao n' cap:=by
  rcases hown'.2 with⟨hv,_⟩|⟨g,cap,cur,hv,_⟩
  ·exact⟨_,_,_,hv⟩
  ·exact⟨_,_,_,hv⟩
 have hne':=Lib.ownBlock_ne hown' hb2 (show 133≠5 by decide)
 have HG:=ae (ag hown' (ag hgrow (ag hU' (ag hw1 (ag c1 (ag hown hb2))))))
 clear hown' hgrow hU' hw1 hU hb2 hown
 go_wp2
 go_ret2
 obtain⟨hown',hgrow,hU',hw1,c1',hown,hb2⟩:=HG.o
 refine⟨⟨_,rfl⟩,.inr ⟨hB,_,?_,?_,hne',fun q hq cs t f hc=>?_⟩,hw1.trans (HA.o.wr hp c1' ?_ ?_ ?_)⟩
 ·simp[World.setCell,Array.getElem?_modify,hb2]
 ·have h3:w2.ownsRow B 5 1 (.slice ao n' cap) (bs++s).length (Lib.byteCells (bs++s)):=by
   rw[dA,Lib.byteCells_append, <-hsz]
   exact hown'
  exact h3.kept (row:=some b) ⟨rfl,rfl,rfl,by simp[World.setCell],fun k _ hk=>dI _ _ _ _ (fun e=>hk (by simp[e]))⟩ (Or.inr hne')
 ·rw[dI _ _ _ _ (fun e=>hne' (by rw[hq,e]))] at hc
  first|exact hU' q hq cs t f hc|exact hU' q hq cs t f.1 f.2 hc
 ·exact((aG B w1).grown hgrow (by have:=hw1.size;omega) (fun k hk=>(hown.lt k hk).1)).setCell (p:=⟨b,1,none⟩) hB _
 ·have:=hgrow.size;simp[World.setCell];omega
 ·intro k hk hkb hkv
  exact(dI _ _ _ _ (fun e=>hkb e)).trans (hgrow.block k hk (fun e=>hkv e.symm))
end Go.Proofs.YthbpmepjmebolaaGreatDoor.Bk
end

/-
  Texts of this claim, packed by a program: DQ DR DS DT DU DW DV DX DY DZ EA EB EE.
-/
import Derived.WalkKit
import Derived.WalkLawsBesides
import Derived.WalkSpells
import Derived.Outline
import Derived.Handy
import Derived.KernelRfl
import Derived.Lib.Hide
import Derived.Deep.Cut
import Derived.Lib.AtoiAllCases
import Derived.Lib.SplitLaws
import Derived.Lib.IndexBytes
import Derived.Defers
import Derived.Recover
import Derived.Laws.Pointers
import Derived.Laws.Tables
import Derived.Lib.Builder
import Derived.Lib.AppendStr
import Derived.Lib.UnsafeStr
import Derived.Laws.Externs
import Derived.Test.YthllkbbbapgelaaGreatDoorPN13
set_option maxHeartbeats 8000000
set_option maxRecDepth 100000
set_option linter.all false
theorem _root_.zaG {P:Prop} (h:P:=by
 rintro e w' ⟨v',rfl,ho,hb⟩;exact .inl ⟨_,rfl,aR ho,bK ho Iq.size,Ext.ax hb⟩):P:=h
theorem _root_.zcm {P:Prop} (h:P:=by
 rintro e w' ⟨M,rfl,h1,h2,h3⟩;exact⟨h3,.inr ⟨(fun v h=>by cases h),_,_,_,rfl⟩⟩):P:=h
theorem _root_.zbv {P:Prop} (h:P:=by
 have q1:=run_loadVar_row (P:=Tryz.prog) w'' (bs+1) 62 62 S (0,0) _ hA' Tryz.underlying62 rfl (by rw[τ];kernel_rfl);obtain⟨ce,fe,le⟩:=ae Iq;have c0:=ce 0;simp only[yE] at h4 h5;simp[results,Tryz.results55,h4,h5,asAddr,q1];simp[go_sem,c0]):P:=h
theorem _root_.zaY {P:Prop} (h:P:=by
 simp only[jV.many] at hn
 match n,hn with
 |[a,b,d],_=>exact⟨a,b,d,rfl⟩):P:=h
theorem _root_.za8 {P:Prop} (h:P:=by
 simp only[jV.many] at hn
 match n,hn with
 |[a],_=>exact⟨a,rfl⟩):P:=h
theorem _root_.zbu {P:Prop} (h:P:=by
 simp only[jV.many] at hn
 match n,hn with
 |[a,b],_=>exact⟨a,b,rfl⟩):P:=h
theorem _root_.zbf {P:Prop} (h:P:=by
 clear VC mh;go_wp2_with fail
 go_roundw
 case rel=>
  refine⟨i+1,by omega,by go_num,HP.o.1,HP.o.2.1,o6,c6,?_,HP.o.2.2.2.1,fun k hk hne=>(HP.o.2.2.2.2 k hk hne).trans (HX.o.2.2.2 k hk hne)⟩;have:=HP.o.2.2.1;rw[List.replicate_succ'];simpa [aB] using this
 case measure=>simp[intOf];omega):P:=h
theorem _root_.zbw {P:Prop} (h:P:=by
 have aco:=aV HX.o.1 H5.o.1;exact aco.trans ⟨oL.os.trans ry.os,oL.tape.trans ry.tape,oL.output.trans ry.output,by omega,fun k hk=>(oL.block k ϑ ϗ).trans (ry.block k ϑ (fun h=>by have:=hm0 k h;omega))⟩):P:=h
theorem _root_.zca {P:Prop} (h:P:=by
 exact oD _ _ rfl q rfl _ _ _ _ ((hE.block q hq5 Υ).trans H5.o.2.2.1) Tryz.underlying62 rfl ϰ):P:=h
theorem _root_.zcp {P:Prop} (h:P:=by
 rcases hg6 with h1|⟨x,h1,h2⟩
 ·rw[h1] at h;exact n3 h
 ·rw[h1] at h;simp at h;omega):P:=h
section
namespace Go.Proofs.Z.Bk
open Go.RowKit Go.RG Go.SL Go.Shelf gK Go.TB Go.Proofs.Z.xC
def Bh (s:iE) (V:SV) (n:Nat) (kc:List Value):List Row:=
 [⟨186,5,V.sG,s.led.field.aj.length,bP s.led.field.aj⟩,⟨188,3,V.Ky,s.led.notes.length,aK s.led.notes⟩,
   ⟨50,2,V.bJ,s.heap.bJ.length,aB s.heap.bJ⟩,⟨3,1,V.Ab,s.heap.turns.length,ag s.heap.turns⟩,⟨190,3,V.Al,s.heap.readings.length,aK s.heap.readings⟩,
   ⟨129,2,V.hps,s.cK.heaps.length,aB s.cK.heaps⟩,⟨52,1,V.cks,n,kc⟩,⟨192,4,V.trs,s.cK.aI.length,dI s.cK.aI⟩]
theorem Rh (s:iE) (V:SV) (es:List KE):gB s V es=Bh s V es.length (dW es)++es.map xw:=rfl
theorem Rf (s:iE) (V:SV) (n:Nat) (kc kc':List Value) (X:List Row):(Bh s V n kc++X).set 6 ⟨52,1,V.cks,n,kc'⟩=Bh s V n kc'++X:=rfl
theorem Ai (s:iE) (V:SV) (n:Nat) (kc:List Value) (X:List Row):(Bh s V n kc++X)[6]? =some ⟨52,1,V.cks,n,kc⟩:=rfl
theorem GD {w:World} {N:Nat} {t:TypeId} {size:Nat} {v:Value} {n:Nat} {xs:List Value} (h:w.ownsRow N t size v n xs) {g:Nat} (hg:v.ownBlock=some g): ∃cur,w.heap[g]? =some (.cells cur t (0,0)):=by
 obtain⟨h1,⟨rfl,h2⟩|⟨g',c,cs,rfl,hb,hc,h3⟩⟩:=h
 ·cases hg
 ·cases hg;exact⟨cs,hc⟩
theorem vD.Ve {N:Nat} {w:World} {bx:Nat} {R:List Row} (hbx:bx<w.heap.size) (hN:N<=bx) (Gm: ∀r∈R,w.ownsRow (bx+1) r.t r.size r.v r.n r.xs) (hnd:(R.map (·.t)).Nodup):vD N w bx R where
 own i r hr:=bK (Gm r (lg hr)) ϑ
 apart i j a b ha hb hij:=by
  rcases hq:a.v.ownBlock with _|g
  ·exact .inl rfl
  ·refine .inr fun e=>?_;obtain⟨c1,h1⟩:=GD (Gm a (lg ha)) hq;obtain⟨c2,h2⟩:=GD (Gm b (lg hb)) e.symm;rw[h1] at h2;have ht:a.t=b.t:=by injection h2 with h2;injection h2
   refine hij ((List.getElem?_inj (i:=i) (j:=j) (by simpa using(iy.1 ha).1:i<(R.map (·.t)).length) hnd).1 ?_)
   rw[nX,nX,ha,hb,Option.map_some,Option.map_some,ht]
 off i r hr e:=by
  have:=((Gm r (lg hr)).lt bx e).1;omega
 lt:=hbx
 base:=hN
theorem vD.move {N:Nat} {w W:World} {bx wb:Nat} {R:List Row} (h:vD N w bx R) (hE:Ext [] w W) (hwb:w.heap.size<=wb) (uM:wb<W.heap.size):vD N W wb R where
 own i r hr:=az (h.own i r hr) hE ϕ
 apart:=h.apart
 off i r hr e:=by have:=((h.own i r hr).lt wb e).2;omega
 lt:=uM
 base:=by have:=h.base;have:=h.lt;omega
theorem YT {w:World} {v:Value} {es:List KE} (h:sF w v es): ∀u∈dW es,u.oneCell'=true:=by
 intro u hu;obtain⟨e,he,rfl⟩:=gW.1 hu;obtain⟨o,c,hv⟩:=aH.open (h.2 e he);rw[hv];rfl
theorem Cu (s:iE) (V:SV) (es:List KE) (w:World) (hS:jT w s V es) (hG:eB s):Ϝ 101 #[.agg (bG s V)] w
 (fun e w'=>Ϙ w w'/\ ∃wb V' Ο,e= .returned (.pointer (some ⟨wb,0,none⟩))/\iW w.heap.size w' wb s V' Ο):=by
 obtain⟨vt,vn,vw,vu,vr,vh,vk,vs⟩:=V;have HS:Hid (∀W,Ϙ w W->jT W s ⟨vt,vn,vw,vu,vr,vh,vk,vs⟩ es):=aa (fun W hb=>hS.below hb (ah _));have hek:es.length=s.cK.aQ.length:=hS.cK.len;have iF:=aa (YT hS.cK.aQ);have HG:=aa hG;have hl5:=hG.Ag;have hn5:=hG.notes;have hw5:=hG.MV;have I4:=hG.reads;have hh3:=hG.L8;have hk3:=hG.aQ;have ht5:=hG.aI;have hu5:s.heap.turns.length<=5:=by obtain⟨p,hp⟩:=hG.turns;rw[hp];exact Au p
 have hke:es.length<=3:=ϑ;have hwl:s.heap.bJ.length<=5:=ϑ;have HEK:=aa hek;clear hS hG hek hw5;go_enter Tryz.func101,Tryz.ntmps101;go_wp2_with fail
 refine bU fun W1 ν=>?_;have δ:W1.heap[w.heap.size]? =some (.cells (bG s ⟨vt,vn,vw,vu,vr,vh,vk,vs⟩) 62 (0,0)):=by rw[ν];exact av _ _
 have R9:=aa (show Ϙ w W1 from by rw[ν];exact ai (aF _ _) _)
 have hsz1:w.heap.size<W1.heap.size:=(aN.1 δ).1;obtain⟨c1,f1,l1⟩:=ae δ;have PG:=aa δ;clear ν δ;refine RX.fw (fun _ _=>False) 10 [] none [(5,⟨fun _ v=> ∃o c,v= .slice o s.led.field.aj.length c,fun _ v Wx=>Wx.ownsRow W1.heap.size 186 5 v s.led.field.aj.length (bP s.led.field.aj)⟩),(9,⟨fun _ v=> ∃o c,v= .slice o s.led.notes.length c,fun _ v Wx=>Wx.ownsRow W1.heap.size 188 3 v s.led.notes.length (aK s.led.notes)⟩)] (by rintro ps a1 Wx hdf h;exact h.elim) ϰ ϰ ?_;simp only[zt];repeat (refine RX.zd ?_;simp only[zp])
 refine RX.aY _ ϱ ϱ (by exact⟨.slice none (s.led.field.aj.length) 0,none,0,rfl⟩) (fun Wq hE hF=>?_) (fun v Wa Wb ho hE=>?_) (fun v hv=>?_)
 ·have Iq:Ext [] W1 Wq:=hE;refine RX.bM 176 #[vt] (by go_simp;try rfl) ?_;refine(Jo (s.led.field.aj.length) (bP s.led.field.aj) vt Wq (HS.o Wq (aV R9.o Iq.below)).sG (vU _) ϑ).mono ?_;exact zaG
 ·exact az (Ms:=[]) ho hE ϕ
 obtain⟨Bn,BI,rfl⟩:=hv;simp only[zp];repeat (refine RX.zd ?_;simp only[zp])
 refine RX.aY _ ϱ ϱ (by exact⟨.slice none (s.led.notes.length) 0,none,0,rfl⟩) (fun Wq hE hF=>?_) (fun v Wa Wb ho hE=>?_) (fun v hv=>?_)
 ·have Iq:Ext [] W1 Wq:=hE;refine RX.bM 177 #[vn] (by go_simp;try rfl) ?_;refine(FV (s.led.notes.length) (aK s.led.notes) vn Wq (HS.o Wq (aV R9.o Iq.below)).Ky (mJ _) ϑ).mono ?_;exact zaG
 ·exact az (Ms:=[]) ho hE ϕ
 obtain⟨Bo,BJ,rfl⟩:=hv;simp only[zp];repeat (refine RX.zd ?_;simp only[zp])
 intro Wt hE hF;have VZ:Wt.ownsRow W1.heap.size 188 3 (.slice Bo s.led.notes.length BJ) s.led.notes.length (aK s.led.notes):=hF _ (aW _);have VX:Wt.ownsRow W1.heap.size 186 5 (.slice Bn s.led.field.aj.length BI) s.led.field.aj.length (bP s.led.field.aj):=hF _ (jf _ (aW _));have Iq:Ext [] W1 Wt:=hE;have HBt:=aa (aV R9.o Iq.below);have hbt:=(Iq.block _ l1 ϕ).trans PG.o;have HKt:=aa hbt;have Ue:=aa Iq;obtain⟨ct,ft,lt⟩:=ae hbt;clear hE hF Iq hbt c1 f1;have yH:=aa VX;have yI:=aa VZ;clear VX VZ;go_upto_region 3 with(fail)
 refine bU fun W2 nP=>?_;have hbk:W2.heap[w.heap.size]? =some (.cells (bG s ⟨.slice Bn s.led.field.aj.length BI,.slice Bo s.led.notes.length BJ,vw,vu,vr,vh,vk,vs⟩) 62 (0,0)):=by rw[nP];exact aA (aA (HKt.o) _) _
 have Uy:=aa (show Ϙ w W2 from by rw[nP];exact((HBt.o).setCell (ah _) _).setCell (ah _) _)
 have Ef:Ext [w.heap.size] Wt W2:=by rw[nP];exact(fB).trans fB
 have yH:=aa (bK (base:=W1.heap.size) (az (Ms:=[w.heap.size]) yH.o Ef (by simp;exact hsz1)) (ah _));have yI:=aa (bK (base:=W1.heap.size) (az (Ms:=[w.heap.size]) yI.o Ef (by simp;exact hsz1)) (ah _));have hsz2:W1.heap.size<=W2.heap.size:=by have:=Ef.size;have:=Ue.o.size;omega
 obtain⟨c2,f2,l2⟩:=ae hbk;have F4:=aa hbk;clear nP hbk Ef ct ft;refine RX.fw (fun _ _=>False) 12 [] none [(3,⟨fun _ v=> ∃o c,v= .slice o s.heap.bJ.length c,fun _ v Wx=>Wx.ownsRow W2.heap.size 50 2 v s.heap.bJ.length (aB s.heap.bJ)⟩),(7,⟨fun _ v=> ∃o c,v= .slice o s.heap.turns.length c,fun _ v Wx=>Wx.ownsRow W2.heap.size 3 1 v s.heap.turns.length (ag s.heap.turns)⟩),(11,⟨fun _ v=> ∃o c,v= .slice o s.heap.readings.length c,fun _ v Wx=>Wx.ownsRow W2.heap.size 190 3 v s.heap.readings.length (aK s.heap.readings)⟩)] (by rintro ps a1 Wx hdf h;exact h.elim) ϰ ϰ ?_;simp only[zt];repeat (refine RX.zd ?_;simp only[zp])
 refine RX.aY _ ϱ ϱ (by exact⟨.slice none (s.heap.bJ.length) 0,none,0,rfl⟩) (fun Wq hE hF=>?_) (fun v Wa Wb ho hE=>?_) (fun v hv=>?_)
 ·have Iq:Ext [] W2 Wq:=hE;refine RX.bM 178 #[vw] (by go_simp;try rfl) ?_;refine(Jm (s.heap.bJ.length) (aB s.heap.bJ) vw Wq (HS.o Wq (aV Uy.o Iq.below)).bJ (kF _) ϑ).mono ?_;exact zaG
 ·exact az (Ms:=[]) ho hE ϕ
 obtain⟨C9,EF,rfl⟩:=hv;simp only[zp];repeat (refine RX.zd ?_;simp only[zp])
 refine RX.aY _ ϱ ϱ (by exact⟨.slice none (s.heap.turns.length) 0,none,0,rfl⟩) (fun Wq hE hF=>?_) (fun v Wa Wb ho hE=>?_) (fun v hv=>?_)
 ·have Iq:Ext [] W2 Wq:=hE;refine RX.bM 91 #[vu] (by go_simp;try rfl) ?_;refine(zI (s.heap.turns.length) (ag s.heap.turns) vu Wq (HS.o Wq (aV Uy.o Iq.below)).Ab (ic _) ϑ).mono ?_;exact zaG
 ·exact az (Ms:=[]) ho hE ϕ
 obtain⟨Da,EI,rfl⟩:=hv;simp only[zp];repeat (refine RX.zd ?_;simp only[zp])
 refine RX.aY _ ϱ ϱ (by exact⟨.slice none (s.heap.readings.length) 0,none,0,rfl⟩) (fun Wq hE hF=>?_) (fun v Wa Wb ho hE=>?_) (fun v hv=>?_)
 ·have Iq:Ext [] W2 Wq:=hE;refine RX.bM 179 #[vr] (by go_simp;try rfl) ?_;refine(FU (s.heap.readings.length) (aK s.heap.readings) vr Wq (HS.o Wq (aV Uy.o Iq.below)).Al (mJ _) ϑ).mono ?_;exact zaG
 ·exact az (Ms:=[]) ho hE ϕ
 obtain⟨Db,EL,rfl⟩:=hv;simp only[zp];repeat (refine RX.zd ?_;simp only[zp])
 intro Wt hE hF;have VY:Wt.ownsRow W2.heap.size 190 3 (.slice Db s.heap.readings.length EL) s.heap.readings.length (aK s.heap.readings):=hF _ (aW _);have VV:Wt.ownsRow W2.heap.size 3 1 (.slice Da s.heap.turns.length EI) s.heap.turns.length (ag s.heap.turns):=hF _ (jf _ (aW _));have VU:Wt.ownsRow W2.heap.size 50 2 (.slice C9 s.heap.bJ.length EF) s.heap.bJ.length (aB s.heap.bJ):=hF _ (jf _ (jf _ (aW _)));have Iq:Ext [] W2 Wt:=hE;have HBt:=aa (aV Uy.o Iq.below);have hbt:=(Iq.block _ l2 ϕ).trans F4.o;have HKt:=aa hbt;have Ue:=aa Iq;obtain⟨ct,ft,lt⟩:=ae hbt;clear hE hF Iq hbt c2 f2;have E5:=aa VU;have E8:=aa VV;have E9:=aa VY;clear VU VV VY;go_upto_region 4 with(fail)
 refine bU fun W3 nP=>?_;have hbk:W3.heap[w.heap.size]? =some (.cells (bG s ⟨.slice Bn s.led.field.aj.length BI,.slice Bo s.led.notes.length BJ,.slice C9 s.heap.bJ.length EF,.slice Da s.heap.turns.length EI,.slice Db s.heap.readings.length EL,vh,vk,vs⟩) 62 (0,0)):=by rw[nP];exact aA (aA (aA (HKt.o) _) _) _
 have ζ:=aa (show Ϙ w W3 from by rw[nP];exact(((HBt.o).setCell (ah _) _).setCell (ah _) _).setCell (ah _) _)
 have Ef:Ext [w.heap.size] Wt W3:=by rw[nP];exact((fB).trans fB).trans fB
 have yH:=aa (az (Ms:=[w.heap.size]) (az (Ms:=[]) yH.o Ue.o ϕ) Ef (by simp;exact hsz1));have yI:=aa (az (Ms:=[w.heap.size]) (az (Ms:=[]) yI.o Ue.o ϕ) Ef (by simp;exact hsz1));have E5:=aa (bK (base:=W1.heap.size) (az (Ms:=[w.heap.size]) E5.o Ef ϗ) ϑ);have E8:=aa (bK (base:=W1.heap.size) (az (Ms:=[w.heap.size]) E8.o Ef ϗ) ϑ);have E9:=aa (bK (base:=W1.heap.size) (az (Ms:=[w.heap.size]) E9.o Ef ϗ) ϑ);have VH:W1.heap.size<=W3.heap.size:=by have:=Ef.size;have:=Ue.o.size;omega
 obtain⟨c3,f3,l3⟩:=ae hbk;have Bc:=aa hbk;clear nP hbk Ef ct ft;refine RX.fw (fun _ _=>False) 12 [] none [(3,⟨fun _ v=> ∃o c,v= .slice o s.cK.heaps.length c,fun _ v Wx=>Wx.ownsRow W3.heap.size 129 2 v s.cK.heaps.length (aB s.cK.heaps)⟩),(7,⟨fun _ v=> ∃o c,v= .slice o es.length c,fun _ v Wx=>Wx.ownsRow W3.heap.size 52 1 v es.length (dW es)⟩),(11,⟨fun _ v=> ∃o c,v= .slice o s.cK.aI.length c,fun _ v Wx=>Wx.ownsRow W3.heap.size 192 4 v s.cK.aI.length (dI s.cK.aI)⟩)] (by rintro ps a1 Wx hdf h;exact h.elim) ϰ ϰ ?_;simp only[zt];repeat (refine RX.zd ?_;simp only[zp])
 refine RX.aY _ ϱ ϱ (by exact⟨.slice none (s.cK.heaps.length) 0,none,0,rfl⟩) (fun Wq hE hF=>?_) (fun v Wa Wb ho hE=>?_) (fun v hv=>?_)
 ·have Iq:Ext [] W3 Wq:=hE;refine RX.bM 180 #[vh] (by go_simp;try rfl) ?_;refine(Jp (s.cK.heaps.length) (aB s.cK.heaps) vh Wq (HS.o Wq (aV ζ.o Iq.below)).cK.heaps (kF _) ϑ).mono ?_;exact zaG
 ·exact az (Ms:=[]) ho hE ϕ
 obtain⟨GJ,Hq,rfl⟩:=hv;simp only[zp];repeat (refine RX.zd ?_;simp only[zp])
 refine RX.aY _ ϱ ϱ (by exact⟨.slice none (es.length) 0,none,0,rfl⟩) (fun Wq hE hF=>?_) (fun v Wa Wb ho hE=>?_) (fun v hv=>?_)
 ·have Iq:Ext [] W3 Wq:=hE;refine RX.bM 181 #[vk] (by go_simp;try rfl) ?_;refine(Jq (es.length) (dW es) vk Wq (HS.o Wq (aV ζ.o Iq.below)).cK.aQ.1 (iF.o) ϑ).mono ?_;exact zaG
 ·exact az (Ms:=[]) ho hE ϕ
 obtain⟨Dc,zK,rfl⟩:=hv;simp only[zp];repeat (refine RX.zd ?_;simp only[zp])
 refine RX.aY _ ϱ ϱ (by exact⟨.slice none (s.cK.aI.length) 0,none,0,rfl⟩) (fun Wq hE hF=>?_) (fun v Wa Wb ho hE=>?_) (fun v hv=>?_)
 ·have Iq:Ext [] W3 Wq:=hE;refine RX.bM 182 #[vs] (by go_simp;try rfl) ?_;refine(Jn (s.cK.aI.length) (dI s.cK.aI) vs Wq (HS.o Wq (aV ζ.o Iq.below)).cK.aI (CZ _) ϑ).mono ?_;exact zaG
 ·exact az (Ms:=[]) ho hE ϕ
 obtain⟨GI,Ho,rfl⟩:=hv;simp only[zp];repeat (refine RX.zd ?_;simp only[zp])
 intro Wt hE hF;have VW:Wt.ownsRow W3.heap.size 192 4 (.slice GI s.cK.aI.length Ho) s.cK.aI.length (dI s.cK.aI):=hF _ (aW _);have V6:Wt.ownsRow W3.heap.size 52 1 (.slice Dc es.length zK) es.length (dW es):=hF _ (jf _ (aW _));have V3:Wt.ownsRow W3.heap.size 129 2 (.slice GJ s.cK.heaps.length Hq) s.cK.heaps.length (aB s.cK.heaps):=hF _ (jf _ (jf _ (aW _)));have Iq:Ext [] W3 Wt:=hE;have HBt:=aa (aV ζ.o Iq.below);have hbt:=(Iq.block _ l3 ϕ).trans Bc.o;have HKt:=aa hbt;have Ue:=aa Iq;obtain⟨ct,ft,lt⟩:=ae hbt;clear hE hF Iq hbt c3 f3;have Px:=aa V3;have Py:=aa V6;have Pw:=aa VW;clear V3 V6 VW;go_upto_region 5 with(fail)
 refine bU fun W4 nP=>?_;have hbk:W4.heap[w.heap.size]? =some (.cells (bG s ⟨.slice Bn s.led.field.aj.length BI,.slice Bo s.led.notes.length BJ,.slice C9 s.heap.bJ.length EF,.slice Da s.heap.turns.length EI,.slice Db s.heap.readings.length EL,.slice GJ s.cK.heaps.length Hq,.slice Dc es.length zK,.slice GI s.cK.aI.length Ho⟩) 62 (0,0)):=by rw[nP];exact aA (aA (aA (HKt.o) _) _) _
 have gJ:=aa (show Ϙ w W4 from by rw[nP];exact(((HBt.o).setCell (ah _) _).setCell (ah _) _).setCell (ah _) _)
 have Ef:Ext [w.heap.size] Wt W4:=by rw[nP];exact((fB).trans fB).trans fB
 have yH:=aa (az (Ms:=[w.heap.size]) (az (Ms:=[]) yH.o Ue.o ϕ) Ef (by simp;exact hsz1));have yI:=aa (az (Ms:=[w.heap.size]) (az (Ms:=[]) yI.o Ue.o ϕ) Ef (by simp;exact hsz1));have E5:=aa (az (Ms:=[w.heap.size]) (az (Ms:=[]) E5.o Ue.o ϕ) Ef (by simp;exact hsz1));have E8:=aa (az (Ms:=[w.heap.size]) (az (Ms:=[]) E8.o Ue.o ϕ) Ef (by simp;exact hsz1));have E9:=aa (az (Ms:=[w.heap.size]) (az (Ms:=[]) E9.o Ue.o ϕ) Ef (by simp;exact hsz1));have Px:=aa (bK (base:=W1.heap.size) (az (Ms:=[w.heap.size]) Px.o Ef ϗ) ϑ);have Py:=aa (bK (base:=W1.heap.size) (az (Ms:=[w.heap.size]) Py.o Ef ϗ) ϑ);have Pw:=aa (bK (base:=W1.heap.size) (az (Ms:=[w.heap.size]) Pw.o Ef ϗ) ϑ);have abS:W1.heap.size<=W4.heap.size:=by have:=Ef.size;have:=Ue.o.size;omega
 obtain⟨c4,f4,l4⟩:=ae hbk;have HK4:=aa hbk;clear nP hbk Ef ct ft;have hR0:vD w.heap.size W4 w.heap.size (Bh s ⟨.slice Bn s.led.field.aj.length BI,.slice Bo s.led.notes.length BJ,.slice C9 s.heap.bJ.length EF,.slice Da s.heap.turns.length EI,.slice Db s.heap.readings.length EL,.slice GJ s.cK.heaps.length Hq,.slice Dc es.length zK,.slice GI s.cK.aI.length Ho⟩ es.length (dW es)):=by
  refine vD.Ve (by have:=gJ.o.size;omega) (ah _) ?_ (by simp[Bh]);intro r hr;simp only[Bh,eQ,List.not_mem_nil,or_false] at hr;rcases hr with rfl|rfl|rfl|rfl|rfl|rfl|rfl|rfl
  ·exact bK yH.o ϑ
  ·exact bK yI.o ϑ
  ·exact bK E5.o ϑ
  ·exact bK E8.o ϑ
  ·exact bK E9.o ϑ
  ·exact bK Px.o ϑ
  ·exact bK Py.o ϑ
  ·exact bK Pw.o ϑ
 have HR0:=aa hR0;clear hR0;go_wp2_with fail
 go_loopw [4,5,58] (fun _ _ u wr=> ∃i:Nat,i<=es.length/\u= .int .i64 i/\Ϙ w wr/\wr.heap[w.heap.size]? =some (.cells (bG s ⟨.slice Bn s.led.field.aj.length BI,.slice Bo s.led.notes.length BJ,.slice C9 s.heap.bJ.length EF,.slice Da s.heap.turns.length EI,.slice Db s.heap.readings.length EL,.slice GJ s.cK.heaps.length Hq,.slice Dc es.length zK,.slice GI s.cK.aI.length Ho⟩) 62 (0,0))/\ ∃Ο:List KE,Ο.length=i/\Ο.map (·.2)=s.cK.aQ.take i/\vD w.heap.size wr w.heap.size (Bh s ⟨.slice Bn s.led.field.aj.length BI,.slice Bo s.led.notes.length BJ,.slice C9 s.heap.bJ.length EF,.slice Da s.heap.turns.length EI,.slice Db s.heap.readings.length EL,.slice GJ s.cK.heaps.length Hq,.slice Dc es.length zK,.slice GI s.cK.aI.length Ho⟩ es.length (dW (Ο++es.drop i))++Ο.map xw)) (fun _ _ u _=>es.length-(intOf u).toNat)
 case atStart=>exact⟨0,bE _,rfl,gJ.o,HK4.o,[],rfl,rfl,by simpa using HR0.o⟩
 case round=>
  obtain⟨i,hi,rfl,hB,hbk,Ο,FN,hes',hOr⟩:=hrel;obtain⟨c5,f5,l5⟩:=ae hbk;by_cases uM:i<es.length
  ·have hcx:=HEK.o;obtain⟨ev,el,Ay⟩: ∃ev el,es[i]? =some (ev,el):=⟨_,_,dn uM⟩;have hcas:s.cK.aQ[i]? =some el:=by rw[<-(HS.o w (aF _ _)).cK.is,nX,Ay];rfl
   have ajD:el.length<=3:=by have:=(HG.o.nI el (lg hcas)).1;omega
   have h6:wr.ownsRow w.heap.size 52 1 (.slice Dc es.length zK) es.length (dW (Ο++es.drop i)):=hOr.own 6 _ (Ai _ _ _ _ _);obtain⟨gk,ajt,Ql,hfk,Y9⟩:=fQ h6 ϑ;subst ajt;have hgx:(dW (Ο++es.drop i))[i]? =some ev:=by
    unfold dW;rw[nX,mD ϑ,FN,Nat.sub_self,List.getElem?_drop,Nat.add_zero,Ay];rfl
   obtain⟨hg',eg'⟩:=iy.1 hgx;have g6:=(Ql i hg').trans (by rw[eg']);have HX:=aa (af hB (af hbk (af FN (af hes' (af hOr (af h6 (af Ay hcas)))))));have hgb:gk≠w.heap.size:=fun e=>hOr.off 6 _ (Ai _ _ _ _ _) (by rw[<-e];rfl);clear hB hbk FN hes' hOr h6 hgx hg' eg' Ql Ay hcas hcx;go_wp2_with fail
   refine RX.fw (fun _ _=>False) 6 [] none [(5,⟨fun _ v=> ∃o c,v= .slice o el.length c,fun _ v Wx=>Wx.ownsRow wr.heap.size 3 1 v el.length (ag el)⟩)] (by rintro ps a1 Wx hdf h;exact h.elim) ϰ ϰ ?_;simp only[zt];repeat (refine RX.zd ?_;simp only[zp])
   refine RX.aY _ ϱ ϱ (by exact⟨.slice none el.length 0,none,0,rfl⟩) (fun Wq hE hF=>?_) (fun v Wa Wb ho hE=>?_) (fun v hv=>?_)
   ·have Iq:Ext [] wr Wq:=hE;refine RX.bM 91 #[ev] (by go_simp;try rfl) ?_;refine(zI el.length (ag el) ev Wq ((HS.o Wq (aV HX.o.1 (show Ϙ wr Wq from Iq.below))).cK.aQ.2 (ev,el) (lg HX.o.2.2.2.2.2.2.1)) (ic _) ϑ).mono ?_;exact zaG
   ·exact az (Ms:=[]) ho hE ϕ
   obtain⟨o8,c8,rfl⟩:=hv;simp only[zp];intro W8 hE hF;have nH:W8.ownsRow wr.heap.size 3 1 (.slice o8 el.length c8) el.length (ag el):=hF _ (aW _);have eT:Ext [] wr W8:=hE;have χ:=(eT.block _ l5 ϕ).trans HX.o.2.1;obtain⟨c9,f9,l9⟩:=ae χ;have Ec:=HX.o.2.2.2.2.1.push (xw (.slice o8 el.length c8,el)) eT ϕ (bK nH (by have:=HX.o.1.size;omega)) (by rcases hq:(Value.slice o8 el.length c8).ownBlock with _|g;(exact .inl hq);(exact .inr ⟨g,hq,(nH.lt g hq).1⟩))
   have h68:=az (Ms:=[]) HX.o.2.2.2.2.2.1 eT ϕ;obtain⟨gk',aca,aju,aoX,aoH⟩:=fQ h68 ϑ;cases aca;have g7:=(eT.cell gk i Y9 ϕ).trans g6;have H8:=aa (af eT (af χ (af Ec h68)));clear hE hF nH eT χ Ec h68 aju c5 f5 g6 hfk;go_wp2_with fail
   go_roundw
   case rel=>
    refine⟨i+1,by omega,by go_num,(aV HX.o.1 H8.o.1.below).setCell (H8.o.2.2.2.lt gk rfl).1 _,((fB (W:=W8) (b:=gk) (off:=i) (v:= .slice o8 el.length c8)).block _ l9 (by simpa using fun e=>hgb e.symm)).trans H8.o.2.1,Ο++[(.slice o8 el.length c8,el)],by simp[HX.o.2.2.1],?_,?_⟩
    ·rw[List.map_append,HX.o.2.2.2.1,pE,HX.o.2.2.2.2.2.2.2];rfl
    ·have hS:=kr H8.o.2.2.2 i (.slice o8 el.length c8);have hk2:(dW (Ο++es.drop i)).set i (.slice o8 el.length c8)=dW (Ο++[(.slice o8 el.length c8,el)]++es.drop (i+1)):=by
      unfold dW;rw[List.map_append,nZ _ _ (by simp[HX.o.2.2.1]),kJ,HX.o.2.2.1,Nat.sub_self,su uM,List.map_cons,List.set_cons_zero];simp
     have hP:=H8.o.2.2.1.put (i:=6) (r:=⟨52,1,.slice (some ⟨gk,0,none⟩) es.length zK,es.length,dW (Ο++es.drop i)⟩) (by rw[jg];exact Ai _ _ _ _ _) ⟨52,1,.slice (some ⟨gk,0,none⟩) es.length zK,es.length,dW (Ο++[(.slice o8 el.length c8,el)]++es.drop (i+1))⟩ (fB (W:=W8) (b:=gk) (off:=i) (v:= .slice o8 el.length c8)) (fun m hm=> .inr (.inr (by rw[dX.1 hm];rfl))) (by rw[hk2] at hS;exact hS) (.inl rfl);rw[jg,Rf] at hP;rw[List.map_append];exact hP
   case measure=>simp[intOf];omega
  ·obtain rfl:i=es.length:=ϑ;have HX:=aa (af hB (af hbk (af FN (af hes' hOr))));clear hB hbk FN hes' hOr;go_upto_region 10 with(fail)
   refine wp_region_lit ?_;refine wpList_load_row rfl _ _ rfl w.heap.size rfl _ _ _ _ HX.o.2.1 Tryz.underlying62 rfl ϰ ?_;simp only[zp];clear c5 f5;go_wp2_with fail
   trace_state
   go_returns;refine⟨ai HX.o.1 _,wr.heap.size,⟨.slice Bn s.led.field.aj.length BI,.slice Bo s.led.notes.length BJ,.slice C9 s.heap.bJ.length EF,.slice Da s.heap.turns.length EI,.slice Db s.heap.readings.length EL,.slice GJ s.cK.heaps.length Hq,.slice Dc es.length zK,.slice GI s.cK.aI.length Ho⟩,Ο,by simp,⟨av _ _,?_,?_⟩⟩
   ·have h:=HX.o.2.2.2.2;rw[List.drop_length,List.append_nil] at h;rw[Rh,HX.o.2.2.1];exact h.move (Ext.ax (ai (aF _ _) _)) (ah _) ϕ
   ·rw[HX.o.2.2.2.1,ji (by have:=HEK.o;omega)]
structure Env (w:World):Prop where
 pow: ∃t f,w.heap[0]? =some (.cells (Lib.pow10Tab.map fun z=>Value.int .u64 z).toArray t f)
 len: ∃m,w.cell? ⟨1,0,none⟩=some (.int .i64 m)/\1<w.heap.size
 syn: ∃tp p t f,w.heap[2]? =some (.cells #[.iface tp p] t f)
 rng: ∃tp p t f,w.heap[3]? =some (.cells #[.iface tp p] t f)
theorem Env.lts {w:World} (h:Env w):0<w.heap.size/\1<w.heap.size/\2<w.heap.size/\3<w.heap.size:=by
 obtain⟨t,f,h0⟩:=h.pow;obtain⟨m,h1,hl⟩:=h.len;obtain⟨tp,p,t2,f2,h2⟩:=h.syn;obtain⟨tp3,p3,t3,f3,h3⟩:=h.rng;exact⟨(aN.1 h0).1,hl,(aN.1 h2).1,(aN.1 h3).1⟩
theorem Env.size {w:World} (h:Env w):4<=w.heap.size:=by
 have:=h.lts;omega
theorem Env.below {w W:World} (h:Env w) {B:Nat} (hb:Below B w W) (hB:w.heap.size<=B):Env W:=by
 have h4:=h.lts;have hz:=hb.size;obtain⟨t,f,h0⟩:=h.pow;obtain⟨m,h1,hl⟩:=h.len;obtain⟨tp,p,t2,f2,h2⟩:=h.syn;obtain⟨tp3,p3,t3,f3,h3⟩:=h.rng;exact⟨⟨t,f,(hb.block 0 ϑ).trans h0⟩,⟨m,(gX (hb.block 1 ϑ)).trans h1,by omega⟩,⟨tp,p,t2,f2,(hb.block 2 ϑ).trans h2⟩,⟨tp3,p3,t3,f3,(hb.block 3 ϑ).trans h3⟩⟩
theorem M0 {w:World} {g:Nat} {cs:Array Value} {t:TypeId} {f:Nat×Nat} (h:w.heap[g]? =some (.cells cs t f)) {nm:String} (hn:Tryz.prog.globalNamed nm=some g):w.var? Tryz.prog nm=some cs:=by
 simp[World.var?,hn,h]
theorem Qw {w:World} (h:Env w) {nm:String} (hn:Tryz.prog.globalNamed nm=some 0):Lib.TabIs Tryz.prog w nm .u64 Lib.pow10Tab:=by
 obtain⟨t,f,h0⟩:=h.pow;exact M0 h0 hn
abbrev dS (l:ay):ByteArray:=⟨l.toArray⟩
theorem bytesWorld_below (w:World) (t:TypeId) (s:ByteArray):Ϙ w (Lib.bytesWorld w t s):=by
 unfold Lib.bytesWorld;refine⟨rfl,rfl,rfl,?_,fun i hi=>?_⟩
 ·simp[World.freeze]
 ·have:w.heap.size≠i:=ϑ;simp[World.freeze,Array.getElem?_modify,this];exact heap_alloc_old _ _ hi
theorem Eh (w:World) (k:Nat) (os:Array Obj):Ϙ w (Go.Sort.grow (w.drewN k) os):=by
 refine⟨rfl,rfl,rfl,by simp[Go.Sort.grow,World.drewN],fun i hi=>?_⟩;rw[Go.Sort.heap_grow_old _ _ (by simpa [World.drewN] using hi)];rfl
theorem Xq (l:ay) (w:World) (hE:Env w) (hl:l.length<=1000):Ϝ 175 #[.string (dS l)] w
 (fun e w'=>Ϙ w w'/\((∃v,Lib.atoiAll l= .ok v/\e= .returned (.tuple #[iv v,.nilIface]))∨((∀v,Lib.atoiAll l≠ .ok v)/\ ∃v t p,e= .returned (.tuple #[iv v,.iface t p])))):=by
 have hs:(dS l).size=l.length:=by simp[dS,ByteArray.size]
 cases ha:Lib.atoiAll l with
 |ok v=>
  refine(Go.Proofs.Tryz.strconv_Atoi_ok (dS l) (by rw[hs];omega) v ha w).mono ?_;rintro e w' ⟨rfl,h|⟨t,h⟩⟩
  ·subst h;exact⟨aF _ _,.inl ⟨v,rfl,rfl⟩⟩
  ·subst h;exact⟨bytesWorld_below _ _ _,.inl ⟨v,rfl,rfl⟩⟩
 |range=>
  obtain⟨tp,p,t2,f2,h2⟩:=hE.rng;refine(Go.Proofs.Tryz.strconv_Atoi_range_var (dS l) (by rw[hs];omega) ha tp p w (M0 h2 ϰ)).mono ?_;exact zcm
 |_=>
  obtain⟨tp,p,t2,f2,h2⟩:=hE.syn;refine(Go.Proofs.Tryz.strconv_Atoi_syntax_var (dS l) (by rw[hs];omega) ha tp p w (M0 h2 ϰ)).mono ?_;exact zcm
theorem Vj {l:ay} (h: ∀v,Lib.atoiAll l≠ .ok v):ng l=none:=by
 cases hn:ng l with
 |none=>rfl
 |some v=>
  have h4:=(Ch hn).2;have:=Lib.atoiAll_short l ϑ;rw[BK hn] at this;exact absurd this (h v)
theorem De {l:ay} {v n:Int} (h:Lib.atoiAll l= .ok v) (hn:ng l=some n):v=n:=by
 have h4:=(Ch hn).2;have:=Lib.atoiAll_short l ϑ;rw[BK hn,h] at this;injection this
def aku (l:ay) (w:World) (e:Ending) (w':World):Prop:=Ϙ w w'/\ ∃v,e= .returned (.tuple #[iv v,.bool (ng l).isSome])/\ ∀n,ng l=some n->v=n
theorem NG (l:ay) (w:World) (hE:Env w) (hl:l.length<=1000):Ϝ 100 #[.string (dS l)] w (aku l w):=by
 have hs:(dS l).size=l.length:=by simp[dS,ByteArray.size]
 have HA:=aa (Xq l w hE hl);have HE:=aa hE;clear hE;go_enter Tryz.func100,Tryz.ntmps100;go_wp2_with fail
 refine HA.o.mono ?_;rintro e w1 ⟨hb,⟨v,hv,rfl⟩|⟨IB,v,t,p,rfl⟩⟩
 ·have HB:=aa hb;have HV:=aa hv;clear hb hv;by_cases h0:0<=v
  ·by_cases h4:l.length<=4
   ·have h5:(l.length:Int)<=4:=ϑ;go_wp2_with fail
    refine(Go.Proofs.Tryz.strconv_Itoa v ϑ (by have:=(Lib.atoiAll_bounds HV.o).2;omega) w1 (Qw (HE.o.below HB.o (ah _)) ϰ)).mono ?_
    rintro e w2 ⟨rfl,k,os,rfl⟩;have HG:=aa (Eh w1 k os);obtain⟨w3,hw3⟩: ∃w3,w3=Go.Sort.grow (w1.drewN k) os:=⟨_,rfl⟩;rw[<-hw3] at HG⊢;clear hw3;go_wp2_with fail
    go_returns;refine⟨aV HB.o HG.o,v,?_,fun n hn=>De HV.o hn⟩;by_cases he:Lib.itoa v=l
    ·rw[Kw h0 h4 he];simp[he]
    ·have hn:ng l=none:=by
      cases hn:ng l with
      |none=>rfl
      |some n=>exact absurd (De HV.o hn▸VD hn) he
     rw[hn];have:(Lib.itoa v==l)=false:=by simpa using he
     simp[this]
   ·have h5: ¬(l.length:Int)<=4:=ϑ;go_wp2_with fail
    go_returns;refine⟨HB.o,v,?_,fun n hn=>De HV.o hn⟩;have hn:ng l=none:=by
     cases hn:ng l with
     |none=>rfl
     |some n=>exact absurd (Ch hn).2 h4
    rw[hn];simp
  ·go_wp2_with fail
   go_returns;refine⟨HB.o,v,?_,fun n hn=>De HV.o hn⟩;have hn:ng l=none:=by
    cases hn:ng l with
    |none=>rfl
    |some n=>have h1:=De HV.o hn;have h2:=(IJ hn).1;omega
   rw[hn];simp
 ·have HB:=aa hb;have HN:=aa (Vj IB);clear hb IB;go_wp2_with fail
  go_returns;exact⟨HB.o,v,by rw[HN.o];simp,fun n hn=>by rw[HN.o] at hn;cases hn⟩
theorem Ir: ∀l:ay,Lib.splitK [32] 0 (Lib.count l [32]) l=gD l:=by
 intro l;induction l with
 |nil=>rfl
 |cons c l ih=>
  by_cases hc:c=32
  ·subst hc;rw[Lib.count_cons_eq,Nat.add_comm,Lib.splitK,Lib.index_one,Lib.indexByte,gD,aG rfl];simp[ih]
  ·rw[Lib.count_cons_ne c 32 l hc,gD,ak hc];cases hk:Lib.count l [32] with
   |zero=>
    rw[hk] at ih;rw[<-ih];rfl
   |succ k=>
    rw[hk] at ih;have hb:(c==32)=false:=by simpa using hc
    have hi:Lib.index l [32]≠ -1:=fun h=>by have:=Lib.count_miss h;omega
    have hge:=Lib.index_ge l [32];obtain⟨i,hi2⟩: ∃i:Nat,Lib.index l [32]=i:=⟨(Lib.index l [32]).toNat,by omega⟩;have e1:(Lib.index l [32]== -1)=false:=by simpa using hi
    have hj:Lib.index (c::l) [32]=(i:Int)+1:=by
     rw[Lib.index_one,Lib.indexByte,hb, <-Lib.index_one,e1,hi2];rfl
    have e2:(Lib.index (c::l) [32]== -1)=false:=by rw[hj];simp;omega
    rw[Lib.splitK,e1] at ih;rw[Lib.splitK,e2];simp only[Bool.false_eq_true,if_false,Nat.add_zero,List.length_singleton] at ih⊢;rw[<-ih,hj,hi2];have h1:((i:Int)+1).toNat=i+1:=ϑ;rw[h1];simp
theorem Bg (l:ay):(Lib.splitB ⟨#[32]⟩ 0 (Lib.countB (dS l) ⟨#[32]⟩) (dS l)).map (·.data.toList)=gD l:=by
 rw[Lib.splitB_data];exact Ir l
abbrev bz (ps:List ay):List Value:=ps.map fun p=> .string (dS p)
abbrev iK (w:World) (v:Value) (ps:List ay):Prop:=aH 1 w v ps.length (bz ps)
theorem Tk (s:ByteArray):dS s.data.toList=s:=by cases s;simp[dS]
theorem Rb (l:ay) (w:World) (hE:Env w) (hl:l.length<=1000):Ϝ 97 #[.string (dS l),.string ⟨#[32]⟩] w
 (fun e w'=> ∃n,n=(gD l).length/\e= .returned (.slice (some ⟨w.heap.size,0,none⟩) n n)/\w'=w.alloc (.cells (bz (gD l)).toArray 9)):=by
 obtain⟨m,hm,_⟩:=hE.len;have hs:(dS l).size=l.length:=by simp[dS,ByteArray.size]
 have IY:=Lib.splitB_all ⟨#[32]⟩ ϖ 0 _ (dS l) rfl;refine(Go.Proofs.Tryz.strings_Split (dS l) ⟨#[32]⟩ m w (by rw[hs];omega) hm ϖ).mono ?_;rintro e w' ⟨rfl,rfl⟩;refine⟨_,?_,rfl,?_⟩
 ·rw[<-Bg,kJ,IY]
 ·rw[<-Bg];congr 3;unfold bz;rw[List.map_map];apply List.map_congr_left;intro x _;simp only[Function.comp,Tk]
theorem O5 (x y z:Addr) (w:World):
 CallsD Tryz.prog 96 #[.pointer (some x),.pointer (some y),.pointer (some z)] .returning w fun e u' w'=>e= .returned (.tuple #[])/\u'= .returning/\w'=w:=by
 refine callsD_of_wpS Tryz.func96 rfl fun c₀ cs hu=>?_;apply wpS_seq;apply wpS_region;simp[wpOpsS,go_sem,recoverD,hu,Tryz.ntmps96,Exit.thenS];refine wpS_of_wp ?_;go_wp2;cases c₀;simp_all [bodyPostS,results,Tryz.results96]
theorem oD {P:Program} {o:Oper} {ρ:Operand->Value} {w:World} (ty:TypeId) (x:Operand) (ho:o.op= .load ty x)
 (g:Nat) (hx:ρ x= .pointer (some ⟨g,0,none⟩)) (t:TypeId) (cs:Array Value) (fr:Nat×Nat) (d:TypeDesc) (hg:w.heap[g]? =some (.cells cs t fr))
 (hu:P.underlying ty=some d) (hd:(match d with| .struct _| .array _ _=>true|_=>false)=true) (hi:(P.info? ty).map (·.size)=some cs.size):(execOp ρ o).run P w= .ok (.value (.agg cs)) w:=by
 unfold execOp;simp only[ho,hx,Instr.loadAt,Instr.sureAddr,Sem.run_bind,Sem.run_pure,Result.andThen_ok,run_loadVar_row w g t ty cs fr d hg hu hd hi]
theorem wC {P:Program} {o:Oper} {ρ:Operand->Value} {w:World} (ty:TypeId) (x y:Operand) (ho:o.op= .store ty x y)
 (g:Nat) (cells:Array Value) (hx:ρ x= .pointer (some ⟨g,0,none⟩)) (hy:ρ y= .agg cells)
 (t:TypeId) (old:Array Value) (hg:w.heap[g]? =some (.cells old t (0,0))) (hi:(P.info? ty).map (·.size)=some cells.size)
 (hold:old.size=cells.size) (h1:cells.all (·.oneCell')=true):(execOp ρ o).run P w= .ok .skip (w.setRow g cells):=by
 unfold execOp;simp only[ho,hx,hy,Instr.storeAt,Instr.sureAddr,Sem.run_bind,Sem.run_pure,Result.andThen_ok,run_storeVar_row w g t ty old cells hg hi hold h1]
theorem tT {P:Program} {o:Oper} {ρ:Operand->Value} {W W':World} {R:Value->World->Prop} (he:(execOp ρ o).run P W= .ok .skip W') (h:R undef W'):Does P o ρ W R:=by
 unfold Does;rw[he];exact h
theorem EO (v:Value) (w:World):(Instr.typeAssert (.iface 214 v) 20 214 true).run Tryz.prog w= .ok (.tuple #[v,.bool true]) w:=by
 have hu:Tryz.prog.underlying 214=_:=Tryz.underlying214;simp[Instr.typeAssert,run_underlying hu,go_sem]
theorem FW (bs ba be:Nat) (S:Array Value) (A:Array Value) (ec:Value) (Δ:Int) (w:World) (hS:w.heap[bs]? =some (.cells S 62 (0,0))) (hA:w.heap[ba]? =some (.cells A 62 (0,0))) (hE:w.heap[be]? =some (.cells #[ec] 26 (0,0)))
 (τ:S.size=22) (hsa:A.size=22) (h1:bs≠ba) (h2:bs≠be) (h3:ba≠be) (hone: ∀u∈S.toList,u.oneCell'=true):
 CallsD Tryz.prog 96 #[.pointer (some ⟨bs,0,none⟩),.pointer (some ⟨ba,0,none⟩),.pointer (some ⟨be,0,none⟩)] (.panicking (jm Δ)) w fun e u' w'=>
  e= .returned (.tuple #[])/\u'= .panicking [{v:= .iface 214 (.agg #[iv Δ]),recovered:=true}]/\Ext [ba,be] w w'/\w'.heap[ba]? =some (.cells S 62 (0,0))/\w'.heap[be]? =some (.cells #[iv Δ] 26 (0,0)):=by
 refine callsD_of_wpS Tryz.func96 rfl fun c₀ cs hu=>?_;apply wpS_seq;apply wpS_region;have hta:=EO (.agg #[iv Δ]) w;obtain⟨cS,fS,lS⟩:=ae hS;obtain⟨cA,fA,lA⟩:=ae hA;obtain⟨cE,fE,lE⟩:=ae hE;simp[wpOpsS,go_sem,recoverD,hu,Tryz.ntmps96,Exit.thenS];refine wpS_of_wp ?_;simp only[Array.replicate_succ,Array.replicate_zero,jy,jA,List.nil_append,List.cons_append,nC,List.set_cons_succ,List.set_cons_zero];go_wp2;refine bU fun W1 ν=>?_;have k1:W1.heap[w.heap.size]? =some (.cells #[iv Δ] 214 (0,0)):=by rw[ν];exact av _ _
 have kS:W1.heap[bs]? =some (.cells S 62 (0,0)):=by rw[ν];exact(heap_alloc_old _ _ lS).trans hS
 have kA:W1.heap[ba]? =some (.cells A 62 (0,0)):=by rw[ν];exact(heap_alloc_old _ _ lA).trans hA
 have kE:W1.heap[be]? =some (.cells #[ec] 26 (0,0)):=by rw[ν];exact(heap_alloc_old _ _ lE).trans hE
 have hB1:Ext [] w W1:=by rw[ν];exact Ext.ax (ai (aF _ _) _)
 have hw1:w.heap.size<W1.heap.size:=(aN.1 k1).1;obtain⟨d1,g1,m1⟩:=ae k1;have hne1:ba≠w.heap.size:=ϑ;have hne2:w.heap.size≠ba:=ϑ;clear ν hta cS fS cA fA cE fE;refine zg 4 [ba] (some 3) [(3,⟨fun _ v=>v=undef,fun _ _ Wx=>Wx.heap[ba]? =some (.cells S 62 (0,0))⟩)] ?_;simp only[zt];refine eX ϱ (.agg S) ϱ (fun W hE hF=>?_) ?_
 ·have hs:=(hE.block bs ϑ (by simpa using h1)).trans kS;exact oD _ _ rfl bs rfl _ _ _ _ hs Tryz.underlying62 rfl (by rw[τ];kernel_rfl)
 simp only[zp];repeat ((first|refine zd ?_|refine zk ?_);simp only[zp])
 refine aY _ ϱ ϱ ⟨_,rfl⟩ (fun W hE hF=>?_) (fun v Wa Wb ho hE=>?_) (fun v hv=>?_)
 ·have Iq:Ext [] W1 W:=hE;have ha:=(Iq.block ba ϑ ϕ).trans kA;refine tT (W':=W.setRow ba S) (wC _ _ _ rfl ba S rfl rfl _ _ ha (by rw[τ];kernel_rfl) (by rw[τ,hsa]) (by rw[jk];exact fun u hu=>hone u (jS.2 hu))) ⟨rfl,setRow_heap W ba A S _ _ ha,?_⟩
  exact(show Ext [ba] W (W.setRow ba S) from dz)
 ·have Iq:Ext [] Wa Wb:=hE;have ho':Wa.heap[ba]? =some (.cells S 62 (0,0)):=ho;exact(Iq.block ba (aN.1 ho').1 ϕ).trans ho'
 obtain rfl:v=undef:=hv;simp only[zp];intro W hE hF;have hx:W.heap[ba]? =some (.cells S 62 (0,0)):=hF _ (aW _);have Iq:Ext [ba] W1 W:=hE;have he:=(Iq.block be ϑ (by simpa using fun e=>h3 e.symm)).trans kE;obtain⟨d2,g2,m2⟩:=ae he;have d20:=d2 0;simp at d20;have HX:=aa (af hx (af Iq he));clear hE hF hx Iq he d1 g1 d2;go_wp2;refine⟨rfl,_,rfl,.tuple #[],by simp[results,Tryz.results96],rfl,rfl,?_,?_,?_⟩
 ·exact(Ext.nil hB1).trans ((HX.o.2.1.more ϕ).trans (fB.more ϕ))
 ·exact(heap_setCell_other W ⟨be,0,none⟩ ba _ h3).trans HX.o.1
 ·exact aA HX.o.2.2 _
structure Fb (B:Nat) (w w':World):Prop where
 ext:rJ B [] w w'
 maps: ∀(k:Nat) es cl,w.heap[k]? =some (.map es cl)->w'.heap[k]? =some (.map es cl)
theorem Fb.uy {B:Nat} {w w':World} (h:Ext [] w w'):Fb B w w':=⟨rJ.uy h,fun k es cl hk=>(h.block k (aN.1 hk).1 ϕ).trans hk⟩
theorem Rj (B:Nat):EW (Ext []) (Fb B):=⟨Ext.refl [],Ext.trans,fun h k=>⟨h.ext.trans k.ext,fun i es cl hi=>k.maps i es cl (h.maps i es cl hi)⟩,Fb.uy⟩
instance (W0:World):Kept (Fb W0.heap.size) [] W0:=⟨Fb.uy,fun h=>⟨h.ext.os,h.ext.tape,h.ext.output,h.ext.size,fun k hk hm=>h.ext.block k hk hk hm⟩⟩
structure Fr (bs:Nat) (S:Array Value) (W:World):Prop where
 s:W.heap[bs]? =some (.cells S 62 (0,0))
 a: ∃A,W.heap[bs+1]? =some (.cells A 62 (0,0))/\A.size=22
 e: ∃ec,W.heap[bs+2]? =some (.cells #[ec] 26 (0,0))
theorem Fr.below {bs:Nat} {S:Array Value} {w W:World} (h:Fr bs S w) {B:Nat} (hb:Below B w W) (hB:bs+2<B):Fr bs S W:=by
 obtain⟨A,h1,h2⟩:=h.a;obtain⟨ec,h3⟩:=h.e;exact⟨(hb.block _ ϑ).trans h.s,⟨A,(hb.block _ ϑ).trans h1,h2⟩,⟨ec,(hb.block _ ϑ).trans h3⟩⟩
theorem Dq {bs:Nat} {S:Array Value} (τ:S.size=22) (hone: ∀u∈S.toList,u.oneCell'=true) {W:World} (hF:Fr bs S W) (Δ:Int) (tmps:Array Value) (R:Ending->World->Prop)
 (h4:tmps.getD 4 undef= .pointer (some ⟨bs+1,0,none⟩)) (h5:tmps.getD 5 undef= .pointer (some ⟨bs+2,0,none⟩))
 (hR: ∀W',Ext [bs+1,bs+2] W W'->R (.returned (.tuple #[.agg S,iv Δ])) W'):
 Leaves Tryz.prog Tryz.f55 tmps R [{target:= .fn (.func 96) #[.pointer (some ⟨bs,0,none⟩),.pointer (some ⟨bs+1,0,none⟩),.pointer (some ⟨bs+2,0,none⟩)],args:= #[]}] (.panicking (jm Δ)) W:=by
 obtain⟨A,hA,hAs⟩:=hF.a;obtain⟨ec,hE⟩:=hF.e;refine leaves_cons (f:=96) (args:= #[.pointer (some ⟨bs,0,none⟩),.pointer (some ⟨bs+1,0,none⟩),.pointer (some ⟨bs+2,0,none⟩)]) ϕ (by simp[go_sem]) ?_;refine(FW bs (bs+1) (bs+2) S A ec Δ W hF.s hA hE τ hAs ϑ ϑ ϑ hone).mono ?_;rintro e u' w'' ⟨rfl,rfl,Qt,hA',Iq⟩;have hr:(results Tryz.f55 tmps).run Tryz.prog w''= .ok (.tuple #[.agg S,iv Δ]) w'':=zbv;show Leaves _ _ _ _ [] .returning w'';exact⟨_,hr,hR w'' Qt⟩
theorem KG {bs:Nat} {S:Array Value} (τ:S.size=22) {W:World} (hA':W.heap[bs+1]? =some (.cells S 62 (0,0))) (Iq:W.heap[bs+2]? =some (.cells #[iv 0] 26 (0,0))) (tmps:Array Value) (R:Ending->World->Prop)
 (h4:tmps.getD 4 undef= .pointer (some ⟨bs+1,0,none⟩)) (h5:tmps.getD 5 undef= .pointer (some ⟨bs+2,0,none⟩))
 (hR:R (.returned (.tuple #[.agg S,iv 0])) W):
 Leaves Tryz.prog Tryz.f55 tmps R [{target:= .fn (.func 96) #[.pointer (some ⟨bs,0,none⟩),.pointer (some ⟨bs+1,0,none⟩),.pointer (some ⟨bs+2,0,none⟩)],args:= #[]}] .returning W:=by
 refine leaves_cons (f:=96) (args:= #[.pointer (some ⟨bs,0,none⟩),.pointer (some ⟨bs+1,0,none⟩),.pointer (some ⟨bs+2,0,none⟩)]) ϕ (by simp[go_sem]) ?_;refine(O5 ⟨bs,0,none⟩ ⟨bs+1,0,none⟩ ⟨bs+2,0,none⟩ W).mono ?_;rintro e u' w'' ⟨rfl,rfl,rfl⟩;have hr:(results Tryz.f55 tmps).run Tryz.prog w''= .ok (.tuple #[.agg S,iv 0]) w'':=zbv;show Leaves _ _ _ _ [] .returning w'';exact⟨_,hr,hR⟩
theorem OB (c:jV) (args:Array Value) (w:World):(callFunc (fH c) args).run Tryz.prog w= .ok (.enter (fH c) args) w:=by
 cases c
 ·exact enters_of Tryz.func153 ϰ rfl args w
 ·exact enters_of Tryz.func154 ϰ rfl args w
 ·exact enters_of Tryz.func155 ϰ rfl args w
 ·exact enters_of Tryz.func156 ϰ rfl args w
 ·exact enters_of Tryz.func157 ϰ rfl args w
 ·exact enters_of Tryz.func158 ϰ rfl args w
 ·exact enters_of Tryz.func159 ϰ rfl args w
 ·exact enters_of Tryz.func160 ϰ rfl args w
 ·exact enters_of Tryz.func161 ϰ rfl args w
 ·exact enters_of Tryz.func162 ϰ rfl args w
 ·exact enters_of Tryz.func163 ϰ rfl args w
 ·exact enters_of Tryz.func164 ϰ rfl args w
 ·exact enters_of Tryz.func165 ϰ rfl args w
 ·exact enters_of Tryz.func166 ϰ rfl args w
 ·exact enters_of Tryz.func167 ϰ rfl args w
 ·exact enters_of Tryz.func168 ϰ rfl args w
 ·exact enters_of Tryz.func169 ϰ rfl args w
 ·exact enters_of Tryz.func170 ϰ rfl args w
 ·exact enters_of Tryz.func171 ϰ rfl args w
 ·exact enters_of Tryz.func172 ϰ rfl args w
 ·exact enters_of Tryz.func173 ϰ rfl args w
theorem Z6 (c:jV) (n:List Int) (hn:n.length=c.many) (hb: ∀x∈n,0<=x/\x<=9999) (N:Nat) (w:World) (wb:Nat) (s:iE) (V:SV) (es:List KE) (ns:Value) (hO:iW N w wb s V es) (hns:n≠[]->qc N w ns n) (hG:eB s):
 Ϝ (fH c) #[.pointer (some ⟨wb,0,none⟩),ns] w (pJ N wb (ib s c n) w):=by
 cases c
 ·have:n=[]:=jl hn;subst this;exact YL N w wb s V es ns hO hG
 ·obtain⟨a,b,rfl⟩: ∃a b,n=[a,b]:=zbu;have h:=hns ϕ;exact Vx N w wb s V es ns a b hO h
 ·obtain⟨a,b,d,e,f,rfl⟩: ∃a b d e f,n=[a,b,d,e,f]:=by
   simp only[jV.many] at hn
   match n,hn with
   |[a,b,d,e,f],_=>exact⟨a,b,d,e,f,rfl⟩
  have h:=hns ϕ;exact wQ N w wb s V es ns a b d e f hO h hG
 ·obtain⟨a,b,d,rfl⟩: ∃a b d,n=[a,b,d]:=zaY;have h:=hns ϕ;obtain⟨a',rfl⟩: ∃k:Nat,a=k:=⟨a.toNat,by have:=hb a ϕ;omega⟩;exact Uu N w wb s V es ns a' b d hO h
 ·obtain⟨a,rfl⟩: ∃a,n=[a]:=za8;have h:=hns ϕ;obtain⟨a',rfl⟩: ∃k:Nat,a=k:=⟨a.toNat,by have:=hb a ϕ;omega⟩;exact JU N w wb s V es ns a' hO h hG
 ·obtain⟨a,rfl⟩: ∃a,n=[a]:=za8;have h:=hns ϕ;exact UY N w wb s V es ns a hO h
 ·obtain⟨a,b,rfl⟩: ∃a b,n=[a,b]:=zbu;have h:=hns ϕ;exact ZY N w wb s V es ns a b hO h
 ·obtain⟨a,b,d,rfl⟩: ∃a b d,n=[a,b,d]:=zaY;have h:=hns ϕ;exact Df N w wb s V es ns a b d hO h hG
 ·obtain⟨a,rfl⟩: ∃a,n=[a]:=za8;have h:=hns ϕ;obtain⟨a',rfl⟩: ∃k:Nat,a=k:=⟨a.toNat,by have:=hb a ϕ;omega⟩;exact Uv N w wb s V es ns a' hO h hG
 ·obtain⟨a,b,rfl⟩: ∃a b,n=[a,b]:=zbu;have h:=hns ϕ;exact Q8 N w wb s V es ns a b hO h ((hb a ϕ))
 ·obtain⟨a,b,d,rfl⟩: ∃a b d,n=[a,b,d]:=zaY;have h:=hns ϕ;obtain⟨a',rfl⟩: ∃k:Nat,a=k:=⟨a.toNat,by have:=hb a ϕ;omega⟩;exact Ij N w wb s V es ns a' b d hO h hG ((hb b ϕ))
 ·obtain⟨a,rfl⟩: ∃a,n=[a]:=za8;have h:=hns ϕ;exact Ux N w wb s V es ns a hO h hG ((hb a ϕ).1)
 ·obtain⟨a,rfl⟩: ∃a,n=[a]:=za8;have h:=hns ϕ;exact M3 N w wb s V es ns a hO h hG
 ·obtain⟨a,b,d,rfl⟩: ∃a b d,n=[a,b,d]:=zaY;have h:=hns ϕ;exact VE N w wb s V es ns a b d hO h hG
 ·obtain⟨a,rfl⟩: ∃a,n=[a]:=za8;have h:=hns ϕ;obtain⟨a',rfl⟩: ∃k:Nat,a=k:=⟨a.toNat,by have:=hb a ϕ;omega⟩;exact M4 N w wb s V es ns a' hO h hG
 ·obtain⟨a,b,rfl⟩: ∃a b,n=[a,b]:=zbu;have h:=hns ϕ;exact Wn N w wb s V es ns a b hO h hG ((hb a ϕ))
 ·obtain⟨a,b,d,rfl⟩: ∃a b d,n=[a,b,d]:=zaY;have h:=hns ϕ;obtain⟨a',rfl⟩: ∃k:Nat,a=k:=⟨a.toNat,by have:=hb a ϕ;omega⟩;exact qA N w wb s V es ns a' b d hO h ((hb b ϕ))
 ·obtain⟨a,b,rfl⟩: ∃a b,n=[a,b]:=zbu;have h:=hns ϕ;obtain⟨a',rfl⟩: ∃k:Nat,a=k:=⟨a.toNat,by have:=hb a ϕ;omega⟩;exact Xn N w wb s V es ns a' b hO h hG
 ·obtain⟨a,b,d,rfl⟩: ∃a b d,n=[a,b,d]:=zaY;have h:=hns ϕ;obtain⟨a',rfl⟩: ∃k:Nat,a=k:=⟨a.toNat,by have:=hb a ϕ;omega⟩;obtain⟨b',rfl⟩: ∃k:Nat,b=k:=⟨b.toNat,by have:=hb b ϕ;omega⟩;exact WR N w wb s V es ns a' b' d hO h hG
 ·obtain⟨a,b,d,rfl⟩: ∃a b d,n=[a,b,d]:=zaY;have h:=hns ϕ;exact Ym N w wb s V es ns a b d hO h hG ⟨(hb a ϕ),(hb b ϕ)⟩
 ·obtain⟨a,rfl⟩: ∃a,n=[a]:=za8;have h:=hns ϕ;obtain⟨a',rfl⟩: ∃k:Nat,a=k:=⟨a.toNat,by have:=hb a ϕ;omega⟩;exact QW N w wb s V es ns a' hO h hG
theorem QR: ∀l:ay,(gD l).length<=l.length+1:=by
 intro l;induction l with
 |nil=>simp[gD]
 |cons c l ih=>
  rw[gD];split
  ·simp;omega
  ·have:=wN l;cases h:gD l with
   |nil=>exact absurd h this
   |cons x ps=>rw[h] at ih;simp at ih⊢;omega
theorem aC {P:Program} {w w':World} {ops:Array Oper} {rest:List Oper} {o:Oper} {a:Act} {Q:Exit->Act->World->Prop} (hg:o.guard=none) (v:Value) (h:(execOp a.eval o).run P w= .ok (.value v) w') (hK:wpList P ops Q rest (a.put o.dst v) w'):wpList P ops Q (o::rest) a w:=by
 refine wpList_plain hg fun K hK'=>?_;exact uI (R:=fun v1 w1=>v1=v/\w1=w') (gH v h ⟨rfl,rfl⟩) fun v1 w1 ⟨h1,h2⟩=>by rw[h1,h2];exact hK' _ _ hK
theorem gm {P:Program} {ops:Array Oper} {l:List Oper} {Q:Exit->Act->World->Prop} {a:Act} {W:World} (h: ∀W',W'=W->wpList P ops Q l a W'):wpList P ops Q l a W:=h W rfl
theorem Uq: ∀(l:ay) (p:ay),p∈gD l->p.length<=l.length:=by
 intro l;induction l with
 |nil=>intro p h;simp[gD] at h;subst h;simp
 |cons c l ih=>
  intro p h;rw[gD] at h;split at h
  ·rcases eQ.1 h with rfl|h
   ·simp
   ·have:=ih p h;simp;omega
  ·cases hw:gD l with
   |nil=>exact absurd hw (wN l)
   |cons x ps=>
    rw[hw] at h;simp only[List.headD_cons,List.tail_cons] at h;rcases eQ.1 h with rfl|h
    ·have:=ih x (by rw[hw];simp);simp;omega
    ·have:=ih p (by rw[hw];simp[h]);simp;omega
theorem NF: ∀(ps:List ay) (p:ay) (ns:List Int) (n:Int),lU ps=some ns->ng p=some n->lU (ps++[p])=some (ns++[n]):=by
 intro ps;induction ps with
 |nil=>intro p ns n h1 h2;obtain rfl:=iJ h1;simp[lU,h2]
 |cons q ps ih=>
  intro p ns n h1 h2;unfold lU at h1;cases hq:ng q with
  |none=>rw[hq] at h1;cases h1
  |some x=>
   cases hs:lU ps with
   |none=>rw[hq,hs] at h1;cases h1
   |some y=>
    rw[hq,hs] at h1;obtain rfl:=iJ h1;rw[List.cons_append,lU,hq,ih p y n hs h2];rfl
theorem Rz: ∀(ps:List ay) (i:Nat) (p:ay),ps[i]? =some p->ng p=none->lU ps=none:=by
 intro ps;induction ps with
 |nil=>intro i p h;cases h
 |cons q ps ih=>
  intro i p h hn;cases i with
  |zero=>
   simp only[List.getElem?_cons_zero,Option.some.injEq] at h;subst h;rw[lU,hn];rfl
  |succ i=>
   rw[lU,ih i p (by simpa using h) hn];cases ng q <;>rfl
def PDo (Ms:List Nat) (s:iE) (l:ay) (w:World) (e:Ending) (w':World):Prop:=
 Ϙ w w'/\ ∃V es,e= .returned (.tuple #[.agg (bG (oN aX s l).1 V),iv (oN aX s l).2])/\jT w' (oN aX s l).1 V es/\ ∀W',Ext Ms w' W'->jT W' (oN aX s l).1 V es
theorem fC {w:World} {s:iE} {V:SV} {es:List KE} (h:jT w s V es): ∀u∈(bG s V).toList,u.oneCell'=true:=by
 obtain⟨o1,c1,h1⟩:=aH.open h.sG;obtain⟨o2,c2,h2⟩:=aH.open h.Ky;obtain⟨o3,c3,h3⟩:=aH.open h.bJ;obtain⟨o4,c4,h4⟩:=aH.open h.Ab;obtain⟨o5,c5,h5⟩:=aH.open h.Al;obtain⟨o6,c6,h6⟩:=aH.open h.cK.heaps;obtain⟨o7,c7,h7⟩:=aH.open h.cK.aQ.1;obtain⟨o8,c8,h8⟩:=aH.open h.cK.aI;simp[bG,h1,h2,h3,h4,h5,h6,h7,h8,Value.oneCell']
theorem Xa (s:iE) (V:SV) (es:List KE) (l:ay) (w:World) (hS:jT w s V es) (hG:eB s) (hE:Env w) (hl:l.length<=1000) (Ms:List Nat) (η: ∀m∈Ms,m<w.heap.size) (hSM: ∀W',Ext Ms w W'->jT W' s V es):Ϝ 55 #[.agg (bG s V),.string (dS l)] w (PDo Ms s l w):=by
 obtain⟨vt,vn,vw,vu,vr,vh,vk,vs⟩:=V;have HS:Hid (∀W,Ϙ w W->jT W s ⟨vt,vn,vw,vu,vr,vh,vk,vs⟩ es):=aa (fun W hb=>hS.below hb (ah _));have HE:Hid (∀W,Ϙ w W->Env W):=aa (fun W hb=>hE.below hb (ah _));have HG:=aa hG;have ap8:=aa (fC hS);have XL:Hid (∀(Δ:Int),oN aX s l=(s,Δ)-> ∀W,Ϙ w W->Fr w.heap.size (bG s ⟨vt,vn,vw,vu,vr,vh,vk,vs⟩) W-> ∀tmps:Array Value,tmps.getD 4 undef= .pointer (some ⟨w.heap.size+1,0,none⟩)->tmps.getD 5 undef= .pointer (some ⟨w.heap.size+2,0,none⟩)->
  Leaves Tryz.prog Tryz.f55 tmps (PDo Ms s l w) [{target:= .fn (.func 96) #[.pointer (some ⟨w.heap.size,0,none⟩),.pointer (some ⟨w.heap.size+1,0,none⟩),.pointer (some ⟨w.heap.size+2,0,none⟩)],args:= #[]}] (.panicking (jm Δ)) W):=aa (by
  intro Δ hd W hb hF tmps h4 h5;refine Dq rfl (fC hS) hF Δ tmps _ h4 h5 (fun W' Qt=>?_);have hb':Ϙ w W':=hb.trans ⟨Qt.os,Qt.tape,Qt.output,Qt.size,fun k hk=>Qt.block k (by have:=hb.size;omega) ϗ⟩;refine⟨hb',⟨vt,vn,vw,vu,vr,vh,vk,vs⟩,es,?_,?_,fun W'' Iq=>?_⟩
  ·rw[hd]
  ·rw[hd];exact hS.below hb' (ah _)
  ·rw[hd];exact hSM W'' ((Ext.ax hb').trans Iq))
 have HMS:=aa η;clear hS hE hG η hSM;go_enter_defers Tryz.func55,Tryz.ntmps55
 go_upto_region 2 with(fail)
 refine bU fun W0 hW0=>?_;have hF0:Fr w.heap.size (bG s ⟨vt,vn,vw,vu,vr,vh,vk,vs⟩) W0:=by
  rw[hW0];refine⟨?_,?_,?_⟩
  ·exact(heap_alloc_old _ _ ϗ).trans ((heap_alloc_old _ _ ϕ).trans (av _ _))
  ·exact⟨_,(heap_alloc_old _ _ ϕ).trans (dm _ _ _),rfl⟩
  ·exact⟨_,fM _ _ _ _⟩
 have Α:=aa (show Ϙ w W0 from by rw[hW0];exact ai (ai (ai (aF _ _) _) _) _)
 have hs0:w.heap.size+3<=W0.heap.size:=by rw[hW0];simp
 have HF0:=aa hF0;clear hW0 hF0;go_wp2_with fail
 refine(Rb l W0 (HE.o _ Α.o) hl).mono ?_;rintro e W1 ⟨np,hnp,rfl,ν⟩;have R9:=aa (show Ϙ w W1 from by rw[ν];exact ai Α.o _);have HF1:=aa (show Fr w.heap.size (bG s ⟨vt,vn,vw,vu,vr,vh,vk,vs⟩) W1 from by rw[ν];exact HF0.o.below (ai (aF _ _) _) ϑ)
 have hp1:W1.heap[W0.heap.size]? =some (.cells (bz (gD l)).toArray 9 (0,0)):=by rw[ν];exact av _ _
 have hsz1:W1.heap.size=W0.heap.size+1:=by rw[ν];simp
 have τ:w.heap.size+4<=W1.heap.size:=ϑ;obtain⟨pb,hpb⟩: ∃pb,pb=W0.heap.size:=⟨_,rfl⟩;rw[<-hpb] at hp1⊢;have hpl:pb<W1.heap.size:=ϑ;have hpw:w.heap.size+3<=pb:=ϑ;have hn1:1<=np:=by rw[hnp];have:=wN l;cases h:gD l <;>simp_all
 have hn0:0<np:=ϑ;have hnI:(0:Int)<(np:Int):=ϑ;obtain⟨x0,ps,hws⟩: ∃x0 ps,gD l=x0::ps:=by
  cases h:gD l with
  |nil=>exact absurd h (wN l)
  |cons x ps=>exact⟨x,ps,rfl⟩
 obtain⟨c1,f1,l1⟩:=ae hp1;have g0:W1.cell? ⟨pb,0,none⟩=some (.string (dS x0)):=by rw[c1,hws];rfl
 have Uh:=aa (af hp1 (af hnp hws));clear ν hp1 hnp hws hpb hsz1 c1 f1 hs0;go_wp2_with fail
 refine jF (Rj W1.heap.size) ((Ext.refl [] _).drew) (Ps:=(fun i _ v W=>match i with|8=> ∃b:Nat,v= .pointer (some ⟨b,0,none⟩)/\W1.heap.size<=b/\ ∃x y,W.heap[b]? =some (.cells #[x,y] 218 (0,0))|_=>True)) 10 (some 9)
  [(0,⟨fun _ v=> ∃mb,v= .map (some mb),fun _ v W=> ∃mb,v= .map (some mb)/\TabAt Q6 wev (fun _=>True) W mb M9⟩),(8,⟨fun _ v=> ∃b:Nat,v= .pointer (some ⟨b,0,none⟩),fun _ _ _=>True⟩),
    (9,⟨fun _ v=>v=undef,fun xs _ W=> ∃(b:Nat) (x y:Value),xs=[.pointer (some ⟨b,0,none⟩),.agg #[x,y]]/\W1.heap.size<=b/\W.heap[b]? =some (.cells #[x,y] 218 (0,0))⟩)] ϰ ϰ ?_
 simp only[zt];refine jG _ ϱ ϱ (by exact⟨.map (some 0),0,rfl⟩) (fun Wa hE hF hG=>?_) (fun v Wa Wb ho hE=>?_) (fun _ _ _ _ _=>trivial) (fun v hv=>?_)
 ·have Iq:Fb W1.heap.size W1 Wa:=hE;refine bM 98 #[] (by go_simp;try rfl) ?_;refine(QS Wa).mono ?_;rintro e w' ⟨mb,rfl,h1,h2,h3⟩;exact⟨_,rfl,⟨mb,rfl⟩,⟨mb,rfl,h2⟩,Ext.ax h3,trivial⟩
 ·obtain⟨mb,hv,ht⟩:=ho;have Iq:Fb W1.heap.size Wa Wb:=hE;obtain⟨h0,Ο,cl,hm,hx⟩:=ht;exact⟨mb,hv,h0,Ο,cl,Iq.maps _ _ _ hm,hx⟩
 obtain⟨mb,rfl⟩:=hv;simp only[zp];repeat ((first|refine zd ?_|refine zk ?_);simp only[zp])
 have hm:Tryz.prog.underlying 220=some (.map 9 218):=ϰ;have hz:=fun w=>Tryz.zeroValue218 w;obtain⟨n1,fv,bq,hT1,hone,θ⟩: ∃(n1:Int) (fv:Value) (bq:Bool),Value.tuple #[((TB.look (dS x0) M9).map wev).getD (.agg #[iv 0,.nilFunc]),.bool (TB.look (dS x0) M9).isSome]= .tuple #[.agg #[iv n1,fv],.bool bq]/\fv.oneCell'=true/\
  ((Ev x0=none/\bq=false/\n1=0)∨ ∃c,Ev x0=some c/\bq=true/\n1=c.many/\fv= .func (.func (fH c)) #[] #[]):=by
  rw[Vs];have hx:(dS x0).data.toList=x0:=by simp[dS]
  rw[hx];cases hc:Ev x0 with
  |none=>exact⟨0,.nilFunc,false,rfl,rfl,.inl ⟨rfl,rfl,rfl⟩⟩
  |some c=>exact⟨c.many,.func (.func (fH c)) #[] #[],true,rfl,rfl,.inr ⟨c,rfl,rfl,rfl,rfl⟩⟩
 have Ξ: ∀(W:World),TabAt Q6 wev (fun _=>True) W mb M9->(Instr.lookup 220 (.map (some mb)) (.string (dS x0)) true).run Tryz.prog W= .ok (.tuple #[.agg #[iv n1,fv],.bool bq]) W:=fun W hT=>by
  have:=tH rA hm hz hT (dS x0) trivial true W rfl;rw[aG rfl] at this;rw[this];exact congrArg (fun q=>Result.ok q W) hT1
 have JC:=aa Ξ;have HC:=aa θ;clear Ξ hm hT1 θ hz;refine eX ϱ (.tuple #[.agg #[iv n1,fv],.bool bq]) ϱ (fun W hE hF=>?_) ?_
 ·obtain⟨mb',hmb,hT⟩:=hF _ (aW _) ϰ;cases hmb;have:=JC.o W hT;go_simp
 simp only[zp];repeat ((first|refine zd ?_|refine zk ?_);simp only[zp])
 refine jG _ ϱ ϱ (by exact⟨.pointer (some ⟨0,0,none⟩),0,rfl⟩) (fun Wa hE hF hG=>?_) (fun _ _ _ _ _=>trivial) (fun v Wa Wb ho hE=>?_) (fun v hv=>?_)
 ·have Iq:Fb W1.heap.size W1 Wa:=hE;exact gH (W':=Wa.alloc (.cells #[iv 0,.nilFunc] 218)) (.pointer (some ⟨Wa.heap.size,0,none⟩)) (by go_simp;try rfl) ⟨⟨_,rfl⟩,trivial,Ext.ax ((aF _ _).alloc (ah _) _),_,rfl,Iq.ext.size,_,_,heap_alloc_new _ _⟩
 ·obtain⟨b,hb,hge,x,y,hc⟩:=ho;exact⟨b,hb,hge,x,y,(hE.block b (aN.1 hc).1 ϕ).trans hc⟩
 obtain⟨b8,rfl⟩:=hv;simp only[zp];refine jG _ ϱ ϱ (by exact⟨_,rfl⟩) (fun Wa hE hF hG=>?_) (fun v Wa Wb ho hE=>?_) (fun _ _ _ _ _=>trivial) (fun v hv=>?_)
 ·obtain⟨b,hb,hge,x,y,hc⟩:=hG rfl _ (aW _) ϰ;cases hb;refine tT (W':=Wa.setRow b8 #[iv n1,fv]) ?_ ⟨rfl,⟨b8,iv n1,fv,rfl,hge,setRow_heap Wa b8 _ _ _ _ hc⟩,?_,trivial⟩
  ·exact wC _ _ _ rfl b8 #[iv n1,fv] rfl rfl _ _ hc ϰ rfl (by rw[jk];intro u hu;simp only[List.mem_toArray,eQ,List.not_mem_nil,or_false] at hu;rcases hu with rfl|rfl;(exact rfl);(exact hone))
  ·exact(show Fb W1.heap.size Wa (Wa.setRow b8 #[iv n1,fv]) from⟨⟨rfl,rfl,rfl,by simp,fun k _ hkB _=>setRow_other _ _ _ _ ϑ⟩,fun k Ο cl hk=>by
    have hne:k≠b8:=fun e=>by subst e;rw[hc] at hk;cases hk
    exact(setRow_other _ _ _ _ hne).trans hk⟩)
 ·obtain⟨b,x,y,h1,h2,h3⟩:=ho;have Iq:Ext [] Wa Wb:=hE;exact⟨b,x,y,h1,h2,(Iq.block b (aN.1 h3).1 ϕ).trans h3⟩
 obtain rfl:v=undef:=hv;simp only[zp];intro W2 Ι hF2;obtain⟨QC,x8,y8,hx8,aoS,tN⟩:=hF2 _ (aW _);have SA:Fb W1.heap.size W1 W2:=Ι;obtain⟨rfl,rfl,rfl⟩:QC=b8/\x8=iv n1/\y8=fv:=by
  have h:=(show[Value.pointer (some ⟨b8,0,none⟩),.agg #[iv n1,fv]]=[.pointer (some ⟨QC,0,none⟩),.agg #[x8,y8]] from hx8);simp at h;exact⟨h.1.symm,h.2.1.symm,h.2.2.symm⟩
 have vC:Ϙ W1 W2:=⟨SA.ext.os,SA.ext.tape,SA.ext.output,SA.ext.size,fun k hk=>SA.ext.block k hk hk ϕ⟩;have Uy:=aa (aV R9.o vC);have HF2:=aa (HF1.o.below vC ϑ);have hp2:=(vC.block pb hpl).trans Uh.o.1;have hs2:=vC.size;have HP2:=aa (af hp2 tN);obtain⟨c2,f2,l2⟩:=ae tN;have hone':=aa hone;clear Ι hF2 hx8 SA vC hp2 tN hone g0;rcases HC.o with⟨hc0,hbq,Sj⟩|⟨c,hc0,hbq,Sj,hfv⟩
 ·subst hbq;have hd:oN aX s l=(s,4):=zH (by unfold sV;rw[Uh.o.2.2];simp[hc0]);have HD:=aa hd;clear hd;go_wp2_with fail
  refine(dJ 4 [true] W2 ϕ _ (by simp[dD]) _ _ rfl).mono ?_;rintro e W3 ⟨hb,⟨hc,rfl⟩|⟨hc,rfl⟩⟩
  ·exact absurd hc ϖ
  ·exact XL.o 4 HD.o W3 (aV Uy.o hb) (HF2.o.below hb ϑ) _ rfl rfl
 ·subst hbq;subst Sj;subst hfv;have ae6:np=ps.length+1:=by rw[Uh.o.2.1,Uh.o.2.2];rfl
  have aoq:(np:Int)<=1001:=by have:=QR l;rw[<-Uh.o.2.1] at this;omega
  have HNP:=aa ae6;clear ae6;go_wp2_with fail
  refine(dJ 4 [(np:Int)-1 !=c.many] W2 ϕ _ (by simp[dD]) _ _ rfl).mono ?_;rintro e W3 ⟨hb,⟨hc,rfl⟩|⟨hc,rfl⟩⟩;rotate_left
  ·have hd:oN aX s l=(s,4):=zH (by
    unfold sV;rw[Uh.o.2.2,List.headD_cons,hc0,Option.bind_some,List.tail_cons,ak];intro e;have:=HNP.o;simp at hc;omega)
   exact XL.o 4 hd W3 (aV Uy.o hb) (HF2.o.below hb ϑ) _ rfl rfl
  have hcm:ps.length=c.many:=by
   have:=HNP.o;simp at hc;omega
  have ζ:=aa (aV Uy.o hb);have HF3:=aa (HF2.o.below hb ϑ);have hp3:=(hb.block pb ϑ).trans HP2.o.1;have afW:=(hb.block QC l2).trans HP2.o.2;have ai5:pb<W3.heap.size:=(aN.1 hp3).1;obtain⟨off,hA⟩: ∃off,(if np=1 then(some ⟨pb,0,none⟩:Option Addr) else some ⟨pb,1,none⟩)=some ⟨pb,off,none⟩:=by split <;>exact⟨_,rfl⟩
  have hoff: ∀i,i<ps.length->off=1:=fun i hi=>by
   have:=HNP.o;rw[ak ϑ] at hA;injection hA with h;injection h with _ h2 _;exact h2.symm
  have HO:=aa (af hoff hcm);have HP3:=aa (af hp3 (af afW hc0));have hn1':(1:Int)<=(np:Int):=ϑ;clear hb hc hcm hp3 afW hoff c2 f2 hc0;go_wp2_with fail
  have HN0:Hid (lU []=some []):=aa rfl;go_loopw [9,11,12,13,41] (fun v9 _ _ _ u wr=> ∃i:Nat,i<=ps.length/\u= .int .i64 i/\Ϙ W3 wr/\ ∃(ns:List Int) (o:Option Addr) (c9:Nat),lU (ps.take i)=some ns/\v9= .slice o i c9/\wr.ownsRow W3.heap.size 3 1 (.slice o i c9) i (ag ns)) (fun _ _ _ _ u _=>ps.length-(intOf u).toNat)
  case atStart=>exact⟨0,bE _,rfl,aF _ _,[],none,0,rfl,rfl,⟨rfl,.inl ⟨rfl,rfl⟩⟩⟩
  case round=>
   obtain⟨i,hi,rfl,hB,ns,o9,c9,hns,rfl,σ⟩:=hrel;have ae5:=HNP.o;by_cases uM:i<ps.length
   ·have hlt2:(i:Int)<((np-1:Nat):Int):=ϑ;have hlt3:i<np-1:=ϑ;have hpr:=(hB.block pb ai5).trans HP3.o.1;obtain⟨cp,fp,lp⟩:=ae hpr;have gi:wr.cell? ⟨pb,off+i,none⟩=some (.string (dS ps[i])):=by
     rw[HO.o.1 i uM,cp,Uh.o.2.2];simp[bz,uM,Nat.add_comm]
    have ai4:ps[i].length<=1000:=by
     have:=Uq l ps[i] (by rw[Uh.o.2.2];simp);omega
    have HNA:=aa (NG ps[i] wr (HE.o wr (aV ζ.o hB)) ai4);have HX:=aa (af hB (af hns σ));clear hB hns σ cp hpr ae5;go_wp2_with fail
    refine HNA.o.mono ?_;rintro e W4 ⟨Ω,v,rfl,hv⟩;cases hnb:ng ps[i] with
    |none=>
     rw[hnb] at hv;have gJ:=aa (aV HX.o.1 Ω);have hd:oN aX s l=(s,4):=zH (by
      unfold sV;rw[Uh.o.2.2,List.headD_cons,HP3.o.2.2,Option.bind_some,List.tail_cons,Rz ps i ps[i] (dn uM) hnb];simp)
     have HD:=aa hd;clear hd Ω hv hnb HNA gi fp lp;simp only[Option.isSome_none];go_wp2_with fail
     refine(dJ 4 [true] W4 ϕ _ (by simp[dD]) _ _ rfl).mono ?_;rintro e W5 ⟨hb,⟨hc,rfl⟩|⟨hc,rfl⟩⟩
     ·exact absurd hc ϖ
     ·exact XL.o 4 HD.o W5 (aV ζ.o (aV gJ.o hb)) (HF3.o.below (aV gJ.o hb) ϑ) _ rfl rfl
    |some n=>
     rw[hnb] at hv;obtain rfl:v=n:=hv n rfl;have gJ:=aa (aV HX.o.1 Ω);have aeZ:=az (Ms:=[]) HX.o.2.2 (Ext.ax Ω) ϕ;have HN4:=aa hnb;have HW4:=aa (af aeZ Ω);clear Ω hv hnb HNA gi fp lp aeZ;simp only[Option.isSome_some];go_wp2_with fail
     refine(dJ 4 [false] W4 ϕ _ (by simp[dD]) _ _ rfl).mono ?_;rintro e W5 ⟨hb,⟨hc,rfl⟩|⟨hc,rfl⟩⟩;rotate_left
     ·exact absurd hc ϖ
     have VR:=az (Ms:=[]) HW4.o.1 (Ext.ax hb) ϕ;have lM:=aa (aV gJ.o hb);have HW5:=aa VR;have hs5:=lM.o.size;have hi5:i<=1001:=ϑ;clear hb hc VR;go_wp2_with (at_builtin;go_loud (refine cZ rfl _ _ oF rfl W3.heap.size (.slice o9 i c9) i (ag ns) rfl (az (Ms:=[]) HW5.o (Ext.ax (ai (aF _ _) _)) ϕ) (.slice (some ⟨W5.heap.size,0,none⟩) 1 1) 1 [iv v] rfl (aH.bI 1 1 (av _ _) rfl ϖ) (one_one v) ϑ ϑ ϗ ?_))
     intro v' W6 Gm Y7 hN;obtain⟨o6,c6,rfl⟩:=aR Gm;have hpu:=jO lM.o HW5.o (Ext.ax (ai (aF _ _) _)) Gm Y7 (ah _) lM.o.size;have HP:=aa (af hpu Gm);clear hpu Gm Y7 hN;go_wp2_with fail
     go_roundw
     case rel=>
      refine⟨i+1,by omega,by go_num,HP.o.1.1,ns++[v],o6,c6,?_,rfl,?_⟩
      ·rw[pE,dn uM];exact NF _ _ _ _ HX.o.2.1 HN4.o
      ·rw[rZ];exact HP.o.2
     case measure=>simp[intOf];omega
   ·obtain rfl:i=ps.length:=ϑ;rw[List.take_length] at hns;have hp:sV l=some (c,ns):=by
     unfold sV;rw[Uh.o.2.2,List.headD_cons,HP3.o.2.2,Option.bind_some,List.tail_cons,aG HO.o.2,hns];rfl
    have afT:=(hB.block QC (by have:=(aN.1 HP3.o.2.1).1;omega)).trans HP3.o.2.1
    obtain⟨c8,f8,l8⟩:=ae afT;obtain⟨hwl,hnl,hnb,aja⟩:=CX hp;have HX:=aa (af hB (af σ (af hp (af hnl hnb))));have aor: ¬((ps.length:Nat):Int)<((np-1:Nat):Int):=ϑ;have alP: ¬ps.length<np-1:=ϑ;clear hB σ hp hns hwl hnl hnb aja afT ae5;go_upto_region 13 with(fail)
    have hFr:=HF3.o.below HX.o.1 ϑ;refine wp_region_lit ?_;refine wpList_load_row rfl _ _ rfl w.heap.size rfl _ _ _ _ hFr.s Tryz.underlying62 rfl ϰ ?_;simp only[zp];have HFr:=aa hFr;have Co:=aa (Cu s ⟨vt,vn,vw,vu,vr,vh,vk,vs⟩ es wr (HS.o wr (aV ζ.o HX.o.1)) HG.o);have yn:=l8;have HC8:=aa c8;clear hFr c8 f8;go_wp2_with fail
    refine Co.o.mono ?_;rintro e W4 ⟨Ω,wb,V',Ο,rfl,hO4⟩;have ab1:QC<W3.heap.size:=(aN.1 HP3.o.2.1).1;have hsr:=HX.o.1.size;have afV:=(Ω.block QC ϑ).trans ((HX.o.1.block QC ab1).trans HP3.o.2.1);obtain⟨c4,f4,l4⟩:=ae afV;have hns:ns≠[]->qc wr.heap.size W4 (.slice o9 ps.length c9) ns:=fun hne=>by
     have aeX:=az (Ms:=[]) HX.o.2.1 (Ext.ax Ω) ϕ;have IY:ps.length=ns.length:=by rw[HX.o.2.2.2.1,HO.o.2]
     have hpos:0<ps.length:=by rw[IY];exact List.length_pos_iff.2 hne
     obtain⟨g,rfl,hcg,hfg,hgl⟩:=fQ aeX hpos;obtain⟨g2,hg2,ao7,_,Sn⟩:=fQ HX.o.2.1 hpos;cases hg2;refine⟨g,c9,by rw[IY],Sn,fun j hj=>?_⟩;have:=hcg j (by simpa [ag] using hj);simpa [ag] using this
    have aj4:=OB c;have HA:=aa (Z6 c ns HX.o.2.2.2.1 HX.o.2.2.2.2 wr.heap.size W4 wb s V' Ο (.slice o9 ps.length c9) hO4 hns HG.o);have gJ:=aa (aV HX.o.1 Ω);have HO4:=aa hO4;clear afV hns Ω hO4;go_wp2_with fail
    refine HA.o.mono ?_;rintro e W5 ⟨hb5,⟨h0,rfl,V2,es2,hO5⟩|⟨hne,rfl⟩⟩;rotate_left
    ·have hd:oN aX s l=(s,(ib s c ns).1):=by rw[zG HX.o.2.2.1,aG hne]
     have af1:=gJ.o.trans (hb5.mono (show W3.heap.size<=wr.heap.size from hsr));exact XL.o _ hd W5 (aV ζ.o af1) (HF3.o.below af1 ϑ) _ rfl rfl
    have lM:=aa (gJ.o.trans (hb5.mono (show W3.heap.size<=wr.heap.size from hsr)));have HO5:=aa (af h0 hO5);have hl5:=hO5.rows.lt;have π:=aa (Ra (ib s c ns).2 V2 es2 W5 hO5.st);have hk5:=hO5.blk;clear hb5 h0 hO5 HA c4 f4 aj4;go_upto_region 15 with(fail)
    refine wp_region_lit ?_;refine aC rfl _ (by go_simp;first|rfl|exact⟨rfl,rfl⟩) ?_;simp only[zp];refine aC rfl _ (by go_simp;first|rfl|exact⟨rfl,rfl⟩) ?_;simp only[zp];refine aC rfl _ (by go_simp;first|rfl|exact⟨rfl,rfl⟩) ?_;simp only[zp];refine wpList_load_row rfl _ _ rfl wb rfl _ _ _ _ hk5 Tryz.underlying62 rfl ϰ ?_;simp only[zp];have MC:=aa hk5;clear hk5;go_wp2_with fail
    refine π.o.mono ?_;rintro e W6 ⟨hb6,⟨h0,rfl⟩|⟨hne,rfl⟩⟩;rotate_left
    ·have hd:oN aX s l=(s,aX (ib s c ns).2):=by rw[zG HX.o.2.2.1,ak (by rw[HO5.o.1];simp),aG hne]
     have af0:=aV lM.o hb6;exact XL.o _ hd W6 (aV ζ.o af0) (HF3.o.below af0 ϑ) _ rfl rfl
    have nJ:=aa (aV lM.o hb6);have I8:=(hb6.block wb hl5).trans MC.o;have JB:=aa (af h0 (HO5.o.2.below hb6));clear hb6 h0 π;go_upto_region 16 with(fail)
    refine wp_region_lit ?_;refine aC rfl _ (by go_simp;first|rfl|exact⟨rfl,rfl⟩) ?_;simp only[zp];refine aC rfl _ (by go_simp;first|rfl|exact⟨rfl,rfl⟩) ?_;simp only[zp];refine aC rfl _ (by go_simp;first|rfl|exact⟨rfl,rfl⟩) ?_;simp only[zp];refine wpList_load_row rfl _ _ rfl wb rfl _ _ _ _ I8 Tryz.underlying62 rfl ϰ ?_;simp only[zp];have acz:=HF3.o.below nJ.o ϑ;obtain⟨A6,hA6,agt⟩:=acz.a;obtain⟨ec6,ry⟩:=acz.e;refine wpList_store_row rfl _ _ _ rfl (w.heap.size+1) _ rfl rfl _ _ hA6 ϰ (by rw[agt];rfl) (by rw[jk];exact fun u hu=>fC JB.o.2.st u (jS.2 hu)) ?_
    simp only[zp];refine gm fun W7 vz=>?_;have hA7:W7.heap[w.heap.size+1]? =some (.cells (bG (ib s c ns).2 V2) 62 (0,0)):=by rw[vz];exact setRow_heap W6 _ A6 _ _ _ hA6
    have acB:Ext [w.heap.size+1] W6 W7:=by rw[vz];exact dz
    have oL:=(acB.block (w.heap.size+2) (aN.1 ry).1 ϕ).trans ry;obtain⟨c7,f7,l7⟩:=ae oL;have c70:=c7 0;simp at c70;have HX7:=aa (af hA7 (af acB oL));clear vz hA7 acB oL hA6 ry acz agt c7 I8;go_wp2_with fail
    have hd:oN aX s l=((ib s c ns).2,0):=by rw[zG HX.o.2.2.1,ak (by rw[HO5.o.1];simp),ak (by rw[JB.o.1];simp)]
    have Jf:Ext [w.heap.size+1,w.heap.size+2] W6 (W7.setCell ⟨w.heap.size+2,0,none⟩ (iv 0)):=(HX7.o.2.1.more ϕ).trans (fB.more ϕ);have hA8:=(heap_setCell_other W7 ⟨w.heap.size+2,0,none⟩ (w.heap.size+1) (iv 0) ϕ).trans HX7.o.1;have afZ:=nJ.o;have hsb:=afZ.size;refine KG rfl hA8 (aA HX7.o.2.2 _) _ _ rfl rfl ⟨?_,V2,es2,?_,?_,fun W' Iq=>?_⟩
    ·exact(aV ζ.o afZ).trans ⟨Jf.os,Jf.tape,Jf.output,Jf.size,fun k hk=>Jf.block k (by have:=ζ.o.size;omega) ϗ⟩
    ·rw[hd]
    ·rw[hd];have Ee:=JB.o.2;have hNb:=Ee.rows.base;exact(show iW wr.heap.size _ wb (ib s c ns).2 V2 es2 from⟨(Jf.block wb Ee.rows.lt ϗ).trans Ee.blk,Ee.rows.keep Jf (fun m hm=> .inr (by simp at hm;omega)),Ee.es⟩).st
    ·rw[hd];have Ee:=JB.o.2;have hNb:=Ee.rows.base;have hO9:iW wr.heap.size _ wb (ib s c ns).2 V2 es2:=⟨(Jf.block wb Ee.rows.lt ϗ).trans Ee.blk,Ee.rows.keep Jf (fun m hm=> .inr (by simp at hm;omega)),Ee.es⟩;have hsr:=HX.o.1.size;have hs3:=ζ.o.size;have uM: ∀m∈Ms,m<wr.heap.size:=fun m hm=>by have:=HMS.o m hm;omega
     exact(show iW wr.heap.size W' wb (ib s c ns).2 V2 es2 from⟨(Iq.block wb hO9.rows.lt (fun h=>by have:=uM wb h;omega)).trans hO9.blk,hO9.rows.keep Iq (fun m hm=> .inr (uM m hm)),hO9.es⟩).st
abbrev df:Array Value:=
 #[iv 0,iv 0,iv 0,iv 0,.slice none 0 0,iv 0,iv 0,iv 0,.slice none 0 0,iv 0,iv 0,iv 0,iv 0,iv 0,iv 0,iv 0,.slice none 0 0,.slice none 0 0,.slice none 0 0,.slice none 0 0,.slice none 0 0,.slice none 0 0]
abbrev kI (hp:Value) (wt:Value):Array Value:=
 #[iv 3,iv 2,iv 0,iv 3,.slice none 0 0,iv 10,iv 0,iv 2000,.slice none 0 0,iv 4,iv 10,iv 50,iv 10,iv 60,iv 30,iv 30,wt,.slice none 0 0,.slice none 0 0,hp,.slice none 0 0,.slice none 0 0]
theorem Tm (w:World):Ϝ 63 #[] w (fun e w'=>Ϙ w w'/\ ∃V es,e= .returned (.agg (bG bW V))/\jT w' bW V es/\ ∀Ms:List Nat,(∀m∈Ms,m<w.heap.size)-> ∀W',Ext Ms w' W'->jT W' bW V es):=by
 go_enter Tryz.func63,Tryz.ntmps63;go_upto_region 1 with(fail)
 refine bU fun W1 ν=>?_;have δ:Ϙ w W1:=by rw[ν];exact ai (aF _ _) _
 have hk1: ∃cs,W1.heap[w.heap.size]? =some (.cells cs 62 (0,0))/\cs.size=22:=by rw[ν];exact⟨_,av _ _,rfl⟩
 have hs1:W1.heap.size=w.heap.size+1:=by rw[ν];simp
 have R9:=aa δ;have PG:=aa hk1;clear ν δ hk1;refine wp_region_lit ?_;refine aC rfl (w':=W1) (.agg #[iv 0,iv 3]) ϰ ?_;simp only[zp];refine aC rfl (w':=W1) (.agg #[iv 3,iv 2,iv 0,iv 3,.slice none 0 0]) ϰ ?_;simp only[zp];refine aC rfl (w':=W1) (.agg #[iv 0,iv 2000]) ϰ ?_;simp only[zp];refine aC rfl (w':=W1) (.agg #[iv 3,iv 2,iv 0,iv 3,.slice none 0 0,iv 10,iv 0,iv 2000,.slice none 0 0]) ϰ ?_;simp only[zp];refine aC rfl (w':=W1) (.agg #[iv 30,iv 30]) ϰ ?_;simp only[zp];refine aC rfl (w':=W1) (.agg #[iv 4,iv 10,iv 50,iv 10,iv 60,iv 30,iv 30,.slice none 0 0,.slice none 0 0,.slice none 0 0]) ϰ ?_;simp only[zp];refine aC rfl (w':=W1) (.agg #[iv 40,iv 40]) ϰ ?_;simp only[zp];refine aC rfl (w':=W1.alloc (.cells #[iv 40,iv 40] 129 (0,0))) (.slice (some ⟨W1.heap.size,0,none⟩) 1 1) (by go_simp;try rfl) ?_;simp only[zp];obtain⟨W2,hW2⟩: ∃W2,W2=W1.alloc (.cells #[iv 40,iv 40] 129 (0,0)):=⟨_,rfl⟩;rw[<-hW2];have κ:Ϙ w W2:=by rw[hW2];exact ai R9.o _
 have hk2:=PG.o;obtain⟨cs,hcs,hcz⟩:=hk2;have hk2:W2.heap[w.heap.size]? =some (.cells cs 62 (0,0)):=by rw[hW2];exact(heap_alloc_old _ _ ϑ).trans hcs
 have hh2:W2.heap[W1.heap.size]? =some (.cells #[iv 40,iv 40] 129 (0,0)):=by rw[hW2];exact av _ _
 have hs2:W2.heap.size=w.heap.size+2:=by rw[hW2];simp;omega
 rw[hs1];rw[hs1] at hh2;clear hW2;refine aC rfl (w':=W2) (.agg #[.slice (some ⟨w.heap.size+1,0,none⟩) 1 1,.slice none 0 0,.slice none 0 0]) ϰ ?_;simp only[zp];refine aC rfl (w':=W2) (.agg (kI (.slice (some ⟨w.heap.size+1,0,none⟩) 1 1) (.slice none 0 0))) ϰ ?_;simp only[zp];refine aC rfl (w':=(W2.alloc (.cells df 62 (0,0)))) (.pointer (some ⟨W2.heap.size,0,none⟩)) (by go_simp;try rfl) ?_;simp only[zp];rw[hs2];refine wpList_store_row rfl _ _ _ rfl (w.heap.size+2) (kI (.slice (some ⟨w.heap.size+1,0,none⟩) 1 1) (.slice none 0 0)) ϰ ϰ _ df (by rw[<-hs2];exact av _ _) ϰ ϰ ϰ ?_;simp only[zp];refine gm fun W3 φ=>?_;have afP:W3.heap[w.heap.size+2]? =some (.cells (kI (.slice (some ⟨w.heap.size+1,0,none⟩) 1 1) (.slice none 0 0)) 62 (0,0)):=by
  rw[φ];exact setRow_heap _ _ _ _ _ _ (by rw[<-hs2];exact av _ _)
 obtain⟨uQ,jL⟩: ∃uQ,uQ=W2.alloc (.cells df 62 (0,0)):=⟨_,rfl⟩;rw[<-jL] at φ;have kX:Ext [w.heap.size+2] uQ W3:=by rw[φ];exact dz
 have zm:uQ.heap.size=w.heap.size+3:=by rw[jL];simp;omega
 have Γ:Ϙ w W3:=fu (by rw[jL];exact ai κ _) kX ϑ;have hs3:=kX.size;have hk3:W3.heap[w.heap.size]? =some (.cells cs 62 (0,0)):=(kX.block _ ϑ ϕ).trans (by rw[jL];exact(heap_alloc_old _ _ ϑ).trans hk2)
 have hh3:W3.heap[w.heap.size+1]? =some (.cells #[iv 40,iv 40] 129 (0,0)):=(kX.block _ ϑ ϕ).trans (by rw[jL];exact(heap_alloc_old _ _ ϑ).trans hh2)
 have ζ:=aa Γ;have Bc:=aa afP;have HC3:=aa (af hk3 (af hcz hh3));clear hcs hcz φ jL kX afP hk3 hh3 κ hk2 hh2 Γ;go_wp2_with fail
 go_loopw [12] (fun u wr=> ∃i:Nat,i<=5/\u= .int .i64 i/\Ϙ w wr/\w.heap.size+3<=wr.heap.size/\ ∃(o:Option Addr) (c:Nat),wr.ownsRow (w.heap.size+3) 50 2 (.slice o i c) i (aB (List.replicate i (6,6)))/\
  wr.heap[w.heap.size+2]? =some (.cells (kI (.slice (some ⟨w.heap.size+1,0,none⟩) 1 1) (.slice o i c)) 62 (0,0))/\ ∀k,k<w.heap.size+3->k≠w.heap.size+2->wr.heap[k]? =W3.heap[k]?) (fun u _=>5-(intOf u).toNat)
 case atStart=>exact⟨0,by omega,rfl,ζ.o,by omega,none,0,⟨rfl,.inl ⟨rfl,rfl⟩⟩,Bc.o,fun _ _ _=>rfl⟩
 case round=>
  obtain⟨i,hi,rfl,hB,τ,oo,oc,σ,hbk,hoth⟩:=hrel;obtain⟨c2,f2,l2⟩:=ae hbk;by_cases uM:i<5
  ·have HX:=aa (af hB (af σ (af hbk hoth)));have g16:=c2 16;simp only[kI] at g16;clear hB σ hbk hoth c2;go_wp2_with (at_builtin;go_loud (refine cZ rfl _ _ gZ.CJ rfl (w.heap.size+3) (.slice oo i oc) i (aB (List.replicate i (6,6))) rfl (az (Ms:=[]) HX.o.2.1 (Ext.ax (ai (aF _ _) _)) ϕ) (.slice (some ⟨wr.heap.size,0,none⟩) 1 1) 1 [iv 6,iv 6] rfl (aH.bI 2 1 (av _ _) rfl ϖ) (by simp[Value.oneCell']) ϑ ϑ ϗ ?_))
   intro v' W6 VC mh _;obtain⟨o6,c6,rfl⟩:=aM VC;have HP:=aa (qa (i:=16) (u:= .slice o6 (i+1) c6) HX.o.1 HX.o.2.1 (Ext.ax (ai (aF _ _) _)) VC mh τ ϑ ϑ HX.o.2.2.1);obtain⟨Wp,Wj,VP⟩:=ae (((jO HX.o.1 HX.o.2.1 (Ext.ax (ai (aF _ _) _)) VC mh ϑ τ).2.2 (w.heap.size+2) ϑ).trans HX.o.2.2.1);exact zbf
  ·obtain rfl:i=5:=ϑ;have HX:=aa (af hB (af σ (af hbk hoth)));clear hB σ hbk hoth;go_upto_region 6 with(fail)
   have hk0:=(HX.o.2.2.2 w.heap.size ϑ ϑ).trans HC3.o.1;refine wp_region_lit ?_;refine wpList_load_row rfl _ _ rfl (w.heap.size+2) rfl _ _ _ _ HX.o.2.2.1 Tryz.underlying62 rfl ϰ ?_;simp only[zp];refine wpList_store_row rfl _ _ _ rfl w.heap.size (kI (.slice (some ⟨w.heap.size+1,0,none⟩) 1 1) (.slice oo (5:Nat) oc)) ϰ ϰ _ cs hk0 ϰ (by rw[HC3.o.2.1];rfl) ϰ ?_;simp only[zp];refine gm fun W7 vz=>?_;have oL:Ext [w.heap.size] wr W7:=by rw[vz];exact dz
   have uY:=fu HX.o.1 oL (ah _);have Aw:W7.heap[w.heap.size]? =some (.cells (kI (.slice (some ⟨w.heap.size+1,0,none⟩) 1 1) (.slice oo (5:Nat) oc)) 62 (0,0)):=by rw[vz];exact setRow_heap _ _ _ _ _ _ hk0
   have hw7:=az (Ms:=[w.heap.size]) HX.o.2.1 oL ϕ;have hh7:=(oL.block (w.heap.size+1) ϑ ϕ).trans ((HX.o.2.2.2 (w.heap.size+1) ϑ ϑ).trans HC3.o.2.2);have H7:=aa (af uY (af Aw (af hw7 hh7)));clear vz oL uY Aw hw7 hh7 hk0;go_upto_region 7 with(fail)
   refine bodyPost_ret (v:= .agg (kI (.slice (some ⟨w.heap.size+1,0,none⟩) 1 1) (.slice oo (5:Nat) oc))) (results_cell_row Tryz.results63 _ _ w.heap.size _ _ (0,0) _ rfl H7.o.2.1 Tryz.underlying62 rfl ϰ) rfl ?_;refine⟨H7.o.1,⟨.slice none 0 0,.slice none 0 0,.slice oo (5:Nat) oc,.slice none 0 0,.slice none 0 0,.slice (some ⟨w.heap.size+1,0,none⟩) 1 1,.slice none 0 0,.slice none 0 0⟩,[],rfl,?_⟩;have Y6: ∀Ms:List Nat,(∀m∈Ms,m<w.heap.size)-> ∀W',Ext Ms W7 W'->jT W' bW ⟨.slice none 0 0,.slice none 0 0,.slice oo (5:Nat) oc,.slice none 0 0,.slice none 0 0,.slice (some ⟨w.heap.size+1,0,none⟩) 1 1,.slice none 0 0,.slice none 0 0⟩ []:=fun Ms η W' Iq=>by
    have hn: ∀k,aH k W' (.slice none 0 0) 0 []:=fun k=>⟨by simp,none,0,rfl,ah _,by decide,fun _=>rfl,fun a h=>by cases h⟩;have h1:=az (Ms:=Ms) H7.o.2.2.1 Iq (fun m hm=>by have:=η m hm;omega);have h2:=(Iq.block (w.heap.size+1) (aN.1 H7.o.2.2.2).1 (fun h=>by have:=η _ h;omega)).trans H7.o.2.2.2;exact⟨hn _,hn _,aH.bY h1,hn _,hn _,⟨aH.bI 2 1 h2 rfl ϖ,⟨hn _,fun e he=>by cases he⟩,rfl,hn _⟩⟩
   exact⟨Y6 [] ϕ _ (Ext.refl _ _),Y6⟩
theorem ad8:fU Tryz.prog 63 26 (iv 0) 1 8:=⟨Tryz.underlying63,by kernel_rfl,rfl,by omega⟩
theorem nM {w:World} {o:Option Addr} {n c:Nat} {l:List ay} (h:aH 1 w (.slice o n c) n (bz l)) {k:Nat} (hk:k<l.length):
 ∃b off,o=some ⟨b,off,none⟩/\b<w.heap.size/\w.cell? ⟨b,off+k,none⟩=some (.string (dS l[k])):=by
 obtain⟨hl,o',c',hv,h1,h2,h3,h4⟩:=h;cases hv;have hn:n=l.length:=by simpa [bz] using hl.symm
 cases o with
 |none=>have:=h3 rfl;omega
 |some a=>
  obtain⟨b,off,sp⟩:=a;obtain⟨hs,hc⟩:=h4 _ rfl;simp only at hs hc;subst hs;have:=hc k (.string (dS l[k])) (by simp[bz,hk]);exact⟨b,off,rfl,dB w _ this,this⟩
def agV (Qs:List Nat) (ls:List ay) (w:World) (e:Ending) (w':World):Prop:=
 Ϙ w w'/\ ∃V es cv,e= .returned (.tuple #[.agg (bG (dK aX bW ls).1 V),cv])/\(∀W',Ext Qs w' W'->jT W' (dK aX bW ls).1 V es)/\w'.ownsRow w.heap.size 26 1 cv ls.length (ag (dK aX bW ls).2)
theorem sS (lv:Value) (ls:List ay) (w:World) (hls:iK w lv ls) (hE:Env w) (hln: ∀l∈ls,l.length<=1000) (hn:ls.length<=1000000) (Qs:List Nat) (hQs: ∀m∈Qs,m<w.heap.size):Ϝ 36 #[lv] w (agV Qs ls w):=by
 obtain⟨ov,cv,rfl⟩:=aH.open hls;have vE:Hid (∀W,Ϙ w W->iK W (.slice ov ls.length cv) ls):=aa (fun W hb=>hls.below hb (ah _));have HE:Hid (∀W,Ϙ w W->Env W):=aa (fun W hb=>hE.below hb (ah _));clear hls hE;go_enter Tryz.func36,Tryz.ntmps36;go_upto_region 1 with(fail)
 refine bU fun W1 ν=>?_;have δ:Ϙ w W1:=by rw[ν];exact ai (aF _ _) _
 have hk1: ∃cs,W1.heap[w.heap.size]? =some (.cells cs 62 (0,0))/\cs.size=22:=by rw[ν];exact⟨_,av _ _,rfl⟩
 have hs1:W1.heap.size=w.heap.size+1:=by rw[ν];simp
 have R9:=aa δ;have PG:=aa hk1;clear ν δ hk1;go_wp2_with fail
 refine(Tm W1).mono ?_;rintro e W2 ⟨κ,V0,es0,rfl,hS0,hX0⟩;rename_i hK;refine hK _ _ ?_;have hs2:=κ.size;refine aC rfl (w':=(W2.alloc (.cells df 62 (0,0)))) (.pointer (some ⟨W2.heap.size,0,none⟩)) (by go_simp;try rfl) ?_;simp only[zp];obtain⟨g,hg⟩: ∃g,g=W2.heap.size:=⟨_,rfl⟩;rw[<-hg];have hz:(W2.alloc (.cells df 62 (0,0))).heap[g]? =some (.cells df 62 (0,0)):=by rw[hg];exact av _ _
 refine wpList_store_row rfl _ _ _ rfl g (bG bW V0) ϰ ϰ _ df hz ϰ ϰ (by rw[jk];exact fun u hu=>fC hS0 u (jS.2 hu)) ?_
 simp only[zp];refine gm fun W3 φ=>?_;obtain⟨uQ,jL⟩: ∃uQ,uQ=W2.alloc (.cells df 62 (0,0)):=⟨_,rfl⟩;rw[<-jL] at φ hz;have kX:Ext [g] uQ W3:=by rw[φ];exact dz
 have hs3:=kX.size;have zm:uQ.heap.size=g+1:=by rw[jL,hg];simp
 have kN:Ϙ W2 W3:=fu (by rw[jL];exact ai (aF _ _) _) kX ϑ
 have hS3:jT W3 bW V0 es0:=hS0.below kN (ah _);have hk3:W3.heap[g]? =some (.cells (bG bW V0) 62 (0,0)):=by rw[φ];exact setRow_heap _ _ _ _ _ _ hz
 have hX3: ∀W',Ext (w.heap.size::g::Qs) W3 W'->jT W' bW V0 es0:=fun W' Iq=>hX0 (w.heap.size::Qs) (fun m hm=>by
  rcases eQ.1 hm with rfl|hm
  ·omega
  ·have:=hQs m hm;omega) W' ⟨kN.os▸Iq.os,Iq.tape.trans kN.tape,Iq.output.trans kN.output,eU kN.size Iq.size,fun k hk hm=>(Iq.block k ϑ (fun h=>by
   rcases eQ.1 h with h|h
   ·exact hm (by rw[h];exact List.mem_cons_self)
   ·rcases eQ.1 h with h|h
    ·omega
    ·exact hm (nY _ h))).trans (kN.block k hk)⟩
 have hr3: ∃cs,W3.heap[w.heap.size]? =some (.cells cs 62 (0,0))/\cs.size=22:=by
  obtain⟨cs,h1,h2⟩:=PG.o;exact⟨cs,(kN.block _ ϑ).trans ((κ.block _ ϑ).trans h1),h2⟩
 have ζ:=aa (aV R9.o (aV κ kN));have H3:=aa (af hS3 (af hk3 (af hr3 hX3)));have hgw:w.heap.size+1<=g:=ϑ;have hg3:g+1<=W3.heap.size:=ϑ;clear hX3 hX0 φ jL kX kN hS3 hk3 hr3 hz hS0 κ hg hK;go_wp2_with fail
 go_loopw [5,13] (fun v5 u wr=> ∃i:Nat,i<=ls.length/\u= .int .i64 i/\Ϙ w wr/\W3.heap.size<=wr.heap.size/\ ∃(o:Option Addr) (c:Nat) (V:SV) (es:List KE),v5= .slice o i c/\wr.ownsRow W3.heap.size 26 1 (.slice o i c) i (ag (dK aX bW (ls.take i)).2)/\
  wr.heap[g]? =some (.cells (bG (dK aX bW (ls.take i)).1 V) 62 (0,0))/\jT wr (dK aX bW (ls.take i)).1 V es/\wr.heap[w.heap.size]? =W3.heap[w.heap.size]?/\ ∀W',Ext (w.heap.size::g::((Value.slice o i c).ownBlock.toList++Qs)) wr W'->jT W' (dK aX bW (ls.take i)).1 V es) (fun _ u _=>ls.length-(intOf u).toNat)
 case atStart=>exact⟨0,bE _,rfl,ζ.o,ah _,none,0,V0,es0,rfl,⟨rfl,.inl ⟨rfl,rfl⟩⟩,H3.o.2.1,H3.o.1,rfl,H3.o.2.2.2⟩
 case round=>
  obtain⟨i,hi,rfl,hB,τ,oo,oc,V,es,rfl,σ,hbk,hS,hr0,Sw⟩:=hrel;by_cases uM:i<ls.length
  ·obtain⟨bl,off,hov,χ,hcl⟩:=nM (vE.o _ hB) uM;have HX:=aa (af hB (af σ (af hbk (af hS (af hr0 Sw)))));have HD:=aa (Xa (dK aX bW (ls.take i)).1 V es ls[i] wr hS (wU _ uN) (HE.o wr hB) (hln _ (bZ uM)) (w.heap.size::g::((Value.slice oo i oc).ownBlock.toList++Qs)) (fun m hm=>by
    rcases eQ.1 hm with rfl|hm
    ·omega
    ·rcases eQ.1 hm with rfl|hm
     ·omega
     ·rcases gq.1 hm with hm|hm
      ·exact(aS σ m (dh.1 hm)).2
      ·have:=hQs m hm;omega) Sw)
   subst hov;clear hB σ hbk hS hr0 Sw;go_upto_region 6 with(fail)
   refine wp_region_lit ?_;refine wpList_load_row rfl _ _ rfl g rfl _ _ _ _ HX.o.2.2.1 Tryz.underlying62 rfl ϰ ?_;simp only[zp];go_wp2_with fail
   refine HD.o.mono ?_;rintro e W4 ⟨Ω,V4,es4,rfl,hS4,hX4⟩;rename_i hK;refine hK _ _ ?_;refine aC rfl _ (by go_simp;first|rfl|exact⟨rfl,rfl⟩) ?_;simp only[zp];refine aC rfl _ (by go_simp;first|rfl|exact⟨rfl,rfl⟩) ?_;simp only[zp];refine aC rfl _ (by go_simp;first|rfl|exact⟨rfl,rfl⟩) ?_;simp only[zp];obtain⟨q,hq⟩: ∃q,q=W4.heap.size:=⟨_,rfl⟩;have hs4:=Ω.size;refine aC rfl (w':=W4.alloc (.cells df 62 (0,0))) (.pointer (some ⟨q,0,none⟩)) (by rw[hq];go_simp;try rfl) ?_;simp only[zp];have hz:(W4.alloc (.cells df 62 (0,0))).heap[q]? =some (.cells df 62 (0,0)):=by rw[hq];exact av _ _
   refine wpList_store_row rfl _ _ _ rfl q (bG (oN aX (dK aX bW (ls.take i)).1 ls[i]).1 V4) ϰ ϰ _ df hz ϰ ϰ (by rw[jk];exact fun u hu=>fC hS4 u (jS.2 hu)) ?_
   simp only[zp];refine gm fun W5 qM=>?_;obtain⟨W4',Zx⟩: ∃W4',W4'=W4.alloc (.cells df 62 (0,0)):=⟨_,rfl⟩;rw[<-Zx] at qM hz;have BD:Ext [q] W4' W5:=by rw[qM];exact dz
   have Zg:W4'.heap.size=q+1:=by rw[Zx,hq];simp
   have hs5:=BD.size;have acm:Ϙ W4 W5:=fu (by rw[Zx];exact ai (aF _ _) _) BD ϑ
   have hk5:W5.heap[q]? =some (.cells (bG (oN aX (dK aX bW (ls.take i)).1 ls[i]).1 V4) 62 (0,0)):=by rw[qM];exact setRow_heap _ _ _ _ _ _ hz
   have hb5:=aV Ω acm;have H5:=aa (af hb5 (af acm (af hk5 (af hS4 hX4))));clear qM Zx BD acm hk5 hz hS4 hX4 Ω hb5 hK;go_upto_region 7 with(fail)
   have hTK:dK aX bW (ls.take (i+1))=((oN aX (dK aX bW (ls.take i)).1 ls[i]).1,(dK aX bW (ls.take i)).2++[(oN aX (dK aX bW (ls.take i)).1 ls[i]).2]):=by rw[eG uM,Gv]
   obtain⟨Δ,hcode⟩: ∃Δ,Δ=(oN aX (dK aX bW (ls.take i)).1 ls[i]).2:=⟨_,rfl⟩;rw[<-hcode] at hTK⊢;obtain⟨Ms,η⟩: ∃Ms,Ms=(Value.slice oo i oc).ownBlock.toList:=⟨_,rfl⟩;have hm0: ∀m∈Ms,W3.heap.size<=m/\m<wr.heap.size:=fun m h=>aS HX.o.2.1 m (by rw[η] at h;exact dh.1 h);have qh: ∀m∈Ms,m<W5.heap.size:=fun m h=>by have:=hm0 m h;omega
   have Υ:q∉Ms:=fun h=>by have:=hm0 q h;omega
   have hm2:g∉Ms:=fun h=>by have:=hm0 g h;omega
   have hq5:q<W5.heap.size:=ϑ;have yG:=aa hTK;have HM:=aa η;clear hTK η hcode;refine zg 5 Ms (some 4) [(3,Spec.slice W5.heap.size #[iv Δ] 26 1),(4,⟨fun _ v=> ∃o2 c2,v= .slice o2 (i+1) c2,fun _ v Wx=>Wx.ownsRow W3.heap.size 26 1 v (i+1) (ag (dK aX bW (ls.take i)).2++[iv Δ])/\(v.ownBlock=(Value.slice oo i oc).ownBlock∨ ∃q,v.ownBlock=some q/\W5.heap.size<=q)⟩)] ?_;simp only[zt];refine eX ϱ (.agg (bG (oN aX (dK aX bW (ls.take i)).1 ls[i]).1 V4)) ϱ (fun W hE hF=>?_) ?_
   ·exact zca
   simp only[zp];repeat ((first|refine zd ?_|refine zk ?_);simp only[zp])
   refine cB W5.heap.size _ _ 1 ϱ (ah _) ϱ qh ϕ (fun W hW=>by go_simp;try rfl) (fun b6=>?_);simp only[zp];refine aY _ ϱ ϱ (by exact⟨.slice none (i+1) 0,none,0,rfl⟩) (fun W6 hE hF=>?_) (fun v Wa Wb ho hE=>?_) (fun v hv=>?_)
   ·have Iq:Ext [] W5 W6:=hE;obtain⟨b',hb',hge,ο⟩:=hF _ (aW _) ϰ;cases hb';have VC:=az (Ms:=[]) HX.o.2.1 ((Ext.ax H5.o.1).trans Iq) ϕ;have ξ:aH 1 W6 (.slice (some ⟨b6,0,none⟩) 1 1) 1 ([iv Δ]):=aH.bI 1 1 ο rfl ϖ;refine Does.mono (dA ad8 ϱ ϱ VC ϱ ξ (one_one Δ) ϑ ϑ (by have:=Iq.size;omega)) ?_;rintro v' W7 ⟨ho,Y7,θ⟩;refine⟨aR ho,⟨ho,θ.imp id fun h1=>⟨_,h1,Iq.size⟩⟩,⟨Y7.os,Y7.tape,Y7.output,Y7.size,fun b hb hn=>Y7.block b hb (fun e=>hn (by rw[HM.o];exact dh.2 e.symm))⟩⟩
   ·exact zaP
   obtain⟨o7,c7,rfl⟩:=hv;simp only[zp];intro W6 hE hF;obtain⟨K6,hg6⟩:=hF _ (aW _);have ry:Ext Ms W5 W6:=hE;have hs6:=ry.size;have hkg:=(ry.block g ϑ hm2).trans ((H5.o.1.block g ϑ).trans HX.o.2.2.1);refine wpList_store_row rfl _ _ _ rfl g (bG (oN aX (dK aX bW (ls.take i)).1 ls[i]).1 V4) ϰ ϰ _ _ hkg ϰ rfl (by rw[jk];exact fun u hu=>fC H5.o.2.2.2.1 u (jS.2 hu)) ?_
   simp only[zp];refine gm fun W7 vz=>?_;have oL:Ext [g] W6 W7:=by rw[vz];exact dz
   have Aw:W7.heap[g]? =some (.cells (bG (oN aX (dK aX bW (ls.take i)).1 ls[i]).1 V4) 62 (0,0)):=by rw[vz];exact setRow_heap _ _ _ _ _ _ hkg
   have hs7:=oL.size;have Oq:Ϙ w W7:=zbw;have Ya:=az (Ms:=[g]) K6 oL ϗ;have Qh:W7.heap[w.heap.size]? =W3.heap[w.heap.size]? :=(oL.block _ ϑ ϗ).trans ((ry.block _ ϑ (fun h=>by have:=hm0 _ h;omega)).trans ((H5.o.1.block _ ϑ).trans HX.o.2.2.2.2.1));have hX7: ∀W',Ext (w.heap.size::g::((Value.slice o7 (i+1) c7).ownBlock.toList++Qs)) W7 W'->jT W' (oN aX (dK aX bW (ls.take i)).1 ls[i]).1 V4 es4:=fun W' Iq=>by
    have h45:=H5.o.2.1;have apm:=h45.size;refine H5.o.2.2.2.2 W' ⟨Iq.os.trans (oL.os.trans (ry.os.trans h45.os)),Iq.tape.trans (oL.tape.trans (ry.tape.trans h45.tape)),Iq.output.trans (oL.output.trans (ry.output.trans h45.output)),by have:=Iq.size;omega,fun k hk hm=>?_⟩;have n1:k≠w.heap.size:=fun e=>hm (by simp[e]);have n2:k≠g:=fun e=>hm (by simp[e]);have n3:k∉(Value.slice oo i oc).ownBlock.toList:=fun h=>hm (nY _ (nY _ (mq _ h)));have n5:k∉Qs:=fun h=>hm (nY _ (nY _ (qX _ h)));have n4:k∉(Value.slice o7 (i+1) c7).ownBlock.toList:=fun h=>by
     exact zcp
    exact(Iq.block k ϑ (fun h=>by rcases eQ.1 h with h|h;(exact n1 h);rcases eQ.1 h with h|h;(exact n2 h);rcases gq.1 h with h|h;(exact n4 h);exact n5 h)).trans ((oL.block k ϑ (by simpa using n2)).trans ((ry.block k ϑ (by rw[HM.o];exact n3)).trans (h45.block k hk)))
   have VI:jT W7 (oN aX (dK aX bW (ls.take i)).1 ls[i]).1 V4 es4:=hX7 W7 (Ext.refl _ _);have H7:=aa (af Oq (af Ya (af Aw (af VI (af Qh hX7)))));have aiY:W3.heap.size<=W7.heap.size:=ϑ;clear Oq Ya Aw VI Qh hX7 vz oL ry hE hF K6 hg6 hkg;go_wp2_with fail
   go_roundw
   case rel=>
    refine⟨i+1,by omega,by go_num,H7.o.1,aiY,o7,c7,V4,es4,rfl,?_⟩;rw[yG.o];refine⟨?_,H7.o.2.2.1,H7.o.2.2.2.1,H7.o.2.2.2.2.1,H7.o.2.2.2.2.2⟩;simpa [ag] using H7.o.2.1
   case measure=>simp[intOf];omega
  ·obtain rfl:i=ls.length:=ϑ;have HX:=aa (af hB (af σ (af hbk (af hS (af hr0 Sw)))));clear hB σ hbk hS hr0 Sw;go_upto_region 9 with(fail)
   obtain⟨cs,hcs,hcz⟩:=H3.o.2.2.1;have hk0:=HX.o.2.2.2.2.1.trans hcs;refine wp_region_lit ?_;refine wpList_load_row rfl _ _ rfl g rfl _ _ _ _ HX.o.2.2.1 Tryz.underlying62 rfl ϰ ?_;simp only[zp];refine aC rfl _ (by go_simp;first|rfl|exact⟨rfl,rfl⟩) ?_;simp only[zp];refine wpList_store_row rfl _ _ _ rfl w.heap.size (bG (dK aX bW (ls.take ls.length)).1 V) ϰ ϰ _ cs hk0 ϰ (by rw[hcz];rfl) (by rw[jk];exact fun u hu=>fC HX.o.2.2.2.1 u (jS.2 hu)) ?_
   simp only[zp];refine gm fun W7 vz=>?_;have oL:Ext [w.heap.size] wr W7:=by rw[vz];exact dz
   have uY:=fu HX.o.1 oL (ah _);have Aw:W7.heap[w.heap.size]? =some (.cells (bG (dK aX bW (ls.take ls.length)).1 V) 62 (0,0)):=by rw[vz];exact setRow_heap _ _ _ _ _ _ hk0
   have hw7:=az (Ms:=[w.heap.size]) HX.o.2.1 oL ϗ;have VI: ∀W',Ext Qs W7 W'->jT W' (dK aX bW (ls.take ls.length)).1 V es:=fun W' Iq=>HX.o.2.2.2.2.2 W' ((oL.more ϕ).trans (Iq.more (fun m hm=>nY _ (nY _ (qX _ hm)))));have H7:=aa (af uY (af Aw (af hw7 VI)));clear vz oL uY Aw hw7 hk0 VI;go_wp2_with fail
   refine bodyPost_ret (v:= .tuple #[.agg (bG (dK aX bW (ls.take ls.length)).1 V),.slice oo ls.length oc]) ?_ rfl ?_
   ·have q1:=run_loadVar_row (P:=Tryz.prog) W7 w.heap.size 62 62 _ (0,0) _ H7.o.2.1 Tryz.underlying62 rfl ϰ;simp[results,Tryz.results36,asAddr,q1]
   ·have h7:=H7.o;rw[List.take_length] at h7⊢;exact⟨h7.1,V,es,_,rfl,h7.2.2.2,bK h7.2.2.1 ϑ⟩
theorem RY (k:Int) (l:ay) (w:World) (hl:l.length<=1000000):Ϝ 57 #[iv k,.string (dS l)] w (PV (.bool (decide ((l.length:Int)<=k))) w):=by
 have hs:(dS l).size=l.length:=by simp[ByteArray.size]
 go_enter Tryz.func57,Tryz.ntmps57;go_wp2_with fail
 go_returns;exact⟨rfl,aF _ _⟩
abbrev sv (l:ay):Value:= .string (dS l)
theorem iK.cell {w:World} {o:Option Addr} {n c:Nat} {l:List ay} (h:aH 1 w (.slice o n c) n (bz l)) {k:Nat} (hk:k<l.length):
 ∃b off,o=some ⟨b,off,none⟩/\b<w.heap.size/\w.cell? ⟨b,off+k,none⟩=some (sv l[k]):=nM h hk
theorem aiJ (l:List ay) (v:Value) (bg:Nat) (Nf aP:Array Value) (p:Nat->Bool) (I:Nat->World->Prop) (w:World) (eg: Ϛ Tryz.prog bg)
 (Y5: ∀k W,I k W->iK W v l)
 (qY: ∀k (hk:k<l.length) W,(∀j,j<k->p j=false)->I k W->Ϝ bg (Nf.push (sv l[k])++aP) W (fun e W'=>e= .returned (.bool (p k))/\I (k+1) W')) (h0:I 0 w):
 Ϝ 186 #[v,.func (.func bg) Nf aP] w (dN l.length p I (fun k=>iv k) (iv (-1))):=by
 have IY:=(Y5 0 w h0).len;obtain⟨o,c,rfl⟩:=(Y5 0 w h0).open;have HC:=aa qY;have HS:=aa Y5;clear qY Y5;go_enter Tryz.func186,Tryz.ntmps186;go_wp2;go_loopw [4,5,8] (fun _ _ i wr=> ∃k:Nat,k<=l.length/\i= .int .i64 k/\(∀j,j<k->p j=false)/\I k wr) (fun _ _ i _=>l.length-(intOf i).toNat)
 case atStart=>exact⟨0,bE _,rfl,fun j hj=>ϑ,h0⟩
 case round=>
  obtain⟨k,hk,rfl,IB,hI⟩:=hrel;by_cases uM:k<l.length
  ·obtain⟨b,off,rfl,hb,hc0⟩:=iK.cell (HS.o k wr hI) uM;exact zcC
  ·exact zam
theorem agE (l:List ay) (v:Value) (bg:Nat) (Nf aP:Array Value) (p:Nat->Bool) (I:Nat->World->Prop) (w:World) (eg: Ϛ Tryz.prog bg)
 (Y5: ∀k W,I k W->iK W v l)
 (qY: ∀k (hk:k<l.length) W,(∀j,j<k->p j=false)->I k W->Ϝ bg (Nf.push (sv l[k])++aP) W (fun e W'=>e= .returned (.bool (p k))/\I (k+1) W')) (h0:I 0 w):
 Ϝ 105 #[v,.func (.func bg) Nf aP] w (dN l.length p I (fun _=> .bool true) (.bool false)):=by
 have HI:=aa (aiJ l v bg Nf aP p I w eg Y5 qY h0);have IY:=(Y5 0 w h0).len;clear Y5 qY h0 eg;go_enter Tryz.func105,Tryz.ntmps105;exact zac
theorem Xw (b:Nat) (l:ay) (w:World) (hc:w.cell? ⟨b,0,none⟩=some (.func (.func 57) #[iv 60] #[])) (hl:l.length<=1000000):Ϝ 106 #[sv l,.pointer (some ⟨b,0,none⟩)] w (PV (.bool (!decide ((l.length:Int)<=60))) w):=by
 have HC:=aa (RY 60 l w hl);go_enter Tryz.func106,Tryz.ntmps106;go_wp2_with fail
 refine HC.o.mono ?_;rintro e w' ⟨rfl,hb⟩;go_wp2_with fail
 go_returns;exact⟨rfl,hb⟩
theorem Xu (b:Nat) (l:List ay) (v:Value) (w:World) (hv:iK w v l) (hc:w.cell? ⟨b,0,none⟩=some (.func (.func 57) #[iv 60] #[])) (hb:b<w.heap.size) (hln: ∀x∈l,x.length<=1000000):Ϝ 105 #[v,.func (.func 106) #[] #[.pointer (some ⟨b,0,none⟩)]] w (PV (.bool (l.any fun x=>!decide ((x.length:Int)<=60))) w):=by
 refine(agE l v 106 #[] #[.pointer (some ⟨b,0,none⟩)] (fun k=>!decide (((l.getD k []).length:Int)<=60)) (fun _ W=>Ϙ w W) w (enters_of Tryz.func106 ϰ rfl) (fun k W h=>hv.below h (ah _)) (fun k hk W _ h=>?_) (aF _ _)).mono ?_
 ·refine(Xw b l[k] W ((gX (h.block b hb)).trans hc) (hln _ (bZ hk))).mono ?_;rintro e W' ⟨rfl,hb'⟩;exact⟨by simp[hk],aV h hb'⟩
 ·rintro e W' ⟨k,hk,IB,⟨uM,hp,rfl,hI⟩|⟨Y9,rfl,hI⟩⟩
  ·refine⟨?_,hI⟩;have:(l.any fun x=>!decide ((x.length:Int)<=60))=true:=List.any_eq_true.2 ⟨l[k],bZ _,by simpa [uM] using hp⟩;rw[this]
  ·refine⟨?_,hI⟩;have:(l.any fun x=>!decide ((x.length:Int)<=60))=false:=zcg;rw[this]
theorem Z4 (l:List ay) (v:Value) (w:World) (hv:iK w v l) (hln: ∀x∈l,x.length<=1000000):Ϝ 58 #[v,.func (.func 57) #[iv 60] #[]] w (PV (.bool (!(l.any fun x=>!decide ((x.length:Int)<=60)))) w):=by
 have HV:=aa hv;clear hv;go_enter Tryz.func58,Tryz.ntmps58;go_upto_region 1 with(fail)
 refine bU fun W1 ν=>?_;have δ:Ϙ w W1:=by rw[ν];exact ai (aF _ _) _
 have hc1:W1.cell? ⟨w.heap.size,0,none⟩=some (.func (.func 57) #[iv 60] #[]):=by rw[ν];exact(ae (av _ _)).1 0
 have hs1:w.heap.size<W1.heap.size:=by rw[ν];simp
 have HA:=aa (Xu w.heap.size l v W1 (aH.below HV.o δ (ah _)) hc1 hs1 hln);have HB:=aa δ;clear ν δ hc1 hs1;go_wp2_with fail
 refine HA.o.mono ?_;rintro e w' ⟨rfl,hb⟩;go_wp2_with fail
 go_returns;exact⟨rfl,aV HB.o hb⟩
def eD (l:List ay):Int:=if 40<l.length∨(l.any fun x=>!decide ((x.length:Int)<=60))=true then 3 else 0
theorem AO (l:List ay) (v:Value) (w:World) (hv:iK w v l) (hln: ∀x∈l,x.length<=1000000):Ϝ 31 #[v] w (PV (iv (eD l)) w):=by
 have IY:=hv.len;obtain⟨o,c,rfl⟩:=aH.open hv;have HA:=aa (Z4 l _ w hv hln);clear hv;go_enter Tryz.func31,Tryz.ntmps31;go_wp2_with fail
 ·refine HA.o.mono ?_;rintro e w' ⟨rfl,hb⟩;cases hq:(l.any fun x=>!decide ((x.length:Int)<=60));all_goals
   go_wp2_with fail
   go_returns;refine⟨?_,hb⟩;simp only[eD,hq];simp;try omega
 ·go_returns;refine⟨?_,aF _ _⟩;rw[eD,aG (.inl ϑ)];rfl
def PQ:iE:=
 {led:={field:={rows:=0,aJ:=0,left:=(0,0),aj:=[]},rate:=0,box:=(0,0),notes:=[]}
  heap:={last:=0,size:=0,aZ:=0,die:=0,ny:=0,start:=(0,0),bJ:=[],turns:=[],readings:=[]}
  cK:={heaps:=[],aQ:=[],aI:=[]}}
def zeroV:SV:=⟨.slice none 0 0,.slice none 0 0,.slice none 0 0,.slice none 0 0,.slice none 0 0,.slice none 0 0,.slice none 0 0,.slice none 0 0⟩
theorem MQ:bG PQ zeroV=df:=rfl
theorem Yi (w:World):jT w PQ zeroV []:=by
 have hn: ∀k,aH k w (.slice none 0 0) 0 []:=fun k=>aH.nil k w;exact⟨hn _,hn _,hn _,hn _,hn _,⟨hn _,⟨hn _,fun e he=>by cases he⟩,rfl,hn _⟩⟩
def fV (ls:List ay):iE:=if eD ls=0 then(dK aX bW ls).1 else PQ
def pM (ls:List ay):List Int:=if eD ls=0 then(dK aX bW ls).2 else[]
def PPl (Qs:List Nat) (ls:List ay) (w:World) (e:Ending) (w':World):Prop:=
 Ϙ w w'/\ ∃V es cv,e= .returned (.tuple #[.agg (bG (fV ls) V),cv,iv (eD ls)])/\(∀W',Ext Qs w' W'->jT W' (fV ls) V es)/\w'.ownsRow w.heap.size 26 1 cv (pM ls).length (ag (pM ls))
theorem SH {ls:List ay} (h:eD ls=0):ls.length<=40/\ ∀l∈ls,l.length<=60:=by
 unfold eD at h;split at h
 ·omega
 ·rename_i hc;simp only[not_or,Bool.not_eq_true] at hc;refine⟨by omega,fun l hl=>?_⟩;have:=List.any_eq_false.1 hc.2 l hl;simp at this;omega
theorem qZ (lv:Value) (ls:List ay) (w:World) (hls:iK w lv ls) (hE:Env w) (hln: ∀l∈ls,l.length<=1000000) (Qs:List Nat) (hQs: ∀m∈Qs,m<w.heap.size):Ϝ 18 #[lv] w (PPl Qs ls w):=by
 have vE:Hid (∀W,Ϙ w W->iK W lv ls):=aa (fun W hb=>hls.below hb (ah _));have HE:Hid (∀W,Ϙ w W->Env W):=aa (fun W hb=>hE.below hb (ah _));have TT:=aa hln;clear hls hE hln;go_enter Tryz.func18,Tryz.ntmps18;go_upto_region 1 with(fail)
 refine bU fun W1 ν=>?_;have δ:Ϙ w W1:=by rw[ν];exact ai (aF _ _) _
 have hk1:W1.heap[w.heap.size]? =some (.cells df 62 (0,0)):=by rw[ν];exact av _ _
 have hs1:W1.heap.size=w.heap.size+1:=by rw[ν];simp
 have R9:=aa δ;have PG:=aa hk1;clear ν δ hk1;go_wp2_with fail
 refine(AO ls lv W1 (vE.o _ R9.o) TT.o).mono ?_;rintro e W2 ⟨rfl,hb⟩;have Uy:=aa (aV R9.o hb);have F4:=aa ((hb.block _ ϑ).trans PG.o);have hs2:=hb.size;obtain⟨q,hq⟩: ∃q,eD ls=q:=⟨_,rfl⟩;rw[hq];have HQ:=aa hq;clear hq hb;by_cases hz:q=0
 ·subst hz;have Ui:=aa (SH HQ.o);have Ug:=aa (sS lv ls W2 (vE.o _ Uy.o) (HE.o _ Uy.o) (fun l hl=>by have:=Ui.o.2 l hl;omega) (by have:=Ui.o.1;omega) (w.heap.size::Qs) (fun m hm=>by
   rcases eQ.1 hm with rfl|hm
   ·omega
   ·have:=hQs m hm;omega))
  go_wp2_with fail
  refine Ug.o.mono ?_;rintro e W3 ⟨Γ,V,es,cv,rfl,hX,hC⟩;obtain⟨co,cc,rfl⟩:=aM hC;have hs3:=Γ.size;rename_i hK;refine hK _ _ ?_;refine aC rfl _ (by go_simp;first|rfl|exact⟨rfl,rfl⟩) ?_;simp only[zp];refine aC rfl _ (by go_simp;first|rfl|exact⟨rfl,rfl⟩) ?_;simp only[zp];refine aC rfl _ (by go_simp;first|rfl|exact⟨rfl,rfl⟩) ?_;simp only[zp];have hk3:=(Γ.block _ ϑ).trans F4.o;have hS3:=hX W3 (Ext.refl _ _);refine wpList_store_row rfl _ _ _ rfl w.heap.size (bG (dK aX bW ls).1 V) ϰ ϰ _ df hk3 ϰ ϰ (by rw[jk];exact fun u hu=>fC hS3 u (jS.2 hu)) ?_
  simp only[zp];refine gm fun W4 zu=>?_;have FQ:Ext [w.heap.size] W3 W4:=by rw[zu];exact dz
  have Ω:=fu (aV Uy.o Γ) FQ (ah _);have hk4:W4.heap[w.heap.size]? =some (.cells (bG (dK aX bW ls).1 V) 62 (0,0)):=by rw[zu];exact setRow_heap _ _ _ _ _ _ hk3
  have hc4:=az (Ms:=[w.heap.size]) hC FQ ϗ;have hX4: ∀W',Ext (w.heap.size::Qs) W4 W'->jT W' (dK aX bW ls).1 V es:=fun W' Iq=>hX W' ((FQ.more ϕ).trans Iq);have H4:=aa (af Ω (af hk4 (af hc4 hX4)));clear zu FQ Ω hk4 hc4 hX4 hk3 hX hC Γ hS3 hK;go_upto_region 5 with(fail)
  refine wp_region_lit ?_;refine wpList_load_row rfl _ _ rfl w.heap.size rfl _ _ _ _ H4.o.2.1 Tryz.underlying62 rfl ϰ ?_;simp only[zp];refine aC rfl _ (by go_simp;first|rfl|exact⟨rfl,rfl⟩) ?_;simp only[zp];refine wpList_store_row rfl _ _ _ rfl w.heap.size (bG (dK aX bW ls).1 V) ϰ ϰ _ _ H4.o.2.1 ϰ ϰ (by rw[jk];exact fun u hu=>fC (H4.o.2.2.2 W4 (Ext.refl _ _)) u (jS.2 hu)) ?_
  simp only[zp];refine gm fun W5 qM=>?_;have BD:Ext [w.heap.size] W4 W5:=by rw[qM];exact dz
  have hk5:W5.heap[w.heap.size]? =some (.cells (bG (dK aX bW ls).1 V) 62 (0,0)):=by rw[qM];exact setRow_heap _ _ _ _ _ _ H4.o.2.1
  have H5:=aa (af (fu H4.o.1 BD (ah _)) (af hk5 (af (az (Ms:=[w.heap.size]) H4.o.2.2.1 BD ϗ) (fun W' (Iq:Ext (w.heap.size::Qs) W5 W')=>H4.o.2.2.2 W' ((BD.more ϕ).trans Iq)))));clear qM BD hk5;go_wp2_with fail
  refine bodyPost_ret (v:= .tuple #[.agg (bG (dK aX bW ls).1 V),.slice co ls.length cc,iv 0]) ?_ rfl ?_
  ·have q1:=run_loadVar_row (P:=Tryz.prog) W5 w.heap.size 62 62 _ (0,0) _ H5.o.2.1 Tryz.underlying62 rfl ϰ;simp[results,Tryz.results18,asAddr,q1]
  ·have h5:=H5.o;have e1:fV ls=(dK aX bW ls).1:=by unfold fV;rw[aG HQ.o]
   have e2:pM ls=(dK aX bW ls).2:=by unfold pM;rw[aG HQ.o]
   refine⟨h5.1,V,es,.slice co ls.length cc,?_,?_,?_⟩
   ·rw[e1,HQ.o]
   ·rw[e1];exact fun W' Iq=>h5.2.2.2 W' (Iq.more (fun m hm=>nY _ hm))
   ·rw[e2,U2];exact bK h5.2.2.1 ϑ
 ·go_upto_region 3 with(fail)
  refine wp_region_lit ?_;refine aC rfl (w':=W2) (.agg df) ϰ ?_;simp only[zp];refine aC rfl _ (by go_simp;first|rfl|exact⟨rfl,rfl⟩) ?_;simp only[zp];refine wpList_store_row rfl _ _ _ rfl w.heap.size df ϰ ϰ _ df F4.o ϰ ϰ ϰ ?_;simp only[zp];refine gm fun W3 φ=>?_;have kX:Ext [w.heap.size] W2 W3:=by rw[φ];exact dz
  have hk3:W3.heap[w.heap.size]? =some (.cells df 62 (0,0)):=by rw[φ];exact setRow_heap _ _ _ _ _ _ F4.o
  have H3:=aa (af (fu Uy.o kX (ah _)) hk3);clear φ kX hk3;go_wp2_with fail
  refine bodyPost_ret (v:= .tuple #[.agg df,.slice none 0 0,iv q]) ?_ rfl ?_
  ·have q1:=run_loadVar_row (P:=Tryz.prog) W3 w.heap.size 62 62 _ (0,0) _ H3.o.2 Tryz.underlying62 rfl ϰ;simp[results,Tryz.results18,asAddr,q1]
  ·have e1:fV ls=PQ:=by unfold fV;rw[ak (by rw[HQ.o];exact hz)]
   have e2:pM ls=[]:=by unfold pM;rw[ak (by rw[HQ.o];exact hz)]
   refine⟨H3.o.1,zeroV,[],.slice none 0 0,?_,?_,?_⟩
   ·rw[e1,HQ.o,MQ]
   ·rw[e1];exact fun W' _=>Yi W'
   ·rw[e2];exact⟨rfl,.inl ⟨rfl,rfl⟩⟩
def yS (ls:List ay):Int:=if eD ls=0 then fI (fV ls).led true else eD ls
def GG (ls:List ay):List dF:=if eD ls=0 then(if fI (fV ls).led true=0 then zL mH (fV ls).led (eZ (fV ls).led) else[]) else[]
def Be (ls:List ay):Int:=if eD ls=0 then gZ.yx (fV ls).heap else eD ls
def Gc (ls:List ay):List Int:=if eD ls=0 then gZ.Oy (fV ls).heap else[]
def akt (ls:List ay) (w:World) (e:Ending) (w':World):Prop:=Ϙ w w'/\ ∃u,e= .returned (.tuple #[u,iv (yS ls)])/\bD w' u (GG ls)
def akq (ls:List ay) (w:World) (e:Ending) (w':World):Prop:=Ϙ w w'/\ ∃u,e= .returned (.tuple #[u,iv (Be ls)])/\aL w' u (Gc ls)
theorem AZ (lv:Value) (ls:List ay) (w:World) (hls:iK w lv ls) (hE:Env w) (hln: ∀l∈ls,l.length<=1000000):Ϝ 21 #[lv] w (akt ls w):=by
 have vE:=aa hls;have HE:=aa hE;have TT:=aa hln;clear hls hE hln;obtain⟨q,hq⟩: ∃q,eD ls=q:=⟨_,rfl⟩;have HQ:=aa hq;go_enter Tryz.func21,Tryz.ntmps21;go_wp2_with fail
 refine(qZ lv ls w (vE.o) (HE.o) (TT.o) [] ϕ).mono ?_;rintro e W2 ⟨κ,V,es,cv,he,hX,hC⟩;rw[hq] at he;subst he;obtain⟨co,cc,rfl⟩:=aM hC;have hs2:=κ.size;have hS2:=hX W2 (Ext.refl _ _);rename_i hK;refine hK _ _ ?_;refine aC rfl _ (by go_simp;first|rfl|exact⟨rfl,rfl⟩) ?_;simp only[zp];refine aC rfl _ (by go_simp;first|rfl|exact⟨rfl,rfl⟩) ?_;simp only[zp];refine aC rfl _ (by go_simp;first|rfl|exact⟨rfl,rfl⟩) ?_;simp only[zp];refine aC rfl _ (by go_simp;first|rfl|exact⟨rfl,rfl⟩) ?_;simp only[zp];obtain⟨g,hg⟩: ∃g,g=W2.heap.size:=⟨_,rfl⟩;refine aC rfl (w':=W2.alloc (.cells df 62 (0,0))) (.pointer (some ⟨g,0,none⟩)) (by rw[hg];go_simp;try rfl) ?_;simp only[zp];have hz2:(W2.alloc (.cells df 62 (0,0))).heap[g]? =some (.cells df 62 (0,0)):=by rw[hg];exact av _ _
 refine wpList_store_row rfl _ _ _ rfl g (bG (fV ls) V) ϰ ϰ _ df hz2 ϰ ϰ (by rw[jk];exact fun u hu=>fC hS2 u (jS.2 hu)) ?_
 simp only[zp];refine gm fun W3 φ=>?_;obtain⟨uQ,jL⟩: ∃uQ,uQ=W2.alloc (.cells df 62 (0,0)):=⟨_,rfl⟩;rw[<-jL] at φ hz2;have kX:Ext [g] uQ W3:=by rw[φ];exact dz
 have hs3:=kX.size;have zm:uQ.heap.size=g+1:=by rw[jL,hg];simp
 have kN:Ϙ W2 W3:=fu (by rw[jL];exact ai (aF _ _) _) kX ϑ
 have hk3:W3.heap[g]? =some (.cells (bG (fV ls) V) 62 (0,0)):=by rw[φ];exact setRow_heap _ _ _ _ _ _ hz2
 have Γ:=aV κ kN;have hg3:w.heap.size<=g:=ϑ;have hgs:g<W3.heap.size:=ϑ;have H3:=aa (af Γ (af hk3 (hS2.below kN (ah _))));clear hX hC φ jL kX kN κ hS2 hz2 hK hs2 hs3 zm hg Γ;clear hq;obtain⟨vt,vn,vw,vu,vr,vh,vk,vs⟩:=V;obtain⟨c3,f3,l3⟩:=ae hk3;by_cases hz:q=0
 rotate_left
 ·go_wp2_with fail
  go_returns;have hqq:eD ls≠0:=by rw[HQ.o];exact hz
  have h1:yS ls=q:=by unfold yS;rw[ak hqq,HQ.o]
  have h2:GG ls=[]:=by unfold GG;rw[ak hqq]
  refine⟨H3.o.1,.slice none 0 0,?_,?_⟩
  ·rw[h1];simp
  ·rw[h2];exact aH.nil _ _
 ·subst hz;have HO:=aa (Mv (fV ls).led vt vn W3 H3.o.2.2.sG H3.o.2.2.Ky);have h1:yS ls=fI (fV ls).led true:=by unfold yS;rw[aG HQ.o]
  have h2:GG ls=if fI (fV ls).led true=0 then zL mH (fV ls).led (eZ (fV ls).led) else[]:=by unfold GG;rw[aG HQ.o]
  obtain⟨q2,hq2⟩: ∃q,fI (fV ls).led true=q:=⟨_,rfl⟩;rw[hq2] at h1 h2;have HH:=aa (af h1 h2);clear h1 h2;go_wp2_with fail
  refine HO.o.mono ?_;rintro e W4 ⟨Ω,hp⟩;rw[hq2] at hp;have gJ:=aa (aV H3.o.1 Ω);clear Ω hq2;rcases hp with⟨hne,rfl⟩|⟨h0,u,rfl,hu⟩
  ·have HN:=aa hne;clear hne;go_wp2_with fail
   go_returns;refine⟨gJ.o,.slice none 0 0,?_,?_⟩
   ·rw[HH.o.1];simp
   ·rw[HH.o.2,ak HN.o];exact aH.nil _ _
  ·subst h0;have HU:=aa hu;obtain⟨uo,uc,rfl⟩:=hu.open;clear hu;go_wp2_with fail
   go_returns;refine⟨gJ.o,.slice uo (zL mH (fV ls).led (eZ (fV ls).led)).length uc,?_,?_⟩
   ·rw[HH.o.1];simp
   ·rw[HH.o.2];simpa using HU.o
theorem xK (lv:Value) (ls:List ay) (w:World) (hls:iK w lv ls) (hE:Env w) (hln: ∀l∈ls,l.length<=1000000):Ϝ 26 #[lv] w (akq ls w):=by
 have vE:=aa hls;have HE:=aa hE;have TT:=aa hln;clear hls hE hln;obtain⟨q,hq⟩: ∃q,eD ls=q:=⟨_,rfl⟩;have HQ:=aa hq;go_enter Tryz.func26,Tryz.ntmps26;go_wp2_with fail
 refine(qZ lv ls w (vE.o) (HE.o) (TT.o) [] ϕ).mono ?_;rintro e W2 ⟨κ,V,es,cv,he,hX,hC⟩;rw[hq] at he;subst he;obtain⟨co,cc,rfl⟩:=aM hC;have hs2:=κ.size;have hS2:=hX W2 (Ext.refl _ _);rename_i hK;refine hK _ _ ?_;refine aC rfl _ (by go_simp;first|rfl|exact⟨rfl,rfl⟩) ?_;simp only[zp];refine aC rfl _ (by go_simp;first|rfl|exact⟨rfl,rfl⟩) ?_;simp only[zp];refine aC rfl _ (by go_simp;first|rfl|exact⟨rfl,rfl⟩) ?_;simp only[zp];refine aC rfl _ (by go_simp;first|rfl|exact⟨rfl,rfl⟩) ?_;simp only[zp];obtain⟨g,hg⟩: ∃g,g=W2.heap.size:=⟨_,rfl⟩;refine aC rfl (w':=W2.alloc (.cells df 62 (0,0))) (.pointer (some ⟨g,0,none⟩)) (by rw[hg];go_simp;try rfl) ?_;simp only[zp];have hz2:(W2.alloc (.cells df 62 (0,0))).heap[g]? =some (.cells df 62 (0,0)):=by rw[hg];exact av _ _
 refine wpList_store_row rfl _ _ _ rfl g (bG (fV ls) V) ϰ ϰ _ df hz2 ϰ ϰ (by rw[jk];exact fun u hu=>fC hS2 u (jS.2 hu)) ?_
 simp only[zp];refine gm fun W3 φ=>?_;obtain⟨uQ,jL⟩: ∃uQ,uQ=W2.alloc (.cells df 62 (0,0)):=⟨_,rfl⟩;rw[<-jL] at φ hz2;have kX:Ext [g] uQ W3:=by rw[φ];exact dz
 have hs3:=kX.size;have zm:uQ.heap.size=g+1:=by rw[jL,hg];simp
 have kN:Ϙ W2 W3:=fu (by rw[jL];exact ai (aF _ _) _) kX ϑ
 have hk3:W3.heap[g]? =some (.cells (bG (fV ls) V) 62 (0,0)):=by rw[φ];exact setRow_heap _ _ _ _ _ _ hz2
 have Γ:=aV κ kN;have hg3:w.heap.size<=g:=ϑ;have hgs:g<W3.heap.size:=ϑ;have H3:=aa (af Γ (af hk3 (hS2.below kN (ah _))));clear hX hC φ jL kX kN κ hS2 hz2 hK hs2 hs3 zm hg Γ;clear hq;obtain⟨vt,vn,vw,vu,vr,vh,vk,vs⟩:=V;obtain⟨c3,f3,l3⟩:=ae hk3;by_cases hz:q=0
 rotate_left
 ·go_wp2_with fail
  go_returns;have hqq:eD ls≠0:=by rw[HQ.o];exact hz
  have h1:Be ls=q:=by unfold Be;rw[ak hqq,HQ.o]
  have h2:Gc ls=[]:=by unfold Gc;rw[ak hqq]
  refine⟨H3.o.1,.slice none 0 0,?_,?_⟩
  ·rw[h1];simp
  ·rw[h2];exact aH.nil _ _
 ·subst hz;have HO:=aa (gZ.PM (fV ls).heap vw vu vr W3 H3.o.2.2.bJ H3.o.2.2.Ab H3.o.2.2.Al);have h1:Be ls=gZ.yx (fV ls).heap:=by unfold Be;rw[aG HQ.o]
  have h2:Gc ls=gZ.Oy (fV ls).heap:=by unfold Gc;rw[aG HQ.o]
  obtain⟨q2,hq2⟩: ∃q,gZ.yx (fV ls).heap=q:=⟨_,rfl⟩;rw[hq2] at h1;have HH:=aa (af h1 h2);clear h1 h2;go_wp2_with fail
  refine HO.o.mono ?_;rintro e W4 ⟨u,he,hu,Ω⟩;rw[hq2] at he;subst he;have gJ:=aa (aV H3.o.1 Ω);have HU:=aa hu;obtain⟨uo,uc,rfl⟩:=hu.open;clear Ω hq2 hu;go_wp2_with fail
  go_returns;refine⟨gJ.o,.slice uo (gZ.Oy (fV ls).heap).length uc,?_,?_⟩
  ·rw[HH.o.1];simp
  ·rw[HH.o.2];exact HU.o
def u6 (xs:List Value):Prop:= ∀u∈xs, ∃k,u= .int .u8 k
theorem Uw (s:ByteArray):u6 (Lib.strCells s):=fun u hu=>by
 simp only[Lib.strCells,gW] at hu;obtain⟨b,_,rfl⟩:=hu;exact⟨_,rfl⟩
theorem Ik {a b:List Value} (ha:u6 a) (hb:u6 b):u6 (a++b):=fun u hu=>by
 rcases gq.1 hu with h|h
 ·exact ha u h
 ·exact hb u h
theorem Yk (n:Nat):u6 (Builtin.zeroCells (Value.int .u8 0).cells n).toList:=fun u hu=>by
 have:u∈(Builtin.zeroCells (Value.int .u8 0).cells n):=jS.1 hu;obtain⟨i,hi,rfl⟩:=Array.mem_iff_getElem.1 this;refine⟨0,?_⟩;simp[Builtin.zeroCells,Value.cells,Nat.mod_one]
section
variable {P : Program} {w : World}
theorem BR (base:Nat) (t u ty e:TypeId) (i:TypeInfo) (ht:P.underlying t=some (.slice e)) (hu:P.underlying u=some .string) (hi:P.info? e=some i) (hz:i.zero=some (.int .u8 0))
 (hsize:i.size=1) (hby:i.bytes=1)
 (v:Value) (n:Nat) (xs:List Value) (Gm:w.ownsRow base e 1 v n xs) (hU: ∀q,v.ownBlock=some q-> ∀cs t f,w.heap[q]? =some (.cells cs t f)->u6 cs.toList) (s:ByteArray)
 (h63:n+s.size<=maxLen) (hbytes:n+s.size<=140737488355328) (Μ:base<=w.heap.size):
 ∃v' w',(Builtin.append_ #[t,u] ty #[v,.string s]).run P w= .ok v' w'/\w'.ownsRow base e 1 v' (n+s.size) (xs++Lib.strCells s)/\w.grownBy w' v.ownBlock/\
  (∀q,v'.ownBlock=some q-> ∀cs t f,w'.heap[q]? =some (.cells cs t f)->u6 cs.toList):=by
 have hsmall:n+s.size<=9223372036854775807:=by simp only[maxLen] at h63;omega
 have hxl:xs.length=n:=by simpa using Gm.1
 have IY:(xs++Lib.strCells s).length=(n+s.size)*1:=by rw[cu,hxl,Lib.strCells_length,Nat.mul_one]
 have hxU:u6 xs:=by
  rcases Gm.2 with⟨rfl,rfl⟩|⟨g,cap,cur,rfl,hbg,hg,hnc,hcm,hcs,htake⟩
  ·have:xs=[]:=jl hxl;subst this;exact fun u hu=>by cases hu
  ·have:=hU g rfl cur e (0,0) hg;rw[<-htake];exact fun u hu=>this u (mi hu)
 have grown: ∀(old:Nat),old<n+s.size-> ∀(row:Option Nat),
  (w.drew.alloc (.cells (xs.toArray++(Lib.strCells s).toArray++Builtin.zeroCells (Value.int .u8 0).cells (grownCap w (n+s.size) old e-(n+s.size))) e)).ownsRow base e 1
    (.slice (some ⟨w.heap.size,0,none⟩) (n+s.size) (grownCap w (n+s.size) old e)) (n+s.size) (xs++Lib.strCells s)/\
  w.grownBy (w.drew.alloc (.cells (xs.toArray++(Lib.strCells s).toArray++Builtin.zeroCells (Value.int .u8 0).cells (grownCap w (n+s.size) old e-(n+s.size))) e)) row/\
  ∀cs t f,(w.drew.alloc (.cells (xs.toArray++(Lib.strCells s).toArray++Builtin.zeroCells (Value.int .u8 0).cells (grownCap w (n+s.size) old e-(n+s.size))) e)).heap[w.heap.size]? =some (.cells cs t f)->u6 cs.toList:=by
  intro old ho row;have hge:=grownCap_ge w (n+s.size) old e;have hcm:grownCap w (n+s.size) old e<=maxLen:=grownCap_le_maxLen w (n+s.size) old e h63;refine⟨⟨IY,.inr ⟨w.heap.size,_,_,rfl,Μ,heap_alloc_new w.drew _,hge,hcm,?_,?_⟩⟩,⟨rfl,rfl,rfl,by simp,fun k hk _=>heap_alloc_old w.drew _ hk⟩,fun cs t f h=>?_⟩
  ·have hz1:(Value.int IntKind.u8 0).cells.size=1:=rfl;simp only[Array.size_append,List.size_toArray,size_zeroCells,hz1,hxl,Lib.strCells_length];omega
  ·simp only[Array.toList_append,List.append_assoc];rw[<-List.append_assoc, <-IY];exact List.take_left
  ·have h2:=(heap_alloc_new w.drew (.cells (xs.toArray++(Lib.strCells s).toArray++Builtin.zeroCells (Value.int .u8 0).cells (grownCap w (n+s.size) old e-(n+s.size))) e)).symm.trans h;simp only[Option.some.injEq,Obj.cells.injEq] at h2;rw[<-h2.1];simp only[Array.toList_append];exact Ik (Ik hxU (Uw s)) (Yk _)
 rcases Gm.2 with⟨rfl,rfl⟩|⟨g,cap,cur,rfl,hbg,hg,hnc,hcm,hcs,htake⟩
 ·have hx:xs=[]:=jl hxl;subst hx;by_cases hm:s.size=0
  ·have hn:Lib.strCells s=[]:=jl (by rw[Lib.strCells_length];exact hm);refine⟨.slice none 0 0,w,?_,by rw[hm,hn];exact World.ownsRow_nil w base e 1,⟨rfl,rfl,rfl,ah _,fun _ _ _=>rfl⟩,fun q hq=>by cases hq⟩;have hf:=Lib.run_firstCells_string (P:=P) w 1 s;rw[hm] at hf;simp[Builtin.append_,run_underlying ht,run_underlying hu,sizeOf,typeInfo,hi,hsize,Builtin.lenOf,hm,hf]
  ·have hr:=run_append_nil_string (P:=P) w t u ty e i (.int .u8 0) ht hu hi hz s ϑ ϑ (by rw[hby];omega);have Y7:=grown 0 ϑ (Value.ownBlock (.slice none 0 0));simp only[Nat.zero_add,List.nil_append,Array.empty_append] at Y7⊢;have e1:(s.data.map fun b=>Value.int .u8 b.toNat)=(Lib.strCells s).toArray:=by
    apply Array.ext';simp[Lib.strCells]
   rw[e1] at hr;refine⟨_,_,hr,Y7.1,Y7.2.1,fun q hq=>?_⟩;obtain rfl:=iJ hq;exact Y7.2.2
 ·by_cases hroom:n+s.size<=cap
  ·have hcs':cur.size=cap:=by simpa using hcs
   have hr:=Lib.run_append_room_string (P:=P) w t u ty e i ht hu hi hsize g n cap cur hg s hroom ϑ;refine⟨_,_,hr,⟨IY,.inr ⟨g,cap,_,rfl,hbg,setRow_heap w g cur _ e _ hg,hroom,hcm,?_,?_⟩⟩,⟨rfl,rfl,rfl,by simp,fun k _ hk=>setRow_other w g k _ (fun e=>hk (by simp[Value.ownBlock,e]))⟩,fun q hq cs t f h=>?_⟩
   ·simp only[List.size_toArray,cu,fJ,jR,Array.length_toList,Lib.strCells_length];omega
   ·have ht':cur.toList.take n=xs:=by simpa using htake
    rw[ht', <-IY];exact List.take_left
   ·obtain rfl:=iJ hq;rw[setRow_heap w g cur _ e _ hg] at h;simp only[Option.some.injEq,Obj.cells.injEq] at h;rw[<-h.1];have hc:=hU g rfl cur e (0,0) hg;exact Ik (Ik (fun u hu=>hc u (mi hu)) (Uw s)) (fun u hu=>hc u (List.mem_of_mem_drop hu))
  ·have holds: ∀j u,xs[j]? =some u->w.cell? ((⟨g,0,none⟩:Addr).add j)=some u:=Gm.cells (g:=g) rfl;have hr:=Lib.run_append_grow_string (P:=P) w t u ty e i (.int .u8 0) ht hu hi hz ⟨g,0,none⟩ n cap xs (by rw[hsize];simpa using hxl) holds s ϑ ϑ (by rw[hby];exact growslice_fits ϑ ϑ);have Y7:=grown cap ϑ (Value.ownBlock (.slice (some ⟨g,0,none⟩) n cap));refine⟨_,_,hr,Y7.1,Y7.2.1,fun q hq=>?_⟩;obtain rfl:=iJ hq;exact Y7.2.2
theorem xN {ops:Array Oper} {rest:List Oper} {o:Oper} {a:Act} {Q:Exit->Act->World->Prop} (hgd:o.guard=none) (sl x:Operand) (t u:TypeId)
 (ho:o.op= .call {callee:= .builtin .append,args:= #[sl,x],argTypes:= #[t,u]})
 (base:Nat) (e:TypeId) (i:TypeInfo) (ht:P.underlying t=some (.slice e)) (hu:P.underlying u=some .string) (hi:P.info? e=some i) (hz:i.zero=some (.int .u8 0))
 (hsize:i.size=1) (hby:i.bytes=1)
 (v:Value) (n:Nat) (xs:List Value) (hs:a.eval sl=v) (Gm:w.ownsRow base e 1 v n xs) (hU: ∀q,v.ownBlock=some q-> ∀cs t f,w.heap[q]? =some (.cells cs t f)->u6 cs.toList) (s:ByteArray) (hx:a.eval x= .string s)
 (h63:n+s.size<=maxLen) (hbytes:n+s.size<=140737488355328) (Μ:base<=w.heap.size)
 (h: ∀v' w',w'.ownsRow base e 1 v' (n+s.size) (xs++Lib.strCells s)->w.grownBy w' v.ownBlock->(∀q,v'.ownBlock=some q-> ∀cs t f,w'.heap[q]? =some (.cells cs t f)->u6 cs.toList)->wpList P ops Q rest (a.put o.dst v') w'):wpList P ops Q (o::rest) a w:=by
 refine wpList_plain hgd fun K hK=>?_;obtain⟨v',w',hr,h2,h3,h4⟩:=BR (P:=P) base t u o.type e i ht hu hi hz hsize hby v n xs Gm hU s h63 hbytes Μ;unfold Oper.wp execOp;simp only[ho,resolve,invoke,builtin,Sem.run_bind,Sem.run_pure,Result.andThen_ok,List.map_toArray,List.map_cons,List.map_nil,hs,hx,hr];exact hK _ _ (h v' w' h2 h3 h4)
end
def zU (B b:Nat) (p:Value) (bs:ay) (w:World):Prop:=
 B<=b/\ ∃v,w.heap[b]? =some (.cells #[p,v] 111 (0,0))/\w.ownsRow B 5 1 v bs.length (Lib.byteCells bs)/\v.ownBlock≠some b/\ ∀q,v.ownBlock=some q-> ∀cs t f,w.heap[q]? =some (.cells cs t f)->u6 cs.toList
def Buf (B b:Nat) (bs:ay) (w:World):Prop:=zU B b (.pointer none) bs w∨zU B b (.pointer (some ⟨b,0,none⟩)) bs w
theorem zU.at_ {B b:Nat} {p:Value} {bs:ay} {w:World} (h:zU B b p bs w):Lib.BuilderAt 111 5 B b p (Lib.byteCells bs) w:=by
 obtain⟨h1,v,h2,h3,h4,_⟩:=h;exact⟨h1,v,h2,by rw[Lib.byteCells_length];exact h3,h4⟩
theorem Buf.is {B b:Nat} {bs:ay} {w:World} (h:Buf B b bs w):Lib.IsBuilder 111 5 B b (Lib.byteCells bs) w:=h.imp zU.at_ zU.at_
theorem zU.below {B b:Nat} {p:Value} {bs:ay} {w W:World} (h:zU B b p bs w) (hb:Ϙ w W):zU B b p bs W:=by
 obtain⟨h1,v,h2,h3,h4,h5⟩:=h;have uM:=(aN.1 h2).1;refine⟨h1,v,(hb.block b uM).trans h2,az (Ms:=[]) h3 (Ext.ax hb) ϕ,h4,fun q hq cs t f hc=>?_⟩;rw[hb.block q (aS h3 q hq).2] at hc;exact h5 q hq cs t f hc
theorem Buf.below {B b:Nat} {bs:ay} {w W:World} (h:Buf B b bs w) (hb:Ϙ w W):Buf B b bs W:=h.imp (fun x=>x.below hb) (fun x=>x.below hb)
structure Wr (B:Nat) (w w':World):Prop where
 below:Below B w w'
 size:w.heap.size<=w'.heap.size
 ints: ∀k,k<w.heap.size->(∃o n,w.cell? ⟨k,o,none⟩=some (iv n))->w'.heap[k]? =w.heap[k]?
theorem Wr.refl (B:Nat) (w:World):Wr B w w:=⟨aF _ _,ah _,fun _ _ _=>rfl⟩
theorem Wr.trans {B:Nat} {a b c:World} (h:Wr B a b) (k:Wr B b c):Wr B a c:=
 ⟨h.below.trans k.below,eU h.size k.size,fun i hi hc=>by
   have h1:=h.ints i hi hc;obtain⟨o,n,hc⟩:=hc;exact(k.ints i (eF hi h.size) ⟨o,n,by rw[gX (w:=a) h1];exact hc⟩).trans h1⟩
theorem Wr.ax {B:Nat} {w w':World} (h:Ϙ w w') (hB:B<=w.heap.size):Wr B w w':=⟨h.mono hB,h.size,fun k hk _=>h.block k hk⟩
theorem Wr.list {B:Nat} {w w':World} (h:Wr B w w') {size:Nat} {v:Value} {n:Nat} {xs:List Value} (hs:aH size w v n xs) (hi: ∀u∈xs, ∃k,u=iv k):aH size w' v n xs:=by
 obtain⟨hl,o,c,rfl,h1,h2,h3,h4⟩:=hs;refine⟨hl,o,c,rfl,h1,h2,h3,fun a ha=>?_⟩;obtain⟨hs,hc⟩:=h4 a ha;obtain⟨b,off,sp⟩:=a;simp only at hs hc;subst hs;refine⟨rfl,fun j u hj=>?_⟩;have Q7:=hc j u hj;obtain⟨k,rfl⟩:=hi u (lg hj);rw[gX (w:=w) (h.ints b (dB w _ Q7) ⟨_,_,Q7⟩)];exact Q7
theorem Za (l:List Int): ∀u∈ag l, ∃k,u=iv k:=fun u hu=>by
 obtain⟨k,_,rfl⟩:=gW.1 hu;exact⟨k,rfl⟩
theorem zf (l:List dF): ∀u∈aB l, ∃k,u=iv k:=fun u hu=>by
 obtain⟨r,_,h⟩:=nW.1 hu;rcases eQ.1 h with rfl|h
 ·exact⟨_,rfl⟩
 ·obtain rfl:=dX.1 h;exact⟨_,rfl⟩
theorem zU.Vk {B b:Nat} {p:Value} {bs:ay} {w:World} (h:zU B b p bs w) (hp: ∀n,p≠iv n) {o:Nat} {n:Int}:w.cell? ⟨b,o,none⟩≠some (iv n):=by
 obtain⟨h1,v,h2,h3,_⟩:=h;intro e;rw[Lib.cell_of_heap h2] at e
 match o with
 |0=>exact hp n (by simpa using e)
 |1=>
  have e':v=iv n:=by simpa using e
  rcases h3.2 with⟨hv,_⟩|⟨g,cap,cur,hv,_⟩ <;>rw[hv] at e' <;>cases e'
 |o+2=>simp at e
theorem zU.wr {B b:Nat} {p:Value} {bs:ay} {w w':World} (h:zU B b p bs w) (hp: ∀n,p≠iv n) {v:Value} (hv:w.cell? ⟨b,1,none⟩=some v) (hb:Below B w w') (hs:w.heap.size<=w'.heap.size)
 (hk: ∀k,k<w.heap.size->k≠b->v.ownBlock≠some k->w'.heap[k]? =w.heap[k]?):Wr B w w':=by
 refine⟨hb,hs,fun k Χ hc=>?_⟩;obtain⟨o,n,hc⟩:=hc;refine hk k Χ (fun e=>?_) (fun e=>?_)
 ·subst e;exact h.Vk hp hc
 ·obtain⟨h1,v',h2,h3,h4,h5⟩:=h;rw[Lib.cell_of_heap h2] at hv;obtain rfl:v'=v:=by simpa using hv
  rcases h3.2 with⟨hv,_⟩|⟨g,cap,cur,hv,_,hg,_⟩
  ·rw[hv] at e;cases e
  ·rw[hv] at e;obtain rfl:g=k:=by simpa [Value.ownBlock] using e
   rw[Lib.cell_of_heap hg] at hc;obtain⟨k',Χ⟩:=h5 g (by rw[hv];rfl) cur _ _ hg (iv n) (by rw[jS];exact Array.mem_of_getElem? hc);cases Χ
theorem Mi (b:Nat) (w:World) (h0:w.cell? ⟨b,0,none⟩=some (.pointer (some ⟨b,0,none⟩))):
 Ϝ 64 #[.pointer (some ⟨b,0,none⟩)] w fun e w'=>e= .returned (.tuple #[])/\w'=w:=by
 obtain⟨j,hj,hjs⟩:=Option.map_eq_some_iff.1 (show(Tryz.prog.info? 111).map (·.size)=some 2 by kernel_rfl)
 go_enter Tryz.func64,Tryz.ntmps64;go_wp2;rw[Lib.run_neq_ptr_same w _ Tryz.underlying109 hj];go_wp2;go_end0
 exact⟨rfl,rfl⟩
theorem Ju (b:Nat) (w:World) (h0:w.cell? ⟨b,0,none⟩=some (.pointer none)) (hsh:w.shape? b=some (111,2)) (hfz:w.frozen? ⟨b,0,none⟩=false):
 Ϝ 64 #[.pointer (some ⟨b,0,none⟩)] w fun e w'=>e= .returned (.tuple #[])/\w'=w.setCell ⟨b,0,none⟩ (.pointer (some ⟨b,0,none⟩)):=by
 obtain⟨j,hj,hjs⟩:=Option.map_eq_some_iff.1 (show(Tryz.prog.info? 111).map (·.size)=some 2 by kernel_rfl)
 go_enter Tryz.func64,Tryz.ntmps64;go_wp2;rw[Lib.run_to_unsafe w ⟨b,0,none⟩ Tryz.underlying109 Tryz.underlying239 hj (by rw[hjs];decide) hsh (Nat.zero_lt_succ 1)];simp only[Result.andThen];rw[Oper.upon_value];go_wp2;rw[run_callFunc_extern Tryz.func110 ϰ ϰ ϰ (e:=Extern.AbiNoEscape.same) ϰ];rw[Lib.run_noEscape];simp only[Result.andThen];rw[Oper.upon_value];go_wp2;rw[Lib.run_from_unsafe w ⟨b,0,none⟩ Tryz.underlying239 Tryz.underlying109 hj hsh ϰ];simp only[Result.andThen];rw[Oper.upon_value];go_wp2;go_end0
 exact⟨rfl,rfl⟩
theorem O8 (B b:Nat) (bs:ay) (w:World) (h:Buf B b bs w):
 Ϝ 64 #[.pointer (some ⟨b,0,none⟩)] w fun e w'=>e= .returned (.tuple #[])/\zU B b (.pointer (some ⟨b,0,none⟩)) bs w'/\Wr B w w':=by
 rcases h with h|h
 ·refine(Ju b w h.at_.cell0 h.at_.shape h.at_.frozen0).mono ?_;rintro e w' ⟨rfl,rfl⟩;have uM:=h.at_.lt;have hw:Wr B w (w.setCell ⟨b,0,none⟩ (.pointer (some ⟨b,0,none⟩))):=
   ⟨(aF B w).setCell (p:=⟨b,0,none⟩) h.1 _,by simp[World.setCell],fun k hk hc=>by
     obtain⟨o,n,hc⟩:=hc;refine bV _ _ _ _ (fun e=>?_);subst e;exact h.Vk (fun _ e=>by cases e) hc⟩
  obtain⟨h1,v,h2,h3,h4,h5⟩:=h;refine⟨rfl,⟨h1,v,?_,?_,h4,fun q hq cs t f hc=>?_⟩,hw⟩
  ·simp[World.setCell,Array.getElem?_modify,h2]
  ·exact h3.kept (row:=some b) ⟨rfl,rfl,rfl,by simp[World.setCell],fun k _ hk=>bV _ _ _ _ (fun e=>hk (by simp[e]))⟩ (Or.inr h4)
  ·rw[bV _ _ _ _ (fun e=>h4 (by rw[hq,e]))] at hc;exact h5 q hq cs t f hc
 ·refine(Mi b w h.at_.cell0).mono ?_;rintro e w' ⟨rfl,rfl⟩;exact⟨rfl,h,Wr.refl _ _⟩
theorem sI (B b:Nat) (bs s:ay) (w:World) (h:Buf B b bs w) (hBw:B<=w.heap.size) (IY:bs.length+s.length<=1000000):
 Ϝ 38 #[.pointer (some ⟨b,0,none⟩),.string (dS s)] w fun e w'=>(∃v,e= .returned v)/\Buf B b (bs++s) w'/\Wr B w w':=by
 have τ:(dS s).size=s.length:=by simp[ByteArray.size]
 obtain⟨i0,hi,hz0,hz1,hz2⟩:=info_parts (show(Tryz.prog.info? 5).map (fun i=>(i.zero,i.size,i.bytes))=some (some (.int .u8 0),1,1) by kernel_rfl)
 have HC:=aa (O8 B b bs w h);clear h;go_enter Tryz.func38,Tryz.ntmps38;go_wp2_with fail
 refine HC.o.mono ?_;rintro e w1 ⟨rfl,h1,hw1⟩;have hp: ∀n,(Value.pointer (some ⟨b,0,none⟩))≠iv n:=fun _ e=>by cases e
 have HA:=aa h1;obtain⟨hB,v,hbk,Gm,hne,hU⟩:=h1;have c0:w1.cell? ⟨b,0,none⟩=some (.pointer (some ⟨b,0,none⟩)):=by rw[Lib.cell_of_heap hbk];rfl
 have c1:w1.cell? ⟨b,1,none⟩=some v:=by rw[Lib.cell_of_heap hbk];rfl
 go_wp2_with (at_builtin;refine xN rfl _ _ 25 9 rfl B 5 i0 Tryz.underlying25 Tryz.underlying9 hi hz0 hz1 hz2 _ _ _ rfl Gm hU (dS s) rfl ?c3 ?c4 ?c5 ?_)
 case c3=>rw[τ];unfold maxLen;omega
 case c4=>rw[τ];omega
 case c5=>have:=hw1.size;omega
 intro v' w2 Ψ ε hU';have uM:b<w1.heap.size:=(aN.1 hbk).1;have κ:w2.heap[b]? =some (.cells #[.pointer (some ⟨b,0,none⟩),v] 111 (0,0)):=by
  rw[ε.block b uM (fun e=>hne e.symm)];exact hbk
 have d0:w2.cell? ⟨b,0,none⟩=some (.pointer (some ⟨b,0,none⟩)):=by rw[Lib.cell_of_heap κ];rfl
 have d1:w2.cell? ⟨b,1,none⟩=some v:=by rw[Lib.cell_of_heap κ];rfl
 have f1:w2.frozen? ⟨b,1,none⟩=false:=Lib.frozen_of_heap κ 1;obtain⟨ao,n',cap,rfl⟩: ∃ao n' cap,v'= .slice ao n' cap:=by
  rcases Ψ.2 with⟨hv,_⟩|⟨g,cap,cur,hv,_⟩
  ·exact⟨_,_,_,hv⟩
  ·exact⟨_,_,_,hv⟩
 have hne':=Lib.ownBlock_ne Ψ κ (show 111≠5 by decide);have HG:=aa (af Ψ (af ε (af hU' (af hw1 (af c1 (af Gm κ))))));clear Ψ ε hU' hw1 hU κ Gm;go_wp2;go_ret2
 obtain⟨Ψ,ε,hU',hw1,c1',Gm,κ⟩:=HG.o;refine⟨⟨_,rfl⟩,.inr ⟨hB,_,?_,?_,hne',fun q hq cs t f hc=>?_⟩,hw1.trans (HA.o.wr hp c1' ?_ ?_ ?_)⟩
 ·simp[World.setCell,Array.getElem?_modify,κ]
 ·have h3:w2.ownsRow B 5 1 (.slice ao n' cap) (bs++s).length (Lib.byteCells (bs++s)):=by
   rw[cu,Lib.byteCells_append, <-τ];exact Ψ
  exact h3.kept (row:=some b) ⟨rfl,rfl,rfl,by simp[World.setCell],fun k _ hk=>bV _ _ _ _ (fun e=>hk (by simp[e]))⟩ (Or.inr hne')
 ·rw[bV _ _ _ _ (fun e=>hne' (by rw[hq,e]))] at hc;first|exact hU' q hq cs t f hc|exact hU' q hq cs t f.1 f.2 hc
 ·exact((aF B w1).grown ε (by have:=hw1.size;omega) (fun k hk=>(Gm.lt k hk).1)).setCell (p:=⟨b,1,none⟩) hB _
 ·have:=ε.size;simp[World.setCell];omega
 ·intro k hk hkb hkv;exact(bV _ _ _ _ (fun e=>hkb e)).trans (ε.block k hk (fun e=>hkv e.symm))
end Go.Proofs.Z.Bk
end

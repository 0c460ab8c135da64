/-
  Texts of this claim, packed by a program: DG DH DI DJ DK DL.
-/
import Derived.WalkKit
import Derived.WalkLawsBesides
import Derived.WalkSpells
import Derived.Outline
import Derived.Handy
import Derived.KernelRfl
import Derived.Lib.Hide
import Derived.Test.YthllkbbbapgelaaGreatDoorPT12
set_option maxHeartbeats 8000000
set_option maxRecDepth 100000
set_option linter.all false
section
namespace Go.Proofs.YthllkbbbapgelaaGreatDoor.Bk
open Go.RowKit Go.RG Go.SL Go.Shelf jl Go.TB Go.Proofs.YthllkbbbapgelaaGreatDoor.zo
theorem note_any (N:Nat) (w:World) (wb:Nat) (s:jJ) (V:SV) (es:List KE) (ns:Value) (x y z:Int) (hO:jO N w wb s V es) (hn:rQ N w ns [x,y,z]) (hG:fP s):Calls Tryz.prog 160 #[.pointer (some ⟨wb,0,none⟩),ns] w (ru N wb (jc s .note [x,y,z]) w):=by
 obtain⟨vt,vn,vw,vu,vr,vh,vk,vs⟩:=V
 obtain⟨o,cc,rfl⟩: ∃o c,vn= .slice o s.led.notes.length c:=aT (n:=s.led.notes.length) (hO.rows.own 1 _ rfl)
 have HO:=ae hO
 have gK:=eG hO
 obtain⟨b,c,rfl,hbN,hcs⟩:=hn
 have lb:b<w.heap.size:=by omega
 have lw:=hO.rows.lt
 have vU:=hO.rows.base
 have HW:Hid (∀W,Below N w W->b<W.heap.size/\ ∀(j:Nat) (h:j<[x,y,z].length),W.cell? ⟨b,j,none⟩=some (iv [x,y,z][j])):=ae (fun W hB=>⟨by have:=hB.size;omega,fun j h=>(ja (hB.block b hbN)).trans (hcs j h)⟩)
 obtain⟨c0,f0,l0⟩:=af hO.blk
 have oN:=hcs 0 (by simp)
 simp only[au] at oN
 have n01:=hcs 1 (by simp)
 simp only[au] at n01
 have n02:=hcs 2 (by simp)
 simp only[au] at n02
 have HB0:Hid (Below w.heap.size w w):=ae (aH _ _)
 have Ld:=hG.notes
 have hwe:=hG.aK
 clear hO hcs hG
 go_enter Tryz.func160,Tryz.ntmps160
 go_wp2_with fail
 refine zg 10 [] none [] ?_
 simp only[zt]
 repeat ((first|refine zd ?_|refine zk ?_);simp only[zp])
 intro W1 hE hF
 have HB1:=ae (bn HB0.o hE.below)
 clear hE hF c0 f0 oN n01 n02
 obtain⟨c1,f1,l1⟩:=af ((HB1.o.block _ lw).trans HO.o.blk)
 obtain⟨wB,hcs1⟩:=HW.o W1 (HB1.o.mono gK)
 have n10:=hcs1 0 (by simp)
 simp only[au] at n10
 have n11:=hcs1 1 (by simp)
 simp only[au] at n11
 have n12:=hcs1 2 (by simp)
 simp only[au] at n12
 clear hcs1
 go_wp2_with fail
 refine(jb _ _ _).mono ?_
 rintro e W2 ⟨hb,⟨hc,rfl⟩|⟨hc,rfl⟩⟩
 rotate_left
 ·simp at hc
  simp only[jc,bU,bV,dA]
  (repeat (first|rw[aF (by omega)]|rw[aj (by omega)]))
  exact⟨rfl,(bn HB1.o hb).mono gK,.inr ⟨by simp,rfl⟩⟩
 simp at hc
 have HB2:=ae (bn HB1.o hb)
 have HS2:=ae hb
 have jK:=ae hc
 clear hb hc c1 f1 wB n10 n11 n12
 obtain⟨c2,f2,l2⟩:=af ((HB2.o.block _ lw).trans HO.o.blk)
 obtain⟨xq,hcs2⟩:=HW.o W2 (HB2.o.mono gK)
 have n20:=hcs2 0 (by simp)
 simp only[au] at n20
 have n21:=hcs2 1 (by simp)
 simp only[au] at n21
 have n22:=hcs2 2 (by simp)
 simp only[au] at n22
 clear hcs2
 go_wp2_with fail
 refine RX.gy (fun ps W'=> ¬(y<=z/\z<=2000)/\ps=kz 2/\Below N w W') 12 [] none [(9,⟨fun _ v=>v=rv (y,z),fun _ _ _=>(y<=z/\z<=2000)⟩),(11,Spec.block W2.heap.size #[iv 0,iv 0,iv 0] 188)] (by rintro ps a1 Wx hdf ⟨h1,rfl,h3⟩;refine⟨hdf,vW (c:=2) h3 ?_ (by decide)⟩;have q0:=jK.o;simp only[jc,bU,bV,dA];(repeat (first|rw[aF (by omega)]|rw[aj (by omega)]))) (by as_aux_lemma=>kernel_rfl) (by as_aux_lemma=>kernel_rfl) ?_
 simp only[zt]
 repeat (refine RX.zd ?_;simp only[zp])
 refine RX.bG _ (by rfl) (by rfl) ⟨_,rfl⟩ (fun Wq hE2 hF2=>?_) (fun v Wa Wb ho hE=>ho) (fun v hv=>?_)
 ·have hE':Ext [] W2 Wq:=hE2
  refine RX.dB 245 #[iv y,iv z] (by go_simp;try rfl) ?_
  refine(vG y z Wq).mono ?_
  rintro e w' ⟨hb,⟨hc,rfl⟩|⟨hc,rfl⟩⟩
  ·exact .inl ⟨_,rfl,rfl,hc,Ext.aA hb⟩
  ·exact .inr ⟨_,rfl,hc,rfl,(bn HB2.o (bn hE'.below hb)).mono gK⟩
 obtain rfl:v=rv (y,z):=hv
 simp only[zp]
 repeat (refine RX.zd ?_;simp only[zp])
 refine RX.jQ W2.heap.size _ _ (by rfl) (ai _) (by rfl) (by simp) (by simp) (fun W hW=>by go_simp;try rfl) (fun b9=>?_)
 simp only[zp]
 intro Wb hE hF
 obtain⟨b9',wE,hge,hk9⟩:=hF _ (bF _)
 cases wE
 have hc:y<=z/\z<=2000:=hF _ (nC _ (bF _))
 have HBb:=ae (bn HB2.o (show Ext [] W2 Wb from hE).below)
 have ry:=ae hc
 have pW:=ae (ag (iR HB2.o.size hge) hk9)
 obtain⟨c9,f9,l9⟩:=af hk9
 clear hE hF hc hge hk9 c2 f2 xq n20 n21 n22
 go_upto_region 2 with(fail)
 refine dM fun W3 qh=>?_
 have HB3:=ae (show Below w.heap.size w W3 from by rw[qh];exact(((HBb.o).setCell pW.o.1 _).setCell pW.o.1 _).setCell pW.o.1 _)
 have Df:=ae (show W3.heap[b9]? =some (.cells #[iv x,iv y,iv z] 188 (0,0)) from by rw[qh];exact aI (aI (aI (pW.o.2) _) _) _)
 have YW:b9<W3.heap.size:=(aS.1 Df.o).1
 clear qh c9 f9 l9
 obtain⟨c3,f3,l3⟩:=af ((HB3.o.block _ lw).trans HO.o.blk)
 obtain⟨JA,hcs3⟩:=HW.o W3 (HB3.o.mono gK)
 have n30:=hcs3 0 (by simp)
 simp only[au] at n30
 have n31:=hcs3 1 (by simp)
 simp only[au] at n31
 have n32:=hcs3 2 (by simp)
 simp only[au] at n32
 clear hcs3
 go_wp2_with fail
 refine(qI _ _ _).mono ?_
 rintro e W4 ⟨hb,⟨hc,rfl⟩|⟨hc,rfl⟩⟩
 rotate_left
 ·simp at hc
  have q0:=jK.o
  have q1:=ry.o
  simp only[jc,bU,bV,dA]
  (repeat (first|rw[aF (by omega)]|rw[aj (by omega)]))
  exact⟨rfl,(bn HB3.o hb).mono gK,.inr ⟨by simp,rfl⟩⟩
 simp at hc
 have HB4:=ae (bn HB3.o hb)
 have UB:=ae hb
 have yA:=ae hc
 clear hb hc c3 f3 JA n30 n31 n32
 obtain⟨c4,f4,l4⟩:=af ((HB4.o.block _ lw).trans HO.o.blk)
 obtain⟨PU,jY⟩:=HW.o W4 (HB4.o.mono gK)
 have n40:=jY 0 (by simp)
 simp only[au] at n40
 have n41:=jY 1 (by simp)
 simp only[au] at n41
 have n42:=jY 2 (by simp)
 simp only[au] at n42
 clear jY
 go_wp2_with fail
 obtain⟨Ms,hMs⟩: ∃Ms,Ms=(Value.slice o s.led.notes.length cc).ownBlock.toList:=⟨_,rfl⟩
 have hO4:=HO.o.below HB4.o
 have hm1:wb∉Ms:=fun h=>hO4.rows.off 1 _ rfl (by rw[hMs] at h;exact dH.1 h)
 have hm2:b∉Ms:=fun h=>by have:=((hO4.rows.own 1 _ rfl).lt b (by rw[hMs] at h;exact dH.1 h)).1;omega
 have ug: ∀m∈Ms,m<W4.heap.size:=fun m h=>((hO4.rows.own 1 _ rfl).lt m (by rw[hMs] at h;exact dH.1 h)).2
 obtain⟨c9,f9,l9⟩:=af ((UB.o.block _ YW).trans Df.o)
 have hm9:b9∉Ms:=fun h=>by have:=((HO.o.rows.own 1 _ rfl).lt b9 (by rw[hMs] at h;exact dH.1 h)).2;have:=pW.o.1;omega
 have HM:=ae hMs
 have jq:=ae hO4
 clear hMs hO4
 refine zg 10 Ms (some 9) [(8,Spec.slice W4.heap.size #[iv x,iv y,iv z] 188 1),(9,⟨fun _ v=> ∃o2 c2,v= .slice o2 (s.led.notes.length+1) c2,fun _ v Wx=>Wx.ownsRow N 188 3 v (s.led.notes.length+1) (aX s.led.notes++[iv x,iv y,iv z])/\(v.ownBlock=(Value.slice o s.led.notes.length cc).ownBlock∨ ∃q,v.ownBlock=some q/\W4.heap.size<=q)⟩)] ?_
 simp only[zt]
 repeat ((first|refine zd ?_|refine zk ?_);simp only[zp])
 refine dX W4.heap.size _ _ 1 (by rfl) (ai _) (by rfl) ug (by simp) (fun W hW=>by go_simp;try rfl) (fun b6=>?_)
 simp only[zp]
 repeat ((first|refine zd ?_|refine zk ?_);simp only[zp])
 refine bG _ (by rfl) (by rfl) (by exact⟨.slice none (s.led.notes.length+1) 0,none,0,rfl⟩) (fun W6 hE hF=>?_) (fun v Wa Wb ho hE=>?_) (fun v hv=>?_)
 ·have hE':Ext [] W4 W6:=hE
  obtain⟨b',hb',hge,hcc⟩:=hF _ (bF _) (by kernel_rfl)
  cases hb'
  have hown6:W6.ownsRow N 188 3 (.slice o s.led.notes.length cc) s.led.notes.length (aX s.led.notes):=aC (Ms:=[]) (jq.o.rows.own 1 _ rfl) hE' (by simp)
  have hsrc:aN 3 W6 (.slice (some ⟨b6,0,none⟩) 1 1) 1 ([iv x,iv y,iv z]):=aN.dD 3 1 hcc rfl (by decide)
  refine Does.mono (dK aa5 (by rfl) (by rfl) hown6 (by rfl) hsrc (FP x y z) (by omega) (by omega) (by have:=hE'.size;have:=HB4.o.size;omega)) ?_
  rintro v' W7 ⟨ho,hgr,hcase⟩
  refine⟨aT ho,⟨ho,?_⟩,⟨hgr.os,hgr.tape,hgr.output,hgr.size,fun b hb hn=>hgr.block b hb (fun e=>hn (by rw[HM.o];exact dH.2 e.symm))⟩⟩
  rcases hcase with h1|h1
  ·exact .inl h1
  ·exact .inr ⟨_,h1,hE'.size⟩
 ·exact⟨aC (Ms:=[]) ho.1 hE (by simp),ho.2⟩
 obtain⟨o7,c7,rfl⟩:=hv
 simp only[zp]
 intro W5 hE hF
 obtain⟨qE,zS⟩:=hF _ (bF _)
 have gZ:Ext Ms W4 W5:=hE
 have hbl:=(gZ.block wb jq.o.rows.lt hm1).trans jq.o.blk
 obtain⟨c5,f5,l5⟩:=af hbl
 have iW:=ae (ag gZ (ag qE (ag zS hbl)))
 have Ah:Below N w W5:=(HB4.o.mono gK).trans ⟨gZ.os,gZ.tape,gZ.output,gZ.size,fun k hk=>gZ.block k (by have:=HB4.o.size;omega) (fun h=>by have:=((jq.o.rows.own 1 _ rfl).lt k (by rw[HM.o] at h;exact dH.1 h)).1;omega)⟩
 have pU:=ae Ah
 clear hE hF gZ qE zS hbl Ah hm1 hm2 ug c4 f4 PU n40 n41 n42
 go_wp2_with fail
 go_end0
 have q0:=jK.o
 have q1:=ry.o
 have q2:=yA.o
 simp only[jc,bU,bV,dA]
 (repeat (first|rw[aF (by omega)]|rw[aj (by omega)]))
 refine⟨pU.o.setCell vU _,.inl ⟨rfl,rfl,⟨vt,.slice o7 (s.led.notes.length+1) c7,vw,vu,vr,vh,vk,vs⟩,es,jq.o.put (i:=1) rfl ⟨188,3,.slice o7 (s.led.notes.length+1) c7,s.led.notes.length+1,aX s.led.notes++[iv x,iv y,iv z]⟩ iW.o.1 (fun m hm=>by rw[HM.o] at hm;exact dH.1 hm) iW.o.2.1 iW.o.2.2.1 (aI iW.o.2.2.2 _) (by simp[iI,oD,aX]) (jq.o.es)⟩⟩
theorem Kr (N:Nat) (w:World) (wb:Nat) (s:jJ) (V:SV) (es:List KE) (ns:Value) (x y z p q:Int) (hO:jO N w wb s V es) (hn:rQ N w ns [x,y,z,p,q]) (hG:fP s) (hyz:y<z):Calls Tryz.prog 155 #[.pointer (some ⟨wb,0,none⟩),ns] w (ru N wb (jc s .tally [x,y,z,p,q]) w):=by
 obtain⟨vt,vn,vw,vu,vr,vh,vk,vs⟩:=V
 obtain⟨o,cc,rfl⟩: ∃o c,vt= .slice o s.led.field.ax.length c:=aT (n:=s.led.field.ax.length) (hO.rows.own 0 _ rfl)
 have HO:=ae hO
 have gK:=eG hO
 obtain⟨b,c,rfl,hbN,hcs⟩:=hn
 have lb:b<w.heap.size:=by omega
 have lw:=hO.rows.lt
 have vU:=hO.rows.base
 have HW:Hid (∀W,Below N w W->b<W.heap.size/\ ∀(j:Nat) (h:j<[x,y,z,p,q].length),W.cell? ⟨b,j,none⟩=some (iv [x,y,z,p,q][j])):=ae (fun W hB=>⟨by have:=hB.size;omega,fun j h=>(ja (hB.block b hbN)).trans (hcs j h)⟩)
 obtain⟨c0,f0,l0⟩:=af hO.blk
 have oN:=hcs 0 (by simp)
 simp only[au] at oN
 have n01:=hcs 1 (by simp)
 simp only[au] at n01
 have n02:=hcs 2 (by simp)
 simp only[au] at n02
 have n03:=hcs 3 (by simp)
 simp only[au] at n03
 have n04:=hcs 4 (by simp)
 simp only[au] at n04
 have HB0:Hid (Below w.heap.size w w):=ae (aH _ _)
 have Ld:=hG.En
 have hwe:=hG.aK
 have jK:=ae hyz
 clear hO hcs hG
 go_enter Tryz.func155,Tryz.ntmps155
 go_wp2_with fail
 refine zg 7 [] none [] ?_
 simp only[zt]
 repeat ((first|refine zd ?_|refine zk ?_);simp only[zp])
 intro W1 hE hF
 have HB1:=ae (bn HB0.o hE.below)
 clear hE hF c0 f0 oN n01 n02 n03 n04
 obtain⟨c1,f1,l1⟩:=af ((HB1.o.block _ lw).trans HO.o.blk)
 obtain⟨wB,hcs1⟩:=HW.o W1 (HB1.o.mono gK)
 have n10:=hcs1 0 (by simp)
 simp only[au] at n10
 have n11:=hcs1 1 (by simp)
 simp only[au] at n11
 have n12:=hcs1 2 (by simp)
 simp only[au] at n12
 have n13:=hcs1 3 (by simp)
 simp only[au] at n13
 have n14:=hcs1 4 (by simp)
 simp only[au] at n14
 clear hcs1
 go_wp2_with fail
 refine(jb _ _ _).mono ?_
 rintro e W2 ⟨hb,⟨hc,rfl⟩|⟨hc,rfl⟩⟩
 rotate_left
 ·simp at hc
  have q0:=jK.o
  simp only[jc,bU,bV,dA]
  (repeat (first|rw[aF (by omega)]|rw[aj (by omega)]))
  exact⟨rfl,(bn HB1.o hb).mono gK,.inr ⟨by simp,rfl⟩⟩
 simp at hc
 have HB2:=ae (bn HB1.o hb)
 have HS2:=ae hb
 have ry:=ae hc
 clear hb hc c1 f1 wB n10 n11 n12 n13 n14
 obtain⟨c2,f2,l2⟩:=af ((HB2.o.block _ lw).trans HO.o.blk)
 obtain⟨xq,hcs2⟩:=HW.o W2 (HB2.o.mono gK)
 have n20:=hcs2 0 (by simp)
 simp only[au] at n20
 have n21:=hcs2 1 (by simp)
 simp only[au] at n21
 have n22:=hcs2 2 (by simp)
 simp only[au] at n22
 have n23:=hcs2 3 (by simp)
 simp only[au] at n23
 have n24:=hcs2 4 (by simp)
 simp only[au] at n24
 clear hcs2
 go_wp2_with fail
 refine zg 11 [] none [] ?_
 simp only[zt]
 repeat ((first|refine zd ?_|refine zk ?_);simp only[zp])
 intro W3 hE hF
 have HB3:=ae (bn HB2.o hE.below)
 clear hE hF c2 f2 xq n20 n21 n22 n23 n24
 obtain⟨c3,f3,l3⟩:=af ((HB3.o.block _ lw).trans HO.o.blk)
 obtain⟨JA,hcs3⟩:=HW.o W3 (HB3.o.mono gK)
 have n30:=hcs3 0 (by simp)
 simp only[au] at n30
 have n31:=hcs3 1 (by simp)
 simp only[au] at n31
 have n32:=hcs3 2 (by simp)
 simp only[au] at n32
 have n33:=hcs3 3 (by simp)
 simp only[au] at n33
 have n34:=hcs3 4 (by simp)
 simp only[au] at n34
 clear hcs3
 go_wp2_with fail
 clear hyz
 refine(jb _ _ _).mono ?_
 rintro e W4 ⟨hb,⟨hc,rfl⟩|⟨hc,rfl⟩⟩
 rotate_left
 ·simp at hc
  have q0:=jK.o
  have q1:=ry.o
  simp only[jc,bU,bV,dA]
  (repeat (first|rw[aF (by omega)]|rw[aj (by omega)]))
  exact⟨rfl,(bn HB3.o hb).mono gK,.inr ⟨by simp,rfl⟩⟩
 simp at hc
 have HB4:=ae (bn HB3.o hb)
 have UB:=ae hb
 have yA:=ae hc
 clear hb hc c3 f3 JA n30 n31 n32 n33 n34
 obtain⟨c4,f4,l4⟩:=af ((HB4.o.block _ lw).trans HO.o.blk)
 obtain⟨PU,jY⟩:=HW.o W4 (HB4.o.mono gK)
 have n40:=jY 0 (by simp)
 simp only[au] at n40
 have n41:=jY 1 (by simp)
 simp only[au] at n41
 have n42:=jY 2 (by simp)
 simp only[au] at n42
 have n43:=jY 3 (by simp)
 simp only[au] at n43
 have n44:=jY 4 (by simp)
 simp only[au] at n44
 clear jY
 go_wp2_with fail
 refine zg 6 [] none [] ?_
 simp only[zt]
 repeat ((first|refine zd ?_|refine zk ?_);simp only[zp])
 intro W5 hE hF
 have pV:=ae (bn HB4.o hE.below)
 clear hE hF c4 f4 PU n40 n41 n42 n43 n44
 obtain⟨c5,f5,l5⟩:=af ((pV.o.block _ lw).trans HO.o.blk)
 obtain⟨lb5,um⟩:=HW.o W5 (pV.o.mono gK)
 have n50:=um 0 (by simp)
 simp only[au] at n50
 have n51:=um 1 (by simp)
 simp only[au] at n51
 have n52:=um 2 (by simp)
 simp only[au] at n52
 have n53:=um 3 (by simp)
 simp only[au] at n53
 have n54:=um 4 (by simp)
 simp only[au] at n54
 clear um
 go_wp2_with fail
 refine(dW 2 [decide (z<y)] W5 (by simp) _ (by simp[dI]) _ _ rfl).mono ?_
 rintro e W6 ⟨hb,⟨hc,rfl⟩|⟨hc,rfl⟩⟩
 rotate_left
 ·simp at hc
  have q0:=jK.o
  have q1:=ry.o
  have q2:=yA.o
  (exfalso;omega)
 simp at hc
 have qG:=ae (bn pV.o hb)
 have HS6:=ae hb
 have Ie:=ae hc
 clear hb hc c5 f5 lb5 n50 n51 n52 n53 n54
 obtain⟨c6,f6,l6⟩:=af ((qG.o.block _ lw).trans HO.o.blk)
 obtain⟨lb6,uk⟩:=HW.o W6 (qG.o.mono gK)
 have n60:=uk 0 (by simp)
 simp only[au] at n60
 have n61:=uk 1 (by simp)
 simp only[au] at n61
 have n62:=uk 2 (by simp)
 simp only[au] at n62
 have n63:=uk 3 (by simp)
 simp only[au] at n63
 have n64:=uk 4 (by simp)
 simp only[au] at n64
 clear uk
 go_wp2_with fail
 refine RX.gy (fun ps W'=> ¬(p<=q/\q<=s.led.field.rows)/\ps=kz 2/\Below N w W') 19 [] none [(16,⟨fun _ v=>v=rv (p,q),fun _ _ _=>(p<=q/\q<=s.led.field.rows)⟩),(18,Spec.block W6.heap.size #[iv 0,iv 0,iv 0,iv 0,iv 0] 186)] (by rintro ps a1 Wx hdf ⟨h1,rfl,h3⟩;refine⟨hdf,vW (c:=2) h3 ?_ (by decide)⟩;have q0:=jK.o;have q1:=ry.o;have q2:=yA.o;have q3:=Ie.o;simp only[jc,bU,bV,dA];(repeat (first|rw[aF (by omega)]|rw[aj (by omega)]))) (by as_aux_lemma=>kernel_rfl) (by as_aux_lemma=>kernel_rfl) ?_
 simp only[zt]
 repeat (refine RX.zd ?_;simp only[zp])
 refine RX.bG _ (by rfl) (by rfl) ⟨_,rfl⟩ (fun Wq hE2 hF2=>?_) (fun v Wa Wb ho hE=>ho) (fun v hv=>?_)
 ·have hE':Ext [] W6 Wq:=hE2
  refine RX.dB 242 #[.pointer (some ⟨wb,0,none⟩),iv p,iv q] (by go_simp;try rfl) ?_
  refine(uF p q wb s _ Wq ((hE'.block _ (fJ lw qG.o.size) (by simp)).trans ((qG.o.block _ lw).trans HO.o.blk))).mono ?_
  rintro e w' ⟨hb,⟨hc,rfl⟩|⟨hc,rfl⟩⟩
  ·exact .inl ⟨_,rfl,rfl,hc,Ext.aA hb⟩
  ·exact .inr ⟨_,rfl,hc,rfl,(bn qG.o (bn hE'.below hb)).mono gK⟩
 obtain rfl:v=rv (p,q):=hv
 simp only[zp]
 repeat (refine RX.zd ?_;simp only[zp])
 refine RX.jQ W6.heap.size _ _ (by rfl) (ai _) (by rfl) (by simp) (by simp) (fun W hW=>by go_simp;try rfl) (fun b9=>?_)
 simp only[zp]
 intro Wb hE hF
 obtain⟨b9',wE,hge,hk9⟩:=hF _ (bF _)
 cases wE
 have hc:p<=q/\q<=s.led.field.rows:=hF _ (nC _ (bF _))
 have HBb:=ae (bn qG.o (show Ext [] W6 Wb from hE).below)
 have UC:=ae hc
 have pW:=ae (ag (iR qG.o.size hge) hk9)
 obtain⟨c9,f9,l9⟩:=af hk9
 clear hE hF hc hge hk9 c6 f6 lb6 n60 n61 n62 n63 n64
 go_upto_region 5 with(fail)
 refine dM fun W7 qh=>?_
 have zB:=ae (show Below w.heap.size w W7 from by rw[qh];exact(((((HBb.o).setCell pW.o.1 _).setCell pW.o.1 _).setCell pW.o.1 _).setCell pW.o.1 _).setCell pW.o.1 _)
 have Df:=ae (show W7.heap[b9]? =some (.cells #[iv x,iv y,iv z,iv p,iv q] 186 (0,0)) from by rw[qh];exact aI (aI (aI (aI (aI (pW.o.2) _) _) _) _) _)
 have YW:b9<W7.heap.size:=(aS.1 Df.o).1
 clear qh c9 f9 l9
 obtain⟨c7,f7,l7⟩:=af ((zB.o.block _ lw).trans HO.o.blk)
 obtain⟨lb7,uj⟩:=HW.o W7 (zB.o.mono gK)
 have n70:=uj 0 (by simp)
 simp only[au] at n70
 have n71:=uj 1 (by simp)
 simp only[au] at n71
 have n72:=uj 2 (by simp)
 simp only[au] at n72
 have n73:=uj 3 (by simp)
 simp only[au] at n73
 have n74:=uj 4 (by simp)
 simp only[au] at n74
 clear uj
 go_wp2_with fail
 refine(qI _ _ _).mono ?_
 rintro e W8 ⟨hb,⟨hc,rfl⟩|⟨hc,rfl⟩⟩
 rotate_left
 ·simp at hc
  have q0:=jK.o
  have q1:=ry.o
  have q2:=yA.o
  have q3:=Ie.o
  have q4:=UC.o
  simp only[jc,bU,bV,dA]
  (repeat (first|rw[aF (by omega)]|rw[aj (by omega)]))
  exact⟨rfl,(bn zB.o hb).mono gK,.inr ⟨by simp,rfl⟩⟩
 simp at hc
 have pU:=ae (bn zB.o hb)
 have HS8:=ae hb
 have HQ5:=ae hc
 clear hb hc c7 f7 lb7 n70 n71 n72 n73 n74
 obtain⟨c8,f8,l8⟩:=af ((pU.o.block _ lw).trans HO.o.blk)
 obtain⟨lb8,Cj⟩:=HW.o W8 (pU.o.mono gK)
 have n80:=Cj 0 (by simp)
 simp only[au] at n80
 have n81:=Cj 1 (by simp)
 simp only[au] at n81
 have n82:=Cj 2 (by simp)
 simp only[au] at n82
 have n83:=Cj 3 (by simp)
 simp only[au] at n83
 have n84:=Cj 4 (by simp)
 simp only[au] at n84
 clear Cj
 go_wp2_with fail
 obtain⟨Ms,hMs⟩: ∃Ms,Ms=(Value.slice o s.led.field.ax.length cc).ownBlock.toList:=⟨_,rfl⟩
 have Gw:=HO.o.below pU.o
 have hm1:wb∉Ms:=fun h=>Gw.rows.off 0 _ rfl (by rw[hMs] at h;exact dH.1 h)
 have hm2:b∉Ms:=fun h=>by have:=((Gw.rows.own 0 _ rfl).lt b (by rw[hMs] at h;exact dH.1 h)).1;omega
 have ug: ∀m∈Ms,m<W8.heap.size:=fun m h=>((Gw.rows.own 0 _ rfl).lt m (by rw[hMs] at h;exact dH.1 h)).2
 obtain⟨c9,f9,l9⟩:=af ((HS8.o.block _ YW).trans Df.o)
 have hm9:b9∉Ms:=fun h=>by have:=((HO.o.rows.own 0 _ rfl).lt b9 (by rw[hMs] at h;exact dH.1 h)).2;have:=pW.o.1;omega
 have HM:=ae hMs
 have jq:=ae Gw
 clear hMs Gw
 refine zg 8 Ms (some 7) [(6,Spec.slice W8.heap.size #[iv x,iv y,iv z,iv p,iv q] 186 1),(7,⟨fun _ v=> ∃o2 c2,v= .slice o2 (s.led.field.ax.length+1) c2,fun _ v Wx=>Wx.ownsRow N 186 5 v (s.led.field.ax.length+1) (dJ s.led.field.ax++[iv x,iv y,iv z,iv p,iv q])/\(v.ownBlock=(Value.slice o s.led.field.ax.length cc).ownBlock∨ ∃q,v.ownBlock=some q/\W8.heap.size<=q)⟩)] ?_
 simp only[zt]
 repeat ((first|refine zd ?_|refine zk ?_);simp only[zp])
 refine dX W8.heap.size _ _ 1 (by rfl) (ai _) (by rfl) ug (by simp) (fun W hW=>by go_simp;try rfl) (fun b6=>?_)
 simp only[zp]
 repeat ((first|refine zd ?_|refine zk ?_);simp only[zp])
 refine bG _ (by rfl) (by rfl) (by exact⟨.slice none (s.led.field.ax.length+1) 0,none,0,rfl⟩) (fun W6 hE hF=>?_) (fun v Wa Wb ho hE=>?_) (fun v hv=>?_)
 ·have hE':Ext [] W8 W6:=hE
  obtain⟨b',hb',hge,hcc⟩:=hF _ (bF _) (by kernel_rfl)
  cases hb'
  have hown6:W6.ownsRow N 186 5 (.slice o s.led.field.ax.length cc) s.led.field.ax.length (dJ s.led.field.ax):=aC (Ms:=[]) (jq.o.rows.own 0 _ rfl) hE' (by simp)
  have hsrc:aN 5 W6 (.slice (some ⟨b6,0,none⟩) 1 1) 1 ([iv x,iv y,iv z,iv p,iv q]):=aN.dD 5 1 hcc rfl (by decide)
  refine Does.mono (dK Yc (by rfl) (by rfl) hown6 (by rfl) hsrc (NF x y z p q) (by omega) (by omega) (by have:=hE'.size;have:=pU.o.size;omega)) ?_
  rintro v' W7 ⟨ho,hgr,hcase⟩
  refine⟨aT ho,⟨ho,?_⟩,⟨hgr.os,hgr.tape,hgr.output,hgr.size,fun b hb hn=>hgr.block b hb (fun e=>hn (by rw[HM.o];exact dH.2 e.symm))⟩⟩
  rcases hcase with h1|h1
  ·exact .inl h1
  ·exact .inr ⟨_,h1,hE'.size⟩
 ·exact⟨aC (Ms:=[]) ho.1 hE (by simp),ho.2⟩
 obtain⟨o7,c7,rfl⟩:=hv
 simp only[zp]
 intro W9 hE hF
 obtain⟨qE,zS⟩:=hF _ (bF _)
 have gZ:Ext Ms W8 W9:=hE
 have hbl:=(gZ.block wb jq.o.rows.lt hm1).trans jq.o.blk
 obtain⟨c9,f9,l9⟩:=af hbl
 have iW:=ae (ag gZ (ag qE (ag zS hbl)))
 have Ah:Below N w W9:=(pU.o.mono gK).trans ⟨gZ.os,gZ.tape,gZ.output,gZ.size,fun k hk=>gZ.block k (by have:=pU.o.size;omega) (fun h=>by have:=((jq.o.rows.own 0 _ rfl).lt k (by rw[HM.o] at h;exact dH.1 h)).1;omega)⟩
 have pU:=ae Ah
 clear hE hF gZ qE zS hbl Ah hm1 hm2 ug c8 f8 lb8 n80 n81 n82 n83 n84
 go_wp2_with fail
 go_end0
 have q0:=jK.o
 have q1:=ry.o
 have q2:=yA.o
 have q3:=Ie.o
 have q4:=UC.o
 have q5:=HQ5.o
 simp only[jc,bU,bV,dA]
 (repeat (first|rw[aF (by omega)]|rw[aj (by omega)]))
 refine⟨pU.o.setCell vU _,.inl ⟨rfl,rfl,⟨.slice o7 (s.led.field.ax.length+1) c7,vn,vw,vu,vr,vh,vk,vs⟩,es,jq.o.put (i:=0) rfl ⟨186,5,.slice o7 (s.led.field.ax.length+1) c7,s.led.field.ax.length+1,dJ s.led.field.ax++[iv x,iv y,iv z,iv p,iv q]⟩ iW.o.1 (fun m hm=>by rw[HM.o] at hm;exact dH.1 hm) iW.o.2.1 iW.o.2.2.1 (aI iW.o.2.2.2 _) (by simp[iI,mX,dJ]) (jq.o.es)⟩⟩
theorem Kt (N:Nat) (w:World) (wb:Nat) (s:jJ) (V:SV) (es:List KE) (ns:Value) (x y z p q:Int) (hO:jO N w wb s V es) (hn:rQ N w ns [x,y,z,p,q]) (hG:fP s) (hyz:z<=y):Calls Tryz.prog 155 #[.pointer (some ⟨wb,0,none⟩),ns] w (ru N wb (jc s .tally [x,y,z,p,q]) w):=by
 obtain⟨vt,vn,vw,vu,vr,vh,vk,vs⟩:=V
 obtain⟨o,cc,rfl⟩: ∃o c,vt= .slice o s.led.field.ax.length c:=aT (n:=s.led.field.ax.length) (hO.rows.own 0 _ rfl)
 have HO:=ae hO
 have gK:=eG hO
 obtain⟨b,c,rfl,hbN,hcs⟩:=hn
 have lb:b<w.heap.size:=by omega
 have lw:=hO.rows.lt
 have vU:=hO.rows.base
 have HW:Hid (∀W,Below N w W->b<W.heap.size/\ ∀(j:Nat) (h:j<[x,y,z,p,q].length),W.cell? ⟨b,j,none⟩=some (iv [x,y,z,p,q][j])):=ae (fun W hB=>⟨by have:=hB.size;omega,fun j h=>(ja (hB.block b hbN)).trans (hcs j h)⟩)
 obtain⟨c0,f0,l0⟩:=af hO.blk
 have oN:=hcs 0 (by simp)
 simp only[au] at oN
 have n01:=hcs 1 (by simp)
 simp only[au] at n01
 have n02:=hcs 2 (by simp)
 simp only[au] at n02
 have n03:=hcs 3 (by simp)
 simp only[au] at n03
 have n04:=hcs 4 (by simp)
 simp only[au] at n04
 have HB0:Hid (Below w.heap.size w w):=ae (aH _ _)
 have Ld:=hG.En
 have hwe:=hG.aK
 have jK:=ae hyz
 clear hO hcs hG
 go_enter Tryz.func155,Tryz.ntmps155
 go_wp2_with fail
 refine zg 7 [] none [] ?_
 simp only[zt]
 repeat ((first|refine zd ?_|refine zk ?_);simp only[zp])
 intro W1 hE hF
 have HB1:=ae (bn HB0.o hE.below)
 clear hE hF c0 f0 oN n01 n02 n03 n04
 obtain⟨c1,f1,l1⟩:=af ((HB1.o.block _ lw).trans HO.o.blk)
 obtain⟨wB,hcs1⟩:=HW.o W1 (HB1.o.mono gK)
 have n10:=hcs1 0 (by simp)
 simp only[au] at n10
 have n11:=hcs1 1 (by simp)
 simp only[au] at n11
 have n12:=hcs1 2 (by simp)
 simp only[au] at n12
 have n13:=hcs1 3 (by simp)
 simp only[au] at n13
 have n14:=hcs1 4 (by simp)
 simp only[au] at n14
 clear hcs1
 go_wp2_with fail
 refine(jb _ _ _).mono ?_
 rintro e W2 ⟨hb,⟨hc,rfl⟩|⟨hc,rfl⟩⟩
 rotate_left
 ·simp at hc
  have q0:=jK.o
  simp only[jc,bU,bV,dA]
  (repeat (first|rw[aF (by omega)]|rw[aj (by omega)]))
  exact⟨rfl,(bn HB1.o hb).mono gK,.inr ⟨by simp,rfl⟩⟩
 simp at hc
 have HB2:=ae (bn HB1.o hb)
 have HS2:=ae hb
 have ry:=ae hc
 clear hb hc c1 f1 wB n10 n11 n12 n13 n14
 obtain⟨c2,f2,l2⟩:=af ((HB2.o.block _ lw).trans HO.o.blk)
 obtain⟨xq,hcs2⟩:=HW.o W2 (HB2.o.mono gK)
 have n20:=hcs2 0 (by simp)
 simp only[au] at n20
 have n21:=hcs2 1 (by simp)
 simp only[au] at n21
 have n22:=hcs2 2 (by simp)
 simp only[au] at n22
 have n23:=hcs2 3 (by simp)
 simp only[au] at n23
 have n24:=hcs2 4 (by simp)
 simp only[au] at n24
 clear hcs2
 go_wp2_with fail
 refine zg 11 [] none [] ?_
 simp only[zt]
 repeat ((first|refine zd ?_|refine zk ?_);simp only[zp])
 intro W3 hE hF
 have HB3:=ae (bn HB2.o hE.below)
 clear hE hF c2 f2 xq n20 n21 n22 n23 n24
 obtain⟨c3,f3,l3⟩:=af ((HB3.o.block _ lw).trans HO.o.blk)
 obtain⟨JA,hcs3⟩:=HW.o W3 (HB3.o.mono gK)
 have n30:=hcs3 0 (by simp)
 simp only[au] at n30
 have n31:=hcs3 1 (by simp)
 simp only[au] at n31
 have n32:=hcs3 2 (by simp)
 simp only[au] at n32
 have n33:=hcs3 3 (by simp)
 simp only[au] at n33
 have n34:=hcs3 4 (by simp)
 simp only[au] at n34
 clear hcs3
 go_wp2_with fail
 clear hyz
 refine(jb _ _ _).mono ?_
 rintro e W4 ⟨hb,⟨hc,rfl⟩|⟨hc,rfl⟩⟩
 rotate_left
 ·simp at hc
  have q0:=jK.o
  have q1:=ry.o
  simp only[jc,bU,bV,dA]
  (repeat (first|rw[aF (by omega)]|rw[aj (by omega)]))
  exact⟨rfl,(bn HB3.o hb).mono gK,.inr ⟨by simp,rfl⟩⟩
 simp at hc
 have HB4:=ae (bn HB3.o hb)
 have UB:=ae hb
 have yA:=ae hc
 clear hb hc c3 f3 JA n30 n31 n32 n33 n34
 obtain⟨c4,f4,l4⟩:=af ((HB4.o.block _ lw).trans HO.o.blk)
 obtain⟨PU,jY⟩:=HW.o W4 (HB4.o.mono gK)
 have n40:=jY 0 (by simp)
 simp only[au] at n40
 have n41:=jY 1 (by simp)
 simp only[au] at n41
 have n42:=jY 2 (by simp)
 simp only[au] at n42
 have n43:=jY 3 (by simp)
 simp only[au] at n43
 have n44:=jY 4 (by simp)
 simp only[au] at n44
 clear jY
 go_wp2_with fail
 refine zg 6 [] none [] ?_
 simp only[zt]
 repeat ((first|refine zd ?_|refine zk ?_);simp only[zp])
 intro W5 hE hF
 have pV:=ae (bn HB4.o hE.below)
 clear hE hF c4 f4 PU n40 n41 n42 n43 n44
 obtain⟨c5,f5,l5⟩:=af ((pV.o.block _ lw).trans HO.o.blk)
 obtain⟨lb5,um⟩:=HW.o W5 (pV.o.mono gK)
 have n50:=um 0 (by simp)
 simp only[au] at n50
 have n51:=um 1 (by simp)
 simp only[au] at n51
 have n52:=um 2 (by simp)
 simp only[au] at n52
 have n53:=um 3 (by simp)
 simp only[au] at n53
 have n54:=um 4 (by simp)
 simp only[au] at n54
 clear um
 go_wp2_with fail
 refine(dW 2 [decide (z<y)] W5 (by simp) _ (by simp[dI]) _ _ rfl).mono ?_
 rintro e W6 ⟨hb,⟨hc,rfl⟩|⟨hc,rfl⟩⟩
 rotate_left
 ·simp at hc
  have q0:=jK.o
  have q1:=ry.o
  have q2:=yA.o
  simp only[jc,bU,bV,dA]
  (repeat (first|rw[aF (by omega)]|rw[aj (by omega)]))
  exact⟨rfl,(bn pV.o hb).mono gK,.inr ⟨by simp,rfl⟩⟩
 simp at hc
 have qG:=ae (bn pV.o hb)
 have HS6:=ae hb
 have Ie:=ae hc
 clear hb hc c5 f5 lb5 n50 n51 n52 n53 n54
 obtain⟨c6,f6,l6⟩:=af ((qG.o.block _ lw).trans HO.o.blk)
 obtain⟨lb6,uk⟩:=HW.o W6 (qG.o.mono gK)
 have n60:=uk 0 (by simp)
 simp only[au] at n60
 have n61:=uk 1 (by simp)
 simp only[au] at n61
 have n62:=uk 2 (by simp)
 simp only[au] at n62
 have n63:=uk 3 (by simp)
 simp only[au] at n63
 have n64:=uk 4 (by simp)
 simp only[au] at n64
 clear uk
 go_wp2_with fail
 refine RX.gy (fun ps W'=> ¬(p<=q/\q<=s.led.field.rows)/\ps=kz 2/\Below N w W') 19 [] none [(16,⟨fun _ v=>v=rv (p,q),fun _ _ _=>(p<=q/\q<=s.led.field.rows)⟩),(18,Spec.block W6.heap.size #[iv 0,iv 0,iv 0,iv 0,iv 0] 186)] (by rintro ps a1 Wx hdf ⟨h1,rfl,h3⟩;refine⟨hdf,vW (c:=2) h3 ?_ (by decide)⟩;have q0:=jK.o;have q1:=ry.o;have q2:=yA.o;have q3:=Ie.o;simp only[jc,bU,bV,dA];(repeat (first|rw[aF (by omega)]|rw[aj (by omega)]))) (by as_aux_lemma=>kernel_rfl) (by as_aux_lemma=>kernel_rfl) ?_
 simp only[zt]
 repeat (refine RX.zd ?_;simp only[zp])
 refine RX.bG _ (by rfl) (by rfl) ⟨_,rfl⟩ (fun Wq hE2 hF2=>?_) (fun v Wa Wb ho hE=>ho) (fun v hv=>?_)
 ·have hE':Ext [] W6 Wq:=hE2
  refine RX.dB 242 #[.pointer (some ⟨wb,0,none⟩),iv p,iv q] (by go_simp;try rfl) ?_
  refine(uF p q wb s _ Wq ((hE'.block _ (fJ lw qG.o.size) (by simp)).trans ((qG.o.block _ lw).trans HO.o.blk))).mono ?_
  rintro e w' ⟨hb,⟨hc,rfl⟩|⟨hc,rfl⟩⟩
  ·exact .inl ⟨_,rfl,rfl,hc,Ext.aA hb⟩
  ·exact .inr ⟨_,rfl,hc,rfl,(bn qG.o (bn hE'.below hb)).mono gK⟩
 obtain rfl:v=rv (p,q):=hv
 simp only[zp]
 repeat (refine RX.zd ?_;simp only[zp])
 refine RX.jQ W6.heap.size _ _ (by rfl) (ai _) (by rfl) (by simp) (by simp) (fun W hW=>by go_simp;try rfl) (fun b9=>?_)
 simp only[zp]
 intro Wb hE hF
 obtain⟨b9',wE,hge,hk9⟩:=hF _ (bF _)
 cases wE
 have hc:p<=q/\q<=s.led.field.rows:=hF _ (nC _ (bF _))
 have HBb:=ae (bn qG.o (show Ext [] W6 Wb from hE).below)
 have UC:=ae hc
 have pW:=ae (ag (iR qG.o.size hge) hk9)
 obtain⟨c9,f9,l9⟩:=af hk9
 clear hE hF hc hge hk9 c6 f6 lb6 n60 n61 n62 n63 n64
 go_upto_region 5 with(fail)
 refine dM fun W7 qh=>?_
 have zB:=ae (show Below w.heap.size w W7 from by rw[qh];exact(((((HBb.o).setCell pW.o.1 _).setCell pW.o.1 _).setCell pW.o.1 _).setCell pW.o.1 _).setCell pW.o.1 _)
 have Df:=ae (show W7.heap[b9]? =some (.cells #[iv x,iv y,iv z,iv p,iv q] 186 (0,0)) from by rw[qh];exact aI (aI (aI (aI (aI (pW.o.2) _) _) _) _) _)
 have YW:b9<W7.heap.size:=(aS.1 Df.o).1
 clear qh c9 f9 l9
 obtain⟨c7,f7,l7⟩:=af ((zB.o.block _ lw).trans HO.o.blk)
 obtain⟨lb7,uj⟩:=HW.o W7 (zB.o.mono gK)
 have n70:=uj 0 (by simp)
 simp only[au] at n70
 have n71:=uj 1 (by simp)
 simp only[au] at n71
 have n72:=uj 2 (by simp)
 simp only[au] at n72
 have n73:=uj 3 (by simp)
 simp only[au] at n73
 have n74:=uj 4 (by simp)
 simp only[au] at n74
 clear uj
 go_wp2_with fail
 refine(qI _ _ _).mono ?_
 rintro e W8 ⟨hb,⟨hc,rfl⟩|⟨hc,rfl⟩⟩
 rotate_left
 ·simp at hc
  have q0:=jK.o
  have q1:=ry.o
  have q2:=yA.o
  have q3:=Ie.o
  have q4:=UC.o
  simp only[jc,bU,bV,dA]
  (repeat (first|rw[aF (by omega)]|rw[aj (by omega)]))
  exact⟨rfl,(bn zB.o hb).mono gK,.inr ⟨by simp,rfl⟩⟩
 simp at hc
 have pU:=ae (bn zB.o hb)
 have HS8:=ae hb
 have HQ5:=ae hc
 clear hb hc c7 f7 lb7 n70 n71 n72 n73 n74
 obtain⟨c8,f8,l8⟩:=af ((pU.o.block _ lw).trans HO.o.blk)
 obtain⟨lb8,Cj⟩:=HW.o W8 (pU.o.mono gK)
 have n80:=Cj 0 (by simp)
 simp only[au] at n80
 have n81:=Cj 1 (by simp)
 simp only[au] at n81
 have n82:=Cj 2 (by simp)
 simp only[au] at n82
 have n83:=Cj 3 (by simp)
 simp only[au] at n83
 have n84:=Cj 4 (by simp)
 simp only[au] at n84
 clear Cj
 go_wp2_with fail
 obtain⟨Ms,hMs⟩: ∃Ms,Ms=(Value.slice o s.led.field.ax.length cc).ownBlock.toList:=⟨_,rfl⟩
 have Gw:=HO.o.below pU.o
 have hm1:wb∉Ms:=fun h=>Gw.rows.off 0 _ rfl (by rw[hMs] at h;exact dH.1 h)
 have hm2:b∉Ms:=fun h=>by have:=((Gw.rows.own 0 _ rfl).lt b (by rw[hMs] at h;exact dH.1 h)).1;omega
 have ug: ∀m∈Ms,m<W8.heap.size:=fun m h=>((Gw.rows.own 0 _ rfl).lt m (by rw[hMs] at h;exact dH.1 h)).2
 obtain⟨c9,f9,l9⟩:=af ((HS8.o.block _ YW).trans Df.o)
 have hm9:b9∉Ms:=fun h=>by have:=((HO.o.rows.own 0 _ rfl).lt b9 (by rw[hMs] at h;exact dH.1 h)).2;have:=pW.o.1;omega
 have HM:=ae hMs
 have jq:=ae Gw
 clear hMs Gw
 refine zg 8 Ms (some 7) [(6,Spec.slice W8.heap.size #[iv x,iv y,iv z,iv p,iv q] 186 1),(7,⟨fun _ v=> ∃o2 c2,v= .slice o2 (s.led.field.ax.length+1) c2,fun _ v Wx=>Wx.ownsRow N 186 5 v (s.led.field.ax.length+1) (dJ s.led.field.ax++[iv x,iv y,iv z,iv p,iv q])/\(v.ownBlock=(Value.slice o s.led.field.ax.length cc).ownBlock∨ ∃q,v.ownBlock=some q/\W8.heap.size<=q)⟩)] ?_
 simp only[zt]
 repeat ((first|refine zd ?_|refine zk ?_);simp only[zp])
 refine dX W8.heap.size _ _ 1 (by rfl) (ai _) (by rfl) ug (by simp) (fun W hW=>by go_simp;try rfl) (fun b6=>?_)
 simp only[zp]
 repeat ((first|refine zd ?_|refine zk ?_);simp only[zp])
 refine bG _ (by rfl) (by rfl) (by exact⟨.slice none (s.led.field.ax.length+1) 0,none,0,rfl⟩) (fun W6 hE hF=>?_) (fun v Wa Wb ho hE=>?_) (fun v hv=>?_)
 ·have hE':Ext [] W8 W6:=hE
  obtain⟨b',hb',hge,hcc⟩:=hF _ (bF _) (by kernel_rfl)
  cases hb'
  have hown6:W6.ownsRow N 186 5 (.slice o s.led.field.ax.length cc) s.led.field.ax.length (dJ s.led.field.ax):=aC (Ms:=[]) (jq.o.rows.own 0 _ rfl) hE' (by simp)
  have hsrc:aN 5 W6 (.slice (some ⟨b6,0,none⟩) 1 1) 1 ([iv x,iv y,iv z,iv p,iv q]):=aN.dD 5 1 hcc rfl (by decide)
  refine Does.mono (dK Yc (by rfl) (by rfl) hown6 (by rfl) hsrc (NF x y z p q) (by omega) (by omega) (by have:=hE'.size;have:=pU.o.size;omega)) ?_
  rintro v' W7 ⟨ho,hgr,hcase⟩
  refine⟨aT ho,⟨ho,?_⟩,⟨hgr.os,hgr.tape,hgr.output,hgr.size,fun b hb hn=>hgr.block b hb (fun e=>hn (by rw[HM.o];exact dH.2 e.symm))⟩⟩
  rcases hcase with h1|h1
  ·exact .inl h1
  ·exact .inr ⟨_,h1,hE'.size⟩
 ·exact⟨aC (Ms:=[]) ho.1 hE (by simp),ho.2⟩
 obtain⟨o7,c7,rfl⟩:=hv
 simp only[zp]
 intro W9 hE hF
 obtain⟨qE,zS⟩:=hF _ (bF _)
 have gZ:Ext Ms W8 W9:=hE
 have hbl:=(gZ.block wb jq.o.rows.lt hm1).trans jq.o.blk
 obtain⟨c9,f9,l9⟩:=af hbl
 have iW:=ae (ag gZ (ag qE (ag zS hbl)))
 have Ah:Below N w W9:=(pU.o.mono gK).trans ⟨gZ.os,gZ.tape,gZ.output,gZ.size,fun k hk=>gZ.block k (by have:=pU.o.size;omega) (fun h=>by have:=((jq.o.rows.own 0 _ rfl).lt k (by rw[HM.o] at h;exact dH.1 h)).1;omega)⟩
 have pU:=ae Ah
 clear hE hF gZ qE zS hbl Ah hm1 hm2 ug c8 f8 lb8 n80 n81 n82 n83 n84
 go_wp2_with fail
 go_end0
 have q0:=jK.o
 have q1:=ry.o
 have q2:=yA.o
 have q3:=Ie.o
 have q4:=UC.o
 have q5:=HQ5.o
 simp only[jc,bU,bV,dA]
 (repeat (first|rw[aF (by omega)]|rw[aj (by omega)]))
 refine⟨pU.o.setCell vU _,.inl ⟨rfl,rfl,⟨.slice o7 (s.led.field.ax.length+1) c7,vn,vw,vu,vr,vh,vk,vs⟩,es,jq.o.put (i:=0) rfl ⟨186,5,.slice o7 (s.led.field.ax.length+1) c7,s.led.field.ax.length+1,dJ s.led.field.ax++[iv x,iv y,iv z,iv p,iv q]⟩ iW.o.1 (fun m hm=>by rw[HM.o] at hm;exact dH.1 hm) iW.o.2.1 iW.o.2.2.1 (aI iW.o.2.2.2 _) (by simp[iI,mX,dJ]) (jq.o.es)⟩⟩
theorem yG (N:Nat) (w:World) (wb:Nat) (s:jJ) (V:SV) (es:List KE) (ns:Value) (x y z p q:Int) (hO:jO N w wb s V es) (hn:rQ N w ns [x,y,z,p,q]) (hG:fP s):
 Calls Tryz.prog 155 #[.pointer (some ⟨wb,0,none⟩),ns] w (ru N wb (jc s .tally [x,y,z,p,q]) w):=by
 by_cases h:y<z
 ·exact Kr N w wb s V es ns x y z p q hO hn hG h
 ·exact Kt N w wb s V es ns x y z p q hO hn hG (by omega)
theorem try_any (N:Nat) (w:World) (wb:Nat) (s:jJ) (V:SV) (es:List KE) (ns:Value) (x y z:Int) (hO:jO N w wb s V es) (hn:rQ N w ns [x,y,z]) (hG:fP s) (hx:(0<=x/\x<=9999)/\0<=y/\y<=9999):Calls Tryz.prog 172 #[.pointer (some ⟨wb,0,none⟩),ns] w (ru N wb (jc s .BO [x,y,z]) w):=by
 obtain⟨vt,vn,vw,vu,vr,vh,vk,vs⟩:=V
 obtain⟨ok,ck,rfl⟩: ∃o c,vk= .slice o es.length c:=aT (n:=es.length) (hO.rows.own 6 _ rfl)
 obtain⟨o,cc,rfl⟩: ∃o c,vs= .slice o s.dw.aJ.length c:=aT (n:=s.dw.aJ.length) (hO.rows.own 7 _ rfl)
 have HO:=ae hO
 have gK:=eG hO
 obtain⟨b,c,rfl,hbN,hcs⟩:=hn
 have lb:b<w.heap.size:=by omega
 have lw:=hO.rows.lt
 have vU:=hO.rows.base
 have HW:Hid (∀W,Below N w W->b<W.heap.size/\ ∀(j:Nat) (h:j<[x,y,z].length),W.cell? ⟨b,j,none⟩=some (iv [x,y,z][j])):=ae (fun W hB=>⟨by have:=hB.size;omega,fun j h=>(ja (hB.block b hbN)).trans (hcs j h)⟩)
 obtain⟨c0,f0,l0⟩:=af hO.blk
 have oN:=hcs 0 (by simp)
 simp only[au] at oN
 have n01:=hcs 1 (by simp)
 simp only[au] at n01
 have n02:=hcs 2 (by simp)
 simp only[au] at n02
 have HB0:Hid (Below w.heap.size w w):=ae (aH _ _)
 have Ld:=hG.aJ
 have hes:es.length=s.dw.aU.length:=by rw[<-hO.es];simp
 have jK:=ae hes
 clear hes
 clear hO hcs hG
 go_enter Tryz.func172,Tryz.ntmps172
 go_wp2_with fail
 refine zg 8 [] none [] ?_
 simp only[zt]
 repeat ((first|refine zd ?_|refine zk ?_);simp only[zp])
 intro W1 hE hF
 have HB1:=ae (bn HB0.o hE.below)
 clear hE hF c0 f0 oN n01 n02
 obtain⟨c1,f1,l1⟩:=af ((HB1.o.block _ lw).trans HO.o.blk)
 obtain⟨wB,hcs1⟩:=HW.o W1 (HB1.o.mono gK)
 have n10:=hcs1 0 (by simp)
 simp only[au] at n10
 have n11:=hcs1 1 (by simp)
 simp only[au] at n11
 have n12:=hcs1 2 (by simp)
 simp only[au] at n12
 clear hcs1
 go_wp2_with fail
 refine(jb _ _ _).mono ?_
 rintro e W2 ⟨hb,⟨hc,rfl⟩|⟨hc,rfl⟩⟩
 rotate_left
 ·simp at hc
  have q0:=jK.o
  simp only[jc,bU,bV,dA]
  (repeat (first|rw[aF (by omega)]|rw[aj (by omega)]))
  exact⟨rfl,(bn HB1.o hb).mono gK,.inr ⟨by simp,rfl⟩⟩
 simp at hc
 have HB2:=ae (bn HB1.o hb)
 have HS2:=ae hb
 have ry:=ae hc
 clear hb hc c1 f1 wB n10 n11 n12
 obtain⟨c2,f2,l2⟩:=af ((HB2.o.block _ lw).trans HO.o.blk)
 obtain⟨xq,hcs2⟩:=HW.o W2 (HB2.o.mono gK)
 have n20:=hcs2 0 (by simp)
 simp only[au] at n20
 have n21:=hcs2 1 (by simp)
 simp only[au] at n21
 have n22:=hcs2 2 (by simp)
 simp only[au] at n22
 clear hcs2
 go_wp2_with fail
 refine RX.gy (fun ps W'=> ¬(y<=z/\z<=100/\z<=y+100)/\ps=kz 2/\Below N w W') 8 [] none [(6,⟨fun _ v=>v=rv (y,z),fun _ _ _=>(y<=z/\z<=100/\z<=y+100)⟩),(7,Spec.block W2.heap.size #[iv 0,iv 0] 129)] (by rintro ps a1 Wx hdf ⟨h1,rfl,h3⟩;refine⟨hdf,vW (c:=2) h3 ?_ (by decide)⟩;have q0:=jK.o;have q1:=ry.o;simp only[jc,bU,bV,dA];(repeat (first|rw[aF (by omega)]|rw[aj (by omega)]))) (by as_aux_lemma=>kernel_rfl) (by as_aux_lemma=>kernel_rfl) ?_
 simp only[zt]
 repeat (refine RX.zd ?_;simp only[zp])
 refine RX.bG _ (by rfl) (by rfl) ⟨_,rfl⟩ (fun Wq hE2 hF2=>?_) (fun v Wa Wb ho hE=>ho) (fun v hv=>?_)
 ·have hE':Ext [] W2 Wq:=hE2
  refine RX.dB 252 #[iv y,iv z,iv 100] (by go_simp;try rfl) ?_
  refine(vV y z 100 Wq (by omega)).mono ?_
  rintro e w' ⟨hb,⟨hc,rfl⟩|⟨hc,rfl⟩⟩
  ·exact .inl ⟨_,rfl,rfl,hc,Ext.aA hb⟩
  ·exact .inr ⟨_,rfl,hc,rfl,(bn HB2.o (bn hE'.below hb)).mono gK⟩
 obtain rfl:v=rv (y,z):=hv
 simp only[zp]
 repeat (refine RX.zd ?_;simp only[zp])
 refine RX.jQ W2.heap.size _ _ (by rfl) (ai _) (by rfl) (by simp) (by simp) (fun W hW=>by go_simp;try rfl) (fun b9=>?_)
 simp only[zp]
 intro Wb hE hF
 obtain⟨b9',wE,hge,hk9⟩:=hF _ (bF _)
 cases wE
 have hc:y<=z/\z<=100/\z<=y+100:=hF _ (nC _ (bF _))
 have HBb:=ae (bn HB2.o (show Ext [] W2 Wb from hE).below)
 have yA:=ae hc
 have pW:=ae (ag (iR HB2.o.size hge) hk9)
 obtain⟨c9,f9,l9⟩:=af hk9
 clear hE hF hc hge hk9 c2 f2 xq n20 n21 n22
 go_upto_region 3 with(fail)
 refine dM fun W3 qh=>?_
 have HB3:=ae (show Below w.heap.size w W3 from by rw[qh];exact((HBb.o).setCell pW.o.1 _).setCell pW.o.1 _)
 have Df:=ae (show W3.heap[b9]? =some (.cells #[iv y,iv z] 129 (0,0)) from by rw[qh];exact aI (aI (pW.o.2) _) _)
 have YW:b9<W3.heap.size:=(aS.1 Df.o).1
 clear qh c9 f9 l9
 obtain⟨c3,f3,l3⟩:=af ((HB3.o.block _ lw).trans HO.o.blk)
 obtain⟨JA,hcs3⟩:=HW.o W3 (HB3.o.mono gK)
 have n30:=hcs3 0 (by simp)
 simp only[au] at n30
 have n31:=hcs3 1 (by simp)
 simp only[au] at n31
 have n32:=hcs3 2 (by simp)
 simp only[au] at n32
 clear hcs3
 go_wp2_with fail
 refine(qI _ _ _).mono ?_
 rintro e W4 ⟨hb,⟨hc,rfl⟩|⟨hc,rfl⟩⟩
 rotate_left
 ·simp at hc
  have q0:=jK.o
  have q1:=ry.o
  have q2:=yA.o
  simp only[jc,bU,bV,dA]
  (repeat (first|rw[aF (by omega)]|rw[aj (by omega)]))
  exact⟨rfl,(bn HB3.o hb).mono gK,.inr ⟨by simp,rfl⟩⟩
 simp at hc
 have HB4:=ae (bn HB3.o hb)
 have UB:=ae hb
 have Ie:=ae hc
 clear hb hc c3 f3 JA n30 n31 n32
 obtain⟨c4,f4,l4⟩:=af ((HB4.o.block _ lw).trans HO.o.blk)
 obtain⟨PU,jY⟩:=HW.o W4 (HB4.o.mono gK)
 have n40:=jY 0 (by simp)
 simp only[au] at n40
 have n41:=jY 1 (by simp)
 simp only[au] at n41
 have n42:=jY 2 (by simp)
 simp only[au] at n42
 clear jY
 go_wp2_with fail
 obtain⟨Ms,hMs⟩: ∃Ms,Ms=(Value.slice o s.dw.aJ.length cc).ownBlock.toList:=⟨_,rfl⟩
 have hO4:=HO.o.below HB4.o
 have hm1:wb∉Ms:=fun h=>hO4.rows.off 7 _ rfl (by rw[hMs] at h;exact dH.1 h)
 have hm2:b∉Ms:=fun h=>by have:=((hO4.rows.own 7 _ rfl).lt b (by rw[hMs] at h;exact dH.1 h)).1;omega
 have ug: ∀m∈Ms,m<W4.heap.size:=fun m h=>((hO4.rows.own 7 _ rfl).lt m (by rw[hMs] at h;exact dH.1 h)).2
 obtain⟨c9,f9,l9⟩:=af ((UB.o.block _ YW).trans Df.o)
 have hm9:b9∉Ms:=fun h=>by have:=((HO.o.rows.own 7 _ rfl).lt b9 (by rw[hMs] at h;exact dH.1 h)).2;have:=pW.o.1;omega
 have HM:=ae hMs
 have jq:=ae hO4
 clear hMs hO4
 refine zg 12 Ms (some 11) [(10,Spec.slice W4.heap.size #[.bool true,iv x,iv y,iv z] 192 1),(11,⟨fun _ v=> ∃o2 c2,v= .slice o2 (s.dw.aJ.length+1) c2,fun _ v Wx=>Wx.ownsRow N 192 4 v (s.dw.aJ.length+1) (gU s.dw.aJ++[.bool true,iv x,iv y,iv z])/\(v.ownBlock=(Value.slice o s.dw.aJ.length cc).ownBlock∨ ∃q,v.ownBlock=some q/\W4.heap.size<=q)⟩)] ?_
 simp only[zt]
 repeat ((first|refine zd ?_|refine zk ?_);simp only[zp])
 refine dX W4.heap.size _ _ 1 (by rfl) (ai _) (by rfl) ug (by simp) (fun W hW=>by go_simp;try rfl) (fun b6=>?_)
 simp only[zp]
 repeat ((first|refine zd ?_|refine zk ?_);simp only[zp])
 refine bG _ (by rfl) (by rfl) (by exact⟨.slice none (s.dw.aJ.length+1) 0,none,0,rfl⟩) (fun W6 hE hF=>?_) (fun v Wa Wb ho hE=>?_) (fun v hv=>?_)
 ·have hE':Ext [] W4 W6:=hE
  obtain⟨b',hb',hge,hcc⟩:=hF _ (bF _) (by kernel_rfl)
  cases hb'
  have hown6:W6.ownsRow N 192 4 (.slice o s.dw.aJ.length cc) s.dw.aJ.length (gU s.dw.aJ):=aC (Ms:=[]) (jq.o.rows.own 7 _ rfl) hE' (by simp)
  have hsrc:aN 4 W6 (.slice (some ⟨b6,0,none⟩) 1 1) 1 ([.bool true,iv x,iv y,iv z]):=aN.dD 4 1 hcc rfl (by decide)
  refine Does.mono (dK aa3 (by rfl) (by rfl) hown6 (by rfl) hsrc (abf x y z) (by omega) (by omega) (by have:=hE'.size;have:=HB4.o.size;omega)) ?_
  rintro v' W7 ⟨ho,hgr,hcase⟩
  refine⟨aT ho,⟨ho,?_⟩,⟨hgr.os,hgr.tape,hgr.output,hgr.size,fun b hb hn=>hgr.block b hb (fun e=>hn (by rw[HM.o];exact dH.2 e.symm))⟩⟩
  rcases hcase with h1|h1
  ·exact .inl h1
  ·exact .inr ⟨_,h1,hE'.size⟩
 ·exact⟨aC (Ms:=[]) ho.1 hE (by simp),ho.2⟩
 obtain⟨o7,c7,rfl⟩:=hv
 simp only[zp]
 intro W5 hE hF
 obtain⟨qE,zS⟩:=hF _ (bF _)
 have gZ:Ext Ms W4 W5:=hE
 have hbl:=(gZ.block wb jq.o.rows.lt hm1).trans jq.o.blk
 obtain⟨c5,f5,l5⟩:=af hbl
 have iW:=ae (ag gZ (ag qE (ag zS hbl)))
 have Ah:Below N w W5:=(HB4.o.mono gK).trans ⟨gZ.os,gZ.tape,gZ.output,gZ.size,fun k hk=>gZ.block k (by have:=HB4.o.size;omega) (fun h=>by have:=((jq.o.rows.own 7 _ rfl).lt k (by rw[HM.o] at h;exact dH.1 h)).1;omega)⟩
 have pU:=ae Ah
 clear hE hF gZ qE zS hbl Ah hm1 hm2 ug c4 f4 PU n40 n41 n42
 go_wp2_with fail
 go_end0
 have q0:=jK.o
 have q1:=ry.o
 have q2:=yA.o
 have q3:=Ie.o
 simp only[jc,bU,bV,dA]
 (repeat (first|rw[aF (by omega)]|rw[aj (by omega)]))
 refine⟨pU.o.setCell vU _,.inl ⟨rfl,rfl,⟨vt,vn,vw,vu,vr,vh,.slice ok (es.length) ck,.slice o7 (s.dw.aJ.length+1) c7⟩,es,jq.o.put (i:=7) rfl ⟨192,4,.slice o7 (s.dw.aJ.length+1) c7,s.dw.aJ.length+1,gU s.dw.aJ++[.bool true,iv x,iv y,iv z]⟩ iW.o.1 (fun m hm=>by rw[HM.o] at hm;exact dH.1 hm) iW.o.2.1 iW.o.2.2.1 (aI iW.o.2.2.2 _) (by simp[iI,fM,gU]) (jq.o.es)⟩⟩
theorem gY {w:World} {N:Nat} {t:TypeId} {size:Nat} {o:Option Addr} {n c m:Nat} {xs:List Value} (h:w.ownsRow N t size (.slice o m c) n xs) (hn:0<n):
 ∃g,o=some ⟨g,0,none⟩/\(∀(j:Nat) (hj:j<xs.length),w.cell? ⟨g,j,none⟩=some xs[j])/\(∀j,w.frozen? ⟨g,j,none⟩=false)/\g<w.heap.size:=by
 obtain⟨h1,⟨h2,rfl⟩|⟨g,cc,cs,h2,h3,h4,h5,h6,h7,h8⟩⟩:=h
 ·omega
 ·cases h2
  obtain⟨k0,k1,k2⟩:=af h4
  refine⟨g,rfl,fun j hj=>?_,k1,k2⟩
  rw[k0, <-Array.getElem?_toList]
  have:(cs.toList.take (n*size))[j]? =some xs[j]:=by rw[h8];exact dn hj
  rw[List.getElem?_take] at this
  split at this
  ·exact this
  ·cases this
theorem lK {w:World} {N:Nat} {t:TypeId} {size:Nat} {g n c m:Nat} {xs:List Value} (h:w.ownsRow N t size (.slice (some ⟨g,0,none⟩) m c) n xs) (j:Nat) (u:Value):(w.setCell ⟨g,j,none⟩ u).ownsRow N t size (.slice (some ⟨g,0,none⟩) m c) n (xs.set j u):=by
 obtain⟨h1,⟨h2,rfl⟩|⟨g',cc,cs,h2,h3,h4,h5,h6,h7,h8⟩⟩:=h
 ·cases h2
 ·cases h2
  refine⟨by simpa using h1,.inr ⟨g,c,_,rfl,h3,aI h4 u,h5,h6,by simpa using h7,?_⟩⟩
  rw[<-h8,Array.toList_setIfInBounds,List.take_set]
theorem jr {α:Type} (f:α->List Value) (k:Nat) (hk: ∀x,(f x).length=k): ∀(l:List α) (i j:Nat) (x:α),l[i]? =some x->j<k->(l.flatMap f)[i*k+j]? =(f x)[j]? :=by
 intro l
 induction l with
 |nil=>intro i j x h _;cases h
 |cons y l ih=>
  intro i j x h hj
  rw[List.flatMap_cons]
  cases i with
  |zero=>
   simp only[List.getElem?_cons_zero,Option.some.injEq] at h
   subst h
   rw[uQ (by rw[hk];omega)]
   congr 1
   omega
  |succ i=>
   rw[ou (by rw[hk,Nat.succ_mul];omega),hk]
   rw[show(i+1)*k+j-k=i*k+j from by rw[Nat.succ_mul];omega]
   exact ih i j x (by simpa using h) hj
theorem Ba {α:Type} (f:α->List Value) (k:Nat) (hk: ∀x,(f x).length=k): ∀(l:List α) (i j:Nat) (x y:α) (u:Value),l[i]? =some x->j<k->(f x).set j u=f y->(l.flatMap f).set (i*k+j) u=(l.set i y).flatMap f:=by
 intro l
 induction l with
 |nil=>intro i j x y u h _ _;cases h
 |cons z l ih=>
  intro i j x y u h hj hu
  rw[List.flatMap_cons]
  cases i with
  |zero=>
   simp only[List.getElem?_cons_zero,Option.some.injEq] at h
   subst h
   rw[List.set_append_left _ _ (by rw[hk];omega),List.set_cons_zero,List.flatMap_cons, <-hu]
   congr 2
   omega
  |succ i=>
   rw[qy _ _ (by rw[hk,Nat.succ_mul];omega),hk,List.set_cons_succ,List.flatMap_cons]
   rw[show(i+1)*k+j-k=i*k+j from by rw[Nat.succ_mul];omega,ih i j x y u (by simpa using h) hj hu]
theorem Yy (l:List dQ) (i:Nat) (h:i<l.length):(aG l)[i*2+0]? =some (iv l[i].1)/\(aG l)[i*2+1]? =some (iv l[i].2):=
 ⟨jr _ 2 (fun _=>rfl) l i 0 _ (dn h) (by omega),jr _ 2 (fun _=>rfl) l i 1 _ (dn h) (by omega)⟩
theorem Nw (l:List dQ) (i:Nat) (h:i<l.length) (a b:Int):((aG l).set (i*2+0) (iv a)).set (i*2+1) (iv b)=aG (l.set i (a,b)):=by
 unfold aG
 rw[Ba _ 2 (fun _=>rfl) l i 0 _ (a,l[i].2) (iv a) (dn h) (by omega) rfl,Ba _ 2 (fun _=>rfl) (l.set i (a,l[i].2)) i 1 (a,l[i].2) (a,b) (iv b) (by simp[h]) (by omega) rfl]
 simp
theorem jO.over {N:Nat} {w W:World} {wb:Nat} {s s':jJ} {V:SV} {es es':List KE} (h:jO N w wb s V es) {i:Nat} {r:Row} (hr:(iI s V es)[i]? =some r) {g:Nat} (hg:r.v.ownBlock=some g) (hE:Ext [g] w W) (xs:List Value)
 (ho:W.ownsRow N r.t r.size r.v r.n xs) (hrows:iI s' V es'=(iI s V es).set i ⟨r.t,r.size,r.v,r.n,xs⟩) (hsc:dR s' V=dR s V) (hes:es'.map (·.2)=s'.dw.aU):jO N W wb s' V es':=by
 refine⟨?_,?_,hes⟩
 ·rw[hsc]
  refine(hE.block wb h.rows.lt (fun hm=>h.rows.off i r hr ?_)).trans h.blk
  rw[hg,fC.1 hm]
 ·rw[hrows]
  exact h.rows.put hr ⟨r.t,r.size,r.v,r.n,xs⟩ hE (fun m hm=> .inr (.inr (by rw[hg,fC.1 hm]))) ho (.inl rfl)
theorem aaZ (l:List L6) (i:Nat) (h:i<l.length):(dJ l)[i*5+3]? =some (iv l[i].2.2.2.1)/\(dJ l)[i*5+4]? =some (iv l[i].2.2.2.2):=
 ⟨jr _ 5 (fun _=>rfl) l i 3 _ (dn h) (by omega),jr _ 5 (fun _=>rfl) l i 4 _ (dn h) (by omega)⟩
theorem aaY (l:List L6) (i:Nat) (h:i<l.length) (a b:Int):((dJ l).set (i*5+3) (iv a)).set (i*5+4) (iv b)=dJ (l.set i (l[i].1,l[i].2.1,l[i].2.2.1,(a,b))):=by
 unfold dJ
 rw[Ba _ 5 (fun _=>rfl) l i 3 _ (l[i].1,l[i].2.1,l[i].2.2.1,(a,l[i].2.2.2.2)) (iv a) (dn h) (by omega) rfl,Ba _ 5 (fun _=>rfl) (l.set i (l[i].1,l[i].2.1,l[i].2.2.1,(a,l[i].2.2.2.2))) i 4 (l[i].1,l[i].2.1,l[i].2.2.1,(a,l[i].2.2.2.2)) (l[i].1,l[i].2.1,l[i].2.2.1,(a,b)) (iv b) (by simp[h]) (by omega) rfl]
 simp
theorem Ya {w:World} {g:Nat} {l:List L6} (h: ∀(j:Nat) (hj:j<(dJ l).length),w.cell? ⟨g,j,none⟩=some (dJ l)[j]) {i:Nat} (hi:i<l.length):w.cell? ⟨g,i*5+3,none⟩=some (iv l[i].2.2.2.1)/\w.cell? ⟨g,i*5+4,none⟩=some (iv l[i].2.2.2.2):=by
 obtain⟨h1,h2⟩:=aaZ l i hi
 obtain⟨k1,e1⟩:=ji.1 h1
 obtain⟨k2,e2⟩:=ji.1 h2
 exact⟨(h _ k1).trans (by rw[e1]),(h _ k2).trans (by rw[e2])⟩
theorem Jo {w:World} {g:Nat} {l:List dQ} (h: ∀(j:Nat) (hj:j<(aG l).length),w.cell? ⟨g,j,none⟩=some (aG l)[j]) {i:Nat} (hi:i<l.length):w.cell? ⟨g,i*2,none⟩=some (iv l[i].1)/\w.cell? ⟨g,i*2+1,none⟩=some (iv l[i].2):=by
 obtain⟨h1,h2⟩:=Yy l i hi
 obtain⟨k1,e1⟩:=ji.1 h1
 obtain⟨k2,e2⟩:=ji.1 h2
 exact⟨(h _ k1).trans (by rw[e1]),(h _ k2).trans (by rw[e2])⟩
theorem J8 (N:Nat) (w:World) (wb:Nat) (s:jJ) (V:SV) (es:List KE) (ns:Value) (x:Nat) (y:Int) (z:Int) (hO:jO N w wb s V es) (hn:rQ N w ns [(x:Int),y,z]) (hG:fP s) (hx:0<=y/\y<=9999):Calls Tryz.prog 163 #[.pointer (some ⟨wb,0,none⟩),ns] w (ru N wb (jc s .bW [(x:Int),y,z]) w):=by
 obtain⟨vt,vn,vw,vu,vr,vh,vk,vs⟩:=V
 obtain⟨o,cc,rfl⟩: ∃o c,vw= .slice o s.heap.bW.length c:=aT (n:=s.heap.bW.length) (hO.rows.own 2 _ rfl)
 have HO:=ae hO
 have gK:=eG hO
 obtain⟨b,c,rfl,hbN,hcs⟩:=hn
 have lb:b<w.heap.size:=by omega
 have lw:=hO.rows.lt
 have vU:=hO.rows.base
 have HW:Hid (∀W,Below N w W->b<W.heap.size/\ ∀(j:Nat) (h:j<[(x:Int),y,z].length),W.cell? ⟨b,j,none⟩=some (iv [(x:Int),y,z][j])):=ae (fun W hB=>⟨by have:=hB.size;omega,fun j h=>(ja (hB.block b hbN)).trans (hcs j h)⟩)
 obtain⟨c0,f0,l0⟩:=af hO.blk
 have oN:=hcs 0 (by simp)
 simp only[au] at oN
 have n01:=hcs 1 (by simp)
 simp only[au] at n01
 have n02:=hcs 2 (by simp)
 simp only[au] at n02
 have HB0:Hid (Below w.heap.size w w):=ae (aH _ _)
 have hl4:=hG.heap.1
 have Ld:=hG.UN
 have HR5:=ae Ld
 clear Ld
 clear hO hcs hG
 go_enter Tryz.func163,Tryz.ntmps163
 go_wp2_with fail
 refine(xX x wb s _ w ((HB0.o.block _ lw).trans HO.o.blk) hl4).mono ?_
 rintro e W1 ⟨hb,⟨hc,rfl⟩|⟨hc,rfl⟩⟩
 rotate_left
 ·simp at hc
  simp only[jc,bU,bV,dA]
  (repeat (first|rw[aF (by omega)]|rw[aj (by omega)]))
  exact⟨rfl,(bn HB0.o hb).mono gK,.inr ⟨by simp,rfl⟩⟩
 simp at hc
 have HB1:=ae (bn HB0.o hb)
 have L8:=ae hb
 have jK:=ae hc
 clear hb hc c0 f0 oN n01 n02
 obtain⟨c1,f1,l1⟩:=af ((HB1.o.block _ lw).trans HO.o.blk)
 obtain⟨wB,hcs1⟩:=HW.o W1 (HB1.o.mono gK)
 have n10:=hcs1 0 (by simp)
 simp only[au] at n10
 have n11:=hcs1 1 (by simp)
 simp only[au] at n11
 have n12:=hcs1 2 (by simp)
 simp only[au] at n12
 clear hcs1
 go_wp2_with fail
 refine zg 6 [] none [] ?_
 simp only[zt]
 repeat ((first|refine zd ?_|refine zk ?_);simp only[zp])
 intro W2 hE hF
 have HB2:=ae (bn HB1.o hE.below)
 clear hE hF c1 f1 wB n10 n11 n12
 obtain⟨c2,f2,l2⟩:=af ((HB2.o.block _ lw).trans HO.o.blk)
 obtain⟨xq,hcs2⟩:=HW.o W2 (HB2.o.mono gK)
 have n20:=hcs2 0 (by simp)
 simp only[au] at n20
 have n21:=hcs2 1 (by simp)
 simp only[au] at n21
 have n22:=hcs2 2 (by simp)
 simp only[au] at n22
 clear hcs2
 go_wp2_with fail
 refine(zK _ _ _ _ _ (by omega)).mono ?_
 rintro e W3 ⟨hb,⟨hc,rfl⟩|⟨hc,rfl⟩⟩
 rotate_left
 ·simp at hc
  have q0:=jK.o
  simp only[jc,bU,bV,dA]
  (repeat (first|rw[aF (by omega)]|rw[aj (by omega)]))
  exact⟨rfl,(bn HB2.o hb).mono gK,.inr ⟨by simp,rfl⟩⟩
 simp at hc
 have HB3:=ae (bn HB2.o hb)
 have HS3:=ae hb
 have ry:=ae hc
 clear hb hc c2 f2 xq n20 n21 n22
 obtain⟨c3,f3,l3⟩:=af ((HB3.o.block _ lw).trans HO.o.blk)
 obtain⟨JA,hcs3⟩:=HW.o W3 (HB3.o.mono gK)
 have n30:=hcs3 0 (by simp)
 simp only[au] at n30
 have n31:=hcs3 1 (by simp)
 simp only[au] at n31
 have n32:=hcs3 2 (by simp)
 simp only[au] at n32
 clear hcs3
 go_wp2_with fail
 refine zg 16 [] none [] ?_
 simp only[zt]
 repeat ((first|refine zd ?_|refine zk ?_);simp only[zp])
 intro W4 hE hF
 have HB4:=ae (bn HB3.o hE.below)
 clear hE hF c3 f3 JA n30 n31 n32
 obtain⟨c4,f4,l4⟩:=af ((HB4.o.block _ lw).trans HO.o.blk)
 obtain⟨PU,jY⟩:=HW.o W4 (HB4.o.mono gK)
 have n40:=jY 0 (by simp)
 simp only[au] at n40
 have n41:=jY 1 (by simp)
 simp only[au] at n41
 have n42:=jY 2 (by simp)
 simp only[au] at n42
 clear jY
 have q0:=jK.o
 have hxl:x<s.heap.bW.length:=by have:=HR5.o;omega
 have hown:=(HO.o.below HB4.o).rows.own 2 _ rfl
 obtain⟨g,rfl,hcg,hfg,hgl⟩:=gY hown (by show 0<s.heap.bW.length;omega)
 obtain⟨g0,g1⟩:=Jo hcg hxl
 clear hcg q0 hown
 go_wp2_with fail
 go_end0
 have q0:=jK.o
 have q1:=ry.o
 simp only[jc,bU,bV,dA]
 (repeat (first|rw[aF (by omega)]|rw[aj (by omega)]))
 simp only[Int.toNat_natCast]
 have zV:=HO.o.below HB4.o
 have hgN:N<=g:=((zV.rows.own 2 _ rfl).lt g rfl).1
 have hS:=(lK (lK (zV.rows.own 2 _ rfl) (x*2+0) (iv y)) (x*2+1) (iv z))
 simp only[Nw _ _ hxl] at hS
 exact⟨(((HB4.o.mono gK).setCell hgN _).setCell hgN _),.inl ⟨rfl,rfl,_,es,zV.over (i:=2) rfl (g:=g) rfl ((gz).trans gz) (aG (s.heap.bW.set x (y,z))) hS (by simp[iI,mX,oD,iP,fM]) rfl HO.o.es⟩⟩
theorem sK (N:Nat) (w:World) (wb:Nat) (s:jJ) (V:SV) (es:List KE) (ns:Value) (x:Nat) (y:Int) (z:Int) (hO:jO N w wb s V es) (hn:rQ N w ns [(x:Int),y,z]) (hx:0<=y/\y<=9999):Calls Tryz.prog 169 #[.pointer (some ⟨wb,0,none⟩),ns] w (ru N wb (jc s .strong [(x:Int),y,z]) w):=by
 obtain⟨vt,vn,vw,vu,vr,vh,vk,vs⟩:=V
 obtain⟨o,cc,rfl⟩: ∃o c,vh= .slice o s.dw.heaps.length c:=aT (n:=s.dw.heaps.length) (hO.rows.own 5 _ rfl)
 have HO:=ae hO
 have gK:=eG hO
 obtain⟨b,c,rfl,hbN,hcs⟩:=hn
 have lb:b<w.heap.size:=by omega
 have lw:=hO.rows.lt
 have vU:=hO.rows.base
 have HW:Hid (∀W,Below N w W->b<W.heap.size/\ ∀(j:Nat) (h:j<[(x:Int),y,z].length),W.cell? ⟨b,j,none⟩=some (iv [(x:Int),y,z][j])):=ae (fun W hB=>⟨by have:=hB.size;omega,fun j h=>(ja (hB.block b hbN)).trans (hcs j h)⟩)
 obtain⟨c0,f0,l0⟩:=af hO.blk
 have oN:=hcs 0 (by simp)
 simp only[au] at oN
 have n01:=hcs 1 (by simp)
 simp only[au] at n01
 have n02:=hcs 2 (by simp)
 simp only[au] at n02
 have HB0:Hid (Below w.heap.size w w):=ae (aH _ _)
 clear hO hcs
 go_enter Tryz.func169,Tryz.ntmps169
 go_wp2_with fail
 refine zg 10 [] none [] ?_
 simp only[zt]
 repeat ((first|refine zd ?_|refine zk ?_);simp only[zp])
 intro W1 hE hF
 have HB1:=ae (bn HB0.o hE.below)
 clear hE hF c0 f0 oN n01 n02
 obtain⟨c1,f1,l1⟩:=af ((HB1.o.block _ lw).trans HO.o.blk)
 obtain⟨wB,hcs1⟩:=HW.o W1 (HB1.o.mono gK)
 have n10:=hcs1 0 (by simp)
 simp only[au] at n10
 have n11:=hcs1 1 (by simp)
 simp only[au] at n11
 have n12:=hcs1 2 (by simp)
 simp only[au] at n12
 clear hcs1
 go_wp2_with fail
 refine(jb _ _ _).mono ?_
 rintro e W2 ⟨hb,⟨hc,rfl⟩|⟨hc,rfl⟩⟩
 rotate_left
 ·simp at hc
  simp only[jc,bU,bV,dA]
  (repeat (first|rw[aF (by omega)]|rw[aj (by omega)]))
  exact⟨rfl,(bn HB1.o hb).mono gK,.inr ⟨by simp,rfl⟩⟩
 simp at hc
 have HB2:=ae (bn HB1.o hb)
 have HS2:=ae hb
 have jK:=ae hc
 clear hb hc c1 f1 wB n10 n11 n12
 obtain⟨c2,f2,l2⟩:=af ((HB2.o.block _ lw).trans HO.o.blk)
 obtain⟨xq,hcs2⟩:=HW.o W2 (HB2.o.mono gK)
 have n20:=hcs2 0 (by simp)
 simp only[au] at n20
 have n21:=hcs2 1 (by simp)
 simp only[au] at n21
 have n22:=hcs2 2 (by simp)
 simp only[au] at n22
 clear hcs2
 go_wp2_with fail
 refine RX.gy (fun ps W'=> ¬(y<=z/\z<=100/\z<=y+9)/\ps=kz 2/\Below N w W') 16 [] none [(15,⟨fun _ v=>v=rv (y,z),fun _ _ _=>(y<=z/\z<=100/\z<=y+9)⟩)] (by rintro ps a1 Wx hdf ⟨h1,rfl,h3⟩;refine⟨hdf,vW (c:=2) h3 ?_ (by decide)⟩;have q0:=jK.o;simp only[jc,bU,bV,dA];(repeat (first|rw[aF (by omega)]|rw[aj (by omega)]))) (by as_aux_lemma=>kernel_rfl) (by as_aux_lemma=>kernel_rfl) ?_
 simp only[zt]
 repeat (refine RX.zd ?_;simp only[zp])
 refine RX.bG _ (by rfl) (by rfl) ⟨_,rfl⟩ (fun Wq hE2 hF2=>?_) (fun v Wa Wb ho hE=>ho) (fun v hv=>?_)
 ·have hE':Ext [] W2 Wq:=hE2
  refine RX.dB 252 #[iv y,iv z,iv 9] (by go_simp;try rfl) ?_
  refine(vV y z 9 Wq (by omega)).mono ?_
  rintro e w' ⟨hb,⟨hc,rfl⟩|⟨hc,rfl⟩⟩
  ·exact .inl ⟨_,rfl,rfl,hc,Ext.aA hb⟩
  ·exact .inr ⟨_,rfl,hc,rfl,(bn HB2.o (bn hE'.below hb)).mono gK⟩
 obtain rfl:v=rv (y,z):=hv
 simp only[zp]
 intro W3 hE hF
 have hc:y<=z/\z<=100/\z<=y+9:=hF _ (bF _)
 have HB3:=ae (bn HB2.o (show Ext [] W2 W3 from hE).below)
 have ry:=ae hc
 clear hE hF hc c2 f2 xq n20 n21 n22
 obtain⟨c3,f3,l3⟩:=af ((HB3.o.block _ lw).trans HO.o.blk)
 obtain⟨JA,hcs3⟩:=HW.o W3 (HB3.o.mono gK)
 have n30:=hcs3 0 (by simp)
 simp only[au] at n30
 have n31:=hcs3 1 (by simp)
 simp only[au] at n31
 have n32:=hcs3 2 (by simp)
 simp only[au] at n32
 clear hcs3
 have q0:=jK.o
 have hxl:x<s.dw.heaps.length:=by omega
 have hown:=(HO.o.below HB3.o).rows.own 5 _ rfl
 obtain⟨g,rfl,hcg,hfg,hgl⟩:=gY hown (by show 0<s.dw.heaps.length;omega)
 obtain⟨g0,g1⟩:=Jo hcg hxl
 clear hcg q0 hown
 go_wp2_with fail
 go_end0
 have q0:=jK.o
 have q1:=ry.o
 simp only[jc,bU,bV,dA]
 (repeat (first|rw[aF (by omega)]|rw[aj (by omega)]))
 simp only[Int.toNat_natCast]
 have zV:=HO.o.below HB3.o
 have hgN:N<=g:=((zV.rows.own 5 _ rfl).lt g rfl).1
 have hS:=(lK (lK (zV.rows.own 5 _ rfl) (x*2+0) (iv y)) (x*2+1) (iv z))
 simp only[Nw _ _ hxl] at hS
 exact⟨(((HB3.o.mono gK).setCell hgN _).setCell hgN _),.inl ⟨rfl,rfl,_,es,zV.over (i:=5) rfl (g:=g) rfl ((gz).trans gz) (aG (s.dw.heaps.set x (y,z))) hS (by simp[iI,mX,oD,iP,fM]) rfl HO.o.es⟩⟩
theorem XW (N:Nat) (w:World) (wb:Nat) (s:jJ) (V:SV) (es:List KE) (ns:Value) (x:Nat) (y:Int) (z:Int) (hO:jO N w wb s V es) (hn:rQ N w ns [(x:Int),y,z]):Calls Tryz.prog 156 #[.pointer (some ⟨wb,0,none⟩),ns] w (ru N wb (jc s .BM [(x:Int),y,z]) w):=by
 obtain⟨vt,vn,vw,vu,vr,vh,vk,vs⟩:=V
 obtain⟨o,cc,rfl⟩: ∃o c,vt= .slice o s.led.field.ax.length c:=aT (n:=s.led.field.ax.length) (hO.rows.own 0 _ rfl)
 have HO:=ae hO
 have gK:=eG hO
 obtain⟨b,c,rfl,hbN,hcs⟩:=hn
 have lb:b<w.heap.size:=by omega
 have lw:=hO.rows.lt
 have vU:=hO.rows.base
 have HW:Hid (∀W,Below N w W->b<W.heap.size/\ ∀(j:Nat) (h:j<[(x:Int),y,z].length),W.cell? ⟨b,j,none⟩=some (iv [(x:Int),y,z][j])):=ae (fun W hB=>⟨by have:=hB.size;omega,fun j h=>(ja (hB.block b hbN)).trans (hcs j h)⟩)
 obtain⟨c0,f0,l0⟩:=af hO.blk
 have oN:=hcs 0 (by simp)
 simp only[au] at oN
 have n01:=hcs 1 (by simp)
 simp only[au] at n01
 have n02:=hcs 2 (by simp)
 simp only[au] at n02
 have HB0:Hid (Below w.heap.size w w):=ae (aH _ _)
 clear hO hcs
 go_enter Tryz.func156,Tryz.ntmps156
 go_wp2_with fail
 refine zg 8 [] none [] ?_
 simp only[zt]
 repeat ((first|refine zd ?_|refine zk ?_);simp only[zp])
 intro W1 hE hF
 have HB1:=ae (bn HB0.o hE.below)
 clear hE hF c0 f0 oN n01 n02
 obtain⟨c1,f1,l1⟩:=af ((HB1.o.block _ lw).trans HO.o.blk)
 obtain⟨wB,hcs1⟩:=HW.o W1 (HB1.o.mono gK)
 have n10:=hcs1 0 (by simp)
 simp only[au] at n10
 have n11:=hcs1 1 (by simp)
 simp only[au] at n11
 have n12:=hcs1 2 (by simp)
 simp only[au] at n12
 clear hcs1
 go_wp2_with fail
 refine(jb _ _ _).mono ?_
 rintro e W2 ⟨hb,⟨hc,rfl⟩|⟨hc,rfl⟩⟩
 rotate_left
 ·simp at hc
  simp only[jc,bU,bV,dA]
  (repeat (first|rw[aF (by omega)]|rw[aj (by omega)]))
  exact⟨rfl,(bn HB1.o hb).mono gK,.inr ⟨by simp,rfl⟩⟩
 simp at hc
 have HB2:=ae (bn HB1.o hb)
 have HS2:=ae hb
 have jK:=ae hc
 clear hb hc c1 f1 wB n10 n11 n12
 obtain⟨c2,f2,l2⟩:=af ((HB2.o.block _ lw).trans HO.o.blk)
 obtain⟨xq,hcs2⟩:=HW.o W2 (HB2.o.mono gK)
 have n20:=hcs2 0 (by simp)
 simp only[au] at n20
 have n21:=hcs2 1 (by simp)
 simp only[au] at n21
 have n22:=hcs2 2 (by simp)
 simp only[au] at n22
 clear hcs2
 go_wp2_with fail
 refine RX.gy (fun ps W'=> ¬(y<=z/\z<=s.led.field.rows)/\ps=kz 2/\Below N w W') 15 [] none [(14,⟨fun _ v=>v=rv (y,z),fun _ _ _=>(y<=z/\z<=s.led.field.rows)⟩)] (by rintro ps a1 Wx hdf ⟨h1,rfl,h3⟩;refine⟨hdf,vW (c:=2) h3 ?_ (by decide)⟩;have q0:=jK.o;simp only[jc,bU,bV,dA];(repeat (first|rw[aF (by omega)]|rw[aj (by omega)]))) (by as_aux_lemma=>kernel_rfl) (by as_aux_lemma=>kernel_rfl) ?_
 simp only[zt]
 repeat (refine RX.zd ?_;simp only[zp])
 refine RX.bG _ (by rfl) (by rfl) ⟨_,rfl⟩ (fun Wq hE2 hF2=>?_) (fun v Wa Wb ho hE=>ho) (fun v hv=>?_)
 ·have hE':Ext [] W2 Wq:=hE2
  refine RX.dB 242 #[.pointer (some ⟨wb,0,none⟩),iv y,iv z] (by go_simp;try rfl) ?_
  refine(uF y z wb s _ Wq ((hE'.block _ (fJ lw HB2.o.size) (by simp)).trans ((HB2.o.block _ lw).trans HO.o.blk))).mono ?_
  rintro e w' ⟨hb,⟨hc,rfl⟩|⟨hc,rfl⟩⟩
  ·exact .inl ⟨_,rfl,rfl,hc,Ext.aA hb⟩
  ·exact .inr ⟨_,rfl,hc,rfl,(bn HB2.o (bn hE'.below hb)).mono gK⟩
 obtain rfl:v=rv (y,z):=hv
 simp only[zp]
 intro W3 hE hF
 have hc:y<=z/\z<=s.led.field.rows:=hF _ (bF _)
 have HB3:=ae (bn HB2.o (show Ext [] W2 W3 from hE).below)
 have ry:=ae hc
 clear hE hF hc c2 f2 xq n20 n21 n22
 obtain⟨c3,f3,l3⟩:=af ((HB3.o.block _ lw).trans HO.o.blk)
 obtain⟨JA,hcs3⟩:=HW.o W3 (HB3.o.mono gK)
 have n30:=hcs3 0 (by simp)
 simp only[au] at n30
 have n31:=hcs3 1 (by simp)
 simp only[au] at n31
 have n32:=hcs3 2 (by simp)
 simp only[au] at n32
 clear hcs3
 have q0:=jK.o
 have hxl:x<s.led.field.ax.length:=by omega
 have hown:=(HO.o.below HB3.o).rows.own 0 _ rfl
 obtain⟨g,rfl,hcg,hfg,hgl⟩:=gY hown (by show 0<s.led.field.ax.length;omega)
 obtain⟨g0,g1⟩:=Ya hcg hxl
 clear hcg q0 hown
 go_wp2_with fail
 go_end0
 have q0:=jK.o
 have q1:=ry.o
 simp only[jc,bU,bV,dA]
 (repeat (first|rw[aF (by omega)]|rw[aj (by omega)]))
 simp only[Int.toNat_natCast,gW,dn hxl,Option.getD_some]
 have zV:=HO.o.below HB3.o
 have hgN:N<=g:=((zV.rows.own 0 _ rfl).lt g rfl).1
 have hS:=(lK (lK (zV.rows.own 0 _ rfl) (x*5+3) (iv y)) (x*5+4) (iv z))
 simp only[aaY _ _ hxl] at hS
 exact⟨(((HB3.o.mono gK).setCell hgN _).setCell hgN _),.inl ⟨rfl,rfl,_,es,zV.over (i:=0) rfl (g:=g) rfl ((gz).trans gz) (dJ (s.led.field.ax.set x (s.led.field.ax[x].1,s.led.field.ax[x].2.1,s.led.field.ax[x].2.2.1,(y,z)))) hS (by simp[iI,mX,oD,iP,fM]) rfl HO.o.es⟩⟩
theorem Wj (x:Int) (w:World):Calls Tryz.prog 253 #[iv x] w (fun e w'=>e= .returned (.bool (decide (0<x)))/\w'=w):=by
 go_enter Tryz.func253,Tryz.ntmps253
 go_wp2
 go_returns
 exact⟨by simp,rfl⟩
theorem S9 (l:List Int) (v:Value) (w:World) (hv:aO w v l):Calls Tryz.prog 217 #[v,.func (.func 253) #[] #[]] w (PV (.bool (l.any fun x=>decide (0<x))) w):=by
 refine(OO l v 253 #[] #[] (fun k=>decide (0<l.getD k 0)) (fun _ W=>Below w.heap.size w W) w (enters_of Tryz.func253 (by kernel_rfl) rfl) (fun k W h=>hv.below h (ai _)) (fun k hk W _ h=>?_) (aH _ _)).mono ?_
 ·refine(Wj l[k] W).mono ?_
  rintro e W' ⟨rfl,rfl⟩
  exact⟨by simp[hk],h⟩
 ·rintro e W' ⟨k,hk,hno,⟨hlt,hp,rfl,hI⟩|⟨hkl,rfl,hI⟩⟩
  ·refine⟨?_,hI⟩
   have:(l.any fun x=>decide (0<x))=true:=List.any_eq_true.2 ⟨l[k],df _,by simpa [hlt] using hp⟩
   rw[this]
  ·refine⟨?_,hI⟩
   have:(l.any fun x=>decide (0<x))=false:=by
    rw[List.any_eq_false]
    intro x hx
    obtain⟨j,hj,rfl⟩:=lY hx
    have:=hno j (by omega)
    simpa [hj] using this
   rw[this]
theorem yI (s:jJ) (V:SV) (es:List KE) {x:Nat} {e:KE} (h:es[x]? =some e):(iI s V es)[8+x]? =some (yY e):=by
 unfold iI
 rw[ou (by simp)]
 simp[h]
theorem Iq (s s':jJ) (V:SV) (es:List KE) {x:Nat} {e:KE} (h:x<es.length) (hk:(e.1=(es[x]).1)) (hs:iI s' V es=iI s V es):iI s' V (es.set x e)=(iI s V es).set (8+x) (yY e):=by
 have h1:iI s' V (es.set x e)=(iI s' V es).set (8+x) (yY e):=by
  unfold iI
  have hkc:eP (es.set x e)=eP es:=by
   unfold eP
   rw[List.map_set,hk]
   apply List.ext_getElem
   ·simp
   ·intro j h1 h2
    rw[List.getElem_set]
    split
    ·rename_i hj;subst hj;simp
    ·rfl
  rw[hkc,List.map_set,qp,qy _ _ (by simp)]
  simp
 rw[h1,hs]
theorem ZM (N:Nat) (w:World) (wb:Nat) (s:jJ) (V:SV) (es:List KE) (ns:Value) (x:Nat) (y:Nat) (z:Int) (hO:jO N w wb s V es) (hn:rQ N w ns [(x:Int),(y:Int),z]) (hG:fP s):Calls Tryz.prog 171 #[.pointer (some ⟨wb,0,none⟩),ns] w (ru N wb (jc s .fill [(x:Int),(y:Int),z]) w):=by
 obtain⟨vt,vn,vw,vu,vr,vh,vk,vs⟩:=V
 obtain⟨ok,ck,rfl⟩: ∃o c,vk= .slice o es.length c:=aT (n:=es.length) (hO.rows.own 6 _ rfl)
 obtain⟨oh,ch,rfl⟩: ∃o c,vh= .slice o s.dw.heaps.length c:=aT (n:=s.dw.heaps.length) (hO.rows.own 5 _ rfl)
 have HO:=ae hO
 have gK:=eG hO
 obtain⟨b,c,rfl,hbN,hcs⟩:=hn
 have lb:b<w.heap.size:=by omega
 have lw:=hO.rows.lt
 have vU:=hO.rows.base
 have HW:Hid (∀W,Below N w W->b<W.heap.size/\ ∀(j:Nat) (h:j<[(x:Int),(y:Int),z].length),W.cell? ⟨b,j,none⟩=some (iv [(x:Int),(y:Int),z][j])):=ae (fun W hB=>⟨by have:=hB.size;omega,fun j h=>(ja (hB.block b hbN)).trans (hcs j h)⟩)
 obtain⟨c0,f0,l0⟩:=af hO.blk
 have oN:=hcs 0 (by simp)
 simp only[au] at oN
 have n01:=hcs 1 (by simp)
 simp only[au] at n01
 have n02:=hcs 2 (by simp)
 simp only[au] at n02
 have HB0:Hid (Below w.heap.size w w):=ae (aH _ _)
 have hes:es.length=s.dw.aU.length:=by rw[<-hO.es];simp
 have HCK:=ae (show ∀(j:Nat) (e:KE),es[j]? =some e->s.dw.aU[j]? =some e.2/\e.2.length=s.dw.heaps.length from fun j e h=>by have h1:s.dw.aU[j]? =some e.2:=(by rw[<-hO.es];simp[h]);exact⟨h1,(hG.ql _ (mW h1)).1⟩)
 have jK:=ae hes
 clear hes
 clear hO hcs hG
 go_enter Tryz.func171,Tryz.ntmps171
 go_wp2_with fail
 refine zg 8 [] none [] ?_
 simp only[zt]
 repeat ((first|refine zd ?_|refine zk ?_);simp only[zp])
 intro W1 hE hF
 have HB1:=ae (bn HB0.o hE.below)
 clear hE hF c0 f0 oN n01 n02
 obtain⟨c1,f1,l1⟩:=af ((HB1.o.block _ lw).trans HO.o.blk)
 obtain⟨wB,hcs1⟩:=HW.o W1 (HB1.o.mono gK)
 have n10:=hcs1 0 (by simp)
 simp only[au] at n10
 have n11:=hcs1 1 (by simp)
 simp only[au] at n11
 have n12:=hcs1 2 (by simp)
 simp only[au] at n12
 clear hcs1
 go_wp2_with fail
 refine(jb _ _ _).mono ?_
 rintro e W2 ⟨hb,⟨hc,rfl⟩|⟨hc,rfl⟩⟩
 rotate_left
 ·simp at hc
  have q0:=jK.o
  simp only[jc,bU,bV,dA]
  (repeat (first|rw[aF (by omega)]|rw[aj (by omega)]))
  exact⟨rfl,(bn HB1.o hb).mono gK,.inr ⟨by simp,rfl⟩⟩
 simp at hc
 have HB2:=ae (bn HB1.o hb)
 have HS2:=ae hb
 have ry:=ae hc
 clear hb hc c1 f1 wB n10 n11 n12
 obtain⟨c2,f2,l2⟩:=af ((HB2.o.block _ lw).trans HO.o.blk)
 obtain⟨xq,hcs2⟩:=HW.o W2 (HB2.o.mono gK)
 have n20:=hcs2 0 (by simp)
 simp only[au] at n20
 have n21:=hcs2 1 (by simp)
 simp only[au] at n21
 have n22:=hcs2 2 (by simp)
 simp only[au] at n22
 clear hcs2
 go_wp2_with fail
 refine zg 8 [] none [] ?_
 simp only[zt]
 repeat ((first|refine zd ?_|refine zk ?_);simp only[zp])
 intro W3 hE hF
 have HB3:=ae (bn HB2.o hE.below)
 clear hE hF c2 f2 xq n20 n21 n22
 obtain⟨c3,f3,l3⟩:=af ((HB3.o.block _ lw).trans HO.o.blk)
 obtain⟨JA,hcs3⟩:=HW.o W3 (HB3.o.mono gK)
 have n30:=hcs3 0 (by simp)
 simp only[au] at n30
 have n31:=hcs3 1 (by simp)
 simp only[au] at n31
 have n32:=hcs3 2 (by simp)
 simp only[au] at n32
 clear hcs3
 go_wp2_with fail
 refine(jb _ _ _).mono ?_
 rintro e W4 ⟨hb,⟨hc,rfl⟩|⟨hc,rfl⟩⟩
 rotate_left
 ·simp at hc
  have q0:=jK.o
  have q1:=ry.o
  simp only[jc,bU,bV,dA]
  (repeat (first|rw[aF (by omega)]|rw[aj (by omega)]))
  exact⟨rfl,(bn HB3.o hb).mono gK,.inr ⟨by simp,rfl⟩⟩
 simp at hc
 have HB4:=ae (bn HB3.o hb)
 have UB:=ae hb
 have yA:=ae hc
 clear hb hc c3 f3 JA n30 n31 n32
 obtain⟨c4,f4,l4⟩:=af ((HB4.o.block _ lw).trans HO.o.blk)
 obtain⟨PU,jY⟩:=HW.o W4 (HB4.o.mono gK)
 have n40:=jY 0 (by simp)
 simp only[au] at n40
 have n41:=jY 1 (by simp)
 simp only[au] at n41
 have n42:=jY 2 (by simp)
 simp only[au] at n42
 clear jY
 go_wp2_with fail
 refine(dW 2 [decide (30<z)] W4 (by simp) _ (by simp[dI]) _ _ rfl).mono ?_
 rintro e W5 ⟨hb,⟨hc,rfl⟩|⟨hc,rfl⟩⟩
 rotate_left
 ·simp at hc
  have q0:=jK.o
  have q1:=ry.o
  have q2:=yA.o
  simp only[jc,bU,bV,dA]
  (repeat (first|rw[aF (by omega)]|rw[aj (by omega)]))
  exact⟨rfl,(bn HB4.o hb).mono gK,.inr ⟨by simp,rfl⟩⟩
 simp at hc
 have pV:=ae (bn HB4.o hb)
 have HS5:=ae hb
 have Ie:=ae hc
 clear hb hc c4 f4 PU n40 n41 n42
 obtain⟨c5,f5,l5⟩:=af ((pV.o.block _ lw).trans HO.o.blk)
 obtain⟨lb5,um⟩:=HW.o W5 (pV.o.mono gK)
 have n50:=um 0 (by simp)
 simp only[au] at n50
 have n51:=um 1 (by simp)
 simp only[au] at n51
 have n52:=um 2 (by simp)
 simp only[au] at n52
 clear um
 go_wp2_with fail
 have q0:=jK.o
 have q1:=ry.o
 have q2:=yA.o
 have q3:=Ie.o
 have hxl:x<es.length:=by omega
 have hyl:y<s.dw.heaps.length:=by omega
 clear q0 q1 q2 q3
 obtain⟨ev,el,hel⟩: ∃ev el,es[x]? =some (ev,el):=⟨_,_,dn hxl⟩
 obtain⟨hcx,hlx⟩:s.dw.aU[x]? =some el/\el.length=s.dw.heaps.length:=HCK.o x _ hel
 have hrow: ∀s' V',(iI s' V' es)[8+x]? =some (yY (ev,el)):=fun s' V'=>yI s' V' es hel
 obtain⟨oe,ce,rfl⟩: ∃o c,ev= .slice o el.length c:=aT (n:=el.length) ((HO.o.below pV.o).rows.own _ _ (hrow _ _))
 obtain⟨gk,rfl,hgk,hfk,hkl⟩:=gY ((HO.o.below pV.o).rows.own 6 _ rfl) (by show 0<es.length;omega)
 have hgx:(eP es)[x]? =some (.slice oe el.length ce):=by simp[eP,hel]
 obtain⟨hg',eg'⟩:=ji.1 hgx
 have g6:=(hgk x hg').trans (by rw[eg'])
 clear hgx hg' eg'
 have UG:=ae (ag hel (ag hcx (ag hlx hrow)))
 clear hgk hel hcx hlx hrow
 obtain⟨gk0,agP⟩: ∃gk0,gk0=gk:=⟨_,rfl⟩
 have HGK:=ae agP
 clear agP
 refine zg 15 [] none [] ?_
 simp only[zt]
 repeat ((first|refine zd ?_|refine zk ?_);simp only[zp])
 intro W6 hE hF
 have qG:=ae (bn pV.o hE.below)
 clear hE hF c5 f5 lb5 n50 n51 n52 g6
 obtain⟨c6,f6,l6⟩:=af ((qG.o.block _ lw).trans HO.o.blk)
 obtain⟨lb6,uk⟩:=HW.o W6 (qG.o.mono gK)
 have n60:=uk 0 (by simp)
 simp only[au] at n60
 have n61:=uk 1 (by simp)
 simp only[au] at n61
 have n62:=uk 2 (by simp)
 simp only[au] at n62
 clear uk
 obtain⟨g,rfl,hcg,hfg,hgl⟩:=gY ((HO.o.below qG.o).rows.own _ _ (UG.o.2.2.2 _ _)) (by show 0<el.length;have:=UG.o.2.2.1;omega)
 have adE:y<el.length:=by have:=UG.o.2.2.1;omega
 have g0:=hcg y (by simpa [yY,ah] using adE)
 simp only[yY,ah,List.getElem_map] at g0
 have HY:=ae (ag hyl (ag hxl adE))
 clear hcg hyl hxl
 go_wp2_with fail
 refine dM fun W7 qh=>?_
 have zV:=HO.o.below qG.o
 have hgN:N<=g:=((zV.rows.own _ _ (UG.o.2.2.2 _ _)).lt g rfl).1
 have hS:=lK (zV.rows.own _ _ (UG.o.2.2.2 _ _)) y (iv z)
 have hO2:jO N W7 wb (fM s {s.dw with aU:=s.dw.aU.set x (el.set y z)}) ⟨vt,vn,vw,vu,vr,.slice oh s.dw.heaps.length ch,.slice (some ⟨gk,0,none⟩) es.length ck,vs⟩ (es.set x (.slice (some ⟨g,0,none⟩) el.length ce,el.set y z)):=by
  rw[qh]
  refine zV.over (i:=8+x) (UG.o.2.2.2 _ _) (g:=g) rfl gz (ah (el.set y z)) ?_ ?_ rfl ?_
  ·simpa [yY,ah,List.map_set] using hS
  ·refine(Iq s _ _ es HY.o.2.1 (by have:=(ji.1 UG.o.1).2;rw[this]) rfl).trans ?_
   simp[yY]
  ·show _=s.dw.aU.set x (el.set y z)
   rw[List.map_set,HO.o.es]
 have zB:=ae (show Below N w W7 from by rw[qh];exact(qG.o.mono gK).setCell hgN _)
 have Ew:=ae hO2
 clear qh zV hgN hS hO2 adE hfg hgl g0 c6 f6 lb6 n60 n61 n62
 obtain⟨c7,f7,l7⟩:=af Ew.o.blk
 obtain⟨lb7,uj⟩:=HW.o W7 zB.o
 have n70:=uj 0 (by simp)
 simp only[au] at n70
 have n71:=uj 1 (by simp)
 simp only[au] at n71
 have n72:=uj 2 (by simp)
 simp only[au] at n72
 obtain⟨gk2,aj1,hgk,aj6,hkl2⟩:=gY (Ew.o.rows.own 6 _ rfl) (by show 0<(es.set x _).length;rw[qp];have:=HY.o.2.1;omega)
 cases aj1
 have hgx:(eP (es.set x (.slice (some ⟨g,0,none⟩) el.length ce,el.set y z)))[x]? =some (.slice (some ⟨g,0,none⟩) el.length ce):=by simp[eP,HY.o.2.1]
 obtain⟨hg',eg'⟩:=ji.1 hgx
 have g6:=(hgk x hg').trans (by rw[eg'])
 have hxl:=HY.o.2.1
 clear hgx hg' eg' hgk uj
 refine zg 9 [] none [] ?_
 simp only[zt]
 repeat ((first|refine zd ?_|refine zk ?_);simp only[zp])
 intro W8 hE hF
 have hOw:=(Ew.o.below (Ext.below hE))
 have hIx:aO W8 (.slice (some ⟨g,0,none⟩) el.length ce) (el.set y z):=by
  have h:=hOw.rows.own (8+x) _ (yI _ _ _ (by rw[List.getElem?_set_self HY.o.2.1]))
  have h2:=aN.dS h
  exact h2
 have pU:=ae (zB.o.trans ((Ext.below hE).mono (eG Ew.o)))
 have HOw:=ae hOw
 have HAP:=ae (S9 _ _ _ hIx)
 clear hE hF hOw hIx c7 f7 lb7 g6 aj6 n70 n71 n72
 go_wp2_with fail
 refine HAP.o.mono ?_
 rintro e W9 ⟨rfl,hb⟩
 have HS:=ae hb
 obtain⟨q,hq⟩: ∃q,((el.set y z).any fun x=>decide (0<x))=q:=⟨_,rfl⟩
 rw[hq]
 have UC:=ae hq
 clear hb hq HAP
 go_wp2_with fail
 refine(dW 8 [!q] W9 (by simp) _ (by simp[dI]) _ _ rfl).mono ?_
 rintro e Td ⟨hb,⟨hc,rfl⟩|⟨hc,rfl⟩⟩
 ·obtain rfl:q=true:=by cases q <;>simp_all
  go_wp2_with fail
  go_end0
  have q0:=jK.o
  have q1:=ry.o
  have q2:=yA.o
  have q3:=Ie.o
  simp only[jc,dA,Int.toNat_natCast];simp only[gW,UG.o.2.1,Option.getD_some,UC.o]
  rw[aj (by omega),aj (by omega),aj (by omega),aj (by simp)]
  exact⟨pU.o.trans ((bn HS.o hb).mono (eG HOw.o)),.inl ⟨rfl,rfl,_,_,HOw.o.below (bn HS.o hb)⟩⟩
 ·obtain rfl:q=false:=by cases q <;>simp_all
  have q0:=jK.o
  have q1:=ry.o
  have q2:=yA.o
  have q3:=Ie.o
  simp only[jc,dA,Int.toNat_natCast];simp only[gW,UG.o.2.1,Option.getD_some,UC.o]
  rw[aj (by omega),aj (by omega),aj (by omega),aF (by simp)]
  exact⟨rfl,pU.o.trans ((bn HS.o hb).mono (eG HOw.o)),.inr ⟨by simp,rfl⟩⟩
theorem aac (N:Nat) (w:World) (wb:Nat) (s:jJ) (V:SV) (es:List KE) (ns:Value) (x:Nat) (y:Int) (hO:jO N w wb s V es) (hn:rQ N w ns [(x:Int),y]) (hG:fP s):Calls Tryz.prog 170 #[.pointer (some ⟨wb,0,none⟩),ns] w (ru N wb (jc s .ql [(x:Int),y]) w):=by
 obtain⟨vt,vn,vw,vu,vr,vh,vk,vs⟩:=V
 obtain⟨oh,ch,rfl⟩: ∃o c,vh= .slice o s.dw.heaps.length c:=aT (n:=s.dw.heaps.length) (hO.rows.own 5 _ rfl)
 obtain⟨ok,ck,rfl⟩: ∃o c,vk= .slice o es.length c:=aT (n:=es.length) (hO.rows.own 6 _ rfl)
 have HO:=ae hO
 have gK:=eG hO
 obtain⟨b,c,rfl,hbN,hcs⟩:=hn
 have lb:b<w.heap.size:=by omega
 have lw:=hO.rows.lt
 have vU:=hO.rows.base
 have HW:Hid (∀W,Below N w W->b<W.heap.size/\ ∀(j:Nat) (h:j<[(x:Int),y].length),W.cell? ⟨b,j,none⟩=some (iv [(x:Int),y][j])):=ae (fun W hB=>⟨by have:=hB.size;omega,fun j h=>(ja (hB.block b hbN)).trans (hcs j h)⟩)
 obtain⟨c0,f0,l0⟩:=af hO.blk
 have oN:=hcs 0 (by simp)
 simp only[au] at oN
 have n01:=hcs 1 (by simp)
 simp only[au] at n01
 have HB0:Hid (Below w.heap.size w w):=ae (aH _ _)
 have hes:es.length=s.dw.aU.length:=by rw[<-hO.es];simp
 have jK:=ae hes
 clear hes
 have V5:=hG.SQ
 have aka:=hG.aU
 have hmk:=vI s.dw.heaps.length (by omega)
 clear hO hcs hG
 go_enter Tryz.func170,Tryz.ntmps170
 go_wp2_with fail
 refine zg 8 [] none [] ?_
 simp only[zt]
 repeat ((first|refine zd ?_|refine zk ?_);simp only[zp])
 intro W1 hE hF
 have HB1:=ae (bn HB0.o hE.below)
 have L8:=ae (Ext.below hE)
 clear hE hF c0 f0 oN n01
 obtain⟨c1,f1,l1⟩:=af ((HB1.o.block _ lw).trans HO.o.blk)
 obtain⟨wB,hcs1⟩:=HW.o W1 (HB1.o.mono gK)
 have n10:=hcs1 0 (by simp)
 simp only[au] at n10
 have n11:=hcs1 1 (by simp)
 simp only[au] at n11
 clear hcs1
 go_wp2_with fail
 refine(jb _ _ _).mono ?_
 rintro e W2 ⟨hb,⟨hc,rfl⟩|⟨hc,rfl⟩⟩
 rotate_left
 ·simp at hc
  have q0:=jK.o
  simp only[jc,bU,bV,dA]
  (repeat (first|rw[aF (by omega)]|rw[aj (by omega)]))
  exact⟨rfl,(bn HB1.o hb).mono gK,.inr ⟨by simp,rfl⟩⟩
 simp at hc
 have HB2:=ae (bn HB1.o hb)
 have HS2:=ae hb
 have ry:=ae hc
 clear hb hc c1 f1 wB n10 n11
 obtain⟨c2,f2,l2⟩:=af ((HB2.o.block _ lw).trans HO.o.blk)
 obtain⟨xq,hcs2⟩:=HW.o W2 (HB2.o.mono gK)
 have n20:=hcs2 0 (by simp)
 simp only[au] at n20
 have n21:=hcs2 1 (by simp)
 simp only[au] at n21
 clear hcs2
 go_wp2_with fail
 refine zg 8 [] none [] ?_
 simp only[zt]
 repeat ((first|refine zd ?_|refine zk ?_);simp only[zp])
 intro W3 hE hF
 have HB3:=ae (bn HB2.o hE.below)
 have HS3:=ae (Ext.below hE)
 clear hE hF c2 f2 xq n20 n21
 obtain⟨c3,f3,l3⟩:=af ((HB3.o.block _ lw).trans HO.o.blk)
 obtain⟨JA,hcs3⟩:=HW.o W3 (HB3.o.mono gK)
 have n30:=hcs3 0 (by simp)
 simp only[au] at n30
 have n31:=hcs3 1 (by simp)
 simp only[au] at n31
 clear hcs3
 go_wp2_with fail
 refine(dW 2 [y==0,decide (30<y)] W3 (by simp) _ (by simp[dI]) _ _ rfl).mono ?_
 rintro e W4 ⟨hb,⟨hc,rfl⟩|⟨hc,rfl⟩⟩
 rotate_left
 ·simp at hc
  have q0:=jK.o
  have q1:=ry.o
  simp only[jc,bU,bV,dA]
  (repeat (first|rw[aF (by omega)]|rw[aj (by omega)]))
  exact⟨rfl,(bn HB3.o hb).mono gK,.inr ⟨by simp,rfl⟩⟩
 simp at hc
 have HB4:=ae (bn HB3.o hb)
 have UB:=ae hb
 have yA:=ae hc
 clear hb hc c3 f3 JA n30 n31
 obtain⟨c4,f4,l4⟩:=af ((HB4.o.block _ lw).trans HO.o.blk)
 obtain⟨PU,jY⟩:=HW.o W4 (HB4.o.mono gK)
 have n40:=jY 0 (by simp)
 simp only[au] at n40
 have n41:=jY 1 (by simp)
 simp only[au] at n41
 clear jY
 go_wp2_with fail
 refine(qI _ _ _).mono ?_
 rintro e W5 ⟨hb,⟨hc,rfl⟩|⟨hc,rfl⟩⟩
 rotate_left
 ·simp at hc
  have q0:=jK.o
  have q1:=ry.o
  have q2:=yA.o
  simp only[jc,bU,bV,dA]
  (repeat (first|rw[aF (by omega)]|rw[aj (by omega)]))
  exact⟨rfl,(bn HB4.o hb).mono gK,.inr ⟨by simp,rfl⟩⟩
 simp at hc
 have pV:=ae (bn HB4.o hb)
 have HS5:=ae hb
 have Ie:=ae hc
 clear hb hc c4 f4 PU n40 n41
 obtain⟨c5,f5,l5⟩:=af ((pV.o.block _ lw).trans HO.o.blk)
 obtain⟨lb5,um⟩:=HW.o W5 (pV.o.mono gK)
 have n50:=um 0 (by simp)
 simp only[au] at n50
 have n51:=um 1 (by simp)
 simp only[au] at n51
 clear um
 go_wp2_with fail
 refine dM fun W6 qh=>?_
 obtain⟨b9,wE⟩: ∃b9,b9=W5.heap.size:=⟨_,rfl⟩
 have hHk:W6.heap[b9]? =some (.cells (ah (List.replicate s.dw.heaps.length 0)).toArray 3 (0,0)):=by rw[qh,wE];exact ay _ _
 have qG:=ae (show Below w.heap.size w W6 from by rw[qh];exact ak pV.o _)
 have Ul:Ext [] W5 W6:=by rw[qh];exact Ext.aA (ak (aH _ _) _)
 have H9:=ae (ag hHk (ag Ul wE))
 rw[<-wE]
 clear qh hHk Ul wE hmk c5 f5 lb5 n50 n51
 obtain⟨c6,f6,l6⟩:=af ((qG.o.block _ lw).trans HO.o.blk)
 obtain⟨lb6,uk⟩:=HW.o W6 (qG.o.mono gK)
 have n60:=uk 0 (by simp)
 simp only[au] at n60
 have n61:=uk 1 (by simp)
 simp only[au] at n61
 clear uk
 have YW:b9<W6.heap.size:=(aS.1 H9.o.1).1
 refine zg 7 [] none [] ?_
 simp only[zt]
 repeat ((first|refine zd ?_|refine zk ?_);simp only[zp])
 intro W7 hE hF
 have zB:=ae (bn qG.o hE.below)
 have HS7:=ae (Ext.below hE)
 clear hE hF c6 f6 lb6 n60 n61
 obtain⟨c7,f7,l7⟩:=af ((zB.o.block _ lw).trans HO.o.blk)
 obtain⟨lb7,uj⟩:=HW.o W7 (zB.o.mono gK)
 have n70:=uj 0 (by simp)
 simp only[au] at n70
 have n71:=uj 1 (by simp)
 simp only[au] at n71
 clear uj
 have q0:=jK.o
 have q1:=ry.o
 have hxl:x<s.dw.heaps.length:=by omega
 have hk9:=(HS7.o.block _ YW).trans H9.o.1
 obtain⟨k9,p9,r9⟩:=af hk9
 have g0:W7.cell? ⟨b9,x,none⟩=some (iv 0):=(k9 x).trans (by simp[ah,hxl])
 have H7:=ae hk9
 clear k9 hk9
 go_upto_region 6 with(fail)
 refine dM fun W8 qh=>?_
 have wE:W5.heap.size<=b9:=by have:=H9.o.2.2;omega
 have hH8:W8.heap[b9]? =some (.cells ((ah (List.replicate s.dw.heaps.length 0)).toArray.setIfInBounds x (iv y)) 3 (0,0)):=by rw[qh];exact aI H7.o _
 have aed:Below W5.heap.size W5 W8:=by rw[qh];exact(bn H9.o.2.1.below HS7.o).setCell wE _
 have pU:=ae (bn pV.o aed)
 have hown:W8.ownsRow N 3 1 (.slice (some ⟨b9,0,none⟩) s.dw.heaps.length s.dw.heaps.length) ((List.replicate s.dw.heaps.length (0:Int)).set x y).length (ah ((List.replicate s.dw.heaps.length 0).set x y)):=by
  rw[qp,List.length_replicate]
  have h9:=pV.o.size
  refine iK (cs:=(ah ((List.replicate s.dw.heaps.length 0).set x y)).toArray) (n:=s.dw.heaps.length) ?_ (by simp[ah]) (by omega) (by simp only[maxLen];omega)
  rw[hH8,qY]
  simp only[ah,List.map_set]
 have hR8:=(HO.o.below pV.o).rows.push (yY (.slice (some ⟨b9,0,none⟩) s.dw.heaps.length s.dw.heaps.length,(List.replicate s.dw.heaps.length 0).set x y)) (Ms:=[]) (Ext.aA aed) (by simp) hown (.inr ⟨b9,rfl,wE⟩)
 have HR8:=ae hR8
 obtain⟨c8,f8,l8⟩:=af ((pU.o.block _ lw).trans HO.o.blk)
 have HX:=ae hxl
 clear qh wE hH8 aed hown hR8 g0 hxl q0 q1 p9 r9 aka V5 c7 f7 lb7 n70 n71
 have hq4:=Ie.o
 have h8s:=pU.o.size
 go_wp2_with (at_builtin;go_loud (refine eU rfl _ _ afz rfl N (.slice ok es.length ck) es.length (eP es) rfl (aC (Ms:=[]) (HR8.o.own 6 _ rfl) (Ext.aA (ak (aH _ _) _)) (by simp)) (.slice (some ⟨W8.heap.size,0,none⟩) 1 1) 1 [.slice (some ⟨b9,0,none⟩) s.dw.heaps.length s.dw.heaps.length] rfl (aN.dD 1 1 (ay _ _) rfl (by decide)) (by simp[Value.oneCell']) (by omega) (by omega) (by simp;omega) ?_))
 intro v' w3 hown hgr hN
 obtain⟨o3,c3,rfl⟩:=aT hown
 have hbl:=(hgr.block wb (by simp;omega) (fun e=>HR8.o.off 6 _ rfl e.symm)).trans ((heap_alloc_old W8 _ l8).trans ((pU.o.block _ lw).trans HO.o.blk))
 obtain⟨k3,p3,r3⟩:=af hbl
 have xZ:Ext (Value.slice ok es.length ck).ownBlock.toList W8 w3:=⟨hgr.os,hgr.tape,hgr.output,by have:=hgr.size;simp at this;omega,fun k hk hm=>(hgr.block k (by simp;omega) (fun e=>hm (dH.2 e.symm))).trans (heap_alloc_old W8 _ hk)⟩
 have HE3:=ae (ag xZ (ag hown (ag hbl hN)))
 clear xZ hown hgr hbl hN c8 f8
 go_wp2_with fail
 go_end0
 have q0:=jK.o
 have q1:=ry.o
 have q2:=yA.o
 have q3:=Ie.o
 simp only[jc,bU,bV,dA]
 (repeat (first|rw[aF (by omega)]|rw[aj (by omega)]))
 simp only[Int.toNat_natCast]
 have hm1: ∀k,k∈(Value.slice ok es.length ck).ownBlock.toList->N<=k/\k<W8.heap.size:=fun k hk=>(HR8.o.own 6 _ rfl).lt k (dH.1 hk)
 have hR:=HR8.o.put (i:=6) rfl ⟨52,1,.slice o3 (es.length+1) c3,es.length+1,eP es++[.slice (some ⟨b9,0,none⟩) s.dw.heaps.length s.dw.heaps.length]⟩ HE3.o.1 (fun m hm=> .inr (.inr (dH.1 hm))) HE3.o.2.1 (HE3.o.2.2.2.imp id (fun e=> .inr ⟨_,e,by simp⟩))
 have hB3:Below N W8 w3:=⟨HE3.o.1.os,HE3.o.1.tape,HE3.o.1.output,HE3.o.1.size,fun k hk=>HE3.o.1.block k (by omega) (fun hm=>by have:=(hm1 k hm).1;omega)⟩
 refine⟨((pU.o.mono gK).trans hB3).setCell vU _,.inl ⟨rfl,rfl,⟨vt,vn,vw,vu,vr,.slice oh s.dw.heaps.length ch,.slice o3 (es.length+1) c3,vs⟩,es++[(.slice (some ⟨b9,0,none⟩) s.dw.heaps.length s.dw.heaps.length,(List.replicate s.dw.heaps.length 0).set x y)],⟨aI HE3.o.2.2.1 _,?_,?_⟩⟩⟩
 ·have:=hR.keep (gz (W:=w3) (b:=wb) (off:=20) (v:= .slice o3 (es.length+1) c3)) (fun m hm=> .inl (by simpa using hm))
  simpa [iI,fM,eP] using this
 ·simp[fM,HO.o.es]
theorem FH (s s':jJ) (V:SV) (es:List KE) {x:Nat} {e:KE} (h:x<es.length) (hs:iI s' V es=iI s V es):
 iI s' V (es.set x e)=((iI s V es).set (8+x) (yY e)).set 6 ⟨52,1,V.cks,es.length,(eP es).set x e.1⟩:=by
 rw[<-hs]
 unfold iI
 rw[qy _ _ (by simp),List.set_append_left _ _ (by simp)]
 simp[eP,List.map_set,qp]
def sV (s:jJ) (h:dQ) (i:Nat):jJ:=fM s {s.dw with heaps:=s.dw.heaps++[h],aU:=(s.dw.aU.take i).map (· ++[0])++s.dw.aU.drop i}
theorem QR (s:jJ) (h:dQ):sV s h 0=fM s {s.dw with heaps:=s.dw.heaps++[h]}:=by simp[sV]
theorem Vt (s:jJ) (h:dQ) (n:Nat) (hn:s.dw.aU.length<=n):sV s h n=fM s {s.dw with heaps:=s.dw.heaps++[h],aU:=s.dw.aU.map (· ++[0])}:=by
 simp[sV,jW hn,List.drop_of_length_le hn]
theorem Vs (s:jJ) (h:dQ) (i:Nat) (hi:i<s.dw.aU.length):(sV s h i).dw.aU[i]? =some s.dw.aU[i]:=by
 simp only[sV,fM]
 rw[ou (by simp;omega)]
 simp[hi,Nat.min_eq_left (mV hi)]
theorem QS (s:jJ) (h:dQ) (i:Nat) (hi:i<s.dw.aU.length):(sV s h i).dw.aU.set i (s.dw.aU[i]++[0])=(sV s h (i+1)).dw.aU:=by
 simp only[sV,fM]
 rw[qy _ _ (by simp;omega)]
 simp only[lX,gJ,Nat.min_eq_left (mV hi),Nat.sub_self]
 rw[uO hi,List.set_cons_zero,qW,List.map_append]
 simp[hi]
theorem Zx (N:Nat) (w:World) (wb:Nat) (s:jJ) (V:SV) (es:List KE) (ns:Value) (x:Int) (y:Int) (hO:jO N w wb s V es) (hn:rQ N w ns [x,y]) (hG:fP s) (hx:0<=x/\x<=9999):Calls Tryz.prog 168 #[.pointer (some ⟨wb,0,none⟩),ns] w (ru N wb (jc s .heap [x,y]) w):=by
 obtain⟨vt,vn,vw,vu,vr,vh,vk,vs⟩:=V
 obtain⟨o,cc,rfl⟩: ∃o c,vh= .slice o s.dw.heaps.length c:=aT (n:=s.dw.heaps.length) (hO.rows.own 5 _ rfl)
 obtain⟨ok,ck,rfl⟩: ∃o c,vk= .slice o es.length c:=aT (n:=es.length) (hO.rows.own 6 _ rfl)
 have HO:=ae hO
 have gK:=eG hO
 obtain⟨b,c,rfl,hbN,hcs⟩:=hn
 have lb:b<w.heap.size:=by omega
 have lw:=hO.rows.lt
 have vU:=hO.rows.base
 have HW:Hid (∀W,Below N w W->b<W.heap.size/\ ∀(j:Nat) (h:j<[x,y].length),W.cell? ⟨b,j,none⟩=some (iv [x,y][j])):=ae (fun W hB=>⟨by have:=hB.size;omega,fun j h=>(ja (hB.block b hbN)).trans (hcs j h)⟩)
 obtain⟨c0,f0,l0⟩:=af hO.blk
 have oN:=hcs 0 (by simp)
 simp only[au] at oN
 have n01:=hcs 1 (by simp)
 simp only[au] at n01
 have HB0:Hid (Below w.heap.size w w):=ae (aH _ _)
 have hes:es.length=s.dw.aU.length:=by rw[<-hO.es];simp
 have jK:=ae hes
 clear hes
 have V5:=hG.SQ
 have HG3:=ae (ag hG.aU hG.ql)
 clear hO hcs hG
 go_enter Tryz.func168,Tryz.ntmps168
 go_wp2_with fail
 refine RX.gy (fun ps W'=> ¬(x<=y/\y<=100/\y<=x+9)/\ps=kz 2/\Below N w W') 8 [] none [(6,⟨fun _ v=>v=rv (x,y),fun _ _ _=>(x<=y/\y<=100/\y<=x+9)⟩),(7,Spec.block w.heap.size #[iv 0,iv 0] 129)] (by rintro ps a1 Wx hdf ⟨h1,rfl,h3⟩;refine⟨hdf,vW (c:=2) h3 ?_ (by decide)⟩;have q0:=jK.o;simp only[jc,bU,bV,dA];(repeat (first|rw[aF (by omega)]|rw[aj (by omega)]))) (by as_aux_lemma=>kernel_rfl) (by as_aux_lemma=>kernel_rfl) ?_
 simp only[zt]
 repeat (refine RX.zd ?_;simp only[zp])
 refine RX.bG _ (by rfl) (by rfl) ⟨_,rfl⟩ (fun Wq hE2 hF2=>?_) (fun v Wa Wb ho hE=>ho) (fun v hv=>?_)
 ·have hE':Ext [] w Wq:=hE2
  refine RX.dB 252 #[iv x,iv y,iv 9] (by go_simp;try rfl) ?_
  refine(vV x y 9 Wq (by omega)).mono ?_
  rintro e w' ⟨hb,⟨hc,rfl⟩|⟨hc,rfl⟩⟩
  ·exact .inl ⟨_,rfl,rfl,hc,Ext.aA hb⟩
  ·exact .inr ⟨_,rfl,hc,rfl,(bn HB0.o (bn hE'.below hb)).mono gK⟩
 obtain rfl:v=rv (x,y):=hv
 simp only[zp]
 repeat (refine RX.zd ?_;simp only[zp])
 refine RX.jQ w.heap.size _ _ (by rfl) (ai _) (by rfl) (by simp) (by simp) (fun W hW=>by go_simp;try rfl) (fun b9=>?_)
 simp only[zp]
 intro Wb hE hF
 obtain⟨b9',wE,hge,hk9⟩:=hF _ (bF _)
 cases wE
 have hc:x<=y/\y<=100/\y<=x+9:=hF _ (nC _ (bF _))
 have HBb:=ae (bn HB0.o (show Ext [] w Wb from hE).below)
 have ry:=ae hc
 have pW:=ae (ag (iR HB0.o.size hge) hk9)
 obtain⟨c9,f9,l9⟩:=af hk9
 clear hE hF hc hge hk9 c0 f0 oN n01
 go_upto_region 2 with(fail)
 refine dM fun W1 qh=>?_
 have HB1:=ae (show Below w.heap.size w W1 from by rw[qh];exact((HBb.o).setCell pW.o.1 _).setCell pW.o.1 _)
 have Df:=ae (show W1.heap[b9]? =some (.cells #[iv x,iv y] 129 (0,0)) from by rw[qh];exact aI (aI (pW.o.2) _) _)
 have YW:b9<W1.heap.size:=(aS.1 Df.o).1
 clear qh c9 f9 l9
 obtain⟨c1,f1,l1⟩:=af ((HB1.o.block _ lw).trans HO.o.blk)
 obtain⟨wB,hcs1⟩:=HW.o W1 (HB1.o.mono gK)
 have n10:=hcs1 0 (by simp)
 simp only[au] at n10
 have n11:=hcs1 1 (by simp)
 simp only[au] at n11
 clear hcs1
 go_wp2_with fail
 refine(qI _ _ _).mono ?_
 rintro e W2 ⟨hb,⟨hc,rfl⟩|⟨hc,rfl⟩⟩
 rotate_left
 ·simp at hc
  have q0:=jK.o
  have q1:=ry.o
  simp only[jc,bU,bV,dA]
  (repeat (first|rw[aF (by omega)]|rw[aj (by omega)]))
  exact⟨rfl,(bn HB1.o hb).mono gK,.inr ⟨by simp,rfl⟩⟩
 simp at hc
 have HB2:=ae (bn HB1.o hb)
 have HS2:=ae hb
 have yA:=ae hc
 clear hb hc c1 f1 wB n10 n11
 obtain⟨c2,f2,l2⟩:=af ((HB2.o.block _ lw).trans HO.o.blk)
 obtain⟨xq,hcs2⟩:=HW.o W2 (HB2.o.mono gK)
 have n20:=hcs2 0 (by simp)
 simp only[au] at n20
 have n21:=hcs2 1 (by simp)
 simp only[au] at n21
 clear hcs2
 go_wp2_with fail
 obtain⟨Ms,hMs⟩: ∃Ms,Ms=(Value.slice o s.dw.heaps.length cc).ownBlock.toList:=⟨_,rfl⟩
 have hO2:=HO.o.below HB2.o
 have hm1:wb∉Ms:=fun h=>hO2.rows.off 5 _ rfl (by rw[hMs] at h;exact dH.1 h)
 have hm2:b∉Ms:=fun h=>by have:=((hO2.rows.own 5 _ rfl).lt b (by rw[hMs] at h;exact dH.1 h)).1;omega
 have ug: ∀m∈Ms,m<W2.heap.size:=fun m h=>((hO2.rows.own 5 _ rfl).lt m (by rw[hMs] at h;exact dH.1 h)).2
 obtain⟨c9,f9,l9⟩:=af ((HS2.o.block _ YW).trans Df.o)
 have hm9:b9∉Ms:=fun h=>by have:=((HO.o.rows.own 5 _ rfl).lt b9 (by rw[hMs] at h;exact dH.1 h)).2;have:=pW.o.1;omega
 have HM:=ae hMs
 have jq:=ae hO2
 clear hMs hO2
 refine zg 8 Ms (some 7) [(6,Spec.slice W2.heap.size #[iv x,iv y] 129 1),(7,⟨fun _ v=> ∃o2 c2,v= .slice o2 (s.dw.heaps.length+1) c2,fun _ v Wx=>Wx.ownsRow N 129 2 v (s.dw.heaps.length+1) (aG s.dw.heaps++[iv x,iv y])/\(v.ownBlock=(Value.slice o s.dw.heaps.length cc).ownBlock∨ ∃q,v.ownBlock=some q/\W2.heap.size<=q)⟩)] ?_
 simp only[zt]
 repeat ((first|refine zd ?_|refine zk ?_);simp only[zp])
 refine dX W2.heap.size _ _ 1 (by rfl) (ai _) (by rfl) ug (by simp) (fun W hW=>by go_simp;try rfl) (fun b6=>?_)
 simp only[zp]
 repeat ((first|refine zd ?_|refine zk ?_);simp only[zp])
 refine bG _ (by rfl) (by rfl) (by exact⟨.slice none (s.dw.heaps.length+1) 0,none,0,rfl⟩) (fun W6 hE hF=>?_) (fun v Wa Wb ho hE=>?_) (fun v hv=>?_)
 ·have hE':Ext [] W2 W6:=hE
  obtain⟨b',hb',hge,hcc⟩:=hF _ (bF _) (by kernel_rfl)
  cases hb'
  have hown6:W6.ownsRow N 129 2 (.slice o s.dw.heaps.length cc) s.dw.heaps.length (aG s.dw.heaps):=aC (Ms:=[]) (jq.o.rows.own 5 _ rfl) hE' (by simp)
  have hsrc:aN 2 W6 (.slice (some ⟨b6,0,none⟩) 1 1) 1 ([iv x,iv y]):=aN.dD 2 1 hcc rfl (by decide)
  refine Does.mono (dK afx (by rfl) (by rfl) hown6 (by rfl) hsrc (YM x y) (by omega) (by omega) (by have:=hE'.size;have:=HB2.o.size;omega)) ?_
  rintro v' W7 ⟨ho,hgr,hcase⟩
  refine⟨aT ho,⟨ho,?_⟩,⟨hgr.os,hgr.tape,hgr.output,hgr.size,fun b hb hn=>hgr.block b hb (fun e=>hn (by rw[HM.o];exact dH.2 e.symm))⟩⟩
  rcases hcase with h1|h1
  ·exact .inl h1
  ·exact .inr ⟨_,h1,hE'.size⟩
 ·exact⟨aC (Ms:=[]) ho.1 hE (by simp),ho.2⟩
 obtain⟨o7,c7,rfl⟩:=hv
 simp only[zp]
 intro W3 hE hF
 obtain⟨qE,zS⟩:=hF _ (bF _)
 have gZ:Ext Ms W2 W3:=hE
 have hbl:=(gZ.block wb jq.o.rows.lt hm1).trans jq.o.blk
 obtain⟨c3,f3,l3⟩:=af hbl
 have iW:=ae (ag gZ (ag qE (ag zS hbl)))
 have Ah:Below N w W3:=(HB2.o.mono gK).trans ⟨gZ.os,gZ.tape,gZ.output,gZ.size,fun k hk=>gZ.block k (by have:=HB2.o.size;omega) (fun h=>by have:=((jq.o.rows.own 5 _ rfl).lt k (by rw[HM.o] at h;exact dH.1 h)).1;omega)⟩
 have pU:=ae Ah
 clear hE hF gZ qE zS hbl Ah hm1 hm2 ug c2 f2 xq n20 n21
 go_upto_region 4 with(fail)
 refine dM fun W4 qh=>?_
 have hO6:jO N W4 wb (sV s (x,y) 0) ⟨vt,vn,vw,vu,vr,.slice o7 (s.dw.heaps.length+1) c7,.slice ok es.length ck,vs⟩ es:=by
  rw[qh,QR]
  exact jq.o.put (i:=5) rfl ⟨129,2,.slice o7 (s.dw.heaps.length+1) c7,s.dw.heaps.length+1,aG s.dw.heaps++[iv x,iv y]⟩ iW.o.1 (fun m hm=>by rw[HM.o] at hm;exact dH.1 hm) iW.o.2.1 iW.o.2.2.1 (aI iW.o.2.2.2 _) (by simp[iI,fM,aG]) jq.o.es
 have HB4:=ae (show Below N w W4 from by rw[qh];exact pU.o.setCell vU _)
 obtain⟨c4,f4,l4⟩:=af hO6.blk
 have Mc:=ae hO6
 clear qh hO6 c3 f3 c9 f9
 go_wp2_with fail
 clear c4 f4
 have hle:es.length<=3:=by have:=jK.o;have:=HG3.o.1;omega
 go_loopw [6,39] (fun _ u wr=> ∃i:Nat,i<=es.length/\u= .int .i64 i/\Below N w wr/\ ∃es':List KE,es'.length=es.length/\jO N wr wb (sV s (x,y) i) ⟨vt,vn,vw,vu,vr,.slice o7 (s.dw.heaps.length+1) c7,.slice ok es.length ck,vs⟩ es') (fun _ u _=>es.length-(intOf u).toNat)
 case atStart=>exact⟨0,bM _,rfl,HB4.o,es,rfl,Mc.o⟩
 case round=>
  obtain⟨i,hi,rfl,hB,es',Iz,hOr⟩:=hrel
  by_cases hlt:i<es.length
  ·obtain⟨c5,f5,l5⟩:=af hOr.blk
   have hic:i<s.dw.aU.length:=by have:=jK.o;omega
   obtain⟨ev,el,Ci⟩: ∃ev el,es'[i]? =some (ev,el):=⟨_,_,dn (by omega)⟩
   have V5:el=s.dw.aU[i]:=by
    have h1:=Vs s (x,y) i hic
    rw[<-hOr.es] at h1
    simpa [Ci] using h1
   have hrow:=yI (sV s (x,y) i) ⟨vt,vn,vw,vu,vr,.slice o7 (s.dw.heaps.length+1) c7,.slice ok es.length ck,vs⟩ es' Ci
   obtain⟨oe,ce,rfl⟩: ∃o c,ev= .slice o el.length c:=aT (n:=el.length) (hOr.rows.own _ _ hrow)
   have aj8:el.length<=3:=by rw[V5,(HG3.o.2 _ (df _)).1];omega
   have h6:wr.ownsRow N 52 1 (.slice ok es.length ck) es.length (eP es'):=by have h:=hOr.rows.own 6 _ rfl;rw[<-Iz];rw[<-Iz] at h;exact h
   obtain⟨gk,rfl,hgk,hfk,hkl⟩:=gY h6 (by omega)
   have hgx:(eP es')[i]? =some (.slice oe el.length ce):=by simp[eP,Ci]
   obtain⟨hg',eg'⟩:=ji.1 hgx
   have g6:=(hgk i hg').trans (by rw[eg'])
   obtain⟨Ms,hMs⟩: ∃Ms,Ms=(Value.slice oe el.length ce).ownBlock.toList:=⟨_,rfl⟩
   have hm1:wb∉Ms:=fun h=>hOr.rows.off _ _ hrow (by rw[hMs] at h;exact dH.1 h)
   have hm2:gk∉Ms:=fun h=>by
    have h0:(Value.slice oe el.length ce).ownBlock=some gk:=(by rw[hMs] at h;exact dH.1 h)
    rcases hOr.rows.apart 6 (8+i) _ _ rfl hrow (by omega) with h1|h1
    ·cases h1
    ·exact h1 h0.symm
   have ug: ∀m∈Ms,m<wr.heap.size:=fun m h=>((hOr.rows.own _ _ hrow).lt m (by rw[hMs] at h;exact dH.1 h)).2
   have HM:=ae hMs
   have IU:=ae (ag hOr (ag hB (ag Ci (ag V5 (ag Iz (ag hrow (ag h6 hic)))))))
   clear hMs hOr hB Ci V5 Iz hrow h6 hgx hg' eg' hgk
   go_wp2_with fail
   refine zg 14 Ms (some 13) [(12,Spec.slice wr.heap.size #[iv 0] 3 1),(13,⟨fun _ v=> ∃o2 c2,v= .slice o2 (el.length+1) c2,fun _ v Wx=>Wx.ownsRow N 3 1 v (el.length+1) (ah el++[iv 0])/\(v.ownBlock=(Value.slice oe el.length ce).ownBlock∨ ∃q,v.ownBlock=some q/\wr.heap.size<=q)⟩)] ?_
   simp only[zt]
   repeat ((first|refine zd ?_|refine zk ?_);simp only[zp])
   refine dX wr.heap.size _ _ 1 (by rfl) (ai _) (by rfl) ug (by simp) (fun W hW=>by go_simp;try rfl) (fun b6=>?_)
   simp only[zp]
   refine bG _ (by rfl) (by rfl) (by exact⟨.slice none (el.length+1) 0,none,0,rfl⟩) (fun W6 hE hF=>?_) (fun v Wa Wb ho hE=>?_) (fun v hv=>?_)
   ·have hE':Ext [] wr W6:=hE
    obtain⟨b',hb',hge,hcc⟩:=hF _ (bF _) (by kernel_rfl)
    cases hb'
    have hown6:W6.ownsRow N 3 1 (.slice oe el.length ce) el.length (ah el):=aC (Ms:=[]) (IU.o.1.rows.own _ _ IU.o.2.2.2.2.2.1) hE' (by simp)
    have hsrc:aN 1 W6 (.slice (some ⟨b6,0,none⟩) 1 1) 1 ([iv 0]):=aN.dD 1 1 hcc rfl (by decide)
    refine Does.mono (dK sH (by rfl) (by rfl) hown6 (by rfl) hsrc (one_one 0) (by omega) (by omega) (by have:=hE'.size;have:=IU.o.2.1.size;omega)) ?_
    rintro v' W7 ⟨ho,hgr,hcase⟩
    refine⟨aT ho,⟨ho,?_⟩,⟨hgr.os,hgr.tape,hgr.output,hgr.size,fun b hb hn=>hgr.block b hb (fun e=>hn (by rw[HM.o];exact dH.2 e.symm))⟩⟩
    rcases hcase with h1|h1
    ·exact .inl h1
    ·exact .inr ⟨_,h1,hE'.size⟩
   ·exact⟨aC (Ms:=[]) ho.1 hE (by simp),ho.2⟩
   obtain⟨o8,c8,rfl⟩:=hv
   simp only[zp]
   intro W8 hE hF
   obtain⟨qE,zS⟩:=hF _ (bF _)
   have gZ:Ext Ms wr W8:=hE
   have hR1:=IU.o.1.rows.put IU.o.2.2.2.2.2.1 (yY (.slice o8 (el.length+1) c8,el++[0])) gZ (fun m hm=> .inr (.inr (by rw[HM.o] at hm;exact dH.1 hm))) (by simpa [yY,ah] using qE) (zS.imp id .inr)
   have hbl:=(gZ.block wb l5 hm1).trans IU.o.1.blk
   obtain⟨c9,f9,l9⟩:=af hbl
   have g7:=(gZ.cell gk i hkl hm2).trans g6
   have h68:W8.ownsRow N 52 1 (.slice (some ⟨gk,0,none⟩) es.length ck) es.length (eP es'):=dm IU.o.2.2.2.2.2.2.1 gZ (fun b hb hm=>by cases hb;exact hm2 hm)
   obtain⟨gk',adX, -,aop,hkl'⟩:=gY h68 (by omega)
   cases adX
   have ahs:Below N w W8:=IU.o.2.1.trans ⟨gZ.os,gZ.tape,gZ.output,gZ.size,fun k hk=>gZ.block k (by have:=IU.o.2.1.size;omega) (fun h=>by have:=((IU.o.1.rows.own _ _ IU.o.2.2.2.2.2.1).lt k (by rw[HM.o] at h;exact dH.1 h)).1;omega)⟩
   have HE:=ae (ag gZ (ag hR1 (ag hbl (ag h68 ahs))))
   clear hE hF gZ qE zS hR1 hbl h68 ahs c5 f5 g6 hm1 hm2 ug hfk hkl
   go_wp2_with fail
   go_roundw
   case rel=>
    refine⟨i+1,by omega,by go_num,HE.o.2.2.2.2.setCell (HE.o.2.2.2.1.lt gk rfl).1 _,es'.set i (.slice o8 (el.length+1) c8,el++[0]),by simp[IU.o.2.2.2.2.1],?_,?_,?_⟩
    ·exact((gz (W:=W8) (b:=gk) (off:=i) (v:= .slice o8 (el.length+1) c8)).block wb HE.o.2.1.lt (fun hm=>HE.o.2.1.off 6 ⟨52,1,.slice (some ⟨gk,0,none⟩) es.length ck,es'.length,eP es'⟩ (by rw[List.getElem?_set_ne (by omega)];rfl) (by rw[fC.1 hm];rfl))).trans HE.o.2.2.1
    ·rw[FH (sV s (x,y) i) (sV s (x,y) (i+1)) _ es' (by rw[IU.o.2.2.2.2.1];exact hlt) rfl]
     have hS:=lK HE.o.2.2.2.1 i (.slice o8 (el.length+1) c8)
     refine HE.o.2.1.put (i:=6) (r:=⟨52,1,.slice (some ⟨gk,0,none⟩) es.length ck,es'.length,eP es'⟩) (by rw[List.getElem?_set_ne (by omega)];rfl) _ gz (fun m hm=> .inr (.inr (by rw[fC.1 hm];rfl))) ?_ (.inl rfl)
     rw[IU.o.2.2.2.2.1]
     exact hS
    ·rw[List.map_set,IU.o.1.es, <-QS s (x,y) i IU.o.2.2.2.2.2.2.2]
     exact congrArg (fun q=>(sV s (x,y) i).dw.aU.set i (q++[0])) IU.o.2.2.2.1
   case measure=>simp[intOf];omega
  ·obtain rfl:i=es.length:=by omega
   have IU:=ae (ag hOr hB)
   clear hOr hB hle
   go_wp2_with fail
   go_end0
   have q0:=jK.o
   have q1:=ry.o
   have q2:=yA.o
   simp only[jc,bU,bV,dA]
   (repeat (first|rw[aF (by omega)]|rw[aj (by omega)]))
   rw[Vt s (x,y) _ (by omega)] at IU
   exact⟨IU.o.2,.inl ⟨rfl,rfl,_,es',IU.o.1⟩⟩
def aau (N:Nat) (t:TypeId) (size g n c:Nat) (xs:List Value) (w:World) (e:Ending) (w':World):Prop:=
 e= .returned (.slice (some ⟨g,0,none⟩) n c)/\w'.ownsRow N t size (.slice (some ⟨g,0,none⟩) n c) n xs/\Ext [g] w w'
theorem gB {W:World} {g:Nat} {cs:Array Value}:Ext [g] W (W.setRow g cs):=
 ⟨rfl,rfl,rfl,by simp,fun k _ hm=>setRow_other _ _ _ _ (by simpa using hm)⟩
theorem tK {P:Program} {t e:TypeId} {z:Value} {size bytes:Nat} (hT:iO P t e z size bytes) {W:World} {N g c n i m:Nat} {xs:List Value} (ho:W.ownsRow N e size (.slice (some ⟨g,0,none⟩) n c) n xs) (h1: ∀u∈xs,u.oneCell'=true)
 (hi:i<n) (hm:m=n-1) (A:Addr) (hA:(if c=i+1 then some (⟨g,0,none⟩:Addr) else some ⟨g,(i+1)*size,none⟩)=some A):
 ∃W1,(∀ty,(Builtin.append_ #[t,t] ty #[.slice (some ⟨g,0,none⟩) i c,.slice (some A) (n-(i+1)) (c-(i+1))]).run P W= .ok (.slice (some ⟨g,0,none⟩) m c) W1)/\
  W1.ownsRow N e size (.slice (some ⟨g,0,none⟩) n c) n (xs.take (i*size)++xs.drop (i*size+size)++xs.drop (n*size-size))/\Ext [g] W W1:=by
 obtain⟨it,hit,hz,hs,hby⟩:=info_parts hT.info
 obtain⟨hl,⟨h2,_⟩|⟨g',c',cur,h2,hb,hg,hnc,hcm,hcs,htk⟩⟩:=ho
 ·cases h2
 cases h2
 have hpos:=hT.pos
 have hnn:n=i+1+(n-(i+1)):=by omega
 have hmul:n*size=i*size+size+(n-(i+1))*size:=by
  conv=>lhs;rw[hnn]
  rw[Nat.add_mul,Nat.add_mul,Nat.one_mul]
 have hcz:n*size<=cur.size:=by rw[hcs];exact Nat.mul_le_mul_right _ hnc
 have hlen:(xs.drop (i*size+size)).length=(n-(i+1))*size:=by rw[kY,hl];omega
 have hnews: ∀j u,(xs.drop (i*size+size))[j]? =some u->W.cell? (A.add j)=some u:=by
  intro j u hu
  have hj:=(ji.1 hu).1
  rw[hlen] at hj
  have hne:c≠i+1:=by
   intro e
   have:n-(i+1)=0:=by omega
   rw[this] at hj
   omega
  rw[aj hne] at hA
  obtain rfl:=jy hA
  rw[Addr.add_lit,cell_of_row W g _ cur e (0,0) hg]
  rw[List.getElem?_drop, <-htk,List.getElem?_take] at hu
  split at hu
  ·rw[show(i+1)*size+j=i*size+size+j from by rw[Nat.add_mul,Nat.one_mul]]
   simpa using hu
  ·cases hu
 have hroom:i+(n-(i+1))<=c:=by omega
 have hfit:i*it.size+(xs.drop (i*size+size)).length<=cur.size:=by rw[hs,hlen];omega
 refine⟨W.setRow g (cur.toList.take (i*size)++xs.drop (i*size+size)++cur.toList.drop (i*size+(xs.drop (i*size+size)).length)).toArray,fun ty=>?_,?_,gB⟩
 ·have:=run_append_room (P:=P) W t ty e it hT.und hit g i c cur hg A (n-(i+1)) (c-(i+1)) (xs.drop (i*size+size)) (by rw[hlen,hs]) hnews (fun u hu=>h1 u (List.mem_of_mem_drop hu)) hroom hfit
  rw[this,hs,show i+(n-(i+1))=m from by omega]
 ·have hti:cur.toList.take (i*size)=xs.take (i*size):=by
   rw[<-htk,List.take_take]
   congr 1
   omega
  have hL:(xs.take (i*size)++xs.drop (i*size+size)++xs.drop (n*size-size)).length=n*size:=by
   simp only[dh,gJ,kY,hl]
   omega
  refine⟨hL,.inr ⟨g,c,_,rfl,hb,setRow_heap W g cur _ e _ hg,hnc,hcm,?_,?_⟩⟩
  ·simp only[List.size_toArray,dh,gJ,kY,Array.length_toList,hl]
   omega
  ·rw[hti,hlen,List.take_append,jW (by simp only[dh,gJ,kY,hl];omega)]
   congr 1
   simp only[dh,gJ,kY,hl]
   rw[show n*size-(min (i*size) (n*size)+(n*size-(i*size+size)))=size from by omega, <-htk,List.drop_take]
   rw[show i*size+(n-(i+1))*size=n*size-size from by omega,show n*size-(n*size-size)=size from by omega]
theorem jF {P:Program} {w w':World} {ops:Array Oper} {rest:List Oper} {o:Oper} {a:Act} {Q:Exit->Act->World->Prop} (hg:o.guard=none) (s x:Operand) {t:TypeId}
 (hop:o.op=Op.call {callee:=Callee.builtin Builtin.append,args:= #[s,x],argTypes:= #[t,t]}) (v src v':Value) (hs:a.eval s=v) (hx:a.eval x=src) (hrun: ∀ty,(Builtin.append_ #[t,t] ty #[v,src]).run P w= .ok v' w')
 (hK:wpList P ops Q rest (a.put o.dst v') w'):wpList P ops Q (o::rest) a w:=by
 refine wpList_plain hg fun K hK'=>?_
 refine yP (R:=fun v1 w1=>v1=v'/\w1=w') (jg v' ?_ ⟨rfl,rfl⟩) fun v1 w1 ⟨h1,h2⟩=>by rw[h1,h2];exact hK' _ _ hK
 simp[execOp,hop,resolve,invoke,builtin,hs,hx,hrun,Result.andThen]
theorem nI {P:Program} {t e:TypeId} {z:Value} {size bytes:Nat} (hT:iO P t e z size bytes) (hv: ∀w,(zeroValue e).run P w= .ok z w) (hz1:(Builtin.zeroCells z.cells 1).toList.all (·.oneCell')=true) {W:World} {N g c n m:Nat} {xs:List Value} (ho:W.ownsRow N e size (.slice (some ⟨g,0,none⟩) n c) n xs) (hm:m+1=n):
 ∃W1,(∀ty,(Builtin.clear_ #[t] ty #[.slice (some ⟨g,m*size,none⟩) (n-m) (c-m)]).run P W= .ok (.tuple #[]) W1)/\W1.ownsRow N e size (.slice (some ⟨g,0,none⟩) m c) m (xs.take (m*size))/\Ext [g] W W1:=by
 obtain⟨it,hit,hz,hs,hby⟩:=info_parts hT.info
 obtain⟨hl,⟨h2,_⟩|⟨g',c',cur,h2,hb,hg,hnc,hcm,hcs,htk⟩⟩:=ho
 ·cases h2
 cases h2
 subst hm
 have hzl:(Builtin.zeroCells z.cells 1).toList.length=size:=by simp[Builtin.zeroCells,hT.cells]
 have hz2: ∀u∈(Builtin.zeroCells z.cells 1).toList,u.oneCell'=true:=fun u hu=>jV.1 hz1 u hu
 have hcz:m*size+size<=cur.size:=by
  rw[hcs]
  have:=Nat.mul_le_mul_right size hnc
  rw[Nat.add_mul,Nat.one_mul] at this
  exact this
 have hst:=run_storeCells_at P g (m*size) e (Builtin.zeroCells z.cells 1).toList 0 cur W hg (by rw[hzl];omega) hz2
 simp only[Nat.add_zero] at hst
 obtain⟨nw,hnw⟩: ∃nw,nw=(cur.toList.take (m*size)++(Builtin.zeroCells z.cells 1).toList++cur.toList.drop (m*size+(Builtin.zeroCells z.cells 1).toList.length)).toArray:=⟨_,rfl⟩
 rw[<-hnw] at hst
 refine⟨W.setRow g nw,fun ty=>?_,⟨?_,.inr ⟨g,c,nw,rfl,hb,setRow_heap W g cur _ e _ hg,by omega,hcm,?_,?_⟩⟩,gB⟩
 ·rw[show m+1-m=0+1 from by omega]
  simp[Builtin.clear_,run_underlying hT.und,hv,hst]
 ·rw[gJ,hl,Nat.add_mul];omega
 ·rw[hnw];simp only[List.size_toArray,dh,gJ,kY,Array.length_toList,hzl]
  omega
 ·rw[hnw]
  rw[kZ,nD (by simp;omega),List.take_take,Nat.min_self, <-htk,List.take_take]
  congr 1
  rw[Nat.add_mul];omega
theorem Sj (N:Nat) (g n c i:Nat) (xs:List Value) (w:World) (ho:w.ownsRow N 186 5 (.slice (some ⟨g,0,none⟩) n c) n xs) (h1: ∀u∈xs,u.oneCell'=true) (hi:i<n) (hn:n<=100):
 Calls Tryz.prog 244 #[.slice (some ⟨g,0,none⟩) n c,iv i,iv (i+1)] w (aau N 186 5 g (n-1) c (xs.take (i*5)++xs.drop (i*5+5)) w):=by
 have hnc:n<=c/\c<=maxLen:=by
  obtain⟨h1,⟨h2,rfl⟩|⟨g',cc,cs,h2,h3,h4,h5,h6,h7,h8⟩⟩:=ho
  ·cases h2
  ·cases h2;exact⟨h5,h6⟩
 obtain⟨hnc,hcm⟩:=hnc
 simp only[maxLen] at hcm
 have hc0:c≠0:=by omega
 have hi1:(i:Int)<=(c:Int):=by omega
 have hi2:(0:Int)<=(i:Int):=by omega
 have hi3:(i:Int)+1<=(n:Int):=by omega
 have hi4:(0:Int)<=(i:Int)+1:=by omega
 have hi5:i<=c:=by omega
 have hi6:i+1<=n:=by omega
 have hi7:((i:Int)+1).toNat=i+1:=by omega
 obtain⟨m,hm⟩: ∃m,m=n-1:=⟨_,rfl⟩
 have hm1:(m:Int)<=(n:Int):=by omega
 have hm2:c≠m:=by omega
 have ug:(n:Int)<=(c:Int):=by omega
 have hm4:m<=n:=by omega
 obtain⟨A,hA⟩: ∃A:Addr,(if c=i+1 then some (⟨g,0,none⟩:Addr) else some ⟨g,(i+1)*5,none⟩)=some A:=by split <;>exact⟨_,rfl⟩
 have HO:=ae (ag ho (ag hm hA))
 clear ho hm
 go_enter Tryz.func244,Tryz.ntmps244
 go_wp2_with fail
 refine zg 6 [] none [] ?_
 simp only[zt]
 repeat ((first|refine zd ?_|refine zk ?_);simp only[zp])
 intro W hE hF
 have HE:=ae (show Ext [] w W from hE)
 clear hE hF
 obtain⟨W1,happ,ho1,hE1⟩:=tK Yc (aC (Ms:=[]) HO.o.1 HE.o (by simp)) h1 hi HO.o.2.1 A HO.o.2.2
 obtain⟨W2,hcl,ho2,hE2⟩:=nI Yc (fun w=>Tryz.zeroValue186 w) (by kernel_rfl) ho1 (m:=m) (by have:=HO.o.2.1;omega)
 have H2:=ae (ag ho2 (ag hE1 hE2))
 clear ho1 ho2 hE1 hE2 hA
 go_wp2_with (at_builtin;refine jF rfl _ _ rfl _ _ _ rfl rfl happ ?_)
 go_returns
 refine⟨by simp;exact HO.o.2.1,?_,((Ext.nil HE.o).trans H2.o.2.1).trans H2.o.2.2⟩
 have h9:=H2.o.1
 rw[<-HO.o.2.1]
 have hl:=HO.o.1.1
 have hx:(xs.take (i*5)++xs.drop (i*5+5)++xs.drop (n*5-5)).take (m*5)=xs.take (i*5)++xs.drop (i*5+5):=by
  have:=HO.o.2.1
  rw[nD (by simp only[dh,gJ,kY,hl];omega),jW (by simp only[dh,gJ,kY,hl];omega)]
 rw[<-hx]
 exact h9
theorem OJ (N:Nat) (g n c i:Nat) (xs:List Value) (w:World) (ho:w.ownsRow N 188 3 (.slice (some ⟨g,0,none⟩) n c) n xs) (h1: ∀u∈xs,u.oneCell'=true) (hi:i<n) (hn:n<=100):
 Calls Tryz.prog 246 #[.slice (some ⟨g,0,none⟩) n c,iv i,iv (i+1)] w (aau N 188 3 g (n-1) c (xs.take (i*3)++xs.drop (i*3+3)) w):=by
 have hnc:n<=c/\c<=maxLen:=by
  obtain⟨h1,⟨h2,rfl⟩|⟨g',cc,cs,h2,h3,h4,h5,h6,h7,h8⟩⟩:=ho
  ·cases h2
  ·cases h2;exact⟨h5,h6⟩
 obtain⟨hnc,hcm⟩:=hnc
 simp only[maxLen] at hcm
 have hc0:c≠0:=by omega
 have hi1:(i:Int)<=(c:Int):=by omega
 have hi2:(0:Int)<=(i:Int):=by omega
 have hi3:(i:Int)+1<=(n:Int):=by omega
 have hi4:(0:Int)<=(i:Int)+1:=by omega
 have hi5:i<=c:=by omega
 have hi6:i+1<=n:=by omega
 have hi7:((i:Int)+1).toNat=i+1:=by omega
 obtain⟨m,hm⟩: ∃m,m=n-1:=⟨_,rfl⟩
 have hm1:(m:Int)<=(n:Int):=by omega
 have hm2:c≠m:=by omega
 have ug:(n:Int)<=(c:Int):=by omega
 have hm4:m<=n:=by omega
 obtain⟨A,hA⟩: ∃A:Addr,(if c=i+1 then some (⟨g,0,none⟩:Addr) else some ⟨g,(i+1)*3,none⟩)=some A:=by split <;>exact⟨_,rfl⟩
 have HO:=ae (ag ho (ag hm hA))
 clear ho hm
 go_enter Tryz.func246,Tryz.ntmps246
 go_wp2_with fail
 refine zg 6 [] none [] ?_
 simp only[zt]
 repeat ((first|refine zd ?_|refine zk ?_);simp only[zp])
 intro W hE hF
 have HE:=ae (show Ext [] w W from hE)
 clear hE hF
 obtain⟨W1,happ,ho1,hE1⟩:=tK aa5 (aC (Ms:=[]) HO.o.1 HE.o (by simp)) h1 hi HO.o.2.1 A HO.o.2.2
 obtain⟨W2,hcl,ho2,hE2⟩:=nI aa5 (fun w=>Tryz.zeroValue188 w) (by kernel_rfl) ho1 (m:=m) (by have:=HO.o.2.1;omega)
 have H2:=ae (ag ho2 (ag hE1 hE2))
 clear ho1 ho2 hE1 hE2 hA
 go_wp2_with (at_builtin;refine jF rfl _ _ rfl _ _ _ rfl rfl happ ?_)
 go_returns
 refine⟨by simp;exact HO.o.2.1,?_,((Ext.nil HE.o).trans H2.o.2.1).trans H2.o.2.2⟩
 have h9:=H2.o.1
 rw[<-HO.o.2.1]
 have hl:=HO.o.1.1
 have hx:(xs.take (i*3)++xs.drop (i*3+3)++xs.drop (n*3-3)).take (m*3)=xs.take (i*3)++xs.drop (i*3+3):=by
  have:=HO.o.2.1
  rw[nD (by simp only[dh,gJ,kY,hl];omega),jW (by simp only[dh,gJ,kY,hl];omega)]
 rw[<-hx]
 exact h9
theorem OI (N:Nat) (g n c i:Nat) (xs:List Value) (w:World) (ho:w.ownsRow N 190 3 (.slice (some ⟨g,0,none⟩) n c) n xs) (h1: ∀u∈xs,u.oneCell'=true) (hi:i<n) (hn:n<=100):
 Calls Tryz.prog 251 #[.slice (some ⟨g,0,none⟩) n c,iv i,iv (i+1)] w (aau N 190 3 g (n-1) c (xs.take (i*3)++xs.drop (i*3+3)) w):=by
 have hnc:n<=c/\c<=maxLen:=by
  obtain⟨h1,⟨h2,rfl⟩|⟨g',cc,cs,h2,h3,h4,h5,h6,h7,h8⟩⟩:=ho
  ·cases h2
  ·cases h2;exact⟨h5,h6⟩
 obtain⟨hnc,hcm⟩:=hnc
 simp only[maxLen] at hcm
 have hc0:c≠0:=by omega
 have hi1:(i:Int)<=(c:Int):=by omega
 have hi2:(0:Int)<=(i:Int):=by omega
 have hi3:(i:Int)+1<=(n:Int):=by omega
 have hi4:(0:Int)<=(i:Int)+1:=by omega
 have hi5:i<=c:=by omega
 have hi6:i+1<=n:=by omega
 have hi7:((i:Int)+1).toNat=i+1:=by omega
 obtain⟨m,hm⟩: ∃m,m=n-1:=⟨_,rfl⟩
 have hm1:(m:Int)<=(n:Int):=by omega
 have hm2:c≠m:=by omega
 have ug:(n:Int)<=(c:Int):=by omega
 have hm4:m<=n:=by omega
 obtain⟨A,hA⟩: ∃A:Addr,(if c=i+1 then some (⟨g,0,none⟩:Addr) else some ⟨g,(i+1)*3,none⟩)=some A:=by split <;>exact⟨_,rfl⟩
 have HO:=ae (ag ho (ag hm hA))
 clear ho hm
 go_enter Tryz.func251,Tryz.ntmps251
 go_wp2_with fail
 refine zg 6 [] none [] ?_
 simp only[zt]
 repeat ((first|refine zd ?_|refine zk ?_);simp only[zp])
 intro W hE hF
 have HE:=ae (show Ext [] w W from hE)
 clear hE hF
 obtain⟨W1,happ,ho1,hE1⟩:=tK aa4 (aC (Ms:=[]) HO.o.1 HE.o (by simp)) h1 hi HO.o.2.1 A HO.o.2.2
 obtain⟨W2,hcl,ho2,hE2⟩:=nI aa4 (fun w=>Tryz.zeroValue190 w) (by kernel_rfl) ho1 (m:=m) (by have:=HO.o.2.1;omega)
 have H2:=ae (ag ho2 (ag hE1 hE2))
 clear ho1 ho2 hE1 hE2 hA
 go_wp2_with (at_builtin;refine jF rfl _ _ rfl _ _ _ rfl rfl happ ?_)
 go_returns
 refine⟨by simp;exact HO.o.2.1,?_,((Ext.nil HE.o).trans H2.o.2.1).trans H2.o.2.2⟩
 have h9:=H2.o.1
 rw[<-HO.o.2.1]
 have hl:=HO.o.1.1
 have hx:(xs.take (i*3)++xs.drop (i*3+3)++xs.drop (n*3-3)).take (m*3)=xs.take (i*3)++xs.drop (i*3+3):=by
  have:=HO.o.2.1
  rw[nD (by simp only[dh,gJ,kY,hl];omega),jW (by simp only[dh,gJ,kY,hl];omega)]
 rw[<-hx]
 exact h9
theorem LG (N:Nat) (g n c i:Nat) (xs:List Value) (w:World) (ho:w.ownsRow N 192 4 (.slice (some ⟨g,0,none⟩) n c) n xs) (h1: ∀u∈xs,u.oneCell'=true) (hi:i<n) (hn:n<=100):
 Calls Tryz.prog 254 #[.slice (some ⟨g,0,none⟩) n c,iv i,iv (i+1)] w (aau N 192 4 g (n-1) c (xs.take (i*4)++xs.drop (i*4+4)) w):=by
 have hnc:n<=c/\c<=maxLen:=by
  obtain⟨h1,⟨h2,rfl⟩|⟨g',cc,cs,h2,h3,h4,h5,h6,h7,h8⟩⟩:=ho
  ·cases h2
  ·cases h2;exact⟨h5,h6⟩
 obtain⟨hnc,hcm⟩:=hnc
 simp only[maxLen] at hcm
 have hc0:c≠0:=by omega
 have hi1:(i:Int)<=(c:Int):=by omega
 have hi2:(0:Int)<=(i:Int):=by omega
 have hi3:(i:Int)+1<=(n:Int):=by omega
 have hi4:(0:Int)<=(i:Int)+1:=by omega
 have hi5:i<=c:=by omega
 have hi6:i+1<=n:=by omega
 have hi7:((i:Int)+1).toNat=i+1:=by omega
 obtain⟨m,hm⟩: ∃m,m=n-1:=⟨_,rfl⟩
 have hm1:(m:Int)<=(n:Int):=by omega
 have hm2:c≠m:=by omega
 have ug:(n:Int)<=(c:Int):=by omega
 have hm4:m<=n:=by omega
 obtain⟨A,hA⟩: ∃A:Addr,(if c=i+1 then some (⟨g,0,none⟩:Addr) else some ⟨g,(i+1)*4,none⟩)=some A:=by split <;>exact⟨_,rfl⟩
 have HO:=ae (ag ho (ag hm hA))
 clear ho hm
 go_enter Tryz.func254,Tryz.ntmps254
 go_wp2_with fail
 refine zg 6 [] none [] ?_
 simp only[zt]
 repeat ((first|refine zd ?_|refine zk ?_);simp only[zp])
 intro W hE hF
 have HE:=ae (show Ext [] w W from hE)
 clear hE hF
 obtain⟨W1,happ,ho1,hE1⟩:=tK aa3 (aC (Ms:=[]) HO.o.1 HE.o (by simp)) h1 hi HO.o.2.1 A HO.o.2.2
 obtain⟨W2,hcl,ho2,hE2⟩:=nI aa3 (fun w=>Tryz.zeroValue192 w) (by kernel_rfl) ho1 (m:=m) (by have:=HO.o.2.1;omega)
 have H2:=ae (ag ho2 (ag hE1 hE2))
 clear ho1 ho2 hE1 hE2 hA
 go_wp2_with (at_builtin;refine jF rfl _ _ rfl _ _ _ rfl rfl happ ?_)
 go_returns
 refine⟨by simp;exact HO.o.2.1,?_,((Ext.nil HE.o).trans H2.o.2.1).trans H2.o.2.2⟩
 have h9:=H2.o.1
 rw[<-HO.o.2.1]
 have hl:=HO.o.1.1
 have hx:(xs.take (i*4)++xs.drop (i*4+4)++xs.drop (n*4-4)).take (m*4)=xs.take (i*4)++xs.drop (i*4+4):=by
  have:=HO.o.2.1
  rw[nD (by simp only[dh,gJ,kY,hl];omega),jW (by simp only[dh,gJ,kY,hl];omega)]
 rw[<-hx]
 exact h9
theorem Sl (N:Nat) (g n c i:Nat) (xs:List Value) (w:World) (ho:w.ownsRow N 3 1 (.slice (some ⟨g,0,none⟩) n c) n xs) (h1: ∀u∈xs,u.oneCell'=true) (hi:i<n) (hn:n<=100):
 Calls Tryz.prog 250 #[.slice (some ⟨g,0,none⟩) n c,iv i,iv (i+1)] w (aau N 3 1 g (n-1) c (xs.take i++xs.drop (i+1)) w):=by
 have hnc:n<=c/\c<=maxLen:=by
  obtain⟨h1,⟨h2,rfl⟩|⟨g',cc,cs,h2,h3,h4,h5,h6,h7,h8⟩⟩:=ho
  ·cases h2
  ·cases h2;exact⟨h5,h6⟩
 obtain⟨hnc,hcm⟩:=hnc
 simp only[maxLen] at hcm
 have hc0:c≠0:=by omega
 have hi1:(i:Int)<=(c:Int):=by omega
 have hi2:(0:Int)<=(i:Int):=by omega
 have hi3:(i:Int)+1<=(n:Int):=by omega
 have hi4:(0:Int)<=(i:Int)+1:=by omega
 have hi5:i<=c:=by omega
 have hi6:i+1<=n:=by omega
 have hi7:((i:Int)+1).toNat=i+1:=by omega
 obtain⟨m,hm⟩: ∃m,m=n-1:=⟨_,rfl⟩
 have hm1:(m:Int)<=(n:Int):=by omega
 have hm2:c≠m:=by omega
 have ug:(n:Int)<=(c:Int):=by omega
 have hm4:m<=n:=by omega
 obtain⟨A,hA⟩: ∃A:Addr,(if c=i+1 then some (⟨g,0,none⟩:Addr) else some ⟨g,i+1,none⟩)=some A:=by split <;>exact⟨_,rfl⟩
 have HO:=ae (ag ho (ag hm hA))
 clear ho hm
 go_enter Tryz.func250,Tryz.ntmps250
 go_wp2_with fail
 refine zg 6 [] none [] ?_
 simp only[zt]
 repeat ((first|refine zd ?_|refine zk ?_);simp only[zp])
 intro W hE hF
 have HE:=ae (show Ext [] w W from hE)
 clear hE hF
 obtain⟨W1,happ,ho1,hE1⟩:=tK sH (aC (Ms:=[]) HO.o.1 HE.o (by simp)) h1 hi HO.o.2.1 A (by rw[Nat.mul_one];exact HO.o.2.2)
 obtain⟨W2,hcl,ho2,hE2⟩:=nI sH (fun w=>Tryz.zeroValue3 w) (by kernel_rfl) ho1 (m:=m) (by have:=HO.o.2.1;omega)
 simp only[Nat.mul_one] at ho1 ho2 hcl
 have H2:=ae (ag ho2 (ag hE1 hE2))
 clear ho1 ho2 hE1 hE2 hA
 go_wp2_with (at_builtin;refine jF rfl _ _ rfl _ _ _ rfl rfl happ ?_)
 go_returns
 refine⟨by simp;exact HO.o.2.1,?_,((Ext.nil HE.o).trans H2.o.2.1).trans H2.o.2.2⟩
 have h9:=H2.o.1
 rw[<-HO.o.2.1]
 have hl:=HO.o.1.1
 have hx:(xs.take i++xs.drop (i+1)++xs.drop (n-1)).take m=xs.take i++xs.drop (i+1):=by
  have:=HO.o.2.1
  rw[nD (by simp only[dh,gJ,kY,hl];omega),jW (by simp only[dh,gJ,kY,hl];omega)]
 rw[<-hx]
 exact h9
end Go.Proofs.YthllkbbbapgelaaGreatDoor.Bk
end

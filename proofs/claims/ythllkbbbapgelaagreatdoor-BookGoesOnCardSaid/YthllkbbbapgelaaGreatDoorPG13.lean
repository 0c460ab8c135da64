/-
  Texts of this claim, packed by a program: DG DH DI DJ DK DL.
-/
import Derived.WalkKit
import Derived.WalkLawsBesides
import Derived.WalkSpells
import Derived.Outline
import Derived.Handy
import Derived.KernelRfl
import Derived.Lib.Hide
import Derived.Test.YthllkbbbapgelaaGreatDoorPG12
set_option maxHeartbeats 8000000
set_option maxRecDepth 100000
set_option linter.all false
theorem _root_.zcK {P:Prop} (h:P:=by
 simp at hc;have q0:=iL.o;exact zai):P:=h
theorem _root_.zcJ {P:Prop} (h:P:=by
 simp at hc;have q0:=iL.o;exact zag):P:=h
theorem _root_.zcD {P:Prop} (h:P:=by
 have G8:Ext [] W2 Wq:=Ι;refine RX.bX 252 #[iv y,iv z,iv 9] (by go_simp;try rfl) ?_;refine(sU y z 9 Wq ϑ).mono ?_;exact zas):P:=h
theorem _root_.zaa {P:Prop} (h:P:=by
 have nZ:=aa (aV mO.o hb);have HS6:=aa hb;have Eb:=aa hc;clear hb hc c5 f5 lb5 n50 n51 n52 n53 n54;obtain⟨c6,f6,l6⟩:=ae ((nZ.o.block _ lw).trans HO.o.blk);obtain⟨lb6,qR⟩:=HW.o W6 (nZ.o.mono fD);have n60:=qR 0 ϕ;simp only[ak] at n60;have n61:=qR 1 ϕ;simp only[ak] at n61;have n62:=qR 2 ϕ;simp only[ak] at n62;have n63:=qR 3 ϕ;simp only[ak] at n63;have n64:=qR 4 ϕ;simp only[ak] at n64;clear qR;go_wp2_with fail
 refine RX.fo (fun ps W'=> ¬(p<=q/\q<=s.led.field.rows)/\ps=ji 2/\Below N w W') 19 [] none [(16,⟨fun _ v=>v=rv (p,q),fun _ _ _=>(p<=q/\q<=s.led.field.rows)⟩),(18,Spec.block W6.heap.size #[iv 0,iv 0,iv 0,iv 0,iv 0] 186)] (by rintro ps a1 Wx hdf ⟨h1,rfl,h3⟩;refine⟨hdf,sV (c:=2) h3 ?_ ϖ⟩;have q0:=iL.o;have q1:=pg.o;have q2:=uu.o;have q3:=Eb.o;simp only[gZ,bI,bJ,df];(repeat (first|rw[aB ϑ]|rw[aj ϑ]))) ϰ ϰ ?_
 simp only[zt];repeat (refine RX.zd ?_;simp only[zp])
 refine RX.bn _ ϱ ϱ ⟨_,rfl⟩ (fun Wq Ι hF2=>?_) (fun v Wa Wb ho hE=>ho) (fun v hv=>?_)
 ·have G8:Ext [] W6 Wq:=Ι;refine RX.bX 242 #[.pointer (some ⟨wb,0,none⟩),iv p,iv q] (by go_simp;try rfl) ?_;refine(rz p q wb s _ Wq ((G8.block _ (dU lw nZ.o.size) ϕ).trans ((nZ.o.block _ lw).trans HO.o.blk))).mono ?_;rintro e w' ⟨hb,⟨hc,rfl⟩|⟨hc,rfl⟩⟩
  ·exact .inl ⟨_,rfl,rfl,hc,Ext.ay hb⟩
  ·exact .inr ⟨_,rfl,hc,rfl,(aV nZ.o (aV G8.below hb)).mono fD⟩
 obtain rfl:v=rv (p,q):=hv;simp only[zp];repeat (refine RX.zd ?_;simp only[zp])
 refine RX.iY W6.heap.size _ _ ϱ (ah _) ϱ ϕ ϕ (fun W hW=>by go_simp;try rfl) (fun b9=>?_);simp only[zp];intro Wb hE hF;obtain⟨b9',tK,hge,sJ⟩:=hF _ (bu _);cases tK;have hc:p<=q/\q<=s.led.field.rows:=hF _ (kW _ (bu _));have Y6:=aa (aV nZ.o (show Ext [] W6 Wb from hE).below);have PS:=aa hc;have oJ:=aa (af (gI nZ.o.size hge) sJ);obtain⟨c9,f9,l9⟩:=ae sJ;clear hE hF hc hge sJ c6 f6 lb6 n60 n61 n62 n63 n64;go_upto_region 5 with(fail)
 refine dz fun W7 nL=>?_;have wK:=aa (show Ϙ w W7 from by rw[nL];exact(((((Y6.o).setCell oJ.o.1 _).setCell oJ.o.1 _).setCell oJ.o.1 _).setCell oJ.o.1 _).setCell oJ.o.1 _)
 have zZ:=aa (show W7.heap[b9]? =some (.cells #[iv x,iv y,iv z,iv p,iv q] 186 (0,0)) from by rw[nL];exact aG (aG (aG (aG (aG (oJ.o.2) _) _) _) _) _)
 have Us:b9<W7.heap.size:=(aP.1 zZ.o).1;clear nL c9 f9 l9;obtain⟨c7,f7,l7⟩:=ae ((wK.o.block _ lw).trans HO.o.blk);obtain⟨lb7,qQ⟩:=HW.o W7 (wK.o.mono fD);have n70:=qQ 0 ϕ;simp only[ak] at n70;have n71:=qQ 1 ϕ;simp only[ak] at n71;have n72:=qQ 2 ϕ;simp only[ak] at n72;have n73:=qQ 3 ϕ;simp only[ak] at n73;have n74:=qQ 4 ϕ;simp only[ak] at n74;clear qQ;go_wp2_with fail
 refine(om _ _ _).mono ?_;rintro e W8 ⟨hb,⟨hc,rfl⟩|⟨hc,rfl⟩⟩;rotate_left
 ·simp at hc;have q0:=iL.o;have q1:=pg.o;have q2:=uu.o;have q3:=Eb.o;have q4:=PS.o;simp only[gZ,bI,bJ,df];(repeat (first|rw[aB ϑ]|rw[aj ϑ]))
  exact⟨rfl,(aV wK.o hb).mono fD,.inr ⟨by simp,rfl⟩⟩
 simp at hc;have nH:=aa (aV wK.o hb);have HS8:=aa hb;have HQ5:=aa hc;clear hb hc c7 f7 lb7 n70 n71 n72 n73 n74;obtain⟨c8,f8,l8⟩:=ae ((nH.o.block _ lw).trans HO.o.blk);obtain⟨lb8,zK⟩:=HW.o W8 (nH.o.mono fD);have n80:=zK 0 ϕ;simp only[ak] at n80;have n81:=zK 1 ϕ;simp only[ak] at n81;have n82:=zK 2 ϕ;simp only[ak] at n82;have n83:=zK 3 ϕ;simp only[ak] at n83;have n84:=zK 4 ϕ;simp only[ak] at n84;clear zK;go_wp2_with fail
 obtain⟨Ms,γ⟩: ∃Ms,Ms=(Value.slice o s.led.field.ax.length cc).ownBlock.toList:=⟨_,rfl⟩;have CO:=HO.o.below nH.o;have Ν:wb∉Ms:=fun h=>CO.rows.off 0 _ rfl (by rw[γ] at h;exact bY.1 h);have hm2:b∉Ms:=fun h=>by have:=((CO.rows.own 0 _ rfl).lt b (by rw[γ] at h;exact bY.1 h)).1;omega
 have pY: ∀m∈Ms,m<W8.heap.size:=fun m h=>((CO.rows.own 0 _ rfl).lt m (by rw[γ] at h;exact bY.1 h)).2;obtain⟨c9,f9,l9⟩:=ae ((HS8.o.block _ Us).trans zZ.o);have hm9:b9∉Ms:=fun h=>by have:=((HO.o.rows.own 0 _ rfl).lt b9 (by rw[γ] at h;exact bY.1 h)).2;have:=oJ.o.1;omega
 have HM:=aa γ;have iD:=aa CO;clear γ CO;refine zg 8 Ms (some 7) [(6,Spec.slice W8.heap.size #[iv x,iv y,iv z,iv p,iv q] 186 1),(7,⟨fun _ v=> ∃o2 c2,v= .slice o2 (s.led.field.ax.length+1) c2,fun _ v Wx=>Wx.ownsRow N 186 5 v (s.led.field.ax.length+1) (dx s.led.field.ax++[iv x,iv y,iv z,iv p,iv q])/\(v.ownBlock=(Value.slice o s.led.field.ax.length cc).ownBlock∨ ∃q,v.ownBlock=some q/\W8.heap.size<=q)⟩)] ?_;simp only[zt];repeat ((first|refine zd ?_|refine zk ?_);simp only[zp])
 refine dI W8.heap.size _ _ 1 ϱ (ah _) ϱ pY ϕ (fun W hW=>by go_simp;try rfl) (fun b6=>?_);simp only[zp];repeat ((first|refine zd ?_|refine zk ?_);simp only[zp])
 refine bn _ ϱ ϱ (by exact⟨.slice none (s.led.field.ax.length+1) 0,none,0,rfl⟩) (fun W6 hE hF=>?_) (fun v Wa Wb ho hE=>?_) (fun v hv=>?_)
 ·have G8:Ext [] W8 W6:=hE;obtain⟨b',hb',hge,μ⟩:=hF _ (bu _) ϰ;cases hb';have YM:W6.ownsRow N 186 5 (.slice o s.led.field.ax.length cc) s.led.field.ax.length (dx s.led.field.ax):=az (Ms:=[]) (iD.o.rows.own 0 _ rfl) G8 ϕ;have ι:aH 5 W6 (.slice (some ⟨b6,0,none⟩) 1 1) 1 ([iv x,iv y,iv z,iv p,iv q]):=aH.bS 5 1 μ rfl ϖ;refine Does.mono (cZ TI ϱ ϱ YM ϱ ι (JS x y z p q) ϑ ϑ (by have:=G8.size;have:=nH.o.size;omega)) ?_;rintro v' W7 ⟨ho,TF,XL⟩;refine⟨aO ho,⟨ho,?_⟩,⟨TF.os,TF.tape,TF.output,TF.size,fun b hb hn=>TF.block b hb (fun e=>hn (by rw[HM.o];exact bY.2 e.symm))⟩⟩;rcases XL with h1|h1
  ·exact .inl h1
  ·exact .inr ⟨_,h1,G8.size⟩
 ·exact⟨az (Ms:=[]) ho.1 hE ϕ,ho.2⟩
 obtain⟨o7,c7,rfl⟩:=hv;simp only[zp];intro W9 hE hF;obtain⟨nD,xB⟩:=hF _ (bu _);have eQ:Ext Ms W8 W9:=hE;have ο:=(eQ.block wb iD.o.rows.lt Ν).trans iD.o.blk;obtain⟨c9,f9,l9⟩:=ae ο;have gP:=aa (af eQ (af nD (af xB ο)));have Az:Below N w W9:=(nH.o.mono fD).trans ⟨eQ.os,eQ.tape,eQ.output,eQ.size,fun k hk=>eQ.block k (by have:=nH.o.size;omega) (fun h=>by have:=((iD.o.rows.own 0 _ rfl).lt k (by rw[HM.o] at h;exact bY.1 h)).1;omega)⟩;have nH:=aa Az;clear hE hF eQ nD xB ο Az Ν hm2 pY c8 f8 lb8 n80 n81 n82 n83 n84;go_wp2_with fail
 go_end0
 have q0:=iL.o;have q1:=pg.o;have q2:=uu.o;have q3:=Eb.o;have q4:=PS.o;have q5:=HQ5.o;simp only[gZ,bI,bJ,df];(repeat (first|rw[aB ϑ]|rw[aj ϑ]))
 refine⟨nH.o.setCell sS _,.inl ⟨rfl,rfl,⟨.slice o7 (s.led.field.ax.length+1) c7,vn,vw,vu,vr,vh,vk,vs⟩,es,iD.o.put (i:=0) rfl ⟨186,5,.slice o7 (s.led.field.ax.length+1) c7,s.led.field.ax.length+1,dx s.led.field.ax++[iv x,iv y,iv z,iv p,iv q]⟩ gP.o.1 (fun m hm=>by rw[HM.o] at hm;exact bY.1 hm) gP.o.2.1 gP.o.2.2.1 (aG gP.o.2.2.2 _) (by simp[gF,kY,dx]) (iD.o.es)⟩⟩):P:=h
theorem _root_.zbY {P:Prop} (h:P:=by
 obtain⟨k1,e1⟩:=gY.1 h1;obtain⟨k2,e2⟩:=gY.1 h2;exact⟨(h _ k1).trans (by rw[e1]),(h _ k2).trans (by rw[e2])⟩):P:=h
theorem _root_.zcc {P:Prop} (h:P:=by
 rw[List.any_eq_false];intro x hx;obtain⟨j,hj,rfl⟩:=kD hx;have:=GX j ϑ;simpa [hj] using this):P:=h
theorem _root_.zbt {P:Prop} (h:P:=by
 rintro v' W7 ⟨ho,TF,XL⟩;refine⟨aO ho,⟨ho,?_⟩,⟨TF.os,TF.tape,TF.output,TF.size,fun b hb hn=>TF.block b hb (fun e=>hn (by rw[HM.o];exact bY.2 e.symm))⟩⟩;rcases XL with h1|h1
 ·exact .inl h1
 ·exact .inr ⟨_,h1,G8.size⟩):P:=h
theorem _root_.zaW {P:Prop} (h:P:=by
 obtain⟨h1,⟨h2,rfl⟩|⟨g',cc,cs,h2,h3,h4,h5,h6,h7,h8⟩⟩:=ho
 ·cases h2
 ·cases h2;exact⟨h5,h6⟩):P:=h
theorem _root_.zaS {P:Prop} (h:P:=by
 have H2:=aa (af Ψ (af hE1 Ι));clear ho1 Ψ hE1 Ι hA;go_wp2_with (at_builtin;refine iO rfl _ _ rfl _ _ _ rfl rfl happ ?_)
 go_returns;refine⟨by simp;exact HO.o.2.1,?_,((Ext.nil HE.o).trans H2.o.2.1).trans H2.o.2.2⟩;have h9:=H2.o.1;rw[<-HO.o.2.1];have hl:=HO.o.1.1;have hx:(xs.take (i*3)++xs.drop (i*3+3)++xs.drop (n*3-3)).take (m*3)=xs.take (i*3)++xs.drop (i*3+3):=by
  have:=HO.o.2.1;rw[lH (by simp only[bR,eO,jq,hl];omega),iT (by simp only[bR,eO,jq,hl];omega)]
 rw[<-hx];exact h9):P:=h
section
namespace Go.Proofs.Z.Bk
open Go.RowKit Go.RG Go.SL Go.Shelf ig Go.TB Go.Proofs.Z.uL
theorem Cb (N:Nat) (W2:World) (wb:Nat) (s:iC) (V:SV) (es:List KE) (ns:Value) (z x y:Int) (hO:iW N W2 wb s V es) (hn:pU N W2 ns [z,x,y]) (hG:eD s):Ϝ 160 #[.pointer (some ⟨wb,0,none⟩),ns] W2 (oZ N wb (gZ s .note [z,x,y]) W2):=by
 obtain⟨vt,vn,vw,vu,vr,vh,vk,vs⟩:=V;obtain⟨o,cc,rfl⟩: ∃o c,vn= .slice o s.led.notes.length c:=aO (n:=s.led.notes.length) (hO.rows.own 1 _ rfl);have HO:=aa hO;have fD:=dS hO;obtain⟨b,c,rfl,hbN,hcs⟩:=hn;have lb:b<W2.heap.size:=ϑ;have lw:=hO.rows.lt;have sS:=hO.rows.base;have HW:Hid (∀W,Below N W2 W->b<W.heap.size/\ ∀(j:Nat) (h:j<[z,x,y].length),W.cell? ⟨b,j,none⟩=some (iv [z,x,y][j])):=aa (fun W hB=>⟨by have:=hB.size;omega,fun j h=>(gW (hB.block b hbN)).trans (hcs j h)⟩);obtain⟨c0,f0,l0⟩:=ae hO.blk;have mJ:=hcs 0 ϕ;simp only[ak] at mJ;have sw:=hcs 1 ϕ;simp only[ak] at sw;have Ai:=hcs 2 ϕ;simp only[ak] at Ai;have Ra:Hid (Ϙ W2 W2):=aa (aC _ _);have Ii:=hG.notes;have hwe:=hG.aJ;clear hO hcs hG;go_enter Tryz.func160,Tryz.ntmps160;go_wp2_with fail
 refine zg 10 [] none [] ?_;simp only[zt];repeat ((first|refine zd ?_|refine zk ?_);simp only[zp])
 intro W1 hE hF;have Qi:=aa (aV Ra.o hE.below);clear hE hF c0 f0 mJ sw Ai;obtain⟨c1,f1,l1⟩:=ae ((Qi.o.block _ lw).trans HO.o.blk);obtain⟨tH,XH⟩:=HW.o W1 (Qi.o.mono fD);have Ξ:=XH 0 ϕ;simp only[ak] at Ξ;have n11:=XH 1 ϕ;simp only[ak] at n11;have n12:=XH 2 ϕ;simp only[ak] at n12;clear XH;go_wp2_with fail
 refine(gX _ _ _).mono ?_;rintro e w ⟨hb,⟨hc,rfl⟩|⟨hc,rfl⟩⟩;rotate_left
 ·simp at hc;exact zag
 simp at hc;have ψ:=aa (aV Qi.o hb);have HS2:=aa hb;have iL:=aa hc;clear hb hc c1 f1 tH Ξ n11 n12;obtain⟨c2,f2,l2⟩:=ae ((ψ.o.block _ lw).trans HO.o.blk);obtain⟨uI,XK⟩:=HW.o w (ψ.o.mono fD);have Χ:=XK 0 ϕ;simp only[ak] at Χ;have n21:=XK 1 ϕ;simp only[ak] at n21;have n22:=XK 2 ϕ;simp only[ak] at n22;clear XK;go_wp2_with fail
 refine RX.fo (fun ps W'=> ¬(x<=y/\y<=2000)/\ps=ji 2/\Below N W2 W') 12 [] none [(9,⟨fun _ v=>v=rv (x,y),fun _ _ _=>(x<=y/\y<=2000)⟩),(11,Spec.block w.heap.size #[iv 0,iv 0,iv 0] 188)] (by rintro ps a1 Wx hdf ⟨h1,rfl,h3⟩;refine⟨hdf,sV (c:=2) h3 ?_ ϖ⟩;have q0:=iL.o;simp only[gZ,bI,bJ,df];(repeat (first|rw[aB ϑ]|rw[aj ϑ]))) ϰ ϰ ?_
 simp only[zt];repeat (refine RX.zd ?_;simp only[zp])
 refine RX.bn _ ϱ ϱ ⟨_,rfl⟩ (fun Wq Ι hF2=>?_) (fun v Wa Wb ho hE=>ho) (fun v hv=>?_)
 ·exact zcH
 obtain rfl:v=rv (x,y):=hv;simp only[zp];repeat (refine RX.zd ?_;simp only[zp])
 refine RX.iY w.heap.size _ _ ϱ (ah _) ϱ ϕ ϕ (fun W hW=>by go_simp;try rfl) (fun b9=>?_);simp only[zp];intro Wb hE hF;obtain⟨b9',tK,hge,sJ⟩:=hF _ (bu _);cases tK;have hc:x<=y/\y<=2000:=hF _ (kW _ (bu _));have Y6:=aa (aV ψ.o (show Ext [] w Wb from hE).below);have pg:=aa hc;have oJ:=aa (af (gI ψ.o.size hge) sJ);obtain⟨c9,f9,l9⟩:=ae sJ;clear hE hF hc hge sJ c2 f2 uI Χ n21 n22;go_upto_region 2 with(fail)
 refine dz fun W3 nL=>?_;have δ:=aa (show Ϙ W2 W3 from by rw[nL];exact(((Y6.o).setCell oJ.o.1 _).setCell oJ.o.1 _).setCell oJ.o.1 _)
 have zZ:=aa (show W3.heap[b9]? =some (.cells #[iv z,iv x,iv y] 188 (0,0)) from by rw[nL];exact aG (aG (aG (oJ.o.2) _) _) _)
 have Us:b9<W3.heap.size:=(aP.1 zZ.o).1;clear nL c9 f9 l9;obtain⟨c3,f3,l3⟩:=ae ((δ.o.block _ lw).trans HO.o.blk);obtain⟨F5,gQ⟩:=HW.o W3 (δ.o.mono fD);have n30:=gQ 0 ϕ;simp only[ak] at n30;have n31:=gQ 1 ϕ;simp only[ak] at n31;have n32:=gQ 2 ϕ;simp only[ak] at n32;clear gQ;go_wp2_with fail
 refine(om _ _ _).mono ?_;rintro e W4 ⟨hb,⟨hc,rfl⟩|⟨hc,rfl⟩⟩;rotate_left
 ·exact zcK
 simp at hc;have fV:=aa (aV δ.o hb);have PR:=aa hb;have uu:=aa hc;clear hb hc c3 f3 F5 n30 n31 n32;obtain⟨c4,f4,l4⟩:=ae ((fV.o.block _ lw).trans HO.o.blk);obtain⟨LX,je⟩:=HW.o W4 (fV.o.mono fD);have n40:=je 0 ϕ;simp only[ak] at n40;have n41:=je 1 ϕ;simp only[ak] at n41;have n42:=je 2 ϕ;simp only[ak] at n42;clear je;go_wp2_with fail
 obtain⟨Ms,γ⟩: ∃Ms,Ms=(Value.slice o s.led.notes.length cc).ownBlock.toList:=⟨_,rfl⟩;have hO4:=HO.o.below fV.o;have Ν:wb∉Ms:=fun h=>hO4.rows.off 1 _ rfl (by rw[γ] at h;exact bY.1 h);have hm2:b∉Ms:=fun h=>by have:=((hO4.rows.own 1 _ rfl).lt b (by rw[γ] at h;exact bY.1 h)).1;omega
 have pY: ∀m∈Ms,m<W4.heap.size:=fun m h=>((hO4.rows.own 1 _ rfl).lt m (by rw[γ] at h;exact bY.1 h)).2;obtain⟨c9,f9,l9⟩:=ae ((PR.o.block _ Us).trans zZ.o);have hm9:b9∉Ms:=fun h=>by have:=((HO.o.rows.own 1 _ rfl).lt b9 (by rw[γ] at h;exact bY.1 h)).2;have:=oJ.o.1;omega
 have HM:=aa γ;have iD:=aa hO4;clear γ hO4;refine zg 10 Ms (some 9) [(8,Spec.slice W4.heap.size #[iv z,iv x,iv y] 188 1),(9,⟨fun _ v=> ∃o2 c2,v= .slice o2 (s.led.notes.length+1) c2,fun _ v Wx=>Wx.ownsRow N 188 3 v (s.led.notes.length+1) (aU s.led.notes++[iv z,iv x,iv y])/\(v.ownBlock=(Value.slice o s.led.notes.length cc).ownBlock∨ ∃q,v.ownBlock=some q/\W4.heap.size<=q)⟩)] ?_;simp only[zt];repeat ((first|refine zd ?_|refine zk ?_);simp only[zp])
 refine dI W4.heap.size _ _ 1 ϱ (ah _) ϱ pY ϕ (fun W hW=>by go_simp;try rfl) (fun b6=>?_);simp only[zp];repeat ((first|refine zd ?_|refine zk ?_);simp only[zp])
 refine bn _ ϱ ϱ (by exact⟨.slice none (s.led.notes.length+1) 0,none,0,rfl⟩) (fun W6 hE hF=>?_) (fun v Wa Wb ho hE=>?_) (fun v hv=>?_)
 ·have G8:Ext [] W4 W6:=hE;obtain⟨b',hb',hge,μ⟩:=hF _ (bu _) ϰ;cases hb';have YM:W6.ownsRow N 188 3 (.slice o s.led.notes.length cc) s.led.notes.length (aU s.led.notes):=az (Ms:=[]) (iD.o.rows.own 1 _ rfl) G8 ϕ;have ι:aH 3 W6 (.slice (some ⟨b6,0,none⟩) 1 1) 1 ([iv z,iv x,iv y]):=aH.bS 3 1 μ rfl ϖ;refine Does.mono (cZ Xn ϱ ϱ YM ϱ ι (BR z x y) ϑ ϑ (by have:=G8.size;have:=fV.o.size;omega)) ?_;exact zat
 ·exact zaP
 obtain⟨o7,c7,rfl⟩:=hv;simp only[zp];intro W5 hE hF;obtain⟨nD,xB⟩:=hF _ (bu _);have eQ:Ext Ms W4 W5:=hE;have ο:=(eQ.block wb iD.o.rows.lt Ν).trans iD.o.blk;obtain⟨c5,f5,l5⟩:=ae ο;have gP:=aa (af eQ (af nD (af xB ο)));have Az:Below N W2 W5:=(fV.o.mono fD).trans ⟨eQ.os,eQ.tape,eQ.output,eQ.size,fun k hk=>eQ.block k (by have:=fV.o.size;omega) (fun h=>by have:=((iD.o.rows.own 1 _ rfl).lt k (by rw[HM.o] at h;exact bY.1 h)).1;omega)⟩;have nH:=aa Az;clear hE hF eQ nD xB ο Az Ν hm2 pY c4 f4 LX n40 n41 n42;go_wp2_with fail
 go_end0
 have q0:=iL.o;have q1:=pg.o;have q2:=uu.o;simp only[gZ,bI,bJ,df];(repeat (first|rw[aB ϑ]|rw[aj ϑ]))
 refine⟨nH.o.setCell sS _,.inl ⟨rfl,rfl,⟨vt,.slice o7 (s.led.notes.length+1) c7,vw,vu,vr,vh,vk,vs⟩,es,iD.o.put (i:=1) rfl ⟨188,3,.slice o7 (s.led.notes.length+1) c7,s.led.notes.length+1,aU s.led.notes++[iv z,iv x,iv y]⟩ gP.o.1 (fun m hm=>by rw[HM.o] at hm;exact bY.1 hm) gP.o.2.1 gP.o.2.2.1 (aG gP.o.2.2.2 _) (by simp[gF,mq,aU]) (iD.o.es)⟩⟩
theorem GQ (N:Nat) (w:World) (wb:Nat) (s:iC) (V:SV) (es:List KE) (ns:Value) (x y z p q:Int) (hO:iW N w wb s V es) (hn:pU N w ns [x,y,z,p,q]) (hG:eD s) (hyz:y<z):Ϝ 155 #[.pointer (some ⟨wb,0,none⟩),ns] w (oZ N wb (gZ s .tally [x,y,z,p,q]) w):=by
 obtain⟨vt,vn,vw,vu,vr,vh,vk,vs⟩:=V;obtain⟨o,cc,rfl⟩: ∃o c,vt= .slice o s.led.field.ax.length c:=aO (n:=s.led.field.ax.length) (hO.rows.own 0 _ rfl);have HO:=aa hO;have fD:=dS hO;obtain⟨b,c,rfl,hbN,hcs⟩:=hn;have lb:b<w.heap.size:=ϑ;have lw:=hO.rows.lt;have sS:=hO.rows.base;have HW:Hid (∀W,Below N w W->b<W.heap.size/\ ∀(j:Nat) (h:j<[x,y,z,p,q].length),W.cell? ⟨b,j,none⟩=some (iv [x,y,z,p,q][j])):=aa (fun W hB=>⟨by have:=hB.size;omega,fun j h=>(gW (hB.block b hbN)).trans (hcs j h)⟩);obtain⟨c0,f0,l0⟩:=ae hO.blk;have mJ:=hcs 0 ϕ;simp only[ak] at mJ;have sw:=hcs 1 ϕ;simp only[ak] at sw;have Ai:=hcs 2 ϕ;simp only[ak] at Ai;have n03:=hcs 3 ϕ;simp only[ak] at n03;have n04:=hcs 4 ϕ;simp only[ak] at n04;have ψ:Hid (Ϙ w w):=aa (aC _ _);have Ii:=hG.A7;have hwe:=hG.aJ;have iL:=aa hyz;clear hO hcs hG;go_enter Tryz.func155,Tryz.ntmps155;go_wp2_with fail
 refine zg 7 [] none [] ?_;simp only[zt];repeat ((first|refine zd ?_|refine zk ?_);simp only[zp])
 intro W1 hE hF;have Qi:=aa (aV ψ.o hE.below);clear hE hF c0 f0 mJ sw Ai n03 n04;obtain⟨c1,f1,l1⟩:=ae ((Qi.o.block _ lw).trans HO.o.blk);obtain⟨tH,XH⟩:=HW.o W1 (Qi.o.mono fD);have Ξ:=XH 0 ϕ;simp only[ak] at Ξ;have n11:=XH 1 ϕ;simp only[ak] at n11;have n12:=XH 2 ϕ;simp only[ak] at n12;have n13:=XH 3 ϕ;simp only[ak] at n13;have n14:=XH 4 ϕ;simp only[ak] at n14;clear XH;go_wp2_with fail
 refine(gX _ _ _).mono ?_;rintro e W2 ⟨hb,⟨hc,rfl⟩|⟨hc,rfl⟩⟩;rotate_left
 ·exact zcJ
 simp at hc;have Ra:=aa (aV Qi.o hb);have HS2:=aa hb;have pg:=aa hc;clear hb hc c1 f1 tH Ξ n11 n12 n13 n14;obtain⟨c2,f2,l2⟩:=ae ((Ra.o.block _ lw).trans HO.o.blk);obtain⟨uI,XK⟩:=HW.o W2 (Ra.o.mono fD);have Χ:=XK 0 ϕ;simp only[ak] at Χ;have n21:=XK 1 ϕ;simp only[ak] at n21;have n22:=XK 2 ϕ;simp only[ak] at n22;have n23:=XK 3 ϕ;simp only[ak] at n23;have n24:=XK 4 ϕ;simp only[ak] at n24;clear XK;go_wp2_with fail
 refine zg 11 [] none [] ?_;simp only[zt];repeat ((first|refine zd ?_|refine zk ?_);simp only[zp])
 intro W3 hE hF;have δ:=aa (aV Ra.o hE.below);clear hE hF c2 f2 uI Χ n21 n22 n23 n24;obtain⟨c3,f3,l3⟩:=ae ((δ.o.block _ lw).trans HO.o.blk);obtain⟨F5,gQ⟩:=HW.o W3 (δ.o.mono fD);have n30:=gQ 0 ϕ;simp only[ak] at n30;have n31:=gQ 1 ϕ;simp only[ak] at n31;have n32:=gQ 2 ϕ;simp only[ak] at n32;have n33:=gQ 3 ϕ;simp only[ak] at n33;have n34:=gQ 4 ϕ;simp only[ak] at n34;clear gQ;go_wp2_with fail
 clear hyz;refine(gX _ _ _).mono ?_;rintro e W4 ⟨hb,⟨hc,rfl⟩|⟨hc,rfl⟩⟩;rotate_left
 ·exact zcK
 simp at hc;have fV:=aa (aV δ.o hb);have PR:=aa hb;have uu:=aa hc;clear hb hc c3 f3 F5 n30 n31 n32 n33 n34;obtain⟨c4,f4,l4⟩:=ae ((fV.o.block _ lw).trans HO.o.blk);obtain⟨LX,je⟩:=HW.o W4 (fV.o.mono fD);have n40:=je 0 ϕ;simp only[ak] at n40;have n41:=je 1 ϕ;simp only[ak] at n41;have n42:=je 2 ϕ;simp only[ak] at n42;have n43:=je 3 ϕ;simp only[ak] at n43;have n44:=je 4 ϕ;simp only[ak] at n44;clear je;go_wp2_with fail
 refine zg 6 [] none [] ?_;simp only[zt];repeat ((first|refine zd ?_|refine zk ?_);simp only[zp])
 intro W5 hE hF;have mO:=aa (aV fV.o hE.below);clear hE hF c4 f4 LX n40 n41 n42 n43 n44;obtain⟨c5,f5,l5⟩:=ae ((mO.o.block _ lw).trans HO.o.blk);obtain⟨lb5,qU⟩:=HW.o W5 (mO.o.mono fD);have n50:=qU 0 ϕ;simp only[ak] at n50;have n51:=qU 1 ϕ;simp only[ak] at n51;have n52:=qU 2 ϕ;simp only[ak] at n52;have n53:=qU 3 ϕ;simp only[ak] at n53;have n54:=qU 4 ϕ;simp only[ak] at n54;clear qU;go_wp2_with fail
 refine(dK 2 [decide (z<y)] W5 ϕ _ (by simp[dw]) _ _ rfl).mono ?_;rintro e W6 ⟨hb,⟨hc,rfl⟩|⟨hc,rfl⟩⟩;rotate_left
 ·simp at hc;have q0:=iL.o;have q1:=pg.o;have q2:=uu.o
  (exfalso;omega)
 simp at hc;exact zaa
theorem GU (N:Nat) (w:World) (wb:Nat) (s:iC) (V:SV) (es:List KE) (ns:Value) (x y z p q:Int) (hO:iW N w wb s V es) (hn:pU N w ns [x,y,z,p,q]) (hG:eD s) (hyz:z<=y):Ϝ 155 #[.pointer (some ⟨wb,0,none⟩),ns] w (oZ N wb (gZ s .tally [x,y,z,p,q]) w):=by
 obtain⟨vt,vn,vw,vu,vr,vh,vk,vs⟩:=V;obtain⟨o,cc,rfl⟩: ∃o c,vt= .slice o s.led.field.ax.length c:=aO (n:=s.led.field.ax.length) (hO.rows.own 0 _ rfl);have HO:=aa hO;have fD:=dS hO;obtain⟨b,c,rfl,hbN,hcs⟩:=hn;have lb:b<w.heap.size:=ϑ;have lw:=hO.rows.lt;have sS:=hO.rows.base;have HW:Hid (∀W,Below N w W->b<W.heap.size/\ ∀(j:Nat) (h:j<[x,y,z,p,q].length),W.cell? ⟨b,j,none⟩=some (iv [x,y,z,p,q][j])):=aa (fun W hB=>⟨by have:=hB.size;omega,fun j h=>(gW (hB.block b hbN)).trans (hcs j h)⟩);obtain⟨c0,f0,l0⟩:=ae hO.blk;have mJ:=hcs 0 ϕ;simp only[ak] at mJ;have sw:=hcs 1 ϕ;simp only[ak] at sw;have Ai:=hcs 2 ϕ;simp only[ak] at Ai;have n03:=hcs 3 ϕ;simp only[ak] at n03;have n04:=hcs 4 ϕ;simp only[ak] at n04;have ψ:Hid (Ϙ w w):=aa (aC _ _);have Ii:=hG.A7;have hwe:=hG.aJ;have iL:=aa hyz;clear hO hcs hG;go_enter Tryz.func155,Tryz.ntmps155;go_wp2_with fail
 refine zg 7 [] none [] ?_;simp only[zt];repeat ((first|refine zd ?_|refine zk ?_);simp only[zp])
 intro W1 hE hF;have Qi:=aa (aV ψ.o hE.below);clear hE hF c0 f0 mJ sw Ai n03 n04;obtain⟨c1,f1,l1⟩:=ae ((Qi.o.block _ lw).trans HO.o.blk);obtain⟨tH,XH⟩:=HW.o W1 (Qi.o.mono fD);have Ξ:=XH 0 ϕ;simp only[ak] at Ξ;have n11:=XH 1 ϕ;simp only[ak] at n11;have n12:=XH 2 ϕ;simp only[ak] at n12;have n13:=XH 3 ϕ;simp only[ak] at n13;have n14:=XH 4 ϕ;simp only[ak] at n14;clear XH;go_wp2_with fail
 refine(gX _ _ _).mono ?_;rintro e W2 ⟨hb,⟨hc,rfl⟩|⟨hc,rfl⟩⟩;rotate_left
 ·exact zcJ
 simp at hc;have Ra:=aa (aV Qi.o hb);have HS2:=aa hb;have pg:=aa hc;clear hb hc c1 f1 tH Ξ n11 n12 n13 n14;obtain⟨c2,f2,l2⟩:=ae ((Ra.o.block _ lw).trans HO.o.blk);obtain⟨uI,XK⟩:=HW.o W2 (Ra.o.mono fD);have Χ:=XK 0 ϕ;simp only[ak] at Χ;have n21:=XK 1 ϕ;simp only[ak] at n21;have n22:=XK 2 ϕ;simp only[ak] at n22;have n23:=XK 3 ϕ;simp only[ak] at n23;have n24:=XK 4 ϕ;simp only[ak] at n24;clear XK;go_wp2_with fail
 refine zg 11 [] none [] ?_;simp only[zt];repeat ((first|refine zd ?_|refine zk ?_);simp only[zp])
 intro W3 hE hF;have δ:=aa (aV Ra.o hE.below);clear hE hF c2 f2 uI Χ n21 n22 n23 n24;obtain⟨c3,f3,l3⟩:=ae ((δ.o.block _ lw).trans HO.o.blk);obtain⟨F5,gQ⟩:=HW.o W3 (δ.o.mono fD);have n30:=gQ 0 ϕ;simp only[ak] at n30;have n31:=gQ 1 ϕ;simp only[ak] at n31;have n32:=gQ 2 ϕ;simp only[ak] at n32;have n33:=gQ 3 ϕ;simp only[ak] at n33;have n34:=gQ 4 ϕ;simp only[ak] at n34;clear gQ;go_wp2_with fail
 clear hyz;refine(gX _ _ _).mono ?_;rintro e W4 ⟨hb,⟨hc,rfl⟩|⟨hc,rfl⟩⟩;rotate_left
 ·exact zcK
 simp at hc;have fV:=aa (aV δ.o hb);have PR:=aa hb;have uu:=aa hc;clear hb hc c3 f3 F5 n30 n31 n32 n33 n34;obtain⟨c4,f4,l4⟩:=ae ((fV.o.block _ lw).trans HO.o.blk);obtain⟨LX,je⟩:=HW.o W4 (fV.o.mono fD);have n40:=je 0 ϕ;simp only[ak] at n40;have n41:=je 1 ϕ;simp only[ak] at n41;have n42:=je 2 ϕ;simp only[ak] at n42;have n43:=je 3 ϕ;simp only[ak] at n43;have n44:=je 4 ϕ;simp only[ak] at n44;clear je;go_wp2_with fail
 refine zg 6 [] none [] ?_;simp only[zt];repeat ((first|refine zd ?_|refine zk ?_);simp only[zp])
 intro W5 hE hF;have mO:=aa (aV fV.o hE.below);clear hE hF c4 f4 LX n40 n41 n42 n43 n44;obtain⟨c5,f5,l5⟩:=ae ((mO.o.block _ lw).trans HO.o.blk);obtain⟨lb5,qU⟩:=HW.o W5 (mO.o.mono fD);have n50:=qU 0 ϕ;simp only[ak] at n50;have n51:=qU 1 ϕ;simp only[ak] at n51;have n52:=qU 2 ϕ;simp only[ak] at n52;have n53:=qU 3 ϕ;simp only[ak] at n53;have n54:=qU 4 ϕ;simp only[ak] at n54;clear qU;go_wp2_with fail
 refine(dK 2 [decide (z<y)] W5 ϕ _ (by simp[dw]) _ _ rfl).mono ?_;rintro e W6 ⟨hb,⟨hc,rfl⟩|⟨hc,rfl⟩⟩;rotate_left
 ·simp at hc;have q0:=iL.o;exact zal
 simp at hc;exact zaa
theorem vW (N:Nat) (w:World) (wb:Nat) (s:iC) (V:SV) (es:List KE) (ns:Value) (x y z p q:Int) (hO:iW N w wb s V es) (hn:pU N w ns [x,y,z,p,q]) (hG:eD s):
 Ϝ 155 #[.pointer (some ⟨wb,0,none⟩),ns] w (oZ N wb (gZ s .tally [x,y,z,p,q]) w):=by
 by_cases h:y<z
 ·exact GQ N w wb s V es ns x y z p q hO hn hG h
 ·exact GU N w wb s V es ns x y z p q hO hn hG ϑ
theorem Xe (N:Nat) (w:World) (wb:Nat) (s:iC) (V:SV) (es:List KE) (ns:Value) (x y z:Int) (hO:iW N w wb s V es) (hn:pU N w ns [x,y,z]) (hG:eD s) (hx:(0<=x/\x<=9999)/\0<=y/\y<=9999):Ϝ 172 #[.pointer (some ⟨wb,0,none⟩),ns] w (oZ N wb (gZ s .xU [x,y,z]) w):=by
 obtain⟨vt,vn,vw,vu,vr,vh,vk,vs⟩:=V;obtain⟨ok,ck,rfl⟩: ∃o c,vk= .slice o es.length c:=aO (n:=es.length) (hO.rows.own 6 _ rfl);obtain⟨o,cc,rfl⟩: ∃o c,vs= .slice o s.cz.aI.length c:=aO (n:=s.cz.aI.length) (hO.rows.own 7 _ rfl);have HO:=aa hO;have fD:=dS hO;obtain⟨b,c,rfl,hbN,hcs⟩:=hn;have lb:b<w.heap.size:=ϑ;have lw:=hO.rows.lt;have sS:=hO.rows.base;have HW:Hid (∀W,Below N w W->b<W.heap.size/\ ∀(j:Nat) (h:j<[x,y,z].length),W.cell? ⟨b,j,none⟩=some (iv [x,y,z][j])):=aa (fun W hB=>⟨by have:=hB.size;omega,fun j h=>(gW (hB.block b hbN)).trans (hcs j h)⟩);obtain⟨c0,f0,l0⟩:=ae hO.blk;have mJ:=hcs 0 ϕ;simp only[ak] at mJ;have sw:=hcs 1 ϕ;simp only[ak] at sw;have Ai:=hcs 2 ϕ;simp only[ak] at Ai;have Ra:Hid (Ϙ w w):=aa (aC _ _);have Ii:=hG.aI;have hes:es.length=s.cz.aR.length:=by rw[<-hO.es];simp
 have iL:=aa hes;clear hes;clear hO hcs hG;go_enter Tryz.func172,Tryz.ntmps172;go_wp2_with fail
 refine zg 8 [] none [] ?_;simp only[zt];repeat ((first|refine zd ?_|refine zk ?_);simp only[zp])
 intro W1 hE hF;have Qi:=aa (aV Ra.o hE.below);clear hE hF c0 f0 mJ sw Ai;obtain⟨c1,f1,l1⟩:=ae ((Qi.o.block _ lw).trans HO.o.blk);obtain⟨tH,XH⟩:=HW.o W1 (Qi.o.mono fD);have Ξ:=XH 0 ϕ;simp only[ak] at Ξ;have n11:=XH 1 ϕ;simp only[ak] at n11;have n12:=XH 2 ϕ;simp only[ak] at n12;clear XH;go_wp2_with fail
 refine(gX _ _ _).mono ?_;rintro e W2 ⟨hb,⟨hc,rfl⟩|⟨hc,rfl⟩⟩;rotate_left
 ·exact zcJ
 simp at hc;have ψ:=aa (aV Qi.o hb);have HS2:=aa hb;have uu:=aa hc;clear hb hc c1 f1 tH Ξ n11 n12;obtain⟨c2,f2,l2⟩:=ae ((ψ.o.block _ lw).trans HO.o.blk);obtain⟨uI,XK⟩:=HW.o W2 (ψ.o.mono fD);have Χ:=XK 0 ϕ;simp only[ak] at Χ;have n21:=XK 1 ϕ;simp only[ak] at n21;have n22:=XK 2 ϕ;simp only[ak] at n22;clear XK;go_wp2_with fail
 refine RX.fo (fun ps W'=> ¬(y<=z/\z<=100/\z<=y+100)/\ps=ji 2/\Below N w W') 8 [] none [(6,⟨fun _ v=>v=rv (y,z),fun _ _ _=>(y<=z/\z<=100/\z<=y+100)⟩),(7,Spec.block W2.heap.size #[iv 0,iv 0] 129)] (by rintro ps a1 Wx hdf ⟨h1,rfl,h3⟩;refine⟨hdf,sV (c:=2) h3 ?_ ϖ⟩;have q0:=iL.o;have q2:=uu.o;simp only[gZ,bI,bJ,df];(repeat (first|rw[aB ϑ]|rw[aj ϑ]))) ϰ ϰ ?_
 simp only[zt];repeat (refine RX.zd ?_;simp only[zp])
 refine RX.bn _ ϱ ϱ ⟨_,rfl⟩ (fun Wq Ι hF2=>?_) (fun v Wa Wb ho hE=>ho) (fun v hv=>?_)
 ·have G8:Ext [] W2 Wq:=Ι;refine RX.bX 252 #[iv y,iv z,iv 100] (by go_simp;try rfl) ?_;refine(sU y z 100 Wq ϑ).mono ?_;exact zas
 obtain rfl:v=rv (y,z):=hv;simp only[zp];repeat (refine RX.zd ?_;simp only[zp])
 refine RX.iY W2.heap.size _ _ ϱ (ah _) ϱ ϕ ϕ (fun W hW=>by go_simp;try rfl) (fun b9=>?_);simp only[zp];intro Wb hE hF;obtain⟨b9',tK,hge,sJ⟩:=hF _ (bu _);cases tK;have hc:y<=z/\z<=100/\z<=y+100:=hF _ (kW _ (bu _));have Y6:=aa (aV ψ.o (show Ext [] W2 Wb from hE).below);have pg:=aa hc;have oJ:=aa (af (gI ψ.o.size hge) sJ);obtain⟨c9,f9,l9⟩:=ae sJ;clear hE hF hc hge sJ c2 f2 uI Χ n21 n22;go_upto_region 3 with(fail)
 refine dz fun W3 nL=>?_;have δ:=aa (show Ϙ w W3 from by rw[nL];exact((Y6.o).setCell oJ.o.1 _).setCell oJ.o.1 _)
 have zZ:=aa (show W3.heap[b9]? =some (.cells #[iv y,iv z] 129 (0,0)) from by rw[nL];exact aG (aG (oJ.o.2) _) _)
 have Us:b9<W3.heap.size:=(aP.1 zZ.o).1;clear nL c9 f9 l9;obtain⟨c3,f3,l3⟩:=ae ((δ.o.block _ lw).trans HO.o.blk);obtain⟨F5,gQ⟩:=HW.o W3 (δ.o.mono fD);have n30:=gQ 0 ϕ;simp only[ak] at n30;have n31:=gQ 1 ϕ;simp only[ak] at n31;have n32:=gQ 2 ϕ;simp only[ak] at n32;clear gQ;go_wp2_with fail
 refine(om _ _ _).mono ?_;rintro e W4 ⟨hb,⟨hc,rfl⟩|⟨hc,rfl⟩⟩;rotate_left
 ·simp at hc;have q0:=iL.o;have q2:=uu.o;exact zai
 simp at hc;have fV:=aa (aV δ.o hb);have PR:=aa hb;have Eb:=aa hc;clear hb hc c3 f3 F5 n30 n31 n32;obtain⟨c4,f4,l4⟩:=ae ((fV.o.block _ lw).trans HO.o.blk);obtain⟨LX,je⟩:=HW.o W4 (fV.o.mono fD);have n40:=je 0 ϕ;simp only[ak] at n40;have n41:=je 1 ϕ;simp only[ak] at n41;have n42:=je 2 ϕ;simp only[ak] at n42;clear je;go_wp2_with fail
 obtain⟨Ms,γ⟩: ∃Ms,Ms=(Value.slice o s.cz.aI.length cc).ownBlock.toList:=⟨_,rfl⟩;have hO4:=HO.o.below fV.o;have Ν:wb∉Ms:=fun h=>hO4.rows.off 7 _ rfl (by rw[γ] at h;exact bY.1 h);have hm2:b∉Ms:=fun h=>by have:=((hO4.rows.own 7 _ rfl).lt b (by rw[γ] at h;exact bY.1 h)).1;omega
 have pY: ∀m∈Ms,m<W4.heap.size:=fun m h=>((hO4.rows.own 7 _ rfl).lt m (by rw[γ] at h;exact bY.1 h)).2;obtain⟨c9,f9,l9⟩:=ae ((PR.o.block _ Us).trans zZ.o);have hm9:b9∉Ms:=fun h=>by have:=((HO.o.rows.own 7 _ rfl).lt b9 (by rw[γ] at h;exact bY.1 h)).2;have:=oJ.o.1;omega
 have HM:=aa γ;have iD:=aa hO4;clear γ hO4;refine zg 12 Ms (some 11) [(10,Spec.slice W4.heap.size #[.bool true,iv x,iv y,iv z] 192 1),(11,⟨fun _ v=> ∃o2 c2,v= .slice o2 (s.cz.aI.length+1) c2,fun _ v Wx=>Wx.ownsRow N 192 4 v (s.cz.aI.length+1) (fH s.cz.aI++[.bool true,iv x,iv y,iv z])/\(v.ownBlock=(Value.slice o s.cz.aI.length cc).ownBlock∨ ∃q,v.ownBlock=some q/\W4.heap.size<=q)⟩)] ?_;simp only[zt];repeat ((first|refine zd ?_|refine zk ?_);simp only[zp])
 refine dI W4.heap.size _ _ 1 ϱ (ah _) ϱ pY ϕ (fun W hW=>by go_simp;try rfl) (fun b6=>?_);simp only[zp];repeat ((first|refine zd ?_|refine zk ?_);simp only[zp])
 refine bn _ ϱ ϱ (by exact⟨.slice none (s.cz.aI.length+1) 0,none,0,rfl⟩) (fun W6 hE hF=>?_) (fun v Wa Wb ho hE=>?_) (fun v hv=>?_)
 ·have G8:Ext [] W4 W6:=hE;obtain⟨b',hb',hge,μ⟩:=hF _ (bu _) ϰ;cases hb';have YM:W6.ownsRow N 192 4 (.slice o s.cz.aI.length cc) s.cz.aI.length (fH s.cz.aI):=az (Ms:=[]) (iD.o.rows.own 7 _ rfl) G8 ϕ;have ι:aH 4 W6 (.slice (some ⟨b6,0,none⟩) 1 1) 1 ([.bool true,iv x,iv y,iv z]):=aH.bS 4 1 μ rfl ϖ;refine Does.mono (cZ Xl ϱ ϱ YM ϱ ι (Xx x y z) ϑ ϑ (by have:=G8.size;have:=fV.o.size;omega)) ?_;exact zat
 ·exact zaP
 obtain⟨o7,c7,rfl⟩:=hv;simp only[zp];intro W5 hE hF;obtain⟨nD,xB⟩:=hF _ (bu _);have eQ:Ext Ms W4 W5:=hE;have ο:=(eQ.block wb iD.o.rows.lt Ν).trans iD.o.blk;obtain⟨c5,f5,l5⟩:=ae ο;have gP:=aa (af eQ (af nD (af xB ο)));have Az:Below N w W5:=(fV.o.mono fD).trans ⟨eQ.os,eQ.tape,eQ.output,eQ.size,fun k hk=>eQ.block k (by have:=fV.o.size;omega) (fun h=>by have:=((iD.o.rows.own 7 _ rfl).lt k (by rw[HM.o] at h;exact bY.1 h)).1;omega)⟩;have nH:=aa Az;clear hE hF eQ nD xB ο Az Ν hm2 pY c4 f4 LX n40 n41 n42;go_wp2_with fail
 go_end0
 have q0:=iL.o;have q2:=uu.o;have q1:=pg.o;have q3:=Eb.o;simp only[gZ,bI,bJ,df];(repeat (first|rw[aB ϑ]|rw[aj ϑ]))
 refine⟨nH.o.setCell sS _,.inl ⟨rfl,rfl,⟨vt,vn,vw,vu,vr,vh,.slice ok (es.length) ck,.slice o7 (s.cz.aI.length+1) c7⟩,es,iD.o.put (i:=7) rfl ⟨192,4,.slice o7 (s.cz.aI.length+1) c7,s.cz.aI.length+1,fH s.cz.aI++[.bool true,iv x,iv y,iv z]⟩ gP.o.1 (fun m hm=>by rw[HM.o] at hm;exact bY.1 hm) gP.o.2.1 gP.o.2.2.1 (aG gP.o.2.2.2 _) (by simp[gF,eF,fH]) (iD.o.es)⟩⟩
theorem fP {w:World} {N:Nat} {t:TypeId} {size:Nat} {o:Option Addr} {n c m:Nat} {xs:List Value} (h:w.ownsRow N t size (.slice o m c) n xs) (hn:0<n):
 ∃g,o=some ⟨g,0,none⟩/\(∀(j:Nat) (hj:j<xs.length),w.cell? ⟨g,j,none⟩=some xs[j])/\(∀j,w.frozen? ⟨g,j,none⟩=false)/\g<w.heap.size:=by
 obtain⟨h1,⟨h2,rfl⟩|⟨g,cc,cs,h2,h3,h4,h5,h6,h7,h8⟩⟩:=h
 ·omega
 ·cases h2;obtain⟨k0,k1,k2⟩:=ae h4;refine⟨g,rfl,fun j hj=>?_,k1,k2⟩;rw[k0, <-Array.getElem?_toList];have:(cs.toList.take (n*size))[j]? =some xs[j]:=by rw[h8];exact bZ hj
  rw[List.getElem?_take] at this;split at this
  ·exact this
  ·cases this
theorem jX {w:World} {N:Nat} {t:TypeId} {size:Nat} {g n c m:Nat} {xs:List Value} (h:w.ownsRow N t size (.slice (some ⟨g,0,none⟩) m c) n xs) (j:Nat) (u:Value):(w.setCell ⟨g,j,none⟩ u).ownsRow N t size (.slice (some ⟨g,0,none⟩) m c) n (xs.set j u):=by
 obtain⟨h1,⟨h2,rfl⟩|⟨g',cc,cs,h2,h3,h4,h5,h6,h7,h8⟩⟩:=h
 ·cases h2
 ·cases h2;refine⟨by simpa using h1,.inr ⟨g,c,_,rfl,h3,aG h4 u,h5,h6,by simpa using h7,?_⟩⟩;rw[<-h8,Array.toList_setIfInBounds,List.take_set]
theorem iF {α:Type} (f:α->List Value) (k:Nat) (hk: ∀x,(f x).length=k): ∀(l:List α) (i j:Nat) (x:α),l[i]? =some x->j<k->(l.flatMap f)[i*k+j]? =(f x)[j]? :=by
 intro l;induction l with
 |nil=>intro i j x h _;cases h
 |cons y l ih=>
  intro i j x h hj;rw[List.flatMap_cons];cases i with
  |zero=>
   simp only[List.getElem?_cons_zero,Option.some.injEq] at h;subst h;rw[rP (by rw[hk];omega)];congr 1;omega
  |succ i=>
   rw[lI (by rw[hk,Nat.succ_mul];omega),hk];rw[show(i+1)*k+j-k=i*k+j from by rw[Nat.succ_mul];omega]
   exact ih i j x (by simpa using h) hj
theorem yD {α:Type} (f:α->List Value) (k:Nat) (hk: ∀x,(f x).length=k): ∀(l:List α) (i j:Nat) (x y:α) (u:Value),l[i]? =some x->j<k->(f x).set j u=f y->(l.flatMap f).set (i*k+j) u=(l.set i y).flatMap f:=by
 intro l;induction l with
 |nil=>intro i j x y u h _ _;cases h
 |cons z l ih=>
  intro i j x y u h hj hu;rw[List.flatMap_cons];cases i with
  |zero=>
   simp only[List.getElem?_cons_zero,Option.some.injEq] at h;subst h;rw[List.set_append_left _ _ (by rw[hk];omega),List.set_cons_zero,List.flatMap_cons, <-hu];congr 2;omega
  |succ i=>
   rw[nT _ _ (by rw[hk,Nat.succ_mul];omega),hk,List.set_cons_succ,List.flatMap_cons];rw[show(i+1)*k+j-k=i*k+j from by rw[Nat.succ_mul];omega,ih i j x y u (by simpa using h) hj hu]
theorem Ub (l:List dF) (i:Nat) (h:i<l.length):(aD l)[i*2+0]? =some (iv l[i].1)/\(aD l)[i*2+1]? =some (iv l[i].2):=
 ⟨iF _ 2 (fun _=>rfl) l i 0 _ (bZ h) ϑ,iF _ 2 (fun _=>rfl) l i 1 _ (bZ h) ϑ⟩
theorem JN (l:List dF) (i:Nat) (h:i<l.length) (a b:Int):((aD l).set (i*2+0) (iv a)).set (i*2+1) (iv b)=aD (l.set i (a,b)):=by
 unfold aD;rw[yD _ 2 (fun _=>rfl) l i 0 _ (a,l[i].2) (iv a) (bZ h) ϑ rfl,yD _ 2 (fun _=>rfl) (l.set i (a,l[i].2)) i 1 (a,l[i].2) (a,b) (iv b) (by simp[h]) ϑ rfl];simp
theorem iW.over {N:Nat} {w W:World} {wb:Nat} {s s':iC} {V:SV} {es Ο:List KE} (h:iW N w wb s V es) {i:Nat} {r:Row} (hr:(gF s V es)[i]? =some r) {g:Nat} (hg:r.v.ownBlock=some g) (hE:Ext [g] w W) (xs:List Value)
 (ho:W.ownsRow N r.t r.size r.v r.n xs) (hrows:gF s' V Ο=(gF s V es).set i ⟨r.t,r.size,r.v,r.n,xs⟩) (hsc:bP s' V=bP s V) (hes:Ο.map (·.2)=s'.cz.aR):iW N W wb s' V Ο:=by
 refine⟨?_,?_,hes⟩
 ·rw[hsc];refine(hE.block wb h.rows.lt (fun hm=>h.rows.off i r hr ?_)).trans h.blk;rw[hg,dY.1 hm]
 ·rw[hrows];exact h.rows.put hr ⟨r.t,r.size,r.v,r.n,xs⟩ hE (fun m hm=> .inr (.inr (by rw[hg,dY.1 hm]))) ho (.inl rfl)
theorem Xh (l:List IY) (i:Nat) (h:i<l.length):(dx l)[i*5+3]? =some (iv l[i].2.2.2.1)/\(dx l)[i*5+4]? =some (iv l[i].2.2.2.2):=
 ⟨iF _ 5 (fun _=>rfl) l i 3 _ (bZ h) ϑ,iF _ 5 (fun _=>rfl) l i 4 _ (bZ h) ϑ⟩
theorem Xg (l:List IY) (i:Nat) (h:i<l.length) (a b:Int):((dx l).set (i*5+3) (iv a)).set (i*5+4) (iv b)=dx (l.set i (l[i].1,l[i].2.1,l[i].2.2.1,(a,b))):=by
 unfold dx;rw[yD _ 5 (fun _=>rfl) l i 3 _ (l[i].1,l[i].2.1,l[i].2.2.1,(a,l[i].2.2.2.2)) (iv a) (bZ h) ϑ rfl,yD _ 5 (fun _=>rfl) (l.set i (l[i].1,l[i].2.1,l[i].2.2.1,(a,l[i].2.2.2.2))) i 4 (l[i].1,l[i].2.1,l[i].2.2.1,(a,l[i].2.2.2.2)) (l[i].1,l[i].2.1,l[i].2.2.1,(a,b)) (iv b) (by simp[h]) ϑ rfl];simp
theorem TG {w:World} {g:Nat} {l:List IY} (h: ∀(j:Nat) (hj:j<(dx l).length),w.cell? ⟨g,j,none⟩=some (dx l)[j]) {i:Nat} (hi:i<l.length):w.cell? ⟨g,i*5+3,none⟩=some (iv l[i].2.2.2.1)/\w.cell? ⟨g,i*5+4,none⟩=some (iv l[i].2.2.2.2):=by
 obtain⟨h1,h2⟩:=Xh l i hi;exact zbY
theorem FO {w:World} {g:Nat} {l:List dF} (h: ∀(j:Nat) (hj:j<(aD l).length),w.cell? ⟨g,j,none⟩=some (aD l)[j]) {i:Nat} (hi:i<l.length):w.cell? ⟨g,i*2,none⟩=some (iv l[i].1)/\w.cell? ⟨g,i*2+1,none⟩=some (iv l[i].2):=by
 obtain⟨h1,h2⟩:=Ub l i hi;exact zbY
theorem GJ (N:Nat) (w:World) (wb:Nat) (s:iC) (V:SV) (es:List KE) (ns:Value) (x:Nat) (y:Int) (z:Int) (hO:iW N w wb s V es) (hn:pU N w ns [(x:Int),y,z]) (hG:eD s) (hx:0<=y/\y<=9999):Ϝ 163 #[.pointer (some ⟨wb,0,none⟩),ns] w (oZ N wb (gZ s .bM [(x:Int),y,z]) w):=by
 obtain⟨vt,vn,vw,vu,vr,vh,vk,vs⟩:=V;obtain⟨o,cc,rfl⟩: ∃o c,vw= .slice o s.heap.bM.length c:=aO (n:=s.heap.bM.length) (hO.rows.own 2 _ rfl);have HO:=aa hO;have fD:=dS hO;obtain⟨b,c,rfl,hbN,hcs⟩:=hn;have lb:b<w.heap.size:=ϑ;have lw:=hO.rows.lt;have sS:=hO.rows.base;have HW:Hid (∀W,Below N w W->b<W.heap.size/\ ∀(j:Nat) (h:j<[(x:Int),y,z].length),W.cell? ⟨b,j,none⟩=some (iv [(x:Int),y,z][j])):=aa (fun W hB=>⟨by have:=hB.size;omega,fun j h=>(gW (hB.block b hbN)).trans (hcs j h)⟩);obtain⟨c0,f0,l0⟩:=ae hO.blk;have mJ:=hcs 0 ϕ;simp only[ak] at mJ;have sw:=hcs 1 ϕ;simp only[ak] at sw;have Ai:=hcs 2 ϕ;simp only[ak] at Ai;have Qi:Hid (Ϙ w w):=aa (aC _ _);have hl4:=hG.heap.1;have Ii:=hG.Qa;have HR5:=aa Ii;clear Ii;clear hO hcs hG;go_enter Tryz.func163,Tryz.ntmps163;go_wp2_with fail
 refine(vC x wb s _ w ((Qi.o.block _ lw).trans HO.o.blk) hl4).mono ?_;rintro e W1 ⟨hb,⟨hc,rfl⟩|⟨hc,rfl⟩⟩;rotate_left
 ·simp at hc;exact zag
 simp at hc;have q0:=aa (aV Qi.o hb);have IZ:=aa hb;have pg:=aa hc;clear hb hc c0 f0 mJ sw Ai;obtain⟨c1,f1,l1⟩:=ae ((q0.o.block _ lw).trans HO.o.blk);obtain⟨tH,XH⟩:=HW.o W1 (q0.o.mono fD);have Ξ:=XH 0 ϕ;simp only[ak] at Ξ;have n11:=XH 1 ϕ;simp only[ak] at n11;have n12:=XH 2 ϕ;simp only[ak] at n12;clear XH;go_wp2_with fail
 refine zg 6 [] none [] ?_;simp only[zt];repeat ((first|refine zd ?_|refine zk ?_);simp only[zp])
 intro W2 hE hF;have δ:=aa (aV q0.o hE.below);clear hE hF c1 f1 tH Ξ n11 n12;obtain⟨c2,f2,l2⟩:=ae ((δ.o.block _ lw).trans HO.o.blk);obtain⟨uI,XK⟩:=HW.o W2 (δ.o.mono fD);have Χ:=XK 0 ϕ;simp only[ak] at Χ;have n21:=XK 1 ϕ;simp only[ak] at n21;have n22:=XK 2 ϕ;simp only[ak] at n22;clear XK;go_wp2_with fail
 refine(xu _ _ _ _ _ ϑ).mono ?_;rintro e W3 ⟨hb,⟨hc,rfl⟩|⟨hc,rfl⟩⟩;rotate_left
 ·simp at hc;exact zai
 simp at hc;have Ra:=aa (aV δ.o hb);have HS3:=aa hb;have iL:=aa hc;clear hb hc c2 f2 uI Χ n21 n22;obtain⟨c3,f3,l3⟩:=ae ((Ra.o.block _ lw).trans HO.o.blk);obtain⟨F5,gQ⟩:=HW.o W3 (Ra.o.mono fD);have n30:=gQ 0 ϕ;simp only[ak] at n30;have n31:=gQ 1 ϕ;simp only[ak] at n31;have n32:=gQ 2 ϕ;simp only[ak] at n32;clear gQ;go_wp2_with fail
 refine zg 16 [] none [] ?_;simp only[zt];repeat ((first|refine zd ?_|refine zk ?_);simp only[zp])
 intro W4 hE hF;have fV:=aa (aV Ra.o hE.below);clear hE hF c3 f3 F5 n30 n31 n32;obtain⟨c4,f4,l4⟩:=ae ((fV.o.block _ lw).trans HO.o.blk);obtain⟨LX,je⟩:=HW.o W4 (fV.o.mono fD);have n40:=je 0 ϕ;simp only[ak] at n40;have n41:=je 1 ϕ;simp only[ak] at n41;have n42:=je 2 ϕ;simp only[ak] at n42;clear je;have q1:=pg.o;have hxl:x<s.heap.bM.length:=by have:=HR5.o;omega
 have Fw:=(HO.o.below fV.o).rows.own 2 _ rfl;obtain⟨g,rfl,hcg,hfg,hgl⟩:=fP Fw (by show 0<s.heap.bM.length;omega);obtain⟨g0,g1⟩:=FO hcg hxl;clear hcg q1 Fw;go_wp2_with fail
 go_end0
 have q1:=pg.o;have ψ:=iL.o;simp only[gZ,bI,bJ,df];(repeat (first|rw[aB ϑ]|rw[aj ϑ]))
 simp only[Int.toNat_natCast];have xE:=HO.o.below fV.o;have hgN:N<=g:=((xE.rows.own 2 _ rfl).lt g rfl).1;have hS:=(jX (jX (xE.rows.own 2 _ rfl) (x*2+0) (iv y)) (x*2+1) (iv z));simp only[JN _ _ hxl] at hS;exact⟨(((fV.o.mono fD).setCell hgN _).setCell hgN _),.inl ⟨rfl,rfl,_,es,xE.over (i:=2) rfl (g:=g) rfl ((fq).trans fq) (aD (s.heap.bM.set x (y,z))) hS (by simp[gF,kY,mq,gK,eF]) rfl HO.o.es⟩⟩
theorem qj (N:Nat) (w:World) (wb:Nat) (s:iC) (V:SV) (es:List KE) (ns:Value) (x:Nat) (y:Int) (z:Int) (hO:iW N w wb s V es) (hn:pU N w ns [(x:Int),y,z]) (hx:0<=y/\y<=9999):Ϝ 169 #[.pointer (some ⟨wb,0,none⟩),ns] w (oZ N wb (gZ s .strong [(x:Int),y,z]) w):=by
 obtain⟨vt,vn,vw,vu,vr,vh,vk,vs⟩:=V;obtain⟨o,cc,rfl⟩: ∃o c,vh= .slice o s.cz.heaps.length c:=aO (n:=s.cz.heaps.length) (hO.rows.own 5 _ rfl);have HO:=aa hO;have fD:=dS hO;obtain⟨b,c,rfl,hbN,hcs⟩:=hn;have lb:b<w.heap.size:=ϑ;have lw:=hO.rows.lt;have sS:=hO.rows.base;have HW:Hid (∀W,Below N w W->b<W.heap.size/\ ∀(j:Nat) (h:j<[(x:Int),y,z].length),W.cell? ⟨b,j,none⟩=some (iv [(x:Int),y,z][j])):=aa (fun W hB=>⟨by have:=hB.size;omega,fun j h=>(gW (hB.block b hbN)).trans (hcs j h)⟩);obtain⟨c0,f0,l0⟩:=ae hO.blk;have mJ:=hcs 0 ϕ;simp only[ak] at mJ;have sw:=hcs 1 ϕ;simp only[ak] at sw;have Ai:=hcs 2 ϕ;simp only[ak] at Ai;have Ra:Hid (Ϙ w w):=aa (aC _ _);clear hO hcs;go_enter Tryz.func169,Tryz.ntmps169;go_wp2_with fail
 refine zg 10 [] none [] ?_;simp only[zt];repeat ((first|refine zd ?_|refine zk ?_);simp only[zp])
 intro W1 hE hF;have Qi:=aa (aV Ra.o hE.below);clear hE hF c0 f0 mJ sw Ai;obtain⟨c1,f1,l1⟩:=ae ((Qi.o.block _ lw).trans HO.o.blk);obtain⟨tH,XH⟩:=HW.o W1 (Qi.o.mono fD);have Ξ:=XH 0 ϕ;simp only[ak] at Ξ;have n11:=XH 1 ϕ;simp only[ak] at n11;have n12:=XH 2 ϕ;simp only[ak] at n12;clear XH;go_wp2_with fail
 refine(gX _ _ _).mono ?_;rintro e W2 ⟨hb,⟨hc,rfl⟩|⟨hc,rfl⟩⟩;rotate_left
 ·simp at hc;exact zag
 simp at hc;have ψ:=aa (aV Qi.o hb);have HS2:=aa hb;have iL:=aa hc;clear hb hc c1 f1 tH Ξ n11 n12;obtain⟨c2,f2,l2⟩:=ae ((ψ.o.block _ lw).trans HO.o.blk);obtain⟨uI,XK⟩:=HW.o W2 (ψ.o.mono fD);have Χ:=XK 0 ϕ;simp only[ak] at Χ;have n21:=XK 1 ϕ;simp only[ak] at n21;have n22:=XK 2 ϕ;simp only[ak] at n22;clear XK;go_wp2_with fail
 refine RX.fo (fun ps W'=> ¬(y<=z/\z<=100/\z<=y+9)/\ps=ji 2/\Below N w W') 16 [] none [(15,⟨fun _ v=>v=rv (y,z),fun _ _ _=>(y<=z/\z<=100/\z<=y+9)⟩)] (by rintro ps a1 Wx hdf ⟨h1,rfl,h3⟩;refine⟨hdf,sV (c:=2) h3 ?_ ϖ⟩;have q0:=iL.o;simp only[gZ,bI,bJ,df];(repeat (first|rw[aB ϑ]|rw[aj ϑ]))) ϰ ϰ ?_
 simp only[zt];repeat (refine RX.zd ?_;simp only[zp])
 refine RX.bn _ ϱ ϱ ⟨_,rfl⟩ (fun Wq Ι hF2=>?_) (fun v Wa Wb ho hE=>ho) (fun v hv=>?_)
 ·exact zcD
 obtain rfl:v=rv (y,z):=hv;simp only[zp];intro W3 hE hF;have hc:y<=z/\z<=100/\z<=y+9:=hF _ (bu _);have δ:=aa (aV ψ.o (show Ext [] W2 W3 from hE).below);have pg:=aa hc;clear hE hF hc c2 f2 uI Χ n21 n22;obtain⟨c3,f3,l3⟩:=ae ((δ.o.block _ lw).trans HO.o.blk);obtain⟨F5,gQ⟩:=HW.o W3 (δ.o.mono fD);have n30:=gQ 0 ϕ;simp only[ak] at n30;have n31:=gQ 1 ϕ;simp only[ak] at n31;have n32:=gQ 2 ϕ;simp only[ak] at n32;clear gQ;have q0:=iL.o;have hxl:x<s.cz.heaps.length:=ϑ;have Fw:=(HO.o.below δ.o).rows.own 5 _ rfl;obtain⟨g,rfl,hcg,hfg,hgl⟩:=fP Fw (by show 0<s.cz.heaps.length;omega);obtain⟨g0,g1⟩:=FO hcg hxl;clear hcg q0 Fw;go_wp2_with fail
 go_end0
 have q0:=iL.o;have q1:=pg.o;simp only[gZ,bI,bJ,df];(repeat (first|rw[aB ϑ]|rw[aj ϑ]))
 simp only[Int.toNat_natCast];have xE:=HO.o.below δ.o;have hgN:N<=g:=((xE.rows.own 5 _ rfl).lt g rfl).1;have hS:=(jX (jX (xE.rows.own 5 _ rfl) (x*2+0) (iv y)) (x*2+1) (iv z));simp only[JN _ _ hxl] at hS;exact⟨(((δ.o.mono fD).setCell hgN _).setCell hgN _),.inl ⟨rfl,rfl,_,es,xE.over (i:=5) rfl (g:=g) rfl ((fq).trans fq) (aD (s.cz.heaps.set x (y,z))) hS (by simp[gF,kY,mq,gK,eF]) rfl HO.o.es⟩⟩
theorem Tz (N:Nat) (w:World) (wb:Nat) (s:iC) (V:SV) (es:List KE) (ns:Value) (x:Nat) (y:Int) (z:Int) (hO:iW N w wb s V es) (hn:pU N w ns [(x:Int),y,z]):Ϝ 156 #[.pointer (some ⟨wb,0,none⟩),ns] w (oZ N wb (gZ s .xS [(x:Int),y,z]) w):=by
 obtain⟨vt,vn,vw,vu,vr,vh,vk,vs⟩:=V;obtain⟨o,cc,rfl⟩: ∃o c,vt= .slice o s.led.field.ax.length c:=aO (n:=s.led.field.ax.length) (hO.rows.own 0 _ rfl);have HO:=aa hO;have fD:=dS hO;obtain⟨b,c,rfl,hbN,hcs⟩:=hn;have lb:b<w.heap.size:=ϑ;have lw:=hO.rows.lt;have sS:=hO.rows.base;have HW:Hid (∀W,Below N w W->b<W.heap.size/\ ∀(j:Nat) (h:j<[(x:Int),y,z].length),W.cell? ⟨b,j,none⟩=some (iv [(x:Int),y,z][j])):=aa (fun W hB=>⟨by have:=hB.size;omega,fun j h=>(gW (hB.block b hbN)).trans (hcs j h)⟩);obtain⟨c0,f0,l0⟩:=ae hO.blk;have mJ:=hcs 0 ϕ;simp only[ak] at mJ;have sw:=hcs 1 ϕ;simp only[ak] at sw;have Ai:=hcs 2 ϕ;simp only[ak] at Ai;have Ra:Hid (Ϙ w w):=aa (aC _ _);clear hO hcs;go_enter Tryz.func156,Tryz.ntmps156;go_wp2_with fail
 refine zg 8 [] none [] ?_;simp only[zt];repeat ((first|refine zd ?_|refine zk ?_);simp only[zp])
 intro W1 hE hF;have Qi:=aa (aV Ra.o hE.below);clear hE hF c0 f0 mJ sw Ai;obtain⟨c1,f1,l1⟩:=ae ((Qi.o.block _ lw).trans HO.o.blk);obtain⟨tH,XH⟩:=HW.o W1 (Qi.o.mono fD);have Ξ:=XH 0 ϕ;simp only[ak] at Ξ;have n11:=XH 1 ϕ;simp only[ak] at n11;have n12:=XH 2 ϕ;simp only[ak] at n12;clear XH;go_wp2_with fail
 refine(gX _ _ _).mono ?_;rintro e W2 ⟨hb,⟨hc,rfl⟩|⟨hc,rfl⟩⟩;rotate_left
 ·simp at hc;exact zag
 simp at hc;have ψ:=aa (aV Qi.o hb);have HS2:=aa hb;have iL:=aa hc;clear hb hc c1 f1 tH Ξ n11 n12;obtain⟨c2,f2,l2⟩:=ae ((ψ.o.block _ lw).trans HO.o.blk);obtain⟨uI,XK⟩:=HW.o W2 (ψ.o.mono fD);have Χ:=XK 0 ϕ;simp only[ak] at Χ;have n21:=XK 1 ϕ;simp only[ak] at n21;have n22:=XK 2 ϕ;simp only[ak] at n22;clear XK;go_wp2_with fail
 refine RX.fo (fun ps W'=> ¬(y<=z/\z<=s.led.field.rows)/\ps=ji 2/\Below N w W') 15 [] none [(14,⟨fun _ v=>v=rv (y,z),fun _ _ _=>(y<=z/\z<=s.led.field.rows)⟩)] (by rintro ps a1 Wx hdf ⟨h1,rfl,h3⟩;refine⟨hdf,sV (c:=2) h3 ?_ ϖ⟩;have q0:=iL.o;simp only[gZ,bI,bJ,df];(repeat (first|rw[aB ϑ]|rw[aj ϑ]))) ϰ ϰ ?_
 simp only[zt];repeat (refine RX.zd ?_;simp only[zp])
 refine RX.bn _ ϱ ϱ ⟨_,rfl⟩ (fun Wq Ι hF2=>?_) (fun v Wa Wb ho hE=>ho) (fun v hv=>?_)
 ·have G8:Ext [] W2 Wq:=Ι;refine RX.bX 242 #[.pointer (some ⟨wb,0,none⟩),iv y,iv z] (by go_simp;try rfl) ?_;refine(rz y z wb s _ Wq ((G8.block _ (dU lw ψ.o.size) ϕ).trans ((ψ.o.block _ lw).trans HO.o.blk))).mono ?_;exact zas
 obtain rfl:v=rv (y,z):=hv;simp only[zp];intro W3 hE hF;have hc:y<=z/\z<=s.led.field.rows:=hF _ (bu _);have δ:=aa (aV ψ.o (show Ext [] W2 W3 from hE).below);have pg:=aa hc;clear hE hF hc c2 f2 uI Χ n21 n22;obtain⟨c3,f3,l3⟩:=ae ((δ.o.block _ lw).trans HO.o.blk);obtain⟨F5,gQ⟩:=HW.o W3 (δ.o.mono fD);have n30:=gQ 0 ϕ;simp only[ak] at n30;have n31:=gQ 1 ϕ;simp only[ak] at n31;have n32:=gQ 2 ϕ;simp only[ak] at n32;clear gQ;have q0:=iL.o;have hxl:x<s.led.field.ax.length:=ϑ;have Fw:=(HO.o.below δ.o).rows.own 0 _ rfl;obtain⟨g,rfl,hcg,hfg,hgl⟩:=fP Fw (by show 0<s.led.field.ax.length;omega);obtain⟨g0,g1⟩:=TG hcg hxl;clear hcg q0 Fw;go_wp2_with fail
 go_end0
 have q0:=iL.o;have q1:=pg.o;simp only[gZ,bI,bJ,df];(repeat (first|rw[aB ϑ]|rw[aj ϑ]))
 simp only[Int.toNat_natCast,fJ,bZ hxl,Option.getD_some];have xE:=HO.o.below δ.o;have hgN:N<=g:=((xE.rows.own 0 _ rfl).lt g rfl).1;have hS:=(jX (jX (xE.rows.own 0 _ rfl) (x*5+3) (iv y)) (x*5+4) (iv z));simp only[Xg _ _ hxl] at hS;exact⟨(((δ.o.mono fD).setCell hgN _).setCell hgN _),.inl ⟨rfl,rfl,_,es,xE.over (i:=0) rfl (g:=g) rfl ((fq).trans fq) (dx (s.led.field.ax.set x (s.led.field.ax[x].1,s.led.field.ax[x].2.1,s.led.field.ax[x].2.2.1,(y,z)))) hS (by simp[gF,kY,mq,gK,eF]) rfl HO.o.es⟩⟩
theorem RA (x:Int) (w:World):Ϝ 253 #[iv x] w (fun e w'=>e= .returned (.bool (decide (0<x)))/\w'=w):=by
 go_enter Tryz.func253,Tryz.ntmps253;exact zbA
theorem Om (l:List Int) (v:Value) (w:World) (hv:aK w v l):Ϝ 217 #[v,.func (.func 253) #[] #[]] w (PV (.bool (l.any fun x=>decide (0<x))) w):=by
 refine(KW l v 253 #[] #[] (fun k=>decide (0<l.getD k 0)) (fun _ W=>Ϙ w W) w (enters_of Tryz.func253 ϰ rfl) (fun k W h=>hv.below h (ah _)) (fun k hk W _ h=>?_) (aC _ _)).mono ?_
 ·refine(RA l[k] W).mono ?_;rintro e W' ⟨rfl,rfl⟩;exact⟨by simp[hk],h⟩
 ·rintro e W' ⟨k,hk,GX,⟨tX,hp,rfl,hI⟩|⟨XI,rfl,hI⟩⟩
  ·refine⟨?_,hI⟩;have:(l.any fun x=>decide (0<x))=true:=List.any_eq_true.2 ⟨l[k],bK _,by simpa [tX] using hp⟩;rw[this]
  ·refine⟨?_,hI⟩;have:(l.any fun x=>decide (0<x))=false:=zcc;rw[this]
theorem vY (s:iC) (V:SV) (es:List KE) {x:Nat} {e:KE} (h:es[x]? =some e):(gF s V es)[8+x]? =some (wP e):=by
 unfold gF;rw[lI ϕ];simp[h]
theorem El (s s':iC) (V:SV) (es:List KE) {x:Nat} {e:KE} (h:x<es.length) (hk:(e.1=(es[x]).1)) (hs:gF s' V es=gF s V es):gF s' V (es.set x e)=(gF s V es).set (8+x) (wP e):=by
 have h1:gF s' V (es.set x e)=(gF s' V es).set (8+x) (wP e):=by
  unfold gF;have hkc:dW (es.set x e)=dW es:=by
   unfold dW;rw[List.map_set,hk];apply List.ext_getElem
   ·simp
   ·intro j h1 h2;rw[List.getElem_set];split
    ·rename_i hj;subst hj;simp
    ·rfl
  rw[hkc,List.map_set,nQ,nT _ _ ϕ];simp
 rw[h1,hs]
theorem Vw (N:Nat) (w:World) (wb:Nat) (s:iC) (V:SV) (es:List KE) (ns:Value) (x:Nat) (y:Nat) (z:Int) (hO:iW N w wb s V es) (hn:pU N w ns [(x:Int),(y:Int),z]) (hG:eD s):Ϝ 171 #[.pointer (some ⟨wb,0,none⟩),ns] w (oZ N wb (gZ s .fill [(x:Int),(y:Int),z]) w):=by
 obtain⟨vt,vn,vw,vu,vr,vh,vk,vs⟩:=V;obtain⟨ok,ck,rfl⟩: ∃o c,vk= .slice o es.length c:=aO (n:=es.length) (hO.rows.own 6 _ rfl);obtain⟨oh,ch,rfl⟩: ∃o c,vh= .slice o s.cz.heaps.length c:=aO (n:=s.cz.heaps.length) (hO.rows.own 5 _ rfl);have HO:=aa hO;have fD:=dS hO;obtain⟨b,c,rfl,hbN,hcs⟩:=hn;have lb:b<w.heap.size:=ϑ;have lw:=hO.rows.lt;have sS:=hO.rows.base;have HW:Hid (∀W,Below N w W->b<W.heap.size/\ ∀(j:Nat) (h:j<[(x:Int),(y:Int),z].length),W.cell? ⟨b,j,none⟩=some (iv [(x:Int),(y:Int),z][j])):=aa (fun W hB=>⟨by have:=hB.size;omega,fun j h=>(gW (hB.block b hbN)).trans (hcs j h)⟩);obtain⟨c0,f0,l0⟩:=ae hO.blk;have mJ:=hcs 0 ϕ;simp only[ak] at mJ;have sw:=hcs 1 ϕ;simp only[ak] at sw;have Ai:=hcs 2 ϕ;simp only[ak] at Ai;have ψ:Hid (Ϙ w w):=aa (aC _ _);have hes:es.length=s.cz.aR.length:=by rw[<-hO.es];simp
 have ZY:=aa (show ∀(j:Nat) (e:KE),es[j]? =some e->s.cz.aR[j]? =some e.2/\e.2.length=s.cz.heaps.length from fun j e h=>by have h1:s.cz.aR[j]? =some e.2:=(by rw[<-hO.es];simp[h]);exact⟨h1,(hG.nE _ (kX h1)).1⟩)
 have iL:=aa hes;clear hes;clear hO hcs hG;go_enter Tryz.func171,Tryz.ntmps171;go_wp2_with fail
 refine zg 8 [] none [] ?_;simp only[zt];repeat ((first|refine zd ?_|refine zk ?_);simp only[zp])
 intro W1 hE hF;have Qi:=aa (aV ψ.o hE.below);clear hE hF c0 f0 mJ sw Ai;obtain⟨c1,f1,l1⟩:=ae ((Qi.o.block _ lw).trans HO.o.blk);obtain⟨tH,XH⟩:=HW.o W1 (Qi.o.mono fD);have Ξ:=XH 0 ϕ;simp only[ak] at Ξ;have n11:=XH 1 ϕ;simp only[ak] at n11;have n12:=XH 2 ϕ;simp only[ak] at n12;clear XH;go_wp2_with fail
 refine(gX _ _ _).mono ?_;rintro e W2 ⟨hb,⟨hc,rfl⟩|⟨hc,rfl⟩⟩;rotate_left
 ·exact zcJ
 simp at hc;have Ra:=aa (aV Qi.o hb);have HS2:=aa hb;have pg:=aa hc;clear hb hc c1 f1 tH Ξ n11 n12;obtain⟨c2,f2,l2⟩:=ae ((Ra.o.block _ lw).trans HO.o.blk);obtain⟨uI,XK⟩:=HW.o W2 (Ra.o.mono fD);have Χ:=XK 0 ϕ;simp only[ak] at Χ;have n21:=XK 1 ϕ;simp only[ak] at n21;have n22:=XK 2 ϕ;simp only[ak] at n22;clear XK;go_wp2_with fail
 refine zg 8 [] none [] ?_;simp only[zt];repeat ((first|refine zd ?_|refine zk ?_);simp only[zp])
 intro W3 hE hF;have δ:=aa (aV Ra.o hE.below);clear hE hF c2 f2 uI Χ n21 n22;obtain⟨c3,f3,l3⟩:=ae ((δ.o.block _ lw).trans HO.o.blk);obtain⟨F5,gQ⟩:=HW.o W3 (δ.o.mono fD);have n30:=gQ 0 ϕ;simp only[ak] at n30;have n31:=gQ 1 ϕ;simp only[ak] at n31;have n32:=gQ 2 ϕ;simp only[ak] at n32;clear gQ;go_wp2_with fail
 refine(gX _ _ _).mono ?_;rintro e W4 ⟨hb,⟨hc,rfl⟩|⟨hc,rfl⟩⟩;rotate_left
 ·exact zcK
 simp at hc;have mO:=aa (aV δ.o hb);have PR:=aa hb;have uu:=aa hc;clear hb hc c3 f3 F5 n30 n31 n32;obtain⟨c4,f4,l4⟩:=ae ((mO.o.block _ lw).trans HO.o.blk);obtain⟨LX,je⟩:=HW.o W4 (mO.o.mono fD);have n40:=je 0 ϕ;simp only[ak] at n40;have n41:=je 1 ϕ;simp only[ak] at n41;have n42:=je 2 ϕ;simp only[ak] at n42;clear je;go_wp2_with fail
 refine(dK 2 [decide (30<z)] W4 ϕ _ (by simp[dw]) _ _ rfl).mono ?_;rintro e W5 ⟨hb,⟨hc,rfl⟩|⟨hc,rfl⟩⟩;rotate_left
 ·simp at hc;have q0:=iL.o;exact zal
 simp at hc;have fV:=aa (aV mO.o hb);have HS5:=aa hb;have Eb:=aa hc;clear hb hc c4 f4 LX n40 n41 n42;obtain⟨c5,f5,l5⟩:=ae ((fV.o.block _ lw).trans HO.o.blk);obtain⟨lb5,qU⟩:=HW.o W5 (fV.o.mono fD);have n50:=qU 0 ϕ;simp only[ak] at n50;have n51:=qU 1 ϕ;simp only[ak] at n51;have n52:=qU 2 ϕ;simp only[ak] at n52;clear qU;go_wp2_with fail
 have q0:=iL.o;have q1:=pg.o;have q2:=uu.o;have q3:=Eb.o;have hxl:x<es.length:=ϑ;have hyl:y<s.cz.heaps.length:=ϑ;clear q0 q1 q2 q3;obtain⟨ev,el,hel⟩: ∃ev el,es[x]? =some (ev,el):=⟨_,_,bZ hxl⟩;obtain⟨hcx,hlx⟩:s.cz.aR[x]? =some el/\el.length=s.cz.heaps.length:=ZY.o x _ hel;have hrow: ∀s' V',(gF s' V' es)[8+x]? =some (wP (ev,el)):=fun s' V'=>vY s' V' es hel;obtain⟨oe,ce,rfl⟩: ∃o c,ev= .slice o el.length c:=aO (n:=el.length) ((HO.o.below fV.o).rows.own _ _ (hrow _ _));obtain⟨gk,rfl,Pm,hfk,XI⟩:=fP ((HO.o.below fV.o).rows.own 6 _ rfl) (by show 0<es.length;omega);have hgx:(dW es)[x]? =some (.slice oe el.length ce):=by simp[dW,hel]
 obtain⟨hg',eg'⟩:=gY.1 hgx;have g6:=(Pm x hg').trans (by rw[eg']);clear hgx hg' eg';have PW:=aa (af hel (af hcx (af hlx hrow)));clear Pm hel hcx hlx hrow;obtain⟨gk0,ad9⟩: ∃gk0,gk0=gk:=⟨_,rfl⟩;have HGK:=aa ad9;clear ad9;refine zg 15 [] none [] ?_;simp only[zt];repeat ((first|refine zd ?_|refine zk ?_);simp only[zp])
 intro W6 hE hF;have nZ:=aa (aV fV.o hE.below);clear hE hF c5 f5 lb5 n50 n51 n52 g6;obtain⟨c6,f6,l6⟩:=ae ((nZ.o.block _ lw).trans HO.o.blk);obtain⟨lb6,qR⟩:=HW.o W6 (nZ.o.mono fD);have n60:=qR 0 ϕ;simp only[ak] at n60;have n61:=qR 1 ϕ;simp only[ak] at n61;have n62:=qR 2 ϕ;simp only[ak] at n62;clear qR;obtain⟨g,rfl,hcg,hfg,hgl⟩:=fP ((HO.o.below nZ.o).rows.own _ _ (PW.o.2.2.2 _ _)) (by show 0<el.length;have:=PW.o.2.2.1;omega);have aat:y<el.length:=by have:=PW.o.2.2.1;omega
 have g0:=hcg y (by simpa [wP,ag] using aat);simp only[wP,ag,List.getElem_map] at g0;have HY:=aa (af hyl (af hxl aat));clear hcg hyl hxl;go_wp2_with fail
 refine dz fun W7 nL=>?_;have xE:=HO.o.below nZ.o;have hgN:N<=g:=((xE.rows.own _ _ (PW.o.2.2.2 _ _)).lt g rfl).1;have hS:=jX (xE.rows.own _ _ (PW.o.2.2.2 _ _)) y (iv z);have hO2:iW N W7 wb (eF s {s.cz with aR:=s.cz.aR.set x (el.set y z)}) ⟨vt,vn,vw,vu,vr,.slice oh s.cz.heaps.length ch,.slice (some ⟨gk,0,none⟩) es.length ck,vs⟩ (es.set x (.slice (some ⟨g,0,none⟩) el.length ce,el.set y z)):=by
  rw[nL];refine xE.over (i:=8+x) (PW.o.2.2.2 _ _) (g:=g) rfl fq (ag (el.set y z)) ?_ ?_ rfl ?_
  ·simpa [wP,ag,List.map_set] using hS
  ·refine(El s _ _ es HY.o.2.1 (by have:=(gY.1 PW.o.1).2;rw[this]) rfl).trans ?_
   simp[wP]
  ·show _=s.cz.aR.set x (el.set y z);rw[List.map_set,HO.o.es]
 have wK:=aa (show Below N w W7 from by rw[nL];exact(nZ.o.mono fD).setCell hgN _)
 have xQ:=aa hO2;clear nL xE hgN hS hO2 aat hfg hgl g0 c6 f6 lb6 n60 n61 n62;obtain⟨c7,f7,l7⟩:=ae xQ.o.blk;obtain⟨lb7,qQ⟩:=HW.o W7 wK.o;have n70:=qQ 0 ϕ;simp only[ak] at n70;have n71:=qQ 1 ϕ;simp only[ak] at n71;have n72:=qQ 2 ϕ;simp only[ak] at n72;obtain⟨gk2,ahS,Pm,ahW,amU⟩:=fP (xQ.o.rows.own 6 _ rfl) (by show 0<(es.set x _).length;rw[nQ];have:=HY.o.2.1;omega)
 cases ahS;have hgx:(dW (es.set x (.slice (some ⟨g,0,none⟩) el.length ce,el.set y z)))[x]? =some (.slice (some ⟨g,0,none⟩) el.length ce):=by simp[dW,HY.o.2.1]
 obtain⟨hg',eg'⟩:=gY.1 hgx;have g6:=(Pm x hg').trans (by rw[eg']);have hxl:=HY.o.2.1;clear hgx hg' eg' Pm qQ;refine zg 9 [] none [] ?_;simp only[zt];repeat ((first|refine zd ?_|refine zk ?_);simp only[zp])
 intro W8 hE hF;have hOw:=(xQ.o.below (Ext.below hE));have hIx:aK W8 (.slice (some ⟨g,0,none⟩) el.length ce) (el.set y z):=by
  have h:=hOw.rows.own (8+x) _ (vY _ _ _ (by rw[List.getElem?_set_self HY.o.2.1]));have h2:=aH.bV h;exact h2
 have nH:=aa (wK.o.trans ((Ext.below hE).mono (dS xQ.o)));have HOw:=aa hOw;have HAP:=aa (Om _ _ _ hIx);clear hE hF hOw hIx c7 f7 lb7 g6 ahW n70 n71 n72;go_wp2_with fail
 refine HAP.o.mono ?_;rintro e W9 ⟨rfl,hb⟩;have HS:=aa hb;obtain⟨q,hq⟩: ∃q,((el.set y z).any fun x=>decide (0<x))=q:=⟨_,rfl⟩;rw[hq];have PS:=aa hq;clear hb hq HAP;go_wp2_with fail
 refine(dK 8 [!q] W9 ϕ _ (by simp[dw]) _ _ rfl).mono ?_;rintro e Oq ⟨hb,⟨hc,rfl⟩|⟨hc,rfl⟩⟩
 ·obtain rfl:q=true:=by cases q <;>simp_all
  go_wp2_with fail
  go_end0
  have q0:=iL.o;have q1:=pg.o;have q2:=uu.o;have q3:=Eb.o;simp only[gZ,df,Int.toNat_natCast];simp only[fJ,PW.o.2.1,Option.getD_some,PS.o];rw[aj ϑ,aj ϑ,aj ϑ,aj ϕ];exact⟨nH.o.trans ((aV HS.o hb).mono (dS HOw.o)),.inl ⟨rfl,rfl,_,_,HOw.o.below (aV HS.o hb)⟩⟩
 ·obtain rfl:q=false:=by cases q <;>simp_all
  have q0:=iL.o;have q1:=pg.o;have q2:=uu.o;have q3:=Eb.o;simp only[gZ,df,Int.toNat_natCast];simp only[fJ,PW.o.2.1,Option.getD_some,PS.o];rw[aj ϑ,aj ϑ,aj ϑ,aB ϕ];exact⟨rfl,nH.o.trans ((aV HS.o hb).mono (dS HOw.o)),.inr ⟨by simp,rfl⟩⟩
theorem VU (N:Nat) (w:World) (wb:Nat) (s:iC) (V:SV) (es:List KE) (ns:Value) (x:Nat) (y:Int) (hO:iW N w wb s V es) (hn:pU N w ns [(x:Int),y]) (hG:eD s):Ϝ 170 #[.pointer (some ⟨wb,0,none⟩),ns] w (oZ N wb (gZ s .nE [(x:Int),y]) w):=by
 obtain⟨vt,vn,vw,vu,vr,vh,vk,vs⟩:=V;obtain⟨oh,ch,rfl⟩: ∃o c,vh= .slice o s.cz.heaps.length c:=aO (n:=s.cz.heaps.length) (hO.rows.own 5 _ rfl);obtain⟨ok,ck,rfl⟩: ∃o c,vk= .slice o es.length c:=aO (n:=es.length) (hO.rows.own 6 _ rfl);have HO:=aa hO;have fD:=dS hO;obtain⟨b,c,rfl,hbN,hcs⟩:=hn;have lb:b<w.heap.size:=ϑ;have lw:=hO.rows.lt;have sS:=hO.rows.base;have HW:Hid (∀W,Below N w W->b<W.heap.size/\ ∀(j:Nat) (h:j<[(x:Int),y].length),W.cell? ⟨b,j,none⟩=some (iv [(x:Int),y][j])):=aa (fun W hB=>⟨by have:=hB.size;omega,fun j h=>(gW (hB.block b hbN)).trans (hcs j h)⟩);obtain⟨c0,f0,l0⟩:=ae hO.blk;have mJ:=hcs 0 ϕ;simp only[ak] at mJ;have sw:=hcs 1 ϕ;simp only[ak] at sw;have ψ:Hid (Ϙ w w):=aa (aC _ _);have hes:es.length=s.cz.aR.length:=by rw[<-hO.es];simp
 have iL:=aa hes;clear hes;have Rp:=hG.Og;have ah1:=hG.aR;have hmk:=sG s.cz.heaps.length ϑ;clear hO hcs hG;go_enter Tryz.func170,Tryz.ntmps170;go_wp2_with fail
 refine zg 8 [] none [] ?_;simp only[zt];repeat ((first|refine zd ?_|refine zk ?_);simp only[zp])
 intro W1 hE hF;have Qi:=aa (aV ψ.o hE.below);have IZ:=aa (Ext.below hE);clear hE hF c0 f0 mJ sw;obtain⟨c1,f1,l1⟩:=ae ((Qi.o.block _ lw).trans HO.o.blk);obtain⟨tH,XH⟩:=HW.o W1 (Qi.o.mono fD);have Ξ:=XH 0 ϕ;simp only[ak] at Ξ;have n11:=XH 1 ϕ;simp only[ak] at n11;clear XH;go_wp2_with fail
 refine(gX _ _ _).mono ?_;rintro e W2 ⟨hb,⟨hc,rfl⟩|⟨hc,rfl⟩⟩;rotate_left
 ·exact zcJ
 simp at hc;have Ra:=aa (aV Qi.o hb);have HS2:=aa hb;have pg:=aa hc;clear hb hc c1 f1 tH Ξ n11;obtain⟨c2,f2,l2⟩:=ae ((Ra.o.block _ lw).trans HO.o.blk);obtain⟨uI,XK⟩:=HW.o W2 (Ra.o.mono fD);have Χ:=XK 0 ϕ;simp only[ak] at Χ;have n21:=XK 1 ϕ;simp only[ak] at n21;clear XK;go_wp2_with fail
 refine zg 8 [] none [] ?_;simp only[zt];repeat ((first|refine zd ?_|refine zk ?_);simp only[zp])
 intro W3 hE hF;have δ:=aa (aV Ra.o hE.below);have HS3:=aa (Ext.below hE);clear hE hF c2 f2 uI Χ n21;obtain⟨c3,f3,l3⟩:=ae ((δ.o.block _ lw).trans HO.o.blk);obtain⟨F5,gQ⟩:=HW.o W3 (δ.o.mono fD);have n30:=gQ 0 ϕ;simp only[ak] at n30;have n31:=gQ 1 ϕ;simp only[ak] at n31;clear gQ;go_wp2_with fail
 refine(dK 2 [y==0,decide (30<y)] W3 ϕ _ (by simp[dw]) _ _ rfl).mono ?_;rintro e W4 ⟨hb,⟨hc,rfl⟩|⟨hc,rfl⟩⟩;rotate_left
 ·exact zcK
 simp at hc;have mO:=aa (aV δ.o hb);have PR:=aa hb;have uu:=aa hc;clear hb hc c3 f3 F5 n30 n31;obtain⟨c4,f4,l4⟩:=ae ((mO.o.block _ lw).trans HO.o.blk);obtain⟨LX,je⟩:=HW.o W4 (mO.o.mono fD);have n40:=je 0 ϕ;simp only[ak] at n40;have n41:=je 1 ϕ;simp only[ak] at n41;clear je;go_wp2_with fail
 refine(om _ _ _).mono ?_;rintro e W5 ⟨hb,⟨hc,rfl⟩|⟨hc,rfl⟩⟩;rotate_left
 ·simp at hc;have q0:=iL.o;exact zal
 simp at hc;have fV:=aa (aV mO.o hb);have HS5:=aa hb;have Eb:=aa hc;clear hb hc c4 f4 LX n40 n41;obtain⟨c5,f5,l5⟩:=ae ((fV.o.block _ lw).trans HO.o.blk);obtain⟨lb5,qU⟩:=HW.o W5 (fV.o.mono fD);have n50:=qU 0 ϕ;simp only[ak] at n50;have n51:=qU 1 ϕ;simp only[ak] at n51;clear qU;go_wp2_with fail
 refine dz fun W6 nL=>?_;obtain⟨b9,tK⟩: ∃b9,b9=W5.heap.size:=⟨_,rfl⟩;have hHk:W6.heap[b9]? =some (.cells (ag (List.replicate s.cz.heaps.length 0)).toArray 3 (0,0)):=by rw[nL,tK];exact av _ _
 have nZ:=aa (show Ϙ w W6 from by rw[nL];exact ai fV.o _);have Pw:Ext [] W5 W6:=by rw[nL];exact Ext.ay (ai (aC _ _) _)
 have H9:=aa (af hHk (af Pw tK));rw[<-tK];clear nL hHk Pw tK hmk c5 f5 lb5 n50 n51;obtain⟨c6,f6,l6⟩:=ae ((nZ.o.block _ lw).trans HO.o.blk);obtain⟨lb6,qR⟩:=HW.o W6 (nZ.o.mono fD);have n60:=qR 0 ϕ;simp only[ak] at n60;have n61:=qR 1 ϕ;simp only[ak] at n61;clear qR;have Us:b9<W6.heap.size:=(aP.1 H9.o.1).1;refine zg 7 [] none [] ?_;simp only[zt];repeat ((first|refine zd ?_|refine zk ?_);simp only[zp])
 intro W7 hE hF;have wK:=aa (aV nZ.o hE.below);have HS7:=aa (Ext.below hE);clear hE hF c6 f6 lb6 n60 n61;obtain⟨c7,f7,l7⟩:=ae ((wK.o.block _ lw).trans HO.o.blk);obtain⟨lb7,qQ⟩:=HW.o W7 (wK.o.mono fD);have n70:=qQ 0 ϕ;simp only[ak] at n70;have n71:=qQ 1 ϕ;simp only[ak] at n71;clear qQ;have q0:=iL.o;have q1:=pg.o;have hxl:x<s.cz.heaps.length:=ϑ;have sJ:=(HS7.o.block _ Us).trans H9.o.1;obtain⟨k9,p9,r9⟩:=ae sJ;have g0:W7.cell? ⟨b9,x,none⟩=some (iv 0):=(k9 x).trans (by simp[ag,hxl]);have H7:=aa sJ;clear k9 sJ;go_upto_region 6 with(fail)
 refine dz fun W8 nL=>?_;have tK:W5.heap.size<=b9:=by have:=H9.o.2.2;omega
 have hH8:W8.heap[b9]? =some (.cells ((ag (List.replicate s.cz.heaps.length 0)).toArray.setIfInBounds x (iv y)) 3 (0,0)):=by rw[nL];exact aG H7.o _
 have abm:Ϙ W5 W8:=by rw[nL];exact(aV H9.o.2.1.below HS7.o).setCell tK _
 have nH:=aa (aV fV.o abm);have Fw:W8.ownsRow N 3 1 (.slice (some ⟨b9,0,none⟩) s.cz.heaps.length s.cz.heaps.length) ((List.replicate s.cz.heaps.length (0:Int)).set x y).length (ag ((List.replicate s.cz.heaps.length 0).set x y)):=by
  rw[nQ,List.length_replicate];have h9:=fV.o.size;refine gG (cs:=(ag ((List.replicate s.cz.heaps.length 0).set x y)).toArray) (n:=s.cz.heaps.length) ?_ (by simp[ag]) ϑ (by simp only[maxLen];omega);rw[hH8,oU];simp only[ag,List.map_set]
 have hR8:=(HO.o.below fV.o).rows.push (wP (.slice (some ⟨b9,0,none⟩) s.cz.heaps.length s.cz.heaps.length,(List.replicate s.cz.heaps.length 0).set x y)) (Ms:=[]) (Ext.ay abm) ϕ Fw (.inr ⟨b9,rfl,tK⟩);have HR8:=aa hR8;obtain⟨c8,f8,l8⟩:=ae ((nH.o.block _ lw).trans HO.o.blk);have HX:=aa hxl;clear nL tK hH8 abm Fw hR8 g0 hxl q0 q1 p9 r9 ah1 Rp c7 f7 lb7 n70 n71;have hq4:=Eb.o;have h8s:=nH.o.size;go_wp2_with (at_builtin;go_loud (refine dB rfl _ _ acP rfl N (.slice ok es.length ck) es.length (dW es) rfl (az (Ms:=[]) (HR8.o.own 6 _ rfl) (Ext.ay (ai (aC _ _) _)) ϕ) (.slice (some ⟨W8.heap.size,0,none⟩) 1 1) 1 [.slice (some ⟨b9,0,none⟩) s.cz.heaps.length s.cz.heaps.length] rfl (aH.bS 1 1 (av _ _) rfl ϖ) (by simp[Value.oneCell']) ϑ ϑ ϗ ?_))
 intro v' w3 Fw TF hN;obtain⟨o3,c3,rfl⟩:=aO Fw;have ο:=(TF.block wb ϗ (fun e=>HR8.o.off 6 _ rfl e.symm)).trans ((heap_alloc_old W8 _ l8).trans ((nH.o.block _ lw).trans HO.o.blk));obtain⟨k3,p3,r3⟩:=ae ο;have rJ:Ext (Value.slice ok es.length ck).ownBlock.toList W8 w3:=⟨TF.os,TF.tape,TF.output,by have:=TF.size;simp at this;omega,fun k hk hm=>(TF.block k ϗ (fun e=>hm (bY.2 e.symm))).trans (heap_alloc_old W8 _ hk)⟩;have WI:=aa (af rJ (af Fw (af ο hN)));clear rJ Fw TF ο hN c8 f8;go_wp2_with fail
 go_end0
 have q0:=iL.o;have q1:=pg.o;have q2:=uu.o;have q3:=Eb.o;simp only[gZ,bI,bJ,df];(repeat (first|rw[aB ϑ]|rw[aj ϑ]))
 simp only[Int.toNat_natCast];have Ν: ∀k,k∈(Value.slice ok es.length ck).ownBlock.toList->N<=k/\k<W8.heap.size:=fun k hk=>(HR8.o.own 6 _ rfl).lt k (bY.1 hk);have hR:=HR8.o.put (i:=6) rfl ⟨52,1,.slice o3 (es.length+1) c3,es.length+1,dW es++[.slice (some ⟨b9,0,none⟩) s.cz.heaps.length s.cz.heaps.length]⟩ WI.o.1 (fun m hm=> .inr (.inr (bY.1 hm))) WI.o.2.1 (WI.o.2.2.2.imp id (fun e=> .inr ⟨_,e,by simp⟩));have hB3:Below N W8 w3:=⟨WI.o.1.os,WI.o.1.tape,WI.o.1.output,WI.o.1.size,fun k hk=>WI.o.1.block k ϑ (fun hm=>by have:=(Ν k hm).1;omega)⟩;refine⟨((nH.o.mono fD).trans hB3).setCell sS _,.inl ⟨rfl,rfl,⟨vt,vn,vw,vu,vr,.slice oh s.cz.heaps.length ch,.slice o3 (es.length+1) c3,vs⟩,es++[(.slice (some ⟨b9,0,none⟩) s.cz.heaps.length s.cz.heaps.length,(List.replicate s.cz.heaps.length 0).set x y)],⟨aG WI.o.2.2.1 _,?_,?_⟩⟩⟩
 ·have:=hR.keep (fq (W:=w3) (b:=wb) (off:=20) (v:= .slice o3 (es.length+1) c3)) (fun m hm=> .inl (by simpa using hm));simpa [gF,eF,dW] using this
 ·simp[eF,HO.o.es]
theorem BK (s s':iC) (V:SV) (es:List KE) {x:Nat} {e:KE} (h:x<es.length) (hs:gF s' V es=gF s V es):
 gF s' V (es.set x e)=((gF s V es).set (8+x) (wP e)).set 6 ⟨52,1,V.cks,es.length,(dW es).set x e.1⟩:=by
 rw[<-hs];unfold gF;rw[nT _ _ ϕ,List.set_append_left _ _ ϕ];simp[dW,List.map_set,nQ]
def qy (s:iC) (h:dF) (i:Nat):iC:=eF s {s.cz with heaps:=s.cz.heaps++[h],aR:=(s.cz.aR.take i).map (· ++[0])++s.cz.aR.drop i}
theorem MX (s:iC) (h:dF):qy s h 0=eF s {s.cz with heaps:=s.cz.heaps++[h]}:=by simp[qy]
theorem QP (s:iC) (h:dF) (n:Nat) (hn:s.cz.aR.length<=n):qy s h n=eF s {s.cz with heaps:=s.cz.heaps++[h],aR:=s.cz.aR.map (· ++[0])}:=by
 simp[qy,iT hn,List.drop_of_length_le hn]
theorem QO (s:iC) (h:dF) (i:Nat) (hi:i<s.cz.aR.length):(qy s h i).cz.aR[i]? =some s.cz.aR[i]:=by
 simp only[qy,eF];rw[lI ϗ];simp[hi,Nat.min_eq_left (kV hi)]
theorem MZ (s:iC) (h:dF) (i:Nat) (hi:i<s.cz.aR.length):(qy s h i).cz.aR.set i (s.cz.aR[i]++[0])=(qy s h (i+1)).cz.aR:=by
 simp only[qy,eF];rw[nT _ _ ϗ];simp only[kC,eO,Nat.min_eq_left (kV hi),Nat.sub_self];rw[rM hi,List.set_cons_zero,oQ,List.map_append];simp[hi]
theorem Vd (N:Nat) (W2:World) (wb:Nat) (s:iC) (V:SV) (es:List KE) (ns:Value) (y:Int) (z:Int) (hO:iW N W2 wb s V es) (hn:pU N W2 ns [y,z]) (hG:eD s) (hx:0<=y/\y<=9999):Ϝ 168 #[.pointer (some ⟨wb,0,none⟩),ns] W2 (oZ N wb (gZ s .heap [y,z]) W2):=by
 obtain⟨vt,vn,vw,vu,vr,vh,vk,vs⟩:=V;obtain⟨o,cc,rfl⟩: ∃o c,vh= .slice o s.cz.heaps.length c:=aO (n:=s.cz.heaps.length) (hO.rows.own 5 _ rfl);obtain⟨ok,ck,rfl⟩: ∃o c,vk= .slice o es.length c:=aO (n:=es.length) (hO.rows.own 6 _ rfl);have HO:=aa hO;have fD:=dS hO;obtain⟨b,c,rfl,hbN,hcs⟩:=hn;have lb:b<W2.heap.size:=ϑ;have lw:=hO.rows.lt;have sS:=hO.rows.base;have HW:Hid (∀W,Below N W2 W->b<W.heap.size/\ ∀(j:Nat) (h:j<[y,z].length),W.cell? ⟨b,j,none⟩=some (iv [y,z][j])):=aa (fun W hB=>⟨by have:=hB.size;omega,fun j h=>(gW (hB.block b hbN)).trans (hcs j h)⟩);obtain⟨c0,f0,l0⟩:=ae hO.blk;have mJ:=hcs 0 ϕ;simp only[ak] at mJ;have sw:=hcs 1 ϕ;simp only[ak] at sw;have ψ:Hid (Ϙ W2 W2):=aa (aC _ _);have hes:es.length=s.cz.aR.length:=by rw[<-hO.es];simp
 have iL:=aa hes;clear hes;have Rp:=hG.Og;have HG3:=aa (af hG.aR hG.nE);clear hO hcs hG;go_enter Tryz.func168,Tryz.ntmps168;go_wp2_with fail
 refine RX.fo (fun ps W'=> ¬(y<=z/\z<=100/\z<=y+9)/\ps=ji 2/\Below N W2 W') 8 [] none [(6,⟨fun _ v=>v=rv (y,z),fun _ _ _=>(y<=z/\z<=100/\z<=y+9)⟩),(7,Spec.block W2.heap.size #[iv 0,iv 0] 129)] (by rintro ps a1 Wx hdf ⟨h1,rfl,h3⟩;refine⟨hdf,sV (c:=2) h3 ?_ ϖ⟩;have q0:=iL.o;simp only[gZ,bI,bJ,df];(repeat (first|rw[aB ϑ]|rw[aj ϑ]))) ϰ ϰ ?_
 simp only[zt];repeat (refine RX.zd ?_;simp only[zp])
 refine RX.bn _ ϱ ϱ ⟨_,rfl⟩ (fun Wq Ι hF2=>?_) (fun v Wa Wb ho hE=>ho) (fun v hv=>?_)
 ·exact zcD
 obtain rfl:v=rv (y,z):=hv;simp only[zp];repeat (refine RX.zd ?_;simp only[zp])
 refine RX.iY W2.heap.size _ _ ϱ (ah _) ϱ ϕ ϕ (fun W hW=>by go_simp;try rfl) (fun b9=>?_);simp only[zp];intro Wb hE hF;obtain⟨b9',tK,hge,sJ⟩:=hF _ (bu _);cases tK;have hc:y<=z/\z<=100/\z<=y+9:=hF _ (kW _ (bu _));have Y6:=aa (aV ψ.o (show Ext [] W2 Wb from hE).below);have pg:=aa hc;have oJ:=aa (af (gI ψ.o.size hge) sJ);obtain⟨c9,f9,l9⟩:=ae sJ;clear hE hF hc hge sJ c0 f0 mJ sw;go_upto_region 2 with(fail)
 refine dz fun W1 nL=>?_;have Qi:=aa (show Ϙ W2 W1 from by rw[nL];exact((Y6.o).setCell oJ.o.1 _).setCell oJ.o.1 _)
 have zZ:=aa (show W1.heap[b9]? =some (.cells #[iv y,iv z] 129 (0,0)) from by rw[nL];exact aG (aG (oJ.o.2) _) _)
 have Us:b9<W1.heap.size:=(aP.1 zZ.o).1;clear nL c9 f9 l9;obtain⟨c1,f1,l1⟩:=ae ((Qi.o.block _ lw).trans HO.o.blk);obtain⟨tH,XH⟩:=HW.o W1 (Qi.o.mono fD);have Ξ:=XH 0 ϕ;simp only[ak] at Ξ;have n11:=XH 1 ϕ;simp only[ak] at n11;clear XH;go_wp2_with fail
 refine(om _ _ _).mono ?_;rintro e w ⟨hb,⟨hc,rfl⟩|⟨hc,rfl⟩⟩;rotate_left
 ·simp at hc;have q0:=iL.o;have q1:=pg.o;exact zag
 simp at hc;have Ra:=aa (aV Qi.o hb);have HS2:=aa hb;have uu:=aa hc;clear hb hc c1 f1 tH Ξ n11;obtain⟨c2,f2,l2⟩:=ae ((Ra.o.block _ lw).trans HO.o.blk);obtain⟨uI,XK⟩:=HW.o w (Ra.o.mono fD);have Χ:=XK 0 ϕ;simp only[ak] at Χ;have n21:=XK 1 ϕ;simp only[ak] at n21;clear XK;go_wp2_with fail
 obtain⟨Ms,γ⟩: ∃Ms,Ms=(Value.slice o s.cz.heaps.length cc).ownBlock.toList:=⟨_,rfl⟩;have hO2:=HO.o.below Ra.o;have Ν:wb∉Ms:=fun h=>hO2.rows.off 5 _ rfl (by rw[γ] at h;exact bY.1 h);have hm2:b∉Ms:=fun h=>by have:=((hO2.rows.own 5 _ rfl).lt b (by rw[γ] at h;exact bY.1 h)).1;omega
 have pY: ∀m∈Ms,m<w.heap.size:=fun m h=>((hO2.rows.own 5 _ rfl).lt m (by rw[γ] at h;exact bY.1 h)).2;obtain⟨c9,f9,l9⟩:=ae ((HS2.o.block _ Us).trans zZ.o);have hm9:b9∉Ms:=fun h=>by have:=((HO.o.rows.own 5 _ rfl).lt b9 (by rw[γ] at h;exact bY.1 h)).2;have:=oJ.o.1;omega
 have HM:=aa γ;have iD:=aa hO2;clear γ hO2;refine zg 8 Ms (some 7) [(6,Spec.slice w.heap.size #[iv y,iv z] 129 1),(7,⟨fun _ v=> ∃o2 c2,v= .slice o2 (s.cz.heaps.length+1) c2,fun _ v Wx=>Wx.ownsRow N 129 2 v (s.cz.heaps.length+1) (aD s.cz.heaps++[iv y,iv z])/\(v.ownBlock=(Value.slice o s.cz.heaps.length cc).ownBlock∨ ∃q,v.ownBlock=some q/\w.heap.size<=q)⟩)] ?_;simp only[zt];repeat ((first|refine zd ?_|refine zk ?_);simp only[zp])
 refine dI w.heap.size _ _ 1 ϱ (ah _) ϱ pY ϕ (fun W hW=>by go_simp;try rfl) (fun b6=>?_);simp only[zp];repeat ((first|refine zd ?_|refine zk ?_);simp only[zp])
 refine bn _ ϱ ϱ (by exact⟨.slice none (s.cz.heaps.length+1) 0,none,0,rfl⟩) (fun W6 hE hF=>?_) (fun v Wa Wb ho hE=>?_) (fun v hv=>?_)
 ·have G8:Ext [] w W6:=hE;obtain⟨b',hb',hge,μ⟩:=hF _ (bu _) ϰ;cases hb';have YM:W6.ownsRow N 129 2 (.slice o s.cz.heaps.length cc) s.cz.heaps.length (aD s.cz.heaps):=az (Ms:=[]) (iD.o.rows.own 5 _ rfl) G8 ϕ;have ι:aH 2 W6 (.slice (some ⟨b6,0,none⟩) 1 1) 1 ([iv y,iv z]):=aH.bS 2 1 μ rfl ϖ;refine Does.mono (cZ acN ϱ ϱ YM ϱ ι (Ug y z) ϑ ϑ (by have:=G8.size;have:=Ra.o.size;omega)) ?_;exact zbt
 ·exact zaP
 obtain⟨o7,c7,rfl⟩:=hv;simp only[zp];intro W3 hE hF;obtain⟨nD,xB⟩:=hF _ (bu _);have eQ:Ext Ms w W3:=hE;have ο:=(eQ.block wb iD.o.rows.lt Ν).trans iD.o.blk;obtain⟨c3,f3,l3⟩:=ae ο;have gP:=aa (af eQ (af nD (af xB ο)));have Az:Below N W2 W3:=(Ra.o.mono fD).trans ⟨eQ.os,eQ.tape,eQ.output,eQ.size,fun k hk=>eQ.block k (by have:=Ra.o.size;omega) (fun h=>by have:=((iD.o.rows.own 5 _ rfl).lt k (by rw[HM.o] at h;exact bY.1 h)).1;omega)⟩;have nH:=aa Az;clear hE hF eQ nD xB ο Az Ν hm2 pY c2 f2 uI Χ n21;go_upto_region 4 with(fail)
 refine dz fun W4 nL=>?_;have ZC:iW N W4 wb (qy s (y,z) 0) ⟨vt,vn,vw,vu,vr,.slice o7 (s.cz.heaps.length+1) c7,.slice ok es.length ck,vs⟩ es:=by
  rw[nL,MX];exact iD.o.put (i:=5) rfl ⟨129,2,.slice o7 (s.cz.heaps.length+1) c7,s.cz.heaps.length+1,aD s.cz.heaps++[iv y,iv z]⟩ gP.o.1 (fun m hm=>by rw[HM.o] at hm;exact bY.1 hm) gP.o.2.1 gP.o.2.2.1 (aG gP.o.2.2.2 _) (by simp[gF,eF,aD]) iD.o.es
 have fV:=aa (show Below N W2 W4 from by rw[nL];exact nH.o.setCell sS _);obtain⟨c4,f4,l4⟩:=ae ZC.blk;have I4:=aa ZC;clear nL ZC c3 f3 c9 f9;go_wp2_with fail
 clear c4 f4;have hle:es.length<=3:=by have:=iL.o;have:=HG3.o.1;omega
 go_loopw [6,39] (fun _ u wr=> ∃i:Nat,i<=es.length/\u= .int .i64 i/\Below N W2 wr/\ ∃Ο:List KE,Ο.length=es.length/\iW N wr wb (qy s (y,z) i) ⟨vt,vn,vw,vu,vr,.slice o7 (s.cz.heaps.length+1) c7,.slice ok es.length ck,vs⟩ Ο) (fun _ u _=>es.length-(intOf u).toNat)
 case atStart=>exact⟨0,bD _,rfl,fV.o,es,rfl,I4.o⟩
 case round=>
  obtain⟨i,hi,rfl,hB,Ο,Es,hOr⟩:=hrel;by_cases tX:i<es.length
  ·obtain⟨c5,f5,l5⟩:=ae hOr.blk;have hic:i<s.cz.aR.length:=by have:=iL.o;omega
   obtain⟨ev,el,zJ⟩: ∃ev el,Ο[i]? =some (ev,el):=⟨_,_,bZ ϑ⟩;have Rp:el=s.cz.aR[i]:=by
    have h1:=QO s (y,z) i hic;rw[<-hOr.es] at h1;simpa [zJ] using h1
   have hrow:=vY (qy s (y,z) i) ⟨vt,vn,vw,vu,vr,.slice o7 (s.cz.heaps.length+1) c7,.slice ok es.length ck,vs⟩ Ο zJ;obtain⟨oe,ce,rfl⟩: ∃o c,ev= .slice o el.length c:=aO (n:=el.length) (hOr.rows.own _ _ hrow);have ahY:el.length<=3:=by rw[Rp,(HG3.o.2 _ (bK _)).1];omega
   have h6:wr.ownsRow N 52 1 (.slice ok es.length ck) es.length (dW Ο):=by have h:=hOr.rows.own 6 _ rfl;rw[<-Es];rw[<-Es] at h;exact h
   obtain⟨gk,rfl,Pm,hfk,XI⟩:=fP h6 ϑ;have hgx:(dW Ο)[i]? =some (.slice oe el.length ce):=by simp[dW,zJ]
   obtain⟨hg',eg'⟩:=gY.1 hgx;have g6:=(Pm i hg').trans (by rw[eg']);obtain⟨Ms,γ⟩: ∃Ms,Ms=(Value.slice oe el.length ce).ownBlock.toList:=⟨_,rfl⟩;have Ν:wb∉Ms:=fun h=>hOr.rows.off _ _ hrow (by rw[γ] at h;exact bY.1 h);have hm2:gk∉Ms:=fun h=>by
    have h0:(Value.slice oe el.length ce).ownBlock=some gk:=(by rw[γ] at h;exact bY.1 h);rcases hOr.rows.apart 6 (8+i) _ _ rfl hrow ϑ with h1|h1
    ·cases h1
    ·exact h1 h0.symm
   have pY: ∀m∈Ms,m<wr.heap.size:=fun m h=>((hOr.rows.own _ _ hrow).lt m (by rw[γ] at h;exact bY.1 h)).2;have HM:=aa γ;have EY:=aa (af hOr (af hB (af zJ (af Rp (af Es (af hrow (af h6 hic)))))));clear γ hOr hB zJ Rp Es hrow h6 hgx hg' eg' Pm;go_wp2_with fail
   refine zg 14 Ms (some 13) [(12,Spec.slice wr.heap.size #[iv 0] 3 1),(13,⟨fun _ v=> ∃o2 c2,v= .slice o2 (el.length+1) c2,fun _ v Wx=>Wx.ownsRow N 3 1 v (el.length+1) (ag el++[iv 0])/\(v.ownBlock=(Value.slice oe el.length ce).ownBlock∨ ∃q,v.ownBlock=some q/\wr.heap.size<=q)⟩)] ?_;simp only[zt];repeat ((first|refine zd ?_|refine zk ?_);simp only[zp])
   refine dI wr.heap.size _ _ 1 ϱ (ah _) ϱ pY ϕ (fun W hW=>by go_simp;try rfl) (fun b6=>?_);simp only[zp];refine bn _ ϱ ϱ (by exact⟨.slice none (el.length+1) 0,none,0,rfl⟩) (fun W6 hE hF=>?_) (fun v Wa Wb ho hE=>?_) (fun v hv=>?_)
   ·have G8:Ext [] wr W6:=hE;obtain⟨b',hb',hge,μ⟩:=hF _ (bu _) ϰ;cases hb';have YM:W6.ownsRow N 3 1 (.slice oe el.length ce) el.length (ag el):=az (Ms:=[]) (EY.o.1.rows.own _ _ EY.o.2.2.2.2.2.1) G8 ϕ;have ι:aH 1 W6 (.slice (some ⟨b6,0,none⟩) 1 1) 1 ([iv 0]):=aH.bS 1 1 μ rfl ϖ;refine Does.mono (cZ pq ϱ ϱ YM ϱ ι (one_one 0) ϑ ϑ (by have:=G8.size;have:=EY.o.2.1.size;omega)) ?_;exact zbt
   ·exact zaP
   obtain⟨o8,c8,rfl⟩:=hv;simp only[zp];intro W8 hE hF;obtain⟨nD,xB⟩:=hF _ (bu _);have eQ:Ext Ms wr W8:=hE;have Bl:=EY.o.1.rows.put EY.o.2.2.2.2.2.1 (wP (.slice o8 (el.length+1) c8,el++[0])) eQ (fun m hm=> .inr (.inr (by rw[HM.o] at hm;exact bY.1 hm))) (by simpa [wP,ag] using nD) (xB.imp id .inr);have ο:=(eQ.block wb l5 Ν).trans EY.o.1.blk;obtain⟨c9,f9,l9⟩:=ae ο;have g7:=(eQ.cell gk i XI hm2).trans g6;have h68:W8.ownsRow N 52 1 (.slice (some ⟨gk,0,none⟩) es.length ck) es.length (dW Ο):=bU EY.o.2.2.2.2.2.2.1 eQ (fun b hb hm=>by cases hb;exact hm2 hm);obtain⟨gk',aaU, -,anb,hkl'⟩:=fP h68 ϑ;cases aaU;have aeS:Below N W2 W8:=EY.o.2.1.trans ⟨eQ.os,eQ.tape,eQ.output,eQ.size,fun k hk=>eQ.block k (by have:=EY.o.2.1.size;omega) (fun h=>by have:=((EY.o.1.rows.own _ _ EY.o.2.2.2.2.2.1).lt k (by rw[HM.o] at h;exact bY.1 h)).1;omega)⟩;have HE:=aa (af eQ (af Bl (af ο (af h68 aeS))));clear hE hF eQ nD xB Bl ο h68 aeS c5 f5 g6 Ν hm2 pY hfk XI;go_wp2_with fail
   go_roundw
   case rel=>
    refine⟨i+1,by omega,by go_num,HE.o.2.2.2.2.setCell (HE.o.2.2.2.1.lt gk rfl).1 _,Ο.set i (.slice o8 (el.length+1) c8,el++[0]),by simp[EY.o.2.2.2.2.1],?_,?_,?_⟩
    ·exact((fq (W:=W8) (b:=gk) (off:=i) (v:= .slice o8 (el.length+1) c8)).block wb HE.o.2.1.lt (fun hm=>HE.o.2.1.off 6 ⟨52,1,.slice (some ⟨gk,0,none⟩) es.length ck,Ο.length,dW Ο⟩ (by rw[List.getElem?_set_ne ϑ];rfl) (by rw[dY.1 hm];rfl))).trans HE.o.2.2.1
    ·rw[BK (qy s (y,z) i) (qy s (y,z) (i+1)) _ Ο (by rw[EY.o.2.2.2.2.1];exact tX) rfl];have hS:=jX HE.o.2.2.2.1 i (.slice o8 (el.length+1) c8);refine HE.o.2.1.put (i:=6) (r:=⟨52,1,.slice (some ⟨gk,0,none⟩) es.length ck,Ο.length,dW Ο⟩) (by rw[List.getElem?_set_ne ϑ];rfl) _ fq (fun m hm=> .inr (.inr (by rw[dY.1 hm];rfl))) ?_ (.inl rfl);rw[EY.o.2.2.2.2.1];exact hS
    ·rw[List.map_set,EY.o.1.es, <-MZ s (y,z) i EY.o.2.2.2.2.2.2.2];exact congrArg (fun q=>(qy s (y,z) i).cz.aR.set i (q++[0])) EY.o.2.2.2.1
   case measure=>simp[intOf];omega
  ·obtain rfl:i=es.length:=ϑ;have EY:=aa (af hOr hB);clear hOr hB hle;go_wp2_with fail
   go_end0
   have q0:=iL.o;have q1:=pg.o;have q2:=uu.o;simp only[gZ,bI,bJ,df];(repeat (first|rw[aB ϑ]|rw[aj ϑ]))
   rw[QP s (y,z) _ ϑ] at EY;exact⟨EY.o.2,.inl ⟨rfl,rfl,_,Ο,EY.o.1⟩⟩
def Wp (N:Nat) (t:TypeId) (size g n c:Nat) (xs:List Value) (w:World) (e:Ending) (w':World):Prop:=
 e= .returned (.slice (some ⟨g,0,none⟩) n c)/\w'.ownsRow N t size (.slice (some ⟨g,0,none⟩) n c) n xs/\Ext [g] w w'
theorem dJ {W:World} {g:Nat} {cs:Array Value}:Ext [g] W (W.setRow g cs):=
 ⟨rfl,rfl,rfl,by simp,fun k _ hm=>setRow_other _ _ _ _ (by simpa using hm)⟩
theorem qG {P:Program} {t e:TypeId} {z:Value} {size bytes:Nat} (hT:gJ P t e z size bytes) {W:World} {N g c n i m:Nat} {xs:List Value} (ho:W.ownsRow N e size (.slice (some ⟨g,0,none⟩) n c) n xs) (h1: ∀u∈xs,u.oneCell'=true)
 (hi:i<n) (hm:m=n-1) (A:Addr) (hA:(if c=i+1 then some (⟨g,0,none⟩:Addr) else some ⟨g,(i+1)*size,none⟩)=some A):
 ∃W1,(∀ty,(Builtin.append_ #[t,t] ty #[.slice (some ⟨g,0,none⟩) i c,.slice (some A) (n-(i+1)) (c-(i+1))]).run P W= .ok (.slice (some ⟨g,0,none⟩) m c) W1)/\
  W1.ownsRow N e size (.slice (some ⟨g,0,none⟩) n c) n (xs.take (i*size)++xs.drop (i*size+size)++xs.drop (n*size-size))/\Ext [g] W W1:=by
 obtain⟨it,hit,hz,hs,hby⟩:=info_parts hT.info;obtain⟨hl,⟨h2,_⟩|⟨g',c',cur,h2,hb,hg,hnc,hcm,hcs,htk⟩⟩:=ho
 ·cases h2
 cases h2;have hpos:=hT.pos;have hnn:n=i+1+(n-(i+1)):=ϑ;have hmul:n*size=i*size+size+(n-(i+1))*size:=by
  conv=>lhs;rw[hnn]
  rw[Nat.add_mul,Nat.add_mul,Nat.one_mul]
 have hcz:n*size<=cur.size:=by rw[hcs];exact Nat.mul_le_mul_right _ hnc
 have Ib:(xs.drop (i*size+size)).length=(n-(i+1))*size:=by rw[jq,hl];omega
 have hnews: ∀j u,(xs.drop (i*size+size))[j]? =some u->W.cell? (A.add j)=some u:=by
  intro j u hu;have hj:=(gY.1 hu).1;rw[Ib] at hj;have hne:c≠i+1:=by
   intro e;have:n-(i+1)=0:=ϑ;rw[this] at hj;omega
  rw[aj hne] at hA;obtain rfl:=gV hA;rw[Addr.add_lit,cell_of_row W g _ cur e (0,0) hg];rw[List.getElem?_drop, <-htk,List.getElem?_take] at hu;split at hu
  ·rw[show(i+1)*size+j=i*size+size+j from by rw[Nat.add_mul,Nat.one_mul]]
   simpa using hu
  ·cases hu
 have hroom:i+(n-(i+1))<=c:=ϑ;have hfit:i*it.size+(xs.drop (i*size+size)).length<=cur.size:=by rw[hs,Ib];omega
 refine⟨W.setRow g (cur.toList.take (i*size)++xs.drop (i*size+size)++cur.toList.drop (i*size+(xs.drop (i*size+size)).length)).toArray,fun ty=>?_,?_,dJ⟩
 ·have:=run_append_room (P:=P) W t ty e it hT.und hit g i c cur hg A (n-(i+1)) (c-(i+1)) (xs.drop (i*size+size)) (by rw[Ib,hs]) hnews (fun u hu=>h1 u (List.mem_of_mem_drop hu)) hroom hfit;rw[this,hs,show i+(n-(i+1))=m from by omega]
 ·have hti:cur.toList.take (i*size)=xs.take (i*size):=by
   rw[<-htk,List.take_take];congr 1;omega
  have hL:(xs.take (i*size)++xs.drop (i*size+size)++xs.drop (n*size-size)).length=n*size:=by
   simp only[bR,eO,jq,hl];omega
  refine⟨hL,.inr ⟨g,c,_,rfl,hb,setRow_heap W g cur _ e _ hg,hnc,hcm,?_,?_⟩⟩
  ·simp only[List.size_toArray,bR,eO,jq,Array.length_toList,hl];omega
  ·rw[hti,Ib,List.take_append,iT (by simp only[bR,eO,jq,hl];omega)];congr 1;simp only[bR,eO,jq,hl];rw[show n*size-(min (i*size) (n*size)+(n*size-(i*size+size)))=size from ϑ, <-htk,List.drop_take];rw[show i*size+(n-(i+1))*size=n*size-size from ϑ,show n*size-(n*size-size)=size from by omega]
theorem iO {P:Program} {w w':World} {ops:Array Oper} {rest:List Oper} {o:Oper} {a:Act} {Q:Exit->Act->World->Prop} (hg:o.guard=none) (s x:Operand) {t:TypeId}
 (hop:o.op=Op.call {callee:=Callee.builtin Builtin.append,args:= #[s,x],argTypes:= #[t,t]}) (v src v':Value) (hs:a.eval s=v) (hx:a.eval x=src) (hrun: ∀ty,(Builtin.append_ #[t,t] ty #[v,src]).run P w= .ok v' w')
 (hK:wpList P ops Q rest (a.put o.dst v') w'):wpList P ops Q (o::rest) a w:=by
 refine wpList_plain hg fun K hK'=>?_;refine wF (R:=fun v1 w1=>v1=v'/\w1=w') (iq v' ?_ ⟨rfl,rfl⟩) fun v1 w1 ⟨h1,h2⟩=>by rw[h1,h2];exact hK' _ _ hK
 exact zbX
theorem lN {P:Program} {t e:TypeId} {z:Value} {size bytes:Nat} (hT:gJ P t e z size bytes) (hv: ∀w,(zeroValue e).run P w= .ok z w) (hz1:(Builtin.zeroCells z.cells 1).toList.all (·.oneCell')=true) {W:World} {N g c n m:Nat} {xs:List Value} (ho:W.ownsRow N e size (.slice (some ⟨g,0,none⟩) n c) n xs) (hm:m+1=n):
 ∃W1,(∀ty,(Builtin.clear_ #[t] ty #[.slice (some ⟨g,m*size,none⟩) (n-m) (c-m)]).run P W= .ok (.tuple #[]) W1)/\W1.ownsRow N e size (.slice (some ⟨g,0,none⟩) m c) m (xs.take (m*size))/\Ext [g] W W1:=by
 obtain⟨it,hit,hz,hs,hby⟩:=info_parts hT.info;obtain⟨hl,⟨h2,_⟩|⟨g',c',cur,h2,hb,hg,hnc,hcm,hcs,htk⟩⟩:=ho
 ·cases h2
 cases h2;subst hm;have hzl:(Builtin.zeroCells z.cells 1).toList.length=size:=by simp[Builtin.zeroCells,hT.cells]
 have hz2: ∀u∈(Builtin.zeroCells z.cells 1).toList,u.oneCell'=true:=fun u hu=>iR.1 hz1 u hu;have hcz:m*size+size<=cur.size:=by
  rw[hcs];have:=Nat.mul_le_mul_right size hnc;rw[Nat.add_mul,Nat.one_mul] at this;exact this
 have UC:=run_storeCells_at P g (m*size) e (Builtin.zeroCells z.cells 1).toList 0 cur W hg (by rw[hzl];omega) hz2;simp only[Nat.add_zero] at UC;obtain⟨nw,hnw⟩: ∃nw,nw=(cur.toList.take (m*size)++(Builtin.zeroCells z.cells 1).toList++cur.toList.drop (m*size+(Builtin.zeroCells z.cells 1).toList.length)).toArray:=⟨_,rfl⟩;rw[<-hnw] at UC;refine⟨W.setRow g nw,fun ty=>?_,⟨?_,.inr ⟨g,c,nw,rfl,hb,setRow_heap W g cur _ e _ hg,by omega,hcm,?_,?_⟩⟩,dJ⟩
 ·rw[show m+1-m=0+1 from by omega];simp[Builtin.clear_,run_underlying hT.und,hv,UC]
 ·rw[eO,hl,Nat.add_mul];omega
 ·rw[hnw];simp only[List.size_toArray,bR,eO,jq,Array.length_toList,hzl];omega
 ·rw[hnw];rw[jg,lH ϗ,List.take_take,Nat.min_self, <-htk,List.take_take];congr 1;rw[Nat.add_mul];omega
theorem NQ (N:Nat) (g n c i:Nat) (xs:List Value) (w:World) (ho:w.ownsRow N 186 5 (.slice (some ⟨g,0,none⟩) n c) n xs) (h1: ∀u∈xs,u.oneCell'=true) (hi:i<n) (hn:n<=100):
 Ϝ 244 #[.slice (some ⟨g,0,none⟩) n c,iv i,iv (i+1)] w (Wp N 186 5 g (n-1) c (xs.take (i*5)++xs.drop (i*5+5)) w):=by
 have hnc:n<=c/\c<=maxLen:=zaW;obtain⟨hnc,hcm⟩:=hnc;simp only[maxLen] at hcm;have hc0:c≠0:=ϑ;have hi1:(i:Int)<=(c:Int):=ϑ;have hi2:(0:Int)<=(i:Int):=ϑ;have hi3:(i:Int)+1<=(n:Int):=ϑ;have hi4:(0:Int)<=(i:Int)+1:=ϑ;have hi5:i<=c:=ϑ;have hi6:i+1<=n:=ϑ;have hi7:((i:Int)+1).toNat=i+1:=ϑ;obtain⟨m,hm⟩: ∃m,m=n-1:=⟨_,rfl⟩;have Ν:(m:Int)<=(n:Int):=ϑ;have hm2:c≠m:=ϑ;have pY:(n:Int)<=(c:Int):=ϑ;have hm4:m<=n:=ϑ;obtain⟨A,hA⟩: ∃A:Addr,(if c=i+1 then some (⟨g,0,none⟩:Addr) else some ⟨g,(i+1)*5,none⟩)=some A:=by split <;>exact⟨_,rfl⟩
 have HO:=aa (af ho (af hm hA));clear ho hm;go_enter Tryz.func244,Tryz.ntmps244;go_wp2_with fail
 refine zg 6 [] none [] ?_;simp only[zt];repeat ((first|refine zd ?_|refine zk ?_);simp only[zp])
 intro W hE hF;have HE:=aa (show Ext [] w W from hE);clear hE hF;obtain⟨W1,happ,ho1,hE1⟩:=qG TI (az (Ms:=[]) HO.o.1 HE.o ϕ) h1 hi HO.o.2.1 A HO.o.2.2;obtain⟨W2,hcl,Ψ,Ι⟩:=lN TI (fun w=>Tryz.zeroValue186 w) ϰ ho1 (m:=m) (by have:=HO.o.2.1;omega);have H2:=aa (af Ψ (af hE1 Ι));clear ho1 Ψ hE1 Ι hA;go_wp2_with (at_builtin;refine iO rfl _ _ rfl _ _ _ rfl rfl happ ?_)
 go_returns;refine⟨by simp;exact HO.o.2.1,?_,((Ext.nil HE.o).trans H2.o.2.1).trans H2.o.2.2⟩;have h9:=H2.o.1;rw[<-HO.o.2.1];have hl:=HO.o.1.1;have hx:(xs.take (i*5)++xs.drop (i*5+5)++xs.drop (n*5-5)).take (m*5)=xs.take (i*5)++xs.drop (i*5+5):=by
  have:=HO.o.2.1;rw[lH (by simp only[bR,eO,jq,hl];omega),iT (by simp only[bR,eO,jq,hl];omega)]
 rw[<-hx];exact h9
theorem KS (N:Nat) (g n c i:Nat) (xs:List Value) (w:World) (ho:w.ownsRow N 188 3 (.slice (some ⟨g,0,none⟩) n c) n xs) (h1: ∀u∈xs,u.oneCell'=true) (hi:i<n) (hn:n<=100):
 Ϝ 246 #[.slice (some ⟨g,0,none⟩) n c,iv i,iv (i+1)] w (Wp N 188 3 g (n-1) c (xs.take (i*3)++xs.drop (i*3+3)) w):=by
 have hnc:n<=c/\c<=maxLen:=zaW;obtain⟨hnc,hcm⟩:=hnc;simp only[maxLen] at hcm;have hc0:c≠0:=ϑ;have hi1:(i:Int)<=(c:Int):=ϑ;have hi2:(0:Int)<=(i:Int):=ϑ;have hi3:(i:Int)+1<=(n:Int):=ϑ;have hi4:(0:Int)<=(i:Int)+1:=ϑ;have hi5:i<=c:=ϑ;have hi6:i+1<=n:=ϑ;have hi7:((i:Int)+1).toNat=i+1:=ϑ;obtain⟨m,hm⟩: ∃m,m=n-1:=⟨_,rfl⟩;have Ν:(m:Int)<=(n:Int):=ϑ;have hm2:c≠m:=ϑ;have pY:(n:Int)<=(c:Int):=ϑ;have hm4:m<=n:=ϑ;obtain⟨A,hA⟩: ∃A:Addr,(if c=i+1 then some (⟨g,0,none⟩:Addr) else some ⟨g,(i+1)*3,none⟩)=some A:=by split <;>exact⟨_,rfl⟩
 have HO:=aa (af ho (af hm hA));clear ho hm;go_enter Tryz.func246,Tryz.ntmps246;go_wp2_with fail
 refine zg 6 [] none [] ?_;simp only[zt];repeat ((first|refine zd ?_|refine zk ?_);simp only[zp])
 intro W hE hF;have HE:=aa (show Ext [] w W from hE);clear hE hF;obtain⟨W1,happ,ho1,hE1⟩:=qG Xn (az (Ms:=[]) HO.o.1 HE.o ϕ) h1 hi HO.o.2.1 A HO.o.2.2;obtain⟨W2,hcl,Ψ,Ι⟩:=lN Xn (fun w=>Tryz.zeroValue188 w) ϰ ho1 (m:=m) (by have:=HO.o.2.1;omega);exact zaS
theorem KR (N:Nat) (g n c i:Nat) (xs:List Value) (w:World) (ho:w.ownsRow N 190 3 (.slice (some ⟨g,0,none⟩) n c) n xs) (h1: ∀u∈xs,u.oneCell'=true) (hi:i<n) (hn:n<=100):
 Ϝ 251 #[.slice (some ⟨g,0,none⟩) n c,iv i,iv (i+1)] w (Wp N 190 3 g (n-1) c (xs.take (i*3)++xs.drop (i*3+3)) w):=by
 have hnc:n<=c/\c<=maxLen:=zaW;obtain⟨hnc,hcm⟩:=hnc;simp only[maxLen] at hcm;have hc0:c≠0:=ϑ;have hi1:(i:Int)<=(c:Int):=ϑ;have hi2:(0:Int)<=(i:Int):=ϑ;have hi3:(i:Int)+1<=(n:Int):=ϑ;have hi4:(0:Int)<=(i:Int)+1:=ϑ;have hi5:i<=c:=ϑ;have hi6:i+1<=n:=ϑ;have hi7:((i:Int)+1).toNat=i+1:=ϑ;obtain⟨m,hm⟩: ∃m,m=n-1:=⟨_,rfl⟩;have Ν:(m:Int)<=(n:Int):=ϑ;have hm2:c≠m:=ϑ;have pY:(n:Int)<=(c:Int):=ϑ;have hm4:m<=n:=ϑ;obtain⟨A,hA⟩: ∃A:Addr,(if c=i+1 then some (⟨g,0,none⟩:Addr) else some ⟨g,(i+1)*3,none⟩)=some A:=by split <;>exact⟨_,rfl⟩
 have HO:=aa (af ho (af hm hA));clear ho hm;go_enter Tryz.func251,Tryz.ntmps251;go_wp2_with fail
 refine zg 6 [] none [] ?_;simp only[zt];repeat ((first|refine zd ?_|refine zk ?_);simp only[zp])
 intro W hE hF;have HE:=aa (show Ext [] w W from hE);clear hE hF;obtain⟨W1,happ,ho1,hE1⟩:=qG Xm (az (Ms:=[]) HO.o.1 HE.o ϕ) h1 hi HO.o.2.1 A HO.o.2.2;obtain⟨W2,hcl,Ψ,Ι⟩:=lN Xm (fun w=>Tryz.zeroValue190 w) ϰ ho1 (m:=m) (by have:=HO.o.2.1;omega);exact zaS
theorem IC (N:Nat) (g n c i:Nat) (xs:List Value) (w:World) (ho:w.ownsRow N 192 4 (.slice (some ⟨g,0,none⟩) n c) n xs) (h1: ∀u∈xs,u.oneCell'=true) (hi:i<n) (hn:n<=100):
 Ϝ 254 #[.slice (some ⟨g,0,none⟩) n c,iv i,iv (i+1)] w (Wp N 192 4 g (n-1) c (xs.take (i*4)++xs.drop (i*4+4)) w):=by
 have hnc:n<=c/\c<=maxLen:=zaW;obtain⟨hnc,hcm⟩:=hnc;simp only[maxLen] at hcm;have hc0:c≠0:=ϑ;have hi1:(i:Int)<=(c:Int):=ϑ;have hi2:(0:Int)<=(i:Int):=ϑ;have hi3:(i:Int)+1<=(n:Int):=ϑ;have hi4:(0:Int)<=(i:Int)+1:=ϑ;have hi5:i<=c:=ϑ;have hi6:i+1<=n:=ϑ;have hi7:((i:Int)+1).toNat=i+1:=ϑ;obtain⟨m,hm⟩: ∃m,m=n-1:=⟨_,rfl⟩;have Ν:(m:Int)<=(n:Int):=ϑ;have hm2:c≠m:=ϑ;have pY:(n:Int)<=(c:Int):=ϑ;have hm4:m<=n:=ϑ;obtain⟨A,hA⟩: ∃A:Addr,(if c=i+1 then some (⟨g,0,none⟩:Addr) else some ⟨g,(i+1)*4,none⟩)=some A:=by split <;>exact⟨_,rfl⟩
 have HO:=aa (af ho (af hm hA));clear ho hm;go_enter Tryz.func254,Tryz.ntmps254;go_wp2_with fail
 refine zg 6 [] none [] ?_;simp only[zt];repeat ((first|refine zd ?_|refine zk ?_);simp only[zp])
 intro W hE hF;have HE:=aa (show Ext [] w W from hE);clear hE hF;obtain⟨W1,happ,ho1,hE1⟩:=qG Xl (az (Ms:=[]) HO.o.1 HE.o ϕ) h1 hi HO.o.2.1 A HO.o.2.2;obtain⟨W2,hcl,Ψ,Ι⟩:=lN Xl (fun w=>Tryz.zeroValue192 w) ϰ ho1 (m:=m) (by have:=HO.o.2.1;omega);have H2:=aa (af Ψ (af hE1 Ι));clear ho1 Ψ hE1 Ι hA;go_wp2_with (at_builtin;refine iO rfl _ _ rfl _ _ _ rfl rfl happ ?_)
 go_returns;refine⟨by simp;exact HO.o.2.1,?_,((Ext.nil HE.o).trans H2.o.2.1).trans H2.o.2.2⟩;have h9:=H2.o.1;rw[<-HO.o.2.1];have hl:=HO.o.1.1;have hx:(xs.take (i*4)++xs.drop (i*4+4)++xs.drop (n*4-4)).take (m*4)=xs.take (i*4)++xs.drop (i*4+4):=by
  have:=HO.o.2.1;rw[lH (by simp only[bR,eO,jq,hl];omega),iT (by simp only[bR,eO,jq,hl];omega)]
 rw[<-hx];exact h9
theorem NR (N:Nat) (g n c i:Nat) (xs:List Value) (w:World) (ho:w.ownsRow N 3 1 (.slice (some ⟨g,0,none⟩) n c) n xs) (h1: ∀u∈xs,u.oneCell'=true) (hi:i<n) (hn:n<=100):
 Ϝ 250 #[.slice (some ⟨g,0,none⟩) n c,iv i,iv (i+1)] w (Wp N 3 1 g (n-1) c (xs.take i++xs.drop (i+1)) w):=by
 have hnc:n<=c/\c<=maxLen:=zaW;obtain⟨hnc,hcm⟩:=hnc;simp only[maxLen] at hcm;have hc0:c≠0:=ϑ;have hi1:(i:Int)<=(c:Int):=ϑ;have hi2:(0:Int)<=(i:Int):=ϑ;have hi3:(i:Int)+1<=(n:Int):=ϑ;have hi4:(0:Int)<=(i:Int)+1:=ϑ;have hi5:i<=c:=ϑ;have hi6:i+1<=n:=ϑ;have hi7:((i:Int)+1).toNat=i+1:=ϑ;obtain⟨m,hm⟩: ∃m,m=n-1:=⟨_,rfl⟩;have Ν:(m:Int)<=(n:Int):=ϑ;have hm2:c≠m:=ϑ;have pY:(n:Int)<=(c:Int):=ϑ;have hm4:m<=n:=ϑ;obtain⟨A,hA⟩: ∃A:Addr,(if c=i+1 then some (⟨g,0,none⟩:Addr) else some ⟨g,i+1,none⟩)=some A:=by split <;>exact⟨_,rfl⟩
 have HO:=aa (af ho (af hm hA));clear ho hm;go_enter Tryz.func250,Tryz.ntmps250;go_wp2_with fail
 refine zg 6 [] none [] ?_;simp only[zt];repeat ((first|refine zd ?_|refine zk ?_);simp only[zp])
 intro W hE hF;have HE:=aa (show Ext [] w W from hE);clear hE hF;obtain⟨W1,happ,ho1,hE1⟩:=qG pq (az (Ms:=[]) HO.o.1 HE.o ϕ) h1 hi HO.o.2.1 A (by rw[Nat.mul_one];exact HO.o.2.2);obtain⟨W2,hcl,Ψ,Ι⟩:=lN pq (fun w=>Tryz.zeroValue3 w) ϰ ho1 (m:=m) (by have:=HO.o.2.1;omega);simp only[Nat.mul_one] at ho1 Ψ hcl;have H2:=aa (af Ψ (af hE1 Ι));clear ho1 Ψ hE1 Ι hA;go_wp2_with (at_builtin;refine iO rfl _ _ rfl _ _ _ rfl rfl happ ?_)
 go_returns;refine⟨by simp;exact HO.o.2.1,?_,((Ext.nil HE.o).trans H2.o.2.1).trans H2.o.2.2⟩;have h9:=H2.o.1;rw[<-HO.o.2.1];have hl:=HO.o.1.1;have hx:(xs.take i++xs.drop (i+1)++xs.drop (n-1)).take m=xs.take i++xs.drop (i+1):=by
  have:=HO.o.2.1;rw[lH (by simp only[bR,eO,jq,hl];omega),iT (by simp only[bR,eO,jq,hl];omega)]
 rw[<-hx];exact h9
end Go.Proofs.Z.Bk
end

/-
  Texts of this claim, packed by a program: DH DI DJ DK DL DM DN DO DP.
-/
import Derived.WalkKit
import Derived.WalkLawsBesides
import Derived.WalkSpells
import Derived.Outline
import Derived.Handy
import Derived.KernelRfl
import Derived.Lib.Hide
import Derived.Sort.OwnSortedInts
import Derived.Lib.SliceRun
import Derived.Test.YthbpmepjmebolaaGreatDoorPU1
import Derived.Test.YthbpmepjmebolaaGreatDoorPU10
import Derived.Test.YthbpmepjmebolaaGreatDoorPU12
set_option maxHeartbeats 8000000
set_option maxRecDepth 100000
set_option linter.all false
section
namespace Go.Proofs.YthbpmepjmebolaaGreatDoor.Bk
open Go.RowKit Go.RG Go.SL Go.Shelf jv Go.TB Go.Proofs.YthbpmepjmebolaaGreatDoor.zF
theorem ig {w:World} {N:Nat} {t:TypeId} {size:Nat} {o:Option Addr} {n c m:Nat} {xs:List Value} (h:w.ownsRow N t size (.slice o m c) n xs) (hn:0<n):
 ∃g,o=some ⟨g,0,none⟩/\(∀(j:Nat) (hj:j<xs.length),w.cell? ⟨g,j,none⟩=some xs[j])/\(∀j,w.frozen? ⟨g,j,none⟩=false)/\g<w.heap.size:=by
 obtain⟨h1,⟨h2,rfl⟩|⟨g,cc,cs,h2,h3,h4,h5,h6,h7,h8⟩⟩:=h
 ·omega
 ·cases h2
  obtain⟨k0,k1,k2⟩:=af h4
  refine⟨g,rfl,fun j hj=>?_,k1,k2⟩
  rw[k0, <-Array.getElem?_toList]
  have:(cs.toList.take (n*size))[j]? =some xs[j]:=by rw[h8];exact dP hj
  rw[List.getElem?_take] at this
  split at this
  ·exact this
  ·cases this
theorem lX {w:World} {N:Nat} {t:TypeId} {size:Nat} {g n c m:Nat} {xs:List Value} (h:w.ownsRow N t size (.slice (some ⟨g,0,none⟩) m c) n xs) (j:Nat) (u:Value):(w.setCell ⟨g,j,none⟩ u).ownsRow N t size (.slice (some ⟨g,0,none⟩) m c) n (xs.set j u):=by
 obtain⟨h1,⟨h2,rfl⟩|⟨g',cc,cs,h2,h3,h4,h5,h6,h7,h8⟩⟩:=h
 ·cases h2
 ·cases h2
  refine⟨by simpa using h1,.inr ⟨g,c,_,rfl,h3,aJ h4 u,h5,h6,by simpa using h7,?_⟩⟩
  rw[<-h8,Array.toList_setIfInBounds,List.take_set]
theorem jC {α:Type} (f:α->List Value) (k:Nat) (hk: ∀x,(f x).length=k): ∀(l:List α) (i j:Nat) (x:α),l[i]? =some x->j<k->(l.flatMap f)[i*k+j]? =(f x)[j]? :=by
 intro l
 induction l with
 |nil=>intro i j x h _;cases h
 |cons y l ih=>
  intro i j x h hj
  rw[List.flatMap_cons]
  cases i with
  |zero=>
   simp only[List.getElem?_cons_zero,Option.some.injEq] at h
   subst h
   rw[vH (by rw[hk];omega)]
   congr 1
   omega
  |succ i=>
   rw[nK (by rw[hk,Nat.succ_mul];omega),hk]
   rw[show(i+1)*k+j-k=i*k+j from by rw[Nat.succ_mul];omega]
   exact ih i j x (by simpa using h) hj
theorem BO {α:Type} (f:α->List Value) (k:Nat) (hk: ∀x,(f x).length=k): ∀(l:List α) (i j:Nat) (x y:α) (u:Value),l[i]? =some x->j<k->(f x).set j u=f y->(l.flatMap f).set (i*k+j) u=(l.set i y).flatMap f:=by
 intro l
 induction l with
 |nil=>intro i j x y u h _ _;cases h
 |cons z l ih=>
  intro i j x y u h hj hu
  rw[List.flatMap_cons]
  cases i with
  |zero=>
   simp only[List.getElem?_cons_zero,Option.some.injEq] at h
   subst h
   rw[List.set_append_left _ _ (by rw[hk];omega),List.set_cons_zero,List.flatMap_cons, <-hu]
   congr 2
   omega
  |succ i=>
   rw[qE _ _ (by rw[hk,Nat.succ_mul];omega),hk,List.set_cons_succ,List.flatMap_cons]
   rw[show(i+1)*k+j-k=i*k+j from by rw[Nat.succ_mul];omega,ih i j x y u (by simpa using h) hj hu]
theorem Zt (l:List dX) (i:Nat) (h:i<l.length):(aH l)[i*2+0]? =some (iv l[i].1)/\(aH l)[i*2+1]? =some (iv l[i].2):=
 ⟨jC _ 2 (fun _=>rfl) l i 0 _ (dP h) (by omega),jC _ 2 (fun _=>rfl) l i 1 _ (dP h) (by omega)⟩
theorem Oh (l:List dX) (i:Nat) (h:i<l.length) (a b:Int):((aH l).set (i*2+0) (iv a)).set (i*2+1) (iv b)=aH (l.set i (a,b)):=by
 unfold aH
 rw[BO _ 2 (fun _=>rfl) l i 0 _ (a,l[i].2) (iv a) (dP h) (by omega) rfl,BO _ 2 (fun _=>rfl) (l.set i (a,l[i].2)) i 1 (a,l[i].2) (a,b) (iv b) (by simp[h]) (by omega) rfl]
 simp
theorem jV.over {N:Nat} {w W:World} {wb:Nat} {s s':jF} {V:SV} {es es':List KE} (h:jV N w wb s V es) {i:Nat} {r:Row} (hr:(iR s V es)[i]? =some r) {g:Nat} (hg:r.v.ownBlock=some g) (hE:Ext [g] w W) (xs:List Value)
 (ho:W.ownsRow N r.t r.size r.v r.n xs) (hrows:iR s' V es'=(iR s V es).set i ⟨r.t,r.size,r.v,r.n,xs⟩) (hsc:dw s' V=dw s V) (hes:es'.map (·.2)=s'.dn.aT):jV N W wb s' V es':=by
 refine⟨?_,?_,hes⟩
 ·rw[hsc]
  refine(hE.block wb h.rows.lt (fun hm=>h.rows.off i r hr ?_)).trans h.blk
  rw[hg,eU.1 hm]
 ·rw[hrows]
  exact h.rows.put hr ⟨r.t,r.size,r.v,r.n,xs⟩ hE (fun m hm=> .inr (.inr (by rw[hg,eU.1 hm]))) ho (.inl rfl)
theorem abO (l:List Nb) (i:Nat) (h:i<l.length):(dS l)[i*5+3]? =some (iv l[i].2.2.2.1)/\(dS l)[i*5+4]? =some (iv l[i].2.2.2.2):=
 ⟨jC _ 5 (fun _=>rfl) l i 3 _ (dP h) (by omega),jC _ 5 (fun _=>rfl) l i 4 _ (dP h) (by omega)⟩
theorem abN (l:List Nb) (i:Nat) (h:i<l.length) (a b:Int):((dS l).set (i*5+3) (iv a)).set (i*5+4) (iv b)=dS (l.set i (l[i].1,l[i].2.1,l[i].2.2.1,(a,b))):=by
 unfold dS
 rw[BO _ 5 (fun _=>rfl) l i 3 _ (l[i].1,l[i].2.1,l[i].2.2.1,(a,l[i].2.2.2.2)) (iv a) (dP h) (by omega) rfl,BO _ 5 (fun _=>rfl) (l.set i (l[i].1,l[i].2.1,l[i].2.2.1,(a,l[i].2.2.2.2))) i 4 (l[i].1,l[i].2.1,l[i].2.2.1,(a,l[i].2.2.2.2)) (l[i].1,l[i].2.1,l[i].2.2.1,(a,b)) (iv b) (by simp[h]) (by omega) rfl]
 simp
theorem Y7 {w:World} {g:Nat} {l:List Nb} (h: ∀(j:Nat) (hj:j<(dS l).length),w.cell? ⟨g,j,none⟩=some (dS l)[j]) {i:Nat} (hi:i<l.length):w.cell? ⟨g,i*5+3,none⟩=some (iv l[i].2.2.2.1)/\w.cell? ⟨g,i*5+4,none⟩=some (iv l[i].2.2.2.2):=by
 obtain⟨h1,h2⟩:=abO l i hi
 obtain⟨k1,e1⟩:=ji.1 h1
 obtain⟨k2,e2⟩:=ji.1 h2
 exact⟨(h _ k1).trans (by rw[e1]),(h _ k2).trans (by rw[e2])⟩
theorem JM {w:World} {g:Nat} {l:List dX} (h: ∀(j:Nat) (hj:j<(aH l).length),w.cell? ⟨g,j,none⟩=some (aH l)[j]) {i:Nat} (hi:i<l.length):w.cell? ⟨g,i*2,none⟩=some (iv l[i].1)/\w.cell? ⟨g,i*2+1,none⟩=some (iv l[i].2):=by
 obtain⟨h1,h2⟩:=Zt l i hi
 obtain⟨k1,e1⟩:=ji.1 h1
 obtain⟨k2,e2⟩:=ji.1 h2
 exact⟨(h _ k1).trans (by rw[e1]),(h _ k2).trans (by rw[e2])⟩
theorem KU (N:Nat) (w:World) (wb:Nat) (s:jF) (V:SV) (es:List KE) (ns:Value) (x:Nat) (y:Int) (z:Int) (hO:jV N w wb s V es) (hn:rW N w ns [(x:Int),y,z]) (hG:gu s) (hx:0<=y/\y<=9999):Calls Tryz.prog 186 #[.pointer (some ⟨wb,0,none⟩),ns] w (rC N wb (iL s .bW [(x:Int),y,z]) w):=by
 obtain⟨vt,vn,vw,vu,vr,vh,vk,vs⟩:=V
 obtain⟨o,cc,rfl⟩: ∃o c,vw= .slice o s.heap.bW.length c:=aU (n:=s.heap.bW.length) (hO.rows.own 2 _ rfl)
 have HO:=ae hO
 have gK:=eX hO
 obtain⟨b,c,rfl,hbN,hcs⟩:=hn
 have lb:b<w.heap.size:=by omega
 have lw:=hO.rows.lt
 have wI:=hO.rows.base
 have HW:Hid (∀W,Below N w W->b<W.heap.size/\ ∀(j:Nat) (h:j<[(x:Int),y,z].length),W.cell? ⟨b,j,none⟩=some (iv [(x:Int),y,z][j])):=ae (fun W hB=>⟨by have:=hB.size;omega,fun j h=>(jh (hB.block b hbN)).trans (hcs j h)⟩)
 obtain⟨c0,f0,l0⟩:=af hO.blk
 have oZ:=hcs 0 (by simp)
 simp only[au] at oZ
 have n01:=hcs 1 (by simp)
 simp only[au] at n01
 have n02:=hcs 2 (by simp)
 simp only[au] at n02
 have HB0:Hid (Below w.heap.size w w):=ae (aG _ _)
 have hl4:=hG.heap.1
 have L9:=hG.VJ
 have HR5:=ae L9
 clear L9
 clear hO hcs hG
 go_enter Tryz.func186,Tryz.ntmps186
 go_wp2_with fail
 refine(yF x wb s _ w ((HB0.o.block _ lw).trans HO.o.blk) hl4).mono ?_
 rintro e W1 ⟨hb,⟨hc,rfl⟩|⟨hc,rfl⟩⟩
 rotate_left
 ·simp at hc
  simp only[iL,bZ,cu,dD]
  (repeat (first|rw[aA (by omega)]|rw[ai (by omega)]))
  exact⟨rfl,(aY HB0.o hb).mono gK,.inr ⟨by simp,rfl⟩⟩
 simp at hc
 have HB1:=ae (aY HB0.o hb)
 have Nc:=ae hb
 have jS:=ae hc
 clear hb hc c0 f0 oZ n01 n02
 obtain⟨c1,f1,l1⟩:=af ((HB1.o.block _ lw).trans HO.o.blk)
 obtain⟨wU,hcs1⟩:=HW.o W1 (HB1.o.mono gK)
 have n10:=hcs1 0 (by simp)
 simp only[au] at n10
 have n11:=hcs1 1 (by simp)
 simp only[au] at n11
 have n12:=hcs1 2 (by simp)
 simp only[au] at n12
 clear hcs1
 go_wp2_with fail
 refine zg 6 [] none [] ?_
 simp only[zt]
 repeat ((first|refine zd ?_|refine zk ?_);simp only[zp])
 intro W2 hE hF
 have HB2:=ae (aY HB1.o hE.below)
 clear hE hF c1 f1 wU n10 n11 n12
 obtain⟨c2,f2,l2⟩:=af ((HB2.o.block _ lw).trans HO.o.blk)
 obtain⟨xR,hcs2⟩:=HW.o W2 (HB2.o.mono gK)
 have n20:=hcs2 0 (by simp)
 simp only[au] at n20
 have n21:=hcs2 1 (by simp)
 simp only[au] at n21
 have n22:=hcs2 2 (by simp)
 simp only[au] at n22
 clear hcs2
 go_wp2_with fail
 refine(Ai _ _ _ _ _ (by omega)).mono ?_
 rintro e W3 ⟨hb,⟨hc,rfl⟩|⟨hc,rfl⟩⟩
 rotate_left
 ·simp at hc
  have q0:=jS.o
  simp only[iL,bZ,cu,dD]
  (repeat (first|rw[aA (by omega)]|rw[ai (by omega)]))
  exact⟨rfl,(aY HB2.o hb).mono gK,.inr ⟨by simp,rfl⟩⟩
 simp at hc
 have HB3:=ae (aY HB2.o hb)
 have HS3:=ae hb
 have rD:=ae hc
 clear hb hc c2 f2 xR n20 n21 n22
 obtain⟨c3,f3,l3⟩:=af ((HB3.o.block _ lw).trans HO.o.blk)
 obtain⟨GX,hcs3⟩:=HW.o W3 (HB3.o.mono gK)
 have n30:=hcs3 0 (by simp)
 simp only[au] at n30
 have n31:=hcs3 1 (by simp)
 simp only[au] at n31
 have n32:=hcs3 2 (by simp)
 simp only[au] at n32
 clear hcs3
 go_wp2_with fail
 refine zg 16 [] none [] ?_
 simp only[zt]
 repeat ((first|refine zd ?_|refine zk ?_);simp only[zp])
 intro W4 hE hF
 have HB4:=ae (aY HB3.o hE.below)
 clear hE hF c3 f3 GX n30 n31 n32
 obtain⟨c4,f4,l4⟩:=af ((HB4.o.block _ lw).trans HO.o.blk)
 obtain⟨Np,kC⟩:=HW.o W4 (HB4.o.mono gK)
 have n40:=kC 0 (by simp)
 simp only[au] at n40
 have n41:=kC 1 (by simp)
 simp only[au] at n41
 have n42:=kC 2 (by simp)
 simp only[au] at n42
 clear kC
 have q0:=jS.o
 have hxl:x<s.heap.bW.length:=by have:=HR5.o;omega
 have hown:=(HO.o.below HB4.o).rows.own 2 _ rfl
 obtain⟨g,rfl,hcg,hfg,hgl⟩:=ig hown (by show 0<s.heap.bW.length;omega)
 obtain⟨g0,g1⟩:=JM hcg hxl
 clear hcg q0 hown
 go_wp2_with fail
 go_end0
 have q0:=jS.o
 have q1:=rD.o
 simp only[iL,bZ,cu,dD]
 (repeat (first|rw[aA (by omega)]|rw[ai (by omega)]))
 simp only[Int.toNat_natCast]
 have AA:=HO.o.below HB4.o
 have hgN:N<=g:=((AA.rows.own 2 _ rfl).lt g rfl).1
 have hS:=(lX (lX (AA.rows.own 2 _ rfl) (x*2+0) (iv y)) (x*2+1) (iv z))
 simp only[Oh _ _ hxl] at hS
 exact⟨(((HB4.o.mono gK).setCell hgN _).setCell hgN _),.inl ⟨rfl,rfl,_,es,AA.over (i:=2) rfl (g:=g) rfl ((gG).trans gG) (aH (s.heap.bW.set x (y,z))) hS (by simp[iR,kR,kV,gU,fC]) rfl HO.o.es⟩⟩
theorem sQ (N:Nat) (w:World) (wb:Nat) (s:jF) (V:SV) (es:List KE) (ns:Value) (x:Nat) (y:Int) (z:Int) (hO:jV N w wb s V es) (hn:rW N w ns [(x:Int),y,z]) (hx:0<=y/\y<=9999):Calls Tryz.prog 192 #[.pointer (some ⟨wb,0,none⟩),ns] w (rC N wb (iL s .strong [(x:Int),y,z]) w):=by
 obtain⟨vt,vn,vw,vu,vr,vh,vk,vs⟩:=V
 obtain⟨o,cc,rfl⟩: ∃o c,vh= .slice o s.dn.heaps.length c:=aU (n:=s.dn.heaps.length) (hO.rows.own 5 _ rfl)
 have HO:=ae hO
 have gK:=eX hO
 obtain⟨b,c,rfl,hbN,hcs⟩:=hn
 have lb:b<w.heap.size:=by omega
 have lw:=hO.rows.lt
 have wI:=hO.rows.base
 have HW:Hid (∀W,Below N w W->b<W.heap.size/\ ∀(j:Nat) (h:j<[(x:Int),y,z].length),W.cell? ⟨b,j,none⟩=some (iv [(x:Int),y,z][j])):=ae (fun W hB=>⟨by have:=hB.size;omega,fun j h=>(jh (hB.block b hbN)).trans (hcs j h)⟩)
 obtain⟨c0,f0,l0⟩:=af hO.blk
 have oZ:=hcs 0 (by simp)
 simp only[au] at oZ
 have n01:=hcs 1 (by simp)
 simp only[au] at n01
 have n02:=hcs 2 (by simp)
 simp only[au] at n02
 have HB0:Hid (Below w.heap.size w w):=ae (aG _ _)
 clear hO hcs
 go_enter Tryz.func192,Tryz.ntmps192
 go_wp2_with fail
 refine zg 10 [] none [] ?_
 simp only[zt]
 repeat ((first|refine zd ?_|refine zk ?_);simp only[zp])
 intro W1 hE hF
 have HB1:=ae (aY HB0.o hE.below)
 clear hE hF c0 f0 oZ n01 n02
 obtain⟨c1,f1,l1⟩:=af ((HB1.o.block _ lw).trans HO.o.blk)
 obtain⟨wU,hcs1⟩:=HW.o W1 (HB1.o.mono gK)
 have n10:=hcs1 0 (by simp)
 simp only[au] at n10
 have n11:=hcs1 1 (by simp)
 simp only[au] at n11
 have n12:=hcs1 2 (by simp)
 simp only[au] at n12
 clear hcs1
 go_wp2_with fail
 refine(jk _ _ _).mono ?_
 rintro e W2 ⟨hb,⟨hc,rfl⟩|⟨hc,rfl⟩⟩
 rotate_left
 ·simp at hc
  simp only[iL,bZ,cu,dD]
  (repeat (first|rw[aA (by omega)]|rw[ai (by omega)]))
  exact⟨rfl,(aY HB1.o hb).mono gK,.inr ⟨by simp,rfl⟩⟩
 simp at hc
 have HB2:=ae (aY HB1.o hb)
 have HS2:=ae hb
 have jS:=ae hc
 clear hb hc c1 f1 wU n10 n11 n12
 obtain⟨c2,f2,l2⟩:=af ((HB2.o.block _ lw).trans HO.o.blk)
 obtain⟨xR,hcs2⟩:=HW.o W2 (HB2.o.mono gK)
 have n20:=hcs2 0 (by simp)
 simp only[au] at n20
 have n21:=hcs2 1 (by simp)
 simp only[au] at n21
 have n22:=hcs2 2 (by simp)
 simp only[au] at n22
 clear hcs2
 go_wp2_with fail
 refine RX.gB (fun ps W'=> ¬(y<=z/\z<=100/\z<=y+9)/\ps=kG 2/\Below N w W') 16 [] none [(15,⟨fun _ v=>v=rv (y,z),fun _ _ _=>(y<=z/\z<=100/\z<=y+9)⟩)] (by rintro ps a1 Wx hdf ⟨h1,rfl,h3⟩;refine⟨hdf,wK (c:=2) h3 ?_ (by decide)⟩;have q0:=jS.o;simp only[iL,bZ,cu,dD];(repeat (first|rw[aA (by omega)]|rw[ai (by omega)]))) (by as_aux_lemma=>kernel_rfl) (by as_aux_lemma=>kernel_rfl) ?_
 simp only[zt]
 repeat (refine RX.zd ?_;simp only[zp])
 refine RX.bM _ (by rfl) (by rfl) ⟨_,rfl⟩ (fun Wq hE2 hF2=>?_) (fun v Wa Wb ho hE=>ho) (fun v hv=>?_)
 ·have hE':Ext [] W2 Wq:=hE2
  refine RX.dB 260 #[iv y,iv z,iv 9] (by go_simp;try rfl) ?_
  refine(wJ y z 9 Wq (by omega)).mono ?_
  rintro e w' ⟨hb,⟨hc,rfl⟩|⟨hc,rfl⟩⟩
  ·exact .inl ⟨_,rfl,rfl,hc,Ext.az hb⟩
  ·exact .inr ⟨_,rfl,hc,rfl,(aY HB2.o (aY hE'.below hb)).mono gK⟩
 obtain rfl:v=rv (y,z):=hv
 simp only[zp]
 intro W3 hE hF
 have hc:y<=z/\z<=100/\z<=y+9:=hF _ (bK _)
 have HB3:=ae (aY HB2.o (show Ext [] W2 W3 from hE).below)
 have rD:=ae hc
 clear hE hF hc c2 f2 xR n20 n21 n22
 obtain⟨c3,f3,l3⟩:=af ((HB3.o.block _ lw).trans HO.o.blk)
 obtain⟨GX,hcs3⟩:=HW.o W3 (HB3.o.mono gK)
 have n30:=hcs3 0 (by simp)
 simp only[au] at n30
 have n31:=hcs3 1 (by simp)
 simp only[au] at n31
 have n32:=hcs3 2 (by simp)
 simp only[au] at n32
 clear hcs3
 have q0:=jS.o
 have hxl:x<s.dn.heaps.length:=by omega
 have hown:=(HO.o.below HB3.o).rows.own 5 _ rfl
 obtain⟨g,rfl,hcg,hfg,hgl⟩:=ig hown (by show 0<s.dn.heaps.length;omega)
 obtain⟨g0,g1⟩:=JM hcg hxl
 clear hcg q0 hown
 go_wp2_with fail
 go_end0
 have q0:=jS.o
 have q1:=rD.o
 simp only[iL,bZ,cu,dD]
 (repeat (first|rw[aA (by omega)]|rw[ai (by omega)]))
 simp only[Int.toNat_natCast]
 have AA:=HO.o.below HB3.o
 have hgN:N<=g:=((AA.rows.own 5 _ rfl).lt g rfl).1
 have hS:=(lX (lX (AA.rows.own 5 _ rfl) (x*2+0) (iv y)) (x*2+1) (iv z))
 simp only[Oh _ _ hxl] at hS
 exact⟨(((HB3.o.mono gK).setCell hgN _).setCell hgN _),.inl ⟨rfl,rfl,_,es,AA.over (i:=5) rfl (g:=g) rfl ((gG).trans gG) (aH (s.dn.heaps.set x (y,z))) hS (by simp[iR,kR,kV,gU,fC]) rfl HO.o.es⟩⟩
theorem Y0 (N:Nat) (w:World) (wb:Nat) (s:jF) (V:SV) (es:List KE) (ns:Value) (x:Nat) (y:Int) (z:Int) (hO:jV N w wb s V es) (hn:rW N w ns [(x:Int),y,z]):Calls Tryz.prog 179 #[.pointer (some ⟨wb,0,none⟩),ns] w (rC N wb (iL s .Be [(x:Int),y,z]) w):=by
 obtain⟨vt,vn,vw,vu,vr,vh,vk,vs⟩:=V
 obtain⟨o,cc,rfl⟩: ∃o c,vt= .slice o s.led.field.ax.length c:=aU (n:=s.led.field.ax.length) (hO.rows.own 0 _ rfl)
 have HO:=ae hO
 have gK:=eX hO
 obtain⟨b,c,rfl,hbN,hcs⟩:=hn
 have lb:b<w.heap.size:=by omega
 have lw:=hO.rows.lt
 have wI:=hO.rows.base
 have HW:Hid (∀W,Below N w W->b<W.heap.size/\ ∀(j:Nat) (h:j<[(x:Int),y,z].length),W.cell? ⟨b,j,none⟩=some (iv [(x:Int),y,z][j])):=ae (fun W hB=>⟨by have:=hB.size;omega,fun j h=>(jh (hB.block b hbN)).trans (hcs j h)⟩)
 obtain⟨c0,f0,l0⟩:=af hO.blk
 have oZ:=hcs 0 (by simp)
 simp only[au] at oZ
 have n01:=hcs 1 (by simp)
 simp only[au] at n01
 have n02:=hcs 2 (by simp)
 simp only[au] at n02
 have HB0:Hid (Below w.heap.size w w):=ae (aG _ _)
 clear hO hcs
 go_enter Tryz.func179,Tryz.ntmps179
 go_wp2_with fail
 refine zg 8 [] none [] ?_
 simp only[zt]
 repeat ((first|refine zd ?_|refine zk ?_);simp only[zp])
 intro W1 hE hF
 have HB1:=ae (aY HB0.o hE.below)
 clear hE hF c0 f0 oZ n01 n02
 obtain⟨c1,f1,l1⟩:=af ((HB1.o.block _ lw).trans HO.o.blk)
 obtain⟨wU,hcs1⟩:=HW.o W1 (HB1.o.mono gK)
 have n10:=hcs1 0 (by simp)
 simp only[au] at n10
 have n11:=hcs1 1 (by simp)
 simp only[au] at n11
 have n12:=hcs1 2 (by simp)
 simp only[au] at n12
 clear hcs1
 go_wp2_with fail
 refine(jk _ _ _).mono ?_
 rintro e W2 ⟨hb,⟨hc,rfl⟩|⟨hc,rfl⟩⟩
 rotate_left
 ·simp at hc
  simp only[iL,bZ,cu,dD]
  (repeat (first|rw[aA (by omega)]|rw[ai (by omega)]))
  exact⟨rfl,(aY HB1.o hb).mono gK,.inr ⟨by simp,rfl⟩⟩
 simp at hc
 have HB2:=ae (aY HB1.o hb)
 have HS2:=ae hb
 have jS:=ae hc
 clear hb hc c1 f1 wU n10 n11 n12
 obtain⟨c2,f2,l2⟩:=af ((HB2.o.block _ lw).trans HO.o.blk)
 obtain⟨xR,hcs2⟩:=HW.o W2 (HB2.o.mono gK)
 have n20:=hcs2 0 (by simp)
 simp only[au] at n20
 have n21:=hcs2 1 (by simp)
 simp only[au] at n21
 have n22:=hcs2 2 (by simp)
 simp only[au] at n22
 clear hcs2
 go_wp2_with fail
 refine RX.gB (fun ps W'=> ¬(y<=z/\z<=s.led.field.rows)/\ps=kG 2/\Below N w W') 15 [] none [(14,⟨fun _ v=>v=rv (y,z),fun _ _ _=>(y<=z/\z<=s.led.field.rows)⟩)] (by rintro ps a1 Wx hdf ⟨h1,rfl,h3⟩;refine⟨hdf,wK (c:=2) h3 ?_ (by decide)⟩;have q0:=jS.o;simp only[iL,bZ,cu,dD];(repeat (first|rw[aA (by omega)]|rw[ai (by omega)]))) (by as_aux_lemma=>kernel_rfl) (by as_aux_lemma=>kernel_rfl) ?_
 simp only[zt]
 repeat (refine RX.zd ?_;simp only[zp])
 refine RX.bM _ (by rfl) (by rfl) ⟨_,rfl⟩ (fun Wq hE2 hF2=>?_) (fun v Wa Wb ho hE=>ho) (fun v hv=>?_)
 ·have hE':Ext [] W2 Wq:=hE2
  refine RX.dB 250 #[.pointer (some ⟨wb,0,none⟩),iv y,iv z] (by go_simp;try rfl) ?_
  refine(uU y z wb s _ Wq ((hE'.block _ (fZ lw HB2.o.size) (by simp)).trans ((HB2.o.block _ lw).trans HO.o.blk))).mono ?_
  rintro e w' ⟨hb,⟨hc,rfl⟩|⟨hc,rfl⟩⟩
  ·exact .inl ⟨_,rfl,rfl,hc,Ext.az hb⟩
  ·exact .inr ⟨_,rfl,hc,rfl,(aY HB2.o (aY hE'.below hb)).mono gK⟩
 obtain rfl:v=rv (y,z):=hv
 simp only[zp]
 intro W3 hE hF
 have hc:y<=z/\z<=s.led.field.rows:=hF _ (bK _)
 have HB3:=ae (aY HB2.o (show Ext [] W2 W3 from hE).below)
 have rD:=ae hc
 clear hE hF hc c2 f2 xR n20 n21 n22
 obtain⟨c3,f3,l3⟩:=af ((HB3.o.block _ lw).trans HO.o.blk)
 obtain⟨GX,hcs3⟩:=HW.o W3 (HB3.o.mono gK)
 have n30:=hcs3 0 (by simp)
 simp only[au] at n30
 have n31:=hcs3 1 (by simp)
 simp only[au] at n31
 have n32:=hcs3 2 (by simp)
 simp only[au] at n32
 clear hcs3
 have q0:=jS.o
 have hxl:x<s.led.field.ax.length:=by omega
 have hown:=(HO.o.below HB3.o).rows.own 0 _ rfl
 obtain⟨g,rfl,hcg,hfg,hgl⟩:=ig hown (by show 0<s.led.field.ax.length;omega)
 obtain⟨g0,g1⟩:=Y7 hcg hxl
 clear hcg q0 hown
 go_wp2_with fail
 go_end0
 have q0:=jS.o
 have q1:=rD.o
 simp only[iL,bZ,cu,dD]
 (repeat (first|rw[aA (by omega)]|rw[ai (by omega)]))
 simp only[Int.toNat_natCast,iF,dP hxl,Option.getD_some]
 have AA:=HO.o.below HB3.o
 have hgN:N<=g:=((AA.rows.own 0 _ rfl).lt g rfl).1
 have hS:=(lX (lX (AA.rows.own 0 _ rfl) (x*5+3) (iv y)) (x*5+4) (iv z))
 simp only[abN _ _ hxl] at hS
 exact⟨(((HB3.o.mono gK).setCell hgN _).setCell hgN _),.inl ⟨rfl,rfl,_,es,AA.over (i:=0) rfl (g:=g) rfl ((gG).trans gG) (dS (s.led.field.ax.set x (s.led.field.ax[x].1,s.led.field.ax[x].2.1,s.led.field.ax[x].2.2.1,(y,z)))) hS (by simp[iR,kR,kV,gU,fC]) rfl HO.o.es⟩⟩
theorem Xv (x:Int) (w:World):Calls Tryz.prog 261 #[iv x] w (fun e w'=>e= .returned (.bool (decide (0<x)))/\w'=w):=by
 go_enter Tryz.func261,Tryz.ntmps261
 go_wp2
 go_returns
 exact⟨by simp,rfl⟩
theorem Ul (l:List Int) (v:Value) (w:World) (hv:aP w v l):Calls Tryz.prog 138 #[v,.func (.func 261) #[] #[]] w (PV (.bool (l.any fun x=>decide (0<x))) w):=by
 refine(PN l v 261 #[] #[] (fun k=>decide (0<l.getD k 0)) (fun _ W=>Below w.heap.size w W) w (enters_of Tryz.func261 (by kernel_rfl) rfl) (fun k W h=>hv.below h (ak _)) (fun k hk W _ h=>?_) (aG _ _)).mono ?_
 ·refine(Xv l[k] W).mono ?_
  rintro e W' ⟨rfl,rfl⟩
  exact⟨by simp[hk],h⟩
 ·rintro e W' ⟨k,hk,hno,⟨hlt,hp,rfl,hI⟩|⟨hkl,rfl,hI⟩⟩
  ·refine⟨?_,hI⟩
   have:(l.any fun x=>decide (0<x))=true:=List.any_eq_true.2 ⟨l[k],cZ _,by simpa [hlt] using hp⟩
   rw[this]
  ·refine⟨?_,hI⟩
   have:(l.any fun x=>decide (0<x))=false:=by
    rw[List.any_eq_false]
    intro x hx
    obtain⟨j,hj,rfl⟩:=mJ hx
    have:=hno j (by omega)
    simpa [hj] using this
   rw[this]
theorem zi (s:jF) (V:SV) (es:List KE) {x:Nat} {e:KE} (h:es[x]? =some e):(iR s V es)[8+x]? =some (zJ e):=by
 unfold iR
 rw[nK (by simp)]
 simp[h]
theorem I8 (s s':jF) (V:SV) (es:List KE) {x:Nat} {e:KE} (h:x<es.length) (hk:(e.1=(es[x]).1)) (hs:iR s' V es=iR s V es):iR s' V (es.set x e)=(iR s V es).set (8+x) (zJ e):=by
 have h1:iR s' V (es.set x e)=(iR s' V es).set (8+x) (zJ e):=by
  unfold iR
  have hkc:fD (es.set x e)=fD es:=by
   unfold fD
   rw[List.map_set,hk]
   apply List.ext_getElem
   ·simp
   ·intro j h1 h2
    rw[List.getElem_set]
    split
    ·rename_i hj;subst hj;simp
    ·rfl
  rw[hkc,List.map_set,qA,qE _ _ (by simp)]
  simp
 rw[h1,hs]
theorem aaH (N:Nat) (w:World) (wb:Nat) (s:jF) (V:SV) (es:List KE) (ns:Value) (x:Nat) (y:Nat) (z:Int) (hO:jV N w wb s V es) (hn:rW N w ns [(x:Int),(y:Int),z]) (hG:gu s):Calls Tryz.prog 194 #[.pointer (some ⟨wb,0,none⟩),ns] w (rC N wb (iL s .fill [(x:Int),(y:Int),z]) w):=by
 obtain⟨vt,vn,vw,vu,vr,vh,vk,vs⟩:=V
 obtain⟨ok,ck,rfl⟩: ∃o c,vk= .slice o es.length c:=aU (n:=es.length) (hO.rows.own 6 _ rfl)
 obtain⟨oh,ch,rfl⟩: ∃o c,vh= .slice o s.dn.heaps.length c:=aU (n:=s.dn.heaps.length) (hO.rows.own 5 _ rfl)
 have HO:=ae hO
 have gK:=eX hO
 obtain⟨b,c,rfl,hbN,hcs⟩:=hn
 have lb:b<w.heap.size:=by omega
 have lw:=hO.rows.lt
 have wI:=hO.rows.base
 have HW:Hid (∀W,Below N w W->b<W.heap.size/\ ∀(j:Nat) (h:j<[(x:Int),(y:Int),z].length),W.cell? ⟨b,j,none⟩=some (iv [(x:Int),(y:Int),z][j])):=ae (fun W hB=>⟨by have:=hB.size;omega,fun j h=>(jh (hB.block b hbN)).trans (hcs j h)⟩)
 obtain⟨c0,f0,l0⟩:=af hO.blk
 have oZ:=hcs 0 (by simp)
 simp only[au] at oZ
 have n01:=hcs 1 (by simp)
 simp only[au] at n01
 have n02:=hcs 2 (by simp)
 simp only[au] at n02
 have HB0:Hid (Below w.heap.size w w):=ae (aG _ _)
 have hes:es.length=s.dn.aT.length:=by rw[<-hO.es];simp
 have HCK:=ae (show ∀(j:Nat) (e:KE),es[j]? =some e->s.dn.aT[j]? =some e.2/\e.2.length=s.dn.heaps.length from fun j e h=>by have h1:s.dn.aT[j]? =some e.2:=(by rw[<-hO.es];simp[h]);exact⟨h1,(hG.qh _ (nJ h1)).1⟩)
 have jS:=ae hes
 clear hes
 clear hO hcs hG
 go_enter Tryz.func194,Tryz.ntmps194
 go_wp2_with fail
 refine zg 8 [] none [] ?_
 simp only[zt]
 repeat ((first|refine zd ?_|refine zk ?_);simp only[zp])
 intro W1 hE hF
 have HB1:=ae (aY HB0.o hE.below)
 clear hE hF c0 f0 oZ n01 n02
 obtain⟨c1,f1,l1⟩:=af ((HB1.o.block _ lw).trans HO.o.blk)
 obtain⟨wU,hcs1⟩:=HW.o W1 (HB1.o.mono gK)
 have n10:=hcs1 0 (by simp)
 simp only[au] at n10
 have n11:=hcs1 1 (by simp)
 simp only[au] at n11
 have n12:=hcs1 2 (by simp)
 simp only[au] at n12
 clear hcs1
 go_wp2_with fail
 refine(jk _ _ _).mono ?_
 rintro e W2 ⟨hb,⟨hc,rfl⟩|⟨hc,rfl⟩⟩
 rotate_left
 ·simp at hc
  have q0:=jS.o
  simp only[iL,bZ,cu,dD]
  (repeat (first|rw[aA (by omega)]|rw[ai (by omega)]))
  exact⟨rfl,(aY HB1.o hb).mono gK,.inr ⟨by simp,rfl⟩⟩
 simp at hc
 have HB2:=ae (aY HB1.o hb)
 have HS2:=ae hb
 have rD:=ae hc
 clear hb hc c1 f1 wU n10 n11 n12
 obtain⟨c2,f2,l2⟩:=af ((HB2.o.block _ lw).trans HO.o.blk)
 obtain⟨xR,hcs2⟩:=HW.o W2 (HB2.o.mono gK)
 have n20:=hcs2 0 (by simp)
 simp only[au] at n20
 have n21:=hcs2 1 (by simp)
 simp only[au] at n21
 have n22:=hcs2 2 (by simp)
 simp only[au] at n22
 clear hcs2
 go_wp2_with fail
 refine zg 8 [] none [] ?_
 simp only[zt]
 repeat ((first|refine zd ?_|refine zk ?_);simp only[zp])
 intro W3 hE hF
 have HB3:=ae (aY HB2.o hE.below)
 clear hE hF c2 f2 xR n20 n21 n22
 obtain⟨c3,f3,l3⟩:=af ((HB3.o.block _ lw).trans HO.o.blk)
 obtain⟨GX,hcs3⟩:=HW.o W3 (HB3.o.mono gK)
 have n30:=hcs3 0 (by simp)
 simp only[au] at n30
 have n31:=hcs3 1 (by simp)
 simp only[au] at n31
 have n32:=hcs3 2 (by simp)
 simp only[au] at n32
 clear hcs3
 go_wp2_with fail
 refine(jk _ _ _).mono ?_
 rintro e W4 ⟨hb,⟨hc,rfl⟩|⟨hc,rfl⟩⟩
 rotate_left
 ·simp at hc
  have q0:=jS.o
  have q1:=rD.o
  simp only[iL,bZ,cu,dD]
  (repeat (first|rw[aA (by omega)]|rw[ai (by omega)]))
  exact⟨rfl,(aY HB3.o hb).mono gK,.inr ⟨by simp,rfl⟩⟩
 simp at hc
 have HB4:=ae (aY HB3.o hb)
 have VB:=ae hb
 have xI:=ae hc
 clear hb hc c3 f3 GX n30 n31 n32
 obtain⟨c4,f4,l4⟩:=af ((HB4.o.block _ lw).trans HO.o.blk)
 obtain⟨Np,kC⟩:=HW.o W4 (HB4.o.mono gK)
 have n40:=kC 0 (by simp)
 simp only[au] at n40
 have n41:=kC 1 (by simp)
 simp only[au] at n41
 have n42:=kC 2 (by simp)
 simp only[au] at n42
 clear kC
 go_wp2_with fail
 refine(dZ 2 [decide (30<z)] W4 (by simp) _ (by simp[dL]) _ _ rfl).mono ?_
 rintro e W5 ⟨hb,⟨hc,rfl⟩|⟨hc,rfl⟩⟩
 rotate_left
 ·simp at hc
  have q0:=jS.o
  have q1:=rD.o
  have q2:=xI.o
  simp only[iL,bZ,cu,dD]
  (repeat (first|rw[aA (by omega)]|rw[ai (by omega)]))
  exact⟨rfl,(aY HB4.o hb).mono gK,.inr ⟨by simp,rfl⟩⟩
 simp at hc
 have oK:=ae (aY HB4.o hb)
 have HS5:=ae hb
 have IU:=ae hc
 clear hb hc c4 f4 Np n40 n41 n42
 obtain⟨c5,f5,l5⟩:=af ((oK.o.block _ lw).trans HO.o.blk)
 obtain⟨lb5,uI⟩:=HW.o W5 (oK.o.mono gK)
 have n50:=uI 0 (by simp)
 simp only[au] at n50
 have n51:=uI 1 (by simp)
 simp only[au] at n51
 have n52:=uI 2 (by simp)
 simp only[au] at n52
 clear uI
 go_wp2_with fail
 have q0:=jS.o
 have q1:=rD.o
 have q2:=xI.o
 have q3:=IU.o
 have hxl:x<es.length:=by omega
 have hyl:y<s.dn.heaps.length:=by omega
 clear q0 q1 q2 q3
 obtain⟨ev,el,hel⟩: ∃ev el,es[x]? =some (ev,el):=⟨_,_,dP hxl⟩
 obtain⟨hcx,hlx⟩:s.dn.aT[x]? =some el/\el.length=s.dn.heaps.length:=HCK.o x _ hel
 have hrow: ∀s' V',(iR s' V' es)[8+x]? =some (zJ (ev,el)):=fun s' V'=>zi s' V' es hel
 obtain⟨oe,ce,rfl⟩: ∃o c,ev= .slice o el.length c:=aU (n:=el.length) ((HO.o.below oK.o).rows.own _ _ (hrow _ _))
 obtain⟨gk,rfl,hgk,hfk,hkl⟩:=ig ((HO.o.below oK.o).rows.own 6 _ rfl) (by show 0<es.length;omega)
 have hgx:(fD es)[x]? =some (.slice oe el.length ce):=by simp[fD,hel]
 obtain⟨hg',eg'⟩:=ji.1 hgx
 have g6:=(hgk x hg').trans (by rw[eg'])
 clear hgx hg' eg'
 have QC:=ae (ag hel (ag hcx (ag hlx hrow)))
 clear hgk hel hcx hlx hrow
 obtain⟨gk0,ahC⟩: ∃gk0,gk0=gk:=⟨_,rfl⟩
 have HGK:=ae ahC
 clear ahC
 refine zg 15 [] none [] ?_
 simp only[zt]
 repeat ((first|refine zd ?_|refine zk ?_);simp only[zp])
 intro W6 hE hF
 have qf:=ae (aY oK.o hE.below)
 clear hE hF c5 f5 lb5 n50 n51 n52 g6
 obtain⟨c6,f6,l6⟩:=af ((qf.o.block _ lw).trans HO.o.blk)
 obtain⟨lb6,uH⟩:=HW.o W6 (qf.o.mono gK)
 have n60:=uH 0 (by simp)
 simp only[au] at n60
 have n61:=uH 1 (by simp)
 simp only[au] at n61
 have n62:=uH 2 (by simp)
 simp only[au] at n62
 clear uH
 obtain⟨g,rfl,hcg,hfg,hgl⟩:=ig ((HO.o.below qf.o).rows.own _ _ (QC.o.2.2.2 _ _)) (by show 0<el.length;have:=QC.o.2.2.1;omega)
 have aeo:y<el.length:=by have:=QC.o.2.2.1;omega
 have g0:=hcg y (by simpa [zJ,ah] using aeo)
 simp only[zJ,ah,List.getElem_map] at g0
 have HY:=ae (ag hyl (ag hxl aeo))
 clear hcg hyl hxl
 go_wp2_with fail
 refine dF fun W7 qm=>?_
 have AA:=HO.o.below qf.o
 have hgN:N<=g:=((AA.rows.own _ _ (QC.o.2.2.2 _ _)).lt g rfl).1
 have hS:=lX (AA.rows.own _ _ (QC.o.2.2.2 _ _)) y (iv z)
 have hO2:jV N W7 wb (fC s {s.dn with aT:=s.dn.aT.set x (el.set y z)}) ⟨vt,vn,vw,vu,vr,.slice oh s.dn.heaps.length ch,.slice (some ⟨gk,0,none⟩) es.length ck,vs⟩ (es.set x (.slice (some ⟨g,0,none⟩) el.length ce,el.set y z)):=by
  rw[qm]
  refine AA.over (i:=8+x) (QC.o.2.2.2 _ _) (g:=g) rfl gG (ah (el.set y z)) ?_ ?_ rfl ?_
  ·simpa [zJ,ah,List.map_set] using hS
  ·refine(I8 s _ _ es HY.o.2.1 (by have:=(ji.1 QC.o.1).2;rw[this]) rfl).trans ?_
   simp[zJ]
  ·show _=s.dn.aT.set x (el.set y z)
   rw[List.map_set,HO.o.es]
 have Ba:=ae (show Below N w W7 from by rw[qm];exact(qf.o.mono gK).setCell hgN _)
 have A8:=ae hO2
 clear qm AA hgN hS hO2 aeo hfg hgl g0 c6 f6 lb6 n60 n61 n62
 obtain⟨c7,f7,l7⟩:=af A8.o.blk
 obtain⟨lb7,uG⟩:=HW.o W7 Ba.o
 have n70:=uG 0 (by simp)
 simp only[au] at n70
 have n71:=uG 1 (by simp)
 simp only[au] at n71
 have n72:=uG 2 (by simp)
 simp only[au] at n72
 obtain⟨gk2,ak4,hgk,ak7,hkl2⟩:=ig (A8.o.rows.own 6 _ rfl) (by show 0<(es.set x _).length;rw[qA];have:=HY.o.2.1;omega)
 cases ak4
 have hgx:(fD (es.set x (.slice (some ⟨g,0,none⟩) el.length ce,el.set y z)))[x]? =some (.slice (some ⟨g,0,none⟩) el.length ce):=by simp[fD,HY.o.2.1]
 obtain⟨hg',eg'⟩:=ji.1 hgx
 have g6:=(hgk x hg').trans (by rw[eg'])
 have hxl:=HY.o.2.1
 clear hgx hg' eg' hgk uG
 refine zg 9 [] none [] ?_
 simp only[zt]
 repeat ((first|refine zd ?_|refine zk ?_);simp only[zp])
 intro W8 hE hF
 have hOw:=(A8.o.below (Ext.below hE))
 have hIx:aP W8 (.slice (some ⟨g,0,none⟩) el.length ce) (el.set y z):=by
  have h:=hOw.rows.own (8+x) _ (zi _ _ _ (by rw[List.getElem?_set_self HY.o.2.1]))
  have h2:=aN.dH h
  exact h2
 have qc:=ae (Ba.o.trans ((Ext.below hE).mono (eX A8.o)))
 have HOw:=ae hOw
 have HAP:=ae (Ul _ _ _ hIx)
 clear hE hF hOw hIx c7 f7 lb7 g6 ak7 n70 n71 n72
 go_wp2_with fail
 refine HAP.o.mono ?_
 rintro e W9 ⟨rfl,hb⟩
 have HS:=ae hb
 obtain⟨q,hq⟩: ∃q,((el.set y z).any fun x=>decide (0<x))=q:=⟨_,rfl⟩
 rw[hq]
 have VC:=ae hq
 clear hb hq HAP
 go_wp2_with fail
 refine(dZ 8 [!q] W9 (by simp) _ (by simp[dL]) _ _ rfl).mono ?_
 rintro e Un ⟨hb,⟨hc,rfl⟩|⟨hc,rfl⟩⟩
 ·obtain rfl:q=true:=by cases q <;>simp_all
  go_wp2_with fail
  go_end0
  have q0:=jS.o
  have q1:=rD.o
  have q2:=xI.o
  have q3:=IU.o
  simp only[iL,dD,Int.toNat_natCast];simp only[iF,QC.o.2.1,Option.getD_some,VC.o]
  rw[ai (by omega),ai (by omega),ai (by omega),ai (by simp)]
  exact⟨qc.o.trans ((aY HS.o hb).mono (eX HOw.o)),.inl ⟨rfl,rfl,_,_,HOw.o.below (aY HS.o hb)⟩⟩
 ·obtain rfl:q=false:=by cases q <;>simp_all
  have q0:=jS.o
  have q1:=rD.o
  have q2:=xI.o
  have q3:=IU.o
  simp only[iL,dD,Int.toNat_natCast];simp only[iF,QC.o.2.1,Option.getD_some,VC.o]
  rw[ai (by omega),ai (by omega),ai (by omega),aA (by simp)]
  exact⟨rfl,qc.o.trans ((aY HS.o hb).mono (eX HOw.o)),.inr ⟨by simp,rfl⟩⟩
theorem aaY (N:Nat) (w:World) (wb:Nat) (s:jF) (V:SV) (es:List KE) (ns:Value) (x:Nat) (y:Int) (hO:jV N w wb s V es) (hn:rW N w ns [(x:Int),y]) (hG:gu s):Calls Tryz.prog 193 #[.pointer (some ⟨wb,0,none⟩),ns] w (rC N wb (iL s .qh [(x:Int),y]) w):=by
 obtain⟨vt,vn,vw,vu,vr,vh,vk,vs⟩:=V
 obtain⟨oh,ch,rfl⟩: ∃o c,vh= .slice o s.dn.heaps.length c:=aU (n:=s.dn.heaps.length) (hO.rows.own 5 _ rfl)
 obtain⟨ok,ck,rfl⟩: ∃o c,vk= .slice o es.length c:=aU (n:=es.length) (hO.rows.own 6 _ rfl)
 have HO:=ae hO
 have gK:=eX hO
 obtain⟨b,c,rfl,hbN,hcs⟩:=hn
 have lb:b<w.heap.size:=by omega
 have lw:=hO.rows.lt
 have wI:=hO.rows.base
 have HW:Hid (∀W,Below N w W->b<W.heap.size/\ ∀(j:Nat) (h:j<[(x:Int),y].length),W.cell? ⟨b,j,none⟩=some (iv [(x:Int),y][j])):=ae (fun W hB=>⟨by have:=hB.size;omega,fun j h=>(jh (hB.block b hbN)).trans (hcs j h)⟩)
 obtain⟨c0,f0,l0⟩:=af hO.blk
 have oZ:=hcs 0 (by simp)
 simp only[au] at oZ
 have n01:=hcs 1 (by simp)
 simp only[au] at n01
 have HB0:Hid (Below w.heap.size w w):=ae (aG _ _)
 have hes:es.length=s.dn.aT.length:=by rw[<-hO.es];simp
 have jS:=ae hes
 clear hes
 have Xm:=hG.Uh
 have ald:=hG.aT
 have hmk:=vY s.dn.heaps.length (by omega)
 clear hO hcs hG
 go_enter Tryz.func193,Tryz.ntmps193
 go_wp2_with fail
 refine zg 8 [] none [] ?_
 simp only[zt]
 repeat ((first|refine zd ?_|refine zk ?_);simp only[zp])
 intro W1 hE hF
 have HB1:=ae (aY HB0.o hE.below)
 have Nc:=ae (Ext.below hE)
 clear hE hF c0 f0 oZ n01
 obtain⟨c1,f1,l1⟩:=af ((HB1.o.block _ lw).trans HO.o.blk)
 obtain⟨wU,hcs1⟩:=HW.o W1 (HB1.o.mono gK)
 have n10:=hcs1 0 (by simp)
 simp only[au] at n10
 have n11:=hcs1 1 (by simp)
 simp only[au] at n11
 clear hcs1
 go_wp2_with fail
 refine(jk _ _ _).mono ?_
 rintro e W2 ⟨hb,⟨hc,rfl⟩|⟨hc,rfl⟩⟩
 rotate_left
 ·simp at hc
  have q0:=jS.o
  simp only[iL,bZ,cu,dD]
  (repeat (first|rw[aA (by omega)]|rw[ai (by omega)]))
  exact⟨rfl,(aY HB1.o hb).mono gK,.inr ⟨by simp,rfl⟩⟩
 simp at hc
 have HB2:=ae (aY HB1.o hb)
 have HS2:=ae hb
 have rD:=ae hc
 clear hb hc c1 f1 wU n10 n11
 obtain⟨c2,f2,l2⟩:=af ((HB2.o.block _ lw).trans HO.o.blk)
 obtain⟨xR,hcs2⟩:=HW.o W2 (HB2.o.mono gK)
 have n20:=hcs2 0 (by simp)
 simp only[au] at n20
 have n21:=hcs2 1 (by simp)
 simp only[au] at n21
 clear hcs2
 go_wp2_with fail
 refine zg 8 [] none [] ?_
 simp only[zt]
 repeat ((first|refine zd ?_|refine zk ?_);simp only[zp])
 intro W3 hE hF
 have HB3:=ae (aY HB2.o hE.below)
 have HS3:=ae (Ext.below hE)
 clear hE hF c2 f2 xR n20 n21
 obtain⟨c3,f3,l3⟩:=af ((HB3.o.block _ lw).trans HO.o.blk)
 obtain⟨GX,hcs3⟩:=HW.o W3 (HB3.o.mono gK)
 have n30:=hcs3 0 (by simp)
 simp only[au] at n30
 have n31:=hcs3 1 (by simp)
 simp only[au] at n31
 clear hcs3
 go_wp2_with fail
 refine(dZ 2 [y==0,decide (30<y)] W3 (by simp) _ (by simp[dL]) _ _ rfl).mono ?_
 rintro e W4 ⟨hb,⟨hc,rfl⟩|⟨hc,rfl⟩⟩
 rotate_left
 ·simp at hc
  have q0:=jS.o
  have q1:=rD.o
  simp only[iL,bZ,cu,dD]
  (repeat (first|rw[aA (by omega)]|rw[ai (by omega)]))
  exact⟨rfl,(aY HB3.o hb).mono gK,.inr ⟨by simp,rfl⟩⟩
 simp at hc
 have HB4:=ae (aY HB3.o hb)
 have VB:=ae hb
 have xI:=ae hc
 clear hb hc c3 f3 GX n30 n31
 obtain⟨c4,f4,l4⟩:=af ((HB4.o.block _ lw).trans HO.o.blk)
 obtain⟨Np,kC⟩:=HW.o W4 (HB4.o.mono gK)
 have n40:=kC 0 (by simp)
 simp only[au] at n40
 have n41:=kC 1 (by simp)
 simp only[au] at n41
 clear kC
 go_wp2_with fail
 refine(qM _ _ _).mono ?_
 rintro e W5 ⟨hb,⟨hc,rfl⟩|⟨hc,rfl⟩⟩
 rotate_left
 ·simp at hc
  have q0:=jS.o
  have q1:=rD.o
  have q2:=xI.o
  simp only[iL,bZ,cu,dD]
  (repeat (first|rw[aA (by omega)]|rw[ai (by omega)]))
  exact⟨rfl,(aY HB4.o hb).mono gK,.inr ⟨by simp,rfl⟩⟩
 simp at hc
 have oK:=ae (aY HB4.o hb)
 have HS5:=ae hb
 have IU:=ae hc
 clear hb hc c4 f4 Np n40 n41
 obtain⟨c5,f5,l5⟩:=af ((oK.o.block _ lw).trans HO.o.blk)
 obtain⟨lb5,uI⟩:=HW.o W5 (oK.o.mono gK)
 have n50:=uI 0 (by simp)
 simp only[au] at n50
 have n51:=uI 1 (by simp)
 simp only[au] at n51
 clear uI
 go_wp2_with fail
 refine dF fun W6 qm=>?_
 obtain⟨b9,wW⟩: ∃b9,b9=W5.heap.size:=⟨_,rfl⟩
 have hHk:W6.heap[b9]? =some (.cells (ah (List.replicate s.dn.heaps.length 0)).toArray 3 (0,0)):=by rw[qm,wW];exact ay _ _
 have qf:=ae (show Below w.heap.size w W6 from by rw[qm];exact aj oK.o _)
 have Vk:Ext [] W5 W6:=by rw[qm];exact Ext.az (aj (aG _ _) _)
 have H9:=ae (ag hHk (ag Vk wW))
 rw[<-wW]
 clear qm hHk Vk wW hmk c5 f5 lb5 n50 n51
 obtain⟨c6,f6,l6⟩:=af ((qf.o.block _ lw).trans HO.o.blk)
 obtain⟨lb6,uH⟩:=HW.o W6 (qf.o.mono gK)
 have n60:=uH 0 (by simp)
 simp only[au] at n60
 have n61:=uH 1 (by simp)
 simp only[au] at n61
 clear uH
 have ZM:b9<W6.heap.size:=(aV.1 H9.o.1).1
 refine zg 7 [] none [] ?_
 simp only[zt]
 repeat ((first|refine zd ?_|refine zk ?_);simp only[zp])
 intro W7 hE hF
 have Ba:=ae (aY qf.o hE.below)
 have HS7:=ae (Ext.below hE)
 clear hE hF c6 f6 lb6 n60 n61
 obtain⟨c7,f7,l7⟩:=af ((Ba.o.block _ lw).trans HO.o.blk)
 obtain⟨lb7,uG⟩:=HW.o W7 (Ba.o.mono gK)
 have n70:=uG 0 (by simp)
 simp only[au] at n70
 have n71:=uG 1 (by simp)
 simp only[au] at n71
 clear uG
 have q0:=jS.o
 have q1:=rD.o
 have hxl:x<s.dn.heaps.length:=by omega
 have hk9:=(HS7.o.block _ ZM).trans H9.o.1
 obtain⟨k9,p9,r9⟩:=af hk9
 have g0:W7.cell? ⟨b9,x,none⟩=some (iv 0):=(k9 x).trans (by simp[ah,hxl])
 have H7:=ae hk9
 clear k9 hk9
 go_upto_region 6 with(fail)
 refine dF fun W8 qm=>?_
 have wW:W5.heap.size<=b9:=by have:=H9.o.2.2;omega
 have hH8:W8.heap[b9]? =some (.cells ((ah (List.replicate s.dn.heaps.length 0)).toArray.setIfInBounds x (iv y)) 3 (0,0)):=by rw[qm];exact aJ H7.o _
 have ae2:Below W5.heap.size W5 W8:=by rw[qm];exact(aY H9.o.2.1.below HS7.o).setCell wW _
 have qc:=ae (aY oK.o ae2)
 have hown:W8.ownsRow N 3 1 (.slice (some ⟨b9,0,none⟩) s.dn.heaps.length s.dn.heaps.length) ((List.replicate s.dn.heaps.length (0:Int)).set x y).length (ah ((List.replicate s.dn.heaps.length 0).set x y)):=by
  rw[qA,List.length_replicate]
  have h9:=oK.o.size
  refine iT (cs:=(ah ((List.replicate s.dn.heaps.length 0).set x y)).toArray) (n:=s.dn.heaps.length) ?_ (by simp[ah]) (by omega) (by simp only[maxLen];omega)
  rw[hH8,uq]
  simp only[ah,List.map_set]
 have hR8:=(HO.o.below oK.o).rows.push (zJ (.slice (some ⟨b9,0,none⟩) s.dn.heaps.length s.dn.heaps.length,(List.replicate s.dn.heaps.length 0).set x y)) (Ms:=[]) (Ext.az ae2) (by simp) hown (.inr ⟨b9,rfl,wW⟩)
 have HR8:=ae hR8
 obtain⟨c8,f8,l8⟩:=af ((qc.o.block _ lw).trans HO.o.blk)
 have HX:=ae hxl
 clear qm wW hH8 ae2 hown hR8 g0 hxl q0 q1 p9 r9 ald Xm c7 f7 lb7 n70 n71
 have hq4:=IU.o
 have h8s:=qc.o.size
 go_wp2_with (at_builtin;go_loud (refine dK rfl _ _ ags rfl N (.slice ok es.length ck) es.length (fD es) rfl (aB (Ms:=[]) (HR8.o.own 6 _ rfl) (Ext.az (aj (aG _ _) _)) (by simp)) (.slice (some ⟨W8.heap.size,0,none⟩) 1 1) 1 [.slice (some ⟨b9,0,none⟩) s.dn.heaps.length s.dn.heaps.length] rfl (aN.dm 1 1 (ay _ _) rfl (by decide)) (by simp[Value.oneCell']) (by omega) (by omega) (by simp;omega) ?_))
 intro v' w3 hown hgr hN
 obtain⟨o3,c3,rfl⟩:=aU hown
 have hbl:=(hgr.block wb (by simp;omega) (fun e=>HR8.o.off 6 _ rfl e.symm)).trans ((heap_alloc_old W8 _ l8).trans ((qc.o.block _ lw).trans HO.o.blk))
 obtain⟨k3,p3,r3⟩:=af hbl
 have tY:Ext (Value.slice ok es.length ck).ownBlock.toList W8 w3:=⟨hgr.os,hgr.tape,hgr.output,by have:=hgr.size;simp at this;omega,fun k hk hm=>(hgr.block k (by simp;omega) (fun e=>hm (dJ.2 e.symm))).trans (heap_alloc_old W8 _ hk)⟩
 have HE3:=ae (ag tY (ag hown (ag hbl hN)))
 clear tY hown hgr hbl hN c8 f8
 go_wp2_with fail
 go_end0
 have q0:=jS.o
 have q1:=rD.o
 have q2:=xI.o
 have q3:=IU.o
 simp only[iL,bZ,cu,dD]
 (repeat (first|rw[aA (by omega)]|rw[ai (by omega)]))
 simp only[Int.toNat_natCast]
 have hm1: ∀k,k∈(Value.slice ok es.length ck).ownBlock.toList->N<=k/\k<W8.heap.size:=fun k hk=>(HR8.o.own 6 _ rfl).lt k (dJ.1 hk)
 have hR:=HR8.o.put (i:=6) rfl ⟨36,1,.slice o3 (es.length+1) c3,es.length+1,fD es++[.slice (some ⟨b9,0,none⟩) s.dn.heaps.length s.dn.heaps.length]⟩ HE3.o.1 (fun m hm=> .inr (.inr (dJ.1 hm))) HE3.o.2.1 (HE3.o.2.2.2.imp id (fun e=> .inr ⟨_,e,by simp⟩))
 have hB3:Below N W8 w3:=⟨HE3.o.1.os,HE3.o.1.tape,HE3.o.1.output,HE3.o.1.size,fun k hk=>HE3.o.1.block k (by omega) (fun hm=>by have:=(hm1 k hm).1;omega)⟩
 refine⟨((qc.o.mono gK).trans hB3).setCell wI _,.inl ⟨rfl,rfl,⟨vt,vn,vw,vu,vr,.slice oh s.dn.heaps.length ch,.slice o3 (es.length+1) c3,vs⟩,es++[(.slice (some ⟨b9,0,none⟩) s.dn.heaps.length s.dn.heaps.length,(List.replicate s.dn.heaps.length 0).set x y)],⟨aJ HE3.o.2.2.1 _,?_,?_⟩⟩⟩
 ·have:=hR.keep (gG (W:=w3) (b:=wb) (off:=20) (v:= .slice o3 (es.length+1) c3)) (fun m hm=> .inl (by simpa using hm))
  simpa [iR,fC,fD] using this
 ·simp[fC,HO.o.es]
theorem Gh (s s':jF) (V:SV) (es:List KE) {x:Nat} {e:KE} (h:x<es.length) (hs:iR s' V es=iR s V es):
 iR s' V (es.set x e)=((iR s V es).set (8+x) (zJ e)).set 6 ⟨36,1,V.cks,es.length,(fD es).set x e.1⟩:=by
 rw[<-hs]
 unfold iR
 rw[qE _ _ (by simp),List.set_append_left _ _ (by simp)]
 simp[fD,List.map_set,qA]
def tq (s:jF) (h:dX) (i:Nat):jF:=fC s {s.dn with heaps:=s.dn.heaps++[h],aT:=(s.dn.aT.take i).map (· ++[0])++s.dn.aT.drop i}
theorem Sl (s:jF) (h:dX):tq s h 0=fC s {s.dn with heaps:=s.dn.heaps++[h]}:=by simp[tq]
theorem Wv (s:jF) (h:dX) (n:Nat) (hn:s.dn.aT.length<=n):tq s h n=fC s {s.dn with heaps:=s.dn.heaps++[h],aT:=s.dn.aT.map (· ++[0])}:=by
 simp[tq,kL hn,List.drop_of_length_le hn]
theorem Wu (s:jF) (h:dX) (i:Nat) (hi:i<s.dn.aT.length):(tq s h i).dn.aT[i]? =some s.dn.aT[i]:=by
 simp only[tq,fC]
 rw[nK (by simp;omega)]
 simp[hi,Nat.min_eq_left (nG hi)]
theorem Sm (s:jF) (h:dX) (i:Nat) (hi:i<s.dn.aT.length):(tq s h i).dn.aT.set i (s.dn.aT[i]++[0])=(tq s h (i+1)).dn.aT:=by
 simp only[tq,fC]
 rw[qE _ _ (by simp;omega)]
 simp only[lN,gY,Nat.min_eq_left (nG hi),Nat.sub_self]
 rw[AX hi,List.set_cons_zero,rf,List.map_append]
 simp[hi]
theorem aat (N:Nat) (w:World) (wb:Nat) (s:jF) (V:SV) (es:List KE) (ns:Value) (x:Int) (y:Int) (hO:jV N w wb s V es) (hn:rW N w ns [x,y]) (hG:gu s) (hx:0<=x/\x<=9999):Calls Tryz.prog 191 #[.pointer (some ⟨wb,0,none⟩),ns] w (rC N wb (iL s .heap [x,y]) w):=by
 obtain⟨vt,vn,vw,vu,vr,vh,vk,vs⟩:=V
 obtain⟨o,cc,rfl⟩: ∃o c,vh= .slice o s.dn.heaps.length c:=aU (n:=s.dn.heaps.length) (hO.rows.own 5 _ rfl)
 obtain⟨ok,ck,rfl⟩: ∃o c,vk= .slice o es.length c:=aU (n:=es.length) (hO.rows.own 6 _ rfl)
 have HO:=ae hO
 have gK:=eX hO
 obtain⟨b,c,rfl,hbN,hcs⟩:=hn
 have lb:b<w.heap.size:=by omega
 have lw:=hO.rows.lt
 have wI:=hO.rows.base
 have HW:Hid (∀W,Below N w W->b<W.heap.size/\ ∀(j:Nat) (h:j<[x,y].length),W.cell? ⟨b,j,none⟩=some (iv [x,y][j])):=ae (fun W hB=>⟨by have:=hB.size;omega,fun j h=>(jh (hB.block b hbN)).trans (hcs j h)⟩)
 obtain⟨c0,f0,l0⟩:=af hO.blk
 have oZ:=hcs 0 (by simp)
 simp only[au] at oZ
 have n01:=hcs 1 (by simp)
 simp only[au] at n01
 have HB0:Hid (Below w.heap.size w w):=ae (aG _ _)
 have hes:es.length=s.dn.aT.length:=by rw[<-hO.es];simp
 have jS:=ae hes
 clear hes
 have Xm:=hG.Uh
 have HG3:=ae (ag hG.aT hG.qh)
 clear hO hcs hG
 go_enter Tryz.func191,Tryz.ntmps191
 go_wp2_with fail
 refine RX.gB (fun ps W'=> ¬(x<=y/\y<=100/\y<=x+9)/\ps=kG 2/\Below N w W') 8 [] none [(6,⟨fun _ v=>v=rv (x,y),fun _ _ _=>(x<=y/\y<=100/\y<=x+9)⟩),(7,Spec.block w.heap.size #[iv 0,iv 0] 112)] (by rintro ps a1 Wx hdf ⟨h1,rfl,h3⟩;refine⟨hdf,wK (c:=2) h3 ?_ (by decide)⟩;have q0:=jS.o;simp only[iL,bZ,cu,dD];(repeat (first|rw[aA (by omega)]|rw[ai (by omega)]))) (by as_aux_lemma=>kernel_rfl) (by as_aux_lemma=>kernel_rfl) ?_
 simp only[zt]
 repeat (refine RX.zd ?_;simp only[zp])
 refine RX.bM _ (by rfl) (by rfl) ⟨_,rfl⟩ (fun Wq hE2 hF2=>?_) (fun v Wa Wb ho hE=>ho) (fun v hv=>?_)
 ·have hE':Ext [] w Wq:=hE2
  refine RX.dB 260 #[iv x,iv y,iv 9] (by go_simp;try rfl) ?_
  refine(wJ x y 9 Wq (by omega)).mono ?_
  rintro e w' ⟨hb,⟨hc,rfl⟩|⟨hc,rfl⟩⟩
  ·exact .inl ⟨_,rfl,rfl,hc,Ext.az hb⟩
  ·exact .inr ⟨_,rfl,hc,rfl,(aY HB0.o (aY hE'.below hb)).mono gK⟩
 obtain rfl:v=rv (x,y):=hv
 simp only[zp]
 repeat (refine RX.zd ?_;simp only[zp])
 refine RX.jX w.heap.size _ _ (by rfl) (ak _) (by rfl) (by simp) (by simp) (fun W hW=>by go_simp;try rfl) (fun b9=>?_)
 simp only[zp]
 intro Wb hE hF
 obtain⟨b9',wW,hge,hk9⟩:=hF _ (bK _)
 cases wW
 have hc:x<=y/\y<=100/\y<=x+9:=hF _ (nU _ (bK _))
 have HBb:=ae (aY HB0.o (show Ext [] w Wb from hE).below)
 have rD:=ae hc
 have rH:=ae (ag (jq HB0.o.size hge) hk9)
 obtain⟨c9,f9,l9⟩:=af hk9
 clear hE hF hc hge hk9 c0 f0 oZ n01
 go_upto_region 2 with(fail)
 refine dF fun W1 qm=>?_
 have HB1:=ae (show Below w.heap.size w W1 from by rw[qm];exact((HBb.o).setCell rH.o.1 _).setCell rH.o.1 _)
 have Ea:=ae (show W1.heap[b9]? =some (.cells #[iv x,iv y] 112 (0,0)) from by rw[qm];exact aJ (aJ (rH.o.2) _) _)
 have ZM:b9<W1.heap.size:=(aV.1 Ea.o).1
 clear qm c9 f9 l9
 obtain⟨c1,f1,l1⟩:=af ((HB1.o.block _ lw).trans HO.o.blk)
 obtain⟨wU,hcs1⟩:=HW.o W1 (HB1.o.mono gK)
 have n10:=hcs1 0 (by simp)
 simp only[au] at n10
 have n11:=hcs1 1 (by simp)
 simp only[au] at n11
 clear hcs1
 go_wp2_with fail
 refine(qM _ _ _).mono ?_
 rintro e W2 ⟨hb,⟨hc,rfl⟩|⟨hc,rfl⟩⟩
 rotate_left
 ·simp at hc
  have q0:=jS.o
  have q1:=rD.o
  simp only[iL,bZ,cu,dD]
  (repeat (first|rw[aA (by omega)]|rw[ai (by omega)]))
  exact⟨rfl,(aY HB1.o hb).mono gK,.inr ⟨by simp,rfl⟩⟩
 simp at hc
 have HB2:=ae (aY HB1.o hb)
 have HS2:=ae hb
 have xI:=ae hc
 clear hb hc c1 f1 wU n10 n11
 obtain⟨c2,f2,l2⟩:=af ((HB2.o.block _ lw).trans HO.o.blk)
 obtain⟨xR,hcs2⟩:=HW.o W2 (HB2.o.mono gK)
 have n20:=hcs2 0 (by simp)
 simp only[au] at n20
 have n21:=hcs2 1 (by simp)
 simp only[au] at n21
 clear hcs2
 go_wp2_with fail
 obtain⟨Ms,hMs⟩: ∃Ms,Ms=(Value.slice o s.dn.heaps.length cc).ownBlock.toList:=⟨_,rfl⟩
 have hO2:=HO.o.below HB2.o
 have hm1:wb∉Ms:=fun h=>hO2.rows.off 5 _ rfl (by rw[hMs] at h;exact dJ.1 h)
 have hm2:b∉Ms:=fun h=>by have:=((hO2.rows.own 5 _ rfl).lt b (by rw[hMs] at h;exact dJ.1 h)).1;omega
 have xG: ∀m∈Ms,m<W2.heap.size:=fun m h=>((hO2.rows.own 5 _ rfl).lt m (by rw[hMs] at h;exact dJ.1 h)).2
 obtain⟨c9,f9,l9⟩:=af ((HS2.o.block _ ZM).trans Ea.o)
 have hm9:b9∉Ms:=fun h=>by have:=((HO.o.rows.own 5 _ rfl).lt b9 (by rw[hMs] at h;exact dJ.1 h)).2;have:=rH.o.1;omega
 have HM:=ae hMs
 have jA:=ae hO2
 clear hMs hO2
 refine zg 8 Ms (some 7) [(6,Spec.slice W2.heap.size #[iv x,iv y] 112 1),(7,⟨fun _ v=> ∃o2 c2,v= .slice o2 (s.dn.heaps.length+1) c2,fun _ v Wx=>Wx.ownsRow N 112 2 v (s.dn.heaps.length+1) (aH s.dn.heaps++[iv x,iv y])/\(v.ownBlock=(Value.slice o s.dn.heaps.length cc).ownBlock∨ ∃q,v.ownBlock=some q/\W2.heap.size<=q)⟩)] ?_
 simp only[zt]
 repeat ((first|refine zd ?_|refine zk ?_);simp only[zp])
 refine eF W2.heap.size _ _ 1 (by rfl) (ak _) (by rfl) xG (by simp) (fun W hW=>by go_simp;try rfl) (fun b6=>?_)
 simp only[zp]
 repeat ((first|refine zd ?_|refine zk ?_);simp only[zp])
 refine bM _ (by rfl) (by rfl) (by exact⟨.slice none (s.dn.heaps.length+1) 0,none,0,rfl⟩) (fun W6 hE hF=>?_) (fun v Wa Wb ho hE=>?_) (fun v hv=>?_)
 ·have hE':Ext [] W2 W6:=hE
  obtain⟨b',hb',hge,hcc⟩:=hF _ (bK _) (by kernel_rfl)
  cases hb'
  have hown6:W6.ownsRow N 112 2 (.slice o s.dn.heaps.length cc) s.dn.heaps.length (aH s.dn.heaps):=aB (Ms:=[]) (jA.o.rows.own 5 _ rfl) hE' (by simp)
  have hsrc:aN 2 W6 (.slice (some ⟨b6,0,none⟩) 1 1) 1 ([iv x,iv y]):=aN.dm 2 1 hcc rfl (by decide)
  refine Does.mono (dU agq (by rfl) (by rfl) hown6 (by rfl) hsrc (Zz x y) (by omega) (by omega) (by have:=hE'.size;have:=HB2.o.size;omega)) ?_
  rintro v' W7 ⟨ho,hgr,hcase⟩
  refine⟨aU ho,⟨ho,?_⟩,⟨hgr.os,hgr.tape,hgr.output,hgr.size,fun b hb hn=>hgr.block b hb (fun e=>hn (by rw[HM.o];exact dJ.2 e.symm))⟩⟩
  rcases hcase with h1|h1
  ·exact .inl h1
  ·exact .inr ⟨_,h1,hE'.size⟩
 ·exact⟨aB (Ms:=[]) ho.1 hE (by simp),ho.2⟩
 obtain⟨o7,c7,rfl⟩:=hv
 simp only[zp]
 intro W3 hE hF
 obtain⟨qG,Au⟩:=hF _ (bK _)
 have ik:Ext Ms W2 W3:=hE
 have hbl:=(ik.block wb jA.o.rows.lt hm1).trans jA.o.blk
 obtain⟨c3,f3,l3⟩:=af hbl
 have jc:=ae (ag ik (ag qG (ag Au hbl)))
 have EU:Below N w W3:=(HB2.o.mono gK).trans ⟨ik.os,ik.tape,ik.output,ik.size,fun k hk=>ik.block k (by have:=HB2.o.size;omega) (fun h=>by have:=((jA.o.rows.own 5 _ rfl).lt k (by rw[HM.o] at h;exact dJ.1 h)).1;omega)⟩
 have qc:=ae EU
 clear hE hF ik qG Au hbl EU hm1 hm2 xG c2 f2 xR n20 n21
 go_upto_region 4 with(fail)
 refine dF fun W4 qm=>?_
 have hO6:jV N W4 wb (tq s (x,y) 0) ⟨vt,vn,vw,vu,vr,.slice o7 (s.dn.heaps.length+1) c7,.slice ok es.length ck,vs⟩ es:=by
  rw[qm,Sl]
  exact jA.o.put (i:=5) rfl ⟨112,2,.slice o7 (s.dn.heaps.length+1) c7,s.dn.heaps.length+1,aH s.dn.heaps++[iv x,iv y]⟩ jc.o.1 (fun m hm=>by rw[HM.o] at hm;exact dJ.1 hm) jc.o.2.1 jc.o.2.2.1 (aJ jc.o.2.2.2 _) (by simp[iR,fC,aH]) jA.o.es
 have HB4:=ae (show Below N w W4 from by rw[qm];exact qc.o.setCell wI _)
 obtain⟨c4,f4,l4⟩:=af hO6.blk
 have Nj:=ae hO6
 clear qm hO6 c3 f3 c9 f9
 go_wp2_with fail
 clear c4 f4
 have hle:es.length<=3:=by have:=jS.o;have:=HG3.o.1;omega
 go_loopw [6,39] (fun _ u wr=> ∃i:Nat,i<=es.length/\u= .int .i64 i/\Below N w wr/\ ∃es':List KE,es'.length=es.length/\jV N wr wb (tq s (x,y) i) ⟨vt,vn,vw,vu,vr,.slice o7 (s.dn.heaps.length+1) c7,.slice ok es.length ck,vs⟩ es') (fun _ u _=>es.length-(intOf u).toNat)
 case atStart=>exact⟨0,bU _,rfl,HB4.o,es,rfl,Nj.o⟩
 case round=>
  obtain⟨i,hi,rfl,hB,es',Je,hOr⟩:=hrel
  by_cases hlt:i<es.length
  ·obtain⟨c5,f5,l5⟩:=af hOr.blk
   have hic:i<s.dn.aT.length:=by have:=jS.o;omega
   obtain⟨ev,el,Dp⟩: ∃ev el,es'[i]? =some (ev,el):=⟨_,_,dP (by omega)⟩
   have Xm:el=s.dn.aT[i]:=by
    have h1:=Wu s (x,y) i hic
    rw[<-hOr.es] at h1
    simpa [Dp] using h1
   have hrow:=zi (tq s (x,y) i) ⟨vt,vn,vw,vu,vr,.slice o7 (s.dn.heaps.length+1) c7,.slice ok es.length ck,vs⟩ es' Dp
   obtain⟨oe,ce,rfl⟩: ∃o c,ev= .slice o el.length c:=aU (n:=el.length) (hOr.rows.own _ _ hrow)
   have ak9:el.length<=3:=by rw[Xm,(HG3.o.2 _ (cZ _)).1];omega
   have h6:wr.ownsRow N 36 1 (.slice ok es.length ck) es.length (fD es'):=by have h:=hOr.rows.own 6 _ rfl;rw[<-Je];rw[<-Je] at h;exact h
   obtain⟨gk,rfl,hgk,hfk,hkl⟩:=ig h6 (by omega)
   have hgx:(fD es')[i]? =some (.slice oe el.length ce):=by simp[fD,Dp]
   obtain⟨hg',eg'⟩:=ji.1 hgx
   have g6:=(hgk i hg').trans (by rw[eg'])
   obtain⟨Ms,hMs⟩: ∃Ms,Ms=(Value.slice oe el.length ce).ownBlock.toList:=⟨_,rfl⟩
   have hm1:wb∉Ms:=fun h=>hOr.rows.off _ _ hrow (by rw[hMs] at h;exact dJ.1 h)
   have hm2:gk∉Ms:=fun h=>by
    have h0:(Value.slice oe el.length ce).ownBlock=some gk:=(by rw[hMs] at h;exact dJ.1 h)
    rcases hOr.rows.apart 6 (8+i) _ _ rfl hrow (by omega) with h1|h1
    ·cases h1
    ·exact h1 h0.symm
   have xG: ∀m∈Ms,m<wr.heap.size:=fun m h=>((hOr.rows.own _ _ hrow).lt m (by rw[hMs] at h;exact dJ.1 h)).2
   have HM:=ae hMs
   have Jp:=ae (ag hOr (ag hB (ag Dp (ag Xm (ag Je (ag hrow (ag h6 hic)))))))
   clear hMs hOr hB Dp Xm Je hrow h6 hgx hg' eg' hgk
   go_wp2_with fail
   refine zg 14 Ms (some 13) [(12,Spec.slice wr.heap.size #[iv 0] 3 1),(13,⟨fun _ v=> ∃o2 c2,v= .slice o2 (el.length+1) c2,fun _ v Wx=>Wx.ownsRow N 3 1 v (el.length+1) (ah el++[iv 0])/\(v.ownBlock=(Value.slice oe el.length ce).ownBlock∨ ∃q,v.ownBlock=some q/\wr.heap.size<=q)⟩)] ?_
   simp only[zt]
   repeat ((first|refine zd ?_|refine zk ?_);simp only[zp])
   refine eF wr.heap.size _ _ 1 (by rfl) (ak _) (by rfl) xG (by simp) (fun W hW=>by go_simp;try rfl) (fun b6=>?_)
   simp only[zp]
   refine bM _ (by rfl) (by rfl) (by exact⟨.slice none (el.length+1) 0,none,0,rfl⟩) (fun W6 hE hF=>?_) (fun v Wa Wb ho hE=>?_) (fun v hv=>?_)
   ·have hE':Ext [] wr W6:=hE
    obtain⟨b',hb',hge,hcc⟩:=hF _ (bK _) (by kernel_rfl)
    cases hb'
    have hown6:W6.ownsRow N 3 1 (.slice oe el.length ce) el.length (ah el):=aB (Ms:=[]) (Jp.o.1.rows.own _ _ Jp.o.2.2.2.2.2.1) hE' (by simp)
    have hsrc:aN 1 W6 (.slice (some ⟨b6,0,none⟩) 1 1) 1 ([iv 0]):=aN.dm 1 1 hcc rfl (by decide)
    refine Does.mono (dU rE (by rfl) (by rfl) hown6 (by rfl) hsrc (one_one 0) (by omega) (by omega) (by have:=hE'.size;have:=Jp.o.2.1.size;omega)) ?_
    rintro v' W7 ⟨ho,hgr,hcase⟩
    refine⟨aU ho,⟨ho,?_⟩,⟨hgr.os,hgr.tape,hgr.output,hgr.size,fun b hb hn=>hgr.block b hb (fun e=>hn (by rw[HM.o];exact dJ.2 e.symm))⟩⟩
    rcases hcase with h1|h1
    ·exact .inl h1
    ·exact .inr ⟨_,h1,hE'.size⟩
   ·exact⟨aB (Ms:=[]) ho.1 hE (by simp),ho.2⟩
   obtain⟨o8,c8,rfl⟩:=hv
   simp only[zp]
   intro W8 hE hF
   obtain⟨qG,Au⟩:=hF _ (bK _)
   have ik:Ext Ms wr W8:=hE
   have hR1:=Jp.o.1.rows.put Jp.o.2.2.2.2.2.1 (zJ (.slice o8 (el.length+1) c8,el++[0])) ik (fun m hm=> .inr (.inr (by rw[HM.o] at hm;exact dJ.1 hm))) (by simpa [zJ,ah] using qG) (Au.imp id .inr)
   have hbl:=(ik.block wb l5 hm1).trans Jp.o.1.blk
   obtain⟨c9,f9,l9⟩:=af hbl
   have g7:=(ik.cell gk i hkl hm2).trans g6
   have h68:W8.ownsRow N 36 1 (.slice (some ⟨gk,0,none⟩) es.length ck) es.length (fD es'):=dQ Jp.o.2.2.2.2.2.2.1 ik (fun b hb hm=>by cases hb;exact hm2 hm)
   obtain⟨gk',aeL, -,ap5,hkl'⟩:=ig h68 (by omega)
   cases aeL
   have aij:Below N w W8:=Jp.o.2.1.trans ⟨ik.os,ik.tape,ik.output,ik.size,fun k hk=>ik.block k (by have:=Jp.o.2.1.size;omega) (fun h=>by have:=((Jp.o.1.rows.own _ _ Jp.o.2.2.2.2.2.1).lt k (by rw[HM.o] at h;exact dJ.1 h)).1;omega)⟩
   have HE:=ae (ag ik (ag hR1 (ag hbl (ag h68 aij))))
   clear hE hF ik qG Au hR1 hbl h68 aij c5 f5 g6 hm1 hm2 xG hfk hkl
   go_wp2_with fail
   go_roundw
   case rel=>
    refine⟨i+1,by omega,by go_num,HE.o.2.2.2.2.setCell (HE.o.2.2.2.1.lt gk rfl).1 _,es'.set i (.slice o8 (el.length+1) c8,el++[0]),by simp[Jp.o.2.2.2.2.1],?_,?_,?_⟩
    ·exact((gG (W:=W8) (b:=gk) (off:=i) (v:= .slice o8 (el.length+1) c8)).block wb HE.o.2.1.lt (fun hm=>HE.o.2.1.off 6 ⟨36,1,.slice (some ⟨gk,0,none⟩) es.length ck,es'.length,fD es'⟩ (by rw[List.getElem?_set_ne (by omega)];rfl) (by rw[eU.1 hm];rfl))).trans HE.o.2.2.1
    ·rw[Gh (tq s (x,y) i) (tq s (x,y) (i+1)) _ es' (by rw[Jp.o.2.2.2.2.1];exact hlt) rfl]
     have hS:=lX HE.o.2.2.2.1 i (.slice o8 (el.length+1) c8)
     refine HE.o.2.1.put (i:=6) (r:=⟨36,1,.slice (some ⟨gk,0,none⟩) es.length ck,es'.length,fD es'⟩) (by rw[List.getElem?_set_ne (by omega)];rfl) _ gG (fun m hm=> .inr (.inr (by rw[eU.1 hm];rfl))) ?_ (.inl rfl)
     rw[Jp.o.2.2.2.2.1]
     exact hS
    ·rw[List.map_set,Jp.o.1.es, <-Sm s (x,y) i Jp.o.2.2.2.2.2.2.2]
     exact congrArg (fun q=>(tq s (x,y) i).dn.aT.set i (q++[0])) Jp.o.2.2.2.1
   case measure=>simp[intOf];omega
  ·obtain rfl:i=es.length:=by omega
   have Jp:=ae (ag hOr hB)
   clear hOr hB hle
   go_wp2_with fail
   go_end0
   have q0:=jS.o
   have q1:=rD.o
   have q2:=xI.o
   simp only[iL,bZ,cu,dD]
   (repeat (first|rw[aA (by omega)]|rw[ai (by omega)]))
   rw[Wv s (x,y) _ (by omega)] at Jp
   exact⟨Jp.o.2,.inl ⟨rfl,rfl,_,es',Jp.o.1⟩⟩
def abj (N:Nat) (t:TypeId) (size g n c:Nat) (xs:List Value) (w:World) (e:Ending) (w':World):Prop:=
 e= .returned (.slice (some ⟨g,0,none⟩) n c)/\w'.ownsRow N t size (.slice (some ⟨g,0,none⟩) n c) n xs/\Ext [g] w w'
theorem fG {W:World} {g:Nat} {cs:Array Value}:Ext [g] W (W.setRow g cs):=
 ⟨rfl,rfl,rfl,by simp,fun k _ hm=>setRow_other _ _ _ _ (by simpa using hm)⟩
theorem uf {P:Program} {t e:TypeId} {z:Value} {size bytes:Nat} (hT:iW P t e z size bytes) {W:World} {N g c n i m:Nat} {xs:List Value} (ho:W.ownsRow N e size (.slice (some ⟨g,0,none⟩) n c) n xs) (h1: ∀u∈xs,u.oneCell'=true)
 (hi:i<n) (hm:m=n-1) (A:Addr) (hA:(if c=i+1 then some (⟨g,0,none⟩:Addr) else some ⟨g,(i+1)*size,none⟩)=some A):
 ∃W1,(∀ty,(Builtin.append_ #[t,t] ty #[.slice (some ⟨g,0,none⟩) i c,.slice (some A) (n-(i+1)) (c-(i+1))]).run P W= .ok (.slice (some ⟨g,0,none⟩) m c) W1)/\
  W1.ownsRow N e size (.slice (some ⟨g,0,none⟩) n c) n (xs.take (i*size)++xs.drop (i*size+size)++xs.drop (n*size-size))/\Ext [g] W W1:=by
 obtain⟨it,hit,hz,hs,hby⟩:=info_parts hT.info
 obtain⟨hl,⟨h2,_⟩|⟨g',c',cur,h2,hb,hg,hnc,hcm,hcs,htk⟩⟩:=ho
 ·cases h2
 cases h2
 have hpos:=hT.pos
 have hnn:n=i+1+(n-(i+1)):=by omega
 have hmul:n*size=i*size+size+(n-(i+1))*size:=by
  conv=>lhs;rw[hnn]
  rw[Nat.add_mul,Nat.add_mul,Nat.one_mul]
 have hcz:n*size<=cur.size:=by rw[hcs];exact Nat.mul_le_mul_right _ hnc
 have hlen:(xs.drop (i*size+size)).length=(n-(i+1))*size:=by rw[lQ,hl];omega
 have hnews: ∀j u,(xs.drop (i*size+size))[j]? =some u->W.cell? (A.add j)=some u:=by
  intro j u hu
  have hj:=(ji.1 hu).1
  rw[hlen] at hj
  have hne:c≠i+1:=by
   intro e
   have:n-(i+1)=0:=by omega
   rw[this] at hj
   omega
  rw[ai hne] at hA
  obtain rfl:=iV hA
  rw[Addr.add_lit,cell_of_row W g _ cur e (0,0) hg]
  rw[List.getElem?_drop, <-htk,List.getElem?_take] at hu
  split at hu
  ·rw[show(i+1)*size+j=i*size+size+j from by rw[Nat.add_mul,Nat.one_mul]]
   simpa using hu
  ·cases hu
 have hroom:i+(n-(i+1))<=c:=by omega
 have hfit:i*it.size+(xs.drop (i*size+size)).length<=cur.size:=by rw[hs,hlen];omega
 refine⟨W.setRow g (cur.toList.take (i*size)++xs.drop (i*size+size)++cur.toList.drop (i*size+(xs.drop (i*size+size)).length)).toArray,fun ty=>?_,?_,fG⟩
 ·have:=run_append_room (P:=P) W t ty e it hT.und hit g i c cur hg A (n-(i+1)) (c-(i+1)) (xs.drop (i*size+size)) (by rw[hlen,hs]) hnews (fun u hu=>h1 u (List.mem_of_mem_drop hu)) hroom hfit
  rw[this,hs,show i+(n-(i+1))=m from by omega]
 ·have hti:cur.toList.take (i*size)=xs.take (i*size):=by
   rw[<-htk,List.take_take]
   congr 1
   omega
  have hL:(xs.take (i*size)++xs.drop (i*size+size)++xs.drop (n*size-size)).length=n*size:=by
   simp only[dA,gY,lQ,hl]
   omega
  refine⟨hL,.inr ⟨g,c,_,rfl,hb,setRow_heap W g cur _ e _ hg,hnc,hcm,?_,?_⟩⟩
  ·simp only[List.size_toArray,dA,gY,lQ,Array.length_toList,hl]
   omega
  ·rw[hti,hlen,List.take_append,kL (by simp only[dA,gY,lQ,hl];omega)]
   congr 1
   simp only[dA,gY,lQ,hl]
   rw[show n*size-(min (i*size) (n*size)+(n*size-(i*size+size)))=size from by omega, <-htk,List.drop_take]
   rw[show i*size+(n-(i+1))*size=n*size-size from by omega,show n*size-(n*size-size)=size from by omega]
theorem jL {P:Program} {w w':World} {ops:Array Oper} {rest:List Oper} {o:Oper} {a:Act} {Q:Exit->Act->World->Prop} (hg:o.guard=none) (s x:Operand) {t:TypeId}
 (hop:o.op=Op.call {callee:=Callee.builtin Builtin.append,args:= #[s,x],argTypes:= #[t,t]}) (v src v':Value) (hs:a.eval s=v) (hx:a.eval x=src) (hrun: ∀ty,(Builtin.append_ #[t,t] ty #[v,src]).run P w= .ok v' w')
 (hK:wpList P ops Q rest (a.put o.dst v') w'):wpList P ops Q (o::rest) a w:=by
 refine wpList_plain hg fun K hK'=>?_
 refine xh (R:=fun v1 w1=>v1=v'/\w1=w') (jf v' ?_ ⟨rfl,rfl⟩) fun v1 w1 ⟨h1,h2⟩=>by rw[h1,h2];exact hK' _ _ hK
 simp[execOp,hop,resolve,invoke,builtin,hs,hx,hrun,Result.andThen]
theorem nZ {P:Program} {t e:TypeId} {z:Value} {size bytes:Nat} (hT:iW P t e z size bytes) (hv: ∀w,(zeroValue e).run P w= .ok z w) (hz1:(Builtin.zeroCells z.cells 1).toList.all (·.oneCell')=true) {W:World} {N g c n m:Nat} {xs:List Value} (ho:W.ownsRow N e size (.slice (some ⟨g,0,none⟩) n c) n xs) (hm:m+1=n):
 ∃W1,(∀ty,(Builtin.clear_ #[t] ty #[.slice (some ⟨g,m*size,none⟩) (n-m) (c-m)]).run P W= .ok (.tuple #[]) W1)/\W1.ownsRow N e size (.slice (some ⟨g,0,none⟩) m c) m (xs.take (m*size))/\Ext [g] W W1:=by
 obtain⟨it,hit,hz,hs,hby⟩:=info_parts hT.info
 obtain⟨hl,⟨h2,_⟩|⟨g',c',cur,h2,hb,hg,hnc,hcm,hcs,htk⟩⟩:=ho
 ·cases h2
 cases h2
 subst hm
 have hzl:(Builtin.zeroCells z.cells 1).toList.length=size:=by simp[Builtin.zeroCells,hT.cells]
 have hz2: ∀u∈(Builtin.zeroCells z.cells 1).toList,u.oneCell'=true:=fun u hu=>jR.1 hz1 u hu
 have hcz:m*size+size<=cur.size:=by
  rw[hcs]
  have:=Nat.mul_le_mul_right size hnc
  rw[Nat.add_mul,Nat.one_mul] at this
  exact this
 have hst:=run_storeCells_at P g (m*size) e (Builtin.zeroCells z.cells 1).toList 0 cur W hg (by rw[hzl];omega) hz2
 simp only[Nat.add_zero] at hst
 obtain⟨nw,hnw⟩: ∃nw,nw=(cur.toList.take (m*size)++(Builtin.zeroCells z.cells 1).toList++cur.toList.drop (m*size+(Builtin.zeroCells z.cells 1).toList.length)).toArray:=⟨_,rfl⟩
 rw[<-hnw] at hst
 refine⟨W.setRow g nw,fun ty=>?_,⟨?_,.inr ⟨g,c,nw,rfl,hb,setRow_heap W g cur _ e _ hg,by omega,hcm,?_,?_⟩⟩,fG⟩
 ·rw[show m+1-m=0+1 from by omega]
  simp[Builtin.clear_,run_underlying hT.und,hv,hst]
 ·rw[gY,hl,Nat.add_mul];omega
 ·rw[hnw];simp only[List.size_toArray,dA,gY,lQ,Array.length_toList,hzl]
  omega
 ·rw[hnw]
  rw[nV,uz (by simp;omega),List.take_take,Nat.min_self, <-htk,List.take_take]
  congr 1
  rw[Nat.add_mul];omega
theorem TR (N:Nat) (g n c i:Nat) (xs:List Value) (w:World) (ho:w.ownsRow N 118 5 (.slice (some ⟨g,0,none⟩) n c) n xs) (h1: ∀u∈xs,u.oneCell'=true) (hi:i<n) (hn:n<=100):
 Calls Tryz.prog 252 #[.slice (some ⟨g,0,none⟩) n c,iv i,iv (i+1)] w (abj N 118 5 g (n-1) c (xs.take (i*5)++xs.drop (i*5+5)) w):=by
 have hnc:n<=c/\c<=maxLen:=by
  obtain⟨h1,⟨h2,rfl⟩|⟨g',cc,cs,h2,h3,h4,h5,h6,h7,h8⟩⟩:=ho
  ·cases h2
  ·cases h2;exact⟨h5,h6⟩
 obtain⟨hnc,hcm⟩:=hnc
 simp only[maxLen] at hcm
 have hc0:c≠0:=by omega
 have hi1:(i:Int)<=(c:Int):=by omega
 have hi2:(0:Int)<=(i:Int):=by omega
 have hi3:(i:Int)+1<=(n:Int):=by omega
 have hi4:(0:Int)<=(i:Int)+1:=by omega
 have hi5:i<=c:=by omega
 have hi6:i+1<=n:=by omega
 have hi7:((i:Int)+1).toNat=i+1:=by omega
 obtain⟨m,hm⟩: ∃m,m=n-1:=⟨_,rfl⟩
 have hm1:(m:Int)<=(n:Int):=by omega
 have hm2:c≠m:=by omega
 have xG:(n:Int)<=(c:Int):=by omega
 have hm4:m<=n:=by omega
 obtain⟨A,hA⟩: ∃A:Addr,(if c=i+1 then some (⟨g,0,none⟩:Addr) else some ⟨g,(i+1)*5,none⟩)=some A:=by split <;>exact⟨_,rfl⟩
 have HO:=ae (ag ho (ag hm hA))
 clear ho hm
 go_enter Tryz.func252,Tryz.ntmps252
 go_wp2_with fail
 refine zg 6 [] none [] ?_
 simp only[zt]
 repeat ((first|refine zd ?_|refine zk ?_);simp only[zp])
 intro W hE hF
 have HE:=ae (show Ext [] w W from hE)
 clear hE hF
 obtain⟨W1,happ,ho1,hE1⟩:=uf Y9 (aB (Ms:=[]) HO.o.1 HE.o (by simp)) h1 hi HO.o.2.1 A HO.o.2.2
 obtain⟨W2,hcl,ho2,hE2⟩:=nZ Y9 (fun w=>Tryz.zeroValue118 w) (by kernel_rfl) ho1 (m:=m) (by have:=HO.o.2.1;omega)
 have H2:=ae (ag ho2 (ag hE1 hE2))
 clear ho1 ho2 hE1 hE2 hA
 go_wp2_with (at_builtin;refine jL rfl _ _ rfl _ _ _ rfl rfl happ ?_)
 go_returns
 refine⟨by simp;exact HO.o.2.1,?_,((Ext.nil HE.o).trans H2.o.2.1).trans H2.o.2.2⟩
 have h9:=H2.o.1
 rw[<-HO.o.2.1]
 have hl:=HO.o.1.1
 have hx:(xs.take (i*5)++xs.drop (i*5+5)++xs.drop (n*5-5)).take (m*5)=xs.take (i*5)++xs.drop (i*5+5):=by
  have:=HO.o.2.1
  rw[uz (by simp only[dA,gY,lQ,hl];omega),kL (by simp only[dA,gY,lQ,hl];omega)]
 rw[<-hx]
 exact h9
theorem PG (N:Nat) (g n c i:Nat) (xs:List Value) (w:World) (ho:w.ownsRow N 120 3 (.slice (some ⟨g,0,none⟩) n c) n xs) (h1: ∀u∈xs,u.oneCell'=true) (hi:i<n) (hn:n<=100):
 Calls Tryz.prog 254 #[.slice (some ⟨g,0,none⟩) n c,iv i,iv (i+1)] w (abj N 120 3 g (n-1) c (xs.take (i*3)++xs.drop (i*3+3)) w):=by
 have hnc:n<=c/\c<=maxLen:=by
  obtain⟨h1,⟨h2,rfl⟩|⟨g',cc,cs,h2,h3,h4,h5,h6,h7,h8⟩⟩:=ho
  ·cases h2
  ·cases h2;exact⟨h5,h6⟩
 obtain⟨hnc,hcm⟩:=hnc
 simp only[maxLen] at hcm
 have hc0:c≠0:=by omega
 have hi1:(i:Int)<=(c:Int):=by omega
 have hi2:(0:Int)<=(i:Int):=by omega
 have hi3:(i:Int)+1<=(n:Int):=by omega
 have hi4:(0:Int)<=(i:Int)+1:=by omega
 have hi5:i<=c:=by omega
 have hi6:i+1<=n:=by omega
 have hi7:((i:Int)+1).toNat=i+1:=by omega
 obtain⟨m,hm⟩: ∃m,m=n-1:=⟨_,rfl⟩
 have hm1:(m:Int)<=(n:Int):=by omega
 have hm2:c≠m:=by omega
 have xG:(n:Int)<=(c:Int):=by omega
 have hm4:m<=n:=by omega
 obtain⟨A,hA⟩: ∃A:Addr,(if c=i+1 then some (⟨g,0,none⟩:Addr) else some ⟨g,(i+1)*3,none⟩)=some A:=by split <;>exact⟨_,rfl⟩
 have HO:=ae (ag ho (ag hm hA))
 clear ho hm
 go_enter Tryz.func254,Tryz.ntmps254
 go_wp2_with fail
 refine zg 6 [] none [] ?_
 simp only[zt]
 repeat ((first|refine zd ?_|refine zk ?_);simp only[zp])
 intro W hE hF
 have HE:=ae (show Ext [] w W from hE)
 clear hE hF
 obtain⟨W1,happ,ho1,hE1⟩:=uf abU (aB (Ms:=[]) HO.o.1 HE.o (by simp)) h1 hi HO.o.2.1 A HO.o.2.2
 obtain⟨W2,hcl,ho2,hE2⟩:=nZ abU (fun w=>Tryz.zeroValue120 w) (by kernel_rfl) ho1 (m:=m) (by have:=HO.o.2.1;omega)
 have H2:=ae (ag ho2 (ag hE1 hE2))
 clear ho1 ho2 hE1 hE2 hA
 go_wp2_with (at_builtin;refine jL rfl _ _ rfl _ _ _ rfl rfl happ ?_)
 go_returns
 refine⟨by simp;exact HO.o.2.1,?_,((Ext.nil HE.o).trans H2.o.2.1).trans H2.o.2.2⟩
 have h9:=H2.o.1
 rw[<-HO.o.2.1]
 have hl:=HO.o.1.1
 have hx:(xs.take (i*3)++xs.drop (i*3+3)++xs.drop (n*3-3)).take (m*3)=xs.take (i*3)++xs.drop (i*3+3):=by
  have:=HO.o.2.1
  rw[uz (by simp only[dA,gY,lQ,hl];omega),kL (by simp only[dA,gY,lQ,hl];omega)]
 rw[<-hx]
 exact h9
theorem PD (N:Nat) (g n c i:Nat) (xs:List Value) (w:World) (ho:w.ownsRow N 122 3 (.slice (some ⟨g,0,none⟩) n c) n xs) (h1: ∀u∈xs,u.oneCell'=true) (hi:i<n) (hn:n<=100):
 Calls Tryz.prog 259 #[.slice (some ⟨g,0,none⟩) n c,iv i,iv (i+1)] w (abj N 122 3 g (n-1) c (xs.take (i*3)++xs.drop (i*3+3)) w):=by
 have hnc:n<=c/\c<=maxLen:=by
  obtain⟨h1,⟨h2,rfl⟩|⟨g',cc,cs,h2,h3,h4,h5,h6,h7,h8⟩⟩:=ho
  ·cases h2
  ·cases h2;exact⟨h5,h6⟩
 obtain⟨hnc,hcm⟩:=hnc
 simp only[maxLen] at hcm
 have hc0:c≠0:=by omega
 have hi1:(i:Int)<=(c:Int):=by omega
 have hi2:(0:Int)<=(i:Int):=by omega
 have hi3:(i:Int)+1<=(n:Int):=by omega
 have hi4:(0:Int)<=(i:Int)+1:=by omega
 have hi5:i<=c:=by omega
 have hi6:i+1<=n:=by omega
 have hi7:((i:Int)+1).toNat=i+1:=by omega
 obtain⟨m,hm⟩: ∃m,m=n-1:=⟨_,rfl⟩
 have hm1:(m:Int)<=(n:Int):=by omega
 have hm2:c≠m:=by omega
 have xG:(n:Int)<=(c:Int):=by omega
 have hm4:m<=n:=by omega
 obtain⟨A,hA⟩: ∃A:Addr,(if c=i+1 then some (⟨g,0,none⟩:Addr) else some ⟨g,(i+1)*3,none⟩)=some A:=by split <;>exact⟨_,rfl⟩
 have HO:=ae (ag ho (ag hm hA))
 clear ho hm
 go_enter Tryz.func259,Tryz.ntmps259
 go_wp2_with fail
 refine zg 6 [] none [] ?_
 simp only[zt]
 repeat ((first|refine zd ?_|refine zk ?_);simp only[zp])
 intro W hE hF
 have HE:=ae (show Ext [] w W from hE)
 clear hE hF
 obtain⟨W1,happ,ho1,hE1⟩:=uf abT (aB (Ms:=[]) HO.o.1 HE.o (by simp)) h1 hi HO.o.2.1 A HO.o.2.2
 obtain⟨W2,hcl,ho2,hE2⟩:=nZ abT (fun w=>Tryz.zeroValue122 w) (by kernel_rfl) ho1 (m:=m) (by have:=HO.o.2.1;omega)
 have H2:=ae (ag ho2 (ag hE1 hE2))
 clear ho1 ho2 hE1 hE2 hA
 go_wp2_with (at_builtin;refine jL rfl _ _ rfl _ _ _ rfl rfl happ ?_)
 go_returns
 refine⟨by simp;exact HO.o.2.1,?_,((Ext.nil HE.o).trans H2.o.2.1).trans H2.o.2.2⟩
 have h9:=H2.o.1
 rw[<-HO.o.2.1]
 have hl:=HO.o.1.1
 have hx:(xs.take (i*3)++xs.drop (i*3+3)++xs.drop (n*3-3)).take (m*3)=xs.take (i*3)++xs.drop (i*3+3):=by
  have:=HO.o.2.1
  rw[uz (by simp only[dA,gY,lQ,hl];omega),kL (by simp only[dA,gY,lQ,hl];omega)]
 rw[<-hx]
 exact h9
theorem ML (N:Nat) (g n c i:Nat) (xs:List Value) (w:World) (ho:w.ownsRow N 124 4 (.slice (some ⟨g,0,none⟩) n c) n xs) (h1: ∀u∈xs,u.oneCell'=true) (hi:i<n) (hn:n<=100):
 Calls Tryz.prog 262 #[.slice (some ⟨g,0,none⟩) n c,iv i,iv (i+1)] w (abj N 124 4 g (n-1) c (xs.take (i*4)++xs.drop (i*4+4)) w):=by
 have hnc:n<=c/\c<=maxLen:=by
  obtain⟨h1,⟨h2,rfl⟩|⟨g',cc,cs,h2,h3,h4,h5,h6,h7,h8⟩⟩:=ho
  ·cases h2
  ·cases h2;exact⟨h5,h6⟩
 obtain⟨hnc,hcm⟩:=hnc
 simp only[maxLen] at hcm
 have hc0:c≠0:=by omega
 have hi1:(i:Int)<=(c:Int):=by omega
 have hi2:(0:Int)<=(i:Int):=by omega
 have hi3:(i:Int)+1<=(n:Int):=by omega
 have hi4:(0:Int)<=(i:Int)+1:=by omega
 have hi5:i<=c:=by omega
 have hi6:i+1<=n:=by omega
 have hi7:((i:Int)+1).toNat=i+1:=by omega
 obtain⟨m,hm⟩: ∃m,m=n-1:=⟨_,rfl⟩
 have hm1:(m:Int)<=(n:Int):=by omega
 have hm2:c≠m:=by omega
 have xG:(n:Int)<=(c:Int):=by omega
 have hm4:m<=n:=by omega
 obtain⟨A,hA⟩: ∃A:Addr,(if c=i+1 then some (⟨g,0,none⟩:Addr) else some ⟨g,(i+1)*4,none⟩)=some A:=by split <;>exact⟨_,rfl⟩
 have HO:=ae (ag ho (ag hm hA))
 clear ho hm
 go_enter Tryz.func262,Tryz.ntmps262
 go_wp2_with fail
 refine zg 6 [] none [] ?_
 simp only[zt]
 repeat ((first|refine zd ?_|refine zk ?_);simp only[zp])
 intro W hE hF
 have HE:=ae (show Ext [] w W from hE)
 clear hE hF
 obtain⟨W1,happ,ho1,hE1⟩:=uf abS (aB (Ms:=[]) HO.o.1 HE.o (by simp)) h1 hi HO.o.2.1 A HO.o.2.2
 obtain⟨W2,hcl,ho2,hE2⟩:=nZ abS (fun w=>Tryz.zeroValue124 w) (by kernel_rfl) ho1 (m:=m) (by have:=HO.o.2.1;omega)
 have H2:=ae (ag ho2 (ag hE1 hE2))
 clear ho1 ho2 hE1 hE2 hA
 go_wp2_with (at_builtin;refine jL rfl _ _ rfl _ _ _ rfl rfl happ ?_)
 go_returns
 refine⟨by simp;exact HO.o.2.1,?_,((Ext.nil HE.o).trans H2.o.2.1).trans H2.o.2.2⟩
 have h9:=H2.o.1
 rw[<-HO.o.2.1]
 have hl:=HO.o.1.1
 have hx:(xs.take (i*4)++xs.drop (i*4+4)++xs.drop (n*4-4)).take (m*4)=xs.take (i*4)++xs.drop (i*4+4):=by
  have:=HO.o.2.1
  rw[uz (by simp only[dA,gY,lQ,hl];omega),kL (by simp only[dA,gY,lQ,hl];omega)]
 rw[<-hx]
 exact h9
theorem TS (N:Nat) (g n c i:Nat) (xs:List Value) (w:World) (ho:w.ownsRow N 3 1 (.slice (some ⟨g,0,none⟩) n c) n xs) (h1: ∀u∈xs,u.oneCell'=true) (hi:i<n) (hn:n<=100):
 Calls Tryz.prog 258 #[.slice (some ⟨g,0,none⟩) n c,iv i,iv (i+1)] w (abj N 3 1 g (n-1) c (xs.take i++xs.drop (i+1)) w):=by
 have hnc:n<=c/\c<=maxLen:=by
  obtain⟨h1,⟨h2,rfl⟩|⟨g',cc,cs,h2,h3,h4,h5,h6,h7,h8⟩⟩:=ho
  ·cases h2
  ·cases h2;exact⟨h5,h6⟩
 obtain⟨hnc,hcm⟩:=hnc
 simp only[maxLen] at hcm
 have hc0:c≠0:=by omega
 have hi1:(i:Int)<=(c:Int):=by omega
 have hi2:(0:Int)<=(i:Int):=by omega
 have hi3:(i:Int)+1<=(n:Int):=by omega
 have hi4:(0:Int)<=(i:Int)+1:=by omega
 have hi5:i<=c:=by omega
 have hi6:i+1<=n:=by omega
 have hi7:((i:Int)+1).toNat=i+1:=by omega
 obtain⟨m,hm⟩: ∃m,m=n-1:=⟨_,rfl⟩
 have hm1:(m:Int)<=(n:Int):=by omega
 have hm2:c≠m:=by omega
 have xG:(n:Int)<=(c:Int):=by omega
 have hm4:m<=n:=by omega
 obtain⟨A,hA⟩: ∃A:Addr,(if c=i+1 then some (⟨g,0,none⟩:Addr) else some ⟨g,i+1,none⟩)=some A:=by split <;>exact⟨_,rfl⟩
 have HO:=ae (ag ho (ag hm hA))
 clear ho hm
 go_enter Tryz.func258,Tryz.ntmps258
 go_wp2_with fail
 refine zg 6 [] none [] ?_
 simp only[zt]
 repeat ((first|refine zd ?_|refine zk ?_);simp only[zp])
 intro W hE hF
 have HE:=ae (show Ext [] w W from hE)
 clear hE hF
 obtain⟨W1,happ,ho1,hE1⟩:=uf rE (aB (Ms:=[]) HO.o.1 HE.o (by simp)) h1 hi HO.o.2.1 A (by rw[Nat.mul_one];exact HO.o.2.2)
 obtain⟨W2,hcl,ho2,hE2⟩:=nZ rE (fun w=>Tryz.zeroValue3 w) (by kernel_rfl) ho1 (m:=m) (by have:=HO.o.2.1;omega)
 simp only[Nat.mul_one] at ho1 ho2 hcl
 have H2:=ae (ag ho2 (ag hE1 hE2))
 clear ho1 ho2 hE1 hE2 hA
 go_wp2_with (at_builtin;refine jL rfl _ _ rfl _ _ _ rfl rfl happ ?_)
 go_returns
 refine⟨by simp;exact HO.o.2.1,?_,((Ext.nil HE.o).trans H2.o.2.1).trans H2.o.2.2⟩
 have h9:=H2.o.1
 rw[<-HO.o.2.1]
 have hl:=HO.o.1.1
 have hx:(xs.take i++xs.drop (i+1)++xs.drop (n-1)).take m=xs.take i++xs.drop (i+1):=by
  have:=HO.o.2.1
  rw[uz (by simp only[dA,gY,lQ,hl];omega),kL (by simp only[dA,gY,lQ,hl];omega)]
 rw[<-hx]
 exact h9
theorem wY {α:Type} (f:α->List Value) (k:Nat) (hk: ∀x,(f x).length=k): ∀(l:List α) (i:Nat),i<l.length->(l.eraseIdx i).flatMap f=(l.flatMap f).take (i*k)++(l.flatMap f).drop (i*k+k):=by
 intro l
 induction l with
 |nil=>intro i h;simp at h
 |cons y l ih=>
  intro i h
  rw[List.flatMap_cons]
  cases i with
  |zero=>
   rw[List.eraseIdx_cons_zero,Nat.zero_mul,List.take_zero,List.nil_append,Nat.zero_add,List.drop_append,List.drop_of_length_le (by rw[hk];omega),hk,Nat.sub_self,List.drop_zero,List.nil_append]
  |succ i=>
   rw[List.eraseIdx_cons_succ,List.flatMap_cons,ih i (by simpa using h)]
   generalize l.flatMap f=X
   have h1:(f y).length<=(i+1)*k:=by rw[hk,Nat.succ_mul];omega
   have h2:(f y).length<=(i+1)*k+k:=by omega
   rw[List.take_append (l₁:=f y),kL h1,List.drop_append (l₁:=f y),List.drop_of_length_le h2,hk,List.nil_append,nV]
   rw[show(i+1)*k-k=i*k from by rw[Nat.succ_mul];omega,show(i+1)*k+k-k=i*k+k from by rw[Nat.succ_mul];omega]
theorem NJ (N:Nat) (w:World) (wb:Nat) (s:jF) (V:SV) (es:List KE) (ns:Value) (x:Nat) (hO:jV N w wb s V es) (hn:rW N w ns [(x:Int)]) (hG:gu s):Calls Tryz.prog 180 #[.pointer (some ⟨wb,0,none⟩),ns] w (rC N wb (iL s .kF [(x:Int)]) w):=by
 obtain⟨vt,vn,vw,vu,vr,vh,vk,vs⟩:=V
 obtain⟨o,cc,rfl⟩: ∃o c,vt= .slice o s.led.field.ax.length c:=aU (n:=s.led.field.ax.length) (hO.rows.own 0 _ rfl)
 have HO:=ae hO
 have gK:=eX hO
 obtain⟨b,c,rfl,hbN,hcs⟩:=hn
 have lb:b<w.heap.size:=by omega
 have lw:=hO.rows.lt
 have wI:=hO.rows.base
 have HW:Hid (∀W,Below N w W->b<W.heap.size/\ ∀(j:Nat) (h:j<[(x:Int)].length),W.cell? ⟨b,j,none⟩=some (iv [(x:Int)][j])):=ae (fun W hB=>⟨by have:=hB.size;omega,fun j h=>(jh (hB.block b hbN)).trans (hcs j h)⟩)
 obtain⟨c0,f0,l0⟩:=af hO.blk
 have oZ:=hcs 0 (by simp)
 simp only[au] at oZ
 have HB0:Hid (Below w.heap.size w w):=ae (aG _ _)
 have L9:=hG.Ae
 clear hO hcs hG
 go_enter Tryz.func180,Tryz.ntmps180
 go_wp2_with fail
 refine zg 8 [] none [] ?_
 simp only[zt]
 repeat ((first|refine zd ?_|refine zk ?_);simp only[zp])
 intro W1 hE hF
 have HB1:=ae (aY HB0.o hE.below)
 have Nc:=ae (Ext.below hE)
 clear hE hF c0 f0 oZ
 obtain⟨c1,f1,l1⟩:=af ((HB1.o.block _ lw).trans HO.o.blk)
 obtain⟨wU,hcs1⟩:=HW.o W1 (HB1.o.mono gK)
 have n10:=hcs1 0 (by simp)
 simp only[au] at n10
 clear hcs1
 go_wp2_with fail
 refine(jk _ _ _).mono ?_
 rintro e W2 ⟨hb,⟨hc,rfl⟩|⟨hc,rfl⟩⟩
 rotate_left
 ·simp at hc
  simp only[iL,bZ,cu,dD]
  (repeat (first|rw[aA (by omega)]|rw[ai (by omega)]))
  exact⟨rfl,(aY HB1.o hb).mono gK,.inr ⟨by simp,rfl⟩⟩
 simp at hc
 have HB2:=ae (aY HB1.o hb)
 have HS2:=ae hb
 have jS:=ae hc
 clear hb hc c1 f1 wU n10
 obtain⟨c2,f2,l2⟩:=af ((HB2.o.block _ lw).trans HO.o.blk)
 obtain⟨xR,hcs2⟩:=HW.o W2 (HB2.o.mono gK)
 have n20:=hcs2 0 (by simp)
 simp only[au] at n20
 clear hcs2
 go_wp2_with fail
 have hlt:=jS.o
 have MF:=HO.o.below HB2.o
 have h6:W2.ownsRow N 118 5 (.slice o s.led.field.ax.length cc) (s.led.field.ax.length) (dS s.led.field.ax):=MF.rows.own 0 _ rfl
 obtain⟨g,rfl, -,hfg,hgl⟩:=ig h6 (by have:=jS.o;omega)
 have hg1:wb≠g:=fun e=>MF.rows.off 0 _ rfl (by rw[e];rfl)
 have hg2:b≠g:=fun e=>by have:=(h6.lt g rfl).1;omega
 have hg3:g≠wb:=fun e=>hg1 e.symm
 have hg4:g≠b:=fun e=>hg2 e.symm
 have jA:=ae MF
 have H6:=ae h6
 clear MF h6
 refine zg 13 [g] (some 12) [(12,⟨fun _ v=>v= .slice (some ⟨g,0,none⟩) (s.led.field.ax.length-1) cc,fun _ v Wx=>Wx.ownsRow N 118 5 (.slice (some ⟨g,0,none⟩) (s.led.field.ax.length-1) cc) (s.led.field.ax.length-1) ((dS s.led.field.ax).take (x*5)++(dS s.led.field.ax).drop (x*5+5))⟩)] ?_
 simp only[zt]
 repeat ((first|refine zd ?_|refine zk ?_);simp only[zp])
 refine bM _ (by rfl) (by rfl) ⟨_,rfl⟩ (fun W6 hE hF=>?_) (fun v Wa Wb ho hE=>?_) (fun v hv=>?_)
 ·have hE':Ext [] W2 W6:=hE
  refine dB 252 #[.slice (some ⟨g,0,none⟩) s.led.field.ax.length cc,iv x,iv (x+1)] (by go_simp;try rfl) ?_
  refine(TR N g _ cc x (dS s.led.field.ax) W6 (aB (Ms:=[]) H6.o hE' (by simp)) (Em _) (by have:=jS.o;omega) (by omega)).mono ?_
  rintro e w' ⟨rfl,h1,h2⟩
  exact⟨_,rfl,rfl,h1,h2⟩
 ·exact aB (Ms:=[]) ho hE (by simp)
 obtain rfl:v= .slice (some ⟨g,0,none⟩) (s.led.field.ax.length-1) cc:=hv
 simp only[zp]
 intro W3 hE hF
 have qG:W3.ownsRow N 118 5 (.slice (some ⟨g,0,none⟩) (s.led.field.ax.length-1) cc) (s.led.field.ax.length-1) ((dS s.led.field.ax).take (x*5)++(dS s.led.field.ax).drop (x*5+5)):=hF _ (bK _)
 have ik:Ext [g] W2 W3:=hE
 have hbl:=(ik.block wb jA.o.rows.lt (by simpa using hg1)).trans jA.o.blk
 obtain⟨c3,f3,l3⟩:=af hbl
 have jc:=ae (ag ik (ag qG hbl))
 have qc:=ae (show Below N w W3 from(HB2.o.mono gK).trans ⟨ik.os,ik.tape,ik.output,ik.size,fun k hk=>ik.block k (by have:=HB2.o.size;omega) (fun h=>by have:=(H6.o.lt g rfl).1;have:=eU.1 h;omega)⟩)
 clear hE hF ik qG hbl hg1 hg2 hg3 hg4 hfg hgl c2 f2 xR n20
 go_wp2_with fail
 go_end0
 have q0:=jS.o
 simp only[iL,bZ,cu,dD]
 (repeat (first|rw[aA (by omega)]|rw[ai (by omega)]))
 refine⟨qc.o.setCell wI _,.inl ⟨rfl,rfl,⟨.slice (some ⟨g,0,none⟩) (s.led.field.ax.length-1) cc,vn,vw,vu,vr,vh,vk,vs⟩,es,jA.o.put (i:=0) rfl ⟨118,5,.slice (some ⟨g,0,none⟩) (s.led.field.ax.length-1) cc,s.led.field.ax.length-1,(dS s.led.field.ax).take (x*5)++(dS s.led.field.ax).drop (x*5+5)⟩ jc.o.1 (fun m hm=>by rw[eU.1 hm];rfl) jc.o.2.1 (.inl rfl) (aJ jc.o.2.2 _) (by simp only[iR,kR,Int.toNat_natCast];rw[List.length_eraseIdx_of_lt hlt,show dS (s.led.field.ax.eraseIdx x)=_ from wY _ 5 (fun _=>rfl) s.led.field.ax x hlt];rfl) (jA.o.es)⟩⟩
theorem Y1 (N:Nat) (w:World) (wb:Nat) (s:jF) (V:SV) (es:List KE) (ns:Value) (x:Nat) (hO:jV N w wb s V es) (hn:rW N w ns [(x:Int)]) (hG:gu s):Calls Tryz.prog 184 #[.pointer (some ⟨wb,0,none⟩),ns] w (rC N wb (iL s .void [(x:Int)]) w):=by
 obtain⟨vt,vn,vw,vu,vr,vh,vk,vs⟩:=V
 obtain⟨o,cc,rfl⟩: ∃o c,vn= .slice o s.led.notes.length c:=aU (n:=s.led.notes.length) (hO.rows.own 1 _ rfl)
 have HO:=ae hO
 have gK:=eX hO
 obtain⟨b,c,rfl,hbN,hcs⟩:=hn
 have lb:b<w.heap.size:=by omega
 have lw:=hO.rows.lt
 have wI:=hO.rows.base
 have HW:Hid (∀W,Below N w W->b<W.heap.size/\ ∀(j:Nat) (h:j<[(x:Int)].length),W.cell? ⟨b,j,none⟩=some (iv [(x:Int)][j])):=ae (fun W hB=>⟨by have:=hB.size;omega,fun j h=>(jh (hB.block b hbN)).trans (hcs j h)⟩)
 obtain⟨c0,f0,l0⟩:=af hO.blk
 have oZ:=hcs 0 (by simp)
 simp only[au] at oZ
 have HB0:Hid (Below w.heap.size w w):=ae (aG _ _)
 have L9:=hG.notes
 clear hO hcs hG
 go_enter Tryz.func184,Tryz.ntmps184
 go_wp2_with fail
 refine zg 10 [] none [] ?_
 simp only[zt]
 repeat ((first|refine zd ?_|refine zk ?_);simp only[zp])
 intro W1 hE hF
 have HB1:=ae (aY HB0.o hE.below)
 have Nc:=ae (Ext.below hE)
 clear hE hF c0 f0 oZ
 obtain⟨c1,f1,l1⟩:=af ((HB1.o.block _ lw).trans HO.o.blk)
 obtain⟨wU,hcs1⟩:=HW.o W1 (HB1.o.mono gK)
 have n10:=hcs1 0 (by simp)
 simp only[au] at n10
 clear hcs1
 go_wp2_with fail
 refine(jk _ _ _).mono ?_
 rintro e W2 ⟨hb,⟨hc,rfl⟩|⟨hc,rfl⟩⟩
 rotate_left
 ·simp at hc
  simp only[iL,bZ,cu,dD]
  (repeat (first|rw[aA (by omega)]|rw[ai (by omega)]))
  exact⟨rfl,(aY HB1.o hb).mono gK,.inr ⟨by simp,rfl⟩⟩
 simp at hc
 have HB2:=ae (aY HB1.o hb)
 have HS2:=ae hb
 have jS:=ae hc
 clear hb hc c1 f1 wU n10
 obtain⟨c2,f2,l2⟩:=af ((HB2.o.block _ lw).trans HO.o.blk)
 obtain⟨xR,hcs2⟩:=HW.o W2 (HB2.o.mono gK)
 have n20:=hcs2 0 (by simp)
 simp only[au] at n20
 clear hcs2
 go_wp2_with fail
 have hlt:=jS.o
 have MF:=HO.o.below HB2.o
 have h6:W2.ownsRow N 120 3 (.slice o s.led.notes.length cc) (s.led.notes.length) (aX s.led.notes):=MF.rows.own 1 _ rfl
 obtain⟨g,rfl, -,hfg,hgl⟩:=ig h6 (by have:=jS.o;omega)
 have hg1:wb≠g:=fun e=>MF.rows.off 1 _ rfl (by rw[e];rfl)
 have hg2:b≠g:=fun e=>by have:=(h6.lt g rfl).1;omega
 have hg3:g≠wb:=fun e=>hg1 e.symm
 have hg4:g≠b:=fun e=>hg2 e.symm
 have jA:=ae MF
 have H6:=ae h6
 clear MF h6
 refine zg 15 [g] (some 14) [(14,⟨fun _ v=>v= .slice (some ⟨g,0,none⟩) (s.led.notes.length-1) cc,fun _ v Wx=>Wx.ownsRow N 120 3 (.slice (some ⟨g,0,none⟩) (s.led.notes.length-1) cc) (s.led.notes.length-1) ((aX s.led.notes).take (x*3)++(aX s.led.notes).drop (x*3+3))⟩)] ?_
 simp only[zt]
 repeat ((first|refine zd ?_|refine zk ?_);simp only[zp])
 refine bM _ (by rfl) (by rfl) ⟨_,rfl⟩ (fun W6 hE hF=>?_) (fun v Wa Wb ho hE=>?_) (fun v hv=>?_)
 ·have hE':Ext [] W2 W6:=hE
  refine dB 254 #[.slice (some ⟨g,0,none⟩) s.led.notes.length cc,iv x,iv (x+1)] (by go_simp;try rfl) ?_
  refine(PG N g _ cc x (aX s.led.notes) W6 (aB (Ms:=[]) H6.o hE' (by simp)) (uS _) (by have:=jS.o;omega) (by omega)).mono ?_
  rintro e w' ⟨rfl,h1,h2⟩
  exact⟨_,rfl,rfl,h1,h2⟩
 ·exact aB (Ms:=[]) ho hE (by simp)
 obtain rfl:v= .slice (some ⟨g,0,none⟩) (s.led.notes.length-1) cc:=hv
 simp only[zp]
 intro W3 hE hF
 have qG:W3.ownsRow N 120 3 (.slice (some ⟨g,0,none⟩) (s.led.notes.length-1) cc) (s.led.notes.length-1) ((aX s.led.notes).take (x*3)++(aX s.led.notes).drop (x*3+3)):=hF _ (bK _)
 have ik:Ext [g] W2 W3:=hE
 have hbl:=(ik.block wb jA.o.rows.lt (by simpa using hg1)).trans jA.o.blk
 obtain⟨c3,f3,l3⟩:=af hbl
 have jc:=ae (ag ik (ag qG hbl))
 have qc:=ae (show Below N w W3 from(HB2.o.mono gK).trans ⟨ik.os,ik.tape,ik.output,ik.size,fun k hk=>ik.block k (by have:=HB2.o.size;omega) (fun h=>by have:=(H6.o.lt g rfl).1;have:=eU.1 h;omega)⟩)
 clear hE hF ik qG hbl hg1 hg2 hg3 hg4 hfg hgl c2 f2 xR n20
 go_wp2_with fail
 go_end0
 have q0:=jS.o
 simp only[iL,bZ,cu,dD]
 (repeat (first|rw[aA (by omega)]|rw[ai (by omega)]))
 refine⟨qc.o.setCell wI _,.inl ⟨rfl,rfl,⟨vt,.slice (some ⟨g,0,none⟩) (s.led.notes.length-1) cc,vw,vu,vr,vh,vk,vs⟩,es,jA.o.put (i:=1) rfl ⟨120,3,.slice (some ⟨g,0,none⟩) (s.led.notes.length-1) cc,s.led.notes.length-1,(aX s.led.notes).take (x*3)++(aX s.led.notes).drop (x*3+3)⟩ jc.o.1 (fun m hm=>by rw[eU.1 hm];rfl) jc.o.2.1 (.inl rfl) (aJ jc.o.2.2 _) (by simp only[iR,kV,Int.toNat_natCast];rw[List.length_eraseIdx_of_lt hlt,show aX (s.led.notes.eraseIdx x)=_ from wY _ 3 (fun _=>rfl) s.led.notes x hlt];rfl) (jA.o.es)⟩⟩
theorem QY (N:Nat) (w:World) (wb:Nat) (s:jF) (V:SV) (es:List KE) (ns:Value) (x:Nat) (hO:jV N w wb s V es) (hn:rW N w ns [(x:Int)]) (hG:gu s):Calls Tryz.prog 190 #[.pointer (some ⟨wb,0,none⟩),ns] w (rC N wb (iL s .unread [(x:Int)]) w):=by
 obtain⟨vt,vn,vw,vu,vr,vh,vk,vs⟩:=V
 obtain⟨o,cc,rfl⟩: ∃o c,vr= .slice o s.heap.readings.length c:=aU (n:=s.heap.readings.length) (hO.rows.own 4 _ rfl)
 have HO:=ae hO
 have gK:=eX hO
 obtain⟨b,c,rfl,hbN,hcs⟩:=hn
 have lb:b<w.heap.size:=by omega
 have lw:=hO.rows.lt
 have wI:=hO.rows.base
 have HW:Hid (∀W,Below N w W->b<W.heap.size/\ ∀(j:Nat) (h:j<[(x:Int)].length),W.cell? ⟨b,j,none⟩=some (iv [(x:Int)][j])):=ae (fun W hB=>⟨by have:=hB.size;omega,fun j h=>(jh (hB.block b hbN)).trans (hcs j h)⟩)
 obtain⟨c0,f0,l0⟩:=af hO.blk
 have oZ:=hcs 0 (by simp)
 simp only[au] at oZ
 have HB0:Hid (Below w.heap.size w w):=ae (aG _ _)
 have L9:=hG.reads
 clear hO hcs hG
 go_enter Tryz.func190,Tryz.ntmps190
 go_wp2_with fail
 refine zg 10 [] none [] ?_
 simp only[zt]
 repeat ((first|refine zd ?_|refine zk ?_);simp only[zp])
 intro W1 hE hF
 have HB1:=ae (aY HB0.o hE.below)
 have Nc:=ae (Ext.below hE)
 clear hE hF c0 f0 oZ
 obtain⟨c1,f1,l1⟩:=af ((HB1.o.block _ lw).trans HO.o.blk)
 obtain⟨wU,hcs1⟩:=HW.o W1 (HB1.o.mono gK)
 have n10:=hcs1 0 (by simp)
 simp only[au] at n10
 clear hcs1
 go_wp2_with fail
 refine(jk _ _ _).mono ?_
 rintro e W2 ⟨hb,⟨hc,rfl⟩|⟨hc,rfl⟩⟩
 rotate_left
 ·simp at hc
  simp only[iL,bZ,cu,dD]
  (repeat (first|rw[aA (by omega)]|rw[ai (by omega)]))
  exact⟨rfl,(aY HB1.o hb).mono gK,.inr ⟨by simp,rfl⟩⟩
 simp at hc
 have HB2:=ae (aY HB1.o hb)
 have HS2:=ae hb
 have jS:=ae hc
 clear hb hc c1 f1 wU n10
 obtain⟨c2,f2,l2⟩:=af ((HB2.o.block _ lw).trans HO.o.blk)
 obtain⟨xR,hcs2⟩:=HW.o W2 (HB2.o.mono gK)
 have n20:=hcs2 0 (by simp)
 simp only[au] at n20
 clear hcs2
 go_wp2_with fail
 have hlt:=jS.o
 have MF:=HO.o.below HB2.o
 have h6:W2.ownsRow N 122 3 (.slice o s.heap.readings.length cc) (s.heap.readings.length) (aX s.heap.readings):=MF.rows.own 4 _ rfl
 obtain⟨g,rfl, -,hfg,hgl⟩:=ig h6 (by have:=jS.o;omega)
 have hg1:wb≠g:=fun e=>MF.rows.off 4 _ rfl (by rw[e];rfl)
 have hg2:b≠g:=fun e=>by have:=(h6.lt g rfl).1;omega
 have hg3:g≠wb:=fun e=>hg1 e.symm
 have hg4:g≠b:=fun e=>hg2 e.symm
 have jA:=ae MF
 have H6:=ae h6
 clear MF h6
 refine zg 15 [g] (some 14) [(14,⟨fun _ v=>v= .slice (some ⟨g,0,none⟩) (s.heap.readings.length-1) cc,fun _ v Wx=>Wx.ownsRow N 122 3 (.slice (some ⟨g,0,none⟩) (s.heap.readings.length-1) cc) (s.heap.readings.length-1) ((aX s.heap.readings).take (x*3)++(aX s.heap.readings).drop (x*3+3))⟩)] ?_
 simp only[zt]
 repeat ((first|refine zd ?_|refine zk ?_);simp only[zp])
 refine bM _ (by rfl) (by rfl) ⟨_,rfl⟩ (fun W6 hE hF=>?_) (fun v Wa Wb ho hE=>?_) (fun v hv=>?_)
 ·have hE':Ext [] W2 W6:=hE
  refine dB 259 #[.slice (some ⟨g,0,none⟩) s.heap.readings.length cc,iv x,iv (x+1)] (by go_simp;try rfl) ?_
  refine(PD N g _ cc x (aX s.heap.readings) W6 (aB (Ms:=[]) H6.o hE' (by simp)) (uS _) (by have:=jS.o;omega) (by omega)).mono ?_
  rintro e w' ⟨rfl,h1,h2⟩
  exact⟨_,rfl,rfl,h1,h2⟩
 ·exact aB (Ms:=[]) ho hE (by simp)
 obtain rfl:v= .slice (some ⟨g,0,none⟩) (s.heap.readings.length-1) cc:=hv
 simp only[zp]
 intro W3 hE hF
 have qG:W3.ownsRow N 122 3 (.slice (some ⟨g,0,none⟩) (s.heap.readings.length-1) cc) (s.heap.readings.length-1) ((aX s.heap.readings).take (x*3)++(aX s.heap.readings).drop (x*3+3)):=hF _ (bK _)
 have ik:Ext [g] W2 W3:=hE
 have hbl:=(ik.block wb jA.o.rows.lt (by simpa using hg1)).trans jA.o.blk
 obtain⟨c3,f3,l3⟩:=af hbl
 have jc:=ae (ag ik (ag qG hbl))
 have qc:=ae (show Below N w W3 from(HB2.o.mono gK).trans ⟨ik.os,ik.tape,ik.output,ik.size,fun k hk=>ik.block k (by have:=HB2.o.size;omega) (fun h=>by have:=(H6.o.lt g rfl).1;have:=eU.1 h;omega)⟩)
 clear hE hF ik qG hbl hg1 hg2 hg3 hg4 hfg hgl c2 f2 xR n20
 go_wp2_with fail
 go_end0
 have q0:=jS.o
 simp only[iL,bZ,cu,dD]
 (repeat (first|rw[aA (by omega)]|rw[ai (by omega)]))
 refine⟨qc.o.setCell wI _,.inl ⟨rfl,rfl,⟨vt,vn,vw,vu,.slice (some ⟨g,0,none⟩) (s.heap.readings.length-1) cc,vh,vk,vs⟩,es,jA.o.put (i:=4) rfl ⟨122,3,.slice (some ⟨g,0,none⟩) (s.heap.readings.length-1) cc,s.heap.readings.length-1,(aX s.heap.readings).take (x*3)++(aX s.heap.readings).drop (x*3+3)⟩ jc.o.1 (fun m hm=>by rw[eU.1 hm];rfl) jc.o.2.1 (.inl rfl) (aJ jc.o.2.2 _) (by simp only[iR,gU,Int.toNat_natCast];rw[List.length_eraseIdx_of_lt hlt,show aX (s.heap.readings.eraseIdx x)=_ from wY _ 3 (fun _=>rfl) s.heap.readings x hlt];rfl) (jA.o.es)⟩⟩
theorem VP (N:Nat) (w:World) (wb:Nat) (s:jF) (V:SV) (es:List KE) (ns:Value) (x:Nat) (hO:jV N w wb s V es) (hn:rW N w ns [(x:Int)]) (hG:gu s):Calls Tryz.prog 196 #[.pointer (some ⟨wb,0,none⟩),ns] w (rC N wb (iL s .qJ [(x:Int)]) w):=by
 obtain⟨vt,vn,vw,vu,vr,vh,vk,vs⟩:=V
 obtain⟨o,cc,rfl⟩: ∃o c,vs= .slice o s.dn.aK.length c:=aU (n:=s.dn.aK.length) (hO.rows.own 7 _ rfl)
 have HO:=ae hO
 have gK:=eX hO
 obtain⟨b,c,rfl,hbN,hcs⟩:=hn
 have lb:b<w.heap.size:=by omega
 have lw:=hO.rows.lt
 have wI:=hO.rows.base
 have HW:Hid (∀W,Below N w W->b<W.heap.size/\ ∀(j:Nat) (h:j<[(x:Int)].length),W.cell? ⟨b,j,none⟩=some (iv [(x:Int)][j])):=ae (fun W hB=>⟨by have:=hB.size;omega,fun j h=>(jh (hB.block b hbN)).trans (hcs j h)⟩)
 obtain⟨c0,f0,l0⟩:=af hO.blk
 have oZ:=hcs 0 (by simp)
 simp only[au] at oZ
 have HB0:Hid (Below w.heap.size w w):=ae (aG _ _)
 have L9:=hG.aK
 clear hO hcs hG
 go_enter Tryz.func196,Tryz.ntmps196
 go_wp2_with fail
 refine zg 8 [] none [] ?_
 simp only[zt]
 repeat ((first|refine zd ?_|refine zk ?_);simp only[zp])
 intro W1 hE hF
 have HB1:=ae (aY HB0.o hE.below)
 have Nc:=ae (Ext.below hE)
 clear hE hF c0 f0 oZ
 obtain⟨c1,f1,l1⟩:=af ((HB1.o.block _ lw).trans HO.o.blk)
 obtain⟨wU,hcs1⟩:=HW.o W1 (HB1.o.mono gK)
 have n10:=hcs1 0 (by simp)
 simp only[au] at n10
 clear hcs1
 go_wp2_with fail
 refine(jk _ _ _).mono ?_
 rintro e W2 ⟨hb,⟨hc,rfl⟩|⟨hc,rfl⟩⟩
 rotate_left
 ·simp at hc
  simp only[iL,bZ,cu,dD]
  (repeat (first|rw[aA (by omega)]|rw[ai (by omega)]))
  exact⟨rfl,(aY HB1.o hb).mono gK,.inr ⟨by simp,rfl⟩⟩
 simp at hc
 have HB2:=ae (aY HB1.o hb)
 have HS2:=ae hb
 have jS:=ae hc
 clear hb hc c1 f1 wU n10
 obtain⟨c2,f2,l2⟩:=af ((HB2.o.block _ lw).trans HO.o.blk)
 obtain⟨xR,hcs2⟩:=HW.o W2 (HB2.o.mono gK)
 have n20:=hcs2 0 (by simp)
 simp only[au] at n20
 clear hcs2
 go_wp2_with fail
 have hlt:=jS.o
 have MF:=HO.o.below HB2.o
 have h6:W2.ownsRow N 124 4 (.slice o s.dn.aK.length cc) (s.dn.aK.length) (gV s.dn.aK):=MF.rows.own 7 _ rfl
 obtain⟨g,rfl, -,hfg,hgl⟩:=ig h6 (by have:=jS.o;omega)
 have hg1:wb≠g:=fun e=>MF.rows.off 7 _ rfl (by rw[e];rfl)
 have hg2:b≠g:=fun e=>by have:=(h6.lt g rfl).1;omega
 have hg3:g≠wb:=fun e=>hg1 e.symm
 have hg4:g≠b:=fun e=>hg2 e.symm
 have jA:=ae MF
 have H6:=ae h6
 clear MF h6
 refine zg 13 [g] (some 12) [(12,⟨fun _ v=>v= .slice (some ⟨g,0,none⟩) (s.dn.aK.length-1) cc,fun _ v Wx=>Wx.ownsRow N 124 4 (.slice (some ⟨g,0,none⟩) (s.dn.aK.length-1) cc) (s.dn.aK.length-1) ((gV s.dn.aK).take (x*4)++(gV s.dn.aK).drop (x*4+4))⟩)] ?_
 simp only[zt]
 repeat ((first|refine zd ?_|refine zk ?_);simp only[zp])
 refine bM _ (by rfl) (by rfl) ⟨_,rfl⟩ (fun W6 hE hF=>?_) (fun v Wa Wb ho hE=>?_) (fun v hv=>?_)
 ·have hE':Ext [] W2 W6:=hE
  refine dB 262 #[.slice (some ⟨g,0,none⟩) s.dn.aK.length cc,iv x,iv (x+1)] (by go_simp;try rfl) ?_
  refine(ML N g _ cc x (gV s.dn.aK) W6 (aB (Ms:=[]) H6.o hE' (by simp)) (Om _) (by have:=jS.o;omega) (by omega)).mono ?_
  rintro e w' ⟨rfl,h1,h2⟩
  exact⟨_,rfl,rfl,h1,h2⟩
 ·exact aB (Ms:=[]) ho hE (by simp)
 obtain rfl:v= .slice (some ⟨g,0,none⟩) (s.dn.aK.length-1) cc:=hv
 simp only[zp]
 intro W3 hE hF
 have qG:W3.ownsRow N 124 4 (.slice (some ⟨g,0,none⟩) (s.dn.aK.length-1) cc) (s.dn.aK.length-1) ((gV s.dn.aK).take (x*4)++(gV s.dn.aK).drop (x*4+4)):=hF _ (bK _)
 have ik:Ext [g] W2 W3:=hE
 have hbl:=(ik.block wb jA.o.rows.lt (by simpa using hg1)).trans jA.o.blk
 obtain⟨c3,f3,l3⟩:=af hbl
 have jc:=ae (ag ik (ag qG hbl))
 have qc:=ae (show Below N w W3 from(HB2.o.mono gK).trans ⟨ik.os,ik.tape,ik.output,ik.size,fun k hk=>ik.block k (by have:=HB2.o.size;omega) (fun h=>by have:=(H6.o.lt g rfl).1;have:=eU.1 h;omega)⟩)
 clear hE hF ik qG hbl hg1 hg2 hg3 hg4 hfg hgl c2 f2 xR n20
 go_wp2_with fail
 go_end0
 have q0:=jS.o
 simp only[iL,bZ,cu,dD]
 (repeat (first|rw[aA (by omega)]|rw[ai (by omega)]))
 refine⟨qc.o.setCell wI _,.inl ⟨rfl,rfl,⟨vt,vn,vw,vu,vr,vh,vk,.slice (some ⟨g,0,none⟩) (s.dn.aK.length-1) cc⟩,es,jA.o.put (i:=7) rfl ⟨124,4,.slice (some ⟨g,0,none⟩) (s.dn.aK.length-1) cc,s.dn.aK.length-1,(gV s.dn.aK).take (x*4)++(gV s.dn.aK).drop (x*4+4)⟩ jc.o.1 (fun m hm=>by rw[eU.1 hm];rfl) jc.o.2.1 (.inl rfl) (aJ jc.o.2.2 _) (by simp only[iR,fC,Int.toNat_natCast];rw[List.length_eraseIdx_of_lt hlt,show gV (s.dn.aK.eraseIdx x)=_ from wY _ 4 (fun _=>rfl) s.dn.aK x hlt];rfl) (jA.o.es)⟩⟩
theorem yE (last:Int) (p:Int->Bool):(gI last p).Nodup:=by
 unfold gI
 refine List.Pairwise.filter _ ?_
 refine List.Pairwise.map _ (fun a b h=>?_) List.nodup_range
 intro e;exact h (by omega)
theorem Mc (last:Int) (p:Int->Bool):(gI last p).Pairwise (fun a b=>(decide (a<=b))=true):=by
 unfold gI
 refine List.Pairwise.filter _ ?_
 refine List.Pairwise.map _ (fun a b h=>?_) List.pairwise_le_range
 simpa using h
theorem Dl (p:Int->Bool):(gI 4 p).length<=5:=by
 unfold gI
 refine jq (List.length_filter_le _ _) ?_
 simp
theorem Xf (p:Int->Bool) (x:Int) (h0:0<=x) (h4:x<=4) (hx:(gI 4 p).contains x=false):((gI 4 p++[x]).mergeSort fun a b=>decide (a<=b))=gI 4 fun i=>i==x ||(gI 4 p).contains i:=by
 have hn: ¬x∈gI 4 p:=by
  intro h
  rw[List.contains_eq_mem,decide_eq_false_iff_not] at hx
  exact hx h
 have hp:(gI 4 p++[x]).mergeSort (fun a b=>decide (a<=b)) |>.Perm (gI 4 fun i=>i==x ||(gI 4 p).contains i):=by
  refine(List.mergeSort_perm _ _).trans ?_
  rw[List.perm_ext_iff_of_nodup]
  ·intro a
   rw[iI,eU]
   constructor
   ·rintro(h|rfl)
    ·have:=vX.1 h
     exact vX.2 ⟨this.1,by simp[List.contains_eq_mem,h]⟩
    ·exact vX.2 ⟨⟨h0,h4⟩,by simp⟩
   ·intro h
    replace h:=(vX.1 h).2
    simp only[Bool.or_eq_true,beq_iff_eq,List.contains_eq_mem,eY] at h
    exact h.symm
  ·rw[List.nodup_append]
   refine⟨yE 4 p,by simp,fun a ha b hb=>?_⟩
   rw[eU.1 hb]
   intro e;exact hn (e▸ha)
  ·exact yE 4 _
 refine hp.eq_of_pairwise (le:=fun a b=>(decide (a<=b))=true) (fun a b _ _ h1 h2=>?_) ?_ (Mc 4 _)
 ·simp only[eY] at h1 h2;omega
 ·refine List.pairwise_mergeSort (fun a b c h1 h2=>?_) (fun a b=>?_) _
  ·simp only[eY] at*;omega
  ·simp only[Bool.or_eq_true,eY];omega
theorem erase_filter: ∀(l:List Int) (k:Nat) (x:Int),l.Nodup->l[k]? =some x->l.eraseIdx k=l.filter (fun i=>i !=x):=by
 intro l
 induction l with
 |nil=>intro k x _ h;cases h
 |cons y l ih=>
  intro k x hn h
  rw[List.nodup_cons] at hn
  cases k with
  |zero=>
   simp only[List.getElem?_cons_zero,Option.some.injEq] at h
   subst h
   rw[List.eraseIdx_cons_zero,List.filter_cons,ai (by simp)]
   symm
   rw[List.filter_eq_self]
   intro a ha
   simp only[bne_iff_ne,ne_eq]
   intro e;exact hn.1 (e▸ha)
  |succ k=>
   have hm:x∈l:=nJ (i:=k) (by simpa using h)
   rw[List.eraseIdx_cons_succ,List.filter_cons,aA (by simp only[bne_iff_ne,ne_eq];intro e;exact hn.1 (e▸hm)),ih k x hn.2 (by simpa using h)]
theorem O5 (p:Int->Bool) (k:Nat) (x:Int) (h:(gI 4 p)[k]? =some x):(gI 4 p).eraseIdx k=gI 4 fun i=>i !=x&&(gI 4 p).contains i:=by
 rw[erase_filter _ k x (yE 4 p) h]
 conv=>lhs;unfold gI
 conv=>rhs;unfold gI
 rw[List.filter_filter]
 apply List.filter_congr
 intro i hi
 have:(List.filter p (List.map (fun(k:Nat)=>(k:Int)) (List.range (4+1:Int).toNat))).contains i=p i:=by
  rw[Bool.eq_iff_iff,List.contains_iff_mem,List.mem_filter]
  exact⟨fun h=>h.2,fun h=>⟨hi,h⟩⟩
 rw[this]
theorem Xb (l:List Int) (v:Value) (n:Int) (w:World) (hv:aP w v l):Calls Tryz.prog 219 #[v,iv n] w (fun e w'=>w=w'/\((∃k:Nat,l[k]? =some n/\e= .returned (iv k))∨(l.contains n=false/\e= .returned (iv (-1))))):=by
 have hlen:=hv.len
 obtain⟨o,c,rfl⟩:=hv.open
 have HV:=ae hv
 clear hv
 go_enter Tryz.func219,Tryz.ntmps219
 go_wp2
 go_loop [4,5,8] (fun _ _ i=> ∃k:Nat,k<=l.length/\i= .int .i64 k/\(∀j (hj:j<l.length),j<k->l[j]≠n)) (fun _ _ i=>l.length-(intOf i).toNat)
 case atStart=>exact⟨0,bU _,rfl,fun j _ hj=>by omega⟩
 case round=>
  obtain⟨k,hk,rfl,hno⟩:=hrel
  have HN:=ae hno
  clear hno
  by_cases hlt:k<l.length
  ·obtain⟨b,off,rfl,hb,hc0⟩:=aP.cell HV.o hlt
   by_cases he:l[k]=n
   ·have he':(n==l[k])=true:=by simp[he]
    have HE:=ae he
    clear he
    go_wp2
    go_returns
    exact⟨rfl,.inl ⟨k,by rw[<-HE.o];exact dP hlt,by simp⟩⟩
   ·have he':(n==l[k])=false:=by simp;omega
    have HE:=ae he
    clear he
    go_wp2
    go_round
    case rel=>exact⟨k+1,by omega,by go_num,fun j hj hjk=>(by by_cases e:j=k;(subst e;exact HE.o);exact HN.o j hj (by omega))⟩
    case measure=>simp[intOf];omega
  ·have hkl:k=l.length:=by omega
   go_wp2
   go_returns
   refine⟨rfl,.inr ⟨?_,by simp⟩⟩
   intro hm
   obtain⟨j,hj,e⟩:=mJ hm
   exact HN.o j hj (by omega) e
theorem QX (N:Nat) (w:World) (wb:Nat) (s:jF) (V:SV) (es:List KE) (ns:Value) (x:Int) (hO:jV N w wb s V es) (hn:rW N w ns [x]) (hG:gu s):Calls Tryz.prog 188 #[.pointer (some ⟨wb,0,none⟩),ns] w (rC N wb (iL s .mY [x]) w):=by
 obtain⟨vt,vn,vw,vu,vr,vh,vk,vs⟩:=V
 obtain⟨o,cc,rfl⟩: ∃o c,vu= .slice o s.heap.turns.length c:=aU (n:=s.heap.turns.length) (hO.rows.own 3 _ rfl)
 have HO:=ae hO
 have gK:=eX hO
 obtain⟨b,c,rfl,hbN,hcs⟩:=hn
 have lb:b<w.heap.size:=by omega
 have lw:=hO.rows.lt
 have wI:=hO.rows.base
 have HW:Hid (∀W,Below N w W->b<W.heap.size/\ ∀(j:Nat) (h:j<[x].length),W.cell? ⟨b,j,none⟩=some (iv [x][j])):=ae (fun W hB=>⟨by have:=hB.size;omega,fun j h=>(jh (hB.block b hbN)).trans (hcs j h)⟩)
 obtain⟨c0,f0,l0⟩:=af hO.blk
 have oZ:=hcs 0 (by simp)
 simp only[au] at oZ
 have HB0:Hid (Below w.heap.size w w):=ae (aG _ _)
 obtain⟨pt,hpt⟩:=hG.turns
 have L9:s.heap.turns.length<=5:=by rw[hpt];exact Dl pt
 have hl4:=hG.heap.1
 have HPT:=ae (ag hpt hl4)
 have h6:w.ownsRow N 3 1 (.slice o s.heap.turns.length cc) s.heap.turns.length (ah s.heap.turns):=hO.rows.own 3 _ rfl
 have H6:=ae h6
 clear hpt hl4 h6
 clear hO hcs hG
 go_enter Tryz.func188,Tryz.ntmps188
 go_wp2_with fail
 refine zg 9 [] none [] ?_
 simp only[zt]
 repeat ((first|refine zd ?_|refine zk ?_);simp only[zp])
 intro W1 hE hF
 have HB1:=ae (aY HB0.o hE.below)
 have Nc:=ae (Ext.below hE)
 clear hE hF c0 f0 oZ
 obtain⟨c1,f1,l1⟩:=af ((HB1.o.block _ lw).trans HO.o.blk)
 obtain⟨wU,hcs1⟩:=HW.o W1 (HB1.o.mono gK)
 have n10:=hcs1 0 (by simp)
 simp only[au] at n10
 clear hcs1
 have h61:=aB (Ms:=[]) H6.o (Ext.az HB1.o) (by simp)
 have HX:=ae (Xb s.heap.turns _ x W1 (aN.dH h61))
 clear h61
 go_wp2_with fail
 refine HX.o.mono ?_
 clear HX
 rintro e w1 ⟨rfl,⟨k,hk,rfl⟩|⟨hno,rfl⟩⟩
 ·have hlt:=(ji.1 hk).1
  have HK:=ae hk
  have akU:((k:Int)<0)=False:=by simp
  clear hk
  go_wp2_with fail
  refine(dZ 7 [decide ((k:Int)<0)] W1 (by simp) _ (by simp[dL]) _ _ rfl).mono ?_
  rintro e W2 ⟨hb,⟨hc,rfl⟩|⟨hc,rfl⟩⟩
  rotate_left
  ·exfalso
   have h0:decide ((k:Int)<0)=false:=by simp
   rw[h0] at hc
   exact absurd hc (by decide)
  have HB2:=ae (aY HB1.o hb)
  clear hb hc c1 f1 n10 wU akU
  obtain⟨c2,f2,l2⟩:=af ((HB2.o.block _ lw).trans HO.o.blk)
  obtain⟨xR,hcs2⟩:=HW.o W2 (HB2.o.mono gK)
  have n20:=hcs2 0 (by simp)
  simp only[au] at n20
  clear hcs2
  obtain⟨g,rfl, -,hfg,hgl⟩:=ig H6.o (by omega)
  have h61:=aB (Ms:=[]) H6.o (Ext.az HB2.o) (by simp)
  have hg1:wb≠g:=fun e=>HO.o.rows.off 3 _ rfl (by rw[e];rfl)
  have HD:=ae (TS N g _ cc k (ah s.heap.turns) W2 h61 (jB _) hlt (by omega))
  clear h61 hfg hgl
  go_wp2_with fail
  refine HD.o.mono ?_
  rintro e W3 ⟨rfl,qG,ik⟩
  have hbl:=(ik.block wb l2 (by simpa using hg1)).trans ((HB2.o.block _ lw).trans HO.o.blk)
  obtain⟨c3,f3,l3⟩:=af hbl
  have jc:=ae (ag ik (ag qG hbl))
  have qc:=ae (show Below N w W3 from(HB2.o.mono gK).trans ⟨ik.os,ik.tape,ik.output,ik.size,fun k hk=>ik.block k (by have:=HB2.o.size;omega) (fun h=>by have:=(H6.o.lt g rfl).1;have:=eU.1 h;omega)⟩)
  clear ik qG hbl hg1 HD c2 f2 xR n20
  go_wp2_with fail
  go_end0
  have hcx:s.heap.turns.contains x=true:=by rw[List.contains_iff_mem];exact nJ HK.o
  simp only[iL,List.getD_cons_zero,hcx]
  rw[ai (by simp)]
  have hne:gI s.heap.last (fun i=>i !=x&&s.heap.turns.contains i)=s.heap.turns.eraseIdx k:=by
   have hk:=HK.o
   rw[HPT.o.2,HPT.o.1] at*
   exact(O5 pt k x hk).symm
  rw[hne]
  have hfe:ah (s.heap.turns.eraseIdx k)=(ah s.heap.turns).take k++(ah s.heap.turns).drop (k+1):=by
   unfold ah
   rw[List.eraseIdx_eq_take_drop_succ,List.map_append,List.map_take,List.map_drop]
  refine⟨qc.o.setCell wI _,.inl ⟨rfl,rfl,⟨vt,vn,vw,.slice (some ⟨g,0,none⟩) (s.heap.turns.length-1) cc,vr,vh,vk,vs⟩,es,(HO.o.below HB2.o).put (i:=3) rfl ⟨3,1,.slice (some ⟨g,0,none⟩) (s.heap.turns.length-1) cc,s.heap.turns.length-1,(ah s.heap.turns).take k++(ah s.heap.turns).drop (k+1)⟩ jc.o.1 (fun m hm=>by rw[eU.1 hm];rfl) jc.o.2.1 (.inl rfl) (aJ jc.o.2.2 _) ?_ HO.o.es⟩⟩
  simp only[iR,gU]
  rw[List.length_eraseIdx_of_lt hlt,hfe]
  rfl
 ·have HN:=ae hno
  clear hno
  go_wp2_with fail
  refine(dZ 7 [true] W1 (by simp) _ (by simp[dL]) _ _ rfl).mono ?_
  rintro e W2 ⟨hb,⟨hc,rfl⟩|⟨hc,rfl⟩⟩
  ·exfalso;simp at hc
  simp only[iL,List.getD_cons_zero,HN.o]
  rw[aA True.intro]
  exact⟨rfl,(aY HB1.o hb).mono gK,.inr ⟨by simp,rfl⟩⟩
theorem Y5 (N:Nat) (w:World) (wb:Nat) (s:jF) (V:SV) (es:List KE) (ns:Value) (x:Int) (hO:jV N w wb s V es) (hn:rW N w ns [x]) (hG:gu s) (hx:0<=x):Calls Tryz.prog 187 #[.pointer (some ⟨wb,0,none⟩),ns] w (rC N wb (iL s .turn [x]) w):=by
 obtain⟨vt,vn,vw,vu,vr,vh,vk,vs⟩:=V
 obtain⟨o,cc,rfl⟩: ∃o c,vu= .slice o s.heap.turns.length c:=aU (n:=s.heap.turns.length) (hO.rows.own 3 _ rfl)
 have HO:=ae hO
 have gK:=eX hO
 obtain⟨b,c,rfl,hbN,hcs⟩:=hn
 have lb:b<w.heap.size:=by omega
 have lw:=hO.rows.lt
 have wI:=hO.rows.base
 have HW:Hid (∀W,Below N w W->b<W.heap.size/\ ∀(j:Nat) (h:j<[x].length),W.cell? ⟨b,j,none⟩=some (iv [x][j])):=ae (fun W hB=>⟨by have:=hB.size;omega,fun j h=>(jh (hB.block b hbN)).trans (hcs j h)⟩)
 obtain⟨c0,f0,l0⟩:=af hO.blk
 have oZ:=hcs 0 (by simp)
 simp only[au] at oZ
 have HB0:Hid (Below w.heap.size w w):=ae (aG _ _)
 obtain⟨pt,hpt⟩:=hG.turns
 have L9:s.heap.turns.length<=5:=by rw[hpt];exact Dl pt
 have hl4:=hG.heap.1
 have HPT:=ae (ag hpt hl4)
 have h6:w.ownsRow N 3 1 (.slice o s.heap.turns.length cc) s.heap.turns.length (ah s.heap.turns):=hO.rows.own 3 _ rfl
 have H6:=ae h6
 clear hpt h6
 clear hO hcs hG
 go_enter Tryz.func187,Tryz.ntmps187
 go_wp2_with fail
 refine(yF x wb s _ w ((HB0.o.block _ lw).trans HO.o.blk) hl4).mono ?_
 rintro e W1 ⟨hb,⟨hc,rfl⟩|⟨hc,rfl⟩⟩
 rotate_left
 ·simp at hc
  simp only[iL,bZ,cu,dD]
  (repeat (first|rw[aA (by omega)]|rw[ai (by omega)]))
  exact⟨rfl,(aY HB0.o hb).mono gK,.inr ⟨by simp,rfl⟩⟩
 simp at hc
 have HB1:=ae (aY HB0.o hb)
 have Nc:=ae hb
 have jS:=ae hc
 clear hb hc c0 f0 oZ
 obtain⟨c1,f1,l1⟩:=af ((HB1.o.block _ lw).trans HO.o.blk)
 obtain⟨wU,hcs1⟩:=HW.o W1 (HB1.o.mono gK)
 have n10:=hcs1 0 (by simp)
 simp only[au] at n10
 clear hcs1
 go_wp2_with fail
 refine zg 9 [] none [] ?_
 simp only[zt]
 repeat ((first|refine zd ?_|refine zk ?_);simp only[zp])
 intro W2 hE hF
 have HB2:=ae (aY HB1.o hE.below)
 have HS2:=ae (Ext.below hE)
 clear hE hF c1 f1 wU n10
 obtain⟨c2,f2,l2⟩:=af ((HB2.o.block _ lw).trans HO.o.blk)
 obtain⟨xR,hcs2⟩:=HW.o W2 (HB2.o.mono gK)
 have n20:=hcs2 0 (by simp)
 simp only[au] at n20
 clear hcs2
 have h61:=aB (Ms:=[]) H6.o (Ext.az HB2.o) (by simp)
 have HX:=ae (iQ s.heap.turns _ x W2 (aN.dH h61))
 clear h61
 go_wp2_with fail
 refine HX.o.mono ?_
 clear HX
 rintro e W3 ⟨rfl,hb⟩
 have HB3:=ae (aY HB2.o hb)
 obtain⟨q,hq⟩: ∃q,s.heap.turns.contains x=q:=⟨_,rfl⟩
 rw[hq]
 have HQQ:=ae hq
 clear hb hq c2 f2 xR n20
 obtain⟨c3,f3,l3⟩:=af ((HB3.o.block _ lw).trans HO.o.blk)
 obtain⟨GX,hcs3⟩:=HW.o W3 (HB3.o.mono gK)
 have n30:=hcs3 0 (by simp)
 simp only[au] at n30
 clear hcs3
 go_wp2_with fail
 refine(dZ 6 [q] W3 (by simp) _ (by simp[dL]) _ _ rfl).mono ?_
 rintro e W4 ⟨hb,⟨hc,rfl⟩|⟨hc,rfl⟩⟩
 rotate_left
 ·obtain rfl:q=true:=(by cases q <;>simp_all)
  have q0:=jS.o
  have hqq:=HQQ.o;simp only[iL,List.getD_cons_zero,hqq];rw[ai (by omega),aA True.intro]
  exact⟨rfl,(aY HB3.o hb).mono gK,.inr ⟨by simp,rfl⟩⟩
 obtain rfl:q=false:=(by cases q <;>simp_all)
 have HB4:=ae (aY HB3.o hb)
 have VB:=ae hb
 have rD:=ae hc
 clear hb hc c3 f3 GX n30
 obtain⟨c4,f4,l4⟩:=af ((HB4.o.block _ lw).trans HO.o.blk)
 obtain⟨Np,kC⟩:=HW.o W4 (HB4.o.mono gK)
 have n40:=kC 0 (by simp)
 simp only[au] at n40
 clear kC
 go_wp2_with fail
 obtain⟨Ms,hMs⟩: ∃Ms,Ms=(Value.slice o s.heap.turns.length cc).ownBlock.toList:=⟨_,rfl⟩
 have hO4:=HO.o.below HB4.o
 have hm1:wb∉Ms:=fun h=>hO4.rows.off 3 _ rfl (by rw[hMs] at h;exact dJ.1 h)
 have hm2:b∉Ms:=fun h=>by have:=((hO4.rows.own 3 _ rfl).lt b (by rw[hMs] at h;exact dJ.1 h)).1;omega
 have xG: ∀m∈Ms,m<W4.heap.size:=fun m h=>((hO4.rows.own 3 _ rfl).lt m (by rw[hMs] at h;exact dJ.1 h)).2
 have HM:=ae hMs
 have jA:=ae hO4
 clear hMs hO4
 refine zg 12 Ms (some 11) [(10,Spec.slice W4.heap.size #[iv x] 3 1),(11,⟨fun _ v=> ∃o2 c2,v= .slice o2 (s.heap.turns.length+1) c2,fun _ v Wx=>Wx.ownsRow N 3 1 v (s.heap.turns.length+1) (ah s.heap.turns++[iv x])/\(v.ownBlock=(Value.slice o s.heap.turns.length cc).ownBlock∨ ∃q,v.ownBlock=some q/\W4.heap.size<=q)⟩)] ?_
 simp only[zt]
 repeat ((first|refine zd ?_|refine zk ?_);simp only[zp])
 refine eF W4.heap.size _ _ 1 (by rfl) (ak _) (by rfl) xG (by simp) (fun W hW=>by go_simp;try rfl) (fun b6=>?_)
 simp only[zp]
 repeat ((first|refine zd ?_|refine zk ?_);simp only[zp])
 refine bM _ (by rfl) (by rfl) (by exact⟨.slice none (s.heap.turns.length+1) 0,none,0,rfl⟩) (fun W6 hE hF=>?_) (fun v Wa Wb ho hE=>?_) (fun v hv=>?_)
 ·have hE':Ext [] W4 W6:=hE
  obtain⟨b',hb',hge,hcc⟩:=hF _ (bK _) (by kernel_rfl)
  cases hb'
  have hown6:W6.ownsRow N 3 1 (.slice o s.heap.turns.length cc) s.heap.turns.length (ah s.heap.turns):=aB (Ms:=[]) (jA.o.rows.own 3 _ rfl) hE' (by simp)
  have hsrc:aN 1 W6 (.slice (some ⟨b6,0,none⟩) 1 1) 1 ([iv x]):=aN.dm 1 1 hcc rfl (by decide)
  refine Does.mono (dU rE (by rfl) (by rfl) hown6 (by rfl) hsrc (one_one x) (by omega) (by omega) (by have:=hE'.size;have:=HB4.o.size;omega)) ?_
  rintro v' W7 ⟨ho,hgr,hcase⟩
  refine⟨aU ho,⟨ho,?_⟩,⟨hgr.os,hgr.tape,hgr.output,hgr.size,fun b hb hn=>hgr.block b hb (fun e=>hn (by rw[HM.o];exact dJ.2 e.symm))⟩⟩
  rcases hcase with h1|h1
  ·exact .inl h1
  ·exact .inr ⟨_,h1,hE'.size⟩
 ·exact⟨aB (Ms:=[]) ho.1 hE (by simp),ho.2⟩
 obtain⟨o7,c7,rfl⟩:=hv
 simp only[zp]
 intro W5 hE hF
 obtain⟨qG,Au⟩:=hF _ (bK _)
 have ik:Ext Ms W4 W5:=hE
 have hbl:=(ik.block wb jA.o.rows.lt hm1).trans jA.o.blk
 obtain⟨c5,f5,l5⟩:=af hbl
 have jc:=ae (ag ik (ag qG (ag Au hbl)))
 have EU:Below N w W5:=(HB4.o.mono gK).trans ⟨ik.os,ik.tape,ik.output,ik.size,fun k hk=>ik.block k (by have:=HB4.o.size;omega) (fun h=>by have:=((jA.o.rows.own 3 _ rfl).lt k (by rw[HM.o] at h;exact dJ.1 h)).1;omega)⟩
 have qc:=ae EU
 clear hE hF ik qG Au hbl EU hm1 hm2 xG c4 f4 Np n40
 go_upto_region 3 with(fail)
 refine dF fun W6 qm=>?_
 have hO6:jV N W6 wb (gU s {s.heap with turns:=s.heap.turns++[x]}) ⟨vt,vn,vw,.slice o7 (s.heap.turns.length+1) c7,vr,vh,vk,vs⟩ es:=by
  rw[qm]
  exact jA.o.put (i:=3) rfl ⟨3,1,.slice o7 (s.heap.turns.length+1) c7,s.heap.turns.length+1,ah s.heap.turns++[iv x]⟩ jc.o.1 (fun m hm=>by rw[HM.o] at hm;exact dJ.1 hm) jc.o.2.1 jc.o.2.2.1 (aJ jc.o.2.2.2 _) (by simp[iR,gU,ah]) jA.o.es
 have qf:=ae (show Below N w W6 from by rw[qm];exact qc.o.setCell wI _)
 obtain⟨c6,f6,l6⟩:=af hO6.blk
 have h7:W6.ownsRow N 3 1 (.slice o7 (s.heap.turns.length+1) c7) (s.heap.turns++[x]).length (ah (s.heap.turns++[x])):=hO6.rows.own 3 _ rfl
 rw[dA,List.length_singleton] at h7
 obtain⟨g,rfl, -,hfg,hgl⟩:=ig h7 (by omega)
 obtain⟨cur,h7b,h7c,h7d,h7e,h7f,h7g⟩: ∃cur,N<=g/\W6.heap[g]? =some (.cells cur 3 (0,0))/\s.heap.turns.length+1<=c7/\c7<=maxLen/\cur.size=c7*1/\cur.toList.take ((s.heap.turns.length+1)*1)=ah (s.heap.turns++[x]):=by
  obtain⟨h1,⟨h2,_⟩|⟨g',cc',cs,h2,h3,h4,h5,h6,h7,h8⟩⟩:=h7
  ·cases h2
  ·cases h2;exact⟨cs,h3,h4,h5,h6,h7,h8⟩
 have hHo:=holds_of_blockI (ss:=s.heap.turns++[x]) h7c (by rw[dA,List.length_singleton, <-Nat.mul_one (s.heap.turns.length+1)];exact h7g)
 have hsort:=Go.Proofs.Tryz.slices_Sort_int g 0 c7 (s.heap.turns++[x]) W6 hHo hgl (by rw[dA,List.length_singleton];omega)
 rw[dA,List.length_singleton] at hsort
 have Nj:=ae (ag hO6 (ag h7b (ag h7c (ag h7d (ag h7e h7f)))))
 have HST:=ae hsort
 clear qm hO6 h7 h7b h7c h7d h7e h7f h7g hHo hsort c5 f5
 go_wp2_with fail
 refine HST.o.mono ?_
 rintro e W9 ⟨rfl,n9,os,rfl⟩
 (try go_wp2_with fail)
 go_end0
 have q0:=jS.o
 have q1:=rD.o
 have hqq:=HQQ.o
 simp only[iL,List.getD_cons_zero,hqq]
 rw[ai (by omega),ai (by simp)]
 have hne:((s.heap.turns++[x]).mergeSort fun a b=>decide (a<=b))=gI s.heap.last (fun i=>i==x ||s.heap.turns.contains i):=by
  rw[HPT.o.2,HPT.o.1] at*
  exact Xf pt x hx (by omega) hqq
 have hlen:((s.heap.turns++[x]).mergeSort fun a b=>decide (a<=b)).length=(s.heap.turns++[x]).length:=List.length_mergeSort _
 have hown:=ownsRow_sortedI (n:=n9) (os:=os) (ss:=s.heap.turns++[x]) hlen Nj.o.2.1 Nj.o.2.2.1 (by rw[dA,List.length_singleton];exact Nj.o.2.2.2.1) Nj.o.2.2.2.2.1 Nj.o.2.2.2.2.2
 have hgb:=grownBy_sortedI (w:=W6) (g:=g) (n:=n9) (os:=os) ((s.heap.turns++[x]).mergeSort fun a b=>decide (a<=b)).toArray
 have hE9:Ext [g] W6 (Go.Sort.grow (Go.Sort.putRow (Value.int .i64) (Go.Sort.ahead W6 n9) g 0 ((s.heap.turns++[x]).mergeSort fun a b=>decide (a<=b)).toArray) os):=⟨hgb.os,hgb.tape,hgb.output,hgb.size,fun k hk hm=>hgb.block k hk (fun e=>hm (by simp[iV e]))⟩
 refine⟨qf.o.trans ⟨hE9.os,hE9.tape,hE9.output,hE9.size,fun k hk=>hE9.block k (by have:=qf.o.size;omega) (fun h=>by have:=Nj.o.2.1;have:=eU.1 h;omega)⟩,.inl ⟨rfl,rfl,_,es,Nj.o.1.over (i:=3) rfl (g:=g) rfl hE9 (ah ((s.heap.turns++[x]).mergeSort fun a b=>decide (a<=b))) ?_ ?_ rfl HO.o.es⟩⟩
 ·have h:=hown
  rw[dA,List.length_singleton] at h
  show World.ownsRow _ N 3 1 (.slice (some ⟨g,0,none⟩) (s.heap.turns.length+1) c7) (s.heap.turns++[x]).length _
  rw[dA,List.length_singleton]
  exact h
 ·rw[<-hne]
  simp only[iR,gU]
  rw[hlen]
  rfl
structure oG (w:World) (s:jF) (V:SV) (es:List KE):Prop where
 vO:dM w V.vO s.led.field.ax
 QL:bz w V.QL s.led.notes
 bW:bP w V.bW s.heap.bW
 Fg:aP w V.Fg s.heap.turns
 Eh:bz w V.Eh s.heap.readings
 dn:pq w V.hps V.cks V.trs es s.dn
theorem oG.below {w W:World} {s:jF} {V:SV} {es:List KE} (h:oG w s V es) {B:Nat} (hb:Below B w W) (hB:w.heap.size<=B):oG W s V es:=
 ⟨h.vO.below hb hB,h.QL.below hb hB,h.bW.below hb hB,h.Fg.below hb hB,h.Eh.below hb hB,h.dn.below hb hB⟩
theorem jV.st {N:Nat} {w:World} {wb:Nat} {s:jF} {V:SV} {es:List KE} (h:jV N w wb s V es):oG w s V es where
 vO:=aN.dH (h.rows.own 0 _ rfl)
 QL:=aN.dH (h.rows.own 1 _ rfl)
 bW:=aN.dH (h.rows.own 2 _ rfl)
 Fg:=aN.dH (h.rows.own 3 _ rfl)
 Eh:=aN.dH (h.rows.own 4 _ rfl)
 dn:=⟨aN.dH (h.rows.own 5 _ rfl),⟨aN.dH (h.rows.own 6 _ rfl),fun e he=>by
  obtain⟨k,hk,rfl⟩:=mJ he
  exact aN.dH (h.rows.own (8+k) _ (zi s V es (dP hk)))⟩,h.es,aN.dH (h.rows.own 7 _ rfl)⟩
def bF (s:jF):Int:=
 if fQ s.led.field true≠0 then 11 else if iU s.led≠0 then 9 else if wz s.heap≠0 then 3
 else if jG.jo s.heap s.heap.turns≠0 then 11 else if jG.oL s.heap s.heap.turns=2 then 9
 else if qp s.dn≠0 then 3 else if jg s.dn true≠0 then 11 else 0
def afs (s:jF) (w:World) (e:Ending) (w':World):Prop:=
 Below w.heap.size w w'/\((bF s=0/\e= .returned (.tuple #[]))∨(bF s≠0/\e= .panicked (kG (bF s))))
theorem ae5 (f:bV) (tv:Value) (w:World) (ht:dM w tv f.ax):Calls Tryz.prog 15 #[fv f tv] w (fun e w'=>Below w.heap.size w w'/\ ∃v,e= .returned (.tuple #[v,iv (fQ f true)])):=by
 refine(CW f tv w ht).mono ?_
 rintro e w' ⟨hb,⟨_,rfl⟩|⟨h0,v,rfl,_⟩⟩
 ·exact⟨hb,_,rfl⟩
 ·exact⟨hb,v,by rw[h0]⟩
theorem WY (c:bQ) (hv nO tv:Value) (es:List KE) (w:World) (hc:pq w hv nO tv es c):Calls Tryz.prog 17 #[kv hv nO tv] w (fun e w'=>Below w.heap.size w w'/\ ∃v u,e= .returned (.tuple #[v,u,iv (jg c true)])):=by
 refine(yC c hv nO tv es w hc).mono ?_
 rintro e w' ⟨hb,⟨_,rfl⟩|⟨h0,v,u,rfl,_⟩⟩
 ·exact⟨hb,_,_,rfl⟩
 ·exact⟨hb,v,u,by rw[h0]⟩
theorem VX (s:jF) (V:SV) (es:List KE) (w:World) (hS:oG w s V es):Calls Tryz.prog 115 #[.agg (dw s V)] w (afs s w):=by
 obtain⟨vt,vn,vw,vu,vr,vh,vk,vs⟩:=V
 have HS:Hid (∀W,Below w.heap.size w W->oG W s ⟨vt,vn,vw,vu,vr,vh,vk,vs⟩ es):=ae (fun W hb=>hS.below hb (ak _))
 obtain⟨w0,hw0⟩: ∃w0,w0=w.alloc (.cells (dw s ⟨vt,vn,vw,vu,vr,vh,vk,vs⟩) 46):=⟨_,rfl⟩
 have HB0:Hid (Below w.heap.size w w0):=ae (by rw[hw0];exact aj (aG _ _) _)
 have HK0:Hid (w0.heap[w.heap.size]? =some (.cells (dw s ⟨vt,vn,vw,vu,vr,vh,vk,vs⟩) 46 (0,0))):=ae (by rw[hw0];exact ay _ _)
 have hsz:w0.heap.size=w.heap.size+1:=by rw[hw0];simp
 clear hS
 go_enter Tryz.func115,Tryz.ntmps115
 go_upto_region 1 with(fail)
 refine dF fun W1 hW1=>?_
 rw[<-hw0] at hW1
 subst hW1
 obtain⟨c0,f0,l0⟩:=af HK0.o
 clear hw0
 go_wp2_with fail
 have HB:=HB0
 have HK:=HK0
 refine(ae5 s.led.field _ _ (HS.o _ HB0.o).vO).mono ?_
 rintro e X1 ⟨hb,v,rfl⟩
 have HB1:=ae (aY HB.o hb)
 have UL:=ae ((hb.block _ l0).trans HK.o)
 obtain⟨c1,f1,l1⟩:=af UL.o
 clear hb c0 f0
 obtain⟨q0,hq0⟩: ∃q,fQ s.led.field true=q:=⟨_,rfl⟩
 rw[hq0]
 have jS:=ae hq0
 clear hq0
 go_wp2_with fail
 refine(dZ 11 [q0 !=0] X1 (by simp) _ (by simp[dL]) _ _ rfl).mono ?_
 rintro e X2 ⟨hb,⟨hc,rfl⟩|⟨hc,rfl⟩⟩
 rotate_left
 ·have hz:q0≠0:=by simpa using hc
  have hv:bF s=11:=by
   unfold bF
   simp only[jS.o]
   rw[aA hz]
  exact⟨rfl,aY HB1.o hb,.inr ⟨by rw[hv];decide,by rw[hv]⟩⟩
 have hz:q0=0:=by simpa using hc
 have HZ0:=ae hz
 have HB2:=ae (aY HB1.o hb)
 have KP:=ae ((hb.block _ l1).trans UL.o)
 obtain⟨c2,f2,l2⟩:=af KP.o
 clear hb hc hz c1 f1
 go_wp2_with fail
 refine(Fz s.led vt vn _ (HS.o _ HB2.o).vO (HS.o _ HB2.o).QL).mono ?_
 rintro e X3 ⟨rfl,hb⟩
 have HB3:=ae (aY HB2.o hb)
 have FU:=ae ((hb.block _ l2).trans KP.o)
 obtain⟨c3,f3,l3⟩:=af FU.o
 clear hb c2 f2
 obtain⟨q1,hq1⟩: ∃q,iU s.led=q:=⟨_,rfl⟩
 rw[hq1]
 have rD:=ae hq1
 clear hq1
 go_wp2_with fail
 refine(dZ 9 [q1 !=0] X3 (by simp) _ (by simp[dL]) _ _ rfl).mono ?_
 rintro e X4 ⟨hb,⟨hc,rfl⟩|⟨hc,rfl⟩⟩
 rotate_left
 ·have hz:q1≠0:=by simpa using hc
  have hv:bF s=9:=by
   unfold bF
   simp only[jS.o,rD.o]
   rw[ai (by have:=HZ0.o;omega)]
   rw[aA hz]
  exact⟨rfl,aY HB3.o hb,.inr ⟨by rw[hv];decide,by rw[hv]⟩⟩
 have hz:q1=0:=by simpa using hc
 have HZ1:=ae hz
 have HB4:=ae (aY HB3.o hb)
 have HK4:=ae ((hb.block _ l3).trans FU.o)
 obtain⟨c4,f4,l4⟩:=af HK4.o
 clear hb hc hz c3 f3
 go_wp2_with fail
 refine(jG.wC s.heap vw vu vr _ (HS.o _ HB4.o).bW (HS.o _ HB4.o).Fg (HS.o _ HB4.o).Eh).mono ?_
 rintro e X5 ⟨rfl,hb⟩
 have oK:=ae (aY HB4.o hb)
 have UK:=ae ((hb.block _ l4).trans HK4.o)
 obtain⟨c5,f5,l5⟩:=af UK.o
 clear hb c4 f4
 obtain⟨q2,hq2⟩: ∃q,wz s.heap=q:=⟨_,rfl⟩
 rw[hq2]
 have xI:=ae hq2
 clear hq2
 go_wp2_with fail
 refine(dZ 3 [q2 !=0] X5 (by simp) _ (by simp[dL]) _ _ rfl).mono ?_
 rintro e X6 ⟨hb,⟨hc,rfl⟩|⟨hc,rfl⟩⟩
 rotate_left
 ·have hz:q2≠0:=by simpa using hc
  have hv:bF s=3:=by
   unfold bF
   simp only[jS.o,rD.o,xI.o]
   rw[ai (by have:=HZ0.o;omega)]
   rw[ai (by have:=HZ1.o;omega)]
   rw[aA hz]
  exact⟨rfl,aY oK.o hb,.inr ⟨by rw[hv];decide,by rw[hv]⟩⟩
 have hz:q2=0:=by simpa using hc
 have HZ2:=ae hz
 have qf:=ae (aY oK.o hb)
 have HK6:=ae ((hb.block _ l5).trans UK.o)
 obtain⟨c6,f6,l6⟩:=af HK6.o
 clear hb hc hz c5 f5
 go_wp2_with fail
 refine(jG.D9 s.heap vw vu vr vu s.heap.turns _ (HS.o _ qf.o).bW (HS.o _ qf.o).Fg (HS.o _ qf.o).Eh (HS.o _ qf.o).Fg).mono ?_
 rintro e X7 ⟨rfl,hb⟩
 have Ba:=ae (aY qf.o hb)
 have xB:=ae ((hb.block _ l6).trans HK6.o)
 obtain⟨c7,f7,l7⟩:=af xB.o
 clear hb c6 f6
 obtain⟨q3,hq3⟩: ∃q,jG.jo s.heap s.heap.turns=q:=⟨_,rfl⟩
 rw[hq3]
 have IU:=ae hq3
 clear hq3
 obtain⟨q4,hq4⟩: ∃q,jG.oL s.heap s.heap.turns=q:=⟨_,rfl⟩
 rw[hq4]
 have VC:=ae hq4
 clear hq4
 go_wp2_with fail
 refine(dZ 11 [q3 !=0] X7 (by simp) _ (by simp[dL]) _ _ rfl).mono ?_
 rintro e X8 ⟨hb,⟨hc,rfl⟩|⟨hc,rfl⟩⟩
 rotate_left
 ·have hz:q3≠0:=by simpa using hc
  have hv:bF s=11:=by
   unfold bF
   simp only[jS.o,rD.o,xI.o,IU.o,VC.o]
   rw[ai (by have:=HZ0.o;omega)]
   rw[ai (by have:=HZ1.o;omega)]
   rw[ai (by have:=HZ2.o;omega)]
   rw[aA hz]
  exact⟨rfl,aY Ba.o hb,.inr ⟨by rw[hv];decide,by rw[hv]⟩⟩
 have hz:q3=0:=by simpa using hc
 have HZ3:=ae hz
 have qc:=ae (aY Ba.o hb)
 have HK8:=ae ((hb.block _ l7).trans xB.o)
 obtain⟨c8,f8,l8⟩:=af HK8.o
 clear hb hc hz c7 f7
 go_wp2_with fail
 go_wp2_with fail
 refine(dZ 9 [q4==2] X8 (by simp) _ (by simp[dL]) _ _ rfl).mono ?_
 rintro e X9 ⟨hb,⟨hc,rfl⟩|⟨hc,rfl⟩⟩
 rotate_left
 ·have hz:q4=2:=by simpa using hc
  have hv:bF s=9:=by
   unfold bF
   simp only[jS.o,rD.o,xI.o,IU.o,VC.o]
   rw[ai (by have:=HZ0.o;omega)]
   rw[ai (by have:=HZ1.o;omega)]
   rw[ai (by have:=HZ2.o;omega)]
   rw[ai (by have:=HZ3.o;omega)]
   rw[aA hz]
  exact⟨rfl,aY qc.o hb,.inr ⟨by rw[hv];decide,by rw[hv]⟩⟩
 have hz:q4≠2:=by simpa using hc
 have HZ4:=ae hz
 have rH:=ae (aY qc.o hb)
 have Ea:=ae ((hb.block _ l8).trans HK8.o)
 obtain⟨c9,f9,l9⟩:=af Ea.o
 clear hb hc hz c8 f8
 go_wp2_with fail
 refine(GY s.dn vh vk vs es _ (HS.o _ rH.o).dn).mono ?_
 rintro e X10 ⟨rfl,hb⟩
 have Yz:=ae (aY rH.o hb)
 have aiY:=ae ((hb.block _ l9).trans Ea.o)
 obtain⟨c10,f10,l10⟩:=af aiY.o
 clear hb c9 f9
 obtain⟨q5,hq5⟩: ∃q,qp s.dn=q:=⟨_,rfl⟩
 rw[hq5]
 have HQ5:=ae hq5
 clear hq5
 go_wp2_with fail
 refine(dZ 3 [q5 !=0] X10 (by simp) _ (by simp[dL]) _ _ rfl).mono ?_
 rintro e X11 ⟨hb,⟨hc,rfl⟩|⟨hc,rfl⟩⟩
 rotate_left
 ·have hz:q5≠0:=by simpa using hc
  have hv:bF s=3:=by
   unfold bF
   simp only[jS.o,rD.o,xI.o,IU.o,VC.o,HQ5.o]
   rw[ai (by have:=HZ0.o;omega)]
   rw[ai (by have:=HZ1.o;omega)]
   rw[ai (by have:=HZ2.o;omega)]
   rw[ai (by have:=HZ3.o;omega)]
   rw[ai (by have:=HZ4.o;omega)]
   rw[aA hz]
  exact⟨rfl,aY Yz.o hb,.inr ⟨by rw[hv];decide,by rw[hv]⟩⟩
 have hz:q5=0:=by simpa using hc
 have HZ5:=ae hz
 have adi:=ae (aY Yz.o hb)
 have aiX:=ae ((hb.block _ l10).trans aiY.o)
 obtain⟨c11,f11,l11⟩:=af aiX.o
 clear hb hc hz c10 f10
 go_wp2_with fail
 refine(WY s.dn vh vk vs es _ (HS.o _ adi.o).dn).mono ?_
 rintro e X12 ⟨hb,v1,v2,rfl⟩
 have aja:=ae (aY adi.o hb)
 have aiW:=ae ((hb.block _ l11).trans aiX.o)
 obtain⟨c12,f12,l12⟩:=af aiW.o
 clear hb c11 f11
 obtain⟨q6,hq6⟩: ∃q,jg s.dn true=q:=⟨_,rfl⟩
 rw[hq6]
 have HQ6:=ae hq6
 clear hq6
 go_wp2_with fail
 refine(dZ 11 [q6 !=0] X12 (by simp) _ (by simp[dL]) _ _ rfl).mono ?_
 rintro e X13 ⟨hb,⟨hc,rfl⟩|⟨hc,rfl⟩⟩
 rotate_left
 ·have hz:q6≠0:=by simpa using hc
  have hv:bF s=11:=by
   unfold bF
   simp only[jS.o,rD.o,xI.o,IU.o,VC.o,HQ5.o,HQ6.o]
   rw[ai (by have:=HZ0.o;omega)]
   rw[ai (by have:=HZ1.o;omega)]
   rw[ai (by have:=HZ2.o;omega)]
   rw[ai (by have:=HZ3.o;omega)]
   rw[ai (by have:=HZ4.o;omega)]
   rw[ai (by have:=HZ5.o;omega)]
   rw[aA hz]
  exact⟨rfl,aY aja.o hb,.inr ⟨by rw[hv];decide,by rw[hv]⟩⟩
 have hz:q6=0:=by simpa using hc
 have HZ6:=ae hz
 have amR:=ae (aY aja.o hb)
 have amB:=ae ((hb.block _ l12).trans aiW.o)
 obtain⟨c13,f13,l13⟩:=af amB.o
 clear hb hc hz c12 f12
 (try go_wp2_with fail)
 go_end0
 have hv:bF s=0:=by
  unfold bF
  simp only[jS.o,rD.o,xI.o,IU.o,VC.o,HQ5.o,HQ6.o]
  rw[ai (by have:=HZ0.o;omega)]
  rw[ai (by have:=HZ1.o;omega)]
  rw[ai (by have:=HZ2.o;omega)]
  rw[ai (by have:=HZ3.o;omega)]
  rw[ai (by have:=HZ4.o;omega)]
  rw[ai (by have:=HZ5.o;omega)]
  rw[ai (by have:=HZ6.o;omega)]
 exact⟨amR.o,.inl ⟨hv,rfl⟩⟩
theorem aj0:iW Tryz.prog 35 34 (rv (0,0)) 2 16:=⟨Tryz.underlying35,by kernel_rfl,rfl,by omega⟩
theorem MP (n:Nat) (xs:List Value) (v:Value) (w:World) (hv:aN 5 w v n xs) (h1: ∀u∈xs,u.oneCell'=true) (hlen:n<=1000):
 Calls Tryz.prog 199 #[v] w (Fq 118 5 n xs w):=by
 obtain⟨o,c,rfl⟩:=aN.open hv
 have HV:=ae hv
 have H1:=ae h1
 clear h1
 have hnil:=fun(w:World) a n c=>Lib.run_eql_slice_nil (P:=Tryz.prog) w 27 118 a n c 0 0 Tryz.underlying27
 cases o with
 |none=>
  obtain⟨hl,o,c',h0,h1,h2,h3,h4⟩:=hv
  cases h0
  obtain rfl:c=0:=h3 rfl
  obtain rfl:n=0:=by omega
  have hx:xs=[]:=kD (by simpa using hl)
  subst hx
  clear HV H1
  go_enter Tryz.func199,Tryz.ntmps199
  go_wp2
  go_returns
  exact⟨.slice none 0 0,by simp,⟨by simp,.inl ⟨rfl,rfl⟩⟩,aG _ _⟩
 |some a=>
  obtain⟨b,off,sp⟩:=a
  obtain rfl:sp=none:=by
   obtain⟨_,o,c',h0,h1,h2,h3,h4⟩:=hv
   cases h0
   exact(h4 _ rfl).1
  clear hv
  go_enter Tryz.func199,Tryz.ntmps199
  go_wp2_with (at_builtin;refine gm rfl _ _ Y9 rfl w.heap.size (.slice (some ⟨w.heap.size,0,none⟩) 0 0) 0 [] rfl ?_ (.slice (some ⟨b,off,none⟩) n c) n xs rfl ?_ H1.o (by omega) (by omega) (by simp) ?_)
  ·exact iT (cs:= #[]) (n:=0) (ay _ _) rfl (ak _) (by decide)
  ·exact aN.alloc HV.o _
  ·intro v' w1 hown hgrow
   have HO:=ae hown
   have HG:=ae hgrow
   clear hown hgrow
   go_wp2
   go_returns
   refine⟨v',by simp,?_,?_⟩
   ·exact HO.o
   ·exact Below.grown (aj (aG _ _) _) HG.o (by simp) (fun k e=>by cases e;exact ak _)
theorem Ji (n:Nat) (xs:List Value) (v:Value) (w:World) (hv:aN 3 w v n xs) (h1: ∀u∈xs,u.oneCell'=true) (hlen:n<=1000):
 Calls Tryz.prog 200 #[v] w (Fq 120 3 n xs w):=by
 obtain⟨o,c,rfl⟩:=aN.open hv
 have HV:=ae hv
 have H1:=ae h1
 clear h1
 have hnil:=fun(w:World) a n c=>Lib.run_eql_slice_nil (P:=Tryz.prog) w 31 120 a n c 0 0 Tryz.underlying31
 cases o with
 |none=>
  obtain⟨hl,o,c',h0,h1,h2,h3,h4⟩:=hv
  cases h0
  obtain rfl:c=0:=h3 rfl
  obtain rfl:n=0:=by omega
  have hx:xs=[]:=kD (by simpa using hl)
  subst hx
  clear HV H1
  go_enter Tryz.func200,Tryz.ntmps200
  go_wp2
  go_returns
  exact⟨.slice none 0 0,by simp,⟨by simp,.inl ⟨rfl,rfl⟩⟩,aG _ _⟩
 |some a=>
  obtain⟨b,off,sp⟩:=a
  obtain rfl:sp=none:=by
   obtain⟨_,o,c',h0,h1,h2,h3,h4⟩:=hv
   cases h0
   exact(h4 _ rfl).1
  clear hv
  go_enter Tryz.func200,Tryz.ntmps200
  go_wp2_with (at_builtin;refine gm rfl _ _ abU rfl w.heap.size (.slice (some ⟨w.heap.size,0,none⟩) 0 0) 0 [] rfl ?_ (.slice (some ⟨b,off,none⟩) n c) n xs rfl ?_ H1.o (by omega) (by omega) (by simp) ?_)
  ·exact iT (cs:= #[]) (n:=0) (ay _ _) rfl (ak _) (by decide)
  ·exact aN.alloc HV.o _
  ·intro v' w1 hown hgrow
   have HO:=ae hown
   have HG:=ae hgrow
   clear hown hgrow
   go_wp2
   go_returns
   refine⟨v',by simp,?_,?_⟩
   ·exact HO.o
   ·exact Below.grown (aj (aG _ _) _) HG.o (by simp) (fun k e=>by cases e;exact ak _)
theorem MN (n:Nat) (xs:List Value) (v:Value) (w:World) (hv:aN 2 w v n xs) (h1: ∀u∈xs,u.oneCell'=true) (hlen:n<=1000):
 Calls Tryz.prog 201 #[v] w (Fq 34 2 n xs w):=by
 obtain⟨o,c,rfl⟩:=aN.open hv
 have HV:=ae hv
 have H1:=ae h1
 clear h1
 have hnil:=fun(w:World) a n c=>Lib.run_eql_slice_nil (P:=Tryz.prog) w 35 34 a n c 0 0 Tryz.underlying35
 cases o with
 |none=>
  obtain⟨hl,o,c',h0,h1,h2,h3,h4⟩:=hv
  cases h0
  obtain rfl:c=0:=h3 rfl
  obtain rfl:n=0:=by omega
  have hx:xs=[]:=kD (by simpa using hl)
  subst hx
  clear HV H1
  go_enter Tryz.func201,Tryz.ntmps201
  go_wp2
  go_returns
  exact⟨.slice none 0 0,by simp,⟨by simp,.inl ⟨rfl,rfl⟩⟩,aG _ _⟩
 |some a=>
  obtain⟨b,off,sp⟩:=a
  obtain rfl:sp=none:=by
   obtain⟨_,o,c',h0,h1,h2,h3,h4⟩:=hv
   cases h0
   exact(h4 _ rfl).1
  clear hv
  go_enter Tryz.func201,Tryz.ntmps201
  go_wp2_with (at_builtin;refine gm rfl _ _ aj0 rfl w.heap.size (.slice (some ⟨w.heap.size,0,none⟩) 0 0) 0 [] rfl ?_ (.slice (some ⟨b,off,none⟩) n c) n xs rfl ?_ H1.o (by omega) (by omega) (by simp) ?_)
  ·exact iT (cs:= #[]) (n:=0) (ay _ _) rfl (ak _) (by decide)
  ·exact aN.alloc HV.o _
  ·intro v' w1 hown hgrow
   have HO:=ae hown
   have HG:=ae hgrow
   clear hown hgrow
   go_wp2
   go_returns
   refine⟨v',by simp,?_,?_⟩
   ·exact HO.o
   ·exact Below.grown (aj (aG _ _) _) HG.o (by simp) (fun k e=>by cases e;exact ak _)
theorem Jh (n:Nat) (xs:List Value) (v:Value) (w:World) (hv:aN 3 w v n xs) (h1: ∀u∈xs,u.oneCell'=true) (hlen:n<=1000):
 Calls Tryz.prog 202 #[v] w (Fq 122 3 n xs w):=by
 obtain⟨o,c,rfl⟩:=aN.open hv
 have HV:=ae hv
 have H1:=ae h1
 clear h1
 have hnil:=fun(w:World) a n c=>Lib.run_eql_slice_nil (P:=Tryz.prog) w 37 122 a n c 0 0 Tryz.underlying37
 cases o with
 |none=>
  obtain⟨hl,o,c',h0,h1,h2,h3,h4⟩:=hv
  cases h0
  obtain rfl:c=0:=h3 rfl
  obtain rfl:n=0:=by omega
  have hx:xs=[]:=kD (by simpa using hl)
  subst hx
  clear HV H1
  go_enter Tryz.func202,Tryz.ntmps202
  go_wp2
  go_returns
  exact⟨.slice none 0 0,by simp,⟨by simp,.inl ⟨rfl,rfl⟩⟩,aG _ _⟩
 |some a=>
  obtain⟨b,off,sp⟩:=a
  obtain rfl:sp=none:=by
   obtain⟨_,o,c',h0,h1,h2,h3,h4⟩:=hv
   cases h0
   exact(h4 _ rfl).1
  clear hv
  go_enter Tryz.func202,Tryz.ntmps202
  go_wp2_with (at_builtin;refine gm rfl _ _ abT rfl w.heap.size (.slice (some ⟨w.heap.size,0,none⟩) 0 0) 0 [] rfl ?_ (.slice (some ⟨b,off,none⟩) n c) n xs rfl ?_ H1.o (by omega) (by omega) (by simp) ?_)
  ·exact iT (cs:= #[]) (n:=0) (ay _ _) rfl (ak _) (by decide)
  ·exact aN.alloc HV.o _
  ·intro v' w1 hown hgrow
   have HO:=ae hown
   have HG:=ae hgrow
   clear hown hgrow
   go_wp2
   go_returns
   refine⟨v',by simp,?_,?_⟩
   ·exact HO.o
   ·exact Below.grown (aj (aG _ _) _) HG.o (by simp) (fun k e=>by cases e;exact ak _)
theorem MQ (n:Nat) (xs:List Value) (v:Value) (w:World) (hv:aN 2 w v n xs) (h1: ∀u∈xs,u.oneCell'=true) (hlen:n<=1000):
 Calls Tryz.prog 203 #[v] w (Fq 112 2 n xs w):=by
 obtain⟨o,c,rfl⟩:=aN.open hv
 have HV:=ae hv
 have H1:=ae h1
 clear h1
 have hnil:=fun(w:World) a n c=>Lib.run_eql_slice_nil (P:=Tryz.prog) w 40 112 a n c 0 0 Tryz.underlying40
 cases o with
 |none=>
  obtain⟨hl,o,c',h0,h1,h2,h3,h4⟩:=hv
  cases h0
  obtain rfl:c=0:=h3 rfl
  obtain rfl:n=0:=by omega
  have hx:xs=[]:=kD (by simpa using hl)
  subst hx
  clear HV H1
  go_enter Tryz.func203,Tryz.ntmps203
  go_wp2
  go_returns
  exact⟨.slice none 0 0,by simp,⟨by simp,.inl ⟨rfl,rfl⟩⟩,aG _ _⟩
 |some a=>
  obtain⟨b,off,sp⟩:=a
  obtain rfl:sp=none:=by
   obtain⟨_,o,c',h0,h1,h2,h3,h4⟩:=hv
   cases h0
   exact(h4 _ rfl).1
  clear hv
  go_enter Tryz.func203,Tryz.ntmps203
  go_wp2_with (at_builtin;refine gm rfl _ _ agq rfl w.heap.size (.slice (some ⟨w.heap.size,0,none⟩) 0 0) 0 [] rfl ?_ (.slice (some ⟨b,off,none⟩) n c) n xs rfl ?_ H1.o (by omega) (by omega) (by simp) ?_)
  ·exact iT (cs:= #[]) (n:=0) (ay _ _) rfl (ak _) (by decide)
  ·exact aN.alloc HV.o _
  ·intro v' w1 hown hgrow
   have HO:=ae hown
   have HG:=ae hgrow
   clear hown hgrow
   go_wp2
   go_returns
   refine⟨v',by simp,?_,?_⟩
   ·exact HO.o
   ·exact Below.grown (aj (aG _ _) _) HG.o (by simp) (fun k e=>by cases e;exact ak _)
theorem MR (n:Nat) (xs:List Value) (v:Value) (w:World) (hv:aN 1 w v n xs) (h1: ∀u∈xs,u.oneCell'=true) (hlen:n<=1000):
 Calls Tryz.prog 204 #[v] w (Fq 36 1 n xs w):=by
 obtain⟨o,c,rfl⟩:=aN.open hv
 have HV:=ae hv
 have H1:=ae h1
 clear h1
 have hnil:=fun(w:World) a n c=>Lib.run_eql_slice_nil (P:=Tryz.prog) w 41 36 a n c 0 0 Tryz.underlying41
 cases o with
 |none=>
  obtain⟨hl,o,c',h0,h1,h2,h3,h4⟩:=hv
  cases h0
  obtain rfl:c=0:=h3 rfl
  obtain rfl:n=0:=by omega
  have hx:xs=[]:=kD (by simpa using hl)
  subst hx
  clear HV H1
  go_enter Tryz.func204,Tryz.ntmps204
  go_wp2
  go_returns
  exact⟨.slice none 0 0,by simp,⟨by simp,.inl ⟨rfl,rfl⟩⟩,aG _ _⟩
 |some a=>
  obtain⟨b,off,sp⟩:=a
  obtain rfl:sp=none:=by
   obtain⟨_,o,c',h0,h1,h2,h3,h4⟩:=hv
   cases h0
   exact(h4 _ rfl).1
  clear hv
  go_enter Tryz.func204,Tryz.ntmps204
  go_wp2_with (at_builtin;refine gm rfl _ _ ags rfl w.heap.size (.slice (some ⟨w.heap.size,0,none⟩) 0 0) 0 [] rfl ?_ (.slice (some ⟨b,off,none⟩) n c) n xs rfl ?_ H1.o (by omega) (by omega) (by simp) ?_)
  ·exact iT (cs:= #[]) (n:=0) (ay _ _) rfl (ak _) (by decide)
  ·exact aN.alloc HV.o _
  ·intro v' w1 hown hgrow
   have HO:=ae hown
   have HG:=ae hgrow
   clear hown hgrow
   go_wp2
   go_returns
   refine⟨v',by simp,?_,?_⟩
   ·exact HO.o
   ·exact Below.grown (aj (aG _ _) _) HG.o (by simp) (fun k e=>by cases e;exact ak _)
theorem MO (n:Nat) (xs:List Value) (v:Value) (w:World) (hv:aN 4 w v n xs) (h1: ∀u∈xs,u.oneCell'=true) (hlen:n<=1000):
 Calls Tryz.prog 205 #[v] w (Fq 124 4 n xs w):=by
 obtain⟨o,c,rfl⟩:=aN.open hv
 have HV:=ae hv
 have H1:=ae h1
 clear h1
 have hnil:=fun(w:World) a n c=>Lib.run_eql_slice_nil (P:=Tryz.prog) w 42 124 a n c 0 0 Tryz.underlying42
 cases o with
 |none=>
  obtain⟨hl,o,c',h0,h1,h2,h3,h4⟩:=hv
  cases h0
  obtain rfl:c=0:=h3 rfl
  obtain rfl:n=0:=by omega
  have hx:xs=[]:=kD (by simpa using hl)
  subst hx
  clear HV H1
  go_enter Tryz.func205,Tryz.ntmps205
  go_wp2
  go_returns
  exact⟨.slice none 0 0,by simp,⟨by simp,.inl ⟨rfl,rfl⟩⟩,aG _ _⟩
 |some a=>
  obtain⟨b,off,sp⟩:=a
  obtain rfl:sp=none:=by
   obtain⟨_,o,c',h0,h1,h2,h3,h4⟩:=hv
   cases h0
   exact(h4 _ rfl).1
  clear hv
  go_enter Tryz.func205,Tryz.ntmps205
  go_wp2_with (at_builtin;refine gm rfl _ _ abS rfl w.heap.size (.slice (some ⟨w.heap.size,0,none⟩) 0 0) 0 [] rfl ?_ (.slice (some ⟨b,off,none⟩) n c) n xs rfl ?_ H1.o (by omega) (by omega) (by simp) ?_)
  ·exact iT (cs:= #[]) (n:=0) (ay _ _) rfl (ak _) (by decide)
  ·exact aN.alloc HV.o _
  ·intro v' w1 hown hgrow
   have HO:=ae hown
   have HG:=ae hgrow
   clear hown hgrow
   go_wp2
   go_returns
   refine⟨v',by simp,?_,?_⟩
   ·exact HO.o
   ·exact Below.grown (aj (aG _ _) _) HG.o (by simp) (fun k e=>by cases e;exact ak _)
theorem BZ (n:Nat) (xs:List Value) (v:Value) (w:World) (hv:aN 1 w v n xs) (h1: ∀u∈xs,u.oneCell'=true) (hlen:n<=1000):
 Calls Tryz.prog 98 #[v] w (Fq 3 1 n xs w):=by
 obtain⟨o,c,rfl⟩:=aN.open hv
 have HV:=ae hv
 have H1:=ae h1
 clear h1
 have hnil:=fun(w:World) a n c=>Lib.run_eql_slice_nil (P:=Tryz.prog) w 36 3 a n c 0 0 Tryz.underlying36
 cases o with
 |none=>
  obtain⟨hl,o,c',h0,h1,h2,h3,h4⟩:=hv
  cases h0
  obtain rfl:c=0:=h3 rfl
  obtain rfl:n=0:=by omega
  have hx:xs=[]:=kD (by simpa using hl)
  subst hx
  clear HV H1
  go_enter Tryz.func98,Tryz.ntmps98
  go_wp2
  go_returns
  exact⟨.slice none 0 0,by simp,⟨by simp,.inl ⟨rfl,rfl⟩⟩,aG _ _⟩
 |some a=>
  obtain⟨b,off,sp⟩:=a
  obtain rfl:sp=none:=by
   obtain⟨_,o,c',h0,h1,h2,h3,h4⟩:=hv
   cases h0
   exact(h4 _ rfl).1
  clear hv
  go_enter Tryz.func98,Tryz.ntmps98
  go_wp2_with (at_builtin;refine gm rfl _ _ rE rfl w.heap.size (.slice (some ⟨w.heap.size,0,none⟩) 0 0) 0 [] rfl ?_ (.slice (some ⟨b,off,none⟩) n c) n xs rfl ?_ H1.o (by omega) (by omega) (by simp) ?_)
  ·exact iT (cs:= #[]) (n:=0) (ay _ _) rfl (ak _) (by decide)
  ·exact aN.alloc HV.o _
  ·intro v' w1 hown hgrow
   have HO:=ae hown
   have HG:=ae hgrow
   clear hown hgrow
   go_wp2
   go_returns
   refine⟨v',by simp,?_,?_⟩
   ·exact HO.o
   ·exact Below.grown (aj (aG _ _) _) HG.o (by simp) (fun k e=>by cases e;exact ak _)
end Go.Proofs.YthbpmepjmebolaaGreatDoor.Bk
end

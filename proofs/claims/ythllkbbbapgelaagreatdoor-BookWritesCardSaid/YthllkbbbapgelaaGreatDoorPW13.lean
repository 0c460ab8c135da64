/-
  Texts of this claim, packed by a program: DH DI DJ DK DL DM DN DO DP YI.
-/
import Derived.WalkKit
import Derived.WalkLawsBesides
import Derived.WalkSpells
import Derived.Outline
import Derived.Handy
import Derived.KernelRfl
import Derived.Lib.Hide
import Derived.Sort.OwnSortedInts
import Derived.Lib.SliceRun
import Derived.Test.YthllkbbbapgelaaGreatDoorPW1
import Derived.Test.YthllkbbbapgelaaGreatDoorPW8
import Derived.Test.YthllkbbbapgelaaGreatDoorPW10
import Derived.Test.YthllkbbbapgelaaGreatDoorPW12
set_option maxHeartbeats 8000000
set_option maxRecDepth 100000
set_option linter.all false
section
namespace Go.Proofs.YthllkbbbapgelaaGreatDoor.Bk
open Go.RowKit Go.RG Go.SL Go.Shelf jy Go.TB Go.Proofs.YthllkbbbapgelaaGreatDoor.AQ
theorem gX {w:World} {N:Nat} {t:TypeId} {size:Nat} {o:Option Addr} {n c m:Nat} {xs:List Value} (h:w.ownsRow N t size (.slice o m c) n xs) (hn:0<n):
 ∃g,o=some ⟨g,0,none⟩/\(∀(j:Nat) (hj:j<xs.length),w.cell? ⟨g,j,none⟩=some xs[j])/\(∀j,w.frozen? ⟨g,j,none⟩=false)/\g<w.heap.size:=by
 obtain⟨h1,⟨h2,rfl⟩|⟨g,cc,cs,h2,h3,h4,h5,h6,h7,h8⟩⟩:=h
 ·omega
 ·cases h2
  obtain⟨k0,k1,k2⟩:=af h4
  refine⟨g,rfl,fun j hj=>?_,k1,k2⟩
  rw[k0, <-Array.getElem?_toList]
  have:(cs.toList.take (n*size))[j]? =some xs[j]:=by rw[h8];exact dw hj
  rw[List.getElem?_take] at this
  split at this
  ·exact this
  ·cases this
theorem lU {w:World} {N:Nat} {t:TypeId} {size:Nat} {g n c m:Nat} {xs:List Value} (h:w.ownsRow N t size (.slice (some ⟨g,0,none⟩) m c) n xs) (j:Nat) (u:Value):(w.setCell ⟨g,j,none⟩ u).ownsRow N t size (.slice (some ⟨g,0,none⟩) m c) n (xs.set j u):=by
 obtain⟨h1,⟨h2,rfl⟩|⟨g',cc,cs,h2,h3,h4,h5,h6,h7,h8⟩⟩:=h
 ·cases h2
 ·cases h2
  refine⟨by simpa using h1,.inr ⟨g,c,_,rfl,h3,aI h4 u,h5,h6,by simpa using h7,?_⟩⟩
  rw[<-h8,Array.toList_setIfInBounds,List.take_set]
theorem jA {α:Type} (f:α->List Value) (k:Nat) (hk: ∀x,(f x).length=k): ∀(l:List α) (i j:Nat) (x:α),l[i]? =some x->j<k->(l.flatMap f)[i*k+j]? =(f x)[j]? :=by
 intro l
 induction l with
 |nil=>intro i j x h _;cases h
 |cons y l ih=>
  intro i j x h hj
  rw[List.flatMap_cons]
  cases i with
  |zero=>
   simp only[List.getElem?_cons_zero,Option.some.injEq] at h
   subst h
   rw[ve (by rw[hk];omega)]
   congr 1
   omega
  |succ i=>
   rw[oG (by rw[hk,Nat.succ_mul];omega),hk]
   rw[show(i+1)*k+j-k=i*k+j from by rw[Nat.succ_mul];omega]
   exact ih i j x (by simpa using h) hj
theorem BF {α:Type} (f:α->List Value) (k:Nat) (hk: ∀x,(f x).length=k): ∀(l:List α) (i j:Nat) (x y:α) (u:Value),l[i]? =some x->j<k->(f x).set j u=f y->(l.flatMap f).set (i*k+j) u=(l.set i y).flatMap f:=by
 intro l
 induction l with
 |nil=>intro i j x y u h _ _;cases h
 |cons z l ih=>
  intro i j x y u h hj hu
  rw[List.flatMap_cons]
  cases i with
  |zero=>
   simp only[List.getElem?_cons_zero,Option.some.injEq] at h
   subst h
   rw[List.set_append_left _ _ (by rw[hk];omega),List.set_cons_zero,List.flatMap_cons, <-hu]
   congr 2
   omega
  |succ i=>
   rw[qA _ _ (by rw[hk,Nat.succ_mul];omega),hk,List.set_cons_succ,List.flatMap_cons]
   rw[show(i+1)*k+j-k=i*k+j from by rw[Nat.succ_mul];omega,ih i j x y u (by simpa using h) hj hu]
theorem Y8 (l:List dR) (i:Nat) (h:i<l.length):(aG l)[i*2+0]? =some (iv l[i].1)/\(aG l)[i*2+1]? =some (iv l[i].2):=
 ⟨jA _ 2 (fun _=>rfl) l i 0 _ (dw h) (by omega),jA _ 2 (fun _=>rfl) l i 1 _ (dw h) (by omega)⟩
theorem Ob (l:List dR) (i:Nat) (h:i<l.length) (a b:Int):((aG l).set (i*2+0) (iv a)).set (i*2+1) (iv b)=aG (l.set i (a,b)):=by
 unfold aG
 rw[BF _ 2 (fun _=>rfl) l i 0 _ (a,l[i].2) (iv a) (dw h) (by omega) rfl,BF _ 2 (fun _=>rfl) (l.set i (a,l[i].2)) i 1 (a,l[i].2) (a,b) (iv b) (by simp[h]) (by omega) rfl]
 simp
theorem jT.over {N:Nat} {w W:World} {wb:Nat} {s s':jO} {V:SV} {es es':List KE} (h:jT N w wb s V es) {i:Nat} {r:Row} (hr:(iK s V es)[i]? =some r) {g:Nat} (hg:r.v.ownBlock=some g) (hE:Ext [g] w W) (xs:List Value)
 (ho:W.ownsRow N r.t r.size r.v r.n xs) (hrows:iK s' V es'=(iK s V es).set i ⟨r.t,r.size,r.v,r.n,xs⟩) (hsc:dS s' V=dS s V) (hes:es'.map (·.2)=s'.dA.aU):jT N W wb s' V es':=by
 refine⟨?_,?_,hes⟩
 ·rw[hsc]
  refine(hE.block wb h.rows.lt (fun hm=>h.rows.off i r hr ?_)).trans h.blk
  rw[hg,fD.1 hm]
 ·rw[hrows]
  exact h.rows.put hr ⟨r.t,r.size,r.v,r.n,xs⟩ hE (fun m hm=> .inr (.inr (by rw[hg,fD.1 hm]))) ho (.inl rfl)
theorem abz (l:List Nb) (i:Nat) (h:i<l.length):(dL l)[i*5+3]? =some (iv l[i].2.2.2.1)/\(dL l)[i*5+4]? =some (iv l[i].2.2.2.2):=
 ⟨jA _ 5 (fun _=>rfl) l i 3 _ (dw h) (by omega),jA _ 5 (fun _=>rfl) l i 4 _ (dw h) (by omega)⟩
theorem aby (l:List Nb) (i:Nat) (h:i<l.length) (a b:Int):((dL l).set (i*5+3) (iv a)).set (i*5+4) (iv b)=dL (l.set i (l[i].1,l[i].2.1,l[i].2.2.1,(a,b))):=by
 unfold dL
 rw[BF _ 5 (fun _=>rfl) l i 3 _ (l[i].1,l[i].2.1,l[i].2.2.1,(a,l[i].2.2.2.2)) (iv a) (dw h) (by omega) rfl,BF _ 5 (fun _=>rfl) (l.set i (l[i].1,l[i].2.1,l[i].2.2.1,(a,l[i].2.2.2.2))) i 4 (l[i].1,l[i].2.1,l[i].2.2.1,(a,l[i].2.2.2.2)) (l[i].1,l[i].2.1,l[i].2.2.1,(a,b)) (iv b) (by simp[h]) (by omega) rfl]
 simp
theorem YM {w:World} {g:Nat} {l:List Nb} (h: ∀(j:Nat) (hj:j<(dL l).length),w.cell? ⟨g,j,none⟩=some (dL l)[j]) {i:Nat} (hi:i<l.length):w.cell? ⟨g,i*5+3,none⟩=some (iv l[i].2.2.2.1)/\w.cell? ⟨g,i*5+4,none⟩=some (iv l[i].2.2.2.2):=by
 obtain⟨h1,h2⟩:=abz l i hi
 obtain⟨k1,e1⟩:=je.1 h1
 obtain⟨k2,e2⟩:=je.1 h2
 exact⟨(h _ k1).trans (by rw[e1]),(h _ k2).trans (by rw[e2])⟩
theorem JO {w:World} {g:Nat} {l:List dR} (h: ∀(j:Nat) (hj:j<(aG l).length),w.cell? ⟨g,j,none⟩=some (aG l)[j]) {i:Nat} (hi:i<l.length):w.cell? ⟨g,i*2,none⟩=some (iv l[i].1)/\w.cell? ⟨g,i*2+1,none⟩=some (iv l[i].2):=by
 obtain⟨h1,h2⟩:=Y8 l i hi
 obtain⟨k1,e1⟩:=je.1 h1
 obtain⟨k2,e2⟩:=je.1 h2
 exact⟨(h _ k1).trans (by rw[e1]),(h _ k2).trans (by rw[e2])⟩
theorem KQ (N:Nat) (w:World) (wb:Nat) (s:jO) (V:SV) (es:List KE) (ns:Value) (x:Nat) (y:Int) (z:Int) (hO:jT N w wb s V es) (hn:rV N w ns [(x:Int),y,z]) (hG:fO s) (hx:0<=y/\y<=9999):Calls Tryz.prog 163 #[.pointer (some ⟨wb,0,none⟩),ns] w (rC N wb (jh s .bZ [(x:Int),y,z]) w):=by
 obtain⟨vt,vn,vw,vu,vr,vh,vk,vs⟩:=V
 obtain⟨o,cc,rfl⟩: ∃o c,vw= .slice o s.heap.bZ.length c:=aT (n:=s.heap.bZ.length) (hO.rows.own 2 _ rfl)
 have HO:=ae hO
 have gI:=eH hO
 obtain⟨b,c,rfl,hbN,hcs⟩:=hn
 have lb:b<w.heap.size:=by omega
 have lw:=hO.rows.lt
 have wB:=hO.rows.base
 have HW:Hid (∀W,Below N w W->b<W.heap.size/\ ∀(j:Nat) (h:j<[(x:Int),y,z].length),W.cell? ⟨b,j,none⟩=some (iv [(x:Int),y,z][j])):=ae (fun W hB=>⟨by have:=hB.size;omega,fun j h=>(jd (hB.block b hbN)).trans (hcs j h)⟩)
 obtain⟨c0,f0,l0⟩:=af hO.blk
 have oU:=hcs 0 (by simp)
 simp only[au] at oU
 have n01:=hcs 1 (by simp)
 simp only[au] at n01
 have n02:=hcs 2 (by simp)
 simp only[au] at n02
 have HB0:Hid (Below w.heap.size w w):=ae (aH _ _)
 have hl4:=hG.heap.1
 have LZ:=hG.Vk
 have HR5:=ae LZ
 clear LZ
 clear hO hcs hG
 go_enter Tryz.func163,Tryz.ntmps163
 go_wp2_with fail
 refine(yw x wb s _ w ((HB0.o.block _ lw).trans HO.o.blk) hl4).mono ?_
 rintro e W1 ⟨hb,⟨hc,rfl⟩|⟨hc,rfl⟩⟩
 rotate_left
 ·simp at hc
  simp only[jh,bW,bY,dD]
  (repeat (first|rw[aF (by omega)]|rw[ak (by omega)]))
  exact⟨rfl,(aY HB0.o hb).mono gI,.inr ⟨by simp,rfl⟩⟩
 simp at hc
 have HB1:=ae (aY HB0.o hb)
 have Nc:=ae hb
 have jQ:=ae hc
 clear hb hc c0 f0 oU n01 n02
 obtain⟨c1,f1,l1⟩:=af ((HB1.o.block _ lw).trans HO.o.blk)
 obtain⟨wL,hcs1⟩:=HW.o W1 (HB1.o.mono gI)
 have n10:=hcs1 0 (by simp)
 simp only[au] at n10
 have n11:=hcs1 1 (by simp)
 simp only[au] at n11
 have n12:=hcs1 2 (by simp)
 simp only[au] at n12
 clear hcs1
 go_wp2_with fail
 refine zg 6 [] none [] ?_
 simp only[zt]
 repeat ((first|refine zd ?_|refine zk ?_);simp only[zp])
 intro W2 hE hF
 have HB2:=ae (aY HB1.o hE.below)
 clear hE hF c1 f1 wL n10 n11 n12
 obtain⟨c2,f2,l2⟩:=af ((HB2.o.block _ lw).trans HO.o.blk)
 obtain⟨xG,hcs2⟩:=HW.o W2 (HB2.o.mono gI)
 have n20:=hcs2 0 (by simp)
 simp only[au] at n20
 have n21:=hcs2 1 (by simp)
 simp only[au] at n21
 have n22:=hcs2 2 (by simp)
 simp only[au] at n22
 clear hcs2
 go_wp2_with fail
 refine(Ad _ _ _ _ _ (by omega)).mono ?_
 rintro e W3 ⟨hb,⟨hc,rfl⟩|⟨hc,rfl⟩⟩
 rotate_left
 ·simp at hc
  have q0:=jQ.o
  simp only[jh,bW,bY,dD]
  (repeat (first|rw[aF (by omega)]|rw[ak (by omega)]))
  exact⟨rfl,(aY HB2.o hb).mono gI,.inr ⟨by simp,rfl⟩⟩
 simp at hc
 have HB3:=ae (aY HB2.o hb)
 have HS3:=ae hb
 have rD:=ae hc
 clear hb hc c2 f2 xG n20 n21 n22
 obtain⟨c3,f3,l3⟩:=af ((HB3.o.block _ lw).trans HO.o.blk)
 obtain⟨J3,hcs3⟩:=HW.o W3 (HB3.o.mono gI)
 have n30:=hcs3 0 (by simp)
 simp only[au] at n30
 have n31:=hcs3 1 (by simp)
 simp only[au] at n31
 have n32:=hcs3 2 (by simp)
 simp only[au] at n32
 clear hcs3
 go_wp2_with fail
 refine zg 16 [] none [] ?_
 simp only[zt]
 repeat ((first|refine zd ?_|refine zk ?_);simp only[zp])
 intro W4 hE hF
 have HB4:=ae (aY HB3.o hE.below)
 clear hE hF c3 f3 J3 n30 n31 n32
 obtain⟨c4,f4,l4⟩:=af ((HB4.o.block _ lw).trans HO.o.blk)
 obtain⟨Qz,kC⟩:=HW.o W4 (HB4.o.mono gI)
 have n40:=kC 0 (by simp)
 simp only[au] at n40
 have n41:=kC 1 (by simp)
 simp only[au] at n41
 have n42:=kC 2 (by simp)
 simp only[au] at n42
 clear kC
 have q0:=jQ.o
 have hxl:x<s.heap.bZ.length:=by have:=HR5.o;omega
 have hown:=(HO.o.below HB4.o).rows.own 2 _ rfl
 obtain⟨g,rfl,hcg,hfg,hgl⟩:=gX hown (by show 0<s.heap.bZ.length;omega)
 obtain⟨g0,g1⟩:=JO hcg hxl
 clear hcg q0 hown
 go_wp2_with fail
 go_end0
 have q0:=jQ.o
 have q1:=rD.o
 simp only[jh,bW,bY,dD]
 (repeat (first|rw[aF (by omega)]|rw[ak (by omega)]))
 simp only[Int.toNat_natCast]
 have Aq:=HO.o.below HB4.o
 have hgN:N<=g:=((Aq.rows.own 2 _ rfl).lt g rfl).1
 have hS:=(lU (lU (Aq.rows.own 2 _ rfl) (x*2+0) (iv y)) (x*2+1) (iv z))
 simp only[Ob _ _ hxl] at hS
 exact⟨(((HB4.o.mono gI).setCell hgN _).setCell hgN _),.inl ⟨rfl,rfl,_,es,Aq.over (i:=2) rfl (g:=g) rfl ((gz).trans gz) (aG (s.heap.bZ.set x (y,z))) hS (by simp[iK,ny,oI,iR,fK]) rfl HO.o.es⟩⟩
theorem sO (N:Nat) (w:World) (wb:Nat) (s:jO) (V:SV) (es:List KE) (ns:Value) (x:Nat) (y:Int) (z:Int) (hO:jT N w wb s V es) (hn:rV N w ns [(x:Int),y,z]) (hx:0<=y/\y<=9999):Calls Tryz.prog 169 #[.pointer (some ⟨wb,0,none⟩),ns] w (rC N wb (jh s .strong [(x:Int),y,z]) w):=by
 obtain⟨vt,vn,vw,vu,vr,vh,vk,vs⟩:=V
 obtain⟨o,cc,rfl⟩: ∃o c,vh= .slice o s.dA.heaps.length c:=aT (n:=s.dA.heaps.length) (hO.rows.own 5 _ rfl)
 have HO:=ae hO
 have gI:=eH hO
 obtain⟨b,c,rfl,hbN,hcs⟩:=hn
 have lb:b<w.heap.size:=by omega
 have lw:=hO.rows.lt
 have wB:=hO.rows.base
 have HW:Hid (∀W,Below N w W->b<W.heap.size/\ ∀(j:Nat) (h:j<[(x:Int),y,z].length),W.cell? ⟨b,j,none⟩=some (iv [(x:Int),y,z][j])):=ae (fun W hB=>⟨by have:=hB.size;omega,fun j h=>(jd (hB.block b hbN)).trans (hcs j h)⟩)
 obtain⟨c0,f0,l0⟩:=af hO.blk
 have oU:=hcs 0 (by simp)
 simp only[au] at oU
 have n01:=hcs 1 (by simp)
 simp only[au] at n01
 have n02:=hcs 2 (by simp)
 simp only[au] at n02
 have HB0:Hid (Below w.heap.size w w):=ae (aH _ _)
 clear hO hcs
 go_enter Tryz.func169,Tryz.ntmps169
 go_wp2_with fail
 refine zg 10 [] none [] ?_
 simp only[zt]
 repeat ((first|refine zd ?_|refine zk ?_);simp only[zp])
 intro W1 hE hF
 have HB1:=ae (aY HB0.o hE.below)
 clear hE hF c0 f0 oU n01 n02
 obtain⟨c1,f1,l1⟩:=af ((HB1.o.block _ lw).trans HO.o.blk)
 obtain⟨wL,hcs1⟩:=HW.o W1 (HB1.o.mono gI)
 have n10:=hcs1 0 (by simp)
 simp only[au] at n10
 have n11:=hcs1 1 (by simp)
 simp only[au] at n11
 have n12:=hcs1 2 (by simp)
 simp only[au] at n12
 clear hcs1
 go_wp2_with fail
 refine(jf _ _ _).mono ?_
 rintro e W2 ⟨hb,⟨hc,rfl⟩|⟨hc,rfl⟩⟩
 rotate_left
 ·simp at hc
  simp only[jh,bW,bY,dD]
  (repeat (first|rw[aF (by omega)]|rw[ak (by omega)]))
  exact⟨rfl,(aY HB1.o hb).mono gI,.inr ⟨by simp,rfl⟩⟩
 simp at hc
 have HB2:=ae (aY HB1.o hb)
 have HS2:=ae hb
 have jQ:=ae hc
 clear hb hc c1 f1 wL n10 n11 n12
 obtain⟨c2,f2,l2⟩:=af ((HB2.o.block _ lw).trans HO.o.blk)
 obtain⟨xG,hcs2⟩:=HW.o W2 (HB2.o.mono gI)
 have n20:=hcs2 0 (by simp)
 simp only[au] at n20
 have n21:=hcs2 1 (by simp)
 simp only[au] at n21
 have n22:=hcs2 2 (by simp)
 simp only[au] at n22
 clear hcs2
 go_wp2_with fail
 refine RX.gy (fun ps W'=> ¬(y<=z/\z<=100/\z<=y+9)/\ps=kH 2/\Below N w W') 16 [] none [(15,⟨fun _ v=>v=rv (y,z),fun _ _ _=>(y<=z/\z<=100/\z<=y+9)⟩)] (by rintro ps a1 Wx hdf ⟨h1,rfl,h3⟩;refine⟨hdf,wF (c:=2) h3 ?_ (by decide)⟩;have q0:=jQ.o;simp only[jh,bW,bY,dD];(repeat (first|rw[aF (by omega)]|rw[ak (by omega)]))) (by as_aux_lemma=>kernel_rfl) (by as_aux_lemma=>kernel_rfl) ?_
 simp only[zt]
 repeat (refine RX.zd ?_;simp only[zp])
 refine RX.bG _ (by rfl) (by rfl) ⟨_,rfl⟩ (fun Wq hE2 hF2=>?_) (fun v Wa Wb ho hE=>ho) (fun v hv=>?_)
 ·have hE':Ext [] W2 Wq:=hE2
  refine RX.dE 252 #[iv y,iv z,iv 9] (by go_simp;try rfl) ?_
  refine(wC y z 9 Wq (by omega)).mono ?_
  rintro e w' ⟨hb,⟨hc,rfl⟩|⟨hc,rfl⟩⟩
  ·exact .inl ⟨_,rfl,rfl,hc,Ext.aA hb⟩
  ·exact .inr ⟨_,rfl,hc,rfl,(aY HB2.o (aY hE'.below hb)).mono gI⟩
 obtain rfl:v=rv (y,z):=hv
 simp only[zp]
 intro W3 hE hF
 have hc:y<=z/\z<=100/\z<=y+9:=hF _ (bF _)
 have HB3:=ae (aY HB2.o (show Ext [] W2 W3 from hE).below)
 have rD:=ae hc
 clear hE hF hc c2 f2 xG n20 n21 n22
 obtain⟨c3,f3,l3⟩:=af ((HB3.o.block _ lw).trans HO.o.blk)
 obtain⟨J3,hcs3⟩:=HW.o W3 (HB3.o.mono gI)
 have n30:=hcs3 0 (by simp)
 simp only[au] at n30
 have n31:=hcs3 1 (by simp)
 simp only[au] at n31
 have n32:=hcs3 2 (by simp)
 simp only[au] at n32
 clear hcs3
 have q0:=jQ.o
 have hxl:x<s.dA.heaps.length:=by omega
 have hown:=(HO.o.below HB3.o).rows.own 5 _ rfl
 obtain⟨g,rfl,hcg,hfg,hgl⟩:=gX hown (by show 0<s.dA.heaps.length;omega)
 obtain⟨g0,g1⟩:=JO hcg hxl
 clear hcg q0 hown
 go_wp2_with fail
 go_end0
 have q0:=jQ.o
 have q1:=rD.o
 simp only[jh,bW,bY,dD]
 (repeat (first|rw[aF (by omega)]|rw[ak (by omega)]))
 simp only[Int.toNat_natCast]
 have Aq:=HO.o.below HB3.o
 have hgN:N<=g:=((Aq.rows.own 5 _ rfl).lt g rfl).1
 have hS:=(lU (lU (Aq.rows.own 5 _ rfl) (x*2+0) (iv y)) (x*2+1) (iv z))
 simp only[Ob _ _ hxl] at hS
 exact⟨(((HB3.o.mono gI).setCell hgN _).setCell hgN _),.inl ⟨rfl,rfl,_,es,Aq.over (i:=5) rfl (g:=g) rfl ((gz).trans gz) (aG (s.dA.heaps.set x (y,z))) hS (by simp[iK,ny,oI,iR,fK]) rfl HO.o.es⟩⟩
theorem Yy (N:Nat) (w:World) (wb:Nat) (s:jO) (V:SV) (es:List KE) (ns:Value) (x:Nat) (y:Int) (z:Int) (hO:jT N w wb s V es) (hn:rV N w ns [(x:Int),y,z]):Calls Tryz.prog 156 #[.pointer (some ⟨wb,0,none⟩),ns] w (rC N wb (jh s .CJ [(x:Int),y,z]) w):=by
 obtain⟨vt,vn,vw,vu,vr,vh,vk,vs⟩:=V
 obtain⟨o,cc,rfl⟩: ∃o c,vt= .slice o s.led.field.ax.length c:=aT (n:=s.led.field.ax.length) (hO.rows.own 0 _ rfl)
 have HO:=ae hO
 have gI:=eH hO
 obtain⟨b,c,rfl,hbN,hcs⟩:=hn
 have lb:b<w.heap.size:=by omega
 have lw:=hO.rows.lt
 have wB:=hO.rows.base
 have HW:Hid (∀W,Below N w W->b<W.heap.size/\ ∀(j:Nat) (h:j<[(x:Int),y,z].length),W.cell? ⟨b,j,none⟩=some (iv [(x:Int),y,z][j])):=ae (fun W hB=>⟨by have:=hB.size;omega,fun j h=>(jd (hB.block b hbN)).trans (hcs j h)⟩)
 obtain⟨c0,f0,l0⟩:=af hO.blk
 have oU:=hcs 0 (by simp)
 simp only[au] at oU
 have n01:=hcs 1 (by simp)
 simp only[au] at n01
 have n02:=hcs 2 (by simp)
 simp only[au] at n02
 have HB0:Hid (Below w.heap.size w w):=ae (aH _ _)
 clear hO hcs
 go_enter Tryz.func156,Tryz.ntmps156
 go_wp2_with fail
 refine zg 8 [] none [] ?_
 simp only[zt]
 repeat ((first|refine zd ?_|refine zk ?_);simp only[zp])
 intro W1 hE hF
 have HB1:=ae (aY HB0.o hE.below)
 clear hE hF c0 f0 oU n01 n02
 obtain⟨c1,f1,l1⟩:=af ((HB1.o.block _ lw).trans HO.o.blk)
 obtain⟨wL,hcs1⟩:=HW.o W1 (HB1.o.mono gI)
 have n10:=hcs1 0 (by simp)
 simp only[au] at n10
 have n11:=hcs1 1 (by simp)
 simp only[au] at n11
 have n12:=hcs1 2 (by simp)
 simp only[au] at n12
 clear hcs1
 go_wp2_with fail
 refine(jf _ _ _).mono ?_
 rintro e W2 ⟨hb,⟨hc,rfl⟩|⟨hc,rfl⟩⟩
 rotate_left
 ·simp at hc
  simp only[jh,bW,bY,dD]
  (repeat (first|rw[aF (by omega)]|rw[ak (by omega)]))
  exact⟨rfl,(aY HB1.o hb).mono gI,.inr ⟨by simp,rfl⟩⟩
 simp at hc
 have HB2:=ae (aY HB1.o hb)
 have HS2:=ae hb
 have jQ:=ae hc
 clear hb hc c1 f1 wL n10 n11 n12
 obtain⟨c2,f2,l2⟩:=af ((HB2.o.block _ lw).trans HO.o.blk)
 obtain⟨xG,hcs2⟩:=HW.o W2 (HB2.o.mono gI)
 have n20:=hcs2 0 (by simp)
 simp only[au] at n20
 have n21:=hcs2 1 (by simp)
 simp only[au] at n21
 have n22:=hcs2 2 (by simp)
 simp only[au] at n22
 clear hcs2
 go_wp2_with fail
 refine RX.gy (fun ps W'=> ¬(y<=z/\z<=s.led.field.rows)/\ps=kH 2/\Below N w W') 15 [] none [(14,⟨fun _ v=>v=rv (y,z),fun _ _ _=>(y<=z/\z<=s.led.field.rows)⟩)] (by rintro ps a1 Wx hdf ⟨h1,rfl,h3⟩;refine⟨hdf,wF (c:=2) h3 ?_ (by decide)⟩;have q0:=jQ.o;simp only[jh,bW,bY,dD];(repeat (first|rw[aF (by omega)]|rw[ak (by omega)]))) (by as_aux_lemma=>kernel_rfl) (by as_aux_lemma=>kernel_rfl) ?_
 simp only[zt]
 repeat (refine RX.zd ?_;simp only[zp])
 refine RX.bG _ (by rfl) (by rfl) ⟨_,rfl⟩ (fun Wq hE2 hF2=>?_) (fun v Wa Wb ho hE=>ho) (fun v hv=>?_)
 ·have hE':Ext [] W2 Wq:=hE2
  refine RX.dE 242 #[.pointer (some ⟨wb,0,none⟩),iv y,iv z] (by go_simp;try rfl) ?_
  refine(uO y z wb s _ Wq ((hE'.block _ (fH lw HB2.o.size) (by simp)).trans ((HB2.o.block _ lw).trans HO.o.blk))).mono ?_
  rintro e w' ⟨hb,⟨hc,rfl⟩|⟨hc,rfl⟩⟩
  ·exact .inl ⟨_,rfl,rfl,hc,Ext.aA hb⟩
  ·exact .inr ⟨_,rfl,hc,rfl,(aY HB2.o (aY hE'.below hb)).mono gI⟩
 obtain rfl:v=rv (y,z):=hv
 simp only[zp]
 intro W3 hE hF
 have hc:y<=z/\z<=s.led.field.rows:=hF _ (bF _)
 have HB3:=ae (aY HB2.o (show Ext [] W2 W3 from hE).below)
 have rD:=ae hc
 clear hE hF hc c2 f2 xG n20 n21 n22
 obtain⟨c3,f3,l3⟩:=af ((HB3.o.block _ lw).trans HO.o.blk)
 obtain⟨J3,hcs3⟩:=HW.o W3 (HB3.o.mono gI)
 have n30:=hcs3 0 (by simp)
 simp only[au] at n30
 have n31:=hcs3 1 (by simp)
 simp only[au] at n31
 have n32:=hcs3 2 (by simp)
 simp only[au] at n32
 clear hcs3
 have q0:=jQ.o
 have hxl:x<s.led.field.ax.length:=by omega
 have hown:=(HO.o.below HB3.o).rows.own 0 _ rfl
 obtain⟨g,rfl,hcg,hfg,hgl⟩:=gX hown (by show 0<s.led.field.ax.length;omega)
 obtain⟨g0,g1⟩:=YM hcg hxl
 clear hcg q0 hown
 go_wp2_with fail
 go_end0
 have q0:=jQ.o
 have q1:=rD.o
 simp only[jh,bW,bY,dD]
 (repeat (first|rw[aF (by omega)]|rw[ak (by omega)]))
 simp only[Int.toNat_natCast,gV,dw hxl,Option.getD_some]
 have Aq:=HO.o.below HB3.o
 have hgN:N<=g:=((Aq.rows.own 0 _ rfl).lt g rfl).1
 have hS:=(lU (lU (Aq.rows.own 0 _ rfl) (x*5+3) (iv y)) (x*5+4) (iv z))
 simp only[aby _ _ hxl] at hS
 exact⟨(((HB3.o.mono gI).setCell hgN _).setCell hgN _),.inl ⟨rfl,rfl,_,es,Aq.over (i:=0) rfl (g:=g) rfl ((gz).trans gz) (dL (s.led.field.ax.set x (s.led.field.ax[x].1,s.led.field.ax[x].2.1,s.led.field.ax[x].2.2.1,(y,z)))) hS (by simp[iK,ny,oI,iR,fK]) rfl HO.o.es⟩⟩
theorem Xa (x:Int) (w:World):Calls Tryz.prog 253 #[iv x] w (fun e w'=>e= .returned (.bool (decide (0<x)))/\w'=w):=by
 go_enter Tryz.func253,Tryz.ntmps253
 go_wp2
 go_returns
 exact⟨by simp,rfl⟩
theorem TS (l:List Int) (v:Value) (w:World) (hv:aO w v l):Calls Tryz.prog 217 #[v,.func (.func 253) #[] #[]] w (PV (.bool (l.any fun x=>decide (0<x))) w):=by
 refine(Px l v 253 #[] #[] (fun k=>decide (0<l.getD k 0)) (fun _ W=>Below w.heap.size w W) w (enters_of Tryz.func253 (by kernel_rfl) rfl) (fun k W h=>hv.below h (ai _)) (fun k hk W _ h=>?_) (aH _ _)).mono ?_
 ·refine(Xa l[k] W).mono ?_
  rintro e W' ⟨rfl,rfl⟩
  exact⟨by simp[hk],h⟩
 ·rintro e W' ⟨k,hk,hno,⟨hlt,hp,rfl,hI⟩|⟨hkl,rfl,hI⟩⟩
  ·refine⟨?_,hI⟩
   have:(l.any fun x=>decide (0<x))=true:=List.any_eq_true.2 ⟨l[k],dh _,by simpa [hlt] using hp⟩
   rw[this]
  ·refine⟨?_,hI⟩
   have:(l.any fun x=>decide (0<x))=false:=by
    rw[List.any_eq_false]
    intro x hx
    obtain⟨j,hj,rfl⟩:=mF hx
    have:=hno j (by omega)
    simpa [hj] using this
   rw[this]
theorem yT (s:jO) (V:SV) (es:List KE) {x:Nat} {e:KE} (h:es[x]? =some e):(iK s V es)[8+x]? =some (zD e):=by
 unfold iK
 rw[oG (by simp)]
 simp[h]
theorem IZ (s s':jO) (V:SV) (es:List KE) {x:Nat} {e:KE} (h:x<es.length) (hk:(e.1=(es[x]).1)) (hs:iK s' V es=iK s V es):iK s' V (es.set x e)=(iK s V es).set (8+x) (zD e):=by
 have h1:iK s' V (es.set x e)=(iK s' V es).set (8+x) (zD e):=by
  unfold iK
  have hkc:eU (es.set x e)=eU es:=by
   unfold eU
   rw[List.map_set,hk]
   apply List.ext_getElem
   ·simp
   ·intro j h1 h2
    rw[List.getElem_set]
    split
    ·rename_i hj;subst hj;simp
    ·rfl
  rw[hkc,List.map_set,qw,qA _ _ (by simp)]
  simp
 rw[h1,hs]
theorem aao (N:Nat) (w:World) (wb:Nat) (s:jO) (V:SV) (es:List KE) (ns:Value) (x:Nat) (y:Nat) (z:Int) (hO:jT N w wb s V es) (hn:rV N w ns [(x:Int),(y:Int),z]) (hG:fO s):Calls Tryz.prog 171 #[.pointer (some ⟨wb,0,none⟩),ns] w (rC N wb (jh s .fill [(x:Int),(y:Int),z]) w):=by
 obtain⟨vt,vn,vw,vu,vr,vh,vk,vs⟩:=V
 obtain⟨ok,ck,rfl⟩: ∃o c,vk= .slice o es.length c:=aT (n:=es.length) (hO.rows.own 6 _ rfl)
 obtain⟨oh,ch,rfl⟩: ∃o c,vh= .slice o s.dA.heaps.length c:=aT (n:=s.dA.heaps.length) (hO.rows.own 5 _ rfl)
 have HO:=ae hO
 have gI:=eH hO
 obtain⟨b,c,rfl,hbN,hcs⟩:=hn
 have lb:b<w.heap.size:=by omega
 have lw:=hO.rows.lt
 have wB:=hO.rows.base
 have HW:Hid (∀W,Below N w W->b<W.heap.size/\ ∀(j:Nat) (h:j<[(x:Int),(y:Int),z].length),W.cell? ⟨b,j,none⟩=some (iv [(x:Int),(y:Int),z][j])):=ae (fun W hB=>⟨by have:=hB.size;omega,fun j h=>(jd (hB.block b hbN)).trans (hcs j h)⟩)
 obtain⟨c0,f0,l0⟩:=af hO.blk
 have oU:=hcs 0 (by simp)
 simp only[au] at oU
 have n01:=hcs 1 (by simp)
 simp only[au] at n01
 have n02:=hcs 2 (by simp)
 simp only[au] at n02
 have HB0:Hid (Below w.heap.size w w):=ae (aH _ _)
 have hes:es.length=s.dA.aU.length:=by rw[<-hO.es];simp
 have HCK:=ae (show ∀(j:Nat) (e:KE),es[j]? =some e->s.dA.aU[j]? =some e.2/\e.2.length=s.dA.heaps.length from fun j e h=>by have h1:s.dA.aU[j]? =some e.2:=(by rw[<-hO.es];simp[h]);exact⟨h1,(hG.qm _ (ni h1)).1⟩)
 have jQ:=ae hes
 clear hes
 clear hO hcs hG
 go_enter Tryz.func171,Tryz.ntmps171
 go_wp2_with fail
 refine zg 8 [] none [] ?_
 simp only[zt]
 repeat ((first|refine zd ?_|refine zk ?_);simp only[zp])
 intro W1 hE hF
 have HB1:=ae (aY HB0.o hE.below)
 clear hE hF c0 f0 oU n01 n02
 obtain⟨c1,f1,l1⟩:=af ((HB1.o.block _ lw).trans HO.o.blk)
 obtain⟨wL,hcs1⟩:=HW.o W1 (HB1.o.mono gI)
 have n10:=hcs1 0 (by simp)
 simp only[au] at n10
 have n11:=hcs1 1 (by simp)
 simp only[au] at n11
 have n12:=hcs1 2 (by simp)
 simp only[au] at n12
 clear hcs1
 go_wp2_with fail
 refine(jf _ _ _).mono ?_
 rintro e W2 ⟨hb,⟨hc,rfl⟩|⟨hc,rfl⟩⟩
 rotate_left
 ·simp at hc
  have q0:=jQ.o
  simp only[jh,bW,bY,dD]
  (repeat (first|rw[aF (by omega)]|rw[ak (by omega)]))
  exact⟨rfl,(aY HB1.o hb).mono gI,.inr ⟨by simp,rfl⟩⟩
 simp at hc
 have HB2:=ae (aY HB1.o hb)
 have HS2:=ae hb
 have rD:=ae hc
 clear hb hc c1 f1 wL n10 n11 n12
 obtain⟨c2,f2,l2⟩:=af ((HB2.o.block _ lw).trans HO.o.blk)
 obtain⟨xG,hcs2⟩:=HW.o W2 (HB2.o.mono gI)
 have n20:=hcs2 0 (by simp)
 simp only[au] at n20
 have n21:=hcs2 1 (by simp)
 simp only[au] at n21
 have n22:=hcs2 2 (by simp)
 simp only[au] at n22
 clear hcs2
 go_wp2_with fail
 refine zg 8 [] none [] ?_
 simp only[zt]
 repeat ((first|refine zd ?_|refine zk ?_);simp only[zp])
 intro W3 hE hF
 have HB3:=ae (aY HB2.o hE.below)
 clear hE hF c2 f2 xG n20 n21 n22
 obtain⟨c3,f3,l3⟩:=af ((HB3.o.block _ lw).trans HO.o.blk)
 obtain⟨J3,hcs3⟩:=HW.o W3 (HB3.o.mono gI)
 have n30:=hcs3 0 (by simp)
 simp only[au] at n30
 have n31:=hcs3 1 (by simp)
 simp only[au] at n31
 have n32:=hcs3 2 (by simp)
 simp only[au] at n32
 clear hcs3
 go_wp2_with fail
 refine(jf _ _ _).mono ?_
 rintro e W4 ⟨hb,⟨hc,rfl⟩|⟨hc,rfl⟩⟩
 rotate_left
 ·simp at hc
  have q0:=jQ.o
  have q1:=rD.o
  simp only[jh,bW,bY,dD]
  (repeat (first|rw[aF (by omega)]|rw[ak (by omega)]))
  exact⟨rfl,(aY HB3.o hb).mono gI,.inr ⟨by simp,rfl⟩⟩
 simp at hc
 have HB4:=ae (aY HB3.o hb)
 have U8:=ae hb
 have yL:=ae hc
 clear hb hc c3 f3 J3 n30 n31 n32
 obtain⟨c4,f4,l4⟩:=af ((HB4.o.block _ lw).trans HO.o.blk)
 obtain⟨Qz,kC⟩:=HW.o W4 (HB4.o.mono gI)
 have n40:=kC 0 (by simp)
 simp only[au] at n40
 have n41:=kC 1 (by simp)
 simp only[au] at n41
 have n42:=kC 2 (by simp)
 simp only[au] at n42
 clear kC
 go_wp2_with fail
 refine(dX 2 [decide (30<z)] W4 (by simp) _ (by simp[dK]) _ _ rfl).mono ?_
 rintro e W5 ⟨hb,⟨hc,rfl⟩|⟨hc,rfl⟩⟩
 rotate_left
 ·simp at hc
  have q0:=jQ.o
  have q1:=rD.o
  have q2:=yL.o
  simp only[jh,bW,bY,dD]
  (repeat (first|rw[aF (by omega)]|rw[ak (by omega)]))
  exact⟨rfl,(aY HB4.o hb).mono gI,.inr ⟨by simp,rfl⟩⟩
 simp at hc
 have nD:=ae (aY HB4.o hb)
 have HS5:=ae hb
 have IM:=ae hc
 clear hb hc c4 f4 Qz n40 n41 n42
 obtain⟨c5,f5,l5⟩:=af ((nD.o.block _ lw).trans HO.o.blk)
 obtain⟨lb5,uC⟩:=HW.o W5 (nD.o.mono gI)
 have n50:=uC 0 (by simp)
 simp only[au] at n50
 have n51:=uC 1 (by simp)
 simp only[au] at n51
 have n52:=uC 2 (by simp)
 simp only[au] at n52
 clear uC
 go_wp2_with fail
 have q0:=jQ.o
 have q1:=rD.o
 have q2:=yL.o
 have q3:=IM.o
 have hxl:x<es.length:=by omega
 have hyl:y<s.dA.heaps.length:=by omega
 clear q0 q1 q2 q3
 obtain⟨ev,el,hel⟩: ∃ev el,es[x]? =some (ev,el):=⟨_,_,dw hxl⟩
 obtain⟨hcx,hlx⟩:s.dA.aU[x]? =some el/\el.length=s.dA.heaps.length:=HCK.o x _ hel
 have hrow: ∀s' V',(iK s' V' es)[8+x]? =some (zD (ev,el)):=fun s' V'=>yT s' V' es hel
 obtain⟨oe,ce,rfl⟩: ∃o c,ev= .slice o el.length c:=aT (n:=el.length) ((HO.o.below nD.o).rows.own _ _ (hrow _ _))
 obtain⟨gk,rfl,hgk,hfk,hkl⟩:=gX ((HO.o.below nD.o).rows.own 6 _ rfl) (by show 0<es.length;omega)
 have hgx:(eU es)[x]? =some (.slice oe el.length ce):=by simp[eU,hel]
 obtain⟨hg',eg'⟩:=je.1 hgx
 have g6:=(hgk x hg').trans (by rw[eg'])
 clear hgx hg' eg'
 have Vd:=ae (ag hel (ag hcx (ag hlx hrow)))
 clear hgk hel hcx hlx hrow
 obtain⟨gk0,ahf⟩: ∃gk0,gk0=gk:=⟨_,rfl⟩
 have HGK:=ae ahf
 clear ahf
 refine zg 15 [] none [] ?_
 simp only[zt]
 repeat ((first|refine zd ?_|refine zk ?_);simp only[zp])
 intro W6 hE hF
 have pY:=ae (aY nD.o hE.below)
 clear hE hF c5 f5 lb5 n50 n51 n52 g6
 obtain⟨c6,f6,l6⟩:=af ((pY.o.block _ lw).trans HO.o.blk)
 obtain⟨lb6,uA⟩:=HW.o W6 (pY.o.mono gI)
 have n60:=uA 0 (by simp)
 simp only[au] at n60
 have n61:=uA 1 (by simp)
 simp only[au] at n61
 have n62:=uA 2 (by simp)
 simp only[au] at n62
 clear uA
 obtain⟨g,rfl,hcg,hfg,hgl⟩:=gX ((HO.o.below pY.o).rows.own _ _ (Vd.o.2.2.2 _ _)) (by show 0<el.length;have:=Vd.o.2.2.1;omega)
 have ad9:y<el.length:=by have:=Vd.o.2.2.1;omega
 have g0:=hcg y (by simpa [zD,ah] using ad9)
 simp only[zD,ah,List.getElem_map] at g0
 have HY:=ae (ag hyl (ag hxl ad9))
 clear hcg hyl hxl
 go_wp2_with fail
 refine dN fun W7 qi=>?_
 have Aq:=HO.o.below pY.o
 have hgN:N<=g:=((Aq.rows.own _ _ (Vd.o.2.2.2 _ _)).lt g rfl).1
 have hS:=lU (Aq.rows.own _ _ (Vd.o.2.2.2 _ _)) y (iv z)
 have hO2:jT N W7 wb (fK s {s.dA with aU:=s.dA.aU.set x (el.set y z)}) ⟨vt,vn,vw,vu,vr,.slice oh s.dA.heaps.length ch,.slice (some ⟨gk,0,none⟩) es.length ck,vs⟩ (es.set x (.slice (some ⟨g,0,none⟩) el.length ce,el.set y z)):=by
  rw[qi]
  refine Aq.over (i:=8+x) (Vd.o.2.2.2 _ _) (g:=g) rfl gz (ah (el.set y z)) ?_ ?_ rfl ?_
  ·simpa [zD,ah,List.map_set] using hS
  ·refine(IZ s _ _ es HY.o.2.1 (by have:=(je.1 Vd.o.1).2;rw[this]) rfl).trans ?_
   simp[zD]
  ·show _=s.dA.aU.set x (el.set y z)
   rw[List.map_set,HO.o.es]
 have zU:=ae (show Below N w W7 from by rw[qi];exact(pY.o.mono gI).setCell hgN _)
 have Fh:=ae hO2
 clear qi Aq hgN hS hO2 ad9 hfg hgl g0 c6 f6 lb6 n60 n61 n62
 obtain⟨c7,f7,l7⟩:=af Fh.o.blk
 obtain⟨lb7,uz⟩:=HW.o W7 zU.o
 have n70:=uz 0 (by simp)
 simp only[au] at n70
 have n71:=uz 1 (by simp)
 simp only[au] at n71
 have n72:=uz 2 (by simp)
 simp only[au] at n72
 obtain⟨gk2,aks,hgk,akv,hkl2⟩:=gX (Fh.o.rows.own 6 _ rfl) (by show 0<(es.set x _).length;rw[qw];have:=HY.o.2.1;omega)
 cases aks
 have hgx:(eU (es.set x (.slice (some ⟨g,0,none⟩) el.length ce,el.set y z)))[x]? =some (.slice (some ⟨g,0,none⟩) el.length ce):=by simp[eU,HY.o.2.1]
 obtain⟨hg',eg'⟩:=je.1 hgx
 have g6:=(hgk x hg').trans (by rw[eg'])
 have hxl:=HY.o.2.1
 clear hgx hg' eg' hgk uz
 refine zg 9 [] none [] ?_
 simp only[zt]
 repeat ((first|refine zd ?_|refine zk ?_);simp only[zp])
 intro W8 hE hF
 have hOw:=(Fh.o.below (Ext.below hE))
 have hIx:aO W8 (.slice (some ⟨g,0,none⟩) el.length ce) (el.set y z):=by
  have h:=hOw.rows.own (8+x) _ (yT _ _ _ (by rw[List.getElem?_set_self HY.o.2.1]))
  have h2:=aN.dU h
  exact h2
 have oV:=ae (zU.o.trans ((Ext.below hE).mono (eH Fh.o)))
 have HOw:=ae hOw
 have HAP:=ae (TS _ _ _ hIx)
 clear hE hF hOw hIx c7 f7 lb7 g6 akv n70 n71 n72
 go_wp2_with fail
 refine HAP.o.mono ?_
 rintro e W9 ⟨rfl,hb⟩
 have HS:=ae hb
 obtain⟨q,hq⟩: ∃q,((el.set y z).any fun x=>decide (0<x))=q:=⟨_,rfl⟩
 rw[hq]
 have U9:=ae hq
 clear hb hq HAP
 go_wp2_with fail
 refine(dX 8 [!q] W9 (by simp) _ (by simp[dK]) _ _ rfl).mono ?_
 rintro e TU ⟨hb,⟨hc,rfl⟩|⟨hc,rfl⟩⟩
 ·obtain rfl:q=true:=by cases q <;>simp_all
  go_wp2_with fail
  go_end0
  have q0:=jQ.o
  have q1:=rD.o
  have q2:=yL.o
  have q3:=IM.o
  simp only[jh,dD,Int.toNat_natCast];simp only[gV,Vd.o.2.1,Option.getD_some,U9.o]
  rw[ak (by omega),ak (by omega),ak (by omega),ak (by simp)]
  exact⟨oV.o.trans ((aY HS.o hb).mono (eH HOw.o)),.inl ⟨rfl,rfl,_,_,HOw.o.below (aY HS.o hb)⟩⟩
 ·obtain rfl:q=false:=by cases q <;>simp_all
  have q0:=jQ.o
  have q1:=rD.o
  have q2:=yL.o
  have q3:=IM.o
  simp only[jh,dD,Int.toNat_natCast];simp only[gV,Vd.o.2.1,Option.getD_some,U9.o]
  rw[ak (by omega),ak (by omega),ak (by omega),aF (by simp)]
  exact⟨rfl,oV.o.trans ((aY HS.o hb).mono (eH HOw.o)),.inr ⟨by simp,rfl⟩⟩
theorem aaK (N:Nat) (w:World) (wb:Nat) (s:jO) (V:SV) (es:List KE) (ns:Value) (x:Nat) (y:Int) (hO:jT N w wb s V es) (hn:rV N w ns [(x:Int),y]) (hG:fO s):Calls Tryz.prog 170 #[.pointer (some ⟨wb,0,none⟩),ns] w (rC N wb (jh s .qm [(x:Int),y]) w):=by
 obtain⟨vt,vn,vw,vu,vr,vh,vk,vs⟩:=V
 obtain⟨oh,ch,rfl⟩: ∃o c,vh= .slice o s.dA.heaps.length c:=aT (n:=s.dA.heaps.length) (hO.rows.own 5 _ rfl)
 obtain⟨ok,ck,rfl⟩: ∃o c,vk= .slice o es.length c:=aT (n:=es.length) (hO.rows.own 6 _ rfl)
 have HO:=ae hO
 have gI:=eH hO
 obtain⟨b,c,rfl,hbN,hcs⟩:=hn
 have lb:b<w.heap.size:=by omega
 have lw:=hO.rows.lt
 have wB:=hO.rows.base
 have HW:Hid (∀W,Below N w W->b<W.heap.size/\ ∀(j:Nat) (h:j<[(x:Int),y].length),W.cell? ⟨b,j,none⟩=some (iv [(x:Int),y][j])):=ae (fun W hB=>⟨by have:=hB.size;omega,fun j h=>(jd (hB.block b hbN)).trans (hcs j h)⟩)
 obtain⟨c0,f0,l0⟩:=af hO.blk
 have oU:=hcs 0 (by simp)
 simp only[au] at oU
 have n01:=hcs 1 (by simp)
 simp only[au] at n01
 have HB0:Hid (Below w.heap.size w w):=ae (aH _ _)
 have hes:es.length=s.dA.aU.length:=by rw[<-hO.es];simp
 have jQ:=ae hes
 clear hes
 have WS:=hG.TL
 have akz:=hG.aU
 have hmk:=vS s.dA.heaps.length (by omega)
 clear hO hcs hG
 go_enter Tryz.func170,Tryz.ntmps170
 go_wp2_with fail
 refine zg 8 [] none [] ?_
 simp only[zt]
 repeat ((first|refine zd ?_|refine zk ?_);simp only[zp])
 intro W1 hE hF
 have HB1:=ae (aY HB0.o hE.below)
 have Nc:=ae (Ext.below hE)
 clear hE hF c0 f0 oU n01
 obtain⟨c1,f1,l1⟩:=af ((HB1.o.block _ lw).trans HO.o.blk)
 obtain⟨wL,hcs1⟩:=HW.o W1 (HB1.o.mono gI)
 have n10:=hcs1 0 (by simp)
 simp only[au] at n10
 have n11:=hcs1 1 (by simp)
 simp only[au] at n11
 clear hcs1
 go_wp2_with fail
 refine(jf _ _ _).mono ?_
 rintro e W2 ⟨hb,⟨hc,rfl⟩|⟨hc,rfl⟩⟩
 rotate_left
 ·simp at hc
  have q0:=jQ.o
  simp only[jh,bW,bY,dD]
  (repeat (first|rw[aF (by omega)]|rw[ak (by omega)]))
  exact⟨rfl,(aY HB1.o hb).mono gI,.inr ⟨by simp,rfl⟩⟩
 simp at hc
 have HB2:=ae (aY HB1.o hb)
 have HS2:=ae hb
 have rD:=ae hc
 clear hb hc c1 f1 wL n10 n11
 obtain⟨c2,f2,l2⟩:=af ((HB2.o.block _ lw).trans HO.o.blk)
 obtain⟨xG,hcs2⟩:=HW.o W2 (HB2.o.mono gI)
 have n20:=hcs2 0 (by simp)
 simp only[au] at n20
 have n21:=hcs2 1 (by simp)
 simp only[au] at n21
 clear hcs2
 go_wp2_with fail
 refine zg 8 [] none [] ?_
 simp only[zt]
 repeat ((first|refine zd ?_|refine zk ?_);simp only[zp])
 intro W3 hE hF
 have HB3:=ae (aY HB2.o hE.below)
 have HS3:=ae (Ext.below hE)
 clear hE hF c2 f2 xG n20 n21
 obtain⟨c3,f3,l3⟩:=af ((HB3.o.block _ lw).trans HO.o.blk)
 obtain⟨J3,hcs3⟩:=HW.o W3 (HB3.o.mono gI)
 have n30:=hcs3 0 (by simp)
 simp only[au] at n30
 have n31:=hcs3 1 (by simp)
 simp only[au] at n31
 clear hcs3
 go_wp2_with fail
 refine(dX 2 [y==0,decide (30<y)] W3 (by simp) _ (by simp[dK]) _ _ rfl).mono ?_
 rintro e W4 ⟨hb,⟨hc,rfl⟩|⟨hc,rfl⟩⟩
 rotate_left
 ·simp at hc
  have q0:=jQ.o
  have q1:=rD.o
  simp only[jh,bW,bY,dD]
  (repeat (first|rw[aF (by omega)]|rw[ak (by omega)]))
  exact⟨rfl,(aY HB3.o hb).mono gI,.inr ⟨by simp,rfl⟩⟩
 simp at hc
 have HB4:=ae (aY HB3.o hb)
 have U8:=ae hb
 have yL:=ae hc
 clear hb hc c3 f3 J3 n30 n31
 obtain⟨c4,f4,l4⟩:=af ((HB4.o.block _ lw).trans HO.o.blk)
 obtain⟨Qz,kC⟩:=HW.o W4 (HB4.o.mono gI)
 have n40:=kC 0 (by simp)
 simp only[au] at n40
 have n41:=kC 1 (by simp)
 simp only[au] at n41
 clear kC
 go_wp2_with fail
 refine(qI _ _ _).mono ?_
 rintro e W5 ⟨hb,⟨hc,rfl⟩|⟨hc,rfl⟩⟩
 rotate_left
 ·simp at hc
  have q0:=jQ.o
  have q1:=rD.o
  have q2:=yL.o
  simp only[jh,bW,bY,dD]
  (repeat (first|rw[aF (by omega)]|rw[ak (by omega)]))
  exact⟨rfl,(aY HB4.o hb).mono gI,.inr ⟨by simp,rfl⟩⟩
 simp at hc
 have nD:=ae (aY HB4.o hb)
 have HS5:=ae hb
 have IM:=ae hc
 clear hb hc c4 f4 Qz n40 n41
 obtain⟨c5,f5,l5⟩:=af ((nD.o.block _ lw).trans HO.o.blk)
 obtain⟨lb5,uC⟩:=HW.o W5 (nD.o.mono gI)
 have n50:=uC 0 (by simp)
 simp only[au] at n50
 have n51:=uC 1 (by simp)
 simp only[au] at n51
 clear uC
 go_wp2_with fail
 refine dN fun W6 qi=>?_
 obtain⟨b9,wP⟩: ∃b9,b9=W5.heap.size:=⟨_,rfl⟩
 have hHk:W6.heap[b9]? =some (.cells (ah (List.replicate s.dA.heaps.length 0)).toArray 3 (0,0)):=by rw[qi,wP];exact ay _ _
 have pY:=ae (show Below w.heap.size w W6 from by rw[qi];exact aj nD.o _)
 have UW:Ext [] W5 W6:=by rw[qi];exact Ext.aA (aj (aH _ _) _)
 have H9:=ae (ag hHk (ag UW wP))
 rw[<-wP]
 clear qi hHk UW wP hmk c5 f5 lb5 n50 n51
 obtain⟨c6,f6,l6⟩:=af ((pY.o.block _ lw).trans HO.o.blk)
 obtain⟨lb6,uA⟩:=HW.o W6 (pY.o.mono gI)
 have n60:=uA 0 (by simp)
 simp only[au] at n60
 have n61:=uA 1 (by simp)
 simp only[au] at n61
 clear uA
 have Zo:b9<W6.heap.size:=(aS.1 H9.o.1).1
 refine zg 7 [] none [] ?_
 simp only[zt]
 repeat ((first|refine zd ?_|refine zk ?_);simp only[zp])
 intro W7 hE hF
 have zU:=ae (aY pY.o hE.below)
 have HS7:=ae (Ext.below hE)
 clear hE hF c6 f6 lb6 n60 n61
 obtain⟨c7,f7,l7⟩:=af ((zU.o.block _ lw).trans HO.o.blk)
 obtain⟨lb7,uz⟩:=HW.o W7 (zU.o.mono gI)
 have n70:=uz 0 (by simp)
 simp only[au] at n70
 have n71:=uz 1 (by simp)
 simp only[au] at n71
 clear uz
 have q0:=jQ.o
 have q1:=rD.o
 have hxl:x<s.dA.heaps.length:=by omega
 have hk9:=(HS7.o.block _ Zo).trans H9.o.1
 obtain⟨k9,p9,r9⟩:=af hk9
 have g0:W7.cell? ⟨b9,x,none⟩=some (iv 0):=(k9 x).trans (by simp[ah,hxl])
 have H7:=ae hk9
 clear k9 hk9
 go_upto_region 6 with(fail)
 refine dN fun W8 qi=>?_
 have wP:W5.heap.size<=b9:=by have:=H9.o.2.2;omega
 have hH8:W8.heap[b9]? =some (.cells ((ah (List.replicate s.dA.heaps.length 0)).toArray.setIfInBounds x (iv y)) 3 (0,0)):=by rw[qi];exact aI H7.o _
 have aeK:Below W5.heap.size W5 W8:=by rw[qi];exact(aY H9.o.2.1.below HS7.o).setCell wP _
 have oV:=ae (aY nD.o aeK)
 have hown:W8.ownsRow N 3 1 (.slice (some ⟨b9,0,none⟩) s.dA.heaps.length s.dA.heaps.length) ((List.replicate s.dA.heaps.length (0:Int)).set x y).length (ah ((List.replicate s.dA.heaps.length 0).set x y)):=by
  rw[qw,List.length_replicate]
  have h9:=nD.o.size
  refine iM (cs:=(ah ((List.replicate s.dA.heaps.length 0).set x y)).toArray) (n:=s.dA.heaps.length) ?_ (by simp[ah]) (by omega) (by simp only[maxLen];omega)
  rw[hH8,rf]
  simp only[ah,List.map_set]
 have hR8:=(HO.o.below nD.o).rows.push (zD (.slice (some ⟨b9,0,none⟩) s.dA.heaps.length s.dA.heaps.length,(List.replicate s.dA.heaps.length 0).set x y)) (Ms:=[]) (Ext.aA aeK) (by simp) hown (.inr ⟨b9,rfl,wP⟩)
 have HR8:=ae hR8
 obtain⟨c8,f8,l8⟩:=af ((oV.o.block _ lw).trans HO.o.blk)
 have HX:=ae hxl
 clear qi wP hH8 aeK hown hR8 g0 hxl q0 q1 p9 r9 akz WS c7 f7 lb7 n70 n71
 have hq4:=IM.o
 have h8s:=oV.o.size
 go_wp2_with (at_builtin;go_loud (refine fQ rfl _ _ af0 rfl N (.slice ok es.length ck) es.length (eU es) rfl (aC (Ms:=[]) (HR8.o.own 6 _ rfl) (Ext.aA (aj (aH _ _) _)) (by simp)) (.slice (some ⟨W8.heap.size,0,none⟩) 1 1) 1 [.slice (some ⟨b9,0,none⟩) s.dA.heaps.length s.dA.heaps.length] rfl (aN.dB 1 1 (ay _ _) rfl (by decide)) (by simp[Value.oneCell']) (by omega) (by omega) (by simp;omega) ?_))
 intro v' w3 hown hgr hN
 obtain⟨o3,c3,rfl⟩:=aT hown
 have hbl:=(hgr.block wb (by simp;omega) (fun e=>HR8.o.off 6 _ rfl e.symm)).trans ((heap_alloc_old W8 _ l8).trans ((oV.o.block _ lw).trans HO.o.blk))
 obtain⟨k3,p3,r3⟩:=af hbl
 have yz:Ext (Value.slice ok es.length ck).ownBlock.toList W8 w3:=⟨hgr.os,hgr.tape,hgr.output,by have:=hgr.size;simp at this;omega,fun k hk hm=>(hgr.block k (by simp;omega) (fun e=>hm (dJ.2 e.symm))).trans (heap_alloc_old W8 _ hk)⟩
 have HE3:=ae (ag yz (ag hown (ag hbl hN)))
 clear yz hown hgr hbl hN c8 f8
 go_wp2_with fail
 go_end0
 have q0:=jQ.o
 have q1:=rD.o
 have q2:=yL.o
 have q3:=IM.o
 simp only[jh,bW,bY,dD]
 (repeat (first|rw[aF (by omega)]|rw[ak (by omega)]))
 simp only[Int.toNat_natCast]
 have hm1: ∀k,k∈(Value.slice ok es.length ck).ownBlock.toList->N<=k/\k<W8.heap.size:=fun k hk=>(HR8.o.own 6 _ rfl).lt k (dJ.1 hk)
 have hR:=HR8.o.put (i:=6) rfl ⟨52,1,.slice o3 (es.length+1) c3,es.length+1,eU es++[.slice (some ⟨b9,0,none⟩) s.dA.heaps.length s.dA.heaps.length]⟩ HE3.o.1 (fun m hm=> .inr (.inr (dJ.1 hm))) HE3.o.2.1 (HE3.o.2.2.2.imp id (fun e=> .inr ⟨_,e,by simp⟩))
 have hB3:Below N W8 w3:=⟨HE3.o.1.os,HE3.o.1.tape,HE3.o.1.output,HE3.o.1.size,fun k hk=>HE3.o.1.block k (by omega) (fun hm=>by have:=(hm1 k hm).1;omega)⟩
 refine⟨((oV.o.mono gI).trans hB3).setCell wB _,.inl ⟨rfl,rfl,⟨vt,vn,vw,vu,vr,.slice oh s.dA.heaps.length ch,.slice o3 (es.length+1) c3,vs⟩,es++[(.slice (some ⟨b9,0,none⟩) s.dA.heaps.length s.dA.heaps.length,(List.replicate s.dA.heaps.length 0).set x y)],⟨aI HE3.o.2.2.1 _,?_,?_⟩⟩⟩
 ·have:=hR.keep (gz (W:=w3) (b:=wb) (off:=20) (v:= .slice o3 (es.length+1) c3)) (fun m hm=> .inl (by simpa using hm))
  simpa [iK,fK,eU] using this
 ·simp[fK,HO.o.es]
theorem F9 (s s':jO) (V:SV) (es:List KE) {x:Nat} {e:KE} (h:x<es.length) (hs:iK s' V es=iK s V es):
 iK s' V (es.set x e)=((iK s V es).set (8+x) (zD e)).set 6 ⟨52,1,V.cks,es.length,(eU es).set x e.1⟩:=by
 rw[<-hs]
 unfold iK
 rw[qA _ _ (by simp),List.set_append_left _ _ (by simp)]
 simp[eU,List.map_set,qw]
def tu (s:jO) (h:dR) (i:Nat):jO:=fK s {s.dA with heaps:=s.dA.heaps++[h],aU:=(s.dA.aU.take i).map (· ++[0])++s.dA.aU.drop i}
theorem Ry (s:jO) (h:dR):tu s h 0=fK s {s.dA with heaps:=s.dA.heaps++[h]}:=by simp[tu]
theorem V3 (s:jO) (h:dR) (n:Nat) (hn:s.dA.aU.length<=n):tu s h n=fK s {s.dA with heaps:=s.dA.heaps++[h],aU:=s.dA.aU.map (· ++[0])}:=by
 simp[tu,kF hn,List.drop_of_length_le hn]
theorem VZ (s:jO) (h:dR) (i:Nat) (hi:i<s.dA.aU.length):(tu s h i).dA.aU[i]? =some s.dA.aU[i]:=by
 simp only[tu,fK]
 rw[oG (by simp;omega)]
 simp[hi,Nat.min_eq_left (ng hi)]
theorem Rz (s:jO) (h:dR) (i:Nat) (hi:i<s.dA.aU.length):(tu s h i).dA.aU.set i (s.dA.aU[i]++[0])=(tu s h (i+1)).dA.aU:=by
 simp only[tu,fK]
 rw[qA _ _ (by simp;omega)]
 simp only[mD,gU,Nat.min_eq_left (ng hi),Nat.sub_self]
 rw[uj hi,List.set_cons_zero,qY,List.map_append]
 simp[hi]
theorem Z5 (N:Nat) (w:World) (wb:Nat) (s:jO) (V:SV) (es:List KE) (ns:Value) (x:Int) (y:Int) (hO:jT N w wb s V es) (hn:rV N w ns [x,y]) (hG:fO s) (hx:0<=x/\x<=9999):Calls Tryz.prog 168 #[.pointer (some ⟨wb,0,none⟩),ns] w (rC N wb (jh s .heap [x,y]) w):=by
 obtain⟨vt,vn,vw,vu,vr,vh,vk,vs⟩:=V
 obtain⟨o,cc,rfl⟩: ∃o c,vh= .slice o s.dA.heaps.length c:=aT (n:=s.dA.heaps.length) (hO.rows.own 5 _ rfl)
 obtain⟨ok,ck,rfl⟩: ∃o c,vk= .slice o es.length c:=aT (n:=es.length) (hO.rows.own 6 _ rfl)
 have HO:=ae hO
 have gI:=eH hO
 obtain⟨b,c,rfl,hbN,hcs⟩:=hn
 have lb:b<w.heap.size:=by omega
 have lw:=hO.rows.lt
 have wB:=hO.rows.base
 have HW:Hid (∀W,Below N w W->b<W.heap.size/\ ∀(j:Nat) (h:j<[x,y].length),W.cell? ⟨b,j,none⟩=some (iv [x,y][j])):=ae (fun W hB=>⟨by have:=hB.size;omega,fun j h=>(jd (hB.block b hbN)).trans (hcs j h)⟩)
 obtain⟨c0,f0,l0⟩:=af hO.blk
 have oU:=hcs 0 (by simp)
 simp only[au] at oU
 have n01:=hcs 1 (by simp)
 simp only[au] at n01
 have HB0:Hid (Below w.heap.size w w):=ae (aH _ _)
 have hes:es.length=s.dA.aU.length:=by rw[<-hO.es];simp
 have jQ:=ae hes
 clear hes
 have WS:=hG.TL
 have HG3:=ae (ag hG.aU hG.qm)
 clear hO hcs hG
 go_enter Tryz.func168,Tryz.ntmps168
 go_wp2_with fail
 refine RX.gy (fun ps W'=> ¬(x<=y/\y<=100/\y<=x+9)/\ps=kH 2/\Below N w W') 8 [] none [(6,⟨fun _ v=>v=rv (x,y),fun _ _ _=>(x<=y/\y<=100/\y<=x+9)⟩),(7,Spec.block w.heap.size #[iv 0,iv 0] 129)] (by rintro ps a1 Wx hdf ⟨h1,rfl,h3⟩;refine⟨hdf,wF (c:=2) h3 ?_ (by decide)⟩;have q0:=jQ.o;simp only[jh,bW,bY,dD];(repeat (first|rw[aF (by omega)]|rw[ak (by omega)]))) (by as_aux_lemma=>kernel_rfl) (by as_aux_lemma=>kernel_rfl) ?_
 simp only[zt]
 repeat (refine RX.zd ?_;simp only[zp])
 refine RX.bG _ (by rfl) (by rfl) ⟨_,rfl⟩ (fun Wq hE2 hF2=>?_) (fun v Wa Wb ho hE=>ho) (fun v hv=>?_)
 ·have hE':Ext [] w Wq:=hE2
  refine RX.dE 252 #[iv x,iv y,iv 9] (by go_simp;try rfl) ?_
  refine(wC x y 9 Wq (by omega)).mono ?_
  rintro e w' ⟨hb,⟨hc,rfl⟩|⟨hc,rfl⟩⟩
  ·exact .inl ⟨_,rfl,rfl,hc,Ext.aA hb⟩
  ·exact .inr ⟨_,rfl,hc,rfl,(aY HB0.o (aY hE'.below hb)).mono gI⟩
 obtain rfl:v=rv (x,y):=hv
 simp only[zp]
 repeat (refine RX.zd ?_;simp only[zp])
 refine RX.jV w.heap.size _ _ (by rfl) (ai _) (by rfl) (by simp) (by simp) (fun W hW=>by go_simp;try rfl) (fun b9=>?_)
 simp only[zp]
 intro Wb hE hF
 obtain⟨b9',wP,hge,hk9⟩:=hF _ (bF _)
 cases wP
 have hc:x<=y/\y<=100/\y<=x+9:=hF _ (nJ _ (bF _))
 have HBb:=ae (aY HB0.o (show Ext [] w Wb from hE).below)
 have rD:=ae hc
 have qQ:=ae (ag (iW HB0.o.size hge) hk9)
 obtain⟨c9,f9,l9⟩:=af hk9
 clear hE hF hc hge hk9 c0 f0 oU n01
 go_upto_region 2 with(fail)
 refine dN fun W1 qi=>?_
 have HB1:=ae (show Below w.heap.size w W1 from by rw[qi];exact((HBb.o).setCell qQ.o.1 _).setCell qQ.o.1 _)
 have D8:=ae (show W1.heap[b9]? =some (.cells #[iv x,iv y] 129 (0,0)) from by rw[qi];exact aI (aI (qQ.o.2) _) _)
 have Zo:b9<W1.heap.size:=(aS.1 D8.o).1
 clear qi c9 f9 l9
 obtain⟨c1,f1,l1⟩:=af ((HB1.o.block _ lw).trans HO.o.blk)
 obtain⟨wL,hcs1⟩:=HW.o W1 (HB1.o.mono gI)
 have n10:=hcs1 0 (by simp)
 simp only[au] at n10
 have n11:=hcs1 1 (by simp)
 simp only[au] at n11
 clear hcs1
 go_wp2_with fail
 refine(qI _ _ _).mono ?_
 rintro e W2 ⟨hb,⟨hc,rfl⟩|⟨hc,rfl⟩⟩
 rotate_left
 ·simp at hc
  have q0:=jQ.o
  have q1:=rD.o
  simp only[jh,bW,bY,dD]
  (repeat (first|rw[aF (by omega)]|rw[ak (by omega)]))
  exact⟨rfl,(aY HB1.o hb).mono gI,.inr ⟨by simp,rfl⟩⟩
 simp at hc
 have HB2:=ae (aY HB1.o hb)
 have HS2:=ae hb
 have yL:=ae hc
 clear hb hc c1 f1 wL n10 n11
 obtain⟨c2,f2,l2⟩:=af ((HB2.o.block _ lw).trans HO.o.blk)
 obtain⟨xG,hcs2⟩:=HW.o W2 (HB2.o.mono gI)
 have n20:=hcs2 0 (by simp)
 simp only[au] at n20
 have n21:=hcs2 1 (by simp)
 simp only[au] at n21
 clear hcs2
 go_wp2_with fail
 obtain⟨Ms,hMs⟩: ∃Ms,Ms=(Value.slice o s.dA.heaps.length cc).ownBlock.toList:=⟨_,rfl⟩
 have hO2:=HO.o.below HB2.o
 have hm1:wb∉Ms:=fun h=>hO2.rows.off 5 _ rfl (by rw[hMs] at h;exact dJ.1 h)
 have hm2:b∉Ms:=fun h=>by have:=((hO2.rows.own 5 _ rfl).lt b (by rw[hMs] at h;exact dJ.1 h)).1;omega
 have uu: ∀m∈Ms,m<W2.heap.size:=fun m h=>((hO2.rows.own 5 _ rfl).lt m (by rw[hMs] at h;exact dJ.1 h)).2
 obtain⟨c9,f9,l9⟩:=af ((HS2.o.block _ Zo).trans D8.o)
 have hm9:b9∉Ms:=fun h=>by have:=((HO.o.rows.own 5 _ rfl).lt b9 (by rw[hMs] at h;exact dJ.1 h)).2;have:=qQ.o.1;omega
 have HM:=ae hMs
 have jw:=ae hO2
 clear hMs hO2
 refine zg 8 Ms (some 7) [(6,Spec.slice W2.heap.size #[iv x,iv y] 129 1),(7,⟨fun _ v=> ∃o2 c2,v= .slice o2 (s.dA.heaps.length+1) c2,fun _ v Wx=>Wx.ownsRow N 129 2 v (s.dA.heaps.length+1) (aG s.dA.heaps++[iv x,iv y])/\(v.ownBlock=(Value.slice o s.dA.heaps.length cc).ownBlock∨ ∃q,v.ownBlock=some q/\W2.heap.size<=q)⟩)] ?_
 simp only[zt]
 repeat ((first|refine zd ?_|refine zk ?_);simp only[zp])
 refine dY W2.heap.size _ _ 1 (by rfl) (ai _) (by rfl) uu (by simp) (fun W hW=>by go_simp;try rfl) (fun b6=>?_)
 simp only[zp]
 repeat ((first|refine zd ?_|refine zk ?_);simp only[zp])
 refine bG _ (by rfl) (by rfl) (by exact⟨.slice none (s.dA.heaps.length+1) 0,none,0,rfl⟩) (fun W6 hE hF=>?_) (fun v Wa Wb ho hE=>?_) (fun v hv=>?_)
 ·have hE':Ext [] W2 W6:=hE
  obtain⟨b',hb',hge,hcc⟩:=hF _ (bF _) (by kernel_rfl)
  cases hb'
  have hown6:W6.ownsRow N 129 2 (.slice o s.dA.heaps.length cc) s.dA.heaps.length (aG s.dA.heaps):=aC (Ms:=[]) (jw.o.rows.own 5 _ rfl) hE' (by simp)
  have hsrc:aN 2 W6 (.slice (some ⟨b6,0,none⟩) 1 1) 1 ([iv x,iv y]):=aN.dB 2 1 hcc rfl (by decide)
  refine Does.mono (dM afY (by rfl) (by rfl) hown6 (by rfl) hsrc (Ze x y) (by omega) (by omega) (by have:=hE'.size;have:=HB2.o.size;omega)) ?_
  rintro v' W7 ⟨ho,hgr,hcase⟩
  refine⟨aT ho,⟨ho,?_⟩,⟨hgr.os,hgr.tape,hgr.output,hgr.size,fun b hb hn=>hgr.block b hb (fun e=>hn (by rw[HM.o];exact dJ.2 e.symm))⟩⟩
  rcases hcase with h1|h1
  ·exact .inl h1
  ·exact .inr ⟨_,h1,hE'.size⟩
 ·exact⟨aC (Ms:=[]) ho.1 hE (by simp),ho.2⟩
 obtain⟨o7,c7,rfl⟩:=hv
 simp only[zp]
 intro W3 hE hF
 obtain⟨qE,Ak⟩:=hF _ (bF _)
 have gY:Ext Ms W2 W3:=hE
 have hbl:=(gY.block wb jw.o.rows.lt hm1).trans jw.o.blk
 obtain⟨c3,f3,l3⟩:=af hbl
 have ja:=ae (ag gY (ag qE (ag Ak hbl)))
 have AU:Below N w W3:=(HB2.o.mono gI).trans ⟨gY.os,gY.tape,gY.output,gY.size,fun k hk=>gY.block k (by have:=HB2.o.size;omega) (fun h=>by have:=((jw.o.rows.own 5 _ rfl).lt k (by rw[HM.o] at h;exact dJ.1 h)).1;omega)⟩
 have oV:=ae AU
 clear hE hF gY qE Ak hbl AU hm1 hm2 uu c2 f2 xG n20 n21
 go_upto_region 4 with(fail)
 refine dN fun W4 qi=>?_
 have hO6:jT N W4 wb (tu s (x,y) 0) ⟨vt,vn,vw,vu,vr,.slice o7 (s.dA.heaps.length+1) c7,.slice ok es.length ck,vs⟩ es:=by
  rw[qi,Ry]
  exact jw.o.put (i:=5) rfl ⟨129,2,.slice o7 (s.dA.heaps.length+1) c7,s.dA.heaps.length+1,aG s.dA.heaps++[iv x,iv y]⟩ ja.o.1 (fun m hm=>by rw[HM.o] at hm;exact dJ.1 hm) ja.o.2.1 ja.o.2.2.1 (aI ja.o.2.2.2 _) (by simp[iK,fK,aG]) jw.o.es
 have HB4:=ae (show Below N w W4 from by rw[qi];exact oV.o.setCell wB _)
 obtain⟨c4,f4,l4⟩:=af hO6.blk
 have Jk:=ae hO6
 clear qi hO6 c3 f3 c9 f9
 go_wp2_with fail
 clear c4 f4
 have hle:es.length<=3:=by have:=jQ.o;have:=HG3.o.1;omega
 go_loopw [6,39] (fun _ u wr=> ∃i:Nat,i<=es.length/\u= .int .i64 i/\Below N w wr/\ ∃es':List KE,es'.length=es.length/\jT N wr wb (tu s (x,y) i) ⟨vt,vn,vw,vu,vr,.slice o7 (s.dA.heaps.length+1) c7,.slice ok es.length ck,vs⟩ es') (fun _ u _=>es.length-(intOf u).toNat)
 case atStart=>exact⟨0,bQ _,rfl,HB4.o,es,rfl,Jk.o⟩
 case round=>
  obtain⟨i,hi,rfl,hB,es',I9,hOr⟩:=hrel
  by_cases hlt:i<es.length
  ·obtain⟨c5,f5,l5⟩:=af hOr.blk
   have hic:i<s.dA.aU.length:=by have:=jQ.o;omega
   obtain⟨ev,el,Dj⟩: ∃ev el,es'[i]? =some (ev,el):=⟨_,_,dw (by omega)⟩
   have WS:el=s.dA.aU[i]:=by
    have h1:=VZ s (x,y) i hic
    rw[<-hOr.es] at h1
    simpa [Dj] using h1
   have hrow:=yT (tu s (x,y) i) ⟨vt,vn,vw,vu,vr,.slice o7 (s.dA.heaps.length+1) c7,.slice ok es.length ck,vs⟩ es' Dj
   obtain⟨oe,ce,rfl⟩: ∃o c,ev= .slice o el.length c:=aT (n:=el.length) (hOr.rows.own _ _ hrow)
   have akx:el.length<=3:=by rw[WS,(HG3.o.2 _ (dh _)).1];omega
   have h6:wr.ownsRow N 52 1 (.slice ok es.length ck) es.length (eU es'):=by have h:=hOr.rows.own 6 _ rfl;rw[<-I9];rw[<-I9] at h;exact h
   obtain⟨gk,rfl,hgk,hfk,hkl⟩:=gX h6 (by omega)
   have hgx:(eU es')[i]? =some (.slice oe el.length ce):=by simp[eU,Dj]
   obtain⟨hg',eg'⟩:=je.1 hgx
   have g6:=(hgk i hg').trans (by rw[eg'])
   obtain⟨Ms,hMs⟩: ∃Ms,Ms=(Value.slice oe el.length ce).ownBlock.toList:=⟨_,rfl⟩
   have hm1:wb∉Ms:=fun h=>hOr.rows.off _ _ hrow (by rw[hMs] at h;exact dJ.1 h)
   have hm2:gk∉Ms:=fun h=>by
    have h0:(Value.slice oe el.length ce).ownBlock=some gk:=(by rw[hMs] at h;exact dJ.1 h)
    rcases hOr.rows.apart 6 (8+i) _ _ rfl hrow (by omega) with h1|h1
    ·cases h1
    ·exact h1 h0.symm
   have uu: ∀m∈Ms,m<wr.heap.size:=fun m h=>((hOr.rows.own _ _ hrow).lt m (by rw[hMs] at h;exact dJ.1 h)).2
   have HM:=ae hMs
   have Jj:=ae (ag hOr (ag hB (ag Dj (ag WS (ag I9 (ag hrow (ag h6 hic)))))))
   clear hMs hOr hB Dj WS I9 hrow h6 hgx hg' eg' hgk
   go_wp2_with fail
   refine zg 14 Ms (some 13) [(12,Spec.slice wr.heap.size #[iv 0] 3 1),(13,⟨fun _ v=> ∃o2 c2,v= .slice o2 (el.length+1) c2,fun _ v Wx=>Wx.ownsRow N 3 1 v (el.length+1) (ah el++[iv 0])/\(v.ownBlock=(Value.slice oe el.length ce).ownBlock∨ ∃q,v.ownBlock=some q/\wr.heap.size<=q)⟩)] ?_
   simp only[zt]
   repeat ((first|refine zd ?_|refine zk ?_);simp only[zp])
   refine dY wr.heap.size _ _ 1 (by rfl) (ai _) (by rfl) uu (by simp) (fun W hW=>by go_simp;try rfl) (fun b6=>?_)
   simp only[zp]
   refine bG _ (by rfl) (by rfl) (by exact⟨.slice none (el.length+1) 0,none,0,rfl⟩) (fun W6 hE hF=>?_) (fun v Wa Wb ho hE=>?_) (fun v hv=>?_)
   ·have hE':Ext [] wr W6:=hE
    obtain⟨b',hb',hge,hcc⟩:=hF _ (bF _) (by kernel_rfl)
    cases hb'
    have hown6:W6.ownsRow N 3 1 (.slice oe el.length ce) el.length (ah el):=aC (Ms:=[]) (Jj.o.1.rows.own _ _ Jj.o.2.2.2.2.2.1) hE' (by simp)
    have hsrc:aN 1 W6 (.slice (some ⟨b6,0,none⟩) 1 1) 1 ([iv 0]):=aN.dB 1 1 hcc rfl (by decide)
    refine Does.mono (dM sK (by rfl) (by rfl) hown6 (by rfl) hsrc (one_one 0) (by omega) (by omega) (by have:=hE'.size;have:=Jj.o.2.1.size;omega)) ?_
    rintro v' W7 ⟨ho,hgr,hcase⟩
    refine⟨aT ho,⟨ho,?_⟩,⟨hgr.os,hgr.tape,hgr.output,hgr.size,fun b hb hn=>hgr.block b hb (fun e=>hn (by rw[HM.o];exact dJ.2 e.symm))⟩⟩
    rcases hcase with h1|h1
    ·exact .inl h1
    ·exact .inr ⟨_,h1,hE'.size⟩
   ·exact⟨aC (Ms:=[]) ho.1 hE (by simp),ho.2⟩
   obtain⟨o8,c8,rfl⟩:=hv
   simp only[zp]
   intro W8 hE hF
   obtain⟨qE,Ak⟩:=hF _ (bF _)
   have gY:Ext Ms wr W8:=hE
   have hR1:=Jj.o.1.rows.put Jj.o.2.2.2.2.2.1 (zD (.slice o8 (el.length+1) c8,el++[0])) gY (fun m hm=> .inr (.inr (by rw[HM.o] at hm;exact dJ.1 hm))) (by simpa [zD,ah] using qE) (Ak.imp id .inr)
   have hbl:=(gY.block wb l5 hm1).trans Jj.o.1.blk
   obtain⟨c9,f9,l9⟩:=af hbl
   have g7:=(gY.cell gk i hkl hm2).trans g6
   have h68:W8.ownsRow N 52 1 (.slice (some ⟨gk,0,none⟩) es.length ck) es.length (eU es'):=dn Jj.o.2.2.2.2.2.2.1 gY (fun b hb hm=>by cases hb;exact hm2 hm)
   obtain⟨gk',aet, -,aoR,hkl'⟩:=gX h68 (by omega)
   cases aet
   have ahR:Below N w W8:=Jj.o.2.1.trans ⟨gY.os,gY.tape,gY.output,gY.size,fun k hk=>gY.block k (by have:=Jj.o.2.1.size;omega) (fun h=>by have:=((Jj.o.1.rows.own _ _ Jj.o.2.2.2.2.2.1).lt k (by rw[HM.o] at h;exact dJ.1 h)).1;omega)⟩
   have HE:=ae (ag gY (ag hR1 (ag hbl (ag h68 ahR))))
   clear hE hF gY qE Ak hR1 hbl h68 ahR c5 f5 g6 hm1 hm2 uu hfk hkl
   go_wp2_with fail
   go_roundw
   case rel=>
    refine⟨i+1,by omega,by go_num,HE.o.2.2.2.2.setCell (HE.o.2.2.2.1.lt gk rfl).1 _,es'.set i (.slice o8 (el.length+1) c8,el++[0]),by simp[Jj.o.2.2.2.2.1],?_,?_,?_⟩
    ·exact((gz (W:=W8) (b:=gk) (off:=i) (v:= .slice o8 (el.length+1) c8)).block wb HE.o.2.1.lt (fun hm=>HE.o.2.1.off 6 ⟨52,1,.slice (some ⟨gk,0,none⟩) es.length ck,es'.length,eU es'⟩ (by rw[List.getElem?_set_ne (by omega)];rfl) (by rw[fD.1 hm];rfl))).trans HE.o.2.2.1
    ·rw[F9 (tu s (x,y) i) (tu s (x,y) (i+1)) _ es' (by rw[Jj.o.2.2.2.2.1];exact hlt) rfl]
     have hS:=lU HE.o.2.2.2.1 i (.slice o8 (el.length+1) c8)
     refine HE.o.2.1.put (i:=6) (r:=⟨52,1,.slice (some ⟨gk,0,none⟩) es.length ck,es'.length,eU es'⟩) (by rw[List.getElem?_set_ne (by omega)];rfl) _ gz (fun m hm=> .inr (.inr (by rw[fD.1 hm];rfl))) ?_ (.inl rfl)
     rw[Jj.o.2.2.2.2.1]
     exact hS
    ·rw[List.map_set,Jj.o.1.es, <-Rz s (x,y) i Jj.o.2.2.2.2.2.2.2]
     exact congrArg (fun q=>(tu s (x,y) i).dA.aU.set i (q++[0])) Jj.o.2.2.2.1
   case measure=>simp[intOf];omega
  ·obtain rfl:i=es.length:=by omega
   have Jj:=ae (ag hOr hB)
   clear hOr hB hle
   go_wp2_with fail
   go_end0
   have q0:=jQ.o
   have q1:=rD.o
   have q2:=yL.o
   simp only[jh,bW,bY,dD]
   (repeat (first|rw[aF (by omega)]|rw[ak (by omega)]))
   rw[V3 s (x,y) _ (by omega)] at Jj
   exact⟨Jj.o.2,.inl ⟨rfl,rfl,_,es',Jj.o.1⟩⟩
def aa3 (N:Nat) (t:TypeId) (size g n c:Nat) (xs:List Value) (w:World) (e:Ending) (w':World):Prop:=
 e= .returned (.slice (some ⟨g,0,none⟩) n c)/\w'.ownsRow N t size (.slice (some ⟨g,0,none⟩) n c) n xs/\Ext [g] w w'
theorem gB {W:World} {g:Nat} {cs:Array Value}:Ext [g] W (W.setRow g cs):=
 ⟨rfl,rfl,rfl,by simp,fun k _ hm=>setRow_other _ _ _ _ (by simpa using hm)⟩
theorem uf {P:Program} {t e:TypeId} {z:Value} {size bytes:Nat} (hT:iQ P t e z size bytes) {W:World} {N g c n i m:Nat} {xs:List Value} (ho:W.ownsRow N e size (.slice (some ⟨g,0,none⟩) n c) n xs) (h1: ∀u∈xs,u.oneCell'=true)
 (hi:i<n) (hm:m=n-1) (A:Addr) (hA:(if c=i+1 then some (⟨g,0,none⟩:Addr) else some ⟨g,(i+1)*size,none⟩)=some A):
 ∃W1,(∀ty,(Builtin.append_ #[t,t] ty #[.slice (some ⟨g,0,none⟩) i c,.slice (some A) (n-(i+1)) (c-(i+1))]).run P W= .ok (.slice (some ⟨g,0,none⟩) m c) W1)/\
  W1.ownsRow N e size (.slice (some ⟨g,0,none⟩) n c) n (xs.take (i*size)++xs.drop (i*size+size)++xs.drop (n*size-size))/\Ext [g] W W1:=by
 obtain⟨it,hit,hz,hs,hby⟩:=info_parts hT.info
 obtain⟨hl,⟨h2,_⟩|⟨g',c',cur,h2,hb,hg,hnc,hcm,hcs,htk⟩⟩:=ho
 ·cases h2
 cases h2
 have hpos:=hT.pos
 have hnn:n=i+1+(n-(i+1)):=by omega
 have hmul:n*size=i*size+size+(n-(i+1))*size:=by
  conv=>lhs;rw[hnn]
  rw[Nat.add_mul,Nat.add_mul,Nat.one_mul]
 have hcz:n*size<=cur.size:=by rw[hcs];exact Nat.mul_le_mul_right _ hnc
 have hlen:(xs.drop (i*size+size)).length=(n-(i+1))*size:=by rw[lG,hl];omega
 have hnews: ∀j u,(xs.drop (i*size+size))[j]? =some u->W.cell? (A.add j)=some u:=by
  intro j u hu
  have hj:=(je.1 hu).1
  rw[hlen] at hj
  have hne:c≠i+1:=by
   intro e
   have:n-(i+1)=0:=by omega
   rw[this] at hj
   omega
  rw[ak hne] at hA
  obtain rfl:=jD hA
  rw[Addr.add_lit,cell_of_row W g _ cur e (0,0) hg]
  rw[List.getElem?_drop, <-htk,List.getElem?_take] at hu
  split at hu
  ·rw[show(i+1)*size+j=i*size+size+j from by rw[Nat.add_mul,Nat.one_mul]]
   simpa using hu
  ·cases hu
 have hroom:i+(n-(i+1))<=c:=by omega
 have hfit:i*it.size+(xs.drop (i*size+size)).length<=cur.size:=by rw[hs,hlen];omega
 refine⟨W.setRow g (cur.toList.take (i*size)++xs.drop (i*size+size)++cur.toList.drop (i*size+(xs.drop (i*size+size)).length)).toArray,fun ty=>?_,?_,gB⟩
 ·have:=run_append_room (P:=P) W t ty e it hT.und hit g i c cur hg A (n-(i+1)) (c-(i+1)) (xs.drop (i*size+size)) (by rw[hlen,hs]) hnews (fun u hu=>h1 u (List.mem_of_mem_drop hu)) hroom hfit
  rw[this,hs,show i+(n-(i+1))=m from by omega]
 ·have hti:cur.toList.take (i*size)=xs.take (i*size):=by
   rw[<-htk,List.take_take]
   congr 1
   omega
  have hL:(xs.take (i*size)++xs.drop (i*size+size)++xs.drop (n*size-size)).length=n*size:=by
   simp only[dm,gU,lG,hl]
   omega
  refine⟨hL,.inr ⟨g,c,_,rfl,hb,setRow_heap W g cur _ e _ hg,hnc,hcm,?_,?_⟩⟩
  ·simp only[List.size_toArray,dm,gU,lG,Array.length_toList,hl]
   omega
  ·rw[hti,hlen,List.take_append,kF (by simp only[dm,gU,lG,hl];omega)]
   congr 1
   simp only[dm,gU,lG,hl]
   rw[show n*size-(min (i*size) (n*size)+(n*size-(i*size+size)))=size from by omega, <-htk,List.drop_take]
   rw[show i*size+(n-(i+1))*size=n*size-size from by omega,show n*size-(n*size-size)=size from by omega]
theorem jK {P:Program} {w w':World} {ops:Array Oper} {rest:List Oper} {o:Oper} {a:Act} {Q:Exit->Act->World->Prop} (hg:o.guard=none) (s x:Operand) {t:TypeId}
 (hop:o.op=Op.call {callee:=Callee.builtin Builtin.append,args:= #[s,x],argTypes:= #[t,t]}) (v src v':Value) (hs:a.eval s=v) (hx:a.eval x=src) (hrun: ∀ty,(Builtin.append_ #[t,t] ty #[v,src]).run P w= .ok v' w')
 (hK:wpList P ops Q rest (a.put o.dst v') w'):wpList P ops Q (o::rest) a w:=by
 refine wpList_plain hg fun K hK'=>?_
 refine zi (R:=fun v1 w1=>v1=v'/\w1=w') (jm v' ?_ ⟨rfl,rfl⟩) fun v1 w1 ⟨h1,h2⟩=>by rw[h1,h2];exact hK' _ _ hK
 simp[execOp,hop,resolve,invoke,builtin,hs,hx,hrun,Result.andThen]
theorem nO {P:Program} {t e:TypeId} {z:Value} {size bytes:Nat} (hT:iQ P t e z size bytes) (hv: ∀w,(zeroValue e).run P w= .ok z w) (hz1:(Builtin.zeroCells z.cells 1).toList.all (·.oneCell')=true) {W:World} {N g c n m:Nat} {xs:List Value} (ho:W.ownsRow N e size (.slice (some ⟨g,0,none⟩) n c) n xs) (hm:m+1=n):
 ∃W1,(∀ty,(Builtin.clear_ #[t] ty #[.slice (some ⟨g,m*size,none⟩) (n-m) (c-m)]).run P W= .ok (.tuple #[]) W1)/\W1.ownsRow N e size (.slice (some ⟨g,0,none⟩) m c) m (xs.take (m*size))/\Ext [g] W W1:=by
 obtain⟨it,hit,hz,hs,hby⟩:=info_parts hT.info
 obtain⟨hl,⟨h2,_⟩|⟨g',c',cur,h2,hb,hg,hnc,hcm,hcs,htk⟩⟩:=ho
 ·cases h2
 cases h2
 subst hm
 have hzl:(Builtin.zeroCells z.cells 1).toList.length=size:=by simp[Builtin.zeroCells,hT.cells]
 have hz2: ∀u∈(Builtin.zeroCells z.cells 1).toList,u.oneCell'=true:=fun u hu=>ku.1 hz1 u hu
 have hcz:m*size+size<=cur.size:=by
  rw[hcs]
  have:=Nat.mul_le_mul_right size hnc
  rw[Nat.add_mul,Nat.one_mul] at this
  exact this
 have hst:=run_storeCells_at P g (m*size) e (Builtin.zeroCells z.cells 1).toList 0 cur W hg (by rw[hzl];omega) hz2
 simp only[Nat.add_zero] at hst
 obtain⟨nw,hnw⟩: ∃nw,nw=(cur.toList.take (m*size)++(Builtin.zeroCells z.cells 1).toList++cur.toList.drop (m*size+(Builtin.zeroCells z.cells 1).toList.length)).toArray:=⟨_,rfl⟩
 rw[<-hnw] at hst
 refine⟨W.setRow g nw,fun ty=>?_,⟨?_,.inr ⟨g,c,nw,rfl,hb,setRow_heap W g cur _ e _ hg,by omega,hcm,?_,?_⟩⟩,gB⟩
 ·rw[show m+1-m=0+1 from by omega]
  simp[Builtin.clear_,run_underlying hT.und,hv,hst]
 ·rw[gU,hl,Nat.add_mul];omega
 ·rw[hnw];simp only[List.size_toArray,dm,gU,lG,Array.length_toList,hzl]
  omega
 ·rw[hnw]
  rw[jg,nK (by simp;omega),List.take_take,Nat.min_self, <-htk,List.take_take]
  congr 1
  rw[Nat.add_mul];omega
theorem Tm (N:Nat) (g n c i:Nat) (xs:List Value) (w:World) (ho:w.ownsRow N 186 5 (.slice (some ⟨g,0,none⟩) n c) n xs) (h1: ∀u∈xs,u.oneCell'=true) (hi:i<n) (hn:n<=100):
 Calls Tryz.prog 244 #[.slice (some ⟨g,0,none⟩) n c,iv i,iv (i+1)] w (aa3 N 186 5 g (n-1) c (xs.take (i*5)++xs.drop (i*5+5)) w):=by
 have hnc:n<=c/\c<=maxLen:=by
  obtain⟨h1,⟨h2,rfl⟩|⟨g',cc,cs,h2,h3,h4,h5,h6,h7,h8⟩⟩:=ho
  ·cases h2
  ·cases h2;exact⟨h5,h6⟩
 obtain⟨hnc,hcm⟩:=hnc
 simp only[maxLen] at hcm
 have hc0:c≠0:=by omega
 have hi1:(i:Int)<=(c:Int):=by omega
 have hi2:(0:Int)<=(i:Int):=by omega
 have hi3:(i:Int)+1<=(n:Int):=by omega
 have hi4:(0:Int)<=(i:Int)+1:=by omega
 have hi5:i<=c:=by omega
 have hi6:i+1<=n:=by omega
 have hi7:((i:Int)+1).toNat=i+1:=by omega
 obtain⟨m,hm⟩: ∃m,m=n-1:=⟨_,rfl⟩
 have hm1:(m:Int)<=(n:Int):=by omega
 have hm2:c≠m:=by omega
 have uu:(n:Int)<=(c:Int):=by omega
 have hm4:m<=n:=by omega
 obtain⟨A,hA⟩: ∃A:Addr,(if c=i+1 then some (⟨g,0,none⟩:Addr) else some ⟨g,(i+1)*5,none⟩)=some A:=by split <;>exact⟨_,rfl⟩
 have HO:=ae (ag ho (ag hm hA))
 clear ho hm
 go_enter Tryz.func244,Tryz.ntmps244
 go_wp2_with fail
 refine zg 6 [] none [] ?_
 simp only[zt]
 repeat ((first|refine zd ?_|refine zk ?_);simp only[zp])
 intro W hE hF
 have HE:=ae (show Ext [] w W from hE)
 clear hE hF
 obtain⟨W1,happ,ho1,hE1⟩:=uf YO (aC (Ms:=[]) HO.o.1 HE.o (by simp)) h1 hi HO.o.2.1 A HO.o.2.2
 obtain⟨W2,hcl,ho2,hE2⟩:=nO YO (fun w=>Tryz.zeroValue186 w) (by kernel_rfl) ho1 (m:=m) (by have:=HO.o.2.1;omega)
 have H2:=ae (ag ho2 (ag hE1 hE2))
 clear ho1 ho2 hE1 hE2 hA
 go_wp2_with (at_builtin;refine jK rfl _ _ rfl _ _ _ rfl rfl happ ?_)
 go_returns
 refine⟨by simp;exact HO.o.2.1,?_,((Ext.nil HE.o).trans H2.o.2.1).trans H2.o.2.2⟩
 have h9:=H2.o.1
 rw[<-HO.o.2.1]
 have hl:=HO.o.1.1
 have hx:(xs.take (i*5)++xs.drop (i*5+5)++xs.drop (n*5-5)).take (m*5)=xs.take (i*5)++xs.drop (i*5+5):=by
  have:=HO.o.2.1
  rw[nK (by simp only[dm,gU,lG,hl];omega),kF (by simp only[dm,gU,lG,hl];omega)]
 rw[<-hx]
 exact h9
theorem Po (N:Nat) (g n c i:Nat) (xs:List Value) (w:World) (ho:w.ownsRow N 188 3 (.slice (some ⟨g,0,none⟩) n c) n xs) (h1: ∀u∈xs,u.oneCell'=true) (hi:i<n) (hn:n<=100):
 Calls Tryz.prog 246 #[.slice (some ⟨g,0,none⟩) n c,iv i,iv (i+1)] w (aa3 N 188 3 g (n-1) c (xs.take (i*3)++xs.drop (i*3+3)) w):=by
 have hnc:n<=c/\c<=maxLen:=by
  obtain⟨h1,⟨h2,rfl⟩|⟨g',cc,cs,h2,h3,h4,h5,h6,h7,h8⟩⟩:=ho
  ·cases h2
  ·cases h2;exact⟨h5,h6⟩
 obtain⟨hnc,hcm⟩:=hnc
 simp only[maxLen] at hcm
 have hc0:c≠0:=by omega
 have hi1:(i:Int)<=(c:Int):=by omega
 have hi2:(0:Int)<=(i:Int):=by omega
 have hi3:(i:Int)+1<=(n:Int):=by omega
 have hi4:(0:Int)<=(i:Int)+1:=by omega
 have hi5:i<=c:=by omega
 have hi6:i+1<=n:=by omega
 have hi7:((i:Int)+1).toNat=i+1:=by omega
 obtain⟨m,hm⟩: ∃m,m=n-1:=⟨_,rfl⟩
 have hm1:(m:Int)<=(n:Int):=by omega
 have hm2:c≠m:=by omega
 have uu:(n:Int)<=(c:Int):=by omega
 have hm4:m<=n:=by omega
 obtain⟨A,hA⟩: ∃A:Addr,(if c=i+1 then some (⟨g,0,none⟩:Addr) else some ⟨g,(i+1)*3,none⟩)=some A:=by split <;>exact⟨_,rfl⟩
 have HO:=ae (ag ho (ag hm hA))
 clear ho hm
 go_enter Tryz.func246,Tryz.ntmps246
 go_wp2_with fail
 refine zg 6 [] none [] ?_
 simp only[zt]
 repeat ((first|refine zd ?_|refine zk ?_);simp only[zp])
 intro W hE hF
 have HE:=ae (show Ext [] w W from hE)
 clear hE hF
 obtain⟨W1,happ,ho1,hE1⟩:=uf abG (aC (Ms:=[]) HO.o.1 HE.o (by simp)) h1 hi HO.o.2.1 A HO.o.2.2
 obtain⟨W2,hcl,ho2,hE2⟩:=nO abG (fun w=>Tryz.zeroValue188 w) (by kernel_rfl) ho1 (m:=m) (by have:=HO.o.2.1;omega)
 have H2:=ae (ag ho2 (ag hE1 hE2))
 clear ho1 ho2 hE1 hE2 hA
 go_wp2_with (at_builtin;refine jK rfl _ _ rfl _ _ _ rfl rfl happ ?_)
 go_returns
 refine⟨by simp;exact HO.o.2.1,?_,((Ext.nil HE.o).trans H2.o.2.1).trans H2.o.2.2⟩
 have h9:=H2.o.1
 rw[<-HO.o.2.1]
 have hl:=HO.o.1.1
 have hx:(xs.take (i*3)++xs.drop (i*3+3)++xs.drop (n*3-3)).take (m*3)=xs.take (i*3)++xs.drop (i*3+3):=by
  have:=HO.o.2.1
  rw[nK (by simp only[dm,gU,lG,hl];omega),kF (by simp only[dm,gU,lG,hl];omega)]
 rw[<-hx]
 exact h9
theorem Pn (N:Nat) (g n c i:Nat) (xs:List Value) (w:World) (ho:w.ownsRow N 190 3 (.slice (some ⟨g,0,none⟩) n c) n xs) (h1: ∀u∈xs,u.oneCell'=true) (hi:i<n) (hn:n<=100):
 Calls Tryz.prog 251 #[.slice (some ⟨g,0,none⟩) n c,iv i,iv (i+1)] w (aa3 N 190 3 g (n-1) c (xs.take (i*3)++xs.drop (i*3+3)) w):=by
 have hnc:n<=c/\c<=maxLen:=by
  obtain⟨h1,⟨h2,rfl⟩|⟨g',cc,cs,h2,h3,h4,h5,h6,h7,h8⟩⟩:=ho
  ·cases h2
  ·cases h2;exact⟨h5,h6⟩
 obtain⟨hnc,hcm⟩:=hnc
 simp only[maxLen] at hcm
 have hc0:c≠0:=by omega
 have hi1:(i:Int)<=(c:Int):=by omega
 have hi2:(0:Int)<=(i:Int):=by omega
 have hi3:(i:Int)+1<=(n:Int):=by omega
 have hi4:(0:Int)<=(i:Int)+1:=by omega
 have hi5:i<=c:=by omega
 have hi6:i+1<=n:=by omega
 have hi7:((i:Int)+1).toNat=i+1:=by omega
 obtain⟨m,hm⟩: ∃m,m=n-1:=⟨_,rfl⟩
 have hm1:(m:Int)<=(n:Int):=by omega
 have hm2:c≠m:=by omega
 have uu:(n:Int)<=(c:Int):=by omega
 have hm4:m<=n:=by omega
 obtain⟨A,hA⟩: ∃A:Addr,(if c=i+1 then some (⟨g,0,none⟩:Addr) else some ⟨g,(i+1)*3,none⟩)=some A:=by split <;>exact⟨_,rfl⟩
 have HO:=ae (ag ho (ag hm hA))
 clear ho hm
 go_enter Tryz.func251,Tryz.ntmps251
 go_wp2_with fail
 refine zg 6 [] none [] ?_
 simp only[zt]
 repeat ((first|refine zd ?_|refine zk ?_);simp only[zp])
 intro W hE hF
 have HE:=ae (show Ext [] w W from hE)
 clear hE hF
 obtain⟨W1,happ,ho1,hE1⟩:=uf abE (aC (Ms:=[]) HO.o.1 HE.o (by simp)) h1 hi HO.o.2.1 A HO.o.2.2
 obtain⟨W2,hcl,ho2,hE2⟩:=nO abE (fun w=>Tryz.zeroValue190 w) (by kernel_rfl) ho1 (m:=m) (by have:=HO.o.2.1;omega)
 have H2:=ae (ag ho2 (ag hE1 hE2))
 clear ho1 ho2 hE1 hE2 hA
 go_wp2_with (at_builtin;refine jK rfl _ _ rfl _ _ _ rfl rfl happ ?_)
 go_returns
 refine⟨by simp;exact HO.o.2.1,?_,((Ext.nil HE.o).trans H2.o.2.1).trans H2.o.2.2⟩
 have h9:=H2.o.1
 rw[<-HO.o.2.1]
 have hl:=HO.o.1.1
 have hx:(xs.take (i*3)++xs.drop (i*3+3)++xs.drop (n*3-3)).take (m*3)=xs.take (i*3)++xs.drop (i*3+3):=by
  have:=HO.o.2.1
  rw[nK (by simp only[dm,gU,lG,hl];omega),kF (by simp only[dm,gU,lG,hl];omega)]
 rw[<-hx]
 exact h9
theorem MJ (N:Nat) (g n c i:Nat) (xs:List Value) (w:World) (ho:w.ownsRow N 192 4 (.slice (some ⟨g,0,none⟩) n c) n xs) (h1: ∀u∈xs,u.oneCell'=true) (hi:i<n) (hn:n<=100):
 Calls Tryz.prog 254 #[.slice (some ⟨g,0,none⟩) n c,iv i,iv (i+1)] w (aa3 N 192 4 g (n-1) c (xs.take (i*4)++xs.drop (i*4+4)) w):=by
 have hnc:n<=c/\c<=maxLen:=by
  obtain⟨h1,⟨h2,rfl⟩|⟨g',cc,cs,h2,h3,h4,h5,h6,h7,h8⟩⟩:=ho
  ·cases h2
  ·cases h2;exact⟨h5,h6⟩
 obtain⟨hnc,hcm⟩:=hnc
 simp only[maxLen] at hcm
 have hc0:c≠0:=by omega
 have hi1:(i:Int)<=(c:Int):=by omega
 have hi2:(0:Int)<=(i:Int):=by omega
 have hi3:(i:Int)+1<=(n:Int):=by omega
 have hi4:(0:Int)<=(i:Int)+1:=by omega
 have hi5:i<=c:=by omega
 have hi6:i+1<=n:=by omega
 have hi7:((i:Int)+1).toNat=i+1:=by omega
 obtain⟨m,hm⟩: ∃m,m=n-1:=⟨_,rfl⟩
 have hm1:(m:Int)<=(n:Int):=by omega
 have hm2:c≠m:=by omega
 have uu:(n:Int)<=(c:Int):=by omega
 have hm4:m<=n:=by omega
 obtain⟨A,hA⟩: ∃A:Addr,(if c=i+1 then some (⟨g,0,none⟩:Addr) else some ⟨g,(i+1)*4,none⟩)=some A:=by split <;>exact⟨_,rfl⟩
 have HO:=ae (ag ho (ag hm hA))
 clear ho hm
 go_enter Tryz.func254,Tryz.ntmps254
 go_wp2_with fail
 refine zg 6 [] none [] ?_
 simp only[zt]
 repeat ((first|refine zd ?_|refine zk ?_);simp only[zp])
 intro W hE hF
 have HE:=ae (show Ext [] w W from hE)
 clear hE hF
 obtain⟨W1,happ,ho1,hE1⟩:=uf abD (aC (Ms:=[]) HO.o.1 HE.o (by simp)) h1 hi HO.o.2.1 A HO.o.2.2
 obtain⟨W2,hcl,ho2,hE2⟩:=nO abD (fun w=>Tryz.zeroValue192 w) (by kernel_rfl) ho1 (m:=m) (by have:=HO.o.2.1;omega)
 have H2:=ae (ag ho2 (ag hE1 hE2))
 clear ho1 ho2 hE1 hE2 hA
 go_wp2_with (at_builtin;refine jK rfl _ _ rfl _ _ _ rfl rfl happ ?_)
 go_returns
 refine⟨by simp;exact HO.o.2.1,?_,((Ext.nil HE.o).trans H2.o.2.1).trans H2.o.2.2⟩
 have h9:=H2.o.1
 rw[<-HO.o.2.1]
 have hl:=HO.o.1.1
 have hx:(xs.take (i*4)++xs.drop (i*4+4)++xs.drop (n*4-4)).take (m*4)=xs.take (i*4)++xs.drop (i*4+4):=by
  have:=HO.o.2.1
  rw[nK (by simp only[dm,gU,lG,hl];omega),kF (by simp only[dm,gU,lG,hl];omega)]
 rw[<-hx]
 exact h9
theorem Tn (N:Nat) (g n c i:Nat) (xs:List Value) (w:World) (ho:w.ownsRow N 3 1 (.slice (some ⟨g,0,none⟩) n c) n xs) (h1: ∀u∈xs,u.oneCell'=true) (hi:i<n) (hn:n<=100):
 Calls Tryz.prog 250 #[.slice (some ⟨g,0,none⟩) n c,iv i,iv (i+1)] w (aa3 N 3 1 g (n-1) c (xs.take i++xs.drop (i+1)) w):=by
 have hnc:n<=c/\c<=maxLen:=by
  obtain⟨h1,⟨h2,rfl⟩|⟨g',cc,cs,h2,h3,h4,h5,h6,h7,h8⟩⟩:=ho
  ·cases h2
  ·cases h2;exact⟨h5,h6⟩
 obtain⟨hnc,hcm⟩:=hnc
 simp only[maxLen] at hcm
 have hc0:c≠0:=by omega
 have hi1:(i:Int)<=(c:Int):=by omega
 have hi2:(0:Int)<=(i:Int):=by omega
 have hi3:(i:Int)+1<=(n:Int):=by omega
 have hi4:(0:Int)<=(i:Int)+1:=by omega
 have hi5:i<=c:=by omega
 have hi6:i+1<=n:=by omega
 have hi7:((i:Int)+1).toNat=i+1:=by omega
 obtain⟨m,hm⟩: ∃m,m=n-1:=⟨_,rfl⟩
 have hm1:(m:Int)<=(n:Int):=by omega
 have hm2:c≠m:=by omega
 have uu:(n:Int)<=(c:Int):=by omega
 have hm4:m<=n:=by omega
 obtain⟨A,hA⟩: ∃A:Addr,(if c=i+1 then some (⟨g,0,none⟩:Addr) else some ⟨g,i+1,none⟩)=some A:=by split <;>exact⟨_,rfl⟩
 have HO:=ae (ag ho (ag hm hA))
 clear ho hm
 go_enter Tryz.func250,Tryz.ntmps250
 go_wp2_with fail
 refine zg 6 [] none [] ?_
 simp only[zt]
 repeat ((first|refine zd ?_|refine zk ?_);simp only[zp])
 intro W hE hF
 have HE:=ae (show Ext [] w W from hE)
 clear hE hF
 obtain⟨W1,happ,ho1,hE1⟩:=uf sK (aC (Ms:=[]) HO.o.1 HE.o (by simp)) h1 hi HO.o.2.1 A (by rw[Nat.mul_one];exact HO.o.2.2)
 obtain⟨W2,hcl,ho2,hE2⟩:=nO sK (fun w=>Tryz.zeroValue3 w) (by kernel_rfl) ho1 (m:=m) (by have:=HO.o.2.1;omega)
 simp only[Nat.mul_one] at ho1 ho2 hcl
 have H2:=ae (ag ho2 (ag hE1 hE2))
 clear ho1 ho2 hE1 hE2 hA
 go_wp2_with (at_builtin;refine jK rfl _ _ rfl _ _ _ rfl rfl happ ?_)
 go_returns
 refine⟨by simp;exact HO.o.2.1,?_,((Ext.nil HE.o).trans H2.o.2.1).trans H2.o.2.2⟩
 have h9:=H2.o.1
 rw[<-HO.o.2.1]
 have hl:=HO.o.1.1
 have hx:(xs.take i++xs.drop (i+1)++xs.drop (n-1)).take m=xs.take i++xs.drop (i+1):=by
  have:=HO.o.2.1
  rw[nK (by simp only[dm,gU,lG,hl];omega),kF (by simp only[dm,gU,lG,hl];omega)]
 rw[<-hx]
 exact h9
theorem wR {α:Type} (f:α->List Value) (k:Nat) (hk: ∀x,(f x).length=k): ∀(l:List α) (i:Nat),i<l.length->(l.eraseIdx i).flatMap f=(l.flatMap f).take (i*k)++(l.flatMap f).drop (i*k+k):=by
 intro l
 induction l with
 |nil=>intro i h;simp at h
 |cons y l ih=>
  intro i h
  rw[List.flatMap_cons]
  cases i with
  |zero=>
   rw[List.eraseIdx_cons_zero,Nat.zero_mul,List.take_zero,List.nil_append,Nat.zero_add,List.drop_append,List.drop_of_length_le (by rw[hk];omega),hk,Nat.sub_self,List.drop_zero,List.nil_append]
  |succ i=>
   rw[List.eraseIdx_cons_succ,List.flatMap_cons,ih i (by simpa using h)]
   generalize l.flatMap f=X
   have h1:(f y).length<=(i+1)*k:=by rw[hk,Nat.succ_mul];omega
   have h2:(f y).length<=(i+1)*k+k:=by omega
   rw[List.take_append (l₁:=f y),kF h1,List.drop_append (l₁:=f y),List.drop_of_length_le h2,hk,List.nil_append,jg]
   rw[show(i+1)*k-k=i*k from by rw[Nat.succ_mul];omega,show(i+1)*k+k-k=i*k+k from by rw[Nat.succ_mul];omega]
theorem NG (N:Nat) (w:World) (wb:Nat) (s:jO) (V:SV) (es:List KE) (ns:Value) (x:Nat) (hO:jT N w wb s V es) (hn:rV N w ns [(x:Int)]) (hG:fO s):Calls Tryz.prog 157 #[.pointer (some ⟨wb,0,none⟩),ns] w (rC N wb (jh s .nz [(x:Int)]) w):=by
 obtain⟨vt,vn,vw,vu,vr,vh,vk,vs⟩:=V
 obtain⟨o,cc,rfl⟩: ∃o c,vt= .slice o s.led.field.ax.length c:=aT (n:=s.led.field.ax.length) (hO.rows.own 0 _ rfl)
 have HO:=ae hO
 have gI:=eH hO
 obtain⟨b,c,rfl,hbN,hcs⟩:=hn
 have lb:b<w.heap.size:=by omega
 have lw:=hO.rows.lt
 have wB:=hO.rows.base
 have HW:Hid (∀W,Below N w W->b<W.heap.size/\ ∀(j:Nat) (h:j<[(x:Int)].length),W.cell? ⟨b,j,none⟩=some (iv [(x:Int)][j])):=ae (fun W hB=>⟨by have:=hB.size;omega,fun j h=>(jd (hB.block b hbN)).trans (hcs j h)⟩)
 obtain⟨c0,f0,l0⟩:=af hO.blk
 have oU:=hcs 0 (by simp)
 simp only[au] at oU
 have HB0:Hid (Below w.heap.size w w):=ae (aH _ _)
 have LZ:=hG.E5
 clear hO hcs hG
 go_enter Tryz.func157,Tryz.ntmps157
 go_wp2_with fail
 refine zg 8 [] none [] ?_
 simp only[zt]
 repeat ((first|refine zd ?_|refine zk ?_);simp only[zp])
 intro W1 hE hF
 have HB1:=ae (aY HB0.o hE.below)
 have Nc:=ae (Ext.below hE)
 clear hE hF c0 f0 oU
 obtain⟨c1,f1,l1⟩:=af ((HB1.o.block _ lw).trans HO.o.blk)
 obtain⟨wL,hcs1⟩:=HW.o W1 (HB1.o.mono gI)
 have n10:=hcs1 0 (by simp)
 simp only[au] at n10
 clear hcs1
 go_wp2_with fail
 refine(jf _ _ _).mono ?_
 rintro e W2 ⟨hb,⟨hc,rfl⟩|⟨hc,rfl⟩⟩
 rotate_left
 ·simp at hc
  simp only[jh,bW,bY,dD]
  (repeat (first|rw[aF (by omega)]|rw[ak (by omega)]))
  exact⟨rfl,(aY HB1.o hb).mono gI,.inr ⟨by simp,rfl⟩⟩
 simp at hc
 have HB2:=ae (aY HB1.o hb)
 have HS2:=ae hb
 have jQ:=ae hc
 clear hb hc c1 f1 wL n10
 obtain⟨c2,f2,l2⟩:=af ((HB2.o.block _ lw).trans HO.o.blk)
 obtain⟨xG,hcs2⟩:=HW.o W2 (HB2.o.mono gI)
 have n20:=hcs2 0 (by simp)
 simp only[au] at n20
 clear hcs2
 go_wp2_with fail
 have hlt:=jQ.o
 have Me:=HO.o.below HB2.o
 have h6:W2.ownsRow N 186 5 (.slice o s.led.field.ax.length cc) (s.led.field.ax.length) (dL s.led.field.ax):=Me.rows.own 0 _ rfl
 obtain⟨g,rfl, -,hfg,hgl⟩:=gX h6 (by have:=jQ.o;omega)
 have hg1:wb≠g:=fun e=>Me.rows.off 0 _ rfl (by rw[e];rfl)
 have hg2:b≠g:=fun e=>by have:=(h6.lt g rfl).1;omega
 have hg3:g≠wb:=fun e=>hg1 e.symm
 have hg4:g≠b:=fun e=>hg2 e.symm
 have jw:=ae Me
 have H6:=ae h6
 clear Me h6
 refine zg 13 [g] (some 12) [(12,⟨fun _ v=>v= .slice (some ⟨g,0,none⟩) (s.led.field.ax.length-1) cc,fun _ v Wx=>Wx.ownsRow N 186 5 (.slice (some ⟨g,0,none⟩) (s.led.field.ax.length-1) cc) (s.led.field.ax.length-1) ((dL s.led.field.ax).take (x*5)++(dL s.led.field.ax).drop (x*5+5))⟩)] ?_
 simp only[zt]
 repeat ((first|refine zd ?_|refine zk ?_);simp only[zp])
 refine bG _ (by rfl) (by rfl) ⟨_,rfl⟩ (fun W6 hE hF=>?_) (fun v Wa Wb ho hE=>?_) (fun v hv=>?_)
 ·have hE':Ext [] W2 W6:=hE
  refine dE 244 #[.slice (some ⟨g,0,none⟩) s.led.field.ax.length cc,iv x,iv (x+1)] (by go_simp;try rfl) ?_
  refine(Tm N g _ cc x (dL s.led.field.ax) W6 (aC (Ms:=[]) H6.o hE' (by simp)) (Eg _) (by have:=jQ.o;omega) (by omega)).mono ?_
  rintro e w' ⟨rfl,h1,h2⟩
  exact⟨_,rfl,rfl,h1,h2⟩
 ·exact aC (Ms:=[]) ho hE (by simp)
 obtain rfl:v= .slice (some ⟨g,0,none⟩) (s.led.field.ax.length-1) cc:=hv
 simp only[zp]
 intro W3 hE hF
 have qE:W3.ownsRow N 186 5 (.slice (some ⟨g,0,none⟩) (s.led.field.ax.length-1) cc) (s.led.field.ax.length-1) ((dL s.led.field.ax).take (x*5)++(dL s.led.field.ax).drop (x*5+5)):=hF _ (bF _)
 have gY:Ext [g] W2 W3:=hE
 have hbl:=(gY.block wb jw.o.rows.lt (by simpa using hg1)).trans jw.o.blk
 obtain⟨c3,f3,l3⟩:=af hbl
 have ja:=ae (ag gY (ag qE hbl))
 have oV:=ae (show Below N w W3 from(HB2.o.mono gI).trans ⟨gY.os,gY.tape,gY.output,gY.size,fun k hk=>gY.block k (by have:=HB2.o.size;omega) (fun h=>by have:=(H6.o.lt g rfl).1;have:=fD.1 h;omega)⟩)
 clear hE hF gY qE hbl hg1 hg2 hg3 hg4 hfg hgl c2 f2 xG n20
 go_wp2_with fail
 go_end0
 have q0:=jQ.o
 simp only[jh,bW,bY,dD]
 (repeat (first|rw[aF (by omega)]|rw[ak (by omega)]))
 refine⟨oV.o.setCell wB _,.inl ⟨rfl,rfl,⟨.slice (some ⟨g,0,none⟩) (s.led.field.ax.length-1) cc,vn,vw,vu,vr,vh,vk,vs⟩,es,jw.o.put (i:=0) rfl ⟨186,5,.slice (some ⟨g,0,none⟩) (s.led.field.ax.length-1) cc,s.led.field.ax.length-1,(dL s.led.field.ax).take (x*5)++(dL s.led.field.ax).drop (x*5+5)⟩ ja.o.1 (fun m hm=>by rw[fD.1 hm];rfl) ja.o.2.1 (.inl rfl) (aI ja.o.2.2 _) (by simp only[iK,ny,Int.toNat_natCast];rw[List.length_eraseIdx_of_lt hlt,show dL (s.led.field.ax.eraseIdx x)=_ from wR _ 5 (fun _=>rfl) s.led.field.ax x hlt];rfl) (jw.o.es)⟩⟩
theorem Yz (N:Nat) (w:World) (wb:Nat) (s:jO) (V:SV) (es:List KE) (ns:Value) (x:Nat) (hO:jT N w wb s V es) (hn:rV N w ns [(x:Int)]) (hG:fO s):Calls Tryz.prog 161 #[.pointer (some ⟨wb,0,none⟩),ns] w (rC N wb (jh s .void [(x:Int)]) w):=by
 obtain⟨vt,vn,vw,vu,vr,vh,vk,vs⟩:=V
 obtain⟨o,cc,rfl⟩: ∃o c,vn= .slice o s.led.notes.length c:=aT (n:=s.led.notes.length) (hO.rows.own 1 _ rfl)
 have HO:=ae hO
 have gI:=eH hO
 obtain⟨b,c,rfl,hbN,hcs⟩:=hn
 have lb:b<w.heap.size:=by omega
 have lw:=hO.rows.lt
 have wB:=hO.rows.base
 have HW:Hid (∀W,Below N w W->b<W.heap.size/\ ∀(j:Nat) (h:j<[(x:Int)].length),W.cell? ⟨b,j,none⟩=some (iv [(x:Int)][j])):=ae (fun W hB=>⟨by have:=hB.size;omega,fun j h=>(jd (hB.block b hbN)).trans (hcs j h)⟩)
 obtain⟨c0,f0,l0⟩:=af hO.blk
 have oU:=hcs 0 (by simp)
 simp only[au] at oU
 have HB0:Hid (Below w.heap.size w w):=ae (aH _ _)
 have LZ:=hG.notes
 clear hO hcs hG
 go_enter Tryz.func161,Tryz.ntmps161
 go_wp2_with fail
 refine zg 10 [] none [] ?_
 simp only[zt]
 repeat ((first|refine zd ?_|refine zk ?_);simp only[zp])
 intro W1 hE hF
 have HB1:=ae (aY HB0.o hE.below)
 have Nc:=ae (Ext.below hE)
 clear hE hF c0 f0 oU
 obtain⟨c1,f1,l1⟩:=af ((HB1.o.block _ lw).trans HO.o.blk)
 obtain⟨wL,hcs1⟩:=HW.o W1 (HB1.o.mono gI)
 have n10:=hcs1 0 (by simp)
 simp only[au] at n10
 clear hcs1
 go_wp2_with fail
 refine(jf _ _ _).mono ?_
 rintro e W2 ⟨hb,⟨hc,rfl⟩|⟨hc,rfl⟩⟩
 rotate_left
 ·simp at hc
  simp only[jh,bW,bY,dD]
  (repeat (first|rw[aF (by omega)]|rw[ak (by omega)]))
  exact⟨rfl,(aY HB1.o hb).mono gI,.inr ⟨by simp,rfl⟩⟩
 simp at hc
 have HB2:=ae (aY HB1.o hb)
 have HS2:=ae hb
 have jQ:=ae hc
 clear hb hc c1 f1 wL n10
 obtain⟨c2,f2,l2⟩:=af ((HB2.o.block _ lw).trans HO.o.blk)
 obtain⟨xG,hcs2⟩:=HW.o W2 (HB2.o.mono gI)
 have n20:=hcs2 0 (by simp)
 simp only[au] at n20
 clear hcs2
 go_wp2_with fail
 have hlt:=jQ.o
 have Me:=HO.o.below HB2.o
 have h6:W2.ownsRow N 188 3 (.slice o s.led.notes.length cc) (s.led.notes.length) (aX s.led.notes):=Me.rows.own 1 _ rfl
 obtain⟨g,rfl, -,hfg,hgl⟩:=gX h6 (by have:=jQ.o;omega)
 have hg1:wb≠g:=fun e=>Me.rows.off 1 _ rfl (by rw[e];rfl)
 have hg2:b≠g:=fun e=>by have:=(h6.lt g rfl).1;omega
 have hg3:g≠wb:=fun e=>hg1 e.symm
 have hg4:g≠b:=fun e=>hg2 e.symm
 have jw:=ae Me
 have H6:=ae h6
 clear Me h6
 refine zg 15 [g] (some 14) [(14,⟨fun _ v=>v= .slice (some ⟨g,0,none⟩) (s.led.notes.length-1) cc,fun _ v Wx=>Wx.ownsRow N 188 3 (.slice (some ⟨g,0,none⟩) (s.led.notes.length-1) cc) (s.led.notes.length-1) ((aX s.led.notes).take (x*3)++(aX s.led.notes).drop (x*3+3))⟩)] ?_
 simp only[zt]
 repeat ((first|refine zd ?_|refine zk ?_);simp only[zp])
 refine bG _ (by rfl) (by rfl) ⟨_,rfl⟩ (fun W6 hE hF=>?_) (fun v Wa Wb ho hE=>?_) (fun v hv=>?_)
 ·have hE':Ext [] W2 W6:=hE
  refine dE 246 #[.slice (some ⟨g,0,none⟩) s.led.notes.length cc,iv x,iv (x+1)] (by go_simp;try rfl) ?_
  refine(Po N g _ cc x (aX s.led.notes) W6 (aC (Ms:=[]) H6.o hE' (by simp)) (uK _) (by have:=jQ.o;omega) (by omega)).mono ?_
  rintro e w' ⟨rfl,h1,h2⟩
  exact⟨_,rfl,rfl,h1,h2⟩
 ·exact aC (Ms:=[]) ho hE (by simp)
 obtain rfl:v= .slice (some ⟨g,0,none⟩) (s.led.notes.length-1) cc:=hv
 simp only[zp]
 intro W3 hE hF
 have qE:W3.ownsRow N 188 3 (.slice (some ⟨g,0,none⟩) (s.led.notes.length-1) cc) (s.led.notes.length-1) ((aX s.led.notes).take (x*3)++(aX s.led.notes).drop (x*3+3)):=hF _ (bF _)
 have gY:Ext [g] W2 W3:=hE
 have hbl:=(gY.block wb jw.o.rows.lt (by simpa using hg1)).trans jw.o.blk
 obtain⟨c3,f3,l3⟩:=af hbl
 have ja:=ae (ag gY (ag qE hbl))
 have oV:=ae (show Below N w W3 from(HB2.o.mono gI).trans ⟨gY.os,gY.tape,gY.output,gY.size,fun k hk=>gY.block k (by have:=HB2.o.size;omega) (fun h=>by have:=(H6.o.lt g rfl).1;have:=fD.1 h;omega)⟩)
 clear hE hF gY qE hbl hg1 hg2 hg3 hg4 hfg hgl c2 f2 xG n20
 go_wp2_with fail
 go_end0
 have q0:=jQ.o
 simp only[jh,bW,bY,dD]
 (repeat (first|rw[aF (by omega)]|rw[ak (by omega)]))
 refine⟨oV.o.setCell wB _,.inl ⟨rfl,rfl,⟨vt,.slice (some ⟨g,0,none⟩) (s.led.notes.length-1) cc,vw,vu,vr,vh,vk,vs⟩,es,jw.o.put (i:=1) rfl ⟨188,3,.slice (some ⟨g,0,none⟩) (s.led.notes.length-1) cc,s.led.notes.length-1,(aX s.led.notes).take (x*3)++(aX s.led.notes).drop (x*3+3)⟩ ja.o.1 (fun m hm=>by rw[fD.1 hm];rfl) ja.o.2.1 (.inl rfl) (aI ja.o.2.2 _) (by simp only[iK,oI,Int.toNat_natCast];rw[List.length_eraseIdx_of_lt hlt,show aX (s.led.notes.eraseIdx x)=_ from wR _ 3 (fun _=>rfl) s.led.notes x hlt];rfl) (jw.o.es)⟩⟩
theorem QO (N:Nat) (w:World) (wb:Nat) (s:jO) (V:SV) (es:List KE) (ns:Value) (x:Nat) (hO:jT N w wb s V es) (hn:rV N w ns [(x:Int)]) (hG:fO s):Calls Tryz.prog 167 #[.pointer (some ⟨wb,0,none⟩),ns] w (rC N wb (jh s .unread [(x:Int)]) w):=by
 obtain⟨vt,vn,vw,vu,vr,vh,vk,vs⟩:=V
 obtain⟨o,cc,rfl⟩: ∃o c,vr= .slice o s.heap.readings.length c:=aT (n:=s.heap.readings.length) (hO.rows.own 4 _ rfl)
 have HO:=ae hO
 have gI:=eH hO
 obtain⟨b,c,rfl,hbN,hcs⟩:=hn
 have lb:b<w.heap.size:=by omega
 have lw:=hO.rows.lt
 have wB:=hO.rows.base
 have HW:Hid (∀W,Below N w W->b<W.heap.size/\ ∀(j:Nat) (h:j<[(x:Int)].length),W.cell? ⟨b,j,none⟩=some (iv [(x:Int)][j])):=ae (fun W hB=>⟨by have:=hB.size;omega,fun j h=>(jd (hB.block b hbN)).trans (hcs j h)⟩)
 obtain⟨c0,f0,l0⟩:=af hO.blk
 have oU:=hcs 0 (by simp)
 simp only[au] at oU
 have HB0:Hid (Below w.heap.size w w):=ae (aH _ _)
 have LZ:=hG.reads
 clear hO hcs hG
 go_enter Tryz.func167,Tryz.ntmps167
 go_wp2_with fail
 refine zg 10 [] none [] ?_
 simp only[zt]
 repeat ((first|refine zd ?_|refine zk ?_);simp only[zp])
 intro W1 hE hF
 have HB1:=ae (aY HB0.o hE.below)
 have Nc:=ae (Ext.below hE)
 clear hE hF c0 f0 oU
 obtain⟨c1,f1,l1⟩:=af ((HB1.o.block _ lw).trans HO.o.blk)
 obtain⟨wL,hcs1⟩:=HW.o W1 (HB1.o.mono gI)
 have n10:=hcs1 0 (by simp)
 simp only[au] at n10
 clear hcs1
 go_wp2_with fail
 refine(jf _ _ _).mono ?_
 rintro e W2 ⟨hb,⟨hc,rfl⟩|⟨hc,rfl⟩⟩
 rotate_left
 ·simp at hc
  simp only[jh,bW,bY,dD]
  (repeat (first|rw[aF (by omega)]|rw[ak (by omega)]))
  exact⟨rfl,(aY HB1.o hb).mono gI,.inr ⟨by simp,rfl⟩⟩
 simp at hc
 have HB2:=ae (aY HB1.o hb)
 have HS2:=ae hb
 have jQ:=ae hc
 clear hb hc c1 f1 wL n10
 obtain⟨c2,f2,l2⟩:=af ((HB2.o.block _ lw).trans HO.o.blk)
 obtain⟨xG,hcs2⟩:=HW.o W2 (HB2.o.mono gI)
 have n20:=hcs2 0 (by simp)
 simp only[au] at n20
 clear hcs2
 go_wp2_with fail
 have hlt:=jQ.o
 have Me:=HO.o.below HB2.o
 have h6:W2.ownsRow N 190 3 (.slice o s.heap.readings.length cc) (s.heap.readings.length) (aX s.heap.readings):=Me.rows.own 4 _ rfl
 obtain⟨g,rfl, -,hfg,hgl⟩:=gX h6 (by have:=jQ.o;omega)
 have hg1:wb≠g:=fun e=>Me.rows.off 4 _ rfl (by rw[e];rfl)
 have hg2:b≠g:=fun e=>by have:=(h6.lt g rfl).1;omega
 have hg3:g≠wb:=fun e=>hg1 e.symm
 have hg4:g≠b:=fun e=>hg2 e.symm
 have jw:=ae Me
 have H6:=ae h6
 clear Me h6
 refine zg 15 [g] (some 14) [(14,⟨fun _ v=>v= .slice (some ⟨g,0,none⟩) (s.heap.readings.length-1) cc,fun _ v Wx=>Wx.ownsRow N 190 3 (.slice (some ⟨g,0,none⟩) (s.heap.readings.length-1) cc) (s.heap.readings.length-1) ((aX s.heap.readings).take (x*3)++(aX s.heap.readings).drop (x*3+3))⟩)] ?_
 simp only[zt]
 repeat ((first|refine zd ?_|refine zk ?_);simp only[zp])
 refine bG _ (by rfl) (by rfl) ⟨_,rfl⟩ (fun W6 hE hF=>?_) (fun v Wa Wb ho hE=>?_) (fun v hv=>?_)
 ·have hE':Ext [] W2 W6:=hE
  refine dE 251 #[.slice (some ⟨g,0,none⟩) s.heap.readings.length cc,iv x,iv (x+1)] (by go_simp;try rfl) ?_
  refine(Pn N g _ cc x (aX s.heap.readings) W6 (aC (Ms:=[]) H6.o hE' (by simp)) (uK _) (by have:=jQ.o;omega) (by omega)).mono ?_
  rintro e w' ⟨rfl,h1,h2⟩
  exact⟨_,rfl,rfl,h1,h2⟩
 ·exact aC (Ms:=[]) ho hE (by simp)
 obtain rfl:v= .slice (some ⟨g,0,none⟩) (s.heap.readings.length-1) cc:=hv
 simp only[zp]
 intro W3 hE hF
 have qE:W3.ownsRow N 190 3 (.slice (some ⟨g,0,none⟩) (s.heap.readings.length-1) cc) (s.heap.readings.length-1) ((aX s.heap.readings).take (x*3)++(aX s.heap.readings).drop (x*3+3)):=hF _ (bF _)
 have gY:Ext [g] W2 W3:=hE
 have hbl:=(gY.block wb jw.o.rows.lt (by simpa using hg1)).trans jw.o.blk
 obtain⟨c3,f3,l3⟩:=af hbl
 have ja:=ae (ag gY (ag qE hbl))
 have oV:=ae (show Below N w W3 from(HB2.o.mono gI).trans ⟨gY.os,gY.tape,gY.output,gY.size,fun k hk=>gY.block k (by have:=HB2.o.size;omega) (fun h=>by have:=(H6.o.lt g rfl).1;have:=fD.1 h;omega)⟩)
 clear hE hF gY qE hbl hg1 hg2 hg3 hg4 hfg hgl c2 f2 xG n20
 go_wp2_with fail
 go_end0
 have q0:=jQ.o
 simp only[jh,bW,bY,dD]
 (repeat (first|rw[aF (by omega)]|rw[ak (by omega)]))
 refine⟨oV.o.setCell wB _,.inl ⟨rfl,rfl,⟨vt,vn,vw,vu,.slice (some ⟨g,0,none⟩) (s.heap.readings.length-1) cc,vh,vk,vs⟩,es,jw.o.put (i:=4) rfl ⟨190,3,.slice (some ⟨g,0,none⟩) (s.heap.readings.length-1) cc,s.heap.readings.length-1,(aX s.heap.readings).take (x*3)++(aX s.heap.readings).drop (x*3+3)⟩ ja.o.1 (fun m hm=>by rw[fD.1 hm];rfl) ja.o.2.1 (.inl rfl) (aI ja.o.2.2 _) (by simp only[iK,iR,Int.toNat_natCast];rw[List.length_eraseIdx_of_lt hlt,show aX (s.heap.readings.eraseIdx x)=_ from wR _ 3 (fun _=>rfl) s.heap.readings x hlt];rfl) (jw.o.es)⟩⟩
theorem Vl (N:Nat) (w:World) (wb:Nat) (s:jO) (V:SV) (es:List KE) (ns:Value) (x:Nat) (hO:jT N w wb s V es) (hn:rV N w ns [(x:Int)]) (hG:fO s):Calls Tryz.prog 173 #[.pointer (some ⟨wb,0,none⟩),ns] w (rC N wb (jh s .vF [(x:Int)]) w):=by
 obtain⟨vt,vn,vw,vu,vr,vh,vk,vs⟩:=V
 obtain⟨o,cc,rfl⟩: ∃o c,vs= .slice o s.dA.aJ.length c:=aT (n:=s.dA.aJ.length) (hO.rows.own 7 _ rfl)
 have HO:=ae hO
 have gI:=eH hO
 obtain⟨b,c,rfl,hbN,hcs⟩:=hn
 have lb:b<w.heap.size:=by omega
 have lw:=hO.rows.lt
 have wB:=hO.rows.base
 have HW:Hid (∀W,Below N w W->b<W.heap.size/\ ∀(j:Nat) (h:j<[(x:Int)].length),W.cell? ⟨b,j,none⟩=some (iv [(x:Int)][j])):=ae (fun W hB=>⟨by have:=hB.size;omega,fun j h=>(jd (hB.block b hbN)).trans (hcs j h)⟩)
 obtain⟨c0,f0,l0⟩:=af hO.blk
 have oU:=hcs 0 (by simp)
 simp only[au] at oU
 have HB0:Hid (Below w.heap.size w w):=ae (aH _ _)
 have LZ:=hG.aJ
 clear hO hcs hG
 go_enter Tryz.func173,Tryz.ntmps173
 go_wp2_with fail
 refine zg 8 [] none [] ?_
 simp only[zt]
 repeat ((first|refine zd ?_|refine zk ?_);simp only[zp])
 intro W1 hE hF
 have HB1:=ae (aY HB0.o hE.below)
 have Nc:=ae (Ext.below hE)
 clear hE hF c0 f0 oU
 obtain⟨c1,f1,l1⟩:=af ((HB1.o.block _ lw).trans HO.o.blk)
 obtain⟨wL,hcs1⟩:=HW.o W1 (HB1.o.mono gI)
 have n10:=hcs1 0 (by simp)
 simp only[au] at n10
 clear hcs1
 go_wp2_with fail
 refine(jf _ _ _).mono ?_
 rintro e W2 ⟨hb,⟨hc,rfl⟩|⟨hc,rfl⟩⟩
 rotate_left
 ·simp at hc
  simp only[jh,bW,bY,dD]
  (repeat (first|rw[aF (by omega)]|rw[ak (by omega)]))
  exact⟨rfl,(aY HB1.o hb).mono gI,.inr ⟨by simp,rfl⟩⟩
 simp at hc
 have HB2:=ae (aY HB1.o hb)
 have HS2:=ae hb
 have jQ:=ae hc
 clear hb hc c1 f1 wL n10
 obtain⟨c2,f2,l2⟩:=af ((HB2.o.block _ lw).trans HO.o.blk)
 obtain⟨xG,hcs2⟩:=HW.o W2 (HB2.o.mono gI)
 have n20:=hcs2 0 (by simp)
 simp only[au] at n20
 clear hcs2
 go_wp2_with fail
 have hlt:=jQ.o
 have Me:=HO.o.below HB2.o
 have h6:W2.ownsRow N 192 4 (.slice o s.dA.aJ.length cc) (s.dA.aJ.length) (gK s.dA.aJ):=Me.rows.own 7 _ rfl
 obtain⟨g,rfl, -,hfg,hgl⟩:=gX h6 (by have:=jQ.o;omega)
 have hg1:wb≠g:=fun e=>Me.rows.off 7 _ rfl (by rw[e];rfl)
 have hg2:b≠g:=fun e=>by have:=(h6.lt g rfl).1;omega
 have hg3:g≠wb:=fun e=>hg1 e.symm
 have hg4:g≠b:=fun e=>hg2 e.symm
 have jw:=ae Me
 have H6:=ae h6
 clear Me h6
 refine zg 13 [g] (some 12) [(12,⟨fun _ v=>v= .slice (some ⟨g,0,none⟩) (s.dA.aJ.length-1) cc,fun _ v Wx=>Wx.ownsRow N 192 4 (.slice (some ⟨g,0,none⟩) (s.dA.aJ.length-1) cc) (s.dA.aJ.length-1) ((gK s.dA.aJ).take (x*4)++(gK s.dA.aJ).drop (x*4+4))⟩)] ?_
 simp only[zt]
 repeat ((first|refine zd ?_|refine zk ?_);simp only[zp])
 refine bG _ (by rfl) (by rfl) ⟨_,rfl⟩ (fun W6 hE hF=>?_) (fun v Wa Wb ho hE=>?_) (fun v hv=>?_)
 ·have hE':Ext [] W2 W6:=hE
  refine dE 254 #[.slice (some ⟨g,0,none⟩) s.dA.aJ.length cc,iv x,iv (x+1)] (by go_simp;try rfl) ?_
  refine(MJ N g _ cc x (gK s.dA.aJ) W6 (aC (Ms:=[]) H6.o hE' (by simp)) (Oh _) (by have:=jQ.o;omega) (by omega)).mono ?_
  rintro e w' ⟨rfl,h1,h2⟩
  exact⟨_,rfl,rfl,h1,h2⟩
 ·exact aC (Ms:=[]) ho hE (by simp)
 obtain rfl:v= .slice (some ⟨g,0,none⟩) (s.dA.aJ.length-1) cc:=hv
 simp only[zp]
 intro W3 hE hF
 have qE:W3.ownsRow N 192 4 (.slice (some ⟨g,0,none⟩) (s.dA.aJ.length-1) cc) (s.dA.aJ.length-1) ((gK s.dA.aJ).take (x*4)++(gK s.dA.aJ).drop (x*4+4)):=hF _ (bF _)
 have gY:Ext [g] W2 W3:=hE
 have hbl:=(gY.block wb jw.o.rows.lt (by simpa using hg1)).trans jw.o.blk
 obtain⟨c3,f3,l3⟩:=af hbl
 have ja:=ae (ag gY (ag qE hbl))
 have oV:=ae (show Below N w W3 from(HB2.o.mono gI).trans ⟨gY.os,gY.tape,gY.output,gY.size,fun k hk=>gY.block k (by have:=HB2.o.size;omega) (fun h=>by have:=(H6.o.lt g rfl).1;have:=fD.1 h;omega)⟩)
 clear hE hF gY qE hbl hg1 hg2 hg3 hg4 hfg hgl c2 f2 xG n20
 go_wp2_with fail
 go_end0
 have q0:=jQ.o
 simp only[jh,bW,bY,dD]
 (repeat (first|rw[aF (by omega)]|rw[ak (by omega)]))
 refine⟨oV.o.setCell wB _,.inl ⟨rfl,rfl,⟨vt,vn,vw,vu,vr,vh,vk,.slice (some ⟨g,0,none⟩) (s.dA.aJ.length-1) cc⟩,es,jw.o.put (i:=7) rfl ⟨192,4,.slice (some ⟨g,0,none⟩) (s.dA.aJ.length-1) cc,s.dA.aJ.length-1,(gK s.dA.aJ).take (x*4)++(gK s.dA.aJ).drop (x*4+4)⟩ ja.o.1 (fun m hm=>by rw[fD.1 hm];rfl) ja.o.2.1 (.inl rfl) (aI ja.o.2.2 _) (by simp only[iK,fK,Int.toNat_natCast];rw[List.length_eraseIdx_of_lt hlt,show gK (s.dA.aJ.eraseIdx x)=_ from wR _ 4 (fun _=>rfl) s.dA.aJ x hlt];rfl) (jw.o.es)⟩⟩
theorem yu (last:Int) (p:Int->Bool):(jl last p).Nodup:=by
 unfold jl
 refine List.Pairwise.filter _ ?_
 refine List.Pairwise.map _ (fun a b h=>?_) List.nodup_range
 intro e;exact h (by omega)
theorem L6 (last:Int) (p:Int->Bool):(jl last p).Pairwise (fun a b=>(decide (a<=b))=true):=by
 unfold jl
 refine List.Pairwise.filter _ ?_
 refine List.Pairwise.map _ (fun a b h=>?_) List.pairwise_le_range
 simpa using h
theorem Dh (p:Int->Bool):(jl 4 p).length<=5:=by
 unfold jl
 refine iW (List.length_filter_le _ _) ?_
 simp
theorem WM (p:Int->Bool) (x:Int) (h0:0<=x) (h4:x<=4) (hx:(jl 4 p).contains x=false):((jl 4 p++[x]).mergeSort fun a b=>decide (a<=b))=jl 4 fun i=>i==x ||(jl 4 p).contains i:=by
 have hn: ¬x∈jl 4 p:=by
  intro h
  rw[List.contains_eq_mem,decide_eq_false_iff_not] at hx
  exact hx h
 have hp:(jl 4 p++[x]).mergeSort (fun a b=>decide (a<=b)) |>.Perm (jl 4 fun i=>i==x ||(jl 4 p).contains i):=by
  refine(List.mergeSort_perm _ _).trans ?_
  rw[List.perm_ext_iff_of_nodup]
  ·intro a
   rw[iP,fD]
   constructor
   ·rintro(h|rfl)
    ·have:=yX.1 h
     exact yX.2 ⟨this.1,by simp[List.contains_eq_mem,h]⟩
    ·exact yX.2 ⟨⟨h0,h4⟩,by simp⟩
   ·intro h
    replace h:=(yX.1 h).2
    simp only[Bool.or_eq_true,beq_iff_eq,List.contains_eq_mem,eX] at h
    exact h.symm
  ·rw[List.nodup_append]
   refine⟨yu 4 p,by simp,fun a ha b hb=>?_⟩
   rw[fD.1 hb]
   intro e;exact hn (e▸ha)
  ·exact yu 4 _
 refine hp.eq_of_pairwise (le:=fun a b=>(decide (a<=b))=true) (fun a b _ _ h1 h2=>?_) ?_ (L6 4 _)
 ·simp only[eX] at h1 h2;omega
 ·refine List.pairwise_mergeSort (fun a b c h1 h2=>?_) (fun a b=>?_) _
  ·simp only[eX] at*;omega
  ·simp only[Bool.or_eq_true,eX];omega
theorem erase_filter: ∀(l:List Int) (k:Nat) (x:Int),l.Nodup->l[k]? =some x->l.eraseIdx k=l.filter (fun i=>i !=x):=by
 intro l
 induction l with
 |nil=>intro k x _ h;cases h
 |cons y l ih=>
  intro k x hn h
  rw[List.nodup_cons] at hn
  cases k with
  |zero=>
   simp only[List.getElem?_cons_zero,Option.some.injEq] at h
   subst h
   rw[List.eraseIdx_cons_zero,List.filter_cons,ak (by simp)]
   symm
   rw[List.filter_eq_self]
   intro a ha
   simp only[bne_iff_ne,ne_eq]
   intro e;exact hn.1 (e▸ha)
  |succ k=>
   have hm:x∈l:=ni (i:=k) (by simpa using h)
   rw[List.eraseIdx_cons_succ,List.filter_cons,aF (by simp only[bne_iff_ne,ne_eq];intro e;exact hn.1 (e▸hm)),ih k x hn.2 (by simpa using h)]
theorem OX (p:Int->Bool) (k:Nat) (x:Int) (h:(jl 4 p)[k]? =some x):(jl 4 p).eraseIdx k=jl 4 fun i=>i !=x&&(jl 4 p).contains i:=by
 rw[erase_filter _ k x (yu 4 p) h]
 conv=>lhs;unfold jl
 conv=>rhs;unfold jl
 rw[List.filter_filter]
 apply List.filter_congr
 intro i hi
 have:(List.filter p (List.map (fun(k:Nat)=>(k:Int)) (List.range (4+1:Int).toNat))).contains i=p i:=by
  rw[Bool.eq_iff_iff,List.contains_iff_mem,List.mem_filter]
  exact⟨fun h=>h.2,fun h=>⟨hi,h⟩⟩
 rw[this]
theorem WH (l:List Int) (v:Value) (n:Int) (w:World) (hv:aO w v l):Calls Tryz.prog 235 #[v,iv n] w (fun e w'=>w=w'/\((∃k:Nat,l[k]? =some n/\e= .returned (iv k))∨(l.contains n=false/\e= .returned (iv (-1))))):=by
 have hlen:=hv.len
 obtain⟨o,c,rfl⟩:=hv.open
 have HV:=ae hv
 clear hv
 go_enter Tryz.func235,Tryz.ntmps235
 go_wp2
 go_loop [4,5,8] (fun _ _ i=> ∃k:Nat,k<=l.length/\i= .int .i64 k/\(∀j (hj:j<l.length),j<k->l[j]≠n)) (fun _ _ i=>l.length-(intOf i).toNat)
 case atStart=>exact⟨0,bQ _,rfl,fun j _ hj=>by omega⟩
 case round=>
  obtain⟨k,hk,rfl,hno⟩:=hrel
  have HN:=ae hno
  clear hno
  by_cases hlt:k<l.length
  ·obtain⟨b,off,rfl,hb,hc0⟩:=aO.cell HV.o hlt
   by_cases he:l[k]=n
   ·have he':(n==l[k])=true:=by simp[he]
    have HE:=ae he
    clear he
    go_wp2
    go_returns
    exact⟨rfl,.inl ⟨k,by rw[<-HE.o];exact dw hlt,by simp⟩⟩
   ·have he':(n==l[k])=false:=by simp;omega
    have HE:=ae he
    clear he
    go_wp2
    go_round
    case rel=>exact⟨k+1,by omega,by go_num,fun j hj hjk=>(by by_cases e:j=k;(subst e;exact HE.o);exact HN.o j hj (by omega))⟩
    case measure=>simp[intOf];omega
  ·have hkl:k=l.length:=by omega
   go_wp2
   go_returns
   refine⟨rfl,.inr ⟨?_,by simp⟩⟩
   intro hm
   obtain⟨j,hj,e⟩:=mF hm
   exact HN.o j hj (by omega) e
theorem QN (N:Nat) (w:World) (wb:Nat) (s:jO) (V:SV) (es:List KE) (ns:Value) (x:Int) (hO:jT N w wb s V es) (hn:rV N w ns [x]) (hG:fO s):Calls Tryz.prog 165 #[.pointer (some ⟨wb,0,none⟩),ns] w (rC N wb (jh s .qc [x]) w):=by
 obtain⟨vt,vn,vw,vu,vr,vh,vk,vs⟩:=V
 obtain⟨o,cc,rfl⟩: ∃o c,vu= .slice o s.heap.turns.length c:=aT (n:=s.heap.turns.length) (hO.rows.own 3 _ rfl)
 have HO:=ae hO
 have gI:=eH hO
 obtain⟨b,c,rfl,hbN,hcs⟩:=hn
 have lb:b<w.heap.size:=by omega
 have lw:=hO.rows.lt
 have wB:=hO.rows.base
 have HW:Hid (∀W,Below N w W->b<W.heap.size/\ ∀(j:Nat) (h:j<[x].length),W.cell? ⟨b,j,none⟩=some (iv [x][j])):=ae (fun W hB=>⟨by have:=hB.size;omega,fun j h=>(jd (hB.block b hbN)).trans (hcs j h)⟩)
 obtain⟨c0,f0,l0⟩:=af hO.blk
 have oU:=hcs 0 (by simp)
 simp only[au] at oU
 have HB0:Hid (Below w.heap.size w w):=ae (aH _ _)
 obtain⟨pt,hpt⟩:=hG.turns
 have LZ:s.heap.turns.length<=5:=by rw[hpt];exact Dh pt
 have hl4:=hG.heap.1
 have HPT:=ae (ag hpt hl4)
 have h6:w.ownsRow N 3 1 (.slice o s.heap.turns.length cc) s.heap.turns.length (ah s.heap.turns):=hO.rows.own 3 _ rfl
 have H6:=ae h6
 clear hpt hl4 h6
 clear hO hcs hG
 go_enter Tryz.func165,Tryz.ntmps165
 go_wp2_with fail
 refine zg 9 [] none [] ?_
 simp only[zt]
 repeat ((first|refine zd ?_|refine zk ?_);simp only[zp])
 intro W1 hE hF
 have HB1:=ae (aY HB0.o hE.below)
 have Nc:=ae (Ext.below hE)
 clear hE hF c0 f0 oU
 obtain⟨c1,f1,l1⟩:=af ((HB1.o.block _ lw).trans HO.o.blk)
 obtain⟨wL,hcs1⟩:=HW.o W1 (HB1.o.mono gI)
 have n10:=hcs1 0 (by simp)
 simp only[au] at n10
 clear hcs1
 have h61:=aC (Ms:=[]) H6.o (Ext.aA HB1.o) (by simp)
 have HX:=ae (WH s.heap.turns _ x W1 (aN.dU h61))
 clear h61
 go_wp2_with fail
 refine HX.o.mono ?_
 clear HX
 rintro e w1 ⟨rfl,⟨k,hk,rfl⟩|⟨hno,rfl⟩⟩
 ·have hlt:=(je.1 hk).1
  have HK:=ae hk
  have akl:((k:Int)<0)=False:=by simp
  clear hk
  go_wp2_with fail
  refine(dX 7 [decide ((k:Int)<0)] W1 (by simp) _ (by simp[dK]) _ _ rfl).mono ?_
  rintro e W2 ⟨hb,⟨hc,rfl⟩|⟨hc,rfl⟩⟩
  rotate_left
  ·exfalso
   have h0:decide ((k:Int)<0)=false:=by simp
   rw[h0] at hc
   exact absurd hc (by decide)
  have HB2:=ae (aY HB1.o hb)
  clear hb hc c1 f1 n10 wL akl
  obtain⟨c2,f2,l2⟩:=af ((HB2.o.block _ lw).trans HO.o.blk)
  obtain⟨xG,hcs2⟩:=HW.o W2 (HB2.o.mono gI)
  have n20:=hcs2 0 (by simp)
  simp only[au] at n20
  clear hcs2
  obtain⟨g,rfl, -,hfg,hgl⟩:=gX H6.o (by omega)
  have h61:=aC (Ms:=[]) H6.o (Ext.aA HB2.o) (by simp)
  have hg1:wb≠g:=fun e=>HO.o.rows.off 3 _ rfl (by rw[e];rfl)
  have HD:=ae (Tn N g _ cc k (ah s.heap.turns) W2 h61 (jL _) hlt (by omega))
  clear h61 hfg hgl
  go_wp2_with fail
  refine HD.o.mono ?_
  rintro e W3 ⟨rfl,qE,gY⟩
  have hbl:=(gY.block wb l2 (by simpa using hg1)).trans ((HB2.o.block _ lw).trans HO.o.blk)
  obtain⟨c3,f3,l3⟩:=af hbl
  have ja:=ae (ag gY (ag qE hbl))
  have oV:=ae (show Below N w W3 from(HB2.o.mono gI).trans ⟨gY.os,gY.tape,gY.output,gY.size,fun k hk=>gY.block k (by have:=HB2.o.size;omega) (fun h=>by have:=(H6.o.lt g rfl).1;have:=fD.1 h;omega)⟩)
  clear gY qE hbl hg1 HD c2 f2 xG n20
  go_wp2_with fail
  go_end0
  have hcx:s.heap.turns.contains x=true:=by rw[List.contains_iff_mem];exact ni HK.o
  simp only[jh,List.getD_cons_zero,hcx]
  rw[ak (by simp)]
  have hne:jl s.heap.last (fun i=>i !=x&&s.heap.turns.contains i)=s.heap.turns.eraseIdx k:=by
   have hk:=HK.o
   rw[HPT.o.2,HPT.o.1] at*
   exact(OX pt k x hk).symm
  rw[hne]
  have hfe:ah (s.heap.turns.eraseIdx k)=(ah s.heap.turns).take k++(ah s.heap.turns).drop (k+1):=by
   unfold ah
   rw[List.eraseIdx_eq_take_drop_succ,List.map_append,List.map_take,List.map_drop]
  refine⟨oV.o.setCell wB _,.inl ⟨rfl,rfl,⟨vt,vn,vw,.slice (some ⟨g,0,none⟩) (s.heap.turns.length-1) cc,vr,vh,vk,vs⟩,es,(HO.o.below HB2.o).put (i:=3) rfl ⟨3,1,.slice (some ⟨g,0,none⟩) (s.heap.turns.length-1) cc,s.heap.turns.length-1,(ah s.heap.turns).take k++(ah s.heap.turns).drop (k+1)⟩ ja.o.1 (fun m hm=>by rw[fD.1 hm];rfl) ja.o.2.1 (.inl rfl) (aI ja.o.2.2 _) ?_ HO.o.es⟩⟩
  simp only[iK,iR]
  rw[List.length_eraseIdx_of_lt hlt,hfe]
  rfl
 ·have HN:=ae hno
  clear hno
  go_wp2_with fail
  refine(dX 7 [true] W1 (by simp) _ (by simp[dK]) _ _ rfl).mono ?_
  rintro e W2 ⟨hb,⟨hc,rfl⟩|⟨hc,rfl⟩⟩
  ·exfalso;simp at hc
  simp only[jh,List.getD_cons_zero,HN.o]
  rw[aF True.intro]
  exact⟨rfl,(aY HB1.o hb).mono gI,.inr ⟨by simp,rfl⟩⟩
theorem YJ (N:Nat) (w:World) (wb:Nat) (s:jO) (V:SV) (es:List KE) (ns:Value) (x:Int) (hO:jT N w wb s V es) (hn:rV N w ns [x]) (hG:fO s) (hx:0<=x):Calls Tryz.prog 164 #[.pointer (some ⟨wb,0,none⟩),ns] w (rC N wb (jh s .turn [x]) w):=by
 obtain⟨vt,vn,vw,vu,vr,vh,vk,vs⟩:=V
 obtain⟨o,cc,rfl⟩: ∃o c,vu= .slice o s.heap.turns.length c:=aT (n:=s.heap.turns.length) (hO.rows.own 3 _ rfl)
 have HO:=ae hO
 have gI:=eH hO
 obtain⟨b,c,rfl,hbN,hcs⟩:=hn
 have lb:b<w.heap.size:=by omega
 have lw:=hO.rows.lt
 have wB:=hO.rows.base
 have HW:Hid (∀W,Below N w W->b<W.heap.size/\ ∀(j:Nat) (h:j<[x].length),W.cell? ⟨b,j,none⟩=some (iv [x][j])):=ae (fun W hB=>⟨by have:=hB.size;omega,fun j h=>(jd (hB.block b hbN)).trans (hcs j h)⟩)
 obtain⟨c0,f0,l0⟩:=af hO.blk
 have oU:=hcs 0 (by simp)
 simp only[au] at oU
 have HB0:Hid (Below w.heap.size w w):=ae (aH _ _)
 obtain⟨pt,hpt⟩:=hG.turns
 have LZ:s.heap.turns.length<=5:=by rw[hpt];exact Dh pt
 have hl4:=hG.heap.1
 have HPT:=ae (ag hpt hl4)
 have h6:w.ownsRow N 3 1 (.slice o s.heap.turns.length cc) s.heap.turns.length (ah s.heap.turns):=hO.rows.own 3 _ rfl
 have H6:=ae h6
 clear hpt h6
 clear hO hcs hG
 go_enter Tryz.func164,Tryz.ntmps164
 go_wp2_with fail
 refine(yw x wb s _ w ((HB0.o.block _ lw).trans HO.o.blk) hl4).mono ?_
 rintro e W1 ⟨hb,⟨hc,rfl⟩|⟨hc,rfl⟩⟩
 rotate_left
 ·simp at hc
  simp only[jh,bW,bY,dD]
  (repeat (first|rw[aF (by omega)]|rw[ak (by omega)]))
  exact⟨rfl,(aY HB0.o hb).mono gI,.inr ⟨by simp,rfl⟩⟩
 simp at hc
 have HB1:=ae (aY HB0.o hb)
 have Nc:=ae hb
 have jQ:=ae hc
 clear hb hc c0 f0 oU
 obtain⟨c1,f1,l1⟩:=af ((HB1.o.block _ lw).trans HO.o.blk)
 obtain⟨wL,hcs1⟩:=HW.o W1 (HB1.o.mono gI)
 have n10:=hcs1 0 (by simp)
 simp only[au] at n10
 clear hcs1
 go_wp2_with fail
 refine zg 9 [] none [] ?_
 simp only[zt]
 repeat ((first|refine zd ?_|refine zk ?_);simp only[zp])
 intro W2 hE hF
 have HB2:=ae (aY HB1.o hE.below)
 have HS2:=ae (Ext.below hE)
 clear hE hF c1 f1 wL n10
 obtain⟨c2,f2,l2⟩:=af ((HB2.o.block _ lw).trans HO.o.blk)
 obtain⟨xG,hcs2⟩:=HW.o W2 (HB2.o.mono gI)
 have n20:=hcs2 0 (by simp)
 simp only[au] at n20
 clear hcs2
 have h61:=aC (Ms:=[]) H6.o (Ext.aA HB2.o) (by simp)
 have HX:=ae (iJ s.heap.turns _ x W2 (aN.dU h61))
 clear h61
 go_wp2_with fail
 refine HX.o.mono ?_
 clear HX
 rintro e W3 ⟨rfl,hb⟩
 have HB3:=ae (aY HB2.o hb)
 obtain⟨q,hq⟩: ∃q,s.heap.turns.contains x=q:=⟨_,rfl⟩
 rw[hq]
 have HQQ:=ae hq
 clear hb hq c2 f2 xG n20
 obtain⟨c3,f3,l3⟩:=af ((HB3.o.block _ lw).trans HO.o.blk)
 obtain⟨J3,hcs3⟩:=HW.o W3 (HB3.o.mono gI)
 have n30:=hcs3 0 (by simp)
 simp only[au] at n30
 clear hcs3
 go_wp2_with fail
 refine(dX 6 [q] W3 (by simp) _ (by simp[dK]) _ _ rfl).mono ?_
 rintro e W4 ⟨hb,⟨hc,rfl⟩|⟨hc,rfl⟩⟩
 rotate_left
 ·obtain rfl:q=true:=(by cases q <;>simp_all)
  have q0:=jQ.o
  have hqq:=HQQ.o;simp only[jh,List.getD_cons_zero,hqq];rw[ak (by omega),aF True.intro]
  exact⟨rfl,(aY HB3.o hb).mono gI,.inr ⟨by simp,rfl⟩⟩
 obtain rfl:q=false:=(by cases q <;>simp_all)
 have HB4:=ae (aY HB3.o hb)
 have U8:=ae hb
 have rD:=ae hc
 clear hb hc c3 f3 J3 n30
 obtain⟨c4,f4,l4⟩:=af ((HB4.o.block _ lw).trans HO.o.blk)
 obtain⟨Qz,kC⟩:=HW.o W4 (HB4.o.mono gI)
 have n40:=kC 0 (by simp)
 simp only[au] at n40
 clear kC
 go_wp2_with fail
 obtain⟨Ms,hMs⟩: ∃Ms,Ms=(Value.slice o s.heap.turns.length cc).ownBlock.toList:=⟨_,rfl⟩
 have hO4:=HO.o.below HB4.o
 have hm1:wb∉Ms:=fun h=>hO4.rows.off 3 _ rfl (by rw[hMs] at h;exact dJ.1 h)
 have hm2:b∉Ms:=fun h=>by have:=((hO4.rows.own 3 _ rfl).lt b (by rw[hMs] at h;exact dJ.1 h)).1;omega
 have uu: ∀m∈Ms,m<W4.heap.size:=fun m h=>((hO4.rows.own 3 _ rfl).lt m (by rw[hMs] at h;exact dJ.1 h)).2
 have HM:=ae hMs
 have jw:=ae hO4
 clear hMs hO4
 refine zg 12 Ms (some 11) [(10,Spec.slice W4.heap.size #[iv x] 3 1),(11,⟨fun _ v=> ∃o2 c2,v= .slice o2 (s.heap.turns.length+1) c2,fun _ v Wx=>Wx.ownsRow N 3 1 v (s.heap.turns.length+1) (ah s.heap.turns++[iv x])/\(v.ownBlock=(Value.slice o s.heap.turns.length cc).ownBlock∨ ∃q,v.ownBlock=some q/\W4.heap.size<=q)⟩)] ?_
 simp only[zt]
 repeat ((first|refine zd ?_|refine zk ?_);simp only[zp])
 refine dY W4.heap.size _ _ 1 (by rfl) (ai _) (by rfl) uu (by simp) (fun W hW=>by go_simp;try rfl) (fun b6=>?_)
 simp only[zp]
 repeat ((first|refine zd ?_|refine zk ?_);simp only[zp])
 refine bG _ (by rfl) (by rfl) (by exact⟨.slice none (s.heap.turns.length+1) 0,none,0,rfl⟩) (fun W6 hE hF=>?_) (fun v Wa Wb ho hE=>?_) (fun v hv=>?_)
 ·have hE':Ext [] W4 W6:=hE
  obtain⟨b',hb',hge,hcc⟩:=hF _ (bF _) (by kernel_rfl)
  cases hb'
  have hown6:W6.ownsRow N 3 1 (.slice o s.heap.turns.length cc) s.heap.turns.length (ah s.heap.turns):=aC (Ms:=[]) (jw.o.rows.own 3 _ rfl) hE' (by simp)
  have hsrc:aN 1 W6 (.slice (some ⟨b6,0,none⟩) 1 1) 1 ([iv x]):=aN.dB 1 1 hcc rfl (by decide)
  refine Does.mono (dM sK (by rfl) (by rfl) hown6 (by rfl) hsrc (one_one x) (by omega) (by omega) (by have:=hE'.size;have:=HB4.o.size;omega)) ?_
  rintro v' W7 ⟨ho,hgr,hcase⟩
  refine⟨aT ho,⟨ho,?_⟩,⟨hgr.os,hgr.tape,hgr.output,hgr.size,fun b hb hn=>hgr.block b hb (fun e=>hn (by rw[HM.o];exact dJ.2 e.symm))⟩⟩
  rcases hcase with h1|h1
  ·exact .inl h1
  ·exact .inr ⟨_,h1,hE'.size⟩
 ·exact⟨aC (Ms:=[]) ho.1 hE (by simp),ho.2⟩
 obtain⟨o7,c7,rfl⟩:=hv
 simp only[zp]
 intro W5 hE hF
 obtain⟨qE,Ak⟩:=hF _ (bF _)
 have gY:Ext Ms W4 W5:=hE
 have hbl:=(gY.block wb jw.o.rows.lt hm1).trans jw.o.blk
 obtain⟨c5,f5,l5⟩:=af hbl
 have ja:=ae (ag gY (ag qE (ag Ak hbl)))
 have AU:Below N w W5:=(HB4.o.mono gI).trans ⟨gY.os,gY.tape,gY.output,gY.size,fun k hk=>gY.block k (by have:=HB4.o.size;omega) (fun h=>by have:=((jw.o.rows.own 3 _ rfl).lt k (by rw[HM.o] at h;exact dJ.1 h)).1;omega)⟩
 have oV:=ae AU
 clear hE hF gY qE Ak hbl AU hm1 hm2 uu c4 f4 Qz n40
 go_upto_region 3 with(fail)
 refine dN fun W6 qi=>?_
 have hO6:jT N W6 wb (iR s {s.heap with turns:=s.heap.turns++[x]}) ⟨vt,vn,vw,.slice o7 (s.heap.turns.length+1) c7,vr,vh,vk,vs⟩ es:=by
  rw[qi]
  exact jw.o.put (i:=3) rfl ⟨3,1,.slice o7 (s.heap.turns.length+1) c7,s.heap.turns.length+1,ah s.heap.turns++[iv x]⟩ ja.o.1 (fun m hm=>by rw[HM.o] at hm;exact dJ.1 hm) ja.o.2.1 ja.o.2.2.1 (aI ja.o.2.2.2 _) (by simp[iK,iR,ah]) jw.o.es
 have pY:=ae (show Below N w W6 from by rw[qi];exact oV.o.setCell wB _)
 obtain⟨c6,f6,l6⟩:=af hO6.blk
 have h7:W6.ownsRow N 3 1 (.slice o7 (s.heap.turns.length+1) c7) (s.heap.turns++[x]).length (ah (s.heap.turns++[x])):=hO6.rows.own 3 _ rfl
 rw[dm,List.length_singleton] at h7
 obtain⟨g,rfl, -,hfg,hgl⟩:=gX h7 (by omega)
 obtain⟨cur,h7b,h7c,h7d,h7e,h7f,h7g⟩: ∃cur,N<=g/\W6.heap[g]? =some (.cells cur 3 (0,0))/\s.heap.turns.length+1<=c7/\c7<=maxLen/\cur.size=c7*1/\cur.toList.take ((s.heap.turns.length+1)*1)=ah (s.heap.turns++[x]):=by
  obtain⟨h1,⟨h2,_⟩|⟨g',cc',cs,h2,h3,h4,h5,h6,h7,h8⟩⟩:=h7
  ·cases h2
  ·cases h2;exact⟨cs,h3,h4,h5,h6,h7,h8⟩
 have hHo:=holds_of_blockI (ss:=s.heap.turns++[x]) h7c (by rw[dm,List.length_singleton, <-Nat.mul_one (s.heap.turns.length+1)];exact h7g)
 have hsort:=Go.Proofs.Tryz.slices_Sort_int g 0 c7 (s.heap.turns++[x]) W6 hHo hgl (by rw[dm,List.length_singleton];omega)
 rw[dm,List.length_singleton] at hsort
 have Jk:=ae (ag hO6 (ag h7b (ag h7c (ag h7d (ag h7e h7f)))))
 have HST:=ae hsort
 clear qi hO6 h7 h7b h7c h7d h7e h7f h7g hHo hsort c5 f5
 go_wp2_with fail
 refine HST.o.mono ?_
 rintro e W9 ⟨rfl,n9,os,rfl⟩
 (try go_wp2_with fail)
 go_end0
 have q0:=jQ.o
 have q1:=rD.o
 have hqq:=HQQ.o
 simp only[jh,List.getD_cons_zero,hqq]
 rw[ak (by omega),ak (by simp)]
 have hne:((s.heap.turns++[x]).mergeSort fun a b=>decide (a<=b))=jl s.heap.last (fun i=>i==x ||s.heap.turns.contains i):=by
  rw[HPT.o.2,HPT.o.1] at*
  exact WM pt x hx (by omega) hqq
 have hlen:((s.heap.turns++[x]).mergeSort fun a b=>decide (a<=b)).length=(s.heap.turns++[x]).length:=List.length_mergeSort _
 have hown:=ownsRow_sortedI (n:=n9) (os:=os) (ss:=s.heap.turns++[x]) hlen Jk.o.2.1 Jk.o.2.2.1 (by rw[dm,List.length_singleton];exact Jk.o.2.2.2.1) Jk.o.2.2.2.2.1 Jk.o.2.2.2.2.2
 have hgb:=grownBy_sortedI (w:=W6) (g:=g) (n:=n9) (os:=os) ((s.heap.turns++[x]).mergeSort fun a b=>decide (a<=b)).toArray
 have hE9:Ext [g] W6 (Go.Sort.grow (Go.Sort.putRow (Value.int .i64) (Go.Sort.ahead W6 n9) g 0 ((s.heap.turns++[x]).mergeSort fun a b=>decide (a<=b)).toArray) os):=⟨hgb.os,hgb.tape,hgb.output,hgb.size,fun k hk hm=>hgb.block k hk (fun e=>hm (by simp[jD e]))⟩
 refine⟨pY.o.trans ⟨hE9.os,hE9.tape,hE9.output,hE9.size,fun k hk=>hE9.block k (by have:=pY.o.size;omega) (fun h=>by have:=Jk.o.2.1;have:=fD.1 h;omega)⟩,.inl ⟨rfl,rfl,_,es,Jk.o.1.over (i:=3) rfl (g:=g) rfl hE9 (ah ((s.heap.turns++[x]).mergeSort fun a b=>decide (a<=b))) ?_ ?_ rfl HO.o.es⟩⟩
 ·have h:=hown
  rw[dm,List.length_singleton] at h
  show World.ownsRow _ N 3 1 (.slice (some ⟨g,0,none⟩) (s.heap.turns.length+1) c7) (s.heap.turns++[x]).length _
  rw[dm,List.length_singleton]
  exact h
 ·rw[<-hne]
  simp only[iK,iR]
  rw[hlen]
  rfl
structure pV (w:World) (s:jO) (V:SV) (es:List KE):Prop where
 xE:dW w V.xE s.led.field.ax
 VY:bJ w V.VY s.led.notes
 bZ:bT w V.bZ s.heap.bZ
 IQ:aO w V.IQ s.heap.turns
 Qw:bJ w V.Qw s.heap.readings
 dA:rJ w V.hps V.cks V.trs es s.dA
theorem pV.below {w W:World} {s:jO} {V:SV} {es:List KE} (h:pV w s V es) {B:Nat} (hb:Below B w W) (hB:w.heap.size<=B):pV W s V es:=
 ⟨h.xE.below hb hB,h.VY.below hb hB,h.bZ.below hb hB,h.IQ.below hb hB,h.Qw.below hb hB,h.dA.below hb hB⟩
theorem jT.st {N:Nat} {w:World} {wb:Nat} {s:jO} {V:SV} {es:List KE} (h:jT N w wb s V es):pV w s V es where
 xE:=aN.dU (h.rows.own 0 _ rfl)
 VY:=aN.dU (h.rows.own 1 _ rfl)
 bZ:=aN.dU (h.rows.own 2 _ rfl)
 IQ:=aN.dU (h.rows.own 3 _ rfl)
 Qw:=aN.dU (h.rows.own 4 _ rfl)
 dA:=⟨aN.dU (h.rows.own 5 _ rfl),⟨aN.dU (h.rows.own 6 _ rfl),fun e he=>by
  obtain⟨k,hk,rfl⟩:=mF he
  exact aN.dU (h.rows.own (8+k) _ (yT s V es (dw hk)))⟩,h.es,aN.dU (h.rows.own 7 _ rfl)⟩
def bI (s:jO):Int:=
 if fM s.led.field true≠0 then 11 else if iO s.led≠0 then 9 else if vW s.heap≠0 then 3
 else if jI.jo s.heap s.heap.turns≠0 then 11 else if jI.ou s.heap s.heap.turns=2 then 9
 else if qj s.dA≠0 then 3 else if jb s.dA true≠0 then 11 else 0
def ae5 (s:jO) (w:World) (e:Ending) (w':World):Prop:=
 Below w.heap.size w w'/\((bI s=0/\e= .returned (.tuple #[]))∨(bI s≠0/\e= .panicked (kH (bI s))))
theorem aeL (f:bU) (tv:Value) (w:World) (ht:dW w tv f.ax):Calls Tryz.prog 40 #[fv f tv] w (fun e w'=>Below w.heap.size w w'/\ ∃v,e= .returned (.tuple #[v,iv (fM f true)])):=by
 refine(CO f tv w ht).mono ?_
 rintro e w' ⟨hb,⟨_,rfl⟩|⟨h0,v,rfl,_⟩⟩
 ·exact⟨hb,_,rfl⟩
 ·exact⟨hb,v,by rw[h0]⟩
theorem Wy (c:bM) (hv nZ tv:Value) (es:List KE) (w:World) (hc:rJ w hv nZ tv es c):Calls Tryz.prog 45 #[kv hv nZ tv] w (fun e w'=>Below w.heap.size w w'/\ ∃v u,e= .returned (.tuple #[v,u,iv (jb c true)])):=by
 refine(yl c hv nZ tv es w hc).mono ?_
 rintro e w' ⟨hb,⟨_,rfl⟩|⟨h0,v,u,rfl,_⟩⟩
 ·exact⟨hb,_,_,rfl⟩
 ·exact⟨hb,v,u,by rw[h0]⟩
theorem Vu (s:jO) (V:SV) (es:List KE) (w:World) (hS:pV w s V es):Calls Tryz.prog 102 #[.agg (dS s V)] w (ae5 s w):=by
 obtain⟨vt,vn,vw,vu,vr,vh,vk,vs⟩:=V
 have HS:Hid (∀W,Below w.heap.size w W->pV W s ⟨vt,vn,vw,vu,vr,vh,vk,vs⟩ es):=ae (fun W hb=>hS.below hb (ai _))
 obtain⟨w0,hw0⟩: ∃w0,w0=w.alloc (.cells (dS s ⟨vt,vn,vw,vu,vr,vh,vk,vs⟩) 62):=⟨_,rfl⟩
 have HB0:Hid (Below w.heap.size w w0):=ae (by rw[hw0];exact aj (aH _ _) _)
 have HK0:Hid (w0.heap[w.heap.size]? =some (.cells (dS s ⟨vt,vn,vw,vu,vr,vh,vk,vs⟩) 62 (0,0))):=ae (by rw[hw0];exact ay _ _)
 have hsz:w0.heap.size=w.heap.size+1:=by rw[hw0];simp
 clear hS
 go_enter Tryz.func102,Tryz.ntmps102
 go_upto_region 1 with(fail)
 refine dN fun W1 hW1=>?_
 rw[<-hw0] at hW1
 subst hW1
 obtain⟨c0,f0,l0⟩:=af HK0.o
 clear hw0
 go_wp2_with fail
 have HB:=HB0
 have HK:=HK0
 refine(aeL s.led.field _ _ (HS.o _ HB0.o).xE).mono ?_
 rintro e X1 ⟨hb,v,rfl⟩
 have HB1:=ae (aY HB.o hb)
 have Yo:=ae ((hb.block _ l0).trans HK.o)
 obtain⟨c1,f1,l1⟩:=af Yo.o
 clear hb c0 f0
 obtain⟨q0,hq0⟩: ∃q,fM s.led.field true=q:=⟨_,rfl⟩
 rw[hq0]
 have jQ:=ae hq0
 clear hq0
 go_wp2_with fail
 refine(dX 11 [q0 !=0] X1 (by simp) _ (by simp[dK]) _ _ rfl).mono ?_
 rintro e X2 ⟨hb,⟨hc,rfl⟩|⟨hc,rfl⟩⟩
 rotate_left
 ·have hz:q0≠0:=by simpa using hc
  have hv:bI s=11:=by
   unfold bI
   simp only[jQ.o]
   rw[aF hz]
  exact⟨rfl,aY HB1.o hb,.inr ⟨by rw[hv];decide,by rw[hv]⟩⟩
 have hz:q0=0:=by simpa using hc
 have HZ0:=ae hz
 have HB2:=ae (aY HB1.o hb)
 have HK2:=ae ((hb.block _ l1).trans Yo.o)
 obtain⟨c2,f2,l2⟩:=af HK2.o
 clear hb hc hz c1 f1
 go_wp2_with fail
 refine(Fj s.led vt vn _ (HS.o _ HB2.o).xE (HS.o _ HB2.o).VY).mono ?_
 rintro e X3 ⟨rfl,hb⟩
 have HB3:=ae (aY HB2.o hb)
 have XX:=ae ((hb.block _ l2).trans HK2.o)
 obtain⟨c3,f3,l3⟩:=af XX.o
 clear hb c2 f2
 obtain⟨q1,hq1⟩: ∃q,iO s.led=q:=⟨_,rfl⟩
 rw[hq1]
 have rD:=ae hq1
 clear hq1
 go_wp2_with fail
 refine(dX 9 [q1 !=0] X3 (by simp) _ (by simp[dK]) _ _ rfl).mono ?_
 rintro e X4 ⟨hb,⟨hc,rfl⟩|⟨hc,rfl⟩⟩
 rotate_left
 ·have hz:q1≠0:=by simpa using hc
  have hv:bI s=9:=by
   unfold bI
   simp only[jQ.o,rD.o]
   rw[ak (by have:=HZ0.o;omega)]
   rw[aF hz]
  exact⟨rfl,aY HB3.o hb,.inr ⟨by rw[hv];decide,by rw[hv]⟩⟩
 have hz:q1=0:=by simpa using hc
 have HZ1:=ae hz
 have HB4:=ae (aY HB3.o hb)
 have HK4:=ae ((hb.block _ l3).trans XX.o)
 obtain⟨c4,f4,l4⟩:=af HK4.o
 clear hb hc hz c3 f3
 go_wp2_with fail
 refine(jI.vY s.heap vw vu vr _ (HS.o _ HB4.o).bZ (HS.o _ HB4.o).IQ (HS.o _ HB4.o).Qw).mono ?_
 rintro e X5 ⟨rfl,hb⟩
 have nD:=ae (aY HB4.o hb)
 have Yn:=ae ((hb.block _ l4).trans HK4.o)
 obtain⟨c5,f5,l5⟩:=af Yn.o
 clear hb c4 f4
 obtain⟨q2,hq2⟩: ∃q,vW s.heap=q:=⟨_,rfl⟩
 rw[hq2]
 have yL:=ae hq2
 clear hq2
 go_wp2_with fail
 refine(dX 3 [q2 !=0] X5 (by simp) _ (by simp[dK]) _ _ rfl).mono ?_
 rintro e X6 ⟨hb,⟨hc,rfl⟩|⟨hc,rfl⟩⟩
 rotate_left
 ·have hz:q2≠0:=by simpa using hc
  have hv:bI s=3:=by
   unfold bI
   simp only[jQ.o,rD.o,yL.o]
   rw[ak (by have:=HZ0.o;omega)]
   rw[ak (by have:=HZ1.o;omega)]
   rw[aF hz]
  exact⟨rfl,aY nD.o hb,.inr ⟨by rw[hv];decide,by rw[hv]⟩⟩
 have hz:q2=0:=by simpa using hc
 have HZ2:=ae hz
 have pY:=ae (aY nD.o hb)
 have HK6:=ae ((hb.block _ l5).trans Yn.o)
 obtain⟨c6,f6,l6⟩:=af HK6.o
 clear hb hc hz c5 f5
 go_wp2_with fail
 refine(jI.D7 s.heap vw vu vr vu s.heap.turns _ (HS.o _ pY.o).bZ (HS.o _ pY.o).IQ (HS.o _ pY.o).Qw (HS.o _ pY.o).IQ).mono ?_
 rintro e X7 ⟨rfl,hb⟩
 have zU:=ae (aY pY.o hb)
 have xI:=ae ((hb.block _ l6).trans HK6.o)
 obtain⟨c7,f7,l7⟩:=af xI.o
 clear hb c6 f6
 obtain⟨q3,hq3⟩: ∃q,jI.jo s.heap s.heap.turns=q:=⟨_,rfl⟩
 rw[hq3]
 have IM:=ae hq3
 clear hq3
 obtain⟨q4,hq4⟩: ∃q,jI.ou s.heap s.heap.turns=q:=⟨_,rfl⟩
 rw[hq4]
 have U9:=ae hq4
 clear hq4
 go_wp2_with fail
 refine(dX 11 [q3 !=0] X7 (by simp) _ (by simp[dK]) _ _ rfl).mono ?_
 rintro e X8 ⟨hb,⟨hc,rfl⟩|⟨hc,rfl⟩⟩
 rotate_left
 ·have hz:q3≠0:=by simpa using hc
  have hv:bI s=11:=by
   unfold bI
   simp only[jQ.o,rD.o,yL.o,IM.o,U9.o]
   rw[ak (by have:=HZ0.o;omega)]
   rw[ak (by have:=HZ1.o;omega)]
   rw[ak (by have:=HZ2.o;omega)]
   rw[aF hz]
  exact⟨rfl,aY zU.o hb,.inr ⟨by rw[hv];decide,by rw[hv]⟩⟩
 have hz:q3=0:=by simpa using hc
 have HZ3:=ae hz
 have oV:=ae (aY zU.o hb)
 have HK8:=ae ((hb.block _ l7).trans xI.o)
 obtain⟨c8,f8,l8⟩:=af HK8.o
 clear hb hc hz c7 f7
 go_wp2_with fail
 go_wp2_with fail
 refine(dX 9 [q4==2] X8 (by simp) _ (by simp[dK]) _ _ rfl).mono ?_
 rintro e X9 ⟨hb,⟨hc,rfl⟩|⟨hc,rfl⟩⟩
 rotate_left
 ·have hz:q4=2:=by simpa using hc
  have hv:bI s=9:=by
   unfold bI
   simp only[jQ.o,rD.o,yL.o,IM.o,U9.o]
   rw[ak (by have:=HZ0.o;omega)]
   rw[ak (by have:=HZ1.o;omega)]
   rw[ak (by have:=HZ2.o;omega)]
   rw[ak (by have:=HZ3.o;omega)]
   rw[aF hz]
  exact⟨rfl,aY oV.o hb,.inr ⟨by rw[hv];decide,by rw[hv]⟩⟩
 have hz:q4≠2:=by simpa using hc
 have HZ4:=ae hz
 have qQ:=ae (aY oV.o hb)
 have D8:=ae ((hb.block _ l8).trans HK8.o)
 obtain⟨c9,f9,l9⟩:=af D8.o
 clear hb hc hz c8 f8
 go_wp2_with fail
 refine(GM s.dA vh vk vs es _ (HS.o _ qQ.o).dA).mono ?_
 rintro e X10 ⟨rfl,hb⟩
 have X0:=ae (aY qQ.o hb)
 have ait:=ae ((hb.block _ l9).trans D8.o)
 obtain⟨c10,f10,l10⟩:=af ait.o
 clear hb c9 f9
 obtain⟨q5,hq5⟩: ∃q,qj s.dA=q:=⟨_,rfl⟩
 rw[hq5]
 have HQ5:=ae hq5
 clear hq5
 go_wp2_with fail
 refine(dX 3 [q5 !=0] X10 (by simp) _ (by simp[dK]) _ _ rfl).mono ?_
 rintro e X11 ⟨hb,⟨hc,rfl⟩|⟨hc,rfl⟩⟩
 rotate_left
 ·have hz:q5≠0:=by simpa using hc
  have hv:bI s=3:=by
   unfold bI
   simp only[jQ.o,rD.o,yL.o,IM.o,U9.o,HQ5.o]
   rw[ak (by have:=HZ0.o;omega)]
   rw[ak (by have:=HZ1.o;omega)]
   rw[ak (by have:=HZ2.o;omega)]
   rw[ak (by have:=HZ3.o;omega)]
   rw[ak (by have:=HZ4.o;omega)]
   rw[aF hz]
  exact⟨rfl,aY X0.o hb,.inr ⟨by rw[hv];decide,by rw[hv]⟩⟩
 have hz:q5=0:=by simpa using hc
 have HZ5:=ae hz
 have acW:=ae (aY X0.o hb)
 have ais:=ae ((hb.block _ l10).trans ait.o)
 obtain⟨c11,f11,l11⟩:=af ais.o
 clear hb hc hz c10 f10
 go_wp2_with fail
 refine(Wy s.dA vh vk vs es _ (HS.o _ acW.o).dA).mono ?_
 rintro e X12 ⟨hb,v1,v2,rfl⟩
 have aiC:=ae (aY acW.o hb)
 have air:=ae ((hb.block _ l11).trans ais.o)
 obtain⟨c12,f12,l12⟩:=af air.o
 clear hb c11 f11
 obtain⟨q6,hq6⟩: ∃q,jb s.dA true=q:=⟨_,rfl⟩
 rw[hq6]
 have HQ6:=ae hq6
 clear hq6
 go_wp2_with fail
 refine(dX 11 [q6 !=0] X12 (by simp) _ (by simp[dK]) _ _ rfl).mono ?_
 rintro e X13 ⟨hb,⟨hc,rfl⟩|⟨hc,rfl⟩⟩
 rotate_left
 ·have hz:q6≠0:=by simpa using hc
  have hv:bI s=11:=by
   unfold bI
   simp only[jQ.o,rD.o,yL.o,IM.o,U9.o,HQ5.o,HQ6.o]
   rw[ak (by have:=HZ0.o;omega)]
   rw[ak (by have:=HZ1.o;omega)]
   rw[ak (by have:=HZ2.o;omega)]
   rw[ak (by have:=HZ3.o;omega)]
   rw[ak (by have:=HZ4.o;omega)]
   rw[ak (by have:=HZ5.o;omega)]
   rw[aF hz]
  exact⟨rfl,aY aiC.o hb,.inr ⟨by rw[hv];decide,by rw[hv]⟩⟩
 have hz:q6=0:=by simpa using hc
 have HZ6:=ae hz
 have alU:=ae (aY aiC.o hb)
 have alG:=ae ((hb.block _ l12).trans air.o)
 obtain⟨c13,f13,l13⟩:=af alG.o
 clear hb hc hz c12 f12
 (try go_wp2_with fail)
 go_end0
 have hv:bI s=0:=by
  unfold bI
  simp only[jQ.o,rD.o,yL.o,IM.o,U9.o,HQ5.o,HQ6.o]
  rw[ak (by have:=HZ0.o;omega)]
  rw[ak (by have:=HZ1.o;omega)]
  rw[ak (by have:=HZ2.o;omega)]
  rw[ak (by have:=HZ3.o;omega)]
  rw[ak (by have:=HZ4.o;omega)]
  rw[ak (by have:=HZ5.o;omega)]
  rw[ak (by have:=HZ6.o;omega)]
 exact⟨alU.o,.inl ⟨hv,rfl⟩⟩
theorem ajs:iQ Tryz.prog 51 50 (rv (0,0)) 2 16:=⟨Tryz.underlying51,by kernel_rfl,rfl,by omega⟩
theorem MO (n:Nat) (xs:List Value) (v:Value) (w:World) (hv:aN 5 w v n xs) (h1: ∀u∈xs,u.oneCell'=true) (hlen:n<=1000):
 Calls Tryz.prog 176 #[v] w (Ff 186 5 n xs w):=by
 obtain⟨o,c,rfl⟩:=aN.open hv
 have HV:=ae hv
 have H1:=ae h1
 clear h1
 have hnil:=fun(w:World) a n c=>Lib.run_eql_slice_nil (P:=Tryz.prog) w 43 186 a n c 0 0 Tryz.underlying43
 cases o with
 |none=>
  obtain⟨hl,o,c',h0,h1,h2,h3,h4⟩:=hv
  cases h0
  obtain rfl:c=0:=h3 rfl
  obtain rfl:n=0:=by omega
  have hx:xs=[]:=kG (by simpa using hl)
  subst hx
  clear HV H1
  go_enter Tryz.func176,Tryz.ntmps176
  go_wp2
  go_returns
  exact⟨.slice none 0 0,by simp,⟨by simp,.inl ⟨rfl,rfl⟩⟩,aH _ _⟩
 |some a=>
  obtain⟨b,off,sp⟩:=a
  obtain rfl:sp=none:=by
   obtain⟨_,o,c',h0,h1,h2,h3,h4⟩:=hv
   cases h0
   exact(h4 _ rfl).1
  clear hv
  go_enter Tryz.func176,Tryz.ntmps176
  go_wp2_with (at_builtin;refine fV rfl _ _ YO rfl w.heap.size (.slice (some ⟨w.heap.size,0,none⟩) 0 0) 0 [] rfl ?_ (.slice (some ⟨b,off,none⟩) n c) n xs rfl ?_ H1.o (by omega) (by omega) (by simp) ?_)
  ·exact iM (cs:= #[]) (n:=0) (ay _ _) rfl (ai _) (by decide)
  ·exact aN.alloc HV.o _
  ·intro v' w1 hown hgrow
   have HO:=ae hown
   have HG:=ae hgrow
   clear hown hgrow
   go_wp2
   go_returns
   refine⟨v',by simp,?_,?_⟩
   ·exact HO.o
   ·exact Below.grown (aj (aH _ _) _) HG.o (by simp) (fun k e=>by cases e;exact ai _)
theorem Jd (n:Nat) (xs:List Value) (v:Value) (w:World) (hv:aN 3 w v n xs) (h1: ∀u∈xs,u.oneCell'=true) (hlen:n<=1000):
 Calls Tryz.prog 177 #[v] w (Ff 188 3 n xs w):=by
 obtain⟨o,c,rfl⟩:=aN.open hv
 have HV:=ae hv
 have H1:=ae h1
 clear h1
 have hnil:=fun(w:World) a n c=>Lib.run_eql_slice_nil (P:=Tryz.prog) w 47 188 a n c 0 0 Tryz.underlying47
 cases o with
 |none=>
  obtain⟨hl,o,c',h0,h1,h2,h3,h4⟩:=hv
  cases h0
  obtain rfl:c=0:=h3 rfl
  obtain rfl:n=0:=by omega
  have hx:xs=[]:=kG (by simpa using hl)
  subst hx
  clear HV H1
  go_enter Tryz.func177,Tryz.ntmps177
  go_wp2
  go_returns
  exact⟨.slice none 0 0,by simp,⟨by simp,.inl ⟨rfl,rfl⟩⟩,aH _ _⟩
 |some a=>
  obtain⟨b,off,sp⟩:=a
  obtain rfl:sp=none:=by
   obtain⟨_,o,c',h0,h1,h2,h3,h4⟩:=hv
   cases h0
   exact(h4 _ rfl).1
  clear hv
  go_enter Tryz.func177,Tryz.ntmps177
  go_wp2_with (at_builtin;refine fV rfl _ _ abG rfl w.heap.size (.slice (some ⟨w.heap.size,0,none⟩) 0 0) 0 [] rfl ?_ (.slice (some ⟨b,off,none⟩) n c) n xs rfl ?_ H1.o (by omega) (by omega) (by simp) ?_)
  ·exact iM (cs:= #[]) (n:=0) (ay _ _) rfl (ai _) (by decide)
  ·exact aN.alloc HV.o _
  ·intro v' w1 hown hgrow
   have HO:=ae hown
   have HG:=ae hgrow
   clear hown hgrow
   go_wp2
   go_returns
   refine⟨v',by simp,?_,?_⟩
   ·exact HO.o
   ·exact Below.grown (aj (aH _ _) _) HG.o (by simp) (fun k e=>by cases e;exact ai _)
theorem MM (n:Nat) (xs:List Value) (v:Value) (w:World) (hv:aN 2 w v n xs) (h1: ∀u∈xs,u.oneCell'=true) (hlen:n<=1000):
 Calls Tryz.prog 178 #[v] w (Ff 50 2 n xs w):=by
 obtain⟨o,c,rfl⟩:=aN.open hv
 have HV:=ae hv
 have H1:=ae h1
 clear h1
 have hnil:=fun(w:World) a n c=>Lib.run_eql_slice_nil (P:=Tryz.prog) w 51 50 a n c 0 0 Tryz.underlying51
 cases o with
 |none=>
  obtain⟨hl,o,c',h0,h1,h2,h3,h4⟩:=hv
  cases h0
  obtain rfl:c=0:=h3 rfl
  obtain rfl:n=0:=by omega
  have hx:xs=[]:=kG (by simpa using hl)
  subst hx
  clear HV H1
  go_enter Tryz.func178,Tryz.ntmps178
  go_wp2
  go_returns
  exact⟨.slice none 0 0,by simp,⟨by simp,.inl ⟨rfl,rfl⟩⟩,aH _ _⟩
 |some a=>
  obtain⟨b,off,sp⟩:=a
  obtain rfl:sp=none:=by
   obtain⟨_,o,c',h0,h1,h2,h3,h4⟩:=hv
   cases h0
   exact(h4 _ rfl).1
  clear hv
  go_enter Tryz.func178,Tryz.ntmps178
  go_wp2_with (at_builtin;refine fV rfl _ _ ajs rfl w.heap.size (.slice (some ⟨w.heap.size,0,none⟩) 0 0) 0 [] rfl ?_ (.slice (some ⟨b,off,none⟩) n c) n xs rfl ?_ H1.o (by omega) (by omega) (by simp) ?_)
  ·exact iM (cs:= #[]) (n:=0) (ay _ _) rfl (ai _) (by decide)
  ·exact aN.alloc HV.o _
  ·intro v' w1 hown hgrow
   have HO:=ae hown
   have HG:=ae hgrow
   clear hown hgrow
   go_wp2
   go_returns
   refine⟨v',by simp,?_,?_⟩
   ·exact HO.o
   ·exact Below.grown (aj (aH _ _) _) HG.o (by simp) (fun k e=>by cases e;exact ai _)
theorem Jc (n:Nat) (xs:List Value) (v:Value) (w:World) (hv:aN 3 w v n xs) (h1: ∀u∈xs,u.oneCell'=true) (hlen:n<=1000):
 Calls Tryz.prog 179 #[v] w (Ff 190 3 n xs w):=by
 obtain⟨o,c,rfl⟩:=aN.open hv
 have HV:=ae hv
 have H1:=ae h1
 clear h1
 have hnil:=fun(w:World) a n c=>Lib.run_eql_slice_nil (P:=Tryz.prog) w 53 190 a n c 0 0 Tryz.underlying53
 cases o with
 |none=>
  obtain⟨hl,o,c',h0,h1,h2,h3,h4⟩:=hv
  cases h0
  obtain rfl:c=0:=h3 rfl
  obtain rfl:n=0:=by omega
  have hx:xs=[]:=kG (by simpa using hl)
  subst hx
  clear HV H1
  go_enter Tryz.func179,Tryz.ntmps179
  go_wp2
  go_returns
  exact⟨.slice none 0 0,by simp,⟨by simp,.inl ⟨rfl,rfl⟩⟩,aH _ _⟩
 |some a=>
  obtain⟨b,off,sp⟩:=a
  obtain rfl:sp=none:=by
   obtain⟨_,o,c',h0,h1,h2,h3,h4⟩:=hv
   cases h0
   exact(h4 _ rfl).1
  clear hv
  go_enter Tryz.func179,Tryz.ntmps179
  go_wp2_with (at_builtin;refine fV rfl _ _ abE rfl w.heap.size (.slice (some ⟨w.heap.size,0,none⟩) 0 0) 0 [] rfl ?_ (.slice (some ⟨b,off,none⟩) n c) n xs rfl ?_ H1.o (by omega) (by omega) (by simp) ?_)
  ·exact iM (cs:= #[]) (n:=0) (ay _ _) rfl (ai _) (by decide)
  ·exact aN.alloc HV.o _
  ·intro v' w1 hown hgrow
   have HO:=ae hown
   have HG:=ae hgrow
   clear hown hgrow
   go_wp2
   go_returns
   refine⟨v',by simp,?_,?_⟩
   ·exact HO.o
   ·exact Below.grown (aj (aH _ _) _) HG.o (by simp) (fun k e=>by cases e;exact ai _)
theorem MP (n:Nat) (xs:List Value) (v:Value) (w:World) (hv:aN 2 w v n xs) (h1: ∀u∈xs,u.oneCell'=true) (hlen:n<=1000):
 Calls Tryz.prog 180 #[v] w (Ff 129 2 n xs w):=by
 obtain⟨o,c,rfl⟩:=aN.open hv
 have HV:=ae hv
 have H1:=ae h1
 clear h1
 have hnil:=fun(w:World) a n c=>Lib.run_eql_slice_nil (P:=Tryz.prog) w 56 129 a n c 0 0 Tryz.underlying56
 cases o with
 |none=>
  obtain⟨hl,o,c',h0,h1,h2,h3,h4⟩:=hv
  cases h0
  obtain rfl:c=0:=h3 rfl
  obtain rfl:n=0:=by omega
  have hx:xs=[]:=kG (by simpa using hl)
  subst hx
  clear HV H1
  go_enter Tryz.func180,Tryz.ntmps180
  go_wp2
  go_returns
  exact⟨.slice none 0 0,by simp,⟨by simp,.inl ⟨rfl,rfl⟩⟩,aH _ _⟩
 |some a=>
  obtain⟨b,off,sp⟩:=a
  obtain rfl:sp=none:=by
   obtain⟨_,o,c',h0,h1,h2,h3,h4⟩:=hv
   cases h0
   exact(h4 _ rfl).1
  clear hv
  go_enter Tryz.func180,Tryz.ntmps180
  go_wp2_with (at_builtin;refine fV rfl _ _ afY rfl w.heap.size (.slice (some ⟨w.heap.size,0,none⟩) 0 0) 0 [] rfl ?_ (.slice (some ⟨b,off,none⟩) n c) n xs rfl ?_ H1.o (by omega) (by omega) (by simp) ?_)
  ·exact iM (cs:= #[]) (n:=0) (ay _ _) rfl (ai _) (by decide)
  ·exact aN.alloc HV.o _
  ·intro v' w1 hown hgrow
   have HO:=ae hown
   have HG:=ae hgrow
   clear hown hgrow
   go_wp2
   go_returns
   refine⟨v',by simp,?_,?_⟩
   ·exact HO.o
   ·exact Below.grown (aj (aH _ _) _) HG.o (by simp) (fun k e=>by cases e;exact ai _)
theorem MQ (n:Nat) (xs:List Value) (v:Value) (w:World) (hv:aN 1 w v n xs) (h1: ∀u∈xs,u.oneCell'=true) (hlen:n<=1000):
 Calls Tryz.prog 181 #[v] w (Ff 52 1 n xs w):=by
 obtain⟨o,c,rfl⟩:=aN.open hv
 have HV:=ae hv
 have H1:=ae h1
 clear h1
 have hnil:=fun(w:World) a n c=>Lib.run_eql_slice_nil (P:=Tryz.prog) w 57 52 a n c 0 0 Tryz.underlying57
 cases o with
 |none=>
  obtain⟨hl,o,c',h0,h1,h2,h3,h4⟩:=hv
  cases h0
  obtain rfl:c=0:=h3 rfl
  obtain rfl:n=0:=by omega
  have hx:xs=[]:=kG (by simpa using hl)
  subst hx
  clear HV H1
  go_enter Tryz.func181,Tryz.ntmps181
  go_wp2
  go_returns
  exact⟨.slice none 0 0,by simp,⟨by simp,.inl ⟨rfl,rfl⟩⟩,aH _ _⟩
 |some a=>
  obtain⟨b,off,sp⟩:=a
  obtain rfl:sp=none:=by
   obtain⟨_,o,c',h0,h1,h2,h3,h4⟩:=hv
   cases h0
   exact(h4 _ rfl).1
  clear hv
  go_enter Tryz.func181,Tryz.ntmps181
  go_wp2_with (at_builtin;refine fV rfl _ _ af0 rfl w.heap.size (.slice (some ⟨w.heap.size,0,none⟩) 0 0) 0 [] rfl ?_ (.slice (some ⟨b,off,none⟩) n c) n xs rfl ?_ H1.o (by omega) (by omega) (by simp) ?_)
  ·exact iM (cs:= #[]) (n:=0) (ay _ _) rfl (ai _) (by decide)
  ·exact aN.alloc HV.o _
  ·intro v' w1 hown hgrow
   have HO:=ae hown
   have HG:=ae hgrow
   clear hown hgrow
   go_wp2
   go_returns
   refine⟨v',by simp,?_,?_⟩
   ·exact HO.o
   ·exact Below.grown (aj (aH _ _) _) HG.o (by simp) (fun k e=>by cases e;exact ai _)
theorem MN (n:Nat) (xs:List Value) (v:Value) (w:World) (hv:aN 4 w v n xs) (h1: ∀u∈xs,u.oneCell'=true) (hlen:n<=1000):
 Calls Tryz.prog 182 #[v] w (Ff 192 4 n xs w):=by
 obtain⟨o,c,rfl⟩:=aN.open hv
 have HV:=ae hv
 have H1:=ae h1
 clear h1
 have hnil:=fun(w:World) a n c=>Lib.run_eql_slice_nil (P:=Tryz.prog) w 58 192 a n c 0 0 Tryz.underlying58
 cases o with
 |none=>
  obtain⟨hl,o,c',h0,h1,h2,h3,h4⟩:=hv
  cases h0
  obtain rfl:c=0:=h3 rfl
  obtain rfl:n=0:=by omega
  have hx:xs=[]:=kG (by simpa using hl)
  subst hx
  clear HV H1
  go_enter Tryz.func182,Tryz.ntmps182
  go_wp2
  go_returns
  exact⟨.slice none 0 0,by simp,⟨by simp,.inl ⟨rfl,rfl⟩⟩,aH _ _⟩
 |some a=>
  obtain⟨b,off,sp⟩:=a
  obtain rfl:sp=none:=by
   obtain⟨_,o,c',h0,h1,h2,h3,h4⟩:=hv
   cases h0
   exact(h4 _ rfl).1
  clear hv
  go_enter Tryz.func182,Tryz.ntmps182
  go_wp2_with (at_builtin;refine fV rfl _ _ abD rfl w.heap.size (.slice (some ⟨w.heap.size,0,none⟩) 0 0) 0 [] rfl ?_ (.slice (some ⟨b,off,none⟩) n c) n xs rfl ?_ H1.o (by omega) (by omega) (by simp) ?_)
  ·exact iM (cs:= #[]) (n:=0) (ay _ _) rfl (ai _) (by decide)
  ·exact aN.alloc HV.o _
  ·intro v' w1 hown hgrow
   have HO:=ae hown
   have HG:=ae hgrow
   clear hown hgrow
   go_wp2
   go_returns
   refine⟨v',by simp,?_,?_⟩
   ·exact HO.o
   ·exact Below.grown (aj (aH _ _) _) HG.o (by simp) (fun k e=>by cases e;exact ai _)
theorem BN (n:Nat) (xs:List Value) (v:Value) (w:World) (hv:aN 1 w v n xs) (h1: ∀u∈xs,u.oneCell'=true) (hlen:n<=1000):
 Calls Tryz.prog 91 #[v] w (Ff 3 1 n xs w):=by
 obtain⟨o,c,rfl⟩:=aN.open hv
 have HV:=ae hv
 have H1:=ae h1
 clear h1
 have hnil:=fun(w:World) a n c=>Lib.run_eql_slice_nil (P:=Tryz.prog) w 52 3 a n c 0 0 Tryz.underlying52
 cases o with
 |none=>
  obtain⟨hl,o,c',h0,h1,h2,h3,h4⟩:=hv
  cases h0
  obtain rfl:c=0:=h3 rfl
  obtain rfl:n=0:=by omega
  have hx:xs=[]:=kG (by simpa using hl)
  subst hx
  clear HV H1
  go_enter Tryz.func91,Tryz.ntmps91
  go_wp2
  go_returns
  exact⟨.slice none 0 0,by simp,⟨by simp,.inl ⟨rfl,rfl⟩⟩,aH _ _⟩
 |some a=>
  obtain⟨b,off,sp⟩:=a
  obtain rfl:sp=none:=by
   obtain⟨_,o,c',h0,h1,h2,h3,h4⟩:=hv
   cases h0
   exact(h4 _ rfl).1
  clear hv
  go_enter Tryz.func91,Tryz.ntmps91
  go_wp2_with (at_builtin;refine fV rfl _ _ sK rfl w.heap.size (.slice (some ⟨w.heap.size,0,none⟩) 0 0) 0 [] rfl ?_ (.slice (some ⟨b,off,none⟩) n c) n xs rfl ?_ H1.o (by omega) (by omega) (by simp) ?_)
  ·exact iM (cs:= #[]) (n:=0) (ay _ _) rfl (ai _) (by decide)
  ·exact aN.alloc HV.o _
  ·intro v' w1 hown hgrow
   have HO:=ae hown
   have HG:=ae hgrow
   clear hown hgrow
   go_wp2
   go_returns
   refine⟨v',by simp,?_,?_⟩
   ·exact HO.o
   ·exact Below.grown (aj (aH _ _) _) HG.o (by simp) (fun k e=>by cases e;exact ai _)
end Go.Proofs.YthllkbbbapgelaaGreatDoor.Bk
end
section
namespace Go.Proofs.YthllkbbbapgelaaGreatDoor
open Go.RowKit Go.RG Go.SL Go.Shelf jy Go.TB
theorem U2 {l:aQ} (hp: ∃d∈gm l,jC l [] d=true) (p:Int->dR->dR):(BQ p l (gm l)).length=l.field.aK.toNat:=by
 rcases KD p l (gm l) (gm l).length (ai _) with h|h
 ·obtain⟨d,hd,hc⟩:=hp
  by_cases h0:0<l.field.aK.toNat
  ·rcases Ih p l (gm l) h0 (gm l).length (ai _) with⟨_,h2⟩|⟨h1,_⟩
   ·rw[List.take_length] at h2
    rw[h2 d hd] at hc;cases hc
   ·exact h1
  ·unfold BQ;rw[h];simp;omega
 ·exact h
end Go.Proofs.YthllkbbbapgelaaGreatDoor
end

/-
  Texts of this claim, packed by a program: DH DI DJ DK DL DM DN DO DP.
-/
import Derived.WalkKit
import Derived.WalkLawsBesides
import Derived.WalkSpells
import Derived.Outline
import Derived.Handy
import Derived.KernelRfl
import Derived.Lib.Hide
import Derived.Sort.OwnSortedInts
import Derived.Lib.SliceRun
import Derived.Test.YthbpmepjmebolaaGreatDoorPS1
import Derived.Test.YthbpmepjmebolaaGreatDoorPS10
import Derived.Test.YthbpmepjmebolaaGreatDoorPS12
set_option maxHeartbeats 8000000
set_option maxRecDepth 100000
set_option linter.all false
section
namespace Go.Proofs.YthbpmepjmebolaaGreatDoor.Bk
open Go.RowKit Go.RG Go.SL Go.Shelf ji Go.TB Go.Proofs.YthbpmepjmebolaaGreatDoor.yR
theorem gU {w:World} {N:Nat} {t:TypeId} {size:Nat} {o:Option Addr} {n c m:Nat} {xs:List Value} (h:w.ownsRow N t size (.slice o m c) n xs) (hn:0<n):
 ∃g,o=some ⟨g,0,none⟩/\(∀(j:Nat) (hj:j<xs.length),w.cell? ⟨g,j,none⟩=some xs[j])/\(∀j,w.frozen? ⟨g,j,none⟩=false)/\g<w.heap.size:=by
 obtain⟨h1,⟨h2,rfl⟩|⟨g,cc,cs,h2,h3,h4,h5,h6,h7,h8⟩⟩:=h
 ·omega
 ·cases h2
  obtain⟨k0,k1,k2⟩:=af h4
  refine⟨g,rfl,fun j hj=>?_,k1,k2⟩
  rw[k0, <-Array.getElem?_toList]
  have:(cs.toList.take (n*size))[j]? =some xs[j]:=by rw[h8];exact dG hj
  rw[List.getElem?_take] at this
  split at this
  ·exact this
  ·cases this
theorem lu {w:World} {N:Nat} {t:TypeId} {size:Nat} {g n c m:Nat} {xs:List Value} (h:w.ownsRow N t size (.slice (some ⟨g,0,none⟩) m c) n xs) (j:Nat) (u:Value):(w.setCell ⟨g,j,none⟩ u).ownsRow N t size (.slice (some ⟨g,0,none⟩) m c) n (xs.set j u):=by
 obtain⟨h1,⟨h2,rfl⟩|⟨g',cc,cs,h2,h3,h4,h5,h6,h7,h8⟩⟩:=h
 ·cases h2
 ·cases h2
  refine⟨by simpa using h1,.inr ⟨g,c,_,rfl,h3,aI h4 u,h5,h6,by simpa using h7,?_⟩⟩
  rw[<-h8,Array.toList_setIfInBounds,List.take_set]
theorem jq {α:Type} (f:α->List Value) (k:Nat) (hk: ∀x,(f x).length=k): ∀(l:List α) (i j:Nat) (x:α),l[i]? =some x->j<k->(l.flatMap f)[i*k+j]? =(f x)[j]? :=by
 intro l
 induction l with
 |nil=>intro i j x h _;cases h
 |cons y l ih=>
  intro i j x h hj
  rw[List.flatMap_cons]
  cases i with
  |zero=>
   simp only[List.getElem?_cons_zero,Option.some.injEq] at h
   subst h
   rw[uG (by rw[hk];omega)]
   congr 1
   omega
  |succ i=>
   rw[nT (by rw[hk,Nat.succ_mul];omega),hk]
   rw[show(i+1)*k+j-k=i*k+j from by rw[Nat.succ_mul];omega]
   exact ih i j x (by simpa using h) hj
theorem AQ {α:Type} (f:α->List Value) (k:Nat) (hk: ∀x,(f x).length=k): ∀(l:List α) (i j:Nat) (x y:α) (u:Value),l[i]? =some x->j<k->(f x).set j u=f y->(l.flatMap f).set (i*k+j) u=(l.set i y).flatMap f:=by
 intro l
 induction l with
 |nil=>intro i j x y u h _ _;cases h
 |cons z l ih=>
  intro i j x y u h hj hu
  rw[List.flatMap_cons]
  cases i with
  |zero=>
   simp only[List.getElem?_cons_zero,Option.some.injEq] at h
   subst h
   rw[List.set_append_left _ _ (by rw[hk];omega),List.set_cons_zero,List.flatMap_cons, <-hu]
   congr 2
   omega
  |succ i=>
   rw[qh _ _ (by rw[hk,Nat.succ_mul];omega),hk,List.set_cons_succ,List.flatMap_cons]
   rw[show(i+1)*k+j-k=i*k+j from by rw[Nat.succ_mul];omega,ih i j x y u (by simpa using h) hj hu]
theorem Ym (l:List dP) (i:Nat) (h:i<l.length):(aF l)[i*2+0]? =some (iv l[i].1)/\(aF l)[i*2+1]? =some (iv l[i].2):=
 ⟨jq _ 2 (fun _=>rfl) l i 0 _ (dG h) (by omega),jq _ 2 (fun _=>rfl) l i 1 _ (dG h) (by omega)⟩
theorem MZ (l:List dP) (i:Nat) (h:i<l.length) (a b:Int):((aF l).set (i*2+0) (iv a)).set (i*2+1) (iv b)=aF (l.set i (a,b)):=by
 unfold aF
 rw[AQ _ 2 (fun _=>rfl) l i 0 _ (a,l[i].2) (iv a) (dG h) (by omega) rfl,AQ _ 2 (fun _=>rfl) (l.set i (a,l[i].2)) i 1 (a,l[i].2) (a,b) (iv b) (by simp[h]) (by omega) rfl]
 simp
theorem jO.over {N:Nat} {w W:World} {wb:Nat} {s s':jI} {V:SV} {es es':List KE} (h:jO N w wb s V es) {i:Nat} {r:Row} (hr:(iH s V es)[i]? =some r) {g:Nat} (hg:r.v.ownBlock=some g) (hE:Ext [g] w W) (xs:List Value)
 (ho:W.ownsRow N r.t r.size r.v r.n xs) (hrows:iH s' V es'=(iH s V es).set i ⟨r.t,r.size,r.v,r.n,xs⟩) (hsc:dL s' V=dL s V) (hes:es'.map (·.2)=s'.df.aU):jO N W wb s' V es':=by
 refine⟨?_,?_,hes⟩
 ·rw[hsc]
  refine(hE.block wb h.rows.lt (fun hm=>h.rows.off i r hr ?_)).trans h.blk
  rw[hg,eY.1 hm]
 ·rw[hrows]
  exact h.rows.put hr ⟨r.t,r.size,r.v,r.n,xs⟩ hE (fun m hm=> .inr (.inr (by rw[hg,eY.1 hm]))) ho (.inl rfl)
theorem aaQ (l:List Lu) (i:Nat) (h:i<l.length):(dJ l)[i*5+3]? =some (iv l[i].2.2.2.1)/\(dJ l)[i*5+4]? =some (iv l[i].2.2.2.2):=
 ⟨jq _ 5 (fun _=>rfl) l i 3 _ (dG h) (by omega),jq _ 5 (fun _=>rfl) l i 4 _ (dG h) (by omega)⟩
theorem aaP (l:List Lu) (i:Nat) (h:i<l.length) (a b:Int):((dJ l).set (i*5+3) (iv a)).set (i*5+4) (iv b)=dJ (l.set i (l[i].1,l[i].2.1,l[i].2.2.1,(a,b))):=by
 unfold dJ
 rw[AQ _ 5 (fun _=>rfl) l i 3 _ (l[i].1,l[i].2.1,l[i].2.2.1,(a,l[i].2.2.2.2)) (iv a) (dG h) (by omega) rfl,AQ _ 5 (fun _=>rfl) (l.set i (l[i].1,l[i].2.1,l[i].2.2.1,(a,l[i].2.2.2.2))) i 4 (l[i].1,l[i].2.1,l[i].2.2.1,(a,l[i].2.2.2.2)) (l[i].1,l[i].2.1,l[i].2.2.1,(a,b)) (iv b) (by simp[h]) (by omega) rfl]
 simp
theorem XR {w:World} {g:Nat} {l:List Lu} (h: ∀(j:Nat) (hj:j<(dJ l).length),w.cell? ⟨g,j,none⟩=some (dJ l)[j]) {i:Nat} (hi:i<l.length):w.cell? ⟨g,i*5+3,none⟩=some (iv l[i].2.2.2.1)/\w.cell? ⟨g,i*5+4,none⟩=some (iv l[i].2.2.2.2):=by
 obtain⟨h1,h2⟩:=aaQ l i hi
 obtain⟨k1,e1⟩:=jg.1 h1
 obtain⟨k2,e2⟩:=jg.1 h2
 exact⟨(h _ k1).trans (by rw[e1]),(h _ k2).trans (by rw[e2])⟩
theorem IW {w:World} {g:Nat} {l:List dP} (h: ∀(j:Nat) (hj:j<(aF l).length),w.cell? ⟨g,j,none⟩=some (aF l)[j]) {i:Nat} (hi:i<l.length):w.cell? ⟨g,i*2,none⟩=some (iv l[i].1)/\w.cell? ⟨g,i*2+1,none⟩=some (iv l[i].2):=by
 obtain⟨h1,h2⟩:=Ym l i hi
 obtain⟨k1,e1⟩:=jg.1 h1
 obtain⟨k2,e2⟩:=jg.1 h2
 exact⟨(h _ k1).trans (by rw[e1]),(h _ k2).trans (by rw[e2])⟩
theorem JM (N:Nat) (w:World) (wb:Nat) (s:jI) (V:SV) (es:List KE) (ns:Value) (x:Nat) (y:Int) (z:Int) (hO:jO N w wb s V es) (hn:ru N w ns [(x:Int),y,z]) (hG:Good s) (hx:0<=y/\y<=9999):Calls Tryz.prog 186 #[.pointer (some ⟨wb,0,none⟩),ns] w (qN N wb (jb s .bV [(x:Int),y,z]) w):=by
 obtain⟨vt,vn,vw,vu,vr,vh,vk,vs⟩:=V
 obtain⟨o,cc,rfl⟩: ∃o c,vw= .slice o s.heap.bV.length c:=aS (n:=s.heap.bV.length) (hO.rows.own 2 _ rfl)
 have HO:=ae hO
 have gz:=eF hO
 obtain⟨b,c,rfl,hbN,hcs⟩:=hn
 have lb:b<w.heap.size:=by omega
 have lw:=hO.rows.lt
 have vC:=hO.rows.base
 have HW:Hid (∀W,Below N w W->b<W.heap.size/\ ∀(j:Nat) (h:j<[(x:Int),y,z].length),W.cell? ⟨b,j,none⟩=some (iv [(x:Int),y,z][j])):=ae (fun W hB=>⟨by have:=hB.size;omega,fun j h=>(iY (hB.block b hbN)).trans (hcs j h)⟩)
 obtain⟨c0,f0,l0⟩:=af hO.blk
 have oD:=hcs 0 (by simp)
 simp only[au] at oD
 have n01:=hcs 1 (by simp)
 simp only[au] at n01
 have n02:=hcs 2 (by simp)
 simp only[au] at n02
 have HB0:Hid (Below w.heap.size w w):=ae (aG _ _)
 have hl4:=hG.heap.1
 have KJ:=hG.UE
 have HR5:=ae KJ
 clear KJ
 clear hO hcs hG
 go_enter Tryz.func186,Tryz.ntmps186
 go_wp2_with fail
 refine(xI x wb s _ w ((HB0.o.block _ lw).trans HO.o.blk) hl4).mono ?_
 rintro e W1 ⟨hb,⟨hc,rfl⟩|⟨hc,rfl⟩⟩
 rotate_left
 ·simp at hc
  simp only[jb,bT,bU,dw]
  (repeat (first|rw[aC (by omega)]|rw[ak (by omega)]))
  exact⟨rfl,(bg HB0.o hb).mono gz,.inr ⟨by simp,rfl⟩⟩
 simp at hc
 have HB1:=ae (bg HB0.o hb)
 have LC:=ae hb
 have jK:=ae hc
 clear hb hc c0 f0 oD n01 n02
 obtain⟨c1,f1,l1⟩:=af ((HB1.o.block _ lw).trans HO.o.blk)
 obtain⟨vN,hcs1⟩:=HW.o W1 (HB1.o.mono gz)
 have n10:=hcs1 0 (by simp)
 simp only[au] at n10
 have n11:=hcs1 1 (by simp)
 simp only[au] at n11
 have n12:=hcs1 2 (by simp)
 simp only[au] at n12
 clear hcs1
 go_wp2_with fail
 refine zg 6 [] none [] ?_
 simp only[zt]
 repeat ((first|refine zd ?_|refine zk ?_);simp only[zp])
 intro W2 hE hF
 have HB2:=ae (bg HB1.o hE.below)
 clear hE hF c1 f1 vN n10 n11 n12
 obtain⟨c2,f2,l2⟩:=af ((HB2.o.block _ lw).trans HO.o.blk)
 obtain⟨wS,hcs2⟩:=HW.o W2 (HB2.o.mono gz)
 have n20:=hcs2 0 (by simp)
 simp only[au] at n20
 have n21:=hcs2 1 (by simp)
 simp only[au] at n21
 have n22:=hcs2 2 (by simp)
 simp only[au] at n22
 clear hcs2
 go_wp2_with fail
 refine(zx _ _ _ _ _ (by omega)).mono ?_
 rintro e W3 ⟨hb,⟨hc,rfl⟩|⟨hc,rfl⟩⟩
 rotate_left
 ·simp at hc
  have q0:=jK.o
  simp only[jb,bT,bU,dw]
  (repeat (first|rw[aC (by omega)]|rw[ak (by omega)]))
  exact⟨rfl,(bg HB2.o hb).mono gz,.inr ⟨by simp,rfl⟩⟩
 simp at hc
 have HB3:=ae (bg HB2.o hb)
 have HS3:=ae hb
 have qO:=ae hc
 clear hb hc c2 f2 wS n20 n21 n22
 obtain⟨c3,f3,l3⟩:=af ((HB3.o.block _ lw).trans HO.o.blk)
 obtain⟨Je,hcs3⟩:=HW.o W3 (HB3.o.mono gz)
 have n30:=hcs3 0 (by simp)
 simp only[au] at n30
 have n31:=hcs3 1 (by simp)
 simp only[au] at n31
 have n32:=hcs3 2 (by simp)
 simp only[au] at n32
 clear hcs3
 go_wp2_with fail
 refine zg 16 [] none [] ?_
 simp only[zt]
 repeat ((first|refine zd ?_|refine zk ?_);simp only[zp])
 intro W4 hE hF
 have HB4:=ae (bg HB3.o hE.below)
 clear hE hF c3 f3 Je n30 n31 n32
 obtain⟨c4,f4,l4⟩:=af ((HB4.o.block _ lw).trans HO.o.blk)
 obtain⟨Py,jV⟩:=HW.o W4 (HB4.o.mono gz)
 have n40:=jV 0 (by simp)
 simp only[au] at n40
 have n41:=jV 1 (by simp)
 simp only[au] at n41
 have n42:=jV 2 (by simp)
 simp only[au] at n42
 clear jV
 have q0:=jK.o
 have hxl:x<s.heap.bV.length:=by have:=HR5.o;omega
 have hown:=(HO.o.below HB4.o).rows.own 2 _ rfl
 obtain⟨g,rfl,hcg,hfg,hgl⟩:=gU hown (by show 0<s.heap.bV.length;omega)
 obtain⟨g0,g1⟩:=IW hcg hxl
 clear hcg q0 hown
 go_wp2_with fail
 go_end0
 have q0:=jK.o
 have q1:=qO.o
 simp only[jb,bT,bU,dw]
 (repeat (first|rw[aC (by omega)]|rw[ak (by omega)]))
 simp only[Int.toNat_natCast]
 have zI:=HO.o.below HB4.o
 have hgN:N<=g:=((zI.rows.own 2 _ rfl).lt g rfl).1
 have hS:=(lu (lu (zI.rows.own 2 _ rfl) (x*2+0) (iv y)) (x*2+1) (iv z))
 simp only[MZ _ _ hxl] at hS
 exact⟨(((HB4.o.mono gz).setCell hgN _).setCell hgN _),.inl ⟨rfl,rfl,_,es,zI.over (i:=2) rfl (g:=g) rfl ((gq).trans gq) (aF (s.heap.bV.set x (y,z))) hS (by simp[iH,mP,nU,iL,fK]) rfl HO.o.es⟩⟩
theorem rQ (N:Nat) (w:World) (wb:Nat) (s:jI) (V:SV) (es:List KE) (ns:Value) (x:Nat) (y:Int) (z:Int) (hO:jO N w wb s V es) (hn:ru N w ns [(x:Int),y,z]) (hx:0<=y/\y<=9999):Calls Tryz.prog 192 #[.pointer (some ⟨wb,0,none⟩),ns] w (qN N wb (jb s .strong [(x:Int),y,z]) w):=by
 obtain⟨vt,vn,vw,vu,vr,vh,vk,vs⟩:=V
 obtain⟨o,cc,rfl⟩: ∃o c,vh= .slice o s.df.heaps.length c:=aS (n:=s.df.heaps.length) (hO.rows.own 5 _ rfl)
 have HO:=ae hO
 have gz:=eF hO
 obtain⟨b,c,rfl,hbN,hcs⟩:=hn
 have lb:b<w.heap.size:=by omega
 have lw:=hO.rows.lt
 have vC:=hO.rows.base
 have HW:Hid (∀W,Below N w W->b<W.heap.size/\ ∀(j:Nat) (h:j<[(x:Int),y,z].length),W.cell? ⟨b,j,none⟩=some (iv [(x:Int),y,z][j])):=ae (fun W hB=>⟨by have:=hB.size;omega,fun j h=>(iY (hB.block b hbN)).trans (hcs j h)⟩)
 obtain⟨c0,f0,l0⟩:=af hO.blk
 have oD:=hcs 0 (by simp)
 simp only[au] at oD
 have n01:=hcs 1 (by simp)
 simp only[au] at n01
 have n02:=hcs 2 (by simp)
 simp only[au] at n02
 have HB0:Hid (Below w.heap.size w w):=ae (aG _ _)
 clear hO hcs
 go_enter Tryz.func192,Tryz.ntmps192
 go_wp2_with fail
 refine zg 10 [] none [] ?_
 simp only[zt]
 repeat ((first|refine zd ?_|refine zk ?_);simp only[zp])
 intro W1 hE hF
 have HB1:=ae (bg HB0.o hE.below)
 clear hE hF c0 f0 oD n01 n02
 obtain⟨c1,f1,l1⟩:=af ((HB1.o.block _ lw).trans HO.o.blk)
 obtain⟨vN,hcs1⟩:=HW.o W1 (HB1.o.mono gz)
 have n10:=hcs1 0 (by simp)
 simp only[au] at n10
 have n11:=hcs1 1 (by simp)
 simp only[au] at n11
 have n12:=hcs1 2 (by simp)
 simp only[au] at n12
 clear hcs1
 go_wp2_with fail
 refine(iZ _ _ _).mono ?_
 rintro e W2 ⟨hb,⟨hc,rfl⟩|⟨hc,rfl⟩⟩
 rotate_left
 ·simp at hc
  simp only[jb,bT,bU,dw]
  (repeat (first|rw[aC (by omega)]|rw[ak (by omega)]))
  exact⟨rfl,(bg HB1.o hb).mono gz,.inr ⟨by simp,rfl⟩⟩
 simp at hc
 have HB2:=ae (bg HB1.o hb)
 have HS2:=ae hb
 have jK:=ae hc
 clear hb hc c1 f1 vN n10 n11 n12
 obtain⟨c2,f2,l2⟩:=af ((HB2.o.block _ lw).trans HO.o.blk)
 obtain⟨wS,hcs2⟩:=HW.o W2 (HB2.o.mono gz)
 have n20:=hcs2 0 (by simp)
 simp only[au] at n20
 have n21:=hcs2 1 (by simp)
 simp only[au] at n21
 have n22:=hcs2 2 (by simp)
 simp only[au] at n22
 clear hcs2
 go_wp2_with fail
 refine RX.gm (fun ps W'=> ¬(y<=z/\z<=100/\z<=y+9)/\ps=jW 2/\Below N w W') 16 [] none [(15,⟨fun _ v=>v=rv (y,z),fun _ _ _=>(y<=z/\z<=100/\z<=y+9)⟩)] (by rintro ps a1 Wx hdf ⟨h1,rfl,h3⟩;refine⟨hdf,vG (c:=2) h3 ?_ (by decide)⟩;have q0:=jK.o;simp only[jb,bT,bU,dw];(repeat (first|rw[aC (by omega)]|rw[ak (by omega)]))) (by as_aux_lemma=>kernel_rfl) (by as_aux_lemma=>kernel_rfl) ?_
 simp only[zt]
 repeat (refine RX.zd ?_;simp only[zp])
 refine RX.bF _ (by rfl) (by rfl) ⟨_,rfl⟩ (fun Wq hE2 hF2=>?_) (fun v Wa Wb ho hE=>ho) (fun v hv=>?_)
 ·have hE':Ext [] W2 Wq:=hE2
  refine RX.dn 260 #[iv y,iv z,iv 9] (by go_simp;try rfl) ?_
  refine(vF y z 9 Wq (by omega)).mono ?_
  rintro e w' ⟨hb,⟨hc,rfl⟩|⟨hc,rfl⟩⟩
  ·exact .inl ⟨_,rfl,rfl,hc,Ext.az hb⟩
  ·exact .inr ⟨_,rfl,hc,rfl,(bg HB2.o (bg hE'.below hb)).mono gz⟩
 obtain rfl:v=rv (y,z):=hv
 simp only[zp]
 intro W3 hE hF
 have hc:y<=z/\z<=100/\z<=y+9:=hF _ (bD _)
 have HB3:=ae (bg HB2.o (show Ext [] W2 W3 from hE).below)
 have qO:=ae hc
 clear hE hF hc c2 f2 wS n20 n21 n22
 obtain⟨c3,f3,l3⟩:=af ((HB3.o.block _ lw).trans HO.o.blk)
 obtain⟨Je,hcs3⟩:=HW.o W3 (HB3.o.mono gz)
 have n30:=hcs3 0 (by simp)
 simp only[au] at n30
 have n31:=hcs3 1 (by simp)
 simp only[au] at n31
 have n32:=hcs3 2 (by simp)
 simp only[au] at n32
 clear hcs3
 have q0:=jK.o
 have hxl:x<s.df.heaps.length:=by omega
 have hown:=(HO.o.below HB3.o).rows.own 5 _ rfl
 obtain⟨g,rfl,hcg,hfg,hgl⟩:=gU hown (by show 0<s.df.heaps.length;omega)
 obtain⟨g0,g1⟩:=IW hcg hxl
 clear hcg q0 hown
 go_wp2_with fail
 go_end0
 have q0:=jK.o
 have q1:=qO.o
 simp only[jb,bT,bU,dw]
 (repeat (first|rw[aC (by omega)]|rw[ak (by omega)]))
 simp only[Int.toNat_natCast]
 have zI:=HO.o.below HB3.o
 have hgN:N<=g:=((zI.rows.own 5 _ rfl).lt g rfl).1
 have hS:=(lu (lu (zI.rows.own 5 _ rfl) (x*2+0) (iv y)) (x*2+1) (iv z))
 simp only[MZ _ _ hxl] at hS
 exact⟨(((HB3.o.mono gz).setCell hgN _).setCell hgN _),.inl ⟨rfl,rfl,_,es,zI.over (i:=5) rfl (g:=g) rfl ((gq).trans gq) (aF (s.df.heaps.set x (y,z))) hS (by simp[iH,mP,nU,iL,fK]) rfl HO.o.es⟩⟩
theorem XL (N:Nat) (w:World) (wb:Nat) (s:jI) (V:SV) (es:List KE) (ns:Value) (x:Nat) (y:Int) (z:Int) (hO:jO N w wb s V es) (hn:ru N w ns [(x:Int),y,z]):Calls Tryz.prog 179 #[.pointer (some ⟨wb,0,none⟩),ns] w (qN N wb (jb s .zY [(x:Int),y,z]) w):=by
 obtain⟨vt,vn,vw,vu,vr,vh,vk,vs⟩:=V
 obtain⟨o,cc,rfl⟩: ∃o c,vt= .slice o s.led.field.ax.length c:=aS (n:=s.led.field.ax.length) (hO.rows.own 0 _ rfl)
 have HO:=ae hO
 have gz:=eF hO
 obtain⟨b,c,rfl,hbN,hcs⟩:=hn
 have lb:b<w.heap.size:=by omega
 have lw:=hO.rows.lt
 have vC:=hO.rows.base
 have HW:Hid (∀W,Below N w W->b<W.heap.size/\ ∀(j:Nat) (h:j<[(x:Int),y,z].length),W.cell? ⟨b,j,none⟩=some (iv [(x:Int),y,z][j])):=ae (fun W hB=>⟨by have:=hB.size;omega,fun j h=>(iY (hB.block b hbN)).trans (hcs j h)⟩)
 obtain⟨c0,f0,l0⟩:=af hO.blk
 have oD:=hcs 0 (by simp)
 simp only[au] at oD
 have n01:=hcs 1 (by simp)
 simp only[au] at n01
 have n02:=hcs 2 (by simp)
 simp only[au] at n02
 have HB0:Hid (Below w.heap.size w w):=ae (aG _ _)
 clear hO hcs
 go_enter Tryz.func179,Tryz.ntmps179
 go_wp2_with fail
 refine zg 8 [] none [] ?_
 simp only[zt]
 repeat ((first|refine zd ?_|refine zk ?_);simp only[zp])
 intro W1 hE hF
 have HB1:=ae (bg HB0.o hE.below)
 clear hE hF c0 f0 oD n01 n02
 obtain⟨c1,f1,l1⟩:=af ((HB1.o.block _ lw).trans HO.o.blk)
 obtain⟨vN,hcs1⟩:=HW.o W1 (HB1.o.mono gz)
 have n10:=hcs1 0 (by simp)
 simp only[au] at n10
 have n11:=hcs1 1 (by simp)
 simp only[au] at n11
 have n12:=hcs1 2 (by simp)
 simp only[au] at n12
 clear hcs1
 go_wp2_with fail
 refine(iZ _ _ _).mono ?_
 rintro e W2 ⟨hb,⟨hc,rfl⟩|⟨hc,rfl⟩⟩
 rotate_left
 ·simp at hc
  simp only[jb,bT,bU,dw]
  (repeat (first|rw[aC (by omega)]|rw[ak (by omega)]))
  exact⟨rfl,(bg HB1.o hb).mono gz,.inr ⟨by simp,rfl⟩⟩
 simp at hc
 have HB2:=ae (bg HB1.o hb)
 have HS2:=ae hb
 have jK:=ae hc
 clear hb hc c1 f1 vN n10 n11 n12
 obtain⟨c2,f2,l2⟩:=af ((HB2.o.block _ lw).trans HO.o.blk)
 obtain⟨wS,hcs2⟩:=HW.o W2 (HB2.o.mono gz)
 have n20:=hcs2 0 (by simp)
 simp only[au] at n20
 have n21:=hcs2 1 (by simp)
 simp only[au] at n21
 have n22:=hcs2 2 (by simp)
 simp only[au] at n22
 clear hcs2
 go_wp2_with fail
 refine RX.gm (fun ps W'=> ¬(y<=z/\z<=s.led.field.rows)/\ps=jW 2/\Below N w W') 15 [] none [(14,⟨fun _ v=>v=rv (y,z),fun _ _ _=>(y<=z/\z<=s.led.field.rows)⟩)] (by rintro ps a1 Wx hdf ⟨h1,rfl,h3⟩;refine⟨hdf,vG (c:=2) h3 ?_ (by decide)⟩;have q0:=jK.o;simp only[jb,bT,bU,dw];(repeat (first|rw[aC (by omega)]|rw[ak (by omega)]))) (by as_aux_lemma=>kernel_rfl) (by as_aux_lemma=>kernel_rfl) ?_
 simp only[zt]
 repeat (refine RX.zd ?_;simp only[zp])
 refine RX.bF _ (by rfl) (by rfl) ⟨_,rfl⟩ (fun Wq hE2 hF2=>?_) (fun v Wa Wb ho hE=>ho) (fun v hv=>?_)
 ·have hE':Ext [] W2 Wq:=hE2
  refine RX.dn 250 #[.pointer (some ⟨wb,0,none⟩),iv y,iv z] (by go_simp;try rfl) ?_
  refine(uq y z wb s _ Wq ((hE'.block _ (gy lw HB2.o.size) (by simp)).trans ((HB2.o.block _ lw).trans HO.o.blk))).mono ?_
  rintro e w' ⟨hb,⟨hc,rfl⟩|⟨hc,rfl⟩⟩
  ·exact .inl ⟨_,rfl,rfl,hc,Ext.az hb⟩
  ·exact .inr ⟨_,rfl,hc,rfl,(bg HB2.o (bg hE'.below hb)).mono gz⟩
 obtain rfl:v=rv (y,z):=hv
 simp only[zp]
 intro W3 hE hF
 have hc:y<=z/\z<=s.led.field.rows:=hF _ (bD _)
 have HB3:=ae (bg HB2.o (show Ext [] W2 W3 from hE).below)
 have qO:=ae hc
 clear hE hF hc c2 f2 wS n20 n21 n22
 obtain⟨c3,f3,l3⟩:=af ((HB3.o.block _ lw).trans HO.o.blk)
 obtain⟨Je,hcs3⟩:=HW.o W3 (HB3.o.mono gz)
 have n30:=hcs3 0 (by simp)
 simp only[au] at n30
 have n31:=hcs3 1 (by simp)
 simp only[au] at n31
 have n32:=hcs3 2 (by simp)
 simp only[au] at n32
 clear hcs3
 have q0:=jK.o
 have hxl:x<s.led.field.ax.length:=by omega
 have hown:=(HO.o.below HB3.o).rows.own 0 _ rfl
 obtain⟨g,rfl,hcg,hfg,hgl⟩:=gU hown (by show 0<s.led.field.ax.length;omega)
 obtain⟨g0,g1⟩:=XR hcg hxl
 clear hcg q0 hown
 go_wp2_with fail
 go_end0
 have q0:=jK.o
 have q1:=qO.o
 simp only[jb,bT,bU,dw]
 (repeat (first|rw[aC (by omega)]|rw[ak (by omega)]))
 simp only[Int.toNat_natCast,ik,dG hxl,Option.getD_some]
 have zI:=HO.o.below HB3.o
 have hgN:N<=g:=((zI.rows.own 0 _ rfl).lt g rfl).1
 have hS:=(lu (lu (zI.rows.own 0 _ rfl) (x*5+3) (iv y)) (x*5+4) (iv z))
 simp only[aaP _ _ hxl] at hS
 exact⟨(((HB3.o.mono gz).setCell hgN _).setCell hgN _),.inl ⟨rfl,rfl,_,es,zI.over (i:=0) rfl (g:=g) rfl ((gq).trans gq) (dJ (s.led.field.ax.set x (s.led.field.ax[x].1,s.led.field.ax[x].2.1,s.led.field.ax[x].2.2.1,(y,z)))) hS (by simp[iH,mP,nU,iL,fK]) rfl HO.o.es⟩⟩
theorem VU (x:Int) (w:World):Calls Tryz.prog 261 #[iv x] w (fun e w'=>e= .returned (.bool (decide (0<x)))/\w'=w):=by
 go_enter Tryz.func261,Tryz.ntmps261
 go_wp2
 go_returns
 exact⟨by simp,rfl⟩
theorem SH (l:List Int) (v:Value) (w:World) (hv:aN w v l):Calls Tryz.prog 138 #[v,.func (.func 261) #[] #[]] w (PV (.bool (l.any fun x=>decide (0<x))) w):=by
 refine(Ov l v 261 #[] #[] (fun k=>decide (0<l.getD k 0)) (fun _ W=>Below w.heap.size w W) w (enters_of Tryz.func261 (by kernel_rfl) rfl) (fun k W h=>hv.below h (ai _)) (fun k hk W _ h=>?_) (aG _ _)).mono ?_
 ·refine(VU l[k] W).mono ?_
  rintro e W' ⟨rfl,rfl⟩
  exact⟨by simp[hk],h⟩
 ·rintro e W' ⟨k,hk,hno,⟨hlt,hp,rfl,hI⟩|⟨hkl,rfl,hI⟩⟩
  ·refine⟨?_,hI⟩
   have:(l.any fun x=>decide (0<x))=true:=List.any_eq_true.2 ⟨l[k],bY _,by simpa [hlt] using hp⟩
   rw[this]
  ·refine⟨?_,hI⟩
   have:(l.any fun x=>decide (0<x))=false:=by
    rw[List.any_eq_false]
    intro x hx
    obtain⟨j,hj,rfl⟩:=lV hx
    have:=hno j (by omega)
    simpa [hj] using this
   rw[this]
theorem yx (s:jI) (V:SV) (es:List KE) {x:Nat} {e:KE} (h:es[x]? =some e):(iH s V es)[8+x]? =some (yM e):=by
 unfold iH
 rw[nT (by simp)]
 simp[h]
theorem Hr (s s':jI) (V:SV) (es:List KE) {x:Nat} {e:KE} (h:x<es.length) (hk:(e.1=(es[x]).1)) (hs:iH s' V es=iH s V es):iH s' V (es.set x e)=(iH s V es).set (8+x) (yM e):=by
 have h1:iH s' V (es.set x e)=(iH s' V es).set (8+x) (yM e):=by
  unfold iH
  have hkc:eQ (es.set x e)=eQ es:=by
   unfold eQ
   rw[List.map_set,hk]
   apply List.ext_getElem
   ·simp
   ·intro j h1 h2
    rw[List.getElem_set]
    split
    ·rename_i hj;subst hj;simp
    ·rfl
  rw[hkc,List.map_set,pY,qh _ _ (by simp)]
  simp
 rw[h1,hs]
theorem ZB (N:Nat) (w:World) (wb:Nat) (s:jI) (V:SV) (es:List KE) (ns:Value) (x:Nat) (y:Nat) (z:Int) (hO:jO N w wb s V es) (hn:ru N w ns [(x:Int),(y:Int),z]) (hG:Good s):Calls Tryz.prog 194 #[.pointer (some ⟨wb,0,none⟩),ns] w (qN N wb (jb s .fill [(x:Int),(y:Int),z]) w):=by
 obtain⟨vt,vn,vw,vu,vr,vh,vk,vs⟩:=V
 obtain⟨ok,ck,rfl⟩: ∃o c,vk= .slice o es.length c:=aS (n:=es.length) (hO.rows.own 6 _ rfl)
 obtain⟨oh,ch,rfl⟩: ∃o c,vh= .slice o s.df.heaps.length c:=aS (n:=s.df.heaps.length) (hO.rows.own 5 _ rfl)
 have HO:=ae hO
 have gz:=eF hO
 obtain⟨b,c,rfl,hbN,hcs⟩:=hn
 have lb:b<w.heap.size:=by omega
 have lw:=hO.rows.lt
 have vC:=hO.rows.base
 have HW:Hid (∀W,Below N w W->b<W.heap.size/\ ∀(j:Nat) (h:j<[(x:Int),(y:Int),z].length),W.cell? ⟨b,j,none⟩=some (iv [(x:Int),(y:Int),z][j])):=ae (fun W hB=>⟨by have:=hB.size;omega,fun j h=>(iY (hB.block b hbN)).trans (hcs j h)⟩)
 obtain⟨c0,f0,l0⟩:=af hO.blk
 have oD:=hcs 0 (by simp)
 simp only[au] at oD
 have n01:=hcs 1 (by simp)
 simp only[au] at n01
 have n02:=hcs 2 (by simp)
 simp only[au] at n02
 have HB0:Hid (Below w.heap.size w w):=ae (aG _ _)
 have hes:es.length=s.df.aU.length:=by rw[<-hO.es];simp
 have HCK:=ae (show ∀(j:Nat) (e:KE),es[j]? =some e->s.df.aU[j]? =some e.2/\e.2.length=s.df.heaps.length from fun j e h=>by have h1:s.df.aU[j]? =some e.2:=(by rw[<-hO.es];simp[h]);exact⟨h1,(hG.pI _ (mO h1)).1⟩)
 have jK:=ae hes
 clear hes
 clear hO hcs hG
 go_enter Tryz.func194,Tryz.ntmps194
 go_wp2_with fail
 refine zg 8 [] none [] ?_
 simp only[zt]
 repeat ((first|refine zd ?_|refine zk ?_);simp only[zp])
 intro W1 hE hF
 have HB1:=ae (bg HB0.o hE.below)
 clear hE hF c0 f0 oD n01 n02
 obtain⟨c1,f1,l1⟩:=af ((HB1.o.block _ lw).trans HO.o.blk)
 obtain⟨vN,hcs1⟩:=HW.o W1 (HB1.o.mono gz)
 have n10:=hcs1 0 (by simp)
 simp only[au] at n10
 have n11:=hcs1 1 (by simp)
 simp only[au] at n11
 have n12:=hcs1 2 (by simp)
 simp only[au] at n12
 clear hcs1
 go_wp2_with fail
 refine(iZ _ _ _).mono ?_
 rintro e W2 ⟨hb,⟨hc,rfl⟩|⟨hc,rfl⟩⟩
 rotate_left
 ·simp at hc
  have q0:=jK.o
  simp only[jb,bT,bU,dw]
  (repeat (first|rw[aC (by omega)]|rw[ak (by omega)]))
  exact⟨rfl,(bg HB1.o hb).mono gz,.inr ⟨by simp,rfl⟩⟩
 simp at hc
 have HB2:=ae (bg HB1.o hb)
 have HS2:=ae hb
 have qO:=ae hc
 clear hb hc c1 f1 vN n10 n11 n12
 obtain⟨c2,f2,l2⟩:=af ((HB2.o.block _ lw).trans HO.o.blk)
 obtain⟨wS,hcs2⟩:=HW.o W2 (HB2.o.mono gz)
 have n20:=hcs2 0 (by simp)
 simp only[au] at n20
 have n21:=hcs2 1 (by simp)
 simp only[au] at n21
 have n22:=hcs2 2 (by simp)
 simp only[au] at n22
 clear hcs2
 go_wp2_with fail
 refine zg 8 [] none [] ?_
 simp only[zt]
 repeat ((first|refine zd ?_|refine zk ?_);simp only[zp])
 intro W3 hE hF
 have HB3:=ae (bg HB2.o hE.below)
 clear hE hF c2 f2 wS n20 n21 n22
 obtain⟨c3,f3,l3⟩:=af ((HB3.o.block _ lw).trans HO.o.blk)
 obtain⟨Je,hcs3⟩:=HW.o W3 (HB3.o.mono gz)
 have n30:=hcs3 0 (by simp)
 simp only[au] at n30
 have n31:=hcs3 1 (by simp)
 simp only[au] at n31
 have n32:=hcs3 2 (by simp)
 simp only[au] at n32
 clear hcs3
 go_wp2_with fail
 refine(iZ _ _ _).mono ?_
 rintro e W4 ⟨hb,⟨hc,rfl⟩|⟨hc,rfl⟩⟩
 rotate_left
 ·simp at hc
  have q0:=jK.o
  have q1:=qO.o
  simp only[jb,bT,bU,dw]
  (repeat (first|rw[aC (by omega)]|rw[ak (by omega)]))
  exact⟨rfl,(bg HB3.o hb).mono gz,.inr ⟨by simp,rfl⟩⟩
 simp at hc
 have HB4:=ae (bg HB3.o hb)
 have Uu:=ae hb
 have wK:=ae hc
 clear hb hc c3 f3 Je n30 n31 n32
 obtain⟨c4,f4,l4⟩:=af ((HB4.o.block _ lw).trans HO.o.blk)
 obtain⟨Py,jV⟩:=HW.o W4 (HB4.o.mono gz)
 have n40:=jV 0 (by simp)
 simp only[au] at n40
 have n41:=jV 1 (by simp)
 simp only[au] at n41
 have n42:=jV 2 (by simp)
 simp only[au] at n42
 clear jV
 go_wp2_with fail
 refine(dV 2 [decide (30<z)] W4 (by simp) _ (by simp[dE]) _ _ rfl).mono ?_
 rintro e W5 ⟨hb,⟨hc,rfl⟩|⟨hc,rfl⟩⟩
 rotate_left
 ·simp at hc
  have q0:=jK.o
  have q1:=qO.o
  have q2:=wK.o
  simp only[jb,bT,bU,dw]
  (repeat (first|rw[aC (by omega)]|rw[ak (by omega)]))
  exact⟨rfl,(bg HB4.o hb).mono gz,.inr ⟨by simp,rfl⟩⟩
 simp at hc
 have pz:=ae (bg HB4.o hb)
 have HS5:=ae hb
 have Ha:=ae hc
 clear hb hc c4 f4 Py n40 n41 n42
 obtain⟨c5,f5,l5⟩:=af ((pz.o.block _ lw).trans HO.o.blk)
 obtain⟨lb5,tV⟩:=HW.o W5 (pz.o.mono gz)
 have n50:=tV 0 (by simp)
 simp only[au] at n50
 have n51:=tV 1 (by simp)
 simp only[au] at n51
 have n52:=tV 2 (by simp)
 simp only[au] at n52
 clear tV
 go_wp2_with fail
 have q0:=jK.o
 have q1:=qO.o
 have q2:=wK.o
 have q3:=Ha.o
 have hxl:x<es.length:=by omega
 have hyl:y<s.df.heaps.length:=by omega
 clear q0 q1 q2 q3
 obtain⟨ev,el,hel⟩: ∃ev el,es[x]? =some (ev,el):=⟨_,_,dG hxl⟩
 obtain⟨hcx,hlx⟩:s.df.aU[x]? =some el/\el.length=s.df.heaps.length:=HCK.o x _ hel
 have hrow: ∀s' V',(iH s' V' es)[8+x]? =some (yM (ev,el)):=fun s' V'=>yx s' V' es hel
 obtain⟨oe,ce,rfl⟩: ∃o c,ev= .slice o el.length c:=aS (n:=el.length) ((HO.o.below pz.o).rows.own _ _ (hrow _ _))
 obtain⟨gk,rfl,hgk,hfk,hkl⟩:=gU ((HO.o.below pz.o).rows.own 6 _ rfl) (by show 0<es.length;omega)
 have hgx:(eQ es)[x]? =some (.slice oe el.length ce):=by simp[eQ,hel]
 obtain⟨hg',eg'⟩:=jg.1 hgx
 have g6:=(hgk x hg').trans (by rw[eg'])
 clear hgx hg' eg'
 have Uy:=ae (ag hel (ag hcx (ag hlx hrow)))
 clear hgk hel hcx hlx hrow
 obtain⟨gk0,agv⟩: ∃gk0,gk0=gk:=⟨_,rfl⟩
 have HGK:=ae agv
 clear agv
 refine zg 15 [] none [] ?_
 simp only[zt]
 repeat ((first|refine zd ?_|refine zk ?_);simp only[zp])
 intro W6 hE hF
 have qo:=ae (bg pz.o hE.below)
 clear hE hF c5 f5 lb5 n50 n51 n52 g6
 obtain⟨c6,f6,l6⟩:=af ((qo.o.block _ lw).trans HO.o.blk)
 obtain⟨lb6,tN⟩:=HW.o W6 (qo.o.mono gz)
 have n60:=tN 0 (by simp)
 simp only[au] at n60
 have n61:=tN 1 (by simp)
 simp only[au] at n61
 have n62:=tN 2 (by simp)
 simp only[au] at n62
 clear tN
 obtain⟨g,rfl,hcg,hfg,hgl⟩:=gU ((HO.o.below qo.o).rows.own _ _ (Uy.o.2.2.2 _ _)) (by show 0<el.length;have:=Uy.o.2.2.1;omega)
 have adu:y<el.length:=by have:=Uy.o.2.2.1;omega
 have g0:=hcg y (by simpa [yM,ah] using adu)
 simp only[yM,ah,List.getElem_map] at g0
 have HY:=ae (ag hyl (ag hxl adu))
 clear hcg hyl hxl
 go_wp2_with fail
 refine dQ fun W7 pR=>?_
 have zI:=HO.o.below qo.o
 have hgN:N<=g:=((zI.rows.own _ _ (Uy.o.2.2.2 _ _)).lt g rfl).1
 have hS:=lu (zI.rows.own _ _ (Uy.o.2.2.2 _ _)) y (iv z)
 have hO2:jO N W7 wb (fK s {s.df with aU:=s.df.aU.set x (el.set y z)}) ⟨vt,vn,vw,vu,vr,.slice oh s.df.heaps.length ch,.slice (some ⟨gk,0,none⟩) es.length ck,vs⟩ (es.set x (.slice (some ⟨g,0,none⟩) el.length ce,el.set y z)):=by
  rw[pR]
  refine zI.over (i:=8+x) (Uy.o.2.2.2 _ _) (g:=g) rfl gq (ah (el.set y z)) ?_ ?_ rfl ?_
  ·simpa [yM,ah,List.map_set] using hS
  ·refine(Hr s _ _ es HY.o.2.1 (by have:=(jg.1 Uy.o.1).2;rw[this]) rfl).trans ?_
   simp[yM]
  ·show _=s.df.aU.set x (el.set y z)
   rw[List.map_set,HO.o.es]
 have yZ:=ae (show Below N w W7 from by rw[pR];exact(qo.o.mono gz).setCell hgN _)
 have zV:=ae hO2
 clear pR zI hgN hS hO2 adu hfg hgl g0 c6 f6 lb6 n60 n61 n62
 obtain⟨c7,f7,l7⟩:=af zV.o.blk
 obtain⟨lb7,tK⟩:=HW.o W7 yZ.o
 have n70:=tK 0 (by simp)
 simp only[au] at n70
 have n71:=tK 1 (by simp)
 simp only[au] at n71
 have n72:=tK 2 (by simp)
 simp only[au] at n72
 obtain⟨gk2,ajA,hgk,ajE,hkl2⟩:=gU (zV.o.rows.own 6 _ rfl) (by show 0<(es.set x _).length;rw[pY];have:=HY.o.2.1;omega)
 cases ajA
 have hgx:(eQ (es.set x (.slice (some ⟨g,0,none⟩) el.length ce,el.set y z)))[x]? =some (.slice (some ⟨g,0,none⟩) el.length ce):=by simp[eQ,HY.o.2.1]
 obtain⟨hg',eg'⟩:=jg.1 hgx
 have g6:=(hgk x hg').trans (by rw[eg'])
 have hxl:=HY.o.2.1
 clear hgx hg' eg' hgk tK
 refine zg 9 [] none [] ?_
 simp only[zt]
 repeat ((first|refine zd ?_|refine zk ?_);simp only[zp])
 intro W8 hE hF
 have hOw:=(zV.o.below (Ext.below hE))
 have hIx:aN W8 (.slice (some ⟨g,0,none⟩) el.length ce) (el.set y z):=by
  have h:=hOw.rows.own (8+x) _ (yx _ _ _ (by rw[List.getElem?_set_self HY.o.2.1]))
  have h2:=aP.dR h
  exact h2
 have pF:=ae (yZ.o.trans ((Ext.below hE).mono (eF zV.o)))
 have HOw:=ae hOw
 have HAP:=ae (SH _ _ _ hIx)
 clear hE hF hOw hIx c7 f7 lb7 g6 ajE n70 n71 n72
 go_wp2_with fail
 refine HAP.o.mono ?_
 rintro e W9 ⟨rfl,hb⟩
 have HS:=ae hb
 obtain⟨q,hq⟩: ∃q,((el.set y z).any fun x=>decide (0<x))=q:=⟨_,rfl⟩
 rw[hq]
 have Uw:=ae hq
 clear hb hq HAP
 go_wp2_with fail
 refine(dV 8 [!q] W9 (by simp) _ (by simp[dE]) _ _ rfl).mono ?_
 rintro e SN ⟨hb,⟨hc,rfl⟩|⟨hc,rfl⟩⟩
 ·obtain rfl:q=true:=by cases q <;>simp_all
  go_wp2_with fail
  go_end0
  have q0:=jK.o
  have q1:=qO.o
  have q2:=wK.o
  have q3:=Ha.o
  simp only[jb,dw,Int.toNat_natCast];simp only[ik,Uy.o.2.1,Option.getD_some,Uw.o]
  rw[ak (by omega),ak (by omega),ak (by omega),ak (by simp)]
  exact⟨pF.o.trans ((bg HS.o hb).mono (eF HOw.o)),.inl ⟨rfl,rfl,_,_,HOw.o.below (bg HS.o hb)⟩⟩
 ·obtain rfl:q=false:=by cases q <;>simp_all
  have q0:=jK.o
  have q1:=qO.o
  have q2:=wK.o
  have q3:=Ha.o
  simp only[jb,dw,Int.toNat_natCast];simp only[ik,Uy.o.2.1,Option.getD_some,Uw.o]
  rw[ak (by omega),ak (by omega),ak (by omega),aC (by simp)]
  exact⟨rfl,pF.o.trans ((bg HS.o hb).mono (eF HOw.o)),.inr ⟨by simp,rfl⟩⟩
theorem ZU (N:Nat) (w:World) (wb:Nat) (s:jI) (V:SV) (es:List KE) (ns:Value) (x:Nat) (y:Int) (hO:jO N w wb s V es) (hn:ru N w ns [(x:Int),y]) (hG:Good s):Calls Tryz.prog 193 #[.pointer (some ⟨wb,0,none⟩),ns] w (qN N wb (jb s .pI [(x:Int),y]) w):=by
 obtain⟨vt,vn,vw,vu,vr,vh,vk,vs⟩:=V
 obtain⟨oh,ch,rfl⟩: ∃o c,vh= .slice o s.df.heaps.length c:=aS (n:=s.df.heaps.length) (hO.rows.own 5 _ rfl)
 obtain⟨ok,ck,rfl⟩: ∃o c,vk= .slice o es.length c:=aS (n:=es.length) (hO.rows.own 6 _ rfl)
 have HO:=ae hO
 have gz:=eF hO
 obtain⟨b,c,rfl,hbN,hcs⟩:=hn
 have lb:b<w.heap.size:=by omega
 have lw:=hO.rows.lt
 have vC:=hO.rows.base
 have HW:Hid (∀W,Below N w W->b<W.heap.size/\ ∀(j:Nat) (h:j<[(x:Int),y].length),W.cell? ⟨b,j,none⟩=some (iv [(x:Int),y][j])):=ae (fun W hB=>⟨by have:=hB.size;omega,fun j h=>(iY (hB.block b hbN)).trans (hcs j h)⟩)
 obtain⟨c0,f0,l0⟩:=af hO.blk
 have oD:=hcs 0 (by simp)
 simp only[au] at oD
 have n01:=hcs 1 (by simp)
 simp only[au] at n01
 have HB0:Hid (Below w.heap.size w w):=ae (aG _ _)
 have hes:es.length=s.df.aU.length:=by rw[<-hO.es];simp
 have jK:=ae hes
 clear hes
 have VI:=hG.SB
 have ajJ:=hG.aU
 have hmk:=uT s.df.heaps.length (by omega)
 clear hO hcs hG
 go_enter Tryz.func193,Tryz.ntmps193
 go_wp2_with fail
 refine zg 8 [] none [] ?_
 simp only[zt]
 repeat ((first|refine zd ?_|refine zk ?_);simp only[zp])
 intro W1 hE hF
 have HB1:=ae (bg HB0.o hE.below)
 have LC:=ae (Ext.below hE)
 clear hE hF c0 f0 oD n01
 obtain⟨c1,f1,l1⟩:=af ((HB1.o.block _ lw).trans HO.o.blk)
 obtain⟨vN,hcs1⟩:=HW.o W1 (HB1.o.mono gz)
 have n10:=hcs1 0 (by simp)
 simp only[au] at n10
 have n11:=hcs1 1 (by simp)
 simp only[au] at n11
 clear hcs1
 go_wp2_with fail
 refine(iZ _ _ _).mono ?_
 rintro e W2 ⟨hb,⟨hc,rfl⟩|⟨hc,rfl⟩⟩
 rotate_left
 ·simp at hc
  have q0:=jK.o
  simp only[jb,bT,bU,dw]
  (repeat (first|rw[aC (by omega)]|rw[ak (by omega)]))
  exact⟨rfl,(bg HB1.o hb).mono gz,.inr ⟨by simp,rfl⟩⟩
 simp at hc
 have HB2:=ae (bg HB1.o hb)
 have HS2:=ae hb
 have qO:=ae hc
 clear hb hc c1 f1 vN n10 n11
 obtain⟨c2,f2,l2⟩:=af ((HB2.o.block _ lw).trans HO.o.blk)
 obtain⟨wS,hcs2⟩:=HW.o W2 (HB2.o.mono gz)
 have n20:=hcs2 0 (by simp)
 simp only[au] at n20
 have n21:=hcs2 1 (by simp)
 simp only[au] at n21
 clear hcs2
 go_wp2_with fail
 refine zg 8 [] none [] ?_
 simp only[zt]
 repeat ((first|refine zd ?_|refine zk ?_);simp only[zp])
 intro W3 hE hF
 have HB3:=ae (bg HB2.o hE.below)
 have HS3:=ae (Ext.below hE)
 clear hE hF c2 f2 wS n20 n21
 obtain⟨c3,f3,l3⟩:=af ((HB3.o.block _ lw).trans HO.o.blk)
 obtain⟨Je,hcs3⟩:=HW.o W3 (HB3.o.mono gz)
 have n30:=hcs3 0 (by simp)
 simp only[au] at n30
 have n31:=hcs3 1 (by simp)
 simp only[au] at n31
 clear hcs3
 go_wp2_with fail
 refine(dV 2 [y==0,decide (30<y)] W3 (by simp) _ (by simp[dE]) _ _ rfl).mono ?_
 rintro e W4 ⟨hb,⟨hc,rfl⟩|⟨hc,rfl⟩⟩
 rotate_left
 ·simp at hc
  have q0:=jK.o
  have q1:=qO.o
  simp only[jb,bT,bU,dw]
  (repeat (first|rw[aC (by omega)]|rw[ak (by omega)]))
  exact⟨rfl,(bg HB3.o hb).mono gz,.inr ⟨by simp,rfl⟩⟩
 simp at hc
 have HB4:=ae (bg HB3.o hb)
 have Uu:=ae hb
 have wK:=ae hc
 clear hb hc c3 f3 Je n30 n31
 obtain⟨c4,f4,l4⟩:=af ((HB4.o.block _ lw).trans HO.o.blk)
 obtain⟨Py,jV⟩:=HW.o W4 (HB4.o.mono gz)
 have n40:=jV 0 (by simp)
 simp only[au] at n40
 have n41:=jV 1 (by simp)
 simp only[au] at n41
 clear jV
 go_wp2_with fail
 refine(qx _ _ _).mono ?_
 rintro e W5 ⟨hb,⟨hc,rfl⟩|⟨hc,rfl⟩⟩
 rotate_left
 ·simp at hc
  have q0:=jK.o
  have q1:=qO.o
  have q2:=wK.o
  simp only[jb,bT,bU,dw]
  (repeat (first|rw[aC (by omega)]|rw[ak (by omega)]))
  exact⟨rfl,(bg HB4.o hb).mono gz,.inr ⟨by simp,rfl⟩⟩
 simp at hc
 have pz:=ae (bg HB4.o hb)
 have HS5:=ae hb
 have Ha:=ae hc
 clear hb hc c4 f4 Py n40 n41
 obtain⟨c5,f5,l5⟩:=af ((pz.o.block _ lw).trans HO.o.blk)
 obtain⟨lb5,tV⟩:=HW.o W5 (pz.o.mono gz)
 have n50:=tV 0 (by simp)
 simp only[au] at n50
 have n51:=tV 1 (by simp)
 simp only[au] at n51
 clear tV
 go_wp2_with fail
 refine dQ fun W6 pR=>?_
 obtain⟨b9,vP⟩: ∃b9,b9=W5.heap.size:=⟨_,rfl⟩
 have hHk:W6.heap[b9]? =some (.cells (ah (List.replicate s.df.heaps.length 0)).toArray 3 (0,0)):=by rw[pR,vP];exact ay _ _
 have qo:=ae (show Below w.heap.size w W6 from by rw[pR];exact aj pz.o _)
 have Uf:Ext [] W5 W6:=by rw[pR];exact Ext.az (aj (aG _ _) _)
 have H9:=ae (ag hHk (ag Uf vP))
 rw[<-vP]
 clear pR hHk Uf vP hmk c5 f5 lb5 n50 n51
 obtain⟨c6,f6,l6⟩:=af ((qo.o.block _ lw).trans HO.o.blk)
 obtain⟨lb6,tN⟩:=HW.o W6 (qo.o.mono gz)
 have n60:=tN 0 (by simp)
 simp only[au] at n60
 have n61:=tN 1 (by simp)
 simp only[au] at n61
 clear tN
 have YL:b9<W6.heap.size:=(aT.1 H9.o.1).1
 refine zg 7 [] none [] ?_
 simp only[zt]
 repeat ((first|refine zd ?_|refine zk ?_);simp only[zp])
 intro W7 hE hF
 have yZ:=ae (bg qo.o hE.below)
 have HS7:=ae (Ext.below hE)
 clear hE hF c6 f6 lb6 n60 n61
 obtain⟨c7,f7,l7⟩:=af ((yZ.o.block _ lw).trans HO.o.blk)
 obtain⟨lb7,tK⟩:=HW.o W7 (yZ.o.mono gz)
 have n70:=tK 0 (by simp)
 simp only[au] at n70
 have n71:=tK 1 (by simp)
 simp only[au] at n71
 clear tK
 have q0:=jK.o
 have q1:=qO.o
 have hxl:x<s.df.heaps.length:=by omega
 have hk9:=(HS7.o.block _ YL).trans H9.o.1
 obtain⟨k9,p9,r9⟩:=af hk9
 have g0:W7.cell? ⟨b9,x,none⟩=some (iv 0):=(k9 x).trans (by simp[ah,hxl])
 have H7:=ae hk9
 clear k9 hk9
 go_upto_region 6 with(fail)
 refine dQ fun W8 pR=>?_
 have vP:W5.heap.size<=b9:=by have:=H9.o.2.2;omega
 have hH8:W8.heap[b9]? =some (.cells ((ah (List.replicate s.df.heaps.length 0)).toArray.setIfInBounds x (iv y)) 3 (0,0)):=by rw[pR];exact aI H7.o _
 have ad6:Below W5.heap.size W5 W8:=by rw[pR];exact(bg H9.o.2.1.below HS7.o).setCell vP _
 have pF:=ae (bg pz.o ad6)
 have hown:W8.ownsRow N 3 1 (.slice (some ⟨b9,0,none⟩) s.df.heaps.length s.df.heaps.length) ((List.replicate s.df.heaps.length (0:Int)).set x y).length (ah ((List.replicate s.df.heaps.length 0).set x y)):=by
  rw[pY,List.length_replicate]
  have h9:=pz.o.size
  refine iI (cs:=(ah ((List.replicate s.df.heaps.length 0).set x y)).toArray) (n:=s.df.heaps.length) ?_ (by simp[ah]) (by omega) (by simp only[maxLen];omega)
  rw[hH8,sW]
  simp only[ah,List.map_set]
 have hR8:=(HO.o.below pz.o).rows.push (yM (.slice (some ⟨b9,0,none⟩) s.df.heaps.length s.df.heaps.length,(List.replicate s.df.heaps.length 0).set x y)) (Ms:=[]) (Ext.az ad6) (by simp) hown (.inr ⟨b9,rfl,vP⟩)
 have HR8:=ae hR8
 obtain⟨c8,f8,l8⟩:=af ((pF.o.block _ lw).trans HO.o.blk)
 have HX:=ae hxl
 clear pR vP hH8 ad6 hown hR8 g0 hxl q0 q1 p9 r9 ajJ VI c7 f7 lb7 n70 n71
 have hq4:=Ha.o
 have h8s:=pF.o.size
 go_wp2_with (at_builtin;go_loud (refine dZ rfl _ _ afk rfl N (.slice ok es.length ck) es.length (eQ es) rfl (aB (Ms:=[]) (HR8.o.own 6 _ rfl) (Ext.az (aj (aG _ _) _)) (by simp)) (.slice (some ⟨W8.heap.size,0,none⟩) 1 1) 1 [.slice (some ⟨b9,0,none⟩) s.df.heaps.length s.df.heaps.length] rfl (aP.cZ 1 1 (ay _ _) rfl (by decide)) (by simp[Value.oneCell']) (by omega) (by omega) (by simp;omega) ?_))
 intro v' w3 hown hgr hN
 obtain⟨o3,c3,rfl⟩:=aS hown
 have hbl:=(hgr.block wb (by simp;omega) (fun e=>HR8.o.off 6 _ rfl e.symm)).trans ((heap_alloc_old W8 _ l8).trans ((pF.o.block _ lw).trans HO.o.blk))
 obtain⟨k3,p3,r3⟩:=af hbl
 have vS:Ext (Value.slice ok es.length ck).ownBlock.toList W8 w3:=⟨hgr.os,hgr.tape,hgr.output,by have:=hgr.size;simp at this;omega,fun k hk hm=>(hgr.block k (by simp;omega) (fun e=>hm (dD.2 e.symm))).trans (heap_alloc_old W8 _ hk)⟩
 have HE3:=ae (ag vS (ag hown (ag hbl hN)))
 clear vS hown hgr hbl hN c8 f8
 go_wp2_with fail
 go_end0
 have q0:=jK.o
 have q1:=qO.o
 have q2:=wK.o
 have q3:=Ha.o
 simp only[jb,bT,bU,dw]
 (repeat (first|rw[aC (by omega)]|rw[ak (by omega)]))
 simp only[Int.toNat_natCast]
 have hm1: ∀k,k∈(Value.slice ok es.length ck).ownBlock.toList->N<=k/\k<W8.heap.size:=fun k hk=>(HR8.o.own 6 _ rfl).lt k (dD.1 hk)
 have hR:=HR8.o.put (i:=6) rfl ⟨36,1,.slice o3 (es.length+1) c3,es.length+1,eQ es++[.slice (some ⟨b9,0,none⟩) s.df.heaps.length s.df.heaps.length]⟩ HE3.o.1 (fun m hm=> .inr (.inr (dD.1 hm))) HE3.o.2.1 (HE3.o.2.2.2.imp id (fun e=> .inr ⟨_,e,by simp⟩))
 have hB3:Below N W8 w3:=⟨HE3.o.1.os,HE3.o.1.tape,HE3.o.1.output,HE3.o.1.size,fun k hk=>HE3.o.1.block k (by omega) (fun hm=>by have:=(hm1 k hm).1;omega)⟩
 refine⟨((pF.o.mono gz).trans hB3).setCell vC _,.inl ⟨rfl,rfl,⟨vt,vn,vw,vu,vr,.slice oh s.df.heaps.length ch,.slice o3 (es.length+1) c3,vs⟩,es++[(.slice (some ⟨b9,0,none⟩) s.df.heaps.length s.df.heaps.length,(List.replicate s.df.heaps.length 0).set x y)],⟨aI HE3.o.2.2.1 _,?_,?_⟩⟩⟩
 ·have:=hR.keep (gq (W:=w3) (b:=wb) (off:=20) (v:= .slice o3 (es.length+1) c3)) (fun m hm=> .inl (by simpa using hm))
  simpa [iH,fK,eQ] using this
 ·simp[fK,HO.o.es]
theorem EW (s s':jI) (V:SV) (es:List KE) {x:Nat} {e:KE} (h:x<es.length) (hs:iH s' V es=iH s V es):
 iH s' V (es.set x e)=((iH s V es).set (8+x) (yM e)).set 6 ⟨36,1,V.cks,es.length,(eQ es).set x e.1⟩:=by
 rw[<-hs]
 unfold iH
 rw[qh _ _ (by simp),List.set_append_left _ _ (by simp)]
 simp[eQ,List.map_set,pY]
def su (s:jI) (h:dP) (i:Nat):jI:=fK s {s.df with heaps:=s.df.heaps++[h],aU:=(s.df.aU.take i).map (· ++[0])++s.df.aU.drop i}
theorem QG (s:jI) (h:dP):su s h 0=fK s {s.df with heaps:=s.df.heaps++[h]}:=by simp[su]
theorem Vd (s:jI) (h:dP) (n:Nat) (hn:s.df.aU.length<=n):su s h n=fK s {s.df with heaps:=s.df.heaps++[h],aU:=s.df.aU.map (· ++[0])}:=by
 simp[su,kC hn,List.drop_of_length_le hn]
theorem Vb (s:jI) (h:dP) (i:Nat) (hi:i<s.df.aU.length):(su s h i).df.aU[i]? =some s.df.aU[i]:=by
 simp only[su,fK]
 rw[nT (by simp;omega)]
 simp[hi,Nat.min_eq_left (mM hi)]
theorem QH (s:jI) (h:dP) (i:Nat) (hi:i<s.df.aU.length):(su s h i).df.aU.set i (s.df.aU[i]++[0])=(su s h (i+1)).df.aU:=by
 simp only[su,fK]
 rw[qh _ _ (by simp;omega)]
 simp only[lU,gK,Nat.min_eq_left (mM hi),Nat.sub_self]
 rw[zQ hi,List.set_cons_zero,qK,List.map_append]
 simp[hi]
theorem Zm (N:Nat) (w:World) (wb:Nat) (s:jI) (V:SV) (es:List KE) (ns:Value) (x:Int) (y:Int) (hO:jO N w wb s V es) (hn:ru N w ns [x,y]) (hG:Good s) (hx:0<=x/\x<=9999):Calls Tryz.prog 191 #[.pointer (some ⟨wb,0,none⟩),ns] w (qN N wb (jb s .heap [x,y]) w):=by
 obtain⟨vt,vn,vw,vu,vr,vh,vk,vs⟩:=V
 obtain⟨o,cc,rfl⟩: ∃o c,vh= .slice o s.df.heaps.length c:=aS (n:=s.df.heaps.length) (hO.rows.own 5 _ rfl)
 obtain⟨ok,ck,rfl⟩: ∃o c,vk= .slice o es.length c:=aS (n:=es.length) (hO.rows.own 6 _ rfl)
 have HO:=ae hO
 have gz:=eF hO
 obtain⟨b,c,rfl,hbN,hcs⟩:=hn
 have lb:b<w.heap.size:=by omega
 have lw:=hO.rows.lt
 have vC:=hO.rows.base
 have HW:Hid (∀W,Below N w W->b<W.heap.size/\ ∀(j:Nat) (h:j<[x,y].length),W.cell? ⟨b,j,none⟩=some (iv [x,y][j])):=ae (fun W hB=>⟨by have:=hB.size;omega,fun j h=>(iY (hB.block b hbN)).trans (hcs j h)⟩)
 obtain⟨c0,f0,l0⟩:=af hO.blk
 have oD:=hcs 0 (by simp)
 simp only[au] at oD
 have n01:=hcs 1 (by simp)
 simp only[au] at n01
 have HB0:Hid (Below w.heap.size w w):=ae (aG _ _)
 have hes:es.length=s.df.aU.length:=by rw[<-hO.es];simp
 have jK:=ae hes
 clear hes
 have VI:=hG.SB
 have HG3:=ae (ag hG.aU hG.pI)
 clear hO hcs hG
 go_enter Tryz.func191,Tryz.ntmps191
 go_wp2_with fail
 refine RX.gm (fun ps W'=> ¬(x<=y/\y<=100/\y<=x+9)/\ps=jW 2/\Below N w W') 8 [] none [(6,⟨fun _ v=>v=rv (x,y),fun _ _ _=>(x<=y/\y<=100/\y<=x+9)⟩),(7,Spec.block w.heap.size #[iv 0,iv 0] 112)] (by rintro ps a1 Wx hdf ⟨h1,rfl,h3⟩;refine⟨hdf,vG (c:=2) h3 ?_ (by decide)⟩;have q0:=jK.o;simp only[jb,bT,bU,dw];(repeat (first|rw[aC (by omega)]|rw[ak (by omega)]))) (by as_aux_lemma=>kernel_rfl) (by as_aux_lemma=>kernel_rfl) ?_
 simp only[zt]
 repeat (refine RX.zd ?_;simp only[zp])
 refine RX.bF _ (by rfl) (by rfl) ⟨_,rfl⟩ (fun Wq hE2 hF2=>?_) (fun v Wa Wb ho hE=>ho) (fun v hv=>?_)
 ·have hE':Ext [] w Wq:=hE2
  refine RX.dn 260 #[iv x,iv y,iv 9] (by go_simp;try rfl) ?_
  refine(vF x y 9 Wq (by omega)).mono ?_
  rintro e w' ⟨hb,⟨hc,rfl⟩|⟨hc,rfl⟩⟩
  ·exact .inl ⟨_,rfl,rfl,hc,Ext.az hb⟩
  ·exact .inr ⟨_,rfl,hc,rfl,(bg HB0.o (bg hE'.below hb)).mono gz⟩
 obtain rfl:v=rv (x,y):=hv
 simp only[zp]
 repeat (refine RX.zd ?_;simp only[zp])
 refine RX.jQ w.heap.size _ _ (by rfl) (ai _) (by rfl) (by simp) (by simp) (fun W hW=>by go_simp;try rfl) (fun b9=>?_)
 simp only[zp]
 intro Wb hE hF
 obtain⟨b9',vP,hge,hk9⟩:=hF _ (bD _)
 cases vP
 have hc:x<=y/\y<=100/\y<=x+9:=hF _ (ng _ (bD _))
 have HBb:=ae (bg HB0.o (show Ext [] w Wb from hE).below)
 have qO:=ae hc
 have qR:=ae (ag (ja HB0.o.size hge) hk9)
 obtain⟨c9,f9,l9⟩:=af hk9
 clear hE hF hc hge hk9 c0 f0 oD n01
 go_upto_region 2 with(fail)
 refine dQ fun W1 pR=>?_
 have HB1:=ae (show Below w.heap.size w W1 from by rw[pR];exact((HBb.o).setCell qR.o.1 _).setCell qR.o.1 _)
 have Cm:=ae (show W1.heap[b9]? =some (.cells #[iv x,iv y] 112 (0,0)) from by rw[pR];exact aI (aI (qR.o.2) _) _)
 have YL:b9<W1.heap.size:=(aT.1 Cm.o).1
 clear pR c9 f9 l9
 obtain⟨c1,f1,l1⟩:=af ((HB1.o.block _ lw).trans HO.o.blk)
 obtain⟨vN,hcs1⟩:=HW.o W1 (HB1.o.mono gz)
 have n10:=hcs1 0 (by simp)
 simp only[au] at n10
 have n11:=hcs1 1 (by simp)
 simp only[au] at n11
 clear hcs1
 go_wp2_with fail
 refine(qx _ _ _).mono ?_
 rintro e W2 ⟨hb,⟨hc,rfl⟩|⟨hc,rfl⟩⟩
 rotate_left
 ·simp at hc
  have q0:=jK.o
  have q1:=qO.o
  simp only[jb,bT,bU,dw]
  (repeat (first|rw[aC (by omega)]|rw[ak (by omega)]))
  exact⟨rfl,(bg HB1.o hb).mono gz,.inr ⟨by simp,rfl⟩⟩
 simp at hc
 have HB2:=ae (bg HB1.o hb)
 have HS2:=ae hb
 have wK:=ae hc
 clear hb hc c1 f1 vN n10 n11
 obtain⟨c2,f2,l2⟩:=af ((HB2.o.block _ lw).trans HO.o.blk)
 obtain⟨wS,hcs2⟩:=HW.o W2 (HB2.o.mono gz)
 have n20:=hcs2 0 (by simp)
 simp only[au] at n20
 have n21:=hcs2 1 (by simp)
 simp only[au] at n21
 clear hcs2
 go_wp2_with fail
 obtain⟨Ms,hMs⟩: ∃Ms,Ms=(Value.slice o s.df.heaps.length cc).ownBlock.toList:=⟨_,rfl⟩
 have hO2:=HO.o.below HB2.o
 have hm1:wb∉Ms:=fun h=>hO2.rows.off 5 _ rfl (by rw[hMs] at h;exact dD.1 h)
 have hm2:b∉Ms:=fun h=>by have:=((hO2.rows.own 5 _ rfl).lt b (by rw[hMs] at h;exact dD.1 h)).1;omega
 have wH: ∀m∈Ms,m<W2.heap.size:=fun m h=>((hO2.rows.own 5 _ rfl).lt m (by rw[hMs] at h;exact dD.1 h)).2
 obtain⟨c9,f9,l9⟩:=af ((HS2.o.block _ YL).trans Cm.o)
 have hm9:b9∉Ms:=fun h=>by have:=((HO.o.rows.own 5 _ rfl).lt b9 (by rw[hMs] at h;exact dD.1 h)).2;have:=qR.o.1;omega
 have HM:=ae hMs
 have jo:=ae hO2
 clear hMs hO2
 refine zg 8 Ms (some 7) [(6,Spec.slice W2.heap.size #[iv x,iv y] 112 1),(7,⟨fun _ v=> ∃o2 c2,v= .slice o2 (s.df.heaps.length+1) c2,fun _ v Wx=>Wx.ownsRow N 112 2 v (s.df.heaps.length+1) (aF s.df.heaps++[iv x,iv y])/\(v.ownBlock=(Value.slice o s.df.heaps.length cc).ownBlock∨ ∃q,v.ownBlock=some q/\W2.heap.size<=q)⟩)] ?_
 simp only[zt]
 repeat ((first|refine zd ?_|refine zk ?_);simp only[zp])
 refine dU W2.heap.size _ _ 1 (by rfl) (ai _) (by rfl) wH (by simp) (fun W hW=>by go_simp;try rfl) (fun b6=>?_)
 simp only[zp]
 repeat ((first|refine zd ?_|refine zk ?_);simp only[zp])
 refine bF _ (by rfl) (by rfl) (by exact⟨.slice none (s.df.heaps.length+1) 0,none,0,rfl⟩) (fun W6 hE hF=>?_) (fun v Wa Wb ho hE=>?_) (fun v hv=>?_)
 ·have hE':Ext [] W2 W6:=hE
  obtain⟨b',hb',hge,hcc⟩:=hF _ (bD _) (by kernel_rfl)
  cases hb'
  have hown6:W6.ownsRow N 112 2 (.slice o s.df.heaps.length cc) s.df.heaps.length (aF s.df.heaps):=aB (Ms:=[]) (jo.o.rows.own 5 _ rfl) hE' (by simp)
  have hsrc:aP 2 W6 (.slice (some ⟨b6,0,none⟩) 1 1) 1 ([iv x,iv y]):=aP.cZ 2 1 hcc rfl (by decide)
  refine Does.mono (dK afi (by rfl) (by rfl) hown6 (by rfl) hsrc (Yr x y) (by omega) (by omega) (by have:=hE'.size;have:=HB2.o.size;omega)) ?_
  rintro v' W7 ⟨ho,hgr,hcase⟩
  refine⟨aS ho,⟨ho,?_⟩,⟨hgr.os,hgr.tape,hgr.output,hgr.size,fun b hb hn=>hgr.block b hb (fun e=>hn (by rw[HM.o];exact dD.2 e.symm))⟩⟩
  rcases hcase with h1|h1
  ·exact .inl h1
  ·exact .inr ⟨_,h1,hE'.size⟩
 ·exact⟨aB (Ms:=[]) ho.1 hE (by simp),ho.2⟩
 obtain⟨o7,c7,rfl⟩:=hv
 simp only[zp]
 intro W3 hE hF
 obtain⟨ql,zF⟩:=hF _ (bD _)
 have gV:Ext Ms W2 W3:=hE
 have hbl:=(gV.block wb jo.o.rows.lt hm1).trans jo.o.blk
 obtain⟨c3,f3,l3⟩:=af hbl
 have iP:=ae (ag gV (ag ql (ag zF hbl)))
 have Dp:Below N w W3:=(HB2.o.mono gz).trans ⟨gV.os,gV.tape,gV.output,gV.size,fun k hk=>gV.block k (by have:=HB2.o.size;omega) (fun h=>by have:=((jo.o.rows.own 5 _ rfl).lt k (by rw[HM.o] at h;exact dD.1 h)).1;omega)⟩
 have pF:=ae Dp
 clear hE hF gV ql zF hbl Dp hm1 hm2 wH c2 f2 wS n20 n21
 go_upto_region 4 with(fail)
 refine dQ fun W4 pR=>?_
 have hO6:jO N W4 wb (su s (x,y) 0) ⟨vt,vn,vw,vu,vr,.slice o7 (s.df.heaps.length+1) c7,.slice ok es.length ck,vs⟩ es:=by
  rw[pR,QG]
  exact jo.o.put (i:=5) rfl ⟨112,2,.slice o7 (s.df.heaps.length+1) c7,s.df.heaps.length+1,aF s.df.heaps++[iv x,iv y]⟩ iP.o.1 (fun m hm=>by rw[HM.o] at hm;exact dD.1 hm) iP.o.2.1 iP.o.2.2.1 (aI iP.o.2.2.2 _) (by simp[iH,fK,aF]) jo.o.es
 have HB4:=ae (show Below N w W4 from by rw[pR];exact pF.o.setCell vC _)
 obtain⟨c4,f4,l4⟩:=af hO6.blk
 have LG:=ae hO6
 clear pR hO6 c3 f3 c9 f9
 go_wp2_with fail
 clear c4 f4
 have hle:es.length<=3:=by have:=jK.o;have:=HG3.o.1;omega
 go_loopw [6,39] (fun _ u wr=> ∃i:Nat,i<=es.length/\u= .int .i64 i/\Below N w wr/\ ∃es':List KE,es'.length=es.length/\jO N wr wb (su s (x,y) i) ⟨vt,vn,vw,vu,vr,.slice o7 (s.df.heaps.length+1) c7,.slice ok es.length ck,vs⟩ es') (fun _ u _=>es.length-(intOf u).toNat)
 case atStart=>exact⟨0,bW _,rfl,HB4.o,es,rfl,LG.o⟩
 case round=>
  obtain⟨i,hi,rfl,hB,es',Hz,hOr⟩:=hrel
  by_cases hlt:i<es.length
  ·obtain⟨c5,f5,l5⟩:=af hOr.blk
   have hic:i<s.df.aU.length:=by have:=jK.o;omega
   obtain⟨ev,el,BP⟩: ∃ev el,es'[i]? =some (ev,el):=⟨_,_,dG (by omega)⟩
   have VI:el=s.df.aU[i]:=by
    have h1:=Vb s (x,y) i hic
    rw[<-hOr.es] at h1
    simpa [BP] using h1
   have hrow:=yx (su s (x,y) i) ⟨vt,vn,vw,vu,vr,.slice o7 (s.df.heaps.length+1) c7,.slice ok es.length ck,vs⟩ es' BP
   obtain⟨oe,ce,rfl⟩: ∃o c,ev= .slice o el.length c:=aS (n:=el.length) (hOr.rows.own _ _ hrow)
   have ajG:el.length<=3:=by rw[VI,(HG3.o.2 _ (bY _)).1];omega
   have h6:wr.ownsRow N 36 1 (.slice ok es.length ck) es.length (eQ es'):=by have h:=hOr.rows.own 6 _ rfl;rw[<-Hz];rw[<-Hz] at h;exact h
   obtain⟨gk,rfl,hgk,hfk,hkl⟩:=gU h6 (by omega)
   have hgx:(eQ es')[i]? =some (.slice oe el.length ce):=by simp[eQ,BP]
   obtain⟨hg',eg'⟩:=jg.1 hgx
   have g6:=(hgk i hg').trans (by rw[eg'])
   obtain⟨Ms,hMs⟩: ∃Ms,Ms=(Value.slice oe el.length ce).ownBlock.toList:=⟨_,rfl⟩
   have hm1:wb∉Ms:=fun h=>hOr.rows.off _ _ hrow (by rw[hMs] at h;exact dD.1 h)
   have hm2:gk∉Ms:=fun h=>by
    have h0:(Value.slice oe el.length ce).ownBlock=some gk:=(by rw[hMs] at h;exact dD.1 h)
    rcases hOr.rows.apart 6 (8+i) _ _ rfl hrow (by omega) with h1|h1
    ·cases h1
    ·exact h1 h0.symm
   have wH: ∀m∈Ms,m<wr.heap.size:=fun m h=>((hOr.rows.own _ _ hrow).lt m (by rw[hMs] at h;exact dD.1 h)).2
   have HM:=ae hMs
   have Ip:=ae (ag hOr (ag hB (ag BP (ag VI (ag Hz (ag hrow (ag h6 hic)))))))
   clear hMs hOr hB BP VI Hz hrow h6 hgx hg' eg' hgk
   go_wp2_with fail
   refine zg 14 Ms (some 13) [(12,Spec.slice wr.heap.size #[iv 0] 3 1),(13,⟨fun _ v=> ∃o2 c2,v= .slice o2 (el.length+1) c2,fun _ v Wx=>Wx.ownsRow N 3 1 v (el.length+1) (ah el++[iv 0])/\(v.ownBlock=(Value.slice oe el.length ce).ownBlock∨ ∃q,v.ownBlock=some q/\wr.heap.size<=q)⟩)] ?_
   simp only[zt]
   repeat ((first|refine zd ?_|refine zk ?_);simp only[zp])
   refine dU wr.heap.size _ _ 1 (by rfl) (ai _) (by rfl) wH (by simp) (fun W hW=>by go_simp;try rfl) (fun b6=>?_)
   simp only[zp]
   refine bF _ (by rfl) (by rfl) (by exact⟨.slice none (el.length+1) 0,none,0,rfl⟩) (fun W6 hE hF=>?_) (fun v Wa Wb ho hE=>?_) (fun v hv=>?_)
   ·have hE':Ext [] wr W6:=hE
    obtain⟨b',hb',hge,hcc⟩:=hF _ (bD _) (by kernel_rfl)
    cases hb'
    have hown6:W6.ownsRow N 3 1 (.slice oe el.length ce) el.length (ah el):=aB (Ms:=[]) (Ip.o.1.rows.own _ _ Ip.o.2.2.2.2.2.1) hE' (by simp)
    have hsrc:aP 1 W6 (.slice (some ⟨b6,0,none⟩) 1 1) 1 ([iv 0]):=aP.cZ 1 1 hcc rfl (by decide)
    refine Does.mono (dK qp (by rfl) (by rfl) hown6 (by rfl) hsrc (one_one 0) (by omega) (by omega) (by have:=hE'.size;have:=Ip.o.2.1.size;omega)) ?_
    rintro v' W7 ⟨ho,hgr,hcase⟩
    refine⟨aS ho,⟨ho,?_⟩,⟨hgr.os,hgr.tape,hgr.output,hgr.size,fun b hb hn=>hgr.block b hb (fun e=>hn (by rw[HM.o];exact dD.2 e.symm))⟩⟩
    rcases hcase with h1|h1
    ·exact .inl h1
    ·exact .inr ⟨_,h1,hE'.size⟩
   ·exact⟨aB (Ms:=[]) ho.1 hE (by simp),ho.2⟩
   obtain⟨o8,c8,rfl⟩:=hv
   simp only[zp]
   intro W8 hE hF
   obtain⟨ql,zF⟩:=hF _ (bD _)
   have gV:Ext Ms wr W8:=hE
   have hR1:=Ip.o.1.rows.put Ip.o.2.2.2.2.2.1 (yM (.slice o8 (el.length+1) c8,el++[0])) gV (fun m hm=> .inr (.inr (by rw[HM.o] at hm;exact dD.1 hm))) (by simpa [yM,ah] using ql) (zF.imp id .inr)
   have hbl:=(gV.block wb l5 hm1).trans Ip.o.1.blk
   obtain⟨c9,f9,l9⟩:=af hbl
   have g7:=(gV.cell gk i hkl hm2).trans g6
   have h68:W8.ownsRow N 36 1 (.slice (some ⟨gk,0,none⟩) es.length ck) es.length (eQ es'):=dI Ip.o.2.2.2.2.2.2.1 gV (fun b hb hm=>by cases hb;exact hm2 hm)
   obtain⟨gk',adQ, -,an4,hkl'⟩:=gU h68 (by omega)
   cases adQ
   have aha:Below N w W8:=Ip.o.2.1.trans ⟨gV.os,gV.tape,gV.output,gV.size,fun k hk=>gV.block k (by have:=Ip.o.2.1.size;omega) (fun h=>by have:=((Ip.o.1.rows.own _ _ Ip.o.2.2.2.2.2.1).lt k (by rw[HM.o] at h;exact dD.1 h)).1;omega)⟩
   have HE:=ae (ag gV (ag hR1 (ag hbl (ag h68 aha))))
   clear hE hF gV ql zF hR1 hbl h68 aha c5 f5 g6 hm1 hm2 wH hfk hkl
   go_wp2_with fail
   go_roundw
   case rel=>
    refine⟨i+1,by omega,by go_num,HE.o.2.2.2.2.setCell (HE.o.2.2.2.1.lt gk rfl).1 _,es'.set i (.slice o8 (el.length+1) c8,el++[0]),by simp[Ip.o.2.2.2.2.1],?_,?_,?_⟩
    ·exact((gq (W:=W8) (b:=gk) (off:=i) (v:= .slice o8 (el.length+1) c8)).block wb HE.o.2.1.lt (fun hm=>HE.o.2.1.off 6 ⟨36,1,.slice (some ⟨gk,0,none⟩) es.length ck,es'.length,eQ es'⟩ (by rw[List.getElem?_set_ne (by omega)];rfl) (by rw[eY.1 hm];rfl))).trans HE.o.2.2.1
    ·rw[EW (su s (x,y) i) (su s (x,y) (i+1)) _ es' (by rw[Ip.o.2.2.2.2.1];exact hlt) rfl]
     have hS:=lu HE.o.2.2.2.1 i (.slice o8 (el.length+1) c8)
     refine HE.o.2.1.put (i:=6) (r:=⟨36,1,.slice (some ⟨gk,0,none⟩) es.length ck,es'.length,eQ es'⟩) (by rw[List.getElem?_set_ne (by omega)];rfl) _ gq (fun m hm=> .inr (.inr (by rw[eY.1 hm];rfl))) ?_ (.inl rfl)
     rw[Ip.o.2.2.2.2.1]
     exact hS
    ·rw[List.map_set,Ip.o.1.es, <-QH s (x,y) i Ip.o.2.2.2.2.2.2.2]
     exact congrArg (fun q=>(su s (x,y) i).df.aU.set i (q++[0])) Ip.o.2.2.2.1
   case measure=>simp[intOf];omega
  ·obtain rfl:i=es.length:=by omega
   have Ip:=ae (ag hOr hB)
   clear hOr hB hle
   go_wp2_with fail
   go_end0
   have q0:=jK.o
   have q1:=qO.o
   have q2:=wK.o
   simp only[jb,bT,bU,dw]
   (repeat (first|rw[aC (by omega)]|rw[ak (by omega)]))
   rw[Vd s (x,y) _ (by omega)] at Ip
   exact⟨Ip.o.2,.inl ⟨rfl,rfl,_,es',Ip.o.1⟩⟩
def aaj (N:Nat) (t:TypeId) (size g n c:Nat) (xs:List Value) (w:World) (e:Ending) (w':World):Prop:=
 e= .returned (.slice (some ⟨g,0,none⟩) n c)/\w'.ownsRow N t size (.slice (some ⟨g,0,none⟩) n c) n xs/\Ext [g] w w'
theorem fP {W:World} {g:Nat} {cs:Array Value}:Ext [g] W (W.setRow g cs):=
 ⟨rfl,rfl,rfl,by simp,fun k _ hm=>setRow_other _ _ _ _ (by simpa using hm)⟩
theorem sO {P:Program} {t e:TypeId} {z:Value} {size bytes:Nat} (hT:iq P t e z size bytes) {W:World} {N g c n i m:Nat} {xs:List Value} (ho:W.ownsRow N e size (.slice (some ⟨g,0,none⟩) n c) n xs) (h1: ∀u∈xs,u.oneCell'=true)
 (hi:i<n) (hm:m=n-1) (A:Addr) (hA:(if c=i+1 then some (⟨g,0,none⟩:Addr) else some ⟨g,(i+1)*size,none⟩)=some A):
 ∃W1,(∀ty,(Builtin.append_ #[t,t] ty #[.slice (some ⟨g,0,none⟩) i c,.slice (some A) (n-(i+1)) (c-(i+1))]).run P W= .ok (.slice (some ⟨g,0,none⟩) m c) W1)/\
  W1.ownsRow N e size (.slice (some ⟨g,0,none⟩) n c) n (xs.take (i*size)++xs.drop (i*size+size)++xs.drop (n*size-size))/\Ext [g] W W1:=by
 obtain⟨it,hit,hz,hs,hby⟩:=info_parts hT.info
 obtain⟨hl,⟨h2,_⟩|⟨g',c',cur,h2,hb,hg,hnc,hcm,hcs,htk⟩⟩:=ho
 ·cases h2
 cases h2
 have hpos:=hT.pos
 have hnn:n=i+1+(n-(i+1)):=by omega
 have hmul:n*size=i*size+size+(n-(i+1))*size:=by
  conv=>lhs;rw[hnn]
  rw[Nat.add_mul,Nat.add_mul,Nat.one_mul]
 have hcz:n*size<=cur.size:=by rw[hcs];exact Nat.mul_le_mul_right _ hnc
 have hlen:(xs.drop (i*size+size)).length=(n-(i+1))*size:=by rw[kY,hl];omega
 have hnews: ∀j u,(xs.drop (i*size+size))[j]? =some u->W.cell? (A.add j)=some u:=by
  intro j u hu
  have hj:=(jg.1 hu).1
  rw[hlen] at hj
  have hne:c≠i+1:=by
   intro e
   have:n-(i+1)=0:=by omega
   rw[this] at hj
   omega
  rw[ak hne] at hA
  obtain rfl:=jw hA
  rw[Addr.add_lit,cell_of_row W g _ cur e (0,0) hg]
  rw[List.getElem?_drop, <-htk,List.getElem?_take] at hu
  split at hu
  ·rw[show(i+1)*size+j=i*size+size+j from by rw[Nat.add_mul,Nat.one_mul]]
   simpa using hu
  ·cases hu
 have hroom:i+(n-(i+1))<=c:=by omega
 have hfit:i*it.size+(xs.drop (i*size+size)).length<=cur.size:=by rw[hs,hlen];omega
 refine⟨W.setRow g (cur.toList.take (i*size)++xs.drop (i*size+size)++cur.toList.drop (i*size+(xs.drop (i*size+size)).length)).toArray,fun ty=>?_,?_,fP⟩
 ·have:=run_append_room (P:=P) W t ty e it hT.und hit g i c cur hg A (n-(i+1)) (c-(i+1)) (xs.drop (i*size+size)) (by rw[hlen,hs]) hnews (fun u hu=>h1 u (List.mem_of_mem_drop hu)) hroom hfit
  rw[this,hs,show i+(n-(i+1))=m from by omega]
 ·have hti:cur.toList.take (i*size)=xs.take (i*size):=by
   rw[<-htk,List.take_take]
   congr 1
   omega
  have hL:(xs.take (i*size)++xs.drop (i*size+size)++xs.drop (n*size-size)).length=n*size:=by
   simp only[dm,gK,kY,hl]
   omega
  refine⟨hL,.inr ⟨g,c,_,rfl,hb,setRow_heap W g cur _ e _ hg,hnc,hcm,?_,?_⟩⟩
  ·simp only[List.size_toArray,dm,gK,kY,Array.length_toList,hl]
   omega
  ·rw[hti,hlen,List.take_append,kC (by simp only[dm,gK,kY,hl];omega)]
   congr 1
   simp only[dm,gK,kY,hl]
   rw[show n*size-(min (i*size) (n*size)+(n*size-(i*size+size)))=size from by omega, <-htk,List.drop_take]
   rw[show i*size+(n-(i+1))*size=n*size-size from by omega,show n*size-(n*size-size)=size from by omega]
theorem jE {P:Program} {w w':World} {ops:Array Oper} {rest:List Oper} {o:Oper} {a:Act} {Q:Exit->Act->World->Prop} (hg:o.guard=none) (s x:Operand) {t:TypeId}
 (hop:o.op=Op.call {callee:=Callee.builtin Builtin.append,args:= #[s,x],argTypes:= #[t,t]}) (v src v':Value) (hs:a.eval s=v) (hx:a.eval x=src) (hrun: ∀ty,(Builtin.append_ #[t,t] ty #[v,src]).run P w= .ok v' w')
 (hK:wpList P ops Q rest (a.put o.dst v') w'):wpList P ops Q (o::rest) a w:=by
 refine wpList_plain hg fun K hK'=>?_
 refine yD (R:=fun v1 w1=>v1=v'/\w1=w') (iU v' ?_ ⟨rfl,rfl⟩) fun v1 w1 ⟨h1,h2⟩=>by rw[h1,h2];exact hK' _ _ hK
 simp[execOp,hop,resolve,invoke,builtin,hs,hx,hrun,Result.andThen]
theorem nD {P:Program} {t e:TypeId} {z:Value} {size bytes:Nat} (hT:iq P t e z size bytes) (hv: ∀w,(zeroValue e).run P w= .ok z w) (hz1:(Builtin.zeroCells z.cells 1).toList.all (·.oneCell')=true) {W:World} {N g c n m:Nat} {xs:List Value} (ho:W.ownsRow N e size (.slice (some ⟨g,0,none⟩) n c) n xs) (hm:m+1=n):
 ∃W1,(∀ty,(Builtin.clear_ #[t] ty #[.slice (some ⟨g,m*size,none⟩) (n-m) (c-m)]).run P W= .ok (.tuple #[]) W1)/\W1.ownsRow N e size (.slice (some ⟨g,0,none⟩) m c) m (xs.take (m*size))/\Ext [g] W W1:=by
 obtain⟨it,hit,hz,hs,hby⟩:=info_parts hT.info
 obtain⟨hl,⟨h2,_⟩|⟨g',c',cur,h2,hb,hg,hnc,hcm,hcs,htk⟩⟩:=ho
 ·cases h2
 cases h2
 subst hm
 have hzl:(Builtin.zeroCells z.cells 1).toList.length=size:=by simp[Builtin.zeroCells,hT.cells]
 have hz2: ∀u∈(Builtin.zeroCells z.cells 1).toList,u.oneCell'=true:=fun u hu=>jJ.1 hz1 u hu
 have hcz:m*size+size<=cur.size:=by
  rw[hcs]
  have:=Nat.mul_le_mul_right size hnc
  rw[Nat.add_mul,Nat.one_mul] at this
  exact this
 have hst:=run_storeCells_at P g (m*size) e (Builtin.zeroCells z.cells 1).toList 0 cur W hg (by rw[hzl];omega) hz2
 simp only[Nat.add_zero] at hst
 obtain⟨nw,hnw⟩: ∃nw,nw=(cur.toList.take (m*size)++(Builtin.zeroCells z.cells 1).toList++cur.toList.drop (m*size+(Builtin.zeroCells z.cells 1).toList.length)).toArray:=⟨_,rfl⟩
 rw[<-hnw] at hst
 refine⟨W.setRow g nw,fun ty=>?_,⟨?_,.inr ⟨g,c,nw,rfl,hb,setRow_heap W g cur _ e _ hg,by omega,hcm,?_,?_⟩⟩,fP⟩
 ·rw[show m+1-m=0+1 from by omega]
  simp[Builtin.clear_,run_underlying hT.und,hv,hst]
 ·rw[gK,hl,Nat.add_mul];omega
 ·rw[hnw];simp only[List.size_toArray,dm,gK,kY,Array.length_toList,hzl]
  omega
 ·rw[hnw]
  rw[ni,tq (by simp;omega),List.take_take,Nat.min_self, <-htk,List.take_take]
  congr 1
  rw[Nat.add_mul];omega
theorem RN (N:Nat) (g n c i:Nat) (xs:List Value) (w:World) (ho:w.ownsRow N 118 5 (.slice (some ⟨g,0,none⟩) n c) n xs) (h1: ∀u∈xs,u.oneCell'=true) (hi:i<n) (hn:n<=100):
 Calls Tryz.prog 252 #[.slice (some ⟨g,0,none⟩) n c,iv i,iv (i+1)] w (aaj N 118 5 g (n-1) c (xs.take (i*5)++xs.drop (i*5+5)) w):=by
 have hnc:n<=c/\c<=maxLen:=by
  obtain⟨h1,⟨h2,rfl⟩|⟨g',cc,cs,h2,h3,h4,h5,h6,h7,h8⟩⟩:=ho
  ·cases h2
  ·cases h2;exact⟨h5,h6⟩
 obtain⟨hnc,hcm⟩:=hnc
 simp only[maxLen] at hcm
 have hc0:c≠0:=by omega
 have hi1:(i:Int)<=(c:Int):=by omega
 have hi2:(0:Int)<=(i:Int):=by omega
 have hi3:(i:Int)+1<=(n:Int):=by omega
 have hi4:(0:Int)<=(i:Int)+1:=by omega
 have hi5:i<=c:=by omega
 have hi6:i+1<=n:=by omega
 have hi7:((i:Int)+1).toNat=i+1:=by omega
 obtain⟨m,hm⟩: ∃m,m=n-1:=⟨_,rfl⟩
 have hm1:(m:Int)<=(n:Int):=by omega
 have hm2:c≠m:=by omega
 have wH:(n:Int)<=(c:Int):=by omega
 have hm4:m<=n:=by omega
 obtain⟨A,hA⟩: ∃A:Addr,(if c=i+1 then some (⟨g,0,none⟩:Addr) else some ⟨g,(i+1)*5,none⟩)=some A:=by split <;>exact⟨_,rfl⟩
 have HO:=ae (ag ho (ag hm hA))
 clear ho hm
 go_enter Tryz.func252,Tryz.ntmps252
 go_wp2_with fail
 refine zg 6 [] none [] ?_
 simp only[zt]
 repeat ((first|refine zd ?_|refine zk ?_);simp only[zp])
 intro W hE hF
 have HE:=ae (show Ext [] w W from hE)
 clear hE hF
 obtain⟨W1,happ,ho1,hE1⟩:=sO XU (aB (Ms:=[]) HO.o.1 HE.o (by simp)) h1 hi HO.o.2.1 A HO.o.2.2
 obtain⟨W2,hcl,ho2,hE2⟩:=nD XU (fun w=>Tryz.zeroValue118 w) (by kernel_rfl) ho1 (m:=m) (by have:=HO.o.2.1;omega)
 have H2:=ae (ag ho2 (ag hE1 hE2))
 clear ho1 ho2 hE1 hE2 hA
 go_wp2_with (at_builtin;refine jE rfl _ _ rfl _ _ _ rfl rfl happ ?_)
 go_returns
 refine⟨by simp;exact HO.o.2.1,?_,((Ext.nil HE.o).trans H2.o.2.1).trans H2.o.2.2⟩
 have h9:=H2.o.1
 rw[<-HO.o.2.1]
 have hl:=HO.o.1.1
 have hx:(xs.take (i*5)++xs.drop (i*5+5)++xs.drop (n*5-5)).take (m*5)=xs.take (i*5)++xs.drop (i*5+5):=by
  have:=HO.o.2.1
  rw[tq (by simp only[dm,gK,kY,hl];omega),kC (by simp only[dm,gK,kY,hl];omega)]
 rw[<-hx]
 exact h9
theorem Oq (N:Nat) (g n c i:Nat) (xs:List Value) (w:World) (ho:w.ownsRow N 120 3 (.slice (some ⟨g,0,none⟩) n c) n xs) (h1: ∀u∈xs,u.oneCell'=true) (hi:i<n) (hn:n<=100):
 Calls Tryz.prog 254 #[.slice (some ⟨g,0,none⟩) n c,iv i,iv (i+1)] w (aaj N 120 3 g (n-1) c (xs.take (i*3)++xs.drop (i*3+3)) w):=by
 have hnc:n<=c/\c<=maxLen:=by
  obtain⟨h1,⟨h2,rfl⟩|⟨g',cc,cs,h2,h3,h4,h5,h6,h7,h8⟩⟩:=ho
  ·cases h2
  ·cases h2;exact⟨h5,h6⟩
 obtain⟨hnc,hcm⟩:=hnc
 simp only[maxLen] at hcm
 have hc0:c≠0:=by omega
 have hi1:(i:Int)<=(c:Int):=by omega
 have hi2:(0:Int)<=(i:Int):=by omega
 have hi3:(i:Int)+1<=(n:Int):=by omega
 have hi4:(0:Int)<=(i:Int)+1:=by omega
 have hi5:i<=c:=by omega
 have hi6:i+1<=n:=by omega
 have hi7:((i:Int)+1).toNat=i+1:=by omega
 obtain⟨m,hm⟩: ∃m,m=n-1:=⟨_,rfl⟩
 have hm1:(m:Int)<=(n:Int):=by omega
 have hm2:c≠m:=by omega
 have wH:(n:Int)<=(c:Int):=by omega
 have hm4:m<=n:=by omega
 obtain⟨A,hA⟩: ∃A:Addr,(if c=i+1 then some (⟨g,0,none⟩:Addr) else some ⟨g,(i+1)*3,none⟩)=some A:=by split <;>exact⟨_,rfl⟩
 have HO:=ae (ag ho (ag hm hA))
 clear ho hm
 go_enter Tryz.func254,Tryz.ntmps254
 go_wp2_with fail
 refine zg 6 [] none [] ?_
 simp only[zt]
 repeat ((first|refine zd ?_|refine zk ?_);simp only[zp])
 intro W hE hF
 have HE:=ae (show Ext [] w W from hE)
 clear hE hF
 obtain⟨W1,happ,ho1,hE1⟩:=sO aaW (aB (Ms:=[]) HO.o.1 HE.o (by simp)) h1 hi HO.o.2.1 A HO.o.2.2
 obtain⟨W2,hcl,ho2,hE2⟩:=nD aaW (fun w=>Tryz.zeroValue120 w) (by kernel_rfl) ho1 (m:=m) (by have:=HO.o.2.1;omega)
 have H2:=ae (ag ho2 (ag hE1 hE2))
 clear ho1 ho2 hE1 hE2 hA
 go_wp2_with (at_builtin;refine jE rfl _ _ rfl _ _ _ rfl rfl happ ?_)
 go_returns
 refine⟨by simp;exact HO.o.2.1,?_,((Ext.nil HE.o).trans H2.o.2.1).trans H2.o.2.2⟩
 have h9:=H2.o.1
 rw[<-HO.o.2.1]
 have hl:=HO.o.1.1
 have hx:(xs.take (i*3)++xs.drop (i*3+3)++xs.drop (n*3-3)).take (m*3)=xs.take (i*3)++xs.drop (i*3+3):=by
  have:=HO.o.2.1
  rw[tq (by simp only[dm,gK,kY,hl];omega),kC (by simp only[dm,gK,kY,hl];omega)]
 rw[<-hx]
 exact h9
theorem Oo (N:Nat) (g n c i:Nat) (xs:List Value) (w:World) (ho:w.ownsRow N 122 3 (.slice (some ⟨g,0,none⟩) n c) n xs) (h1: ∀u∈xs,u.oneCell'=true) (hi:i<n) (hn:n<=100):
 Calls Tryz.prog 259 #[.slice (some ⟨g,0,none⟩) n c,iv i,iv (i+1)] w (aaj N 122 3 g (n-1) c (xs.take (i*3)++xs.drop (i*3+3)) w):=by
 have hnc:n<=c/\c<=maxLen:=by
  obtain⟨h1,⟨h2,rfl⟩|⟨g',cc,cs,h2,h3,h4,h5,h6,h7,h8⟩⟩:=ho
  ·cases h2
  ·cases h2;exact⟨h5,h6⟩
 obtain⟨hnc,hcm⟩:=hnc
 simp only[maxLen] at hcm
 have hc0:c≠0:=by omega
 have hi1:(i:Int)<=(c:Int):=by omega
 have hi2:(0:Int)<=(i:Int):=by omega
 have hi3:(i:Int)+1<=(n:Int):=by omega
 have hi4:(0:Int)<=(i:Int)+1:=by omega
 have hi5:i<=c:=by omega
 have hi6:i+1<=n:=by omega
 have hi7:((i:Int)+1).toNat=i+1:=by omega
 obtain⟨m,hm⟩: ∃m,m=n-1:=⟨_,rfl⟩
 have hm1:(m:Int)<=(n:Int):=by omega
 have hm2:c≠m:=by omega
 have wH:(n:Int)<=(c:Int):=by omega
 have hm4:m<=n:=by omega
 obtain⟨A,hA⟩: ∃A:Addr,(if c=i+1 then some (⟨g,0,none⟩:Addr) else some ⟨g,(i+1)*3,none⟩)=some A:=by split <;>exact⟨_,rfl⟩
 have HO:=ae (ag ho (ag hm hA))
 clear ho hm
 go_enter Tryz.func259,Tryz.ntmps259
 go_wp2_with fail
 refine zg 6 [] none [] ?_
 simp only[zt]
 repeat ((first|refine zd ?_|refine zk ?_);simp only[zp])
 intro W hE hF
 have HE:=ae (show Ext [] w W from hE)
 clear hE hF
 obtain⟨W1,happ,ho1,hE1⟩:=sO aaV (aB (Ms:=[]) HO.o.1 HE.o (by simp)) h1 hi HO.o.2.1 A HO.o.2.2
 obtain⟨W2,hcl,ho2,hE2⟩:=nD aaV (fun w=>Tryz.zeroValue122 w) (by kernel_rfl) ho1 (m:=m) (by have:=HO.o.2.1;omega)
 have H2:=ae (ag ho2 (ag hE1 hE2))
 clear ho1 ho2 hE1 hE2 hA
 go_wp2_with (at_builtin;refine jE rfl _ _ rfl _ _ _ rfl rfl happ ?_)
 go_returns
 refine⟨by simp;exact HO.o.2.1,?_,((Ext.nil HE.o).trans H2.o.2.1).trans H2.o.2.2⟩
 have h9:=H2.o.1
 rw[<-HO.o.2.1]
 have hl:=HO.o.1.1
 have hx:(xs.take (i*3)++xs.drop (i*3+3)++xs.drop (n*3-3)).take (m*3)=xs.take (i*3)++xs.drop (i*3+3):=by
  have:=HO.o.2.1
  rw[tq (by simp only[dm,gK,kY,hl];omega),kC (by simp only[dm,gK,kY,hl];omega)]
 rw[<-hx]
 exact h9
theorem KZ (N:Nat) (g n c i:Nat) (xs:List Value) (w:World) (ho:w.ownsRow N 124 4 (.slice (some ⟨g,0,none⟩) n c) n xs) (h1: ∀u∈xs,u.oneCell'=true) (hi:i<n) (hn:n<=100):
 Calls Tryz.prog 262 #[.slice (some ⟨g,0,none⟩) n c,iv i,iv (i+1)] w (aaj N 124 4 g (n-1) c (xs.take (i*4)++xs.drop (i*4+4)) w):=by
 have hnc:n<=c/\c<=maxLen:=by
  obtain⟨h1,⟨h2,rfl⟩|⟨g',cc,cs,h2,h3,h4,h5,h6,h7,h8⟩⟩:=ho
  ·cases h2
  ·cases h2;exact⟨h5,h6⟩
 obtain⟨hnc,hcm⟩:=hnc
 simp only[maxLen] at hcm
 have hc0:c≠0:=by omega
 have hi1:(i:Int)<=(c:Int):=by omega
 have hi2:(0:Int)<=(i:Int):=by omega
 have hi3:(i:Int)+1<=(n:Int):=by omega
 have hi4:(0:Int)<=(i:Int)+1:=by omega
 have hi5:i<=c:=by omega
 have hi6:i+1<=n:=by omega
 have hi7:((i:Int)+1).toNat=i+1:=by omega
 obtain⟨m,hm⟩: ∃m,m=n-1:=⟨_,rfl⟩
 have hm1:(m:Int)<=(n:Int):=by omega
 have hm2:c≠m:=by omega
 have wH:(n:Int)<=(c:Int):=by omega
 have hm4:m<=n:=by omega
 obtain⟨A,hA⟩: ∃A:Addr,(if c=i+1 then some (⟨g,0,none⟩:Addr) else some ⟨g,(i+1)*4,none⟩)=some A:=by split <;>exact⟨_,rfl⟩
 have HO:=ae (ag ho (ag hm hA))
 clear ho hm
 go_enter Tryz.func262,Tryz.ntmps262
 go_wp2_with fail
 refine zg 6 [] none [] ?_
 simp only[zt]
 repeat ((first|refine zd ?_|refine zk ?_);simp only[zp])
 intro W hE hF
 have HE:=ae (show Ext [] w W from hE)
 clear hE hF
 obtain⟨W1,happ,ho1,hE1⟩:=sO aaU (aB (Ms:=[]) HO.o.1 HE.o (by simp)) h1 hi HO.o.2.1 A HO.o.2.2
 obtain⟨W2,hcl,ho2,hE2⟩:=nD aaU (fun w=>Tryz.zeroValue124 w) (by kernel_rfl) ho1 (m:=m) (by have:=HO.o.2.1;omega)
 have H2:=ae (ag ho2 (ag hE1 hE2))
 clear ho1 ho2 hE1 hE2 hA
 go_wp2_with (at_builtin;refine jE rfl _ _ rfl _ _ _ rfl rfl happ ?_)
 go_returns
 refine⟨by simp;exact HO.o.2.1,?_,((Ext.nil HE.o).trans H2.o.2.1).trans H2.o.2.2⟩
 have h9:=H2.o.1
 rw[<-HO.o.2.1]
 have hl:=HO.o.1.1
 have hx:(xs.take (i*4)++xs.drop (i*4+4)++xs.drop (n*4-4)).take (m*4)=xs.take (i*4)++xs.drop (i*4+4):=by
  have:=HO.o.2.1
  rw[tq (by simp only[dm,gK,kY,hl];omega),kC (by simp only[dm,gK,kY,hl];omega)]
 rw[<-hx]
 exact h9
theorem RP (N:Nat) (g n c i:Nat) (xs:List Value) (w:World) (ho:w.ownsRow N 3 1 (.slice (some ⟨g,0,none⟩) n c) n xs) (h1: ∀u∈xs,u.oneCell'=true) (hi:i<n) (hn:n<=100):
 Calls Tryz.prog 258 #[.slice (some ⟨g,0,none⟩) n c,iv i,iv (i+1)] w (aaj N 3 1 g (n-1) c (xs.take i++xs.drop (i+1)) w):=by
 have hnc:n<=c/\c<=maxLen:=by
  obtain⟨h1,⟨h2,rfl⟩|⟨g',cc,cs,h2,h3,h4,h5,h6,h7,h8⟩⟩:=ho
  ·cases h2
  ·cases h2;exact⟨h5,h6⟩
 obtain⟨hnc,hcm⟩:=hnc
 simp only[maxLen] at hcm
 have hc0:c≠0:=by omega
 have hi1:(i:Int)<=(c:Int):=by omega
 have hi2:(0:Int)<=(i:Int):=by omega
 have hi3:(i:Int)+1<=(n:Int):=by omega
 have hi4:(0:Int)<=(i:Int)+1:=by omega
 have hi5:i<=c:=by omega
 have hi6:i+1<=n:=by omega
 have hi7:((i:Int)+1).toNat=i+1:=by omega
 obtain⟨m,hm⟩: ∃m,m=n-1:=⟨_,rfl⟩
 have hm1:(m:Int)<=(n:Int):=by omega
 have hm2:c≠m:=by omega
 have wH:(n:Int)<=(c:Int):=by omega
 have hm4:m<=n:=by omega
 obtain⟨A,hA⟩: ∃A:Addr,(if c=i+1 then some (⟨g,0,none⟩:Addr) else some ⟨g,i+1,none⟩)=some A:=by split <;>exact⟨_,rfl⟩
 have HO:=ae (ag ho (ag hm hA))
 clear ho hm
 go_enter Tryz.func258,Tryz.ntmps258
 go_wp2_with fail
 refine zg 6 [] none [] ?_
 simp only[zt]
 repeat ((first|refine zd ?_|refine zk ?_);simp only[zp])
 intro W hE hF
 have HE:=ae (show Ext [] w W from hE)
 clear hE hF
 obtain⟨W1,happ,ho1,hE1⟩:=sO qp (aB (Ms:=[]) HO.o.1 HE.o (by simp)) h1 hi HO.o.2.1 A (by rw[Nat.mul_one];exact HO.o.2.2)
 obtain⟨W2,hcl,ho2,hE2⟩:=nD qp (fun w=>Tryz.zeroValue3 w) (by kernel_rfl) ho1 (m:=m) (by have:=HO.o.2.1;omega)
 simp only[Nat.mul_one] at ho1 ho2 hcl
 have H2:=ae (ag ho2 (ag hE1 hE2))
 clear ho1 ho2 hE1 hE2 hA
 go_wp2_with (at_builtin;refine jE rfl _ _ rfl _ _ _ rfl rfl happ ?_)
 go_returns
 refine⟨by simp;exact HO.o.2.1,?_,((Ext.nil HE.o).trans H2.o.2.1).trans H2.o.2.2⟩
 have h9:=H2.o.1
 rw[<-HO.o.2.1]
 have hl:=HO.o.1.1
 have hx:(xs.take i++xs.drop (i+1)++xs.drop (n-1)).take m=xs.take i++xs.drop (i+1):=by
  have:=HO.o.2.1
  rw[tq (by simp only[dm,gK,kY,hl];omega),kC (by simp only[dm,gK,kY,hl];omega)]
 rw[<-hx]
 exact h9
theorem vU {α:Type} (f:α->List Value) (k:Nat) (hk: ∀x,(f x).length=k): ∀(l:List α) (i:Nat),i<l.length->(l.eraseIdx i).flatMap f=(l.flatMap f).take (i*k)++(l.flatMap f).drop (i*k+k):=by
 intro l
 induction l with
 |nil=>intro i h;simp at h
 |cons y l ih=>
  intro i h
  rw[List.flatMap_cons]
  cases i with
  |zero=>
   rw[List.eraseIdx_cons_zero,Nat.zero_mul,List.take_zero,List.nil_append,Nat.zero_add,List.drop_append,List.drop_of_length_le (by rw[hk];omega),hk,Nat.sub_self,List.drop_zero,List.nil_append]
  |succ i=>
   rw[List.eraseIdx_cons_succ,List.flatMap_cons,ih i (by simpa using h)]
   generalize l.flatMap f=X
   have h1:(f y).length<=(i+1)*k:=by rw[hk,Nat.succ_mul];omega
   have h2:(f y).length<=(i+1)*k+k:=by omega
   rw[List.take_append (l₁:=f y),kC h1,List.drop_append (l₁:=f y),List.drop_of_length_le h2,hk,List.nil_append,ni]
   rw[show(i+1)*k-k=i*k from by rw[Nat.succ_mul];omega,show(i+1)*k+k-k=i*k+k from by rw[Nat.succ_mul];omega]
theorem L8 (N:Nat) (w:World) (wb:Nat) (s:jI) (V:SV) (es:List KE) (ns:Value) (x:Nat) (hO:jO N w wb s V es) (hn:ru N w ns [(x:Int)]) (hG:Good s):Calls Tryz.prog 180 #[.pointer (some ⟨wb,0,none⟩),ns] w (qN N wb (jb s .lW [(x:Int)]) w):=by
 obtain⟨vt,vn,vw,vu,vr,vh,vk,vs⟩:=V
 obtain⟨o,cc,rfl⟩: ∃o c,vt= .slice o s.led.field.ax.length c:=aS (n:=s.led.field.ax.length) (hO.rows.own 0 _ rfl)
 have HO:=ae hO
 have gz:=eF hO
 obtain⟨b,c,rfl,hbN,hcs⟩:=hn
 have lb:b<w.heap.size:=by omega
 have lw:=hO.rows.lt
 have vC:=hO.rows.base
 have HW:Hid (∀W,Below N w W->b<W.heap.size/\ ∀(j:Nat) (h:j<[(x:Int)].length),W.cell? ⟨b,j,none⟩=some (iv [(x:Int)][j])):=ae (fun W hB=>⟨by have:=hB.size;omega,fun j h=>(iY (hB.block b hbN)).trans (hcs j h)⟩)
 obtain⟨c0,f0,l0⟩:=af hO.blk
 have oD:=hcs 0 (by simp)
 simp only[au] at oD
 have HB0:Hid (Below w.heap.size w w):=ae (aG _ _)
 have KJ:=hG.D7
 clear hO hcs hG
 go_enter Tryz.func180,Tryz.ntmps180
 go_wp2_with fail
 refine zg 8 [] none [] ?_
 simp only[zt]
 repeat ((first|refine zd ?_|refine zk ?_);simp only[zp])
 intro W1 hE hF
 have HB1:=ae (bg HB0.o hE.below)
 have LC:=ae (Ext.below hE)
 clear hE hF c0 f0 oD
 obtain⟨c1,f1,l1⟩:=af ((HB1.o.block _ lw).trans HO.o.blk)
 obtain⟨vN,hcs1⟩:=HW.o W1 (HB1.o.mono gz)
 have n10:=hcs1 0 (by simp)
 simp only[au] at n10
 clear hcs1
 go_wp2_with fail
 refine(iZ _ _ _).mono ?_
 rintro e W2 ⟨hb,⟨hc,rfl⟩|⟨hc,rfl⟩⟩
 rotate_left
 ·simp at hc
  simp only[jb,bT,bU,dw]
  (repeat (first|rw[aC (by omega)]|rw[ak (by omega)]))
  exact⟨rfl,(bg HB1.o hb).mono gz,.inr ⟨by simp,rfl⟩⟩
 simp at hc
 have HB2:=ae (bg HB1.o hb)
 have HS2:=ae hb
 have jK:=ae hc
 clear hb hc c1 f1 vN n10
 obtain⟨c2,f2,l2⟩:=af ((HB2.o.block _ lw).trans HO.o.blk)
 obtain⟨wS,hcs2⟩:=HW.o W2 (HB2.o.mono gz)
 have n20:=hcs2 0 (by simp)
 simp only[au] at n20
 clear hcs2
 go_wp2_with fail
 have hlt:=jK.o
 have KR:=HO.o.below HB2.o
 have h6:W2.ownsRow N 118 5 (.slice o s.led.field.ax.length cc) (s.led.field.ax.length) (dJ s.led.field.ax):=KR.rows.own 0 _ rfl
 obtain⟨g,rfl, -,hfg,hgl⟩:=gU h6 (by have:=jK.o;omega)
 have hg1:wb≠g:=fun e=>KR.rows.off 0 _ rfl (by rw[e];rfl)
 have hg2:b≠g:=fun e=>by have:=(h6.lt g rfl).1;omega
 have hg3:g≠wb:=fun e=>hg1 e.symm
 have hg4:g≠b:=fun e=>hg2 e.symm
 have jo:=ae KR
 have H6:=ae h6
 clear KR h6
 refine zg 13 [g] (some 12) [(12,⟨fun _ v=>v= .slice (some ⟨g,0,none⟩) (s.led.field.ax.length-1) cc,fun _ v Wx=>Wx.ownsRow N 118 5 (.slice (some ⟨g,0,none⟩) (s.led.field.ax.length-1) cc) (s.led.field.ax.length-1) ((dJ s.led.field.ax).take (x*5)++(dJ s.led.field.ax).drop (x*5+5))⟩)] ?_
 simp only[zt]
 repeat ((first|refine zd ?_|refine zk ?_);simp only[zp])
 refine bF _ (by rfl) (by rfl) ⟨_,rfl⟩ (fun W6 hE hF=>?_) (fun v Wa Wb ho hE=>?_) (fun v hv=>?_)
 ·have hE':Ext [] W2 W6:=hE
  refine dn 252 #[.slice (some ⟨g,0,none⟩) s.led.field.ax.length cc,iv x,iv (x+1)] (by go_simp;try rfl) ?_
  refine(RN N g _ cc x (dJ s.led.field.ax) W6 (aB (Ms:=[]) H6.o hE' (by simp)) (CW _) (by have:=jK.o;omega) (by omega)).mono ?_
  rintro e w' ⟨rfl,h1,h2⟩
  exact⟨_,rfl,rfl,h1,h2⟩
 ·exact aB (Ms:=[]) ho hE (by simp)
 obtain rfl:v= .slice (some ⟨g,0,none⟩) (s.led.field.ax.length-1) cc:=hv
 simp only[zp]
 intro W3 hE hF
 have ql:W3.ownsRow N 118 5 (.slice (some ⟨g,0,none⟩) (s.led.field.ax.length-1) cc) (s.led.field.ax.length-1) ((dJ s.led.field.ax).take (x*5)++(dJ s.led.field.ax).drop (x*5+5)):=hF _ (bD _)
 have gV:Ext [g] W2 W3:=hE
 have hbl:=(gV.block wb jo.o.rows.lt (by simpa using hg1)).trans jo.o.blk
 obtain⟨c3,f3,l3⟩:=af hbl
 have iP:=ae (ag gV (ag ql hbl))
 have pF:=ae (show Below N w W3 from(HB2.o.mono gz).trans ⟨gV.os,gV.tape,gV.output,gV.size,fun k hk=>gV.block k (by have:=HB2.o.size;omega) (fun h=>by have:=(H6.o.lt g rfl).1;have:=eY.1 h;omega)⟩)
 clear hE hF gV ql hbl hg1 hg2 hg3 hg4 hfg hgl c2 f2 wS n20
 go_wp2_with fail
 go_end0
 have q0:=jK.o
 simp only[jb,bT,bU,dw]
 (repeat (first|rw[aC (by omega)]|rw[ak (by omega)]))
 refine⟨pF.o.setCell vC _,.inl ⟨rfl,rfl,⟨.slice (some ⟨g,0,none⟩) (s.led.field.ax.length-1) cc,vn,vw,vu,vr,vh,vk,vs⟩,es,jo.o.put (i:=0) rfl ⟨118,5,.slice (some ⟨g,0,none⟩) (s.led.field.ax.length-1) cc,s.led.field.ax.length-1,(dJ s.led.field.ax).take (x*5)++(dJ s.led.field.ax).drop (x*5+5)⟩ iP.o.1 (fun m hm=>by rw[eY.1 hm];rfl) iP.o.2.1 (.inl rfl) (aI iP.o.2.2 _) (by simp only[iH,mP,Int.toNat_natCast];rw[List.length_eraseIdx_of_lt hlt,show dJ (s.led.field.ax.eraseIdx x)=_ from vU _ 5 (fun _=>rfl) s.led.field.ax x hlt];rfl) (jo.o.es)⟩⟩
theorem XM (N:Nat) (w:World) (wb:Nat) (s:jI) (V:SV) (es:List KE) (ns:Value) (x:Nat) (hO:jO N w wb s V es) (hn:ru N w ns [(x:Int)]) (hG:Good s):Calls Tryz.prog 184 #[.pointer (some ⟨wb,0,none⟩),ns] w (qN N wb (jb s .void [(x:Int)]) w):=by
 obtain⟨vt,vn,vw,vu,vr,vh,vk,vs⟩:=V
 obtain⟨o,cc,rfl⟩: ∃o c,vn= .slice o s.led.notes.length c:=aS (n:=s.led.notes.length) (hO.rows.own 1 _ rfl)
 have HO:=ae hO
 have gz:=eF hO
 obtain⟨b,c,rfl,hbN,hcs⟩:=hn
 have lb:b<w.heap.size:=by omega
 have lw:=hO.rows.lt
 have vC:=hO.rows.base
 have HW:Hid (∀W,Below N w W->b<W.heap.size/\ ∀(j:Nat) (h:j<[(x:Int)].length),W.cell? ⟨b,j,none⟩=some (iv [(x:Int)][j])):=ae (fun W hB=>⟨by have:=hB.size;omega,fun j h=>(iY (hB.block b hbN)).trans (hcs j h)⟩)
 obtain⟨c0,f0,l0⟩:=af hO.blk
 have oD:=hcs 0 (by simp)
 simp only[au] at oD
 have HB0:Hid (Below w.heap.size w w):=ae (aG _ _)
 have KJ:=hG.notes
 clear hO hcs hG
 go_enter Tryz.func184,Tryz.ntmps184
 go_wp2_with fail
 refine zg 10 [] none [] ?_
 simp only[zt]
 repeat ((first|refine zd ?_|refine zk ?_);simp only[zp])
 intro W1 hE hF
 have HB1:=ae (bg HB0.o hE.below)
 have LC:=ae (Ext.below hE)
 clear hE hF c0 f0 oD
 obtain⟨c1,f1,l1⟩:=af ((HB1.o.block _ lw).trans HO.o.blk)
 obtain⟨vN,hcs1⟩:=HW.o W1 (HB1.o.mono gz)
 have n10:=hcs1 0 (by simp)
 simp only[au] at n10
 clear hcs1
 go_wp2_with fail
 refine(iZ _ _ _).mono ?_
 rintro e W2 ⟨hb,⟨hc,rfl⟩|⟨hc,rfl⟩⟩
 rotate_left
 ·simp at hc
  simp only[jb,bT,bU,dw]
  (repeat (first|rw[aC (by omega)]|rw[ak (by omega)]))
  exact⟨rfl,(bg HB1.o hb).mono gz,.inr ⟨by simp,rfl⟩⟩
 simp at hc
 have HB2:=ae (bg HB1.o hb)
 have HS2:=ae hb
 have jK:=ae hc
 clear hb hc c1 f1 vN n10
 obtain⟨c2,f2,l2⟩:=af ((HB2.o.block _ lw).trans HO.o.blk)
 obtain⟨wS,hcs2⟩:=HW.o W2 (HB2.o.mono gz)
 have n20:=hcs2 0 (by simp)
 simp only[au] at n20
 clear hcs2
 go_wp2_with fail
 have hlt:=jK.o
 have KR:=HO.o.below HB2.o
 have h6:W2.ownsRow N 120 3 (.slice o s.led.notes.length cc) (s.led.notes.length) (aX s.led.notes):=KR.rows.own 1 _ rfl
 obtain⟨g,rfl, -,hfg,hgl⟩:=gU h6 (by have:=jK.o;omega)
 have hg1:wb≠g:=fun e=>KR.rows.off 1 _ rfl (by rw[e];rfl)
 have hg2:b≠g:=fun e=>by have:=(h6.lt g rfl).1;omega
 have hg3:g≠wb:=fun e=>hg1 e.symm
 have hg4:g≠b:=fun e=>hg2 e.symm
 have jo:=ae KR
 have H6:=ae h6
 clear KR h6
 refine zg 15 [g] (some 14) [(14,⟨fun _ v=>v= .slice (some ⟨g,0,none⟩) (s.led.notes.length-1) cc,fun _ v Wx=>Wx.ownsRow N 120 3 (.slice (some ⟨g,0,none⟩) (s.led.notes.length-1) cc) (s.led.notes.length-1) ((aX s.led.notes).take (x*3)++(aX s.led.notes).drop (x*3+3))⟩)] ?_
 simp only[zt]
 repeat ((first|refine zd ?_|refine zk ?_);simp only[zp])
 refine bF _ (by rfl) (by rfl) ⟨_,rfl⟩ (fun W6 hE hF=>?_) (fun v Wa Wb ho hE=>?_) (fun v hv=>?_)
 ·have hE':Ext [] W2 W6:=hE
  refine dn 254 #[.slice (some ⟨g,0,none⟩) s.led.notes.length cc,iv x,iv (x+1)] (by go_simp;try rfl) ?_
  refine(Oq N g _ cc x (aX s.led.notes) W6 (aB (Ms:=[]) H6.o hE' (by simp)) (uj _) (by have:=jK.o;omega) (by omega)).mono ?_
  rintro e w' ⟨rfl,h1,h2⟩
  exact⟨_,rfl,rfl,h1,h2⟩
 ·exact aB (Ms:=[]) ho hE (by simp)
 obtain rfl:v= .slice (some ⟨g,0,none⟩) (s.led.notes.length-1) cc:=hv
 simp only[zp]
 intro W3 hE hF
 have ql:W3.ownsRow N 120 3 (.slice (some ⟨g,0,none⟩) (s.led.notes.length-1) cc) (s.led.notes.length-1) ((aX s.led.notes).take (x*3)++(aX s.led.notes).drop (x*3+3)):=hF _ (bD _)
 have gV:Ext [g] W2 W3:=hE
 have hbl:=(gV.block wb jo.o.rows.lt (by simpa using hg1)).trans jo.o.blk
 obtain⟨c3,f3,l3⟩:=af hbl
 have iP:=ae (ag gV (ag ql hbl))
 have pF:=ae (show Below N w W3 from(HB2.o.mono gz).trans ⟨gV.os,gV.tape,gV.output,gV.size,fun k hk=>gV.block k (by have:=HB2.o.size;omega) (fun h=>by have:=(H6.o.lt g rfl).1;have:=eY.1 h;omega)⟩)
 clear hE hF gV ql hbl hg1 hg2 hg3 hg4 hfg hgl c2 f2 wS n20
 go_wp2_with fail
 go_end0
 have q0:=jK.o
 simp only[jb,bT,bU,dw]
 (repeat (first|rw[aC (by omega)]|rw[ak (by omega)]))
 refine⟨pF.o.setCell vC _,.inl ⟨rfl,rfl,⟨vt,.slice (some ⟨g,0,none⟩) (s.led.notes.length-1) cc,vw,vu,vr,vh,vk,vs⟩,es,jo.o.put (i:=1) rfl ⟨120,3,.slice (some ⟨g,0,none⟩) (s.led.notes.length-1) cc,s.led.notes.length-1,(aX s.led.notes).take (x*3)++(aX s.led.notes).drop (x*3+3)⟩ iP.o.1 (fun m hm=>by rw[eY.1 hm];rfl) iP.o.2.1 (.inl rfl) (aI iP.o.2.2 _) (by simp only[iH,nU,Int.toNat_natCast];rw[List.length_eraseIdx_of_lt hlt,show aX (s.led.notes.eraseIdx x)=_ from vU _ 3 (fun _=>rfl) s.led.notes x hlt];rfl) (jo.o.es)⟩⟩
theorem PS (N:Nat) (w:World) (wb:Nat) (s:jI) (V:SV) (es:List KE) (ns:Value) (x:Nat) (hO:jO N w wb s V es) (hn:ru N w ns [(x:Int)]) (hG:Good s):Calls Tryz.prog 190 #[.pointer (some ⟨wb,0,none⟩),ns] w (qN N wb (jb s .unread [(x:Int)]) w):=by
 obtain⟨vt,vn,vw,vu,vr,vh,vk,vs⟩:=V
 obtain⟨o,cc,rfl⟩: ∃o c,vr= .slice o s.heap.readings.length c:=aS (n:=s.heap.readings.length) (hO.rows.own 4 _ rfl)
 have HO:=ae hO
 have gz:=eF hO
 obtain⟨b,c,rfl,hbN,hcs⟩:=hn
 have lb:b<w.heap.size:=by omega
 have lw:=hO.rows.lt
 have vC:=hO.rows.base
 have HW:Hid (∀W,Below N w W->b<W.heap.size/\ ∀(j:Nat) (h:j<[(x:Int)].length),W.cell? ⟨b,j,none⟩=some (iv [(x:Int)][j])):=ae (fun W hB=>⟨by have:=hB.size;omega,fun j h=>(iY (hB.block b hbN)).trans (hcs j h)⟩)
 obtain⟨c0,f0,l0⟩:=af hO.blk
 have oD:=hcs 0 (by simp)
 simp only[au] at oD
 have HB0:Hid (Below w.heap.size w w):=ae (aG _ _)
 have KJ:=hG.reads
 clear hO hcs hG
 go_enter Tryz.func190,Tryz.ntmps190
 go_wp2_with fail
 refine zg 10 [] none [] ?_
 simp only[zt]
 repeat ((first|refine zd ?_|refine zk ?_);simp only[zp])
 intro W1 hE hF
 have HB1:=ae (bg HB0.o hE.below)
 have LC:=ae (Ext.below hE)
 clear hE hF c0 f0 oD
 obtain⟨c1,f1,l1⟩:=af ((HB1.o.block _ lw).trans HO.o.blk)
 obtain⟨vN,hcs1⟩:=HW.o W1 (HB1.o.mono gz)
 have n10:=hcs1 0 (by simp)
 simp only[au] at n10
 clear hcs1
 go_wp2_with fail
 refine(iZ _ _ _).mono ?_
 rintro e W2 ⟨hb,⟨hc,rfl⟩|⟨hc,rfl⟩⟩
 rotate_left
 ·simp at hc
  simp only[jb,bT,bU,dw]
  (repeat (first|rw[aC (by omega)]|rw[ak (by omega)]))
  exact⟨rfl,(bg HB1.o hb).mono gz,.inr ⟨by simp,rfl⟩⟩
 simp at hc
 have HB2:=ae (bg HB1.o hb)
 have HS2:=ae hb
 have jK:=ae hc
 clear hb hc c1 f1 vN n10
 obtain⟨c2,f2,l2⟩:=af ((HB2.o.block _ lw).trans HO.o.blk)
 obtain⟨wS,hcs2⟩:=HW.o W2 (HB2.o.mono gz)
 have n20:=hcs2 0 (by simp)
 simp only[au] at n20
 clear hcs2
 go_wp2_with fail
 have hlt:=jK.o
 have KR:=HO.o.below HB2.o
 have h6:W2.ownsRow N 122 3 (.slice o s.heap.readings.length cc) (s.heap.readings.length) (aX s.heap.readings):=KR.rows.own 4 _ rfl
 obtain⟨g,rfl, -,hfg,hgl⟩:=gU h6 (by have:=jK.o;omega)
 have hg1:wb≠g:=fun e=>KR.rows.off 4 _ rfl (by rw[e];rfl)
 have hg2:b≠g:=fun e=>by have:=(h6.lt g rfl).1;omega
 have hg3:g≠wb:=fun e=>hg1 e.symm
 have hg4:g≠b:=fun e=>hg2 e.symm
 have jo:=ae KR
 have H6:=ae h6
 clear KR h6
 refine zg 15 [g] (some 14) [(14,⟨fun _ v=>v= .slice (some ⟨g,0,none⟩) (s.heap.readings.length-1) cc,fun _ v Wx=>Wx.ownsRow N 122 3 (.slice (some ⟨g,0,none⟩) (s.heap.readings.length-1) cc) (s.heap.readings.length-1) ((aX s.heap.readings).take (x*3)++(aX s.heap.readings).drop (x*3+3))⟩)] ?_
 simp only[zt]
 repeat ((first|refine zd ?_|refine zk ?_);simp only[zp])
 refine bF _ (by rfl) (by rfl) ⟨_,rfl⟩ (fun W6 hE hF=>?_) (fun v Wa Wb ho hE=>?_) (fun v hv=>?_)
 ·have hE':Ext [] W2 W6:=hE
  refine dn 259 #[.slice (some ⟨g,0,none⟩) s.heap.readings.length cc,iv x,iv (x+1)] (by go_simp;try rfl) ?_
  refine(Oo N g _ cc x (aX s.heap.readings) W6 (aB (Ms:=[]) H6.o hE' (by simp)) (uj _) (by have:=jK.o;omega) (by omega)).mono ?_
  rintro e w' ⟨rfl,h1,h2⟩
  exact⟨_,rfl,rfl,h1,h2⟩
 ·exact aB (Ms:=[]) ho hE (by simp)
 obtain rfl:v= .slice (some ⟨g,0,none⟩) (s.heap.readings.length-1) cc:=hv
 simp only[zp]
 intro W3 hE hF
 have ql:W3.ownsRow N 122 3 (.slice (some ⟨g,0,none⟩) (s.heap.readings.length-1) cc) (s.heap.readings.length-1) ((aX s.heap.readings).take (x*3)++(aX s.heap.readings).drop (x*3+3)):=hF _ (bD _)
 have gV:Ext [g] W2 W3:=hE
 have hbl:=(gV.block wb jo.o.rows.lt (by simpa using hg1)).trans jo.o.blk
 obtain⟨c3,f3,l3⟩:=af hbl
 have iP:=ae (ag gV (ag ql hbl))
 have pF:=ae (show Below N w W3 from(HB2.o.mono gz).trans ⟨gV.os,gV.tape,gV.output,gV.size,fun k hk=>gV.block k (by have:=HB2.o.size;omega) (fun h=>by have:=(H6.o.lt g rfl).1;have:=eY.1 h;omega)⟩)
 clear hE hF gV ql hbl hg1 hg2 hg3 hg4 hfg hgl c2 f2 wS n20
 go_wp2_with fail
 go_end0
 have q0:=jK.o
 simp only[jb,bT,bU,dw]
 (repeat (first|rw[aC (by omega)]|rw[ak (by omega)]))
 refine⟨pF.o.setCell vC _,.inl ⟨rfl,rfl,⟨vt,vn,vw,vu,.slice (some ⟨g,0,none⟩) (s.heap.readings.length-1) cc,vh,vk,vs⟩,es,jo.o.put (i:=4) rfl ⟨122,3,.slice (some ⟨g,0,none⟩) (s.heap.readings.length-1) cc,s.heap.readings.length-1,(aX s.heap.readings).take (x*3)++(aX s.heap.readings).drop (x*3+3)⟩ iP.o.1 (fun m hm=>by rw[eY.1 hm];rfl) iP.o.2.1 (.inl rfl) (aI iP.o.2.2 _) (by simp only[iH,iL,Int.toNat_natCast];rw[List.length_eraseIdx_of_lt hlt,show aX (s.heap.readings.eraseIdx x)=_ from vU _ 3 (fun _=>rfl) s.heap.readings x hlt];rfl) (jo.o.es)⟩⟩
theorem UF (N:Nat) (w:World) (wb:Nat) (s:jI) (V:SV) (es:List KE) (ns:Value) (x:Nat) (hO:jO N w wb s V es) (hn:ru N w ns [(x:Int)]) (hG:Good s):Calls Tryz.prog 196 #[.pointer (some ⟨wb,0,none⟩),ns] w (qN N wb (jb s .ui [(x:Int)]) w):=by
 obtain⟨vt,vn,vw,vu,vr,vh,vk,vs⟩:=V
 obtain⟨o,cc,rfl⟩: ∃o c,vs= .slice o s.df.aJ.length c:=aS (n:=s.df.aJ.length) (hO.rows.own 7 _ rfl)
 have HO:=ae hO
 have gz:=eF hO
 obtain⟨b,c,rfl,hbN,hcs⟩:=hn
 have lb:b<w.heap.size:=by omega
 have lw:=hO.rows.lt
 have vC:=hO.rows.base
 have HW:Hid (∀W,Below N w W->b<W.heap.size/\ ∀(j:Nat) (h:j<[(x:Int)].length),W.cell? ⟨b,j,none⟩=some (iv [(x:Int)][j])):=ae (fun W hB=>⟨by have:=hB.size;omega,fun j h=>(iY (hB.block b hbN)).trans (hcs j h)⟩)
 obtain⟨c0,f0,l0⟩:=af hO.blk
 have oD:=hcs 0 (by simp)
 simp only[au] at oD
 have HB0:Hid (Below w.heap.size w w):=ae (aG _ _)
 have KJ:=hG.aJ
 clear hO hcs hG
 go_enter Tryz.func196,Tryz.ntmps196
 go_wp2_with fail
 refine zg 8 [] none [] ?_
 simp only[zt]
 repeat ((first|refine zd ?_|refine zk ?_);simp only[zp])
 intro W1 hE hF
 have HB1:=ae (bg HB0.o hE.below)
 have LC:=ae (Ext.below hE)
 clear hE hF c0 f0 oD
 obtain⟨c1,f1,l1⟩:=af ((HB1.o.block _ lw).trans HO.o.blk)
 obtain⟨vN,hcs1⟩:=HW.o W1 (HB1.o.mono gz)
 have n10:=hcs1 0 (by simp)
 simp only[au] at n10
 clear hcs1
 go_wp2_with fail
 refine(iZ _ _ _).mono ?_
 rintro e W2 ⟨hb,⟨hc,rfl⟩|⟨hc,rfl⟩⟩
 rotate_left
 ·simp at hc
  simp only[jb,bT,bU,dw]
  (repeat (first|rw[aC (by omega)]|rw[ak (by omega)]))
  exact⟨rfl,(bg HB1.o hb).mono gz,.inr ⟨by simp,rfl⟩⟩
 simp at hc
 have HB2:=ae (bg HB1.o hb)
 have HS2:=ae hb
 have jK:=ae hc
 clear hb hc c1 f1 vN n10
 obtain⟨c2,f2,l2⟩:=af ((HB2.o.block _ lw).trans HO.o.blk)
 obtain⟨wS,hcs2⟩:=HW.o W2 (HB2.o.mono gz)
 have n20:=hcs2 0 (by simp)
 simp only[au] at n20
 clear hcs2
 go_wp2_with fail
 have hlt:=jK.o
 have KR:=HO.o.below HB2.o
 have h6:W2.ownsRow N 124 4 (.slice o s.df.aJ.length cc) (s.df.aJ.length) (gG s.df.aJ):=KR.rows.own 7 _ rfl
 obtain⟨g,rfl, -,hfg,hgl⟩:=gU h6 (by have:=jK.o;omega)
 have hg1:wb≠g:=fun e=>KR.rows.off 7 _ rfl (by rw[e];rfl)
 have hg2:b≠g:=fun e=>by have:=(h6.lt g rfl).1;omega
 have hg3:g≠wb:=fun e=>hg1 e.symm
 have hg4:g≠b:=fun e=>hg2 e.symm
 have jo:=ae KR
 have H6:=ae h6
 clear KR h6
 refine zg 13 [g] (some 12) [(12,⟨fun _ v=>v= .slice (some ⟨g,0,none⟩) (s.df.aJ.length-1) cc,fun _ v Wx=>Wx.ownsRow N 124 4 (.slice (some ⟨g,0,none⟩) (s.df.aJ.length-1) cc) (s.df.aJ.length-1) ((gG s.df.aJ).take (x*4)++(gG s.df.aJ).drop (x*4+4))⟩)] ?_
 simp only[zt]
 repeat ((first|refine zd ?_|refine zk ?_);simp only[zp])
 refine bF _ (by rfl) (by rfl) ⟨_,rfl⟩ (fun W6 hE hF=>?_) (fun v Wa Wb ho hE=>?_) (fun v hv=>?_)
 ·have hE':Ext [] W2 W6:=hE
  refine dn 262 #[.slice (some ⟨g,0,none⟩) s.df.aJ.length cc,iv x,iv (x+1)] (by go_simp;try rfl) ?_
  refine(KZ N g _ cc x (gG s.df.aJ) W6 (aB (Ms:=[]) H6.o hE' (by simp)) (Nh _) (by have:=jK.o;omega) (by omega)).mono ?_
  rintro e w' ⟨rfl,h1,h2⟩
  exact⟨_,rfl,rfl,h1,h2⟩
 ·exact aB (Ms:=[]) ho hE (by simp)
 obtain rfl:v= .slice (some ⟨g,0,none⟩) (s.df.aJ.length-1) cc:=hv
 simp only[zp]
 intro W3 hE hF
 have ql:W3.ownsRow N 124 4 (.slice (some ⟨g,0,none⟩) (s.df.aJ.length-1) cc) (s.df.aJ.length-1) ((gG s.df.aJ).take (x*4)++(gG s.df.aJ).drop (x*4+4)):=hF _ (bD _)
 have gV:Ext [g] W2 W3:=hE
 have hbl:=(gV.block wb jo.o.rows.lt (by simpa using hg1)).trans jo.o.blk
 obtain⟨c3,f3,l3⟩:=af hbl
 have iP:=ae (ag gV (ag ql hbl))
 have pF:=ae (show Below N w W3 from(HB2.o.mono gz).trans ⟨gV.os,gV.tape,gV.output,gV.size,fun k hk=>gV.block k (by have:=HB2.o.size;omega) (fun h=>by have:=(H6.o.lt g rfl).1;have:=eY.1 h;omega)⟩)
 clear hE hF gV ql hbl hg1 hg2 hg3 hg4 hfg hgl c2 f2 wS n20
 go_wp2_with fail
 go_end0
 have q0:=jK.o
 simp only[jb,bT,bU,dw]
 (repeat (first|rw[aC (by omega)]|rw[ak (by omega)]))
 refine⟨pF.o.setCell vC _,.inl ⟨rfl,rfl,⟨vt,vn,vw,vu,vr,vh,vk,.slice (some ⟨g,0,none⟩) (s.df.aJ.length-1) cc⟩,es,jo.o.put (i:=7) rfl ⟨124,4,.slice (some ⟨g,0,none⟩) (s.df.aJ.length-1) cc,s.df.aJ.length-1,(gG s.df.aJ).take (x*4)++(gG s.df.aJ).drop (x*4+4)⟩ iP.o.1 (fun m hm=>by rw[eY.1 hm];rfl) iP.o.2.1 (.inl rfl) (aI iP.o.2.2 _) (by simp only[iH,fK,Int.toNat_natCast];rw[List.length_eraseIdx_of_lt hlt,show gG (s.df.aJ.eraseIdx x)=_ from vU _ 4 (fun _=>rfl) s.df.aJ x hlt];rfl) (jo.o.es)⟩⟩
theorem xH (last:Int) (p:Int->Bool):(iT last p).Nodup:=by
 unfold iT
 refine List.Pairwise.filter _ ?_
 refine List.Pairwise.map _ (fun a b h=>?_) List.nodup_range
 intro e;exact h (by omega)
theorem KL (last:Int) (p:Int->Bool):(iT last p).Pairwise (fun a b=>(decide (a<=b))=true):=by
 unfold iT
 refine List.Pairwise.filter _ ?_
 refine List.Pairwise.map _ (fun a b h=>?_) List.pairwise_le_range
 simpa using h
theorem BN (p:Int->Bool):(iT 4 p).length<=5:=by
 unfold iT
 refine ja (List.length_filter_le _ _) ?_
 simp
theorem VD (p:Int->Bool) (x:Int) (h0:0<=x) (h4:x<=4) (hx:(iT 4 p).contains x=false):((iT 4 p++[x]).mergeSort fun a b=>decide (a<=b))=iT 4 fun i=>i==x ||(iT 4 p).contains i:=by
 have hn: ¬x∈iT 4 p:=by
  intro h
  rw[List.contains_eq_mem,decide_eq_false_iff_not] at hx
  exact hx h
 have hp:(iT 4 p++[x]).mergeSort (fun a b=>decide (a<=b)) |>.Perm (iT 4 fun i=>i==x ||(iT 4 p).contains i):=by
  refine(List.mergeSort_perm _ _).trans ?_
  rw[List.perm_ext_iff_of_nodup]
  ·intro a
   rw[iK,eY]
   constructor
   ·rintro(h|rfl)
    ·have:=yA.1 h
     exact yA.2 ⟨this.1,by simp[List.contains_eq_mem,h]⟩
    ·exact yA.2 ⟨⟨h0,h4⟩,by simp⟩
   ·intro h
    replace h:=(yA.1 h).2
    simp only[Bool.or_eq_true,beq_iff_eq,List.contains_eq_mem,eH] at h
    exact h.symm
  ·rw[List.nodup_append]
   refine⟨xH 4 p,by simp,fun a ha b hb=>?_⟩
   rw[eY.1 hb]
   intro e;exact hn (e▸ha)
  ·exact xH 4 _
 refine hp.eq_of_pairwise (le:=fun a b=>(decide (a<=b))=true) (fun a b _ _ h1 h2=>?_) ?_ (KL 4 _)
 ·simp only[eH] at h1 h2;omega
 ·refine List.pairwise_mergeSort (fun a b c h1 h2=>?_) (fun a b=>?_) _
  ·simp only[eH] at*;omega
  ·simp only[Bool.or_eq_true,eH];omega
theorem erase_filter: ∀(l:List Int) (k:Nat) (x:Int),l.Nodup->l[k]? =some x->l.eraseIdx k=l.filter (fun i=>i !=x):=by
 intro l
 induction l with
 |nil=>intro k x _ h;cases h
 |cons y l ih=>
  intro k x hn h
  rw[List.nodup_cons] at hn
  cases k with
  |zero=>
   simp only[List.getElem?_cons_zero,Option.some.injEq] at h
   subst h
   rw[List.eraseIdx_cons_zero,List.filter_cons,ak (by simp)]
   symm
   rw[List.filter_eq_self]
   intro a ha
   simp only[bne_iff_ne,ne_eq]
   intro e;exact hn.1 (e▸ha)
  |succ k=>
   have hm:x∈l:=mO (i:=k) (by simpa using h)
   rw[List.eraseIdx_cons_succ,List.filter_cons,aC (by simp only[bne_iff_ne,ne_eq];intro e;exact hn.1 (e▸hm)),ih k x hn.2 (by simpa using h)]
theorem NY (p:Int->Bool) (k:Nat) (x:Int) (h:(iT 4 p)[k]? =some x):(iT 4 p).eraseIdx k=iT 4 fun i=>i !=x&&(iT 4 p).contains i:=by
 rw[erase_filter _ k x (xH 4 p) h]
 conv=>lhs;unfold iT
 conv=>rhs;unfold iT
 rw[List.filter_filter]
 apply List.filter_congr
 intro i hi
 have:(List.filter p (List.map (fun(k:Nat)=>(k:Int)) (List.range (4+1:Int).toNat))).contains i=p i:=by
  rw[Bool.eq_iff_iff,List.contains_iff_mem,List.mem_filter]
  exact⟨fun h=>h.2,fun h=>⟨hi,h⟩⟩
 rw[this]
theorem Vy (l:List Int) (v:Value) (n:Int) (w:World) (hv:aN w v l):Calls Tryz.prog 219 #[v,iv n] w (fun e w'=>w=w'/\((∃k:Nat,l[k]? =some n/\e= .returned (iv k))∨(l.contains n=false/\e= .returned (iv (-1))))):=by
 have hlen:=hv.len
 obtain⟨o,c,rfl⟩:=hv.open
 have HV:=ae hv
 clear hv
 go_enter Tryz.func219,Tryz.ntmps219
 go_wp2
 go_loop [4,5,8] (fun _ _ i=> ∃k:Nat,k<=l.length/\i= .int .i64 k/\(∀j (hj:j<l.length),j<k->l[j]≠n)) (fun _ _ i=>l.length-(intOf i).toNat)
 case atStart=>exact⟨0,bW _,rfl,fun j _ hj=>by omega⟩
 case round=>
  obtain⟨k,hk,rfl,hno⟩:=hrel
  have HN:=ae hno
  clear hno
  by_cases hlt:k<l.length
  ·obtain⟨b,off,rfl,hb,hc0⟩:=aN.cell HV.o hlt
   by_cases he:l[k]=n
   ·have he':(n==l[k])=true:=by simp[he]
    have HE:=ae he
    clear he
    go_wp2
    go_returns
    exact⟨rfl,.inl ⟨k,by rw[<-HE.o];exact dG hlt,by simp⟩⟩
   ·have he':(n==l[k])=false:=by simp;omega
    have HE:=ae he
    clear he
    go_wp2
    go_round
    case rel=>exact⟨k+1,by omega,by go_num,fun j hj hjk=>(by by_cases e:j=k;(subst e;exact HE.o);exact HN.o j hj (by omega))⟩
    case measure=>simp[intOf];omega
  ·have hkl:k=l.length:=by omega
   go_wp2
   go_returns
   refine⟨rfl,.inr ⟨?_,by simp⟩⟩
   intro hm
   obtain⟨j,hj,e⟩:=lV hm
   exact HN.o j hj (by omega) e
theorem PR (N:Nat) (w:World) (wb:Nat) (s:jI) (V:SV) (es:List KE) (ns:Value) (x:Int) (hO:jO N w wb s V es) (hn:ru N w ns [x]) (hG:Good s):Calls Tryz.prog 188 #[.pointer (some ⟨wb,0,none⟩),ns] w (qN N wb (jb s .oI [x]) w):=by
 obtain⟨vt,vn,vw,vu,vr,vh,vk,vs⟩:=V
 obtain⟨o,cc,rfl⟩: ∃o c,vu= .slice o s.heap.turns.length c:=aS (n:=s.heap.turns.length) (hO.rows.own 3 _ rfl)
 have HO:=ae hO
 have gz:=eF hO
 obtain⟨b,c,rfl,hbN,hcs⟩:=hn
 have lb:b<w.heap.size:=by omega
 have lw:=hO.rows.lt
 have vC:=hO.rows.base
 have HW:Hid (∀W,Below N w W->b<W.heap.size/\ ∀(j:Nat) (h:j<[x].length),W.cell? ⟨b,j,none⟩=some (iv [x][j])):=ae (fun W hB=>⟨by have:=hB.size;omega,fun j h=>(iY (hB.block b hbN)).trans (hcs j h)⟩)
 obtain⟨c0,f0,l0⟩:=af hO.blk
 have oD:=hcs 0 (by simp)
 simp only[au] at oD
 have HB0:Hid (Below w.heap.size w w):=ae (aG _ _)
 obtain⟨pt,hpt⟩:=hG.turns
 have KJ:s.heap.turns.length<=5:=by rw[hpt];exact BN pt
 have hl4:=hG.heap.1
 have HPT:=ae (ag hpt hl4)
 have h6:w.ownsRow N 3 1 (.slice o s.heap.turns.length cc) s.heap.turns.length (ah s.heap.turns):=hO.rows.own 3 _ rfl
 have H6:=ae h6
 clear hpt hl4 h6
 clear hO hcs hG
 go_enter Tryz.func188,Tryz.ntmps188
 go_wp2_with fail
 refine zg 9 [] none [] ?_
 simp only[zt]
 repeat ((first|refine zd ?_|refine zk ?_);simp only[zp])
 intro W1 hE hF
 have HB1:=ae (bg HB0.o hE.below)
 have LC:=ae (Ext.below hE)
 clear hE hF c0 f0 oD
 obtain⟨c1,f1,l1⟩:=af ((HB1.o.block _ lw).trans HO.o.blk)
 obtain⟨vN,hcs1⟩:=HW.o W1 (HB1.o.mono gz)
 have n10:=hcs1 0 (by simp)
 simp only[au] at n10
 clear hcs1
 have ZA:=aB (Ms:=[]) H6.o (Ext.az HB1.o) (by simp)
 have HX:=ae (Vy s.heap.turns _ x W1 (aP.dR ZA))
 clear ZA
 go_wp2_with fail
 refine HX.o.mono ?_
 clear HX
 rintro e w1 ⟨rfl,⟨k,hk,rfl⟩|⟨hno,rfl⟩⟩
 ·have hlt:=(jg.1 hk).1
  have HK:=ae hk
  have ajt:((k:Int)<0)=False:=by simp
  clear hk
  go_wp2_with fail
  refine(dV 7 [decide ((k:Int)<0)] W1 (by simp) _ (by simp[dE]) _ _ rfl).mono ?_
  rintro e W2 ⟨hb,⟨hc,rfl⟩|⟨hc,rfl⟩⟩
  rotate_left
  ·exfalso
   have h0:decide ((k:Int)<0)=false:=by simp
   rw[h0] at hc
   exact absurd hc (by decide)
  have HB2:=ae (bg HB1.o hb)
  clear hb hc c1 f1 n10 vN ajt
  obtain⟨c2,f2,l2⟩:=af ((HB2.o.block _ lw).trans HO.o.blk)
  obtain⟨wS,hcs2⟩:=HW.o W2 (HB2.o.mono gz)
  have n20:=hcs2 0 (by simp)
  simp only[au] at n20
  clear hcs2
  obtain⟨g,rfl, -,hfg,hgl⟩:=gU H6.o (by omega)
  have ZA:=aB (Ms:=[]) H6.o (Ext.az HB2.o) (by simp)
  have hg1:wb≠g:=fun e=>HO.o.rows.off 3 _ rfl (by rw[e];rfl)
  have HD:=ae (RP N g _ cc k (ah s.heap.turns) W2 ZA (jc _) hlt (by omega))
  clear ZA hfg hgl
  go_wp2_with fail
  refine HD.o.mono ?_
  rintro e W3 ⟨rfl,ql,gV⟩
  have hbl:=(gV.block wb l2 (by simpa using hg1)).trans ((HB2.o.block _ lw).trans HO.o.blk)
  obtain⟨c3,f3,l3⟩:=af hbl
  have iP:=ae (ag gV (ag ql hbl))
  have pF:=ae (show Below N w W3 from(HB2.o.mono gz).trans ⟨gV.os,gV.tape,gV.output,gV.size,fun k hk=>gV.block k (by have:=HB2.o.size;omega) (fun h=>by have:=(H6.o.lt g rfl).1;have:=eY.1 h;omega)⟩)
  clear gV ql hbl hg1 HD c2 f2 wS n20
  go_wp2_with fail
  go_end0
  have hcx:s.heap.turns.contains x=true:=by rw[List.contains_iff_mem];exact mO HK.o
  simp only[jb,List.getD_cons_zero,hcx]
  rw[ak (by simp)]
  have hne:iT s.heap.last (fun i=>i !=x&&s.heap.turns.contains i)=s.heap.turns.eraseIdx k:=by
   have hk:=HK.o
   rw[HPT.o.2,HPT.o.1] at*
   exact(NY pt k x hk).symm
  rw[hne]
  have hfe:ah (s.heap.turns.eraseIdx k)=(ah s.heap.turns).take k++(ah s.heap.turns).drop (k+1):=by
   unfold ah
   rw[List.eraseIdx_eq_take_drop_succ,List.map_append,List.map_take,List.map_drop]
  refine⟨pF.o.setCell vC _,.inl ⟨rfl,rfl,⟨vt,vn,vw,.slice (some ⟨g,0,none⟩) (s.heap.turns.length-1) cc,vr,vh,vk,vs⟩,es,(HO.o.below HB2.o).put (i:=3) rfl ⟨3,1,.slice (some ⟨g,0,none⟩) (s.heap.turns.length-1) cc,s.heap.turns.length-1,(ah s.heap.turns).take k++(ah s.heap.turns).drop (k+1)⟩ iP.o.1 (fun m hm=>by rw[eY.1 hm];rfl) iP.o.2.1 (.inl rfl) (aI iP.o.2.2 _) ?_ HO.o.es⟩⟩
  simp only[iH,iL]
  rw[List.length_eraseIdx_of_lt hlt,hfe]
  rfl
 ·have HN:=ae hno
  clear hno
  go_wp2_with fail
  refine(dV 7 [true] W1 (by simp) _ (by simp[dE]) _ _ rfl).mono ?_
  rintro e W2 ⟨hb,⟨hc,rfl⟩|⟨hc,rfl⟩⟩
  ·exfalso;simp at hc
  simp only[jb,List.getD_cons_zero,HN.o]
  rw[aC True.intro]
  exact⟨rfl,(bg HB1.o hb).mono gz,.inr ⟨by simp,rfl⟩⟩
theorem XP (N:Nat) (w:World) (wb:Nat) (s:jI) (V:SV) (es:List KE) (ns:Value) (x:Int) (hO:jO N w wb s V es) (hn:ru N w ns [x]) (hG:Good s) (hx:0<=x):Calls Tryz.prog 187 #[.pointer (some ⟨wb,0,none⟩),ns] w (qN N wb (jb s .turn [x]) w):=by
 obtain⟨vt,vn,vw,vu,vr,vh,vk,vs⟩:=V
 obtain⟨o,cc,rfl⟩: ∃o c,vu= .slice o s.heap.turns.length c:=aS (n:=s.heap.turns.length) (hO.rows.own 3 _ rfl)
 have HO:=ae hO
 have gz:=eF hO
 obtain⟨b,c,rfl,hbN,hcs⟩:=hn
 have lb:b<w.heap.size:=by omega
 have lw:=hO.rows.lt
 have vC:=hO.rows.base
 have HW:Hid (∀W,Below N w W->b<W.heap.size/\ ∀(j:Nat) (h:j<[x].length),W.cell? ⟨b,j,none⟩=some (iv [x][j])):=ae (fun W hB=>⟨by have:=hB.size;omega,fun j h=>(iY (hB.block b hbN)).trans (hcs j h)⟩)
 obtain⟨c0,f0,l0⟩:=af hO.blk
 have oD:=hcs 0 (by simp)
 simp only[au] at oD
 have HB0:Hid (Below w.heap.size w w):=ae (aG _ _)
 obtain⟨pt,hpt⟩:=hG.turns
 have KJ:s.heap.turns.length<=5:=by rw[hpt];exact BN pt
 have hl4:=hG.heap.1
 have HPT:=ae (ag hpt hl4)
 have h6:w.ownsRow N 3 1 (.slice o s.heap.turns.length cc) s.heap.turns.length (ah s.heap.turns):=hO.rows.own 3 _ rfl
 have H6:=ae h6
 clear hpt h6
 clear hO hcs hG
 go_enter Tryz.func187,Tryz.ntmps187
 go_wp2_with fail
 refine(xI x wb s _ w ((HB0.o.block _ lw).trans HO.o.blk) hl4).mono ?_
 rintro e W1 ⟨hb,⟨hc,rfl⟩|⟨hc,rfl⟩⟩
 rotate_left
 ·simp at hc
  simp only[jb,bT,bU,dw]
  (repeat (first|rw[aC (by omega)]|rw[ak (by omega)]))
  exact⟨rfl,(bg HB0.o hb).mono gz,.inr ⟨by simp,rfl⟩⟩
 simp at hc
 have HB1:=ae (bg HB0.o hb)
 have LC:=ae hb
 have jK:=ae hc
 clear hb hc c0 f0 oD
 obtain⟨c1,f1,l1⟩:=af ((HB1.o.block _ lw).trans HO.o.blk)
 obtain⟨vN,hcs1⟩:=HW.o W1 (HB1.o.mono gz)
 have n10:=hcs1 0 (by simp)
 simp only[au] at n10
 clear hcs1
 go_wp2_with fail
 refine zg 9 [] none [] ?_
 simp only[zt]
 repeat ((first|refine zd ?_|refine zk ?_);simp only[zp])
 intro W2 hE hF
 have HB2:=ae (bg HB1.o hE.below)
 have HS2:=ae (Ext.below hE)
 clear hE hF c1 f1 vN n10
 obtain⟨c2,f2,l2⟩:=af ((HB2.o.block _ lw).trans HO.o.blk)
 obtain⟨wS,hcs2⟩:=HW.o W2 (HB2.o.mono gz)
 have n20:=hcs2 0 (by simp)
 simp only[au] at n20
 clear hcs2
 have ZA:=aB (Ms:=[]) H6.o (Ext.az HB2.o) (by simp)
 have HX:=ae (iG s.heap.turns _ x W2 (aP.dR ZA))
 clear ZA
 go_wp2_with fail
 refine HX.o.mono ?_
 clear HX
 rintro e W3 ⟨rfl,hb⟩
 have HB3:=ae (bg HB2.o hb)
 obtain⟨q,hq⟩: ∃q,s.heap.turns.contains x=q:=⟨_,rfl⟩
 rw[hq]
 have HQQ:=ae hq
 clear hb hq c2 f2 wS n20
 obtain⟨c3,f3,l3⟩:=af ((HB3.o.block _ lw).trans HO.o.blk)
 obtain⟨Je,hcs3⟩:=HW.o W3 (HB3.o.mono gz)
 have n30:=hcs3 0 (by simp)
 simp only[au] at n30
 clear hcs3
 go_wp2_with fail
 refine(dV 6 [q] W3 (by simp) _ (by simp[dE]) _ _ rfl).mono ?_
 rintro e W4 ⟨hb,⟨hc,rfl⟩|⟨hc,rfl⟩⟩
 rotate_left
 ·obtain rfl:q=true:=(by cases q <;>simp_all)
  have q0:=jK.o
  have hqq:=HQQ.o;simp only[jb,List.getD_cons_zero,hqq];rw[ak (by omega),aC True.intro]
  exact⟨rfl,(bg HB3.o hb).mono gz,.inr ⟨by simp,rfl⟩⟩
 obtain rfl:q=false:=(by cases q <;>simp_all)
 have HB4:=ae (bg HB3.o hb)
 have Uu:=ae hb
 have qO:=ae hc
 clear hb hc c3 f3 Je n30
 obtain⟨c4,f4,l4⟩:=af ((HB4.o.block _ lw).trans HO.o.blk)
 obtain⟨Py,jV⟩:=HW.o W4 (HB4.o.mono gz)
 have n40:=jV 0 (by simp)
 simp only[au] at n40
 clear jV
 go_wp2_with fail
 obtain⟨Ms,hMs⟩: ∃Ms,Ms=(Value.slice o s.heap.turns.length cc).ownBlock.toList:=⟨_,rfl⟩
 have hO4:=HO.o.below HB4.o
 have hm1:wb∉Ms:=fun h=>hO4.rows.off 3 _ rfl (by rw[hMs] at h;exact dD.1 h)
 have hm2:b∉Ms:=fun h=>by have:=((hO4.rows.own 3 _ rfl).lt b (by rw[hMs] at h;exact dD.1 h)).1;omega
 have wH: ∀m∈Ms,m<W4.heap.size:=fun m h=>((hO4.rows.own 3 _ rfl).lt m (by rw[hMs] at h;exact dD.1 h)).2
 have HM:=ae hMs
 have jo:=ae hO4
 clear hMs hO4
 refine zg 12 Ms (some 11) [(10,Spec.slice W4.heap.size #[iv x] 3 1),(11,⟨fun _ v=> ∃o2 c2,v= .slice o2 (s.heap.turns.length+1) c2,fun _ v Wx=>Wx.ownsRow N 3 1 v (s.heap.turns.length+1) (ah s.heap.turns++[iv x])/\(v.ownBlock=(Value.slice o s.heap.turns.length cc).ownBlock∨ ∃q,v.ownBlock=some q/\W4.heap.size<=q)⟩)] ?_
 simp only[zt]
 repeat ((first|refine zd ?_|refine zk ?_);simp only[zp])
 refine dU W4.heap.size _ _ 1 (by rfl) (ai _) (by rfl) wH (by simp) (fun W hW=>by go_simp;try rfl) (fun b6=>?_)
 simp only[zp]
 repeat ((first|refine zd ?_|refine zk ?_);simp only[zp])
 refine bF _ (by rfl) (by rfl) (by exact⟨.slice none (s.heap.turns.length+1) 0,none,0,rfl⟩) (fun W6 hE hF=>?_) (fun v Wa Wb ho hE=>?_) (fun v hv=>?_)
 ·have hE':Ext [] W4 W6:=hE
  obtain⟨b',hb',hge,hcc⟩:=hF _ (bD _) (by kernel_rfl)
  cases hb'
  have hown6:W6.ownsRow N 3 1 (.slice o s.heap.turns.length cc) s.heap.turns.length (ah s.heap.turns):=aB (Ms:=[]) (jo.o.rows.own 3 _ rfl) hE' (by simp)
  have hsrc:aP 1 W6 (.slice (some ⟨b6,0,none⟩) 1 1) 1 ([iv x]):=aP.cZ 1 1 hcc rfl (by decide)
  refine Does.mono (dK qp (by rfl) (by rfl) hown6 (by rfl) hsrc (one_one x) (by omega) (by omega) (by have:=hE'.size;have:=HB4.o.size;omega)) ?_
  rintro v' W7 ⟨ho,hgr,hcase⟩
  refine⟨aS ho,⟨ho,?_⟩,⟨hgr.os,hgr.tape,hgr.output,hgr.size,fun b hb hn=>hgr.block b hb (fun e=>hn (by rw[HM.o];exact dD.2 e.symm))⟩⟩
  rcases hcase with h1|h1
  ·exact .inl h1
  ·exact .inr ⟨_,h1,hE'.size⟩
 ·exact⟨aB (Ms:=[]) ho.1 hE (by simp),ho.2⟩
 obtain⟨o7,c7,rfl⟩:=hv
 simp only[zp]
 intro W5 hE hF
 obtain⟨ql,zF⟩:=hF _ (bD _)
 have gV:Ext Ms W4 W5:=hE
 have hbl:=(gV.block wb jo.o.rows.lt hm1).trans jo.o.blk
 obtain⟨c5,f5,l5⟩:=af hbl
 have iP:=ae (ag gV (ag ql (ag zF hbl)))
 have Dp:Below N w W5:=(HB4.o.mono gz).trans ⟨gV.os,gV.tape,gV.output,gV.size,fun k hk=>gV.block k (by have:=HB4.o.size;omega) (fun h=>by have:=((jo.o.rows.own 3 _ rfl).lt k (by rw[HM.o] at h;exact dD.1 h)).1;omega)⟩
 have pF:=ae Dp
 clear hE hF gV ql zF hbl Dp hm1 hm2 wH c4 f4 Py n40
 go_upto_region 3 with(fail)
 refine dQ fun W6 pR=>?_
 have hO6:jO N W6 wb (iL s {s.heap with turns:=s.heap.turns++[x]}) ⟨vt,vn,vw,.slice o7 (s.heap.turns.length+1) c7,vr,vh,vk,vs⟩ es:=by
  rw[pR]
  exact jo.o.put (i:=3) rfl ⟨3,1,.slice o7 (s.heap.turns.length+1) c7,s.heap.turns.length+1,ah s.heap.turns++[iv x]⟩ iP.o.1 (fun m hm=>by rw[HM.o] at hm;exact dD.1 hm) iP.o.2.1 iP.o.2.2.1 (aI iP.o.2.2.2 _) (by simp[iH,iL,ah]) jo.o.es
 have qo:=ae (show Below N w W6 from by rw[pR];exact pF.o.setCell vC _)
 obtain⟨c6,f6,l6⟩:=af hO6.blk
 have h7:W6.ownsRow N 3 1 (.slice o7 (s.heap.turns.length+1) c7) (s.heap.turns++[x]).length (ah (s.heap.turns++[x])):=hO6.rows.own 3 _ rfl
 rw[dm,List.length_singleton] at h7
 obtain⟨g,rfl, -,hfg,hgl⟩:=gU h7 (by omega)
 obtain⟨cur,h7b,h7c,h7d,h7e,h7f,h7g⟩: ∃cur,N<=g/\W6.heap[g]? =some (.cells cur 3 (0,0))/\s.heap.turns.length+1<=c7/\c7<=maxLen/\cur.size=c7*1/\cur.toList.take ((s.heap.turns.length+1)*1)=ah (s.heap.turns++[x]):=by
  obtain⟨h1,⟨h2,_⟩|⟨g',cc',cs,h2,h3,h4,h5,h6,h7,h8⟩⟩:=h7
  ·cases h2
  ·cases h2;exact⟨cs,h3,h4,h5,h6,h7,h8⟩
 have hHo:=holds_of_blockI (ss:=s.heap.turns++[x]) h7c (by rw[dm,List.length_singleton, <-Nat.mul_one (s.heap.turns.length+1)];exact h7g)
 have hsort:=Go.Proofs.Tryz.slices_Sort_int g 0 c7 (s.heap.turns++[x]) W6 hHo hgl (by rw[dm,List.length_singleton];omega)
 rw[dm,List.length_singleton] at hsort
 have LG:=ae (ag hO6 (ag h7b (ag h7c (ag h7d (ag h7e h7f)))))
 have HST:=ae hsort
 clear pR hO6 h7 h7b h7c h7d h7e h7f h7g hHo hsort c5 f5
 go_wp2_with fail
 refine HST.o.mono ?_
 rintro e W9 ⟨rfl,n9,os,rfl⟩
 (try go_wp2_with fail)
 go_end0
 have q0:=jK.o
 have q1:=qO.o
 have hqq:=HQQ.o
 simp only[jb,List.getD_cons_zero,hqq]
 rw[ak (by omega),ak (by simp)]
 have hne:((s.heap.turns++[x]).mergeSort fun a b=>decide (a<=b))=iT s.heap.last (fun i=>i==x ||s.heap.turns.contains i):=by
  rw[HPT.o.2,HPT.o.1] at*
  exact VD pt x hx (by omega) hqq
 have hlen:((s.heap.turns++[x]).mergeSort fun a b=>decide (a<=b)).length=(s.heap.turns++[x]).length:=List.length_mergeSort _
 have hown:=ownsRow_sortedI (n:=n9) (os:=os) (ss:=s.heap.turns++[x]) hlen LG.o.2.1 LG.o.2.2.1 (by rw[dm,List.length_singleton];exact LG.o.2.2.2.1) LG.o.2.2.2.2.1 LG.o.2.2.2.2.2
 have hgb:=grownBy_sortedI (w:=W6) (g:=g) (n:=n9) (os:=os) ((s.heap.turns++[x]).mergeSort fun a b=>decide (a<=b)).toArray
 have hE9:Ext [g] W6 (Go.Sort.grow (Go.Sort.putRow (Value.int .i64) (Go.Sort.ahead W6 n9) g 0 ((s.heap.turns++[x]).mergeSort fun a b=>decide (a<=b)).toArray) os):=⟨hgb.os,hgb.tape,hgb.output,hgb.size,fun k hk hm=>hgb.block k hk (fun e=>hm (by simp[jw e]))⟩
 refine⟨qo.o.trans ⟨hE9.os,hE9.tape,hE9.output,hE9.size,fun k hk=>hE9.block k (by have:=qo.o.size;omega) (fun h=>by have:=LG.o.2.1;have:=eY.1 h;omega)⟩,.inl ⟨rfl,rfl,_,es,LG.o.1.over (i:=3) rfl (g:=g) rfl hE9 (ah ((s.heap.turns++[x]).mergeSort fun a b=>decide (a<=b))) ?_ ?_ rfl HO.o.es⟩⟩
 ·have h:=hown
  rw[dm,List.length_singleton] at h
  show World.ownsRow _ N 3 1 (.slice (some ⟨g,0,none⟩) (s.heap.turns.length+1) c7) (s.heap.turns++[x]).length _
  rw[dm,List.length_singleton]
  exact h
 ·rw[<-hne]
  simp only[iH,iL]
  rw[hlen]
  rfl
structure oZ (w:World) (s:jI) (V:SV) (es:List KE):Prop where
 wF:dS w V.wF s.led.field.ax
 TR:bI w V.TR s.led.notes
 bV:bM w V.bV s.heap.bV
 Ef:aN w V.Ef s.heap.turns
 MO:bI w V.MO s.heap.readings
 df:qV w V.hps V.cks V.trs es s.df
theorem oZ.below {w W:World} {s:jI} {V:SV} {es:List KE} (h:oZ w s V es) {B:Nat} (hb:Below B w W) (hB:w.heap.size<=B):oZ W s V es:=
 ⟨h.wF.below hb hB,h.TR.below hb hB,h.bV.below hb hB,h.Ef.below hb hB,h.MO.below hb hB,h.df.below hb hB⟩
theorem jO.st {N:Nat} {w:World} {wb:Nat} {s:jI} {V:SV} {es:List KE} (h:jO N w wb s V es):oZ w s V es where
 wF:=aP.dR (h.rows.own 0 _ rfl)
 TR:=aP.dR (h.rows.own 1 _ rfl)
 bV:=aP.dR (h.rows.own 2 _ rfl)
 Ef:=aP.dR (h.rows.own 3 _ rfl)
 MO:=aP.dR (h.rows.own 4 _ rfl)
 df:=⟨aP.dR (h.rows.own 5 _ rfl),⟨aP.dR (h.rows.own 6 _ rfl),fun e he=>by
  obtain⟨k,hk,rfl⟩:=lV he
  exact aP.dR (h.rows.own (8+k) _ (yx s V es (dG hk)))⟩,h.es,aP.dR (h.rows.own 7 _ rfl)⟩
def bH (s:jI):Int:=
 if fM s.led.field true≠0 then 11 else if iJ s.led≠0 then 9 else if uX s.heap≠0 then 3
 else if jA.jf s.heap s.heap.turns≠0 then 11 else if jA.mZ s.heap s.heap.turns=2 then 9
 else if pU s.df≠0 then 3 else if iV s.df true≠0 then 11 else 0
def aes (s:jI) (w:World) (e:Ending) (w':World):Prop:=
 Below w.heap.size w w'/\((bH s=0/\e= .returned (.tuple #[]))∨(bH s≠0/\e= .panicked (jW (bH s))))
theorem ad9 (f:bP) (tv:Value) (w:World) (ht:dS w tv f.ax):Calls Tryz.prog 15 #[fv f tv] w (fun e w'=>Below w.heap.size w w'/\ ∃v,e= .returned (.tuple #[v,iv (fM f true)])):=by
 refine(yj f tv w ht).mono ?_
 rintro e w' ⟨hb,⟨_,rfl⟩|⟨h0,v,rfl,_⟩⟩
 ·exact⟨hb,_,rfl⟩
 ·exact⟨hb,v,by rw[h0]⟩
theorem Jj (c:bJ) (hv nN tv:Value) (es:List KE) (w:World) (hc:qV w hv nN tv es c):Calls Tryz.prog 17 #[kv hv nN tv] w (fun e w'=>Below w.heap.size w w'/\ ∃v u,e= .returned (.tuple #[v,u,iv (iV c true)])):=by
 refine(xE c hv nN tv es w hc).mono ?_
 rintro e w' ⟨hb,⟨_,rfl⟩|⟨h0,v,u,rfl,_⟩⟩
 ·exact⟨hb,_,_,rfl⟩
 ·exact⟨hb,v,u,by rw[h0]⟩
theorem UQ (s:jI) (V:SV) (es:List KE) (w:World) (hS:oZ w s V es):Calls Tryz.prog 115 #[.agg (dL s V)] w (aes s w):=by
 obtain⟨vt,vn,vw,vu,vr,vh,vk,vs⟩:=V
 have HS:Hid (∀W,Below w.heap.size w W->oZ W s ⟨vt,vn,vw,vu,vr,vh,vk,vs⟩ es):=ae (fun W hb=>hS.below hb (ai _))
 obtain⟨w0,hw0⟩: ∃w0,w0=w.alloc (.cells (dL s ⟨vt,vn,vw,vu,vr,vh,vk,vs⟩) 46):=⟨_,rfl⟩
 have HB0:Hid (Below w.heap.size w w0):=ae (by rw[hw0];exact aj (aG _ _) _)
 have HK0:Hid (w0.heap[w.heap.size]? =some (.cells (dL s ⟨vt,vn,vw,vu,vr,vh,vk,vs⟩) 46 (0,0))):=ae (by rw[hw0];exact ay _ _)
 have hsz:w0.heap.size=w.heap.size+1:=by rw[hw0];simp
 clear hS
 go_enter Tryz.func115,Tryz.ntmps115
 go_upto_region 1 with(fail)
 refine dQ fun W1 hW1=>?_
 rw[<-hw0] at hW1
 subst hW1
 obtain⟨c0,f0,l0⟩:=af HK0.o
 clear hw0
 go_wp2_with fail
 have HB:=HB0
 have HK:=HK0
 refine(ad9 s.led.field _ _ (HS.o _ HB0.o).wF).mono ?_
 rintro e X1 ⟨hb,v,rfl⟩
 have HB1:=ae (bg HB.o hb)
 have XD:=ae ((hb.block _ l0).trans HK.o)
 obtain⟨c1,f1,l1⟩:=af XD.o
 clear hb c0 f0
 obtain⟨q0,hq0⟩: ∃q,fM s.led.field true=q:=⟨_,rfl⟩
 rw[hq0]
 have jK:=ae hq0
 clear hq0
 go_wp2_with fail
 refine(dV 11 [q0 !=0] X1 (by simp) _ (by simp[dE]) _ _ rfl).mono ?_
 rintro e X2 ⟨hb,⟨hc,rfl⟩|⟨hc,rfl⟩⟩
 rotate_left
 ·have hz:q0≠0:=by simpa using hc
  have hv:bH s=11:=by
   unfold bH
   simp only[jK.o]
   rw[aC hz]
  exact⟨rfl,bg HB1.o hb,.inr ⟨by rw[hv];decide,by rw[hv]⟩⟩
 have hz:q0=0:=by simpa using hc
 have HZ0:=ae hz
 have HB2:=ae (bg HB1.o hb)
 have HK2:=ae ((hb.block _ l1).trans XD.o)
 obtain⟨c2,f2,l2⟩:=af HK2.o
 clear hb hc hz c1 f1
 go_wp2_with fail
 refine(wL s.led vt vn _ (HS.o _ HB2.o).wF (HS.o _ HB2.o).TR).mono ?_
 rintro e X3 ⟨rfl,hb⟩
 have HB3:=ae (bg HB2.o hb)
 have Xl:=ae ((hb.block _ l2).trans HK2.o)
 obtain⟨c3,f3,l3⟩:=af Xl.o
 clear hb c2 f2
 obtain⟨q1,hq1⟩: ∃q,iJ s.led=q:=⟨_,rfl⟩
 rw[hq1]
 have qO:=ae hq1
 clear hq1
 go_wp2_with fail
 refine(dV 9 [q1 !=0] X3 (by simp) _ (by simp[dE]) _ _ rfl).mono ?_
 rintro e X4 ⟨hb,⟨hc,rfl⟩|⟨hc,rfl⟩⟩
 rotate_left
 ·have hz:q1≠0:=by simpa using hc
  have hv:bH s=9:=by
   unfold bH
   simp only[jK.o,qO.o]
   rw[ak (by have:=HZ0.o;omega)]
   rw[aC hz]
  exact⟨rfl,bg HB3.o hb,.inr ⟨by rw[hv];decide,by rw[hv]⟩⟩
 have hz:q1=0:=by simpa using hc
 have HZ1:=ae hz
 have HB4:=ae (bg HB3.o hb)
 have HK4:=ae ((hb.block _ l3).trans Xl.o)
 obtain⟨c4,f4,l4⟩:=af HK4.o
 clear hb hc hz c3 f3
 go_wp2_with fail
 refine(jA.uZ s.heap vw vu vr _ (HS.o _ HB4.o).bV (HS.o _ HB4.o).Ef (HS.o _ HB4.o).MO).mono ?_
 rintro e X5 ⟨rfl,hb⟩
 have pz:=ae (bg HB4.o hb)
 have XC:=ae ((hb.block _ l4).trans HK4.o)
 obtain⟨c5,f5,l5⟩:=af XC.o
 clear hb c4 f4
 obtain⟨q2,hq2⟩: ∃q,uX s.heap=q:=⟨_,rfl⟩
 rw[hq2]
 have wK:=ae hq2
 clear hq2
 go_wp2_with fail
 refine(dV 3 [q2 !=0] X5 (by simp) _ (by simp[dE]) _ _ rfl).mono ?_
 rintro e X6 ⟨hb,⟨hc,rfl⟩|⟨hc,rfl⟩⟩
 rotate_left
 ·have hz:q2≠0:=by simpa using hc
  have hv:bH s=3:=by
   unfold bH
   simp only[jK.o,qO.o,wK.o]
   rw[ak (by have:=HZ0.o;omega)]
   rw[ak (by have:=HZ1.o;omega)]
   rw[aC hz]
  exact⟨rfl,bg pz.o hb,.inr ⟨by rw[hv];decide,by rw[hv]⟩⟩
 have hz:q2=0:=by simpa using hc
 have HZ2:=ae hz
 have qo:=ae (bg pz.o hb)
 have HK6:=ae ((hb.block _ l5).trans XC.o)
 obtain⟨c6,f6,l6⟩:=af HK6.o
 clear hb hc hz c5 f5
 go_wp2_with fail
 refine(jA.yI s.heap vw vu vr vu s.heap.turns _ (HS.o _ qo.o).bV (HS.o _ qo.o).Ef (HS.o _ qo.o).MO (HS.o _ qo.o).Ef).mono ?_
 rintro e X7 ⟨rfl,hb⟩
 have yZ:=ae (bg qo.o hb)
 have wV:=ae ((hb.block _ l6).trans HK6.o)
 obtain⟨c7,f7,l7⟩:=af wV.o
 clear hb c6 f6
 obtain⟨q3,hq3⟩: ∃q,jA.jf s.heap s.heap.turns=q:=⟨_,rfl⟩
 rw[hq3]
 have Ha:=ae hq3
 clear hq3
 obtain⟨q4,hq4⟩: ∃q,jA.mZ s.heap s.heap.turns=q:=⟨_,rfl⟩
 rw[hq4]
 have Uw:=ae hq4
 clear hq4
 go_wp2_with fail
 refine(dV 11 [q3 !=0] X7 (by simp) _ (by simp[dE]) _ _ rfl).mono ?_
 rintro e X8 ⟨hb,⟨hc,rfl⟩|⟨hc,rfl⟩⟩
 rotate_left
 ·have hz:q3≠0:=by simpa using hc
  have hv:bH s=11:=by
   unfold bH
   simp only[jK.o,qO.o,wK.o,Ha.o,Uw.o]
   rw[ak (by have:=HZ0.o;omega)]
   rw[ak (by have:=HZ1.o;omega)]
   rw[ak (by have:=HZ2.o;omega)]
   rw[aC hz]
  exact⟨rfl,bg yZ.o hb,.inr ⟨by rw[hv];decide,by rw[hv]⟩⟩
 have hz:q3=0:=by simpa using hc
 have HZ3:=ae hz
 have pF:=ae (bg yZ.o hb)
 have HK8:=ae ((hb.block _ l7).trans wV.o)
 obtain⟨c8,f8,l8⟩:=af HK8.o
 clear hb hc hz c7 f7
 go_wp2_with fail
 go_wp2_with fail
 refine(dV 9 [q4==2] X8 (by simp) _ (by simp[dE]) _ _ rfl).mono ?_
 rintro e X9 ⟨hb,⟨hc,rfl⟩|⟨hc,rfl⟩⟩
 rotate_left
 ·have hz:q4=2:=by simpa using hc
  have hv:bH s=9:=by
   unfold bH
   simp only[jK.o,qO.o,wK.o,Ha.o,Uw.o]
   rw[ak (by have:=HZ0.o;omega)]
   rw[ak (by have:=HZ1.o;omega)]
   rw[ak (by have:=HZ2.o;omega)]
   rw[ak (by have:=HZ3.o;omega)]
   rw[aC hz]
  exact⟨rfl,bg pF.o hb,.inr ⟨by rw[hv];decide,by rw[hv]⟩⟩
 have hz:q4≠2:=by simpa using hc
 have HZ4:=ae hz
 have qR:=ae (bg pF.o hb)
 have Cm:=ae ((hb.block _ l8).trans HK8.o)
 obtain⟨c9,f9,l9⟩:=af Cm.o
 clear hb hc hz c8 f8
 go_wp2_with fail
 refine(FN s.df vh vk vs es _ (HS.o _ qR.o).df).mono ?_
 rintro e X10 ⟨rfl,hb⟩
 have Xo:=ae (bg qR.o hb)
 have ahL:=ae ((hb.block _ l9).trans Cm.o)
 obtain⟨c10,f10,l10⟩:=af ahL.o
 clear hb c9 f9
 obtain⟨q5,hq5⟩: ∃q,pU s.df=q:=⟨_,rfl⟩
 rw[hq5]
 have HQ5:=ae hq5
 clear hq5
 go_wp2_with fail
 refine(dV 3 [q5 !=0] X10 (by simp) _ (by simp[dE]) _ _ rfl).mono ?_
 rintro e X11 ⟨hb,⟨hc,rfl⟩|⟨hc,rfl⟩⟩
 rotate_left
 ·have hz:q5≠0:=by simpa using hc
  have hv:bH s=3:=by
   unfold bH
   simp only[jK.o,qO.o,wK.o,Ha.o,Uw.o,HQ5.o]
   rw[ak (by have:=HZ0.o;omega)]
   rw[ak (by have:=HZ1.o;omega)]
   rw[ak (by have:=HZ2.o;omega)]
   rw[ak (by have:=HZ3.o;omega)]
   rw[ak (by have:=HZ4.o;omega)]
   rw[aC hz]
  exact⟨rfl,bg Xo.o hb,.inr ⟨by rw[hv];decide,by rw[hv]⟩⟩
 have hz:q5=0:=by simpa using hc
 have HZ5:=ae hz
 have ach:=ae (bg Xo.o hb)
 have ahK:=ae ((hb.block _ l10).trans ahL.o)
 obtain⟨c11,f11,l11⟩:=af ahK.o
 clear hb hc hz c10 f10
 go_wp2_with fail
 refine(Jj s.df vh vk vs es _ (HS.o _ ach.o).df).mono ?_
 rintro e X12 ⟨hb,v1,v2,rfl⟩
 have ahT:=ae (bg ach.o hb)
 have ahJ:=ae ((hb.block _ l11).trans ahK.o)
 obtain⟨c12,f12,l12⟩:=af ahJ.o
 clear hb c11 f11
 obtain⟨q6,hq6⟩: ∃q,iV s.df true=q:=⟨_,rfl⟩
 rw[hq6]
 have HQ6:=ae hq6
 clear hq6
 go_wp2_with fail
 refine(dV 11 [q6 !=0] X12 (by simp) _ (by simp[dE]) _ _ rfl).mono ?_
 rintro e X13 ⟨hb,⟨hc,rfl⟩|⟨hc,rfl⟩⟩
 rotate_left
 ·have hz:q6≠0:=by simpa using hc
  have hv:bH s=11:=by
   unfold bH
   simp only[jK.o,qO.o,wK.o,Ha.o,Uw.o,HQ5.o,HQ6.o]
   rw[ak (by have:=HZ0.o;omega)]
   rw[ak (by have:=HZ1.o;omega)]
   rw[ak (by have:=HZ2.o;omega)]
   rw[ak (by have:=HZ3.o;omega)]
   rw[ak (by have:=HZ4.o;omega)]
   rw[ak (by have:=HZ5.o;omega)]
   rw[aC hz]
  exact⟨rfl,bg ahT.o hb,.inr ⟨by rw[hv];decide,by rw[hv]⟩⟩
 have hz:q6=0:=by simpa using hc
 have HZ6:=ae hz
 have ala:=ae (bg ahT.o hb)
 have akX:=ae ((hb.block _ l12).trans ahJ.o)
 obtain⟨c13,f13,l13⟩:=af akX.o
 clear hb hc hz c12 f12
 (try go_wp2_with fail)
 go_end0
 have hv:bH s=0:=by
  unfold bH
  simp only[jK.o,qO.o,wK.o,Ha.o,Uw.o,HQ5.o,HQ6.o]
  rw[ak (by have:=HZ0.o;omega)]
  rw[ak (by have:=HZ1.o;omega)]
  rw[ak (by have:=HZ2.o;omega)]
  rw[ak (by have:=HZ3.o;omega)]
  rw[ak (by have:=HZ4.o;omega)]
  rw[ak (by have:=HZ5.o;omega)]
  rw[ak (by have:=HZ6.o;omega)]
 exact⟨ala.o,.inl ⟨hv,rfl⟩⟩
theorem aiD:iq Tryz.prog 35 34 (rv (0,0)) 2 16:=⟨Tryz.underlying35,by kernel_rfl,rfl,by omega⟩
theorem Le (n:Nat) (xs:List Value) (v:Value) (w:World) (hv:aP 5 w v n xs) (h1: ∀u∈xs,u.oneCell'=true) (hlen:n<=1000):
 Calls Tryz.prog 199 #[v] w (Ec 118 5 n xs w):=by
 obtain⟨o,c,rfl⟩:=aP.open hv
 have HV:=ae hv
 have H1:=ae h1
 clear h1
 have hnil:=fun(w:World) a n c=>Lib.run_eql_slice_nil (P:=Tryz.prog) w 27 118 a n c 0 0 Tryz.underlying27
 cases o with
 |none=>
  obtain⟨hl,o,c',h0,h1,h2,h3,h4⟩:=hv
  cases h0
  obtain rfl:c=0:=h3 rfl
  obtain rfl:n=0:=by omega
  have hx:xs=[]:=jT (by simpa using hl)
  subst hx
  clear HV H1
  go_enter Tryz.func199,Tryz.ntmps199
  go_wp2
  go_returns
  exact⟨.slice none 0 0,by simp,⟨by simp,.inl ⟨rfl,rfl⟩⟩,aG _ _⟩
 |some a=>
  obtain⟨b,off,sp⟩:=a
  obtain rfl:sp=none:=by
   obtain⟨_,o,c',h0,h1,h2,h3,h4⟩:=hv
   cases h0
   exact(h4 _ rfl).1
  clear hv
  go_enter Tryz.func199,Tryz.ntmps199
  go_wp2_with (at_builtin;refine fQ rfl _ _ XU rfl w.heap.size (.slice (some ⟨w.heap.size,0,none⟩) 0 0) 0 [] rfl ?_ (.slice (some ⟨b,off,none⟩) n c) n xs rfl ?_ H1.o (by omega) (by omega) (by simp) ?_)
  ·exact iI (cs:= #[]) (n:=0) (ay _ _) rfl (ai _) (by decide)
  ·exact aP.alloc HV.o _
  ·intro v' w1 hown hgrow
   have HO:=ae hown
   have HG:=ae hgrow
   clear hown hgrow
   go_wp2
   go_returns
   refine⟨v',by simp,?_,?_⟩
   ·exact HO.o
   ·exact Below.grown (aj (aG _ _) _) HG.o (by simp) (fun k e=>by cases e;exact ai _)
theorem Ie (n:Nat) (xs:List Value) (v:Value) (w:World) (hv:aP 3 w v n xs) (h1: ∀u∈xs,u.oneCell'=true) (hlen:n<=1000):
 Calls Tryz.prog 200 #[v] w (Ec 120 3 n xs w):=by
 obtain⟨o,c,rfl⟩:=aP.open hv
 have HV:=ae hv
 have H1:=ae h1
 clear h1
 have hnil:=fun(w:World) a n c=>Lib.run_eql_slice_nil (P:=Tryz.prog) w 31 120 a n c 0 0 Tryz.underlying31
 cases o with
 |none=>
  obtain⟨hl,o,c',h0,h1,h2,h3,h4⟩:=hv
  cases h0
  obtain rfl:c=0:=h3 rfl
  obtain rfl:n=0:=by omega
  have hx:xs=[]:=jT (by simpa using hl)
  subst hx
  clear HV H1
  go_enter Tryz.func200,Tryz.ntmps200
  go_wp2
  go_returns
  exact⟨.slice none 0 0,by simp,⟨by simp,.inl ⟨rfl,rfl⟩⟩,aG _ _⟩
 |some a=>
  obtain⟨b,off,sp⟩:=a
  obtain rfl:sp=none:=by
   obtain⟨_,o,c',h0,h1,h2,h3,h4⟩:=hv
   cases h0
   exact(h4 _ rfl).1
  clear hv
  go_enter Tryz.func200,Tryz.ntmps200
  go_wp2_with (at_builtin;refine fQ rfl _ _ aaW rfl w.heap.size (.slice (some ⟨w.heap.size,0,none⟩) 0 0) 0 [] rfl ?_ (.slice (some ⟨b,off,none⟩) n c) n xs rfl ?_ H1.o (by omega) (by omega) (by simp) ?_)
  ·exact iI (cs:= #[]) (n:=0) (ay _ _) rfl (ai _) (by decide)
  ·exact aP.alloc HV.o _
  ·intro v' w1 hown hgrow
   have HO:=ae hown
   have HG:=ae hgrow
   clear hown hgrow
   go_wp2
   go_returns
   refine⟨v',by simp,?_,?_⟩
   ·exact HO.o
   ·exact Below.grown (aj (aG _ _) _) HG.o (by simp) (fun k e=>by cases e;exact ai _)
theorem Lc (n:Nat) (xs:List Value) (v:Value) (w:World) (hv:aP 2 w v n xs) (h1: ∀u∈xs,u.oneCell'=true) (hlen:n<=1000):
 Calls Tryz.prog 201 #[v] w (Ec 34 2 n xs w):=by
 obtain⟨o,c,rfl⟩:=aP.open hv
 have HV:=ae hv
 have H1:=ae h1
 clear h1
 have hnil:=fun(w:World) a n c=>Lib.run_eql_slice_nil (P:=Tryz.prog) w 35 34 a n c 0 0 Tryz.underlying35
 cases o with
 |none=>
  obtain⟨hl,o,c',h0,h1,h2,h3,h4⟩:=hv
  cases h0
  obtain rfl:c=0:=h3 rfl
  obtain rfl:n=0:=by omega
  have hx:xs=[]:=jT (by simpa using hl)
  subst hx
  clear HV H1
  go_enter Tryz.func201,Tryz.ntmps201
  go_wp2
  go_returns
  exact⟨.slice none 0 0,by simp,⟨by simp,.inl ⟨rfl,rfl⟩⟩,aG _ _⟩
 |some a=>
  obtain⟨b,off,sp⟩:=a
  obtain rfl:sp=none:=by
   obtain⟨_,o,c',h0,h1,h2,h3,h4⟩:=hv
   cases h0
   exact(h4 _ rfl).1
  clear hv
  go_enter Tryz.func201,Tryz.ntmps201
  go_wp2_with (at_builtin;refine fQ rfl _ _ aiD rfl w.heap.size (.slice (some ⟨w.heap.size,0,none⟩) 0 0) 0 [] rfl ?_ (.slice (some ⟨b,off,none⟩) n c) n xs rfl ?_ H1.o (by omega) (by omega) (by simp) ?_)
  ·exact iI (cs:= #[]) (n:=0) (ay _ _) rfl (ai _) (by decide)
  ·exact aP.alloc HV.o _
  ·intro v' w1 hown hgrow
   have HO:=ae hown
   have HG:=ae hgrow
   clear hown hgrow
   go_wp2
   go_returns
   refine⟨v',by simp,?_,?_⟩
   ·exact HO.o
   ·exact Below.grown (aj (aG _ _) _) HG.o (by simp) (fun k e=>by cases e;exact ai _)
theorem Ic (n:Nat) (xs:List Value) (v:Value) (w:World) (hv:aP 3 w v n xs) (h1: ∀u∈xs,u.oneCell'=true) (hlen:n<=1000):
 Calls Tryz.prog 202 #[v] w (Ec 122 3 n xs w):=by
 obtain⟨o,c,rfl⟩:=aP.open hv
 have HV:=ae hv
 have H1:=ae h1
 clear h1
 have hnil:=fun(w:World) a n c=>Lib.run_eql_slice_nil (P:=Tryz.prog) w 37 122 a n c 0 0 Tryz.underlying37
 cases o with
 |none=>
  obtain⟨hl,o,c',h0,h1,h2,h3,h4⟩:=hv
  cases h0
  obtain rfl:c=0:=h3 rfl
  obtain rfl:n=0:=by omega
  have hx:xs=[]:=jT (by simpa using hl)
  subst hx
  clear HV H1
  go_enter Tryz.func202,Tryz.ntmps202
  go_wp2
  go_returns
  exact⟨.slice none 0 0,by simp,⟨by simp,.inl ⟨rfl,rfl⟩⟩,aG _ _⟩
 |some a=>
  obtain⟨b,off,sp⟩:=a
  obtain rfl:sp=none:=by
   obtain⟨_,o,c',h0,h1,h2,h3,h4⟩:=hv
   cases h0
   exact(h4 _ rfl).1
  clear hv
  go_enter Tryz.func202,Tryz.ntmps202
  go_wp2_with (at_builtin;refine fQ rfl _ _ aaV rfl w.heap.size (.slice (some ⟨w.heap.size,0,none⟩) 0 0) 0 [] rfl ?_ (.slice (some ⟨b,off,none⟩) n c) n xs rfl ?_ H1.o (by omega) (by omega) (by simp) ?_)
  ·exact iI (cs:= #[]) (n:=0) (ay _ _) rfl (ai _) (by decide)
  ·exact aP.alloc HV.o _
  ·intro v' w1 hown hgrow
   have HO:=ae hown
   have HG:=ae hgrow
   clear hown hgrow
   go_wp2
   go_returns
   refine⟨v',by simp,?_,?_⟩
   ·exact HO.o
   ·exact Below.grown (aj (aG _ _) _) HG.o (by simp) (fun k e=>by cases e;exact ai _)
theorem Lh (n:Nat) (xs:List Value) (v:Value) (w:World) (hv:aP 2 w v n xs) (h1: ∀u∈xs,u.oneCell'=true) (hlen:n<=1000):
 Calls Tryz.prog 203 #[v] w (Ec 112 2 n xs w):=by
 obtain⟨o,c,rfl⟩:=aP.open hv
 have HV:=ae hv
 have H1:=ae h1
 clear h1
 have hnil:=fun(w:World) a n c=>Lib.run_eql_slice_nil (P:=Tryz.prog) w 40 112 a n c 0 0 Tryz.underlying40
 cases o with
 |none=>
  obtain⟨hl,o,c',h0,h1,h2,h3,h4⟩:=hv
  cases h0
  obtain rfl:c=0:=h3 rfl
  obtain rfl:n=0:=by omega
  have hx:xs=[]:=jT (by simpa using hl)
  subst hx
  clear HV H1
  go_enter Tryz.func203,Tryz.ntmps203
  go_wp2
  go_returns
  exact⟨.slice none 0 0,by simp,⟨by simp,.inl ⟨rfl,rfl⟩⟩,aG _ _⟩
 |some a=>
  obtain⟨b,off,sp⟩:=a
  obtain rfl:sp=none:=by
   obtain⟨_,o,c',h0,h1,h2,h3,h4⟩:=hv
   cases h0
   exact(h4 _ rfl).1
  clear hv
  go_enter Tryz.func203,Tryz.ntmps203
  go_wp2_with (at_builtin;refine fQ rfl _ _ afi rfl w.heap.size (.slice (some ⟨w.heap.size,0,none⟩) 0 0) 0 [] rfl ?_ (.slice (some ⟨b,off,none⟩) n c) n xs rfl ?_ H1.o (by omega) (by omega) (by simp) ?_)
  ·exact iI (cs:= #[]) (n:=0) (ay _ _) rfl (ai _) (by decide)
  ·exact aP.alloc HV.o _
  ·intro v' w1 hown hgrow
   have HO:=ae hown
   have HG:=ae hgrow
   clear hown hgrow
   go_wp2
   go_returns
   refine⟨v',by simp,?_,?_⟩
   ·exact HO.o
   ·exact Below.grown (aj (aG _ _) _) HG.o (by simp) (fun k e=>by cases e;exact ai _)
theorem Lj (n:Nat) (xs:List Value) (v:Value) (w:World) (hv:aP 1 w v n xs) (h1: ∀u∈xs,u.oneCell'=true) (hlen:n<=1000):
 Calls Tryz.prog 204 #[v] w (Ec 36 1 n xs w):=by
 obtain⟨o,c,rfl⟩:=aP.open hv
 have HV:=ae hv
 have H1:=ae h1
 clear h1
 have hnil:=fun(w:World) a n c=>Lib.run_eql_slice_nil (P:=Tryz.prog) w 41 36 a n c 0 0 Tryz.underlying41
 cases o with
 |none=>
  obtain⟨hl,o,c',h0,h1,h2,h3,h4⟩:=hv
  cases h0
  obtain rfl:c=0:=h3 rfl
  obtain rfl:n=0:=by omega
  have hx:xs=[]:=jT (by simpa using hl)
  subst hx
  clear HV H1
  go_enter Tryz.func204,Tryz.ntmps204
  go_wp2
  go_returns
  exact⟨.slice none 0 0,by simp,⟨by simp,.inl ⟨rfl,rfl⟩⟩,aG _ _⟩
 |some a=>
  obtain⟨b,off,sp⟩:=a
  obtain rfl:sp=none:=by
   obtain⟨_,o,c',h0,h1,h2,h3,h4⟩:=hv
   cases h0
   exact(h4 _ rfl).1
  clear hv
  go_enter Tryz.func204,Tryz.ntmps204
  go_wp2_with (at_builtin;refine fQ rfl _ _ afk rfl w.heap.size (.slice (some ⟨w.heap.size,0,none⟩) 0 0) 0 [] rfl ?_ (.slice (some ⟨b,off,none⟩) n c) n xs rfl ?_ H1.o (by omega) (by omega) (by simp) ?_)
  ·exact iI (cs:= #[]) (n:=0) (ay _ _) rfl (ai _) (by decide)
  ·exact aP.alloc HV.o _
  ·intro v' w1 hown hgrow
   have HO:=ae hown
   have HG:=ae hgrow
   clear hown hgrow
   go_wp2
   go_returns
   refine⟨v',by simp,?_,?_⟩
   ·exact HO.o
   ·exact Below.grown (aj (aG _ _) _) HG.o (by simp) (fun k e=>by cases e;exact ai _)
theorem Ld (n:Nat) (xs:List Value) (v:Value) (w:World) (hv:aP 4 w v n xs) (h1: ∀u∈xs,u.oneCell'=true) (hlen:n<=1000):
 Calls Tryz.prog 205 #[v] w (Ec 124 4 n xs w):=by
 obtain⟨o,c,rfl⟩:=aP.open hv
 have HV:=ae hv
 have H1:=ae h1
 clear h1
 have hnil:=fun(w:World) a n c=>Lib.run_eql_slice_nil (P:=Tryz.prog) w 42 124 a n c 0 0 Tryz.underlying42
 cases o with
 |none=>
  obtain⟨hl,o,c',h0,h1,h2,h3,h4⟩:=hv
  cases h0
  obtain rfl:c=0:=h3 rfl
  obtain rfl:n=0:=by omega
  have hx:xs=[]:=jT (by simpa using hl)
  subst hx
  clear HV H1
  go_enter Tryz.func205,Tryz.ntmps205
  go_wp2
  go_returns
  exact⟨.slice none 0 0,by simp,⟨by simp,.inl ⟨rfl,rfl⟩⟩,aG _ _⟩
 |some a=>
  obtain⟨b,off,sp⟩:=a
  obtain rfl:sp=none:=by
   obtain⟨_,o,c',h0,h1,h2,h3,h4⟩:=hv
   cases h0
   exact(h4 _ rfl).1
  clear hv
  go_enter Tryz.func205,Tryz.ntmps205
  go_wp2_with (at_builtin;refine fQ rfl _ _ aaU rfl w.heap.size (.slice (some ⟨w.heap.size,0,none⟩) 0 0) 0 [] rfl ?_ (.slice (some ⟨b,off,none⟩) n c) n xs rfl ?_ H1.o (by omega) (by omega) (by simp) ?_)
  ·exact iI (cs:= #[]) (n:=0) (ay _ _) rfl (ai _) (by decide)
  ·exact aP.alloc HV.o _
  ·intro v' w1 hown hgrow
   have HO:=ae hown
   have HG:=ae hgrow
   clear hown hgrow
   go_wp2
   go_returns
   refine⟨v',by simp,?_,?_⟩
   ·exact HO.o
   ·exact Below.grown (aj (aG _ _) _) HG.o (by simp) (fun k e=>by cases e;exact ai _)
theorem Bc (n:Nat) (xs:List Value) (v:Value) (w:World) (hv:aP 1 w v n xs) (h1: ∀u∈xs,u.oneCell'=true) (hlen:n<=1000):
 Calls Tryz.prog 98 #[v] w (Ec 3 1 n xs w):=by
 obtain⟨o,c,rfl⟩:=aP.open hv
 have HV:=ae hv
 have H1:=ae h1
 clear h1
 have hnil:=fun(w:World) a n c=>Lib.run_eql_slice_nil (P:=Tryz.prog) w 36 3 a n c 0 0 Tryz.underlying36
 cases o with
 |none=>
  obtain⟨hl,o,c',h0,h1,h2,h3,h4⟩:=hv
  cases h0
  obtain rfl:c=0:=h3 rfl
  obtain rfl:n=0:=by omega
  have hx:xs=[]:=jT (by simpa using hl)
  subst hx
  clear HV H1
  go_enter Tryz.func98,Tryz.ntmps98
  go_wp2
  go_returns
  exact⟨.slice none 0 0,by simp,⟨by simp,.inl ⟨rfl,rfl⟩⟩,aG _ _⟩
 |some a=>
  obtain⟨b,off,sp⟩:=a
  obtain rfl:sp=none:=by
   obtain⟨_,o,c',h0,h1,h2,h3,h4⟩:=hv
   cases h0
   exact(h4 _ rfl).1
  clear hv
  go_enter Tryz.func98,Tryz.ntmps98
  go_wp2_with (at_builtin;refine fQ rfl _ _ qp rfl w.heap.size (.slice (some ⟨w.heap.size,0,none⟩) 0 0) 0 [] rfl ?_ (.slice (some ⟨b,off,none⟩) n c) n xs rfl ?_ H1.o (by omega) (by omega) (by simp) ?_)
  ·exact iI (cs:= #[]) (n:=0) (ay _ _) rfl (ai _) (by decide)
  ·exact aP.alloc HV.o _
  ·intro v' w1 hown hgrow
   have HO:=ae hown
   have HG:=ae hgrow
   clear hown hgrow
   go_wp2
   go_returns
   refine⟨v',by simp,?_,?_⟩
   ·exact HO.o
   ·exact Below.grown (aj (aG _ _) _) HG.o (by simp) (fun k e=>by cases e;exact ai _)
end Go.Proofs.YthbpmepjmebolaaGreatDoor.Bk
end

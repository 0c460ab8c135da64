/-
  Texts of this claim, packed by a program: DH DI DJ DK DL DM DN DO DP.
-/
import Derived.WalkKit
import Derived.WalkLawsBesides
import Derived.WalkSpells
import Derived.Outline
import Derived.Handy
import Derived.KernelRfl
import Derived.Lib.Hide
import Derived.Sort.OwnSortedInts
import Derived.Lib.SliceRun
import Derived.Test.YthbpmepjmebolaaGreatDoorPA1
import Derived.Test.YthbpmepjmebolaaGreatDoorPA10
import Derived.Test.YthbpmepjmebolaaGreatDoorPA12
set_option maxHeartbeats 8000000
set_option maxRecDepth 100000
set_option linter.all false
section
namespace Go.Proofs.YthbpmepjmebolaaGreatDoor.Bk
open Go.RowKit Go.RG Go.SL Go.Shelf jC Go.TB Go.Proofs.YthbpmepjmebolaaGreatDoor.Be
theorem gZ {w:World} {N:Nat} {t:TypeId} {size:Nat} {o:Option Addr} {n c m:Nat} {xs:List Value} (h:w.ownsRow N t size (.slice o m c) n xs) (hn:0<n):
 ∃g,o=some ⟨g,0,none⟩/\(∀(j:Nat) (hj:j<xs.length),w.cell? ⟨g,j,none⟩=some xs[j])/\(∀j,w.frozen? ⟨g,j,none⟩=false)/\g<w.heap.size:=by
 obtain⟨h1,⟨h2,rfl⟩|⟨g,cc,cs,h2,h3,h4,h5,h6,h7,h8⟩⟩:=h
 ·omega
 ·cases h2
  obtain⟨k0,k1,k2⟩:=af h4
  refine⟨g,rfl,fun j hj=>?_,k1,k2⟩
  rw[k0, <-Array.getElem?_toList]
  have:(cs.toList.take (n*size))[j]? =some xs[j]:=by rw[h8];exact dA hj
  rw[List.getElem?_take] at this
  split at this
  ·exact this
  ·cases this
theorem lU {w:World} {N:Nat} {t:TypeId} {size:Nat} {g n c m:Nat} {xs:List Value} (h:w.ownsRow N t size (.slice (some ⟨g,0,none⟩) m c) n xs) (j:Nat) (u:Value):(w.setCell ⟨g,j,none⟩ u).ownsRow N t size (.slice (some ⟨g,0,none⟩) m c) n (xs.set j u):=by
 obtain⟨h1,⟨h2,rfl⟩|⟨g',cc,cs,h2,h3,h4,h5,h6,h7,h8⟩⟩:=h
 ·cases h2
 ·cases h2
  refine⟨by simpa using h1,.inr ⟨g,c,_,rfl,h3,aI h4 u,h5,h6,by simpa using h7,?_⟩⟩
  rw[<-h8,Array.toList_setIfInBounds,List.take_set]
theorem jE {α:Type} (f:α->List Value) (k:Nat) (hk: ∀x,(f x).length=k): ∀(l:List α) (i j:Nat) (x:α),l[i]? =some x->j<k->(l.flatMap f)[i*k+j]? =(f x)[j]? :=by
 intro l
 induction l with
 |nil=>intro i j x h _;cases h
 |cons y l ih=>
  intro i j x h hj
  rw[List.flatMap_cons]
  cases i with
  |zero=>
   simp only[List.getElem?_cons_zero,Option.some.injEq] at h
   subst h
   rw[vP (by rw[hk];omega)]
   congr 1
   omega
  |succ i=>
   rw[nT (by rw[hk,Nat.succ_mul];omega),hk]
   rw[show(i+1)*k+j-k=i*k+j from by rw[Nat.succ_mul];omega]
   exact ih i j x (by simpa using h) hj
theorem BQ {α:Type} (f:α->List Value) (k:Nat) (hk: ∀x,(f x).length=k): ∀(l:List α) (i j:Nat) (x y:α) (u:Value),l[i]? =some x->j<k->(f x).set j u=f y->(l.flatMap f).set (i*k+j) u=(l.set i y).flatMap f:=by
 intro l
 induction l with
 |nil=>intro i j x y u h _ _;cases h
 |cons z l ih=>
  intro i j x y u h hj hu
  rw[List.flatMap_cons]
  cases i with
  |zero=>
   simp only[List.getElem?_cons_zero,Option.some.injEq] at h
   subst h
   rw[List.set_append_left _ _ (by rw[hk];omega),List.set_cons_zero,List.flatMap_cons, <-hu]
   congr 2
   omega
  |succ i=>
   rw[qK _ _ (by rw[hk,Nat.succ_mul];omega),hk,List.set_cons_succ,List.flatMap_cons]
   rw[show(i+1)*k+j-k=i*k+j from by rw[Nat.succ_mul];omega,ih i j x y u (by simpa using h) hj hu]
theorem ZG (l:List dY) (i:Nat) (h:i<l.length):(aH l)[i*2+0]? =some (iv l[i].1)/\(aH l)[i*2+1]? =some (iv l[i].2):=
 ⟨jE _ 2 (fun _=>rfl) l i 0 _ (dA h) (by omega),jE _ 2 (fun _=>rfl) l i 1 _ (dA h) (by omega)⟩
theorem OB (l:List dY) (i:Nat) (h:i<l.length) (a b:Int):((aH l).set (i*2+0) (iv a)).set (i*2+1) (iv b)=aH (l.set i (a,b)):=by
 unfold aH
 rw[BQ _ 2 (fun _=>rfl) l i 0 _ (a,l[i].2) (iv a) (dA h) (by omega) rfl,BQ _ 2 (fun _=>rfl) (l.set i (a,l[i].2)) i 1 (a,l[i].2) (a,b) (iv b) (by simp[h]) (by omega) rfl]
 simp
theorem jX.over {N:Nat} {w W:World} {wb:Nat} {s s':jA} {V:SV} {es es':List KE} (h:jX N w wb s V es) {i:Nat} {r:Row} (hr:(iM s V es)[i]? =some r) {g:Nat} (hg:r.v.ownBlock=some g) (hE:Ext [g] w W) (xs:List Value)
 (ho:W.ownsRow N r.t r.size r.v r.n xs) (hrows:iM s' V es'=(iM s V es).set i ⟨r.t,r.size,r.v,r.n,xs⟩) (hsc:dD s' V=dD s V) (hes:es'.map (·.2)=s'.bP.aQ):jX N W wb s' V es':=by
 refine⟨?_,?_,hes⟩
 ·rw[hsc]
  refine(hE.block wb h.rows.lt (fun hm=>h.rows.off i r hr ?_)).trans h.blk
  rw[hg,dZ.1 hm]
 ·rw[hrows]
  exact h.rows.put hr ⟨r.t,r.size,r.v,r.n,xs⟩ hE (fun m hm=> .inr (.inr (by rw[hg,dZ.1 hm]))) ho (.inl rfl)
theorem aca (l:List ND) (i:Nat) (h:i<l.length):(dS l)[i*5+3]? =some (iv l[i].2.2.2.1)/\(dS l)[i*5+4]? =some (iv l[i].2.2.2.2):=
 ⟨jE _ 5 (fun _=>rfl) l i 3 _ (dA h) (by omega),jE _ 5 (fun _=>rfl) l i 4 _ (dA h) (by omega)⟩
theorem ab9 (l:List ND) (i:Nat) (h:i<l.length) (a b:Int):((dS l).set (i*5+3) (iv a)).set (i*5+4) (iv b)=dS (l.set i (l[i].1,l[i].2.1,l[i].2.2.1,(a,b))):=by
 unfold dS
 rw[BQ _ 5 (fun _=>rfl) l i 3 _ (l[i].1,l[i].2.1,l[i].2.2.1,(a,l[i].2.2.2.2)) (iv a) (dA h) (by omega) rfl,BQ _ 5 (fun _=>rfl) (l.set i (l[i].1,l[i].2.1,l[i].2.2.1,(a,l[i].2.2.2.2))) i 4 (l[i].1,l[i].2.1,l[i].2.2.1,(a,l[i].2.2.2.2)) (l[i].1,l[i].2.1,l[i].2.2.1,(a,b)) (iv b) (by simp[h]) (by omega) rfl]
 simp
theorem Zk {w:World} {g:Nat} {l:List ND} (h: ∀(j:Nat) (hj:j<(dS l).length),w.cell? ⟨g,j,none⟩=some (dS l)[j]) {i:Nat} (hi:i<l.length):w.cell? ⟨g,i*5+3,none⟩=some (iv l[i].2.2.2.1)/\w.cell? ⟨g,i*5+4,none⟩=some (iv l[i].2.2.2.2):=by
 obtain⟨h1,h2⟩:=aca l i hi
 obtain⟨k1,e1⟩:=jq.1 h1
 obtain⟨k2,e2⟩:=jq.1 h2
 exact⟨(h _ k1).trans (by rw[e1]),(h _ k2).trans (by rw[e2])⟩
theorem J4 {w:World} {g:Nat} {l:List dY} (h: ∀(j:Nat) (hj:j<(aH l).length),w.cell? ⟨g,j,none⟩=some (aH l)[j]) {i:Nat} (hi:i<l.length):w.cell? ⟨g,i*2,none⟩=some (iv l[i].1)/\w.cell? ⟨g,i*2+1,none⟩=some (iv l[i].2):=by
 obtain⟨h1,h2⟩:=ZG l i hi
 obtain⟨k1,e1⟩:=jq.1 h1
 obtain⟨k2,e2⟩:=jq.1 h2
 exact⟨(h _ k1).trans (by rw[e1]),(h _ k2).trans (by rw[e2])⟩
theorem Lt (N:Nat) (w:World) (wb:Nat) (s:jA) (V:SV) (es:List KE) (ns:Value) (x:Nat) (y:Int) (z:Int) (hO:jX N w wb s V es) (hn:sD N w ns [(x:Int),y,z]) (hG:fZ s) (hx:0<=y/\y<=9999):Calls Tryz.prog 186 #[.pointer (some ⟨wb,0,none⟩),ns] w (rJ N wb (iU s .bQ [(x:Int),y,z]) w):=by
 obtain⟨vt,vn,vw,vu,vr,vh,vk,vs⟩:=V
 obtain⟨o,cc,rfl⟩: ∃o c,vw= .slice o s.heap.bQ.length c:=aU (n:=s.heap.bQ.length) (hO.rows.own 2 _ rfl)
 have HO:=ae hO
 have gQ:=eU hO
 obtain⟨b,c,rfl,hbN,hcs⟩:=hn
 have lb:b<w.heap.size:=by omega
 have lw:=hO.rows.lt
 have wQ:=hO.rows.base
 have HW:Hid (∀W,Below N w W->b<W.heap.size/\ ∀(j:Nat) (h:j<[(x:Int),y,z].length),W.cell? ⟨b,j,none⟩=some (iv [(x:Int),y,z][j])):=ae (fun W hB=>⟨by have:=hB.size;omega,fun j h=>(jd (hB.block b hbN)).trans (hcs j h)⟩)
 obtain⟨c0,f0,l0⟩:=af hO.blk
 have pI:=hcs 0 (by simp)
 simp only[ax] at pI
 have n01:=hcs 1 (by simp)
 simp only[ax] at n01
 have n02:=hcs 2 (by simp)
 simp only[ax] at n02
 have HB0:Hid (Below w.heap.size w w):=ae (aG _ _)
 have hl4:=hG.heap.1
 have MO:=hG.CY
 have HR5:=ae MO
 clear MO
 clear hO hcs hG
 go_enter Tryz.func186,Tryz.ntmps186
 go_wp2_with fail
 refine(yH x wb s _ w ((HB0.o.block _ lw).trans HO.o.blk) hl4).mono ?_
 rintro e W1 ⟨hb,⟨hc,rfl⟩|⟨hc,rfl⟩⟩
 rotate_left
 ·simp at hc
  simp only[iU,dh,dm,dB]
  (repeat (first|rw[aC (by omega)]|rw[aj (by omega)]))
  exact⟨rfl,(aX HB0.o hb).mono gQ,.inr ⟨by simp,rfl⟩⟩
 simp at hc
 have HB1:=ae (aX HB0.o hb)
 have NF:=ae hb
 have jT:=ae hc
 clear hb hc c0 f0 pI n01 n02
 obtain⟨c1,f1,l1⟩:=af ((HB1.o.block _ lw).trans HO.o.blk)
 obtain⟨xg,hcs1⟩:=HW.o W1 (HB1.o.mono gQ)
 have n10:=hcs1 0 (by simp)
 simp only[ax] at n10
 have n11:=hcs1 1 (by simp)
 simp only[ax] at n11
 have n12:=hcs1 2 (by simp)
 simp only[ax] at n12
 clear hcs1
 go_wp2_with fail
 refine zg 6 [] none [] ?_
 simp only[zt]
 repeat ((first|refine zd ?_|refine zk ?_);simp only[zp])
 intro W2 hE hF
 have HB2:=ae (aX HB1.o hE.below)
 clear hE hF c1 f1 xg n10 n11 n12
 obtain⟨c2,f2,l2⟩:=af ((HB2.o.block _ lw).trans HO.o.blk)
 obtain⟨xX,hcs2⟩:=HW.o W2 (HB2.o.mono gQ)
 have n20:=hcs2 0 (by simp)
 simp only[ax] at n20
 have n21:=hcs2 1 (by simp)
 simp only[ax] at n21
 have n22:=hcs2 2 (by simp)
 simp only[ax] at n22
 clear hcs2
 go_wp2_with fail
 refine(Ak _ _ _ _ _ (by omega)).mono ?_
 rintro e W3 ⟨hb,⟨hc,rfl⟩|⟨hc,rfl⟩⟩
 rotate_left
 ·simp at hc
  have q0:=jT.o
  simp only[iU,dh,dm,dB]
  (repeat (first|rw[aC (by omega)]|rw[aj (by omega)]))
  exact⟨rfl,(aX HB2.o hb).mono gQ,.inr ⟨by simp,rfl⟩⟩
 simp at hc
 have HB3:=ae (aX HB2.o hb)
 have HS3:=ae hb
 have rM:=ae hc
 clear hb hc c2 f2 xX n20 n21 n22
 obtain⟨c3,f3,l3⟩:=af ((HB3.o.block _ lw).trans HO.o.blk)
 obtain⟨Kz,hcs3⟩:=HW.o W3 (HB3.o.mono gQ)
 have n30:=hcs3 0 (by simp)
 simp only[ax] at n30
 have n31:=hcs3 1 (by simp)
 simp only[ax] at n31
 have n32:=hcs3 2 (by simp)
 simp only[ax] at n32
 clear hcs3
 go_wp2_with fail
 refine zg 16 [] none [] ?_
 simp only[zt]
 repeat ((first|refine zd ?_|refine zk ?_);simp only[zp])
 intro W4 hE hF
 have HB4:=ae (aX HB3.o hE.below)
 clear hE hF c3 f3 Kz n30 n31 n32
 obtain⟨c4,f4,l4⟩:=af ((HB4.o.block _ lw).trans HO.o.blk)
 obtain⟨QY,kD⟩:=HW.o W4 (HB4.o.mono gQ)
 have n40:=kD 0 (by simp)
 simp only[ax] at n40
 have n41:=kD 1 (by simp)
 simp only[ax] at n41
 have n42:=kD 2 (by simp)
 simp only[ax] at n42
 clear kD
 have q0:=jT.o
 have hxl:x<s.heap.bQ.length:=by have:=HR5.o;omega
 have hown:=(HO.o.below HB4.o).rows.own 2 _ rfl
 obtain⟨g,rfl,hcg,hfg,hgl⟩:=gZ hown (by show 0<s.heap.bQ.length;omega)
 obtain⟨g0,g1⟩:=J4 hcg hxl
 clear hcg q0 hown
 go_wp2_with fail
 go_end0
 have q0:=jT.o
 have q1:=rM.o
 simp only[iU,dh,dm,dB]
 (repeat (first|rw[aC (by omega)]|rw[aj (by omega)]))
 simp only[Int.toNat_natCast]
 have AO:=HO.o.below HB4.o
 have hgN:N<=g:=((AO.rows.own 2 _ rfl).lt g rfl).1
 have hS:=(lU (lU (AO.rows.own 2 _ rfl) (x*2+0) (iv y)) (x*2+1) (iv z))
 simp only[OB _ _ hxl] at hS
 exact⟨(((HB4.o.mono gQ).setCell hgN _).setCell hgN _),.inl ⟨rfl,rfl,_,es,AO.over (i:=2) rfl (g:=g) rfl ((gI).trans gI) (aH (s.heap.bQ.set x (y,z))) hS (by simp[iM,nG,oP,iT,fQ]) rfl HO.o.es⟩⟩
theorem tq (N:Nat) (w:World) (wb:Nat) (s:jA) (V:SV) (es:List KE) (ns:Value) (x:Nat) (y:Int) (z:Int) (hO:jX N w wb s V es) (hn:sD N w ns [(x:Int),y,z]) (hx:0<=y/\y<=9999):Calls Tryz.prog 192 #[.pointer (some ⟨wb,0,none⟩),ns] w (rJ N wb (iU s .strong [(x:Int),y,z]) w):=by
 obtain⟨vt,vn,vw,vu,vr,vh,vk,vs⟩:=V
 obtain⟨o,cc,rfl⟩: ∃o c,vh= .slice o s.bP.heaps.length c:=aU (n:=s.bP.heaps.length) (hO.rows.own 5 _ rfl)
 have HO:=ae hO
 have gQ:=eU hO
 obtain⟨b,c,rfl,hbN,hcs⟩:=hn
 have lb:b<w.heap.size:=by omega
 have lw:=hO.rows.lt
 have wQ:=hO.rows.base
 have HW:Hid (∀W,Below N w W->b<W.heap.size/\ ∀(j:Nat) (h:j<[(x:Int),y,z].length),W.cell? ⟨b,j,none⟩=some (iv [(x:Int),y,z][j])):=ae (fun W hB=>⟨by have:=hB.size;omega,fun j h=>(jd (hB.block b hbN)).trans (hcs j h)⟩)
 obtain⟨c0,f0,l0⟩:=af hO.blk
 have pI:=hcs 0 (by simp)
 simp only[ax] at pI
 have n01:=hcs 1 (by simp)
 simp only[ax] at n01
 have n02:=hcs 2 (by simp)
 simp only[ax] at n02
 have HB0:Hid (Below w.heap.size w w):=ae (aG _ _)
 clear hO hcs
 go_enter Tryz.func192,Tryz.ntmps192
 go_wp2_with fail
 refine zg 10 [] none [] ?_
 simp only[zt]
 repeat ((first|refine zd ?_|refine zk ?_);simp only[zp])
 intro W1 hE hF
 have HB1:=ae (aX HB0.o hE.below)
 clear hE hF c0 f0 pI n01 n02
 obtain⟨c1,f1,l1⟩:=af ((HB1.o.block _ lw).trans HO.o.blk)
 obtain⟨xg,hcs1⟩:=HW.o W1 (HB1.o.mono gQ)
 have n10:=hcs1 0 (by simp)
 simp only[ax] at n10
 have n11:=hcs1 1 (by simp)
 simp only[ax] at n11
 have n12:=hcs1 2 (by simp)
 simp only[ax] at n12
 clear hcs1
 go_wp2_with fail
 refine(je _ _ _).mono ?_
 rintro e W2 ⟨hb,⟨hc,rfl⟩|⟨hc,rfl⟩⟩
 rotate_left
 ·simp at hc
  simp only[iU,dh,dm,dB]
  (repeat (first|rw[aC (by omega)]|rw[aj (by omega)]))
  exact⟨rfl,(aX HB1.o hb).mono gQ,.inr ⟨by simp,rfl⟩⟩
 simp at hc
 have HB2:=ae (aX HB1.o hb)
 have HS2:=ae hb
 have jT:=ae hc
 clear hb hc c1 f1 xg n10 n11 n12
 obtain⟨c2,f2,l2⟩:=af ((HB2.o.block _ lw).trans HO.o.blk)
 obtain⟨xX,hcs2⟩:=HW.o W2 (HB2.o.mono gQ)
 have n20:=hcs2 0 (by simp)
 simp only[ax] at n20
 have n21:=hcs2 1 (by simp)
 simp only[ax] at n21
 have n22:=hcs2 2 (by simp)
 simp only[ax] at n22
 clear hcs2
 go_wp2_with fail
 refine RX.gG (fun ps W'=> ¬(y<=z/\z<=100/\z<=y+9)/\ps=kG 2/\Below N w W') 16 [] none [(15,⟨fun _ v=>v=rv (y,z),fun _ _ _=>(y<=z/\z<=100/\z<=y+9)⟩)] (by rintro ps a1 Wx hdf ⟨h1,rfl,h3⟩;refine⟨hdf,wU (c:=2) h3 ?_ (by decide)⟩;have q0:=jT.o;simp only[iU,dh,dm,dB];(repeat (first|rw[aC (by omega)]|rw[aj (by omega)]))) (by as_aux_lemma=>kernel_rfl) (by as_aux_lemma=>kernel_rfl) ?_
 simp only[zt]
 repeat (refine RX.zd ?_;simp only[zp])
 refine RX.bJ _ (by rfl) (by rfl) ⟨_,rfl⟩ (fun Wq hE2 hF2=>?_) (fun v Wa Wb ho hE=>ho) (fun v hv=>?_)
 ·have hE':Ext [] W2 Wq:=hE2
  refine RX.dG 260 #[iv y,iv z,iv 9] (by go_simp;try rfl) ?_
  refine(wS y z 9 Wq (by omega)).mono ?_
  rintro e w' ⟨hb,⟨hc,rfl⟩|⟨hc,rfl⟩⟩
  ·exact .inl ⟨_,rfl,rfl,hc,Ext.az hb⟩
  ·exact .inr ⟨_,rfl,hc,rfl,(aX HB2.o (aX hE'.below hb)).mono gQ⟩
 obtain rfl:v=rv (y,z):=hv
 simp only[zp]
 intro W3 hE hF
 have hc:y<=z/\z<=100/\z<=y+9:=hF _ (bg _)
 have HB3:=ae (aX HB2.o (show Ext [] W2 W3 from hE).below)
 have rM:=ae hc
 clear hE hF hc c2 f2 xX n20 n21 n22
 obtain⟨c3,f3,l3⟩:=af ((HB3.o.block _ lw).trans HO.o.blk)
 obtain⟨Kz,hcs3⟩:=HW.o W3 (HB3.o.mono gQ)
 have n30:=hcs3 0 (by simp)
 simp only[ax] at n30
 have n31:=hcs3 1 (by simp)
 simp only[ax] at n31
 have n32:=hcs3 2 (by simp)
 simp only[ax] at n32
 clear hcs3
 have q0:=jT.o
 have hxl:x<s.bP.heaps.length:=by omega
 have hown:=(HO.o.below HB3.o).rows.own 5 _ rfl
 obtain⟨g,rfl,hcg,hfg,hgl⟩:=gZ hown (by show 0<s.bP.heaps.length;omega)
 obtain⟨g0,g1⟩:=J4 hcg hxl
 clear hcg q0 hown
 go_wp2_with fail
 go_end0
 have q0:=jT.o
 have q1:=rM.o
 simp only[iU,dh,dm,dB]
 (repeat (first|rw[aC (by omega)]|rw[aj (by omega)]))
 simp only[Int.toNat_natCast]
 have AO:=HO.o.below HB3.o
 have hgN:N<=g:=((AO.rows.own 5 _ rfl).lt g rfl).1
 have hS:=(lU (lU (AO.rows.own 5 _ rfl) (x*2+0) (iv y)) (x*2+1) (iv z))
 simp only[OB _ _ hxl] at hS
 exact⟨(((HB3.o.mono gQ).setCell hgN _).setCell hgN _),.inl ⟨rfl,rfl,_,es,AO.over (i:=5) rfl (g:=g) rfl ((gI).trans gI) (aH (s.bP.heaps.set x (y,z))) hS (by simp[iM,nG,oP,iT,fQ]) rfl HO.o.es⟩⟩
theorem Zf (N:Nat) (w:World) (wb:Nat) (s:jA) (V:SV) (es:List KE) (ns:Value) (x:Nat) (y:Int) (z:Int) (hO:jX N w wb s V es) (hn:sD N w ns [(x:Int),y,z]):Calls Tryz.prog 179 #[.pointer (some ⟨wb,0,none⟩),ns] w (rJ N wb (iU s .xP [(x:Int),y,z]) w):=by
 obtain⟨vt,vn,vw,vu,vr,vh,vk,vs⟩:=V
 obtain⟨o,cc,rfl⟩: ∃o c,vt= .slice o s.led.field.au.length c:=aU (n:=s.led.field.au.length) (hO.rows.own 0 _ rfl)
 have HO:=ae hO
 have gQ:=eU hO
 obtain⟨b,c,rfl,hbN,hcs⟩:=hn
 have lb:b<w.heap.size:=by omega
 have lw:=hO.rows.lt
 have wQ:=hO.rows.base
 have HW:Hid (∀W,Below N w W->b<W.heap.size/\ ∀(j:Nat) (h:j<[(x:Int),y,z].length),W.cell? ⟨b,j,none⟩=some (iv [(x:Int),y,z][j])):=ae (fun W hB=>⟨by have:=hB.size;omega,fun j h=>(jd (hB.block b hbN)).trans (hcs j h)⟩)
 obtain⟨c0,f0,l0⟩:=af hO.blk
 have pI:=hcs 0 (by simp)
 simp only[ax] at pI
 have n01:=hcs 1 (by simp)
 simp only[ax] at n01
 have n02:=hcs 2 (by simp)
 simp only[ax] at n02
 have HB0:Hid (Below w.heap.size w w):=ae (aG _ _)
 clear hO hcs
 go_enter Tryz.func179,Tryz.ntmps179
 go_wp2_with fail
 refine zg 8 [] none [] ?_
 simp only[zt]
 repeat ((first|refine zd ?_|refine zk ?_);simp only[zp])
 intro W1 hE hF
 have HB1:=ae (aX HB0.o hE.below)
 clear hE hF c0 f0 pI n01 n02
 obtain⟨c1,f1,l1⟩:=af ((HB1.o.block _ lw).trans HO.o.blk)
 obtain⟨xg,hcs1⟩:=HW.o W1 (HB1.o.mono gQ)
 have n10:=hcs1 0 (by simp)
 simp only[ax] at n10
 have n11:=hcs1 1 (by simp)
 simp only[ax] at n11
 have n12:=hcs1 2 (by simp)
 simp only[ax] at n12
 clear hcs1
 go_wp2_with fail
 refine(je _ _ _).mono ?_
 rintro e W2 ⟨hb,⟨hc,rfl⟩|⟨hc,rfl⟩⟩
 rotate_left
 ·simp at hc
  simp only[iU,dh,dm,dB]
  (repeat (first|rw[aC (by omega)]|rw[aj (by omega)]))
  exact⟨rfl,(aX HB1.o hb).mono gQ,.inr ⟨by simp,rfl⟩⟩
 simp at hc
 have HB2:=ae (aX HB1.o hb)
 have HS2:=ae hb
 have jT:=ae hc
 clear hb hc c1 f1 xg n10 n11 n12
 obtain⟨c2,f2,l2⟩:=af ((HB2.o.block _ lw).trans HO.o.blk)
 obtain⟨xX,hcs2⟩:=HW.o W2 (HB2.o.mono gQ)
 have n20:=hcs2 0 (by simp)
 simp only[ax] at n20
 have n21:=hcs2 1 (by simp)
 simp only[ax] at n21
 have n22:=hcs2 2 (by simp)
 simp only[ax] at n22
 clear hcs2
 go_wp2_with fail
 refine RX.gG (fun ps W'=> ¬(y<=z/\z<=s.led.field.rows)/\ps=kG 2/\Below N w W') 15 [] none [(14,⟨fun _ v=>v=rv (y,z),fun _ _ _=>(y<=z/\z<=s.led.field.rows)⟩)] (by rintro ps a1 Wx hdf ⟨h1,rfl,h3⟩;refine⟨hdf,wU (c:=2) h3 ?_ (by decide)⟩;have q0:=jT.o;simp only[iU,dh,dm,dB];(repeat (first|rw[aC (by omega)]|rw[aj (by omega)]))) (by as_aux_lemma=>kernel_rfl) (by as_aux_lemma=>kernel_rfl) ?_
 simp only[zt]
 repeat (refine RX.zd ?_;simp only[zp])
 refine RX.bJ _ (by rfl) (by rfl) ⟨_,rfl⟩ (fun Wq hE2 hF2=>?_) (fun v Wa Wb ho hE=>ho) (fun v hv=>?_)
 ·have hE':Ext [] W2 Wq:=hE2
  refine RX.dG 250 #[.pointer (some ⟨wb,0,none⟩),iv y,iv z] (by go_simp;try rfl) ?_
  refine(vC y z wb s _ Wq ((hE'.block _ (fP lw HB2.o.size) (by simp)).trans ((HB2.o.block _ lw).trans HO.o.blk))).mono ?_
  rintro e w' ⟨hb,⟨hc,rfl⟩|⟨hc,rfl⟩⟩
  ·exact .inl ⟨_,rfl,rfl,hc,Ext.az hb⟩
  ·exact .inr ⟨_,rfl,hc,rfl,(aX HB2.o (aX hE'.below hb)).mono gQ⟩
 obtain rfl:v=rv (y,z):=hv
 simp only[zp]
 intro W3 hE hF
 have hc:y<=z/\z<=s.led.field.rows:=hF _ (bg _)
 have HB3:=ae (aX HB2.o (show Ext [] W2 W3 from hE).below)
 have rM:=ae hc
 clear hE hF hc c2 f2 xX n20 n21 n22
 obtain⟨c3,f3,l3⟩:=af ((HB3.o.block _ lw).trans HO.o.blk)
 obtain⟨Kz,hcs3⟩:=HW.o W3 (HB3.o.mono gQ)
 have n30:=hcs3 0 (by simp)
 simp only[ax] at n30
 have n31:=hcs3 1 (by simp)
 simp only[ax] at n31
 have n32:=hcs3 2 (by simp)
 simp only[ax] at n32
 clear hcs3
 have q0:=jT.o
 have hxl:x<s.led.field.au.length:=by omega
 have hown:=(HO.o.below HB3.o).rows.own 0 _ rfl
 obtain⟨g,rfl,hcg,hfg,hgl⟩:=gZ hown (by show 0<s.led.field.au.length;omega)
 obtain⟨g0,g1⟩:=Zk hcg hxl
 clear hcg q0 hown
 go_wp2_with fail
 go_end0
 have q0:=jT.o
 have q1:=rM.o
 simp only[iU,dh,dm,dB]
 (repeat (first|rw[aC (by omega)]|rw[aj (by omega)]))
 simp only[Int.toNat_natCast,eY,dA hxl,Option.getD_some]
 have AO:=HO.o.below HB3.o
 have hgN:N<=g:=((AO.rows.own 0 _ rfl).lt g rfl).1
 have hS:=(lU (lU (AO.rows.own 0 _ rfl) (x*5+3) (iv y)) (x*5+4) (iv z))
 simp only[ab9 _ _ hxl] at hS
 exact⟨(((HB3.o.mono gQ).setCell hgN _).setCell hgN _),.inl ⟨rfl,rfl,_,es,AO.over (i:=0) rfl (g:=g) rfl ((gI).trans gI) (dS (s.led.field.au.set x (s.led.field.au[x].1,s.led.field.au[x].2.1,s.led.field.au[x].2.2.1,(y,z)))) hS (by simp[iM,nG,oP,iT,fQ]) rfl HO.o.es⟩⟩
theorem XE (x:Int) (w:World):Calls Tryz.prog 261 #[iv x] w (fun e w'=>e= .returned (.bool (decide (0<x)))/\w'=w):=by
 go_enter Tryz.func261,Tryz.ntmps261
 go_wp2
 go_returns
 exact⟨by simp,rfl⟩
theorem UC (l:List Int) (v:Value) (w:World) (hv:aP w v l):Calls Tryz.prog 138 #[v,.func (.func 261) #[] #[]] w (PV (.bool (l.any fun x=>decide (0<x))) w):=by
 refine(P8 l v 261 #[] #[] (fun k=>decide (0<l.getD k 0)) (fun _ W=>Below w.heap.size w W) w (enters_of Tryz.func261 (by kernel_rfl) rfl) (fun k W h=>hv.below h (ai _)) (fun k hk W _ h=>?_) (aG _ _)).mono ?_
 ·refine(XE l[k] W).mono ?_
  rintro e W' ⟨rfl,rfl⟩
  exact⟨by simp[hk],h⟩
 ·rintro e W' ⟨k,hk,hno,⟨hlt,hp,rfl,hI⟩|⟨hkl,rfl,hI⟩⟩
  ·refine⟨?_,hI⟩
   have:(l.any fun x=>decide (0<x))=true:=List.any_eq_true.2 ⟨l[k],bT _,by simpa [hlt] using hp⟩
   rw[this]
  ·refine⟨?_,hI⟩
   have:(l.any fun x=>decide (0<x))=false:=by
    rw[List.any_eq_false]
    intro x hx
    obtain⟨j,hj,rfl⟩:=mF hx
    have:=hno j (by omega)
    simpa [hj] using this
   rw[this]
theorem zu (s:jA) (V:SV) (es:List KE) {x:Nat} {e:KE} (h:es[x]? =some e):(iM s V es)[8+x]? =some (zN e):=by
 unfold iM
 rw[nT (by simp)]
 simp[h]
theorem Jj (s s':jA) (V:SV) (es:List KE) {x:Nat} {e:KE} (h:x<es.length) (hk:(e.1=(es[x]).1)) (hs:iM s' V es=iM s V es):iM s' V (es.set x e)=(iM s V es).set (8+x) (zN e):=by
 have h1:iM s' V (es.set x e)=(iM s' V es).set (8+x) (zN e):=by
  unfold iM
  have hkc:fD (es.set x e)=fD es:=by
   unfold fD
   rw[List.map_set,hk]
   apply List.ext_getElem
   ·simp
   ·intro j h1 h2
    rw[List.getElem_set]
    split
    ·rename_i hj;subst hj;simp
    ·rfl
  rw[hkc,List.map_set,qH,qK _ _ (by simp)]
  simp
 rw[h1,hs]
theorem aaU (N:Nat) (w:World) (wb:Nat) (s:jA) (V:SV) (es:List KE) (ns:Value) (x:Nat) (y:Nat) (z:Int) (hO:jX N w wb s V es) (hn:sD N w ns [(x:Int),(y:Int),z]) (hG:fZ s):Calls Tryz.prog 194 #[.pointer (some ⟨wb,0,none⟩),ns] w (rJ N wb (iU s .fill [(x:Int),(y:Int),z]) w):=by
 obtain⟨vt,vn,vw,vu,vr,vh,vk,vs⟩:=V
 obtain⟨ok,ck,rfl⟩: ∃o c,vk= .slice o es.length c:=aU (n:=es.length) (hO.rows.own 6 _ rfl)
 obtain⟨oh,ch,rfl⟩: ∃o c,vh= .slice o s.bP.heaps.length c:=aU (n:=s.bP.heaps.length) (hO.rows.own 5 _ rfl)
 have HO:=ae hO
 have gQ:=eU hO
 obtain⟨b,c,rfl,hbN,hcs⟩:=hn
 have lb:b<w.heap.size:=by omega
 have lw:=hO.rows.lt
 have wQ:=hO.rows.base
 have HW:Hid (∀W,Below N w W->b<W.heap.size/\ ∀(j:Nat) (h:j<[(x:Int),(y:Int),z].length),W.cell? ⟨b,j,none⟩=some (iv [(x:Int),(y:Int),z][j])):=ae (fun W hB=>⟨by have:=hB.size;omega,fun j h=>(jd (hB.block b hbN)).trans (hcs j h)⟩)
 obtain⟨c0,f0,l0⟩:=af hO.blk
 have pI:=hcs 0 (by simp)
 simp only[ax] at pI
 have n01:=hcs 1 (by simp)
 simp only[ax] at n01
 have n02:=hcs 2 (by simp)
 simp only[ax] at n02
 have HB0:Hid (Below w.heap.size w w):=ae (aG _ _)
 have hes:es.length=s.bP.aQ.length:=by rw[<-hO.es];simp
 have HCK:=ae (show ∀(j:Nat) (e:KE),es[j]? =some e->s.bP.aQ[j]? =some e.2/\e.2.length=s.bP.heaps.length from fun j e h=>by have h1:s.bP.aQ[j]? =some e.2:=(by rw[<-hO.es];simp[h]);exact⟨h1,(hG.oL _ (mG h1)).1⟩)
 have jT:=ae hes
 clear hes
 clear hO hcs hG
 go_enter Tryz.func194,Tryz.ntmps194
 go_wp2_with fail
 refine zg 8 [] none [] ?_
 simp only[zt]
 repeat ((first|refine zd ?_|refine zk ?_);simp only[zp])
 intro W1 hE hF
 have HB1:=ae (aX HB0.o hE.below)
 clear hE hF c0 f0 pI n01 n02
 obtain⟨c1,f1,l1⟩:=af ((HB1.o.block _ lw).trans HO.o.blk)
 obtain⟨xg,hcs1⟩:=HW.o W1 (HB1.o.mono gQ)
 have n10:=hcs1 0 (by simp)
 simp only[ax] at n10
 have n11:=hcs1 1 (by simp)
 simp only[ax] at n11
 have n12:=hcs1 2 (by simp)
 simp only[ax] at n12
 clear hcs1
 go_wp2_with fail
 refine(je _ _ _).mono ?_
 rintro e W2 ⟨hb,⟨hc,rfl⟩|⟨hc,rfl⟩⟩
 rotate_left
 ·simp at hc
  have q0:=jT.o
  simp only[iU,dh,dm,dB]
  (repeat (first|rw[aC (by omega)]|rw[aj (by omega)]))
  exact⟨rfl,(aX HB1.o hb).mono gQ,.inr ⟨by simp,rfl⟩⟩
 simp at hc
 have HB2:=ae (aX HB1.o hb)
 have HS2:=ae hb
 have rM:=ae hc
 clear hb hc c1 f1 xg n10 n11 n12
 obtain⟨c2,f2,l2⟩:=af ((HB2.o.block _ lw).trans HO.o.blk)
 obtain⟨xX,hcs2⟩:=HW.o W2 (HB2.o.mono gQ)
 have n20:=hcs2 0 (by simp)
 simp only[ax] at n20
 have n21:=hcs2 1 (by simp)
 simp only[ax] at n21
 have n22:=hcs2 2 (by simp)
 simp only[ax] at n22
 clear hcs2
 go_wp2_with fail
 refine zg 8 [] none [] ?_
 simp only[zt]
 repeat ((first|refine zd ?_|refine zk ?_);simp only[zp])
 intro W3 hE hF
 have HB3:=ae (aX HB2.o hE.below)
 clear hE hF c2 f2 xX n20 n21 n22
 obtain⟨c3,f3,l3⟩:=af ((HB3.o.block _ lw).trans HO.o.blk)
 obtain⟨Kz,hcs3⟩:=HW.o W3 (HB3.o.mono gQ)
 have n30:=hcs3 0 (by simp)
 simp only[ax] at n30
 have n31:=hcs3 1 (by simp)
 simp only[ax] at n31
 have n32:=hcs3 2 (by simp)
 simp only[ax] at n32
 clear hcs3
 go_wp2_with fail
 refine(je _ _ _).mono ?_
 rintro e W4 ⟨hb,⟨hc,rfl⟩|⟨hc,rfl⟩⟩
 rotate_left
 ·simp at hc
  have q0:=jT.o
  have q1:=rM.o
  simp only[iU,dh,dm,dB]
  (repeat (first|rw[aC (by omega)]|rw[aj (by omega)]))
  exact⟨rfl,(aX HB3.o hb).mono gQ,.inr ⟨by simp,rfl⟩⟩
 simp at hc
 have HB4:=ae (aX HB3.o hb)
 have VQ:=ae hb
 have xM:=ae hc
 clear hb hc c3 f3 Kz n30 n31 n32
 obtain⟨c4,f4,l4⟩:=af ((HB4.o.block _ lw).trans HO.o.blk)
 obtain⟨QY,kD⟩:=HW.o W4 (HB4.o.mono gQ)
 have n40:=kD 0 (by simp)
 simp only[ax] at n40
 have n41:=kD 1 (by simp)
 simp only[ax] at n41
 have n42:=kD 2 (by simp)
 simp only[ax] at n42
 clear kD
 go_wp2_with fail
 refine(eF 2 [decide (30<z)] W4 (by simp) _ (by simp[dN]) _ _ rfl).mono ?_
 rintro e W5 ⟨hb,⟨hc,rfl⟩|⟨hc,rfl⟩⟩
 rotate_left
 ·simp at hc
  have q0:=jT.o
  have q1:=rM.o
  have q2:=xM.o
  simp only[iU,dh,dm,dB]
  (repeat (first|rw[aC (by omega)]|rw[aj (by omega)]))
  exact⟨rfl,(aX HB4.o hb).mono gQ,.inr ⟨by simp,rfl⟩⟩
 simp at hc
 have nM:=ae (aX HB4.o hb)
 have HS5:=ae hb
 have Ja:=ae hc
 clear hb hc c4 f4 QY n40 n41 n42
 obtain⟨c5,f5,l5⟩:=af ((nM.o.block _ lw).trans HO.o.blk)
 obtain⟨lb5,uQ⟩:=HW.o W5 (nM.o.mono gQ)
 have n50:=uQ 0 (by simp)
 simp only[ax] at n50
 have n51:=uQ 1 (by simp)
 simp only[ax] at n51
 have n52:=uQ 2 (by simp)
 simp only[ax] at n52
 clear uQ
 go_wp2_with fail
 have q0:=jT.o
 have q1:=rM.o
 have q2:=xM.o
 have q3:=Ja.o
 have hxl:x<es.length:=by omega
 have hyl:y<s.bP.heaps.length:=by omega
 clear q0 q1 q2 q3
 obtain⟨ev,el,hel⟩: ∃ev el,es[x]? =some (ev,el):=⟨_,_,dA hxl⟩
 obtain⟨hcx,hlx⟩:s.bP.aQ[x]? =some el/\el.length=s.bP.heaps.length:=HCK.o x _ hel
 have hrow: ∀s' V',(iM s' V' es)[8+x]? =some (zN (ev,el)):=fun s' V'=>zu s' V' es hel
 obtain⟨oe,ce,rfl⟩: ∃o c,ev= .slice o el.length c:=aU (n:=el.length) ((HO.o.below nM.o).rows.own _ _ (hrow _ _))
 obtain⟨gk,rfl,hgk,hfk,hkl⟩:=gZ ((HO.o.below nM.o).rows.own 6 _ rfl) (by show 0<es.length;omega)
 have hgx:(fD es)[x]? =some (.slice oe el.length ce):=by simp[fD,hel]
 obtain⟨hg',eg'⟩:=jq.1 hgx
 have g6:=(hgk x hg').trans (by rw[eg'])
 clear hgx hg' eg'
 have VU:=ae (ag hel (ag hcx (ag hlx hrow)))
 clear hgk hel hcx hlx hrow
 obtain⟨gk0,ahV⟩: ∃gk0,gk0=gk:=⟨_,rfl⟩
 have HGK:=ae ahV
 clear ahV
 refine zg 15 [] none [] ?_
 simp only[zt]
 repeat ((first|refine zd ?_|refine zk ?_);simp only[zp])
 intro W6 hE hF
 have qo:=ae (aX nM.o hE.below)
 clear hE hF c5 f5 lb5 n50 n51 n52 g6
 obtain⟨c6,f6,l6⟩:=af ((qo.o.block _ lw).trans HO.o.blk)
 obtain⟨lb6,uP⟩:=HW.o W6 (qo.o.mono gQ)
 have n60:=uP 0 (by simp)
 simp only[ax] at n60
 have n61:=uP 1 (by simp)
 simp only[ax] at n61
 have n62:=uP 2 (by simp)
 simp only[ax] at n62
 clear uP
 obtain⟨g,rfl,hcg,hfg,hgl⟩:=gZ ((HO.o.below qo.o).rows.own _ _ (VU.o.2.2.2 _ _)) (by show 0<el.length;have:=VU.o.2.2.1;omega)
 have aeK:y<el.length:=by have:=VU.o.2.2.1;omega
 have g0:=hcg y (by simpa [zN,ah] using aeK)
 simp only[zN,ah,List.getElem_map] at g0
 have HY:=ae (ag hyl (ag hxl aeK))
 clear hcg hyl hxl
 go_wp2_with fail
 refine dH fun W7 qB=>?_
 have AO:=HO.o.below qo.o
 have hgN:N<=g:=((AO.rows.own _ _ (VU.o.2.2.2 _ _)).lt g rfl).1
 have hS:=lU (AO.rows.own _ _ (VU.o.2.2.2 _ _)) y (iv z)
 have hO2:jX N W7 wb (fQ s {s.bP with aQ:=s.bP.aQ.set x (el.set y z)}) ⟨vt,vn,vw,vu,vr,.slice oh s.bP.heaps.length ch,.slice (some ⟨gk,0,none⟩) es.length ck,vs⟩ (es.set x (.slice (some ⟨g,0,none⟩) el.length ce,el.set y z)):=by
  rw[qB]
  refine AO.over (i:=8+x) (VU.o.2.2.2 _ _) (g:=g) rfl gI (ah (el.set y z)) ?_ ?_ rfl ?_
  ·simpa [zN,ah,List.map_set] using hS
  ·refine(Jj s _ _ es HY.o.2.1 (by have:=(jq.1 VU.o.1).2;rw[this]) rfl).trans ?_
   simp[zN]
  ·show _=s.bP.aQ.set x (el.set y z)
   rw[List.map_set,HO.o.es]
 have xN:=ae (show Below N w W7 from by rw[qB];exact(qo.o.mono gQ).setCell hgN _)
 have Bd:=ae hO2
 clear qB AO hgN hS hO2 aeK hfg hgl g0 c6 f6 lb6 n60 n61 n62
 obtain⟨c7,f7,l7⟩:=af Bd.o.blk
 obtain⟨lb7,uO⟩:=HW.o W7 xN.o
 have n70:=uO 0 (by simp)
 simp only[ax] at n70
 have n71:=uO 1 (by simp)
 simp only[ax] at n71
 have n72:=uO 2 (by simp)
 simp only[ax] at n72
 obtain⟨gk2,alc,hgk,alf,hkl2⟩:=gZ (Bd.o.rows.own 6 _ rfl) (by show 0<(es.set x _).length;rw[qH];have:=HY.o.2.1;omega)
 cases alc
 have hgx:(fD (es.set x (.slice (some ⟨g,0,none⟩) el.length ce,el.set y z)))[x]? =some (.slice (some ⟨g,0,none⟩) el.length ce):=by simp[fD,HY.o.2.1]
 obtain⟨hg',eg'⟩:=jq.1 hgx
 have g6:=(hgk x hg').trans (by rw[eg'])
 have hxl:=HY.o.2.1
 clear hgx hg' eg' hgk uO
 refine zg 9 [] none [] ?_
 simp only[zt]
 repeat ((first|refine zd ?_|refine zk ?_);simp only[zp])
 intro W8 hE hF
 have hOw:=(Bd.o.below (Ext.below hE))
 have hIx:aP W8 (.slice (some ⟨g,0,none⟩) el.length ce) (el.set y z):=by
  have h:=hOw.rows.own (8+x) _ (zu _ _ _ (by rw[List.getElem?_set_self HY.o.2.1]))
  have h2:=aK.dR h
  exact h2
 have pO:=ae (xN.o.trans ((Ext.below hE).mono (eU Bd.o)))
 have HOw:=ae hOw
 have HAP:=ae (UC _ _ _ hIx)
 clear hE hF hOw hIx c7 f7 lb7 g6 alf n70 n71 n72
 go_wp2_with fail
 refine HAP.o.mono ?_
 rintro e W9 ⟨rfl,hb⟩
 have HS:=ae hb
 obtain⟨q,hq⟩: ∃q,((el.set y z).any fun x=>decide (0<x))=q:=⟨_,rfl⟩
 rw[hq]
 have VR:=ae hq
 clear hb hq HAP
 go_wp2_with fail
 refine(eF 8 [!q] W9 (by simp) _ (by simp[dN]) _ _ rfl).mono ?_
 rintro e FK ⟨hb,⟨hc,rfl⟩|⟨hc,rfl⟩⟩
 ·obtain rfl:q=true:=by cases q <;>simp_all
  go_wp2_with fail
  go_end0
  have q0:=jT.o
  have q1:=rM.o
  have q2:=xM.o
  have q3:=Ja.o
  simp only[iU,dB,Int.toNat_natCast];simp only[eY,VU.o.2.1,Option.getD_some,VR.o]
  rw[aj (by omega),aj (by omega),aj (by omega),aj (by simp)]
  exact⟨pO.o.trans ((aX HS.o hb).mono (eU HOw.o)),.inl ⟨rfl,rfl,_,_,HOw.o.below (aX HS.o hb)⟩⟩
 ·obtain rfl:q=false:=by cases q <;>simp_all
  have q0:=jT.o
  have q1:=rM.o
  have q2:=xM.o
  have q3:=Ja.o
  simp only[iU,dB,Int.toNat_natCast];simp only[eY,VU.o.2.1,Option.getD_some,VR.o]
  rw[aj (by omega),aj (by omega),aj (by omega),aC (by simp)]
  exact⟨rfl,pO.o.trans ((aX HS.o hb).mono (eU HOw.o)),.inr ⟨by simp,rfl⟩⟩
theorem abd (N:Nat) (w:World) (wb:Nat) (s:jA) (V:SV) (es:List KE) (ns:Value) (x:Nat) (y:Int) (hO:jX N w wb s V es) (hn:sD N w ns [(x:Int),y]) (hG:fZ s):Calls Tryz.prog 193 #[.pointer (some ⟨wb,0,none⟩),ns] w (rJ N wb (iU s .oL [(x:Int),y]) w):=by
 obtain⟨vt,vn,vw,vu,vr,vh,vk,vs⟩:=V
 obtain⟨oh,ch,rfl⟩: ∃o c,vh= .slice o s.bP.heaps.length c:=aU (n:=s.bP.heaps.length) (hO.rows.own 5 _ rfl)
 obtain⟨ok,ck,rfl⟩: ∃o c,vk= .slice o es.length c:=aU (n:=es.length) (hO.rows.own 6 _ rfl)
 have HO:=ae hO
 have gQ:=eU hO
 obtain⟨b,c,rfl,hbN,hcs⟩:=hn
 have lb:b<w.heap.size:=by omega
 have lw:=hO.rows.lt
 have wQ:=hO.rows.base
 have HW:Hid (∀W,Below N w W->b<W.heap.size/\ ∀(j:Nat) (h:j<[(x:Int),y].length),W.cell? ⟨b,j,none⟩=some (iv [(x:Int),y][j])):=ae (fun W hB=>⟨by have:=hB.size;omega,fun j h=>(jd (hB.block b hbN)).trans (hcs j h)⟩)
 obtain⟨c0,f0,l0⟩:=af hO.blk
 have pI:=hcs 0 (by simp)
 simp only[ax] at pI
 have n01:=hcs 1 (by simp)
 simp only[ax] at n01
 have HB0:Hid (Below w.heap.size w w):=ae (aG _ _)
 have hes:es.length=s.bP.aQ.length:=by rw[<-hO.es];simp
 have jT:=ae hes
 clear hes
 have Xw:=hG.yT
 have alk:=hG.aQ
 have hmk:=wE s.bP.heaps.length (by omega)
 clear hO hcs hG
 go_enter Tryz.func193,Tryz.ntmps193
 go_wp2_with fail
 refine zg 8 [] none [] ?_
 simp only[zt]
 repeat ((first|refine zd ?_|refine zk ?_);simp only[zp])
 intro W1 hE hF
 have HB1:=ae (aX HB0.o hE.below)
 have NF:=ae (Ext.below hE)
 clear hE hF c0 f0 pI n01
 obtain⟨c1,f1,l1⟩:=af ((HB1.o.block _ lw).trans HO.o.blk)
 obtain⟨xg,hcs1⟩:=HW.o W1 (HB1.o.mono gQ)
 have n10:=hcs1 0 (by simp)
 simp only[ax] at n10
 have n11:=hcs1 1 (by simp)
 simp only[ax] at n11
 clear hcs1
 go_wp2_with fail
 refine(je _ _ _).mono ?_
 rintro e W2 ⟨hb,⟨hc,rfl⟩|⟨hc,rfl⟩⟩
 rotate_left
 ·simp at hc
  have q0:=jT.o
  simp only[iU,dh,dm,dB]
  (repeat (first|rw[aC (by omega)]|rw[aj (by omega)]))
  exact⟨rfl,(aX HB1.o hb).mono gQ,.inr ⟨by simp,rfl⟩⟩
 simp at hc
 have HB2:=ae (aX HB1.o hb)
 have HS2:=ae hb
 have rM:=ae hc
 clear hb hc c1 f1 xg n10 n11
 obtain⟨c2,f2,l2⟩:=af ((HB2.o.block _ lw).trans HO.o.blk)
 obtain⟨xX,hcs2⟩:=HW.o W2 (HB2.o.mono gQ)
 have n20:=hcs2 0 (by simp)
 simp only[ax] at n20
 have n21:=hcs2 1 (by simp)
 simp only[ax] at n21
 clear hcs2
 go_wp2_with fail
 refine zg 8 [] none [] ?_
 simp only[zt]
 repeat ((first|refine zd ?_|refine zk ?_);simp only[zp])
 intro W3 hE hF
 have HB3:=ae (aX HB2.o hE.below)
 have HS3:=ae (Ext.below hE)
 clear hE hF c2 f2 xX n20 n21
 obtain⟨c3,f3,l3⟩:=af ((HB3.o.block _ lw).trans HO.o.blk)
 obtain⟨Kz,hcs3⟩:=HW.o W3 (HB3.o.mono gQ)
 have n30:=hcs3 0 (by simp)
 simp only[ax] at n30
 have n31:=hcs3 1 (by simp)
 simp only[ax] at n31
 clear hcs3
 go_wp2_with fail
 refine(eF 2 [y==0,decide (30<y)] W3 (by simp) _ (by simp[dN]) _ _ rfl).mono ?_
 rintro e W4 ⟨hb,⟨hc,rfl⟩|⟨hc,rfl⟩⟩
 rotate_left
 ·simp at hc
  have q0:=jT.o
  have q1:=rM.o
  simp only[iU,dh,dm,dB]
  (repeat (first|rw[aC (by omega)]|rw[aj (by omega)]))
  exact⟨rfl,(aX HB3.o hb).mono gQ,.inr ⟨by simp,rfl⟩⟩
 simp at hc
 have HB4:=ae (aX HB3.o hb)
 have VQ:=ae hb
 have xM:=ae hc
 clear hb hc c3 f3 Kz n30 n31
 obtain⟨c4,f4,l4⟩:=af ((HB4.o.block _ lw).trans HO.o.blk)
 obtain⟨QY,kD⟩:=HW.o W4 (HB4.o.mono gQ)
 have n40:=kD 0 (by simp)
 simp only[ax] at n40
 have n41:=kD 1 (by simp)
 simp only[ax] at n41
 clear kD
 go_wp2_with fail
 refine(qU _ _ _).mono ?_
 rintro e W5 ⟨hb,⟨hc,rfl⟩|⟨hc,rfl⟩⟩
 rotate_left
 ·simp at hc
  have q0:=jT.o
  have q1:=rM.o
  have q2:=xM.o
  simp only[iU,dh,dm,dB]
  (repeat (first|rw[aC (by omega)]|rw[aj (by omega)]))
  exact⟨rfl,(aX HB4.o hb).mono gQ,.inr ⟨by simp,rfl⟩⟩
 simp at hc
 have nM:=ae (aX HB4.o hb)
 have HS5:=ae hb
 have Ja:=ae hc
 clear hb hc c4 f4 QY n40 n41
 obtain⟨c5,f5,l5⟩:=af ((nM.o.block _ lw).trans HO.o.blk)
 obtain⟨lb5,uQ⟩:=HW.o W5 (nM.o.mono gQ)
 have n50:=uQ 0 (by simp)
 simp only[ax] at n50
 have n51:=uQ 1 (by simp)
 simp only[ax] at n51
 clear uQ
 go_wp2_with fail
 refine dH fun W6 qB=>?_
 obtain⟨b9,rW⟩: ∃b9,b9=W5.heap.size:=⟨_,rfl⟩
 have hHk:W6.heap[b9]? =some (.cells (ah (List.replicate s.bP.heaps.length 0)).toArray 3 (0,0)):=by rw[qB,rW];exact ay _ _
 have qo:=ae (show Below w.heap.size w W6 from by rw[qB];exact ak nM.o _)
 have Vy:Ext [] W5 W6:=by rw[qB];exact Ext.az (ak (aG _ _) _)
 have H9:=ae (ag hHk (ag Vy rW))
 rw[<-rW]
 clear qB hHk Vy rW hmk c5 f5 lb5 n50 n51
 obtain⟨c6,f6,l6⟩:=af ((qo.o.block _ lw).trans HO.o.blk)
 obtain⟨lb6,uP⟩:=HW.o W6 (qo.o.mono gQ)
 have n60:=uP 0 (by simp)
 simp only[ax] at n60
 have n61:=uP 1 (by simp)
 simp only[ax] at n61
 clear uP
 have ZY:b9<W6.heap.size:=(aV.1 H9.o.1).1
 refine zg 7 [] none [] ?_
 simp only[zt]
 repeat ((first|refine zd ?_|refine zk ?_);simp only[zp])
 intro W7 hE hF
 have xN:=ae (aX qo.o hE.below)
 have HS7:=ae (Ext.below hE)
 clear hE hF c6 f6 lb6 n60 n61
 obtain⟨c7,f7,l7⟩:=af ((xN.o.block _ lw).trans HO.o.blk)
 obtain⟨lb7,uO⟩:=HW.o W7 (xN.o.mono gQ)
 have n70:=uO 0 (by simp)
 simp only[ax] at n70
 have n71:=uO 1 (by simp)
 simp only[ax] at n71
 clear uO
 have q0:=jT.o
 have q1:=rM.o
 have hxl:x<s.bP.heaps.length:=by omega
 have hk9:=(HS7.o.block _ ZY).trans H9.o.1
 obtain⟨k9,p9,r9⟩:=af hk9
 have g0:W7.cell? ⟨b9,x,none⟩=some (iv 0):=(k9 x).trans (by simp[ah,hxl])
 have H7:=ae hk9
 clear k9 hk9
 go_upto_region 6 with(fail)
 refine dH fun W8 qB=>?_
 have rW:W5.heap.size<=b9:=by have:=H9.o.2.2;omega
 have hH8:W8.heap[b9]? =some (.cells ((ah (List.replicate s.bP.heaps.length 0)).toArray.setIfInBounds x (iv y)) 3 (0,0)):=by rw[qB];exact aI H7.o _
 have afo:Below W5.heap.size W5 W8:=by rw[qB];exact(aX H9.o.2.1.below HS7.o).setCell rW _
 have pO:=ae (aX nM.o afo)
 have hown:W8.ownsRow N 3 1 (.slice (some ⟨b9,0,none⟩) s.bP.heaps.length s.bP.heaps.length) ((List.replicate s.bP.heaps.length (0:Int)).set x y).length (ah ((List.replicate s.bP.heaps.length 0).set x y)):=by
  rw[qH,List.length_replicate]
  have h9:=nM.o.size
  refine iF (cs:=(ah ((List.replicate s.bP.heaps.length 0).set x y)).toArray) (n:=s.bP.heaps.length) ?_ (by simp[ah]) (by omega) (by simp only[maxLen];omega)
  rw[hH8,uD]
  simp only[ah,List.map_set]
 have hR8:=(HO.o.below nM.o).rows.push (zN (.slice (some ⟨b9,0,none⟩) s.bP.heaps.length s.bP.heaps.length,(List.replicate s.bP.heaps.length 0).set x y)) (Ms:=[]) (Ext.az afo) (by simp) hown (.inr ⟨b9,rfl,rW⟩)
 have HR8:=ae hR8
 obtain⟨c8,f8,l8⟩:=af ((pO.o.block _ lw).trans HO.o.blk)
 have HX:=ae hxl
 clear qB rW hH8 afo hown hR8 g0 hxl q0 q1 p9 r9 alk Xw c7 f7 lb7 n70 n71
 have hq4:=Ja.o
 have h8s:=pO.o.size
 go_wp2_with (at_builtin;go_loud (refine dF rfl _ _ agI rfl N (.slice ok es.length ck) es.length (fD es) rfl (aA (Ms:=[]) (HR8.o.own 6 _ rfl) (Ext.az (ak (aG _ _) _)) (by simp)) (.slice (some ⟨W8.heap.size,0,none⟩) 1 1) 1 [.slice (some ⟨b9,0,none⟩) s.bP.heaps.length s.bP.heaps.length] rfl (aK.dw 1 1 (ay _ _) rfl (by decide)) (by simp[Value.oneCell']) (by omega) (by omega) (by simp;omega) ?_))
 intro v' w3 hown hgr hN
 obtain⟨o3,c3,rfl⟩:=aU hown
 have hbl:=(hgr.block wb (by simp;omega) (fun e=>HR8.o.off 6 _ rfl e.symm)).trans ((heap_alloc_old W8 _ l8).trans ((pO.o.block _ lw).trans HO.o.blk))
 obtain⟨k3,p3,r3⟩:=af hbl
 have uJ:Ext (Value.slice ok es.length ck).ownBlock.toList W8 w3:=⟨hgr.os,hgr.tape,hgr.output,by have:=hgr.size;simp at this;omega,fun k hk hm=>(hgr.block k (by simp;omega) (fun e=>hm (dM.2 e.symm))).trans (heap_alloc_old W8 _ hk)⟩
 have HE3:=ae (ag uJ (ag hown (ag hbl hN)))
 clear uJ hown hgr hbl hN c8 f8
 go_wp2_with fail
 go_end0
 have q0:=jT.o
 have q1:=rM.o
 have q2:=xM.o
 have q3:=Ja.o
 simp only[iU,dh,dm,dB]
 (repeat (first|rw[aC (by omega)]|rw[aj (by omega)]))
 simp only[Int.toNat_natCast]
 have hm1: ∀k,k∈(Value.slice ok es.length ck).ownBlock.toList->N<=k/\k<W8.heap.size:=fun k hk=>(HR8.o.own 6 _ rfl).lt k (dM.1 hk)
 have hR:=HR8.o.put (i:=6) rfl ⟨36,1,.slice o3 (es.length+1) c3,es.length+1,fD es++[.slice (some ⟨b9,0,none⟩) s.bP.heaps.length s.bP.heaps.length]⟩ HE3.o.1 (fun m hm=> .inr (.inr (dM.1 hm))) HE3.o.2.1 (HE3.o.2.2.2.imp id (fun e=> .inr ⟨_,e,by simp⟩))
 have hB3:Below N W8 w3:=⟨HE3.o.1.os,HE3.o.1.tape,HE3.o.1.output,HE3.o.1.size,fun k hk=>HE3.o.1.block k (by omega) (fun hm=>by have:=(hm1 k hm).1;omega)⟩
 refine⟨((pO.o.mono gQ).trans hB3).setCell wQ _,.inl ⟨rfl,rfl,⟨vt,vn,vw,vu,vr,.slice oh s.bP.heaps.length ch,.slice o3 (es.length+1) c3,vs⟩,es++[(.slice (some ⟨b9,0,none⟩) s.bP.heaps.length s.bP.heaps.length,(List.replicate s.bP.heaps.length 0).set x y)],⟨aI HE3.o.2.2.1 _,?_,?_⟩⟩⟩
 ·have:=hR.keep (gI (W:=w3) (b:=wb) (off:=20) (v:= .slice o3 (es.length+1) c3)) (fun m hm=> .inl (by simpa using hm))
  simpa [iM,fQ,fD] using this
 ·simp[fQ,HO.o.es]
theorem Gq (s s':jA) (V:SV) (es:List KE) {x:Nat} {e:KE} (h:x<es.length) (hs:iM s' V es=iM s V es):
 iM s' V (es.set x e)=((iM s V es).set (8+x) (zN e)).set 6 ⟨36,1,V.cks,es.length,(fD es).set x e.1⟩:=by
 rw[<-hs]
 unfold iM
 rw[qK _ _ (by simp),List.set_append_left _ _ (by simp)]
 simp[fD,List.map_set,qH]
def tY (s:jA) (h:dY) (i:Nat):jA:=fQ s {s.bP with heaps:=s.bP.heaps++[h],aQ:=(s.bP.aQ.take i).map (· ++[0])++s.bP.aQ.drop i}
theorem SI (s:jA) (h:dY):tY s h 0=fQ s {s.bP with heaps:=s.bP.heaps++[h]}:=by simp[tY]
theorem WS (s:jA) (h:dY) (n:Nat) (hn:s.bP.aQ.length<=n):tY s h n=fQ s {s.bP with heaps:=s.bP.heaps++[h],aQ:=s.bP.aQ.map (· ++[0])}:=by
 simp[tY,kK hn,List.drop_of_length_le hn]
theorem WR (s:jA) (h:dY) (i:Nat) (hi:i<s.bP.aQ.length):(tY s h i).bP.aQ[i]? =some s.bP.aQ[i]:=by
 simp only[tY,fQ]
 rw[nT (by simp;omega)]
 simp[hi,Nat.min_eq_left (nz hi)]
theorem SK (s:jA) (h:dY) (i:Nat) (hi:i<s.bP.aQ.length):(tY s h i).bP.aQ.set i (s.bP.aQ[i]++[0])=(tY s h (i+1)).bP.aQ:=by
 simp only[tY,fQ]
 rw[qK _ _ (by simp;omega)]
 simp only[lJ,gX,Nat.min_eq_left (nz hi),Nat.sub_self]
 rw[A7 hi,List.set_cons_zero,rF,List.map_append]
 simp[hi]
theorem aaF (N:Nat) (w:World) (wb:Nat) (s:jA) (V:SV) (es:List KE) (ns:Value) (x:Int) (y:Int) (hO:jX N w wb s V es) (hn:sD N w ns [x,y]) (hG:fZ s) (hx:0<=x/\x<=9999):Calls Tryz.prog 191 #[.pointer (some ⟨wb,0,none⟩),ns] w (rJ N wb (iU s .heap [x,y]) w):=by
 obtain⟨vt,vn,vw,vu,vr,vh,vk,vs⟩:=V
 obtain⟨o,cc,rfl⟩: ∃o c,vh= .slice o s.bP.heaps.length c:=aU (n:=s.bP.heaps.length) (hO.rows.own 5 _ rfl)
 obtain⟨ok,ck,rfl⟩: ∃o c,vk= .slice o es.length c:=aU (n:=es.length) (hO.rows.own 6 _ rfl)
 have HO:=ae hO
 have gQ:=eU hO
 obtain⟨b,c,rfl,hbN,hcs⟩:=hn
 have lb:b<w.heap.size:=by omega
 have lw:=hO.rows.lt
 have wQ:=hO.rows.base
 have HW:Hid (∀W,Below N w W->b<W.heap.size/\ ∀(j:Nat) (h:j<[x,y].length),W.cell? ⟨b,j,none⟩=some (iv [x,y][j])):=ae (fun W hB=>⟨by have:=hB.size;omega,fun j h=>(jd (hB.block b hbN)).trans (hcs j h)⟩)
 obtain⟨c0,f0,l0⟩:=af hO.blk
 have pI:=hcs 0 (by simp)
 simp only[ax] at pI
 have n01:=hcs 1 (by simp)
 simp only[ax] at n01
 have HB0:Hid (Below w.heap.size w w):=ae (aG _ _)
 have hes:es.length=s.bP.aQ.length:=by rw[<-hO.es];simp
 have jT:=ae hes
 clear hes
 have Xw:=hG.yT
 have HG3:=ae (ag hG.aQ hG.oL)
 clear hO hcs hG
 go_enter Tryz.func191,Tryz.ntmps191
 go_wp2_with fail
 refine RX.gG (fun ps W'=> ¬(x<=y/\y<=100/\y<=x+9)/\ps=kG 2/\Below N w W') 8 [] none [(6,⟨fun _ v=>v=rv (x,y),fun _ _ _=>(x<=y/\y<=100/\y<=x+9)⟩),(7,Spec.block w.heap.size #[iv 0,iv 0] 112)] (by rintro ps a1 Wx hdf ⟨h1,rfl,h3⟩;refine⟨hdf,wU (c:=2) h3 ?_ (by decide)⟩;have q0:=jT.o;simp only[iU,dh,dm,dB];(repeat (first|rw[aC (by omega)]|rw[aj (by omega)]))) (by as_aux_lemma=>kernel_rfl) (by as_aux_lemma=>kernel_rfl) ?_
 simp only[zt]
 repeat (refine RX.zd ?_;simp only[zp])
 refine RX.bJ _ (by rfl) (by rfl) ⟨_,rfl⟩ (fun Wq hE2 hF2=>?_) (fun v Wa Wb ho hE=>ho) (fun v hv=>?_)
 ·have hE':Ext [] w Wq:=hE2
  refine RX.dG 260 #[iv x,iv y,iv 9] (by go_simp;try rfl) ?_
  refine(wS x y 9 Wq (by omega)).mono ?_
  rintro e w' ⟨hb,⟨hc,rfl⟩|⟨hc,rfl⟩⟩
  ·exact .inl ⟨_,rfl,rfl,hc,Ext.az hb⟩
  ·exact .inr ⟨_,rfl,hc,rfl,(aX HB0.o (aX hE'.below hb)).mono gQ⟩
 obtain rfl:v=rv (x,y):=hv
 simp only[zp]
 repeat (refine RX.zd ?_;simp only[zp])
 refine RX.jZ w.heap.size _ _ (by rfl) (ai _) (by rfl) (by simp) (by simp) (fun W hW=>by go_simp;try rfl) (fun b9=>?_)
 simp only[zp]
 intro Wb hE hF
 obtain⟨b9',rW,hge,hk9⟩:=hF _ (bg _)
 cases rW
 have hc:x<=y/\y<=100/\y<=x+9:=hF _ (nC _ (bg _))
 have HBb:=ae (aX HB0.o (show Ext [] w Wb from hE).below)
 have rM:=ae hc
 have mW:=ae (ag (jo HB0.o.size hge) hk9)
 obtain⟨c9,f9,l9⟩:=af hk9
 clear hE hF hc hge hk9 c0 f0 pI n01
 go_upto_region 2 with(fail)
 refine dH fun W1 qB=>?_
 have HB1:=ae (show Below w.heap.size w W1 from by rw[qB];exact((HBb.o).setCell mW.o.1 _).setCell mW.o.1 _)
 have Ed:=ae (show W1.heap[b9]? =some (.cells #[iv x,iv y] 112 (0,0)) from by rw[qB];exact aI (aI (mW.o.2) _) _)
 have ZY:b9<W1.heap.size:=(aV.1 Ed.o).1
 clear qB c9 f9 l9
 obtain⟨c1,f1,l1⟩:=af ((HB1.o.block _ lw).trans HO.o.blk)
 obtain⟨xg,hcs1⟩:=HW.o W1 (HB1.o.mono gQ)
 have n10:=hcs1 0 (by simp)
 simp only[ax] at n10
 have n11:=hcs1 1 (by simp)
 simp only[ax] at n11
 clear hcs1
 go_wp2_with fail
 refine(qU _ _ _).mono ?_
 rintro e W2 ⟨hb,⟨hc,rfl⟩|⟨hc,rfl⟩⟩
 rotate_left
 ·simp at hc
  have q0:=jT.o
  have q1:=rM.o
  simp only[iU,dh,dm,dB]
  (repeat (first|rw[aC (by omega)]|rw[aj (by omega)]))
  exact⟨rfl,(aX HB1.o hb).mono gQ,.inr ⟨by simp,rfl⟩⟩
 simp at hc
 have HB2:=ae (aX HB1.o hb)
 have HS2:=ae hb
 have xM:=ae hc
 clear hb hc c1 f1 xg n10 n11
 obtain⟨c2,f2,l2⟩:=af ((HB2.o.block _ lw).trans HO.o.blk)
 obtain⟨xX,hcs2⟩:=HW.o W2 (HB2.o.mono gQ)
 have n20:=hcs2 0 (by simp)
 simp only[ax] at n20
 have n21:=hcs2 1 (by simp)
 simp only[ax] at n21
 clear hcs2
 go_wp2_with fail
 obtain⟨Ms,hMs⟩: ∃Ms,Ms=(Value.slice o s.bP.heaps.length cc).ownBlock.toList:=⟨_,rfl⟩
 have hO2:=HO.o.below HB2.o
 have hm1:wb∉Ms:=fun h=>hO2.rows.off 5 _ rfl (by rw[hMs] at h;exact dM.1 h)
 have hm2:b∉Ms:=fun h=>by have:=((hO2.rows.own 5 _ rfl).lt b (by rw[hMs] at h;exact dM.1 h)).1;omega
 have xJ: ∀m∈Ms,m<W2.heap.size:=fun m h=>((hO2.rows.own 5 _ rfl).lt m (by rw[hMs] at h;exact dM.1 h)).2
 obtain⟨c9,f9,l9⟩:=af ((HS2.o.block _ ZY).trans Ed.o)
 have hm9:b9∉Ms:=fun h=>by have:=((HO.o.rows.own 5 _ rfl).lt b9 (by rw[hMs] at h;exact dM.1 h)).2;have:=mW.o.1;omega
 have HM:=ae hMs
 have jB:=ae hO2
 clear hMs hO2
 refine zg 8 Ms (some 7) [(6,Spec.slice W2.heap.size #[iv x,iv y] 112 1),(7,⟨fun _ v=> ∃o2 c2,v= .slice o2 (s.bP.heaps.length+1) c2,fun _ v Wx=>Wx.ownsRow N 112 2 v (s.bP.heaps.length+1) (aH s.bP.heaps++[iv x,iv y])/\(v.ownBlock=(Value.slice o s.bP.heaps.length cc).ownBlock∨ ∃q,v.ownBlock=some q/\W2.heap.size<=q)⟩)] ?_
 simp only[zt]
 repeat ((first|refine zd ?_|refine zk ?_);simp only[zp])
 refine cu W2.heap.size _ _ 1 (by rfl) (ai _) (by rfl) xJ (by simp) (fun W hW=>by go_simp;try rfl) (fun b6=>?_)
 simp only[zp]
 repeat ((first|refine zd ?_|refine zk ?_);simp only[zp])
 refine bJ _ (by rfl) (by rfl) (by exact⟨.slice none (s.bP.heaps.length+1) 0,none,0,rfl⟩) (fun W6 hE hF=>?_) (fun v Wa Wb ho hE=>?_) (fun v hv=>?_)
 ·have hE':Ext [] W2 W6:=hE
  obtain⟨b',hb',hge,hcc⟩:=hF _ (bg _) (by kernel_rfl)
  cases hb'
  have hown6:W6.ownsRow N 112 2 (.slice o s.bP.heaps.length cc) s.bP.heaps.length (aH s.bP.heaps):=aA (Ms:=[]) (jB.o.rows.own 5 _ rfl) hE' (by simp)
  have hsrc:aK 2 W6 (.slice (some ⟨b6,0,none⟩) 1 1) 1 ([iv x,iv y]):=aK.dw 2 1 hcc rfl (by decide)
  refine Does.mono (dU agG (by rfl) (by rfl) hown6 (by rfl) hsrc (ZL x y) (by omega) (by omega) (by have:=hE'.size;have:=HB2.o.size;omega)) ?_
  rintro v' W7 ⟨ho,hgr,hcase⟩
  refine⟨aU ho,⟨ho,?_⟩,⟨hgr.os,hgr.tape,hgr.output,hgr.size,fun b hb hn=>hgr.block b hb (fun e=>hn (by rw[HM.o];exact dM.2 e.symm))⟩⟩
  rcases hcase with h1|h1
  ·exact .inl h1
  ·exact .inr ⟨_,h1,hE'.size⟩
 ·exact⟨aA (Ms:=[]) ho.1 hE (by simp),ho.2⟩
 obtain⟨o7,c7,rfl⟩:=hv
 simp only[zp]
 intro W3 hE hF
 obtain⟨qM,AA⟩:=hF _ (bg _)
 have ig:Ext Ms W2 W3:=hE
 have hbl:=(ig.block wb jB.o.rows.lt hm1).trans jB.o.blk
 obtain⟨c3,f3,l3⟩:=af hbl
 have iZ:=ae (ag ig (ag qM (ag AA hbl)))
 have EW:Below N w W3:=(HB2.o.mono gQ).trans ⟨ig.os,ig.tape,ig.output,ig.size,fun k hk=>ig.block k (by have:=HB2.o.size;omega) (fun h=>by have:=((jB.o.rows.own 5 _ rfl).lt k (by rw[HM.o] at h;exact dM.1 h)).1;omega)⟩
 have pO:=ae EW
 clear hE hF ig qM AA hbl EW hm1 hm2 xJ c2 f2 xX n20 n21
 go_upto_region 4 with(fail)
 refine dH fun W4 qB=>?_
 have hO6:jX N W4 wb (tY s (x,y) 0) ⟨vt,vn,vw,vu,vr,.slice o7 (s.bP.heaps.length+1) c7,.slice ok es.length ck,vs⟩ es:=by
  rw[qB,SI]
  exact jB.o.put (i:=5) rfl ⟨112,2,.slice o7 (s.bP.heaps.length+1) c7,s.bP.heaps.length+1,aH s.bP.heaps++[iv x,iv y]⟩ iZ.o.1 (fun m hm=>by rw[HM.o] at hm;exact dM.1 hm) iZ.o.2.1 iZ.o.2.2.1 (aI iZ.o.2.2.2 _) (by simp[iM,fQ,aH]) jB.o.es
 have HB4:=ae (show Below N w W4 from by rw[qB];exact pO.o.setCell wQ _)
 obtain⟨c4,f4,l4⟩:=af hO6.blk
 have F6:=ae hO6
 clear qB hO6 c3 f3 c9 f9
 go_wp2_with fail
 clear c4 f4
 have hle:es.length<=3:=by have:=jT.o;have:=HG3.o.1;omega
 go_loopw [6,39] (fun _ u wr=> ∃i:Nat,i<=es.length/\u= .int .i64 i/\Below N w wr/\ ∃es':List KE,es'.length=es.length/\jX N wr wb (tY s (x,y) i) ⟨vt,vn,vw,vu,vr,.slice o7 (s.bP.heaps.length+1) c7,.slice ok es.length ck,vs⟩ es') (fun _ u _=>es.length-(intOf u).toNat)
 case atStart=>exact⟨0,bW _,rfl,HB4.o,es,rfl,F6.o⟩
 case round=>
  obtain⟨i,hi,rfl,hB,es',Jp,hOr⟩:=hrel
  by_cases hlt:i<es.length
  ·obtain⟨c5,f5,l5⟩:=af hOr.blk
   have hic:i<s.bP.aQ.length:=by have:=jT.o;omega
   obtain⟨ev,el,Du⟩: ∃ev el,es'[i]? =some (ev,el):=⟨_,_,dA (by omega)⟩
   have Xw:el=s.bP.aQ[i]:=by
    have h1:=WR s (x,y) i hic
    rw[<-hOr.es] at h1
    simpa [Du] using h1
   have hrow:=zu (tY s (x,y) i) ⟨vt,vn,vw,vu,vr,.slice o7 (s.bP.heaps.length+1) c7,.slice ok es.length ck,vs⟩ es' Du
   obtain⟨oe,ce,rfl⟩: ∃o c,ev= .slice o el.length c:=aU (n:=el.length) (hOr.rows.own _ _ hrow)
   have alh:el.length<=3:=by rw[Xw,(HG3.o.2 _ (bT _)).1];omega
   have h6:wr.ownsRow N 36 1 (.slice ok es.length ck) es.length (fD es'):=by have h:=hOr.rows.own 6 _ rfl;rw[<-Jp];rw[<-Jp] at h;exact h
   obtain⟨gk,rfl,hgk,hfk,hkl⟩:=gZ h6 (by omega)
   have hgx:(fD es')[i]? =some (.slice oe el.length ce):=by simp[fD,Du]
   obtain⟨hg',eg'⟩:=jq.1 hgx
   have g6:=(hgk i hg').trans (by rw[eg'])
   obtain⟨Ms,hMs⟩: ∃Ms,Ms=(Value.slice oe el.length ce).ownBlock.toList:=⟨_,rfl⟩
   have hm1:wb∉Ms:=fun h=>hOr.rows.off _ _ hrow (by rw[hMs] at h;exact dM.1 h)
   have hm2:gk∉Ms:=fun h=>by
    have h0:(Value.slice oe el.length ce).ownBlock=some gk:=(by rw[hMs] at h;exact dM.1 h)
    rcases hOr.rows.apart 6 (8+i) _ _ rfl hrow (by omega) with h1|h1
    ·cases h1
    ·exact h1 h0.symm
   have xJ: ∀m∈Ms,m<wr.heap.size:=fun m h=>((hOr.rows.own _ _ hrow).lt m (by rw[hMs] at h;exact dM.1 h)).2
   have HM:=ae hMs
   have JB:=ae (ag hOr (ag hB (ag Du (ag Xw (ag Jp (ag hrow (ag h6 hic)))))))
   clear hMs hOr hB Du Xw Jp hrow h6 hgx hg' eg' hgk
   go_wp2_with fail
   refine zg 14 Ms (some 13) [(12,Spec.slice wr.heap.size #[iv 0] 3 1),(13,⟨fun _ v=> ∃o2 c2,v= .slice o2 (el.length+1) c2,fun _ v Wx=>Wx.ownsRow N 3 1 v (el.length+1) (ah el++[iv 0])/\(v.ownBlock=(Value.slice oe el.length ce).ownBlock∨ ∃q,v.ownBlock=some q/\wr.heap.size<=q)⟩)] ?_
   simp only[zt]
   repeat ((first|refine zd ?_|refine zk ?_);simp only[zp])
   refine cu wr.heap.size _ _ 1 (by rfl) (ai _) (by rfl) xJ (by simp) (fun W hW=>by go_simp;try rfl) (fun b6=>?_)
   simp only[zp]
   refine bJ _ (by rfl) (by rfl) (by exact⟨.slice none (el.length+1) 0,none,0,rfl⟩) (fun W6 hE hF=>?_) (fun v Wa Wb ho hE=>?_) (fun v hv=>?_)
   ·have hE':Ext [] wr W6:=hE
    obtain⟨b',hb',hge,hcc⟩:=hF _ (bg _) (by kernel_rfl)
    cases hb'
    have hown6:W6.ownsRow N 3 1 (.slice oe el.length ce) el.length (ah el):=aA (Ms:=[]) (JB.o.1.rows.own _ _ JB.o.2.2.2.2.2.1) hE' (by simp)
    have hsrc:aK 1 W6 (.slice (some ⟨b6,0,none⟩) 1 1) 1 ([iv 0]):=aK.dw 1 1 hcc rfl (by decide)
    refine Does.mono (dU rO (by rfl) (by rfl) hown6 (by rfl) hsrc (one_one 0) (by omega) (by omega) (by have:=hE'.size;have:=JB.o.2.1.size;omega)) ?_
    rintro v' W7 ⟨ho,hgr,hcase⟩
    refine⟨aU ho,⟨ho,?_⟩,⟨hgr.os,hgr.tape,hgr.output,hgr.size,fun b hb hn=>hgr.block b hb (fun e=>hn (by rw[HM.o];exact dM.2 e.symm))⟩⟩
    rcases hcase with h1|h1
    ·exact .inl h1
    ·exact .inr ⟨_,h1,hE'.size⟩
   ·exact⟨aA (Ms:=[]) ho.1 hE (by simp),ho.2⟩
   obtain⟨o8,c8,rfl⟩:=hv
   simp only[zp]
   intro W8 hE hF
   obtain⟨qM,AA⟩:=hF _ (bg _)
   have ig:Ext Ms wr W8:=hE
   have hR1:=JB.o.1.rows.put JB.o.2.2.2.2.2.1 (zN (.slice o8 (el.length+1) c8,el++[0])) ig (fun m hm=> .inr (.inr (by rw[HM.o] at hm;exact dM.1 hm))) (by simpa [zN,ah] using qM) (AA.imp id .inr)
   have hbl:=(ig.block wb l5 hm1).trans JB.o.1.blk
   obtain⟨c9,f9,l9⟩:=af hbl
   have g7:=(ig.cell gk i hkl hm2).trans g6
   have h68:W8.ownsRow N 36 1 (.slice (some ⟨gk,0,none⟩) es.length ck) es.length (fD es'):=dQ JB.o.2.2.2.2.2.2.1 ig (fun b hb hm=>by cases hb;exact hm2 hm)
   obtain⟨gk',ae8, -,ap3,hkl'⟩:=gZ h68 (by omega)
   cases ae8
   have aiC:Below N w W8:=JB.o.2.1.trans ⟨ig.os,ig.tape,ig.output,ig.size,fun k hk=>ig.block k (by have:=JB.o.2.1.size;omega) (fun h=>by have:=((JB.o.1.rows.own _ _ JB.o.2.2.2.2.2.1).lt k (by rw[HM.o] at h;exact dM.1 h)).1;omega)⟩
   have HE:=ae (ag ig (ag hR1 (ag hbl (ag h68 aiC))))
   clear hE hF ig qM AA hR1 hbl h68 aiC c5 f5 g6 hm1 hm2 xJ hfk hkl
   go_wp2_with fail
   go_roundw
   case rel=>
    refine⟨i+1,by omega,by go_num,HE.o.2.2.2.2.setCell (HE.o.2.2.2.1.lt gk rfl).1 _,es'.set i (.slice o8 (el.length+1) c8,el++[0]),by simp[JB.o.2.2.2.2.1],?_,?_,?_⟩
    ·exact((gI (W:=W8) (b:=gk) (off:=i) (v:= .slice o8 (el.length+1) c8)).block wb HE.o.2.1.lt (fun hm=>HE.o.2.1.off 6 ⟨36,1,.slice (some ⟨gk,0,none⟩) es.length ck,es'.length,fD es'⟩ (by rw[List.getElem?_set_ne (by omega)];rfl) (by rw[dZ.1 hm];rfl))).trans HE.o.2.2.1
    ·rw[Gq (tY s (x,y) i) (tY s (x,y) (i+1)) _ es' (by rw[JB.o.2.2.2.2.1];exact hlt) rfl]
     have hS:=lU HE.o.2.2.2.1 i (.slice o8 (el.length+1) c8)
     refine HE.o.2.1.put (i:=6) (r:=⟨36,1,.slice (some ⟨gk,0,none⟩) es.length ck,es'.length,fD es'⟩) (by rw[List.getElem?_set_ne (by omega)];rfl) _ gI (fun m hm=> .inr (.inr (by rw[dZ.1 hm];rfl))) ?_ (.inl rfl)
     rw[JB.o.2.2.2.2.1]
     exact hS
    ·rw[List.map_set,JB.o.1.es, <-SK s (x,y) i JB.o.2.2.2.2.2.2.2]
     exact congrArg (fun q=>(tY s (x,y) i).bP.aQ.set i (q++[0])) JB.o.2.2.2.1
   case measure=>simp[intOf];omega
  ·obtain rfl:i=es.length:=by omega
   have JB:=ae (ag hOr hB)
   clear hOr hB hle
   go_wp2_with fail
   go_end0
   have q0:=jT.o
   have q1:=rM.o
   have q2:=xM.o
   simp only[iU,dh,dm,dB]
   (repeat (first|rw[aC (by omega)]|rw[aj (by omega)]))
   rw[WS s (x,y) _ (by omega)] at JB
   exact⟨JB.o.2,.inl ⟨rfl,rfl,_,es',JB.o.1⟩⟩
def abA (N:Nat) (t:TypeId) (size g n c:Nat) (xs:List Value) (w:World) (e:Ending) (w':World):Prop:=
 e= .returned (.slice (some ⟨g,0,none⟩) n c)/\w'.ownsRow N t size (.slice (some ⟨g,0,none⟩) n c) n xs/\Ext [g] w w'
theorem fK {W:World} {g:Nat} {cs:Array Value}:Ext [g] W (W.setRow g cs):=
 ⟨rfl,rfl,rfl,by simp,fun k _ hm=>setRow_other _ _ _ _ (by simpa using hm)⟩
theorem uy {P:Program} {t e:TypeId} {z:Value} {size bytes:Nat} (hT:iR P t e z size bytes) {W:World} {N g c n i m:Nat} {xs:List Value} (ho:W.ownsRow N e size (.slice (some ⟨g,0,none⟩) n c) n xs) (h1: ∀u∈xs,u.oneCell'=true)
 (hi:i<n) (hm:m=n-1) (A:Addr) (hA:(if c=i+1 then some (⟨g,0,none⟩:Addr) else some ⟨g,(i+1)*size,none⟩)=some A):
 ∃W1,(∀ty,(Builtin.append_ #[t,t] ty #[.slice (some ⟨g,0,none⟩) i c,.slice (some A) (n-(i+1)) (c-(i+1))]).run P W= .ok (.slice (some ⟨g,0,none⟩) m c) W1)/\
  W1.ownsRow N e size (.slice (some ⟨g,0,none⟩) n c) n (xs.take (i*size)++xs.drop (i*size+size)++xs.drop (n*size-size))/\Ext [g] W W1:=by
 obtain⟨it,hit,hz,hs,hby⟩:=info_parts hT.info
 obtain⟨hl,⟨h2,_⟩|⟨g',c',cur,h2,hb,hg,hnc,hcm,hcs,htk⟩⟩:=ho
 ·cases h2
 cases h2
 have hpos:=hT.pos
 have hnn:n=i+1+(n-(i+1)):=by omega
 have hmul:n*size=i*size+size+(n-(i+1))*size:=by
  conv=>lhs;rw[hnn]
  rw[Nat.add_mul,Nat.add_mul,Nat.one_mul]
 have hcz:n*size<=cur.size:=by rw[hcs];exact Nat.mul_le_mul_right _ hnc
 have hlen:(xs.drop (i*size+size)).length=(n-(i+1))*size:=by rw[lK,hl];omega
 have hnews: ∀j u,(xs.drop (i*size+size))[j]? =some u->W.cell? (A.add j)=some u:=by
  intro j u hu
  have hj:=(jq.1 hu).1
  rw[hlen] at hj
  have hne:c≠i+1:=by
   intro e
   have:n-(i+1)=0:=by omega
   rw[this] at hj
   omega
  rw[aj hne] at hA
  obtain rfl:=jH hA
  rw[Addr.add_lit,cell_of_row W g _ cur e (0,0) hg]
  rw[List.getElem?_drop, <-htk,List.getElem?_take] at hu
  split at hu
  ·rw[show(i+1)*size+j=i*size+size+j from by rw[Nat.add_mul,Nat.one_mul]]
   simpa using hu
  ·cases hu
 have hroom:i+(n-(i+1))<=c:=by omega
 have hfit:i*it.size+(xs.drop (i*size+size)).length<=cur.size:=by rw[hs,hlen];omega
 refine⟨W.setRow g (cur.toList.take (i*size)++xs.drop (i*size+size)++cur.toList.drop (i*size+(xs.drop (i*size+size)).length)).toArray,fun ty=>?_,?_,fK⟩
 ·have:=run_append_room (P:=P) W t ty e it hT.und hit g i c cur hg A (n-(i+1)) (c-(i+1)) (xs.drop (i*size+size)) (by rw[hlen,hs]) hnews (fun u hu=>h1 u (List.mem_of_mem_drop hu)) hroom hfit
  rw[this,hs,show i+(n-(i+1))=m from by omega]
 ·have hti:cur.toList.take (i*size)=xs.take (i*size):=by
   rw[<-htk,List.take_take]
   congr 1
   omega
  have hL:(xs.take (i*size)++xs.drop (i*size+size)++xs.drop (n*size-size)).length=n*size:=by
   simp only[dE,gX,lK,hl]
   omega
  refine⟨hL,.inr ⟨g,c,_,rfl,hb,setRow_heap W g cur _ e _ hg,hnc,hcm,?_,?_⟩⟩
  ·simp only[List.size_toArray,dE,gX,lK,Array.length_toList,hl]
   omega
  ·rw[hti,hlen,List.take_append,kK (by simp only[dE,gX,lK,hl];omega)]
   congr 1
   simp only[dE,gX,lK,hl]
   rw[show n*size-(min (i*size) (n*size)+(n*size-(i*size+size)))=size from by omega, <-htk,List.drop_take]
   rw[show i*size+(n-(i+1))*size=n*size-size from by omega,show n*size-(n*size-size)=size from by omega]
theorem jO {P:Program} {w w':World} {ops:Array Oper} {rest:List Oper} {o:Oper} {a:Act} {Q:Exit->Act->World->Prop} (hg:o.guard=none) (s x:Operand) {t:TypeId}
 (hop:o.op=Op.call {callee:=Callee.builtin Builtin.append,args:= #[s,x],argTypes:= #[t,t]}) (v src v':Value) (hs:a.eval s=v) (hx:a.eval x=src) (hrun: ∀ty,(Builtin.append_ #[t,t] ty #[v,src]).run P w= .ok v' w')
 (hK:wpList P ops Q rest (a.put o.dst v') w'):wpList P ops Q (o::rest) a w:=by
 refine wpList_plain hg fun K hK'=>?_
 refine zF (R:=fun v1 w1=>v1=v'/\w1=w') (jl v' ?_ ⟨rfl,rfl⟩) fun v1 w1 ⟨h1,h2⟩=>by rw[h1,h2];exact hK' _ _ hK
 simp[execOp,hop,resolve,invoke,builtin,hs,hx,hrun,Result.andThen]
theorem nX {P:Program} {t e:TypeId} {z:Value} {size bytes:Nat} (hT:iR P t e z size bytes) (hv: ∀w,(zeroValue e).run P w= .ok z w) (hz1:(Builtin.zeroCells z.cells 1).toList.all (·.oneCell')=true) {W:World} {N g c n m:Nat} {xs:List Value} (ho:W.ownsRow N e size (.slice (some ⟨g,0,none⟩) n c) n xs) (hm:m+1=n):
 ∃W1,(∀ty,(Builtin.clear_ #[t] ty #[.slice (some ⟨g,m*size,none⟩) (n-m) (c-m)]).run P W= .ok (.tuple #[]) W1)/\W1.ownsRow N e size (.slice (some ⟨g,0,none⟩) m c) m (xs.take (m*size))/\Ext [g] W W1:=by
 obtain⟨it,hit,hz,hs,hby⟩:=info_parts hT.info
 obtain⟨hl,⟨h2,_⟩|⟨g',c',cur,h2,hb,hg,hnc,hcm,hcs,htk⟩⟩:=ho
 ·cases h2
 cases h2
 subst hm
 have hzl:(Builtin.zeroCells z.cells 1).toList.length=size:=by simp[Builtin.zeroCells,hT.cells]
 have hz2: ∀u∈(Builtin.zeroCells z.cells 1).toList,u.oneCell'=true:=fun u hu=>jS.1 hz1 u hu
 have hcz:m*size+size<=cur.size:=by
  rw[hcs]
  have:=Nat.mul_le_mul_right size hnc
  rw[Nat.add_mul,Nat.one_mul] at this
  exact this
 have hst:=run_storeCells_at P g (m*size) e (Builtin.zeroCells z.cells 1).toList 0 cur W hg (by rw[hzl];omega) hz2
 simp only[Nat.add_zero] at hst
 obtain⟨nw,hnw⟩: ∃nw,nw=(cur.toList.take (m*size)++(Builtin.zeroCells z.cells 1).toList++cur.toList.drop (m*size+(Builtin.zeroCells z.cells 1).toList.length)).toArray:=⟨_,rfl⟩
 rw[<-hnw] at hst
 refine⟨W.setRow g nw,fun ty=>?_,⟨?_,.inr ⟨g,c,nw,rfl,hb,setRow_heap W g cur _ e _ hg,by omega,hcm,?_,?_⟩⟩,fK⟩
 ·rw[show m+1-m=0+1 from by omega]
  simp[Builtin.clear_,run_underlying hT.und,hv,hst]
 ·rw[gX,hl,Nat.add_mul];omega
 ·rw[hnw];simp only[List.size_toArray,dE,gX,lK,Array.length_toList,hzl]
  omega
 ·rw[hnw]
  rw[nS,uG (by simp;omega),List.take_take,Nat.min_self, <-htk,List.take_take]
  congr 1
  rw[Nat.add_mul];omega
theorem Ug (N:Nat) (g n c i:Nat) (xs:List Value) (w:World) (ho:w.ownsRow N 118 5 (.slice (some ⟨g,0,none⟩) n c) n xs) (h1: ∀u∈xs,u.oneCell'=true) (hi:i<n) (hn:n<=100):
 Calls Tryz.prog 252 #[.slice (some ⟨g,0,none⟩) n c,iv i,iv (i+1)] w (abA N 118 5 g (n-1) c (xs.take (i*5)++xs.drop (i*5+5)) w):=by
 have hnc:n<=c/\c<=maxLen:=by
  obtain⟨h1,⟨h2,rfl⟩|⟨g',cc,cs,h2,h3,h4,h5,h6,h7,h8⟩⟩:=ho
  ·cases h2
  ·cases h2;exact⟨h5,h6⟩
 obtain⟨hnc,hcm⟩:=hnc
 simp only[maxLen] at hcm
 have hc0:c≠0:=by omega
 have hi1:(i:Int)<=(c:Int):=by omega
 have hi2:(0:Int)<=(i:Int):=by omega
 have hi3:(i:Int)+1<=(n:Int):=by omega
 have hi4:(0:Int)<=(i:Int)+1:=by omega
 have hi5:i<=c:=by omega
 have hi6:i+1<=n:=by omega
 have hi7:((i:Int)+1).toNat=i+1:=by omega
 obtain⟨m,hm⟩: ∃m,m=n-1:=⟨_,rfl⟩
 have hm1:(m:Int)<=(n:Int):=by omega
 have hm2:c≠m:=by omega
 have xJ:(n:Int)<=(c:Int):=by omega
 have hm4:m<=n:=by omega
 obtain⟨A,hA⟩: ∃A:Addr,(if c=i+1 then some (⟨g,0,none⟩:Addr) else some ⟨g,(i+1)*5,none⟩)=some A:=by split <;>exact⟨_,rfl⟩
 have HO:=ae (ag ho (ag hm hA))
 clear ho hm
 go_enter Tryz.func252,Tryz.ntmps252
 go_wp2_with fail
 refine zg 6 [] none [] ?_
 simp only[zt]
 repeat ((first|refine zd ?_|refine zk ?_);simp only[zp])
 intro W hE hF
 have HE:=ae (show Ext [] w W from hE)
 clear hE hF
 obtain⟨W1,happ,ho1,hE1⟩:=uy Zm (aA (Ms:=[]) HO.o.1 HE.o (by simp)) h1 hi HO.o.2.1 A HO.o.2.2
 obtain⟨W2,hcl,ho2,hE2⟩:=nX Zm (fun w=>Tryz.zeroValue118 w) (by kernel_rfl) ho1 (m:=m) (by have:=HO.o.2.1;omega)
 have H2:=ae (ag ho2 (ag hE1 hE2))
 clear ho1 ho2 hE1 hE2 hA
 go_wp2_with (at_builtin;refine jO rfl _ _ rfl _ _ _ rfl rfl happ ?_)
 go_returns
 refine⟨by simp;exact HO.o.2.1,?_,((Ext.nil HE.o).trans H2.o.2.1).trans H2.o.2.2⟩
 have h9:=H2.o.1
 rw[<-HO.o.2.1]
 have hl:=HO.o.1.1
 have hx:(xs.take (i*5)++xs.drop (i*5+5)++xs.drop (n*5-5)).take (m*5)=xs.take (i*5)++xs.drop (i*5+5):=by
  have:=HO.o.2.1
  rw[uG (by simp only[dE,gX,lK,hl];omega),kK (by simp only[dE,gX,lK,hl];omega)]
 rw[<-hx]
 exact h9
theorem PU (N:Nat) (g n c i:Nat) (xs:List Value) (w:World) (ho:w.ownsRow N 120 3 (.slice (some ⟨g,0,none⟩) n c) n xs) (h1: ∀u∈xs,u.oneCell'=true) (hi:i<n) (hn:n<=100):
 Calls Tryz.prog 254 #[.slice (some ⟨g,0,none⟩) n c,iv i,iv (i+1)] w (abA N 120 3 g (n-1) c (xs.take (i*3)++xs.drop (i*3+3)) w):=by
 have hnc:n<=c/\c<=maxLen:=by
  obtain⟨h1,⟨h2,rfl⟩|⟨g',cc,cs,h2,h3,h4,h5,h6,h7,h8⟩⟩:=ho
  ·cases h2
  ·cases h2;exact⟨h5,h6⟩
 obtain⟨hnc,hcm⟩:=hnc
 simp only[maxLen] at hcm
 have hc0:c≠0:=by omega
 have hi1:(i:Int)<=(c:Int):=by omega
 have hi2:(0:Int)<=(i:Int):=by omega
 have hi3:(i:Int)+1<=(n:Int):=by omega
 have hi4:(0:Int)<=(i:Int)+1:=by omega
 have hi5:i<=c:=by omega
 have hi6:i+1<=n:=by omega
 have hi7:((i:Int)+1).toNat=i+1:=by omega
 obtain⟨m,hm⟩: ∃m,m=n-1:=⟨_,rfl⟩
 have hm1:(m:Int)<=(n:Int):=by omega
 have hm2:c≠m:=by omega
 have xJ:(n:Int)<=(c:Int):=by omega
 have hm4:m<=n:=by omega
 obtain⟨A,hA⟩: ∃A:Addr,(if c=i+1 then some (⟨g,0,none⟩:Addr) else some ⟨g,(i+1)*3,none⟩)=some A:=by split <;>exact⟨_,rfl⟩
 have HO:=ae (ag ho (ag hm hA))
 clear ho hm
 go_enter Tryz.func254,Tryz.ntmps254
 go_wp2_with fail
 refine zg 6 [] none [] ?_
 simp only[zt]
 repeat ((first|refine zd ?_|refine zk ?_);simp only[zp])
 intro W hE hF
 have HE:=ae (show Ext [] w W from hE)
 clear hE hF
 obtain⟨W1,happ,ho1,hE1⟩:=uy ach (aA (Ms:=[]) HO.o.1 HE.o (by simp)) h1 hi HO.o.2.1 A HO.o.2.2
 obtain⟨W2,hcl,ho2,hE2⟩:=nX ach (fun w=>Tryz.zeroValue120 w) (by kernel_rfl) ho1 (m:=m) (by have:=HO.o.2.1;omega)
 have H2:=ae (ag ho2 (ag hE1 hE2))
 clear ho1 ho2 hE1 hE2 hA
 go_wp2_with (at_builtin;refine jO rfl _ _ rfl _ _ _ rfl rfl happ ?_)
 go_returns
 refine⟨by simp;exact HO.o.2.1,?_,((Ext.nil HE.o).trans H2.o.2.1).trans H2.o.2.2⟩
 have h9:=H2.o.1
 rw[<-HO.o.2.1]
 have hl:=HO.o.1.1
 have hx:(xs.take (i*3)++xs.drop (i*3+3)++xs.drop (n*3-3)).take (m*3)=xs.take (i*3)++xs.drop (i*3+3):=by
  have:=HO.o.2.1
  rw[uG (by simp only[dE,gX,lK,hl];omega),kK (by simp only[dE,gX,lK,hl];omega)]
 rw[<-hx]
 exact h9
theorem PT (N:Nat) (g n c i:Nat) (xs:List Value) (w:World) (ho:w.ownsRow N 122 3 (.slice (some ⟨g,0,none⟩) n c) n xs) (h1: ∀u∈xs,u.oneCell'=true) (hi:i<n) (hn:n<=100):
 Calls Tryz.prog 259 #[.slice (some ⟨g,0,none⟩) n c,iv i,iv (i+1)] w (abA N 122 3 g (n-1) c (xs.take (i*3)++xs.drop (i*3+3)) w):=by
 have hnc:n<=c/\c<=maxLen:=by
  obtain⟨h1,⟨h2,rfl⟩|⟨g',cc,cs,h2,h3,h4,h5,h6,h7,h8⟩⟩:=ho
  ·cases h2
  ·cases h2;exact⟨h5,h6⟩
 obtain⟨hnc,hcm⟩:=hnc
 simp only[maxLen] at hcm
 have hc0:c≠0:=by omega
 have hi1:(i:Int)<=(c:Int):=by omega
 have hi2:(0:Int)<=(i:Int):=by omega
 have hi3:(i:Int)+1<=(n:Int):=by omega
 have hi4:(0:Int)<=(i:Int)+1:=by omega
 have hi5:i<=c:=by omega
 have hi6:i+1<=n:=by omega
 have hi7:((i:Int)+1).toNat=i+1:=by omega
 obtain⟨m,hm⟩: ∃m,m=n-1:=⟨_,rfl⟩
 have hm1:(m:Int)<=(n:Int):=by omega
 have hm2:c≠m:=by omega
 have xJ:(n:Int)<=(c:Int):=by omega
 have hm4:m<=n:=by omega
 obtain⟨A,hA⟩: ∃A:Addr,(if c=i+1 then some (⟨g,0,none⟩:Addr) else some ⟨g,(i+1)*3,none⟩)=some A:=by split <;>exact⟨_,rfl⟩
 have HO:=ae (ag ho (ag hm hA))
 clear ho hm
 go_enter Tryz.func259,Tryz.ntmps259
 go_wp2_with fail
 refine zg 6 [] none [] ?_
 simp only[zt]
 repeat ((first|refine zd ?_|refine zk ?_);simp only[zp])
 intro W hE hF
 have HE:=ae (show Ext [] w W from hE)
 clear hE hF
 obtain⟨W1,happ,ho1,hE1⟩:=uy acg (aA (Ms:=[]) HO.o.1 HE.o (by simp)) h1 hi HO.o.2.1 A HO.o.2.2
 obtain⟨W2,hcl,ho2,hE2⟩:=nX acg (fun w=>Tryz.zeroValue122 w) (by kernel_rfl) ho1 (m:=m) (by have:=HO.o.2.1;omega)
 have H2:=ae (ag ho2 (ag hE1 hE2))
 clear ho1 ho2 hE1 hE2 hA
 go_wp2_with (at_builtin;refine jO rfl _ _ rfl _ _ _ rfl rfl happ ?_)
 go_returns
 refine⟨by simp;exact HO.o.2.1,?_,((Ext.nil HE.o).trans H2.o.2.1).trans H2.o.2.2⟩
 have h9:=H2.o.1
 rw[<-HO.o.2.1]
 have hl:=HO.o.1.1
 have hx:(xs.take (i*3)++xs.drop (i*3+3)++xs.drop (n*3-3)).take (m*3)=xs.take (i*3)++xs.drop (i*3+3):=by
  have:=HO.o.2.1
  rw[uG (by simp only[dE,gX,lK,hl];omega),kK (by simp only[dE,gX,lK,hl];omega)]
 rw[<-hx]
 exact h9
theorem Nj (N:Nat) (g n c i:Nat) (xs:List Value) (w:World) (ho:w.ownsRow N 124 4 (.slice (some ⟨g,0,none⟩) n c) n xs) (h1: ∀u∈xs,u.oneCell'=true) (hi:i<n) (hn:n<=100):
 Calls Tryz.prog 262 #[.slice (some ⟨g,0,none⟩) n c,iv i,iv (i+1)] w (abA N 124 4 g (n-1) c (xs.take (i*4)++xs.drop (i*4+4)) w):=by
 have hnc:n<=c/\c<=maxLen:=by
  obtain⟨h1,⟨h2,rfl⟩|⟨g',cc,cs,h2,h3,h4,h5,h6,h7,h8⟩⟩:=ho
  ·cases h2
  ·cases h2;exact⟨h5,h6⟩
 obtain⟨hnc,hcm⟩:=hnc
 simp only[maxLen] at hcm
 have hc0:c≠0:=by omega
 have hi1:(i:Int)<=(c:Int):=by omega
 have hi2:(0:Int)<=(i:Int):=by omega
 have hi3:(i:Int)+1<=(n:Int):=by omega
 have hi4:(0:Int)<=(i:Int)+1:=by omega
 have hi5:i<=c:=by omega
 have hi6:i+1<=n:=by omega
 have hi7:((i:Int)+1).toNat=i+1:=by omega
 obtain⟨m,hm⟩: ∃m,m=n-1:=⟨_,rfl⟩
 have hm1:(m:Int)<=(n:Int):=by omega
 have hm2:c≠m:=by omega
 have xJ:(n:Int)<=(c:Int):=by omega
 have hm4:m<=n:=by omega
 obtain⟨A,hA⟩: ∃A:Addr,(if c=i+1 then some (⟨g,0,none⟩:Addr) else some ⟨g,(i+1)*4,none⟩)=some A:=by split <;>exact⟨_,rfl⟩
 have HO:=ae (ag ho (ag hm hA))
 clear ho hm
 go_enter Tryz.func262,Tryz.ntmps262
 go_wp2_with fail
 refine zg 6 [] none [] ?_
 simp only[zt]
 repeat ((first|refine zd ?_|refine zk ?_);simp only[zp])
 intro W hE hF
 have HE:=ae (show Ext [] w W from hE)
 clear hE hF
 obtain⟨W1,happ,ho1,hE1⟩:=uy acf (aA (Ms:=[]) HO.o.1 HE.o (by simp)) h1 hi HO.o.2.1 A HO.o.2.2
 obtain⟨W2,hcl,ho2,hE2⟩:=nX acf (fun w=>Tryz.zeroValue124 w) (by kernel_rfl) ho1 (m:=m) (by have:=HO.o.2.1;omega)
 have H2:=ae (ag ho2 (ag hE1 hE2))
 clear ho1 ho2 hE1 hE2 hA
 go_wp2_with (at_builtin;refine jO rfl _ _ rfl _ _ _ rfl rfl happ ?_)
 go_returns
 refine⟨by simp;exact HO.o.2.1,?_,((Ext.nil HE.o).trans H2.o.2.1).trans H2.o.2.2⟩
 have h9:=H2.o.1
 rw[<-HO.o.2.1]
 have hl:=HO.o.1.1
 have hx:(xs.take (i*4)++xs.drop (i*4+4)++xs.drop (n*4-4)).take (m*4)=xs.take (i*4)++xs.drop (i*4+4):=by
  have:=HO.o.2.1
  rw[uG (by simp only[dE,gX,lK,hl];omega),kK (by simp only[dE,gX,lK,hl];omega)]
 rw[<-hx]
 exact h9
theorem Uh (N:Nat) (g n c i:Nat) (xs:List Value) (w:World) (ho:w.ownsRow N 3 1 (.slice (some ⟨g,0,none⟩) n c) n xs) (h1: ∀u∈xs,u.oneCell'=true) (hi:i<n) (hn:n<=100):
 Calls Tryz.prog 258 #[.slice (some ⟨g,0,none⟩) n c,iv i,iv (i+1)] w (abA N 3 1 g (n-1) c (xs.take i++xs.drop (i+1)) w):=by
 have hnc:n<=c/\c<=maxLen:=by
  obtain⟨h1,⟨h2,rfl⟩|⟨g',cc,cs,h2,h3,h4,h5,h6,h7,h8⟩⟩:=ho
  ·cases h2
  ·cases h2;exact⟨h5,h6⟩
 obtain⟨hnc,hcm⟩:=hnc
 simp only[maxLen] at hcm
 have hc0:c≠0:=by omega
 have hi1:(i:Int)<=(c:Int):=by omega
 have hi2:(0:Int)<=(i:Int):=by omega
 have hi3:(i:Int)+1<=(n:Int):=by omega
 have hi4:(0:Int)<=(i:Int)+1:=by omega
 have hi5:i<=c:=by omega
 have hi6:i+1<=n:=by omega
 have hi7:((i:Int)+1).toNat=i+1:=by omega
 obtain⟨m,hm⟩: ∃m,m=n-1:=⟨_,rfl⟩
 have hm1:(m:Int)<=(n:Int):=by omega
 have hm2:c≠m:=by omega
 have xJ:(n:Int)<=(c:Int):=by omega
 have hm4:m<=n:=by omega
 obtain⟨A,hA⟩: ∃A:Addr,(if c=i+1 then some (⟨g,0,none⟩:Addr) else some ⟨g,i+1,none⟩)=some A:=by split <;>exact⟨_,rfl⟩
 have HO:=ae (ag ho (ag hm hA))
 clear ho hm
 go_enter Tryz.func258,Tryz.ntmps258
 go_wp2_with fail
 refine zg 6 [] none [] ?_
 simp only[zt]
 repeat ((first|refine zd ?_|refine zk ?_);simp only[zp])
 intro W hE hF
 have HE:=ae (show Ext [] w W from hE)
 clear hE hF
 obtain⟨W1,happ,ho1,hE1⟩:=uy rO (aA (Ms:=[]) HO.o.1 HE.o (by simp)) h1 hi HO.o.2.1 A (by rw[Nat.mul_one];exact HO.o.2.2)
 obtain⟨W2,hcl,ho2,hE2⟩:=nX rO (fun w=>Tryz.zeroValue3 w) (by kernel_rfl) ho1 (m:=m) (by have:=HO.o.2.1;omega)
 simp only[Nat.mul_one] at ho1 ho2 hcl
 have H2:=ae (ag ho2 (ag hE1 hE2))
 clear ho1 ho2 hE1 hE2 hA
 go_wp2_with (at_builtin;refine jO rfl _ _ rfl _ _ _ rfl rfl happ ?_)
 go_returns
 refine⟨by simp;exact HO.o.2.1,?_,((Ext.nil HE.o).trans H2.o.2.1).trans H2.o.2.2⟩
 have h9:=H2.o.1
 rw[<-HO.o.2.1]
 have hl:=HO.o.1.1
 have hx:(xs.take i++xs.drop (i+1)++xs.drop (n-1)).take m=xs.take i++xs.drop (i+1):=by
  have:=HO.o.2.1
  rw[uG (by simp only[dE,gX,lK,hl];omega),kK (by simp only[dE,gX,lK,hl];omega)]
 rw[<-hx]
 exact h9
theorem xm {α:Type} (f:α->List Value) (k:Nat) (hk: ∀x,(f x).length=k): ∀(l:List α) (i:Nat),i<l.length->(l.eraseIdx i).flatMap f=(l.flatMap f).take (i*k)++(l.flatMap f).drop (i*k+k):=by
 intro l
 induction l with
 |nil=>intro i h;simp at h
 |cons y l ih=>
  intro i h
  rw[List.flatMap_cons]
  cases i with
  |zero=>
   rw[List.eraseIdx_cons_zero,Nat.zero_mul,List.take_zero,List.nil_append,Nat.zero_add,List.drop_append,List.drop_of_length_le (by rw[hk];omega),hk,Nat.sub_self,List.drop_zero,List.nil_append]
  |succ i=>
   rw[List.eraseIdx_cons_succ,List.flatMap_cons,ih i (by simpa using h)]
   generalize l.flatMap f=X
   have h1:(f y).length<=(i+1)*k:=by rw[hk,Nat.succ_mul];omega
   have h2:(f y).length<=(i+1)*k+k:=by omega
   rw[List.take_append (l₁:=f y),kK h1,List.drop_append (l₁:=f y),List.drop_of_length_le h2,hk,List.nil_append,nS]
   rw[show(i+1)*k-k=i*k from by rw[Nat.succ_mul];omega,show(i+1)*k+k-k=i*k+k from by rw[Nat.succ_mul];omega]
theorem N8 (N:Nat) (w:World) (wb:Nat) (s:jA) (V:SV) (es:List KE) (ns:Value) (x:Nat) (hO:jX N w wb s V es) (hn:sD N w ns [(x:Int)]) (hG:fZ s):Calls Tryz.prog 180 #[.pointer (some ⟨wb,0,none⟩),ns] w (rJ N wb (iU s .mJ [(x:Int)]) w):=by
 obtain⟨vt,vn,vw,vu,vr,vh,vk,vs⟩:=V
 obtain⟨o,cc,rfl⟩: ∃o c,vt= .slice o s.led.field.au.length c:=aU (n:=s.led.field.au.length) (hO.rows.own 0 _ rfl)
 have HO:=ae hO
 have gQ:=eU hO
 obtain⟨b,c,rfl,hbN,hcs⟩:=hn
 have lb:b<w.heap.size:=by omega
 have lw:=hO.rows.lt
 have wQ:=hO.rows.base
 have HW:Hid (∀W,Below N w W->b<W.heap.size/\ ∀(j:Nat) (h:j<[(x:Int)].length),W.cell? ⟨b,j,none⟩=some (iv [(x:Int)][j])):=ae (fun W hB=>⟨by have:=hB.size;omega,fun j h=>(jd (hB.block b hbN)).trans (hcs j h)⟩)
 obtain⟨c0,f0,l0⟩:=af hO.blk
 have pI:=hcs 0 (by simp)
 simp only[ax] at pI
 have HB0:Hid (Below w.heap.size w w):=ae (aG _ _)
 have MO:=hG.Ah
 clear hO hcs hG
 go_enter Tryz.func180,Tryz.ntmps180
 go_wp2_with fail
 refine zg 8 [] none [] ?_
 simp only[zt]
 repeat ((first|refine zd ?_|refine zk ?_);simp only[zp])
 intro W1 hE hF
 have HB1:=ae (aX HB0.o hE.below)
 have NF:=ae (Ext.below hE)
 clear hE hF c0 f0 pI
 obtain⟨c1,f1,l1⟩:=af ((HB1.o.block _ lw).trans HO.o.blk)
 obtain⟨xg,hcs1⟩:=HW.o W1 (HB1.o.mono gQ)
 have n10:=hcs1 0 (by simp)
 simp only[ax] at n10
 clear hcs1
 go_wp2_with fail
 refine(je _ _ _).mono ?_
 rintro e W2 ⟨hb,⟨hc,rfl⟩|⟨hc,rfl⟩⟩
 rotate_left
 ·simp at hc
  simp only[iU,dh,dm,dB]
  (repeat (first|rw[aC (by omega)]|rw[aj (by omega)]))
  exact⟨rfl,(aX HB1.o hb).mono gQ,.inr ⟨by simp,rfl⟩⟩
 simp at hc
 have HB2:=ae (aX HB1.o hb)
 have HS2:=ae hb
 have jT:=ae hc
 clear hb hc c1 f1 xg n10
 obtain⟨c2,f2,l2⟩:=af ((HB2.o.block _ lw).trans HO.o.blk)
 obtain⟨xX,hcs2⟩:=HW.o W2 (HB2.o.mono gQ)
 have n20:=hcs2 0 (by simp)
 simp only[ax] at n20
 clear hcs2
 go_wp2_with fail
 have hlt:=jT.o
 have MW:=HO.o.below HB2.o
 have h6:W2.ownsRow N 118 5 (.slice o s.led.field.au.length cc) (s.led.field.au.length) (dS s.led.field.au):=MW.rows.own 0 _ rfl
 obtain⟨g,rfl, -,hfg,hgl⟩:=gZ h6 (by have:=jT.o;omega)
 have hg1:wb≠g:=fun e=>MW.rows.off 0 _ rfl (by rw[e];rfl)
 have hg2:b≠g:=fun e=>by have:=(h6.lt g rfl).1;omega
 have hg3:g≠wb:=fun e=>hg1 e.symm
 have hg4:g≠b:=fun e=>hg2 e.symm
 have jB:=ae MW
 have H6:=ae h6
 clear MW h6
 refine zg 13 [g] (some 12) [(12,⟨fun _ v=>v= .slice (some ⟨g,0,none⟩) (s.led.field.au.length-1) cc,fun _ v Wx=>Wx.ownsRow N 118 5 (.slice (some ⟨g,0,none⟩) (s.led.field.au.length-1) cc) (s.led.field.au.length-1) ((dS s.led.field.au).take (x*5)++(dS s.led.field.au).drop (x*5+5))⟩)] ?_
 simp only[zt]
 repeat ((first|refine zd ?_|refine zk ?_);simp only[zp])
 refine bJ _ (by rfl) (by rfl) ⟨_,rfl⟩ (fun W6 hE hF=>?_) (fun v Wa Wb ho hE=>?_) (fun v hv=>?_)
 ·have hE':Ext [] W2 W6:=hE
  refine dG 252 #[.slice (some ⟨g,0,none⟩) s.led.field.au.length cc,iv x,iv (x+1)] (by go_simp;try rfl) ?_
  refine(Ug N g _ cc x (dS s.led.field.au) W6 (aA (Ms:=[]) H6.o hE' (by simp)) (En _) (by have:=jT.o;omega) (by omega)).mono ?_
  rintro e w' ⟨rfl,h1,h2⟩
  exact⟨_,rfl,rfl,h1,h2⟩
 ·exact aA (Ms:=[]) ho hE (by simp)
 obtain rfl:v= .slice (some ⟨g,0,none⟩) (s.led.field.au.length-1) cc:=hv
 simp only[zp]
 intro W3 hE hF
 have qM:W3.ownsRow N 118 5 (.slice (some ⟨g,0,none⟩) (s.led.field.au.length-1) cc) (s.led.field.au.length-1) ((dS s.led.field.au).take (x*5)++(dS s.led.field.au).drop (x*5+5)):=hF _ (bg _)
 have ig:Ext [g] W2 W3:=hE
 have hbl:=(ig.block wb jB.o.rows.lt (by simpa using hg1)).trans jB.o.blk
 obtain⟨c3,f3,l3⟩:=af hbl
 have iZ:=ae (ag ig (ag qM hbl))
 have pO:=ae (show Below N w W3 from(HB2.o.mono gQ).trans ⟨ig.os,ig.tape,ig.output,ig.size,fun k hk=>ig.block k (by have:=HB2.o.size;omega) (fun h=>by have:=(H6.o.lt g rfl).1;have:=dZ.1 h;omega)⟩)
 clear hE hF ig qM hbl hg1 hg2 hg3 hg4 hfg hgl c2 f2 xX n20
 go_wp2_with fail
 go_end0
 have q0:=jT.o
 simp only[iU,dh,dm,dB]
 (repeat (first|rw[aC (by omega)]|rw[aj (by omega)]))
 refine⟨pO.o.setCell wQ _,.inl ⟨rfl,rfl,⟨.slice (some ⟨g,0,none⟩) (s.led.field.au.length-1) cc,vn,vw,vu,vr,vh,vk,vs⟩,es,jB.o.put (i:=0) rfl ⟨118,5,.slice (some ⟨g,0,none⟩) (s.led.field.au.length-1) cc,s.led.field.au.length-1,(dS s.led.field.au).take (x*5)++(dS s.led.field.au).drop (x*5+5)⟩ iZ.o.1 (fun m hm=>by rw[dZ.1 hm];rfl) iZ.o.2.1 (.inl rfl) (aI iZ.o.2.2 _) (by simp only[iM,nG,Int.toNat_natCast];rw[List.length_eraseIdx_of_lt hlt,show dS (s.led.field.au.eraseIdx x)=_ from xm _ 5 (fun _=>rfl) s.led.field.au x hlt];rfl) (jB.o.es)⟩⟩
theorem Zg (N:Nat) (w:World) (wb:Nat) (s:jA) (V:SV) (es:List KE) (ns:Value) (x:Nat) (hO:jX N w wb s V es) (hn:sD N w ns [(x:Int)]) (hG:fZ s):Calls Tryz.prog 184 #[.pointer (some ⟨wb,0,none⟩),ns] w (rJ N wb (iU s .void [(x:Int)]) w):=by
 obtain⟨vt,vn,vw,vu,vr,vh,vk,vs⟩:=V
 obtain⟨o,cc,rfl⟩: ∃o c,vn= .slice o s.led.notes.length c:=aU (n:=s.led.notes.length) (hO.rows.own 1 _ rfl)
 have HO:=ae hO
 have gQ:=eU hO
 obtain⟨b,c,rfl,hbN,hcs⟩:=hn
 have lb:b<w.heap.size:=by omega
 have lw:=hO.rows.lt
 have wQ:=hO.rows.base
 have HW:Hid (∀W,Below N w W->b<W.heap.size/\ ∀(j:Nat) (h:j<[(x:Int)].length),W.cell? ⟨b,j,none⟩=some (iv [(x:Int)][j])):=ae (fun W hB=>⟨by have:=hB.size;omega,fun j h=>(jd (hB.block b hbN)).trans (hcs j h)⟩)
 obtain⟨c0,f0,l0⟩:=af hO.blk
 have pI:=hcs 0 (by simp)
 simp only[ax] at pI
 have HB0:Hid (Below w.heap.size w w):=ae (aG _ _)
 have MO:=hG.notes
 clear hO hcs hG
 go_enter Tryz.func184,Tryz.ntmps184
 go_wp2_with fail
 refine zg 10 [] none [] ?_
 simp only[zt]
 repeat ((first|refine zd ?_|refine zk ?_);simp only[zp])
 intro W1 hE hF
 have HB1:=ae (aX HB0.o hE.below)
 have NF:=ae (Ext.below hE)
 clear hE hF c0 f0 pI
 obtain⟨c1,f1,l1⟩:=af ((HB1.o.block _ lw).trans HO.o.blk)
 obtain⟨xg,hcs1⟩:=HW.o W1 (HB1.o.mono gQ)
 have n10:=hcs1 0 (by simp)
 simp only[ax] at n10
 clear hcs1
 go_wp2_with fail
 refine(je _ _ _).mono ?_
 rintro e W2 ⟨hb,⟨hc,rfl⟩|⟨hc,rfl⟩⟩
 rotate_left
 ·simp at hc
  simp only[iU,dh,dm,dB]
  (repeat (first|rw[aC (by omega)]|rw[aj (by omega)]))
  exact⟨rfl,(aX HB1.o hb).mono gQ,.inr ⟨by simp,rfl⟩⟩
 simp at hc
 have HB2:=ae (aX HB1.o hb)
 have HS2:=ae hb
 have jT:=ae hc
 clear hb hc c1 f1 xg n10
 obtain⟨c2,f2,l2⟩:=af ((HB2.o.block _ lw).trans HO.o.blk)
 obtain⟨xX,hcs2⟩:=HW.o W2 (HB2.o.mono gQ)
 have n20:=hcs2 0 (by simp)
 simp only[ax] at n20
 clear hcs2
 go_wp2_with fail
 have hlt:=jT.o
 have MW:=HO.o.below HB2.o
 have h6:W2.ownsRow N 120 3 (.slice o s.led.notes.length cc) (s.led.notes.length) (aY s.led.notes):=MW.rows.own 1 _ rfl
 obtain⟨g,rfl, -,hfg,hgl⟩:=gZ h6 (by have:=jT.o;omega)
 have hg1:wb≠g:=fun e=>MW.rows.off 1 _ rfl (by rw[e];rfl)
 have hg2:b≠g:=fun e=>by have:=(h6.lt g rfl).1;omega
 have hg3:g≠wb:=fun e=>hg1 e.symm
 have hg4:g≠b:=fun e=>hg2 e.symm
 have jB:=ae MW
 have H6:=ae h6
 clear MW h6
 refine zg 15 [g] (some 14) [(14,⟨fun _ v=>v= .slice (some ⟨g,0,none⟩) (s.led.notes.length-1) cc,fun _ v Wx=>Wx.ownsRow N 120 3 (.slice (some ⟨g,0,none⟩) (s.led.notes.length-1) cc) (s.led.notes.length-1) ((aY s.led.notes).take (x*3)++(aY s.led.notes).drop (x*3+3))⟩)] ?_
 simp only[zt]
 repeat ((first|refine zd ?_|refine zk ?_);simp only[zp])
 refine bJ _ (by rfl) (by rfl) ⟨_,rfl⟩ (fun W6 hE hF=>?_) (fun v Wa Wb ho hE=>?_) (fun v hv=>?_)
 ·have hE':Ext [] W2 W6:=hE
  refine dG 254 #[.slice (some ⟨g,0,none⟩) s.led.notes.length cc,iv x,iv (x+1)] (by go_simp;try rfl) ?_
  refine(PU N g _ cc x (aY s.led.notes) W6 (aA (Ms:=[]) H6.o hE' (by simp)) (ve _) (by have:=jT.o;omega) (by omega)).mono ?_
  rintro e w' ⟨rfl,h1,h2⟩
  exact⟨_,rfl,rfl,h1,h2⟩
 ·exact aA (Ms:=[]) ho hE (by simp)
 obtain rfl:v= .slice (some ⟨g,0,none⟩) (s.led.notes.length-1) cc:=hv
 simp only[zp]
 intro W3 hE hF
 have qM:W3.ownsRow N 120 3 (.slice (some ⟨g,0,none⟩) (s.led.notes.length-1) cc) (s.led.notes.length-1) ((aY s.led.notes).take (x*3)++(aY s.led.notes).drop (x*3+3)):=hF _ (bg _)
 have ig:Ext [g] W2 W3:=hE
 have hbl:=(ig.block wb jB.o.rows.lt (by simpa using hg1)).trans jB.o.blk
 obtain⟨c3,f3,l3⟩:=af hbl
 have iZ:=ae (ag ig (ag qM hbl))
 have pO:=ae (show Below N w W3 from(HB2.o.mono gQ).trans ⟨ig.os,ig.tape,ig.output,ig.size,fun k hk=>ig.block k (by have:=HB2.o.size;omega) (fun h=>by have:=(H6.o.lt g rfl).1;have:=dZ.1 h;omega)⟩)
 clear hE hF ig qM hbl hg1 hg2 hg3 hg4 hfg hgl c2 f2 xX n20
 go_wp2_with fail
 go_end0
 have q0:=jT.o
 simp only[iU,dh,dm,dB]
 (repeat (first|rw[aC (by omega)]|rw[aj (by omega)]))
 refine⟨pO.o.setCell wQ _,.inl ⟨rfl,rfl,⟨vt,.slice (some ⟨g,0,none⟩) (s.led.notes.length-1) cc,vw,vu,vr,vh,vk,vs⟩,es,jB.o.put (i:=1) rfl ⟨120,3,.slice (some ⟨g,0,none⟩) (s.led.notes.length-1) cc,s.led.notes.length-1,(aY s.led.notes).take (x*3)++(aY s.led.notes).drop (x*3+3)⟩ iZ.o.1 (fun m hm=>by rw[dZ.1 hm];rfl) iZ.o.2.1 (.inl rfl) (aI iZ.o.2.2 _) (by simp only[iM,oP,Int.toNat_natCast];rw[List.length_eraseIdx_of_lt hlt,show aY (s.led.notes.eraseIdx x)=_ from xm _ 3 (fun _=>rfl) s.led.notes x hlt];rfl) (jB.o.es)⟩⟩
theorem Rl (N:Nat) (w:World) (wb:Nat) (s:jA) (V:SV) (es:List KE) (ns:Value) (x:Nat) (hO:jX N w wb s V es) (hn:sD N w ns [(x:Int)]) (hG:fZ s):Calls Tryz.prog 190 #[.pointer (some ⟨wb,0,none⟩),ns] w (rJ N wb (iU s .unread [(x:Int)]) w):=by
 obtain⟨vt,vn,vw,vu,vr,vh,vk,vs⟩:=V
 obtain⟨o,cc,rfl⟩: ∃o c,vr= .slice o s.heap.readings.length c:=aU (n:=s.heap.readings.length) (hO.rows.own 4 _ rfl)
 have HO:=ae hO
 have gQ:=eU hO
 obtain⟨b,c,rfl,hbN,hcs⟩:=hn
 have lb:b<w.heap.size:=by omega
 have lw:=hO.rows.lt
 have wQ:=hO.rows.base
 have HW:Hid (∀W,Below N w W->b<W.heap.size/\ ∀(j:Nat) (h:j<[(x:Int)].length),W.cell? ⟨b,j,none⟩=some (iv [(x:Int)][j])):=ae (fun W hB=>⟨by have:=hB.size;omega,fun j h=>(jd (hB.block b hbN)).trans (hcs j h)⟩)
 obtain⟨c0,f0,l0⟩:=af hO.blk
 have pI:=hcs 0 (by simp)
 simp only[ax] at pI
 have HB0:Hid (Below w.heap.size w w):=ae (aG _ _)
 have MO:=hG.reads
 clear hO hcs hG
 go_enter Tryz.func190,Tryz.ntmps190
 go_wp2_with fail
 refine zg 10 [] none [] ?_
 simp only[zt]
 repeat ((first|refine zd ?_|refine zk ?_);simp only[zp])
 intro W1 hE hF
 have HB1:=ae (aX HB0.o hE.below)
 have NF:=ae (Ext.below hE)
 clear hE hF c0 f0 pI
 obtain⟨c1,f1,l1⟩:=af ((HB1.o.block _ lw).trans HO.o.blk)
 obtain⟨xg,hcs1⟩:=HW.o W1 (HB1.o.mono gQ)
 have n10:=hcs1 0 (by simp)
 simp only[ax] at n10
 clear hcs1
 go_wp2_with fail
 refine(je _ _ _).mono ?_
 rintro e W2 ⟨hb,⟨hc,rfl⟩|⟨hc,rfl⟩⟩
 rotate_left
 ·simp at hc
  simp only[iU,dh,dm,dB]
  (repeat (first|rw[aC (by omega)]|rw[aj (by omega)]))
  exact⟨rfl,(aX HB1.o hb).mono gQ,.inr ⟨by simp,rfl⟩⟩
 simp at hc
 have HB2:=ae (aX HB1.o hb)
 have HS2:=ae hb
 have jT:=ae hc
 clear hb hc c1 f1 xg n10
 obtain⟨c2,f2,l2⟩:=af ((HB2.o.block _ lw).trans HO.o.blk)
 obtain⟨xX,hcs2⟩:=HW.o W2 (HB2.o.mono gQ)
 have n20:=hcs2 0 (by simp)
 simp only[ax] at n20
 clear hcs2
 go_wp2_with fail
 have hlt:=jT.o
 have MW:=HO.o.below HB2.o
 have h6:W2.ownsRow N 122 3 (.slice o s.heap.readings.length cc) (s.heap.readings.length) (aY s.heap.readings):=MW.rows.own 4 _ rfl
 obtain⟨g,rfl, -,hfg,hgl⟩:=gZ h6 (by have:=jT.o;omega)
 have hg1:wb≠g:=fun e=>MW.rows.off 4 _ rfl (by rw[e];rfl)
 have hg2:b≠g:=fun e=>by have:=(h6.lt g rfl).1;omega
 have hg3:g≠wb:=fun e=>hg1 e.symm
 have hg4:g≠b:=fun e=>hg2 e.symm
 have jB:=ae MW
 have H6:=ae h6
 clear MW h6
 refine zg 15 [g] (some 14) [(14,⟨fun _ v=>v= .slice (some ⟨g,0,none⟩) (s.heap.readings.length-1) cc,fun _ v Wx=>Wx.ownsRow N 122 3 (.slice (some ⟨g,0,none⟩) (s.heap.readings.length-1) cc) (s.heap.readings.length-1) ((aY s.heap.readings).take (x*3)++(aY s.heap.readings).drop (x*3+3))⟩)] ?_
 simp only[zt]
 repeat ((first|refine zd ?_|refine zk ?_);simp only[zp])
 refine bJ _ (by rfl) (by rfl) ⟨_,rfl⟩ (fun W6 hE hF=>?_) (fun v Wa Wb ho hE=>?_) (fun v hv=>?_)
 ·have hE':Ext [] W2 W6:=hE
  refine dG 259 #[.slice (some ⟨g,0,none⟩) s.heap.readings.length cc,iv x,iv (x+1)] (by go_simp;try rfl) ?_
  refine(PT N g _ cc x (aY s.heap.readings) W6 (aA (Ms:=[]) H6.o hE' (by simp)) (ve _) (by have:=jT.o;omega) (by omega)).mono ?_
  rintro e w' ⟨rfl,h1,h2⟩
  exact⟨_,rfl,rfl,h1,h2⟩
 ·exact aA (Ms:=[]) ho hE (by simp)
 obtain rfl:v= .slice (some ⟨g,0,none⟩) (s.heap.readings.length-1) cc:=hv
 simp only[zp]
 intro W3 hE hF
 have qM:W3.ownsRow N 122 3 (.slice (some ⟨g,0,none⟩) (s.heap.readings.length-1) cc) (s.heap.readings.length-1) ((aY s.heap.readings).take (x*3)++(aY s.heap.readings).drop (x*3+3)):=hF _ (bg _)
 have ig:Ext [g] W2 W3:=hE
 have hbl:=(ig.block wb jB.o.rows.lt (by simpa using hg1)).trans jB.o.blk
 obtain⟨c3,f3,l3⟩:=af hbl
 have iZ:=ae (ag ig (ag qM hbl))
 have pO:=ae (show Below N w W3 from(HB2.o.mono gQ).trans ⟨ig.os,ig.tape,ig.output,ig.size,fun k hk=>ig.block k (by have:=HB2.o.size;omega) (fun h=>by have:=(H6.o.lt g rfl).1;have:=dZ.1 h;omega)⟩)
 clear hE hF ig qM hbl hg1 hg2 hg3 hg4 hfg hgl c2 f2 xX n20
 go_wp2_with fail
 go_end0
 have q0:=jT.o
 simp only[iU,dh,dm,dB]
 (repeat (first|rw[aC (by omega)]|rw[aj (by omega)]))
 refine⟨pO.o.setCell wQ _,.inl ⟨rfl,rfl,⟨vt,vn,vw,vu,.slice (some ⟨g,0,none⟩) (s.heap.readings.length-1) cc,vh,vk,vs⟩,es,jB.o.put (i:=4) rfl ⟨122,3,.slice (some ⟨g,0,none⟩) (s.heap.readings.length-1) cc,s.heap.readings.length-1,(aY s.heap.readings).take (x*3)++(aY s.heap.readings).drop (x*3+3)⟩ iZ.o.1 (fun m hm=>by rw[dZ.1 hm];rfl) iZ.o.2.1 (.inl rfl) (aI iZ.o.2.2 _) (by simp only[iM,iT,Int.toNat_natCast];rw[List.length_eraseIdx_of_lt hlt,show aY (s.heap.readings.eraseIdx x)=_ from xm _ 3 (fun _=>rfl) s.heap.readings x hlt];rfl) (jB.o.es)⟩⟩
theorem VZ (N:Nat) (w:World) (wb:Nat) (s:jA) (V:SV) (es:List KE) (ns:Value) (x:Nat) (hO:jX N w wb s V es) (hn:sD N w ns [(x:Int)]) (hG:fZ s):Calls Tryz.prog 196 #[.pointer (some ⟨wb,0,none⟩),ns] w (rJ N wb (iU s .uZ [(x:Int)]) w):=by
 obtain⟨vt,vn,vw,vu,vr,vh,vk,vs⟩:=V
 obtain⟨o,cc,rfl⟩: ∃o c,vs= .slice o s.bP.aJ.length c:=aU (n:=s.bP.aJ.length) (hO.rows.own 7 _ rfl)
 have HO:=ae hO
 have gQ:=eU hO
 obtain⟨b,c,rfl,hbN,hcs⟩:=hn
 have lb:b<w.heap.size:=by omega
 have lw:=hO.rows.lt
 have wQ:=hO.rows.base
 have HW:Hid (∀W,Below N w W->b<W.heap.size/\ ∀(j:Nat) (h:j<[(x:Int)].length),W.cell? ⟨b,j,none⟩=some (iv [(x:Int)][j])):=ae (fun W hB=>⟨by have:=hB.size;omega,fun j h=>(jd (hB.block b hbN)).trans (hcs j h)⟩)
 obtain⟨c0,f0,l0⟩:=af hO.blk
 have pI:=hcs 0 (by simp)
 simp only[ax] at pI
 have HB0:Hid (Below w.heap.size w w):=ae (aG _ _)
 have MO:=hG.aJ
 clear hO hcs hG
 go_enter Tryz.func196,Tryz.ntmps196
 go_wp2_with fail
 refine zg 8 [] none [] ?_
 simp only[zt]
 repeat ((first|refine zd ?_|refine zk ?_);simp only[zp])
 intro W1 hE hF
 have HB1:=ae (aX HB0.o hE.below)
 have NF:=ae (Ext.below hE)
 clear hE hF c0 f0 pI
 obtain⟨c1,f1,l1⟩:=af ((HB1.o.block _ lw).trans HO.o.blk)
 obtain⟨xg,hcs1⟩:=HW.o W1 (HB1.o.mono gQ)
 have n10:=hcs1 0 (by simp)
 simp only[ax] at n10
 clear hcs1
 go_wp2_with fail
 refine(je _ _ _).mono ?_
 rintro e W2 ⟨hb,⟨hc,rfl⟩|⟨hc,rfl⟩⟩
 rotate_left
 ·simp at hc
  simp only[iU,dh,dm,dB]
  (repeat (first|rw[aC (by omega)]|rw[aj (by omega)]))
  exact⟨rfl,(aX HB1.o hb).mono gQ,.inr ⟨by simp,rfl⟩⟩
 simp at hc
 have HB2:=ae (aX HB1.o hb)
 have HS2:=ae hb
 have jT:=ae hc
 clear hb hc c1 f1 xg n10
 obtain⟨c2,f2,l2⟩:=af ((HB2.o.block _ lw).trans HO.o.blk)
 obtain⟨xX,hcs2⟩:=HW.o W2 (HB2.o.mono gQ)
 have n20:=hcs2 0 (by simp)
 simp only[ax] at n20
 clear hcs2
 go_wp2_with fail
 have hlt:=jT.o
 have MW:=HO.o.below HB2.o
 have h6:W2.ownsRow N 124 4 (.slice o s.bP.aJ.length cc) (s.bP.aJ.length) (gV s.bP.aJ):=MW.rows.own 7 _ rfl
 obtain⟨g,rfl, -,hfg,hgl⟩:=gZ h6 (by have:=jT.o;omega)
 have hg1:wb≠g:=fun e=>MW.rows.off 7 _ rfl (by rw[e];rfl)
 have hg2:b≠g:=fun e=>by have:=(h6.lt g rfl).1;omega
 have hg3:g≠wb:=fun e=>hg1 e.symm
 have hg4:g≠b:=fun e=>hg2 e.symm
 have jB:=ae MW
 have H6:=ae h6
 clear MW h6
 refine zg 13 [g] (some 12) [(12,⟨fun _ v=>v= .slice (some ⟨g,0,none⟩) (s.bP.aJ.length-1) cc,fun _ v Wx=>Wx.ownsRow N 124 4 (.slice (some ⟨g,0,none⟩) (s.bP.aJ.length-1) cc) (s.bP.aJ.length-1) ((gV s.bP.aJ).take (x*4)++(gV s.bP.aJ).drop (x*4+4))⟩)] ?_
 simp only[zt]
 repeat ((first|refine zd ?_|refine zk ?_);simp only[zp])
 refine bJ _ (by rfl) (by rfl) ⟨_,rfl⟩ (fun W6 hE hF=>?_) (fun v Wa Wb ho hE=>?_) (fun v hv=>?_)
 ·have hE':Ext [] W2 W6:=hE
  refine dG 262 #[.slice (some ⟨g,0,none⟩) s.bP.aJ.length cc,iv x,iv (x+1)] (by go_simp;try rfl) ?_
  refine(Nj N g _ cc x (gV s.bP.aJ) W6 (aA (Ms:=[]) H6.o hE' (by simp)) (OH _) (by have:=jT.o;omega) (by omega)).mono ?_
  rintro e w' ⟨rfl,h1,h2⟩
  exact⟨_,rfl,rfl,h1,h2⟩
 ·exact aA (Ms:=[]) ho hE (by simp)
 obtain rfl:v= .slice (some ⟨g,0,none⟩) (s.bP.aJ.length-1) cc:=hv
 simp only[zp]
 intro W3 hE hF
 have qM:W3.ownsRow N 124 4 (.slice (some ⟨g,0,none⟩) (s.bP.aJ.length-1) cc) (s.bP.aJ.length-1) ((gV s.bP.aJ).take (x*4)++(gV s.bP.aJ).drop (x*4+4)):=hF _ (bg _)
 have ig:Ext [g] W2 W3:=hE
 have hbl:=(ig.block wb jB.o.rows.lt (by simpa using hg1)).trans jB.o.blk
 obtain⟨c3,f3,l3⟩:=af hbl
 have iZ:=ae (ag ig (ag qM hbl))
 have pO:=ae (show Below N w W3 from(HB2.o.mono gQ).trans ⟨ig.os,ig.tape,ig.output,ig.size,fun k hk=>ig.block k (by have:=HB2.o.size;omega) (fun h=>by have:=(H6.o.lt g rfl).1;have:=dZ.1 h;omega)⟩)
 clear hE hF ig qM hbl hg1 hg2 hg3 hg4 hfg hgl c2 f2 xX n20
 go_wp2_with fail
 go_end0
 have q0:=jT.o
 simp only[iU,dh,dm,dB]
 (repeat (first|rw[aC (by omega)]|rw[aj (by omega)]))
 refine⟨pO.o.setCell wQ _,.inl ⟨rfl,rfl,⟨vt,vn,vw,vu,vr,vh,vk,.slice (some ⟨g,0,none⟩) (s.bP.aJ.length-1) cc⟩,es,jB.o.put (i:=7) rfl ⟨124,4,.slice (some ⟨g,0,none⟩) (s.bP.aJ.length-1) cc,s.bP.aJ.length-1,(gV s.bP.aJ).take (x*4)++(gV s.bP.aJ).drop (x*4+4)⟩ iZ.o.1 (fun m hm=>by rw[dZ.1 hm];rfl) iZ.o.2.1 (.inl rfl) (aI iZ.o.2.2 _) (by simp only[iM,fQ,Int.toNat_natCast];rw[List.length_eraseIdx_of_lt hlt,show gV (s.bP.aJ.eraseIdx x)=_ from xm _ 4 (fun _=>rfl) s.bP.aJ x hlt];rfl) (jB.o.es)⟩⟩
theorem yG (last:Int) (p:Int->Bool):(jk last p).Nodup:=by
 unfold jk
 refine List.Pairwise.filter _ ?_
 refine List.Pairwise.map _ (fun a b h=>?_) List.nodup_range
 intro e;exact h (by omega)
theorem MP (last:Int) (p:Int->Bool):(jk last p).Pairwise (fun a b=>(decide (a<=b))=true):=by
 unfold jk
 refine List.Pairwise.filter _ ?_
 refine List.Pairwise.map _ (fun a b h=>?_) List.pairwise_le_range
 simpa using h
theorem Dq (p:Int->Bool):(jk 4 p).length<=5:=by
 unfold jk
 refine jo (List.length_filter_le _ _) ?_
 simp
theorem Xp (p:Int->Bool) (x:Int) (h0:0<=x) (h4:x<=4) (hx:(jk 4 p).contains x=false):((jk 4 p++[x]).mergeSort fun a b=>decide (a<=b))=jk 4 fun i=>i==x ||(jk 4 p).contains i:=by
 have hn: ¬x∈jk 4 p:=by
  intro h
  rw[List.contains_eq_mem,decide_eq_false_iff_not] at hx
  exact hx h
 have hp:(jk 4 p++[x]).mergeSort (fun a b=>decide (a<=b)) |>.Perm (jk 4 fun i=>i==x ||(jk 4 p).contains i):=by
  refine(List.mergeSort_perm _ _).trans ?_
  rw[List.perm_ext_iff_of_nodup]
  ·intro a
   rw[iE,dZ]
   constructor
   ·rintro(h|rfl)
    ·have:=zA.1 h
     exact zA.2 ⟨this.1,by simp[List.contains_eq_mem,h]⟩
    ·exact zA.2 ⟨⟨h0,h4⟩,by simp⟩
   ·intro h
    replace h:=(zA.1 h).2
    simp only[Bool.or_eq_true,beq_iff_eq,List.contains_eq_mem,eX] at h
    exact h.symm
  ·rw[List.nodup_append]
   refine⟨yG 4 p,by simp,fun a ha b hb=>?_⟩
   rw[dZ.1 hb]
   intro e;exact hn (e▸ha)
  ·exact yG 4 _
 refine hp.eq_of_pairwise (le:=fun a b=>(decide (a<=b))=true) (fun a b _ _ h1 h2=>?_) ?_ (MP 4 _)
 ·simp only[eX] at h1 h2;omega
 ·refine List.pairwise_mergeSort (fun a b c h1 h2=>?_) (fun a b=>?_) _
  ·simp only[eX] at*;omega
  ·simp only[Bool.or_eq_true,eX];omega
theorem erase_filter: ∀(l:List Int) (k:Nat) (x:Int),l.Nodup->l[k]? =some x->l.eraseIdx k=l.filter (fun i=>i !=x):=by
 intro l
 induction l with
 |nil=>intro k x _ h;cases h
 |cons y l ih=>
  intro k x hn h
  rw[List.nodup_cons] at hn
  cases k with
  |zero=>
   simp only[List.getElem?_cons_zero,Option.some.injEq] at h
   subst h
   rw[List.eraseIdx_cons_zero,List.filter_cons,aj (by simp)]
   symm
   rw[List.filter_eq_self]
   intro a ha
   simp only[bne_iff_ne,ne_eq]
   intro e;exact hn.1 (e▸ha)
  |succ k=>
   have hm:x∈l:=mG (i:=k) (by simpa using h)
   rw[List.eraseIdx_cons_succ,List.filter_cons,aC (by simp only[bne_iff_ne,ne_eq];intro e;exact hn.1 (e▸hm)),ih k x hn.2 (by simpa using h)]
theorem Pv (p:Int->Bool) (k:Nat) (x:Int) (h:(jk 4 p)[k]? =some x):(jk 4 p).eraseIdx k=jk 4 fun i=>i !=x&&(jk 4 p).contains i:=by
 rw[erase_filter _ k x (yG 4 p) h]
 conv=>lhs;unfold jk
 conv=>rhs;unfold jk
 rw[List.filter_filter]
 apply List.filter_congr
 intro i hi
 have:(List.filter p (List.map (fun(k:Nat)=>(k:Int)) (List.range (4+1:Int).toNat))).contains i=p i:=by
  rw[Bool.eq_iff_iff,List.contains_iff_mem,List.mem_filter]
  exact⟨fun h=>h.2,fun h=>⟨hi,h⟩⟩
 rw[this]
theorem Xl (l:List Int) (v:Value) (n:Int) (w:World) (hv:aP w v l):Calls Tryz.prog 219 #[v,iv n] w (fun e w'=>w=w'/\((∃k:Nat,l[k]? =some n/\e= .returned (iv k))∨(l.contains n=false/\e= .returned (iv (-1))))):=by
 have hlen:=hv.len
 obtain⟨o,c,rfl⟩:=hv.open
 have HV:=ae hv
 clear hv
 go_enter Tryz.func219,Tryz.ntmps219
 go_wp2
 go_loop [4,5,8] (fun _ _ i=> ∃k:Nat,k<=l.length/\i= .int .i64 k/\(∀j (hj:j<l.length),j<k->l[j]≠n)) (fun _ _ i=>l.length-(intOf i).toNat)
 case atStart=>exact⟨0,bW _,rfl,fun j _ hj=>by omega⟩
 case round=>
  obtain⟨k,hk,rfl,hno⟩:=hrel
  have HN:=ae hno
  clear hno
  by_cases hlt:k<l.length
  ·obtain⟨b,off,rfl,hb,hc0⟩:=aP.cell HV.o hlt
   by_cases he:l[k]=n
   ·have he':(n==l[k])=true:=by simp[he]
    have HE:=ae he
    clear he
    go_wp2
    go_returns
    exact⟨rfl,.inl ⟨k,by rw[<-HE.o];exact dA hlt,by simp⟩⟩
   ·have he':(n==l[k])=false:=by simp;omega
    have HE:=ae he
    clear he
    go_wp2
    go_round
    case rel=>exact⟨k+1,by omega,by go_num,fun j hj hjk=>(by by_cases e:j=k;(subst e;exact HE.o);exact HN.o j hj (by omega))⟩
    case measure=>simp[intOf];omega
  ·have hkl:k=l.length:=by omega
   go_wp2
   go_returns
   refine⟨rfl,.inr ⟨?_,by simp⟩⟩
   intro hm
   obtain⟨j,hj,e⟩:=mF hm
   exact HN.o j hj (by omega) e
theorem Rk (N:Nat) (w:World) (wb:Nat) (s:jA) (V:SV) (es:List KE) (ns:Value) (x:Int) (hO:jX N w wb s V es) (hn:sD N w ns [x]) (hG:fZ s):Calls Tryz.prog 188 #[.pointer (some ⟨wb,0,none⟩),ns] w (rJ N wb (iU s .pR [x]) w):=by
 obtain⟨vt,vn,vw,vu,vr,vh,vk,vs⟩:=V
 obtain⟨o,cc,rfl⟩: ∃o c,vu= .slice o s.heap.turns.length c:=aU (n:=s.heap.turns.length) (hO.rows.own 3 _ rfl)
 have HO:=ae hO
 have gQ:=eU hO
 obtain⟨b,c,rfl,hbN,hcs⟩:=hn
 have lb:b<w.heap.size:=by omega
 have lw:=hO.rows.lt
 have wQ:=hO.rows.base
 have HW:Hid (∀W,Below N w W->b<W.heap.size/\ ∀(j:Nat) (h:j<[x].length),W.cell? ⟨b,j,none⟩=some (iv [x][j])):=ae (fun W hB=>⟨by have:=hB.size;omega,fun j h=>(jd (hB.block b hbN)).trans (hcs j h)⟩)
 obtain⟨c0,f0,l0⟩:=af hO.blk
 have pI:=hcs 0 (by simp)
 simp only[ax] at pI
 have HB0:Hid (Below w.heap.size w w):=ae (aG _ _)
 obtain⟨pt,hpt⟩:=hG.turns
 have MO:s.heap.turns.length<=5:=by rw[hpt];exact Dq pt
 have hl4:=hG.heap.1
 have HPT:=ae (ag hpt hl4)
 have h6:w.ownsRow N 3 1 (.slice o s.heap.turns.length cc) s.heap.turns.length (ah s.heap.turns):=hO.rows.own 3 _ rfl
 have H6:=ae h6
 clear hpt hl4 h6
 clear hO hcs hG
 go_enter Tryz.func188,Tryz.ntmps188
 go_wp2_with fail
 refine zg 9 [] none [] ?_
 simp only[zt]
 repeat ((first|refine zd ?_|refine zk ?_);simp only[zp])
 intro W1 hE hF
 have HB1:=ae (aX HB0.o hE.below)
 have NF:=ae (Ext.below hE)
 clear hE hF c0 f0 pI
 obtain⟨c1,f1,l1⟩:=af ((HB1.o.block _ lw).trans HO.o.blk)
 obtain⟨xg,hcs1⟩:=HW.o W1 (HB1.o.mono gQ)
 have n10:=hcs1 0 (by simp)
 simp only[ax] at n10
 clear hcs1
 have h61:=aA (Ms:=[]) H6.o (Ext.az HB1.o) (by simp)
 have HX:=ae (Xl s.heap.turns _ x W1 (aK.dR h61))
 clear h61
 go_wp2_with fail
 refine HX.o.mono ?_
 clear HX
 rintro e w1 ⟨rfl,⟨k,hk,rfl⟩|⟨hno,rfl⟩⟩
 ·have hlt:=(jq.1 hk).1
  have HK:=ae hk
  have ak4:((k:Int)<0)=False:=by simp
  clear hk
  go_wp2_with fail
  refine(eF 7 [decide ((k:Int)<0)] W1 (by simp) _ (by simp[dN]) _ _ rfl).mono ?_
  rintro e W2 ⟨hb,⟨hc,rfl⟩|⟨hc,rfl⟩⟩
  rotate_left
  ·exfalso
   have h0:decide ((k:Int)<0)=false:=by simp
   rw[h0] at hc
   exact absurd hc (by decide)
  have HB2:=ae (aX HB1.o hb)
  clear hb hc c1 f1 n10 xg ak4
  obtain⟨c2,f2,l2⟩:=af ((HB2.o.block _ lw).trans HO.o.blk)
  obtain⟨xX,hcs2⟩:=HW.o W2 (HB2.o.mono gQ)
  have n20:=hcs2 0 (by simp)
  simp only[ax] at n20
  clear hcs2
  obtain⟨g,rfl, -,hfg,hgl⟩:=gZ H6.o (by omega)
  have h61:=aA (Ms:=[]) H6.o (Ext.az HB2.o) (by simp)
  have hg1:wb≠g:=fun e=>HO.o.rows.off 3 _ rfl (by rw[e];rfl)
  have HD:=ae (Uh N g _ cc k (ah s.heap.turns) W2 h61 (jD _) hlt (by omega))
  clear h61 hfg hgl
  go_wp2_with fail
  refine HD.o.mono ?_
  rintro e W3 ⟨rfl,qM,ig⟩
  have hbl:=(ig.block wb l2 (by simpa using hg1)).trans ((HB2.o.block _ lw).trans HO.o.blk)
  obtain⟨c3,f3,l3⟩:=af hbl
  have iZ:=ae (ag ig (ag qM hbl))
  have pO:=ae (show Below N w W3 from(HB2.o.mono gQ).trans ⟨ig.os,ig.tape,ig.output,ig.size,fun k hk=>ig.block k (by have:=HB2.o.size;omega) (fun h=>by have:=(H6.o.lt g rfl).1;have:=dZ.1 h;omega)⟩)
  clear ig qM hbl hg1 HD c2 f2 xX n20
  go_wp2_with fail
  go_end0
  have hcx:s.heap.turns.contains x=true:=by rw[List.contains_iff_mem];exact mG HK.o
  simp only[iU,List.getD_cons_zero,hcx]
  rw[aj (by simp)]
  have hne:jk s.heap.last (fun i=>i !=x&&s.heap.turns.contains i)=s.heap.turns.eraseIdx k:=by
   have hk:=HK.o
   rw[HPT.o.2,HPT.o.1] at*
   exact(Pv pt k x hk).symm
  rw[hne]
  have hfe:ah (s.heap.turns.eraseIdx k)=(ah s.heap.turns).take k++(ah s.heap.turns).drop (k+1):=by
   unfold ah
   rw[List.eraseIdx_eq_take_drop_succ,List.map_append,List.map_take,List.map_drop]
  refine⟨pO.o.setCell wQ _,.inl ⟨rfl,rfl,⟨vt,vn,vw,.slice (some ⟨g,0,none⟩) (s.heap.turns.length-1) cc,vr,vh,vk,vs⟩,es,(HO.o.below HB2.o).put (i:=3) rfl ⟨3,1,.slice (some ⟨g,0,none⟩) (s.heap.turns.length-1) cc,s.heap.turns.length-1,(ah s.heap.turns).take k++(ah s.heap.turns).drop (k+1)⟩ iZ.o.1 (fun m hm=>by rw[dZ.1 hm];rfl) iZ.o.2.1 (.inl rfl) (aI iZ.o.2.2 _) ?_ HO.o.es⟩⟩
  simp only[iM,iT]
  rw[List.length_eraseIdx_of_lt hlt,hfe]
  rfl
 ·have HN:=ae hno
  clear hno
  go_wp2_with fail
  refine(eF 7 [true] W1 (by simp) _ (by simp[dN]) _ _ rfl).mono ?_
  rintro e W2 ⟨hb,⟨hc,rfl⟩|⟨hc,rfl⟩⟩
  ·exfalso;simp at hc
  simp only[iU,List.getD_cons_zero,HN.o]
  rw[aC True.intro]
  exact⟨rfl,(aX HB1.o hb).mono gQ,.inr ⟨by simp,rfl⟩⟩
theorem Zi (N:Nat) (w:World) (wb:Nat) (s:jA) (V:SV) (es:List KE) (ns:Value) (x:Int) (hO:jX N w wb s V es) (hn:sD N w ns [x]) (hG:fZ s) (hx:0<=x):Calls Tryz.prog 187 #[.pointer (some ⟨wb,0,none⟩),ns] w (rJ N wb (iU s .turn [x]) w):=by
 obtain⟨vt,vn,vw,vu,vr,vh,vk,vs⟩:=V
 obtain⟨o,cc,rfl⟩: ∃o c,vu= .slice o s.heap.turns.length c:=aU (n:=s.heap.turns.length) (hO.rows.own 3 _ rfl)
 have HO:=ae hO
 have gQ:=eU hO
 obtain⟨b,c,rfl,hbN,hcs⟩:=hn
 have lb:b<w.heap.size:=by omega
 have lw:=hO.rows.lt
 have wQ:=hO.rows.base
 have HW:Hid (∀W,Below N w W->b<W.heap.size/\ ∀(j:Nat) (h:j<[x].length),W.cell? ⟨b,j,none⟩=some (iv [x][j])):=ae (fun W hB=>⟨by have:=hB.size;omega,fun j h=>(jd (hB.block b hbN)).trans (hcs j h)⟩)
 obtain⟨c0,f0,l0⟩:=af hO.blk
 have pI:=hcs 0 (by simp)
 simp only[ax] at pI
 have HB0:Hid (Below w.heap.size w w):=ae (aG _ _)
 obtain⟨pt,hpt⟩:=hG.turns
 have MO:s.heap.turns.length<=5:=by rw[hpt];exact Dq pt
 have hl4:=hG.heap.1
 have HPT:=ae (ag hpt hl4)
 have h6:w.ownsRow N 3 1 (.slice o s.heap.turns.length cc) s.heap.turns.length (ah s.heap.turns):=hO.rows.own 3 _ rfl
 have H6:=ae h6
 clear hpt h6
 clear hO hcs hG
 go_enter Tryz.func187,Tryz.ntmps187
 go_wp2_with fail
 refine(yH x wb s _ w ((HB0.o.block _ lw).trans HO.o.blk) hl4).mono ?_
 rintro e W1 ⟨hb,⟨hc,rfl⟩|⟨hc,rfl⟩⟩
 rotate_left
 ·simp at hc
  simp only[iU,dh,dm,dB]
  (repeat (first|rw[aC (by omega)]|rw[aj (by omega)]))
  exact⟨rfl,(aX HB0.o hb).mono gQ,.inr ⟨by simp,rfl⟩⟩
 simp at hc
 have HB1:=ae (aX HB0.o hb)
 have NF:=ae hb
 have jT:=ae hc
 clear hb hc c0 f0 pI
 obtain⟨c1,f1,l1⟩:=af ((HB1.o.block _ lw).trans HO.o.blk)
 obtain⟨xg,hcs1⟩:=HW.o W1 (HB1.o.mono gQ)
 have n10:=hcs1 0 (by simp)
 simp only[ax] at n10
 clear hcs1
 go_wp2_with fail
 refine zg 9 [] none [] ?_
 simp only[zt]
 repeat ((first|refine zd ?_|refine zk ?_);simp only[zp])
 intro W2 hE hF
 have HB2:=ae (aX HB1.o hE.below)
 have HS2:=ae (Ext.below hE)
 clear hE hF c1 f1 xg n10
 obtain⟨c2,f2,l2⟩:=af ((HB2.o.block _ lw).trans HO.o.blk)
 obtain⟨xX,hcs2⟩:=HW.o W2 (HB2.o.mono gQ)
 have n20:=hcs2 0 (by simp)
 simp only[ax] at n20
 clear hcs2
 have h61:=aA (Ms:=[]) H6.o (Ext.az HB2.o) (by simp)
 have HX:=ae (iL s.heap.turns _ x W2 (aK.dR h61))
 clear h61
 go_wp2_with fail
 refine HX.o.mono ?_
 clear HX
 rintro e W3 ⟨rfl,hb⟩
 have HB3:=ae (aX HB2.o hb)
 obtain⟨q,hq⟩: ∃q,s.heap.turns.contains x=q:=⟨_,rfl⟩
 rw[hq]
 have HQQ:=ae hq
 clear hb hq c2 f2 xX n20
 obtain⟨c3,f3,l3⟩:=af ((HB3.o.block _ lw).trans HO.o.blk)
 obtain⟨Kz,hcs3⟩:=HW.o W3 (HB3.o.mono gQ)
 have n30:=hcs3 0 (by simp)
 simp only[ax] at n30
 clear hcs3
 go_wp2_with fail
 refine(eF 6 [q] W3 (by simp) _ (by simp[dN]) _ _ rfl).mono ?_
 rintro e W4 ⟨hb,⟨hc,rfl⟩|⟨hc,rfl⟩⟩
 rotate_left
 ·obtain rfl:q=true:=(by cases q <;>simp_all)
  have q0:=jT.o
  have hqq:=HQQ.o;simp only[iU,List.getD_cons_zero,hqq];rw[aj (by omega),aC True.intro]
  exact⟨rfl,(aX HB3.o hb).mono gQ,.inr ⟨by simp,rfl⟩⟩
 obtain rfl:q=false:=(by cases q <;>simp_all)
 have HB4:=ae (aX HB3.o hb)
 have VQ:=ae hb
 have rM:=ae hc
 clear hb hc c3 f3 Kz n30
 obtain⟨c4,f4,l4⟩:=af ((HB4.o.block _ lw).trans HO.o.blk)
 obtain⟨QY,kD⟩:=HW.o W4 (HB4.o.mono gQ)
 have n40:=kD 0 (by simp)
 simp only[ax] at n40
 clear kD
 go_wp2_with fail
 obtain⟨Ms,hMs⟩: ∃Ms,Ms=(Value.slice o s.heap.turns.length cc).ownBlock.toList:=⟨_,rfl⟩
 have hO4:=HO.o.below HB4.o
 have hm1:wb∉Ms:=fun h=>hO4.rows.off 3 _ rfl (by rw[hMs] at h;exact dM.1 h)
 have hm2:b∉Ms:=fun h=>by have:=((hO4.rows.own 3 _ rfl).lt b (by rw[hMs] at h;exact dM.1 h)).1;omega
 have xJ: ∀m∈Ms,m<W4.heap.size:=fun m h=>((hO4.rows.own 3 _ rfl).lt m (by rw[hMs] at h;exact dM.1 h)).2
 have HM:=ae hMs
 have jB:=ae hO4
 clear hMs hO4
 refine zg 12 Ms (some 11) [(10,Spec.slice W4.heap.size #[iv x] 3 1),(11,⟨fun _ v=> ∃o2 c2,v= .slice o2 (s.heap.turns.length+1) c2,fun _ v Wx=>Wx.ownsRow N 3 1 v (s.heap.turns.length+1) (ah s.heap.turns++[iv x])/\(v.ownBlock=(Value.slice o s.heap.turns.length cc).ownBlock∨ ∃q,v.ownBlock=some q/\W4.heap.size<=q)⟩)] ?_
 simp only[zt]
 repeat ((first|refine zd ?_|refine zk ?_);simp only[zp])
 refine cu W4.heap.size _ _ 1 (by rfl) (ai _) (by rfl) xJ (by simp) (fun W hW=>by go_simp;try rfl) (fun b6=>?_)
 simp only[zp]
 repeat ((first|refine zd ?_|refine zk ?_);simp only[zp])
 refine bJ _ (by rfl) (by rfl) (by exact⟨.slice none (s.heap.turns.length+1) 0,none,0,rfl⟩) (fun W6 hE hF=>?_) (fun v Wa Wb ho hE=>?_) (fun v hv=>?_)
 ·have hE':Ext [] W4 W6:=hE
  obtain⟨b',hb',hge,hcc⟩:=hF _ (bg _) (by kernel_rfl)
  cases hb'
  have hown6:W6.ownsRow N 3 1 (.slice o s.heap.turns.length cc) s.heap.turns.length (ah s.heap.turns):=aA (Ms:=[]) (jB.o.rows.own 3 _ rfl) hE' (by simp)
  have hsrc:aK 1 W6 (.slice (some ⟨b6,0,none⟩) 1 1) 1 ([iv x]):=aK.dw 1 1 hcc rfl (by decide)
  refine Does.mono (dU rO (by rfl) (by rfl) hown6 (by rfl) hsrc (one_one x) (by omega) (by omega) (by have:=hE'.size;have:=HB4.o.size;omega)) ?_
  rintro v' W7 ⟨ho,hgr,hcase⟩
  refine⟨aU ho,⟨ho,?_⟩,⟨hgr.os,hgr.tape,hgr.output,hgr.size,fun b hb hn=>hgr.block b hb (fun e=>hn (by rw[HM.o];exact dM.2 e.symm))⟩⟩
  rcases hcase with h1|h1
  ·exact .inl h1
  ·exact .inr ⟨_,h1,hE'.size⟩
 ·exact⟨aA (Ms:=[]) ho.1 hE (by simp),ho.2⟩
 obtain⟨o7,c7,rfl⟩:=hv
 simp only[zp]
 intro W5 hE hF
 obtain⟨qM,AA⟩:=hF _ (bg _)
 have ig:Ext Ms W4 W5:=hE
 have hbl:=(ig.block wb jB.o.rows.lt hm1).trans jB.o.blk
 obtain⟨c5,f5,l5⟩:=af hbl
 have iZ:=ae (ag ig (ag qM (ag AA hbl)))
 have EW:Below N w W5:=(HB4.o.mono gQ).trans ⟨ig.os,ig.tape,ig.output,ig.size,fun k hk=>ig.block k (by have:=HB4.o.size;omega) (fun h=>by have:=((jB.o.rows.own 3 _ rfl).lt k (by rw[HM.o] at h;exact dM.1 h)).1;omega)⟩
 have pO:=ae EW
 clear hE hF ig qM AA hbl EW hm1 hm2 xJ c4 f4 QY n40
 go_upto_region 3 with(fail)
 refine dH fun W6 qB=>?_
 have hO6:jX N W6 wb (iT s {s.heap with turns:=s.heap.turns++[x]}) ⟨vt,vn,vw,.slice o7 (s.heap.turns.length+1) c7,vr,vh,vk,vs⟩ es:=by
  rw[qB]
  exact jB.o.put (i:=3) rfl ⟨3,1,.slice o7 (s.heap.turns.length+1) c7,s.heap.turns.length+1,ah s.heap.turns++[iv x]⟩ iZ.o.1 (fun m hm=>by rw[HM.o] at hm;exact dM.1 hm) iZ.o.2.1 iZ.o.2.2.1 (aI iZ.o.2.2.2 _) (by simp[iM,iT,ah]) jB.o.es
 have qo:=ae (show Below N w W6 from by rw[qB];exact pO.o.setCell wQ _)
 obtain⟨c6,f6,l6⟩:=af hO6.blk
 have h7:W6.ownsRow N 3 1 (.slice o7 (s.heap.turns.length+1) c7) (s.heap.turns++[x]).length (ah (s.heap.turns++[x])):=hO6.rows.own 3 _ rfl
 rw[dE,List.length_singleton] at h7
 obtain⟨g,rfl, -,hfg,hgl⟩:=gZ h7 (by omega)
 obtain⟨cur,h7b,h7c,h7d,h7e,h7f,h7g⟩: ∃cur,N<=g/\W6.heap[g]? =some (.cells cur 3 (0,0))/\s.heap.turns.length+1<=c7/\c7<=maxLen/\cur.size=c7*1/\cur.toList.take ((s.heap.turns.length+1)*1)=ah (s.heap.turns++[x]):=by
  obtain⟨h1,⟨h2,_⟩|⟨g',cc',cs,h2,h3,h4,h5,h6,h7,h8⟩⟩:=h7
  ·cases h2
  ·cases h2;exact⟨cs,h3,h4,h5,h6,h7,h8⟩
 have hHo:=holds_of_blockI (ss:=s.heap.turns++[x]) h7c (by rw[dE,List.length_singleton, <-Nat.mul_one (s.heap.turns.length+1)];exact h7g)
 have hsort:=Go.Proofs.Tryz.slices_Sort_int g 0 c7 (s.heap.turns++[x]) W6 hHo hgl (by rw[dE,List.length_singleton];omega)
 rw[dE,List.length_singleton] at hsort
 have F6:=ae (ag hO6 (ag h7b (ag h7c (ag h7d (ag h7e h7f)))))
 have HST:=ae hsort
 clear qB hO6 h7 h7b h7c h7d h7e h7f h7g hHo hsort c5 f5
 go_wp2_with fail
 refine HST.o.mono ?_
 rintro e W9 ⟨rfl,n9,os,rfl⟩
 (try go_wp2_with fail)
 go_end0
 have q0:=jT.o
 have q1:=rM.o
 have hqq:=HQQ.o
 simp only[iU,List.getD_cons_zero,hqq]
 rw[aj (by omega),aj (by simp)]
 have hne:((s.heap.turns++[x]).mergeSort fun a b=>decide (a<=b))=jk s.heap.last (fun i=>i==x ||s.heap.turns.contains i):=by
  rw[HPT.o.2,HPT.o.1] at*
  exact Xp pt x hx (by omega) hqq
 have hlen:((s.heap.turns++[x]).mergeSort fun a b=>decide (a<=b)).length=(s.heap.turns++[x]).length:=List.length_mergeSort _
 have hown:=ownsRow_sortedI (n:=n9) (os:=os) (ss:=s.heap.turns++[x]) hlen F6.o.2.1 F6.o.2.2.1 (by rw[dE,List.length_singleton];exact F6.o.2.2.2.1) F6.o.2.2.2.2.1 F6.o.2.2.2.2.2
 have hgb:=grownBy_sortedI (w:=W6) (g:=g) (n:=n9) (os:=os) ((s.heap.turns++[x]).mergeSort fun a b=>decide (a<=b)).toArray
 have NK:Ext [g] W6 (Go.Sort.grow (Go.Sort.putRow (Value.int .i64) (Go.Sort.ahead W6 n9) g 0 ((s.heap.turns++[x]).mergeSort fun a b=>decide (a<=b)).toArray) os):=⟨hgb.os,hgb.tape,hgb.output,hgb.size,fun k hk hm=>hgb.block k hk (fun e=>hm (by simp[jH e]))⟩
 refine⟨qo.o.trans ⟨NK.os,NK.tape,NK.output,NK.size,fun k hk=>NK.block k (by have:=qo.o.size;omega) (fun h=>by have:=F6.o.2.1;have:=dZ.1 h;omega)⟩,.inl ⟨rfl,rfl,_,es,F6.o.1.over (i:=3) rfl (g:=g) rfl NK (ah ((s.heap.turns++[x]).mergeSort fun a b=>decide (a<=b))) ?_ ?_ rfl HO.o.es⟩⟩
 ·have h:=hown
  rw[dE,List.length_singleton] at h
  show World.ownsRow _ N 3 1 (.slice (some ⟨g,0,none⟩) (s.heap.turns.length+1) c7) (s.heap.turns++[x]).length _
  rw[dE,List.length_singleton]
  exact h
 ·rw[<-hne]
  simp only[iM,iT]
  rw[hlen]
  rfl
structure oD (w:World) (s:jA) (V:SV) (es:List KE):Prop where
 uK:dJ w V.uK s.led.field.au
 QX:bD w V.QX s.led.notes
 bQ:bM w V.bQ s.heap.bQ
 Fj:aP w V.Fj s.heap.turns
 Fv:bD w V.Fv s.heap.readings
 bP:pM w V.hps V.cks V.trs es s.bP
theorem oD.below {w W:World} {s:jA} {V:SV} {es:List KE} (h:oD w s V es) {B:Nat} (hb:Below B w W) (hB:w.heap.size<=B):oD W s V es:=
 ⟨h.uK.below hb hB,h.QX.below hb hB,h.bQ.below hb hB,h.Fj.below hb hB,h.Fv.below hb hB,h.bP.below hb hB⟩
theorem jX.st {N:Nat} {w:World} {wb:Nat} {s:jA} {V:SV} {es:List KE} (h:jX N w wb s V es):oD w s V es where
 uK:=aK.dR (h.rows.own 0 _ rfl)
 QX:=aK.dR (h.rows.own 1 _ rfl)
 bQ:=aK.dR (h.rows.own 2 _ rfl)
 Fj:=aK.dR (h.rows.own 3 _ rfl)
 Fv:=aK.dR (h.rows.own 4 _ rfl)
 bP:=⟨aK.dR (h.rows.own 5 _ rfl),⟨aK.dR (h.rows.own 6 _ rfl),fun e he=>by
  obtain⟨k,hk,rfl⟩:=mF he
  exact aK.dR (h.rows.own (8+k) _ (zu s V es (dA hk)))⟩,h.es,aK.dR (h.rows.own 7 _ rfl)⟩
def bK (s:jA):Int:=
 if fU s.led.field true≠0 then 11 else if iQ s.led≠0 then 9 else if wH s.heap≠0 then 3
 else if jJ.jm s.heap s.heap.turns≠0 then 11 else if jJ.oK s.heap s.heap.turns=2 then 9
 else if qC s.bP≠0 then 3 else if jb s.bP true≠0 then 11 else 0
def afM (s:jA) (w:World) (e:Ending) (w':World):Prop:=
 Below w.heap.size w w'/\((bK s=0/\e= .returned (.tuple #[]))∨(bK s≠0/\e= .panicked (kG (bK s))))
theorem afr (f:cZ) (tv:Value) (w:World) (ht:dJ w tv f.au):Calls Tryz.prog 15 #[fv f tv] w (fun e w'=>Below w.heap.size w w'/\ ∃v,e= .returned (.tuple #[v,iv (fU f true)])):=by
 refine(CZ f tv w ht).mono ?_
 rintro e w' ⟨hb,⟨_,rfl⟩|⟨h0,v,rfl,_⟩⟩
 ·exact⟨hb,_,rfl⟩
 ·exact⟨hb,v,by rw[h0]⟩
theorem Xi (c:bU) (hv nJ tv:Value) (es:List KE) (w:World) (hc:pM w hv nJ tv es c):Calls Tryz.prog 17 #[kv hv nJ tv] w (fun e w'=>Below w.heap.size w w'/\ ∃v u,e= .returned (.tuple #[v,u,iv (jb c true)])):=by
 refine(yE c hv nJ tv es w hc).mono ?_
 rintro e w' ⟨hb,⟨_,rfl⟩|⟨h0,v,u,rfl,_⟩⟩
 ·exact⟨hb,_,_,rfl⟩
 ·exact⟨hb,v,u,by rw[h0]⟩
theorem Wh (s:jA) (V:SV) (es:List KE) (w:World) (hS:oD w s V es):Calls Tryz.prog 115 #[.agg (dD s V)] w (afM s w):=by
 obtain⟨vt,vn,vw,vu,vr,vh,vk,vs⟩:=V
 have HS:Hid (∀W,Below w.heap.size w W->oD W s ⟨vt,vn,vw,vu,vr,vh,vk,vs⟩ es):=ae (fun W hb=>hS.below hb (ai _))
 obtain⟨w0,hw0⟩: ∃w0,w0=w.alloc (.cells (dD s ⟨vt,vn,vw,vu,vr,vh,vk,vs⟩) 46):=⟨_,rfl⟩
 have HB0:Hid (Below w.heap.size w w0):=ae (by rw[hw0];exact ak (aG _ _) _)
 have HK0:Hid (w0.heap[w.heap.size]? =some (.cells (dD s ⟨vt,vn,vw,vu,vr,vh,vk,vs⟩) 46 (0,0))):=ae (by rw[hw0];exact ay _ _)
 have hsz:w0.heap.size=w.heap.size+1:=by rw[hw0];simp
 clear hS
 go_enter Tryz.func115,Tryz.ntmps115
 go_upto_region 1 with(fail)
 refine dH fun W1 hW1=>?_
 rw[<-hw0] at hW1
 subst hW1
 obtain⟨c0,f0,l0⟩:=af HK0.o
 clear hw0
 go_wp2_with fail
 have HB:=HB0
 have HK:=HK0
 refine(afr s.led.field _ _ (HS.o _ HB0.o).uK).mono ?_
 rintro e X1 ⟨hb,v,rfl⟩
 have HB1:=ae (aX HB.o hb)
 have VT:=ae ((hb.block _ l0).trans HK.o)
 obtain⟨c1,f1,l1⟩:=af VT.o
 clear hb c0 f0
 obtain⟨q0,hq0⟩: ∃q,fU s.led.field true=q:=⟨_,rfl⟩
 rw[hq0]
 have jT:=ae hq0
 clear hq0
 go_wp2_with fail
 refine(eF 11 [q0 !=0] X1 (by simp) _ (by simp[dN]) _ _ rfl).mono ?_
 rintro e X2 ⟨hb,⟨hc,rfl⟩|⟨hc,rfl⟩⟩
 rotate_left
 ·have hz:q0≠0:=by simpa using hc
  have hv:bK s=11:=by
   unfold bK
   simp only[jT.o]
   rw[aC hz]
  exact⟨rfl,aX HB1.o hb,.inr ⟨by rw[hv];decide,by rw[hv]⟩⟩
 have hz:q0=0:=by simpa using hc
 have HZ0:=ae hz
 have HB2:=ae (aX HB1.o hb)
 have NM:=ae ((hb.block _ l1).trans VT.o)
 obtain⟨c2,f2,l2⟩:=af NM.o
 clear hb hc hz c1 f1
 go_wp2_with fail
 refine(FO s.led vt vn _ (HS.o _ HB2.o).uK (HS.o _ HB2.o).QX).mono ?_
 rintro e X3 ⟨rfl,hb⟩
 have HB3:=ae (aX HB2.o hb)
 have CW:=ae ((hb.block _ l2).trans NM.o)
 obtain⟨c3,f3,l3⟩:=af CW.o
 clear hb c2 f2
 obtain⟨q1,hq1⟩: ∃q,iQ s.led=q:=⟨_,rfl⟩
 rw[hq1]
 have rM:=ae hq1
 clear hq1
 go_wp2_with fail
 refine(eF 9 [q1 !=0] X3 (by simp) _ (by simp[dN]) _ _ rfl).mono ?_
 rintro e X4 ⟨hb,⟨hc,rfl⟩|⟨hc,rfl⟩⟩
 rotate_left
 ·have hz:q1≠0:=by simpa using hc
  have hv:bK s=9:=by
   unfold bK
   simp only[jT.o,rM.o]
   rw[aj (by have:=HZ0.o;omega)]
   rw[aC hz]
  exact⟨rfl,aX HB3.o hb,.inr ⟨by rw[hv];decide,by rw[hv]⟩⟩
 have hz:q1=0:=by simpa using hc
 have HZ1:=ae hz
 have HB4:=ae (aX HB3.o hb)
 have HK4:=ae ((hb.block _ l3).trans CW.o)
 obtain⟨c4,f4,l4⟩:=af HK4.o
 clear hb hc hz c3 f3
 go_wp2_with fail
 refine(jJ.wK s.heap vw vu vr _ (HS.o _ HB4.o).bQ (HS.o _ HB4.o).Fj (HS.o _ HB4.o).Fv).mono ?_
 rintro e X5 ⟨rfl,hb⟩
 have nM:=ae (aX HB4.o hb)
 have NI:=ae ((hb.block _ l4).trans HK4.o)
 obtain⟨c5,f5,l5⟩:=af NI.o
 clear hb c4 f4
 obtain⟨q2,hq2⟩: ∃q,wH s.heap=q:=⟨_,rfl⟩
 rw[hq2]
 have xM:=ae hq2
 clear hq2
 go_wp2_with fail
 refine(eF 3 [q2 !=0] X5 (by simp) _ (by simp[dN]) _ _ rfl).mono ?_
 rintro e X6 ⟨hb,⟨hc,rfl⟩|⟨hc,rfl⟩⟩
 rotate_left
 ·have hz:q2≠0:=by simpa using hc
  have hv:bK s=3:=by
   unfold bK
   simp only[jT.o,rM.o,xM.o]
   rw[aj (by have:=HZ0.o;omega)]
   rw[aj (by have:=HZ1.o;omega)]
   rw[aC hz]
  exact⟨rfl,aX nM.o hb,.inr ⟨by rw[hv];decide,by rw[hv]⟩⟩
 have hz:q2=0:=by simpa using hc
 have HZ2:=ae hz
 have qo:=ae (aX nM.o hb)
 have HK6:=ae ((hb.block _ l5).trans NI.o)
 obtain⟨c6,f6,l6⟩:=af HK6.o
 clear hb hc hz c5 f5
 go_wp2_with fail
 refine(jJ.Ec s.heap vw vu vr vu s.heap.turns _ (HS.o _ qo.o).bQ (HS.o _ qo.o).Fj (HS.o _ qo.o).Fv (HS.o _ qo.o).Fj).mono ?_
 rintro e X7 ⟨rfl,hb⟩
 have xN:=ae (aX qo.o hb)
 have wR:=ae ((hb.block _ l6).trans HK6.o)
 obtain⟨c7,f7,l7⟩:=af wR.o
 clear hb c6 f6
 obtain⟨q3,hq3⟩: ∃q,jJ.jm s.heap s.heap.turns=q:=⟨_,rfl⟩
 rw[hq3]
 have Ja:=ae hq3
 clear hq3
 obtain⟨q4,hq4⟩: ∃q,jJ.oK s.heap s.heap.turns=q:=⟨_,rfl⟩
 rw[hq4]
 have VR:=ae hq4
 clear hq4
 go_wp2_with fail
 refine(eF 11 [q3 !=0] X7 (by simp) _ (by simp[dN]) _ _ rfl).mono ?_
 rintro e X8 ⟨hb,⟨hc,rfl⟩|⟨hc,rfl⟩⟩
 rotate_left
 ·have hz:q3≠0:=by simpa using hc
  have hv:bK s=11:=by
   unfold bK
   simp only[jT.o,rM.o,xM.o,Ja.o,VR.o]
   rw[aj (by have:=HZ0.o;omega)]
   rw[aj (by have:=HZ1.o;omega)]
   rw[aj (by have:=HZ2.o;omega)]
   rw[aC hz]
  exact⟨rfl,aX xN.o hb,.inr ⟨by rw[hv];decide,by rw[hv]⟩⟩
 have hz:q3=0:=by simpa using hc
 have HZ3:=ae hz
 have pO:=ae (aX xN.o hb)
 have HK8:=ae ((hb.block _ l7).trans wR.o)
 obtain⟨c8,f8,l8⟩:=af HK8.o
 clear hb hc hz c7 f7
 go_wp2_with fail
 go_wp2_with fail
 refine(eF 9 [q4==2] X8 (by simp) _ (by simp[dN]) _ _ rfl).mono ?_
 rintro e X9 ⟨hb,⟨hc,rfl⟩|⟨hc,rfl⟩⟩
 rotate_left
 ·have hz:q4=2:=by simpa using hc
  have hv:bK s=9:=by
   unfold bK
   simp only[jT.o,rM.o,xM.o,Ja.o,VR.o]
   rw[aj (by have:=HZ0.o;omega)]
   rw[aj (by have:=HZ1.o;omega)]
   rw[aj (by have:=HZ2.o;omega)]
   rw[aj (by have:=HZ3.o;omega)]
   rw[aC hz]
  exact⟨rfl,aX pO.o hb,.inr ⟨by rw[hv];decide,by rw[hv]⟩⟩
 have hz:q4≠2:=by simpa using hc
 have HZ4:=ae hz
 have mW:=ae (aX pO.o hb)
 have Ed:=ae ((hb.block _ l8).trans HK8.o)
 obtain⟨c9,f9,l9⟩:=af Ed.o
 clear hb hc hz c8 f8
 go_wp2_with fail
 refine(He s.bP vh vk vs es _ (HS.o _ mW.o).bP).mono ?_
 rintro e X10 ⟨rfl,hb⟩
 have zU:=ae (aX mW.o hb)
 have JD:=ae ((hb.block _ l9).trans Ed.o)
 obtain⟨c10,f10,l10⟩:=af JD.o
 clear hb c9 f9
 obtain⟨q5,hq5⟩: ∃q,qC s.bP=q:=⟨_,rfl⟩
 rw[hq5]
 have HQ5:=ae hq5
 clear hq5
 go_wp2_with fail
 refine(eF 3 [q5 !=0] X10 (by simp) _ (by simp[dN]) _ _ rfl).mono ?_
 rintro e X11 ⟨hb,⟨hc,rfl⟩|⟨hc,rfl⟩⟩
 rotate_left
 ·have hz:q5≠0:=by simpa using hc
  have hv:bK s=3:=by
   unfold bK
   simp only[jT.o,rM.o,xM.o,Ja.o,VR.o,HQ5.o]
   rw[aj (by have:=HZ0.o;omega)]
   rw[aj (by have:=HZ1.o;omega)]
   rw[aj (by have:=HZ2.o;omega)]
   rw[aj (by have:=HZ3.o;omega)]
   rw[aj (by have:=HZ4.o;omega)]
   rw[aC hz]
  exact⟨rfl,aX zU.o hb,.inr ⟨by rw[hv];decide,by rw[hv]⟩⟩
 have hz:q5=0:=by simpa using hc
 have HZ5:=ae hz
 have adE:=ae (aX zU.o hb)
 have ajc:=ae ((hb.block _ l10).trans JD.o)
 obtain⟨c11,f11,l11⟩:=af ajc.o
 clear hb hc hz c10 f10
 go_wp2_with fail
 refine(Xi s.bP vh vk vs es _ (HS.o _ adE.o).bP).mono ?_
 rintro e X12 ⟨hb,v1,v2,rfl⟩
 have ajm:=ae (aX adE.o hb)
 have ajb:=ae ((hb.block _ l11).trans ajc.o)
 obtain⟨c12,f12,l12⟩:=af ajb.o
 clear hb c11 f11
 obtain⟨q6,hq6⟩: ∃q,jb s.bP true=q:=⟨_,rfl⟩
 rw[hq6]
 have HQ6:=ae hq6
 clear hq6
 go_wp2_with fail
 refine(eF 11 [q6 !=0] X12 (by simp) _ (by simp[dN]) _ _ rfl).mono ?_
 rintro e X13 ⟨hb,⟨hc,rfl⟩|⟨hc,rfl⟩⟩
 rotate_left
 ·have hz:q6≠0:=by simpa using hc
  have hv:bK s=11:=by
   unfold bK
   simp only[jT.o,rM.o,xM.o,Ja.o,VR.o,HQ5.o,HQ6.o]
   rw[aj (by have:=HZ0.o;omega)]
   rw[aj (by have:=HZ1.o;omega)]
   rw[aj (by have:=HZ2.o;omega)]
   rw[aj (by have:=HZ3.o;omega)]
   rw[aj (by have:=HZ4.o;omega)]
   rw[aj (by have:=HZ5.o;omega)]
   rw[aC hz]
  exact⟨rfl,aX ajm.o hb,.inr ⟨by rw[hv];decide,by rw[hv]⟩⟩
 have hz:q6=0:=by simpa using hc
 have HZ6:=ae hz
 have amY:=ae (aX ajm.o hb)
 have amI:=ae ((hb.block _ l12).trans ajb.o)
 obtain⟨c13,f13,l13⟩:=af amI.o
 clear hb hc hz c12 f12
 (try go_wp2_with fail)
 go_end0
 have hv:bK s=0:=by
  unfold bK
  simp only[jT.o,rM.o,xM.o,Ja.o,VR.o,HQ5.o,HQ6.o]
  rw[aj (by have:=HZ0.o;omega)]
  rw[aj (by have:=HZ1.o;omega)]
  rw[aj (by have:=HZ2.o;omega)]
  rw[aj (by have:=HZ3.o;omega)]
  rw[aj (by have:=HZ4.o;omega)]
  rw[aj (by have:=HZ5.o;omega)]
  rw[aj (by have:=HZ6.o;omega)]
 exact⟨amY.o,.inl ⟨hv,rfl⟩⟩
theorem ake:iR Tryz.prog 35 34 (rv (0,0)) 2 16:=⟨Tryz.underlying35,by kernel_rfl,rfl,by omega⟩
theorem Nq (n:Nat) (xs:List Value) (v:Value) (w:World) (hv:aK 5 w v n xs) (h1: ∀u∈xs,u.oneCell'=true) (hlen:n<=1000):
 Calls Tryz.prog 199 #[v] w (FM 118 5 n xs w):=by
 obtain⟨o,c,rfl⟩:=aK.open hv
 have HV:=ae hv
 have H1:=ae h1
 clear h1
 have hnil:=fun(w:World) a n c=>Lib.run_eql_slice_nil (P:=Tryz.prog) w 27 118 a n c 0 0 Tryz.underlying27
 cases o with
 |none=>
  obtain⟨hl,o,c',h0,h1,h2,h3,h4⟩:=hv
  cases h0
  obtain rfl:c=0:=h3 rfl
  obtain rfl:n=0:=by omega
  have hx:xs=[]:=kF (by simpa using hl)
  subst hx
  clear HV H1
  go_enter Tryz.func199,Tryz.ntmps199
  go_wp2
  go_returns
  exact⟨.slice none 0 0,by simp,⟨by simp,.inl ⟨rfl,rfl⟩⟩,aG _ _⟩
 |some a=>
  obtain⟨b,off,sp⟩:=a
  obtain rfl:sp=none:=by
   obtain⟨_,o,c',h0,h1,h2,h3,h4⟩:=hv
   cases h0
   exact(h4 _ rfl).1
  clear hv
  go_enter Tryz.func199,Tryz.ntmps199
  go_wp2_with (at_builtin;refine gm rfl _ _ Zm rfl w.heap.size (.slice (some ⟨w.heap.size,0,none⟩) 0 0) 0 [] rfl ?_ (.slice (some ⟨b,off,none⟩) n c) n xs rfl ?_ H1.o (by omega) (by omega) (by simp) ?_)
  ·exact iF (cs:= #[]) (n:=0) (ay _ _) rfl (ai _) (by decide)
  ·exact aK.alloc HV.o _
  ·intro v' w1 hown hgrow
   have HO:=ae hown
   have HG:=ae hgrow
   clear hown hgrow
   go_wp2
   go_returns
   refine⟨v',by simp,?_,?_⟩
   ·exact HO.o
   ·exact Below.grown (ak (aG _ _) _) HG.o (by simp) (fun k e=>by cases e;exact ai _)
theorem Jt (n:Nat) (xs:List Value) (v:Value) (w:World) (hv:aK 3 w v n xs) (h1: ∀u∈xs,u.oneCell'=true) (hlen:n<=1000):
 Calls Tryz.prog 200 #[v] w (FM 120 3 n xs w):=by
 obtain⟨o,c,rfl⟩:=aK.open hv
 have HV:=ae hv
 have H1:=ae h1
 clear h1
 have hnil:=fun(w:World) a n c=>Lib.run_eql_slice_nil (P:=Tryz.prog) w 31 120 a n c 0 0 Tryz.underlying31
 cases o with
 |none=>
  obtain⟨hl,o,c',h0,h1,h2,h3,h4⟩:=hv
  cases h0
  obtain rfl:c=0:=h3 rfl
  obtain rfl:n=0:=by omega
  have hx:xs=[]:=kF (by simpa using hl)
  subst hx
  clear HV H1
  go_enter Tryz.func200,Tryz.ntmps200
  go_wp2
  go_returns
  exact⟨.slice none 0 0,by simp,⟨by simp,.inl ⟨rfl,rfl⟩⟩,aG _ _⟩
 |some a=>
  obtain⟨b,off,sp⟩:=a
  obtain rfl:sp=none:=by
   obtain⟨_,o,c',h0,h1,h2,h3,h4⟩:=hv
   cases h0
   exact(h4 _ rfl).1
  clear hv
  go_enter Tryz.func200,Tryz.ntmps200
  go_wp2_with (at_builtin;refine gm rfl _ _ ach rfl w.heap.size (.slice (some ⟨w.heap.size,0,none⟩) 0 0) 0 [] rfl ?_ (.slice (some ⟨b,off,none⟩) n c) n xs rfl ?_ H1.o (by omega) (by omega) (by simp) ?_)
  ·exact iF (cs:= #[]) (n:=0) (ay _ _) rfl (ai _) (by decide)
  ·exact aK.alloc HV.o _
  ·intro v' w1 hown hgrow
   have HO:=ae hown
   have HG:=ae hgrow
   clear hown hgrow
   go_wp2
   go_returns
   refine⟨v',by simp,?_,?_⟩
   ·exact HO.o
   ·exact Below.grown (ak (aG _ _) _) HG.o (by simp) (fun k e=>by cases e;exact ai _)
theorem Nl (n:Nat) (xs:List Value) (v:Value) (w:World) (hv:aK 2 w v n xs) (h1: ∀u∈xs,u.oneCell'=true) (hlen:n<=1000):
 Calls Tryz.prog 201 #[v] w (FM 34 2 n xs w):=by
 obtain⟨o,c,rfl⟩:=aK.open hv
 have HV:=ae hv
 have H1:=ae h1
 clear h1
 have hnil:=fun(w:World) a n c=>Lib.run_eql_slice_nil (P:=Tryz.prog) w 35 34 a n c 0 0 Tryz.underlying35
 cases o with
 |none=>
  obtain⟨hl,o,c',h0,h1,h2,h3,h4⟩:=hv
  cases h0
  obtain rfl:c=0:=h3 rfl
  obtain rfl:n=0:=by omega
  have hx:xs=[]:=kF (by simpa using hl)
  subst hx
  clear HV H1
  go_enter Tryz.func201,Tryz.ntmps201
  go_wp2
  go_returns
  exact⟨.slice none 0 0,by simp,⟨by simp,.inl ⟨rfl,rfl⟩⟩,aG _ _⟩
 |some a=>
  obtain⟨b,off,sp⟩:=a
  obtain rfl:sp=none:=by
   obtain⟨_,o,c',h0,h1,h2,h3,h4⟩:=hv
   cases h0
   exact(h4 _ rfl).1
  clear hv
  go_enter Tryz.func201,Tryz.ntmps201
  go_wp2_with (at_builtin;refine gm rfl _ _ ake rfl w.heap.size (.slice (some ⟨w.heap.size,0,none⟩) 0 0) 0 [] rfl ?_ (.slice (some ⟨b,off,none⟩) n c) n xs rfl ?_ H1.o (by omega) (by omega) (by simp) ?_)
  ·exact iF (cs:= #[]) (n:=0) (ay _ _) rfl (ai _) (by decide)
  ·exact aK.alloc HV.o _
  ·intro v' w1 hown hgrow
   have HO:=ae hown
   have HG:=ae hgrow
   clear hown hgrow
   go_wp2
   go_returns
   refine⟨v',by simp,?_,?_⟩
   ·exact HO.o
   ·exact Below.grown (ak (aG _ _) _) HG.o (by simp) (fun k e=>by cases e;exact ai _)
theorem Js (n:Nat) (xs:List Value) (v:Value) (w:World) (hv:aK 3 w v n xs) (h1: ∀u∈xs,u.oneCell'=true) (hlen:n<=1000):
 Calls Tryz.prog 202 #[v] w (FM 122 3 n xs w):=by
 obtain⟨o,c,rfl⟩:=aK.open hv
 have HV:=ae hv
 have H1:=ae h1
 clear h1
 have hnil:=fun(w:World) a n c=>Lib.run_eql_slice_nil (P:=Tryz.prog) w 37 122 a n c 0 0 Tryz.underlying37
 cases o with
 |none=>
  obtain⟨hl,o,c',h0,h1,h2,h3,h4⟩:=hv
  cases h0
  obtain rfl:c=0:=h3 rfl
  obtain rfl:n=0:=by omega
  have hx:xs=[]:=kF (by simpa using hl)
  subst hx
  clear HV H1
  go_enter Tryz.func202,Tryz.ntmps202
  go_wp2
  go_returns
  exact⟨.slice none 0 0,by simp,⟨by simp,.inl ⟨rfl,rfl⟩⟩,aG _ _⟩
 |some a=>
  obtain⟨b,off,sp⟩:=a
  obtain rfl:sp=none:=by
   obtain⟨_,o,c',h0,h1,h2,h3,h4⟩:=hv
   cases h0
   exact(h4 _ rfl).1
  clear hv
  go_enter Tryz.func202,Tryz.ntmps202
  go_wp2_with (at_builtin;refine gm rfl _ _ acg rfl w.heap.size (.slice (some ⟨w.heap.size,0,none⟩) 0 0) 0 [] rfl ?_ (.slice (some ⟨b,off,none⟩) n c) n xs rfl ?_ H1.o (by omega) (by omega) (by simp) ?_)
  ·exact iF (cs:= #[]) (n:=0) (ay _ _) rfl (ai _) (by decide)
  ·exact aK.alloc HV.o _
  ·intro v' w1 hown hgrow
   have HO:=ae hown
   have HG:=ae hgrow
   clear hown hgrow
   go_wp2
   go_returns
   refine⟨v',by simp,?_,?_⟩
   ·exact HO.o
   ·exact Below.grown (ak (aG _ _) _) HG.o (by simp) (fun k e=>by cases e;exact ai _)
theorem Nr (n:Nat) (xs:List Value) (v:Value) (w:World) (hv:aK 2 w v n xs) (h1: ∀u∈xs,u.oneCell'=true) (hlen:n<=1000):
 Calls Tryz.prog 203 #[v] w (FM 112 2 n xs w):=by
 obtain⟨o,c,rfl⟩:=aK.open hv
 have HV:=ae hv
 have H1:=ae h1
 clear h1
 have hnil:=fun(w:World) a n c=>Lib.run_eql_slice_nil (P:=Tryz.prog) w 40 112 a n c 0 0 Tryz.underlying40
 cases o with
 |none=>
  obtain⟨hl,o,c',h0,h1,h2,h3,h4⟩:=hv
  cases h0
  obtain rfl:c=0:=h3 rfl
  obtain rfl:n=0:=by omega
  have hx:xs=[]:=kF (by simpa using hl)
  subst hx
  clear HV H1
  go_enter Tryz.func203,Tryz.ntmps203
  go_wp2
  go_returns
  exact⟨.slice none 0 0,by simp,⟨by simp,.inl ⟨rfl,rfl⟩⟩,aG _ _⟩
 |some a=>
  obtain⟨b,off,sp⟩:=a
  obtain rfl:sp=none:=by
   obtain⟨_,o,c',h0,h1,h2,h3,h4⟩:=hv
   cases h0
   exact(h4 _ rfl).1
  clear hv
  go_enter Tryz.func203,Tryz.ntmps203
  go_wp2_with (at_builtin;refine gm rfl _ _ agG rfl w.heap.size (.slice (some ⟨w.heap.size,0,none⟩) 0 0) 0 [] rfl ?_ (.slice (some ⟨b,off,none⟩) n c) n xs rfl ?_ H1.o (by omega) (by omega) (by simp) ?_)
  ·exact iF (cs:= #[]) (n:=0) (ay _ _) rfl (ai _) (by decide)
  ·exact aK.alloc HV.o _
  ·intro v' w1 hown hgrow
   have HO:=ae hown
   have HG:=ae hgrow
   clear hown hgrow
   go_wp2
   go_returns
   refine⟨v',by simp,?_,?_⟩
   ·exact HO.o
   ·exact Below.grown (ak (aG _ _) _) HG.o (by simp) (fun k e=>by cases e;exact ai _)
theorem Ns (n:Nat) (xs:List Value) (v:Value) (w:World) (hv:aK 1 w v n xs) (h1: ∀u∈xs,u.oneCell'=true) (hlen:n<=1000):
 Calls Tryz.prog 204 #[v] w (FM 36 1 n xs w):=by
 obtain⟨o,c,rfl⟩:=aK.open hv
 have HV:=ae hv
 have H1:=ae h1
 clear h1
 have hnil:=fun(w:World) a n c=>Lib.run_eql_slice_nil (P:=Tryz.prog) w 41 36 a n c 0 0 Tryz.underlying41
 cases o with
 |none=>
  obtain⟨hl,o,c',h0,h1,h2,h3,h4⟩:=hv
  cases h0
  obtain rfl:c=0:=h3 rfl
  obtain rfl:n=0:=by omega
  have hx:xs=[]:=kF (by simpa using hl)
  subst hx
  clear HV H1
  go_enter Tryz.func204,Tryz.ntmps204
  go_wp2
  go_returns
  exact⟨.slice none 0 0,by simp,⟨by simp,.inl ⟨rfl,rfl⟩⟩,aG _ _⟩
 |some a=>
  obtain⟨b,off,sp⟩:=a
  obtain rfl:sp=none:=by
   obtain⟨_,o,c',h0,h1,h2,h3,h4⟩:=hv
   cases h0
   exact(h4 _ rfl).1
  clear hv
  go_enter Tryz.func204,Tryz.ntmps204
  go_wp2_with (at_builtin;refine gm rfl _ _ agI rfl w.heap.size (.slice (some ⟨w.heap.size,0,none⟩) 0 0) 0 [] rfl ?_ (.slice (some ⟨b,off,none⟩) n c) n xs rfl ?_ H1.o (by omega) (by omega) (by simp) ?_)
  ·exact iF (cs:= #[]) (n:=0) (ay _ _) rfl (ai _) (by decide)
  ·exact aK.alloc HV.o _
  ·intro v' w1 hown hgrow
   have HO:=ae hown
   have HG:=ae hgrow
   clear hown hgrow
   go_wp2
   go_returns
   refine⟨v',by simp,?_,?_⟩
   ·exact HO.o
   ·exact Below.grown (ak (aG _ _) _) HG.o (by simp) (fun k e=>by cases e;exact ai _)
theorem Np (n:Nat) (xs:List Value) (v:Value) (w:World) (hv:aK 4 w v n xs) (h1: ∀u∈xs,u.oneCell'=true) (hlen:n<=1000):
 Calls Tryz.prog 205 #[v] w (FM 124 4 n xs w):=by
 obtain⟨o,c,rfl⟩:=aK.open hv
 have HV:=ae hv
 have H1:=ae h1
 clear h1
 have hnil:=fun(w:World) a n c=>Lib.run_eql_slice_nil (P:=Tryz.prog) w 42 124 a n c 0 0 Tryz.underlying42
 cases o with
 |none=>
  obtain⟨hl,o,c',h0,h1,h2,h3,h4⟩:=hv
  cases h0
  obtain rfl:c=0:=h3 rfl
  obtain rfl:n=0:=by omega
  have hx:xs=[]:=kF (by simpa using hl)
  subst hx
  clear HV H1
  go_enter Tryz.func205,Tryz.ntmps205
  go_wp2
  go_returns
  exact⟨.slice none 0 0,by simp,⟨by simp,.inl ⟨rfl,rfl⟩⟩,aG _ _⟩
 |some a=>
  obtain⟨b,off,sp⟩:=a
  obtain rfl:sp=none:=by
   obtain⟨_,o,c',h0,h1,h2,h3,h4⟩:=hv
   cases h0
   exact(h4 _ rfl).1
  clear hv
  go_enter Tryz.func205,Tryz.ntmps205
  go_wp2_with (at_builtin;refine gm rfl _ _ acf rfl w.heap.size (.slice (some ⟨w.heap.size,0,none⟩) 0 0) 0 [] rfl ?_ (.slice (some ⟨b,off,none⟩) n c) n xs rfl ?_ H1.o (by omega) (by omega) (by simp) ?_)
  ·exact iF (cs:= #[]) (n:=0) (ay _ _) rfl (ai _) (by decide)
  ·exact aK.alloc HV.o _
  ·intro v' w1 hown hgrow
   have HO:=ae hown
   have HG:=ae hgrow
   clear hown hgrow
   go_wp2
   go_returns
   refine⟨v',by simp,?_,?_⟩
   ·exact HO.o
   ·exact Below.grown (ak (aG _ _) _) HG.o (by simp) (fun k e=>by cases e;exact ai _)
theorem Cc (n:Nat) (xs:List Value) (v:Value) (w:World) (hv:aK 1 w v n xs) (h1: ∀u∈xs,u.oneCell'=true) (hlen:n<=1000):
 Calls Tryz.prog 98 #[v] w (FM 3 1 n xs w):=by
 obtain⟨o,c,rfl⟩:=aK.open hv
 have HV:=ae hv
 have H1:=ae h1
 clear h1
 have hnil:=fun(w:World) a n c=>Lib.run_eql_slice_nil (P:=Tryz.prog) w 36 3 a n c 0 0 Tryz.underlying36
 cases o with
 |none=>
  obtain⟨hl,o,c',h0,h1,h2,h3,h4⟩:=hv
  cases h0
  obtain rfl:c=0:=h3 rfl
  obtain rfl:n=0:=by omega
  have hx:xs=[]:=kF (by simpa using hl)
  subst hx
  clear HV H1
  go_enter Tryz.func98,Tryz.ntmps98
  go_wp2
  go_returns
  exact⟨.slice none 0 0,by simp,⟨by simp,.inl ⟨rfl,rfl⟩⟩,aG _ _⟩
 |some a=>
  obtain⟨b,off,sp⟩:=a
  obtain rfl:sp=none:=by
   obtain⟨_,o,c',h0,h1,h2,h3,h4⟩:=hv
   cases h0
   exact(h4 _ rfl).1
  clear hv
  go_enter Tryz.func98,Tryz.ntmps98
  go_wp2_with (at_builtin;refine gm rfl _ _ rO rfl w.heap.size (.slice (some ⟨w.heap.size,0,none⟩) 0 0) 0 [] rfl ?_ (.slice (some ⟨b,off,none⟩) n c) n xs rfl ?_ H1.o (by omega) (by omega) (by simp) ?_)
  ·exact iF (cs:= #[]) (n:=0) (ay _ _) rfl (ai _) (by decide)
  ·exact aK.alloc HV.o _
  ·intro v' w1 hown hgrow
   have HO:=ae hown
   have HG:=ae hgrow
   clear hown hgrow
   go_wp2
   go_returns
   refine⟨v',by simp,?_,?_⟩
   ·exact HO.o
   ·exact Below.grown (ak (aG _ _) _) HG.o (by simp) (fun k e=>by cases e;exact ai _)
end Go.Proofs.YthbpmepjmebolaaGreatDoor.Bk
end

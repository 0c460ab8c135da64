/-
  Texts of this claim, packed by a program: DH DI DJ DK DL DM DN DO.
-/
import Derived.WalkKit
import Derived.WalkLawsBesides
import Derived.WalkSpells
import Derived.Outline
import Derived.Handy
import Derived.KernelRfl
import Derived.Lib.Hide
import Derived.Sort.OwnSortedInts
import Derived.Test.YtabpkkbiioihaaaGreatDoorPK1
import Derived.Test.YtabpkkbiioihaaaGreatDoorPK6
import Derived.Test.YtabpkkbiioihaaaGreatDoorPK10
import Derived.Test.YtabpkkbiioihaaaGreatDoorPK13
set_option maxHeartbeats 8000000
set_option maxRecDepth 100000
set_option linter.all false
section
namespace Go.Proofs.YtabpkkbiioihaaaGreatDoor.Bk
open Go.RowKit Go.RG Go.SL Go.Shelf gZ Go.TB Go.Proofs.YtabpkkbiioihaaaGreatDoor.xH
theorem dU {w:World} {N:Nat} {t:TypeId} {size:Nat} {o:Option Addr} {n c m:Nat} {xs:List Value} (h:w.ownsRow N t size (.slice o m c) n xs) (hn:0<n):
 ∃g,o=some ⟨g,0,none⟩/\(∀(j:Nat) (hj:j<xs.length),w.cell? ⟨g,j,none⟩=some xs[j])/\(∀j,w.frozen? ⟨g,j,none⟩=false)/\g<w.heap.size:=by
 obtain⟨h1,⟨h2,rfl⟩|⟨g,cc,cs,h2,h3,h4,h5,h6,h7,h8⟩⟩:=h
 ·omega
 ·cases h2
  obtain⟨k0,k1,k2⟩:=cells_of_block h4
  refine⟨g,rfl,fun j hj=>?_,k1,k2⟩
  rw[k0, <-Array.getElem?_toList]
  have:(cs.toList.take (n*size))[j]? =some xs[j]:=by rw[h8];exact List.getElem?_eq_getElem hj
  rw[List.getElem?_take] at this
  split at this
  ·exact this
  ·cases this
theorem jf {w:World} {N:Nat} {t:TypeId} {size:Nat} {g n c m:Nat} {xs:List Value} (h:w.ownsRow N t size (.slice (some ⟨g,0,none⟩) m c) n xs) (j:Nat) (u:Value):(w.setCell ⟨g,j,none⟩ u).ownsRow N t size (.slice (some ⟨g,0,none⟩) m c) n (xs.set j u):=by
 obtain⟨h1,⟨h2,rfl⟩|⟨g',cc,cs,h2,h3,h4,h5,h6,h7,h8⟩⟩:=h
 ·cases h2
 ·cases h2
  refine⟨by simpa using h1,.inr ⟨g,c,_,rfl,h3,ak h4 u,h5,h6,by simpa using h7,?_⟩⟩
  rw[<-h8,Array.toList_setIfInBounds,List.take_set]
theorem flat_get {α:Type} (f:α->List Value) (k:Nat) (hk: ∀x,(f x).length=k): ∀(l:List α) (i j:Nat) (x:α),l[i]? =some x->j<k->(l.flatMap f)[i*k+j]? =(f x)[j]? :=by
 intro l
 induction l with
 |nil=>intro i j x h _;cases h
 |cons y l ih=>
  intro i j x h hj
  rw[List.flatMap_cons]
  cases i with
  |zero=>
   simp only[List.getElem?_cons_zero,Option.some.injEq] at h
   subst h
   rw[List.getElem?_append_left (by rw[hk];omega)]
   congr 1
   omega
  |succ i=>
   rw[List.getElem?_append_right (by rw[hk,Nat.succ_mul];omega),hk]
   rw[show(i+1)*k+j-k=i*k+j from by rw[Nat.succ_mul];omega]
   exact ih i j x (by simpa using h) hj
theorem vX {α:Type} (f:α->List Value) (k:Nat) (hk: ∀x,(f x).length=k): ∀(l:List α) (i j:Nat) (x y:α) (u:Value),l[i]? =some x->j<k->(f x).set j u=f y->(l.flatMap f).set (i*k+j) u=(l.set i y).flatMap f:=by
 intro l
 induction l with
 |nil=>intro i j x y u h _ _;cases h
 |cons z l ih=>
  intro i j x y u h hj hu
  rw[List.flatMap_cons]
  cases i with
  |zero=>
   simp only[List.getElem?_cons_zero,Option.some.injEq] at h
   subst h
   rw[List.set_append_left _ _ (by rw[hk];omega),List.set_cons_zero,List.flatMap_cons, <-hu]
   congr 2
   omega
  |succ i=>
   rw[List.set_append_right _ _ (by rw[hk,Nat.succ_mul];omega),hk,List.set_cons_succ,List.flatMap_cons]
   rw[show(i+1)*k+j-k=i*k+j from by rw[Nat.succ_mul];omega,ih i j x y u (by simpa using h) hj hu]
theorem Rq (l:List bK) (i:Nat) (h:i<l.length):(aj l)[i*2+0]? =some (iv l[i].1)/\(aj l)[i*2+1]? =some (iv l[i].2):=
 ⟨flat_get _ 2 (fun _=>rfl) l i 0 _ (List.getElem?_eq_getElem h) (by omega),flat_get _ 2 (fun _=>rfl) l i 1 _ (List.getElem?_eq_getElem h) (by omega)⟩
theorem Gl (l:List bK) (i:Nat) (h:i<l.length) (a b:Int):((aj l).set (i*2+0) (iv a)).set (i*2+1) (iv b)=aj (l.set i (a,b)):=by
 unfold aj
 rw[vX _ 2 (fun _=>rfl) l i 0 _ (a,l[i].2) (iv a) (List.getElem?_eq_getElem h) (by omega) rfl,vX _ 2 (fun _=>rfl) (l.set i (a,l[i].2)) i 1 (a,l[i].2) (a,b) (iv b) (by simp[h]) (by omega) rfl]
 simp
theorem gU.over {N:Nat} {w W:World} {wb:Nat} {s s':gV} {V:SV} {es es':List KE} (h:gU N w wb s V es) {i:Nat} {r:Row} (hr:(eQ s V es)[i]? =some r) {g:Nat} (hg:r.v.ownBlock=some g) (hE:Ext [g] w W) (xs:List Value)
 (ho:W.ownsRow N r.t r.size r.v r.n xs) (hrows:eQ s' V es'=(eQ s V es).set i ⟨r.t,r.size,r.v,r.n,xs⟩) (hsc:bV s' V=bV s V) (hes:es'.map (·.2)=s'.bG.aC):gU N W wb s' V es':=by
 refine⟨?_,?_,hes⟩
 ·rw[hsc]
  refine(hE.block wb h.rows.lt (fun hm=>h.rows.off i r hr ?_)).trans h.blk
  rw[hg,List.mem_singleton.1 hm]
 ·rw[hrows]
  exact h.rows.put hr ⟨r.t,r.size,r.v,r.n,xs⟩ hE (fun m hm=> .inr (.inr (by rw[hg,List.mem_singleton.1 hm]))) ho (.inl rfl)
theorem Vg (l:List yB) (i:Nat) (h:i<l.length):(bM l)[i*5+3]? =some (iv l[i].2.2.2.1)/\(bM l)[i*5+4]? =some (iv l[i].2.2.2.2):=
 ⟨flat_get _ 5 (fun _=>rfl) l i 3 _ (List.getElem?_eq_getElem h) (by omega),flat_get _ 5 (fun _=>rfl) l i 4 _ (List.getElem?_eq_getElem h) (by omega)⟩
theorem Vf (l:List yB) (i:Nat) (h:i<l.length) (a b:Int):((bM l).set (i*5+3) (iv a)).set (i*5+4) (iv b)=bM (l.set i (l[i].1,l[i].2.1,l[i].2.2.1,(a,b))):=by
 unfold bM
 rw[vX _ 5 (fun _=>rfl) l i 3 _ (l[i].1,l[i].2.1,l[i].2.2.1,(a,l[i].2.2.2.2)) (iv a) (List.getElem?_eq_getElem h) (by omega) rfl,vX _ 5 (fun _=>rfl) (l.set i (l[i].1,l[i].2.1,l[i].2.2.1,(a,l[i].2.2.2.2))) i 4 (l[i].1,l[i].2.1,l[i].2.2.1,(a,l[i].2.2.2.2)) (l[i].1,l[i].2.1,l[i].2.2.1,(a,b)) (iv b) (by simp[h]) (by omega) rfl]
 simp
theorem QS {w:World} {g:Nat} {l:List yB} (h: ∀(j:Nat) (hj:j<(bM l).length),w.cell? ⟨g,j,none⟩=some (bM l)[j]) {i:Nat} (hi:i<l.length):w.cell? ⟨g,i*5+3,none⟩=some (iv l[i].2.2.2.1)/\w.cell? ⟨g,i*5+4,none⟩=some (iv l[i].2.2.2.2):=by
 obtain⟨h1,h2⟩:=Vg l i hi
 obtain⟨k1,e1⟩:=List.getElem?_eq_some_iff.1 h1
 obtain⟨k2,e2⟩:=List.getElem?_eq_some_iff.1 h2
 exact⟨(h _ k1).trans (by rw[e1]),(h _ k2).trans (by rw[e2])⟩
theorem BZ {w:World} {g:Nat} {l:List bK} (h: ∀(j:Nat) (hj:j<(aj l).length),w.cell? ⟨g,j,none⟩=some (aj l)[j]) {i:Nat} (hi:i<l.length):w.cell? ⟨g,i*2,none⟩=some (iv l[i].1)/\w.cell? ⟨g,i*2+1,none⟩=some (iv l[i].2):=by
 obtain⟨h1,h2⟩:=Rq l i hi
 obtain⟨k1,e1⟩:=List.getElem?_eq_some_iff.1 h1
 obtain⟨k2,e2⟩:=List.getElem?_eq_some_iff.1 h2
 exact⟨(h _ k1).trans (by rw[e1]),(h _ k2).trans (by rw[e2])⟩
theorem Dw (N:Nat) (w:World) (wb:Nat) (s:gV) (V:SV) (es:List KE) (ns:Value) (x:Nat) (y:Int) (z:Int) (hO:gU N w wb s V es) (hn:mF N w ns [(x:Int),y,z]) (hG:Good s) (hx:0<=y/\y<=9999):Calls Tryz.prog 71 #[.pointer (some ⟨wb,0,none⟩),ns] w (lM N wb (act s .bg [(x:Int),y,z]) w):=by
 obtain⟨vt,vn,vw,vu,vr,vh,vk,vs⟩:=V
 obtain⟨o,cc,rfl⟩: ∃o c,vw= .slice o s.heap.bg.length c:=aA (n:=s.heap.bg.length) (hO.rows.own 2 _ rfl)
 have HO:=Lib.hid hO
 have dP:=dm hO
 obtain⟨b,c,rfl,hbN,hcs⟩:=hn
 have lb:b<w.heap.size:=by omega
 have lw:=hO.rows.lt
 have pK:=hO.rows.base
 have HW:Hid (∀W,Below N w W->b<W.heap.size/\ ∀(j:Nat) (h:j<[(x:Int),y,z].length),W.cell? ⟨b,j,none⟩=some (iv [(x:Int),y,z][j])):=Lib.hid (fun W hB=>⟨by have:=hB.size;omega,fun j h=>(World.cell?_of_block (hB.block b hbN)).trans (hcs j h)⟩)
 obtain⟨c0,f0,l0⟩:=cells_of_block hO.blk
 have jY:=hcs 0 (by simp)
 simp only[List.getElem_cons_zero,List.getElem_cons_succ] at jY
 have n01:=hcs 1 (by simp)
 simp only[List.getElem_cons_zero,List.getElem_cons_succ] at n01
 have n02:=hcs 2 (by simp)
 simp only[List.getElem_cons_zero,List.getElem_cons_succ] at n02
 have HB0:Hid (Below w.heap.size w w):=Lib.hid (Below.refl _ _)
 have hl4:=hG.heap.1
 have EF:=hG.QL
 have HR5:=Lib.hid EF
 clear EF
 clear hO hcs hG
 go_enter Tryz.func71,Tryz.ntmps71
 go_wp2_with fail
 refine(rC x wb s _ w ((HB0.out.block _ lw).trans HO.out.blk) hl4).mono ?_
 rintro e W1 ⟨hb,⟨hc,rfl⟩|⟨hc,rfl⟩⟩
 rotate_left
 ·simp at hc
  simp only[act,aU,aV,List.getD_cons_zero,List.getD_cons_succ]
  (repeat (first|rw[if_pos (by omega)]|rw[if_neg (by omega)]))
  exact⟨rfl,(aH HB0.out hb).mono dP,.inr ⟨by simp,rfl⟩⟩
 simp at hc
 have HB1:=Lib.hid (aH HB0.out hb)
 have UL:=Lib.hid hb
 have gJ:=Lib.hid hc
 clear hb hc c0 f0 jY n01 n02
 obtain⟨c1,f1,l1⟩:=cells_of_block ((HB1.out.block _ lw).trans HO.out.blk)
 obtain⟨pX,hcs1⟩:=HW.out W1 (HB1.out.mono dP)
 have n10:=hcs1 0 (by simp)
 simp only[List.getElem_cons_zero,List.getElem_cons_succ] at n10
 have n11:=hcs1 1 (by simp)
 simp only[List.getElem_cons_zero,List.getElem_cons_succ] at n11
 have n12:=hcs1 2 (by simp)
 simp only[List.getElem_cons_zero,List.getElem_cons_succ] at n12
 clear hcs1
 go_wp2_with fail
 refine zg 6 [] none [] ?_
 simp only[zt]
 repeat ((first|refine zd ?_|refine zk ?_);simp only[zp])
 intro W2 hE hF
 have HB2:=Lib.hid (aH HB1.out hE.below)
 clear hE hF c1 f1 pX n10 n11 n12
 obtain⟨c2,f2,l2⟩:=cells_of_block ((HB2.out.block _ lw).trans HO.out.blk)
 obtain⟨qI,hcs2⟩:=HW.out W2 (HB2.out.mono dP)
 have n20:=hcs2 0 (by simp)
 simp only[List.getElem_cons_zero,List.getElem_cons_succ] at n20
 have n21:=hcs2 1 (by simp)
 simp only[List.getElem_cons_zero,List.getElem_cons_succ] at n21
 have n22:=hcs2 2 (by simp)
 simp only[List.getElem_cons_zero,List.getElem_cons_succ] at n22
 clear hcs2
 go_wp2_with fail
 refine(uz _ _ _ _ _ (by omega)).mono ?_
 rintro e W3 ⟨hb,⟨hc,rfl⟩|⟨hc,rfl⟩⟩
 rotate_left
 ·simp at hc
  have q0:=gJ.out
  simp only[act,aU,aV,List.getD_cons_zero,List.getD_cons_succ]
  (repeat (first|rw[if_pos (by omega)]|rw[if_neg (by omega)]))
  exact⟨rfl,(aH HB2.out hb).mono dP,.inr ⟨by simp,rfl⟩⟩
 simp at hc
 have HB3:=Lib.hid (aH HB2.out hb)
 have HS3:=Lib.hid hb
 have lN:=Lib.hid hc
 clear hb hc c2 f2 qI n20 n21 n22
 obtain⟨c3,f3,l3⟩:=cells_of_block ((HB3.out.block _ lw).trans HO.out.blk)
 obtain⟨CO,hcs3⟩:=HW.out W3 (HB3.out.mono dP)
 have n30:=hcs3 0 (by simp)
 simp only[List.getElem_cons_zero,List.getElem_cons_succ] at n30
 have n31:=hcs3 1 (by simp)
 simp only[List.getElem_cons_zero,List.getElem_cons_succ] at n31
 have n32:=hcs3 2 (by simp)
 simp only[List.getElem_cons_zero,List.getElem_cons_succ] at n32
 clear hcs3
 go_wp2_with fail
 refine zg 16 [] none [] ?_
 simp only[zt]
 repeat ((first|refine zd ?_|refine zk ?_);simp only[zp])
 intro W4 hE hF
 have HB4:=Lib.hid (aH HB3.out hE.below)
 clear hE hF c3 f3 CO n30 n31 n32
 obtain⟨c4,f4,l4⟩:=cells_of_block ((HB4.out.block _ lw).trans HO.out.blk)
 obtain⟨Jn,ik⟩:=HW.out W4 (HB4.out.mono dP)
 have n40:=ik 0 (by simp)
 simp only[List.getElem_cons_zero,List.getElem_cons_succ] at n40
 have n41:=ik 1 (by simp)
 simp only[List.getElem_cons_zero,List.getElem_cons_succ] at n41
 have n42:=ik 2 (by simp)
 simp only[List.getElem_cons_zero,List.getElem_cons_succ] at n42
 clear ik
 have q0:=gJ.out
 have hxl:x<s.heap.bg.length:=by have:=HR5.out;omega
 have hown:=(HO.out.below HB4.out).rows.own 2 _ rfl
 obtain⟨g,rfl,hcg,hfg,hgl⟩:=dU hown (by show 0<s.heap.bg.length;omega)
 obtain⟨g0,g1⟩:=BZ hcg hxl
 clear hcg q0 hown
 go_wp2_with fail
 go_end0
 have q0:=gJ.out
 have q1:=lN.out
 simp only[act,aU,aV,List.getD_cons_zero,List.getD_cons_succ]
 (repeat (first|rw[if_pos (by omega)]|rw[if_neg (by omega)]))
 simp only[Int.toNat_natCast]
 have uJ:=HO.out.below HB4.out
 have hgN:N<=g:=((uJ.rows.own 2 _ rfl).lt g rfl).1
 have hS:=(jf (jf (uJ.rows.own 2 _ rfl) (x*2+0) (iv y)) (x*2+1) (iv z))
 simp only[Gl _ _ hxl] at hS
 exact⟨(((HB4.out.mono dP).setCell hgN _).setCell hgN _),.inl ⟨rfl,rfl,_,es,uJ.over (i:=2) rfl (g:=g) rfl ((dO).trans dO) (aj (s.heap.bg.set x (y,z))) hS (by simp[eQ,jw,jl,eU,dI]) rfl HO.out.es⟩⟩
theorem mZ (N:Nat) (w:World) (wb:Nat) (s:gV) (V:SV) (es:List KE) (ns:Value) (x:Nat) (y:Int) (z:Int) (hO:gU N w wb s V es) (hn:mF N w ns [(x:Int),y,z]) (hx:0<=y/\y<=9999):Calls Tryz.prog 77 #[.pointer (some ⟨wb,0,none⟩),ns] w (lM N wb (act s .strong [(x:Int),y,z]) w):=by
 obtain⟨vt,vn,vw,vu,vr,vh,vk,vs⟩:=V
 obtain⟨o,cc,rfl⟩: ∃o c,vh= .slice o s.bG.heaps.length c:=aA (n:=s.bG.heaps.length) (hO.rows.own 5 _ rfl)
 have HO:=Lib.hid hO
 have dP:=dm hO
 obtain⟨b,c,rfl,hbN,hcs⟩:=hn
 have lb:b<w.heap.size:=by omega
 have lw:=hO.rows.lt
 have pK:=hO.rows.base
 have HW:Hid (∀W,Below N w W->b<W.heap.size/\ ∀(j:Nat) (h:j<[(x:Int),y,z].length),W.cell? ⟨b,j,none⟩=some (iv [(x:Int),y,z][j])):=Lib.hid (fun W hB=>⟨by have:=hB.size;omega,fun j h=>(World.cell?_of_block (hB.block b hbN)).trans (hcs j h)⟩)
 obtain⟨c0,f0,l0⟩:=cells_of_block hO.blk
 have jY:=hcs 0 (by simp)
 simp only[List.getElem_cons_zero,List.getElem_cons_succ] at jY
 have n01:=hcs 1 (by simp)
 simp only[List.getElem_cons_zero,List.getElem_cons_succ] at n01
 have n02:=hcs 2 (by simp)
 simp only[List.getElem_cons_zero,List.getElem_cons_succ] at n02
 have HB0:Hid (Below w.heap.size w w):=Lib.hid (Below.refl _ _)
 clear hO hcs
 go_enter Tryz.func77,Tryz.ntmps77
 go_wp2_with fail
 refine zg 10 [] none [] ?_
 simp only[zt]
 repeat ((first|refine zd ?_|refine zk ?_);simp only[zp])
 intro W1 hE hF
 have HB1:=Lib.hid (aH HB0.out hE.below)
 clear hE hF c0 f0 jY n01 n02
 obtain⟨c1,f1,l1⟩:=cells_of_block ((HB1.out.block _ lw).trans HO.out.blk)
 obtain⟨pX,hcs1⟩:=HW.out W1 (HB1.out.mono dP)
 have n10:=hcs1 0 (by simp)
 simp only[List.getElem_cons_zero,List.getElem_cons_succ] at n10
 have n11:=hcs1 1 (by simp)
 simp only[List.getElem_cons_zero,List.getElem_cons_succ] at n11
 have n12:=hcs1 2 (by simp)
 simp only[List.getElem_cons_zero,List.getElem_cons_succ] at n12
 clear hcs1
 go_wp2_with fail
 refine(fG _ _ _).mono ?_
 rintro e W2 ⟨hb,⟨hc,rfl⟩|⟨hc,rfl⟩⟩
 rotate_left
 ·simp at hc
  simp only[act,aU,aV,List.getD_cons_zero,List.getD_cons_succ]
  (repeat (first|rw[if_pos (by omega)]|rw[if_neg (by omega)]))
  exact⟨rfl,(aH HB1.out hb).mono dP,.inr ⟨by simp,rfl⟩⟩
 simp at hc
 have HB2:=Lib.hid (aH HB1.out hb)
 have HS2:=Lib.hid hb
 have gJ:=Lib.hid hc
 clear hb hc c1 f1 pX n10 n11 n12
 obtain⟨c2,f2,l2⟩:=cells_of_block ((HB2.out.block _ lw).trans HO.out.blk)
 obtain⟨qI,hcs2⟩:=HW.out W2 (HB2.out.mono dP)
 have n20:=hcs2 0 (by simp)
 simp only[List.getElem_cons_zero,List.getElem_cons_succ] at n20
 have n21:=hcs2 1 (by simp)
 simp only[List.getElem_cons_zero,List.getElem_cons_succ] at n21
 have n22:=hcs2 2 (by simp)
 simp only[List.getElem_cons_zero,List.getElem_cons_succ] at n22
 clear hcs2
 go_wp2_with fail
 refine RX.dM (fun ps W'=> ¬(y<=z/\z<=100/\z<=y+9)/\ps=refusal 2/\Below N w W') 16 [] none [(15,⟨fun _ v=>v=rv (y,z),fun _ _ _=>(y<=z/\z<=100/\z<=y+9)⟩)] (by rintro ps a1 Wx hdf ⟨h1,rfl,h3⟩;refine⟨hdf,pR (c:=2) h3 ?_ (by decide)⟩;have q0:=gJ.out;simp only[act,aU,aV,List.getD_cons_zero,List.getD_cons_succ];(repeat (first|rw[if_pos (by omega)]|rw[if_neg (by omega)]))) (by as_aux_lemma=>kernel_rfl) (by as_aux_lemma=>kernel_rfl) ?_
 simp only[zt]
 repeat (refine RX.zd ?_;simp only[zp])
 refine RX.aP _ (by rfl) (by rfl) ⟨_,rfl⟩ (fun Wq hE2 hF2=>?_) (fun v Wa Wb ho hE=>ho) (fun v hv=>?_)
 ·have hE':Ext [] W2 Wq:=hE2
  refine RX.bU 129 #[iv y,iv z,iv 9] (by go_simp;try rfl) ?_
  refine(pO y z 9 Wq (by omega)).mono ?_
  rintro e w' ⟨hb,⟨hc,rfl⟩|⟨hc,rfl⟩⟩
  ·exact .inl ⟨_,rfl,rfl,hc,Ext.of_below hb⟩
  ·exact .inr ⟨_,rfl,hc,rfl,(aH HB2.out (aH hE'.below hb)).mono dP⟩
 obtain rfl:v=rv (y,z):=hv
 simp only[zp]
 intro W3 hE hF
 have hc:y<=z/\z<=100/\z<=y+9:=hF _ (List.Mem.head _)
 have HB3:=Lib.hid (aH HB2.out (show Ext [] W2 W3 from hE).below)
 have lN:=Lib.hid hc
 clear hE hF hc c2 f2 qI n20 n21 n22
 obtain⟨c3,f3,l3⟩:=cells_of_block ((HB3.out.block _ lw).trans HO.out.blk)
 obtain⟨CO,hcs3⟩:=HW.out W3 (HB3.out.mono dP)
 have n30:=hcs3 0 (by simp)
 simp only[List.getElem_cons_zero,List.getElem_cons_succ] at n30
 have n31:=hcs3 1 (by simp)
 simp only[List.getElem_cons_zero,List.getElem_cons_succ] at n31
 have n32:=hcs3 2 (by simp)
 simp only[List.getElem_cons_zero,List.getElem_cons_succ] at n32
 clear hcs3
 have q0:=gJ.out
 have hxl:x<s.bG.heaps.length:=by omega
 have hown:=(HO.out.below HB3.out).rows.own 5 _ rfl
 obtain⟨g,rfl,hcg,hfg,hgl⟩:=dU hown (by show 0<s.bG.heaps.length;omega)
 obtain⟨g0,g1⟩:=BZ hcg hxl
 clear hcg q0 hown
 go_wp2_with fail
 go_end0
 have q0:=gJ.out
 have q1:=lN.out
 simp only[act,aU,aV,List.getD_cons_zero,List.getD_cons_succ]
 (repeat (first|rw[if_pos (by omega)]|rw[if_neg (by omega)]))
 simp only[Int.toNat_natCast]
 have uJ:=HO.out.below HB3.out
 have hgN:N<=g:=((uJ.rows.own 5 _ rfl).lt g rfl).1
 have hS:=(jf (jf (uJ.rows.own 5 _ rfl) (x*2+0) (iv y)) (x*2+1) (iv z))
 simp only[Gl _ _ hxl] at hS
 exact⟨(((HB3.out.mono dP).setCell hgN _).setCell hgN _),.inl ⟨rfl,rfl,_,es,uJ.over (i:=5) rfl (g:=g) rfl ((dO).trans dO) (aj (s.bG.heaps.set x (y,z))) hS (by simp[eQ,jw,jl,eU,dI]) rfl HO.out.es⟩⟩
theorem QN (N:Nat) (w:World) (wb:Nat) (s:gV) (V:SV) (es:List KE) (ns:Value) (x:Nat) (y:Int) (z:Int) (hO:gU N w wb s V es) (hn:mF N w ns [(x:Int),y,z]):Calls Tryz.prog 64 #[.pointer (some ⟨wb,0,none⟩),ns] w (lM N wb (act s .ve [(x:Int),y,z]) w):=by
 obtain⟨vt,vn,vw,vu,vr,vh,vk,vs⟩:=V
 obtain⟨o,cc,rfl⟩: ∃o c,vt= .slice o s.led.field.ae.length c:=aA (n:=s.led.field.ae.length) (hO.rows.own 0 _ rfl)
 have HO:=Lib.hid hO
 have dP:=dm hO
 obtain⟨b,c,rfl,hbN,hcs⟩:=hn
 have lb:b<w.heap.size:=by omega
 have lw:=hO.rows.lt
 have pK:=hO.rows.base
 have HW:Hid (∀W,Below N w W->b<W.heap.size/\ ∀(j:Nat) (h:j<[(x:Int),y,z].length),W.cell? ⟨b,j,none⟩=some (iv [(x:Int),y,z][j])):=Lib.hid (fun W hB=>⟨by have:=hB.size;omega,fun j h=>(World.cell?_of_block (hB.block b hbN)).trans (hcs j h)⟩)
 obtain⟨c0,f0,l0⟩:=cells_of_block hO.blk
 have jY:=hcs 0 (by simp)
 simp only[List.getElem_cons_zero,List.getElem_cons_succ] at jY
 have n01:=hcs 1 (by simp)
 simp only[List.getElem_cons_zero,List.getElem_cons_succ] at n01
 have n02:=hcs 2 (by simp)
 simp only[List.getElem_cons_zero,List.getElem_cons_succ] at n02
 have HB0:Hid (Below w.heap.size w w):=Lib.hid (Below.refl _ _)
 clear hO hcs
 go_enter Tryz.func64,Tryz.ntmps64
 go_wp2_with fail
 refine zg 8 [] none [] ?_
 simp only[zt]
 repeat ((first|refine zd ?_|refine zk ?_);simp only[zp])
 intro W1 hE hF
 have HB1:=Lib.hid (aH HB0.out hE.below)
 clear hE hF c0 f0 jY n01 n02
 obtain⟨c1,f1,l1⟩:=cells_of_block ((HB1.out.block _ lw).trans HO.out.blk)
 obtain⟨pX,hcs1⟩:=HW.out W1 (HB1.out.mono dP)
 have n10:=hcs1 0 (by simp)
 simp only[List.getElem_cons_zero,List.getElem_cons_succ] at n10
 have n11:=hcs1 1 (by simp)
 simp only[List.getElem_cons_zero,List.getElem_cons_succ] at n11
 have n12:=hcs1 2 (by simp)
 simp only[List.getElem_cons_zero,List.getElem_cons_succ] at n12
 clear hcs1
 go_wp2_with fail
 refine(fG _ _ _).mono ?_
 rintro e W2 ⟨hb,⟨hc,rfl⟩|⟨hc,rfl⟩⟩
 rotate_left
 ·simp at hc
  simp only[act,aU,aV,List.getD_cons_zero,List.getD_cons_succ]
  (repeat (first|rw[if_pos (by omega)]|rw[if_neg (by omega)]))
  exact⟨rfl,(aH HB1.out hb).mono dP,.inr ⟨by simp,rfl⟩⟩
 simp at hc
 have HB2:=Lib.hid (aH HB1.out hb)
 have HS2:=Lib.hid hb
 have gJ:=Lib.hid hc
 clear hb hc c1 f1 pX n10 n11 n12
 obtain⟨c2,f2,l2⟩:=cells_of_block ((HB2.out.block _ lw).trans HO.out.blk)
 obtain⟨qI,hcs2⟩:=HW.out W2 (HB2.out.mono dP)
 have n20:=hcs2 0 (by simp)
 simp only[List.getElem_cons_zero,List.getElem_cons_succ] at n20
 have n21:=hcs2 1 (by simp)
 simp only[List.getElem_cons_zero,List.getElem_cons_succ] at n21
 have n22:=hcs2 2 (by simp)
 simp only[List.getElem_cons_zero,List.getElem_cons_succ] at n22
 clear hcs2
 go_wp2_with fail
 refine RX.dM (fun ps W'=> ¬(y<=z/\z<=s.led.field.rows)/\ps=refusal 2/\Below N w W') 15 [] none [(14,⟨fun _ v=>v=rv (y,z),fun _ _ _=>(y<=z/\z<=s.led.field.rows)⟩)] (by rintro ps a1 Wx hdf ⟨h1,rfl,h3⟩;refine⟨hdf,pR (c:=2) h3 ?_ (by decide)⟩;have q0:=gJ.out;simp only[act,aU,aV,List.getD_cons_zero,List.getD_cons_succ];(repeat (first|rw[if_pos (by omega)]|rw[if_neg (by omega)]))) (by as_aux_lemma=>kernel_rfl) (by as_aux_lemma=>kernel_rfl) ?_
 simp only[zt]
 repeat (refine RX.zd ?_;simp only[zp])
 refine RX.aP _ (by rfl) (by rfl) ⟨_,rfl⟩ (fun Wq hE2 hF2=>?_) (fun v Wa Wb ho hE=>ho) (fun v hv=>?_)
 ·have hE':Ext [] W2 Wq:=hE2
  refine RX.bU 118 #[.pointer (some ⟨wb,0,none⟩),iv y,iv z] (by go_simp;try rfl) ?_
  refine(ou y z wb s _ Wq ((hE'.block _ (Nat.lt_of_lt_of_le lw HB2.out.size) (by simp)).trans ((HB2.out.block _ lw).trans HO.out.blk))).mono ?_
  rintro e w' ⟨hb,⟨hc,rfl⟩|⟨hc,rfl⟩⟩
  ·exact .inl ⟨_,rfl,rfl,hc,Ext.of_below hb⟩
  ·exact .inr ⟨_,rfl,hc,rfl,(aH HB2.out (aH hE'.below hb)).mono dP⟩
 obtain rfl:v=rv (y,z):=hv
 simp only[zp]
 intro W3 hE hF
 have hc:y<=z/\z<=s.led.field.rows:=hF _ (List.Mem.head _)
 have HB3:=Lib.hid (aH HB2.out (show Ext [] W2 W3 from hE).below)
 have lN:=Lib.hid hc
 clear hE hF hc c2 f2 qI n20 n21 n22
 obtain⟨c3,f3,l3⟩:=cells_of_block ((HB3.out.block _ lw).trans HO.out.blk)
 obtain⟨CO,hcs3⟩:=HW.out W3 (HB3.out.mono dP)
 have n30:=hcs3 0 (by simp)
 simp only[List.getElem_cons_zero,List.getElem_cons_succ] at n30
 have n31:=hcs3 1 (by simp)
 simp only[List.getElem_cons_zero,List.getElem_cons_succ] at n31
 have n32:=hcs3 2 (by simp)
 simp only[List.getElem_cons_zero,List.getElem_cons_succ] at n32
 clear hcs3
 have q0:=gJ.out
 have hxl:x<s.led.field.ae.length:=by omega
 have hown:=(HO.out.below HB3.out).rows.own 0 _ rfl
 obtain⟨g,rfl,hcg,hfg,hgl⟩:=dU hown (by show 0<s.led.field.ae.length;omega)
 obtain⟨g0,g1⟩:=QS hcg hxl
 clear hcg q0 hown
 go_wp2_with fail
 go_end0
 have q0:=gJ.out
 have q1:=lN.out
 simp only[act,aU,aV,List.getD_cons_zero,List.getD_cons_succ]
 (repeat (first|rw[if_pos (by omega)]|rw[if_neg (by omega)]))
 simp only[Int.toNat_natCast,List.getD_eq_getElem?_getD,List.getElem?_eq_getElem hxl,Option.getD_some]
 have uJ:=HO.out.below HB3.out
 have hgN:N<=g:=((uJ.rows.own 0 _ rfl).lt g rfl).1
 have hS:=(jf (jf (uJ.rows.own 0 _ rfl) (x*5+3) (iv y)) (x*5+4) (iv z))
 simp only[Vf _ _ hxl] at hS
 exact⟨(((HB3.out.mono dP).setCell hgN _).setCell hgN _),.inl ⟨rfl,rfl,_,es,uJ.over (i:=0) rfl (g:=g) rfl ((dO).trans dO) (bM (s.led.field.ae.set x (s.led.field.ae[x].1,s.led.field.ae[x].2.1,s.led.field.ae[x].2.2.1,(y,z)))) hS (by simp[eQ,jw,jl,eU,dI]) rfl HO.out.es⟩⟩
theorem O9 (x:Int) (w:World):Calls Tryz.prog 131 #[iv x] w (fun e w'=>e= .returned (.bool (decide (0<x)))/\w'=w):=by
 go_enter Tryz.func131,Tryz.ntmps131
 go_wp2
 go_returns
 exact⟨by simp,rfl⟩
theorem LV (l:List Int) (v:Value) (w:World) (hv:aN w v l):Calls Tryz.prog 130 #[v,.func (.func 131) #[] #[]] w (PV (.bool (l.any fun x=>decide (0<x))) w):=by
 refine(Iy l v 131 #[] #[] (fun k=>decide (0<l.getD k 0)) (fun _ W=>Below w.heap.size w W) w (enters_of Tryz.func131 (by kernel_rfl) rfl) (fun k W h=>hv.below h (Nat.le_refl _)) (fun k hk W _ h=>?_) (Below.refl _ _)).mono ?_
 ·refine(O9 l[k] W).mono ?_
  rintro e W' ⟨rfl,rfl⟩
  exact⟨by simp[hk],h⟩
 ·rintro e W' ⟨k,hk,hno,⟨hlt,hp,rfl,hI⟩|⟨hkl,rfl,hI⟩⟩
  ·refine⟨?_,hI⟩
   have:(l.any fun x=>decide (0<x))=true:=List.any_eq_true.2 ⟨l[k],List.getElem_mem _,by simpa [hlt] using hp⟩
   rw[this]
  ·refine⟨?_,hI⟩
   have:(l.any fun x=>decide (0<x))=false:=by
    rw[List.any_eq_false]
    intro x hx
    obtain⟨j,hj,rfl⟩:=List.getElem_of_mem hx
    have:=hno j (by omega)
    simpa [hj] using this
   rw[this]
theorem sK (s:gV) (V:SV) (es:List KE) {x:Nat} {e:KE} (h:es[x]? =some e):(eQ s V es)[8+x]? =some (tN e):=by
 unfold eQ
 rw[List.getElem?_append_right (by simp)]
 simp[h]
theorem Bc (s s':gV) (V:SV) (es:List KE) {x:Nat} {e:KE} (h:x<es.length) (hk:(e.1=(es[x]).1)) (hs:eQ s' V es=eQ s V es):eQ s' V (es.set x e)=(eQ s V es).set (8+x) (tN e):=by
 have h1:eQ s' V (es.set x e)=(eQ s' V es).set (8+x) (tN e):=by
  unfold eQ
  have hkc:dw (es.set x e)=dw es:=by
   unfold dw
   rw[List.map_set,hk]
   apply List.ext_getElem
   ·simp
   ·intro j h1 h2
    rw[List.getElem_set]
    split
    ·rename_i hj;subst hj;simp
    ·rfl
  rw[hkc,List.map_set,List.length_set,List.set_append_right _ _ (by simp)]
  simp
 rw[h1,hs]
theorem TV (N:Nat) (w:World) (wb:Nat) (s:gV) (V:SV) (es:List KE) (ns:Value) (x:Nat) (y:Nat) (z:Int) (hO:gU N w wb s V es) (hn:mF N w ns [(x:Int),(y:Int),z]) (hG:Good s):Calls Tryz.prog 79 #[.pointer (some ⟨wb,0,none⟩),ns] w (lM N wb (act s .fill [(x:Int),(y:Int),z]) w):=by
 obtain⟨vt,vn,vw,vu,vr,vh,vk,vs⟩:=V
 obtain⟨ok,ck,rfl⟩: ∃o c,vk= .slice o es.length c:=aA (n:=es.length) (hO.rows.own 6 _ rfl)
 obtain⟨oh,ch,rfl⟩: ∃o c,vh= .slice o s.bG.heaps.length c:=aA (n:=s.bG.heaps.length) (hO.rows.own 5 _ rfl)
 have HO:=Lib.hid hO
 have dP:=dm hO
 obtain⟨b,c,rfl,hbN,hcs⟩:=hn
 have lb:b<w.heap.size:=by omega
 have lw:=hO.rows.lt
 have pK:=hO.rows.base
 have HW:Hid (∀W,Below N w W->b<W.heap.size/\ ∀(j:Nat) (h:j<[(x:Int),(y:Int),z].length),W.cell? ⟨b,j,none⟩=some (iv [(x:Int),(y:Int),z][j])):=Lib.hid (fun W hB=>⟨by have:=hB.size;omega,fun j h=>(World.cell?_of_block (hB.block b hbN)).trans (hcs j h)⟩)
 obtain⟨c0,f0,l0⟩:=cells_of_block hO.blk
 have jY:=hcs 0 (by simp)
 simp only[List.getElem_cons_zero,List.getElem_cons_succ] at jY
 have n01:=hcs 1 (by simp)
 simp only[List.getElem_cons_zero,List.getElem_cons_succ] at n01
 have n02:=hcs 2 (by simp)
 simp only[List.getElem_cons_zero,List.getElem_cons_succ] at n02
 have HB0:Hid (Below w.heap.size w w):=Lib.hid (Below.refl _ _)
 have hes:es.length=s.bG.aC.length:=by rw[<-hO.es];simp
 have HCK:=Lib.hid (show ∀(j:Nat) (e:KE),es[j]? =some e->s.bG.aC[j]? =some e.2/\e.2.length=s.bG.heaps.length from fun j e h=>by have h1:s.bG.aC[j]? =some e.2:=(by rw[<-hO.es];simp[h]);exact⟨h1,(hG.kN _ (List.mem_of_getElem? h1)).1⟩)
 have gJ:=Lib.hid hes
 clear hes
 clear hO hcs hG
 go_enter Tryz.func79,Tryz.ntmps79
 go_wp2_with fail
 refine zg 8 [] none [] ?_
 simp only[zt]
 repeat ((first|refine zd ?_|refine zk ?_);simp only[zp])
 intro W1 hE hF
 have HB1:=Lib.hid (aH HB0.out hE.below)
 clear hE hF c0 f0 jY n01 n02
 obtain⟨c1,f1,l1⟩:=cells_of_block ((HB1.out.block _ lw).trans HO.out.blk)
 obtain⟨pX,hcs1⟩:=HW.out W1 (HB1.out.mono dP)
 have n10:=hcs1 0 (by simp)
 simp only[List.getElem_cons_zero,List.getElem_cons_succ] at n10
 have n11:=hcs1 1 (by simp)
 simp only[List.getElem_cons_zero,List.getElem_cons_succ] at n11
 have n12:=hcs1 2 (by simp)
 simp only[List.getElem_cons_zero,List.getElem_cons_succ] at n12
 clear hcs1
 go_wp2_with fail
 refine(fG _ _ _).mono ?_
 rintro e W2 ⟨hb,⟨hc,rfl⟩|⟨hc,rfl⟩⟩
 rotate_left
 ·simp at hc
  have q0:=gJ.out
  simp only[act,aU,aV,List.getD_cons_zero,List.getD_cons_succ]
  (repeat (first|rw[if_pos (by omega)]|rw[if_neg (by omega)]))
  exact⟨rfl,(aH HB1.out hb).mono dP,.inr ⟨by simp,rfl⟩⟩
 simp at hc
 have HB2:=Lib.hid (aH HB1.out hb)
 have HS2:=Lib.hid hb
 have lN:=Lib.hid hc
 clear hb hc c1 f1 pX n10 n11 n12
 obtain⟨c2,f2,l2⟩:=cells_of_block ((HB2.out.block _ lw).trans HO.out.blk)
 obtain⟨qI,hcs2⟩:=HW.out W2 (HB2.out.mono dP)
 have n20:=hcs2 0 (by simp)
 simp only[List.getElem_cons_zero,List.getElem_cons_succ] at n20
 have n21:=hcs2 1 (by simp)
 simp only[List.getElem_cons_zero,List.getElem_cons_succ] at n21
 have n22:=hcs2 2 (by simp)
 simp only[List.getElem_cons_zero,List.getElem_cons_succ] at n22
 clear hcs2
 go_wp2_with fail
 refine zg 8 [] none [] ?_
 simp only[zt]
 repeat ((first|refine zd ?_|refine zk ?_);simp only[zp])
 intro W3 hE hF
 have HB3:=Lib.hid (aH HB2.out hE.below)
 clear hE hF c2 f2 qI n20 n21 n22
 obtain⟨c3,f3,l3⟩:=cells_of_block ((HB3.out.block _ lw).trans HO.out.blk)
 obtain⟨CO,hcs3⟩:=HW.out W3 (HB3.out.mono dP)
 have n30:=hcs3 0 (by simp)
 simp only[List.getElem_cons_zero,List.getElem_cons_succ] at n30
 have n31:=hcs3 1 (by simp)
 simp only[List.getElem_cons_zero,List.getElem_cons_succ] at n31
 have n32:=hcs3 2 (by simp)
 simp only[List.getElem_cons_zero,List.getElem_cons_succ] at n32
 clear hcs3
 go_wp2_with fail
 refine(fG _ _ _).mono ?_
 rintro e W4 ⟨hb,⟨hc,rfl⟩|⟨hc,rfl⟩⟩
 rotate_left
 ·simp at hc
  have q0:=gJ.out
  have q1:=lN.out
  simp only[act,aU,aV,List.getD_cons_zero,List.getD_cons_succ]
  (repeat (first|rw[if_pos (by omega)]|rw[if_neg (by omega)]))
  exact⟨rfl,(aH HB3.out hb).mono dP,.inr ⟨by simp,rfl⟩⟩
 simp at hc
 have HB4:=Lib.hid (aH HB3.out hb)
 have Ny:=Lib.hid hb
 have qB:=Lib.hid hc
 clear hb hc c3 f3 CO n30 n31 n32
 obtain⟨c4,f4,l4⟩:=cells_of_block ((HB4.out.block _ lw).trans HO.out.blk)
 obtain⟨Jn,ik⟩:=HW.out W4 (HB4.out.mono dP)
 have n40:=ik 0 (by simp)
 simp only[List.getElem_cons_zero,List.getElem_cons_succ] at n40
 have n41:=ik 1 (by simp)
 simp only[List.getElem_cons_zero,List.getElem_cons_succ] at n41
 have n42:=ik 2 (by simp)
 simp only[List.getElem_cons_zero,List.getElem_cons_succ] at n42
 clear ik
 go_wp2_with fail
 refine(cu 2 [decide (30<z)] W4 (by simp) _ (by simp[bI]) _ _ rfl).mono ?_
 rintro e W5 ⟨hb,⟨hc,rfl⟩|⟨hc,rfl⟩⟩
 rotate_left
 ·simp at hc
  have q0:=gJ.out
  have q1:=lN.out
  have q2:=qB.out
  simp only[act,aU,aV,List.getD_cons_zero,List.getD_cons_succ]
  (repeat (first|rw[if_pos (by omega)]|rw[if_neg (by omega)]))
  exact⟨rfl,(aH HB4.out hb).mono dP,.inr ⟨by simp,rfl⟩⟩
 simp at hc
 have lD:=Lib.hid (aH HB4.out hb)
 have HS5:=Lib.hid hb
 have AV:=Lib.hid hc
 clear hb hc c4 f4 Jn n40 n41 n42
 obtain⟨c5,f5,l5⟩:=cells_of_block ((lD.out.block _ lw).trans HO.out.blk)
 obtain⟨Yf,nT⟩:=HW.out W5 (lD.out.mono dP)
 have n50:=nT 0 (by simp)
 simp only[List.getElem_cons_zero,List.getElem_cons_succ] at n50
 have n51:=nT 1 (by simp)
 simp only[List.getElem_cons_zero,List.getElem_cons_succ] at n51
 have n52:=nT 2 (by simp)
 simp only[List.getElem_cons_zero,List.getElem_cons_succ] at n52
 clear nT
 go_wp2_with fail
 have q0:=gJ.out
 have q1:=lN.out
 have q2:=qB.out
 have q3:=AV.out
 have hxl:x<es.length:=by omega
 have hyl:y<s.bG.heaps.length:=by omega
 clear q0 q1 q2 q3
 obtain⟨ev,el,hel⟩: ∃ev el,es[x]? =some (ev,el):=⟨_,_,List.getElem?_eq_getElem hxl⟩
 obtain⟨hcx,hlx⟩:s.bG.aC[x]? =some el/\el.length=s.bG.heaps.length:=HCK.out x _ hel
 have hrow: ∀s' V',(eQ s' V' es)[8+x]? =some (tN (ev,el)):=fun s' V'=>sK s' V' es hel
 obtain⟨oe,ce,rfl⟩: ∃o c,ev= .slice o el.length c:=aA (n:=el.length) ((HO.out.below lD.out).rows.own _ _ (hrow _ _))
 obtain⟨gk,rfl,hgk,hfk,hkl⟩:=dU ((HO.out.below lD.out).rows.own 6 _ rfl) (by show 0<es.length;omega)
 have hgx:(dw es)[x]? =some (.slice oe el.length ce):=by simp[dw,hel]
 obtain⟨hg',eg'⟩:=List.getElem?_eq_some_iff.1 hgx
 have g6:=(hgk x hg').trans (by rw[eg'])
 clear hgx hg' eg'
 have QG:=Lib.hid (And.intro hel (And.intro hcx (And.intro hlx hrow)))
 clear hgk hel hcx hlx hrow
 obtain⟨gk0,abw⟩: ∃gk0,gk0=gk:=⟨_,rfl⟩
 have HGK:=Lib.hid abw
 clear abw
 refine zg 15 [] none [] ?_
 simp only[zt]
 repeat ((first|refine zd ?_|refine zk ?_);simp only[zp])
 intro W6 hE hF
 have lT:=Lib.hid (aH lD.out hE.below)
 clear hE hF c5 f5 Yf n50 n51 n52 g6
 obtain⟨c6,f6,l6⟩:=cells_of_block ((lT.out.block _ lw).trans HO.out.blk)
 obtain⟨Ye,nS⟩:=HW.out W6 (lT.out.mono dP)
 have n60:=nS 0 (by simp)
 simp only[List.getElem_cons_zero,List.getElem_cons_succ] at n60
 have n61:=nS 1 (by simp)
 simp only[List.getElem_cons_zero,List.getElem_cons_succ] at n61
 have n62:=nS 2 (by simp)
 simp only[List.getElem_cons_zero,List.getElem_cons_succ] at n62
 clear nS
 obtain⟨g,rfl,hcg,hfg,hgl⟩:=dU ((HO.out.below lT.out).rows.own _ _ (QG.out.2.2.2 _ _)) (by show 0<el.length;have:=QG.out.2.2.1;omega)
 have Yp:y<el.length:=by have:=QG.out.2.2.1;omega
 have g0:=hcg y (by simpa [tN,intCells] using Yp)
 simp only[tN,intCells,List.getElem_map] at g0
 have HY:=Lib.hid (And.intro hyl (And.intro hxl Yp))
 clear hcg hyl hxl
 go_wp2_with fail
 refine dD fun W7 kU=>?_
 have uJ:=HO.out.below lT.out
 have hgN:N<=g:=((uJ.rows.own _ _ (QG.out.2.2.2 _ _)).lt g rfl).1
 have hS:=jf (uJ.rows.own _ _ (QG.out.2.2.2 _ _)) y (iv z)
 have hO2:gU N W7 wb (dI s {s.bG with aC:=s.bG.aC.set x (el.set y z)}) ⟨vt,vn,vw,vu,vr,.slice oh s.bG.heaps.length ch,.slice (some ⟨gk,0,none⟩) es.length ck,vs⟩ (es.set x (.slice (some ⟨g,0,none⟩) el.length ce,el.set y z)):=by
  rw[kU]
  refine uJ.over (i:=8+x) (QG.out.2.2.2 _ _) (g:=g) rfl dO (intCells (el.set y z)) ?_ ?_ rfl ?_
  ·simpa [tN,intCells,List.map_set] using hS
  ·refine(Bc s _ _ es HY.out.2.1 (by have:=(List.getElem?_eq_some_iff.1 QG.out.1).2;rw[this]) rfl).trans ?_
   simp[tN]
  ·show _=s.bG.aC.set x (el.set y z)
   rw[List.map_set,HO.out.es]
 have yC:=Lib.hid (show Below N w W7 from by rw[kU];exact(lT.out.mono dP).setCell hgN _)
 have wQ:=Lib.hid hO2
 clear kU uJ hgN hS hO2 Yp hfg hgl g0 c6 f6 Ye n60 n61 n62
 obtain⟨c7,f7,l7⟩:=cells_of_block wQ.out.blk
 obtain⟨Yd,nR⟩:=HW.out W7 yC.out
 have n70:=nR 0 (by simp)
 simp only[List.getElem_cons_zero,List.getElem_cons_succ] at n70
 have n71:=nR 1 (by simp)
 simp only[List.getElem_cons_zero,List.getElem_cons_succ] at n71
 have n72:=nR 2 (by simp)
 simp only[List.getElem_cons_zero,List.getElem_cons_succ] at n72
 obtain⟨gk2,aeH,hgk,aeL,hkl2⟩:=dU (wQ.out.rows.own 6 _ rfl) (by show 0<(es.set x _).length;rw[List.length_set];have:=HY.out.2.1;omega)
 cases aeH
 have hgx:(dw (es.set x (.slice (some ⟨g,0,none⟩) el.length ce,el.set y z)))[x]? =some (.slice (some ⟨g,0,none⟩) el.length ce):=by simp[dw,HY.out.2.1]
 obtain⟨hg',eg'⟩:=List.getElem?_eq_some_iff.1 hgx
 have g6:=(hgk x hg').trans (by rw[eg'])
 have hxl:=HY.out.2.1
 clear hgx hg' eg' hgk nR
 refine zg 9 [] none [] ?_
 simp only[zt]
 repeat ((first|refine zd ?_|refine zk ?_);simp only[zp])
 intro W8 hE hF
 have hOw:=(wQ.out.below (Ext.below hE))
 have hIx:aN W8 (.slice (some ⟨g,0,none⟩) el.length ce) (el.set y z):=by
  have h:=hOw.rows.own (8+x) _ (sK _ _ _ (by rw[List.getElem?_set_self HY.out.2.1]))
  have h2:=aB.dn h
  exact h2
 have lQ:=Lib.hid (yC.out.trans ((Ext.below hE).mono (dm wQ.out)))
 have HOw:=Lib.hid hOw
 have HAP:=Lib.hid (LV _ _ _ hIx)
 clear hE hF hOw hIx c7 f7 Yd g6 aeL n70 n71 n72
 go_wp2_with fail
 refine HAP.out.mono ?_
 rintro e W9 ⟨rfl,hb⟩
 have HS:=Lib.hid hb
 obtain⟨q,hq⟩: ∃q,((el.set y z).any fun x=>decide (0<x))=q:=⟨_,rfl⟩
 rw[hq]
 have Nz:=Lib.hid hq
 clear hb hq HAP
 go_wp2_with fail
 refine(cu 8 [!q] W9 (by simp) _ (by simp[bI]) _ _ rfl).mono ?_
 rintro e XI ⟨hb,⟨hc,rfl⟩|⟨hc,rfl⟩⟩
 ·obtain rfl:q=true:=by cases q <;>simp_all
  go_wp2_with fail
  go_end0
  have q0:=gJ.out
  have q1:=lN.out
  have q2:=qB.out
  have q3:=AV.out
  simp only[act,List.getD_cons_zero,List.getD_cons_succ,Int.toNat_natCast];simp only[List.getD_eq_getElem?_getD,QG.out.2.1,Option.getD_some,Nz.out]
  rw[if_neg (by omega),if_neg (by omega),if_neg (by omega),if_neg (by simp)]
  exact⟨lQ.out.trans ((aH HS.out hb).mono (dm HOw.out)),.inl ⟨rfl,rfl,_,_,HOw.out.below (aH HS.out hb)⟩⟩
 ·obtain rfl:q=false:=by cases q <;>simp_all
  have q0:=gJ.out
  have q1:=lN.out
  have q2:=qB.out
  have q3:=AV.out
  simp only[act,List.getD_cons_zero,List.getD_cons_succ,Int.toNat_natCast];simp only[List.getD_eq_getElem?_getD,QG.out.2.1,Option.getD_some,Nz.out]
  rw[if_neg (by omega),if_neg (by omega),if_neg (by omega),if_pos (by simp)]
  exact⟨rfl,lQ.out.trans ((aH HS.out hb).mono (dm HOw.out)),.inr ⟨by simp,rfl⟩⟩
theorem Um (N:Nat) (w:World) (wb:Nat) (s:gV) (V:SV) (es:List KE) (ns:Value) (x:Nat) (y:Int) (hO:gU N w wb s V es) (hn:mF N w ns [(x:Int),y]) (hG:Good s):Calls Tryz.prog 78 #[.pointer (some ⟨wb,0,none⟩),ns] w (lM N wb (act s .kN [(x:Int),y]) w):=by
 obtain⟨vt,vn,vw,vu,vr,vh,vk,vs⟩:=V
 obtain⟨oh,ch,rfl⟩: ∃o c,vh= .slice o s.bG.heaps.length c:=aA (n:=s.bG.heaps.length) (hO.rows.own 5 _ rfl)
 obtain⟨ok,ck,rfl⟩: ∃o c,vk= .slice o es.length c:=aA (n:=es.length) (hO.rows.own 6 _ rfl)
 have HO:=Lib.hid hO
 have dP:=dm hO
 obtain⟨b,c,rfl,hbN,hcs⟩:=hn
 have lb:b<w.heap.size:=by omega
 have lw:=hO.rows.lt
 have pK:=hO.rows.base
 have HW:Hid (∀W,Below N w W->b<W.heap.size/\ ∀(j:Nat) (h:j<[(x:Int),y].length),W.cell? ⟨b,j,none⟩=some (iv [(x:Int),y][j])):=Lib.hid (fun W hB=>⟨by have:=hB.size;omega,fun j h=>(World.cell?_of_block (hB.block b hbN)).trans (hcs j h)⟩)
 obtain⟨c0,f0,l0⟩:=cells_of_block hO.blk
 have jY:=hcs 0 (by simp)
 simp only[List.getElem_cons_zero,List.getElem_cons_succ] at jY
 have n01:=hcs 1 (by simp)
 simp only[List.getElem_cons_zero,List.getElem_cons_succ] at n01
 have HB0:Hid (Below w.heap.size w w):=Lib.hid (Below.refl _ _)
 have hes:es.length=s.bG.aC.length:=by rw[<-hO.es];simp
 have gJ:=Lib.hid hes
 clear hes
 have O0:=hG.LK
 have aeO:=hG.aC
 have hmk:=pg s.bG.heaps.length (by omega)
 clear hO hcs hG
 go_enter Tryz.func78,Tryz.ntmps78
 go_wp2_with fail
 refine zg 8 [] none [] ?_
 simp only[zt]
 repeat ((first|refine zd ?_|refine zk ?_);simp only[zp])
 intro W1 hE hF
 have HB1:=Lib.hid (aH HB0.out hE.below)
 have UL:=Lib.hid (Ext.below hE)
 clear hE hF c0 f0 jY n01
 obtain⟨c1,f1,l1⟩:=cells_of_block ((HB1.out.block _ lw).trans HO.out.blk)
 obtain⟨pX,hcs1⟩:=HW.out W1 (HB1.out.mono dP)
 have n10:=hcs1 0 (by simp)
 simp only[List.getElem_cons_zero,List.getElem_cons_succ] at n10
 have n11:=hcs1 1 (by simp)
 simp only[List.getElem_cons_zero,List.getElem_cons_succ] at n11
 clear hcs1
 go_wp2_with fail
 refine(fG _ _ _).mono ?_
 rintro e W2 ⟨hb,⟨hc,rfl⟩|⟨hc,rfl⟩⟩
 rotate_left
 ·simp at hc
  have q0:=gJ.out
  simp only[act,aU,aV,List.getD_cons_zero,List.getD_cons_succ]
  (repeat (first|rw[if_pos (by omega)]|rw[if_neg (by omega)]))
  exact⟨rfl,(aH HB1.out hb).mono dP,.inr ⟨by simp,rfl⟩⟩
 simp at hc
 have HB2:=Lib.hid (aH HB1.out hb)
 have HS2:=Lib.hid hb
 have lN:=Lib.hid hc
 clear hb hc c1 f1 pX n10 n11
 obtain⟨c2,f2,l2⟩:=cells_of_block ((HB2.out.block _ lw).trans HO.out.blk)
 obtain⟨qI,hcs2⟩:=HW.out W2 (HB2.out.mono dP)
 have n20:=hcs2 0 (by simp)
 simp only[List.getElem_cons_zero,List.getElem_cons_succ] at n20
 have n21:=hcs2 1 (by simp)
 simp only[List.getElem_cons_zero,List.getElem_cons_succ] at n21
 clear hcs2
 go_wp2_with fail
 refine zg 8 [] none [] ?_
 simp only[zt]
 repeat ((first|refine zd ?_|refine zk ?_);simp only[zp])
 intro W3 hE hF
 have HB3:=Lib.hid (aH HB2.out hE.below)
 have HS3:=Lib.hid (Ext.below hE)
 clear hE hF c2 f2 qI n20 n21
 obtain⟨c3,f3,l3⟩:=cells_of_block ((HB3.out.block _ lw).trans HO.out.blk)
 obtain⟨CO,hcs3⟩:=HW.out W3 (HB3.out.mono dP)
 have n30:=hcs3 0 (by simp)
 simp only[List.getElem_cons_zero,List.getElem_cons_succ] at n30
 have n31:=hcs3 1 (by simp)
 simp only[List.getElem_cons_zero,List.getElem_cons_succ] at n31
 clear hcs3
 go_wp2_with fail
 refine(cu 2 [y==0,decide (30<y)] W3 (by simp) _ (by simp[bI]) _ _ rfl).mono ?_
 rintro e W4 ⟨hb,⟨hc,rfl⟩|⟨hc,rfl⟩⟩
 rotate_left
 ·simp at hc
  have q0:=gJ.out
  have q1:=lN.out
  simp only[act,aU,aV,List.getD_cons_zero,List.getD_cons_succ]
  (repeat (first|rw[if_pos (by omega)]|rw[if_neg (by omega)]))
  exact⟨rfl,(aH HB3.out hb).mono dP,.inr ⟨by simp,rfl⟩⟩
 simp at hc
 have HB4:=Lib.hid (aH HB3.out hb)
 have Ny:=Lib.hid hb
 have qB:=Lib.hid hc
 clear hb hc c3 f3 CO n30 n31
 obtain⟨c4,f4,l4⟩:=cells_of_block ((HB4.out.block _ lw).trans HO.out.blk)
 obtain⟨Jn,ik⟩:=HW.out W4 (HB4.out.mono dP)
 have n40:=ik 0 (by simp)
 simp only[List.getElem_cons_zero,List.getElem_cons_succ] at n40
 have n41:=ik 1 (by simp)
 simp only[List.getElem_cons_zero,List.getElem_cons_succ] at n41
 clear ik
 go_wp2_with fail
 refine(lh _ _ _).mono ?_
 rintro e W5 ⟨hb,⟨hc,rfl⟩|⟨hc,rfl⟩⟩
 rotate_left
 ·simp at hc
  have q0:=gJ.out
  have q1:=lN.out
  have q2:=qB.out
  simp only[act,aU,aV,List.getD_cons_zero,List.getD_cons_succ]
  (repeat (first|rw[if_pos (by omega)]|rw[if_neg (by omega)]))
  exact⟨rfl,(aH HB4.out hb).mono dP,.inr ⟨by simp,rfl⟩⟩
 simp at hc
 have lD:=Lib.hid (aH HB4.out hb)
 have HS5:=Lib.hid hb
 have AV:=Lib.hid hc
 clear hb hc c4 f4 Jn n40 n41
 obtain⟨c5,f5,l5⟩:=cells_of_block ((lD.out.block _ lw).trans HO.out.blk)
 obtain⟨Yf,nT⟩:=HW.out W5 (lD.out.mono dP)
 have n50:=nT 0 (by simp)
 simp only[List.getElem_cons_zero,List.getElem_cons_succ] at n50
 have n51:=nT 1 (by simp)
 simp only[List.getElem_cons_zero,List.getElem_cons_succ] at n51
 clear nT
 go_wp2_with fail
 refine dD fun W6 kU=>?_
 obtain⟨b9,uk⟩: ∃b9,b9=W5.heap.size:=⟨_,rfl⟩
 have hHk:W6.heap[b9]? =some (.cells (intCells (List.replicate s.bG.heaps.length 0)).toArray 3 (0,0)):=by rw[kU,uk];exact ag _ _
 have lT:=Lib.hid (show Below w.heap.size w W6 from by rw[kU];exact af lD.out _)
 have U2:Ext [] W5 W6:=by rw[kU];exact Ext.of_below (af (Below.refl _ _) _)
 have H9:=Lib.hid (And.intro hHk (And.intro U2 uk))
 rw[<-uk]
 clear kU hHk U2 uk hmk c5 f5 Yf n50 n51
 obtain⟨c6,f6,l6⟩:=cells_of_block ((lT.out.block _ lw).trans HO.out.blk)
 obtain⟨Ye,nS⟩:=HW.out W6 (lT.out.mono dP)
 have n60:=nS 0 (by simp)
 simp only[List.getElem_cons_zero,List.getElem_cons_succ] at n60
 have n61:=nS 1 (by simp)
 simp only[List.getElem_cons_zero,List.getElem_cons_succ] at n61
 clear nS
 have RY:b9<W6.heap.size:=(Array.getElem?_eq_some_iff.1 H9.out.1).1
 refine zg 7 [] none [] ?_
 simp only[zt]
 repeat ((first|refine zd ?_|refine zk ?_);simp only[zp])
 intro W7 hE hF
 have yC:=Lib.hid (aH lT.out hE.below)
 have HS7:=Lib.hid (Ext.below hE)
 clear hE hF c6 f6 Ye n60 n61
 obtain⟨c7,f7,l7⟩:=cells_of_block ((yC.out.block _ lw).trans HO.out.blk)
 obtain⟨Yd,nR⟩:=HW.out W7 (yC.out.mono dP)
 have n70:=nR 0 (by simp)
 simp only[List.getElem_cons_zero,List.getElem_cons_succ] at n70
 have n71:=nR 1 (by simp)
 simp only[List.getElem_cons_zero,List.getElem_cons_succ] at n71
 clear nR
 have q0:=gJ.out
 have q1:=lN.out
 have hxl:x<s.bG.heaps.length:=by omega
 have hk9:=(HS7.out.block _ RY).trans H9.out.1
 obtain⟨k9,p9,r9⟩:=cells_of_block hk9
 have g0:W7.cell? ⟨b9,x,none⟩=some (iv 0):=(k9 x).trans (by simp[intCells,hxl])
 have H7:=Lib.hid hk9
 clear k9 hk9
 go_upto_region 6 with(fail)
 refine dD fun W8 kU=>?_
 have uk:W5.heap.size<=b9:=by have:=H9.out.2.2;omega
 have hH8:W8.heap[b9]? =some (.cells ((intCells (List.replicate s.bG.heaps.length 0)).toArray.setIfInBounds x (iv y)) 3 (0,0)):=by rw[kU];exact ak H7.out _
 have Y9:Below W5.heap.size W5 W8:=by rw[kU];exact(aH H9.out.2.1.below HS7.out).setCell uk _
 have lQ:=Lib.hid (aH lD.out Y9)
 have hown:W8.ownsRow N 3 1 (.slice (some ⟨b9,0,none⟩) s.bG.heaps.length s.bG.heaps.length) ((List.replicate s.bG.heaps.length (0:Int)).set x y).length (intCells ((List.replicate s.bG.heaps.length 0).set x y)):=by
  rw[List.length_set,List.length_replicate]
  have h9:=lD.out.size
  refine owns_block (cs:=(intCells ((List.replicate s.bG.heaps.length 0).set x y)).toArray) (n:=s.bG.heaps.length) ?_ (by simp[intCells]) (by omega) (by simp only[maxLen];omega)
  rw[hH8,List.setIfInBounds_toArray]
  simp only[intCells,List.map_set]
 have hR8:=(HO.out.below lD.out).rows.push (tN (.slice (some ⟨b9,0,none⟩) s.bG.heaps.length s.bG.heaps.length,(List.replicate s.bG.heaps.length 0).set x y)) (Ms:=[]) (Ext.of_below Y9) (by simp) hown (.inr ⟨b9,rfl,uk⟩)
 have HR8:=Lib.hid hR8
 obtain⟨c8,f8,l8⟩:=cells_of_block ((lQ.out.block _ lw).trans HO.out.blk)
 have HX:=Lib.hid hxl
 clear kU uk hH8 Y9 hown hR8 g0 hxl q0 q1 p9 r9 aeO O0 c7 f7 Yd n70 n71
 have hq4:=AV.out
 have h8s:=lQ.out.size
 go_wp2_with (at_builtin;go_loud (refine bQ rfl _ _ aar rfl N (.slice ok es.length ck) es.length (dw es) rfl (ah (Ms:=[]) (HR8.out.own 6 _ rfl) (Ext.of_below (af (Below.refl _ _) _)) (by simp)) (.slice (some ⟨W8.heap.size,0,none⟩) 1 1) 1 [.slice (some ⟨b9,0,none⟩) s.bG.heaps.length s.bG.heaps.length] rfl (aB.of_block 1 1 (ag _ _) rfl (by decide)) (by simp[Value.oneCell']) (by omega) (by omega) (by simp;omega) ?_))
 intro v' w3 hown hgr hN
 obtain⟨o3,c3,rfl⟩:=aA hown
 have hbl:=(hgr.block wb (by simp;omega) (fun e=>HR8.out.off 6 _ rfl e.symm)).trans ((heap_alloc_old W8 _ l8).trans ((lQ.out.block _ lw).trans HO.out.blk))
 obtain⟨k3,p3,r3⟩:=cells_of_block hbl
 have rE:Ext (Value.slice ok es.length ck).ownBlock.toList W8 w3:=⟨hgr.os,hgr.tape,hgr.output,by have:=hgr.size;simp at this;omega,fun k hk hm=>(hgr.block k (by simp;omega) (fun e=>hm (Option.mem_toList.2 e.symm))).trans (heap_alloc_old W8 _ hk)⟩
 have UQ:=Lib.hid (And.intro rE (And.intro hown (And.intro hbl hN)))
 clear rE hown hgr hbl hN c8 f8
 go_wp2_with fail
 go_end0
 have q0:=gJ.out
 have q1:=lN.out
 have q2:=qB.out
 have q3:=AV.out
 simp only[act,aU,aV,List.getD_cons_zero,List.getD_cons_succ]
 (repeat (first|rw[if_pos (by omega)]|rw[if_neg (by omega)]))
 simp only[Int.toNat_natCast]
 have hm1: ∀k,k∈(Value.slice ok es.length ck).ownBlock.toList->N<=k/\k<W8.heap.size:=fun k hk=>(HR8.out.own 6 _ rfl).lt k (Option.mem_toList.1 hk)
 have hR:=HR8.out.put (i:=6) rfl ⟨36,1,.slice o3 (es.length+1) c3,es.length+1,dw es++[.slice (some ⟨b9,0,none⟩) s.bG.heaps.length s.bG.heaps.length]⟩ UQ.out.1 (fun m hm=> .inr (.inr (Option.mem_toList.1 hm))) UQ.out.2.1 (UQ.out.2.2.2.imp id (fun e=> .inr ⟨_,e,by simp⟩))
 have hB3:Below N W8 w3:=⟨UQ.out.1.os,UQ.out.1.tape,UQ.out.1.output,UQ.out.1.size,fun k hk=>UQ.out.1.block k (by omega) (fun hm=>by have:=(hm1 k hm).1;omega)⟩
 refine⟨((lQ.out.mono dP).trans hB3).setCell pK _,.inl ⟨rfl,rfl,⟨vt,vn,vw,vu,vr,.slice oh s.bG.heaps.length ch,.slice o3 (es.length+1) c3,vs⟩,es++[(.slice (some ⟨b9,0,none⟩) s.bG.heaps.length s.bG.heaps.length,(List.replicate s.bG.heaps.length 0).set x y)],⟨ak UQ.out.2.2.1 _,?_,?_⟩⟩⟩
 ·have:=hR.keep (dO (W:=w3) (b:=wb) (off:=20) (v:= .slice o3 (es.length+1) c3)) (fun m hm=> .inl (by simpa using hm))
  simpa [eQ,dI,dw] using this
 ·simp[dI,HO.out.es]
theorem yV (s s':gV) (V:SV) (es:List KE) {x:Nat} {e:KE} (h:x<es.length) (hs:eQ s' V es=eQ s V es):
 eQ s' V (es.set x e)=((eQ s V es).set (8+x) (tN e)).set 6 ⟨36,1,V.Zj,es.length,(dw es).set x e.1⟩:=by
 rw[<-hs]
 unfold eQ
 rw[List.set_append_right _ _ (by simp),List.set_append_left _ _ (by simp)]
 simp[dw,List.map_set,List.length_set]
def more0 (s:gV) (h:bK) (i:Nat):gV:=dI s {s.bG with heaps:=s.bG.heaps++[h],aC:=(s.bG.aC.take i).map (· ++[0])++s.bG.aC.drop i}
theorem J9 (s:gV) (h:bK):more0 s h 0=dI s {s.bG with heaps:=s.bG.heaps++[h]}:=by simp[more0]
theorem Om (s:gV) (h:bK) (n:Nat) (hn:s.bG.aC.length<=n):more0 s h n=dI s {s.bG with heaps:=s.bG.heaps++[h],aC:=s.bG.aC.map (· ++[0])}:=by
 simp[more0,List.take_of_length_le hn,List.drop_of_length_le hn]
theorem Ol (s:gV) (h:bK) (i:Nat) (hi:i<s.bG.aC.length):(more0 s h i).bG.aC[i]? =some s.bG.aC[i]:=by
 simp only[more0,dI]
 rw[List.getElem?_append_right (by simp;omega)]
 simp[hi,Nat.min_eq_left (Nat.le_of_lt hi)]
theorem Ko (s:gV) (h:bK) (i:Nat) (hi:i<s.bG.aC.length):(more0 s h i).bG.aC.set i (s.bG.aC[i]++[0])=(more0 s h (i+1)).bG.aC:=by
 simp only[more0,dI]
 rw[List.set_append_right _ _ (by simp;omega)]
 simp only[List.length_map,List.length_take,Nat.min_eq_left (Nat.le_of_lt hi),Nat.sub_self]
 rw[List.drop_eq_getElem_cons hi,List.set_cons_zero,List.take_add_one,List.map_append]
 simp[hi]
theorem TG (N:Nat) (w:World) (wb:Nat) (s:gV) (V:SV) (es:List KE) (ns:Value) (x:Int) (y:Int) (hO:gU N w wb s V es) (hn:mF N w ns [x,y]) (hG:Good s) (hx:0<=x/\x<=9999):Calls Tryz.prog 76 #[.pointer (some ⟨wb,0,none⟩),ns] w (lM N wb (act s .heap [x,y]) w):=by
 obtain⟨vt,vn,vw,vu,vr,vh,vk,vs⟩:=V
 obtain⟨o,cc,rfl⟩: ∃o c,vh= .slice o s.bG.heaps.length c:=aA (n:=s.bG.heaps.length) (hO.rows.own 5 _ rfl)
 obtain⟨ok,ck,rfl⟩: ∃o c,vk= .slice o es.length c:=aA (n:=es.length) (hO.rows.own 6 _ rfl)
 have HO:=Lib.hid hO
 have dP:=dm hO
 obtain⟨b,c,rfl,hbN,hcs⟩:=hn
 have lb:b<w.heap.size:=by omega
 have lw:=hO.rows.lt
 have pK:=hO.rows.base
 have HW:Hid (∀W,Below N w W->b<W.heap.size/\ ∀(j:Nat) (h:j<[x,y].length),W.cell? ⟨b,j,none⟩=some (iv [x,y][j])):=Lib.hid (fun W hB=>⟨by have:=hB.size;omega,fun j h=>(World.cell?_of_block (hB.block b hbN)).trans (hcs j h)⟩)
 obtain⟨c0,f0,l0⟩:=cells_of_block hO.blk
 have jY:=hcs 0 (by simp)
 simp only[List.getElem_cons_zero,List.getElem_cons_succ] at jY
 have n01:=hcs 1 (by simp)
 simp only[List.getElem_cons_zero,List.getElem_cons_succ] at n01
 have HB0:Hid (Below w.heap.size w w):=Lib.hid (Below.refl _ _)
 have hes:es.length=s.bG.aC.length:=by rw[<-hO.es];simp
 have gJ:=Lib.hid hes
 clear hes
 have O0:=hG.LK
 have HG3:=Lib.hid (And.intro hG.aC hG.kN)
 clear hO hcs hG
 go_enter Tryz.func76,Tryz.ntmps76
 go_wp2_with fail
 refine RX.dM (fun ps W'=> ¬(x<=y/\y<=100/\y<=x+9)/\ps=refusal 2/\Below N w W') 8 [] none [(6,⟨fun _ v=>v=rv (x,y),fun _ _ _=>(x<=y/\y<=100/\y<=x+9)⟩),(7,Spec.block w.heap.size #[iv 0,iv 0] 103)] (by rintro ps a1 Wx hdf ⟨h1,rfl,h3⟩;refine⟨hdf,pR (c:=2) h3 ?_ (by decide)⟩;have q0:=gJ.out;simp only[act,aU,aV,List.getD_cons_zero,List.getD_cons_succ];(repeat (first|rw[if_pos (by omega)]|rw[if_neg (by omega)]))) (by as_aux_lemma=>kernel_rfl) (by as_aux_lemma=>kernel_rfl) ?_
 simp only[zt]
 repeat (refine RX.zd ?_;simp only[zp])
 refine RX.aP _ (by rfl) (by rfl) ⟨_,rfl⟩ (fun Wq hE2 hF2=>?_) (fun v Wa Wb ho hE=>ho) (fun v hv=>?_)
 ·have hE':Ext [] w Wq:=hE2
  refine RX.bU 129 #[iv x,iv y,iv 9] (by go_simp;try rfl) ?_
  refine(pO x y 9 Wq (by omega)).mono ?_
  rintro e w' ⟨hb,⟨hc,rfl⟩|⟨hc,rfl⟩⟩
  ·exact .inl ⟨_,rfl,rfl,hc,Ext.of_below hb⟩
  ·exact .inr ⟨_,rfl,hc,rfl,(aH HB0.out (aH hE'.below hb)).mono dP⟩
 obtain rfl:v=rv (x,y):=hv
 simp only[zp]
 repeat (refine RX.zd ?_;simp only[zp])
 refine RX.gW w.heap.size _ _ (by rfl) (Nat.le_refl _) (by rfl) (by simp) (by simp) (fun W hW=>by go_simp;try rfl) (fun b9=>?_)
 simp only[zp]
 intro Wb hE hF
 obtain⟨b9',uk,hge,hk9⟩:=hF _ (List.Mem.head _)
 cases uk
 have hc:x<=y/\y<=100/\y<=x+9:=hF _ (List.Mem.tail _ (List.Mem.head _))
 have Xa:=Lib.hid (aH HB0.out (show Ext [] w Wb from hE).below)
 have lN:=Lib.hid hc
 have oM:=Lib.hid (And.intro (Nat.le_trans HB0.out.size hge) hk9)
 obtain⟨c9,f9,l9⟩:=cells_of_block hk9
 clear hE hF hc hge hk9 c0 f0 jY n01
 go_upto_region 2 with(fail)
 refine dD fun W1 kU=>?_
 have HB1:=Lib.hid (show Below w.heap.size w W1 from by rw[kU];exact((Xa.out).setCell oM.out.1 _).setCell oM.out.1 _)
 have BH:=Lib.hid (show W1.heap[b9]? =some (.cells #[iv x,iv y] 103 (0,0)) from by rw[kU];exact ak (ak (oM.out.2) _) _)
 have RY:b9<W1.heap.size:=(Array.getElem?_eq_some_iff.1 BH.out).1
 clear kU c9 f9 l9
 obtain⟨c1,f1,l1⟩:=cells_of_block ((HB1.out.block _ lw).trans HO.out.blk)
 obtain⟨pX,hcs1⟩:=HW.out W1 (HB1.out.mono dP)
 have n10:=hcs1 0 (by simp)
 simp only[List.getElem_cons_zero,List.getElem_cons_succ] at n10
 have n11:=hcs1 1 (by simp)
 simp only[List.getElem_cons_zero,List.getElem_cons_succ] at n11
 clear hcs1
 go_wp2_with fail
 refine(lh _ _ _).mono ?_
 rintro e W2 ⟨hb,⟨hc,rfl⟩|⟨hc,rfl⟩⟩
 rotate_left
 ·simp at hc
  have q0:=gJ.out
  have q1:=lN.out
  simp only[act,aU,aV,List.getD_cons_zero,List.getD_cons_succ]
  (repeat (first|rw[if_pos (by omega)]|rw[if_neg (by omega)]))
  exact⟨rfl,(aH HB1.out hb).mono dP,.inr ⟨by simp,rfl⟩⟩
 simp at hc
 have HB2:=Lib.hid (aH HB1.out hb)
 have HS2:=Lib.hid hb
 have qB:=Lib.hid hc
 clear hb hc c1 f1 pX n10 n11
 obtain⟨c2,f2,l2⟩:=cells_of_block ((HB2.out.block _ lw).trans HO.out.blk)
 obtain⟨qI,hcs2⟩:=HW.out W2 (HB2.out.mono dP)
 have n20:=hcs2 0 (by simp)
 simp only[List.getElem_cons_zero,List.getElem_cons_succ] at n20
 have n21:=hcs2 1 (by simp)
 simp only[List.getElem_cons_zero,List.getElem_cons_succ] at n21
 clear hcs2
 go_wp2_with fail
 obtain⟨Ms,hMs⟩: ∃Ms,Ms=(Value.slice o s.bG.heaps.length cc).ownBlock.toList:=⟨_,rfl⟩
 have hO2:=HO.out.below HB2.out
 have hm1:wb∉Ms:=fun h=>hO2.rows.off 5 _ rfl (by rw[hMs] at h;exact Option.mem_toList.1 h)
 have hm2:b∉Ms:=fun h=>by have:=((hO2.rows.own 5 _ rfl).lt b (by rw[hMs] at h;exact Option.mem_toList.1 h)).1;omega
 have qy: ∀m∈Ms,m<W2.heap.size:=fun m h=>((hO2.rows.own 5 _ rfl).lt m (by rw[hMs] at h;exact Option.mem_toList.1 h)).2
 obtain⟨c9,f9,l9⟩:=cells_of_block ((HS2.out.block _ RY).trans BH.out)
 have hm9:b9∉Ms:=fun h=>by have:=((HO.out.rows.own 5 _ rfl).lt b9 (by rw[hMs] at h;exact Option.mem_toList.1 h)).2;have:=oM.out.1;omega
 have HM:=Lib.hid hMs
 have iM:=Lib.hid hO2
 clear hMs hO2
 refine zg 8 Ms (some 7) [(6,Spec.slice W2.heap.size #[iv x,iv y] 103 1),(7,⟨fun _ v=> ∃o2 c2,v= .slice o2 (s.bG.heaps.length+1) c2,fun _ v Wx=>Wx.ownsRow N 103 2 v (s.bG.heaps.length+1) (aj s.bG.heaps++[iv x,iv y])/\(v.ownBlock=(Value.slice o s.bG.heaps.length cc).ownBlock∨ ∃q,v.ownBlock=some q/\W2.heap.size<=q)⟩)] ?_
 simp only[zt]
 repeat ((first|refine zd ?_|refine zk ?_);simp only[zp])
 refine bZ W2.heap.size _ _ 1 (by rfl) (Nat.le_refl _) (by rfl) qy (by simp) (fun W hW=>by go_simp;try rfl) (fun b6=>?_)
 simp only[zp]
 repeat ((first|refine zd ?_|refine zk ?_);simp only[zp])
 refine aP _ (by rfl) (by rfl) (by exact⟨.slice none (s.bG.heaps.length+1) 0,none,0,rfl⟩) (fun W6 hE hF=>?_) (fun v Wa Wb ho hE=>?_) (fun v hv=>?_)
 ·have hE':Ext [] W2 W6:=hE
  obtain⟨b',hb',hge,hcc⟩:=hF _ (List.Mem.head _) (by kernel_rfl)
  cases hb'
  have hown6:W6.ownsRow N 103 2 (.slice o s.bG.heaps.length cc) s.bG.heaps.length (aj s.bG.heaps):=ah (Ms:=[]) (iM.out.rows.own 5 _ rfl) hE' (by simp)
  have hsrc:aB 2 W6 (.slice (some ⟨b6,0,none⟩) 1 1) 1 ([iv x,iv y]):=aB.of_block 2 1 hcc rfl (by decide)
  refine Does.mono (bP aap (by rfl) (by rfl) hown6 (by rfl) hsrc (Ry x y) (by omega) (by omega) (by have:=hE'.size;have:=HB2.out.size;omega)) ?_
  rintro v' W7 ⟨ho,hgr,hcase⟩
  refine⟨aA ho,⟨ho,?_⟩,⟨hgr.os,hgr.tape,hgr.output,hgr.size,fun b hb hn=>hgr.block b hb (fun e=>hn (by rw[HM.out];exact Option.mem_toList.2 e.symm))⟩⟩
  rcases hcase with h1|h1
  ·exact .inl h1
  ·exact .inr ⟨_,h1,hE'.size⟩
 ·exact⟨ah (Ms:=[]) ho.1 hE (by simp),ho.2⟩
 obtain⟨o7,c7,rfl⟩:=hv
 simp only[zp]
 intro W3 hE hF
 obtain⟨lH,uH⟩:=hF _ (List.Mem.head _)
 have dZ:Ext Ms W2 W3:=hE
 have hbl:=(dZ.block wb iM.out.rows.lt hm1).trans iM.out.blk
 obtain⟨c3,f3,l3⟩:=cells_of_block hbl
 have fV:=Lib.hid (And.intro dZ (And.intro lH (And.intro uH hbl)))
 have uX:Below N w W3:=(HB2.out.mono dP).trans ⟨dZ.os,dZ.tape,dZ.output,dZ.size,fun k hk=>dZ.block k (by have:=HB2.out.size;omega) (fun h=>by have:=((iM.out.rows.own 5 _ rfl).lt k (by rw[HM.out] at h;exact Option.mem_toList.1 h)).1;omega)⟩
 have lQ:=Lib.hid uX
 clear hE hF dZ lH uH hbl uX hm1 hm2 qy c2 f2 qI n20 n21
 go_upto_region 4 with(fail)
 refine dD fun W4 kU=>?_
 have XA:gU N W4 wb (more0 s (x,y) 0) ⟨vt,vn,vw,vu,vr,.slice o7 (s.bG.heaps.length+1) c7,.slice ok es.length ck,vs⟩ es:=by
  rw[kU,J9]
  exact iM.out.put (i:=5) rfl ⟨103,2,.slice o7 (s.bG.heaps.length+1) c7,s.bG.heaps.length+1,aj s.bG.heaps++[iv x,iv y]⟩ fV.out.1 (fun m hm=>by rw[HM.out] at hm;exact Option.mem_toList.1 hm) fV.out.2.1 fV.out.2.2.1 (ak fV.out.2.2.2 _) (by simp[eQ,dI,aj]) iM.out.es
 have HB4:=Lib.hid (show Below N w W4 from by rw[kU];exact lQ.out.setCell pK _)
 obtain⟨c4,f4,l4⟩:=cells_of_block XA.blk
 have Fv:=Lib.hid XA
 clear kU XA c3 f3 c9 f9
 go_wp2_with fail
 clear c4 f4
 have hle:es.length<=3:=by have:=gJ.out;have:=HG3.out.1;omega
 go_loopw [6,39] (fun _ u wr=> ∃i:Nat,i<=es.length/\u= .int .i64 i/\Below N w wr/\ ∃es':List KE,es'.length=es.length/\gU N wr wb (more0 s (x,y) i) ⟨vt,vn,vw,vu,vr,.slice o7 (s.bG.heaps.length+1) c7,.slice ok es.length ck,vs⟩ es') (fun _ u _=>es.length-(intOf u).toNat)
 case atStart=>exact⟨0,Nat.zero_le _,rfl,HB4.out,es,rfl,Fv.out⟩
 case round=>
  obtain⟨i,hi,rfl,hB,es',Bi,hOr⟩:=hrel
  by_cases hlt:i<es.length
  ·obtain⟨c5,f5,l5⟩:=cells_of_block hOr.blk
   have hic:i<s.bG.aC.length:=by have:=gJ.out;omega
   obtain⟨ev,el,xn⟩: ∃ev el,es'[i]? =some (ev,el):=⟨_,_,List.getElem?_eq_getElem (by omega)⟩
   have O0:el=s.bG.aC[i]:=by
    have h1:=Ol s (x,y) i hic
    rw[<-hOr.es] at h1
    simpa [xn] using h1
   have hrow:=sK (more0 s (x,y) i) ⟨vt,vn,vw,vu,vr,.slice o7 (s.bG.heaps.length+1) c7,.slice ok es.length ck,vs⟩ es' xn
   obtain⟨oe,ce,rfl⟩: ∃o c,ev= .slice o el.length c:=aA (n:=el.length) (hOr.rows.own _ _ hrow)
   have aeM:el.length<=3:=by rw[O0,(HG3.out.2 _ (List.getElem_mem _)).1];omega
   have h6:wr.ownsRow N 36 1 (.slice ok es.length ck) es.length (dw es'):=by have h:=hOr.rows.own 6 _ rfl;rw[<-Bi];rw[<-Bi] at h;exact h
   obtain⟨gk,rfl,hgk,hfk,hkl⟩:=dU h6 (by omega)
   have hgx:(dw es')[i]? =some (.slice oe el.length ce):=by simp[dw,xn]
   obtain⟨hg',eg'⟩:=List.getElem?_eq_some_iff.1 hgx
   have g6:=(hgk i hg').trans (by rw[eg'])
   obtain⟨Ms,hMs⟩: ∃Ms,Ms=(Value.slice oe el.length ce).ownBlock.toList:=⟨_,rfl⟩
   have hm1:wb∉Ms:=fun h=>hOr.rows.off _ _ hrow (by rw[hMs] at h;exact Option.mem_toList.1 h)
   have hm2:gk∉Ms:=fun h=>by
    have h0:(Value.slice oe el.length ce).ownBlock=some gk:=(by rw[hMs] at h;exact Option.mem_toList.1 h)
    rcases hOr.rows.apart 6 (8+i) _ _ rfl hrow (by omega) with h1|h1
    ·cases h1
    ·exact h1 h0.symm
   have qy: ∀m∈Ms,m<wr.heap.size:=fun m h=>((hOr.rows.own _ _ hrow).lt m (by rw[hMs] at h;exact Option.mem_toList.1 h)).2
   have HM:=Lib.hid hMs
   have BF:=Lib.hid (And.intro hOr (And.intro hB (And.intro xn (And.intro O0 (And.intro Bi (And.intro hrow (And.intro h6 hic)))))))
   clear hMs hOr hB xn O0 Bi hrow h6 hgx hg' eg' hgk
   go_wp2_with fail
   refine zg 14 Ms (some 13) [(12,Spec.slice wr.heap.size #[iv 0] 3 1),(13,⟨fun _ v=> ∃o2 c2,v= .slice o2 (el.length+1) c2,fun _ v Wx=>Wx.ownsRow N 3 1 v (el.length+1) (intCells el++[iv 0])/\(v.ownBlock=(Value.slice oe el.length ce).ownBlock∨ ∃q,v.ownBlock=some q/\wr.heap.size<=q)⟩)] ?_
   simp only[zt]
   repeat ((first|refine zd ?_|refine zk ?_);simp only[zp])
   refine bZ wr.heap.size _ _ 1 (by rfl) (Nat.le_refl _) (by rfl) qy (by simp) (fun W hW=>by go_simp;try rfl) (fun b6=>?_)
   simp only[zp]
   refine aP _ (by rfl) (by rfl) (by exact⟨.slice none (el.length+1) 0,none,0,rfl⟩) (fun W6 hE hF=>?_) (fun v Wa Wb ho hE=>?_) (fun v hv=>?_)
   ·have hE':Ext [] wr W6:=hE
    obtain⟨b',hb',hge,hcc⟩:=hF _ (List.Mem.head _) (by kernel_rfl)
    cases hb'
    have hown6:W6.ownsRow N 3 1 (.slice oe el.length ce) el.length (intCells el):=ah (Ms:=[]) (BF.out.1.rows.own _ _ BF.out.2.2.2.2.2.1) hE' (by simp)
    have hsrc:aB 1 W6 (.slice (some ⟨b6,0,none⟩) 1 1) 1 ([iv 0]):=aB.of_block 1 1 hcc rfl (by decide)
    refine Does.mono (bP qo (by rfl) (by rfl) hown6 (by rfl) hsrc (one_one 0) (by omega) (by omega) (by have:=hE'.size;have:=BF.out.2.1.size;omega)) ?_
    rintro v' W7 ⟨ho,hgr,hcase⟩
    refine⟨aA ho,⟨ho,?_⟩,⟨hgr.os,hgr.tape,hgr.output,hgr.size,fun b hb hn=>hgr.block b hb (fun e=>hn (by rw[HM.out];exact Option.mem_toList.2 e.symm))⟩⟩
    rcases hcase with h1|h1
    ·exact .inl h1
    ·exact .inr ⟨_,h1,hE'.size⟩
   ·exact⟨ah (Ms:=[]) ho.1 hE (by simp),ho.2⟩
   obtain⟨o8,c8,rfl⟩:=hv
   simp only[zp]
   intro W8 hE hF
   obtain⟨lH,uH⟩:=hF _ (List.Mem.head _)
   have dZ:Ext Ms wr W8:=hE
   have hR1:=BF.out.1.rows.put BF.out.2.2.2.2.2.1 (tN (.slice o8 (el.length+1) c8,el++[0])) dZ (fun m hm=> .inr (.inr (by rw[HM.out] at hm;exact Option.mem_toList.1 hm))) (by simpa [tN,intCells] using lH) (uH.imp id .inr)
   have hbl:=(dZ.block wb l5 hm1).trans BF.out.1.blk
   obtain⟨c9,f9,l9⟩:=cells_of_block hbl
   have g7:=(dZ.cell gk i hkl hm2).trans g6
   have h68:W8.ownsRow N 36 1 (.slice (some ⟨gk,0,none⟩) es.length ck) es.length (dw es'):=cZ BF.out.2.2.2.2.2.2.1 dZ (fun b hb hm=>by cases hb;exact hm2 hm)
   obtain⟨gk',YR, -,aiM,hkl'⟩:=dU h68 (by omega)
   cases YR
   have ab7:Below N w W8:=BF.out.2.1.trans ⟨dZ.os,dZ.tape,dZ.output,dZ.size,fun k hk=>dZ.block k (by have:=BF.out.2.1.size;omega) (fun h=>by have:=((BF.out.1.rows.own _ _ BF.out.2.2.2.2.2.1).lt k (by rw[HM.out] at h;exact Option.mem_toList.1 h)).1;omega)⟩
   have HE:=Lib.hid (And.intro dZ (And.intro hR1 (And.intro hbl (And.intro h68 ab7))))
   clear hE hF dZ lH uH hR1 hbl h68 ab7 c5 f5 g6 hm1 hm2 qy hfk hkl
   go_wp2_with fail
   go_roundw
   case rel=>
    refine⟨i+1,by omega,by go_num,HE.out.2.2.2.2.setCell (HE.out.2.2.2.1.lt gk rfl).1 _,es'.set i (.slice o8 (el.length+1) c8,el++[0]),by simp[BF.out.2.2.2.2.1],?_,?_,?_⟩
    ·exact((dO (W:=W8) (b:=gk) (off:=i) (v:= .slice o8 (el.length+1) c8)).block wb HE.out.2.1.lt (fun hm=>HE.out.2.1.off 6 ⟨36,1,.slice (some ⟨gk,0,none⟩) es.length ck,es'.length,dw es'⟩ (by rw[List.getElem?_set_ne (by omega)];rfl) (by rw[List.mem_singleton.1 hm];rfl))).trans HE.out.2.2.1
    ·rw[yV (more0 s (x,y) i) (more0 s (x,y) (i+1)) _ es' (by rw[BF.out.2.2.2.2.1];exact hlt) rfl]
     have hS:=jf HE.out.2.2.2.1 i (.slice o8 (el.length+1) c8)
     refine HE.out.2.1.put (i:=6) (r:=⟨36,1,.slice (some ⟨gk,0,none⟩) es.length ck,es'.length,dw es'⟩) (by rw[List.getElem?_set_ne (by omega)];rfl) _ dO (fun m hm=> .inr (.inr (by rw[List.mem_singleton.1 hm];rfl))) ?_ (.inl rfl)
     rw[BF.out.2.2.2.2.1]
     exact hS
    ·rw[List.map_set,BF.out.1.es, <-Ko s (x,y) i BF.out.2.2.2.2.2.2.2]
     exact congrArg (fun q=>(more0 s (x,y) i).bG.aC.set i (q++[0])) BF.out.2.2.2.1
   case measure=>simp[intOf];omega
  ·obtain rfl:i=es.length:=by omega
   have BF:=Lib.hid (And.intro hOr hB)
   clear hOr hB hle
   go_wp2_with fail
   go_end0
   have q0:=gJ.out
   have q1:=lN.out
   have q2:=qB.out
   simp only[act,aU,aV,List.getD_cons_zero,List.getD_cons_succ]
   (repeat (first|rw[if_pos (by omega)]|rw[if_neg (by omega)]))
   rw[Om s (x,y) _ (by omega)] at BF
   exact⟨BF.out.2,.inl ⟨rfl,rfl,_,es',BF.out.1⟩⟩
def UG (N:Nat) (t:TypeId) (size g n c:Nat) (xs:List Value) (w:World) (e:Ending) (w':World):Prop:=
 e= .returned (.slice (some ⟨g,0,none⟩) n c)/\w'.ownsRow N t size (.slice (some ⟨g,0,none⟩) n c) n xs/\Ext [g] w w'
theorem dX {W:World} {g:Nat} {cs:Array Value}:Ext [g] W (W.setRow g cs):=
 ⟨rfl,rfl,rfl,by simp,fun k _ hm=>setRow_other _ _ _ _ (by simpa using hm)⟩
theorem nM {P:Program} {t e:TypeId} {z:Value} {size bytes:Nat} (hT:fD P t e z size bytes) {W:World} {N g c n i m:Nat} {xs:List Value} (ho:W.ownsRow N e size (.slice (some ⟨g,0,none⟩) n c) n xs) (h1: ∀u∈xs,u.oneCell'=true)
 (hi:i<n) (hm:m=n-1) (A:Addr) (hA:(if c=i+1 then some (⟨g,0,none⟩:Addr) else some ⟨g,(i+1)*size,none⟩)=some A):
 ∃W1,(∀ty,(Builtin.append_ #[t,t] ty #[.slice (some ⟨g,0,none⟩) i c,.slice (some A) (n-(i+1)) (c-(i+1))]).run P W= .ok (.slice (some ⟨g,0,none⟩) m c) W1)/\
  W1.ownsRow N e size (.slice (some ⟨g,0,none⟩) n c) n (xs.take (i*size)++xs.drop (i*size+size)++xs.drop (n*size-size))/\Ext [g] W W1:=by
 obtain⟨it,hit,hz,hs,hby⟩:=info_parts hT.info
 obtain⟨hl,⟨h2,_⟩|⟨g',c',cur,h2,hb,hg,hnc,hcm,hcs,htk⟩⟩:=ho
 ·cases h2
 cases h2
 have hpos:=hT.pos
 have hnn:n=i+1+(n-(i+1)):=by omega
 have hmul:n*size=i*size+size+(n-(i+1))*size:=by
  conv=>lhs;rw[hnn]
  rw[Nat.add_mul,Nat.add_mul,Nat.one_mul]
 have hcz:n*size<=cur.size:=by rw[hcs];exact Nat.mul_le_mul_right _ hnc
 have hlen:(xs.drop (i*size+size)).length=(n-(i+1))*size:=by rw[List.length_drop,hl];omega
 have hnews: ∀j u,(xs.drop (i*size+size))[j]? =some u->W.cell? (A.add j)=some u:=by
  intro j u hu
  have hj:=(List.getElem?_eq_some_iff.1 hu).1
  rw[hlen] at hj
  have hne:c≠i+1:=by
   intro e
   have:n-(i+1)=0:=by omega
   rw[this] at hj
   omega
  rw[if_neg hne] at hA
  obtain rfl:=Option.some.inj hA
  rw[Addr.add_lit,cell_of_row W g _ cur e (0,0) hg]
  rw[List.getElem?_drop, <-htk,List.getElem?_take] at hu
  split at hu
  ·rw[show(i+1)*size+j=i*size+size+j from by rw[Nat.add_mul,Nat.one_mul]]
   simpa using hu
  ·cases hu
 have hroom:i+(n-(i+1))<=c:=by omega
 have hfit:i*it.size+(xs.drop (i*size+size)).length<=cur.size:=by rw[hs,hlen];omega
 refine⟨W.setRow g (cur.toList.take (i*size)++xs.drop (i*size+size)++cur.toList.drop (i*size+(xs.drop (i*size+size)).length)).toArray,fun ty=>?_,?_,dX⟩
 ·have:=run_append_room (P:=P) W t ty e it hT.und hit g i c cur hg A (n-(i+1)) (c-(i+1)) (xs.drop (i*size+size)) (by rw[hlen,hs]) hnews (fun u hu=>h1 u (List.mem_of_mem_drop hu)) hroom hfit
  rw[this,hs,show i+(n-(i+1))=m from by omega]
 ·have hti:cur.toList.take (i*size)=xs.take (i*size):=by
   rw[<-htk,List.take_take]
   congr 1
   omega
  have hL:(xs.take (i*size)++xs.drop (i*size+size)++xs.drop (n*size-size)).length=n*size:=by
   simp only[List.length_append,List.length_take,List.length_drop,hl]
   omega
  refine⟨hL,.inr ⟨g,c,_,rfl,hb,setRow_heap W g cur _ e _ hg,hnc,hcm,?_,?_⟩⟩
  ·simp only[List.size_toArray,List.length_append,List.length_take,List.length_drop,Array.length_toList,hl]
   omega
  ·rw[hti,hlen,List.take_append,List.take_of_length_le (by simp only[List.length_append,List.length_take,List.length_drop,hl];omega)]
   congr 1
   simp only[List.length_append,List.length_take,List.length_drop,hl]
   rw[show n*size-(min (i*size) (n*size)+(n*size-(i*size+size)))=size from by omega, <-htk,List.drop_take]
   rw[show i*size+(n-(i+1))*size=n*size-size from by omega,show n*size-(n*size-size)=size from by omega]
theorem gz {P:Program} {w w':World} {ops:Array Oper} {rest:List Oper} {o:Oper} {a:Act} {Q:Exit->Act->World->Prop} (hg:o.guard=none) (s x:Operand) {t:TypeId}
 (hop:o.op=Op.call {callee:=Callee.builtin Builtin.append,args:= #[s,x],argTypes:= #[t,t]}) (v src v':Value) (hs:a.eval s=v) (hx:a.eval x=src) (hrun: ∀ty,(Builtin.append_ #[t,t] ty #[v,src]).run P w= .ok v' w')
 (hK:wpList P ops Q rest (a.put o.dst v') w'):wpList P ops Q (o::rest) a w:=by
 refine wpList_plain hg fun K hK'=>?_
 refine tu (R:=fun v1 w1=>v1=v'/\w1=w') (iK v' ?_ ⟨rfl,rfl⟩) fun v1 w1 ⟨h1,h2⟩=>by rw[h1,h2];exact hK' _ _ hK
 simp[execOp,hop,resolve,invoke,builtin,hs,hx,hrun,Result.andThen]
theorem jK {P:Program} {t e:TypeId} {z:Value} {size bytes:Nat} (hT:fD P t e z size bytes) (hv: ∀w,(zeroValue e).run P w= .ok z w) (hz1:(Builtin.zeroCells z.cells 1).toList.all (·.oneCell')=true) {W:World} {N g c n m:Nat} {xs:List Value} (ho:W.ownsRow N e size (.slice (some ⟨g,0,none⟩) n c) n xs) (hm:m+1=n):
 ∃W1,(∀ty,(Builtin.clear_ #[t] ty #[.slice (some ⟨g,m*size,none⟩) (n-m) (c-m)]).run P W= .ok (.tuple #[]) W1)/\W1.ownsRow N e size (.slice (some ⟨g,0,none⟩) m c) m (xs.take (m*size))/\Ext [g] W W1:=by
 obtain⟨it,hit,hz,hs,hby⟩:=info_parts hT.info
 obtain⟨hl,⟨h2,_⟩|⟨g',c',cur,h2,hb,hg,hnc,hcm,hcs,htk⟩⟩:=ho
 ·cases h2
 cases h2
 subst hm
 have hzl:(Builtin.zeroCells z.cells 1).toList.length=size:=by simp[Builtin.zeroCells,hT.cells]
 have hz2: ∀u∈(Builtin.zeroCells z.cells 1).toList,u.oneCell'=true:=fun u hu=>List.all_eq_true.1 hz1 u hu
 have hcz:m*size+size<=cur.size:=by
  rw[hcs]
  have:=Nat.mul_le_mul_right size hnc
  rw[Nat.add_mul,Nat.one_mul] at this
  exact this
 have hst:=run_storeCells_at P g (m*size) e (Builtin.zeroCells z.cells 1).toList 0 cur W hg (by rw[hzl];omega) hz2
 simp only[Nat.add_zero] at hst
 obtain⟨nw,hnw⟩: ∃nw,nw=(cur.toList.take (m*size)++(Builtin.zeroCells z.cells 1).toList++cur.toList.drop (m*size+(Builtin.zeroCells z.cells 1).toList.length)).toArray:=⟨_,rfl⟩
 rw[<-hnw] at hst
 refine⟨W.setRow g nw,fun ty=>?_,⟨?_,.inr ⟨g,c,nw,rfl,hb,setRow_heap W g cur _ e _ hg,by omega,hcm,?_,?_⟩⟩,dX⟩
 ·rw[show m+1-m=0+1 from by omega]
  simp[Builtin.clear_,run_underlying hT.und,hv,hst]
 ·rw[List.length_take,hl,Nat.add_mul];omega
 ·rw[hnw];simp only[List.size_toArray,List.length_append,List.length_take,List.length_drop,Array.length_toList,hzl]
  omega
 ·rw[hnw]
  rw[List.append_assoc,List.take_append_of_le_length (by simp;omega),List.take_take,Nat.min_self, <-htk,List.take_take]
  congr 1
  rw[Nat.add_mul];omega
theorem Le (N:Nat) (g n c i:Nat) (xs:List Value) (w:World) (ho:w.ownsRow N 122 5 (.slice (some ⟨g,0,none⟩) n c) n xs) (h1: ∀u∈xs,u.oneCell'=true) (hi:i<n) (hn:n<=100):
 Calls Tryz.prog 120 #[.slice (some ⟨g,0,none⟩) n c,iv i,iv (i+1)] w (UG N 122 5 g (n-1) c (xs.take (i*5)++xs.drop (i*5+5)) w):=by
 have hnc:n<=c/\c<=maxLen:=by
  obtain⟨h1,⟨h2,rfl⟩|⟨g',cc,cs,h2,h3,h4,h5,h6,h7,h8⟩⟩:=ho
  ·cases h2
  ·cases h2;exact⟨h5,h6⟩
 obtain⟨hnc,hcm⟩:=hnc
 simp only[maxLen] at hcm
 have hc0:c≠0:=by omega
 have hi1:(i:Int)<=(c:Int):=by omega
 have hi2:(0:Int)<=(i:Int):=by omega
 have hi3:(i:Int)+1<=(n:Int):=by omega
 have hi4:(0:Int)<=(i:Int)+1:=by omega
 have hi5:i<=c:=by omega
 have hi6:i+1<=n:=by omega
 have ZX:((i:Int)+1).toNat=i+1:=by omega
 obtain⟨m,hm⟩: ∃m,m=n-1:=⟨_,rfl⟩
 have hm1:(m:Int)<=(n:Int):=by omega
 have hm2:c≠m:=by omega
 have qy:(n:Int)<=(c:Int):=by omega
 have hm4:m<=n:=by omega
 obtain⟨A,hA⟩: ∃A:Addr,(if c=i+1 then some (⟨g,0,none⟩:Addr) else some ⟨g,(i+1)*5,none⟩)=some A:=by split <;>exact⟨_,rfl⟩
 have HO:=Lib.hid (And.intro ho (And.intro hm hA))
 clear ho hm
 go_enter Tryz.func120,Tryz.ntmps120
 go_wp2_with fail
 refine zg 6 [] none [] ?_
 simp only[zt]
 repeat ((first|refine zd ?_|refine zk ?_);simp only[zp])
 intro W hE hF
 have HE:=Lib.hid (show Ext [] w W from hE)
 clear hE hF
 obtain⟨W1,happ,ho1,hE1⟩:=nM QT (ah (Ms:=[]) HO.out.1 HE.out (by simp)) h1 hi HO.out.2.1 A HO.out.2.2
 obtain⟨W2,hcl,ho2,hE2⟩:=jK QT (fun w=>Tryz.zeroValue122 w) (by kernel_rfl) ho1 (m:=m) (by have:=HO.out.2.1;omega)
 have H2:=Lib.hid (And.intro ho2 (And.intro hE1 hE2))
 clear ho1 ho2 hE1 hE2 hA
 go_wp2_with (at_builtin;refine gz rfl _ _ rfl _ _ _ rfl rfl happ ?_)
 go_returns
 refine⟨by simp;exact HO.out.2.1,?_,((Ext.nil HE.out).trans H2.out.2.1).trans H2.out.2.2⟩
 have h9:=H2.out.1
 rw[<-HO.out.2.1]
 have hl:=HO.out.1.1
 have hx:(xs.take (i*5)++xs.drop (i*5+5)++xs.drop (n*5-5)).take (m*5)=xs.take (i*5)++xs.drop (i*5+5):=by
  have:=HO.out.2.1
  rw[List.take_append_of_le_length (by simp only[List.length_append,List.length_take,List.length_drop,hl];omega),List.take_of_length_le (by simp only[List.length_append,List.length_take,List.length_drop,hl];omega)]
 rw[<-hx]
 exact h9
theorem Ir (N:Nat) (g n c i:Nat) (xs:List Value) (w:World) (ho:w.ownsRow N 151 3 (.slice (some ⟨g,0,none⟩) n c) n xs) (h1: ∀u∈xs,u.oneCell'=true) (hi:i<n) (hn:n<=100):
 Calls Tryz.prog 122 #[.slice (some ⟨g,0,none⟩) n c,iv i,iv (i+1)] w (UG N 151 3 g (n-1) c (xs.take (i*3)++xs.drop (i*3+3)) w):=by
 have hnc:n<=c/\c<=maxLen:=by
  obtain⟨h1,⟨h2,rfl⟩|⟨g',cc,cs,h2,h3,h4,h5,h6,h7,h8⟩⟩:=ho
  ·cases h2
  ·cases h2;exact⟨h5,h6⟩
 obtain⟨hnc,hcm⟩:=hnc
 simp only[maxLen] at hcm
 have hc0:c≠0:=by omega
 have hi1:(i:Int)<=(c:Int):=by omega
 have hi2:(0:Int)<=(i:Int):=by omega
 have hi3:(i:Int)+1<=(n:Int):=by omega
 have hi4:(0:Int)<=(i:Int)+1:=by omega
 have hi5:i<=c:=by omega
 have hi6:i+1<=n:=by omega
 have ZX:((i:Int)+1).toNat=i+1:=by omega
 obtain⟨m,hm⟩: ∃m,m=n-1:=⟨_,rfl⟩
 have hm1:(m:Int)<=(n:Int):=by omega
 have hm2:c≠m:=by omega
 have qy:(n:Int)<=(c:Int):=by omega
 have hm4:m<=n:=by omega
 obtain⟨A,hA⟩: ∃A:Addr,(if c=i+1 then some (⟨g,0,none⟩:Addr) else some ⟨g,(i+1)*3,none⟩)=some A:=by split <;>exact⟨_,rfl⟩
 have HO:=Lib.hid (And.intro ho (And.intro hm hA))
 clear ho hm
 go_enter Tryz.func122,Tryz.ntmps122
 go_wp2_with fail
 refine zg 6 [] none [] ?_
 simp only[zt]
 repeat ((first|refine zd ?_|refine zk ?_);simp only[zp])
 intro W hE hF
 have HE:=Lib.hid (show Ext [] w W from hE)
 clear hE hF
 obtain⟨W1,happ,ho1,hE1⟩:=nM Vm (ah (Ms:=[]) HO.out.1 HE.out (by simp)) h1 hi HO.out.2.1 A HO.out.2.2
 obtain⟨W2,hcl,ho2,hE2⟩:=jK Vm (fun w=>Tryz.zeroValue151 w) (by kernel_rfl) ho1 (m:=m) (by have:=HO.out.2.1;omega)
 have H2:=Lib.hid (And.intro ho2 (And.intro hE1 hE2))
 clear ho1 ho2 hE1 hE2 hA
 go_wp2_with (at_builtin;refine gz rfl _ _ rfl _ _ _ rfl rfl happ ?_)
 go_returns
 refine⟨by simp;exact HO.out.2.1,?_,((Ext.nil HE.out).trans H2.out.2.1).trans H2.out.2.2⟩
 have h9:=H2.out.1
 rw[<-HO.out.2.1]
 have hl:=HO.out.1.1
 have hx:(xs.take (i*3)++xs.drop (i*3+3)++xs.drop (n*3-3)).take (m*3)=xs.take (i*3)++xs.drop (i*3+3):=by
  have:=HO.out.2.1
  rw[List.take_append_of_le_length (by simp only[List.length_append,List.length_take,List.length_drop,hl];omega),List.take_of_length_le (by simp only[List.length_append,List.length_take,List.length_drop,hl];omega)]
 rw[<-hx]
 exact h9
theorem Iq (N:Nat) (g n c i:Nat) (xs:List Value) (w:World) (ho:w.ownsRow N 156 3 (.slice (some ⟨g,0,none⟩) n c) n xs) (h1: ∀u∈xs,u.oneCell'=true) (hi:i<n) (hn:n<=100):
 Calls Tryz.prog 128 #[.slice (some ⟨g,0,none⟩) n c,iv i,iv (i+1)] w (UG N 156 3 g (n-1) c (xs.take (i*3)++xs.drop (i*3+3)) w):=by
 have hnc:n<=c/\c<=maxLen:=by
  obtain⟨h1,⟨h2,rfl⟩|⟨g',cc,cs,h2,h3,h4,h5,h6,h7,h8⟩⟩:=ho
  ·cases h2
  ·cases h2;exact⟨h5,h6⟩
 obtain⟨hnc,hcm⟩:=hnc
 simp only[maxLen] at hcm
 have hc0:c≠0:=by omega
 have hi1:(i:Int)<=(c:Int):=by omega
 have hi2:(0:Int)<=(i:Int):=by omega
 have hi3:(i:Int)+1<=(n:Int):=by omega
 have hi4:(0:Int)<=(i:Int)+1:=by omega
 have hi5:i<=c:=by omega
 have hi6:i+1<=n:=by omega
 have ZX:((i:Int)+1).toNat=i+1:=by omega
 obtain⟨m,hm⟩: ∃m,m=n-1:=⟨_,rfl⟩
 have hm1:(m:Int)<=(n:Int):=by omega
 have hm2:c≠m:=by omega
 have qy:(n:Int)<=(c:Int):=by omega
 have hm4:m<=n:=by omega
 obtain⟨A,hA⟩: ∃A:Addr,(if c=i+1 then some (⟨g,0,none⟩:Addr) else some ⟨g,(i+1)*3,none⟩)=some A:=by split <;>exact⟨_,rfl⟩
 have HO:=Lib.hid (And.intro ho (And.intro hm hA))
 clear ho hm
 go_enter Tryz.func128,Tryz.ntmps128
 go_wp2_with fail
 refine zg 6 [] none [] ?_
 simp only[zt]
 repeat ((first|refine zd ?_|refine zk ?_);simp only[zp])
 intro W hE hF
 have HE:=Lib.hid (show Ext [] w W from hE)
 clear hE hF
 obtain⟨W1,happ,ho1,hE1⟩:=nM Vl (ah (Ms:=[]) HO.out.1 HE.out (by simp)) h1 hi HO.out.2.1 A HO.out.2.2
 obtain⟨W2,hcl,ho2,hE2⟩:=jK Vl (fun w=>Tryz.zeroValue156 w) (by kernel_rfl) ho1 (m:=m) (by have:=HO.out.2.1;omega)
 have H2:=Lib.hid (And.intro ho2 (And.intro hE1 hE2))
 clear ho1 ho2 hE1 hE2 hA
 go_wp2_with (at_builtin;refine gz rfl _ _ rfl _ _ _ rfl rfl happ ?_)
 go_returns
 refine⟨by simp;exact HO.out.2.1,?_,((Ext.nil HE.out).trans H2.out.2.1).trans H2.out.2.2⟩
 have h9:=H2.out.1
 rw[<-HO.out.2.1]
 have hl:=HO.out.1.1
 have hx:(xs.take (i*3)++xs.drop (i*3+3)++xs.drop (n*3-3)).take (m*3)=xs.take (i*3)++xs.drop (i*3+3):=by
  have:=HO.out.2.1
  rw[List.take_append_of_le_length (by simp only[List.length_append,List.length_take,List.length_drop,hl];omega),List.take_of_length_le (by simp only[List.length_append,List.length_take,List.length_drop,hl];omega)]
 rw[<-hx]
 exact h9
theorem EN (N:Nat) (g n c i:Nat) (xs:List Value) (w:World) (ho:w.ownsRow N 161 4 (.slice (some ⟨g,0,none⟩) n c) n xs) (h1: ∀u∈xs,u.oneCell'=true) (hi:i<n) (hn:n<=100):
 Calls Tryz.prog 132 #[.slice (some ⟨g,0,none⟩) n c,iv i,iv (i+1)] w (UG N 161 4 g (n-1) c (xs.take (i*4)++xs.drop (i*4+4)) w):=by
 have hnc:n<=c/\c<=maxLen:=by
  obtain⟨h1,⟨h2,rfl⟩|⟨g',cc,cs,h2,h3,h4,h5,h6,h7,h8⟩⟩:=ho
  ·cases h2
  ·cases h2;exact⟨h5,h6⟩
 obtain⟨hnc,hcm⟩:=hnc
 simp only[maxLen] at hcm
 have hc0:c≠0:=by omega
 have hi1:(i:Int)<=(c:Int):=by omega
 have hi2:(0:Int)<=(i:Int):=by omega
 have hi3:(i:Int)+1<=(n:Int):=by omega
 have hi4:(0:Int)<=(i:Int)+1:=by omega
 have hi5:i<=c:=by omega
 have hi6:i+1<=n:=by omega
 have ZX:((i:Int)+1).toNat=i+1:=by omega
 obtain⟨m,hm⟩: ∃m,m=n-1:=⟨_,rfl⟩
 have hm1:(m:Int)<=(n:Int):=by omega
 have hm2:c≠m:=by omega
 have qy:(n:Int)<=(c:Int):=by omega
 have hm4:m<=n:=by omega
 obtain⟨A,hA⟩: ∃A:Addr,(if c=i+1 then some (⟨g,0,none⟩:Addr) else some ⟨g,(i+1)*4,none⟩)=some A:=by split <;>exact⟨_,rfl⟩
 have HO:=Lib.hid (And.intro ho (And.intro hm hA))
 clear ho hm
 go_enter Tryz.func132,Tryz.ntmps132
 go_wp2_with fail
 refine zg 6 [] none [] ?_
 simp only[zt]
 repeat ((first|refine zd ?_|refine zk ?_);simp only[zp])
 intro W hE hF
 have HE:=Lib.hid (show Ext [] w W from hE)
 clear hE hF
 obtain⟨W1,happ,ho1,hE1⟩:=nM Vk (ah (Ms:=[]) HO.out.1 HE.out (by simp)) h1 hi HO.out.2.1 A HO.out.2.2
 obtain⟨W2,hcl,ho2,hE2⟩:=jK Vk (fun w=>Tryz.zeroValue161 w) (by kernel_rfl) ho1 (m:=m) (by have:=HO.out.2.1;omega)
 have H2:=Lib.hid (And.intro ho2 (And.intro hE1 hE2))
 clear ho1 ho2 hE1 hE2 hA
 go_wp2_with (at_builtin;refine gz rfl _ _ rfl _ _ _ rfl rfl happ ?_)
 go_returns
 refine⟨by simp;exact HO.out.2.1,?_,((Ext.nil HE.out).trans H2.out.2.1).trans H2.out.2.2⟩
 have h9:=H2.out.1
 rw[<-HO.out.2.1]
 have hl:=HO.out.1.1
 have hx:(xs.take (i*4)++xs.drop (i*4+4)++xs.drop (n*4-4)).take (m*4)=xs.take (i*4)++xs.drop (i*4+4):=by
  have:=HO.out.2.1
  rw[List.take_append_of_le_length (by simp only[List.length_append,List.length_take,List.length_drop,hl];omega),List.take_of_length_le (by simp only[List.length_append,List.length_take,List.length_drop,hl];omega)]
 rw[<-hx]
 exact h9
theorem Lh (N:Nat) (g n c i:Nat) (xs:List Value) (w:World) (ho:w.ownsRow N 3 1 (.slice (some ⟨g,0,none⟩) n c) n xs) (h1: ∀u∈xs,u.oneCell'=true) (hi:i<n) (hn:n<=100):
 Calls Tryz.prog 127 #[.slice (some ⟨g,0,none⟩) n c,iv i,iv (i+1)] w (UG N 3 1 g (n-1) c (xs.take i++xs.drop (i+1)) w):=by
 have hnc:n<=c/\c<=maxLen:=by
  obtain⟨h1,⟨h2,rfl⟩|⟨g',cc,cs,h2,h3,h4,h5,h6,h7,h8⟩⟩:=ho
  ·cases h2
  ·cases h2;exact⟨h5,h6⟩
 obtain⟨hnc,hcm⟩:=hnc
 simp only[maxLen] at hcm
 have hc0:c≠0:=by omega
 have hi1:(i:Int)<=(c:Int):=by omega
 have hi2:(0:Int)<=(i:Int):=by omega
 have hi3:(i:Int)+1<=(n:Int):=by omega
 have hi4:(0:Int)<=(i:Int)+1:=by omega
 have hi5:i<=c:=by omega
 have hi6:i+1<=n:=by omega
 have ZX:((i:Int)+1).toNat=i+1:=by omega
 obtain⟨m,hm⟩: ∃m,m=n-1:=⟨_,rfl⟩
 have hm1:(m:Int)<=(n:Int):=by omega
 have hm2:c≠m:=by omega
 have qy:(n:Int)<=(c:Int):=by omega
 have hm4:m<=n:=by omega
 obtain⟨A,hA⟩: ∃A:Addr,(if c=i+1 then some (⟨g,0,none⟩:Addr) else some ⟨g,i+1,none⟩)=some A:=by split <;>exact⟨_,rfl⟩
 have HO:=Lib.hid (And.intro ho (And.intro hm hA))
 clear ho hm
 go_enter Tryz.func127,Tryz.ntmps127
 go_wp2_with fail
 refine zg 6 [] none [] ?_
 simp only[zt]
 repeat ((first|refine zd ?_|refine zk ?_);simp only[zp])
 intro W hE hF
 have HE:=Lib.hid (show Ext [] w W from hE)
 clear hE hF
 obtain⟨W1,happ,ho1,hE1⟩:=nM qo (ah (Ms:=[]) HO.out.1 HE.out (by simp)) h1 hi HO.out.2.1 A (by rw[Nat.mul_one];exact HO.out.2.2)
 obtain⟨W2,hcl,ho2,hE2⟩:=jK qo (fun w=>Tryz.zeroValue3 w) (by kernel_rfl) ho1 (m:=m) (by have:=HO.out.2.1;omega)
 simp only[Nat.mul_one] at ho1 ho2 hcl
 have H2:=Lib.hid (And.intro ho2 (And.intro hE1 hE2))
 clear ho1 ho2 hE1 hE2 hA
 go_wp2_with (at_builtin;refine gz rfl _ _ rfl _ _ _ rfl rfl happ ?_)
 go_returns
 refine⟨by simp;exact HO.out.2.1,?_,((Ext.nil HE.out).trans H2.out.2.1).trans H2.out.2.2⟩
 have h9:=H2.out.1
 rw[<-HO.out.2.1]
 have hl:=HO.out.1.1
 have hx:(xs.take i++xs.drop (i+1)++xs.drop (n-1)).take m=xs.take i++xs.drop (i+1):=by
  have:=HO.out.2.1
  rw[List.take_append_of_le_length (by simp only[List.length_append,List.length_take,List.length_drop,hl];omega),List.take_of_length_le (by simp only[List.length_append,List.length_take,List.length_drop,hl];omega)]
 rw[<-hx]
 exact h9
theorem qf {α:Type} (f:α->List Value) (k:Nat) (hk: ∀x,(f x).length=k): ∀(l:List α) (i:Nat),i<l.length->(l.eraseIdx i).flatMap f=(l.flatMap f).take (i*k)++(l.flatMap f).drop (i*k+k):=by
 intro l
 induction l with
 |nil=>intro i h;simp at h
 |cons y l ih=>
  intro i h
  rw[List.flatMap_cons]
  cases i with
  |zero=>
   rw[List.eraseIdx_cons_zero,Nat.zero_mul,List.take_zero,List.nil_append,Nat.zero_add,List.drop_append,List.drop_of_length_le (by rw[hk];omega),hk,Nat.sub_self,List.drop_zero,List.nil_append]
  |succ i=>
   rw[List.eraseIdx_cons_succ,List.flatMap_cons,ih i (by simpa using h)]
   generalize l.flatMap f=X
   have h1:(f y).length<=(i+1)*k:=by rw[hk,Nat.succ_mul];omega
   have h2:(f y).length<=(i+1)*k+k:=by omega
   rw[List.take_append (l₁:=f y),List.take_of_length_le h1,List.drop_append (l₁:=f y),List.drop_of_length_le h2,hk,List.nil_append,List.append_assoc]
   rw[show(i+1)*k-k=i*k from by rw[Nat.succ_mul];omega,show(i+1)*k+k-k=i*k+k from by rw[Nat.succ_mul];omega]
theorem FU (N:Nat) (w:World) (wb:Nat) (s:gV) (V:SV) (es:List KE) (ns:Value) (x:Nat) (hO:gU N w wb s V es) (hn:mF N w ns [(x:Int)]) (hG:Good s):Calls Tryz.prog 65 #[.pointer (some ⟨wb,0,none⟩),ns] w (lM N wb (act s .jy [(x:Int)]) w):=by
 obtain⟨vt,vn,vw,vu,vr,vh,vk,vs⟩:=V
 obtain⟨o,cc,rfl⟩: ∃o c,vt= .slice o s.led.field.ae.length c:=aA (n:=s.led.field.ae.length) (hO.rows.own 0 _ rfl)
 have HO:=Lib.hid hO
 have dP:=dm hO
 obtain⟨b,c,rfl,hbN,hcs⟩:=hn
 have lb:b<w.heap.size:=by omega
 have lw:=hO.rows.lt
 have pK:=hO.rows.base
 have HW:Hid (∀W,Below N w W->b<W.heap.size/\ ∀(j:Nat) (h:j<[(x:Int)].length),W.cell? ⟨b,j,none⟩=some (iv [(x:Int)][j])):=Lib.hid (fun W hB=>⟨by have:=hB.size;omega,fun j h=>(World.cell?_of_block (hB.block b hbN)).trans (hcs j h)⟩)
 obtain⟨c0,f0,l0⟩:=cells_of_block hO.blk
 have jY:=hcs 0 (by simp)
 simp only[List.getElem_cons_zero,List.getElem_cons_succ] at jY
 have HB0:Hid (Below w.heap.size w w):=Lib.hid (Below.refl _ _)
 have EF:=hG.yz
 clear hO hcs hG
 go_enter Tryz.func65,Tryz.ntmps65
 go_wp2_with fail
 refine zg 8 [] none [] ?_
 simp only[zt]
 repeat ((first|refine zd ?_|refine zk ?_);simp only[zp])
 intro W1 hE hF
 have HB1:=Lib.hid (aH HB0.out hE.below)
 have UL:=Lib.hid (Ext.below hE)
 clear hE hF c0 f0 jY
 obtain⟨c1,f1,l1⟩:=cells_of_block ((HB1.out.block _ lw).trans HO.out.blk)
 obtain⟨pX,hcs1⟩:=HW.out W1 (HB1.out.mono dP)
 have n10:=hcs1 0 (by simp)
 simp only[List.getElem_cons_zero,List.getElem_cons_succ] at n10
 clear hcs1
 go_wp2_with fail
 refine(fG _ _ _).mono ?_
 rintro e W2 ⟨hb,⟨hc,rfl⟩|⟨hc,rfl⟩⟩
 rotate_left
 ·simp at hc
  simp only[act,aU,aV,List.getD_cons_zero,List.getD_cons_succ]
  (repeat (first|rw[if_pos (by omega)]|rw[if_neg (by omega)]))
  exact⟨rfl,(aH HB1.out hb).mono dP,.inr ⟨by simp,rfl⟩⟩
 simp at hc
 have HB2:=Lib.hid (aH HB1.out hb)
 have HS2:=Lib.hid hb
 have gJ:=Lib.hid hc
 clear hb hc c1 f1 pX n10
 obtain⟨c2,f2,l2⟩:=cells_of_block ((HB2.out.block _ lw).trans HO.out.blk)
 obtain⟨qI,hcs2⟩:=HW.out W2 (HB2.out.mono dP)
 have n20:=hcs2 0 (by simp)
 simp only[List.getElem_cons_zero,List.getElem_cons_succ] at n20
 clear hcs2
 go_wp2_with fail
 have hlt:=gJ.out
 have EI:=HO.out.below HB2.out
 have h6:W2.ownsRow N 122 5 (.slice o s.led.field.ae.length cc) (s.led.field.ae.length) (bM s.led.field.ae):=EI.rows.own 0 _ rfl
 obtain⟨g,rfl, -,hfg,hgl⟩:=dU h6 (by have:=gJ.out;omega)
 have hg1:wb≠g:=fun e=>EI.rows.off 0 _ rfl (by rw[e];rfl)
 have hg2:b≠g:=fun e=>by have:=(h6.lt g rfl).1;omega
 have hg3:g≠wb:=fun e=>hg1 e.symm
 have hg4:g≠b:=fun e=>hg2 e.symm
 have iM:=Lib.hid EI
 have H6:=Lib.hid h6
 clear EI h6
 refine zg 13 [g] (some 12) [(12,⟨fun _ v=>v= .slice (some ⟨g,0,none⟩) (s.led.field.ae.length-1) cc,fun _ v Wx=>Wx.ownsRow N 122 5 (.slice (some ⟨g,0,none⟩) (s.led.field.ae.length-1) cc) (s.led.field.ae.length-1) ((bM s.led.field.ae).take (x*5)++(bM s.led.field.ae).drop (x*5+5))⟩)] ?_
 simp only[zt]
 repeat ((first|refine zd ?_|refine zk ?_);simp only[zp])
 refine aP _ (by rfl) (by rfl) ⟨_,rfl⟩ (fun W6 hE hF=>?_) (fun v Wa Wb ho hE=>?_) (fun v hv=>?_)
 ·have hE':Ext [] W2 W6:=hE
  refine bU 120 #[.slice (some ⟨g,0,none⟩) s.led.field.ae.length cc,iv x,iv (x+1)] (by go_simp;try rfl) ?_
  refine(Le N g _ cc x (bM s.led.field.ae) W6 (ah (Ms:=[]) H6.out hE' (by simp)) (xU _) (by have:=gJ.out;omega) (by omega)).mono ?_
  rintro e w' ⟨rfl,h1,h2⟩
  exact⟨_,rfl,rfl,h1,h2⟩
 ·exact ah (Ms:=[]) ho hE (by simp)
 obtain rfl:v= .slice (some ⟨g,0,none⟩) (s.led.field.ae.length-1) cc:=hv
 simp only[zp]
 intro W3 hE hF
 have lH:W3.ownsRow N 122 5 (.slice (some ⟨g,0,none⟩) (s.led.field.ae.length-1) cc) (s.led.field.ae.length-1) ((bM s.led.field.ae).take (x*5)++(bM s.led.field.ae).drop (x*5+5)):=hF _ (List.Mem.head _)
 have dZ:Ext [g] W2 W3:=hE
 have hbl:=(dZ.block wb iM.out.rows.lt (by simpa using hg1)).trans iM.out.blk
 obtain⟨c3,f3,l3⟩:=cells_of_block hbl
 have fV:=Lib.hid (And.intro dZ (And.intro lH hbl))
 have lQ:=Lib.hid (show Below N w W3 from(HB2.out.mono dP).trans ⟨dZ.os,dZ.tape,dZ.output,dZ.size,fun k hk=>dZ.block k (by have:=HB2.out.size;omega) (fun h=>by have:=(H6.out.lt g rfl).1;have:=List.mem_singleton.1 h;omega)⟩)
 clear hE hF dZ lH hbl hg1 hg2 hg3 hg4 hfg hgl c2 f2 qI n20
 go_wp2_with fail
 go_end0
 have q0:=gJ.out
 simp only[act,aU,aV,List.getD_cons_zero,List.getD_cons_succ]
 (repeat (first|rw[if_pos (by omega)]|rw[if_neg (by omega)]))
 refine⟨lQ.out.setCell pK _,.inl ⟨rfl,rfl,⟨.slice (some ⟨g,0,none⟩) (s.led.field.ae.length-1) cc,vn,vw,vu,vr,vh,vk,vs⟩,es,iM.out.put (i:=0) rfl ⟨122,5,.slice (some ⟨g,0,none⟩) (s.led.field.ae.length-1) cc,s.led.field.ae.length-1,(bM s.led.field.ae).take (x*5)++(bM s.led.field.ae).drop (x*5+5)⟩ fV.out.1 (fun m hm=>by rw[List.mem_singleton.1 hm];rfl) fV.out.2.1 (.inl rfl) (ak fV.out.2.2 _) (by simp only[eQ,jw,Int.toNat_natCast];rw[List.length_eraseIdx_of_lt hlt,show bM (s.led.field.ae.eraseIdx x)=_ from qf _ 5 (fun _=>rfl) s.led.field.ae x hlt];rfl) (iM.out.es)⟩⟩
theorem QO (N:Nat) (w:World) (wb:Nat) (s:gV) (V:SV) (es:List KE) (ns:Value) (x:Nat) (hO:gU N w wb s V es) (hn:mF N w ns [(x:Int)]) (hG:Good s):Calls Tryz.prog 69 #[.pointer (some ⟨wb,0,none⟩),ns] w (lM N wb (act s .void [(x:Int)]) w):=by
 obtain⟨vt,vn,vw,vu,vr,vh,vk,vs⟩:=V
 obtain⟨o,cc,rfl⟩: ∃o c,vn= .slice o s.led.notes.length c:=aA (n:=s.led.notes.length) (hO.rows.own 1 _ rfl)
 have HO:=Lib.hid hO
 have dP:=dm hO
 obtain⟨b,c,rfl,hbN,hcs⟩:=hn
 have lb:b<w.heap.size:=by omega
 have lw:=hO.rows.lt
 have pK:=hO.rows.base
 have HW:Hid (∀W,Below N w W->b<W.heap.size/\ ∀(j:Nat) (h:j<[(x:Int)].length),W.cell? ⟨b,j,none⟩=some (iv [(x:Int)][j])):=Lib.hid (fun W hB=>⟨by have:=hB.size;omega,fun j h=>(World.cell?_of_block (hB.block b hbN)).trans (hcs j h)⟩)
 obtain⟨c0,f0,l0⟩:=cells_of_block hO.blk
 have jY:=hcs 0 (by simp)
 simp only[List.getElem_cons_zero,List.getElem_cons_succ] at jY
 have HB0:Hid (Below w.heap.size w w):=Lib.hid (Below.refl _ _)
 have EF:=hG.notes
 clear hO hcs hG
 go_enter Tryz.func69,Tryz.ntmps69
 go_wp2_with fail
 refine zg 10 [] none [] ?_
 simp only[zt]
 repeat ((first|refine zd ?_|refine zk ?_);simp only[zp])
 intro W1 hE hF
 have HB1:=Lib.hid (aH HB0.out hE.below)
 have UL:=Lib.hid (Ext.below hE)
 clear hE hF c0 f0 jY
 obtain⟨c1,f1,l1⟩:=cells_of_block ((HB1.out.block _ lw).trans HO.out.blk)
 obtain⟨pX,hcs1⟩:=HW.out W1 (HB1.out.mono dP)
 have n10:=hcs1 0 (by simp)
 simp only[List.getElem_cons_zero,List.getElem_cons_succ] at n10
 clear hcs1
 go_wp2_with fail
 refine(fG _ _ _).mono ?_
 rintro e W2 ⟨hb,⟨hc,rfl⟩|⟨hc,rfl⟩⟩
 rotate_left
 ·simp at hc
  simp only[act,aU,aV,List.getD_cons_zero,List.getD_cons_succ]
  (repeat (first|rw[if_pos (by omega)]|rw[if_neg (by omega)]))
  exact⟨rfl,(aH HB1.out hb).mono dP,.inr ⟨by simp,rfl⟩⟩
 simp at hc
 have HB2:=Lib.hid (aH HB1.out hb)
 have HS2:=Lib.hid hb
 have gJ:=Lib.hid hc
 clear hb hc c1 f1 pX n10
 obtain⟨c2,f2,l2⟩:=cells_of_block ((HB2.out.block _ lw).trans HO.out.blk)
 obtain⟨qI,hcs2⟩:=HW.out W2 (HB2.out.mono dP)
 have n20:=hcs2 0 (by simp)
 simp only[List.getElem_cons_zero,List.getElem_cons_succ] at n20
 clear hcs2
 go_wp2_with fail
 have hlt:=gJ.out
 have EI:=HO.out.below HB2.out
 have h6:W2.ownsRow N 151 3 (.slice o s.led.notes.length cc) (s.led.notes.length) (aF s.led.notes):=EI.rows.own 1 _ rfl
 obtain⟨g,rfl, -,hfg,hgl⟩:=dU h6 (by have:=gJ.out;omega)
 have hg1:wb≠g:=fun e=>EI.rows.off 1 _ rfl (by rw[e];rfl)
 have hg2:b≠g:=fun e=>by have:=(h6.lt g rfl).1;omega
 have hg3:g≠wb:=fun e=>hg1 e.symm
 have hg4:g≠b:=fun e=>hg2 e.symm
 have iM:=Lib.hid EI
 have H6:=Lib.hid h6
 clear EI h6
 refine zg 15 [g] (some 14) [(14,⟨fun _ v=>v= .slice (some ⟨g,0,none⟩) (s.led.notes.length-1) cc,fun _ v Wx=>Wx.ownsRow N 151 3 (.slice (some ⟨g,0,none⟩) (s.led.notes.length-1) cc) (s.led.notes.length-1) ((aF s.led.notes).take (x*3)++(aF s.led.notes).drop (x*3+3))⟩)] ?_
 simp only[zt]
 repeat ((first|refine zd ?_|refine zk ?_);simp only[zp])
 refine aP _ (by rfl) (by rfl) ⟨_,rfl⟩ (fun W6 hE hF=>?_) (fun v Wa Wb ho hE=>?_) (fun v hv=>?_)
 ·have hE':Ext [] W2 W6:=hE
  refine bU 122 #[.slice (some ⟨g,0,none⟩) s.led.notes.length cc,iv x,iv (x+1)] (by go_simp;try rfl) ?_
  refine(Ir N g _ cc x (aF s.led.notes) W6 (ah (Ms:=[]) H6.out hE' (by simp)) (nZ _) (by have:=gJ.out;omega) (by omega)).mono ?_
  rintro e w' ⟨rfl,h1,h2⟩
  exact⟨_,rfl,rfl,h1,h2⟩
 ·exact ah (Ms:=[]) ho hE (by simp)
 obtain rfl:v= .slice (some ⟨g,0,none⟩) (s.led.notes.length-1) cc:=hv
 simp only[zp]
 intro W3 hE hF
 have lH:W3.ownsRow N 151 3 (.slice (some ⟨g,0,none⟩) (s.led.notes.length-1) cc) (s.led.notes.length-1) ((aF s.led.notes).take (x*3)++(aF s.led.notes).drop (x*3+3)):=hF _ (List.Mem.head _)
 have dZ:Ext [g] W2 W3:=hE
 have hbl:=(dZ.block wb iM.out.rows.lt (by simpa using hg1)).trans iM.out.blk
 obtain⟨c3,f3,l3⟩:=cells_of_block hbl
 have fV:=Lib.hid (And.intro dZ (And.intro lH hbl))
 have lQ:=Lib.hid (show Below N w W3 from(HB2.out.mono dP).trans ⟨dZ.os,dZ.tape,dZ.output,dZ.size,fun k hk=>dZ.block k (by have:=HB2.out.size;omega) (fun h=>by have:=(H6.out.lt g rfl).1;have:=List.mem_singleton.1 h;omega)⟩)
 clear hE hF dZ lH hbl hg1 hg2 hg3 hg4 hfg hgl c2 f2 qI n20
 go_wp2_with fail
 go_end0
 have q0:=gJ.out
 simp only[act,aU,aV,List.getD_cons_zero,List.getD_cons_succ]
 (repeat (first|rw[if_pos (by omega)]|rw[if_neg (by omega)]))
 refine⟨lQ.out.setCell pK _,.inl ⟨rfl,rfl,⟨vt,.slice (some ⟨g,0,none⟩) (s.led.notes.length-1) cc,vw,vu,vr,vh,vk,vs⟩,es,iM.out.put (i:=1) rfl ⟨151,3,.slice (some ⟨g,0,none⟩) (s.led.notes.length-1) cc,s.led.notes.length-1,(aF s.led.notes).take (x*3)++(aF s.led.notes).drop (x*3+3)⟩ fV.out.1 (fun m hm=>by rw[List.mem_singleton.1 hm];rfl) fV.out.2.1 (.inl rfl) (ak fV.out.2.2 _) (by simp only[eQ,jl,Int.toNat_natCast];rw[List.length_eraseIdx_of_lt hlt,show aF (s.led.notes.eraseIdx x)=_ from qf _ 3 (fun _=>rfl) s.led.notes x hlt];rfl) (iM.out.es)⟩⟩
theorem JA (N:Nat) (w:World) (wb:Nat) (s:gV) (V:SV) (es:List KE) (ns:Value) (x:Nat) (hO:gU N w wb s V es) (hn:mF N w ns [(x:Int)]) (hG:Good s):Calls Tryz.prog 75 #[.pointer (some ⟨wb,0,none⟩),ns] w (lM N wb (act s .unread [(x:Int)]) w):=by
 obtain⟨vt,vn,vw,vu,vr,vh,vk,vs⟩:=V
 obtain⟨o,cc,rfl⟩: ∃o c,vr= .slice o s.heap.readings.length c:=aA (n:=s.heap.readings.length) (hO.rows.own 4 _ rfl)
 have HO:=Lib.hid hO
 have dP:=dm hO
 obtain⟨b,c,rfl,hbN,hcs⟩:=hn
 have lb:b<w.heap.size:=by omega
 have lw:=hO.rows.lt
 have pK:=hO.rows.base
 have HW:Hid (∀W,Below N w W->b<W.heap.size/\ ∀(j:Nat) (h:j<[(x:Int)].length),W.cell? ⟨b,j,none⟩=some (iv [(x:Int)][j])):=Lib.hid (fun W hB=>⟨by have:=hB.size;omega,fun j h=>(World.cell?_of_block (hB.block b hbN)).trans (hcs j h)⟩)
 obtain⟨c0,f0,l0⟩:=cells_of_block hO.blk
 have jY:=hcs 0 (by simp)
 simp only[List.getElem_cons_zero,List.getElem_cons_succ] at jY
 have HB0:Hid (Below w.heap.size w w):=Lib.hid (Below.refl _ _)
 have EF:=hG.reads
 clear hO hcs hG
 go_enter Tryz.func75,Tryz.ntmps75
 go_wp2_with fail
 refine zg 10 [] none [] ?_
 simp only[zt]
 repeat ((first|refine zd ?_|refine zk ?_);simp only[zp])
 intro W1 hE hF
 have HB1:=Lib.hid (aH HB0.out hE.below)
 have UL:=Lib.hid (Ext.below hE)
 clear hE hF c0 f0 jY
 obtain⟨c1,f1,l1⟩:=cells_of_block ((HB1.out.block _ lw).trans HO.out.blk)
 obtain⟨pX,hcs1⟩:=HW.out W1 (HB1.out.mono dP)
 have n10:=hcs1 0 (by simp)
 simp only[List.getElem_cons_zero,List.getElem_cons_succ] at n10
 clear hcs1
 go_wp2_with fail
 refine(fG _ _ _).mono ?_
 rintro e W2 ⟨hb,⟨hc,rfl⟩|⟨hc,rfl⟩⟩
 rotate_left
 ·simp at hc
  simp only[act,aU,aV,List.getD_cons_zero,List.getD_cons_succ]
  (repeat (first|rw[if_pos (by omega)]|rw[if_neg (by omega)]))
  exact⟨rfl,(aH HB1.out hb).mono dP,.inr ⟨by simp,rfl⟩⟩
 simp at hc
 have HB2:=Lib.hid (aH HB1.out hb)
 have HS2:=Lib.hid hb
 have gJ:=Lib.hid hc
 clear hb hc c1 f1 pX n10
 obtain⟨c2,f2,l2⟩:=cells_of_block ((HB2.out.block _ lw).trans HO.out.blk)
 obtain⟨qI,hcs2⟩:=HW.out W2 (HB2.out.mono dP)
 have n20:=hcs2 0 (by simp)
 simp only[List.getElem_cons_zero,List.getElem_cons_succ] at n20
 clear hcs2
 go_wp2_with fail
 have hlt:=gJ.out
 have EI:=HO.out.below HB2.out
 have h6:W2.ownsRow N 156 3 (.slice o s.heap.readings.length cc) (s.heap.readings.length) (aF s.heap.readings):=EI.rows.own 4 _ rfl
 obtain⟨g,rfl, -,hfg,hgl⟩:=dU h6 (by have:=gJ.out;omega)
 have hg1:wb≠g:=fun e=>EI.rows.off 4 _ rfl (by rw[e];rfl)
 have hg2:b≠g:=fun e=>by have:=(h6.lt g rfl).1;omega
 have hg3:g≠wb:=fun e=>hg1 e.symm
 have hg4:g≠b:=fun e=>hg2 e.symm
 have iM:=Lib.hid EI
 have H6:=Lib.hid h6
 clear EI h6
 refine zg 15 [g] (some 14) [(14,⟨fun _ v=>v= .slice (some ⟨g,0,none⟩) (s.heap.readings.length-1) cc,fun _ v Wx=>Wx.ownsRow N 156 3 (.slice (some ⟨g,0,none⟩) (s.heap.readings.length-1) cc) (s.heap.readings.length-1) ((aF s.heap.readings).take (x*3)++(aF s.heap.readings).drop (x*3+3))⟩)] ?_
 simp only[zt]
 repeat ((first|refine zd ?_|refine zk ?_);simp only[zp])
 refine aP _ (by rfl) (by rfl) ⟨_,rfl⟩ (fun W6 hE hF=>?_) (fun v Wa Wb ho hE=>?_) (fun v hv=>?_)
 ·have hE':Ext [] W2 W6:=hE
  refine bU 128 #[.slice (some ⟨g,0,none⟩) s.heap.readings.length cc,iv x,iv (x+1)] (by go_simp;try rfl) ?_
  refine(Iq N g _ cc x (aF s.heap.readings) W6 (ah (Ms:=[]) H6.out hE' (by simp)) (nZ _) (by have:=gJ.out;omega) (by omega)).mono ?_
  rintro e w' ⟨rfl,h1,h2⟩
  exact⟨_,rfl,rfl,h1,h2⟩
 ·exact ah (Ms:=[]) ho hE (by simp)
 obtain rfl:v= .slice (some ⟨g,0,none⟩) (s.heap.readings.length-1) cc:=hv
 simp only[zp]
 intro W3 hE hF
 have lH:W3.ownsRow N 156 3 (.slice (some ⟨g,0,none⟩) (s.heap.readings.length-1) cc) (s.heap.readings.length-1) ((aF s.heap.readings).take (x*3)++(aF s.heap.readings).drop (x*3+3)):=hF _ (List.Mem.head _)
 have dZ:Ext [g] W2 W3:=hE
 have hbl:=(dZ.block wb iM.out.rows.lt (by simpa using hg1)).trans iM.out.blk
 obtain⟨c3,f3,l3⟩:=cells_of_block hbl
 have fV:=Lib.hid (And.intro dZ (And.intro lH hbl))
 have lQ:=Lib.hid (show Below N w W3 from(HB2.out.mono dP).trans ⟨dZ.os,dZ.tape,dZ.output,dZ.size,fun k hk=>dZ.block k (by have:=HB2.out.size;omega) (fun h=>by have:=(H6.out.lt g rfl).1;have:=List.mem_singleton.1 h;omega)⟩)
 clear hE hF dZ lH hbl hg1 hg2 hg3 hg4 hfg hgl c2 f2 qI n20
 go_wp2_with fail
 go_end0
 have q0:=gJ.out
 simp only[act,aU,aV,List.getD_cons_zero,List.getD_cons_succ]
 (repeat (first|rw[if_pos (by omega)]|rw[if_neg (by omega)]))
 refine⟨lQ.out.setCell pK _,.inl ⟨rfl,rfl,⟨vt,vn,vw,vu,.slice (some ⟨g,0,none⟩) (s.heap.readings.length-1) cc,vh,vk,vs⟩,es,iM.out.put (i:=4) rfl ⟨156,3,.slice (some ⟨g,0,none⟩) (s.heap.readings.length-1) cc,s.heap.readings.length-1,(aF s.heap.readings).take (x*3)++(aF s.heap.readings).drop (x*3+3)⟩ fV.out.1 (fun m hm=>by rw[List.mem_singleton.1 hm];rfl) fV.out.2.1 (.inl rfl) (ak fV.out.2.2 _) (by simp only[eQ,eU,Int.toNat_natCast];rw[List.length_eraseIdx_of_lt hlt,show aF (s.heap.readings.eraseIdx x)=_ from qf _ 3 (fun _=>rfl) s.heap.readings x hlt];rfl) (iM.out.es)⟩⟩
theorem NG (N:Nat) (w:World) (wb:Nat) (s:gV) (V:SV) (es:List KE) (ns:Value) (x:Nat) (hO:gU N w wb s V es) (hn:mF N w ns [(x:Int)]) (hG:Good s):Calls Tryz.prog 81 #[.pointer (some ⟨wb,0,none⟩),ns] w (lM N wb (act s .nY [(x:Int)]) w):=by
 obtain⟨vt,vn,vw,vu,vr,vh,vk,vs⟩:=V
 obtain⟨o,cc,rfl⟩: ∃o c,vs= .slice o s.bG.au.length c:=aA (n:=s.bG.au.length) (hO.rows.own 7 _ rfl)
 have HO:=Lib.hid hO
 have dP:=dm hO
 obtain⟨b,c,rfl,hbN,hcs⟩:=hn
 have lb:b<w.heap.size:=by omega
 have lw:=hO.rows.lt
 have pK:=hO.rows.base
 have HW:Hid (∀W,Below N w W->b<W.heap.size/\ ∀(j:Nat) (h:j<[(x:Int)].length),W.cell? ⟨b,j,none⟩=some (iv [(x:Int)][j])):=Lib.hid (fun W hB=>⟨by have:=hB.size;omega,fun j h=>(World.cell?_of_block (hB.block b hbN)).trans (hcs j h)⟩)
 obtain⟨c0,f0,l0⟩:=cells_of_block hO.blk
 have jY:=hcs 0 (by simp)
 simp only[List.getElem_cons_zero,List.getElem_cons_succ] at jY
 have HB0:Hid (Below w.heap.size w w):=Lib.hid (Below.refl _ _)
 have EF:=hG.au
 clear hO hcs hG
 go_enter Tryz.func81,Tryz.ntmps81
 go_wp2_with fail
 refine zg 8 [] none [] ?_
 simp only[zt]
 repeat ((first|refine zd ?_|refine zk ?_);simp only[zp])
 intro W1 hE hF
 have HB1:=Lib.hid (aH HB0.out hE.below)
 have UL:=Lib.hid (Ext.below hE)
 clear hE hF c0 f0 jY
 obtain⟨c1,f1,l1⟩:=cells_of_block ((HB1.out.block _ lw).trans HO.out.blk)
 obtain⟨pX,hcs1⟩:=HW.out W1 (HB1.out.mono dP)
 have n10:=hcs1 0 (by simp)
 simp only[List.getElem_cons_zero,List.getElem_cons_succ] at n10
 clear hcs1
 go_wp2_with fail
 refine(fG _ _ _).mono ?_
 rintro e W2 ⟨hb,⟨hc,rfl⟩|⟨hc,rfl⟩⟩
 rotate_left
 ·simp at hc
  simp only[act,aU,aV,List.getD_cons_zero,List.getD_cons_succ]
  (repeat (first|rw[if_pos (by omega)]|rw[if_neg (by omega)]))
  exact⟨rfl,(aH HB1.out hb).mono dP,.inr ⟨by simp,rfl⟩⟩
 simp at hc
 have HB2:=Lib.hid (aH HB1.out hb)
 have HS2:=Lib.hid hb
 have gJ:=Lib.hid hc
 clear hb hc c1 f1 pX n10
 obtain⟨c2,f2,l2⟩:=cells_of_block ((HB2.out.block _ lw).trans HO.out.blk)
 obtain⟨qI,hcs2⟩:=HW.out W2 (HB2.out.mono dP)
 have n20:=hcs2 0 (by simp)
 simp only[List.getElem_cons_zero,List.getElem_cons_succ] at n20
 clear hcs2
 go_wp2_with fail
 have hlt:=gJ.out
 have EI:=HO.out.below HB2.out
 have h6:W2.ownsRow N 161 4 (.slice o s.bG.au.length cc) (s.bG.au.length) (dR s.bG.au):=EI.rows.own 7 _ rfl
 obtain⟨g,rfl, -,hfg,hgl⟩:=dU h6 (by have:=gJ.out;omega)
 have hg1:wb≠g:=fun e=>EI.rows.off 7 _ rfl (by rw[e];rfl)
 have hg2:b≠g:=fun e=>by have:=(h6.lt g rfl).1;omega
 have hg3:g≠wb:=fun e=>hg1 e.symm
 have hg4:g≠b:=fun e=>hg2 e.symm
 have iM:=Lib.hid EI
 have H6:=Lib.hid h6
 clear EI h6
 refine zg 13 [g] (some 12) [(12,⟨fun _ v=>v= .slice (some ⟨g,0,none⟩) (s.bG.au.length-1) cc,fun _ v Wx=>Wx.ownsRow N 161 4 (.slice (some ⟨g,0,none⟩) (s.bG.au.length-1) cc) (s.bG.au.length-1) ((dR s.bG.au).take (x*4)++(dR s.bG.au).drop (x*4+4))⟩)] ?_
 simp only[zt]
 repeat ((first|refine zd ?_|refine zk ?_);simp only[zp])
 refine aP _ (by rfl) (by rfl) ⟨_,rfl⟩ (fun W6 hE hF=>?_) (fun v Wa Wb ho hE=>?_) (fun v hv=>?_)
 ·have hE':Ext [] W2 W6:=hE
  refine bU 132 #[.slice (some ⟨g,0,none⟩) s.bG.au.length cc,iv x,iv (x+1)] (by go_simp;try rfl) ?_
  refine(EN N g _ cc x (dR s.bG.au) W6 (ah (Ms:=[]) H6.out hE' (by simp)) (Gp _) (by have:=gJ.out;omega) (by omega)).mono ?_
  rintro e w' ⟨rfl,h1,h2⟩
  exact⟨_,rfl,rfl,h1,h2⟩
 ·exact ah (Ms:=[]) ho hE (by simp)
 obtain rfl:v= .slice (some ⟨g,0,none⟩) (s.bG.au.length-1) cc:=hv
 simp only[zp]
 intro W3 hE hF
 have lH:W3.ownsRow N 161 4 (.slice (some ⟨g,0,none⟩) (s.bG.au.length-1) cc) (s.bG.au.length-1) ((dR s.bG.au).take (x*4)++(dR s.bG.au).drop (x*4+4)):=hF _ (List.Mem.head _)
 have dZ:Ext [g] W2 W3:=hE
 have hbl:=(dZ.block wb iM.out.rows.lt (by simpa using hg1)).trans iM.out.blk
 obtain⟨c3,f3,l3⟩:=cells_of_block hbl
 have fV:=Lib.hid (And.intro dZ (And.intro lH hbl))
 have lQ:=Lib.hid (show Below N w W3 from(HB2.out.mono dP).trans ⟨dZ.os,dZ.tape,dZ.output,dZ.size,fun k hk=>dZ.block k (by have:=HB2.out.size;omega) (fun h=>by have:=(H6.out.lt g rfl).1;have:=List.mem_singleton.1 h;omega)⟩)
 clear hE hF dZ lH hbl hg1 hg2 hg3 hg4 hfg hgl c2 f2 qI n20
 go_wp2_with fail
 go_end0
 have q0:=gJ.out
 simp only[act,aU,aV,List.getD_cons_zero,List.getD_cons_succ]
 (repeat (first|rw[if_pos (by omega)]|rw[if_neg (by omega)]))
 refine⟨lQ.out.setCell pK _,.inl ⟨rfl,rfl,⟨vt,vn,vw,vu,vr,vh,vk,.slice (some ⟨g,0,none⟩) (s.bG.au.length-1) cc⟩,es,iM.out.put (i:=7) rfl ⟨161,4,.slice (some ⟨g,0,none⟩) (s.bG.au.length-1) cc,s.bG.au.length-1,(dR s.bG.au).take (x*4)++(dR s.bG.au).drop (x*4+4)⟩ fV.out.1 (fun m hm=>by rw[List.mem_singleton.1 hm];rfl) fV.out.2.1 (.inl rfl) (ak fV.out.2.2 _) (by simp only[eQ,dI,Int.toNat_natCast];rw[List.length_eraseIdx_of_lt hlt,show dR (s.bG.au.eraseIdx x)=_ from qf _ 4 (fun _=>rfl) s.bG.au x hlt];rfl) (iM.out.es)⟩⟩
theorem ry (last:Int) (p:Int->Bool):(fP last p).Nodup:=by
 unfold fP
 refine List.Pairwise.filter _ ?_
 refine List.Pairwise.map _ (fun a b h=>?_) List.nodup_range
 intro e;exact h (by omega)
theorem EG (last:Int) (p:Int->Bool):(fP last p).Pairwise (fun a b=>(decide (a<=b))=true):=by
 unfold fP
 refine List.Pairwise.filter _ ?_
 refine List.Pairwise.map _ (fun a b h=>?_) List.pairwise_le_range
 simpa using h
theorem xk (p:Int->Bool):(fP 4 p).length<=5:=by
 unfold fP
 refine Nat.le_trans (List.length_filter_le _ _) ?_
 simp
theorem OU (p:Int->Bool) (x:Int) (h0:0<=x) (h4:x<=4) (hx:(fP 4 p).contains x=false):((fP 4 p++[x]).mergeSort fun a b=>decide (a<=b))=fP 4 fun i=>i==x ||(fP 4 p).contains i:=by
 have hn: ¬x∈fP 4 p:=by
  intro h
  rw[List.contains_eq_mem,decide_eq_false_iff_not] at hx
  exact hx h
 have hp:(fP 4 p++[x]).mergeSort (fun a b=>decide (a<=b)) |>.Perm (fP 4 fun i=>i==x ||(fP 4 p).contains i):=by
  refine(List.mergeSort_perm _ _).trans ?_
  rw[List.perm_ext_iff_of_nodup]
  ·intro a
   rw[List.mem_append,List.mem_singleton]
   constructor
   ·rintro(h|rfl)
    ·have:=sS.1 h
     exact sS.2 ⟨this.1,by simp[List.contains_eq_mem,h]⟩
    ·exact sS.2 ⟨⟨h0,h4⟩,by simp⟩
   ·intro h
    replace h:=(sS.1 h).2
    simp only[Bool.or_eq_true,beq_iff_eq,List.contains_eq_mem,decide_eq_true_eq] at h
    exact h.symm
  ·rw[List.nodup_append]
   refine⟨ry 4 p,by simp,fun a ha b hb=>?_⟩
   rw[List.mem_singleton.1 hb]
   intro e;exact hn (e▸ha)
  ·exact ry 4 _
 refine hp.eq_of_pairwise (le:=fun a b=>(decide (a<=b))=true) (fun a b _ _ h1 h2=>?_) ?_ (EG 4 _)
 ·simp only[decide_eq_true_eq] at h1 h2;omega
 ·refine List.pairwise_mergeSort (fun a b c h1 h2=>?_) (fun a b=>?_) _
  ·simp only[decide_eq_true_eq] at*;omega
  ·simp only[Bool.or_eq_true,decide_eq_true_eq];omega
theorem erase_filter: ∀(l:List Int) (k:Nat) (x:Int),l.Nodup->l[k]? =some x->l.eraseIdx k=l.filter (fun i=>i !=x):=by
 intro l
 induction l with
 |nil=>intro k x _ h;cases h
 |cons y l ih=>
  intro k x hn h
  rw[List.nodup_cons] at hn
  cases k with
  |zero=>
   simp only[List.getElem?_cons_zero,Option.some.injEq] at h
   subst h
   rw[List.eraseIdx_cons_zero,List.filter_cons,if_neg (by simp)]
   symm
   rw[List.filter_eq_self]
   intro a ha
   simp only[bne_iff_ne,ne_eq]
   intro e;exact hn.1 (e▸ha)
  |succ k=>
   have hm:x∈l:=List.mem_of_getElem? (i:=k) (by simpa using h)
   rw[List.eraseIdx_cons_succ,List.filter_cons,if_pos (by simp only[bne_iff_ne,ne_eq];intro e;exact hn.1 (e▸hm)),ih k x hn.2 (by simpa using h)]
theorem Hq (p:Int->Bool) (k:Nat) (x:Int) (h:(fP 4 p)[k]? =some x):(fP 4 p).eraseIdx k=fP 4 fun i=>i !=x&&(fP 4 p).contains i:=by
 rw[erase_filter _ k x (ry 4 p) h]
 conv=>lhs;unfold fP
 conv=>rhs;unfold fP
 rw[List.filter_filter]
 apply List.filter_congr
 intro i hi
 have:(List.filter p (List.map (fun(k:Nat)=>(k:Int)) (List.range (4+1:Int).toNat))).contains i=p i:=by
  rw[Bool.eq_iff_iff,List.contains_iff_mem,List.mem_filter]
  exact⟨fun h=>h.2,fun h=>⟨hi,h⟩⟩
 rw[this]
theorem OO (l:List Int) (v:Value) (n:Int) (w:World) (hv:aN w v l):Calls Tryz.prog 126 #[v,iv n] w (fun e w'=>w=w'/\((∃k:Nat,l[k]? =some n/\e= .returned (iv k))∨(l.contains n=false/\e= .returned (iv (-1))))):=by
 have hlen:=hv.len
 obtain⟨o,c,rfl⟩:=hv.open
 have HV:=Lib.hid hv
 clear hv
 go_enter Tryz.func126,Tryz.ntmps126
 go_wp2
 go_loop [4,5,8] (fun _ _ i=> ∃k:Nat,k<=l.length/\i= .int .i64 k/\(∀j (hj:j<l.length),j<k->l[j]≠n)) (fun _ _ i=>l.length-(intOf i).toNat)
 case atStart=>exact⟨0,Nat.zero_le _,rfl,fun j _ hj=>by omega⟩
 case round=>
  obtain⟨k,hk,rfl,hno⟩:=hrel
  have HN:=Lib.hid hno
  clear hno
  by_cases hlt:k<l.length
  ·obtain⟨b,off,rfl,hb,hc0⟩:=aN.cell HV.out hlt
   by_cases he:l[k]=n
   ·have he':(n==l[k])=true:=by simp[he]
    have HE:=Lib.hid he
    clear he
    go_wp2
    go_returns
    exact⟨rfl,.inl ⟨k,by rw[<-HE.out];exact List.getElem?_eq_getElem hlt,by simp⟩⟩
   ·have he':(n==l[k])=false:=by simp;omega
    have HE:=Lib.hid he
    clear he
    go_wp2
    go_round
    case rel=>exact⟨k+1,by omega,by go_num,fun j hj hjk=>(by by_cases e:j=k;(subst e;exact HE.out);exact HN.out j hj (by omega))⟩
    case measure=>simp[intOf];omega
  ·have hkl:k=l.length:=by omega
   go_wp2
   go_returns
   refine⟨rfl,.inr ⟨?_,by simp⟩⟩
   intro hm
   obtain⟨j,hj,e⟩:=List.getElem_of_mem hm
   exact HN.out j hj (by omega) e
theorem Jz (N:Nat) (w:World) (wb:Nat) (s:gV) (V:SV) (es:List KE) (ns:Value) (x:Int) (hO:gU N w wb s V es) (hn:mF N w ns [x]) (hG:Good s):Calls Tryz.prog 73 #[.pointer (some ⟨wb,0,none⟩),ns] w (lM N wb (act s .kz [x]) w):=by
 obtain⟨vt,vn,vw,vu,vr,vh,vk,vs⟩:=V
 obtain⟨o,cc,rfl⟩: ∃o c,vu= .slice o s.heap.turns.length c:=aA (n:=s.heap.turns.length) (hO.rows.own 3 _ rfl)
 have HO:=Lib.hid hO
 have dP:=dm hO
 obtain⟨b,c,rfl,hbN,hcs⟩:=hn
 have lb:b<w.heap.size:=by omega
 have lw:=hO.rows.lt
 have pK:=hO.rows.base
 have HW:Hid (∀W,Below N w W->b<W.heap.size/\ ∀(j:Nat) (h:j<[x].length),W.cell? ⟨b,j,none⟩=some (iv [x][j])):=Lib.hid (fun W hB=>⟨by have:=hB.size;omega,fun j h=>(World.cell?_of_block (hB.block b hbN)).trans (hcs j h)⟩)
 obtain⟨c0,f0,l0⟩:=cells_of_block hO.blk
 have jY:=hcs 0 (by simp)
 simp only[List.getElem_cons_zero,List.getElem_cons_succ] at jY
 have HB0:Hid (Below w.heap.size w w):=Lib.hid (Below.refl _ _)
 obtain⟨pt,hpt⟩:=hG.turns
 have EF:s.heap.turns.length<=5:=by rw[hpt];exact xk pt
 have hl4:=hG.heap.1
 have FD:=Lib.hid (And.intro hpt hl4)
 have h6:w.ownsRow N 3 1 (.slice o s.heap.turns.length cc) s.heap.turns.length (intCells s.heap.turns):=hO.rows.own 3 _ rfl
 have H6:=Lib.hid h6
 clear hpt hl4 h6
 clear hO hcs hG
 go_enter Tryz.func73,Tryz.ntmps73
 go_wp2_with fail
 refine zg 9 [] none [] ?_
 simp only[zt]
 repeat ((first|refine zd ?_|refine zk ?_);simp only[zp])
 intro W1 hE hF
 have HB1:=Lib.hid (aH HB0.out hE.below)
 have UL:=Lib.hid (Ext.below hE)
 clear hE hF c0 f0 jY
 obtain⟨c1,f1,l1⟩:=cells_of_block ((HB1.out.block _ lw).trans HO.out.blk)
 obtain⟨pX,hcs1⟩:=HW.out W1 (HB1.out.mono dP)
 have n10:=hcs1 0 (by simp)
 simp only[List.getElem_cons_zero,List.getElem_cons_succ] at n10
 clear hcs1
 have TU:=ah (Ms:=[]) H6.out (Ext.of_below HB1.out) (by simp)
 have HX:=Lib.hid (OO s.heap.turns _ x W1 (aB.dn TU))
 clear TU
 go_wp2_with fail
 refine HX.out.mono ?_
 clear HX
 rintro e w1 ⟨rfl,⟨k,hk,rfl⟩|⟨hno,rfl⟩⟩
 ·have hlt:=(List.getElem?_eq_some_iff.1 hk).1
  have HK:=Lib.hid hk
  have aeA:((k:Int)<0)=False:=by simp
  clear hk
  go_wp2_with fail
  refine(cu 7 [decide ((k:Int)<0)] W1 (by simp) _ (by simp[bI]) _ _ rfl).mono ?_
  rintro e W2 ⟨hb,⟨hc,rfl⟩|⟨hc,rfl⟩⟩
  rotate_left
  ·exfalso
   have h0:decide ((k:Int)<0)=false:=by simp
   rw[h0] at hc
   exact absurd hc (by decide)
  have HB2:=Lib.hid (aH HB1.out hb)
  clear hb hc c1 f1 n10 pX aeA
  obtain⟨c2,f2,l2⟩:=cells_of_block ((HB2.out.block _ lw).trans HO.out.blk)
  obtain⟨qI,hcs2⟩:=HW.out W2 (HB2.out.mono dP)
  have n20:=hcs2 0 (by simp)
  simp only[List.getElem_cons_zero,List.getElem_cons_succ] at n20
  clear hcs2
  obtain⟨g,rfl, -,hfg,hgl⟩:=dU H6.out (by omega)
  have TU:=ah (Ms:=[]) H6.out (Ext.of_below HB2.out) (by simp)
  have hg1:wb≠g:=fun e=>HO.out.rows.off 3 _ rfl (by rw[e];rfl)
  have HD:=Lib.hid (Lh N g _ cc k (intCells s.heap.turns) W2 TU (iT _) hlt (by omega))
  clear TU hfg hgl
  go_wp2_with fail
  refine HD.out.mono ?_
  rintro e W3 ⟨rfl,lH,dZ⟩
  have hbl:=(dZ.block wb l2 (by simpa using hg1)).trans ((HB2.out.block _ lw).trans HO.out.blk)
  obtain⟨c3,f3,l3⟩:=cells_of_block hbl
  have fV:=Lib.hid (And.intro dZ (And.intro lH hbl))
  have lQ:=Lib.hid (show Below N w W3 from(HB2.out.mono dP).trans ⟨dZ.os,dZ.tape,dZ.output,dZ.size,fun k hk=>dZ.block k (by have:=HB2.out.size;omega) (fun h=>by have:=(H6.out.lt g rfl).1;have:=List.mem_singleton.1 h;omega)⟩)
  clear dZ lH hbl hg1 HD c2 f2 qI n20
  go_wp2_with fail
  go_end0
  have hcx:s.heap.turns.contains x=true:=by rw[List.contains_iff_mem];exact List.mem_of_getElem? HK.out
  simp only[act,List.getD_cons_zero,hcx]
  rw[if_neg (by simp)]
  have hne:fP s.heap.last (fun i=>i !=x&&s.heap.turns.contains i)=s.heap.turns.eraseIdx k:=by
   have hk:=HK.out
   rw[FD.out.2,FD.out.1] at*
   exact(Hq pt k x hk).symm
  rw[hne]
  have hfe:intCells (s.heap.turns.eraseIdx k)=(intCells s.heap.turns).take k++(intCells s.heap.turns).drop (k+1):=by
   unfold intCells
   rw[List.eraseIdx_eq_take_drop_succ,List.map_append,List.map_take,List.map_drop]
  refine⟨lQ.out.setCell pK _,.inl ⟨rfl,rfl,⟨vt,vn,vw,.slice (some ⟨g,0,none⟩) (s.heap.turns.length-1) cc,vr,vh,vk,vs⟩,es,(HO.out.below HB2.out).put (i:=3) rfl ⟨3,1,.slice (some ⟨g,0,none⟩) (s.heap.turns.length-1) cc,s.heap.turns.length-1,(intCells s.heap.turns).take k++(intCells s.heap.turns).drop (k+1)⟩ fV.out.1 (fun m hm=>by rw[List.mem_singleton.1 hm];rfl) fV.out.2.1 (.inl rfl) (ak fV.out.2.2 _) ?_ HO.out.es⟩⟩
  simp only[eQ,eU]
  rw[List.length_eraseIdx_of_lt hlt,hfe]
  rfl
 ·have HN:=Lib.hid hno
  clear hno
  go_wp2_with fail
  refine(cu 7 [true] W1 (by simp) _ (by simp[bI]) _ _ rfl).mono ?_
  rintro e W2 ⟨hb,⟨hc,rfl⟩|⟨hc,rfl⟩⟩
  ·exfalso;simp at hc
  simp only[act,List.getD_cons_zero,HN.out]
  rw[if_pos True.intro]
  exact⟨rfl,(aH HB1.out hb).mono dP,.inr ⟨by simp,rfl⟩⟩
theorem QP (N:Nat) (w:World) (wb:Nat) (s:gV) (V:SV) (es:List KE) (ns:Value) (x:Int) (hO:gU N w wb s V es) (hn:mF N w ns [x]) (hG:Good s) (hx:0<=x):Calls Tryz.prog 72 #[.pointer (some ⟨wb,0,none⟩),ns] w (lM N wb (act s .turn [x]) w):=by
 obtain⟨vt,vn,vw,vu,vr,vh,vk,vs⟩:=V
 obtain⟨o,cc,rfl⟩: ∃o c,vu= .slice o s.heap.turns.length c:=aA (n:=s.heap.turns.length) (hO.rows.own 3 _ rfl)
 have HO:=Lib.hid hO
 have dP:=dm hO
 obtain⟨b,c,rfl,hbN,hcs⟩:=hn
 have lb:b<w.heap.size:=by omega
 have lw:=hO.rows.lt
 have pK:=hO.rows.base
 have HW:Hid (∀W,Below N w W->b<W.heap.size/\ ∀(j:Nat) (h:j<[x].length),W.cell? ⟨b,j,none⟩=some (iv [x][j])):=Lib.hid (fun W hB=>⟨by have:=hB.size;omega,fun j h=>(World.cell?_of_block (hB.block b hbN)).trans (hcs j h)⟩)
 obtain⟨c0,f0,l0⟩:=cells_of_block hO.blk
 have jY:=hcs 0 (by simp)
 simp only[List.getElem_cons_zero,List.getElem_cons_succ] at jY
 have HB0:Hid (Below w.heap.size w w):=Lib.hid (Below.refl _ _)
 obtain⟨pt,hpt⟩:=hG.turns
 have EF:s.heap.turns.length<=5:=by rw[hpt];exact xk pt
 have hl4:=hG.heap.1
 have FD:=Lib.hid (And.intro hpt hl4)
 have h6:w.ownsRow N 3 1 (.slice o s.heap.turns.length cc) s.heap.turns.length (intCells s.heap.turns):=hO.rows.own 3 _ rfl
 have H6:=Lib.hid h6
 clear hpt h6
 clear hO hcs hG
 go_enter Tryz.func72,Tryz.ntmps72
 go_wp2_with fail
 refine(rC x wb s _ w ((HB0.out.block _ lw).trans HO.out.blk) hl4).mono ?_
 rintro e W1 ⟨hb,⟨hc,rfl⟩|⟨hc,rfl⟩⟩
 rotate_left
 ·simp at hc
  simp only[act,aU,aV,List.getD_cons_zero,List.getD_cons_succ]
  (repeat (first|rw[if_pos (by omega)]|rw[if_neg (by omega)]))
  exact⟨rfl,(aH HB0.out hb).mono dP,.inr ⟨by simp,rfl⟩⟩
 simp at hc
 have HB1:=Lib.hid (aH HB0.out hb)
 have UL:=Lib.hid hb
 have gJ:=Lib.hid hc
 clear hb hc c0 f0 jY
 obtain⟨c1,f1,l1⟩:=cells_of_block ((HB1.out.block _ lw).trans HO.out.blk)
 obtain⟨pX,hcs1⟩:=HW.out W1 (HB1.out.mono dP)
 have n10:=hcs1 0 (by simp)
 simp only[List.getElem_cons_zero,List.getElem_cons_succ] at n10
 clear hcs1
 go_wp2_with fail
 refine zg 9 [] none [] ?_
 simp only[zt]
 repeat ((first|refine zd ?_|refine zk ?_);simp only[zp])
 intro W2 hE hF
 have HB2:=Lib.hid (aH HB1.out hE.below)
 have HS2:=Lib.hid (Ext.below hE)
 clear hE hF c1 f1 pX n10
 obtain⟨c2,f2,l2⟩:=cells_of_block ((HB2.out.block _ lw).trans HO.out.blk)
 obtain⟨qI,hcs2⟩:=HW.out W2 (HB2.out.mono dP)
 have n20:=hcs2 0 (by simp)
 simp only[List.getElem_cons_zero,List.getElem_cons_succ] at n20
 clear hcs2
 have TU:=ah (Ms:=[]) H6.out (Ext.of_below HB2.out) (by simp)
 have HX:=Lib.hid (eP s.heap.turns _ x W2 (aB.dn TU))
 clear TU
 go_wp2_with fail
 refine HX.out.mono ?_
 clear HX
 rintro e W3 ⟨rfl,hb⟩
 have HB3:=Lib.hid (aH HB2.out hb)
 obtain⟨q,hq⟩: ∃q,s.heap.turns.contains x=q:=⟨_,rfl⟩
 rw[hq]
 have HQQ:=Lib.hid hq
 clear hb hq c2 f2 qI n20
 obtain⟨c3,f3,l3⟩:=cells_of_block ((HB3.out.block _ lw).trans HO.out.blk)
 obtain⟨CO,hcs3⟩:=HW.out W3 (HB3.out.mono dP)
 have n30:=hcs3 0 (by simp)
 simp only[List.getElem_cons_zero,List.getElem_cons_succ] at n30
 clear hcs3
 go_wp2_with fail
 refine(cu 6 [q] W3 (by simp) _ (by simp[bI]) _ _ rfl).mono ?_
 rintro e W4 ⟨hb,⟨hc,rfl⟩|⟨hc,rfl⟩⟩
 rotate_left
 ·obtain rfl:q=true:=(by cases q <;>simp_all)
  have q0:=gJ.out
  have hqq:=HQQ.out;simp only[act,List.getD_cons_zero,hqq];rw[if_neg (by omega),if_pos True.intro]
  exact⟨rfl,(aH HB3.out hb).mono dP,.inr ⟨by simp,rfl⟩⟩
 obtain rfl:q=false:=(by cases q <;>simp_all)
 have HB4:=Lib.hid (aH HB3.out hb)
 have Ny:=Lib.hid hb
 have lN:=Lib.hid hc
 clear hb hc c3 f3 CO n30
 obtain⟨c4,f4,l4⟩:=cells_of_block ((HB4.out.block _ lw).trans HO.out.blk)
 obtain⟨Jn,ik⟩:=HW.out W4 (HB4.out.mono dP)
 have n40:=ik 0 (by simp)
 simp only[List.getElem_cons_zero,List.getElem_cons_succ] at n40
 clear ik
 go_wp2_with fail
 obtain⟨Ms,hMs⟩: ∃Ms,Ms=(Value.slice o s.heap.turns.length cc).ownBlock.toList:=⟨_,rfl⟩
 have hO4:=HO.out.below HB4.out
 have hm1:wb∉Ms:=fun h=>hO4.rows.off 3 _ rfl (by rw[hMs] at h;exact Option.mem_toList.1 h)
 have hm2:b∉Ms:=fun h=>by have:=((hO4.rows.own 3 _ rfl).lt b (by rw[hMs] at h;exact Option.mem_toList.1 h)).1;omega
 have qy: ∀m∈Ms,m<W4.heap.size:=fun m h=>((hO4.rows.own 3 _ rfl).lt m (by rw[hMs] at h;exact Option.mem_toList.1 h)).2
 have HM:=Lib.hid hMs
 have iM:=Lib.hid hO4
 clear hMs hO4
 refine zg 12 Ms (some 11) [(10,Spec.slice W4.heap.size #[iv x] 3 1),(11,⟨fun _ v=> ∃o2 c2,v= .slice o2 (s.heap.turns.length+1) c2,fun _ v Wx=>Wx.ownsRow N 3 1 v (s.heap.turns.length+1) (intCells s.heap.turns++[iv x])/\(v.ownBlock=(Value.slice o s.heap.turns.length cc).ownBlock∨ ∃q,v.ownBlock=some q/\W4.heap.size<=q)⟩)] ?_
 simp only[zt]
 repeat ((first|refine zd ?_|refine zk ?_);simp only[zp])
 refine bZ W4.heap.size _ _ 1 (by rfl) (Nat.le_refl _) (by rfl) qy (by simp) (fun W hW=>by go_simp;try rfl) (fun b6=>?_)
 simp only[zp]
 repeat ((first|refine zd ?_|refine zk ?_);simp only[zp])
 refine aP _ (by rfl) (by rfl) (by exact⟨.slice none (s.heap.turns.length+1) 0,none,0,rfl⟩) (fun W6 hE hF=>?_) (fun v Wa Wb ho hE=>?_) (fun v hv=>?_)
 ·have hE':Ext [] W4 W6:=hE
  obtain⟨b',hb',hge,hcc⟩:=hF _ (List.Mem.head _) (by kernel_rfl)
  cases hb'
  have hown6:W6.ownsRow N 3 1 (.slice o s.heap.turns.length cc) s.heap.turns.length (intCells s.heap.turns):=ah (Ms:=[]) (iM.out.rows.own 3 _ rfl) hE' (by simp)
  have hsrc:aB 1 W6 (.slice (some ⟨b6,0,none⟩) 1 1) 1 ([iv x]):=aB.of_block 1 1 hcc rfl (by decide)
  refine Does.mono (bP qo (by rfl) (by rfl) hown6 (by rfl) hsrc (one_one x) (by omega) (by omega) (by have:=hE'.size;have:=HB4.out.size;omega)) ?_
  rintro v' W7 ⟨ho,hgr,hcase⟩
  refine⟨aA ho,⟨ho,?_⟩,⟨hgr.os,hgr.tape,hgr.output,hgr.size,fun b hb hn=>hgr.block b hb (fun e=>hn (by rw[HM.out];exact Option.mem_toList.2 e.symm))⟩⟩
  rcases hcase with h1|h1
  ·exact .inl h1
  ·exact .inr ⟨_,h1,hE'.size⟩
 ·exact⟨ah (Ms:=[]) ho.1 hE (by simp),ho.2⟩
 obtain⟨o7,c7,rfl⟩:=hv
 simp only[zp]
 intro W5 hE hF
 obtain⟨lH,uH⟩:=hF _ (List.Mem.head _)
 have dZ:Ext Ms W4 W5:=hE
 have hbl:=(dZ.block wb iM.out.rows.lt hm1).trans iM.out.blk
 obtain⟨c5,f5,l5⟩:=cells_of_block hbl
 have fV:=Lib.hid (And.intro dZ (And.intro lH (And.intro uH hbl)))
 have uX:Below N w W5:=(HB4.out.mono dP).trans ⟨dZ.os,dZ.tape,dZ.output,dZ.size,fun k hk=>dZ.block k (by have:=HB4.out.size;omega) (fun h=>by have:=((iM.out.rows.own 3 _ rfl).lt k (by rw[HM.out] at h;exact Option.mem_toList.1 h)).1;omega)⟩
 have lQ:=Lib.hid uX
 clear hE hF dZ lH uH hbl uX hm1 hm2 qy c4 f4 Jn n40
 go_upto_region 3 with(fail)
 refine dD fun W6 kU=>?_
 have XA:gU N W6 wb (eU s {s.heap with turns:=s.heap.turns++[x]}) ⟨vt,vn,vw,.slice o7 (s.heap.turns.length+1) c7,vr,vh,vk,vs⟩ es:=by
  rw[kU]
  exact iM.out.put (i:=3) rfl ⟨3,1,.slice o7 (s.heap.turns.length+1) c7,s.heap.turns.length+1,intCells s.heap.turns++[iv x]⟩ fV.out.1 (fun m hm=>by rw[HM.out] at hm;exact Option.mem_toList.1 hm) fV.out.2.1 fV.out.2.2.1 (ak fV.out.2.2.2 _) (by simp[eQ,eU,intCells]) iM.out.es
 have lT:=Lib.hid (show Below N w W6 from by rw[kU];exact lQ.out.setCell pK _)
 obtain⟨c6,f6,l6⟩:=cells_of_block XA.blk
 have h7:W6.ownsRow N 3 1 (.slice o7 (s.heap.turns.length+1) c7) (s.heap.turns++[x]).length (intCells (s.heap.turns++[x])):=XA.rows.own 3 _ rfl
 rw[List.length_append,List.length_singleton] at h7
 obtain⟨g,rfl, -,hfg,hgl⟩:=dU h7 (by omega)
 obtain⟨cur,h7b,h7c,h7d,h7e,h7f,h7g⟩: ∃cur,N<=g/\W6.heap[g]? =some (.cells cur 3 (0,0))/\s.heap.turns.length+1<=c7/\c7<=maxLen/\cur.size=c7*1/\cur.toList.take ((s.heap.turns.length+1)*1)=intCells (s.heap.turns++[x]):=by
  obtain⟨h1,⟨h2,_⟩|⟨g',cc',cs,h2,h3,h4,h5,h6,h7,h8⟩⟩:=h7
  ·cases h2
  ·cases h2;exact⟨cs,h3,h4,h5,h6,h7,h8⟩
 have hHo:=holds_of_blockI (ss:=s.heap.turns++[x]) h7c (by rw[List.length_append,List.length_singleton, <-Nat.mul_one (s.heap.turns.length+1)];exact h7g)
 have hsort:=Go.Proofs.Tryz.slices_Sort_int g 0 c7 (s.heap.turns++[x]) W6 hHo hgl (by rw[List.length_append,List.length_singleton];omega)
 rw[List.length_append,List.length_singleton] at hsort
 have Fv:=Lib.hid (And.intro XA (And.intro h7b (And.intro h7c (And.intro h7d (And.intro h7e h7f)))))
 have HST:=Lib.hid hsort
 clear kU XA h7 h7b h7c h7d h7e h7f h7g hHo hsort c5 f5
 go_wp2_with fail
 refine HST.out.mono ?_
 rintro e W9 ⟨rfl,n9,os,rfl⟩
 (try go_wp2_with fail)
 go_end0
 have q0:=gJ.out
 have q1:=lN.out
 have hqq:=HQQ.out
 simp only[act,List.getD_cons_zero,hqq]
 rw[if_neg (by omega),if_neg (by simp)]
 have hne:((s.heap.turns++[x]).mergeSort fun a b=>decide (a<=b))=fP s.heap.last (fun i=>i==x ||s.heap.turns.contains i):=by
  rw[FD.out.2,FD.out.1] at*
  exact OU pt x hx (by omega) hqq
 have hlen:((s.heap.turns++[x]).mergeSort fun a b=>decide (a<=b)).length=(s.heap.turns++[x]).length:=List.length_mergeSort _
 have hown:=ownsRow_sortedI (n:=n9) (os:=os) (ss:=s.heap.turns++[x]) hlen Fv.out.2.1 Fv.out.2.2.1 (by rw[List.length_append,List.length_singleton];exact Fv.out.2.2.2.1) Fv.out.2.2.2.2.1 Fv.out.2.2.2.2.2
 have hgb:=grownBy_sortedI (w:=W6) (g:=g) (n:=n9) (os:=os) ((s.heap.turns++[x]).mergeSort fun a b=>decide (a<=b)).toArray
 have V9:Ext [g] W6 (Go.Sort.grow (Go.Sort.putRow (Value.int .i64) (Go.Sort.ahead W6 n9) g 0 ((s.heap.turns++[x]).mergeSort fun a b=>decide (a<=b)).toArray) os):=⟨hgb.os,hgb.tape,hgb.output,hgb.size,fun k hk hm=>hgb.block k hk (fun e=>hm (by simp[Option.some.inj e]))⟩
 refine⟨lT.out.trans ⟨V9.os,V9.tape,V9.output,V9.size,fun k hk=>V9.block k (by have:=lT.out.size;omega) (fun h=>by have:=Fv.out.2.1;have:=List.mem_singleton.1 h;omega)⟩,.inl ⟨rfl,rfl,_,es,Fv.out.1.over (i:=3) rfl (g:=g) rfl V9 (intCells ((s.heap.turns++[x]).mergeSort fun a b=>decide (a<=b))) ?_ ?_ rfl HO.out.es⟩⟩
 ·have h:=hown
  rw[List.length_append,List.length_singleton] at h
  show World.ownsRow _ N 3 1 (.slice (some ⟨g,0,none⟩) (s.heap.turns.length+1) c7) (s.heap.turns++[x]).length _
  rw[List.length_append,List.length_singleton]
  exact h
 ·rw[<-hne]
  simp only[eQ,eU]
  rw[hlen]
  rfl
structure kP (w:World) (s:gV) (V:SV) (es:List KE):Prop where
 pM:bW w V.pM s.led.field.ae
 MV:aT w V.MV s.led.notes
 bg:bn w V.bg s.heap.bg
 Qw:aN w V.Qw s.heap.turns
 Rh:aT w V.Rh s.heap.readings
 bG:lZ w V.hps V.Zj V.trs es s.bG
theorem kP.below {w W:World} {s:gV} {V:SV} {es:List KE} (h:kP w s V es) {B:Nat} (hb:Below B w W) (hB:w.heap.size<=B):kP W s V es:=
 ⟨h.pM.below hb hB,h.MV.below hb hB,h.bg.below hb hB,h.Qw.below hb hB,h.Rh.below hb hB,h.bG.below hb hB⟩
theorem gU.st {N:Nat} {w:World} {wb:Nat} {s:gV} {V:SV} {es:List KE} (h:gU N w wb s V es):kP w s V es where
 pM:=aB.dn (h.rows.own 0 _ rfl)
 MV:=aB.dn (h.rows.own 1 _ rfl)
 bg:=aB.dn (h.rows.own 2 _ rfl)
 Qw:=aB.dn (h.rows.own 3 _ rfl)
 Rh:=aB.dn (h.rows.own 4 _ rfl)
 bG:=⟨aB.dn (h.rows.own 5 _ rfl),⟨aB.dn (h.rows.own 6 _ rfl),fun e he=>by
  obtain⟨k,hk,rfl⟩:=List.getElem_of_mem he
  exact aB.dn (h.rows.own (8+k) _ (sK s V es (List.getElem?_eq_getElem hk)))⟩,h.es,aB.dn (h.rows.own 7 _ rfl)⟩
def aJ (s:gV):Int:=
 if cO s.led.field true≠0 then 11 else if dV s.led≠0 then 9 else if fault s.heap≠0 then 3
 else if kK.jv s.heap s.heap.turns≠0 then 11 else if kK.uC s.heap s.heap.turns=2 then 9
 else if kV s.bG≠0 then 3 else if fM s.bG true≠0 then 11 else 0
def Zv (s:gV) (w:World) (e:Ending) (w':World):Prop:=
 Below w.heap.size w w'/\((aJ s=0/\e= .returned (.tuple #[]))∨(aJ s≠0/\e= .panicked (refusal (aJ s))))
theorem Ze (f:aO) (tv:Value) (w:World) (ht:bW w tv f.ae):Calls Tryz.prog 8 #[fv f tv] w (fun e w'=>Below w.heap.size w w'/\ ∃v,e= .returned (.tuple #[v,iv (cO f true)])):=by
 refine(oO f tv w ht).mono ?_
 rintro e w' ⟨hb,⟨_,rfl⟩|⟨h0,v,rfl,_⟩⟩
 ·exact⟨hb,_,rfl⟩
 ·exact⟨hb,v,by rw[h0]⟩
theorem OJ (c:aQ) (hv jO tv:Value) (es:List KE) (w:World) (hc:lZ w hv jO tv es c):Calls Tryz.prog 97 #[kv hv jO tv] w (fun e w'=>Below w.heap.size w w'/\ ∃v u,e= .returned (.tuple #[v,u,iv (fM c true)])):=by
 refine(Ha c hv jO tv es w hc).mono ?_
 rintro e w' ⟨hb,⟨_,rfl⟩|⟨h0,v,u,rfl,_⟩⟩
 ·exact⟨hb,_,_,rfl⟩
 ·exact⟨hb,v,u,by rw[h0]⟩
theorem NQ (s:gV) (V:SV) (es:List KE) (w:World) (hS:kP w s V es):Calls Tryz.prog 47 #[.agg (bV s V)] w (Zv s w):=by
 obtain⟨vt,vn,vw,vu,vr,vh,vk,vs⟩:=V
 have HS:Hid (∀W,Below w.heap.size w W->kP W s ⟨vt,vn,vw,vu,vr,vh,vk,vs⟩ es):=Lib.hid (fun W hb=>hS.below hb (Nat.le_refl _))
 obtain⟨w0,hw0⟩: ∃w0,w0=w.alloc (.cells (bV s ⟨vt,vn,vw,vu,vr,vh,vk,vs⟩) 46):=⟨_,rfl⟩
 have HB0:Hid (Below w.heap.size w w0):=Lib.hid (by rw[hw0];exact af (Below.refl _ _) _)
 have HK0:Hid (w0.heap[w.heap.size]? =some (.cells (bV s ⟨vt,vn,vw,vu,vr,vh,vk,vs⟩) 46 (0,0))):=Lib.hid (by rw[hw0];exact ag _ _)
 have hsz:w0.heap.size=w.heap.size+1:=by rw[hw0];simp
 clear hS
 go_enter Tryz.func47,Tryz.ntmps47
 go_upto_region 1 with(fail)
 refine dD fun W1 hW1=>?_
 rw[<-hw0] at hW1
 subst hW1
 obtain⟨c0,f0,l0⟩:=cells_of_block HK0.out
 clear hw0
 go_wp2_with fail
 have HB:=HB0
 have HK:=HK0
 refine(Ze s.led.field _ _ (HS.out _ HB0.out).pM).mono ?_
 rintro e X1 ⟨hb,v,rfl⟩
 have HB1:=Lib.hid (aH HB.out hb)
 have U7:=Lib.hid ((hb.block _ l0).trans HK.out)
 obtain⟨c1,f1,l1⟩:=cells_of_block U7.out
 clear hb c0 f0
 obtain⟨q0,hq0⟩: ∃q,cO s.led.field true=q:=⟨_,rfl⟩
 rw[hq0]
 have gJ:=Lib.hid hq0
 clear hq0
 go_wp2_with fail
 refine(cu 11 [q0 !=0] X1 (by simp) _ (by simp[bI]) _ _ rfl).mono ?_
 rintro e X2 ⟨hb,⟨hc,rfl⟩|⟨hc,rfl⟩⟩
 rotate_left
 ·have hz:q0≠0:=by simpa using hc
  have hv:aJ s=11:=by
   unfold aJ
   simp only[gJ.out]
   rw[if_pos hz]
  exact⟨rfl,aH HB1.out hb,.inr ⟨by rw[hv];decide,by rw[hv]⟩⟩
 have hz:q0=0:=by simpa using hc
 have HZ0:=Lib.hid hz
 have HB2:=Lib.hid (aH HB1.out hb)
 have XO:=Lib.hid ((hb.block _ l1).trans U7.out)
 obtain⟨c2,f2,l2⟩:=cells_of_block XO.out
 clear hb hc hz c1 f1
 go_wp2_with fail
 refine(yD s.led vt vn _ (HS.out _ HB2.out).pM (HS.out _ HB2.out).MV).mono ?_
 rintro e X3 ⟨rfl,hb⟩
 have HB3:=Lib.hid (aH HB2.out hb)
 have HK3:=Lib.hid ((hb.block _ l2).trans XO.out)
 obtain⟨c3,f3,l3⟩:=cells_of_block HK3.out
 clear hb c2 f2
 obtain⟨q1,hq1⟩: ∃q,dV s.led=q:=⟨_,rfl⟩
 rw[hq1]
 have lN:=Lib.hid hq1
 clear hq1
 go_wp2_with fail
 refine(cu 9 [q1 !=0] X3 (by simp) _ (by simp[bI]) _ _ rfl).mono ?_
 rintro e X4 ⟨hb,⟨hc,rfl⟩|⟨hc,rfl⟩⟩
 rotate_left
 ·have hz:q1≠0:=by simpa using hc
  have hv:aJ s=9:=by
   unfold aJ
   simp only[gJ.out,lN.out]
   rw[if_neg (by have:=HZ0.out;omega)]
   rw[if_pos hz]
  exact⟨rfl,aH HB3.out hb,.inr ⟨by rw[hv];decide,by rw[hv]⟩⟩
 have hz:q1=0:=by simpa using hc
 have HZ1:=Lib.hid hz
 have HB4:=Lib.hid (aH HB3.out hb)
 have HK4:=Lib.hid ((hb.block _ l3).trans HK3.out)
 obtain⟨c4,f4,l4⟩:=cells_of_block HK4.out
 clear hb hc hz c3 f3
 go_wp2_with fail
 refine(kK.check_any s.heap vw vu vr _ (HS.out _ HB4.out).bg (HS.out _ HB4.out).Qw (HS.out _ HB4.out).Rh).mono ?_
 rintro e X5 ⟨rfl,hb⟩
 have lD:=Lib.hid (aH HB4.out hb)
 have WY:=Lib.hid ((hb.block _ l4).trans HK4.out)
 obtain⟨c5,f5,l5⟩:=cells_of_block WY.out
 clear hb c4 f4
 obtain⟨q2,hq2⟩: ∃q,fault s.heap=q:=⟨_,rfl⟩
 rw[hq2]
 have qB:=Lib.hid hq2
 clear hq2
 go_wp2_with fail
 refine(cu 3 [q2 !=0] X5 (by simp) _ (by simp[bI]) _ _ rfl).mono ?_
 rintro e X6 ⟨hb,⟨hc,rfl⟩|⟨hc,rfl⟩⟩
 rotate_left
 ·have hz:q2≠0:=by simpa using hc
  have hv:aJ s=3:=by
   unfold aJ
   simp only[gJ.out,lN.out,qB.out]
   rw[if_neg (by have:=HZ0.out;omega)]
   rw[if_neg (by have:=HZ1.out;omega)]
   rw[if_pos hz]
  exact⟨rfl,aH lD.out hb,.inr ⟨by rw[hv];decide,by rw[hv]⟩⟩
 have hz:q2=0:=by simpa using hc
 have HZ2:=Lib.hid hz
 have lT:=Lib.hid (aH lD.out hb)
 have HK6:=Lib.hid ((hb.block _ l5).trans WY.out)
 obtain⟨c6,f6,l6⟩:=cells_of_block HK6.out
 clear hb hc hz c5 f5
 go_wp2_with fail
 refine(kK.Qi s.heap vw vu vr vu s.heap.turns _ (HS.out _ lT.out).bg (HS.out _ lT.out).Qw (HS.out _ lT.out).Rh (HS.out _ lT.out).Qw).mono ?_
 rintro e X7 ⟨rfl,hb⟩
 have yC:=Lib.hid (aH lT.out hb)
 have uY:=Lib.hid ((hb.block _ l6).trans HK6.out)
 obtain⟨c7,f7,l7⟩:=cells_of_block uY.out
 clear hb c6 f6
 obtain⟨q3,hq3⟩: ∃q,kK.jv s.heap s.heap.turns=q:=⟨_,rfl⟩
 rw[hq3]
 have AV:=Lib.hid hq3
 clear hq3
 obtain⟨q4,hq4⟩: ∃q,kK.uC s.heap s.heap.turns=q:=⟨_,rfl⟩
 rw[hq4]
 have Nz:=Lib.hid hq4
 clear hq4
 go_wp2_with fail
 refine(cu 11 [q3 !=0] X7 (by simp) _ (by simp[bI]) _ _ rfl).mono ?_
 rintro e X8 ⟨hb,⟨hc,rfl⟩|⟨hc,rfl⟩⟩
 rotate_left
 ·have hz:q3≠0:=by simpa using hc
  have hv:aJ s=11:=by
   unfold aJ
   simp only[gJ.out,lN.out,qB.out,AV.out,Nz.out]
   rw[if_neg (by have:=HZ0.out;omega)]
   rw[if_neg (by have:=HZ1.out;omega)]
   rw[if_neg (by have:=HZ2.out;omega)]
   rw[if_pos hz]
  exact⟨rfl,aH yC.out hb,.inr ⟨by rw[hv];decide,by rw[hv]⟩⟩
 have hz:q3=0:=by simpa using hc
 have HZ3:=Lib.hid hz
 have lQ:=Lib.hid (aH yC.out hb)
 have HK8:=Lib.hid ((hb.block _ l7).trans uY.out)
 obtain⟨c8,f8,l8⟩:=cells_of_block HK8.out
 clear hb hc hz c7 f7
 go_wp2_with fail
 go_wp2_with fail
 refine(cu 9 [q4==2] X8 (by simp) _ (by simp[bI]) _ _ rfl).mono ?_
 rintro e X9 ⟨hb,⟨hc,rfl⟩|⟨hc,rfl⟩⟩
 rotate_left
 ·have hz:q4=2:=by simpa using hc
  have hv:aJ s=9:=by
   unfold aJ
   simp only[gJ.out,lN.out,qB.out,AV.out,Nz.out]
   rw[if_neg (by have:=HZ0.out;omega)]
   rw[if_neg (by have:=HZ1.out;omega)]
   rw[if_neg (by have:=HZ2.out;omega)]
   rw[if_neg (by have:=HZ3.out;omega)]
   rw[if_pos hz]
  exact⟨rfl,aH lQ.out hb,.inr ⟨by rw[hv];decide,by rw[hv]⟩⟩
 have hz:q4≠2:=by simpa using hc
 have HZ4:=Lib.hid hz
 have oM:=Lib.hid (aH lQ.out hb)
 have BH:=Lib.hid ((hb.block _ l8).trans HK8.out)
 obtain⟨c9,f9,l9⟩:=cells_of_block BH.out
 clear hb hc hz c8 f8
 go_wp2_with fail
 refine(zL s.bG vh vk vs es _ (HS.out _ oM.out).bG).mono ?_
 rintro e X10 ⟨rfl,hb⟩
 have Xc:=Lib.hid (aH oM.out hb)
 have acS:=Lib.hid ((hb.block _ l9).trans BH.out)
 obtain⟨c10,f10,l10⟩:=cells_of_block acS.out
 clear hb c9 f9
 obtain⟨q5,hq5⟩: ∃q,kV s.bG=q:=⟨_,rfl⟩
 rw[hq5]
 have ZC:=Lib.hid hq5
 clear hq5
 go_wp2_with fail
 refine(cu 3 [q5 !=0] X10 (by simp) _ (by simp[bI]) _ _ rfl).mono ?_
 rintro e X11 ⟨hb,⟨hc,rfl⟩|⟨hc,rfl⟩⟩
 rotate_left
 ·have hz:q5≠0:=by simpa using hc
  have hv:aJ s=3:=by
   unfold aJ
   simp only[gJ.out,lN.out,qB.out,AV.out,Nz.out,ZC.out]
   rw[if_neg (by have:=HZ0.out;omega)]
   rw[if_neg (by have:=HZ1.out;omega)]
   rw[if_neg (by have:=HZ2.out;omega)]
   rw[if_neg (by have:=HZ3.out;omega)]
   rw[if_neg (by have:=HZ4.out;omega)]
   rw[if_pos hz]
  exact⟨rfl,aH Xc.out hb,.inr ⟨by rw[hv];decide,by rw[hv]⟩⟩
 have hz:q5=0:=by simpa using hc
 have HZ5:=Lib.hid hz
 have UT:=Lib.hid (aH Xc.out hb)
 have acR:=Lib.hid ((hb.block _ l10).trans acS.out)
 obtain⟨c11,f11,l11⟩:=cells_of_block acR.out
 clear hb hc hz c10 f10
 go_wp2_with fail
 refine(OJ s.bG vh vk vs es _ (HS.out _ UT.out).bG).mono ?_
 rintro e X12 ⟨hb,v1,v2,rfl⟩
 have Qr:=Lib.hid (aH UT.out hb)
 have acQ:=Lib.hid ((hb.block _ l11).trans acR.out)
 obtain⟨c12,f12,l12⟩:=cells_of_block acQ.out
 clear hb c11 f11
 obtain⟨q6,hq6⟩: ∃q,fM s.bG true=q:=⟨_,rfl⟩
 rw[hq6]
 have HQ6:=Lib.hid hq6
 clear hq6
 go_wp2_with fail
 refine(cu 11 [q6 !=0] X12 (by simp) _ (by simp[bI]) _ _ rfl).mono ?_
 rintro e X13 ⟨hb,⟨hc,rfl⟩|⟨hc,rfl⟩⟩
 rotate_left
 ·have hz:q6≠0:=by simpa using hc
  have hv:aJ s=11:=by
   unfold aJ
   simp only[gJ.out,lN.out,qB.out,AV.out,Nz.out,ZC.out,HQ6.out]
   rw[if_neg (by have:=HZ0.out;omega)]
   rw[if_neg (by have:=HZ1.out;omega)]
   rw[if_neg (by have:=HZ2.out;omega)]
   rw[if_neg (by have:=HZ3.out;omega)]
   rw[if_neg (by have:=HZ4.out;omega)]
   rw[if_neg (by have:=HZ5.out;omega)]
   rw[if_pos hz]
  exact⟨rfl,aH Qr.out hb,.inr ⟨by rw[hv];decide,by rw[hv]⟩⟩
 have hz:q6=0:=by simpa using hc
 have HZ6:=Lib.hid hz
 have ac1:=Lib.hid (aH Qr.out hb)
 have afV:=Lib.hid ((hb.block _ l12).trans acQ.out)
 obtain⟨c13,f13,l13⟩:=cells_of_block afV.out
 clear hb hc hz c12 f12
 (try go_wp2_with fail)
 go_end0
 have hv:aJ s=0:=by
  unfold aJ
  simp only[gJ.out,lN.out,qB.out,AV.out,Nz.out,ZC.out,HQ6.out]
  rw[if_neg (by have:=HZ0.out;omega)]
  rw[if_neg (by have:=HZ1.out;omega)]
  rw[if_neg (by have:=HZ2.out;omega)]
  rw[if_neg (by have:=HZ3.out;omega)]
  rw[if_neg (by have:=HZ4.out;omega)]
  rw[if_neg (by have:=HZ5.out;omega)]
  rw[if_neg (by have:=HZ6.out;omega)]
 exact⟨ac1.out,.inl ⟨hv,rfl⟩⟩
end Go.Proofs.YtabpkkbiioihaaaGreatDoor.Bk
end

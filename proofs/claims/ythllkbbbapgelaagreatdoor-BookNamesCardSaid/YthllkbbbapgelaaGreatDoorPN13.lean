/-
  Texts of this claim, packed by a program: DH DI DJ DK DL DM DN DO DP.
-/
import Derived.WalkKit
import Derived.WalkLawsBesides
import Derived.WalkSpells
import Derived.Outline
import Derived.Handy
import Derived.KernelRfl
import Derived.Lib.Hide
import Derived.Sort.OwnSortedInts
import Derived.Lib.SliceRun
import Derived.Test.YthllkbbbapgelaaGreatDoorPN1
import Derived.Test.YthllkbbbapgelaaGreatDoorPN10
import Derived.Test.YthllkbbbapgelaaGreatDoorPN12
set_option maxHeartbeats 8000000
set_option maxRecDepth 100000
set_option linter.all false
theorem _root_.zcK {P:Prop} (h:P:=by
 have Iq:Ext [] W2 Wq:=Ι;refine RX.bM 252 #[iv y,iv z,iv 9] (by go_simp;try rfl) ?_;refine(ui y z 9 Wq ϑ).mono ?_;exact zar):P:=h
theorem _root_.zb1 {P:Prop} (h:P:=by
 obtain⟨k1,e1⟩:=iy.1 h1;obtain⟨k2,e2⟩:=iy.1 h2;exact⟨(h _ k1).trans (by rw[e1]),(h _ k2).trans (by rw[e2])⟩):P:=h
theorem _root_.zcg {P:Prop} (h:P:=by
 rw[List.any_eq_false];intro x hx;obtain⟨j,hj,rfl⟩:=lK hx;have:=IB j ϑ;simpa [hj] using this):P:=h
theorem _root_.zbx {P:Prop} (h:P:=by
 rintro v' W7 ⟨ho,Y7,θ⟩;refine⟨aR ho,⟨ho,?_⟩,⟨Y7.os,Y7.tape,Y7.output,Y7.size,fun b hb hn=>Y7.block b hb (fun e=>hn (by rw[HM.o];exact dh.2 e.symm))⟩⟩;rcases θ with h1|h1
 ·exact .inl h1
 ·exact .inr ⟨_,h1,Iq.size⟩):P:=h
theorem _root_.zaW {P:Prop} (h:P:=by
 obtain⟨h1,⟨h2,rfl⟩|⟨g',cc,cs,h2,h3,h4,h5,h6,h7,h8⟩⟩:=ho
 ·cases h2
 ·cases h2;exact⟨h5,h6⟩):P:=h
theorem _root_.zaS {P:Prop} (h:P:=by
 have H2:=aa (af ho2 (af hE1 Ι));clear ho1 ho2 hE1 Ι hA;go_wp2_with (at_builtin;refine iP rfl _ _ rfl _ _ _ rfl rfl happ ?_)
 go_returns;refine⟨by simp;exact HO.o.2.1,?_,((Ext.nil HE.o).trans H2.o.2.1).trans H2.o.2.2⟩;have h9:=H2.o.1;rw[<-HO.o.2.1];have hl:=HO.o.1.1;have hx:(xs.take (i*3)++xs.drop (i*3+3)++xs.drop (n*3-3)).take (m*3)=xs.take (i*3)++xs.drop (i*3+3):=by
  have:=HO.o.2.1;rw[lJ (by simp only[cu,fJ,jR,hl];omega),ji (by simp only[cu,fJ,jR,hl];omega)]
 rw[<-hx];exact h9):P:=h
theorem _root_.zaH {P:Prop} (h:P:=by
 go_wp2;go_returns;exact⟨.slice none 0 0,by simp,⟨by simp,.inl ⟨rfl,rfl⟩⟩,aF _ _⟩):P:=h
section
namespace Go.Proofs.Z.Bk
open Go.RowKit Go.RG Go.SL Go.Shelf gK Go.TB Go.Proofs.Z.xC
theorem fQ {w:World} {N:Nat} {t:TypeId} {size:Nat} {o:Option Addr} {n c m:Nat} {xs:List Value} (h:w.ownsRow N t size (.slice o m c) n xs) (hn:0<n):
 ∃g,o=some ⟨g,0,none⟩/\(∀(j:Nat) (hj:j<xs.length),w.cell? ⟨g,j,none⟩=some xs[j])/\(∀j,w.frozen? ⟨g,j,none⟩=false)/\g<w.heap.size:=by
 obtain⟨h1,⟨h2,rfl⟩|⟨g,cc,cs,h2,h3,h4,h5,h6,h7,h8⟩⟩:=h
 ·omega
 ·cases h2;obtain⟨k0,k1,k2⟩:=ae h4;refine⟨g,rfl,fun j hj=>?_,k1,k2⟩;rw[k0, <-Array.getElem?_toList];have:(cs.toList.take (n*size))[j]? =some xs[j]:=by rw[h8];exact dn hj
  rw[List.getElem?_take] at this;split at this
  ·exact this
  ·cases this
theorem kr {w:World} {N:Nat} {t:TypeId} {size:Nat} {g n c m:Nat} {xs:List Value} (h:w.ownsRow N t size (.slice (some ⟨g,0,none⟩) m c) n xs) (j:Nat) (u:Value):(w.setCell ⟨g,j,none⟩ u).ownsRow N t size (.slice (some ⟨g,0,none⟩) m c) n (xs.set j u):=by
 obtain⟨h1,⟨h2,rfl⟩|⟨g',cc,cs,h2,h3,h4,h5,h6,h7,h8⟩⟩:=h
 ·cases h2
 ·cases h2;refine⟨by simpa using h1,.inr ⟨g,c,_,rfl,h3,aA h4 u,h5,h6,by simpa using h7,?_⟩⟩;rw[<-h8,Array.toList_setIfInBounds,List.take_set]
theorem iG {α:Type} (f:α->List Value) (k:Nat) (hk: ∀x,(f x).length=k): ∀(l:List α) (i j:Nat) (x:α),l[i]? =some x->j<k->(l.flatMap f)[i*k+j]? =(f x)[j]? :=by
 intro l;induction l with
 |nil=>intro i j x h _;cases h
 |cons y l ih=>
  intro i j x h hj;rw[List.flatMap_cons];cases i with
  |zero=>
   simp only[List.getElem?_cons_zero,Option.some.injEq] at h;subst h;rw[sD (by rw[hk];omega)];congr 1;omega
  |succ i=>
   rw[mD (by rw[hk,Nat.succ_mul];omega),hk];rw[show(i+1)*k+j-k=i*k+j from by rw[Nat.succ_mul];omega]
   exact ih i j x (by simpa using h) hj
theorem zy {α:Type} (f:α->List Value) (k:Nat) (hk: ∀x,(f x).length=k): ∀(l:List α) (i j:Nat) (x y:α) (u:Value),l[i]? =some x->j<k->(f x).set j u=f y->(l.flatMap f).set (i*k+j) u=(l.set i y).flatMap f:=by
 intro l;induction l with
 |nil=>intro i j x y u h _ _;cases h
 |cons z l ih=>
  intro i j x y u h hj hu;rw[List.flatMap_cons];cases i with
  |zero=>
   simp only[List.getElem?_cons_zero,Option.some.injEq] at h;subst h;rw[List.set_append_left _ _ (by rw[hk];omega),List.set_cons_zero,List.flatMap_cons, <-hu];congr 2;omega
  |succ i=>
   rw[nZ _ _ (by rw[hk,Nat.succ_mul];omega),hk,List.set_cons_succ,List.flatMap_cons];rw[show(i+1)*k+j-k=i*k+j from by rw[Nat.succ_mul];omega,ih i j x y u (by simpa using h) hj hu]
theorem U5 (l:List dF) (i:Nat) (h:i<l.length):(aB l)[i*2+0]? =some (iv l[i].1)/\(aB l)[i*2+1]? =some (iv l[i].2):=
 ⟨iG _ 2 (fun _=>rfl) l i 0 _ (dn h) ϑ,iG _ 2 (fun _=>rfl) l i 1 _ (dn h) ϑ⟩
theorem Ko (l:List dF) (i:Nat) (h:i<l.length) (a b:Int):((aB l).set (i*2+0) (iv a)).set (i*2+1) (iv b)=aB (l.set i (a,b)):=by
 unfold aB;rw[zy _ 2 (fun _=>rfl) l i 0 _ (a,l[i].2) (iv a) (dn h) ϑ rfl,zy _ 2 (fun _=>rfl) (l.set i (a,l[i].2)) i 1 (a,l[i].2) (a,b) (iv b) (by simp[h]) ϑ rfl];simp
theorem iW.over {N:Nat} {w W:World} {wb:Nat} {s s':iE} {V:SV} {es Ο:List KE} (h:iW N w wb s V es) {i:Nat} {r:Row} (hr:(gB s V es)[i]? =some r) {g:Nat} (hg:r.v.ownBlock=some g) (hE:Ext [g] w W) (xs:List Value)
 (ho:W.ownsRow N r.t r.size r.v r.n xs) (hrows:gB s' V Ο=(gB s V es).set i ⟨r.t,r.size,r.v,r.n,xs⟩) (hsc:bG s' V=bG s V) (hes:Ο.map (·.2)=s'.cK.aQ):iW N W wb s' V Ο:=by
 refine⟨?_,?_,hes⟩
 ·rw[hsc];refine(hE.block wb h.rows.lt (fun hm=>h.rows.off i r hr ?_)).trans h.blk;rw[hg,dX.1 hm]
 ·rw[hrows];exact h.rows.put hr ⟨r.t,r.size,r.v,r.n,xs⟩ hE (fun m hm=> .inr (.inr (by rw[hg,dX.1 hm]))) ho (.inl rfl)
theorem Yp (l:List FZ) (i:Nat) (h:i<l.length):(bP l)[i*5+3]? =some (iv l[i].2.2.2.1)/\(bP l)[i*5+4]? =some (iv l[i].2.2.2.2):=
 ⟨iG _ 5 (fun _=>rfl) l i 3 _ (dn h) ϑ,iG _ 5 (fun _=>rfl) l i 4 _ (dn h) ϑ⟩
theorem Yo (l:List FZ) (i:Nat) (h:i<l.length) (a b:Int):((bP l).set (i*5+3) (iv a)).set (i*5+4) (iv b)=bP (l.set i (l[i].1,l[i].2.1,l[i].2.2.1,(a,b))):=by
 unfold bP;rw[zy _ 5 (fun _=>rfl) l i 3 _ (l[i].1,l[i].2.1,l[i].2.2.1,(a,l[i].2.2.2.2)) (iv a) (dn h) ϑ rfl,zy _ 5 (fun _=>rfl) (l.set i (l[i].1,l[i].2.1,l[i].2.2.1,(a,l[i].2.2.2.2))) i 4 (l[i].1,l[i].2.1,l[i].2.2.1,(a,l[i].2.2.2.2)) (l[i].1,l[i].2.1,l[i].2.2.1,(a,b)) (iv b) (by simp[h]) ϑ rfl];simp
theorem UB {w:World} {g:Nat} {l:List FZ} (h: ∀(j:Nat) (hj:j<(bP l).length),w.cell? ⟨g,j,none⟩=some (bP l)[j]) {i:Nat} (hi:i<l.length):w.cell? ⟨g,i*5+3,none⟩=some (iv l[i].2.2.2.1)/\w.cell? ⟨g,i*5+4,none⟩=some (iv l[i].2.2.2.2):=by
 obtain⟨h1,h2⟩:=Yp l i hi;exact zb1
theorem Gx {w:World} {g:Nat} {l:List dF} (h: ∀(j:Nat) (hj:j<(aB l).length),w.cell? ⟨g,j,none⟩=some (aB l)[j]) {i:Nat} (hi:i<l.length):w.cell? ⟨g,i*2,none⟩=some (iv l[i].1)/\w.cell? ⟨g,i*2+1,none⟩=some (iv l[i].2):=by
 obtain⟨h1,h2⟩:=U5 l i hi;exact zb1
theorem Ij (N:Nat) (w:World) (wb:Nat) (s:iE) (V:SV) (es:List KE) (ns:Value) (x:Nat) (y:Int) (z:Int) (hO:iW N w wb s V es) (hn:qc N w ns [(x:Int),y,z]) (hG:eB s) (hx:0<=y/\y<=9999):Ϝ 163 #[.pointer (some ⟨wb,0,none⟩),ns] w (pJ N wb (ib s .bJ [(x:Int),y,z]) w):=by
 obtain⟨vt,vn,vw,vu,vr,vh,vk,vs⟩:=V;obtain⟨o,cc,rfl⟩: ∃o c,vw= .slice o s.heap.bJ.length c:=aR (n:=s.heap.bJ.length) (hO.rows.own 2 _ rfl);have HO:=aa hO;have fG:=dR hO;obtain⟨b,c,rfl,hbN,hcs⟩:=hn;have lb:b<w.heap.size:=ϑ;have lw:=hO.rows.lt;have uf:=hO.rows.base;have HW:Hid (∀W,Below N w W->b<W.heap.size/\ ∀(j:Nat) (h:j<[(x:Int),y,z].length),W.cell? ⟨b,j,none⟩=some (iv [(x:Int),y,z][j])):=aa (fun W hB=>⟨by have:=hB.size;omega,fun j h=>(gX (hB.block b hbN)).trans (hcs j h)⟩);obtain⟨c0,f0,l0⟩:=ae hO.blk;have mO:=hcs 0 ϕ;simp only[au] at mO;have sZ:=hcs 1 ϕ;simp only[au] at sZ;have Bp:=hcs 2 ϕ;simp only[au] at Bp;have R9:Hid (Ϙ w w):=aa (aF _ _);have hl4:=hG.heap.1;have I4:=hG.MV;have HR5:=aa I4;clear I4;clear hO hcs hG;go_enter Tryz.func163,Tryz.ntmps163;go_wp2_with fail
 refine(wz x wb s _ w ((R9.o.block _ lw).trans HO.o.blk) hl4).mono ?_;rintro e W1 ⟨hb,⟨hc,rfl⟩|⟨hc,rfl⟩⟩;rotate_left
 ·simp at hc;exact zaf
 simp at hc;have Α:=aa (aV R9.o hb);have Jz:=aa hb;have pK:=aa hc;clear hb hc c0 f0 mO sZ Bp;obtain⟨c1,f1,l1⟩:=ae ((Α.o.block _ lw).trans HO.o.blk);obtain⟨uD,Y8⟩:=HW.o W1 (Α.o.mono fG);have Φ:=Y8 0 ϕ;simp only[au] at Φ;have n11:=Y8 1 ϕ;simp only[au] at n11;have n12:=Y8 2 ϕ;simp only[au] at n12;clear Y8;go_wp2_with fail
 refine zg 6 [] none [] ?_;simp only[zt];repeat ((first|refine zd ?_|refine zk ?_);simp only[zp])
 intro W2 hE hF;have ζ:=aa (aV Α.o hE.below);clear hE hF c1 f1 uD Φ n11 n12;obtain⟨c2,f2,l2⟩:=ae ((ζ.o.block _ lw).trans HO.o.blk);obtain⟨vF,γ⟩:=HW.o W2 (ζ.o.mono fG);have n20:=γ 0 ϕ;simp only[au] at n20;have n21:=γ 1 ϕ;simp only[au] at n21;have n22:=γ 2 ϕ;simp only[au] at n22;clear γ;go_wp2_with fail
 refine(xY _ _ _ _ _ ϑ).mono ?_;rintro e W3 ⟨hb,⟨hc,rfl⟩|⟨hc,rfl⟩⟩;rotate_left
 ·simp at hc;exact zah
 simp at hc;have q0:=aa (aV ζ.o hb);have HS3:=aa hb;have Uy:=aa hc;clear hb hc c2 f2 vF n20 n21 n22;obtain⟨c3,f3,l3⟩:=ae ((q0.o.block _ lw).trans HO.o.blk);obtain⟨GM,gT⟩:=HW.o W3 (q0.o.mono fG);have n30:=gT 0 ϕ;simp only[au] at n30;have n31:=gT 1 ϕ;simp only[au] at n31;have n32:=gT 2 ϕ;simp only[au] at n32;clear gT;go_wp2_with fail
 refine zg 16 [] none [] ?_;simp only[zt];repeat ((first|refine zd ?_|refine zk ?_);simp only[zp])
 intro W4 hE hF;have gJ:=aa (aV q0.o hE.below);clear hE hF c3 f3 GM n30 n31 n32;obtain⟨c4,f4,l4⟩:=ae ((gJ.o.block _ lw).trans HO.o.blk);obtain⟨ML,je⟩:=HW.o W4 (gJ.o.mono fG);have n40:=je 0 ϕ;simp only[au] at n40;have n41:=je 1 ϕ;simp only[au] at n41;have n42:=je 2 ϕ;simp only[au] at n42;clear je;have q1:=pK.o;have hxl:x<s.heap.bJ.length:=by have:=HR5.o;omega
 have Gm:=(HO.o.below gJ.o).rows.own 2 _ rfl;obtain⟨g,rfl,hcg,hfg,hgl⟩:=fQ Gm (by show 0<s.heap.bJ.length;omega);obtain⟨g0,g1⟩:=Gx hcg hxl;clear hcg q1 Gm;go_wp2_with fail
 go_end0
 have q1:=pK.o;have iN:=Uy.o;simp only[ib,bQ,bR,dw];(repeat (first|rw[aG ϑ]|rw[ak ϑ]))
 simp only[Int.toNat_natCast];have yu:=HO.o.below gJ.o;have hgN:N<=g:=((yu.rows.own 2 _ rfl).lt g rfl).1;have hS:=(kr (kr (yu.rows.own 2 _ rfl) (x*2+0) (iv y)) (x*2+1) (iv z));simp only[Ko _ _ hxl] at hS;exact⟨(((gJ.o.mono fG).setCell hgN _).setCell hgN _),.inl ⟨rfl,rfl,_,es,yu.over (i:=2) rfl (g:=g) rfl ((fB).trans fB) (aB (s.heap.bJ.set x (y,z))) hS (by simp[gB,lq,mE,gI,eH]) rfl HO.o.es⟩⟩
theorem qA (N:Nat) (w:World) (wb:Nat) (s:iE) (V:SV) (es:List KE) (ns:Value) (x:Nat) (y:Int) (z:Int) (hO:iW N w wb s V es) (hn:qc N w ns [(x:Int),y,z]) (hx:0<=y/\y<=9999):Ϝ 169 #[.pointer (some ⟨wb,0,none⟩),ns] w (pJ N wb (ib s .strong [(x:Int),y,z]) w):=by
 obtain⟨vt,vn,vw,vu,vr,vh,vk,vs⟩:=V;obtain⟨o,cc,rfl⟩: ∃o c,vh= .slice o s.cK.heaps.length c:=aR (n:=s.cK.heaps.length) (hO.rows.own 5 _ rfl);have HO:=aa hO;have fG:=dR hO;obtain⟨b,c,rfl,hbN,hcs⟩:=hn;have lb:b<w.heap.size:=ϑ;have lw:=hO.rows.lt;have uf:=hO.rows.base;have HW:Hid (∀W,Below N w W->b<W.heap.size/\ ∀(j:Nat) (h:j<[(x:Int),y,z].length),W.cell? ⟨b,j,none⟩=some (iv [(x:Int),y,z][j])):=aa (fun W hB=>⟨by have:=hB.size;omega,fun j h=>(gX (hB.block b hbN)).trans (hcs j h)⟩);obtain⟨c0,f0,l0⟩:=ae hO.blk;have mO:=hcs 0 ϕ;simp only[au] at mO;have sZ:=hcs 1 ϕ;simp only[au] at sZ;have Bp:=hcs 2 ϕ;simp only[au] at Bp;have Uy:Hid (Ϙ w w):=aa (aF _ _);clear hO hcs;go_enter Tryz.func169,Tryz.ntmps169;go_wp2_with fail
 refine zg 10 [] none [] ?_;simp only[zt];repeat ((first|refine zd ?_|refine zk ?_);simp only[zp])
 intro W1 hE hF;have R9:=aa (aV Uy.o hE.below);clear hE hF c0 f0 mO sZ Bp;obtain⟨c1,f1,l1⟩:=ae ((R9.o.block _ lw).trans HO.o.blk);obtain⟨uD,Y8⟩:=HW.o W1 (R9.o.mono fG);have Φ:=Y8 0 ϕ;simp only[au] at Φ;have n11:=Y8 1 ϕ;simp only[au] at n11;have n12:=Y8 2 ϕ;simp only[au] at n12;clear Y8;go_wp2_with fail
 refine(gY _ _ _).mono ?_;rintro e W2 ⟨hb,⟨hc,rfl⟩|⟨hc,rfl⟩⟩;rotate_left
 ·simp at hc;exact zaf
 simp at hc;have Α:=aa (aV R9.o hb);have HS2:=aa hb;have iN:=aa hc;clear hb hc c1 f1 uD Φ n11 n12;obtain⟨c2,f2,l2⟩:=ae ((Α.o.block _ lw).trans HO.o.blk);obtain⟨vF,γ⟩:=HW.o W2 (Α.o.mono fG);have n20:=γ 0 ϕ;simp only[au] at n20;have n21:=γ 1 ϕ;simp only[au] at n21;have n22:=γ 2 ϕ;simp only[au] at n22;clear γ;go_wp2_with fail
 refine RX.fw (fun ps W'=> ¬(y<=z/\z<=100/\z<=y+9)/\ps=jm 2/\Below N w W') 16 [] none [(15,⟨fun _ v=>v=rv (y,z),fun _ _ _=>(y<=z/\z<=100/\z<=y+9)⟩)] (by rintro ps a1 Wx hdf ⟨h1,rfl,h3⟩;refine⟨hdf,um (c:=2) h3 ?_ ϖ⟩;have q0:=iN.o;simp only[ib,bQ,bR,dw];(repeat (first|rw[aG ϑ]|rw[ak ϑ]))) ϰ ϰ ?_
 simp only[zt];repeat (refine RX.zd ?_;simp only[zp])
 refine RX.aY _ ϱ ϱ ⟨_,rfl⟩ (fun Wq Ι hF2=>?_) (fun v Wa Wb ho hE=>ho) (fun v hv=>?_)
 ·exact zcK
 obtain rfl:v=rv (y,z):=hv;simp only[zp];intro W3 hE hF;have hc:y<=z/\z<=100/\z<=y+9:=hF _ (aW _);have ζ:=aa (aV Α.o (show Ext [] W2 W3 from hE).below);have pK:=aa hc;clear hE hF hc c2 f2 vF n20 n21 n22;obtain⟨c3,f3,l3⟩:=ae ((ζ.o.block _ lw).trans HO.o.blk);obtain⟨GM,gT⟩:=HW.o W3 (ζ.o.mono fG);have n30:=gT 0 ϕ;simp only[au] at n30;have n31:=gT 1 ϕ;simp only[au] at n31;have n32:=gT 2 ϕ;simp only[au] at n32;clear gT;have q0:=iN.o;have hxl:x<s.cK.heaps.length:=ϑ;have Gm:=(HO.o.below ζ.o).rows.own 5 _ rfl;obtain⟨g,rfl,hcg,hfg,hgl⟩:=fQ Gm (by show 0<s.cK.heaps.length;omega);obtain⟨g0,g1⟩:=Gx hcg hxl;clear hcg q0 Gm;go_wp2_with fail
 go_end0
 have q0:=iN.o;have q1:=pK.o;simp only[ib,bQ,bR,dw];(repeat (first|rw[aG ϑ]|rw[ak ϑ]))
 simp only[Int.toNat_natCast];have yu:=HO.o.below ζ.o;have hgN:N<=g:=((yu.rows.own 5 _ rfl).lt g rfl).1;have hS:=(kr (kr (yu.rows.own 5 _ rfl) (x*2+0) (iv y)) (x*2+1) (iv z));simp only[Ko _ _ hxl] at hS;exact⟨(((ζ.o.mono fG).setCell hgN _).setCell hgN _),.inl ⟨rfl,rfl,_,es,yu.over (i:=5) rfl (g:=g) rfl ((fB).trans fB) (aB (s.cK.heaps.set x (y,z))) hS (by simp[gB,lq,mE,gI,eH]) rfl HO.o.es⟩⟩
theorem Uu (N:Nat) (w:World) (wb:Nat) (s:iE) (V:SV) (es:List KE) (ns:Value) (x:Nat) (y:Int) (z:Int) (hO:iW N w wb s V es) (hn:qc N w ns [(x:Int),y,z]):Ϝ 156 #[.pointer (some ⟨wb,0,none⟩),ns] w (pJ N wb (ib s .zZ [(x:Int),y,z]) w):=by
 obtain⟨vt,vn,vw,vu,vr,vh,vk,vs⟩:=V;obtain⟨o,cc,rfl⟩: ∃o c,vt= .slice o s.led.field.aj.length c:=aR (n:=s.led.field.aj.length) (hO.rows.own 0 _ rfl);have HO:=aa hO;have fG:=dR hO;obtain⟨b,c,rfl,hbN,hcs⟩:=hn;have lb:b<w.heap.size:=ϑ;have lw:=hO.rows.lt;have uf:=hO.rows.base;have HW:Hid (∀W,Below N w W->b<W.heap.size/\ ∀(j:Nat) (h:j<[(x:Int),y,z].length),W.cell? ⟨b,j,none⟩=some (iv [(x:Int),y,z][j])):=aa (fun W hB=>⟨by have:=hB.size;omega,fun j h=>(gX (hB.block b hbN)).trans (hcs j h)⟩);obtain⟨c0,f0,l0⟩:=ae hO.blk;have mO:=hcs 0 ϕ;simp only[au] at mO;have sZ:=hcs 1 ϕ;simp only[au] at sZ;have Bp:=hcs 2 ϕ;simp only[au] at Bp;have Uy:Hid (Ϙ w w):=aa (aF _ _);clear hO hcs;go_enter Tryz.func156,Tryz.ntmps156;go_wp2_with fail
 refine zg 8 [] none [] ?_;simp only[zt];repeat ((first|refine zd ?_|refine zk ?_);simp only[zp])
 intro W1 hE hF;have R9:=aa (aV Uy.o hE.below);clear hE hF c0 f0 mO sZ Bp;obtain⟨c1,f1,l1⟩:=ae ((R9.o.block _ lw).trans HO.o.blk);obtain⟨uD,Y8⟩:=HW.o W1 (R9.o.mono fG);have Φ:=Y8 0 ϕ;simp only[au] at Φ;have n11:=Y8 1 ϕ;simp only[au] at n11;have n12:=Y8 2 ϕ;simp only[au] at n12;clear Y8;go_wp2_with fail
 refine(gY _ _ _).mono ?_;rintro e W2 ⟨hb,⟨hc,rfl⟩|⟨hc,rfl⟩⟩;rotate_left
 ·simp at hc;exact zaf
 simp at hc;have Α:=aa (aV R9.o hb);have HS2:=aa hb;have iN:=aa hc;clear hb hc c1 f1 uD Φ n11 n12;obtain⟨c2,f2,l2⟩:=ae ((Α.o.block _ lw).trans HO.o.blk);obtain⟨vF,γ⟩:=HW.o W2 (Α.o.mono fG);have n20:=γ 0 ϕ;simp only[au] at n20;have n21:=γ 1 ϕ;simp only[au] at n21;have n22:=γ 2 ϕ;simp only[au] at n22;clear γ;go_wp2_with fail
 refine RX.fw (fun ps W'=> ¬(y<=z/\z<=s.led.field.rows)/\ps=jm 2/\Below N w W') 15 [] none [(14,⟨fun _ v=>v=rv (y,z),fun _ _ _=>(y<=z/\z<=s.led.field.rows)⟩)] (by rintro ps a1 Wx hdf ⟨h1,rfl,h3⟩;refine⟨hdf,um (c:=2) h3 ?_ ϖ⟩;have q0:=iN.o;simp only[ib,bQ,bR,dw];(repeat (first|rw[aG ϑ]|rw[ak ϑ]))) ϰ ϰ ?_
 simp only[zt];repeat (refine RX.zd ?_;simp only[zp])
 refine RX.aY _ ϱ ϱ ⟨_,rfl⟩ (fun Wq Ι hF2=>?_) (fun v Wa Wb ho hE=>ho) (fun v hv=>?_)
 ·have Iq:Ext [] W2 Wq:=Ι;refine RX.bM 242 #[.pointer (some ⟨wb,0,none⟩),iv y,iv z] (by go_simp;try rfl) ?_;refine(rR y z wb s _ Wq ((Iq.block _ (eF lw Α.o.size) ϕ).trans ((Α.o.block _ lw).trans HO.o.blk))).mono ?_;exact zar
 obtain rfl:v=rv (y,z):=hv;simp only[zp];intro W3 hE hF;have hc:y<=z/\z<=s.led.field.rows:=hF _ (aW _);have ζ:=aa (aV Α.o (show Ext [] W2 W3 from hE).below);have pK:=aa hc;clear hE hF hc c2 f2 vF n20 n21 n22;obtain⟨c3,f3,l3⟩:=ae ((ζ.o.block _ lw).trans HO.o.blk);obtain⟨GM,gT⟩:=HW.o W3 (ζ.o.mono fG);have n30:=gT 0 ϕ;simp only[au] at n30;have n31:=gT 1 ϕ;simp only[au] at n31;have n32:=gT 2 ϕ;simp only[au] at n32;clear gT;have q0:=iN.o;have hxl:x<s.led.field.aj.length:=ϑ;have Gm:=(HO.o.below ζ.o).rows.own 0 _ rfl;obtain⟨g,rfl,hcg,hfg,hgl⟩:=fQ Gm (by show 0<s.led.field.aj.length;omega);obtain⟨g0,g1⟩:=UB hcg hxl;clear hcg q0 Gm;go_wp2_with fail
 go_end0
 have q0:=iN.o;have q1:=pK.o;simp only[ib,bQ,bR,dw];(repeat (first|rw[aG ϑ]|rw[ak ϑ]))
 simp only[Int.toNat_natCast,fK,dn hxl,Option.getD_some];have yu:=HO.o.below ζ.o;have hgN:N<=g:=((yu.rows.own 0 _ rfl).lt g rfl).1;have hS:=(kr (kr (yu.rows.own 0 _ rfl) (x*5+3) (iv y)) (x*5+4) (iv z));simp only[Yo _ _ hxl] at hS;exact⟨(((ζ.o.mono fG).setCell hgN _).setCell hgN _),.inl ⟨rfl,rfl,_,es,yu.over (i:=0) rfl (g:=g) rfl ((fB).trans fB) (bP (s.led.field.aj.set x (s.led.field.aj[x].1,s.led.field.aj[x].2.1,s.led.field.aj[x].2.2.1,(y,z)))) hS (by simp[gB,lq,mE,gI,eH]) rfl HO.o.es⟩⟩
theorem SF (x:Int) (w:World):Ϝ 253 #[iv x] w (fun e w'=>e= .returned (.bool (decide (0<x)))/\w'=w):=by
 go_enter Tryz.func253,Tryz.ntmps253;exact zbE
theorem O9 (l:List Int) (v:Value) (w:World) (hv:aL w v l):Ϝ 217 #[v,.func (.func 253) #[] #[]] w (PV (.bool (l.any fun x=>decide (0<x))) w):=by
 refine(LD l v 253 #[] #[] (fun k=>decide (0<l.getD k 0)) (fun _ W=>Ϙ w W) w (enters_of Tryz.func253 ϰ rfl) (fun k W h=>hv.below h (ah _)) (fun k hk W _ h=>?_) (aF _ _)).mono ?_
 ·refine(SF l[k] W).mono ?_;rintro e W' ⟨rfl,rfl⟩;exact⟨by simp[hk],h⟩
 ·rintro e W' ⟨k,hk,IB,⟨uM,hp,rfl,hI⟩|⟨Y9,rfl,hI⟩⟩
  ·refine⟨?_,hI⟩;have:(l.any fun x=>decide (0<x))=true:=List.any_eq_true.2 ⟨l[k],bZ _,by simpa [uM] using hp⟩;rw[this]
  ·refine⟨?_,hI⟩;have:(l.any fun x=>decide (0<x))=false:=zcg;rw[this]
theorem wS (s:iE) (V:SV) (es:List KE) {x:Nat} {e:KE} (h:es[x]? =some e):(gB s V es)[8+x]? =some (xw e):=by
 unfold gB;rw[mD ϕ];simp[h]
theorem FI (s s':iE) (V:SV) (es:List KE) {x:Nat} {e:KE} (h:x<es.length) (hk:(e.1=(es[x]).1)) (hs:gB s' V es=gB s V es):gB s' V (es.set x e)=(gB s V es).set (8+x) (xw e):=by
 have h1:gB s' V (es.set x e)=(gB s' V es).set (8+x) (xw e):=by
  unfold gB;have hkc:dW (es.set x e)=dW es:=by
   unfold dW;rw[List.map_set,hk];apply List.ext_getElem
   ·simp
   ·intro j h1 h2;rw[List.getElem_set];split
    ·rename_i hj;subst hj;simp
    ·rfl
  rw[hkc,List.map_set,nV,nZ _ _ ϕ];simp
 rw[h1,hs]
theorem WR (N:Nat) (w:World) (wb:Nat) (s:iE) (V:SV) (es:List KE) (ns:Value) (x:Nat) (y:Nat) (z:Int) (hO:iW N w wb s V es) (hn:qc N w ns [(x:Int),(y:Int),z]) (hG:eB s):Ϝ 171 #[.pointer (some ⟨wb,0,none⟩),ns] w (pJ N wb (ib s .fill [(x:Int),(y:Int),z]) w):=by
 obtain⟨vt,vn,vw,vu,vr,vh,vk,vs⟩:=V;obtain⟨ok,ck,rfl⟩: ∃o c,vk= .slice o es.length c:=aR (n:=es.length) (hO.rows.own 6 _ rfl);obtain⟨oh,ch,rfl⟩: ∃o c,vh= .slice o s.cK.heaps.length c:=aR (n:=s.cK.heaps.length) (hO.rows.own 5 _ rfl);have HO:=aa hO;have fG:=dR hO;obtain⟨b,c,rfl,hbN,hcs⟩:=hn;have lb:b<w.heap.size:=ϑ;have lw:=hO.rows.lt;have uf:=hO.rows.base;have HW:Hid (∀W,Below N w W->b<W.heap.size/\ ∀(j:Nat) (h:j<[(x:Int),(y:Int),z].length),W.cell? ⟨b,j,none⟩=some (iv [(x:Int),(y:Int),z][j])):=aa (fun W hB=>⟨by have:=hB.size;omega,fun j h=>(gX (hB.block b hbN)).trans (hcs j h)⟩);obtain⟨c0,f0,l0⟩:=ae hO.blk;have mO:=hcs 0 ϕ;simp only[au] at mO;have sZ:=hcs 1 ϕ;simp only[au] at sZ;have Bp:=hcs 2 ϕ;simp only[au] at Bp;have Α:Hid (Ϙ w w):=aa (aF _ _);have hes:es.length=s.cK.aQ.length:=by rw[<-hO.es];simp
 have Yf:=aa (show ∀(j:Nat) (e:KE),es[j]? =some e->s.cK.aQ[j]? =some e.2/\e.2.length=s.cK.heaps.length from fun j e h=>by have h1:s.cK.aQ[j]? =some e.2:=(by rw[<-hO.es];simp[h]);exact⟨h1,(hG.nI _ (lg h1)).1⟩)
 have iN:=aa hes;clear hes;clear hO hcs hG;go_enter Tryz.func171,Tryz.ntmps171;go_wp2_with fail
 refine zg 8 [] none [] ?_;simp only[zt];repeat ((first|refine zd ?_|refine zk ?_);simp only[zp])
 intro W1 hE hF;have R9:=aa (aV Α.o hE.below);clear hE hF c0 f0 mO sZ Bp;obtain⟨c1,f1,l1⟩:=ae ((R9.o.block _ lw).trans HO.o.blk);obtain⟨uD,Y8⟩:=HW.o W1 (R9.o.mono fG);have Φ:=Y8 0 ϕ;simp only[au] at Φ;have n11:=Y8 1 ϕ;simp only[au] at n11;have n12:=Y8 2 ϕ;simp only[au] at n12;clear Y8;go_wp2_with fail
 refine(gY _ _ _).mono ?_;rintro e W2 ⟨hb,⟨hc,rfl⟩|⟨hc,rfl⟩⟩;rotate_left
 ·exact zcP
 simp at hc;have Uy:=aa (aV R9.o hb);have HS2:=aa hb;have pK:=aa hc;clear hb hc c1 f1 uD Φ n11 n12;obtain⟨c2,f2,l2⟩:=ae ((Uy.o.block _ lw).trans HO.o.blk);obtain⟨vF,γ⟩:=HW.o W2 (Uy.o.mono fG);have n20:=γ 0 ϕ;simp only[au] at n20;have n21:=γ 1 ϕ;simp only[au] at n21;have n22:=γ 2 ϕ;simp only[au] at n22;clear γ;go_wp2_with fail
 refine zg 8 [] none [] ?_;simp only[zt];repeat ((first|refine zd ?_|refine zk ?_);simp only[zp])
 intro W3 hE hF;have ζ:=aa (aV Uy.o hE.below);clear hE hF c2 f2 vF n20 n21 n22;obtain⟨c3,f3,l3⟩:=ae ((ζ.o.block _ lw).trans HO.o.blk);obtain⟨GM,gT⟩:=HW.o W3 (ζ.o.mono fG);have n30:=gT 0 ϕ;simp only[au] at n30;have n31:=gT 1 ϕ;simp only[au] at n31;have n32:=gT 2 ϕ;simp only[au] at n32;clear gT;go_wp2_with fail
 refine(gY _ _ _).mono ?_;rintro e W4 ⟨hb,⟨hc,rfl⟩|⟨hc,rfl⟩⟩;rotate_left
 ·exact zcQ
 simp at hc;have lM:=aa (aV ζ.o hb);have QM:=aa hb;have wK:=aa hc;clear hb hc c3 f3 GM n30 n31 n32;obtain⟨c4,f4,l4⟩:=ae ((lM.o.block _ lw).trans HO.o.blk);obtain⟨ML,je⟩:=HW.o W4 (lM.o.mono fG);have n40:=je 0 ϕ;simp only[au] at n40;have n41:=je 1 ϕ;simp only[au] at n41;have n42:=je 2 ϕ;simp only[au] at n42;clear je;go_wp2_with fail
 refine(dJ 2 [decide (30<z)] W4 ϕ _ (by simp[dD]) _ _ rfl).mono ?_;rintro e W5 ⟨hb,⟨hc,rfl⟩|⟨hc,rfl⟩⟩;rotate_left
 ·simp at hc;have q0:=iN.o;exact zaj
 simp at hc;have gJ:=aa (aV lM.o hb);have HS5:=aa hb;have Fj:=aa hc;clear hb hc c4 f4 ML n40 n41 n42;obtain⟨c5,f5,l5⟩:=ae ((gJ.o.block _ lw).trans HO.o.blk);obtain⟨lb5,rE⟩:=HW.o W5 (gJ.o.mono fG);have n50:=rE 0 ϕ;simp only[au] at n50;have n51:=rE 1 ϕ;simp only[au] at n51;have n52:=rE 2 ϕ;simp only[au] at n52;clear rE;go_wp2_with fail
 have q0:=iN.o;have q1:=pK.o;have q2:=wK.o;have q3:=Fj.o;have hxl:x<es.length:=ϑ;have hyl:y<s.cK.heaps.length:=ϑ;clear q0 q1 q2 q3;obtain⟨ev,el,hel⟩: ∃ev el,es[x]? =some (ev,el):=⟨_,_,dn hxl⟩;obtain⟨hcx,hlx⟩:s.cK.aQ[x]? =some el/\el.length=s.cK.heaps.length:=Yf.o x _ hel;have hrow: ∀s' V',(gB s' V' es)[8+x]? =some (xw (ev,el)):=fun s' V'=>wS s' V' es hel;obtain⟨oe,ce,rfl⟩: ∃o c,ev= .slice o el.length c:=aR (n:=el.length) ((HO.o.below gJ.o).rows.own _ _ (hrow _ _));obtain⟨gk,rfl,Ql,hfk,Y9⟩:=fQ ((HO.o.below gJ.o).rows.own 6 _ rfl) (by show 0<es.length;omega);have hgx:(dW es)[x]? =some (.slice oe el.length ce):=by simp[dW,hel]
 obtain⟨hg',eg'⟩:=iy.1 hgx;have g6:=(Ql x hg').trans (by rw[eg']);clear hgx hg' eg';have QP:=aa (af hel (af hcx (af hlx hrow)));clear Ql hel hcx hlx hrow;obtain⟨gk0,afE⟩: ∃gk0,gk0=gk:=⟨_,rfl⟩;have HGK:=aa afE;clear afE;refine zg 15 [] none [] ?_;simp only[zt];repeat ((first|refine zd ?_|refine zk ?_);simp only[zp])
 intro W6 hE hF;have nJ:=aa (aV gJ.o hE.below);clear hE hF c5 f5 lb5 n50 n51 n52 g6;obtain⟨c6,f6,l6⟩:=ae ((nJ.o.block _ lw).trans HO.o.blk);obtain⟨lb6,rD⟩:=HW.o W6 (nJ.o.mono fG);have n60:=rD 0 ϕ;simp only[au] at n60;have n61:=rD 1 ϕ;simp only[au] at n61;have n62:=rD 2 ϕ;simp only[au] at n62;clear rD;obtain⟨g,rfl,hcg,hfg,hgl⟩:=fQ ((HO.o.below nJ.o).rows.own _ _ (QP.o.2.2.2 _ _)) (by show 0<el.length;have:=QP.o.2.2.1;omega);have abJ:y<el.length:=by have:=QP.o.2.2.1;omega
 have g0:=hcg y (by simpa [xw,ag] using abJ);simp only[xw,ag,List.getElem_map] at g0;have HY:=aa (af hyl (af hxl abJ));clear hcg hyl hxl;go_wp2_with fail
 refine bU fun W7 nP=>?_;have yu:=HO.o.below nJ.o;have hgN:N<=g:=((yu.rows.own _ _ (QP.o.2.2.2 _ _)).lt g rfl).1;have hS:=kr (yu.rows.own _ _ (QP.o.2.2.2 _ _)) y (iv z);have hO2:iW N W7 wb (eH s {s.cK with aQ:=s.cK.aQ.set x (el.set y z)}) ⟨vt,vn,vw,vu,vr,.slice oh s.cK.heaps.length ch,.slice (some ⟨gk,0,none⟩) es.length ck,vs⟩ (es.set x (.slice (some ⟨g,0,none⟩) el.length ce,el.set y z)):=by
  rw[nP];refine yu.over (i:=8+x) (QP.o.2.2.2 _ _) (g:=g) rfl fB (ag (el.set y z)) ?_ ?_ rfl ?_
  ·simpa [xw,ag,List.map_set] using hS
  ·refine(FI s _ _ es HY.o.2.1 (by have:=(iy.1 QP.o.1).2;rw[this]) rfl).trans ?_
   simp[xw]
  ·show _=s.cK.aQ.set x (el.set y z);rw[List.map_set,HO.o.es]
 have xM:=aa (show Below N w W7 from by rw[nP];exact(nJ.o.mono fG).setCell hgN _)
 have zX:=aa hO2;clear nP yu hgN hS hO2 abJ hfg hgl g0 c6 f6 lb6 n60 n61 n62;obtain⟨c7,f7,l7⟩:=ae zX.o.blk;obtain⟨lb7,rC⟩:=HW.o W7 xM.o;have n70:=rC 0 ϕ;simp only[au] at n70;have n71:=rC 1 ϕ;simp only[au] at n71;have n72:=rC 2 ϕ;simp only[au] at n72;obtain⟨gk2,ajv,Ql,ajA,aoI⟩:=fQ (zX.o.rows.own 6 _ rfl) (by show 0<(es.set x _).length;rw[nV];have:=HY.o.2.1;omega)
 cases ajv;have hgx:(dW (es.set x (.slice (some ⟨g,0,none⟩) el.length ce,el.set y z)))[x]? =some (.slice (some ⟨g,0,none⟩) el.length ce):=by simp[dW,HY.o.2.1]
 obtain⟨hg',eg'⟩:=iy.1 hgx;have g6:=(Ql x hg').trans (by rw[eg']);have hxl:=HY.o.2.1;clear hgx hg' eg' Ql rC;refine zg 9 [] none [] ?_;simp only[zt];repeat ((first|refine zd ?_|refine zk ?_);simp only[zp])
 intro W8 hE hF;have hOw:=(zX.o.below (Ext.below hE));have hIx:aL W8 (.slice (some ⟨g,0,none⟩) el.length ce) (el.set y z):=by
  have h:=hOw.rows.own (8+x) _ (wS _ _ _ (by rw[List.getElem?_set_self HY.o.2.1]));have h2:=aH.bY h;exact h2
 have nG:=aa (xM.o.trans ((Ext.below hE).mono (dR zX.o)));have HOw:=aa hOw;have HAP:=aa (O9 _ _ _ hIx);clear hE hF hOw hIx c7 f7 lb7 g6 ajA n70 n71 n72;go_wp2_with fail
 refine HAP.o.mono ?_;rintro e W9 ⟨rfl,hb⟩;have HS:=aa hb;obtain⟨q,hq⟩: ∃q,((el.set y z).any fun x=>decide (0<x))=q:=⟨_,rfl⟩;rw[hq];have QN:=aa hq;clear hb hq HAP;go_wp2_with fail
 refine(dJ 8 [!q] W9 ϕ _ (by simp[dD]) _ _ rfl).mono ?_;rintro e MN ⟨hb,⟨hc,rfl⟩|⟨hc,rfl⟩⟩
 ·obtain rfl:q=true:=by cases q <;>simp_all
  go_wp2_with fail
  go_end0
  have q0:=iN.o;have q1:=pK.o;have q2:=wK.o;have q3:=Fj.o;simp only[ib,dw,Int.toNat_natCast];simp only[fK,QP.o.2.1,Option.getD_some,QN.o];rw[ak ϑ,ak ϑ,ak ϑ,ak ϕ];exact⟨nG.o.trans ((aV HS.o hb).mono (dR HOw.o)),.inl ⟨rfl,rfl,_,_,HOw.o.below (aV HS.o hb)⟩⟩
 ·obtain rfl:q=false:=by cases q <;>simp_all
  have q0:=iN.o;have q1:=pK.o;have q2:=wK.o;have q3:=Fj.o;simp only[ib,dw,Int.toNat_natCast];simp only[fK,QP.o.2.1,Option.getD_some,QN.o];rw[ak ϑ,ak ϑ,ak ϑ,aG ϕ];exact⟨rfl,nG.o.trans ((aV HS.o hb).mono (dR HOw.o)),.inr ⟨by simp,rfl⟩⟩
theorem Xn (N:Nat) (w:World) (wb:Nat) (s:iE) (V:SV) (es:List KE) (ns:Value) (x:Nat) (y:Int) (hO:iW N w wb s V es) (hn:qc N w ns [(x:Int),y]) (hG:eB s):Ϝ 170 #[.pointer (some ⟨wb,0,none⟩),ns] w (pJ N wb (ib s .nI [(x:Int),y]) w):=by
 obtain⟨vt,vn,vw,vu,vr,vh,vk,vs⟩:=V;obtain⟨oh,ch,rfl⟩: ∃o c,vh= .slice o s.cK.heaps.length c:=aR (n:=s.cK.heaps.length) (hO.rows.own 5 _ rfl);obtain⟨ok,ck,rfl⟩: ∃o c,vk= .slice o es.length c:=aR (n:=es.length) (hO.rows.own 6 _ rfl);have HO:=aa hO;have fG:=dR hO;obtain⟨b,c,rfl,hbN,hcs⟩:=hn;have lb:b<w.heap.size:=ϑ;have lw:=hO.rows.lt;have uf:=hO.rows.base;have HW:Hid (∀W,Below N w W->b<W.heap.size/\ ∀(j:Nat) (h:j<[(x:Int),y].length),W.cell? ⟨b,j,none⟩=some (iv [(x:Int),y][j])):=aa (fun W hB=>⟨by have:=hB.size;omega,fun j h=>(gX (hB.block b hbN)).trans (hcs j h)⟩);obtain⟨c0,f0,l0⟩:=ae hO.blk;have mO:=hcs 0 ϕ;simp only[au] at mO;have sZ:=hcs 1 ϕ;simp only[au] at sZ;have Α:Hid (Ϙ w w):=aa (aF _ _);have hes:es.length=s.cK.aQ.length:=by rw[<-hO.es];simp
 have iN:=aa hes;clear hes;have Lb:=hG.L8;have ajH:=hG.aQ;have hmk:=tF s.cK.heaps.length ϑ;clear hO hcs hG;go_enter Tryz.func170,Tryz.ntmps170;go_wp2_with fail
 refine zg 8 [] none [] ?_;simp only[zt];repeat ((first|refine zd ?_|refine zk ?_);simp only[zp])
 intro W1 hE hF;have R9:=aa (aV Α.o hE.below);have Jz:=aa (Ext.below hE);clear hE hF c0 f0 mO sZ;obtain⟨c1,f1,l1⟩:=ae ((R9.o.block _ lw).trans HO.o.blk);obtain⟨uD,Y8⟩:=HW.o W1 (R9.o.mono fG);have Φ:=Y8 0 ϕ;simp only[au] at Φ;have n11:=Y8 1 ϕ;simp only[au] at n11;clear Y8;go_wp2_with fail
 refine(gY _ _ _).mono ?_;rintro e W2 ⟨hb,⟨hc,rfl⟩|⟨hc,rfl⟩⟩;rotate_left
 ·exact zcP
 simp at hc;have Uy:=aa (aV R9.o hb);have HS2:=aa hb;have pK:=aa hc;clear hb hc c1 f1 uD Φ n11;obtain⟨c2,f2,l2⟩:=ae ((Uy.o.block _ lw).trans HO.o.blk);obtain⟨vF,γ⟩:=HW.o W2 (Uy.o.mono fG);have n20:=γ 0 ϕ;simp only[au] at n20;have n21:=γ 1 ϕ;simp only[au] at n21;clear γ;go_wp2_with fail
 refine zg 8 [] none [] ?_;simp only[zt];repeat ((first|refine zd ?_|refine zk ?_);simp only[zp])
 intro W3 hE hF;have ζ:=aa (aV Uy.o hE.below);have HS3:=aa (Ext.below hE);clear hE hF c2 f2 vF n20 n21;obtain⟨c3,f3,l3⟩:=ae ((ζ.o.block _ lw).trans HO.o.blk);obtain⟨GM,gT⟩:=HW.o W3 (ζ.o.mono fG);have n30:=gT 0 ϕ;simp only[au] at n30;have n31:=gT 1 ϕ;simp only[au] at n31;clear gT;go_wp2_with fail
 refine(dJ 2 [y==0,decide (30<y)] W3 ϕ _ (by simp[dD]) _ _ rfl).mono ?_;rintro e W4 ⟨hb,⟨hc,rfl⟩|⟨hc,rfl⟩⟩;rotate_left
 ·exact zcQ
 simp at hc;have lM:=aa (aV ζ.o hb);have QM:=aa hb;have wK:=aa hc;clear hb hc c3 f3 GM n30 n31;obtain⟨c4,f4,l4⟩:=ae ((lM.o.block _ lw).trans HO.o.blk);obtain⟨ML,je⟩:=HW.o W4 (lM.o.mono fG);have n40:=je 0 ϕ;simp only[au] at n40;have n41:=je 1 ϕ;simp only[au] at n41;clear je;go_wp2_with fail
 refine(oH _ _ _).mono ?_;rintro e W5 ⟨hb,⟨hc,rfl⟩|⟨hc,rfl⟩⟩;rotate_left
 ·simp at hc;have q0:=iN.o;exact zaj
 simp at hc;have gJ:=aa (aV lM.o hb);have HS5:=aa hb;have Fj:=aa hc;clear hb hc c4 f4 ML n40 n41;obtain⟨c5,f5,l5⟩:=ae ((gJ.o.block _ lw).trans HO.o.blk);obtain⟨lb5,rE⟩:=HW.o W5 (gJ.o.mono fG);have n50:=rE 0 ϕ;simp only[au] at n50;have n51:=rE 1 ϕ;simp only[au] at n51;clear rE;go_wp2_with fail
 refine bU fun W6 nP=>?_;obtain⟨b9,uF⟩: ∃b9,b9=W5.heap.size:=⟨_,rfl⟩;have hHk:W6.heap[b9]? =some (.cells (ag (List.replicate s.cK.heaps.length 0)).toArray 3 (0,0)):=by rw[nP,uF];exact av _ _
 have nJ:=aa (show Ϙ w W6 from by rw[nP];exact ai gJ.o _);have Qt:Ext [] W5 W6:=by rw[nP];exact Ext.ax (ai (aF _ _) _)
 have H9:=aa (af hHk (af Qt uF));rw[<-uF];clear nP hHk Qt uF hmk c5 f5 lb5 n50 n51;obtain⟨c6,f6,l6⟩:=ae ((nJ.o.block _ lw).trans HO.o.blk);obtain⟨lb6,rD⟩:=HW.o W6 (nJ.o.mono fG);have n60:=rD 0 ϕ;simp only[au] at n60;have n61:=rD 1 ϕ;simp only[au] at n61;clear rD;have Vq:b9<W6.heap.size:=(aN.1 H9.o.1).1;refine zg 7 [] none [] ?_;simp only[zt];repeat ((first|refine zd ?_|refine zk ?_);simp only[zp])
 intro W7 hE hF;have xM:=aa (aV nJ.o hE.below);have HS7:=aa (Ext.below hE);clear hE hF c6 f6 lb6 n60 n61;obtain⟨c7,f7,l7⟩:=ae ((xM.o.block _ lw).trans HO.o.blk);obtain⟨lb7,rC⟩:=HW.o W7 (xM.o.mono fG);have n70:=rC 0 ϕ;simp only[au] at n70;have n71:=rC 1 ϕ;simp only[au] at n71;clear rC;have q0:=iN.o;have q1:=pK.o;have hxl:x<s.cK.heaps.length:=ϑ;have tL:=(HS7.o.block _ Vq).trans H9.o.1;obtain⟨k9,p9,r9⟩:=ae tL;have g0:W7.cell? ⟨b9,x,none⟩=some (iv 0):=(k9 x).trans (by simp[ag,hxl]);have H7:=aa tL;clear k9 tL;go_upto_region 6 with(fail)
 refine bU fun W8 nP=>?_;have uF:W5.heap.size<=b9:=by have:=H9.o.2.2;omega
 have hH8:W8.heap[b9]? =some (.cells ((ag (List.replicate s.cK.heaps.length 0)).toArray.setIfInBounds x (iv y)) 3 (0,0)):=by rw[nP];exact aA H7.o _
 have acD:Ϙ W5 W8:=by rw[nP];exact(aV H9.o.2.1.below HS7.o).setCell uF _
 have nG:=aa (aV gJ.o acD);have Gm:W8.ownsRow N 3 1 (.slice (some ⟨b9,0,none⟩) s.cK.heaps.length s.cK.heaps.length) ((List.replicate s.cK.heaps.length (0:Int)).set x y).length (ag ((List.replicate s.cK.heaps.length 0).set x y)):=by
  rw[nV,List.length_replicate];have h9:=gJ.o.size;refine gF (cs:=(ag ((List.replicate s.cK.heaps.length 0).set x y)).toArray) (n:=s.cK.heaps.length) ?_ (by simp[ag]) ϑ (by simp only[maxLen];omega);rw[hH8,nC];simp only[ag,List.map_set]
 have hR8:=(HO.o.below gJ.o).rows.push (xw (.slice (some ⟨b9,0,none⟩) s.cK.heaps.length s.cK.heaps.length,(List.replicate s.cK.heaps.length 0).set x y)) (Ms:=[]) (Ext.ax acD) ϕ Gm (.inr ⟨b9,rfl,uF⟩);have HR8:=aa hR8;obtain⟨c8,f8,l8⟩:=ae ((nG.o.block _ lw).trans HO.o.blk);have HX:=aa hxl;clear nP uF hH8 acD Gm hR8 g0 hxl q0 q1 p9 r9 ajH Lb c7 f7 lb7 n70 n71;have hq4:=Fj.o;have h8s:=nG.o.size;go_wp2_with (at_builtin;go_loud (refine cZ rfl _ _ ad9 rfl N (.slice ok es.length ck) es.length (dW es) rfl (az (Ms:=[]) (HR8.o.own 6 _ rfl) (Ext.ax (ai (aF _ _) _)) ϕ) (.slice (some ⟨W8.heap.size,0,none⟩) 1 1) 1 [.slice (some ⟨b9,0,none⟩) s.cK.heaps.length s.cK.heaps.length] rfl (aH.bI 1 1 (av _ _) rfl ϖ) (by simp[Value.oneCell']) ϑ ϑ ϗ ?_))
 intro v' w3 Gm Y7 hN;obtain⟨o3,c3,rfl⟩:=aR Gm;have χ:=(Y7.block wb ϗ (fun e=>HR8.o.off 6 _ rfl e.symm)).trans ((heap_alloc_old W8 _ l8).trans ((nG.o.block _ lw).trans HO.o.blk));obtain⟨k3,p3,r3⟩:=ae χ;have kX:Ext (Value.slice ok es.length ck).ownBlock.toList W8 w3:=⟨Y7.os,Y7.tape,Y7.output,by have:=Y7.size;simp at this;omega,fun k hk hm=>(Y7.block k ϗ (fun e=>hm (dh.2 e.symm))).trans (heap_alloc_old W8 _ hk)⟩;have XQ:=aa (af kX (af Gm (af χ hN)));clear kX Gm Y7 χ hN c8 f8;go_wp2_with fail
 go_end0
 have q0:=iN.o;have q1:=pK.o;have q2:=wK.o;have q3:=Fj.o;simp only[ib,bQ,bR,dw];(repeat (first|rw[aG ϑ]|rw[ak ϑ]))
 simp only[Int.toNat_natCast];have Υ: ∀k,k∈(Value.slice ok es.length ck).ownBlock.toList->N<=k/\k<W8.heap.size:=fun k hk=>(HR8.o.own 6 _ rfl).lt k (dh.1 hk);have hR:=HR8.o.put (i:=6) rfl ⟨52,1,.slice o3 (es.length+1) c3,es.length+1,dW es++[.slice (some ⟨b9,0,none⟩) s.cK.heaps.length s.cK.heaps.length]⟩ XQ.o.1 (fun m hm=> .inr (.inr (dh.1 hm))) XQ.o.2.1 (XQ.o.2.2.2.imp id (fun e=> .inr ⟨_,e,by simp⟩));have hB3:Below N W8 w3:=⟨XQ.o.1.os,XQ.o.1.tape,XQ.o.1.output,XQ.o.1.size,fun k hk=>XQ.o.1.block k ϑ (fun hm=>by have:=(Υ k hm).1;omega)⟩;refine⟨((nG.o.mono fG).trans hB3).setCell uf _,.inl ⟨rfl,rfl,⟨vt,vn,vw,vu,vr,.slice oh s.cK.heaps.length ch,.slice o3 (es.length+1) c3,vs⟩,es++[(.slice (some ⟨b9,0,none⟩) s.cK.heaps.length s.cK.heaps.length,(List.replicate s.cK.heaps.length 0).set x y)],⟨aA XQ.o.2.2.1 _,?_,?_⟩⟩⟩
 ·have:=hR.keep (fB (W:=w3) (b:=wb) (off:=20) (v:= .slice o3 (es.length+1) c3)) (fun m hm=> .inl (by simpa using hm));simpa [gB,eH,dW] using this
 ·simp[eH,HO.o.es]
theorem CR (s s':iE) (V:SV) (es:List KE) {x:Nat} {e:KE} (h:x<es.length) (hs:gB s' V es=gB s V es):
 gB s' V (es.set x e)=((gB s V es).set (8+x) (xw e)).set 6 ⟨52,1,V.cks,es.length,(dW es).set x e.1⟩:=by
 rw[<-hs];unfold gB;rw[nZ _ _ ϕ,List.set_append_left _ _ ϕ];simp[dW,List.map_set,nV]
def qG (s:iE) (h:dF) (i:Nat):iE:=eH s {s.cK with heaps:=s.cK.heaps++[h],aQ:=(s.cK.aQ.take i).map (· ++[0])++s.cK.aQ.drop i}
theorem NJ (s:iE) (h:dF):qG s h 0=eH s {s.cK with heaps:=s.cK.heaps++[h]}:=by simp[qG]
theorem RF (s:iE) (h:dF) (n:Nat) (hn:s.cK.aQ.length<=n):qG s h n=eH s {s.cK with heaps:=s.cK.heaps++[h],aQ:=s.cK.aQ.map (· ++[0])}:=by
 simp[qG,ji hn,List.drop_of_length_le hn]
theorem RD (s:iE) (h:dF) (i:Nat) (hi:i<s.cK.aQ.length):(qG s h i).cK.aQ[i]? =some s.cK.aQ[i]:=by
 simp only[qG,eH];rw[mD ϗ];simp[hi,Nat.min_eq_left (kZ hi)]
theorem NK (s:iE) (h:dF) (i:Nat) (hi:i<s.cK.aQ.length):(qG s h i).cK.aQ.set i (s.cK.aQ[i]++[0])=(qG s h (i+1)).cK.aQ:=by
 simp only[qG,eH];rw[nZ _ _ ϗ];simp only[kJ,fJ,Nat.min_eq_left (kZ hi),Nat.sub_self];rw[su hi,List.set_cons_zero,pE,List.map_append];simp[hi]
theorem Wn (N:Nat) (W2:World) (wb:Nat) (s:iE) (V:SV) (es:List KE) (ns:Value) (y:Int) (z:Int) (hO:iW N W2 wb s V es) (hn:qc N W2 ns [y,z]) (hG:eB s) (hx:0<=y/\y<=9999):Ϝ 168 #[.pointer (some ⟨wb,0,none⟩),ns] W2 (pJ N wb (ib s .heap [y,z]) W2):=by
 obtain⟨vt,vn,vw,vu,vr,vh,vk,vs⟩:=V;obtain⟨o,cc,rfl⟩: ∃o c,vh= .slice o s.cK.heaps.length c:=aR (n:=s.cK.heaps.length) (hO.rows.own 5 _ rfl);obtain⟨ok,ck,rfl⟩: ∃o c,vk= .slice o es.length c:=aR (n:=es.length) (hO.rows.own 6 _ rfl);have HO:=aa hO;have fG:=dR hO;obtain⟨b,c,rfl,hbN,hcs⟩:=hn;have lb:b<W2.heap.size:=ϑ;have lw:=hO.rows.lt;have uf:=hO.rows.base;have HW:Hid (∀W,Below N W2 W->b<W.heap.size/\ ∀(j:Nat) (h:j<[y,z].length),W.cell? ⟨b,j,none⟩=some (iv [y,z][j])):=aa (fun W hB=>⟨by have:=hB.size;omega,fun j h=>(gX (hB.block b hbN)).trans (hcs j h)⟩);obtain⟨c0,f0,l0⟩:=ae hO.blk;have mO:=hcs 0 ϕ;simp only[au] at mO;have sZ:=hcs 1 ϕ;simp only[au] at sZ;have Α:Hid (Ϙ W2 W2):=aa (aF _ _);have hes:es.length=s.cK.aQ.length:=by rw[<-hO.es];simp
 have iN:=aa hes;clear hes;have Lb:=hG.L8;have HG3:=aa (af hG.aQ hG.nI);clear hO hcs hG;go_enter Tryz.func168,Tryz.ntmps168;go_wp2_with fail
 refine RX.fw (fun ps W'=> ¬(y<=z/\z<=100/\z<=y+9)/\ps=jm 2/\Below N W2 W') 8 [] none [(6,⟨fun _ v=>v=rv (y,z),fun _ _ _=>(y<=z/\z<=100/\z<=y+9)⟩),(7,Spec.block W2.heap.size #[iv 0,iv 0] 129)] (by rintro ps a1 Wx hdf ⟨h1,rfl,h3⟩;refine⟨hdf,um (c:=2) h3 ?_ ϖ⟩;have q0:=iN.o;simp only[ib,bQ,bR,dw];(repeat (first|rw[aG ϑ]|rw[ak ϑ]))) ϰ ϰ ?_
 simp only[zt];repeat (refine RX.zd ?_;simp only[zp])
 refine RX.aY _ ϱ ϱ ⟨_,rfl⟩ (fun Wq Ι hF2=>?_) (fun v Wa Wb ho hE=>ho) (fun v hv=>?_)
 ·exact zcK
 obtain rfl:v=rv (y,z):=hv;simp only[zp];repeat (refine RX.zd ?_;simp only[zp])
 refine RX.gQ W2.heap.size _ _ ϱ (ah _) ϱ ϕ ϕ (fun W hW=>by go_simp;try rfl) (fun b9=>?_);simp only[zp];intro Wb hE hF;obtain⟨b9',uF,hge,tL⟩:=hF _ (aW _);cases uF;have hc:y<=z/\z<=100/\z<=y+9:=hF _ (jf _ (aW _));have HBb:=aa (aV Α.o (show Ext [] W2 Wb from hE).below);have pK:=aa hc;have oU:=aa (af (eU Α.o.size hge) tL);obtain⟨c9,f9,l9⟩:=ae tL;clear hE hF hc hge tL c0 f0 mO sZ;go_upto_region 2 with(fail)
 refine bU fun W1 nP=>?_;have R9:=aa (show Ϙ W2 W1 from by rw[nP];exact((HBb.o).setCell oU.o.1 _).setCell oU.o.1 _)
 have Bb:=aa (show W1.heap[b9]? =some (.cells #[iv y,iv z] 129 (0,0)) from by rw[nP];exact aA (aA (oU.o.2) _) _)
 have Vq:b9<W1.heap.size:=(aN.1 Bb.o).1;clear nP c9 f9 l9;obtain⟨c1,f1,l1⟩:=ae ((R9.o.block _ lw).trans HO.o.blk);obtain⟨uD,Y8⟩:=HW.o W1 (R9.o.mono fG);have Φ:=Y8 0 ϕ;simp only[au] at Φ;have n11:=Y8 1 ϕ;simp only[au] at n11;clear Y8;go_wp2_with fail
 refine(oH _ _ _).mono ?_;rintro e w ⟨hb,⟨hc,rfl⟩|⟨hc,rfl⟩⟩;rotate_left
 ·simp at hc;have q0:=iN.o;have q1:=pK.o;exact zaf
 simp at hc;have Uy:=aa (aV R9.o hb);have HS2:=aa hb;have wK:=aa hc;clear hb hc c1 f1 uD Φ n11;obtain⟨c2,f2,l2⟩:=ae ((Uy.o.block _ lw).trans HO.o.blk);obtain⟨vF,γ⟩:=HW.o w (Uy.o.mono fG);have n20:=γ 0 ϕ;simp only[au] at n20;have n21:=γ 1 ϕ;simp only[au] at n21;clear γ;go_wp2_with fail
 obtain⟨Ms,η⟩: ∃Ms,Ms=(Value.slice o s.cK.heaps.length cc).ownBlock.toList:=⟨_,rfl⟩;have hO2:=HO.o.below Uy.o;have Υ:wb∉Ms:=fun h=>hO2.rows.off 5 _ rfl (by rw[η] at h;exact dh.1 h);have hm2:b∉Ms:=fun h=>by have:=((hO2.rows.own 5 _ rfl).lt b (by rw[η] at h;exact dh.1 h)).1;omega
 have qh: ∀m∈Ms,m<w.heap.size:=fun m h=>((hO2.rows.own 5 _ rfl).lt m (by rw[η] at h;exact dh.1 h)).2;obtain⟨c9,f9,l9⟩:=ae ((HS2.o.block _ Vq).trans Bb.o);have hm9:b9∉Ms:=fun h=>by have:=((HO.o.rows.own 5 _ rfl).lt b9 (by rw[η] at h;exact dh.1 h)).2;have:=oU.o.1;omega
 have HM:=aa η;have iF:=aa hO2;clear η hO2;refine zg 8 Ms (some 7) [(6,Spec.slice w.heap.size #[iv y,iv z] 129 1),(7,⟨fun _ v=> ∃o2 c2,v= .slice o2 (s.cK.heaps.length+1) c2,fun _ v Wx=>Wx.ownsRow N 129 2 v (s.cK.heaps.length+1) (aB s.cK.heaps++[iv y,iv z])/\(v.ownBlock=(Value.slice o s.cK.heaps.length cc).ownBlock∨ ∃q,v.ownBlock=some q/\w.heap.size<=q)⟩)] ?_;simp only[zt];repeat ((first|refine zd ?_|refine zk ?_);simp only[zp])
 refine cB w.heap.size _ _ 1 ϱ (ah _) ϱ qh ϕ (fun W hW=>by go_simp;try rfl) (fun b6=>?_);simp only[zp];repeat ((first|refine zd ?_|refine zk ?_);simp only[zp])
 refine aY _ ϱ ϱ (by exact⟨.slice none (s.cK.heaps.length+1) 0,none,0,rfl⟩) (fun W6 hE hF=>?_) (fun v Wa Wb ho hE=>?_) (fun v hv=>?_)
 ·have Iq:Ext [] w W6:=hE;obtain⟨b',hb',hge,ο⟩:=hF _ (aW _) ϰ;cases hb';have VC:W6.ownsRow N 129 2 (.slice o s.cK.heaps.length cc) s.cK.heaps.length (aB s.cK.heaps):=az (Ms:=[]) (iF.o.rows.own 5 _ rfl) Iq ϕ;have ξ:aH 2 W6 (.slice (some ⟨b6,0,none⟩) 1 1) 1 ([iv y,iv z]):=aH.bI 2 1 ο rfl ϖ;refine Does.mono (dA ad7 ϱ ϱ VC ϱ ξ (Vd y z) ϑ ϑ (by have:=Iq.size;have:=Uy.o.size;omega)) ?_;exact zbx
 ·exact zaP
 obtain⟨o7,c7,rfl⟩:=hv;simp only[zp];intro W3 hE hF;obtain⟨nH,yn⟩:=hF _ (aW _);have eT:Ext Ms w W3:=hE;have χ:=(eT.block wb iF.o.rows.lt Υ).trans iF.o.blk;obtain⟨c3,f3,l3⟩:=ae χ;have gP:=aa (af eT (af nH (af yn χ)));have BF:Below N W2 W3:=(Uy.o.mono fG).trans ⟨eT.os,eT.tape,eT.output,eT.size,fun k hk=>eT.block k (by have:=Uy.o.size;omega) (fun h=>by have:=((iF.o.rows.own 5 _ rfl).lt k (by rw[HM.o] at h;exact dh.1 h)).1;omega)⟩;have nG:=aa BF;clear hE hF eT nH yn χ BF Υ hm2 qh c2 f2 vF n20 n21;go_upto_region 4 with(fail)
 refine bU fun W4 nP=>?_;have hO6:iW N W4 wb (qG s (y,z) 0) ⟨vt,vn,vw,vu,vr,.slice o7 (s.cK.heaps.length+1) c7,.slice ok es.length ck,vs⟩ es:=by
  rw[nP,NJ];exact iF.o.put (i:=5) rfl ⟨129,2,.slice o7 (s.cK.heaps.length+1) c7,s.cK.heaps.length+1,aB s.cK.heaps++[iv y,iv z]⟩ gP.o.1 (fun m hm=>by rw[HM.o] at hm;exact dh.1 hm) gP.o.2.1 gP.o.2.2.1 (aA gP.o.2.2.2 _) (by simp[gB,eH,aB]) iF.o.es
 have gJ:=aa (show Below N W2 W4 from by rw[nP];exact nG.o.setCell uf _);obtain⟨c4,f4,l4⟩:=ae hO6.blk;have JB:=aa hO6;clear nP hO6 c3 f3 c9 f9;go_wp2_with fail
 clear c4 f4;have hle:es.length<=3:=by have:=iN.o;have:=HG3.o.1;omega
 go_loopw [6,39] (fun _ u wr=> ∃i:Nat,i<=es.length/\u= .int .i64 i/\Below N W2 wr/\ ∃Ο:List KE,Ο.length=es.length/\iW N wr wb (qG s (y,z) i) ⟨vt,vn,vw,vu,vr,.slice o7 (s.cK.heaps.length+1) c7,.slice ok es.length ck,vs⟩ Ο) (fun _ u _=>es.length-(intOf u).toNat)
 case atStart=>exact⟨0,bE _,rfl,gJ.o,es,rfl,JB.o⟩
 case round=>
  obtain⟨i,hi,rfl,hB,Ο,FN,hOr⟩:=hrel;by_cases uM:i<es.length
  ·obtain⟨c5,f5,l5⟩:=ae hOr.blk;have hic:i<s.cK.aQ.length:=by have:=iN.o;omega
   obtain⟨ev,el,Ay⟩: ∃ev el,Ο[i]? =some (ev,el):=⟨_,_,dn ϑ⟩;have Lb:el=s.cK.aQ[i]:=by
    have h1:=RD s (y,z) i hic;rw[<-hOr.es] at h1;simpa [Ay] using h1
   have hrow:=wS (qG s (y,z) i) ⟨vt,vn,vw,vu,vr,.slice o7 (s.cK.heaps.length+1) c7,.slice ok es.length ck,vs⟩ Ο Ay;obtain⟨oe,ce,rfl⟩: ∃o c,ev= .slice o el.length c:=aR (n:=el.length) (hOr.rows.own _ _ hrow);have ajD:el.length<=3:=by rw[Lb,(HG3.o.2 _ (bZ _)).1];omega
   have h6:wr.ownsRow N 52 1 (.slice ok es.length ck) es.length (dW Ο):=by have h:=hOr.rows.own 6 _ rfl;rw[<-FN];rw[<-FN] at h;exact h
   obtain⟨gk,rfl,Ql,hfk,Y9⟩:=fQ h6 ϑ;have hgx:(dW Ο)[i]? =some (.slice oe el.length ce):=by simp[dW,Ay]
   obtain⟨hg',eg'⟩:=iy.1 hgx;have g6:=(Ql i hg').trans (by rw[eg']);obtain⟨Ms,η⟩: ∃Ms,Ms=(Value.slice oe el.length ce).ownBlock.toList:=⟨_,rfl⟩;have Υ:wb∉Ms:=fun h=>hOr.rows.off _ _ hrow (by rw[η] at h;exact dh.1 h);have hm2:gk∉Ms:=fun h=>by
    have h0:(Value.slice oe el.length ce).ownBlock=some gk:=(by rw[η] at h;exact dh.1 h);rcases hOr.rows.apart 6 (8+i) _ _ rfl hrow ϑ with h1|h1
    ·cases h1
    ·exact h1 h0.symm
   have qh: ∀m∈Ms,m<wr.heap.size:=fun m h=>((hOr.rows.own _ _ hrow).lt m (by rw[η] at h;exact dh.1 h)).2;have HM:=aa η;have F3:=aa (af hOr (af hB (af Ay (af Lb (af FN (af hrow (af h6 hic)))))));clear η hOr hB Ay Lb FN hrow h6 hgx hg' eg' Ql;go_wp2_with fail
   refine zg 14 Ms (some 13) [(12,Spec.slice wr.heap.size #[iv 0] 3 1),(13,⟨fun _ v=> ∃o2 c2,v= .slice o2 (el.length+1) c2,fun _ v Wx=>Wx.ownsRow N 3 1 v (el.length+1) (ag el++[iv 0])/\(v.ownBlock=(Value.slice oe el.length ce).ownBlock∨ ∃q,v.ownBlock=some q/\wr.heap.size<=q)⟩)] ?_;simp only[zt];repeat ((first|refine zd ?_|refine zk ?_);simp only[zp])
   refine cB wr.heap.size _ _ 1 ϱ (ah _) ϱ qh ϕ (fun W hW=>by go_simp;try rfl) (fun b6=>?_);simp only[zp];refine aY _ ϱ ϱ (by exact⟨.slice none (el.length+1) 0,none,0,rfl⟩) (fun W6 hE hF=>?_) (fun v Wa Wb ho hE=>?_) (fun v hv=>?_)
   ·have Iq:Ext [] wr W6:=hE;obtain⟨b',hb',hge,ο⟩:=hF _ (aW _) ϰ;cases hb';have VC:W6.ownsRow N 3 1 (.slice oe el.length ce) el.length (ag el):=az (Ms:=[]) (F3.o.1.rows.own _ _ F3.o.2.2.2.2.2.1) Iq ϕ;have ξ:aH 1 W6 (.slice (some ⟨b6,0,none⟩) 1 1) 1 ([iv 0]):=aH.bI 1 1 ο rfl ϖ;refine Does.mono (dA oF ϱ ϱ VC ϱ ξ (one_one 0) ϑ ϑ (by have:=Iq.size;have:=F3.o.2.1.size;omega)) ?_;exact zbx
   ·exact zaP
   obtain⟨o8,c8,rfl⟩:=hv;simp only[zp];intro W8 hE hF;obtain⟨nH,yn⟩:=hF _ (aW _);have eT:Ext Ms wr W8:=hE;have Ec:=F3.o.1.rows.put F3.o.2.2.2.2.2.1 (xw (.slice o8 (el.length+1) c8,el++[0])) eT (fun m hm=> .inr (.inr (by rw[HM.o] at hm;exact dh.1 hm))) (by simpa [xw,ag] using nH) (yn.imp id .inr);have χ:=(eT.block wb l5 Υ).trans F3.o.1.blk;obtain⟨c9,f9,l9⟩:=ae χ;have g7:=(eT.cell gk i Y9 hm2).trans g6;have h68:W8.ownsRow N 52 1 (.slice (some ⟨gk,0,none⟩) es.length ck) es.length (dW Ο):=bT F3.o.2.2.2.2.2.2.1 eT (fun b hb hm=>by cases hb;exact hm2 hm);obtain⟨gk',aca, -,aoY,hkl'⟩:=fQ h68 ϑ;cases aca;have ags:Below N W2 W8:=F3.o.2.1.trans ⟨eT.os,eT.tape,eT.output,eT.size,fun k hk=>eT.block k (by have:=F3.o.2.1.size;omega) (fun h=>by have:=((F3.o.1.rows.own _ _ F3.o.2.2.2.2.2.1).lt k (by rw[HM.o] at h;exact dh.1 h)).1;omega)⟩;have HE:=aa (af eT (af Ec (af χ (af h68 ags))));clear hE hF eT nH yn Ec χ h68 ags c5 f5 g6 Υ hm2 qh hfk Y9;go_wp2_with fail
   go_roundw
   case rel=>
    refine⟨i+1,by omega,by go_num,HE.o.2.2.2.2.setCell (HE.o.2.2.2.1.lt gk rfl).1 _,Ο.set i (.slice o8 (el.length+1) c8,el++[0]),by simp[F3.o.2.2.2.2.1],?_,?_,?_⟩
    ·exact((fB (W:=W8) (b:=gk) (off:=i) (v:= .slice o8 (el.length+1) c8)).block wb HE.o.2.1.lt (fun hm=>HE.o.2.1.off 6 ⟨52,1,.slice (some ⟨gk,0,none⟩) es.length ck,Ο.length,dW Ο⟩ (by rw[List.getElem?_set_ne ϑ];rfl) (by rw[dX.1 hm];rfl))).trans HE.o.2.2.1
    ·rw[CR (qG s (y,z) i) (qG s (y,z) (i+1)) _ Ο (by rw[F3.o.2.2.2.2.1];exact uM) rfl];have hS:=kr HE.o.2.2.2.1 i (.slice o8 (el.length+1) c8);refine HE.o.2.1.put (i:=6) (r:=⟨52,1,.slice (some ⟨gk,0,none⟩) es.length ck,Ο.length,dW Ο⟩) (by rw[List.getElem?_set_ne ϑ];rfl) _ fB (fun m hm=> .inr (.inr (by rw[dX.1 hm];rfl))) ?_ (.inl rfl);rw[F3.o.2.2.2.2.1];exact hS
    ·rw[List.map_set,F3.o.1.es, <-NK s (y,z) i F3.o.2.2.2.2.2.2.2];exact congrArg (fun q=>(qG s (y,z) i).cK.aQ.set i (q++[0])) F3.o.2.2.2.1
   case measure=>simp[intOf];omega
  ·obtain rfl:i=es.length:=ϑ;have F3:=aa (af hOr hB);clear hOr hB hle;go_wp2_with fail
   go_end0
   have q0:=iN.o;have q1:=pK.o;have q2:=wK.o;simp only[ib,bQ,bR,dw];(repeat (first|rw[aG ϑ]|rw[ak ϑ]))
   rw[RF s (y,z) _ ϑ] at F3;exact⟨F3.o.2,.inl ⟨rfl,rfl,_,Ο,F3.o.1⟩⟩
def XG (N:Nat) (t:TypeId) (size g n c:Nat) (xs:List Value) (w:World) (e:Ending) (w':World):Prop:=
 e= .returned (.slice (some ⟨g,0,none⟩) n c)/\w'.ownsRow N t size (.slice (some ⟨g,0,none⟩) n c) n xs/\Ext [g] w w'
theorem dz {W:World} {g:Nat} {cs:Array Value}:Ext [g] W (W.setRow g cs):=
 ⟨rfl,rfl,rfl,by simp,fun k _ hm=>setRow_other _ _ _ _ (by simpa using hm)⟩
theorem qQ {P:Program} {t e:TypeId} {z:Value} {size bytes:Nat} (hT:fU P t e z size bytes) {W:World} {N g c n i m:Nat} {xs:List Value} (ho:W.ownsRow N e size (.slice (some ⟨g,0,none⟩) n c) n xs) (h1: ∀u∈xs,u.oneCell'=true)
 (hi:i<n) (hm:m=n-1) (A:Addr) (hA:(if c=i+1 then some (⟨g,0,none⟩:Addr) else some ⟨g,(i+1)*size,none⟩)=some A):
 ∃W1,(∀ty,(Builtin.append_ #[t,t] ty #[.slice (some ⟨g,0,none⟩) i c,.slice (some A) (n-(i+1)) (c-(i+1))]).run P W= .ok (.slice (some ⟨g,0,none⟩) m c) W1)/\
  W1.ownsRow N e size (.slice (some ⟨g,0,none⟩) n c) n (xs.take (i*size)++xs.drop (i*size+size)++xs.drop (n*size-size))/\Ext [g] W W1:=by
 obtain⟨it,hit,hz,hs,hby⟩:=info_parts hT.info;obtain⟨hl,⟨h2,_⟩|⟨g',c',cur,h2,hb,hg,hnc,hcm,hcs,htk⟩⟩:=ho
 ·cases h2
 cases h2;have hpos:=hT.pos;have hnn:n=i+1+(n-(i+1)):=ϑ;have hmul:n*size=i*size+size+(n-(i+1))*size:=by
  conv=>lhs;rw[hnn]
  rw[Nat.add_mul,Nat.add_mul,Nat.one_mul]
 have hcz:n*size<=cur.size:=by rw[hcs];exact Nat.mul_le_mul_right _ hnc
 have IY:(xs.drop (i*size+size)).length=(n-(i+1))*size:=by rw[jR,hl];omega
 have hnews: ∀j u,(xs.drop (i*size+size))[j]? =some u->W.cell? (A.add j)=some u:=by
  intro j u hu;have hj:=(iy.1 hu).1;rw[IY] at hj;have hne:c≠i+1:=by
   intro e;have:n-(i+1)=0:=ϑ;rw[this] at hj;omega
  rw[ak hne] at hA;obtain rfl:=iJ hA;rw[Addr.add_lit,cell_of_row W g _ cur e (0,0) hg];rw[List.getElem?_drop, <-htk,List.getElem?_take] at hu;split at hu
  ·rw[show(i+1)*size+j=i*size+size+j from by rw[Nat.add_mul,Nat.one_mul]]
   simpa using hu
  ·cases hu
 have hroom:i+(n-(i+1))<=c:=ϑ;have hfit:i*it.size+(xs.drop (i*size+size)).length<=cur.size:=by rw[hs,IY];omega
 refine⟨W.setRow g (cur.toList.take (i*size)++xs.drop (i*size+size)++cur.toList.drop (i*size+(xs.drop (i*size+size)).length)).toArray,fun ty=>?_,?_,dz⟩
 ·have:=run_append_room (P:=P) W t ty e it hT.und hit g i c cur hg A (n-(i+1)) (c-(i+1)) (xs.drop (i*size+size)) (by rw[IY,hs]) hnews (fun u hu=>h1 u (List.mem_of_mem_drop hu)) hroom hfit;rw[this,hs,show i+(n-(i+1))=m from by omega]
 ·have hti:cur.toList.take (i*size)=xs.take (i*size):=by
   rw[<-htk,List.take_take];congr 1;omega
  have hL:(xs.take (i*size)++xs.drop (i*size+size)++xs.drop (n*size-size)).length=n*size:=by
   simp only[cu,fJ,jR,hl];omega
  refine⟨hL,.inr ⟨g,c,_,rfl,hb,setRow_heap W g cur _ e _ hg,hnc,hcm,?_,?_⟩⟩
  ·simp only[List.size_toArray,cu,fJ,jR,Array.length_toList,hl];omega
  ·rw[hti,IY,List.take_append,ji (by simp only[cu,fJ,jR,hl];omega)];congr 1;simp only[cu,fJ,jR,hl];rw[show n*size-(min (i*size) (n*size)+(n*size-(i*size+size)))=size from ϑ, <-htk,List.drop_take];rw[show i*size+(n-(i+1))*size=n*size-size from ϑ,show n*size-(n*size-size)=size from by omega]
theorem iP {P:Program} {w w':World} {ops:Array Oper} {rest:List Oper} {o:Oper} {a:Act} {Q:Exit->Act->World->Prop} (hg:o.guard=none) (s x:Operand) {t:TypeId}
 (hop:o.op=Op.call {callee:=Callee.builtin Builtin.append,args:= #[s,x],argTypes:= #[t,t]}) (v src v':Value) (hs:a.eval s=v) (hx:a.eval x=src) (hrun: ∀ty,(Builtin.append_ #[t,t] ty #[v,src]).run P w= .ok v' w')
 (hK:wpList P ops Q rest (a.put o.dst v') w'):wpList P ops Q (o::rest) a w:=by
 refine wpList_plain hg fun K hK'=>?_;refine uI (R:=fun v1 w1=>v1=v'/\w1=w') (gH v' ?_ ⟨rfl,rfl⟩) fun v1 w1 ⟨h1,h2⟩=>by rw[h1,h2];exact hK' _ _ hK
 exact zbI
theorem lQ {P:Program} {t e:TypeId} {z:Value} {size bytes:Nat} (hT:fU P t e z size bytes) (hv: ∀w,(zeroValue e).run P w= .ok z w) (hz1:(Builtin.zeroCells z.cells 1).toList.all (·.oneCell')=true) {W:World} {N g c n m:Nat} {xs:List Value} (ho:W.ownsRow N e size (.slice (some ⟨g,0,none⟩) n c) n xs) (hm:m+1=n):
 ∃W1,(∀ty,(Builtin.clear_ #[t] ty #[.slice (some ⟨g,m*size,none⟩) (n-m) (c-m)]).run P W= .ok (.tuple #[]) W1)/\W1.ownsRow N e size (.slice (some ⟨g,0,none⟩) m c) m (xs.take (m*size))/\Ext [g] W W1:=by
 obtain⟨it,hit,hz,hs,hby⟩:=info_parts hT.info;obtain⟨hl,⟨h2,_⟩|⟨g',c',cur,h2,hb,hg,hnc,hcm,hcs,htk⟩⟩:=ho
 ·cases h2
 cases h2;subst hm;have hzl:(Builtin.zeroCells z.cells 1).toList.length=size:=by simp[Builtin.zeroCells,hT.cells]
 have hz2: ∀u∈(Builtin.zeroCells z.cells 1).toList,u.oneCell'=true:=fun u hu=>jh.1 hz1 u hu;have hcz:m*size+size<=cur.size:=by
  rw[hcs];have:=Nat.mul_le_mul_right size hnc;rw[Nat.add_mul,Nat.one_mul] at this;exact this
 have Y6:=run_storeCells_at P g (m*size) e (Builtin.zeroCells z.cells 1).toList 0 cur W hg (by rw[hzl];omega) hz2;simp only[Nat.add_zero] at Y6;obtain⟨nw,hnw⟩: ∃nw,nw=(cur.toList.take (m*size)++(Builtin.zeroCells z.cells 1).toList++cur.toList.drop (m*size+(Builtin.zeroCells z.cells 1).toList.length)).toArray:=⟨_,rfl⟩;rw[<-hnw] at Y6;refine⟨W.setRow g nw,fun ty=>?_,⟨?_,.inr ⟨g,c,nw,rfl,hb,setRow_heap W g cur _ e _ hg,by omega,hcm,?_,?_⟩⟩,dz⟩
 ·rw[show m+1-m=0+1 from by omega];simp[Builtin.clear_,run_underlying hT.und,hv,Y6]
 ·rw[fJ,hl,Nat.add_mul];omega
 ·rw[hnw];simp only[List.size_toArray,cu,fJ,jR,Array.length_toList,hzl];omega
 ·rw[hnw];rw[jg,lJ ϗ,List.take_take,Nat.min_self, <-htk,List.take_take];congr 1;rw[Nat.add_mul];omega
theorem OL (N:Nat) (g n c i:Nat) (xs:List Value) (w:World) (ho:w.ownsRow N 186 5 (.slice (some ⟨g,0,none⟩) n c) n xs) (h1: ∀u∈xs,u.oneCell'=true) (hi:i<n) (hn:n<=100):
 Ϝ 244 #[.slice (some ⟨g,0,none⟩) n c,iv i,iv (i+1)] w (XG N 186 5 g (n-1) c (xs.take (i*5)++xs.drop (i*5+5)) w):=by
 have hnc:n<=c/\c<=maxLen:=zaW;obtain⟨hnc,hcm⟩:=hnc;simp only[maxLen] at hcm;have hc0:c≠0:=ϑ;have hi1:(i:Int)<=(c:Int):=ϑ;have hi2:(0:Int)<=(i:Int):=ϑ;have hi3:(i:Int)+1<=(n:Int):=ϑ;have hi4:(0:Int)<=(i:Int)+1:=ϑ;have hi5:i<=c:=ϑ;have hi6:i+1<=n:=ϑ;have hi7:((i:Int)+1).toNat=i+1:=ϑ;obtain⟨m,hm⟩: ∃m,m=n-1:=⟨_,rfl⟩;have Υ:(m:Int)<=(n:Int):=ϑ;have hm2:c≠m:=ϑ;have qh:(n:Int)<=(c:Int):=ϑ;have hm4:m<=n:=ϑ;obtain⟨A,hA⟩: ∃A:Addr,(if c=i+1 then some (⟨g,0,none⟩:Addr) else some ⟨g,(i+1)*5,none⟩)=some A:=by split <;>exact⟨_,rfl⟩
 have HO:=aa (af ho (af hm hA));clear ho hm;go_enter Tryz.func244,Tryz.ntmps244;go_wp2_with fail
 refine zg 6 [] none [] ?_;simp only[zt];repeat ((first|refine zd ?_|refine zk ?_);simp only[zp])
 intro W hE hF;have HE:=aa (show Ext [] w W from hE);clear hE hF;obtain⟨W1,happ,ho1,hE1⟩:=qQ UF (az (Ms:=[]) HO.o.1 HE.o ϕ) h1 hi HO.o.2.1 A HO.o.2.2;obtain⟨W2,hcl,ho2,Ι⟩:=lQ UF (fun w=>Tryz.zeroValue186 w) ϰ ho1 (m:=m) (by have:=HO.o.2.1;omega);have H2:=aa (af ho2 (af hE1 Ι));clear ho1 ho2 hE1 Ι hA;go_wp2_with (at_builtin;refine iP rfl _ _ rfl _ _ _ rfl rfl happ ?_)
 go_returns;refine⟨by simp;exact HO.o.2.1,?_,((Ext.nil HE.o).trans H2.o.2.1).trans H2.o.2.2⟩;have h9:=H2.o.1;rw[<-HO.o.2.1];have hl:=HO.o.1.1;have hx:(xs.take (i*5)++xs.drop (i*5+5)++xs.drop (n*5-5)).take (m*5)=xs.take (i*5)++xs.drop (i*5+5):=by
  have:=HO.o.2.1;rw[lJ (by simp only[cu,fJ,jR,hl];omega),ji (by simp only[cu,fJ,jR,hl];omega)]
 rw[<-hx];exact h9
theorem LA (N:Nat) (g n c i:Nat) (xs:List Value) (w:World) (ho:w.ownsRow N 188 3 (.slice (some ⟨g,0,none⟩) n c) n xs) (h1: ∀u∈xs,u.oneCell'=true) (hi:i<n) (hn:n<=100):
 Ϝ 246 #[.slice (some ⟨g,0,none⟩) n c,iv i,iv (i+1)] w (XG N 188 3 g (n-1) c (xs.take (i*3)++xs.drop (i*3+3)) w):=by
 have hnc:n<=c/\c<=maxLen:=zaW;obtain⟨hnc,hcm⟩:=hnc;simp only[maxLen] at hcm;have hc0:c≠0:=ϑ;have hi1:(i:Int)<=(c:Int):=ϑ;have hi2:(0:Int)<=(i:Int):=ϑ;have hi3:(i:Int)+1<=(n:Int):=ϑ;have hi4:(0:Int)<=(i:Int)+1:=ϑ;have hi5:i<=c:=ϑ;have hi6:i+1<=n:=ϑ;have hi7:((i:Int)+1).toNat=i+1:=ϑ;obtain⟨m,hm⟩: ∃m,m=n-1:=⟨_,rfl⟩;have Υ:(m:Int)<=(n:Int):=ϑ;have hm2:c≠m:=ϑ;have qh:(n:Int)<=(c:Int):=ϑ;have hm4:m<=n:=ϑ;obtain⟨A,hA⟩: ∃A:Addr,(if c=i+1 then some (⟨g,0,none⟩:Addr) else some ⟨g,(i+1)*3,none⟩)=some A:=by split <;>exact⟨_,rfl⟩
 have HO:=aa (af ho (af hm hA));clear ho hm;go_enter Tryz.func246,Tryz.ntmps246;go_wp2_with fail
 refine zg 6 [] none [] ?_;simp only[zt];repeat ((first|refine zd ?_|refine zk ?_);simp only[zp])
 intro W hE hF;have HE:=aa (show Ext [] w W from hE);clear hE hF;obtain⟨W1,happ,ho1,hE1⟩:=qQ Yw (az (Ms:=[]) HO.o.1 HE.o ϕ) h1 hi HO.o.2.1 A HO.o.2.2;obtain⟨W2,hcl,ho2,Ι⟩:=lQ Yw (fun w=>Tryz.zeroValue188 w) ϰ ho1 (m:=m) (by have:=HO.o.2.1;omega);exact zaS
theorem Lx (N:Nat) (g n c i:Nat) (xs:List Value) (w:World) (ho:w.ownsRow N 190 3 (.slice (some ⟨g,0,none⟩) n c) n xs) (h1: ∀u∈xs,u.oneCell'=true) (hi:i<n) (hn:n<=100):
 Ϝ 251 #[.slice (some ⟨g,0,none⟩) n c,iv i,iv (i+1)] w (XG N 190 3 g (n-1) c (xs.take (i*3)++xs.drop (i*3+3)) w):=by
 have hnc:n<=c/\c<=maxLen:=zaW;obtain⟨hnc,hcm⟩:=hnc;simp only[maxLen] at hcm;have hc0:c≠0:=ϑ;have hi1:(i:Int)<=(c:Int):=ϑ;have hi2:(0:Int)<=(i:Int):=ϑ;have hi3:(i:Int)+1<=(n:Int):=ϑ;have hi4:(0:Int)<=(i:Int)+1:=ϑ;have hi5:i<=c:=ϑ;have hi6:i+1<=n:=ϑ;have hi7:((i:Int)+1).toNat=i+1:=ϑ;obtain⟨m,hm⟩: ∃m,m=n-1:=⟨_,rfl⟩;have Υ:(m:Int)<=(n:Int):=ϑ;have hm2:c≠m:=ϑ;have qh:(n:Int)<=(c:Int):=ϑ;have hm4:m<=n:=ϑ;obtain⟨A,hA⟩: ∃A:Addr,(if c=i+1 then some (⟨g,0,none⟩:Addr) else some ⟨g,(i+1)*3,none⟩)=some A:=by split <;>exact⟨_,rfl⟩
 have HO:=aa (af ho (af hm hA));clear ho hm;go_enter Tryz.func251,Tryz.ntmps251;go_wp2_with fail
 refine zg 6 [] none [] ?_;simp only[zt];repeat ((first|refine zd ?_|refine zk ?_);simp only[zp])
 intro W hE hF;have HE:=aa (show Ext [] w W from hE);clear hE hF;obtain⟨W1,happ,ho1,hE1⟩:=qQ Yv (az (Ms:=[]) HO.o.1 HE.o ϕ) h1 hi HO.o.2.1 A HO.o.2.2;obtain⟨W2,hcl,ho2,Ι⟩:=lQ Yv (fun w=>Tryz.zeroValue190 w) ϰ ho1 (m:=m) (by have:=HO.o.2.1;omega);exact zaS
theorem Ji (N:Nat) (g n c i:Nat) (xs:List Value) (w:World) (ho:w.ownsRow N 192 4 (.slice (some ⟨g,0,none⟩) n c) n xs) (h1: ∀u∈xs,u.oneCell'=true) (hi:i<n) (hn:n<=100):
 Ϝ 254 #[.slice (some ⟨g,0,none⟩) n c,iv i,iv (i+1)] w (XG N 192 4 g (n-1) c (xs.take (i*4)++xs.drop (i*4+4)) w):=by
 have hnc:n<=c/\c<=maxLen:=zaW;obtain⟨hnc,hcm⟩:=hnc;simp only[maxLen] at hcm;have hc0:c≠0:=ϑ;have hi1:(i:Int)<=(c:Int):=ϑ;have hi2:(0:Int)<=(i:Int):=ϑ;have hi3:(i:Int)+1<=(n:Int):=ϑ;have hi4:(0:Int)<=(i:Int)+1:=ϑ;have hi5:i<=c:=ϑ;have hi6:i+1<=n:=ϑ;have hi7:((i:Int)+1).toNat=i+1:=ϑ;obtain⟨m,hm⟩: ∃m,m=n-1:=⟨_,rfl⟩;have Υ:(m:Int)<=(n:Int):=ϑ;have hm2:c≠m:=ϑ;have qh:(n:Int)<=(c:Int):=ϑ;have hm4:m<=n:=ϑ;obtain⟨A,hA⟩: ∃A:Addr,(if c=i+1 then some (⟨g,0,none⟩:Addr) else some ⟨g,(i+1)*4,none⟩)=some A:=by split <;>exact⟨_,rfl⟩
 have HO:=aa (af ho (af hm hA));clear ho hm;go_enter Tryz.func254,Tryz.ntmps254;go_wp2_with fail
 refine zg 6 [] none [] ?_;simp only[zt];repeat ((first|refine zd ?_|refine zk ?_);simp only[zp])
 intro W hE hF;have HE:=aa (show Ext [] w W from hE);clear hE hF;obtain⟨W1,happ,ho1,hE1⟩:=qQ Yu (az (Ms:=[]) HO.o.1 HE.o ϕ) h1 hi HO.o.2.1 A HO.o.2.2;obtain⟨W2,hcl,ho2,Ι⟩:=lQ Yu (fun w=>Tryz.zeroValue192 w) ϰ ho1 (m:=m) (by have:=HO.o.2.1;omega);have H2:=aa (af ho2 (af hE1 Ι));clear ho1 ho2 hE1 Ι hA;go_wp2_with (at_builtin;refine iP rfl _ _ rfl _ _ _ rfl rfl happ ?_)
 go_returns;refine⟨by simp;exact HO.o.2.1,?_,((Ext.nil HE.o).trans H2.o.2.1).trans H2.o.2.2⟩;have h9:=H2.o.1;rw[<-HO.o.2.1];have hl:=HO.o.1.1;have hx:(xs.take (i*4)++xs.drop (i*4+4)++xs.drop (n*4-4)).take (m*4)=xs.take (i*4)++xs.drop (i*4+4):=by
  have:=HO.o.2.1;rw[lJ (by simp only[cu,fJ,jR,hl];omega),ji (by simp only[cu,fJ,jR,hl];omega)]
 rw[<-hx];exact h9
theorem OM (N:Nat) (g n c i:Nat) (xs:List Value) (w:World) (ho:w.ownsRow N 3 1 (.slice (some ⟨g,0,none⟩) n c) n xs) (h1: ∀u∈xs,u.oneCell'=true) (hi:i<n) (hn:n<=100):
 Ϝ 250 #[.slice (some ⟨g,0,none⟩) n c,iv i,iv (i+1)] w (XG N 3 1 g (n-1) c (xs.take i++xs.drop (i+1)) w):=by
 have hnc:n<=c/\c<=maxLen:=zaW;obtain⟨hnc,hcm⟩:=hnc;simp only[maxLen] at hcm;have hc0:c≠0:=ϑ;have hi1:(i:Int)<=(c:Int):=ϑ;have hi2:(0:Int)<=(i:Int):=ϑ;have hi3:(i:Int)+1<=(n:Int):=ϑ;have hi4:(0:Int)<=(i:Int)+1:=ϑ;have hi5:i<=c:=ϑ;have hi6:i+1<=n:=ϑ;have hi7:((i:Int)+1).toNat=i+1:=ϑ;obtain⟨m,hm⟩: ∃m,m=n-1:=⟨_,rfl⟩;have Υ:(m:Int)<=(n:Int):=ϑ;have hm2:c≠m:=ϑ;have qh:(n:Int)<=(c:Int):=ϑ;have hm4:m<=n:=ϑ;obtain⟨A,hA⟩: ∃A:Addr,(if c=i+1 then some (⟨g,0,none⟩:Addr) else some ⟨g,i+1,none⟩)=some A:=by split <;>exact⟨_,rfl⟩
 have HO:=aa (af ho (af hm hA));clear ho hm;go_enter Tryz.func250,Tryz.ntmps250;go_wp2_with fail
 refine zg 6 [] none [] ?_;simp only[zt];repeat ((first|refine zd ?_|refine zk ?_);simp only[zp])
 intro W hE hF;have HE:=aa (show Ext [] w W from hE);clear hE hF;obtain⟨W1,happ,ho1,hE1⟩:=qQ oF (az (Ms:=[]) HO.o.1 HE.o ϕ) h1 hi HO.o.2.1 A (by rw[Nat.mul_one];exact HO.o.2.2);obtain⟨W2,hcl,ho2,Ι⟩:=lQ oF (fun w=>Tryz.zeroValue3 w) ϰ ho1 (m:=m) (by have:=HO.o.2.1;omega);simp only[Nat.mul_one] at ho1 ho2 hcl;have H2:=aa (af ho2 (af hE1 Ι));clear ho1 ho2 hE1 Ι hA;go_wp2_with (at_builtin;refine iP rfl _ _ rfl _ _ _ rfl rfl happ ?_)
 go_returns;refine⟨by simp;exact HO.o.2.1,?_,((Ext.nil HE.o).trans H2.o.2.1).trans H2.o.2.2⟩;have h9:=H2.o.1;rw[<-HO.o.2.1];have hl:=HO.o.1.1;have hx:(xs.take i++xs.drop (i+1)++xs.drop (n-1)).take m=xs.take i++xs.drop (i+1):=by
  have:=HO.o.2.1;rw[lJ (by simp only[cu,fJ,jR,hl];omega),ji (by simp only[cu,fJ,jR,hl];omega)]
 rw[<-hx];exact h9
theorem uH {α:Type} (f:α->List Value) (k:Nat) (hk: ∀x,(f x).length=k): ∀(l:List α) (i:Nat),i<l.length->(l.eraseIdx i).flatMap f=(l.flatMap f).take (i*k)++(l.flatMap f).drop (i*k+k):=by
 intro l;induction l with
 |nil=>intro i h;simp at h
 |cons y l ih=>
  intro i h;rw[List.flatMap_cons];cases i with
  |zero=>
   rw[List.eraseIdx_cons_zero,Nat.zero_mul,List.take_zero,List.nil_append,Nat.zero_add,List.drop_append,List.drop_of_length_le (by rw[hk];omega),hk,Nat.sub_self,List.drop_zero,List.nil_append]
  |succ i=>
   rw[List.eraseIdx_cons_succ,List.flatMap_cons,ih i (by simpa using h)];generalize l.flatMap f=X;have h1:(f y).length<=(i+1)*k:=by rw[hk,Nat.succ_mul];omega
   have h2:(f y).length<=(i+1)*k+k:=ϑ;rw[List.take_append (l₁:=f y),ji h1,List.drop_append (l₁:=f y),List.drop_of_length_le h2,hk,List.nil_append,jg];rw[show(i+1)*k-k=i*k from by rw[Nat.succ_mul];omega,show(i+1)*k+k-k=i*k+k from by rw[Nat.succ_mul];omega]
theorem JU (N:Nat) (w:World) (wb:Nat) (s:iE) (V:SV) (es:List KE) (ns:Value) (x:Nat) (hO:iW N w wb s V es) (hn:qc N w ns [(x:Int)]) (hG:eB s):Ϝ 157 #[.pointer (some ⟨wb,0,none⟩),ns] w (pJ N wb (ib s .lu [(x:Int)]) w):=by
 obtain⟨vt,vn,vw,vu,vr,vh,vk,vs⟩:=V;obtain⟨o,cc,rfl⟩: ∃o c,vt= .slice o s.led.field.aj.length c:=aR (n:=s.led.field.aj.length) (hO.rows.own 0 _ rfl);have HO:=aa hO;have fG:=dR hO;obtain⟨b,c,rfl,hbN,hcs⟩:=hn;have lb:b<w.heap.size:=ϑ;have lw:=hO.rows.lt;have uf:=hO.rows.base;have HW:Hid (∀W,Below N w W->b<W.heap.size/\ ∀(j:Nat) (h:j<[(x:Int)].length),W.cell? ⟨b,j,none⟩=some (iv [(x:Int)][j])):=aa (fun W hB=>⟨by have:=hB.size;omega,fun j h=>(gX (hB.block b hbN)).trans (hcs j h)⟩);obtain⟨c0,f0,l0⟩:=ae hO.blk;have mO:=hcs 0 ϕ;simp only[au] at mO;have Α:Hid (Ϙ w w):=aa (aF _ _);have I4:=hG.Ag;clear hO hcs hG;go_enter Tryz.func157,Tryz.ntmps157;go_wp2_with fail
 refine zg 8 [] none [] ?_;simp only[zt];repeat ((first|refine zd ?_|refine zk ?_);simp only[zp])
 intro W1 hE hF;have R9:=aa (aV Α.o hE.below);have Jz:=aa (Ext.below hE);clear hE hF c0 f0 mO;obtain⟨c1,f1,l1⟩:=ae ((R9.o.block _ lw).trans HO.o.blk);obtain⟨uD,Y8⟩:=HW.o W1 (R9.o.mono fG);have Φ:=Y8 0 ϕ;simp only[au] at Φ;clear Y8;go_wp2_with fail
 refine(gY _ _ _).mono ?_;rintro e W2 ⟨hb,⟨hc,rfl⟩|⟨hc,rfl⟩⟩;rotate_left
 ·simp at hc;exact zaf
 simp at hc;have Uy:=aa (aV R9.o hb);have HS2:=aa hb;have iN:=aa hc;clear hb hc c1 f1 uD Φ;obtain⟨c2,f2,l2⟩:=ae ((Uy.o.block _ lw).trans HO.o.blk);obtain⟨vF,γ⟩:=HW.o W2 (Uy.o.mono fG);have n20:=γ 0 ϕ;simp only[au] at n20;clear γ;go_wp2_with fail
 have uM:=iN.o;have Jc:=HO.o.below Uy.o;have h6:W2.ownsRow N 186 5 (.slice o s.led.field.aj.length cc) (s.led.field.aj.length) (bP s.led.field.aj):=Jc.rows.own 0 _ rfl;obtain⟨g,rfl, -,hfg,hgl⟩:=fQ h6 (by have:=iN.o;omega);have hg1:wb≠g:=fun e=>Jc.rows.off 0 _ rfl (by rw[e];rfl);have hg2:b≠g:=fun e=>by have:=(h6.lt g rfl).1;omega
 have hg3:g≠wb:=fun e=>hg1 e.symm;have hg4:g≠b:=fun e=>hg2 e.symm;have iF:=aa Jc;have H6:=aa h6;clear Jc h6;refine zg 13 [g] (some 12) [(12,⟨fun _ v=>v= .slice (some ⟨g,0,none⟩) (s.led.field.aj.length-1) cc,fun _ v Wx=>Wx.ownsRow N 186 5 (.slice (some ⟨g,0,none⟩) (s.led.field.aj.length-1) cc) (s.led.field.aj.length-1) ((bP s.led.field.aj).take (x*5)++(bP s.led.field.aj).drop (x*5+5))⟩)] ?_;simp only[zt];repeat ((first|refine zd ?_|refine zk ?_);simp only[zp])
 refine aY _ ϱ ϱ ⟨_,rfl⟩ (fun w' hE hF=>?_) (fun v Wa Wb ho hE=>?_) (fun v hv=>?_)
 ·have Iq:Ext [] W2 w':=hE;refine bM 244 #[.slice (some ⟨g,0,none⟩) s.led.field.aj.length cc,iv x,iv (x+1)] (by go_simp;try rfl) ?_;refine(OL N g _ cc x (bP s.led.field.aj) w' (az (Ms:=[]) H6.o Iq ϕ) (vU _) (by have:=iN.o;omega) ϑ).mono ?_;exact zbF
 ·exact az (Ms:=[]) ho hE ϕ
 obtain rfl:v= .slice (some ⟨g,0,none⟩) (s.led.field.aj.length-1) cc:=hv;simp only[zp];intro W3 hE hF;have nH:W3.ownsRow N 186 5 (.slice (some ⟨g,0,none⟩) (s.led.field.aj.length-1) cc) (s.led.field.aj.length-1) ((bP s.led.field.aj).take (x*5)++(bP s.led.field.aj).drop (x*5+5)):=hF _ (aW _);have eT:Ext [g] W2 W3:=hE;have χ:=(eT.block wb iF.o.rows.lt (by simpa using hg1)).trans iF.o.blk;obtain⟨c3,f3,l3⟩:=ae χ;have gP:=aa (af eT (af nH χ));have nG:=aa (show Below N w W3 from(Uy.o.mono fG).trans ⟨eT.os,eT.tape,eT.output,eT.size,fun k hk=>eT.block k (by have:=Uy.o.size;omega) (fun h=>by have:=(H6.o.lt g rfl).1;have:=dX.1 h;omega)⟩);clear hE hF eT nH χ hg1 hg2 hg3 hg4 hfg hgl c2 f2 vF n20;go_wp2_with fail
 go_end0
 have q0:=iN.o;simp only[ib,bQ,bR,dw];(repeat (first|rw[aG ϑ]|rw[ak ϑ]))
 refine⟨nG.o.setCell uf _,.inl ⟨rfl,rfl,⟨.slice (some ⟨g,0,none⟩) (s.led.field.aj.length-1) cc,vn,vw,vu,vr,vh,vk,vs⟩,es,iF.o.put (i:=0) rfl ⟨186,5,.slice (some ⟨g,0,none⟩) (s.led.field.aj.length-1) cc,s.led.field.aj.length-1,(bP s.led.field.aj).take (x*5)++(bP s.led.field.aj).drop (x*5+5)⟩ gP.o.1 (fun m hm=>by rw[dX.1 hm];rfl) gP.o.2.1 (.inl rfl) (aA gP.o.2.2 _) (by simp only[gB,lq,Int.toNat_natCast];rw[List.length_eraseIdx_of_lt uM,show bP (s.led.field.aj.eraseIdx x)=_ from uH _ 5 (fun _=>rfl) s.led.field.aj x uM];rfl) (iF.o.es)⟩⟩
theorem Uv (N:Nat) (w:World) (wb:Nat) (s:iE) (V:SV) (es:List KE) (ns:Value) (x:Nat) (hO:iW N w wb s V es) (hn:qc N w ns [(x:Int)]) (hG:eB s):Ϝ 161 #[.pointer (some ⟨wb,0,none⟩),ns] w (pJ N wb (ib s .void [(x:Int)]) w):=by
 obtain⟨vt,vn,vw,vu,vr,vh,vk,vs⟩:=V;obtain⟨o,cc,rfl⟩: ∃o c,vn= .slice o s.led.notes.length c:=aR (n:=s.led.notes.length) (hO.rows.own 1 _ rfl);have HO:=aa hO;have fG:=dR hO;obtain⟨b,c,rfl,hbN,hcs⟩:=hn;have lb:b<w.heap.size:=ϑ;have lw:=hO.rows.lt;have uf:=hO.rows.base;have HW:Hid (∀W,Below N w W->b<W.heap.size/\ ∀(j:Nat) (h:j<[(x:Int)].length),W.cell? ⟨b,j,none⟩=some (iv [(x:Int)][j])):=aa (fun W hB=>⟨by have:=hB.size;omega,fun j h=>(gX (hB.block b hbN)).trans (hcs j h)⟩);obtain⟨c0,f0,l0⟩:=ae hO.blk;have mO:=hcs 0 ϕ;simp only[au] at mO;have Α:Hid (Ϙ w w):=aa (aF _ _);have I4:=hG.notes;clear hO hcs hG;go_enter Tryz.func161,Tryz.ntmps161;go_wp2_with fail
 refine zg 10 [] none [] ?_;simp only[zt];repeat ((first|refine zd ?_|refine zk ?_);simp only[zp])
 intro W1 hE hF;have R9:=aa (aV Α.o hE.below);have Jz:=aa (Ext.below hE);clear hE hF c0 f0 mO;obtain⟨c1,f1,l1⟩:=ae ((R9.o.block _ lw).trans HO.o.blk);obtain⟨uD,Y8⟩:=HW.o W1 (R9.o.mono fG);have Φ:=Y8 0 ϕ;simp only[au] at Φ;clear Y8;go_wp2_with fail
 refine(gY _ _ _).mono ?_;rintro e W2 ⟨hb,⟨hc,rfl⟩|⟨hc,rfl⟩⟩;rotate_left
 ·simp at hc;exact zaf
 simp at hc;have Uy:=aa (aV R9.o hb);have HS2:=aa hb;have iN:=aa hc;clear hb hc c1 f1 uD Φ;obtain⟨c2,f2,l2⟩:=ae ((Uy.o.block _ lw).trans HO.o.blk);obtain⟨vF,γ⟩:=HW.o W2 (Uy.o.mono fG);have n20:=γ 0 ϕ;simp only[au] at n20;clear γ;go_wp2_with fail
 have uM:=iN.o;have Jc:=HO.o.below Uy.o;have h6:W2.ownsRow N 188 3 (.slice o s.led.notes.length cc) (s.led.notes.length) (aK s.led.notes):=Jc.rows.own 1 _ rfl;obtain⟨g,rfl, -,hfg,hgl⟩:=fQ h6 (by have:=iN.o;omega);have hg1:wb≠g:=fun e=>Jc.rows.off 1 _ rfl (by rw[e];rfl);have hg2:b≠g:=fun e=>by have:=(h6.lt g rfl).1;omega
 have hg3:g≠wb:=fun e=>hg1 e.symm;have hg4:g≠b:=fun e=>hg2 e.symm;have iF:=aa Jc;have H6:=aa h6;clear Jc h6;refine zg 15 [g] (some 14) [(14,⟨fun _ v=>v= .slice (some ⟨g,0,none⟩) (s.led.notes.length-1) cc,fun _ v Wx=>Wx.ownsRow N 188 3 (.slice (some ⟨g,0,none⟩) (s.led.notes.length-1) cc) (s.led.notes.length-1) ((aK s.led.notes).take (x*3)++(aK s.led.notes).drop (x*3+3))⟩)] ?_;simp only[zt];repeat ((first|refine zd ?_|refine zk ?_);simp only[zp])
 refine aY _ ϱ ϱ ⟨_,rfl⟩ (fun w' hE hF=>?_) (fun v Wa Wb ho hE=>?_) (fun v hv=>?_)
 ·have Iq:Ext [] W2 w':=hE;refine bM 246 #[.slice (some ⟨g,0,none⟩) s.led.notes.length cc,iv x,iv (x+1)] (by go_simp;try rfl) ?_;refine(LA N g _ cc x (aK s.led.notes) w' (az (Ms:=[]) H6.o Iq ϕ) (mJ _) (by have:=iN.o;omega) ϑ).mono ?_;exact zbF
 ·exact az (Ms:=[]) ho hE ϕ
 obtain rfl:v= .slice (some ⟨g,0,none⟩) (s.led.notes.length-1) cc:=hv;simp only[zp];intro W3 hE hF;have nH:W3.ownsRow N 188 3 (.slice (some ⟨g,0,none⟩) (s.led.notes.length-1) cc) (s.led.notes.length-1) ((aK s.led.notes).take (x*3)++(aK s.led.notes).drop (x*3+3)):=hF _ (aW _);have eT:Ext [g] W2 W3:=hE;have χ:=(eT.block wb iF.o.rows.lt (by simpa using hg1)).trans iF.o.blk;obtain⟨c3,f3,l3⟩:=ae χ;have gP:=aa (af eT (af nH χ));have nG:=aa (show Below N w W3 from(Uy.o.mono fG).trans ⟨eT.os,eT.tape,eT.output,eT.size,fun k hk=>eT.block k (by have:=Uy.o.size;omega) (fun h=>by have:=(H6.o.lt g rfl).1;have:=dX.1 h;omega)⟩);clear hE hF eT nH χ hg1 hg2 hg3 hg4 hfg hgl c2 f2 vF n20;go_wp2_with fail
 go_end0
 have q0:=iN.o;simp only[ib,bQ,bR,dw];(repeat (first|rw[aG ϑ]|rw[ak ϑ]))
 refine⟨nG.o.setCell uf _,.inl ⟨rfl,rfl,⟨vt,.slice (some ⟨g,0,none⟩) (s.led.notes.length-1) cc,vw,vu,vr,vh,vk,vs⟩,es,iF.o.put (i:=1) rfl ⟨188,3,.slice (some ⟨g,0,none⟩) (s.led.notes.length-1) cc,s.led.notes.length-1,(aK s.led.notes).take (x*3)++(aK s.led.notes).drop (x*3+3)⟩ gP.o.1 (fun m hm=>by rw[dX.1 hm];rfl) gP.o.2.1 (.inl rfl) (aA gP.o.2.2 _) (by simp only[gB,mE,Int.toNat_natCast];rw[List.length_eraseIdx_of_lt uM,show aK (s.led.notes.eraseIdx x)=_ from uH _ 3 (fun _=>rfl) s.led.notes x uM];rfl) (iF.o.es)⟩⟩
theorem M4 (N:Nat) (w:World) (wb:Nat) (s:iE) (V:SV) (es:List KE) (ns:Value) (x:Nat) (hO:iW N w wb s V es) (hn:qc N w ns [(x:Int)]) (hG:eB s):Ϝ 167 #[.pointer (some ⟨wb,0,none⟩),ns] w (pJ N wb (ib s .unread [(x:Int)]) w):=by
 obtain⟨vt,vn,vw,vu,vr,vh,vk,vs⟩:=V;obtain⟨o,cc,rfl⟩: ∃o c,vr= .slice o s.heap.readings.length c:=aR (n:=s.heap.readings.length) (hO.rows.own 4 _ rfl);have HO:=aa hO;have fG:=dR hO;obtain⟨b,c,rfl,hbN,hcs⟩:=hn;have lb:b<w.heap.size:=ϑ;have lw:=hO.rows.lt;have uf:=hO.rows.base;have HW:Hid (∀W,Below N w W->b<W.heap.size/\ ∀(j:Nat) (h:j<[(x:Int)].length),W.cell? ⟨b,j,none⟩=some (iv [(x:Int)][j])):=aa (fun W hB=>⟨by have:=hB.size;omega,fun j h=>(gX (hB.block b hbN)).trans (hcs j h)⟩);obtain⟨c0,f0,l0⟩:=ae hO.blk;have mO:=hcs 0 ϕ;simp only[au] at mO;have Α:Hid (Ϙ w w):=aa (aF _ _);have I4:=hG.reads;clear hO hcs hG;go_enter Tryz.func167,Tryz.ntmps167;go_wp2_with fail
 refine zg 10 [] none [] ?_;simp only[zt];repeat ((first|refine zd ?_|refine zk ?_);simp only[zp])
 intro W1 hE hF;have R9:=aa (aV Α.o hE.below);have Jz:=aa (Ext.below hE);clear hE hF c0 f0 mO;obtain⟨c1,f1,l1⟩:=ae ((R9.o.block _ lw).trans HO.o.blk);obtain⟨uD,Y8⟩:=HW.o W1 (R9.o.mono fG);have Φ:=Y8 0 ϕ;simp only[au] at Φ;clear Y8;go_wp2_with fail
 refine(gY _ _ _).mono ?_;rintro e W2 ⟨hb,⟨hc,rfl⟩|⟨hc,rfl⟩⟩;rotate_left
 ·simp at hc;exact zaf
 simp at hc;have Uy:=aa (aV R9.o hb);have HS2:=aa hb;have iN:=aa hc;clear hb hc c1 f1 uD Φ;obtain⟨c2,f2,l2⟩:=ae ((Uy.o.block _ lw).trans HO.o.blk);obtain⟨vF,γ⟩:=HW.o W2 (Uy.o.mono fG);have n20:=γ 0 ϕ;simp only[au] at n20;clear γ;go_wp2_with fail
 have uM:=iN.o;have Jc:=HO.o.below Uy.o;have h6:W2.ownsRow N 190 3 (.slice o s.heap.readings.length cc) (s.heap.readings.length) (aK s.heap.readings):=Jc.rows.own 4 _ rfl;obtain⟨g,rfl, -,hfg,hgl⟩:=fQ h6 (by have:=iN.o;omega);have hg1:wb≠g:=fun e=>Jc.rows.off 4 _ rfl (by rw[e];rfl);have hg2:b≠g:=fun e=>by have:=(h6.lt g rfl).1;omega
 have hg3:g≠wb:=fun e=>hg1 e.symm;have hg4:g≠b:=fun e=>hg2 e.symm;have iF:=aa Jc;have H6:=aa h6;clear Jc h6;refine zg 15 [g] (some 14) [(14,⟨fun _ v=>v= .slice (some ⟨g,0,none⟩) (s.heap.readings.length-1) cc,fun _ v Wx=>Wx.ownsRow N 190 3 (.slice (some ⟨g,0,none⟩) (s.heap.readings.length-1) cc) (s.heap.readings.length-1) ((aK s.heap.readings).take (x*3)++(aK s.heap.readings).drop (x*3+3))⟩)] ?_;simp only[zt];repeat ((first|refine zd ?_|refine zk ?_);simp only[zp])
 refine aY _ ϱ ϱ ⟨_,rfl⟩ (fun w' hE hF=>?_) (fun v Wa Wb ho hE=>?_) (fun v hv=>?_)
 ·have Iq:Ext [] W2 w':=hE;refine bM 251 #[.slice (some ⟨g,0,none⟩) s.heap.readings.length cc,iv x,iv (x+1)] (by go_simp;try rfl) ?_;refine(Lx N g _ cc x (aK s.heap.readings) w' (az (Ms:=[]) H6.o Iq ϕ) (mJ _) (by have:=iN.o;omega) ϑ).mono ?_;exact zbF
 ·exact az (Ms:=[]) ho hE ϕ
 obtain rfl:v= .slice (some ⟨g,0,none⟩) (s.heap.readings.length-1) cc:=hv;simp only[zp];intro W3 hE hF;have nH:W3.ownsRow N 190 3 (.slice (some ⟨g,0,none⟩) (s.heap.readings.length-1) cc) (s.heap.readings.length-1) ((aK s.heap.readings).take (x*3)++(aK s.heap.readings).drop (x*3+3)):=hF _ (aW _);have eT:Ext [g] W2 W3:=hE;have χ:=(eT.block wb iF.o.rows.lt (by simpa using hg1)).trans iF.o.blk;obtain⟨c3,f3,l3⟩:=ae χ;have gP:=aa (af eT (af nH χ));have nG:=aa (show Below N w W3 from(Uy.o.mono fG).trans ⟨eT.os,eT.tape,eT.output,eT.size,fun k hk=>eT.block k (by have:=Uy.o.size;omega) (fun h=>by have:=(H6.o.lt g rfl).1;have:=dX.1 h;omega)⟩);clear hE hF eT nH χ hg1 hg2 hg3 hg4 hfg hgl c2 f2 vF n20;go_wp2_with fail
 go_end0
 have q0:=iN.o;simp only[ib,bQ,bR,dw];(repeat (first|rw[aG ϑ]|rw[ak ϑ]))
 refine⟨nG.o.setCell uf _,.inl ⟨rfl,rfl,⟨vt,vn,vw,vu,.slice (some ⟨g,0,none⟩) (s.heap.readings.length-1) cc,vh,vk,vs⟩,es,iF.o.put (i:=4) rfl ⟨190,3,.slice (some ⟨g,0,none⟩) (s.heap.readings.length-1) cc,s.heap.readings.length-1,(aK s.heap.readings).take (x*3)++(aK s.heap.readings).drop (x*3+3)⟩ gP.o.1 (fun m hm=>by rw[dX.1 hm];rfl) gP.o.2.1 (.inl rfl) (aA gP.o.2.2 _) (by simp only[gB,gI,Int.toNat_natCast];rw[List.length_eraseIdx_of_lt uM,show aK (s.heap.readings.eraseIdx x)=_ from uH _ 3 (fun _=>rfl) s.heap.readings x uM];rfl) (iF.o.es)⟩⟩
theorem QW (N:Nat) (w:World) (wb:Nat) (s:iE) (V:SV) (es:List KE) (ns:Value) (x:Nat) (hO:iW N w wb s V es) (hn:qc N w ns [(x:Int)]) (hG:eB s):Ϝ 173 #[.pointer (some ⟨wb,0,none⟩),ns] w (pJ N wb (ib s .sK [(x:Int)]) w):=by
 obtain⟨vt,vn,vw,vu,vr,vh,vk,vs⟩:=V;obtain⟨o,cc,rfl⟩: ∃o c,vs= .slice o s.cK.aI.length c:=aR (n:=s.cK.aI.length) (hO.rows.own 7 _ rfl);have HO:=aa hO;have fG:=dR hO;obtain⟨b,c,rfl,hbN,hcs⟩:=hn;have lb:b<w.heap.size:=ϑ;have lw:=hO.rows.lt;have uf:=hO.rows.base;have HW:Hid (∀W,Below N w W->b<W.heap.size/\ ∀(j:Nat) (h:j<[(x:Int)].length),W.cell? ⟨b,j,none⟩=some (iv [(x:Int)][j])):=aa (fun W hB=>⟨by have:=hB.size;omega,fun j h=>(gX (hB.block b hbN)).trans (hcs j h)⟩);obtain⟨c0,f0,l0⟩:=ae hO.blk;have mO:=hcs 0 ϕ;simp only[au] at mO;have Α:Hid (Ϙ w w):=aa (aF _ _);have I4:=hG.aI;clear hO hcs hG;go_enter Tryz.func173,Tryz.ntmps173;go_wp2_with fail
 refine zg 8 [] none [] ?_;simp only[zt];repeat ((first|refine zd ?_|refine zk ?_);simp only[zp])
 intro W1 hE hF;have R9:=aa (aV Α.o hE.below);have Jz:=aa (Ext.below hE);clear hE hF c0 f0 mO;obtain⟨c1,f1,l1⟩:=ae ((R9.o.block _ lw).trans HO.o.blk);obtain⟨uD,Y8⟩:=HW.o W1 (R9.o.mono fG);have Φ:=Y8 0 ϕ;simp only[au] at Φ;clear Y8;go_wp2_with fail
 refine(gY _ _ _).mono ?_;rintro e W2 ⟨hb,⟨hc,rfl⟩|⟨hc,rfl⟩⟩;rotate_left
 ·simp at hc;exact zaf
 simp at hc;have Uy:=aa (aV R9.o hb);have HS2:=aa hb;have iN:=aa hc;clear hb hc c1 f1 uD Φ;obtain⟨c2,f2,l2⟩:=ae ((Uy.o.block _ lw).trans HO.o.blk);obtain⟨vF,γ⟩:=HW.o W2 (Uy.o.mono fG);have n20:=γ 0 ϕ;simp only[au] at n20;clear γ;go_wp2_with fail
 have uM:=iN.o;have Jc:=HO.o.below Uy.o;have h6:W2.ownsRow N 192 4 (.slice o s.cK.aI.length cc) (s.cK.aI.length) (dI s.cK.aI):=Jc.rows.own 7 _ rfl;obtain⟨g,rfl, -,hfg,hgl⟩:=fQ h6 (by have:=iN.o;omega);have hg1:wb≠g:=fun e=>Jc.rows.off 7 _ rfl (by rw[e];rfl);have hg2:b≠g:=fun e=>by have:=(h6.lt g rfl).1;omega
 have hg3:g≠wb:=fun e=>hg1 e.symm;have hg4:g≠b:=fun e=>hg2 e.symm;have iF:=aa Jc;have H6:=aa h6;clear Jc h6;refine zg 13 [g] (some 12) [(12,⟨fun _ v=>v= .slice (some ⟨g,0,none⟩) (s.cK.aI.length-1) cc,fun _ v Wx=>Wx.ownsRow N 192 4 (.slice (some ⟨g,0,none⟩) (s.cK.aI.length-1) cc) (s.cK.aI.length-1) ((dI s.cK.aI).take (x*4)++(dI s.cK.aI).drop (x*4+4))⟩)] ?_;simp only[zt];repeat ((first|refine zd ?_|refine zk ?_);simp only[zp])
 refine aY _ ϱ ϱ ⟨_,rfl⟩ (fun w' hE hF=>?_) (fun v Wa Wb ho hE=>?_) (fun v hv=>?_)
 ·have Iq:Ext [] W2 w':=hE;refine bM 254 #[.slice (some ⟨g,0,none⟩) s.cK.aI.length cc,iv x,iv (x+1)] (by go_simp;try rfl) ?_;refine(Ji N g _ cc x (dI s.cK.aI) w' (az (Ms:=[]) H6.o Iq ϕ) (CZ _) (by have:=iN.o;omega) ϑ).mono ?_;exact zbF
 ·exact az (Ms:=[]) ho hE ϕ
 obtain rfl:v= .slice (some ⟨g,0,none⟩) (s.cK.aI.length-1) cc:=hv;simp only[zp];intro W3 hE hF;have nH:W3.ownsRow N 192 4 (.slice (some ⟨g,0,none⟩) (s.cK.aI.length-1) cc) (s.cK.aI.length-1) ((dI s.cK.aI).take (x*4)++(dI s.cK.aI).drop (x*4+4)):=hF _ (aW _);have eT:Ext [g] W2 W3:=hE;have χ:=(eT.block wb iF.o.rows.lt (by simpa using hg1)).trans iF.o.blk;obtain⟨c3,f3,l3⟩:=ae χ;have gP:=aa (af eT (af nH χ));have nG:=aa (show Below N w W3 from(Uy.o.mono fG).trans ⟨eT.os,eT.tape,eT.output,eT.size,fun k hk=>eT.block k (by have:=Uy.o.size;omega) (fun h=>by have:=(H6.o.lt g rfl).1;have:=dX.1 h;omega)⟩);clear hE hF eT nH χ hg1 hg2 hg3 hg4 hfg hgl c2 f2 vF n20;go_wp2_with fail
 go_end0
 have q0:=iN.o;simp only[ib,bQ,bR,dw];(repeat (first|rw[aG ϑ]|rw[ak ϑ]))
 refine⟨nG.o.setCell uf _,.inl ⟨rfl,rfl,⟨vt,vn,vw,vu,vr,vh,vk,.slice (some ⟨g,0,none⟩) (s.cK.aI.length-1) cc⟩,es,iF.o.put (i:=7) rfl ⟨192,4,.slice (some ⟨g,0,none⟩) (s.cK.aI.length-1) cc,s.cK.aI.length-1,(dI s.cK.aI).take (x*4)++(dI s.cK.aI).drop (x*4+4)⟩ gP.o.1 (fun m hm=>by rw[dX.1 hm];rfl) gP.o.2.1 (.inl rfl) (aA gP.o.2.2 _) (by simp only[gB,eH,Int.toNat_natCast];rw[List.length_eraseIdx_of_lt uM,show dI (s.cK.aI.eraseIdx x)=_ from uH _ 4 (fun _=>rfl) s.cK.aI x uM];rfl) (iF.o.es)⟩⟩
theorem wy (last:Int) (p:Int->Bool):(iq last p).Nodup:=by
 unfold iq;refine List.Pairwise.filter _ ?_;refine List.Pairwise.map _ (fun a b h=>?_) List.nodup_range;intro e;exact h ϑ
theorem I5 (last:Int) (p:Int->Bool):(iq last p).Pairwise (fun a b=>(decide (a<=b))=true):=by
 unfold iq;refine List.Pairwise.filter _ ?_;refine List.Pairwise.map _ (fun a b h=>?_) List.pairwise_le_range;simpa using h
theorem Au (p:Int->Bool):(iq 4 p).length<=5:=by
 unfold iq;refine eU (List.length_filter_le _ _) ?_;simp
theorem Si (p:Int->Bool) (x:Int) (h0:0<=x) (h4:x<=4) (hx:(iq 4 p).contains x=false):((iq 4 p++[x]).mergeSort fun a b=>decide (a<=b))=iq 4 fun i=>i==x ||(iq 4 p).contains i:=by
 have hn: ¬x∈iq 4 p:=by
  intro h;rw[List.contains_eq_mem,decide_eq_false_iff_not] at hx;exact hx h
 have hp:(iq 4 p++[x]).mergeSort (fun a b=>decide (a<=b)) |>.Perm (iq 4 fun i=>i==x ||(iq 4 p).contains i):=by
  refine(List.mergeSort_perm _ _).trans ?_;rw[List.perm_ext_iff_of_nodup]
  ·intro a;rw[gq,dX];constructor
   ·rintro(h|rfl)
    ·have:=wV.1 h;exact wV.2 ⟨this.1,by simp[List.contains_eq_mem,h]⟩
    ·exact wV.2 ⟨⟨h0,h4⟩,by simp⟩
   ·intro h;replace h:=(wV.1 h).2;simp only[Bool.or_eq_true,beq_iff_eq,List.contains_eq_mem,dZ] at h;exact h.symm
  ·rw[List.nodup_append];refine⟨wy 4 p,by simp,fun a ha b hb=>?_⟩;rw[dX.1 hb];intro e;exact hn (e▸ha)
  ·exact wy 4 _
 refine hp.eq_of_pairwise (le:=fun a b=>(decide (a<=b))=true) (fun a b _ _ h1 h2=>?_) ?_ (I5 4 _)
 ·simp only[dZ] at h1 h2;omega
 ·refine List.pairwise_mergeSort (fun a b c h1 h2=>?_) (fun a b=>?_) _
  ·simp only[dZ] at*;omega
  ·simp only[Bool.or_eq_true,dZ];omega
theorem erase_filter: ∀(l:List Int) (k:Nat) (x:Int),l.Nodup->l[k]? =some x->l.eraseIdx k=l.filter (fun i=>i !=x):=by
 intro l;induction l with
 |nil=>intro k x _ h;cases h
 |cons y l ih=>
  intro k x hn h;rw[List.nodup_cons] at hn;cases k with
  |zero=>
   simp only[List.getElem?_cons_zero,Option.some.injEq] at h;subst h;rw[List.eraseIdx_cons_zero,List.filter_cons,ak ϕ];symm;rw[List.filter_eq_self];intro a ha;simp only[bne_iff_ne,ne_eq];intro e;exact hn.1 (e▸ha)
  |succ k=>
   have hm:x∈l:=lg (i:=k) (by simpa using h);rw[List.eraseIdx_cons_succ,List.filter_cons,aG (by simp only[bne_iff_ne,ne_eq];intro e;exact hn.1 (e▸hm)),ih k x hn.2 (by simpa using h)]
theorem K5 (p:Int->Bool) (k:Nat) (x:Int) (h:(iq 4 p)[k]? =some x):(iq 4 p).eraseIdx k=iq 4 fun i=>i !=x&&(iq 4 p).contains i:=by
 rw[erase_filter _ k x (wy 4 p) h]
 conv=>lhs;unfold iq
 conv=>rhs;unfold iq
 rw[List.filter_filter];apply List.filter_congr;intro i hi;have:(List.filter p (List.map (fun(k:Nat)=>(k:Int)) (List.range (4+1:Int).toNat))).contains i=p i:=by
  rw[Bool.eq_iff_iff,List.contains_iff_mem,List.mem_filter];exact⟨fun h=>h.2,fun h=>⟨hi,h⟩⟩
 rw[this]
theorem Sb (l:List Int) (v:Value) (n:Int) (w:World) (hv:aL w v l):Ϝ 235 #[v,iv n] w (fun e w'=>w=w'/\((∃k:Nat,l[k]? =some n/\e= .returned (iv k))∨(l.contains n=false/\e= .returned (iv (-1))))):=by
 have IY:=hv.len;obtain⟨o,c,rfl⟩:=hv.open;have HV:=aa hv;clear hv;go_enter Tryz.func235,Tryz.ntmps235;go_wp2;go_loop [4,5,8] (fun _ _ i=> ∃k:Nat,k<=l.length/\i= .int .i64 k/\(∀j (hj:j<l.length),j<k->l[j]≠n)) (fun _ _ i=>l.length-(intOf i).toNat)
 case atStart=>exact⟨0,bE _,rfl,fun j _ hj=>ϑ⟩
 case round=>
  obtain⟨k,hk,rfl,IB⟩:=hrel;have HN:=aa IB;clear IB;by_cases uM:k<l.length
  ·obtain⟨b,off,rfl,hb,hc0⟩:=aL.cell HV.o uM;by_cases he:l[k]=n
   ·have he':(n==l[k])=true:=by simp[he]
    have HE:=aa he;clear he;go_wp2;go_returns;exact⟨rfl,.inl ⟨k,by rw[<-HE.o];exact dn uM,by simp⟩⟩
   ·have he':(n==l[k])=false:=by simp;omega
    exact zaI
  ·have Y9:k=l.length:=ϑ;exact zcM
theorem M3 (N:Nat) (w:World) (wb:Nat) (s:iE) (V:SV) (es:List KE) (ns:Value) (x:Int) (hO:iW N w wb s V es) (hn:qc N w ns [x]) (hG:eB s):Ϝ 165 #[.pointer (some ⟨wb,0,none⟩),ns] w (pJ N wb (ib s .nK [x]) w):=by
 obtain⟨vt,vn,vw,vu,vr,vh,vk,vs⟩:=V;obtain⟨o,cc,rfl⟩: ∃o c,vu= .slice o s.heap.turns.length c:=aR (n:=s.heap.turns.length) (hO.rows.own 3 _ rfl);have HO:=aa hO;have fG:=dR hO;obtain⟨b,c,rfl,hbN,hcs⟩:=hn;have lb:b<w.heap.size:=ϑ;have lw:=hO.rows.lt;have uf:=hO.rows.base;have HW:Hid (∀W,Below N w W->b<W.heap.size/\ ∀(j:Nat) (h:j<[x].length),W.cell? ⟨b,j,none⟩=some (iv [x][j])):=aa (fun W hB=>⟨by have:=hB.size;omega,fun j h=>(gX (hB.block b hbN)).trans (hcs j h)⟩);obtain⟨c0,f0,l0⟩:=ae hO.blk;have mO:=hcs 0 ϕ;simp only[au] at mO;have Α:Hid (Ϙ w w):=aa (aF _ _);obtain⟨pt,hpt⟩:=hG.turns;have I4:s.heap.turns.length<=5:=by rw[hpt];exact Au pt
 have hl4:=hG.heap.1;have HPT:=aa (af hpt hl4);have h6:w.ownsRow N 3 1 (.slice o s.heap.turns.length cc) s.heap.turns.length (ag s.heap.turns):=hO.rows.own 3 _ rfl;have H6:=aa h6;clear hpt hl4 h6;clear hO hcs hG;go_enter Tryz.func165,Tryz.ntmps165;go_wp2_with fail
 refine zg 9 [] none [] ?_;simp only[zt];repeat ((first|refine zd ?_|refine zk ?_);simp only[zp])
 intro W1 hE hF;have R9:=aa (aV Α.o hE.below);have Jz:=aa (Ext.below hE);clear hE hF c0 f0 mO;obtain⟨c1,f1,l1⟩:=ae ((R9.o.block _ lw).trans HO.o.blk);obtain⟨uD,Y8⟩:=HW.o W1 (R9.o.mono fG);have Φ:=Y8 0 ϕ;simp only[au] at Φ;clear Y8;have WQ:=az (Ms:=[]) H6.o (Ext.ax R9.o) ϕ;have HX:=aa (Sb s.heap.turns _ x W1 (aH.bY WQ));clear WQ;go_wp2_with fail
 refine HX.o.mono ?_;clear HX;rintro e w1 ⟨rfl,⟨k,hk,rfl⟩|⟨IB,rfl⟩⟩
 ·have uM:=(iy.1 hk).1;have HK:=aa hk;have ajn:((k:Int)<0)=False:=ϕ;clear hk;go_wp2_with fail
  refine(dJ 7 [decide ((k:Int)<0)] W1 ϕ _ (by simp[dD]) _ _ rfl).mono ?_;rintro e W2 ⟨hb,⟨hc,rfl⟩|⟨hc,rfl⟩⟩;rotate_left
  ·exfalso;have h0:decide ((k:Int)<0)=false:=ϕ;rw[h0] at hc;exact absurd hc ϖ
  have Uy:=aa (aV R9.o hb);clear hb hc c1 f1 Φ uD ajn;obtain⟨c2,f2,l2⟩:=ae ((Uy.o.block _ lw).trans HO.o.blk);obtain⟨vF,γ⟩:=HW.o W2 (Uy.o.mono fG);have n20:=γ 0 ϕ;simp only[au] at n20;clear γ;obtain⟨g,rfl, -,hfg,hgl⟩:=fQ H6.o ϑ;have WQ:=az (Ms:=[]) H6.o (Ext.ax Uy.o) ϕ;have hg1:wb≠g:=fun e=>HO.o.rows.off 3 _ rfl (by rw[e];rfl);have HD:=aa (OM N g _ cc k (ag s.heap.turns) W2 WQ (ic _) uM ϑ);clear WQ hfg hgl;go_wp2_with fail
  refine HD.o.mono ?_;rintro e W3 ⟨rfl,nH,eT⟩;have χ:=(eT.block wb l2 (by simpa using hg1)).trans ((Uy.o.block _ lw).trans HO.o.blk);obtain⟨c3,f3,l3⟩:=ae χ;have gP:=aa (af eT (af nH χ));have nG:=aa (show Below N w W3 from(Uy.o.mono fG).trans ⟨eT.os,eT.tape,eT.output,eT.size,fun k hk=>eT.block k (by have:=Uy.o.size;omega) (fun h=>by have:=(H6.o.lt g rfl).1;have:=dX.1 h;omega)⟩);clear eT nH χ hg1 HD c2 f2 vF n20;go_wp2_with fail
  go_end0
  have hcx:s.heap.turns.contains x=true:=by rw[List.contains_iff_mem];exact lg HK.o
  simp only[ib,List.getD_cons_zero,hcx];rw[ak ϕ];have hne:iq s.heap.last (fun i=>i !=x&&s.heap.turns.contains i)=s.heap.turns.eraseIdx k:=by
   have hk:=HK.o;rw[HPT.o.2,HPT.o.1] at*
   exact(K5 pt k x hk).symm
  rw[hne];have hfe:ag (s.heap.turns.eraseIdx k)=(ag s.heap.turns).take k++(ag s.heap.turns).drop (k+1):=by
   unfold ag;rw[List.eraseIdx_eq_take_drop_succ,List.map_append,List.map_take,List.map_drop]
  refine⟨nG.o.setCell uf _,.inl ⟨rfl,rfl,⟨vt,vn,vw,.slice (some ⟨g,0,none⟩) (s.heap.turns.length-1) cc,vr,vh,vk,vs⟩,es,(HO.o.below Uy.o).put (i:=3) rfl ⟨3,1,.slice (some ⟨g,0,none⟩) (s.heap.turns.length-1) cc,s.heap.turns.length-1,(ag s.heap.turns).take k++(ag s.heap.turns).drop (k+1)⟩ gP.o.1 (fun m hm=>by rw[dX.1 hm];rfl) gP.o.2.1 (.inl rfl) (aA gP.o.2.2 _) ?_ HO.o.es⟩⟩;simp only[gB,gI];rw[List.length_eraseIdx_of_lt uM,hfe];rfl
 ·have HN:=aa IB;clear IB;go_wp2_with fail
  refine(dJ 7 [true] W1 ϕ _ (by simp[dD]) _ _ rfl).mono ?_;rintro e W2 ⟨hb,⟨hc,rfl⟩|⟨hc,rfl⟩⟩
  ·exfalso;simp at hc
  simp only[ib,List.getD_cons_zero,HN.o];rw[aG True.intro];exact⟨rfl,(aV R9.o hb).mono fG,.inr ⟨by simp,rfl⟩⟩
theorem Ux (N:Nat) (w:World) (wb:Nat) (s:iE) (V:SV) (es:List KE) (ns:Value) (x:Int) (hO:iW N w wb s V es) (hn:qc N w ns [x]) (hG:eB s) (hx:0<=x):Ϝ 164 #[.pointer (some ⟨wb,0,none⟩),ns] w (pJ N wb (ib s .turn [x]) w):=by
 obtain⟨vt,vn,vw,vu,vr,vh,vk,vs⟩:=V;obtain⟨o,cc,rfl⟩: ∃o c,vu= .slice o s.heap.turns.length c:=aR (n:=s.heap.turns.length) (hO.rows.own 3 _ rfl);have HO:=aa hO;have fG:=dR hO;obtain⟨b,c,rfl,hbN,hcs⟩:=hn;have lb:b<w.heap.size:=ϑ;have lw:=hO.rows.lt;have uf:=hO.rows.base;have HW:Hid (∀W,Below N w W->b<W.heap.size/\ ∀(j:Nat) (h:j<[x].length),W.cell? ⟨b,j,none⟩=some (iv [x][j])):=aa (fun W hB=>⟨by have:=hB.size;omega,fun j h=>(gX (hB.block b hbN)).trans (hcs j h)⟩);obtain⟨c0,f0,l0⟩:=ae hO.blk;have mO:=hcs 0 ϕ;simp only[au] at mO;have R9:Hid (Ϙ w w):=aa (aF _ _);obtain⟨pt,hpt⟩:=hG.turns;have I4:s.heap.turns.length<=5:=by rw[hpt];exact Au pt
 have hl4:=hG.heap.1;have HPT:=aa (af hpt hl4);have h6:w.ownsRow N 3 1 (.slice o s.heap.turns.length cc) s.heap.turns.length (ag s.heap.turns):=hO.rows.own 3 _ rfl;have H6:=aa h6;clear hpt h6;clear hO hcs hG;go_enter Tryz.func164,Tryz.ntmps164;go_wp2_with fail
 refine(wz x wb s _ w ((R9.o.block _ lw).trans HO.o.blk) hl4).mono ?_;rintro e W1 ⟨hb,⟨hc,rfl⟩|⟨hc,rfl⟩⟩;rotate_left
 ·simp at hc;exact zaf
 simp at hc;have Α:=aa (aV R9.o hb);have Jz:=aa hb;have iN:=aa hc;clear hb hc c0 f0 mO;obtain⟨c1,f1,l1⟩:=ae ((Α.o.block _ lw).trans HO.o.blk);obtain⟨uD,Y8⟩:=HW.o W1 (Α.o.mono fG);have Φ:=Y8 0 ϕ;simp only[au] at Φ;clear Y8;go_wp2_with fail
 refine zg 9 [] none [] ?_;simp only[zt];repeat ((first|refine zd ?_|refine zk ?_);simp only[zp])
 intro W2 hE hF;have Uy:=aa (aV Α.o hE.below);have HS2:=aa (Ext.below hE);clear hE hF c1 f1 uD Φ;obtain⟨c2,f2,l2⟩:=ae ((Uy.o.block _ lw).trans HO.o.blk);obtain⟨vF,γ⟩:=HW.o W2 (Uy.o.mono fG);have n20:=γ 0 ϕ;simp only[au] at n20;clear γ;have WQ:=az (Ms:=[]) H6.o (Ext.ax Uy.o) ϕ;have HX:=aa (gz s.heap.turns _ x W2 (aH.bY WQ));clear WQ;go_wp2_with fail
 refine HX.o.mono ?_;clear HX;rintro e W3 ⟨rfl,hb⟩;have ζ:=aa (aV Uy.o hb);obtain⟨q,hq⟩: ∃q,s.heap.turns.contains x=q:=⟨_,rfl⟩;rw[hq];have HQQ:=aa hq;clear hb hq c2 f2 vF n20;obtain⟨c3,f3,l3⟩:=ae ((ζ.o.block _ lw).trans HO.o.blk);obtain⟨GM,gT⟩:=HW.o W3 (ζ.o.mono fG);have n30:=gT 0 ϕ;simp only[au] at n30;clear gT;go_wp2_with fail
 refine(dJ 6 [q] W3 ϕ _ (by simp[dD]) _ _ rfl).mono ?_;rintro e W4 ⟨hb,⟨hc,rfl⟩|⟨hc,rfl⟩⟩;rotate_left
 ·obtain rfl:q=true:=(by cases q <;>simp_all);have q0:=iN.o;have hqq:=HQQ.o;simp only[ib,List.getD_cons_zero,hqq];rw[ak ϑ,aG True.intro];exact⟨rfl,(aV ζ.o hb).mono fG,.inr ⟨by simp,rfl⟩⟩
 obtain rfl:q=false:=(by cases q <;>simp_all);have gJ:=aa (aV ζ.o hb);have QM:=aa hb;have pK:=aa hc;clear hb hc c3 f3 GM n30;obtain⟨c4,f4,l4⟩:=ae ((gJ.o.block _ lw).trans HO.o.blk);obtain⟨ML,je⟩:=HW.o W4 (gJ.o.mono fG);have n40:=je 0 ϕ;simp only[au] at n40;clear je;go_wp2_with fail
 obtain⟨Ms,η⟩: ∃Ms,Ms=(Value.slice o s.heap.turns.length cc).ownBlock.toList:=⟨_,rfl⟩;have hO4:=HO.o.below gJ.o;have Υ:wb∉Ms:=fun h=>hO4.rows.off 3 _ rfl (by rw[η] at h;exact dh.1 h);have hm2:b∉Ms:=fun h=>by have:=((hO4.rows.own 3 _ rfl).lt b (by rw[η] at h;exact dh.1 h)).1;omega
 have qh: ∀m∈Ms,m<W4.heap.size:=fun m h=>((hO4.rows.own 3 _ rfl).lt m (by rw[η] at h;exact dh.1 h)).2;have HM:=aa η;have iF:=aa hO4;clear η hO4;refine zg 12 Ms (some 11) [(10,Spec.slice W4.heap.size #[iv x] 3 1),(11,⟨fun _ v=> ∃o2 c2,v= .slice o2 (s.heap.turns.length+1) c2,fun _ v Wx=>Wx.ownsRow N 3 1 v (s.heap.turns.length+1) (ag s.heap.turns++[iv x])/\(v.ownBlock=(Value.slice o s.heap.turns.length cc).ownBlock∨ ∃q,v.ownBlock=some q/\W4.heap.size<=q)⟩)] ?_;simp only[zt];repeat ((first|refine zd ?_|refine zk ?_);simp only[zp])
 refine cB W4.heap.size _ _ 1 ϱ (ah _) ϱ qh ϕ (fun W hW=>by go_simp;try rfl) (fun b6=>?_);simp only[zp];repeat ((first|refine zd ?_|refine zk ?_);simp only[zp])
 refine aY _ ϱ ϱ (by exact⟨.slice none (s.heap.turns.length+1) 0,none,0,rfl⟩) (fun W6 hE hF=>?_) (fun v Wa Wb ho hE=>?_) (fun v hv=>?_)
 ·have Iq:Ext [] W4 W6:=hE;obtain⟨b',hb',hge,ο⟩:=hF _ (aW _) ϰ;cases hb';have VC:W6.ownsRow N 3 1 (.slice o s.heap.turns.length cc) s.heap.turns.length (ag s.heap.turns):=az (Ms:=[]) (iF.o.rows.own 3 _ rfl) Iq ϕ;have ξ:aH 1 W6 (.slice (some ⟨b6,0,none⟩) 1 1) 1 ([iv x]):=aH.bI 1 1 ο rfl ϖ;refine Does.mono (dA oF ϱ ϱ VC ϱ ξ (one_one x) ϑ ϑ (by have:=Iq.size;have:=gJ.o.size;omega)) ?_;exact zat
 ·exact zaP
 obtain⟨o7,c7,rfl⟩:=hv;simp only[zp];intro W5 hE hF;obtain⟨nH,yn⟩:=hF _ (aW _);have eT:Ext Ms W4 W5:=hE;have χ:=(eT.block wb iF.o.rows.lt Υ).trans iF.o.blk;obtain⟨c5,f5,l5⟩:=ae χ;have gP:=aa (af eT (af nH (af yn χ)));have BF:Below N w W5:=(gJ.o.mono fG).trans ⟨eT.os,eT.tape,eT.output,eT.size,fun k hk=>eT.block k (by have:=gJ.o.size;omega) (fun h=>by have:=((iF.o.rows.own 3 _ rfl).lt k (by rw[HM.o] at h;exact dh.1 h)).1;omega)⟩;have nG:=aa BF;clear hE hF eT nH yn χ BF Υ hm2 qh c4 f4 ML n40;go_upto_region 3 with(fail)
 refine bU fun W6 nP=>?_;have hO6:iW N W6 wb (gI s {s.heap with turns:=s.heap.turns++[x]}) ⟨vt,vn,vw,.slice o7 (s.heap.turns.length+1) c7,vr,vh,vk,vs⟩ es:=by
  rw[nP];exact iF.o.put (i:=3) rfl ⟨3,1,.slice o7 (s.heap.turns.length+1) c7,s.heap.turns.length+1,ag s.heap.turns++[iv x]⟩ gP.o.1 (fun m hm=>by rw[HM.o] at hm;exact dh.1 hm) gP.o.2.1 gP.o.2.2.1 (aA gP.o.2.2.2 _) (by simp[gB,gI,ag]) iF.o.es
 have nJ:=aa (show Below N w W6 from by rw[nP];exact nG.o.setCell uf _);obtain⟨c6,f6,l6⟩:=ae hO6.blk;have h7:W6.ownsRow N 3 1 (.slice o7 (s.heap.turns.length+1) c7) (s.heap.turns++[x]).length (ag (s.heap.turns++[x])):=hO6.rows.own 3 _ rfl;rw[cu,List.length_singleton] at h7;obtain⟨g,rfl, -,hfg,hgl⟩:=fQ h7 ϑ;obtain⟨cur,h7b,h7c,h7d,h7e,h7f,h7g⟩: ∃cur,N<=g/\W6.heap[g]? =some (.cells cur 3 (0,0))/\s.heap.turns.length+1<=c7/\c7<=maxLen/\cur.size=c7*1/\cur.toList.take ((s.heap.turns.length+1)*1)=ag (s.heap.turns++[x]):=by
  obtain⟨h1,⟨h2,_⟩|⟨g',cc',cs,h2,h3,h4,h5,h6,h7,h8⟩⟩:=h7
  ·cases h2
  ·cases h2;exact⟨cs,h3,h4,h5,h6,h7,h8⟩
 have hHo:=holds_of_blockI (ss:=s.heap.turns++[x]) h7c (by rw[cu,List.length_singleton, <-Nat.mul_one (s.heap.turns.length+1)];exact h7g);have hsort:=Go.Proofs.Tryz.slices_Sort_int g 0 c7 (s.heap.turns++[x]) W6 hHo hgl (by rw[cu,List.length_singleton];omega);rw[cu,List.length_singleton] at hsort;have JB:=aa (af hO6 (af h7b (af h7c (af h7d (af h7e h7f)))));have π:=aa hsort;clear nP hO6 h7 h7b h7c h7d h7e h7f h7g hHo hsort c5 f5;go_wp2_with fail
 refine π.o.mono ?_;rintro e W9 ⟨rfl,n9,os,rfl⟩;(try go_wp2_with fail)
 go_end0
 have q0:=iN.o;have q1:=pK.o;have hqq:=HQQ.o;simp only[ib,List.getD_cons_zero,hqq];rw[ak ϑ,ak ϕ];have hne:((s.heap.turns++[x]).mergeSort fun a b=>decide (a<=b))=iq s.heap.last (fun i=>i==x ||s.heap.turns.contains i):=by
  rw[HPT.o.2,HPT.o.1] at*
  exact Si pt x hx ϑ hqq
 have IY:((s.heap.turns++[x]).mergeSort fun a b=>decide (a<=b)).length=(s.heap.turns++[x]).length:=List.length_mergeSort _;have Gm:=ownsRow_sortedI (n:=n9) (os:=os) (ss:=s.heap.turns++[x]) IY JB.o.2.1 JB.o.2.2.1 (by rw[cu,List.length_singleton];exact JB.o.2.2.2.1) JB.o.2.2.2.2.1 JB.o.2.2.2.2.2;have hgb:=grownBy_sortedI (w:=W6) (g:=g) (n:=n9) (os:=os) ((s.heap.turns++[x]).mergeSort fun a b=>decide (a<=b)).toArray;have Qu:Ext [g] W6 (Go.Sort.grow (Go.Sort.putRow (Value.int .i64) (Go.Sort.ahead W6 n9) g 0 ((s.heap.turns++[x]).mergeSort fun a b=>decide (a<=b)).toArray) os):=⟨hgb.os,hgb.tape,hgb.output,hgb.size,fun k hk hm=>hgb.block k hk (fun e=>hm (by simp[iJ e]))⟩;refine⟨nJ.o.trans ⟨Qu.os,Qu.tape,Qu.output,Qu.size,fun k hk=>Qu.block k (by have:=nJ.o.size;omega) (fun h=>by have:=JB.o.2.1;have:=dX.1 h;omega)⟩,.inl ⟨rfl,rfl,_,es,JB.o.1.over (i:=3) rfl (g:=g) rfl Qu (ag ((s.heap.turns++[x]).mergeSort fun a b=>decide (a<=b))) ?_ ?_ rfl HO.o.es⟩⟩
 ·have h:=Gm;rw[cu,List.length_singleton] at h;show World.ownsRow _ N 3 1 (.slice (some ⟨g,0,none⟩) (s.heap.turns.length+1) c7) (s.heap.turns++[x]).length _;rw[cu,List.length_singleton];exact h
 ·rw[<-hne];simp only[gB,gI];rw[IY];rfl
structure jT (w:World) (s:iE) (V:SV) (es:List KE):Prop where
 sG:cz w V.sG s.led.field.aj
 Ky:aU w V.Ky s.led.notes
 bJ:bD w V.bJ s.heap.bJ
 Ab:aL w V.Ab s.heap.turns
 Al:aU w V.Al s.heap.readings
 cK:lh w V.hps V.cks V.trs es s.cK
theorem jT.below {w W:World} {s:iE} {V:SV} {es:List KE} (h:jT w s V es) {B:Nat} (hb:Below B w W) (hB:w.heap.size<=B):jT W s V es:=
 ⟨h.sG.below hb hB,h.Ky.below hb hB,h.bJ.below hb hB,h.Ab.below hb hB,h.Al.below hb hB,h.cK.below hb hB⟩
theorem iW.st {N:Nat} {w:World} {wb:Nat} {s:iE} {V:SV} {es:List KE} (h:iW N w wb s V es):jT w s V es where
 sG:=aH.bY (h.rows.own 0 _ rfl)
 Ky:=aH.bY (h.rows.own 1 _ rfl)
 bJ:=aH.bY (h.rows.own 2 _ rfl)
 Ab:=aH.bY (h.rows.own 3 _ rfl)
 Al:=aH.bY (h.rows.own 4 _ rfl)
 cK:=⟨aH.bY (h.rows.own 5 _ rfl),⟨aH.bY (h.rows.own 6 _ rfl),fun e he=>by
  obtain⟨k,hk,rfl⟩:=lK he;exact aH.bY (h.rows.own (8+k) _ (wS s V es (dn hk)))⟩,h.es,aH.bY (h.rows.own 7 _ rfl)⟩
def aX (s:iE):Int:=
 if eO s.led.field true≠0 then 11 else if gG s.led≠0 then 9 else if tQ s.heap≠0 then 3
 else if gZ.iw s.heap s.heap.turns≠0 then 11 else if gZ.mg s.heap s.heap.turns=2 then 9
 else if nQ s.cK≠0 then 3 else if gV s.cK true≠0 then 11 else 0
def ac3 (s:iE) (w:World) (e:Ending) (w':World):Prop:=
 Ϙ w w'/\((aX s=0/\e= .returned (.tuple #[]))∨(aX s≠0/\e= .panicked (jm (aX s))))
theorem acG (f:bL) (tv:Value) (w:World) (ht:cz w tv f.aj):Ϝ 40 #[fv f tv] w (fun e w'=>Ϙ w w'/\ ∃v,e= .returned (.tuple #[v,iv (eO f true)])):=by
 refine(Aa f tv w ht).mono ?_;rintro e w' ⟨hb,⟨_,rfl⟩|⟨h0,v,rfl,_⟩⟩
 ·exact⟨hb,_,rfl⟩
 ·exact⟨hb,v,by rw[h0]⟩
theorem R8 (c:bF) (hv kP tv:Value) (es:List KE) (w:World) (hc:lh w hv kP tv es c):Ϝ 45 #[kv hv kP tv] w (fun e w'=>Ϙ w w'/\ ∃v u,e= .returned (.tuple #[v,u,iv (gV c true)])):=by
 refine(wh c hv kP tv es w hc).mono ?_;rintro e w' ⟨hb,⟨_,rfl⟩|⟨h0,v,u,rfl,_⟩⟩
 ·exact⟨hb,_,_,rfl⟩
 ·exact⟨hb,v,u,by rw[h0]⟩
theorem Ra (s:iE) (V:SV) (es:List KE) (w:World) (hS:jT w s V es):Ϝ 102 #[.agg (bG s V)] w (ac3 s w):=by
 obtain⟨vt,vn,vw,vu,vr,vh,vk,vs⟩:=V;have HS:Hid (∀W,Ϙ w W->jT W s ⟨vt,vn,vw,vu,vr,vh,vk,vs⟩ es):=aa (fun W hb=>hS.below hb (ah _));obtain⟨w0,hw0⟩: ∃w0,w0=w.alloc (.cells (bG s ⟨vt,vn,vw,vu,vr,vh,vk,vs⟩) 62):=⟨_,rfl⟩;have Α:Hid (Ϙ w w0):=aa (by rw[hw0];exact ai (aF _ _) _)
 have HK0:Hid (w0.heap[w.heap.size]? =some (.cells (bG s ⟨vt,vn,vw,vu,vr,vh,vk,vs⟩) 62 (0,0))):=aa (by rw[hw0];exact av _ _);have τ:w0.heap.size=w.heap.size+1:=by rw[hw0];simp
 clear hS;go_enter Tryz.func102,Tryz.ntmps102;go_upto_region 1 with(fail)
 refine bU fun W1 ν=>?_;rw[<-hw0] at ν;subst ν;obtain⟨c0,f0,l0⟩:=ae HK0.o;clear hw0;go_wp2_with fail
 have HB:=Α;have HK:=HK0;refine(acG s.led.field _ _ (HS.o _ Α.o).sG).mono ?_;rintro e X1 ⟨hb,v,rfl⟩;have R9:=aa (aV HB.o hb);have PG:=aa ((hb.block _ l0).trans HK.o);obtain⟨c1,f1,l1⟩:=ae PG.o;clear hb c0 f0;obtain⟨q0,hq0⟩: ∃q,eO s.led.field true=q:=⟨_,rfl⟩;rw[hq0];have iN:=aa hq0;clear hq0;go_wp2_with fail
 refine(dJ 11 [q0 !=0] X1 ϕ _ (by simp[dD]) _ _ rfl).mono ?_;rintro e X2 ⟨hb,⟨hc,rfl⟩|⟨hc,rfl⟩⟩;rotate_left
 ·have hz:q0≠0:=by simpa using hc
  have hv:aX s=11:=by
   unfold aX;simp only[iN.o];rw[aG hz]
  exact⟨rfl,aV R9.o hb,.inr ⟨by rw[hv];decide,by rw[hv]⟩⟩
 have hz:q0=0:=by simpa using hc
 have HZ0:=aa hz;have Uy:=aa (aV R9.o hb);have F4:=aa ((hb.block _ l1).trans PG.o);obtain⟨c2,f2,l2⟩:=ae F4.o;clear hb hc hz c1 f1;go_wp2_with fail
 refine(Ce s.led vt vn _ (HS.o _ Uy.o).sG (HS.o _ Uy.o).Ky).mono ?_;rintro e X3 ⟨rfl,hb⟩;have ζ:=aa (aV Uy.o hb);have Bc:=aa ((hb.block _ l2).trans F4.o);obtain⟨c3,f3,l3⟩:=ae Bc.o;clear hb c2 f2;obtain⟨q1,hq1⟩: ∃q,gG s.led=q:=⟨_,rfl⟩;rw[hq1];have pK:=aa hq1;clear hq1;go_wp2_with fail
 refine(dJ 9 [q1 !=0] X3 ϕ _ (by simp[dD]) _ _ rfl).mono ?_;rintro e X4 ⟨hb,⟨hc,rfl⟩|⟨hc,rfl⟩⟩;rotate_left
 ·have hz:q1≠0:=by simpa using hc
  have hv:aX s=9:=by
   unfold aX;simp only[iN.o,pK.o];rw[ak (by have:=HZ0.o;omega)];rw[aG hz]
  exact⟨rfl,aV ζ.o hb,.inr ⟨by rw[hv];decide,by rw[hv]⟩⟩
 have hz:q1=0:=by simpa using hc
 have HZ1:=aa hz;have gJ:=aa (aV ζ.o hb);have HK4:=aa ((hb.block _ l3).trans Bc.o);obtain⟨c4,f4,l4⟩:=ae HK4.o;clear hb hc hz c3 f3;go_wp2_with fail
 refine(gZ.tV s.heap vw vu vr _ (HS.o _ gJ.o).bJ (HS.o _ gJ.o).Ab (HS.o _ gJ.o).Al).mono ?_;rintro e X5 ⟨rfl,hb⟩;have lM:=aa (aV gJ.o hb);have MC:=aa ((hb.block _ l4).trans HK4.o);obtain⟨c5,f5,l5⟩:=ae MC.o;clear hb c4 f4;obtain⟨q2,hq2⟩: ∃q,tQ s.heap=q:=⟨_,rfl⟩;rw[hq2];have wK:=aa hq2;clear hq2;go_wp2_with fail
 refine(dJ 3 [q2 !=0] X5 ϕ _ (by simp[dD]) _ _ rfl).mono ?_;rintro e X6 ⟨hb,⟨hc,rfl⟩|⟨hc,rfl⟩⟩;rotate_left
 ·have hz:q2≠0:=by simpa using hc
  have hv:aX s=3:=by
   unfold aX;simp only[iN.o,pK.o,wK.o];rw[ak (by have:=HZ0.o;omega)];rw[ak (by have:=HZ1.o;omega)];rw[aG hz]
  exact⟨rfl,aV lM.o hb,.inr ⟨by rw[hv];decide,by rw[hv]⟩⟩
 have hz:q2=0:=by simpa using hc
 have HZ2:=aa hz;have nJ:=aa (aV lM.o hb);have HK6:=aa ((hb.block _ l5).trans MC.o);obtain⟨c6,f6,l6⟩:=ae HK6.o;clear hb hc hz c5 f5;go_wp2_with fail
 refine(gZ.Ba s.heap vw vu vr vu s.heap.turns _ (HS.o _ nJ.o).bJ (HS.o _ nJ.o).Ab (HS.o _ nJ.o).Al (HS.o _ nJ.o).Ab).mono ?_;rintro e X7 ⟨rfl,hb⟩;have xM:=aa (aV nJ.o hb);have vH:=aa ((hb.block _ l6).trans HK6.o);obtain⟨c7,f7,l7⟩:=ae vH.o;clear hb c6 f6;obtain⟨q3,hq3⟩: ∃q,gZ.iw s.heap s.heap.turns=q:=⟨_,rfl⟩;rw[hq3];have Fj:=aa hq3;clear hq3;obtain⟨q4,hq4⟩: ∃q,gZ.mg s.heap s.heap.turns=q:=⟨_,rfl⟩;rw[hq4];have QN:=aa hq4;clear hq4;go_wp2_with fail
 refine(dJ 11 [q3 !=0] X7 ϕ _ (by simp[dD]) _ _ rfl).mono ?_;rintro e X8 ⟨hb,⟨hc,rfl⟩|⟨hc,rfl⟩⟩;rotate_left
 ·have hz:q3≠0:=by simpa using hc
  have hv:aX s=11:=by
   unfold aX;simp only[iN.o,pK.o,wK.o,Fj.o,QN.o];rw[ak (by have:=HZ0.o;omega)];rw[ak (by have:=HZ1.o;omega)];rw[ak (by have:=HZ2.o;omega)];rw[aG hz]
  exact⟨rfl,aV xM.o hb,.inr ⟨by rw[hv];decide,by rw[hv]⟩⟩
 have hz:q3=0:=by simpa using hc
 have HZ3:=aa hz;have nG:=aa (aV xM.o hb);have HK8:=aa ((hb.block _ l7).trans vH.o);obtain⟨c8,f8,l8⟩:=ae HK8.o;clear hb hc hz c7 f7;go_wp2_with fail
 go_wp2_with fail
 refine(dJ 9 [q4==2] X8 ϕ _ (by simp[dD]) _ _ rfl).mono ?_;rintro e X9 ⟨hb,⟨hc,rfl⟩|⟨hc,rfl⟩⟩;rotate_left
 ·have hz:q4=2:=by simpa using hc
  have hv:aX s=9:=by
   unfold aX;simp only[iN.o,pK.o,wK.o,Fj.o,QN.o];rw[ak (by have:=HZ0.o;omega)];rw[ak (by have:=HZ1.o;omega)];rw[ak (by have:=HZ2.o;omega)];rw[ak (by have:=HZ3.o;omega)];rw[aG hz]
  exact⟨rfl,aV nG.o hb,.inr ⟨by rw[hv];decide,by rw[hv]⟩⟩
 have hz:q4≠2:=by simpa using hc
 have HZ4:=aa hz;have oU:=aa (aV nG.o hb);have Bb:=aa ((hb.block _ l8).trans HK8.o);obtain⟨c9,f9,l9⟩:=ae Bb.o;clear hb hc hz c8 f8;go_wp2_with fail
 refine(Dt s.cK vh vk vs es _ (HS.o _ oU.o).cK).mono ?_;rintro e X10 ⟨rfl,hb⟩;have JD:=aa (aV oU.o hb);have ahg:=aa ((hb.block _ l9).trans Bb.o);obtain⟨c10,f10,l10⟩:=ae ahg.o;clear hb c9 f9;obtain⟨q5,hq5⟩: ∃q,nQ s.cK=q:=⟨_,rfl⟩;rw[hq5];have HQ5:=aa hq5;clear hq5;go_wp2_with fail
 refine(dJ 3 [q5 !=0] X10 ϕ _ (by simp[dD]) _ _ rfl).mono ?_;rintro e X11 ⟨hb,⟨hc,rfl⟩|⟨hc,rfl⟩⟩;rotate_left
 ·have hz:q5≠0:=by simpa using hc
  have hv:aX s=3:=by
   unfold aX;simp only[iN.o,pK.o,wK.o,Fj.o,QN.o,HQ5.o];rw[ak (by have:=HZ0.o;omega)];rw[ak (by have:=HZ1.o;omega)];rw[ak (by have:=HZ2.o;omega)];rw[ak (by have:=HZ3.o;omega)];rw[ak (by have:=HZ4.o;omega)];rw[aG hz]
  exact⟨rfl,aV JD.o hb,.inr ⟨by rw[hv];decide,by rw[hv]⟩⟩
 have hz:q5=0:=by simpa using hc
 have HZ5:=aa hz;have ME:=aa (aV JD.o hb);have ahf:=aa ((hb.block _ l10).trans ahg.o);obtain⟨c11,f11,l11⟩:=ae ahf.o;clear hb hc hz c10 f10;go_wp2_with fail
 refine(R8 s.cK vh vk vs es _ (HS.o _ ME.o).cK).mono ?_;rintro e X12 ⟨hb,v1,v2,rfl⟩;have TW:=aa (aV ME.o hb);have ahe:=aa ((hb.block _ l11).trans ahf.o);obtain⟨c12,f12,l12⟩:=ae ahe.o;clear hb c11 f11;obtain⟨q6,hq6⟩: ∃q,gV s.cK true=q:=⟨_,rfl⟩;rw[hq6];have HQ6:=aa hq6;clear hq6;go_wp2_with fail
 refine(dJ 11 [q6 !=0] X12 ϕ _ (by simp[dD]) _ _ rfl).mono ?_;rintro e X13 ⟨hb,⟨hc,rfl⟩|⟨hc,rfl⟩⟩;rotate_left
 ·have hz:q6≠0:=by simpa using hc
  have hv:aX s=11:=by
   unfold aX;simp only[iN.o,pK.o,wK.o,Fj.o,QN.o,HQ5.o,HQ6.o];rw[ak (by have:=HZ0.o;omega)];rw[ak (by have:=HZ1.o;omega)];rw[ak (by have:=HZ2.o;omega)];rw[ak (by have:=HZ3.o;omega)];rw[ak (by have:=HZ4.o;omega)];rw[ak (by have:=HZ5.o;omega)];rw[aG hz]
  exact⟨rfl,aV TW.o hb,.inr ⟨by rw[hv];decide,by rw[hv]⟩⟩
 have hz:q6=0:=by simpa using hc
 have HZ6:=aa hz;have aal:=aa (aV TW.o hb);have akV:=aa ((hb.block _ l12).trans ahe.o);obtain⟨c13,f13,l13⟩:=ae akV.o;clear hb hc hz c12 f12;(try go_wp2_with fail)
 go_end0
 have hv:aX s=0:=by
  unfold aX;simp only[iN.o,pK.o,wK.o,Fj.o,QN.o,HQ5.o,HQ6.o];rw[ak (by have:=HZ0.o;omega)];rw[ak (by have:=HZ1.o;omega)];rw[ak (by have:=HZ2.o;omega)];rw[ak (by have:=HZ3.o;omega)];rw[ak (by have:=HZ4.o;omega)];rw[ak (by have:=HZ5.o;omega)];rw[ak (by have:=HZ6.o;omega)]
 exact⟨aal.o,.inl ⟨hv,rfl⟩⟩
theorem ais:fU Tryz.prog 51 50 (rv (0,0)) 2 16:=⟨Tryz.underlying51,by kernel_rfl,rfl,by omega⟩
theorem Jo (n:Nat) (xs:List Value) (v:Value) (w:World) (hv:aH 5 w v n xs) (h1: ∀u∈xs,u.oneCell'=true) (IY:n<=1000):
 Ϝ 176 #[v] w (A8 186 5 n xs w):=by
 obtain⟨o,c,rfl⟩:=aH.open hv;have HV:=aa hv;have H1:=aa h1;clear h1;have hnil:=fun(w:World) a n c=>Lib.run_eql_slice_nil (P:=Tryz.prog) w 43 186 a n c 0 0 Tryz.underlying43;cases o with
 |none=>
  obtain⟨hl,o,c',h0,h1,h2,h3,h4⟩:=hv;cases h0;obtain rfl:c=0:=h3 rfl;obtain rfl:n=0:=ϑ;have hx:xs=[]:=jl (by simpa using hl);subst hx;clear HV H1;go_enter Tryz.func176,Tryz.ntmps176;exact zaH
 |some a=>
  obtain⟨b,off,sp⟩:=a;obtain rfl:sp=none:=zaQ;clear hv;go_enter Tryz.func176,Tryz.ntmps176;go_wp2_with (at_builtin;refine ek rfl _ _ UF rfl w.heap.size (.slice (some ⟨w.heap.size,0,none⟩) 0 0) 0 [] rfl ?_ (.slice (some ⟨b,off,none⟩) n c) n xs rfl ?_ H1.o ϑ ϑ ϕ ?_)
  ·exact zaV
  ·exact aH.alloc HV.o _
  ·exact zak
theorem FV (n:Nat) (xs:List Value) (v:Value) (w:World) (hv:aH 3 w v n xs) (h1: ∀u∈xs,u.oneCell'=true) (IY:n<=1000):
 Ϝ 177 #[v] w (A8 188 3 n xs w):=by
 obtain⟨o,c,rfl⟩:=aH.open hv;have HV:=aa hv;have H1:=aa h1;clear h1;have hnil:=fun(w:World) a n c=>Lib.run_eql_slice_nil (P:=Tryz.prog) w 47 188 a n c 0 0 Tryz.underlying47;cases o with
 |none=>
  obtain⟨hl,o,c',h0,h1,h2,h3,h4⟩:=hv;cases h0;obtain rfl:c=0:=h3 rfl;obtain rfl:n=0:=ϑ;have hx:xs=[]:=jl (by simpa using hl);subst hx;clear HV H1;go_enter Tryz.func177,Tryz.ntmps177;exact zaH
 |some a=>
  obtain⟨b,off,sp⟩:=a;obtain rfl:sp=none:=zaQ;clear hv;go_enter Tryz.func177,Tryz.ntmps177;go_wp2_with (at_builtin;refine ek rfl _ _ Yw rfl w.heap.size (.slice (some ⟨w.heap.size,0,none⟩) 0 0) 0 [] rfl ?_ (.slice (some ⟨b,off,none⟩) n c) n xs rfl ?_ H1.o ϑ ϑ ϕ ?_)
  ·exact zaV
  ·exact aH.alloc HV.o _
  ·exact zak
theorem Jm (n:Nat) (xs:List Value) (v:Value) (w:World) (hv:aH 2 w v n xs) (h1: ∀u∈xs,u.oneCell'=true) (IY:n<=1000):
 Ϝ 178 #[v] w (A8 50 2 n xs w):=by
 obtain⟨o,c,rfl⟩:=aH.open hv;have HV:=aa hv;have H1:=aa h1;clear h1;have hnil:=fun(w:World) a n c=>Lib.run_eql_slice_nil (P:=Tryz.prog) w 51 50 a n c 0 0 Tryz.underlying51;cases o with
 |none=>
  obtain⟨hl,o,c',h0,h1,h2,h3,h4⟩:=hv;cases h0;obtain rfl:c=0:=h3 rfl;obtain rfl:n=0:=ϑ;have hx:xs=[]:=jl (by simpa using hl);subst hx;clear HV H1;go_enter Tryz.func178,Tryz.ntmps178;exact zaH
 |some a=>
  obtain⟨b,off,sp⟩:=a;obtain rfl:sp=none:=zaQ;clear hv;go_enter Tryz.func178,Tryz.ntmps178;go_wp2_with (at_builtin;refine ek rfl _ _ ais rfl w.heap.size (.slice (some ⟨w.heap.size,0,none⟩) 0 0) 0 [] rfl ?_ (.slice (some ⟨b,off,none⟩) n c) n xs rfl ?_ H1.o ϑ ϑ ϕ ?_)
  ·exact zaV
  ·exact aH.alloc HV.o _
  ·exact zak
theorem FU (n:Nat) (xs:List Value) (v:Value) (w:World) (hv:aH 3 w v n xs) (h1: ∀u∈xs,u.oneCell'=true) (IY:n<=1000):
 Ϝ 179 #[v] w (A8 190 3 n xs w):=by
 obtain⟨o,c,rfl⟩:=aH.open hv;have HV:=aa hv;have H1:=aa h1;clear h1;have hnil:=fun(w:World) a n c=>Lib.run_eql_slice_nil (P:=Tryz.prog) w 53 190 a n c 0 0 Tryz.underlying53;cases o with
 |none=>
  obtain⟨hl,o,c',h0,h1,h2,h3,h4⟩:=hv;cases h0;obtain rfl:c=0:=h3 rfl;obtain rfl:n=0:=ϑ;have hx:xs=[]:=jl (by simpa using hl);subst hx;clear HV H1;go_enter Tryz.func179,Tryz.ntmps179;exact zaH
 |some a=>
  obtain⟨b,off,sp⟩:=a;obtain rfl:sp=none:=zaQ;clear hv;go_enter Tryz.func179,Tryz.ntmps179;go_wp2_with (at_builtin;refine ek rfl _ _ Yv rfl w.heap.size (.slice (some ⟨w.heap.size,0,none⟩) 0 0) 0 [] rfl ?_ (.slice (some ⟨b,off,none⟩) n c) n xs rfl ?_ H1.o ϑ ϑ ϕ ?_)
  ·exact zaV
  ·exact aH.alloc HV.o _
  ·exact zak
theorem Jp (n:Nat) (xs:List Value) (v:Value) (w:World) (hv:aH 2 w v n xs) (h1: ∀u∈xs,u.oneCell'=true) (IY:n<=1000):
 Ϝ 180 #[v] w (A8 129 2 n xs w):=by
 obtain⟨o,c,rfl⟩:=aH.open hv;have HV:=aa hv;have H1:=aa h1;clear h1;have hnil:=fun(w:World) a n c=>Lib.run_eql_slice_nil (P:=Tryz.prog) w 56 129 a n c 0 0 Tryz.underlying56;cases o with
 |none=>
  obtain⟨hl,o,c',h0,h1,h2,h3,h4⟩:=hv;cases h0;obtain rfl:c=0:=h3 rfl;obtain rfl:n=0:=ϑ;have hx:xs=[]:=jl (by simpa using hl);subst hx;clear HV H1;go_enter Tryz.func180,Tryz.ntmps180;exact zaH
 |some a=>
  obtain⟨b,off,sp⟩:=a;obtain rfl:sp=none:=zaQ;clear hv;go_enter Tryz.func180,Tryz.ntmps180;go_wp2_with (at_builtin;refine ek rfl _ _ ad7 rfl w.heap.size (.slice (some ⟨w.heap.size,0,none⟩) 0 0) 0 [] rfl ?_ (.slice (some ⟨b,off,none⟩) n c) n xs rfl ?_ H1.o ϑ ϑ ϕ ?_)
  ·exact zaV
  ·exact aH.alloc HV.o _
  ·exact zak
theorem Jq (n:Nat) (xs:List Value) (v:Value) (w:World) (hv:aH 1 w v n xs) (h1: ∀u∈xs,u.oneCell'=true) (IY:n<=1000):
 Ϝ 181 #[v] w (A8 52 1 n xs w):=by
 obtain⟨o,c,rfl⟩:=aH.open hv;have HV:=aa hv;have H1:=aa h1;clear h1;have hnil:=fun(w:World) a n c=>Lib.run_eql_slice_nil (P:=Tryz.prog) w 57 52 a n c 0 0 Tryz.underlying57;cases o with
 |none=>
  obtain⟨hl,o,c',h0,h1,h2,h3,h4⟩:=hv;cases h0;obtain rfl:c=0:=h3 rfl;obtain rfl:n=0:=ϑ;have hx:xs=[]:=jl (by simpa using hl);subst hx;clear HV H1;go_enter Tryz.func181,Tryz.ntmps181;exact zaH
 |some a=>
  obtain⟨b,off,sp⟩:=a;obtain rfl:sp=none:=zaQ;clear hv;go_enter Tryz.func181,Tryz.ntmps181;go_wp2_with (at_builtin;refine ek rfl _ _ ad9 rfl w.heap.size (.slice (some ⟨w.heap.size,0,none⟩) 0 0) 0 [] rfl ?_ (.slice (some ⟨b,off,none⟩) n c) n xs rfl ?_ H1.o ϑ ϑ ϕ ?_)
  ·exact zaV
  ·exact aH.alloc HV.o _
  ·exact zak
theorem Jn (n:Nat) (xs:List Value) (v:Value) (w:World) (hv:aH 4 w v n xs) (h1: ∀u∈xs,u.oneCell'=true) (IY:n<=1000):
 Ϝ 182 #[v] w (A8 192 4 n xs w):=by
 obtain⟨o,c,rfl⟩:=aH.open hv;have HV:=aa hv;have H1:=aa h1;clear h1;have hnil:=fun(w:World) a n c=>Lib.run_eql_slice_nil (P:=Tryz.prog) w 58 192 a n c 0 0 Tryz.underlying58;cases o with
 |none=>
  obtain⟨hl,o,c',h0,h1,h2,h3,h4⟩:=hv;cases h0;obtain rfl:c=0:=h3 rfl;obtain rfl:n=0:=ϑ;have hx:xs=[]:=jl (by simpa using hl);subst hx;clear HV H1;go_enter Tryz.func182,Tryz.ntmps182;exact zaH
 |some a=>
  obtain⟨b,off,sp⟩:=a;obtain rfl:sp=none:=zaQ;clear hv;go_enter Tryz.func182,Tryz.ntmps182;go_wp2_with (at_builtin;refine ek rfl _ _ Yu rfl w.heap.size (.slice (some ⟨w.heap.size,0,none⟩) 0 0) 0 [] rfl ?_ (.slice (some ⟨b,off,none⟩) n c) n xs rfl ?_ H1.o ϑ ϑ ϕ ?_)
  ·exact zaV
  ·exact aH.alloc HV.o _
  ·exact zak
theorem zI (n:Nat) (xs:List Value) (v:Value) (w:World) (hv:aH 1 w v n xs) (h1: ∀u∈xs,u.oneCell'=true) (IY:n<=1000):
 Ϝ 91 #[v] w (A8 3 1 n xs w):=by
 obtain⟨o,c,rfl⟩:=aH.open hv;have HV:=aa hv;have H1:=aa h1;clear h1;have hnil:=fun(w:World) a n c=>Lib.run_eql_slice_nil (P:=Tryz.prog) w 52 3 a n c 0 0 Tryz.underlying52;cases o with
 |none=>
  obtain⟨hl,o,c',h0,h1,h2,h3,h4⟩:=hv;cases h0;obtain rfl:c=0:=h3 rfl;obtain rfl:n=0:=ϑ;have hx:xs=[]:=jl (by simpa using hl);subst hx;clear HV H1;go_enter Tryz.func91,Tryz.ntmps91;exact zaH
 |some a=>
  obtain⟨b,off,sp⟩:=a;obtain rfl:sp=none:=zaQ;clear hv;go_enter Tryz.func91,Tryz.ntmps91;go_wp2_with (at_builtin;refine ek rfl _ _ oF rfl w.heap.size (.slice (some ⟨w.heap.size,0,none⟩) 0 0) 0 [] rfl ?_ (.slice (some ⟨b,off,none⟩) n c) n xs rfl ?_ H1.o ϑ ϑ ϕ ?_)
  ·exact zaV
  ·exact aH.alloc HV.o _
  ·exact zak
end Go.Proofs.Z.Bk
end

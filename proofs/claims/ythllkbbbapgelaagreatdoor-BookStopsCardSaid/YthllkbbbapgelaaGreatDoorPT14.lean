/-
  Texts of this claim, packed by a program: DM DN DO DP DQ DR DS DT DU DW DV.
-/
import Derived.WalkKit
import Derived.WalkLawsBesides
import Derived.WalkSpells
import Derived.Outline
import Derived.Handy
import Derived.KernelRfl
import Derived.Lib.Hide
import Derived.Sort.OwnSortedInts
import Derived.Lib.SliceRun
import Derived.Deep.Cut
import Derived.Lib.AtoiAllCases
import Derived.Lib.SplitLaws
import Derived.Lib.IndexBytes
import Derived.Defers
import Derived.Recover
import Derived.Laws.Pointers
import Derived.Laws.Tables
import Derived.Test.YthllkbbbapgelaaGreatDoorPT1
import Derived.Test.YthllkbbbapgelaaGreatDoorPT10
import Derived.Test.YthllkbbbapgelaaGreatDoorPT13
set_option maxHeartbeats 8000000
set_option maxRecDepth 100000
set_option linter.all false
section
namespace Go.Proofs.YthllkbbbapgelaaGreatDoor.Bk
open Go.RowKit Go.RG Go.SL Go.Shelf jl Go.TB Go.Proofs.YthllkbbbapgelaaGreatDoor.zo
theorem wG {α:Type} (f:α->List Value) (k:Nat) (hk: ∀x,(f x).length=k): ∀(l:List α) (i:Nat),i<l.length->(l.eraseIdx i).flatMap f=(l.flatMap f).take (i*k)++(l.flatMap f).drop (i*k+k):=by
 intro l
 induction l with
 |nil=>intro i h;simp at h
 |cons y l ih=>
  intro i h
  rw[List.flatMap_cons]
  cases i with
  |zero=>
   rw[List.eraseIdx_cons_zero,Nat.zero_mul,List.take_zero,List.nil_append,Nat.zero_add,List.drop_append,List.drop_of_length_le (by rw[hk];omega),hk,Nat.sub_self,List.drop_zero,List.nil_append]
  |succ i=>
   rw[List.eraseIdx_cons_succ,List.flatMap_cons,ih i (by simpa using h)]
   generalize l.flatMap f=X
   have h1:(f y).length<=(i+1)*k:=by rw[hk,Nat.succ_mul];omega
   have h2:(f y).length<=(i+1)*k+k:=by omega
   rw[List.take_append (l₁:=f y),jW h1,List.drop_append (l₁:=f y),List.drop_of_length_le h2,hk,List.nil_append,kZ]
   rw[show(i+1)*k-k=i*k from by rw[Nat.succ_mul];omega,show(i+1)*k+k-k=i*k+k from by rw[Nat.succ_mul];omega]
theorem MN (N:Nat) (w:World) (wb:Nat) (s:jJ) (V:SV) (es:List KE) (ns:Value) (x:Nat) (hO:jO N w wb s V es) (hn:rQ N w ns [(x:Int)]) (hG:fP s):Calls Tryz.prog 157 #[.pointer (some ⟨wb,0,none⟩),ns] w (ru N wb (jc s .mY [(x:Int)]) w):=by
 obtain⟨vt,vn,vw,vu,vr,vh,vk,vs⟩:=V
 obtain⟨o,cc,rfl⟩: ∃o c,vt= .slice o s.led.field.ax.length c:=aT (n:=s.led.field.ax.length) (hO.rows.own 0 _ rfl)
 have HO:=ae hO
 have gK:=eG hO
 obtain⟨b,c,rfl,hbN,hcs⟩:=hn
 have lb:b<w.heap.size:=by omega
 have lw:=hO.rows.lt
 have vU:=hO.rows.base
 have HW:Hid (∀W,Below N w W->b<W.heap.size/\ ∀(j:Nat) (h:j<[(x:Int)].length),W.cell? ⟨b,j,none⟩=some (iv [(x:Int)][j])):=ae (fun W hB=>⟨by have:=hB.size;omega,fun j h=>(ja (hB.block b hbN)).trans (hcs j h)⟩)
 obtain⟨c0,f0,l0⟩:=af hO.blk
 have oN:=hcs 0 (by simp)
 simp only[au] at oN
 have HB0:Hid (Below w.heap.size w w):=ae (aH _ _)
 have Ld:=hG.En
 clear hO hcs hG
 go_enter Tryz.func157,Tryz.ntmps157
 go_wp2_with fail
 refine zg 8 [] none [] ?_
 simp only[zt]
 repeat ((first|refine zd ?_|refine zk ?_);simp only[zp])
 intro W1 hE hF
 have HB1:=ae (bn HB0.o hE.below)
 have L8:=ae (Ext.below hE)
 clear hE hF c0 f0 oN
 obtain⟨c1,f1,l1⟩:=af ((HB1.o.block _ lw).trans HO.o.blk)
 obtain⟨wB,hcs1⟩:=HW.o W1 (HB1.o.mono gK)
 have n10:=hcs1 0 (by simp)
 simp only[au] at n10
 clear hcs1
 go_wp2_with fail
 refine(jb _ _ _).mono ?_
 rintro e W2 ⟨hb,⟨hc,rfl⟩|⟨hc,rfl⟩⟩
 rotate_left
 ·simp at hc
  simp only[jc,bU,bV,dA]
  (repeat (first|rw[aF (by omega)]|rw[aj (by omega)]))
  exact⟨rfl,(bn HB1.o hb).mono gK,.inr ⟨by simp,rfl⟩⟩
 simp at hc
 have HB2:=ae (bn HB1.o hb)
 have HS2:=ae hb
 have jK:=ae hc
 clear hb hc c1 f1 wB n10
 obtain⟨c2,f2,l2⟩:=af ((HB2.o.block _ lw).trans HO.o.blk)
 obtain⟨xq,hcs2⟩:=HW.o W2 (HB2.o.mono gK)
 have n20:=hcs2 0 (by simp)
 simp only[au] at n20
 clear hcs2
 go_wp2_with fail
 have hlt:=jK.o
 have Lp:=HO.o.below HB2.o
 have h6:W2.ownsRow N 186 5 (.slice o s.led.field.ax.length cc) (s.led.field.ax.length) (dJ s.led.field.ax):=Lp.rows.own 0 _ rfl
 obtain⟨g,rfl, -,hfg,hgl⟩:=gY h6 (by have:=jK.o;omega)
 have hg1:wb≠g:=fun e=>Lp.rows.off 0 _ rfl (by rw[e];rfl)
 have hg2:b≠g:=fun e=>by have:=(h6.lt g rfl).1;omega
 have hg3:g≠wb:=fun e=>hg1 e.symm
 have hg4:g≠b:=fun e=>hg2 e.symm
 have jq:=ae Lp
 have H6:=ae h6
 clear Lp h6
 refine zg 13 [g] (some 12) [(12,⟨fun _ v=>v= .slice (some ⟨g,0,none⟩) (s.led.field.ax.length-1) cc,fun _ v Wx=>Wx.ownsRow N 186 5 (.slice (some ⟨g,0,none⟩) (s.led.field.ax.length-1) cc) (s.led.field.ax.length-1) ((dJ s.led.field.ax).take (x*5)++(dJ s.led.field.ax).drop (x*5+5))⟩)] ?_
 simp only[zt]
 repeat ((first|refine zd ?_|refine zk ?_);simp only[zp])
 refine bG _ (by rfl) (by rfl) ⟨_,rfl⟩ (fun W6 hE hF=>?_) (fun v Wa Wb ho hE=>?_) (fun v hv=>?_)
 ·have hE':Ext [] W2 W6:=hE
  refine dB 244 #[.slice (some ⟨g,0,none⟩) s.led.field.ax.length cc,iv x,iv (x+1)] (by go_simp;try rfl) ?_
  refine(Sj N g _ cc x (dJ s.led.field.ax) W6 (aC (Ms:=[]) H6.o hE' (by simp)) (Dp _) (by have:=jK.o;omega) (by omega)).mono ?_
  rintro e w' ⟨rfl,h1,h2⟩
  exact⟨_,rfl,rfl,h1,h2⟩
 ·exact aC (Ms:=[]) ho hE (by simp)
 obtain rfl:v= .slice (some ⟨g,0,none⟩) (s.led.field.ax.length-1) cc:=hv
 simp only[zp]
 intro W3 hE hF
 have qE:W3.ownsRow N 186 5 (.slice (some ⟨g,0,none⟩) (s.led.field.ax.length-1) cc) (s.led.field.ax.length-1) ((dJ s.led.field.ax).take (x*5)++(dJ s.led.field.ax).drop (x*5+5)):=hF _ (bF _)
 have gZ:Ext [g] W2 W3:=hE
 have hbl:=(gZ.block wb jq.o.rows.lt (by simpa using hg1)).trans jq.o.blk
 obtain⟨c3,f3,l3⟩:=af hbl
 have iW:=ae (ag gZ (ag qE hbl))
 have pU:=ae (show Below N w W3 from(HB2.o.mono gK).trans ⟨gZ.os,gZ.tape,gZ.output,gZ.size,fun k hk=>gZ.block k (by have:=HB2.o.size;omega) (fun h=>by have:=(H6.o.lt g rfl).1;have:=fC.1 h;omega)⟩)
 clear hE hF gZ qE hbl hg1 hg2 hg3 hg4 hfg hgl c2 f2 xq n20
 go_wp2_with fail
 go_end0
 have q0:=jK.o
 simp only[jc,bU,bV,dA]
 (repeat (first|rw[aF (by omega)]|rw[aj (by omega)]))
 refine⟨pU.o.setCell vU _,.inl ⟨rfl,rfl,⟨.slice (some ⟨g,0,none⟩) (s.led.field.ax.length-1) cc,vn,vw,vu,vr,vh,vk,vs⟩,es,jq.o.put (i:=0) rfl ⟨186,5,.slice (some ⟨g,0,none⟩) (s.led.field.ax.length-1) cc,s.led.field.ax.length-1,(dJ s.led.field.ax).take (x*5)++(dJ s.led.field.ax).drop (x*5+5)⟩ iW.o.1 (fun m hm=>by rw[fC.1 hm];rfl) iW.o.2.1 (.inl rfl) (aI iW.o.2.2 _) (by simp only[iI,mX,Int.toNat_natCast];rw[List.length_eraseIdx_of_lt hlt,show dJ (s.led.field.ax.eraseIdx x)=_ from wG _ 5 (fun _=>rfl) s.led.field.ax x hlt];rfl) (jq.o.es)⟩⟩
theorem XX (N:Nat) (w:World) (wb:Nat) (s:jJ) (V:SV) (es:List KE) (ns:Value) (x:Nat) (hO:jO N w wb s V es) (hn:rQ N w ns [(x:Int)]) (hG:fP s):Calls Tryz.prog 161 #[.pointer (some ⟨wb,0,none⟩),ns] w (ru N wb (jc s .void [(x:Int)]) w):=by
 obtain⟨vt,vn,vw,vu,vr,vh,vk,vs⟩:=V
 obtain⟨o,cc,rfl⟩: ∃o c,vn= .slice o s.led.notes.length c:=aT (n:=s.led.notes.length) (hO.rows.own 1 _ rfl)
 have HO:=ae hO
 have gK:=eG hO
 obtain⟨b,c,rfl,hbN,hcs⟩:=hn
 have lb:b<w.heap.size:=by omega
 have lw:=hO.rows.lt
 have vU:=hO.rows.base
 have HW:Hid (∀W,Below N w W->b<W.heap.size/\ ∀(j:Nat) (h:j<[(x:Int)].length),W.cell? ⟨b,j,none⟩=some (iv [(x:Int)][j])):=ae (fun W hB=>⟨by have:=hB.size;omega,fun j h=>(ja (hB.block b hbN)).trans (hcs j h)⟩)
 obtain⟨c0,f0,l0⟩:=af hO.blk
 have oN:=hcs 0 (by simp)
 simp only[au] at oN
 have HB0:Hid (Below w.heap.size w w):=ae (aH _ _)
 have Ld:=hG.notes
 clear hO hcs hG
 go_enter Tryz.func161,Tryz.ntmps161
 go_wp2_with fail
 refine zg 10 [] none [] ?_
 simp only[zt]
 repeat ((first|refine zd ?_|refine zk ?_);simp only[zp])
 intro W1 hE hF
 have HB1:=ae (bn HB0.o hE.below)
 have L8:=ae (Ext.below hE)
 clear hE hF c0 f0 oN
 obtain⟨c1,f1,l1⟩:=af ((HB1.o.block _ lw).trans HO.o.blk)
 obtain⟨wB,hcs1⟩:=HW.o W1 (HB1.o.mono gK)
 have n10:=hcs1 0 (by simp)
 simp only[au] at n10
 clear hcs1
 go_wp2_with fail
 refine(jb _ _ _).mono ?_
 rintro e W2 ⟨hb,⟨hc,rfl⟩|⟨hc,rfl⟩⟩
 rotate_left
 ·simp at hc
  simp only[jc,bU,bV,dA]
  (repeat (first|rw[aF (by omega)]|rw[aj (by omega)]))
  exact⟨rfl,(bn HB1.o hb).mono gK,.inr ⟨by simp,rfl⟩⟩
 simp at hc
 have HB2:=ae (bn HB1.o hb)
 have HS2:=ae hb
 have jK:=ae hc
 clear hb hc c1 f1 wB n10
 obtain⟨c2,f2,l2⟩:=af ((HB2.o.block _ lw).trans HO.o.blk)
 obtain⟨xq,hcs2⟩:=HW.o W2 (HB2.o.mono gK)
 have n20:=hcs2 0 (by simp)
 simp only[au] at n20
 clear hcs2
 go_wp2_with fail
 have hlt:=jK.o
 have Lp:=HO.o.below HB2.o
 have h6:W2.ownsRow N 188 3 (.slice o s.led.notes.length cc) (s.led.notes.length) (aX s.led.notes):=Lp.rows.own 1 _ rfl
 obtain⟨g,rfl, -,hfg,hgl⟩:=gY h6 (by have:=jK.o;omega)
 have hg1:wb≠g:=fun e=>Lp.rows.off 1 _ rfl (by rw[e];rfl)
 have hg2:b≠g:=fun e=>by have:=(h6.lt g rfl).1;omega
 have hg3:g≠wb:=fun e=>hg1 e.symm
 have hg4:g≠b:=fun e=>hg2 e.symm
 have jq:=ae Lp
 have H6:=ae h6
 clear Lp h6
 refine zg 15 [g] (some 14) [(14,⟨fun _ v=>v= .slice (some ⟨g,0,none⟩) (s.led.notes.length-1) cc,fun _ v Wx=>Wx.ownsRow N 188 3 (.slice (some ⟨g,0,none⟩) (s.led.notes.length-1) cc) (s.led.notes.length-1) ((aX s.led.notes).take (x*3)++(aX s.led.notes).drop (x*3+3))⟩)] ?_
 simp only[zt]
 repeat ((first|refine zd ?_|refine zk ?_);simp only[zp])
 refine bG _ (by rfl) (by rfl) ⟨_,rfl⟩ (fun W6 hE hF=>?_) (fun v Wa Wb ho hE=>?_) (fun v hv=>?_)
 ·have hE':Ext [] W2 W6:=hE
  refine dB 246 #[.slice (some ⟨g,0,none⟩) s.led.notes.length cc,iv x,iv (x+1)] (by go_simp;try rfl) ?_
  refine(OJ N g _ cc x (aX s.led.notes) W6 (aC (Ms:=[]) H6.o hE' (by simp)) (uC _) (by have:=jK.o;omega) (by omega)).mono ?_
  rintro e w' ⟨rfl,h1,h2⟩
  exact⟨_,rfl,rfl,h1,h2⟩
 ·exact aC (Ms:=[]) ho hE (by simp)
 obtain rfl:v= .slice (some ⟨g,0,none⟩) (s.led.notes.length-1) cc:=hv
 simp only[zp]
 intro W3 hE hF
 have qE:W3.ownsRow N 188 3 (.slice (some ⟨g,0,none⟩) (s.led.notes.length-1) cc) (s.led.notes.length-1) ((aX s.led.notes).take (x*3)++(aX s.led.notes).drop (x*3+3)):=hF _ (bF _)
 have gZ:Ext [g] W2 W3:=hE
 have hbl:=(gZ.block wb jq.o.rows.lt (by simpa using hg1)).trans jq.o.blk
 obtain⟨c3,f3,l3⟩:=af hbl
 have iW:=ae (ag gZ (ag qE hbl))
 have pU:=ae (show Below N w W3 from(HB2.o.mono gK).trans ⟨gZ.os,gZ.tape,gZ.output,gZ.size,fun k hk=>gZ.block k (by have:=HB2.o.size;omega) (fun h=>by have:=(H6.o.lt g rfl).1;have:=fC.1 h;omega)⟩)
 clear hE hF gZ qE hbl hg1 hg2 hg3 hg4 hfg hgl c2 f2 xq n20
 go_wp2_with fail
 go_end0
 have q0:=jK.o
 simp only[jc,bU,bV,dA]
 (repeat (first|rw[aF (by omega)]|rw[aj (by omega)]))
 refine⟨pU.o.setCell vU _,.inl ⟨rfl,rfl,⟨vt,.slice (some ⟨g,0,none⟩) (s.led.notes.length-1) cc,vw,vu,vr,vh,vk,vs⟩,es,jq.o.put (i:=1) rfl ⟨188,3,.slice (some ⟨g,0,none⟩) (s.led.notes.length-1) cc,s.led.notes.length-1,(aX s.led.notes).take (x*3)++(aX s.led.notes).drop (x*3+3)⟩ iW.o.1 (fun m hm=>by rw[fC.1 hm];rfl) iW.o.2.1 (.inl rfl) (aI iW.o.2.2 _) (by simp only[iI,oD,Int.toNat_natCast];rw[List.length_eraseIdx_of_lt hlt,show aX (s.led.notes.eraseIdx x)=_ from wG _ 3 (fun _=>rfl) s.led.notes x hlt];rfl) (jq.o.es)⟩⟩
theorem Qg (N:Nat) (w:World) (wb:Nat) (s:jJ) (V:SV) (es:List KE) (ns:Value) (x:Nat) (hO:jO N w wb s V es) (hn:rQ N w ns [(x:Int)]) (hG:fP s):Calls Tryz.prog 167 #[.pointer (some ⟨wb,0,none⟩),ns] w (ru N wb (jc s .unread [(x:Int)]) w):=by
 obtain⟨vt,vn,vw,vu,vr,vh,vk,vs⟩:=V
 obtain⟨o,cc,rfl⟩: ∃o c,vr= .slice o s.heap.readings.length c:=aT (n:=s.heap.readings.length) (hO.rows.own 4 _ rfl)
 have HO:=ae hO
 have gK:=eG hO
 obtain⟨b,c,rfl,hbN,hcs⟩:=hn
 have lb:b<w.heap.size:=by omega
 have lw:=hO.rows.lt
 have vU:=hO.rows.base
 have HW:Hid (∀W,Below N w W->b<W.heap.size/\ ∀(j:Nat) (h:j<[(x:Int)].length),W.cell? ⟨b,j,none⟩=some (iv [(x:Int)][j])):=ae (fun W hB=>⟨by have:=hB.size;omega,fun j h=>(ja (hB.block b hbN)).trans (hcs j h)⟩)
 obtain⟨c0,f0,l0⟩:=af hO.blk
 have oN:=hcs 0 (by simp)
 simp only[au] at oN
 have HB0:Hid (Below w.heap.size w w):=ae (aH _ _)
 have Ld:=hG.reads
 clear hO hcs hG
 go_enter Tryz.func167,Tryz.ntmps167
 go_wp2_with fail
 refine zg 10 [] none [] ?_
 simp only[zt]
 repeat ((first|refine zd ?_|refine zk ?_);simp only[zp])
 intro W1 hE hF
 have HB1:=ae (bn HB0.o hE.below)
 have L8:=ae (Ext.below hE)
 clear hE hF c0 f0 oN
 obtain⟨c1,f1,l1⟩:=af ((HB1.o.block _ lw).trans HO.o.blk)
 obtain⟨wB,hcs1⟩:=HW.o W1 (HB1.o.mono gK)
 have n10:=hcs1 0 (by simp)
 simp only[au] at n10
 clear hcs1
 go_wp2_with fail
 refine(jb _ _ _).mono ?_
 rintro e W2 ⟨hb,⟨hc,rfl⟩|⟨hc,rfl⟩⟩
 rotate_left
 ·simp at hc
  simp only[jc,bU,bV,dA]
  (repeat (first|rw[aF (by omega)]|rw[aj (by omega)]))
  exact⟨rfl,(bn HB1.o hb).mono gK,.inr ⟨by simp,rfl⟩⟩
 simp at hc
 have HB2:=ae (bn HB1.o hb)
 have HS2:=ae hb
 have jK:=ae hc
 clear hb hc c1 f1 wB n10
 obtain⟨c2,f2,l2⟩:=af ((HB2.o.block _ lw).trans HO.o.blk)
 obtain⟨xq,hcs2⟩:=HW.o W2 (HB2.o.mono gK)
 have n20:=hcs2 0 (by simp)
 simp only[au] at n20
 clear hcs2
 go_wp2_with fail
 have hlt:=jK.o
 have Lp:=HO.o.below HB2.o
 have h6:W2.ownsRow N 190 3 (.slice o s.heap.readings.length cc) (s.heap.readings.length) (aX s.heap.readings):=Lp.rows.own 4 _ rfl
 obtain⟨g,rfl, -,hfg,hgl⟩:=gY h6 (by have:=jK.o;omega)
 have hg1:wb≠g:=fun e=>Lp.rows.off 4 _ rfl (by rw[e];rfl)
 have hg2:b≠g:=fun e=>by have:=(h6.lt g rfl).1;omega
 have hg3:g≠wb:=fun e=>hg1 e.symm
 have hg4:g≠b:=fun e=>hg2 e.symm
 have jq:=ae Lp
 have H6:=ae h6
 clear Lp h6
 refine zg 15 [g] (some 14) [(14,⟨fun _ v=>v= .slice (some ⟨g,0,none⟩) (s.heap.readings.length-1) cc,fun _ v Wx=>Wx.ownsRow N 190 3 (.slice (some ⟨g,0,none⟩) (s.heap.readings.length-1) cc) (s.heap.readings.length-1) ((aX s.heap.readings).take (x*3)++(aX s.heap.readings).drop (x*3+3))⟩)] ?_
 simp only[zt]
 repeat ((first|refine zd ?_|refine zk ?_);simp only[zp])
 refine bG _ (by rfl) (by rfl) ⟨_,rfl⟩ (fun W6 hE hF=>?_) (fun v Wa Wb ho hE=>?_) (fun v hv=>?_)
 ·have hE':Ext [] W2 W6:=hE
  refine dB 251 #[.slice (some ⟨g,0,none⟩) s.heap.readings.length cc,iv x,iv (x+1)] (by go_simp;try rfl) ?_
  refine(OI N g _ cc x (aX s.heap.readings) W6 (aC (Ms:=[]) H6.o hE' (by simp)) (uC _) (by have:=jK.o;omega) (by omega)).mono ?_
  rintro e w' ⟨rfl,h1,h2⟩
  exact⟨_,rfl,rfl,h1,h2⟩
 ·exact aC (Ms:=[]) ho hE (by simp)
 obtain rfl:v= .slice (some ⟨g,0,none⟩) (s.heap.readings.length-1) cc:=hv
 simp only[zp]
 intro W3 hE hF
 have qE:W3.ownsRow N 190 3 (.slice (some ⟨g,0,none⟩) (s.heap.readings.length-1) cc) (s.heap.readings.length-1) ((aX s.heap.readings).take (x*3)++(aX s.heap.readings).drop (x*3+3)):=hF _ (bF _)
 have gZ:Ext [g] W2 W3:=hE
 have hbl:=(gZ.block wb jq.o.rows.lt (by simpa using hg1)).trans jq.o.blk
 obtain⟨c3,f3,l3⟩:=af hbl
 have iW:=ae (ag gZ (ag qE hbl))
 have pU:=ae (show Below N w W3 from(HB2.o.mono gK).trans ⟨gZ.os,gZ.tape,gZ.output,gZ.size,fun k hk=>gZ.block k (by have:=HB2.o.size;omega) (fun h=>by have:=(H6.o.lt g rfl).1;have:=fC.1 h;omega)⟩)
 clear hE hF gZ qE hbl hg1 hg2 hg3 hg4 hfg hgl c2 f2 xq n20
 go_wp2_with fail
 go_end0
 have q0:=jK.o
 simp only[jc,bU,bV,dA]
 (repeat (first|rw[aF (by omega)]|rw[aj (by omega)]))
 refine⟨pU.o.setCell vU _,.inl ⟨rfl,rfl,⟨vt,vn,vw,vu,.slice (some ⟨g,0,none⟩) (s.heap.readings.length-1) cc,vh,vk,vs⟩,es,jq.o.put (i:=4) rfl ⟨190,3,.slice (some ⟨g,0,none⟩) (s.heap.readings.length-1) cc,s.heap.readings.length-1,(aX s.heap.readings).take (x*3)++(aX s.heap.readings).drop (x*3+3)⟩ iW.o.1 (fun m hm=>by rw[fC.1 hm];rfl) iW.o.2.1 (.inl rfl) (aI iW.o.2.2 _) (by simp only[iI,iP,Int.toNat_natCast];rw[List.length_eraseIdx_of_lt hlt,show aX (s.heap.readings.eraseIdx x)=_ from wG _ 3 (fun _=>rfl) s.heap.readings x hlt];rfl) (jq.o.es)⟩⟩
theorem UO (N:Nat) (w:World) (wb:Nat) (s:jJ) (V:SV) (es:List KE) (ns:Value) (x:Nat) (hO:jO N w wb s V es) (hn:rQ N w ns [(x:Int)]) (hG:fP s):Calls Tryz.prog 173 #[.pointer (some ⟨wb,0,none⟩),ns] w (ru N wb (jc s .uV [(x:Int)]) w):=by
 obtain⟨vt,vn,vw,vu,vr,vh,vk,vs⟩:=V
 obtain⟨o,cc,rfl⟩: ∃o c,vs= .slice o s.dw.aJ.length c:=aT (n:=s.dw.aJ.length) (hO.rows.own 7 _ rfl)
 have HO:=ae hO
 have gK:=eG hO
 obtain⟨b,c,rfl,hbN,hcs⟩:=hn
 have lb:b<w.heap.size:=by omega
 have lw:=hO.rows.lt
 have vU:=hO.rows.base
 have HW:Hid (∀W,Below N w W->b<W.heap.size/\ ∀(j:Nat) (h:j<[(x:Int)].length),W.cell? ⟨b,j,none⟩=some (iv [(x:Int)][j])):=ae (fun W hB=>⟨by have:=hB.size;omega,fun j h=>(ja (hB.block b hbN)).trans (hcs j h)⟩)
 obtain⟨c0,f0,l0⟩:=af hO.blk
 have oN:=hcs 0 (by simp)
 simp only[au] at oN
 have HB0:Hid (Below w.heap.size w w):=ae (aH _ _)
 have Ld:=hG.aJ
 clear hO hcs hG
 go_enter Tryz.func173,Tryz.ntmps173
 go_wp2_with fail
 refine zg 8 [] none [] ?_
 simp only[zt]
 repeat ((first|refine zd ?_|refine zk ?_);simp only[zp])
 intro W1 hE hF
 have HB1:=ae (bn HB0.o hE.below)
 have L8:=ae (Ext.below hE)
 clear hE hF c0 f0 oN
 obtain⟨c1,f1,l1⟩:=af ((HB1.o.block _ lw).trans HO.o.blk)
 obtain⟨wB,hcs1⟩:=HW.o W1 (HB1.o.mono gK)
 have n10:=hcs1 0 (by simp)
 simp only[au] at n10
 clear hcs1
 go_wp2_with fail
 refine(jb _ _ _).mono ?_
 rintro e W2 ⟨hb,⟨hc,rfl⟩|⟨hc,rfl⟩⟩
 rotate_left
 ·simp at hc
  simp only[jc,bU,bV,dA]
  (repeat (first|rw[aF (by omega)]|rw[aj (by omega)]))
  exact⟨rfl,(bn HB1.o hb).mono gK,.inr ⟨by simp,rfl⟩⟩
 simp at hc
 have HB2:=ae (bn HB1.o hb)
 have HS2:=ae hb
 have jK:=ae hc
 clear hb hc c1 f1 wB n10
 obtain⟨c2,f2,l2⟩:=af ((HB2.o.block _ lw).trans HO.o.blk)
 obtain⟨xq,hcs2⟩:=HW.o W2 (HB2.o.mono gK)
 have n20:=hcs2 0 (by simp)
 simp only[au] at n20
 clear hcs2
 go_wp2_with fail
 have hlt:=jK.o
 have Lp:=HO.o.below HB2.o
 have h6:W2.ownsRow N 192 4 (.slice o s.dw.aJ.length cc) (s.dw.aJ.length) (gU s.dw.aJ):=Lp.rows.own 7 _ rfl
 obtain⟨g,rfl, -,hfg,hgl⟩:=gY h6 (by have:=jK.o;omega)
 have hg1:wb≠g:=fun e=>Lp.rows.off 7 _ rfl (by rw[e];rfl)
 have hg2:b≠g:=fun e=>by have:=(h6.lt g rfl).1;omega
 have hg3:g≠wb:=fun e=>hg1 e.symm
 have hg4:g≠b:=fun e=>hg2 e.symm
 have jq:=ae Lp
 have H6:=ae h6
 clear Lp h6
 refine zg 13 [g] (some 12) [(12,⟨fun _ v=>v= .slice (some ⟨g,0,none⟩) (s.dw.aJ.length-1) cc,fun _ v Wx=>Wx.ownsRow N 192 4 (.slice (some ⟨g,0,none⟩) (s.dw.aJ.length-1) cc) (s.dw.aJ.length-1) ((gU s.dw.aJ).take (x*4)++(gU s.dw.aJ).drop (x*4+4))⟩)] ?_
 simp only[zt]
 repeat ((first|refine zd ?_|refine zk ?_);simp only[zp])
 refine bG _ (by rfl) (by rfl) ⟨_,rfl⟩ (fun W6 hE hF=>?_) (fun v Wa Wb ho hE=>?_) (fun v hv=>?_)
 ·have hE':Ext [] W2 W6:=hE
  refine dB 254 #[.slice (some ⟨g,0,none⟩) s.dw.aJ.length cc,iv x,iv (x+1)] (by go_simp;try rfl) ?_
  refine(LG N g _ cc x (gU s.dw.aJ) W6 (aC (Ms:=[]) H6.o hE' (by simp)) (ND _) (by have:=jK.o;omega) (by omega)).mono ?_
  rintro e w' ⟨rfl,h1,h2⟩
  exact⟨_,rfl,rfl,h1,h2⟩
 ·exact aC (Ms:=[]) ho hE (by simp)
 obtain rfl:v= .slice (some ⟨g,0,none⟩) (s.dw.aJ.length-1) cc:=hv
 simp only[zp]
 intro W3 hE hF
 have qE:W3.ownsRow N 192 4 (.slice (some ⟨g,0,none⟩) (s.dw.aJ.length-1) cc) (s.dw.aJ.length-1) ((gU s.dw.aJ).take (x*4)++(gU s.dw.aJ).drop (x*4+4)):=hF _ (bF _)
 have gZ:Ext [g] W2 W3:=hE
 have hbl:=(gZ.block wb jq.o.rows.lt (by simpa using hg1)).trans jq.o.blk
 obtain⟨c3,f3,l3⟩:=af hbl
 have iW:=ae (ag gZ (ag qE hbl))
 have pU:=ae (show Below N w W3 from(HB2.o.mono gK).trans ⟨gZ.os,gZ.tape,gZ.output,gZ.size,fun k hk=>gZ.block k (by have:=HB2.o.size;omega) (fun h=>by have:=(H6.o.lt g rfl).1;have:=fC.1 h;omega)⟩)
 clear hE hF gZ qE hbl hg1 hg2 hg3 hg4 hfg hgl c2 f2 xq n20
 go_wp2_with fail
 go_end0
 have q0:=jK.o
 simp only[jc,bU,bV,dA]
 (repeat (first|rw[aF (by omega)]|rw[aj (by omega)]))
 refine⟨pU.o.setCell vU _,.inl ⟨rfl,rfl,⟨vt,vn,vw,vu,vr,vh,vk,.slice (some ⟨g,0,none⟩) (s.dw.aJ.length-1) cc⟩,es,jq.o.put (i:=7) rfl ⟨192,4,.slice (some ⟨g,0,none⟩) (s.dw.aJ.length-1) cc,s.dw.aJ.length-1,(gU s.dw.aJ).take (x*4)++(gU s.dw.aJ).drop (x*4+4)⟩ iW.o.1 (fun m hm=>by rw[fC.1 hm];rfl) iW.o.2.1 (.inl rfl) (aI iW.o.2.2 _) (by simp only[iI,fM,Int.toNat_natCast];rw[List.length_eraseIdx_of_lt hlt,show gU (s.dw.aJ.eraseIdx x)=_ from wG _ 4 (fun _=>rfl) s.dw.aJ x hlt];rfl) (jq.o.es)⟩⟩
theorem xW (last:Int) (p:Int->Bool):(jf last p).Nodup:=by
 unfold jf
 refine List.Pairwise.filter _ ?_
 refine List.Pairwise.map _ (fun a b h=>?_) List.nodup_range
 intro e;exact h (by omega)
theorem Le (last:Int) (p:Int->Bool):(jf last p).Pairwise (fun a b=>(decide (a<=b))=true):=by
 unfold jf
 refine List.Pairwise.filter _ ?_
 refine List.Pairwise.map _ (fun a b h=>?_) List.pairwise_le_range
 simpa using h
theorem Ce (p:Int->Bool):(jf 4 p).length<=5:=by
 unfold jf
 refine iR (List.length_filter_le _ _) ?_
 simp
theorem VW (p:Int->Bool) (x:Int) (h0:0<=x) (h4:x<=4) (hx:(jf 4 p).contains x=false):((jf 4 p++[x]).mergeSort fun a b=>decide (a<=b))=jf 4 fun i=>i==x ||(jf 4 p).contains i:=by
 have hn: ¬x∈jf 4 p:=by
  intro h
  rw[List.contains_eq_mem,decide_eq_false_iff_not] at hx
  exact hx h
 have hp:(jf 4 p++[x]).mergeSort (fun a b=>decide (a<=b)) |>.Perm (jf 4 fun i=>i==x ||(jf 4 p).contains i):=by
  refine(List.mergeSort_perm _ _).trans ?_
  rw[List.perm_ext_iff_of_nodup]
  ·intro a
   rw[iM,fC]
   constructor
   ·rintro(h|rfl)
    ·have:=yK.1 h
     exact yK.2 ⟨this.1,by simp[List.contains_eq_mem,h]⟩
    ·exact yK.2 ⟨⟨h0,h4⟩,by simp⟩
   ·intro h
    replace h:=(yK.1 h).2
    simp only[Bool.or_eq_true,beq_iff_eq,List.contains_eq_mem,eQ] at h
    exact h.symm
  ·rw[List.nodup_append]
   refine⟨xW 4 p,by simp,fun a ha b hb=>?_⟩
   rw[fC.1 hb]
   intro e;exact hn (e▸ha)
  ·exact xW 4 _
 refine hp.eq_of_pairwise (le:=fun a b=>(decide (a<=b))=true) (fun a b _ _ h1 h2=>?_) ?_ (Le 4 _)
 ·simp only[eQ] at h1 h2;omega
 ·refine List.pairwise_mergeSort (fun a b c h1 h2=>?_) (fun a b=>?_) _
  ·simp only[eQ] at*;omega
  ·simp only[Bool.or_eq_true,eQ];omega
theorem erase_filter: ∀(l:List Int) (k:Nat) (x:Int),l.Nodup->l[k]? =some x->l.eraseIdx k=l.filter (fun i=>i !=x):=by
 intro l
 induction l with
 |nil=>intro k x _ h;cases h
 |cons y l ih=>
  intro k x hn h
  rw[List.nodup_cons] at hn
  cases k with
  |zero=>
   simp only[List.getElem?_cons_zero,Option.some.injEq] at h
   subst h
   rw[List.eraseIdx_cons_zero,List.filter_cons,aj (by simp)]
   symm
   rw[List.filter_eq_self]
   intro a ha
   simp only[bne_iff_ne,ne_eq]
   intro e;exact hn.1 (e▸ha)
  |succ k=>
   have hm:x∈l:=mW (i:=k) (by simpa using h)
   rw[List.eraseIdx_cons_succ,List.filter_cons,aF (by simp only[bne_iff_ne,ne_eq];intro e;exact hn.1 (e▸hm)),ih k x hn.2 (by simpa using h)]
theorem Oj (p:Int->Bool) (k:Nat) (x:Int) (h:(jf 4 p)[k]? =some x):(jf 4 p).eraseIdx k=jf 4 fun i=>i !=x&&(jf 4 p).contains i:=by
 rw[erase_filter _ k x (xW 4 p) h]
 conv=>lhs;unfold jf
 conv=>rhs;unfold jf
 rw[List.filter_filter]
 apply List.filter_congr
 intro i hi
 have:(List.filter p (List.map (fun(k:Nat)=>(k:Int)) (List.range (4+1:Int).toNat))).contains i=p i:=by
  rw[Bool.eq_iff_iff,List.contains_iff_mem,List.mem_filter]
  exact⟨fun h=>h.2,fun h=>⟨hi,h⟩⟩
 rw[this]
theorem VS (l:List Int) (v:Value) (n:Int) (w:World) (hv:aO w v l):Calls Tryz.prog 235 #[v,iv n] w (fun e w'=>w=w'/\((∃k:Nat,l[k]? =some n/\e= .returned (iv k))∨(l.contains n=false/\e= .returned (iv (-1))))):=by
 have hlen:=hv.len
 obtain⟨o,c,rfl⟩:=hv.open
 have HV:=ae hv
 clear hv
 go_enter Tryz.func235,Tryz.ntmps235
 go_wp2
 go_loop [4,5,8] (fun _ _ i=> ∃k:Nat,k<=l.length/\i= .int .i64 k/\(∀j (hj:j<l.length),j<k->l[j]≠n)) (fun _ _ i=>l.length-(intOf i).toNat)
 case atStart=>exact⟨0,bM _,rfl,fun j _ hj=>by omega⟩
 case round=>
  obtain⟨k,hk,rfl,hno⟩:=hrel
  have HN:=ae hno
  clear hno
  by_cases hlt:k<l.length
  ·obtain⟨b,off,rfl,hb,hc0⟩:=aO.cell HV.o hlt
   by_cases he:l[k]=n
   ·have he':(n==l[k])=true:=by simp[he]
    have HE:=ae he
    clear he
    go_wp2
    go_returns
    exact⟨rfl,.inl ⟨k,by rw[<-HE.o];exact dn hlt,by simp⟩⟩
   ·have he':(n==l[k])=false:=by simp;omega
    have HE:=ae he
    clear he
    go_wp2
    go_round
    case rel=>exact⟨k+1,by omega,by go_num,fun j hj hjk=>(by by_cases e:j=k;(subst e;exact HE.o);exact HN.o j hj (by omega))⟩
    case measure=>simp[intOf];omega
  ·have hkl:k=l.length:=by omega
   go_wp2
   go_returns
   refine⟨rfl,.inr ⟨?_,by simp⟩⟩
   intro hm
   obtain⟨j,hj,e⟩:=lY hm
   exact HN.o j hj (by omega) e
theorem Qe (N:Nat) (w:World) (wb:Nat) (s:jJ) (V:SV) (es:List KE) (ns:Value) (x:Int) (hO:jO N w wb s V es) (hn:rQ N w ns [x]) (hG:fP s):Calls Tryz.prog 165 #[.pointer (some ⟨wb,0,none⟩),ns] w (ru N wb (jc s .pY [x]) w):=by
 obtain⟨vt,vn,vw,vu,vr,vh,vk,vs⟩:=V
 obtain⟨o,cc,rfl⟩: ∃o c,vu= .slice o s.heap.turns.length c:=aT (n:=s.heap.turns.length) (hO.rows.own 3 _ rfl)
 have HO:=ae hO
 have gK:=eG hO
 obtain⟨b,c,rfl,hbN,hcs⟩:=hn
 have lb:b<w.heap.size:=by omega
 have lw:=hO.rows.lt
 have vU:=hO.rows.base
 have HW:Hid (∀W,Below N w W->b<W.heap.size/\ ∀(j:Nat) (h:j<[x].length),W.cell? ⟨b,j,none⟩=some (iv [x][j])):=ae (fun W hB=>⟨by have:=hB.size;omega,fun j h=>(ja (hB.block b hbN)).trans (hcs j h)⟩)
 obtain⟨c0,f0,l0⟩:=af hO.blk
 have oN:=hcs 0 (by simp)
 simp only[au] at oN
 have HB0:Hid (Below w.heap.size w w):=ae (aH _ _)
 obtain⟨pt,hpt⟩:=hG.turns
 have Ld:s.heap.turns.length<=5:=by rw[hpt];exact Ce pt
 have hl4:=hG.heap.1
 have HPT:=ae (ag hpt hl4)
 have h6:w.ownsRow N 3 1 (.slice o s.heap.turns.length cc) s.heap.turns.length (ah s.heap.turns):=hO.rows.own 3 _ rfl
 have H6:=ae h6
 clear hpt hl4 h6
 clear hO hcs hG
 go_enter Tryz.func165,Tryz.ntmps165
 go_wp2_with fail
 refine zg 9 [] none [] ?_
 simp only[zt]
 repeat ((first|refine zd ?_|refine zk ?_);simp only[zp])
 intro W1 hE hF
 have HB1:=ae (bn HB0.o hE.below)
 have L8:=ae (Ext.below hE)
 clear hE hF c0 f0 oN
 obtain⟨c1,f1,l1⟩:=af ((HB1.o.block _ lw).trans HO.o.blk)
 obtain⟨wB,hcs1⟩:=HW.o W1 (HB1.o.mono gK)
 have n10:=hcs1 0 (by simp)
 simp only[au] at n10
 clear hcs1
 have ZL:=aC (Ms:=[]) H6.o (Ext.aA HB1.o) (by simp)
 have HX:=ae (VS s.heap.turns _ x W1 (aN.dS ZL))
 clear ZL
 go_wp2_with fail
 refine HX.o.mono ?_
 clear HX
 rintro e w1 ⟨rfl,⟨k,hk,rfl⟩|⟨hno,rfl⟩⟩
 ·have hlt:=(ji.1 hk).1
  have HK:=ae hk
  have ajU:((k:Int)<0)=False:=by simp
  clear hk
  go_wp2_with fail
  refine(dW 7 [decide ((k:Int)<0)] W1 (by simp) _ (by simp[dI]) _ _ rfl).mono ?_
  rintro e W2 ⟨hb,⟨hc,rfl⟩|⟨hc,rfl⟩⟩
  rotate_left
  ·exfalso
   have h0:decide ((k:Int)<0)=false:=by simp
   rw[h0] at hc
   exact absurd hc (by decide)
  have HB2:=ae (bn HB1.o hb)
  clear hb hc c1 f1 n10 wB ajU
  obtain⟨c2,f2,l2⟩:=af ((HB2.o.block _ lw).trans HO.o.blk)
  obtain⟨xq,hcs2⟩:=HW.o W2 (HB2.o.mono gK)
  have n20:=hcs2 0 (by simp)
  simp only[au] at n20
  clear hcs2
  obtain⟨g,rfl, -,hfg,hgl⟩:=gY H6.o (by omega)
  have ZL:=aC (Ms:=[]) H6.o (Ext.aA HB2.o) (by simp)
  have hg1:wb≠g:=fun e=>HO.o.rows.off 3 _ rfl (by rw[e];rfl)
  have HD:=ae (Sl N g _ cc k (ah s.heap.turns) W2 ZL (jG _) hlt (by omega))
  clear ZL hfg hgl
  go_wp2_with fail
  refine HD.o.mono ?_
  rintro e W3 ⟨rfl,qE,gZ⟩
  have hbl:=(gZ.block wb l2 (by simpa using hg1)).trans ((HB2.o.block _ lw).trans HO.o.blk)
  obtain⟨c3,f3,l3⟩:=af hbl
  have iW:=ae (ag gZ (ag qE hbl))
  have pU:=ae (show Below N w W3 from(HB2.o.mono gK).trans ⟨gZ.os,gZ.tape,gZ.output,gZ.size,fun k hk=>gZ.block k (by have:=HB2.o.size;omega) (fun h=>by have:=(H6.o.lt g rfl).1;have:=fC.1 h;omega)⟩)
  clear gZ qE hbl hg1 HD c2 f2 xq n20
  go_wp2_with fail
  go_end0
  have hcx:s.heap.turns.contains x=true:=by rw[List.contains_iff_mem];exact mW HK.o
  simp only[jc,List.getD_cons_zero,hcx]
  rw[aj (by simp)]
  have hne:jf s.heap.last (fun i=>i !=x&&s.heap.turns.contains i)=s.heap.turns.eraseIdx k:=by
   have hk:=HK.o
   rw[HPT.o.2,HPT.o.1] at*
   exact(Oj pt k x hk).symm
  rw[hne]
  have hfe:ah (s.heap.turns.eraseIdx k)=(ah s.heap.turns).take k++(ah s.heap.turns).drop (k+1):=by
   unfold ah
   rw[List.eraseIdx_eq_take_drop_succ,List.map_append,List.map_take,List.map_drop]
  refine⟨pU.o.setCell vU _,.inl ⟨rfl,rfl,⟨vt,vn,vw,.slice (some ⟨g,0,none⟩) (s.heap.turns.length-1) cc,vr,vh,vk,vs⟩,es,(HO.o.below HB2.o).put (i:=3) rfl ⟨3,1,.slice (some ⟨g,0,none⟩) (s.heap.turns.length-1) cc,s.heap.turns.length-1,(ah s.heap.turns).take k++(ah s.heap.turns).drop (k+1)⟩ iW.o.1 (fun m hm=>by rw[fC.1 hm];rfl) iW.o.2.1 (.inl rfl) (aI iW.o.2.2 _) ?_ HO.o.es⟩⟩
  simp only[iI,iP]
  rw[List.length_eraseIdx_of_lt hlt,hfe]
  rfl
 ·have HN:=ae hno
  clear hno
  go_wp2_with fail
  refine(dW 7 [true] W1 (by simp) _ (by simp[dI]) _ _ rfl).mono ?_
  rintro e W2 ⟨hb,⟨hc,rfl⟩|⟨hc,rfl⟩⟩
  ·exfalso;simp at hc
  simp only[jc,List.getD_cons_zero,HN.o]
  rw[aF True.intro]
  exact⟨rfl,(bn HB1.o hb).mono gK,.inr ⟨by simp,rfl⟩⟩
theorem XZ (N:Nat) (w:World) (wb:Nat) (s:jJ) (V:SV) (es:List KE) (ns:Value) (x:Int) (hO:jO N w wb s V es) (hn:rQ N w ns [x]) (hG:fP s) (hx:0<=x):Calls Tryz.prog 164 #[.pointer (some ⟨wb,0,none⟩),ns] w (ru N wb (jc s .turn [x]) w):=by
 obtain⟨vt,vn,vw,vu,vr,vh,vk,vs⟩:=V
 obtain⟨o,cc,rfl⟩: ∃o c,vu= .slice o s.heap.turns.length c:=aT (n:=s.heap.turns.length) (hO.rows.own 3 _ rfl)
 have HO:=ae hO
 have gK:=eG hO
 obtain⟨b,c,rfl,hbN,hcs⟩:=hn
 have lb:b<w.heap.size:=by omega
 have lw:=hO.rows.lt
 have vU:=hO.rows.base
 have HW:Hid (∀W,Below N w W->b<W.heap.size/\ ∀(j:Nat) (h:j<[x].length),W.cell? ⟨b,j,none⟩=some (iv [x][j])):=ae (fun W hB=>⟨by have:=hB.size;omega,fun j h=>(ja (hB.block b hbN)).trans (hcs j h)⟩)
 obtain⟨c0,f0,l0⟩:=af hO.blk
 have oN:=hcs 0 (by simp)
 simp only[au] at oN
 have HB0:Hid (Below w.heap.size w w):=ae (aH _ _)
 obtain⟨pt,hpt⟩:=hG.turns
 have Ld:s.heap.turns.length<=5:=by rw[hpt];exact Ce pt
 have hl4:=hG.heap.1
 have HPT:=ae (ag hpt hl4)
 have h6:w.ownsRow N 3 1 (.slice o s.heap.turns.length cc) s.heap.turns.length (ah s.heap.turns):=hO.rows.own 3 _ rfl
 have H6:=ae h6
 clear hpt h6
 clear hO hcs hG
 go_enter Tryz.func164,Tryz.ntmps164
 go_wp2_with fail
 refine(xX x wb s _ w ((HB0.o.block _ lw).trans HO.o.blk) hl4).mono ?_
 rintro e W1 ⟨hb,⟨hc,rfl⟩|⟨hc,rfl⟩⟩
 rotate_left
 ·simp at hc
  simp only[jc,bU,bV,dA]
  (repeat (first|rw[aF (by omega)]|rw[aj (by omega)]))
  exact⟨rfl,(bn HB0.o hb).mono gK,.inr ⟨by simp,rfl⟩⟩
 simp at hc
 have HB1:=ae (bn HB0.o hb)
 have L8:=ae hb
 have jK:=ae hc
 clear hb hc c0 f0 oN
 obtain⟨c1,f1,l1⟩:=af ((HB1.o.block _ lw).trans HO.o.blk)
 obtain⟨wB,hcs1⟩:=HW.o W1 (HB1.o.mono gK)
 have n10:=hcs1 0 (by simp)
 simp only[au] at n10
 clear hcs1
 go_wp2_with fail
 refine zg 9 [] none [] ?_
 simp only[zt]
 repeat ((first|refine zd ?_|refine zk ?_);simp only[zp])
 intro W2 hE hF
 have HB2:=ae (bn HB1.o hE.below)
 have HS2:=ae (Ext.below hE)
 clear hE hF c1 f1 wB n10
 obtain⟨c2,f2,l2⟩:=af ((HB2.o.block _ lw).trans HO.o.blk)
 obtain⟨xq,hcs2⟩:=HW.o W2 (HB2.o.mono gK)
 have n20:=hcs2 0 (by simp)
 simp only[au] at n20
 clear hcs2
 have ZL:=aC (Ms:=[]) H6.o (Ext.aA HB2.o) (by simp)
 have HX:=ae (iH s.heap.turns _ x W2 (aN.dS ZL))
 clear ZL
 go_wp2_with fail
 refine HX.o.mono ?_
 clear HX
 rintro e W3 ⟨rfl,hb⟩
 have HB3:=ae (bn HB2.o hb)
 obtain⟨q,hq⟩: ∃q,s.heap.turns.contains x=q:=⟨_,rfl⟩
 rw[hq]
 have HQQ:=ae hq
 clear hb hq c2 f2 xq n20
 obtain⟨c3,f3,l3⟩:=af ((HB3.o.block _ lw).trans HO.o.blk)
 obtain⟨JA,hcs3⟩:=HW.o W3 (HB3.o.mono gK)
 have n30:=hcs3 0 (by simp)
 simp only[au] at n30
 clear hcs3
 go_wp2_with fail
 refine(dW 6 [q] W3 (by simp) _ (by simp[dI]) _ _ rfl).mono ?_
 rintro e W4 ⟨hb,⟨hc,rfl⟩|⟨hc,rfl⟩⟩
 rotate_left
 ·obtain rfl:q=true:=(by cases q <;>simp_all)
  have q0:=jK.o
  have hqq:=HQQ.o;simp only[jc,List.getD_cons_zero,hqq];rw[aj (by omega),aF True.intro]
  exact⟨rfl,(bn HB3.o hb).mono gK,.inr ⟨by simp,rfl⟩⟩
 obtain rfl:q=false:=(by cases q <;>simp_all)
 have HB4:=ae (bn HB3.o hb)
 have UB:=ae hb
 have ry:=ae hc
 clear hb hc c3 f3 JA n30
 obtain⟨c4,f4,l4⟩:=af ((HB4.o.block _ lw).trans HO.o.blk)
 obtain⟨PU,jY⟩:=HW.o W4 (HB4.o.mono gK)
 have n40:=jY 0 (by simp)
 simp only[au] at n40
 clear jY
 go_wp2_with fail
 obtain⟨Ms,hMs⟩: ∃Ms,Ms=(Value.slice o s.heap.turns.length cc).ownBlock.toList:=⟨_,rfl⟩
 have hO4:=HO.o.below HB4.o
 have hm1:wb∉Ms:=fun h=>hO4.rows.off 3 _ rfl (by rw[hMs] at h;exact dH.1 h)
 have hm2:b∉Ms:=fun h=>by have:=((hO4.rows.own 3 _ rfl).lt b (by rw[hMs] at h;exact dH.1 h)).1;omega
 have ug: ∀m∈Ms,m<W4.heap.size:=fun m h=>((hO4.rows.own 3 _ rfl).lt m (by rw[hMs] at h;exact dH.1 h)).2
 have HM:=ae hMs
 have jq:=ae hO4
 clear hMs hO4
 refine zg 12 Ms (some 11) [(10,Spec.slice W4.heap.size #[iv x] 3 1),(11,⟨fun _ v=> ∃o2 c2,v= .slice o2 (s.heap.turns.length+1) c2,fun _ v Wx=>Wx.ownsRow N 3 1 v (s.heap.turns.length+1) (ah s.heap.turns++[iv x])/\(v.ownBlock=(Value.slice o s.heap.turns.length cc).ownBlock∨ ∃q,v.ownBlock=some q/\W4.heap.size<=q)⟩)] ?_
 simp only[zt]
 repeat ((first|refine zd ?_|refine zk ?_);simp only[zp])
 refine dX W4.heap.size _ _ 1 (by rfl) (ai _) (by rfl) ug (by simp) (fun W hW=>by go_simp;try rfl) (fun b6=>?_)
 simp only[zp]
 repeat ((first|refine zd ?_|refine zk ?_);simp only[zp])
 refine bG _ (by rfl) (by rfl) (by exact⟨.slice none (s.heap.turns.length+1) 0,none,0,rfl⟩) (fun W6 hE hF=>?_) (fun v Wa Wb ho hE=>?_) (fun v hv=>?_)
 ·have hE':Ext [] W4 W6:=hE
  obtain⟨b',hb',hge,hcc⟩:=hF _ (bF _) (by kernel_rfl)
  cases hb'
  have hown6:W6.ownsRow N 3 1 (.slice o s.heap.turns.length cc) s.heap.turns.length (ah s.heap.turns):=aC (Ms:=[]) (jq.o.rows.own 3 _ rfl) hE' (by simp)
  have hsrc:aN 1 W6 (.slice (some ⟨b6,0,none⟩) 1 1) 1 ([iv x]):=aN.dD 1 1 hcc rfl (by decide)
  refine Does.mono (dK sH (by rfl) (by rfl) hown6 (by rfl) hsrc (one_one x) (by omega) (by omega) (by have:=hE'.size;have:=HB4.o.size;omega)) ?_
  rintro v' W7 ⟨ho,hgr,hcase⟩
  refine⟨aT ho,⟨ho,?_⟩,⟨hgr.os,hgr.tape,hgr.output,hgr.size,fun b hb hn=>hgr.block b hb (fun e=>hn (by rw[HM.o];exact dH.2 e.symm))⟩⟩
  rcases hcase with h1|h1
  ·exact .inl h1
  ·exact .inr ⟨_,h1,hE'.size⟩
 ·exact⟨aC (Ms:=[]) ho.1 hE (by simp),ho.2⟩
 obtain⟨o7,c7,rfl⟩:=hv
 simp only[zp]
 intro W5 hE hF
 obtain⟨qE,zS⟩:=hF _ (bF _)
 have gZ:Ext Ms W4 W5:=hE
 have hbl:=(gZ.block wb jq.o.rows.lt hm1).trans jq.o.blk
 obtain⟨c5,f5,l5⟩:=af hbl
 have iW:=ae (ag gZ (ag qE (ag zS hbl)))
 have Ah:Below N w W5:=(HB4.o.mono gK).trans ⟨gZ.os,gZ.tape,gZ.output,gZ.size,fun k hk=>gZ.block k (by have:=HB4.o.size;omega) (fun h=>by have:=((jq.o.rows.own 3 _ rfl).lt k (by rw[HM.o] at h;exact dH.1 h)).1;omega)⟩
 have pU:=ae Ah
 clear hE hF gZ qE zS hbl Ah hm1 hm2 ug c4 f4 PU n40
 go_upto_region 3 with(fail)
 refine dM fun W6 qh=>?_
 have hO6:jO N W6 wb (iP s {s.heap with turns:=s.heap.turns++[x]}) ⟨vt,vn,vw,.slice o7 (s.heap.turns.length+1) c7,vr,vh,vk,vs⟩ es:=by
  rw[qh]
  exact jq.o.put (i:=3) rfl ⟨3,1,.slice o7 (s.heap.turns.length+1) c7,s.heap.turns.length+1,ah s.heap.turns++[iv x]⟩ iW.o.1 (fun m hm=>by rw[HM.o] at hm;exact dH.1 hm) iW.o.2.1 iW.o.2.2.1 (aI iW.o.2.2.2 _) (by simp[iI,iP,ah]) jq.o.es
 have qG:=ae (show Below N w W6 from by rw[qh];exact pU.o.setCell vU _)
 obtain⟨c6,f6,l6⟩:=af hO6.blk
 have h7:W6.ownsRow N 3 1 (.slice o7 (s.heap.turns.length+1) c7) (s.heap.turns++[x]).length (ah (s.heap.turns++[x])):=hO6.rows.own 3 _ rfl
 rw[dh,List.length_singleton] at h7
 obtain⟨g,rfl, -,hfg,hgl⟩:=gY h7 (by omega)
 obtain⟨cur,h7b,h7c,h7d,h7e,h7f,h7g⟩: ∃cur,N<=g/\W6.heap[g]? =some (.cells cur 3 (0,0))/\s.heap.turns.length+1<=c7/\c7<=maxLen/\cur.size=c7*1/\cur.toList.take ((s.heap.turns.length+1)*1)=ah (s.heap.turns++[x]):=by
  obtain⟨h1,⟨h2,_⟩|⟨g',cc',cs,h2,h3,h4,h5,h6,h7,h8⟩⟩:=h7
  ·cases h2
  ·cases h2;exact⟨cs,h3,h4,h5,h6,h7,h8⟩
 have hHo:=holds_of_blockI (ss:=s.heap.turns++[x]) h7c (by rw[dh,List.length_singleton, <-Nat.mul_one (s.heap.turns.length+1)];exact h7g)
 have hsort:=Go.Proofs.Tryz.slices_Sort_int g 0 c7 (s.heap.turns++[x]) W6 hHo hgl (by rw[dh,List.length_singleton];omega)
 rw[dh,List.length_singleton] at hsort
 have Mc:=ae (ag hO6 (ag h7b (ag h7c (ag h7d (ag h7e h7f)))))
 have HST:=ae hsort
 clear qh hO6 h7 h7b h7c h7d h7e h7f h7g hHo hsort c5 f5
 go_wp2_with fail
 refine HST.o.mono ?_
 rintro e W9 ⟨rfl,n9,os,rfl⟩
 (try go_wp2_with fail)
 go_end0
 have q0:=jK.o
 have q1:=ry.o
 have hqq:=HQQ.o
 simp only[jc,List.getD_cons_zero,hqq]
 rw[aj (by omega),aj (by simp)]
 have hne:((s.heap.turns++[x]).mergeSort fun a b=>decide (a<=b))=jf s.heap.last (fun i=>i==x ||s.heap.turns.contains i):=by
  rw[HPT.o.2,HPT.o.1] at*
  exact VW pt x hx (by omega) hqq
 have hlen:((s.heap.turns++[x]).mergeSort fun a b=>decide (a<=b)).length=(s.heap.turns++[x]).length:=List.length_mergeSort _
 have hown:=ownsRow_sortedI (n:=n9) (os:=os) (ss:=s.heap.turns++[x]) hlen Mc.o.2.1 Mc.o.2.2.1 (by rw[dh,List.length_singleton];exact Mc.o.2.2.2.1) Mc.o.2.2.2.2.1 Mc.o.2.2.2.2.2
 have hgb:=grownBy_sortedI (w:=W6) (g:=g) (n:=n9) (os:=os) ((s.heap.turns++[x]).mergeSort fun a b=>decide (a<=b)).toArray
 have hE9:Ext [g] W6 (Go.Sort.grow (Go.Sort.putRow (Value.int .i64) (Go.Sort.ahead W6 n9) g 0 ((s.heap.turns++[x]).mergeSort fun a b=>decide (a<=b)).toArray) os):=⟨hgb.os,hgb.tape,hgb.output,hgb.size,fun k hk hm=>hgb.block k hk (fun e=>hm (by simp[jy e]))⟩
 refine⟨qG.o.trans ⟨hE9.os,hE9.tape,hE9.output,hE9.size,fun k hk=>hE9.block k (by have:=qG.o.size;omega) (fun h=>by have:=Mc.o.2.1;have:=fC.1 h;omega)⟩,.inl ⟨rfl,rfl,_,es,Mc.o.1.over (i:=3) rfl (g:=g) rfl hE9 (ah ((s.heap.turns++[x]).mergeSort fun a b=>decide (a<=b))) ?_ ?_ rfl HO.o.es⟩⟩
 ·have h:=hown
  rw[dh,List.length_singleton] at h
  show World.ownsRow _ N 3 1 (.slice (some ⟨g,0,none⟩) (s.heap.turns.length+1) c7) (s.heap.turns++[x]).length _
  rw[dh,List.length_singleton]
  exact h
 ·rw[<-hne]
  simp only[iI,iP]
  rw[hlen]
  rfl
structure pM (w:World) (s:jJ) (V:SV) (es:List KE):Prop where
 xn:dV w V.xn s.led.field.ax
 Vr:bI w V.Vr s.led.notes
 bW:bP w V.bW s.heap.bW
 Ih:aO w V.Ih s.heap.turns
 PR:bI w V.PR s.heap.readings
 dw:rF w V.hps V.cks V.trs es s.dw
theorem pM.below {w W:World} {s:jJ} {V:SV} {es:List KE} (h:pM w s V es) {B:Nat} (hb:Below B w W) (hB:w.heap.size<=B):pM W s V es:=
 ⟨h.xn.below hb hB,h.Vr.below hb hB,h.bW.below hb hB,h.Ih.below hb hB,h.PR.below hb hB,h.dw.below hb hB⟩
theorem jO.st {N:Nat} {w:World} {wb:Nat} {s:jJ} {V:SV} {es:List KE} (h:jO N w wb s V es):pM w s V es where
 xn:=aN.dS (h.rows.own 0 _ rfl)
 Vr:=aN.dS (h.rows.own 1 _ rfl)
 bW:=aN.dS (h.rows.own 2 _ rfl)
 Ih:=aN.dS (h.rows.own 3 _ rfl)
 PR:=aN.dS (h.rows.own 4 _ rfl)
 dw:=⟨aN.dS (h.rows.own 5 _ rfl),⟨aN.dS (h.rows.own 6 _ rfl),fun e he=>by
  obtain⟨k,hk,rfl⟩:=lY he
  exact aN.dS (h.rows.own (8+k) _ (yI s V es (dn hk)))⟩,h.es,aN.dS (h.rows.own 7 _ rfl)⟩
def bH (s:jJ):Int:=
 if fO s.led.field true≠0 then 11 else if iL s.led≠0 then 9 else if vM s.heap≠0 then 3
 else if jD.jh s.heap s.heap.turns≠0 then 11 else if jD.nV s.heap s.heap.turns=2 then 9
 else if qi s.dw≠0 then 3 else if iY s.dw true≠0 then 11 else 0
def aeE (s:jJ) (w:World) (e:Ending) (w':World):Prop:=
 Below w.heap.size w w'/\((bH s=0/\e= .returned (.tuple #[]))∨(bH s≠0/\e= .panicked (kz (bH s))))
theorem aeh (f:bQ) (tv:Value) (w:World) (ht:dV w tv f.ax):Calls Tryz.prog 40 #[fv f tv] w (fun e w'=>Below w.heap.size w w'/\ ∃v,e= .returned (.tuple #[v,iv (fO f true)])):=by
 refine(BN f tv w ht).mono ?_
 rintro e w' ⟨hb,⟨_,rfl⟩|⟨h0,v,rfl,_⟩⟩
 ·exact⟨hb,_,rfl⟩
 ·exact⟨hb,v,by rw[h0]⟩
theorem VP (c:bK) (hv nT tv:Value) (es:List KE) (w:World) (hc:rF w hv nT tv es c):Calls Tryz.prog 45 #[kv hv nT tv] w (fun e w'=>Below w.heap.size w w'/\ ∃v u,e= .returned (.tuple #[v,u,iv (iY c true)])):=by
 refine(xR c hv nT tv es w hc).mono ?_
 rintro e w' ⟨hb,⟨_,rfl⟩|⟨h0,v,u,rfl,_⟩⟩
 ·exact⟨hb,_,_,rfl⟩
 ·exact⟨hb,v,u,by rw[h0]⟩
theorem U1 (s:jJ) (V:SV) (es:List KE) (w:World) (hS:pM w s V es):Calls Tryz.prog 102 #[.agg (dR s V)] w (aeE s w):=by
 obtain⟨vt,vn,vw,vu,vr,vh,vk,vs⟩:=V
 have HS:Hid (∀W,Below w.heap.size w W->pM W s ⟨vt,vn,vw,vu,vr,vh,vk,vs⟩ es):=ae (fun W hb=>hS.below hb (ai _))
 obtain⟨w0,hw0⟩: ∃w0,w0=w.alloc (.cells (dR s ⟨vt,vn,vw,vu,vr,vh,vk,vs⟩) 62):=⟨_,rfl⟩
 have HB0:Hid (Below w.heap.size w w0):=ae (by rw[hw0];exact ak (aH _ _) _)
 have HK0:Hid (w0.heap[w.heap.size]? =some (.cells (dR s ⟨vt,vn,vw,vu,vr,vh,vk,vs⟩) 62 (0,0))):=ae (by rw[hw0];exact ay _ _)
 have hsz:w0.heap.size=w.heap.size+1:=by rw[hw0];simp
 clear hS
 go_enter Tryz.func102,Tryz.ntmps102
 go_upto_region 1 with(fail)
 refine dM fun W1 hW1=>?_
 rw[<-hw0] at hW1
 subst hW1
 obtain⟨c0,f0,l0⟩:=af HK0.o
 clear hw0
 go_wp2_with fail
 have HB:=HB0
 have HK:=HK0
 refine(aeh s.led.field _ _ (HS.o _ HB0.o).xn).mono ?_
 rintro e X1 ⟨hb,v,rfl⟩
 have HB1:=ae (bn HB.o hb)
 have XN:=ae ((hb.block _ l0).trans HK.o)
 obtain⟨c1,f1,l1⟩:=af XN.o
 clear hb c0 f0
 obtain⟨q0,hq0⟩: ∃q,fO s.led.field true=q:=⟨_,rfl⟩
 rw[hq0]
 have jK:=ae hq0
 clear hq0
 go_wp2_with fail
 refine(dW 11 [q0 !=0] X1 (by simp) _ (by simp[dI]) _ _ rfl).mono ?_
 rintro e X2 ⟨hb,⟨hc,rfl⟩|⟨hc,rfl⟩⟩
 rotate_left
 ·have hz:q0≠0:=by simpa using hc
  have hv:bH s=11:=by
   unfold bH
   simp only[jK.o]
   rw[aF hz]
  exact⟨rfl,bn HB1.o hb,.inr ⟨by rw[hv];decide,by rw[hv]⟩⟩
 have hz:q0=0:=by simpa using hc
 have HZ0:=ae hz
 have HB2:=ae (bn HB1.o hb)
 have HK2:=ae ((hb.block _ l1).trans XN.o)
 obtain⟨c2,f2,l2⟩:=af HK2.o
 clear hb hc hz c1 f1
 go_wp2_with fail
 refine(Ey s.led vt vn _ (HS.o _ HB2.o).xn (HS.o _ HB2.o).Vr).mono ?_
 rintro e X3 ⟨rfl,hb⟩
 have HB3:=ae (bn HB2.o hb)
 have Xx:=ae ((hb.block _ l2).trans HK2.o)
 obtain⟨c3,f3,l3⟩:=af Xx.o
 clear hb c2 f2
 obtain⟨q1,hq1⟩: ∃q,iL s.led=q:=⟨_,rfl⟩
 rw[hq1]
 have ry:=ae hq1
 clear hq1
 go_wp2_with fail
 refine(dW 9 [q1 !=0] X3 (by simp) _ (by simp[dI]) _ _ rfl).mono ?_
 rintro e X4 ⟨hb,⟨hc,rfl⟩|⟨hc,rfl⟩⟩
 rotate_left
 ·have hz:q1≠0:=by simpa using hc
  have hv:bH s=9:=by
   unfold bH
   simp only[jK.o,ry.o]
   rw[aj (by have:=HZ0.o;omega)]
   rw[aF hz]
  exact⟨rfl,bn HB3.o hb,.inr ⟨by rw[hv];decide,by rw[hv]⟩⟩
 have hz:q1=0:=by simpa using hc
 have HZ1:=ae hz
 have HB4:=ae (bn HB3.o hb)
 have HK4:=ae ((hb.block _ l3).trans Xx.o)
 obtain⟨c4,f4,l4⟩:=af HK4.o
 clear hb hc hz c3 f3
 go_wp2_with fail
 refine(jD.vO s.heap vw vu vr _ (HS.o _ HB4.o).bW (HS.o _ HB4.o).Ih (HS.o _ HB4.o).PR).mono ?_
 rintro e X5 ⟨rfl,hb⟩
 have pV:=ae (bn HB4.o hb)
 have XM:=ae ((hb.block _ l4).trans HK4.o)
 obtain⟨c5,f5,l5⟩:=af XM.o
 clear hb c4 f4
 obtain⟨q2,hq2⟩: ∃q,vM s.heap=q:=⟨_,rfl⟩
 rw[hq2]
 have yA:=ae hq2
 clear hq2
 go_wp2_with fail
 refine(dW 3 [q2 !=0] X5 (by simp) _ (by simp[dI]) _ _ rfl).mono ?_
 rintro e X6 ⟨hb,⟨hc,rfl⟩|⟨hc,rfl⟩⟩
 rotate_left
 ·have hz:q2≠0:=by simpa using hc
  have hv:bH s=3:=by
   unfold bH
   simp only[jK.o,ry.o,yA.o]
   rw[aj (by have:=HZ0.o;omega)]
   rw[aj (by have:=HZ1.o;omega)]
   rw[aF hz]
  exact⟨rfl,bn pV.o hb,.inr ⟨by rw[hv];decide,by rw[hv]⟩⟩
 have hz:q2=0:=by simpa using hc
 have HZ2:=ae hz
 have qG:=ae (bn pV.o hb)
 have HK6:=ae ((hb.block _ l5).trans XM.o)
 obtain⟨c6,f6,l6⟩:=af HK6.o
 clear hb hc hz c5 f5
 go_wp2_with fail
 refine(jD.Dc s.heap vw vu vr vu s.heap.turns _ (HS.o _ qG.o).bW (HS.o _ qG.o).Ih (HS.o _ qG.o).PR (HS.o _ qG.o).Ih).mono ?_
 rintro e X7 ⟨rfl,hb⟩
 have zB:=ae (bn qG.o hb)
 have xw:=ae ((hb.block _ l6).trans HK6.o)
 obtain⟨c7,f7,l7⟩:=af xw.o
 clear hb c6 f6
 obtain⟨q3,hq3⟩: ∃q,jD.jh s.heap s.heap.turns=q:=⟨_,rfl⟩
 rw[hq3]
 have Ie:=ae hq3
 clear hq3
 obtain⟨q4,hq4⟩: ∃q,jD.nV s.heap s.heap.turns=q:=⟨_,rfl⟩
 rw[hq4]
 have UC:=ae hq4
 clear hq4
 go_wp2_with fail
 refine(dW 11 [q3 !=0] X7 (by simp) _ (by simp[dI]) _ _ rfl).mono ?_
 rintro e X8 ⟨hb,⟨hc,rfl⟩|⟨hc,rfl⟩⟩
 rotate_left
 ·have hz:q3≠0:=by simpa using hc
  have hv:bH s=11:=by
   unfold bH
   simp only[jK.o,ry.o,yA.o,Ie.o,UC.o]
   rw[aj (by have:=HZ0.o;omega)]
   rw[aj (by have:=HZ1.o;omega)]
   rw[aj (by have:=HZ2.o;omega)]
   rw[aF hz]
  exact⟨rfl,bn zB.o hb,.inr ⟨by rw[hv];decide,by rw[hv]⟩⟩
 have hz:q3=0:=by simpa using hc
 have HZ3:=ae hz
 have pU:=ae (bn zB.o hb)
 have HK8:=ae ((hb.block _ l7).trans xw.o)
 obtain⟨c8,f8,l8⟩:=af HK8.o
 clear hb hc hz c7 f7
 go_wp2_with fail
 go_wp2_with fail
 refine(dW 9 [q4==2] X8 (by simp) _ (by simp[dI]) _ _ rfl).mono ?_
 rintro e X9 ⟨hb,⟨hc,rfl⟩|⟨hc,rfl⟩⟩
 rotate_left
 ·have hz:q4=2:=by simpa using hc
  have hv:bH s=9:=by
   unfold bH
   simp only[jK.o,ry.o,yA.o,Ie.o,UC.o]
   rw[aj (by have:=HZ0.o;omega)]
   rw[aj (by have:=HZ1.o;omega)]
   rw[aj (by have:=HZ2.o;omega)]
   rw[aj (by have:=HZ3.o;omega)]
   rw[aF hz]
  exact⟨rfl,bn pU.o hb,.inr ⟨by rw[hv];decide,by rw[hv]⟩⟩
 have hz:q4≠2:=by simpa using hc
 have HZ4:=ae hz
 have pW:=ae (bn pU.o hb)
 have Df:=ae ((hb.block _ l8).trans HK8.o)
 obtain⟨c9,f9,l9⟩:=af Df.o
 clear hb hc hz c8 f8
 go_wp2_with fail
 refine(Gg s.dw vh vk vs es _ (HS.o _ pW.o).dw).mono ?_
 rintro e X10 ⟨rfl,hb⟩
 have Xz:=ae (bn pW.o hb)
 have ah5:=ae ((hb.block _ l9).trans Df.o)
 obtain⟨c10,f10,l10⟩:=af ah5.o
 clear hb c9 f9
 obtain⟨q5,hq5⟩: ∃q,qi s.dw=q:=⟨_,rfl⟩
 rw[hq5]
 have HQ5:=ae hq5
 clear hq5
 go_wp2_with fail
 refine(dW 3 [q5 !=0] X10 (by simp) _ (by simp[dI]) _ _ rfl).mono ?_
 rintro e X11 ⟨hb,⟨hc,rfl⟩|⟨hc,rfl⟩⟩
 rotate_left
 ·have hz:q5≠0:=by simpa using hc
  have hv:bH s=3:=by
   unfold bH
   simp only[jK.o,ry.o,yA.o,Ie.o,UC.o,HQ5.o]
   rw[aj (by have:=HZ0.o;omega)]
   rw[aj (by have:=HZ1.o;omega)]
   rw[aj (by have:=HZ2.o;omega)]
   rw[aj (by have:=HZ3.o;omega)]
   rw[aj (by have:=HZ4.o;omega)]
   rw[aF hz]
  exact⟨rfl,bn Xz.o hb,.inr ⟨by rw[hv];decide,by rw[hv]⟩⟩
 have hz:q5=0:=by simpa using hc
 have HZ5:=ae hz
 have acp:=ae (bn Xz.o hb)
 have ah4:=ae ((hb.block _ l10).trans ah5.o)
 obtain⟨c11,f11,l11⟩:=af ah4.o
 clear hb hc hz c10 f10
 go_wp2_with fail
 refine(VP s.dw vh vk vs es _ (HS.o _ acp.o).dw).mono ?_
 rintro e X12 ⟨hb,v1,v2,rfl⟩
 have aid:=ae (bn acp.o hb)
 have ah3:=ae ((hb.block _ l11).trans ah4.o)
 obtain⟨c12,f12,l12⟩:=af ah3.o
 clear hb c11 f11
 obtain⟨q6,hq6⟩: ∃q,iY s.dw true=q:=⟨_,rfl⟩
 rw[hq6]
 have HQ6:=ae hq6
 clear hq6
 go_wp2_with fail
 refine(dW 11 [q6 !=0] X12 (by simp) _ (by simp[dI]) _ _ rfl).mono ?_
 rintro e X13 ⟨hb,⟨hc,rfl⟩|⟨hc,rfl⟩⟩
 rotate_left
 ·have hz:q6≠0:=by simpa using hc
  have hv:bH s=11:=by
   unfold bH
   simp only[jK.o,ry.o,yA.o,Ie.o,UC.o,HQ5.o,HQ6.o]
   rw[aj (by have:=HZ0.o;omega)]
   rw[aj (by have:=HZ1.o;omega)]
   rw[aj (by have:=HZ2.o;omega)]
   rw[aj (by have:=HZ3.o;omega)]
   rw[aj (by have:=HZ4.o;omega)]
   rw[aj (by have:=HZ5.o;omega)]
   rw[aF hz]
  exact⟨rfl,bn aid.o hb,.inr ⟨by rw[hv];decide,by rw[hv]⟩⟩
 have hz:q6=0:=by simpa using hc
 have HZ6:=ae hz
 have alu:=ae (bn aid.o hb)
 have ald:=ae ((hb.block _ l12).trans ah3.o)
 obtain⟨c13,f13,l13⟩:=af ald.o
 clear hb hc hz c12 f12
 (try go_wp2_with fail)
 go_end0
 have hv:bH s=0:=by
  unfold bH
  simp only[jK.o,ry.o,yA.o,Ie.o,UC.o,HQ5.o,HQ6.o]
  rw[aj (by have:=HZ0.o;omega)]
  rw[aj (by have:=HZ1.o;omega)]
  rw[aj (by have:=HZ2.o;omega)]
  rw[aj (by have:=HZ3.o;omega)]
  rw[aj (by have:=HZ4.o;omega)]
  rw[aj (by have:=HZ5.o;omega)]
  rw[aj (by have:=HZ6.o;omega)]
 exact⟨alu.o,.inl ⟨hv,rfl⟩⟩
theorem ai3:iO Tryz.prog 51 50 (rv (0,0)) 2 16:=⟨Tryz.underlying51,by kernel_rfl,rfl,by omega⟩
theorem LM (n:Nat) (xs:List Value) (v:Value) (w:World) (hv:aN 5 w v n xs) (h1: ∀u∈xs,u.oneCell'=true) (hlen:n<=1000):
 Calls Tryz.prog 176 #[v] w (Et 186 5 n xs w):=by
 obtain⟨o,c,rfl⟩:=aN.open hv
 have HV:=ae hv
 have H1:=ae h1
 clear h1
 have hnil:=fun(w:World) a n c=>Lib.run_eql_slice_nil (P:=Tryz.prog) w 43 186 a n c 0 0 Tryz.underlying43
 cases o with
 |none=>
  obtain⟨hl,o,c',h0,h1,h2,h3,h4⟩:=hv
  cases h0
  obtain rfl:c=0:=h3 rfl
  obtain rfl:n=0:=by omega
  have hx:xs=[]:=ku (by simpa using hl)
  subst hx
  clear HV H1
  go_enter Tryz.func176,Tryz.ntmps176
  go_wp2
  go_returns
  exact⟨.slice none 0 0,by simp,⟨by simp,.inl ⟨rfl,rfl⟩⟩,aH _ _⟩
 |some a=>
  obtain⟨b,off,sp⟩:=a
  obtain rfl:sp=none:=by
   obtain⟨_,o,c',h0,h1,h2,h3,h4⟩:=hv
   cases h0
   exact(h4 _ rfl).1
  clear hv
  go_enter Tryz.func176,Tryz.ntmps176
  go_wp2_with (at_builtin;refine fV rfl _ _ Yc rfl w.heap.size (.slice (some ⟨w.heap.size,0,none⟩) 0 0) 0 [] rfl ?_ (.slice (some ⟨b,off,none⟩) n c) n xs rfl ?_ H1.o (by omega) (by omega) (by simp) ?_)
  ·exact iK (cs:= #[]) (n:=0) (ay _ _) rfl (ai _) (by decide)
  ·exact aN.alloc HV.o _
  ·intro v' w1 hown hgrow
   have HO:=ae hown
   have HG:=ae hgrow
   clear hown hgrow
   go_wp2
   go_returns
   refine⟨v',by simp,?_,?_⟩
   ·exact HO.o
   ·exact Below.grown (ak (aH _ _) _) HG.o (by simp) (fun k e=>by cases e;exact ai _)
theorem II (n:Nat) (xs:List Value) (v:Value) (w:World) (hv:aN 3 w v n xs) (h1: ∀u∈xs,u.oneCell'=true) (hlen:n<=1000):
 Calls Tryz.prog 177 #[v] w (Et 188 3 n xs w):=by
 obtain⟨o,c,rfl⟩:=aN.open hv
 have HV:=ae hv
 have H1:=ae h1
 clear h1
 have hnil:=fun(w:World) a n c=>Lib.run_eql_slice_nil (P:=Tryz.prog) w 47 188 a n c 0 0 Tryz.underlying47
 cases o with
 |none=>
  obtain⟨hl,o,c',h0,h1,h2,h3,h4⟩:=hv
  cases h0
  obtain rfl:c=0:=h3 rfl
  obtain rfl:n=0:=by omega
  have hx:xs=[]:=ku (by simpa using hl)
  subst hx
  clear HV H1
  go_enter Tryz.func177,Tryz.ntmps177
  go_wp2
  go_returns
  exact⟨.slice none 0 0,by simp,⟨by simp,.inl ⟨rfl,rfl⟩⟩,aH _ _⟩
 |some a=>
  obtain⟨b,off,sp⟩:=a
  obtain rfl:sp=none:=by
   obtain⟨_,o,c',h0,h1,h2,h3,h4⟩:=hv
   cases h0
   exact(h4 _ rfl).1
  clear hv
  go_enter Tryz.func177,Tryz.ntmps177
  go_wp2_with (at_builtin;refine fV rfl _ _ aa5 rfl w.heap.size (.slice (some ⟨w.heap.size,0,none⟩) 0 0) 0 [] rfl ?_ (.slice (some ⟨b,off,none⟩) n c) n xs rfl ?_ H1.o (by omega) (by omega) (by simp) ?_)
  ·exact iK (cs:= #[]) (n:=0) (ay _ _) rfl (ai _) (by decide)
  ·exact aN.alloc HV.o _
  ·intro v' w1 hown hgrow
   have HO:=ae hown
   have HG:=ae hgrow
   clear hown hgrow
   go_wp2
   go_returns
   refine⟨v',by simp,?_,?_⟩
   ·exact HO.o
   ·exact Below.grown (ak (aH _ _) _) HG.o (by simp) (fun k e=>by cases e;exact ai _)
theorem LJ (n:Nat) (xs:List Value) (v:Value) (w:World) (hv:aN 2 w v n xs) (h1: ∀u∈xs,u.oneCell'=true) (hlen:n<=1000):
 Calls Tryz.prog 178 #[v] w (Et 50 2 n xs w):=by
 obtain⟨o,c,rfl⟩:=aN.open hv
 have HV:=ae hv
 have H1:=ae h1
 clear h1
 have hnil:=fun(w:World) a n c=>Lib.run_eql_slice_nil (P:=Tryz.prog) w 51 50 a n c 0 0 Tryz.underlying51
 cases o with
 |none=>
  obtain⟨hl,o,c',h0,h1,h2,h3,h4⟩:=hv
  cases h0
  obtain rfl:c=0:=h3 rfl
  obtain rfl:n=0:=by omega
  have hx:xs=[]:=ku (by simpa using hl)
  subst hx
  clear HV H1
  go_enter Tryz.func178,Tryz.ntmps178
  go_wp2
  go_returns
  exact⟨.slice none 0 0,by simp,⟨by simp,.inl ⟨rfl,rfl⟩⟩,aH _ _⟩
 |some a=>
  obtain⟨b,off,sp⟩:=a
  obtain rfl:sp=none:=by
   obtain⟨_,o,c',h0,h1,h2,h3,h4⟩:=hv
   cases h0
   exact(h4 _ rfl).1
  clear hv
  go_enter Tryz.func178,Tryz.ntmps178
  go_wp2_with (at_builtin;refine fV rfl _ _ ai3 rfl w.heap.size (.slice (some ⟨w.heap.size,0,none⟩) 0 0) 0 [] rfl ?_ (.slice (some ⟨b,off,none⟩) n c) n xs rfl ?_ H1.o (by omega) (by omega) (by simp) ?_)
  ·exact iK (cs:= #[]) (n:=0) (ay _ _) rfl (ai _) (by decide)
  ·exact aN.alloc HV.o _
  ·intro v' w1 hown hgrow
   have HO:=ae hown
   have HG:=ae hgrow
   clear hown hgrow
   go_wp2
   go_returns
   refine⟨v',by simp,?_,?_⟩
   ·exact HO.o
   ·exact Below.grown (ak (aH _ _) _) HG.o (by simp) (fun k e=>by cases e;exact ai _)
theorem IG (n:Nat) (xs:List Value) (v:Value) (w:World) (hv:aN 3 w v n xs) (h1: ∀u∈xs,u.oneCell'=true) (hlen:n<=1000):
 Calls Tryz.prog 179 #[v] w (Et 190 3 n xs w):=by
 obtain⟨o,c,rfl⟩:=aN.open hv
 have HV:=ae hv
 have H1:=ae h1
 clear h1
 have hnil:=fun(w:World) a n c=>Lib.run_eql_slice_nil (P:=Tryz.prog) w 53 190 a n c 0 0 Tryz.underlying53
 cases o with
 |none=>
  obtain⟨hl,o,c',h0,h1,h2,h3,h4⟩:=hv
  cases h0
  obtain rfl:c=0:=h3 rfl
  obtain rfl:n=0:=by omega
  have hx:xs=[]:=ku (by simpa using hl)
  subst hx
  clear HV H1
  go_enter Tryz.func179,Tryz.ntmps179
  go_wp2
  go_returns
  exact⟨.slice none 0 0,by simp,⟨by simp,.inl ⟨rfl,rfl⟩⟩,aH _ _⟩
 |some a=>
  obtain⟨b,off,sp⟩:=a
  obtain rfl:sp=none:=by
   obtain⟨_,o,c',h0,h1,h2,h3,h4⟩:=hv
   cases h0
   exact(h4 _ rfl).1
  clear hv
  go_enter Tryz.func179,Tryz.ntmps179
  go_wp2_with (at_builtin;refine fV rfl _ _ aa4 rfl w.heap.size (.slice (some ⟨w.heap.size,0,none⟩) 0 0) 0 [] rfl ?_ (.slice (some ⟨b,off,none⟩) n c) n xs rfl ?_ H1.o (by omega) (by omega) (by simp) ?_)
  ·exact iK (cs:= #[]) (n:=0) (ay _ _) rfl (ai _) (by decide)
  ·exact aN.alloc HV.o _
  ·intro v' w1 hown hgrow
   have HO:=ae hown
   have HG:=ae hgrow
   clear hown hgrow
   go_wp2
   go_returns
   refine⟨v',by simp,?_,?_⟩
   ·exact HO.o
   ·exact Below.grown (ak (aH _ _) _) HG.o (by simp) (fun k e=>by cases e;exact ai _)
theorem LP (n:Nat) (xs:List Value) (v:Value) (w:World) (hv:aN 2 w v n xs) (h1: ∀u∈xs,u.oneCell'=true) (hlen:n<=1000):
 Calls Tryz.prog 180 #[v] w (Et 129 2 n xs w):=by
 obtain⟨o,c,rfl⟩:=aN.open hv
 have HV:=ae hv
 have H1:=ae h1
 clear h1
 have hnil:=fun(w:World) a n c=>Lib.run_eql_slice_nil (P:=Tryz.prog) w 56 129 a n c 0 0 Tryz.underlying56
 cases o with
 |none=>
  obtain⟨hl,o,c',h0,h1,h2,h3,h4⟩:=hv
  cases h0
  obtain rfl:c=0:=h3 rfl
  obtain rfl:n=0:=by omega
  have hx:xs=[]:=ku (by simpa using hl)
  subst hx
  clear HV H1
  go_enter Tryz.func180,Tryz.ntmps180
  go_wp2
  go_returns
  exact⟨.slice none 0 0,by simp,⟨by simp,.inl ⟨rfl,rfl⟩⟩,aH _ _⟩
 |some a=>
  obtain⟨b,off,sp⟩:=a
  obtain rfl:sp=none:=by
   obtain⟨_,o,c',h0,h1,h2,h3,h4⟩:=hv
   cases h0
   exact(h4 _ rfl).1
  clear hv
  go_enter Tryz.func180,Tryz.ntmps180
  go_wp2_with (at_builtin;refine fV rfl _ _ afx rfl w.heap.size (.slice (some ⟨w.heap.size,0,none⟩) 0 0) 0 [] rfl ?_ (.slice (some ⟨b,off,none⟩) n c) n xs rfl ?_ H1.o (by omega) (by omega) (by simp) ?_)
  ·exact iK (cs:= #[]) (n:=0) (ay _ _) rfl (ai _) (by decide)
  ·exact aN.alloc HV.o _
  ·intro v' w1 hown hgrow
   have HO:=ae hown
   have HG:=ae hgrow
   clear hown hgrow
   go_wp2
   go_returns
   refine⟨v',by simp,?_,?_⟩
   ·exact HO.o
   ·exact Below.grown (ak (aH _ _) _) HG.o (by simp) (fun k e=>by cases e;exact ai _)
theorem LQ (n:Nat) (xs:List Value) (v:Value) (w:World) (hv:aN 1 w v n xs) (h1: ∀u∈xs,u.oneCell'=true) (hlen:n<=1000):
 Calls Tryz.prog 181 #[v] w (Et 52 1 n xs w):=by
 obtain⟨o,c,rfl⟩:=aN.open hv
 have HV:=ae hv
 have H1:=ae h1
 clear h1
 have hnil:=fun(w:World) a n c=>Lib.run_eql_slice_nil (P:=Tryz.prog) w 57 52 a n c 0 0 Tryz.underlying57
 cases o with
 |none=>
  obtain⟨hl,o,c',h0,h1,h2,h3,h4⟩:=hv
  cases h0
  obtain rfl:c=0:=h3 rfl
  obtain rfl:n=0:=by omega
  have hx:xs=[]:=ku (by simpa using hl)
  subst hx
  clear HV H1
  go_enter Tryz.func181,Tryz.ntmps181
  go_wp2
  go_returns
  exact⟨.slice none 0 0,by simp,⟨by simp,.inl ⟨rfl,rfl⟩⟩,aH _ _⟩
 |some a=>
  obtain⟨b,off,sp⟩:=a
  obtain rfl:sp=none:=by
   obtain⟨_,o,c',h0,h1,h2,h3,h4⟩:=hv
   cases h0
   exact(h4 _ rfl).1
  clear hv
  go_enter Tryz.func181,Tryz.ntmps181
  go_wp2_with (at_builtin;refine fV rfl _ _ afz rfl w.heap.size (.slice (some ⟨w.heap.size,0,none⟩) 0 0) 0 [] rfl ?_ (.slice (some ⟨b,off,none⟩) n c) n xs rfl ?_ H1.o (by omega) (by omega) (by simp) ?_)
  ·exact iK (cs:= #[]) (n:=0) (ay _ _) rfl (ai _) (by decide)
  ·exact aN.alloc HV.o _
  ·intro v' w1 hown hgrow
   have HO:=ae hown
   have HG:=ae hgrow
   clear hown hgrow
   go_wp2
   go_returns
   refine⟨v',by simp,?_,?_⟩
   ·exact HO.o
   ·exact Below.grown (ak (aH _ _) _) HG.o (by simp) (fun k e=>by cases e;exact ai _)
theorem LK (n:Nat) (xs:List Value) (v:Value) (w:World) (hv:aN 4 w v n xs) (h1: ∀u∈xs,u.oneCell'=true) (hlen:n<=1000):
 Calls Tryz.prog 182 #[v] w (Et 192 4 n xs w):=by
 obtain⟨o,c,rfl⟩:=aN.open hv
 have HV:=ae hv
 have H1:=ae h1
 clear h1
 have hnil:=fun(w:World) a n c=>Lib.run_eql_slice_nil (P:=Tryz.prog) w 58 192 a n c 0 0 Tryz.underlying58
 cases o with
 |none=>
  obtain⟨hl,o,c',h0,h1,h2,h3,h4⟩:=hv
  cases h0
  obtain rfl:c=0:=h3 rfl
  obtain rfl:n=0:=by omega
  have hx:xs=[]:=ku (by simpa using hl)
  subst hx
  clear HV H1
  go_enter Tryz.func182,Tryz.ntmps182
  go_wp2
  go_returns
  exact⟨.slice none 0 0,by simp,⟨by simp,.inl ⟨rfl,rfl⟩⟩,aH _ _⟩
 |some a=>
  obtain⟨b,off,sp⟩:=a
  obtain rfl:sp=none:=by
   obtain⟨_,o,c',h0,h1,h2,h3,h4⟩:=hv
   cases h0
   exact(h4 _ rfl).1
  clear hv
  go_enter Tryz.func182,Tryz.ntmps182
  go_wp2_with (at_builtin;refine fV rfl _ _ aa3 rfl w.heap.size (.slice (some ⟨w.heap.size,0,none⟩) 0 0) 0 [] rfl ?_ (.slice (some ⟨b,off,none⟩) n c) n xs rfl ?_ H1.o (by omega) (by omega) (by simp) ?_)
  ·exact iK (cs:= #[]) (n:=0) (ay _ _) rfl (ai _) (by decide)
  ·exact aN.alloc HV.o _
  ·intro v' w1 hown hgrow
   have HO:=ae hown
   have HG:=ae hgrow
   clear hown hgrow
   go_wp2
   go_returns
   refine⟨v',by simp,?_,?_⟩
   ·exact HO.o
   ·exact Below.grown (ak (aH _ _) _) HG.o (by simp) (fun k e=>by cases e;exact ai _)
theorem Bj (n:Nat) (xs:List Value) (v:Value) (w:World) (hv:aN 1 w v n xs) (h1: ∀u∈xs,u.oneCell'=true) (hlen:n<=1000):
 Calls Tryz.prog 91 #[v] w (Et 3 1 n xs w):=by
 obtain⟨o,c,rfl⟩:=aN.open hv
 have HV:=ae hv
 have H1:=ae h1
 clear h1
 have hnil:=fun(w:World) a n c=>Lib.run_eql_slice_nil (P:=Tryz.prog) w 52 3 a n c 0 0 Tryz.underlying52
 cases o with
 |none=>
  obtain⟨hl,o,c',h0,h1,h2,h3,h4⟩:=hv
  cases h0
  obtain rfl:c=0:=h3 rfl
  obtain rfl:n=0:=by omega
  have hx:xs=[]:=ku (by simpa using hl)
  subst hx
  clear HV H1
  go_enter Tryz.func91,Tryz.ntmps91
  go_wp2
  go_returns
  exact⟨.slice none 0 0,by simp,⟨by simp,.inl ⟨rfl,rfl⟩⟩,aH _ _⟩
 |some a=>
  obtain⟨b,off,sp⟩:=a
  obtain rfl:sp=none:=by
   obtain⟨_,o,c',h0,h1,h2,h3,h4⟩:=hv
   cases h0
   exact(h4 _ rfl).1
  clear hv
  go_enter Tryz.func91,Tryz.ntmps91
  go_wp2_with (at_builtin;refine fV rfl _ _ sH rfl w.heap.size (.slice (some ⟨w.heap.size,0,none⟩) 0 0) 0 [] rfl ?_ (.slice (some ⟨b,off,none⟩) n c) n xs rfl ?_ H1.o (by omega) (by omega) (by simp) ?_)
  ·exact iK (cs:= #[]) (n:=0) (ay _ _) rfl (ai _) (by decide)
  ·exact aN.alloc HV.o _
  ·intro v' w1 hown hgrow
   have HO:=ae hown
   have HG:=ae hgrow
   clear hown hgrow
   go_wp2
   go_returns
   refine⟨v',by simp,?_,?_⟩
   ·exact HO.o
   ·exact Below.grown (ak (aH _ _) _) HG.o (by simp) (fun k e=>by cases e;exact ai _)
def Dk (s:jJ) (V:SV) (n:Nat) (kc:List Value):List Row:=
 [⟨186,5,V.xn,s.led.field.ax.length,dJ s.led.field.ax⟩,⟨188,3,V.Vr,s.led.notes.length,aX s.led.notes⟩,
   ⟨50,2,V.bW,s.heap.bW.length,aG s.heap.bW⟩,⟨3,1,V.Ih,s.heap.turns.length,ah s.heap.turns⟩,⟨190,3,V.PR,s.heap.readings.length,aX s.heap.readings⟩,
   ⟨129,2,V.hps,s.dw.heaps.length,aG s.dw.heaps⟩,⟨52,1,V.cks,n,kc⟩,⟨192,4,V.trs,s.dw.aJ.length,gU s.dw.aJ⟩]
theorem U6 (s:jJ) (V:SV) (es:List KE):iI s V es=Dk s V es.length (eP es)++es.map yY:=rfl
theorem U5 (s:jJ) (V:SV) (n:Nat) (kc kc':List Value) (X:List Row):(Dk s V n kc++X).set 6 ⟨52,1,V.cks,n,kc'⟩=Dk s V n kc'++X:=rfl
theorem BU (s:jJ) (V:SV) (n:Nat) (kc:List Value) (X:List Row):(Dk s V n kc++X)[6]? =some ⟨52,1,V.cks,n,kc⟩:=rfl
theorem Jr {w:World} {N:Nat} {t:TypeId} {size:Nat} {v:Value} {n:Nat} {xs:List Value} (h:w.ownsRow N t size v n xs) {g:Nat} (hg:v.ownBlock=some g): ∃cur,w.heap[g]? =some (.cells cur t (0,0)):=by
 obtain⟨h1,⟨rfl,h2⟩|⟨g',c,cs,rfl,hb,hc,h3⟩⟩:=h
 ·cases hg
 ·cases hg;exact⟨cs,hc⟩
theorem xk.YN {N:Nat} {w:World} {bx:Nat} {R:List Row} (hbx:bx<w.heap.size) (hN:N<=bx) (hown: ∀r∈R,w.ownsRow (bx+1) r.t r.size r.v r.n r.xs) (hnd:(R.map (·.t)).Nodup):xk N w bx R where
 own i r hr:=cu (hown r (mW hr)) (by omega)
 apart i j a b ha hb hij:=by
  rcases hq:a.v.ownBlock with _|g
  ·exact .inl rfl
  ·refine .inr fun e=>?_
   obtain⟨c1,h1⟩:=Jr (hown a (mW ha)) hq
   obtain⟨c2,h2⟩:=Jr (hown b (mW hb)) e.symm
   rw[h1] at h2
   have ht:a.t=b.t:=by injection h2 with h2;injection h2
   refine hij ((List.getElem?_inj (i:=i) (j:=j) (by simpa using(ji.1 ha).1:i<(R.map (·.t)).length) hnd).1 ?_)
   rw[qx,qx,ha,hb,Option.map_some,Option.map_some,ht]
 off i r hr e:=by
  have:=((hown r (mW hr)).lt bx e).1
  omega
 lt:=hbx
 base:=hN
theorem xk.move {N:Nat} {w W:World} {bx wb:Nat} {R:List Row} (h:xk N w bx R) (hE:Ext [] w W) (hwb:w.heap.size<=wb) (hlt:wb<W.heap.size):xk N W wb R where
 own i r hr:=aC (h.own i r hr) hE (by simp)
 apart:=h.apart
 off i r hr e:=by have:=((h.own i r hr).lt wb e).2;omega
 lt:=hlt
 base:=by have:=h.base;have:=h.lt;omega
theorem abg {w:World} {v:Value} {es:List KE} (h:xm w v es): ∀u∈eP es,u.oneCell'=true:=by
 intro u hu
 obtain⟨e,he,rfl⟩:=iZ.1 hu
 obtain⟨o,c,hv⟩:=aN.open (h.2 e he)
 rw[hv];rfl
theorem E5 (s:jJ) (V:SV) (es:List KE) (w:World) (hS:pM w s V es) (hG:fP s):Calls Tryz.prog 101 #[.agg (dR s V)] w
 (fun e w'=>Below w.heap.size w w'/\ ∃wb V' es',e= .returned (.pointer (some ⟨wb,0,none⟩))/\jO w.heap.size w' wb s V' es'):=by
 obtain⟨vt,vn,vw,vu,vr,vh,vk,vs⟩:=V
 have HS:Hid (∀W,Below w.heap.size w W->pM W s ⟨vt,vn,vw,vu,vr,vh,vk,vs⟩ es):=ae (fun W hb=>hS.below hb (ai _))
 have hek:es.length=s.dw.aU.length:=hS.dw.len
 have jq:=ae (abg hS.dw.aU)
 have HG:=ae hG
 have hl5:=hG.En
 have hn5:=hG.notes
 have hw5:=hG.UN
 have Ld:=hG.reads
 have hh3:=hG.SQ
 have hk3:=hG.aU
 have ht5:=hG.aJ
 have hu5:s.heap.turns.length<=5:=by obtain⟨p,hp⟩:=hG.turns;rw[hp];exact Ce p
 have hke:es.length<=3:=by omega
 have hwl:s.heap.bW.length<=5:=by omega
 have HEK:=ae hek
 clear hS hG hek hw5
 go_enter Tryz.func101,Tryz.ntmps101
 go_wp2_with fail
 refine dM fun W1 hW1=>?_
 have hb1:W1.heap[w.heap.size]? =some (.cells (dR s ⟨vt,vn,vw,vu,vr,vh,vk,vs⟩) 62 (0,0)):=by rw[hW1];exact ay _ _
 have HB1:=ae (show Below w.heap.size w W1 from by rw[hW1];exact ak (aH _ _) _)
 have hsz1:w.heap.size<W1.heap.size:=(aS.1 hb1).1
 obtain⟨c1,f1,l1⟩:=af hb1
 have XN:=ae hb1
 clear hW1 hb1
 refine RX.gy (fun _ _=>False) 10 [] none [(5,⟨fun _ v=> ∃o c,v= .slice o s.led.field.ax.length c,fun _ v Wx=>Wx.ownsRow W1.heap.size 186 5 v s.led.field.ax.length (dJ s.led.field.ax)⟩),(9,⟨fun _ v=> ∃o c,v= .slice o s.led.notes.length c,fun _ v Wx=>Wx.ownsRow W1.heap.size 188 3 v s.led.notes.length (aX s.led.notes)⟩)] (by rintro ps a1 Wx hdf h;exact h.elim) (by as_aux_lemma=>kernel_rfl) (by as_aux_lemma=>kernel_rfl) ?_
 simp only[zt]
 repeat (refine RX.zd ?_;simp only[zp])
 refine RX.bG _ (by rfl) (by rfl) (by exact⟨.slice none (s.led.field.ax.length) 0,none,0,rfl⟩) (fun Wq hE hF=>?_) (fun v Wa Wb ho hE=>?_) (fun v hv=>?_)
 ·have hE':Ext [] W1 Wq:=hE
  refine RX.dB 176 #[vt] (by go_simp;try rfl) ?_
  refine(LM (s.led.field.ax.length) (dJ s.led.field.ax) vt Wq (HS.o Wq (bn HB1.o hE'.below)).xn (Dp _) (by omega)).mono ?_
  rintro e w' ⟨v',rfl,ho,hb⟩
  exact .inl ⟨_,rfl,aT ho,cu ho hE'.size,Ext.aA hb⟩
 ·exact aC (Ms:=[]) ho hE (by simp)
 obtain⟨Dq,Ec,rfl⟩:=hv
 simp only[zp]
 repeat (refine RX.zd ?_;simp only[zp])
 refine RX.bG _ (by rfl) (by rfl) (by exact⟨.slice none (s.led.notes.length) 0,none,0,rfl⟩) (fun Wq hE hF=>?_) (fun v Wa Wb ho hE=>?_) (fun v hv=>?_)
 ·have hE':Ext [] W1 Wq:=hE
  refine RX.dB 177 #[vn] (by go_simp;try rfl) ?_
  refine(II (s.led.notes.length) (aX s.led.notes) vn Wq (HS.o Wq (bn HB1.o hE'.below)).Vr (uC _) (by omega)).mono ?_
  rintro e w' ⟨v',rfl,ho,hb⟩
  exact .inl ⟨_,rfl,aT ho,cu ho hE'.size,Ext.aA hb⟩
 ·exact aC (Ms:=[]) ho hE (by simp)
 obtain⟨Dt,Ed,rfl⟩:=hv
 simp only[zp]
 repeat (refine RX.zd ?_;simp only[zp])
 intro Wt hE hF
 have Zk:Wt.ownsRow W1.heap.size 188 3 (.slice Dt s.led.notes.length Ed) s.led.notes.length (aX s.led.notes):=hF _ (bF _)
 have Zi:Wt.ownsRow W1.heap.size 186 5 (.slice Dq s.led.field.ax.length Ec) s.led.field.ax.length (dJ s.led.field.ax):=hF _ (nC _ (bF _))
 have hE':Ext [] W1 Wt:=hE
 have HBt:=ae (bn HB1.o hE'.below)
 have hbt:=(hE'.block _ l1 (by simp)).trans XN.o
 have HKt:=ae hbt
 have XG:=ae hE'
 obtain⟨ct,ft,lt⟩:=af hbt
 clear hE hF hE' hbt c1 f1
 have Af:=ae Zi
 have Ag:=ae Zk
 clear Zi Zk
 go_upto_region 3 with(fail)
 refine dM fun W2 qh=>?_
 have hbk:W2.heap[w.heap.size]? =some (.cells (dR s ⟨.slice Dq s.led.field.ax.length Ec,.slice Dt s.led.notes.length Ed,vw,vu,vr,vh,vk,vs⟩) 62 (0,0)):=by rw[qh];exact aI (aI (HKt.o) _) _
 have HB2:=ae (show Below w.heap.size w W2 from by rw[qh];exact((HBt.o).setCell (ai _) _).setCell (ai _) _)
 have hEs:Ext [w.heap.size] Wt W2:=by rw[qh];exact(gz).trans gz
 have Af:=ae (cu (base:=W1.heap.size) (aC (Ms:=[w.heap.size]) Af.o hEs (by simp;exact hsz1)) (ai _))
 have Ag:=ae (cu (base:=W1.heap.size) (aC (Ms:=[w.heap.size]) Ag.o hEs (by simp;exact hsz1)) (ai _))
 have hsz2:W1.heap.size<=W2.heap.size:=by have:=hEs.size;have:=XG.o.size;omega
 obtain⟨c2,f2,l2⟩:=af hbk
 have HK2:=ae hbk
 clear qh hbk hEs ct ft
 refine RX.gy (fun _ _=>False) 12 [] none [(3,⟨fun _ v=> ∃o c,v= .slice o s.heap.bW.length c,fun _ v Wx=>Wx.ownsRow W2.heap.size 50 2 v s.heap.bW.length (aG s.heap.bW)⟩),(7,⟨fun _ v=> ∃o c,v= .slice o s.heap.turns.length c,fun _ v Wx=>Wx.ownsRow W2.heap.size 3 1 v s.heap.turns.length (ah s.heap.turns)⟩),(11,⟨fun _ v=> ∃o c,v= .slice o s.heap.readings.length c,fun _ v Wx=>Wx.ownsRow W2.heap.size 190 3 v s.heap.readings.length (aX s.heap.readings)⟩)] (by rintro ps a1 Wx hdf h;exact h.elim) (by as_aux_lemma=>kernel_rfl) (by as_aux_lemma=>kernel_rfl) ?_
 simp only[zt]
 repeat (refine RX.zd ?_;simp only[zp])
 refine RX.bG _ (by rfl) (by rfl) (by exact⟨.slice none (s.heap.bW.length) 0,none,0,rfl⟩) (fun Wq hE hF=>?_) (fun v Wa Wb ho hE=>?_) (fun v hv=>?_)
 ·have hE':Ext [] W2 Wq:=hE
  refine RX.dB 178 #[vw] (by go_simp;try rfl) ?_
  refine(LJ (s.heap.bW.length) (aG s.heap.bW) vw Wq (HS.o Wq (bn HB2.o hE'.below)).bW (oK _) (by omega)).mono ?_
  rintro e w' ⟨v',rfl,ho,hb⟩
  exact .inl ⟨_,rfl,aT ho,cu ho hE'.size,Ext.aA hb⟩
 ·exact aC (Ms:=[]) ho hE (by simp)
 obtain⟨FQ,GZ,rfl⟩:=hv
 simp only[zp]
 repeat (refine RX.zd ?_;simp only[zp])
 refine RX.bG _ (by rfl) (by rfl) (by exact⟨.slice none (s.heap.turns.length) 0,none,0,rfl⟩) (fun Wq hE hF=>?_) (fun v Wa Wb ho hE=>?_) (fun v hv=>?_)
 ·have hE':Ext [] W2 Wq:=hE
  refine RX.dB 91 #[vu] (by go_simp;try rfl) ?_
  refine(Bj (s.heap.turns.length) (ah s.heap.turns) vu Wq (HS.o Wq (bn HB2.o hE'.below)).Ih (jG _) (by omega)).mono ?_
  rintro e w' ⟨v',rfl,ho,hb⟩
  exact .inl ⟨_,rfl,aT ho,cu ho hE'.size,Ext.aA hb⟩
 ·exact aC (Ms:=[]) ho hE (by simp)
 obtain⟨FT,G5,rfl⟩:=hv
 simp only[zp]
 repeat (refine RX.zd ?_;simp only[zp])
 refine RX.bG _ (by rfl) (by rfl) (by exact⟨.slice none (s.heap.readings.length) 0,none,0,rfl⟩) (fun Wq hE hF=>?_) (fun v Wa Wb ho hE=>?_) (fun v hv=>?_)
 ·have hE':Ext [] W2 Wq:=hE
  refine RX.dB 179 #[vr] (by go_simp;try rfl) ?_
  refine(IG (s.heap.readings.length) (aX s.heap.readings) vr Wq (HS.o Wq (bn HB2.o hE'.below)).PR (uC _) (by omega)).mono ?_
  rintro e w' ⟨v',rfl,ho,hb⟩
  exact .inl ⟨_,rfl,aT ho,cu ho hE'.size,Ext.aA hb⟩
 ·exact aC (Ms:=[]) ho hE (by simp)
 obtain⟨FU,G6,rfl⟩:=hv
 simp only[zp]
 repeat (refine RX.zd ?_;simp only[zp])
 intro Wt hE hF
 have Zj:Wt.ownsRow W2.heap.size 190 3 (.slice FU s.heap.readings.length G6) s.heap.readings.length (aX s.heap.readings):=hF _ (bF _)
 have Zg:Wt.ownsRow W2.heap.size 3 1 (.slice FT s.heap.turns.length G5) s.heap.turns.length (ah s.heap.turns):=hF _ (nC _ (bF _))
 have Zf:Wt.ownsRow W2.heap.size 50 2 (.slice FQ s.heap.bW.length GZ) s.heap.bW.length (aG s.heap.bW):=hF _ (nC _ (nC _ (bF _)))
 have hE':Ext [] W2 Wt:=hE
 have HBt:=ae (bn HB2.o hE'.below)
 have hbt:=(hE'.block _ l2 (by simp)).trans HK2.o
 have HKt:=ae hbt
 have XG:=ae hE'
 obtain⟨ct,ft,lt⟩:=af hbt
 clear hE hF hE' hbt c2 f2
 have Hq:=ae Zf
 have Hr:=ae Zg
 have Ht:=ae Zj
 clear Zf Zg Zj
 go_upto_region 4 with(fail)
 refine dM fun W3 qh=>?_
 have hbk:W3.heap[w.heap.size]? =some (.cells (dR s ⟨.slice Dq s.led.field.ax.length Ec,.slice Dt s.led.notes.length Ed,.slice FQ s.heap.bW.length GZ,.slice FT s.heap.turns.length G5,.slice FU s.heap.readings.length G6,vh,vk,vs⟩) 62 (0,0)):=by rw[qh];exact aI (aI (aI (HKt.o) _) _) _
 have HB3:=ae (show Below w.heap.size w W3 from by rw[qh];exact(((HBt.o).setCell (ai _) _).setCell (ai _) _).setCell (ai _) _)
 have hEs:Ext [w.heap.size] Wt W3:=by rw[qh];exact((gz).trans gz).trans gz
 have Af:=ae (aC (Ms:=[w.heap.size]) (aC (Ms:=[]) Af.o XG.o (by simp)) hEs (by simp;exact hsz1))
 have Ag:=ae (aC (Ms:=[w.heap.size]) (aC (Ms:=[]) Ag.o XG.o (by simp)) hEs (by simp;exact hsz1))
 have Hq:=ae (cu (base:=W1.heap.size) (aC (Ms:=[w.heap.size]) Hq.o hEs (by simp;omega)) (by omega))
 have Hr:=ae (cu (base:=W1.heap.size) (aC (Ms:=[w.heap.size]) Hr.o hEs (by simp;omega)) (by omega))
 have Ht:=ae (cu (base:=W1.heap.size) (aC (Ms:=[w.heap.size]) Ht.o hEs (by simp;omega)) (by omega))
 have hsz3:W1.heap.size<=W3.heap.size:=by have:=hEs.size;have:=XG.o.size;omega
 obtain⟨c3,f3,l3⟩:=af hbk
 have Xx:=ae hbk
 clear qh hbk hEs ct ft
 refine RX.gy (fun _ _=>False) 12 [] none [(3,⟨fun _ v=> ∃o c,v= .slice o s.dw.heaps.length c,fun _ v Wx=>Wx.ownsRow W3.heap.size 129 2 v s.dw.heaps.length (aG s.dw.heaps)⟩),(7,⟨fun _ v=> ∃o c,v= .slice o es.length c,fun _ v Wx=>Wx.ownsRow W3.heap.size 52 1 v es.length (eP es)⟩),(11,⟨fun _ v=> ∃o c,v= .slice o s.dw.aJ.length c,fun _ v Wx=>Wx.ownsRow W3.heap.size 192 4 v s.dw.aJ.length (gU s.dw.aJ)⟩)] (by rintro ps a1 Wx hdf h;exact h.elim) (by as_aux_lemma=>kernel_rfl) (by as_aux_lemma=>kernel_rfl) ?_
 simp only[zt]
 repeat (refine RX.zd ?_;simp only[zp])
 refine RX.bG _ (by rfl) (by rfl) (by exact⟨.slice none (s.dw.heaps.length) 0,none,0,rfl⟩) (fun Wq hE hF=>?_) (fun v Wa Wb ho hE=>?_) (fun v hv=>?_)
 ·have hE':Ext [] W3 Wq:=hE
  refine RX.dB 180 #[vh] (by go_simp;try rfl) ?_
  refine(LP (s.dw.heaps.length) (aG s.dw.heaps) vh Wq (HS.o Wq (bn HB3.o hE'.below)).dw.heaps (oK _) (by omega)).mono ?_
  rintro e w' ⟨v',rfl,ho,hb⟩
  exact .inl ⟨_,rfl,aT ho,cu ho hE'.size,Ext.aA hb⟩
 ·exact aC (Ms:=[]) ho hE (by simp)
 obtain⟨Jw,JU,rfl⟩:=hv
 simp only[zp]
 repeat (refine RX.zd ?_;simp only[zp])
 refine RX.bG _ (by rfl) (by rfl) (by exact⟨.slice none (es.length) 0,none,0,rfl⟩) (fun Wq hE hF=>?_) (fun v Wa Wb ho hE=>?_) (fun v hv=>?_)
 ·have hE':Ext [] W3 Wq:=hE
  refine RX.dB 181 #[vk] (by go_simp;try rfl) ?_
  refine(LQ (es.length) (eP es) vk Wq (HS.o Wq (bn HB3.o hE'.below)).dw.aU.1 (jq.o) (by omega)).mono ?_
  rintro e w' ⟨v',rfl,ho,hb⟩
  exact .inl ⟨_,rfl,aT ho,cu ho hE'.size,Ext.aA hb⟩
 ·exact aC (Ms:=[]) ho hE (by simp)
 obtain⟨FV,Bo,rfl⟩:=hv
 simp only[zp]
 repeat (refine RX.zd ?_;simp only[zp])
 refine RX.bG _ (by rfl) (by rfl) (by exact⟨.slice none (s.dw.aJ.length) 0,none,0,rfl⟩) (fun Wq hE hF=>?_) (fun v Wa Wb ho hE=>?_) (fun v hv=>?_)
 ·have hE':Ext [] W3 Wq:=hE
  refine RX.dB 182 #[vs] (by go_simp;try rfl) ?_
  refine(LK (s.dw.aJ.length) (gU s.dw.aJ) vs Wq (HS.o Wq (bn HB3.o hE'.below)).dw.aJ (ND _) (by omega)).mono ?_
  rintro e w' ⟨v',rfl,ho,hb⟩
  exact .inl ⟨_,rfl,aT ho,cu ho hE'.size,Ext.aA hb⟩
 ·exact aC (Ms:=[]) ho hE (by simp)
 obtain⟨Jv,JS,rfl⟩:=hv
 simp only[zp]
 repeat (refine RX.zd ?_;simp only[zp])
 intro Wt hE hF
 have Zh:Wt.ownsRow W3.heap.size 192 4 (.slice Jv s.dw.aJ.length JS) s.dw.aJ.length (gU s.dw.aJ):=hF _ (bF _)
 have Zm:Wt.ownsRow W3.heap.size 52 1 (.slice FV es.length Bo) es.length (eP es):=hF _ (nC _ (bF _))
 have Zl:Wt.ownsRow W3.heap.size 129 2 (.slice Jw s.dw.heaps.length JU) s.dw.heaps.length (aG s.dw.heaps):=hF _ (nC _ (nC _ (bF _)))
 have hE':Ext [] W3 Wt:=hE
 have HBt:=ae (bn HB3.o hE'.below)
 have hbt:=(hE'.block _ l3 (by simp)).trans Xx.o
 have HKt:=ae hbt
 have XG:=ae hE'
 obtain⟨ct,ft,lt⟩:=af hbt
 clear hE hF hE' hbt c3 f3
 have TC:=ae Zl
 have TD:=ae Zm
 have TA:=ae Zh
 clear Zl Zm Zh
 go_upto_region 5 with(fail)
 refine dM fun W4 qh=>?_
 have hbk:W4.heap[w.heap.size]? =some (.cells (dR s ⟨.slice Dq s.led.field.ax.length Ec,.slice Dt s.led.notes.length Ed,.slice FQ s.heap.bW.length GZ,.slice FT s.heap.turns.length G5,.slice FU s.heap.readings.length G6,.slice Jw s.dw.heaps.length JU,.slice FV es.length Bo,.slice Jv s.dw.aJ.length JS⟩) 62 (0,0)):=by rw[qh];exact aI (aI (aI (HKt.o) _) _) _
 have HB4:=ae (show Below w.heap.size w W4 from by rw[qh];exact(((HBt.o).setCell (ai _) _).setCell (ai _) _).setCell (ai _) _)
 have hEs:Ext [w.heap.size] Wt W4:=by rw[qh];exact((gz).trans gz).trans gz
 have Af:=ae (aC (Ms:=[w.heap.size]) (aC (Ms:=[]) Af.o XG.o (by simp)) hEs (by simp;exact hsz1))
 have Ag:=ae (aC (Ms:=[w.heap.size]) (aC (Ms:=[]) Ag.o XG.o (by simp)) hEs (by simp;exact hsz1))
 have Hq:=ae (aC (Ms:=[w.heap.size]) (aC (Ms:=[]) Hq.o XG.o (by simp)) hEs (by simp;exact hsz1))
 have Hr:=ae (aC (Ms:=[w.heap.size]) (aC (Ms:=[]) Hr.o XG.o (by simp)) hEs (by simp;exact hsz1))
 have Ht:=ae (aC (Ms:=[w.heap.size]) (aC (Ms:=[]) Ht.o XG.o (by simp)) hEs (by simp;exact hsz1))
 have TC:=ae (cu (base:=W1.heap.size) (aC (Ms:=[w.heap.size]) TC.o hEs (by simp;omega)) (by omega))
 have TD:=ae (cu (base:=W1.heap.size) (aC (Ms:=[w.heap.size]) TD.o hEs (by simp;omega)) (by omega))
 have TA:=ae (cu (base:=W1.heap.size) (aC (Ms:=[w.heap.size]) TA.o hEs (by simp;omega)) (by omega))
 have adK:W1.heap.size<=W4.heap.size:=by have:=hEs.size;have:=XG.o.size;omega
 obtain⟨c4,f4,l4⟩:=af hbk
 have HK4:=ae hbk
 clear qh hbk hEs ct ft
 have hR0:xk w.heap.size W4 w.heap.size (Dk s ⟨.slice Dq s.led.field.ax.length Ec,.slice Dt s.led.notes.length Ed,.slice FQ s.heap.bW.length GZ,.slice FT s.heap.turns.length G5,.slice FU s.heap.readings.length G6,.slice Jw s.dw.heaps.length JU,.slice FV es.length Bo,.slice Jv s.dw.aJ.length JS⟩ es.length (eP es)):=by
  refine xk.YN (by have:=HB4.o.size;omega) (ai _) ?_ (by simp[Dk])
  intro r hr
  simp only[Dk,ig,List.not_mem_nil,or_false] at hr
  rcases hr with rfl|rfl|rfl|rfl|rfl|rfl|rfl|rfl
  ·exact cu Af.o (by omega)
  ·exact cu Ag.o (by omega)
  ·exact cu Hq.o (by omega)
  ·exact cu Hr.o (by omega)
  ·exact cu Ht.o (by omega)
  ·exact cu TC.o (by omega)
  ·exact cu TD.o (by omega)
  ·exact cu TA.o (by omega)
 have HR0:=ae hR0
 clear hR0
 go_wp2_with fail
 go_loopw [4,5,58] (fun _ _ u wr=> ∃i:Nat,i<=es.length/\u= .int .i64 i/\Below w.heap.size w wr/\wr.heap[w.heap.size]? =some (.cells (dR s ⟨.slice Dq s.led.field.ax.length Ec,.slice Dt s.led.notes.length Ed,.slice FQ s.heap.bW.length GZ,.slice FT s.heap.turns.length G5,.slice FU s.heap.readings.length G6,.slice Jw s.dw.heaps.length JU,.slice FV es.length Bo,.slice Jv s.dw.aJ.length JS⟩) 62 (0,0))/\ ∃es':List KE,es'.length=i/\es'.map (·.2)=s.dw.aU.take i/\xk w.heap.size wr w.heap.size (Dk s ⟨.slice Dq s.led.field.ax.length Ec,.slice Dt s.led.notes.length Ed,.slice FQ s.heap.bW.length GZ,.slice FT s.heap.turns.length G5,.slice FU s.heap.readings.length G6,.slice Jw s.dw.heaps.length JU,.slice FV es.length Bo,.slice Jv s.dw.aJ.length JS⟩ es.length (eP (es'++es.drop i))++es'.map yY)) (fun _ _ u _=>es.length-(intOf u).toNat)
 case atStart=>exact⟨0,bM _,rfl,HB4.o,HK4.o,[],rfl,rfl,by simpa using HR0.o⟩
 case round=>
  obtain⟨i,hi,rfl,hB,hbk,es',Iz,hes',hOr⟩:=hrel
  obtain⟨c5,f5,l5⟩:=af hbk
  by_cases hlt:i<es.length
  ·have hcx:=HEK.o
   obtain⟨ev,el,Ci⟩: ∃ev el,es[i]? =some (ev,el):=⟨_,_,dn hlt⟩
   have hcas:s.dw.aU[i]? =some el:=by rw[<-(HS.o w (aH _ _)).dw.is,qx,Ci];rfl
   have aj8:el.length<=3:=by have:=(HG.o.ql el (mW hcas)).1;omega
   have h6:wr.ownsRow w.heap.size 52 1 (.slice FV es.length Bo) es.length (eP (es'++es.drop i)):=hOr.own 6 _ (BU _ _ _ _ _)
   obtain⟨gk,ajZ,hgk,hfk,hkl⟩:=gY h6 (by omega)
   subst ajZ
   have hgx:(eP (es'++es.drop i))[i]? =some ev:=by
    unfold eP
    rw[qx,ou (by omega),Iz,Nat.sub_self,List.getElem?_drop,Nat.add_zero,Ci];rfl
   obtain⟨hg',eg'⟩:=ji.1 hgx
   have g6:=(hgk i hg').trans (by rw[eg'])
   have HX:=ae (ag hB (ag hbk (ag Iz (ag hes' (ag hOr (ag h6 (ag Ci hcas)))))))
   have hgb:gk≠w.heap.size:=fun e=>hOr.off 6 _ (BU _ _ _ _ _) (by rw[<-e];rfl)
   clear hB hbk Iz hes' hOr h6 hgx hg' eg' hgk Ci hcas hcx
   go_wp2_with fail
   refine RX.gy (fun _ _=>False) 6 [] none [(5,⟨fun _ v=> ∃o c,v= .slice o el.length c,fun _ v Wx=>Wx.ownsRow wr.heap.size 3 1 v el.length (ah el)⟩)] (by rintro ps a1 Wx hdf h;exact h.elim) (by as_aux_lemma=>kernel_rfl) (by as_aux_lemma=>kernel_rfl) ?_
   simp only[zt]
   repeat (refine RX.zd ?_;simp only[zp])
   refine RX.bG _ (by rfl) (by rfl) (by exact⟨.slice none el.length 0,none,0,rfl⟩) (fun Wq hE hF=>?_) (fun v Wa Wb ho hE=>?_) (fun v hv=>?_)
   ·have hE':Ext [] wr Wq:=hE
    refine RX.dB 91 #[ev] (by go_simp;try rfl) ?_
    refine(Bj el.length (ah el) ev Wq ((HS.o Wq (bn HX.o.1 (show Below wr.heap.size wr Wq from hE'.below))).dw.aU.2 (ev,el) (mW HX.o.2.2.2.2.2.2.1)) (jG _) (by omega)).mono ?_
    rintro e w' ⟨v',rfl,ho,hb⟩
    exact .inl ⟨_,rfl,aT ho,cu ho hE'.size,Ext.aA hb⟩
   ·exact aC (Ms:=[]) ho hE (by simp)
   obtain⟨o8,c8,rfl⟩:=hv
   simp only[zp]
   intro W8 hE hF
   have qE:W8.ownsRow wr.heap.size 3 1 (.slice o8 el.length c8) el.length (ah el):=hF _ (bF _)
   have gZ:Ext [] wr W8:=hE
   have hbl:=(gZ.block _ l5 (by simp)).trans HX.o.2.1
   obtain⟨c9,f9,l9⟩:=af hbl
   have hR1:=HX.o.2.2.2.2.1.push (yY (.slice o8 el.length c8,el)) gZ (by simp) (cu qE (by have:=HX.o.1.size;omega)) (by rcases hq:(Value.slice o8 el.length c8).ownBlock with _|g;(exact .inl hq);(exact .inr ⟨g,hq,(qE.lt g hq).1⟩))
   have h68:=aC (Ms:=[]) HX.o.2.2.2.2.2.1 gZ (by simp)
   obtain⟨gk',adX,aj0,aoo,an7⟩:=gY h68 (by omega)
   cases adX
   have g7:=(gZ.cell gk i hkl (by simp)).trans g6
   have H8:=ae (ag gZ (ag hbl (ag hR1 h68)))
   clear hE hF qE gZ hbl hR1 h68 aj0 c5 f5 g6 hfk
   go_wp2_with fail
   go_roundw
   case rel=>
    refine⟨i+1,by omega,by go_num,(bn HX.o.1 H8.o.1.below).setCell (H8.o.2.2.2.lt gk rfl).1 _,((gz (W:=W8) (b:=gk) (off:=i) (v:= .slice o8 el.length c8)).block _ l9 (by simpa using fun e=>hgb e.symm)).trans H8.o.2.1,es'++[(.slice o8 el.length c8,el)],by simp[HX.o.2.2.1],?_,?_⟩
    ·rw[List.map_append,HX.o.2.2.2.1,qW,HX.o.2.2.2.2.2.2.2];rfl
    ·have hS:=lK H8.o.2.2.2 i (.slice o8 el.length c8)
     have hk2:(eP (es'++es.drop i)).set i (.slice o8 el.length c8)=eP (es'++[(.slice o8 el.length c8,el)]++es.drop (i+1)):=by
      unfold eP
      rw[List.map_append,qy _ _ (by simp[HX.o.2.2.1]),lX,HX.o.2.2.1,Nat.sub_self,uO hlt,List.map_cons,List.set_cons_zero]
      simp
     have hP:=H8.o.2.2.1.put (i:=6) (r:=⟨52,1,.slice (some ⟨gk,0,none⟩) es.length Bo,es.length,eP (es'++es.drop i)⟩) (by rw[kZ];exact BU _ _ _ _ _) ⟨52,1,.slice (some ⟨gk,0,none⟩) es.length Bo,es.length,eP (es'++[(.slice o8 el.length c8,el)]++es.drop (i+1))⟩ (gz (W:=W8) (b:=gk) (off:=i) (v:= .slice o8 el.length c8)) (fun m hm=> .inr (.inr (by rw[fC.1 hm];rfl))) (by rw[hk2] at hS;exact hS) (.inl rfl)
     rw[kZ,U5] at hP
     rw[List.map_append]
     exact hP
   case measure=>simp[intOf];omega
  ·obtain rfl:i=es.length:=by omega
   have HX:=ae (ag hB (ag hbk (ag Iz (ag hes' hOr))))
   clear hB hbk Iz hes' hOr
   go_upto_region 10 with(fail)
   refine wp_region_lit ?_
   refine wpList_load_row rfl _ _ rfl w.heap.size rfl _ _ _ _ HX.o.2.1 Tryz.underlying62 rfl (by kernel_rfl) ?_
   simp only[zp]
   clear c5 f5
   go_wp2_with fail
   trace_state
   go_returns
   refine⟨ak HX.o.1 _,wr.heap.size,⟨.slice Dq s.led.field.ax.length Ec,.slice Dt s.led.notes.length Ed,.slice FQ s.heap.bW.length GZ,.slice FT s.heap.turns.length G5,.slice FU s.heap.readings.length G6,.slice Jw s.dw.heaps.length JU,.slice FV es.length Bo,.slice Jv s.dw.aJ.length JS⟩,es',by simp,⟨ay _ _,?_,?_⟩⟩
   ·have h:=HX.o.2.2.2.2
    rw[List.drop_length,List.append_nil] at h
    rw[U6,HX.o.2.2.1]
    exact h.move (Ext.aA (ak (aH _ _) _)) (ai _) (by simp)
   ·rw[HX.o.2.2.2.1,jW (by have:=HEK.o;omega)]
structure Env (w:World):Prop where
 pow: ∃t f,w.heap[0]? =some (.cells (Lib.pow10Tab.map fun z=>Value.int .u64 z).toArray t f)
 len: ∃m,w.cell? ⟨1,0,none⟩=some (.int .i64 m)/\1<w.heap.size
 syn: ∃tp p t f,w.heap[2]? =some (.cells #[.iface tp p] t f)
 rng: ∃tp p t f,w.heap[3]? =some (.cells #[.iface tp p] t f)
theorem Env.lts {w:World} (h:Env w):0<w.heap.size/\1<w.heap.size/\2<w.heap.size/\3<w.heap.size:=by
 obtain⟨t,f,h0⟩:=h.pow
 obtain⟨m,h1,hl⟩:=h.len
 obtain⟨tp,p,t2,f2,h2⟩:=h.syn
 obtain⟨tp3,p3,t3,f3,h3⟩:=h.rng
 exact⟨(aS.1 h0).1,hl,(aS.1 h2).1,(aS.1 h3).1⟩
theorem Env.size {w:World} (h:Env w):4<=w.heap.size:=by
 have:=h.lts
 omega
theorem Env.below {w W:World} (h:Env w) {B:Nat} (hb:Below B w W) (hB:w.heap.size<=B):Env W:=by
 have h4:=h.lts
 have hz:=hb.size
 obtain⟨t,f,h0⟩:=h.pow
 obtain⟨m,h1,hl⟩:=h.len
 obtain⟨tp,p,t2,f2,h2⟩:=h.syn
 obtain⟨tp3,p3,t3,f3,h3⟩:=h.rng
 exact⟨⟨t,f,(hb.block 0 (by omega)).trans h0⟩,⟨m,(ja (hb.block 1 (by omega))).trans h1,by omega⟩,⟨tp,p,t2,f2,(hb.block 2 (by omega)).trans h2⟩,⟨tp3,p3,t3,f3,(hb.block 3 (by omega)).trans h3⟩⟩
theorem Qd {w:World} {g:Nat} {cs:Array Value} {t:TypeId} {f:Nat×Nat} (h:w.heap[g]? =some (.cells cs t f)) {nm:String} (hn:Tryz.prog.globalNamed nm=some g):w.var? Tryz.prog nm=some cs:=by
 simp[World.var?,hn,h]
theorem Un {w:World} (h:Env w) {nm:String} (hn:Tryz.prog.globalNamed nm=some 0):Lib.TabIs Tryz.prog w nm .u64 Lib.pow10Tab:=by
 obtain⟨t,f,h0⟩:=h.pow
 exact Qd h0 hn
abbrev gI (l:az):ByteArray:=⟨l.toArray⟩
theorem bytesWorld_below (w:World) (t:TypeId) (s:ByteArray):Below w.heap.size w (Lib.bytesWorld w t s):=by
 unfold Lib.bytesWorld
 refine⟨rfl,rfl,rfl,?_,fun i hi=>?_⟩
 ·simp[World.freeze]
 ·have:w.heap.size≠i:=by omega
  simp[World.freeze,Array.getElem?_modify,this]
  exact heap_alloc_old _ _ hi
theorem Gy (w:World) (k:Nat) (os:Array Obj):Below w.heap.size w (Go.Sort.grow (w.drewN k) os):=by
 refine⟨rfl,rfl,rfl,by simp[Go.Sort.grow,World.drewN],fun i hi=>?_⟩
 rw[Go.Sort.heap_grow_old _ _ (by simpa [World.drewN] using hi)]
 rfl
theorem aaf (l:az) (w:World) (hE:Env w) (hl:l.length<=1000):Calls Tryz.prog 175 #[.string (gI l)] w
 (fun e w'=>Below w.heap.size w w'/\((∃v,Lib.atoiAll l= .ok v/\e= .returned (.tuple #[iv v,.nilIface]))∨((∀v,Lib.atoiAll l≠ .ok v)/\ ∃v t p,e= .returned (.tuple #[iv v,.iface t p])))):=by
 have hs:(gI l).size=l.length:=by simp[gI,ByteArray.size]
 cases ha:Lib.atoiAll l with
 |ok v=>
  refine(Go.Proofs.Tryz.strconv_Atoi_ok (gI l) (by rw[hs];omega) v ha w).mono ?_
  rintro e w' ⟨rfl,h|⟨t,h⟩⟩
  ·subst h;exact⟨aH _ _,.inl ⟨v,rfl,rfl⟩⟩
  ·subst h;exact⟨bytesWorld_below _ _ _,.inl ⟨v,rfl,rfl⟩⟩
 |range=>
  obtain⟨tp,p,t2,f2,h2⟩:=hE.rng
  refine(Go.Proofs.Tryz.strconv_Atoi_range_var (gI l) (by rw[hs];omega) ha tp p w (Qd h2 (by kernel_rfl))).mono ?_
  rintro e w' ⟨M,rfl,h1,h2,h3⟩
  exact⟨h3,.inr ⟨(fun v h=>by cases h),_,_,_,rfl⟩⟩
 |_=>
  obtain⟨tp,p,t2,f2,h2⟩:=hE.syn
  refine(Go.Proofs.Tryz.strconv_Atoi_syntax_var (gI l) (by rw[hs];omega) ha tp p w (Qd h2 (by kernel_rfl))).mono ?_
  rintro e w' ⟨M,rfl,h1,h2,h3⟩
  exact⟨h3,.inr ⟨(fun v h=>by cases h),_,_,_,rfl⟩⟩
theorem YS {l:az} (h: ∀v,Lib.atoiAll l≠ .ok v):pq l=none:=by
 cases hn:pq l with
 |none=>rfl
 |some v=>
  have h4:=(EI hn).2
  have:=Lib.atoiAll_short l (by omega)
  rw[Ee hn] at this
  exact absurd this (h v)
theorem FW {l:az} {v n:Int} (h:Lib.atoiAll l= .ok v) (hn:pq l=some n):v=n:=by
 have h4:=(EI hn).2
 have:=Lib.atoiAll_short l (by omega)
 rw[Ee hn,h] at this
 injection this
def akQ (l:az) (w:World) (e:Ending) (w':World):Prop:=Below w.heap.size w w'/\ ∃v,e= .returned (.tuple #[iv v,.bool (pq l).isSome])/\ ∀n,pq l=some n->v=n
theorem QP (l:az) (w:World) (hE:Env w) (hl:l.length<=1000):Calls Tryz.prog 100 #[.string (gI l)] w (akQ l w):=by
 have hs:(gI l).size=l.length:=by simp[gI,ByteArray.size]
 have HA:=ae (aaf l w hE hl)
 have HE:=ae hE
 clear hE
 go_enter Tryz.func100,Tryz.ntmps100
 go_wp2_with fail
 refine HA.o.mono ?_
 rintro e w1 ⟨hb,⟨v,hv,rfl⟩|⟨hno,v,t,p,rfl⟩⟩
 ·have HB:=ae hb
  have HV:=ae hv
  clear hb hv
  by_cases h0:0<=v
  ·by_cases h4:l.length<=4
   ·have h5:(l.length:Int)<=4:=by omega
    go_wp2_with fail
    refine(Go.Proofs.Tryz.strconv_Itoa v (by omega) (by have:=(Lib.atoiAll_bounds HV.o).2;omega) w1 (Un (HE.o.below HB.o (ai _)) (by kernel_rfl))).mono ?_
    rintro e w2 ⟨rfl,k,os,rfl⟩
    have HG:=ae (Gy w1 k os)
    obtain⟨w3,hw3⟩: ∃w3,w3=Go.Sort.grow (w1.drewN k) os:=⟨_,rfl⟩
    rw[<-hw3] at HG⊢
    clear hw3
    go_wp2_with fail
    go_returns
    refine⟨bn HB.o HG.o,v,?_,fun n hn=>FW HV.o hn⟩
    by_cases he:Lib.itoa v=l
    ·rw[NH h0 h4 he];simp[he]
    ·have hn:pq l=none:=by
      cases hn:pq l with
      |none=>rfl
      |some n=>exact absurd (FW HV.o hn▸Y5 hn) he
     rw[hn]
     have:(Lib.itoa v==l)=false:=by simpa using he
     simp[this]
   ·have h5: ¬(l.length:Int)<=4:=by omega
    go_wp2_with fail
    go_returns
    refine⟨HB.o,v,?_,fun n hn=>FW HV.o hn⟩
    have hn:pq l=none:=by
     cases hn:pq l with
     |none=>rfl
     |some n=>exact absurd (EI hn).2 h4
    rw[hn];simp
  ·go_wp2_with fail
   go_returns
   refine⟨HB.o,v,?_,fun n hn=>FW HV.o hn⟩
   have hn:pq l=none:=by
    cases hn:pq l with
    |none=>rfl
    |some n=>have h1:=FW HV.o hn;have h2:=(KN hn).1;omega
   rw[hn];simp
 ·have HB:=ae hb
  have HN:=ae (YS hno)
  clear hb hno
  go_wp2_with fail
  go_returns
  exact⟨HB.o,v,by rw[HN.o];simp,fun n hn=>by rw[HN.o] at hn;cases hn⟩
theorem Kw: ∀l:az,Lib.splitK [32] 0 (Lib.count l [32]) l=iJ l:=by
 intro l
 induction l with
 |nil=>rfl
 |cons c l ih=>
  by_cases hc:c=32
  ·subst hc
   rw[Lib.count_cons_eq,Nat.add_comm,Lib.splitK,Lib.index_one,Lib.indexByte,iJ,aF rfl]
   simp[ih]
  ·rw[Lib.count_cons_ne c 32 l hc,iJ,aj hc]
   cases hk:Lib.count l [32] with
   |zero=>
    rw[hk] at ih
    rw[<-ih]
    rfl
   |succ k=>
    rw[hk] at ih
    have hb:(c==32)=false:=by simpa using hc
    have hi:Lib.index l [32]≠ -1:=fun h=>by have:=Lib.count_miss h;omega
    have hge:=Lib.index_ge l [32]
    obtain⟨i,hi2⟩: ∃i:Nat,Lib.index l [32]=i:=⟨(Lib.index l [32]).toNat,by omega⟩
    have e1:(Lib.index l [32]== -1)=false:=by simpa using hi
    have hj:Lib.index (c::l) [32]=(i:Int)+1:=by
     rw[Lib.index_one,Lib.indexByte,hb, <-Lib.index_one,e1,hi2];rfl
    have e2:(Lib.index (c::l) [32]== -1)=false:=by rw[hj];simp;omega
    rw[Lib.splitK,e1] at ih
    rw[Lib.splitK,e2]
    simp only[Bool.false_eq_true,if_false,Nat.add_zero,List.length_singleton] at ih⊢
    rw[<-ih,hj,hi2]
    have h1:((i:Int)+1).toNat=i+1:=by omega
    rw[h1]
    simp
theorem Dj (l:az):(Lib.splitB ⟨#[32]⟩ 0 (Lib.countB (gI l) ⟨#[32]⟩) (gI l)).map (·.data.toList)=iJ l:=by
 rw[Lib.splitB_data]
 exact Kw l
abbrev cZ (ps:List az):List Value:=ps.map fun p=> .string (gI p)
abbrev iU (w:World) (v:Value) (ps:List az):Prop:=aN 1 w v ps.length (cZ ps)
theorem WT (s:ByteArray):gI s.data.toList=s:=by cases s;simp[gI]
theorem U2 (l:az) (w:World) (hE:Env w) (hl:l.length<=1000):Calls Tryz.prog 97 #[.string (gI l),.string ⟨#[32]⟩] w
 (fun e w'=> ∃n,n=(iJ l).length/\e= .returned (.slice (some ⟨w.heap.size,0,none⟩) n n)/\w'=w.alloc (.cells (cZ (iJ l)).toArray 9)):=by
 obtain⟨m,hm,_⟩:=hE.len
 have hs:(gI l).size=l.length:=by simp[gI,ByteArray.size]
 have hlen:=Lib.splitB_all ⟨#[32]⟩ (by decide) 0 _ (gI l) rfl
 refine(Go.Proofs.Tryz.strings_Split (gI l) ⟨#[32]⟩ m w (by rw[hs];omega) hm (by decide)).mono ?_
 rintro e w' ⟨rfl,rfl⟩
 refine⟨_,?_,rfl,?_⟩
 ·rw[<-Dj,lX,hlen]
 ·rw[<-Dj]
  congr 3
  unfold cZ
  rw[List.map_map]
  apply List.map_congr_left
  intro x _
  simp only[Function.comp,WT]
theorem catch_idle (x y z:Addr) (w:World):
 CallsD Tryz.prog 96 #[.pointer (some x),.pointer (some y),.pointer (some z)] .returning w fun e u' w'=>e= .returned (.tuple #[])/\u'= .returning/\w'=w:=by
 refine callsD_of_wpS Tryz.func96 rfl fun c₀ cs hu=>?_
 apply wpS_seq
 apply wpS_region
 simp[wpOpsS,go_sem,recoverD,hu,Tryz.ntmps96,Exit.thenS]
 refine wpS_of_wp ?_
 go_wp2
 cases c₀
 simp_all [bodyPostS,results,Tryz.results96]
theorem zA {P:Program} {o:Oper} {ρ:Operand->Value} {w:World} (ty:TypeId) (x:Operand) (ho:o.op= .load ty x)
 (g:Nat) (hx:ρ x= .pointer (some ⟨g,0,none⟩)) (t:TypeId) (cs:Array Value) (fr:Nat×Nat) (d:TypeDesc) (hg:w.heap[g]? =some (.cells cs t fr))
 (hu:P.underlying ty=some d) (hd:(match d with| .struct _| .array _ _=>true|_=>false)=true) (hi:(P.info? ty).map (·.size)=some cs.size):(execOp ρ o).run P w= .ok (.value (.agg cs)) w:=by
 unfold execOp
 simp only[ho,hx,Instr.loadAt,Instr.sureAddr,Sem.run_bind,Sem.run_pure,Result.andThen_ok,run_loadVar_row w g t ty cs fr d hg hu hd hi]
theorem yc {P:Program} {o:Oper} {ρ:Operand->Value} {w:World} (ty:TypeId) (x y:Operand) (ho:o.op= .store ty x y)
 (g:Nat) (cells:Array Value) (hx:ρ x= .pointer (some ⟨g,0,none⟩)) (hy:ρ y= .agg cells)
 (t:TypeId) (old:Array Value) (hg:w.heap[g]? =some (.cells old t (0,0))) (hi:(P.info? ty).map (·.size)=some cells.size)
 (hold:old.size=cells.size) (h1:cells.all (·.oneCell')=true):(execOp ρ o).run P w= .ok .skip (w.setRow g cells):=by
 unfold execOp
 simp only[ho,hx,hy,Instr.storeAt,Instr.sureAddr,Sem.run_bind,Sem.run_pure,Result.andThen_ok,run_storeVar_row w g t ty old cells hg hi hold h1]
theorem vN {P:Program} {o:Oper} {ρ:Operand->Value} {W W':World} {R:Value->World->Prop} (he:(execOp ρ o).run P W= .ok .skip W') (h:R undef W'):Does P o ρ W R:=by
 unfold Does;rw[he];exact h
theorem G9 (v:Value) (w:World):(Instr.typeAssert (.iface 214 v) 20 214 true).run Tryz.prog w= .ok (.tuple #[v,.bool true]) w:=by
 have hu:Tryz.prog.underlying 214=_:=Tryz.underlying214
 simp[Instr.typeAssert,run_underlying hu,go_sem]
theorem IK (bs ba be:Nat) (S:Array Value) (A:Array Value) (ec:Value) (code:Int) (w:World) (hS:w.heap[bs]? =some (.cells S 62 (0,0))) (hA:w.heap[ba]? =some (.cells A 62 (0,0))) (hE:w.heap[be]? =some (.cells #[ec] 26 (0,0)))
 (hsz:S.size=22) (hsa:A.size=22) (h1:bs≠ba) (h2:bs≠be) (h3:ba≠be) (hone: ∀u∈S.toList,u.oneCell'=true):
 CallsD Tryz.prog 96 #[.pointer (some ⟨bs,0,none⟩),.pointer (some ⟨ba,0,none⟩),.pointer (some ⟨be,0,none⟩)] (.panicking (kz code)) w fun e u' w'=>
  e= .returned (.tuple #[])/\u'= .panicking [{v:= .iface 214 (.agg #[iv code]),recovered:=true}]/\Ext [ba,be] w w'/\w'.heap[ba]? =some (.cells S 62 (0,0))/\w'.heap[be]? =some (.cells #[iv code] 26 (0,0)):=by
 refine callsD_of_wpS Tryz.func96 rfl fun c₀ cs hu=>?_
 apply wpS_seq
 apply wpS_region
 have hta:=G9 (.agg #[iv code]) w
 obtain⟨cS,fS,lS⟩:=af hS
 obtain⟨cA,fA,lA⟩:=af hA
 obtain⟨cE,fE,lE⟩:=af hE
 simp[wpOpsS,go_sem,recoverD,hu,Tryz.ntmps96,Exit.thenS]
 refine wpS_of_wp ?_
 simp only[Array.replicate_succ,Array.replicate_zero,kG,kH,List.nil_append,List.cons_append,qY,List.set_cons_succ,List.set_cons_zero]
 go_wp2
 refine dM fun W1 hW1=>?_
 have k1:W1.heap[w.heap.size]? =some (.cells #[iv code] 214 (0,0)):=by rw[hW1];exact ay _ _
 have kS:W1.heap[bs]? =some (.cells S 62 (0,0)):=by rw[hW1];exact(heap_alloc_old _ _ lS).trans hS
 have kA:W1.heap[ba]? =some (.cells A 62 (0,0)):=by rw[hW1];exact(heap_alloc_old _ _ lA).trans hA
 have kE:W1.heap[be]? =some (.cells #[ec] 26 (0,0)):=by rw[hW1];exact(heap_alloc_old _ _ lE).trans hE
 have hB1:Ext [] w W1:=by rw[hW1];exact Ext.aA (ak (aH _ _) _)
 have hw1:w.heap.size<W1.heap.size:=(aS.1 k1).1
 obtain⟨d1,g1,m1⟩:=af k1
 have hne1:ba≠w.heap.size:=by omega
 have hne2:w.heap.size≠ba:=by omega
 clear hW1 hta cS fS cA fA cE fE
 refine zg 4 [ba] (some 3) [(3,⟨fun _ v=>v=undef,fun _ _ Wx=>Wx.heap[ba]? =some (.cells S 62 (0,0))⟩)] ?_
 simp only[zt]
 refine iE (by rfl) (.agg S) (by rfl) (fun W hE hF=>?_) ?_
 ·have hs:=(hE.block bs (by omega) (by simpa using h1)).trans kS
  exact zA _ _ rfl bs rfl _ _ _ _ hs Tryz.underlying62 rfl (by rw[hsz];kernel_rfl)
 simp only[zp]
 repeat ((first|refine zd ?_|refine zk ?_);simp only[zp])
 refine bG _ (by rfl) (by rfl) ⟨_,rfl⟩ (fun W hE hF=>?_) (fun v Wa Wb ho hE=>?_) (fun v hv=>?_)
 ·have hE':Ext [] W1 W:=hE
  have ha:=(hE'.block ba (by omega) (by simp)).trans kA
  refine vN (W':=W.setRow ba S) (yc _ _ _ rfl ba S rfl rfl _ _ ha (by rw[hsz];kernel_rfl) (by rw[hsz,hsa]) (by rw[oz];exact fun u hu=>hone u (pK.2 hu))) ⟨rfl,setRow_heap W ba A S _ _ ha,?_⟩
  exact(show Ext [ba] W (W.setRow ba S) from gB)
 ·have hE':Ext [] Wa Wb:=hE
  have ho':Wa.heap[ba]? =some (.cells S 62 (0,0)):=ho
  exact(hE'.block ba (aS.1 ho').1 (by simp)).trans ho'
 obtain rfl:v=undef:=hv
 simp only[zp]
 intro W hE hF
 have hx:W.heap[ba]? =some (.cells S 62 (0,0)):=hF _ (bF _)
 have hE':Ext [ba] W1 W:=hE
 have he:=(hE'.block be (by omega) (by simpa using fun e=>h3 e.symm)).trans kE
 obtain⟨d2,g2,m2⟩:=af he
 have d20:=d2 0
 simp at d20
 have HX:=ae (ag hx (ag hE' he))
 clear hE hF hx hE' he d1 g1 d2
 go_wp2
 refine⟨rfl,_,rfl,.tuple #[],by simp[results,Tryz.results96],rfl,rfl,?_,?_,?_⟩
 ·exact(Ext.nil hB1).trans ((HX.o.2.1.more (by simp)).trans (gz.more (by simp)))
 ·exact(heap_setCell_other W ⟨be,0,none⟩ ba _ h3).trans HX.o.1
 ·exact aI HX.o.2.2 _
structure Hw (B:Nat) (w w':World):Prop where
 ext:uz B [] w w'
 maps: ∀(k:Nat) es cl,w.heap[k]? =some (.map es cl)->w'.heap[k]? =some (.map es cl)
theorem Hw.vY {B:Nat} {w w':World} (h:Ext [] w w'):Hw B w w':=⟨uz.vY h,fun k es cl hk=>(h.block k (aS.1 hk).1 (by simp)).trans hk⟩
theorem U7 (B:Nat):Hg (Ext []) (Hw B):=⟨Ext.refl [],Ext.trans,fun h k=>⟨h.ext.trans k.ext,fun i es cl hi=>k.maps i es cl (h.maps i es cl hi)⟩,Hw.vY⟩
instance (W0:World):Kept (Hw W0.heap.size) [] W0:=⟨Hw.vY,fun h=>⟨h.ext.os,h.ext.tape,h.ext.output,h.ext.size,fun k hk hm=>h.ext.block k hk hk hm⟩⟩
structure Fr (bs:Nat) (S:Array Value) (W:World):Prop where
 s:W.heap[bs]? =some (.cells S 62 (0,0))
 a: ∃A,W.heap[bs+1]? =some (.cells A 62 (0,0))/\A.size=22
 e: ∃ec,W.heap[bs+2]? =some (.cells #[ec] 26 (0,0))
theorem Fr.below {bs:Nat} {S:Array Value} {w W:World} (h:Fr bs S w) {B:Nat} (hb:Below B w W) (hB:bs+2<B):Fr bs S W:=by
 obtain⟨A,h1,h2⟩:=h.a
 obtain⟨ec,h3⟩:=h.e
 exact⟨(hb.block _ (by omega)).trans h.s,⟨A,(hb.block _ (by omega)).trans h1,h2⟩,⟨ec,(hb.block _ (by omega)).trans h3⟩⟩
theorem Gf {bs:Nat} {S:Array Value} (hsz:S.size=22) (hone: ∀u∈S.toList,u.oneCell'=true) {W:World} (hF:Fr bs S W) (code:Int) (tmps:Array Value) (R:Ending->World->Prop)
 (h4:tmps.getD 4 undef= .pointer (some ⟨bs+1,0,none⟩)) (h5:tmps.getD 5 undef= .pointer (some ⟨bs+2,0,none⟩))
 (hR: ∀W',Ext [bs+1,bs+2] W W'->R (.returned (.tuple #[.agg S,iv code])) W'):
 Leaves Tryz.prog Tryz.f55 tmps R [{target:= .fn (.func 96) #[.pointer (some ⟨bs,0,none⟩),.pointer (some ⟨bs+1,0,none⟩),.pointer (some ⟨bs+2,0,none⟩)],args:= #[]}] (.panicking (kz code)) W:=by
 obtain⟨A,hA,hAs⟩:=hF.a
 obtain⟨ec,hE⟩:=hF.e
 refine leaves_cons (f:=96) (args:= #[.pointer (some ⟨bs,0,none⟩),.pointer (some ⟨bs+1,0,none⟩),.pointer (some ⟨bs+2,0,none⟩)]) (by simp) (by simp[go_sem]) ?_
 refine(IK bs (bs+1) (bs+2) S A ec code W hF.s hA hE hsz hAs (by omega) (by omega) (by omega) hone).mono ?_
 rintro e u' w'' ⟨rfl,rfl,Ul,hA',hE'⟩
 have hr:(results Tryz.f55 tmps).run Tryz.prog w''= .ok (.tuple #[.agg S,iv code]) w'':=by
  have q1:=run_loadVar_row (P:=Tryz.prog) w'' (bs+1) 62 62 S (0,0) _ hA' Tryz.underlying62 rfl (by rw[hsz];kernel_rfl)
  obtain⟨ce,fe,le⟩:=af hE'
  have c0:=ce 0
  simp only[Ae] at h4 h5
  simp[results,Tryz.results55,h4,h5,asAddr,q1]
  simp[go_sem,c0]
 show Leaves _ _ _ _ [] .returning w''
 exact⟨_,hr,hR w'' Ul⟩
theorem NP {bs:Nat} {S':Array Value} (hsz:S'.size=22) {W:World} (hA:W.heap[bs+1]? =some (.cells S' 62 (0,0))) (hE:W.heap[bs+2]? =some (.cells #[iv 0] 26 (0,0))) (tmps:Array Value) (R:Ending->World->Prop)
 (h4:tmps.getD 4 undef= .pointer (some ⟨bs+1,0,none⟩)) (h5:tmps.getD 5 undef= .pointer (some ⟨bs+2,0,none⟩))
 (hR:R (.returned (.tuple #[.agg S',iv 0])) W):
 Leaves Tryz.prog Tryz.f55 tmps R [{target:= .fn (.func 96) #[.pointer (some ⟨bs,0,none⟩),.pointer (some ⟨bs+1,0,none⟩),.pointer (some ⟨bs+2,0,none⟩)],args:= #[]}] .returning W:=by
 refine leaves_cons (f:=96) (args:= #[.pointer (some ⟨bs,0,none⟩),.pointer (some ⟨bs+1,0,none⟩),.pointer (some ⟨bs+2,0,none⟩)]) (by simp) (by simp[go_sem]) ?_
 refine(catch_idle ⟨bs,0,none⟩ ⟨bs+1,0,none⟩ ⟨bs+2,0,none⟩ W).mono ?_
 rintro e u' w'' ⟨rfl,rfl,rfl⟩
 have hr:(results Tryz.f55 tmps).run Tryz.prog w''= .ok (.tuple #[.agg S',iv 0]) w'':=by
  have q1:=run_loadVar_row (P:=Tryz.prog) w'' (bs+1) 62 62 S' (0,0) _ hA Tryz.underlying62 rfl (by rw[hsz];kernel_rfl)
  obtain⟨ce,fe,le⟩:=af hE
  have c0:=ce 0
  simp only[Ae] at h4 h5
  simp[results,Tryz.results55,h4,h5,asAddr,q1]
  simp[go_sem,c0]
 show Leaves _ _ _ _ [] .returning w''
 exact⟨_,hr,hR⟩
theorem RQ (c:lh) (args:Array Value) (w:World):(callFunc (gQ c) args).run Tryz.prog w= .ok (.enter (gQ c) args) w:=by
 cases c
 ·exact enters_of Tryz.func153 (by kernel_rfl) rfl args w
 ·exact enters_of Tryz.func154 (by kernel_rfl) rfl args w
 ·exact enters_of Tryz.func155 (by kernel_rfl) rfl args w
 ·exact enters_of Tryz.func156 (by kernel_rfl) rfl args w
 ·exact enters_of Tryz.func157 (by kernel_rfl) rfl args w
 ·exact enters_of Tryz.func158 (by kernel_rfl) rfl args w
 ·exact enters_of Tryz.func159 (by kernel_rfl) rfl args w
 ·exact enters_of Tryz.func160 (by kernel_rfl) rfl args w
 ·exact enters_of Tryz.func161 (by kernel_rfl) rfl args w
 ·exact enters_of Tryz.func162 (by kernel_rfl) rfl args w
 ·exact enters_of Tryz.func163 (by kernel_rfl) rfl args w
 ·exact enters_of Tryz.func164 (by kernel_rfl) rfl args w
 ·exact enters_of Tryz.func165 (by kernel_rfl) rfl args w
 ·exact enters_of Tryz.func166 (by kernel_rfl) rfl args w
 ·exact enters_of Tryz.func167 (by kernel_rfl) rfl args w
 ·exact enters_of Tryz.func168 (by kernel_rfl) rfl args w
 ·exact enters_of Tryz.func169 (by kernel_rfl) rfl args w
 ·exact enters_of Tryz.func170 (by kernel_rfl) rfl args w
 ·exact enters_of Tryz.func171 (by kernel_rfl) rfl args w
 ·exact enters_of Tryz.func172 (by kernel_rfl) rfl args w
 ·exact enters_of Tryz.func173 (by kernel_rfl) rfl args w
theorem ace (c:lh) (n:List Int) (hn:n.length=c.many) (hb: ∀x∈n,0<=x/\x<=9999) (N:Nat) (w:World) (wb:Nat) (s:jJ) (V:SV) (es:List KE) (ns:Value) (hO:jO N w wb s V es) (hns:n≠[]->rQ N w ns n) (hG:fP s):
 Calls Tryz.prog (gQ c) #[.pointer (some ⟨wb,0,none⟩),ns] w (ru N wb (jc s c n) w):=by
 cases c
 ·have:n=[]:=ku hn
  subst this
  exact aba N w wb s V es ns hO hG
 ·obtain⟨a,b,rfl⟩: ∃a b,n=[a,b]:=by
   simp only[lh.many] at hn
   match n,hn with
   |[a,b],_=>exact⟨a,b,rfl⟩
  have h:=hns (by simp)
  exact Y1 N w wb s V es ns a b hO h
 ·obtain⟨a,b,d,e,f,rfl⟩: ∃a b d e f,n=[a,b,d,e,f]:=by
   simp only[lh.many] at hn
   match n,hn with
   |[a,b,d,e,f],_=>exact⟨a,b,d,e,f,rfl⟩
  have h:=hns (by simp)
  exact yG N w wb s V es ns a b d e f hO h hG
 ·obtain⟨a,b,d,rfl⟩: ∃a b d,n=[a,b,d]:=by
   simp only[lh.many] at hn
   match n,hn with
   |[a,b,d],_=>exact⟨a,b,d,rfl⟩
  have h:=hns (by simp)
  obtain⟨a',rfl⟩: ∃k:Nat,a=k:=⟨a.toNat,by have:=hb a (by simp);omega⟩
  exact XW N w wb s V es ns a' b d hO h
 ·obtain⟨a,rfl⟩: ∃a,n=[a]:=by
   simp only[lh.many] at hn
   match n,hn with
   |[a],_=>exact⟨a,rfl⟩
  have h:=hns (by simp)
  obtain⟨a',rfl⟩: ∃k:Nat,a=k:=⟨a.toNat,by have:=hb a (by simp);omega⟩
  exact MN N w wb s V es ns a' hO h hG
 ·obtain⟨a,rfl⟩: ∃a,n=[a]:=by
   simp only[lh.many] at hn
   match n,hn with
   |[a],_=>exact⟨a,rfl⟩
  have h:=hns (by simp)
  exact Yq N w wb s V es ns a hO h
 ·obtain⟨a,b,rfl⟩: ∃a b,n=[a,b]:=by
   simp only[lh.many] at hn
   match n,hn with
   |[a,b],_=>exact⟨a,b,rfl⟩
  have h:=hns (by simp)
  exact ab8 N w wb s V es ns a b hO h
 ·obtain⟨a,b,d,rfl⟩: ∃a b d,n=[a,b,d]:=by
   simp only[lh.many] at hn
   match n,hn with
   |[a,b,d],_=>exact⟨a,b,d,rfl⟩
  have h:=hns (by simp)
  exact note_any N w wb s V es ns a b d hO h hG
 ·obtain⟨a,rfl⟩: ∃a,n=[a]:=by
   simp only[lh.many] at hn
   match n,hn with
   |[a],_=>exact⟨a,rfl⟩
  have h:=hns (by simp)
  obtain⟨a',rfl⟩: ∃k:Nat,a=k:=⟨a.toNat,by have:=hb a (by simp);omega⟩
  exact XX N w wb s V es ns a' hO h hG
 ·obtain⟨a,b,rfl⟩: ∃a b,n=[a,b]:=by
   simp only[lh.many] at hn
   match n,hn with
   |[a,b],_=>exact⟨a,b,rfl⟩
  have h:=hns (by simp)
  exact UZ N w wb s V es ns a b hO h ((hb a (by simp)))
 ·obtain⟨a,b,d,rfl⟩: ∃a b d,n=[a,b,d]:=by
   simp only[lh.many] at hn
   match n,hn with
   |[a,b,d],_=>exact⟨a,b,d,rfl⟩
  have h:=hns (by simp)
  obtain⟨a',rfl⟩: ∃k:Nat,a=k:=⟨a.toNat,by have:=hb a (by simp);omega⟩
  exact J8 N w wb s V es ns a' b d hO h hG ((hb b (by simp)))
 ·obtain⟨a,rfl⟩: ∃a,n=[a]:=by
   simp only[lh.many] at hn
   match n,hn with
   |[a],_=>exact⟨a,rfl⟩
  have h:=hns (by simp)
  exact XZ N w wb s V es ns a hO h hG ((hb a (by simp)).1)
 ·obtain⟨a,rfl⟩: ∃a,n=[a]:=by
   simp only[lh.many] at hn
   match n,hn with
   |[a],_=>exact⟨a,rfl⟩
  have h:=hns (by simp)
  exact Qe N w wb s V es ns a hO h hG
 ·obtain⟨a,b,d,rfl⟩: ∃a b d,n=[a,b,d]:=by
   simp only[lh.many] at hn
   match n,hn with
   |[a,b,d],_=>exact⟨a,b,d,rfl⟩
  have h:=hns (by simp)
  exact Y6 N w wb s V es ns a b d hO h hG
 ·obtain⟨a,rfl⟩: ∃a,n=[a]:=by
   simp only[lh.many] at hn
   match n,hn with
   |[a],_=>exact⟨a,rfl⟩
  have h:=hns (by simp)
  obtain⟨a',rfl⟩: ∃k:Nat,a=k:=⟨a.toNat,by have:=hb a (by simp);omega⟩
  exact Qg N w wb s V es ns a' hO h hG
 ·obtain⟨a,b,rfl⟩: ∃a b,n=[a,b]:=by
   simp only[lh.many] at hn
   match n,hn with
   |[a,b],_=>exact⟨a,b,rfl⟩
  have h:=hns (by simp)
  exact Zx N w wb s V es ns a b hO h hG ((hb a (by simp)))
 ·obtain⟨a,b,d,rfl⟩: ∃a b d,n=[a,b,d]:=by
   simp only[lh.many] at hn
   match n,hn with
   |[a,b,d],_=>exact⟨a,b,d,rfl⟩
  have h:=hns (by simp)
  obtain⟨a',rfl⟩: ∃k:Nat,a=k:=⟨a.toNat,by have:=hb a (by simp);omega⟩
  exact sK N w wb s V es ns a' b d hO h ((hb b (by simp)))
 ·obtain⟨a,b,rfl⟩: ∃a b,n=[a,b]:=by
   simp only[lh.many] at hn
   match n,hn with
   |[a,b],_=>exact⟨a,b,rfl⟩
  have h:=hns (by simp)
  obtain⟨a',rfl⟩: ∃k:Nat,a=k:=⟨a.toNat,by have:=hb a (by simp);omega⟩
  exact aac N w wb s V es ns a' b hO h hG
 ·obtain⟨a,b,d,rfl⟩: ∃a b d,n=[a,b,d]:=by
   simp only[lh.many] at hn
   match n,hn with
   |[a,b,d],_=>exact⟨a,b,d,rfl⟩
  have h:=hns (by simp)
  obtain⟨a',rfl⟩: ∃k:Nat,a=k:=⟨a.toNat,by have:=hb a (by simp);omega⟩
  obtain⟨b',rfl⟩: ∃k:Nat,b=k:=⟨b.toNat,by have:=hb b (by simp);omega⟩
  exact ZM N w wb s V es ns a' b' d hO h hG
 ·obtain⟨a,b,d,rfl⟩: ∃a b d,n=[a,b,d]:=by
   simp only[lh.many] at hn
   match n,hn with
   |[a,b,d],_=>exact⟨a,b,d,rfl⟩
  have h:=hns (by simp)
  exact try_any N w wb s V es ns a b d hO h hG ⟨(hb a (by simp)),(hb b (by simp))⟩
 ·obtain⟨a,rfl⟩: ∃a,n=[a]:=by
   simp only[lh.many] at hn
   match n,hn with
   |[a],_=>exact⟨a,rfl⟩
  have h:=hns (by simp)
  obtain⟨a',rfl⟩: ∃k:Nat,a=k:=⟨a.toNat,by have:=hb a (by simp);omega⟩
  exact UO N w wb s V es ns a' hO h hG
theorem UK: ∀l:az,(iJ l).length<=l.length+1:=by
 intro l
 induction l with
 |nil=>simp[iJ]
 |cons c l ih=>
  rw[iJ]
  split
  ·simp;omega
  ·have:=yD l
   cases h:iJ l with
   |nil=>exact absurd h this
   |cons x ps=>rw[h] at ih;simp at ih⊢;omega
theorem aP {P:Program} {w w':World} {ops:Array Oper} {rest:List Oper} {o:Oper} {a:Act} {Q:Exit->Act->World->Prop} (hg:o.guard=none) (v:Value) (h:(execOp a.eval o).run P w= .ok (.value v) w') (hK:wpList P ops Q rest (a.put o.dst v) w'):wpList P ops Q (o::rest) a w:=by
 refine wpList_plain hg fun K hK'=>?_
 exact yP (R:=fun v1 w1=>v1=v/\w1=w') (jg v h ⟨rfl,rfl⟩) fun v1 w1 ⟨h1,h2⟩=>by rw[h1,h2];exact hK' _ _ hK
theorem kM {P:Program} {ops:Array Oper} {l:List Oper} {Q:Exit->Act->World->Prop} {a:Act} {W:World} (h: ∀W',W'=W->wpList P ops Q l a W'):wpList P ops Q l a W:=h W rfl
theorem XT: ∀(l:az) (p:az),p∈iJ l->p.length<=l.length:=by
 intro l
 induction l with
 |nil=>intro p h;simp[iJ] at h;subst h;simp
 |cons c l ih=>
  intro p h
  rw[iJ] at h
  split at h
  ·rcases ig.1 h with rfl|h
   ·simp
   ·have:=ih p h;simp;omega
  ·cases hw:iJ l with
   |nil=>exact absurd hw (yD l)
   |cons x ps=>
    rw[hw] at h
    simp only[List.headD_cons,List.tail_cons] at h
    rcases ig.1 h with rfl|h
    ·have:=ih x (by rw[hw];simp);simp;omega
    ·have:=ih p (by rw[hw];simp[h]);simp;omega
theorem QO: ∀(ps:List az) (p:az) (ns:List Int) (n:Int),nK ps=some ns->pq p=some n->nK (ps++[p])=some (ns++[n]):=by
 intro ps
 induction ps with
 |nil=>intro p ns n h1 h2;obtain rfl:=jy h1;simp[nK,h2]
 |cons q ps ih=>
  intro p ns n h1 h2
  unfold nK at h1
  cases hq:pq q with
  |none=>rw[hq] at h1;cases h1
  |some x=>
   cases hs:nK ps with
   |none=>rw[hq,hs] at h1;cases h1
   |some y=>
    rw[hq,hs] at h1
    obtain rfl:=jy h1
    rw[List.cons_append,nK,hq,ih p y n hs h2]
    rfl
theorem Vq: ∀(ps:List az) (i:Nat) (p:az),ps[i]? =some p->pq p=none->nK ps=none:=by
 intro ps
 induction ps with
 |nil=>intro i p h;cases h
 |cons q ps ih=>
  intro i p h hn
  cases i with
  |zero=>
   simp only[List.getElem?_cons_zero,Option.some.injEq] at h
   subst h
   rw[nK,hn];rfl
  |succ i=>
   rw[nK,ih i p (by simpa using h) hn]
   cases pq q <;>rfl
def PDo (Ms:List Nat) (s:jJ) (l:az) (w:World) (e:Ending) (w':World):Prop:=
 Below w.heap.size w w'/\ ∃V es,e= .returned (.tuple #[.agg (dR (wW bH s l).1 V),iv (wW bH s l).2])/\pM w' (wW bH s l).1 V es/\ ∀W',Ext Ms w' W'->pM W' (wW bH s l).1 V es
theorem jd {w:World} {s:jJ} {V:SV} {es:List KE} (h:pM w s V es): ∀u∈(dR s V).toList,u.oneCell'=true:=by
 obtain⟨o1,c1,h1⟩:=aN.open h.xn
 obtain⟨o2,c2,h2⟩:=aN.open h.Vr
 obtain⟨o3,c3,h3⟩:=aN.open h.bW
 obtain⟨o4,c4,h4⟩:=aN.open h.Ih
 obtain⟨o5,c5,h5⟩:=aN.open h.PR
 obtain⟨o6,c6,h6⟩:=aN.open h.dw.heaps
 obtain⟨o7,c7,h7⟩:=aN.open h.dw.aU.1
 obtain⟨o8,c8,h8⟩:=aN.open h.dw.aJ
 simp[dR,h1,h2,h3,h4,h5,h6,h7,h8,Value.oneCell']
theorem aei (s:jJ) (V:SV) (es:List KE) (l:az) (w:World) (hS:pM w s V es) (hG:fP s) (hE:Env w) (hl:l.length<=1000) (Ms:List Nat) (hMs: ∀m∈Ms,m<w.heap.size) (hSM: ∀W',Ext Ms w W'->pM W' s V es):Calls Tryz.prog 55 #[.agg (dR s V),.string (gI l)] w (PDo Ms s l w):=by
 obtain⟨vt,vn,vw,vu,vr,vh,vk,vs⟩:=V
 have HS:Hid (∀W,Below w.heap.size w W->pM W s ⟨vt,vn,vw,vu,vr,vh,vk,vs⟩ es):=ae (fun W hb=>hS.below hb (ai _))
 have HE:Hid (∀W,Below w.heap.size w W->Env W):=ae (fun W hb=>hE.below hb (ai _))
 have HG:=ae hG
 have apm:=ae (jd hS)
 have aay:Hid (∀(code:Int),wW bH s l=(s,code)-> ∀W,Below w.heap.size w W->Fr w.heap.size (dR s ⟨vt,vn,vw,vu,vr,vh,vk,vs⟩) W-> ∀tmps:Array Value,tmps.getD 4 undef= .pointer (some ⟨w.heap.size+1,0,none⟩)->tmps.getD 5 undef= .pointer (some ⟨w.heap.size+2,0,none⟩)->
  Leaves Tryz.prog Tryz.f55 tmps (PDo Ms s l w) [{target:= .fn (.func 96) #[.pointer (some ⟨w.heap.size,0,none⟩),.pointer (some ⟨w.heap.size+1,0,none⟩),.pointer (some ⟨w.heap.size+2,0,none⟩)],args:= #[]}] (.panicking (kz code)) W):=ae (by
  intro code hd W hb hF tmps h4 h5
  refine Gf rfl (jd hS) hF code tmps _ h4 h5 (fun W' Ul=>?_)
  have hb':Below w.heap.size w W':=hb.trans ⟨Ul.os,Ul.tape,Ul.output,Ul.size,fun k hk=>Ul.block k (by have:=hb.size;omega) (by simp;omega)⟩
  refine⟨hb',⟨vt,vn,vw,vu,vr,vh,vk,vs⟩,es,?_,?_,fun W'' hE'=>?_⟩
  ·rw[hd]
  ·rw[hd];exact hS.below hb' (ai _)
  ·rw[hd];exact hSM W'' ((Ext.aA hb').trans hE'))
 have HMS:=ae hMs
 clear hS hE hG hMs hSM
 go_enter_defers Tryz.func55,Tryz.ntmps55
 go_upto_region 2 with(fail)
 refine dM fun W0 hW0=>?_
 have hF0:Fr w.heap.size (dR s ⟨vt,vn,vw,vu,vr,vh,vk,vs⟩) W0:=by
  rw[hW0]
  refine⟨?_,?_,?_⟩
  ·exact(heap_alloc_old _ _ (by simp;omega)).trans ((heap_alloc_old _ _ (by simp)).trans (ay _ _))
  ·exact⟨_,(heap_alloc_old _ _ (by simp)).trans (dU _ _ _),rfl⟩
  ·exact⟨_,iw _ _ _ _⟩
 have HB0:=ae (show Below w.heap.size w W0 from by rw[hW0];exact ak (ak (ak (aH _ _) _) _) _)
 have hs0:w.heap.size+3<=W0.heap.size:=by rw[hW0];simp
 have Xy:=ae hF0
 clear hW0 hF0
 go_wp2_with fail
 refine(U2 l W0 (HE.o _ HB0.o) hl).mono ?_
 rintro e W1 ⟨np,hnp,rfl,hW1⟩
 have HB1:=ae (show Below w.heap.size w W1 from by rw[hW1];exact ak HB0.o _)
 have HF1:=ae (show Fr w.heap.size (dR s ⟨vt,vn,vw,vu,vr,vh,vk,vs⟩) W1 from by rw[hW1];exact Xy.o.below (ak (aH _ _) _) (by omega))
 have hp1:W1.heap[W0.heap.size]? =some (.cells (cZ (iJ l)).toArray 9 (0,0)):=by rw[hW1];exact ay _ _
 have hsz1:W1.heap.size=W0.heap.size+1:=by rw[hW1];simp
 have hsz:w.heap.size+4<=W1.heap.size:=by omega
 obtain⟨pb,hpb⟩: ∃pb,pb=W0.heap.size:=⟨_,rfl⟩
 rw[<-hpb] at hp1⊢
 have hpl:pb<W1.heap.size:=by omega
 have hpw:w.heap.size+3<=pb:=by omega
 have hn1:1<=np:=by rw[hnp];have:=yD l;cases h:iJ l <;>simp_all
 have hn0:0<np:=by omega
 have hnI:(0:Int)<(np:Int):=by omega
 obtain⟨x0,ps,hws⟩: ∃x0 ps,iJ l=x0::ps:=by
  cases h:iJ l with
  |nil=>exact absurd h (yD l)
  |cons x ps=>exact⟨x,ps,rfl⟩
 obtain⟨c1,f1,l1⟩:=af hp1
 have g0:W1.cell? ⟨pb,0,none⟩=some (.string (gI x0)):=by rw[c1,hws];rfl
 have XK:=ae (ag hp1 (ag hnp hws))
 clear hW1 hp1 hnp hws hpb hsz1 c1 f1 hs0
 go_wp2_with fail
 refine kN (U7 W1.heap.size) ((Ext.refl [] _).drew) (Ps:=(fun i _ v W=>match i with|8=> ∃b:Nat,v= .pointer (some ⟨b,0,none⟩)/\W1.heap.size<=b/\ ∃x y,W.heap[b]? =some (.cells #[x,y] 218 (0,0))|_=>True)) 10 (some 9)
  [(0,⟨fun _ v=> ∃mb,v= .map (some mb),fun _ v W=> ∃mb,v= .map (some mb)/\TabAt UW wev (fun _=>True) W mb Qm⟩),(8,⟨fun _ v=> ∃b:Nat,v= .pointer (some ⟨b,0,none⟩),fun _ _ _=>True⟩),
    (9,⟨fun _ v=>v=undef,fun xs _ W=> ∃(b:Nat) (x y:Value),xs=[.pointer (some ⟨b,0,none⟩),.agg #[x,y]]/\W1.heap.size<=b/\W.heap[b]? =some (.cells #[x,y] 218 (0,0))⟩)] (by as_aux_lemma=>kernel_rfl) (by as_aux_lemma=>kernel_rfl) ?_
 simp only[zt]
 refine kP _ (by rfl) (by rfl) (by exact⟨.map (some 0),0,rfl⟩) (fun Wa hE hF hG=>?_) (fun v Wa Wb ho hE=>?_) (fun _ _ _ _ _=>trivial) (fun v hv=>?_)
 ·have hE':Hw W1.heap.size W1 Wa:=hE
  refine dB 98 #[] (by go_simp;try rfl) ?_
  refine(UL Wa).mono ?_
  rintro e w' ⟨mb,rfl,h1,h2,h3⟩
  exact⟨_,rfl,⟨mb,rfl⟩,⟨mb,rfl,h2⟩,Ext.aA h3,trivial⟩
 ·obtain⟨mb,hv,ht⟩:=ho
  have hE':Hw W1.heap.size Wa Wb:=hE
  obtain⟨h0,es',cl,hm,hx⟩:=ht
  exact⟨mb,hv,h0,es',cl,hE'.maps _ _ _ hm,hx⟩
 obtain⟨mb,rfl⟩:=hv
 simp only[zp]
 repeat ((first|refine zd ?_|refine zk ?_);simp only[zp])
 have hm:Tryz.prog.underlying 220=some (.map 9 218):=by kernel_rfl
 have hz:=fun w=>Tryz.zeroValue218 w
 obtain⟨n1,fv,bq,hT1,hone,hcase⟩: ∃(n1:Int) (fv:Value) (bq:Bool),Value.tuple #[((TB.look (gI x0) Qm).map wev).getD (.agg #[iv 0,.nilFunc]),.bool (TB.look (gI x0) Qm).isSome]= .tuple #[.agg #[iv n1,fv],.bool bq]/\fv.oneCell'=true/\
  ((GR x0=none/\bq=false/\n1=0)∨ ∃c,GR x0=some c/\bq=true/\n1=c.many/\fv= .func (.func (gQ c)) #[] #[]):=by
  rw[YY]
  have hx:(gI x0).data.toList=x0:=by simp[gI]
  rw[hx]
  cases hc:GR x0 with
  |none=>exact⟨0,.nilFunc,false,rfl,rfl,.inl ⟨rfl,rfl,rfl⟩⟩
  |some c=>exact⟨c.many,.func (.func (gQ c)) #[] #[],true,rfl,rfl,.inr ⟨c,rfl,rfl,rfl,rfl⟩⟩
 have hlk: ∀(W:World),TabAt UW wev (fun _=>True) W mb Qm->(Instr.lookup 220 (.map (some mb)) (.string (gI x0)) true).run Tryz.prog W= .ok (.tuple #[.agg #[iv n1,fv],.bool bq]) W:=fun W hT=>by
  have:=vJ ui hm hz hT (gI x0) trivial true W rfl
  rw[aF rfl] at this
  rw[this]
  exact congrArg (fun q=>Result.ok q W) hT1
 have Md:=ae hlk
 have HC:=ae hcase
 clear hlk hm hT1 hcase hz
 refine iE (by rfl) (.tuple #[.agg #[iv n1,fv],.bool bq]) (by rfl) (fun W hE hF=>?_) ?_
 ·obtain⟨mb',hmb,hT⟩:=hF _ (bF _) (by kernel_rfl)
  cases hmb
  have:=Md.o W hT
  go_simp
 simp only[zp]
 repeat ((first|refine zd ?_|refine zk ?_);simp only[zp])
 refine kP _ (by rfl) (by rfl) (by exact⟨.pointer (some ⟨0,0,none⟩),0,rfl⟩) (fun Wa hE hF hG=>?_) (fun _ _ _ _ _=>trivial) (fun v Wa Wb ho hE=>?_) (fun v hv=>?_)
 ·have hE':Hw W1.heap.size W1 Wa:=hE
  exact jg (W':=Wa.alloc (.cells #[iv 0,.nilFunc] 218)) (.pointer (some ⟨Wa.heap.size,0,none⟩)) (by go_simp;try rfl) ⟨⟨_,rfl⟩,trivial,Ext.aA ((aH _ _).alloc (ai _) _),_,rfl,hE'.ext.size,_,_,heap_alloc_new _ _⟩
 ·obtain⟨b,hb,hge,x,y,hc⟩:=ho
  exact⟨b,hb,hge,x,y,(hE.block b (aS.1 hc).1 (by simp)).trans hc⟩
 obtain⟨b8,rfl⟩:=hv
 simp only[zp]
 refine kP _ (by rfl) (by rfl) (by exact⟨_,rfl⟩) (fun Wa hE hF hG=>?_) (fun v Wa Wb ho hE=>?_) (fun _ _ _ _ _=>trivial) (fun v hv=>?_)
 ·obtain⟨b,hb,hge,x,y,hc⟩:=hG rfl _ (bF _) (by kernel_rfl)
  cases hb
  refine vN (W':=Wa.setRow b8 #[iv n1,fv]) ?_ ⟨rfl,⟨b8,iv n1,fv,rfl,hge,setRow_heap Wa b8 _ _ _ _ hc⟩,?_,trivial⟩
  ·exact yc _ _ _ rfl b8 #[iv n1,fv] rfl rfl _ _ hc (by kernel_rfl) rfl (by rw[oz];intro u hu;simp only[List.mem_toArray,ig,List.not_mem_nil,or_false] at hu;rcases hu with rfl|rfl;(exact rfl);(exact hone))
  ·exact(show Hw W1.heap.size Wa (Wa.setRow b8 #[iv n1,fv]) from⟨⟨rfl,rfl,rfl,by simp,fun k _ hkB _=>setRow_other _ _ _ _ (by omega)⟩,fun k es' cl hk=>by
    have hne:k≠b8:=fun e=>by subst e;rw[hc] at hk;cases hk
    exact(setRow_other _ _ _ _ hne).trans hk⟩)
 ·obtain⟨b,x,y,h1,h2,h3⟩:=ho
  have hE':Ext [] Wa Wb:=hE
  exact⟨b,x,y,h1,h2,(hE'.block b (aS.1 h3).1 (by simp)).trans h3⟩
 obtain rfl:v=undef:=hv
 simp only[zp]
 intro W2 hE2 hF2
 obtain⟨b8',x8,y8,hx8,aoj,hb8⟩:=hF2 _ (bF _)
 have V9:Hw W1.heap.size W1 W2:=hE2
 obtain⟨rfl,rfl,rfl⟩:b8'=b8/\x8=iv n1/\y8=fv:=by
  have h:=(show[Value.pointer (some ⟨b8,0,none⟩),.agg #[iv n1,fv]]=[.pointer (some ⟨b8',0,none⟩),.agg #[x8,y8]] from hx8)
  simp at h
  exact⟨h.1.symm,h.2.1.symm,h.2.2.symm⟩
 have xh:Below W1.heap.size W1 W2:=⟨V9.ext.os,V9.ext.tape,V9.ext.output,V9.ext.size,fun k hk=>V9.ext.block k hk hk (by simp)⟩
 have HB2:=ae (bn HB1.o xh)
 have HF2:=ae (HF1.o.below xh (by omega))
 have hp2:=(xh.block pb hpl).trans XK.o.1
 have hs2:=xh.size
 have HP2:=ae (ag hp2 hb8)
 obtain⟨c2,f2,l2⟩:=af hb8
 have hone':=ae hone
 clear hE2 hF2 hx8 V9 xh hp2 hb8 hone g0
 rcases HC.o with⟨hc0,hbq,VX⟩|⟨c,hc0,hbq,VX,hfv⟩
 ·subst hbq
  have hd:wW bH s l=(s,4):=Bi (by unfold vC;rw[XK.o.2.2];simp[hc0])
  have HD:=ae hd
  clear hd
  go_wp2_with fail
  refine(dW 4 [true] W2 (by simp) _ (by simp[dI]) _ _ rfl).mono ?_
  rintro e W3 ⟨hb,⟨hc,rfl⟩|⟨hc,rfl⟩⟩
  ·exact absurd hc (by decide)
  ·exact aay.o 4 HD.o W3 (bn HB2.o hb) (HF2.o.below hb (by omega)) _ rfl rfl
 ·subst hbq
  subst VX
  subst hfv
  have agk:np=ps.length+1:=by rw[XK.o.2.1,XK.o.2.2];rfl
  have anU:(np:Int)<=1001:=by have:=UK l;rw[<-XK.o.2.1] at this;omega
  have HNP:=ae agk
  clear agk
  go_wp2_with fail
  refine(dW 4 [(np:Int)-1 !=c.many] W2 (by simp) _ (by simp[dI]) _ _ rfl).mono ?_
  rintro e W3 ⟨hb,⟨hc,rfl⟩|⟨hc,rfl⟩⟩
  rotate_left
  ·have hd:wW bH s l=(s,4):=Bi (by
    unfold vC
    rw[XK.o.2.2,List.headD_cons,hc0,Option.bind_some,List.tail_cons,aj]
    intro e
    have:=HNP.o
    simp at hc
    omega)
   exact aay.o 4 hd W3 (bn HB2.o hb) (HF2.o.below hb (by omega)) _ rfl rfl
  have hcm:ps.length=c.many:=by
   have:=HNP.o
   simp at hc
   omega
  have HB3:=ae (bn HB2.o hb)
  have HF3:=ae (HF2.o.below hb (by omega))
  have hp3:=(hb.block pb (by omega)).trans HP2.o.1
  have ag2:=(hb.block b8' l2).trans HP2.o.2
  have ajD:pb<W3.heap.size:=(aS.1 hp3).1
  obtain⟨off,hA⟩: ∃off,(if np=1 then(some ⟨pb,0,none⟩:Option Addr) else some ⟨pb,1,none⟩)=some ⟨pb,off,none⟩:=by split <;>exact⟨_,rfl⟩
  have hoff: ∀i,i<ps.length->off=1:=fun i hi=>by
   have:=HNP.o
   rw[aj (by omega)] at hA
   injection hA with h;injection h with _ h2 _;exact h2.symm
  have HO:=ae (ag hoff hcm)
  have HP3:=ae (ag hp3 (ag ag2 hc0))
  have hn1':(1:Int)<=(np:Int):=by omega
  clear hb hc hcm hp3 ag2 hoff c2 f2 hc0
  go_wp2_with fail
  have HN0:Hid (nK []=some []):=ae rfl
  go_loopw [9,11,12,13,41] (fun v9 _ _ _ u wr=> ∃i:Nat,i<=ps.length/\u= .int .i64 i/\Below W3.heap.size W3 wr/\ ∃(ns:List Int) (o:Option Addr) (c9:Nat),nK (ps.take i)=some ns/\v9= .slice o i c9/\wr.ownsRow W3.heap.size 3 1 (.slice o i c9) i (ah ns)) (fun _ _ _ _ u _=>ps.length-(intOf u).toNat)
  case atStart=>exact⟨0,bM _,rfl,aH _ _,[],none,0,rfl,rfl,⟨rfl,.inl ⟨rfl,rfl⟩⟩⟩
  case round=>
   obtain⟨i,hi,rfl,hB,ns,o9,c9,hns,rfl,how⟩:=hrel
   have agj:=HNP.o
   by_cases hlt:i<ps.length
   ·have hlt2:(i:Int)<((np-1:Nat):Int):=by omega
    have hlt3:i<np-1:=by omega
    have hpr:=(hB.block pb ajD).trans HP3.o.1
    obtain⟨cp,fp,lp⟩:=af hpr
    have gi:wr.cell? ⟨pb,off+i,none⟩=some (.string (gI ps[i])):=by
     rw[HO.o.1 i hlt,cp,XK.o.2.2]
     simp[cZ,hlt,Nat.add_comm]
    have ajC:ps[i].length<=1000:=by
     have:=XT l ps[i] (by rw[XK.o.2.2];simp)
     omega
    have HNA:=ae (QP ps[i] wr (HE.o wr (bn HB3.o hB)) ajC)
    have HX:=ae (ag hB (ag hns how))
    clear hB hns how cp hpr agj
    go_wp2_with fail
    refine HNA.o.mono ?_
    rintro e W4 ⟨hb4,v,rfl,hv⟩
    cases hnb:pq ps[i] with
    |none=>
     rw[hnb] at hv
     have HB4:=ae (bn HX.o.1 hb4)
     have hd:wW bH s l=(s,4):=Bi (by
      unfold vC
      rw[XK.o.2.2,List.headD_cons,HP3.o.2.2,Option.bind_some,List.tail_cons,Vq ps i ps[i] (dn hlt) hnb]
      simp)
     have HD:=ae hd
     clear hd hb4 hv hnb HNA gi fp lp
     simp only[Option.isSome_none]
     go_wp2_with fail
     refine(dW 4 [true] W4 (by simp) _ (by simp[dI]) _ _ rfl).mono ?_
     rintro e W5 ⟨hb,⟨hc,rfl⟩|⟨hc,rfl⟩⟩
     ·exact absurd hc (by decide)
     ·exact aay.o 4 HD.o W5 (bn HB3.o (bn HB4.o hb)) (HF3.o.below (bn HB4.o hb) (by omega)) _ rfl rfl
    |some n=>
     rw[hnb] at hv
     obtain rfl:v=n:=hv n rfl
     have HB4:=ae (bn HX.o.1 hb4)
     have age:=aC (Ms:=[]) HX.o.2.2 (Ext.aA hb4) (by simp)
     have HN4:=ae hnb
     have HW4:=ae (ag age hb4)
     clear hb4 hv hnb HNA gi fp lp age
     simp only[Option.isSome_some]
     go_wp2_with fail
     refine(dW 4 [false] W4 (by simp) _ (by simp[dI]) _ _ rfl).mono ?_
     rintro e W5 ⟨hb,⟨hc,rfl⟩|⟨hc,rfl⟩⟩
     rotate_left
     ·exact absurd hc (by decide)
     have Zc:=aC (Ms:=[]) HW4.o.1 (Ext.aA hb) (by simp)
     have pV:=ae (bn HB4.o hb)
     have HW5:=ae Zc
     have hs5:=pV.o.size
     have hi5:i<=1001:=by omega
     clear hb hc Zc
     go_wp2_with (at_builtin;go_loud (refine eU rfl _ _ sH rfl W3.heap.size (.slice o9 i c9) i (ah ns) rfl (aC (Ms:=[]) HW5.o (Ext.aA (ak (aH _ _) _)) (by simp)) (.slice (some ⟨W5.heap.size,0,none⟩) 1 1) 1 [iv v] rfl (aN.dD 1 1 (ay _ _) rfl (by decide)) (one_one v) (by omega) (by omega) (by simp;omega) ?_))
     intro v' W6 hown hgr hN
     obtain⟨o6,c6,rfl⟩:=aT hown
     have hpu:=yx pV.o HW5.o (Ext.aA (ak (aH _ _) _)) hown hgr (ai _) pV.o.size
     have HP:=ae (ag hpu hown)
     clear hpu hown hgr hN
     go_wp2_with fail
     go_roundw
     case rel=>
      refine⟨i+1,by omega,by go_num,HP.o.1.1,ns++[v],o6,c6,?_,rfl,?_⟩
      ·rw[qW,dn hlt]
       exact QO _ _ _ _ HX.o.2.1 HN4.o
      ·rw[uN]
       exact HP.o.2
     case measure=>simp[intOf];omega
   ·obtain rfl:i=ps.length:=by omega
    rw[List.take_length] at hns
    have hp:vC l=some (c,ns):=by
     unfold vC
     rw[XK.o.2.2,List.headD_cons,HP3.o.2.2,Option.bind_some,List.tail_cons,aF HO.o.2,hns]
     rfl
    have agZ:=(hB.block b8' (by have:=(aS.1 HP3.o.2.1).1;omega)).trans HP3.o.2.1
    obtain⟨c8,f8,l8⟩:=af agZ
    obtain⟨hwl,hnl,hnb,ajI⟩:=FN hp
    have HX:=ae (ag hB (ag how (ag hp (ag hnl hnb))))
    have anV: ¬((ps.length:Nat):Int)<((np-1:Nat):Int):=by omega
    have alX: ¬ps.length<np-1:=by omega
    clear hB how hp hns hwl hnl hnb ajI agZ agj
    go_upto_region 13 with(fail)
    have hFr:=HF3.o.below HX.o.1 (by omega)
    refine wp_region_lit ?_
    refine wpList_load_row rfl _ _ rfl w.heap.size rfl _ _ _ _ hFr.s Tryz.underlying62 rfl (by kernel_rfl) ?_
    simp only[zp]
    have HFr:=ae hFr
    have EW:=ae (E5 s ⟨vt,vn,vw,vu,vr,vh,vk,vs⟩ es wr (HS.o wr (bn HB3.o HX.o.1)) HG.o)
    have zS:=l8
    have HC8:=ae c8
    clear hFr c8 f8
    go_wp2_with fail
    refine EW.o.mono ?_
    rintro e W4 ⟨hb4,wb,V',es',rfl,hO4⟩
    have adR:b8'<W3.heap.size:=(aS.1 HP3.o.2.1).1
    have hsr:=HX.o.1.size
    have ag1:=(hb4.block b8' (by omega)).trans ((HX.o.1.block b8' adR).trans HP3.o.2.1)
    obtain⟨c4,f4,l4⟩:=af ag1
    have hns:ns≠[]->rQ wr.heap.size W4 (.slice o9 ps.length c9) ns:=fun hne=>by
     have hown4:=aC (Ms:=[]) HX.o.2.1 (Ext.aA hb4) (by simp)
     have hlen:ps.length=ns.length:=by rw[HX.o.2.2.2.1,HO.o.2]
     have hpos:0<ps.length:=by rw[hlen];exact List.length_pos_iff.2 hne
     obtain⟨g,rfl,hcg,hfg,hgl⟩:=gY hown4 hpos
     obtain⟨g2,hg2,aoy,_,V3⟩:=gY HX.o.2.1 hpos
     cases hg2
     refine⟨g,c9,by rw[hlen],V3,fun j hj=>?_⟩
     have:=hcg j (by simpa [ah] using hj)
     simpa [ah] using this
    have akv:=RQ c
    have HA:=ae (ace c ns HX.o.2.2.2.1 HX.o.2.2.2.2 wr.heap.size W4 wb s V' es' (.slice o9 ps.length c9) hO4 hns HG.o)
    have HB4:=ae (bn HX.o.1 hb4)
    have HO4:=ae hO4
    clear ag1 hns hb4 hO4
    go_wp2_with fail
    refine HA.o.mono ?_
    rintro e W5 ⟨hb5,⟨h0,rfl,V2,es2,hO5⟩|⟨hne,rfl⟩⟩
    rotate_left
    ·have hd:wW bH s l=(s,(jc s c ns).1):=by rw[Bh HX.o.2.2.1,aF hne]
     have ag6:=HB4.o.trans (hb5.mono (show W3.heap.size<=wr.heap.size from hsr))
     exact aay.o _ hd W5 (bn HB3.o ag6) (HF3.o.below ag6 (by omega)) _ rfl rfl
    have pV:=ae (HB4.o.trans (hb5.mono (show W3.heap.size<=wr.heap.size from hsr)))
    have HO5:=ae (ag h0 hO5)
    have hl5:=hO5.rows.lt
    have HST:=ae (U1 (jc s c ns).2 V2 es2 W5 hO5.st)
    have hk5:=hO5.blk
    clear hb5 h0 hO5 HA c4 f4 akv
    go_upto_region 15 with(fail)
    refine wp_region_lit ?_
    refine aP rfl _ (by go_simp;first|rfl|exact⟨rfl,rfl⟩) ?_
    simp only[zp]
    refine aP rfl _ (by go_simp;first|rfl|exact⟨rfl,rfl⟩) ?_
    simp only[zp]
    refine aP rfl _ (by go_simp;first|rfl|exact⟨rfl,rfl⟩) ?_
    simp only[zp]
    refine wpList_load_row rfl _ _ rfl wb rfl _ _ _ _ hk5 Tryz.underlying62 rfl (by kernel_rfl) ?_
    simp only[zp]
    have XM:=ae hk5
    clear hk5
    go_wp2_with fail
    refine HST.o.mono ?_
    rintro e W6 ⟨hb6,⟨h0,rfl⟩|⟨hne,rfl⟩⟩
    rotate_left
    ·have hd:wW bH s l=(s,bH (jc s c ns).2):=by rw[Bh HX.o.2.2.1,aj (by rw[HO5.o.1];simp),aF hne]
     have ag5:=bn pV.o hb6
     exact aay.o _ hd W6 (bn HB3.o ag5) (HF3.o.below ag5 (by omega)) _ rfl rfl
    have qG:=ae (bn pV.o hb6)
    have hk6:=(hb6.block wb hl5).trans XM.o
    have Mc:=ae (ag h0 (HO5.o.2.below hb6))
    clear hb6 h0 HST
    go_upto_region 16 with(fail)
    refine wp_region_lit ?_
    refine aP rfl _ (by go_simp;first|rfl|exact⟨rfl,rfl⟩) ?_
    simp only[zp]
    refine aP rfl _ (by go_simp;first|rfl|exact⟨rfl,rfl⟩) ?_
    simp only[zp]
    refine aP rfl _ (by go_simp;first|rfl|exact⟨rfl,rfl⟩) ?_
    simp only[zp]
    refine wpList_load_row rfl _ _ rfl wb rfl _ _ _ _ hk6 Tryz.underlying62 rfl (by kernel_rfl) ?_
    simp only[zp]
    have ad8:=HF3.o.below qG.o (by omega)
    obtain⟨A6,hA6,aht⟩:=ad8.a
    obtain⟨ec6,A7⟩:=ad8.e
    refine wpList_store_row rfl _ _ _ rfl (w.heap.size+1) _ rfl rfl _ _ hA6 (by kernel_rfl) (by rw[aht];rfl) (by rw[oz];exact fun u hu=>jd Mc.o.2.st u (pK.2 hu)) ?_
    simp only[zp]
    refine kM fun W7 yV=>?_
    have hA7:W7.heap[w.heap.size+1]? =some (.cells (dR (jc s c ns).2 V2) 62 (0,0)):=by rw[yV];exact setRow_heap W6 _ A6 _ _ _ hA6
    have aeb:Ext [w.heap.size+1] W6 W7:=by rw[yV];exact gB
    have yX:=(aeb.block (w.heap.size+2) (aS.1 A7).1 (by simp)).trans A7
    obtain⟨c7,f7,l7⟩:=af yX
    have c70:=c7 0
    simp at c70
    have HX7:=ae (ag hA7 (ag aeb yX))
    clear yV hA7 aeb yX hA6 A7 ad8 aht c7 hk6
    go_wp2_with fail
    have hd:wW bH s l=((jc s c ns).2,0):=by rw[Bh HX.o.2.2.1,aj (by rw[HO5.o.1];simp),aj (by rw[Mc.o.1];simp)]
    have Lt:Ext [w.heap.size+1,w.heap.size+2] W6 (W7.setCell ⟨w.heap.size+2,0,none⟩ (iv 0)):=(HX7.o.2.1.more (by simp)).trans (gz.more (by simp))
    have hA8:=(heap_setCell_other W7 ⟨w.heap.size+2,0,none⟩ (w.heap.size+1) (iv 0) (by simp)).trans HX7.o.1
    have ag4:=qG.o
    have hsb:=ag4.size
    refine NP rfl hA8 (aI HX7.o.2.2 _) _ _ rfl rfl ⟨?_,V2,es2,?_,?_,fun W' hE'=>?_⟩
    ·exact(bn HB3.o ag4).trans ⟨Lt.os,Lt.tape,Lt.output,Lt.size,fun k hk=>Lt.block k (by have:=HB3.o.size;omega) (by simp;omega)⟩
    ·rw[hd]
    ·rw[hd]
     have Gw:=Mc.o.2
     have hNb:=Gw.rows.base
     exact(show jO wr.heap.size _ wb (jc s c ns).2 V2 es2 from⟨(Lt.block wb Gw.rows.lt (by simp;omega)).trans Gw.blk,Gw.rows.keep Lt (fun m hm=> .inr (by simp at hm;omega)),Gw.es⟩).st
    ·rw[hd]
     have Gw:=Mc.o.2
     have hNb:=Gw.rows.base
     have hO9:jO wr.heap.size _ wb (jc s c ns).2 V2 es2:=⟨(Lt.block wb Gw.rows.lt (by simp;omega)).trans Gw.blk,Gw.rows.keep Lt (fun m hm=> .inr (by simp at hm;omega)),Gw.es⟩
     have hsr:=HX.o.1.size
     have hs3:=HB3.o.size
     have hlt: ∀m∈Ms,m<wr.heap.size:=fun m hm=>by have:=HMS.o m hm;omega
     exact(show jO wr.heap.size W' wb (jc s c ns).2 V2 es2 from⟨(hE'.block wb hO9.rows.lt (fun h=>by have:=hlt wb h;omega)).trans hO9.blk,hO9.rows.keep hE' (fun m hm=> .inr (hlt m hm)),hO9.es⟩).st
end Go.Proofs.YthllkbbbapgelaaGreatDoor.Bk
end

/-
  Texts of this claim, packed by a program: DM DN DO DP DQ DR DS DT DU DW DV.
-/
import Derived.WalkKit
import Derived.WalkLawsBesides
import Derived.WalkSpells
import Derived.Outline
import Derived.Handy
import Derived.KernelRfl
import Derived.Lib.Hide
import Derived.Sort.OwnSortedInts
import Derived.Lib.SliceRun
import Derived.Deep.Cut
import Derived.Lib.AtoiAllCases
import Derived.Lib.SplitLaws
import Derived.Lib.IndexBytes
import Derived.Defers
import Derived.Recover
import Derived.Laws.Pointers
import Derived.Laws.Tables
import Derived.Test.YthllkbbbapgelaaGreatDoorPG1
import Derived.Test.YthllkbbbapgelaaGreatDoorPG10
import Derived.Test.YthllkbbbapgelaaGreatDoorPG13
set_option maxHeartbeats 8000000
set_option maxRecDepth 100000
set_option linter.all false
theorem _root_.zaH {P:Prop} (h:P:=by
 go_wp2;go_returns;exact⟨.slice none 0 0,by simp,⟨by simp,.inl ⟨rfl,rfl⟩⟩,aC _ _⟩):P:=h
theorem _root_.zaF {P:Prop} (h:P:=by
 rintro e w' ⟨v',rfl,ho,hb⟩;exact .inl ⟨_,rfl,aO ho,bL ho G8.size,Ext.ay hb⟩):P:=h
theorem _root_.zci {P:Prop} (h:P:=by
 rintro e w' ⟨M,rfl,h1,h2,h3⟩;exact⟨h3,.inr ⟨(fun v h=>by cases h),_,_,_,rfl⟩⟩):P:=h
theorem _root_.zbr {P:Prop} (h:P:=by
 have q1:=run_loadVar_row (P:=Tryz.prog) w'' (bs+1) 62 62 S (0,0) _ hA' Tryz.underlying62 rfl (by rw[ν];kernel_rfl);obtain⟨ce,fe,le⟩:=ae G8;have c0:=ce 0;simp only[xN] at h4 h5;simp[results,Tryz.results55,h4,h5,asAddr,q1];simp[go_sem,c0]):P:=h
theorem _root_.zaY {P:Prop} (h:P:=by
 simp only[jl.many] at hn
 match n,hn with
 |[a,b,d],_=>exact⟨a,b,d,rfl⟩):P:=h
theorem _root_.za7 {P:Prop} (h:P:=by
 simp only[jl.many] at hn
 match n,hn with
 |[a],_=>exact⟨a,rfl⟩):P:=h
theorem _root_.zbq {P:Prop} (h:P:=by
 simp only[jl.many] at hn
 match n,hn with
 |[a,b],_=>exact⟨a,b,rfl⟩):P:=h
section
namespace Go.Proofs.Z.Bk
open Go.RowKit Go.RG Go.SL Go.Shelf ig Go.TB Go.Proofs.Z.uL
theorem tO {α:Type} (f:α->List Value) (k:Nat) (hk: ∀x,(f x).length=k): ∀(l:List α) (i:Nat),i<l.length->(l.eraseIdx i).flatMap f=(l.flatMap f).take (i*k)++(l.flatMap f).drop (i*k+k):=by
 intro l;induction l with
 |nil=>intro i h;simp at h
 |cons y l ih=>
  intro i h;rw[List.flatMap_cons];cases i with
  |zero=>
   rw[List.eraseIdx_cons_zero,Nat.zero_mul,List.take_zero,List.nil_append,Nat.zero_add,List.drop_append,List.drop_of_length_le (by rw[hk];omega),hk,Nat.sub_self,List.drop_zero,List.nil_append]
  |succ i=>
   rw[List.eraseIdx_cons_succ,List.flatMap_cons,ih i (by simpa using h)];generalize l.flatMap f=X;have h1:(f y).length<=(i+1)*k:=by rw[hk,Nat.succ_mul];omega
   have h2:(f y).length<=(i+1)*k+k:=ϑ;rw[List.take_append (l₁:=f y),iT h1,List.drop_append (l₁:=f y),List.drop_of_length_le h2,hk,List.nil_append,jg];rw[show(i+1)*k-k=i*k from by rw[Nat.succ_mul];omega,show(i+1)*k+k-k=i*k+k from by rw[Nat.succ_mul];omega]
theorem Jl (N:Nat) (w:World) (wb:Nat) (s:iC) (V:SV) (es:List KE) (ns:Value) (x:Nat) (hO:iW N w wb s V es) (hn:pU N w ns [(x:Int)]) (hG:eD s):Ϝ 157 #[.pointer (some ⟨wb,0,none⟩),ns] w (oZ N wb (gZ s .kF [(x:Int)]) w):=by
 obtain⟨vt,vn,vw,vu,vr,vh,vk,vs⟩:=V;obtain⟨o,cc,rfl⟩: ∃o c,vt= .slice o s.led.field.ax.length c:=aO (n:=s.led.field.ax.length) (hO.rows.own 0 _ rfl);have HO:=aa hO;have fD:=dS hO;obtain⟨b,c,rfl,hbN,hcs⟩:=hn;have lb:b<w.heap.size:=ϑ;have lw:=hO.rows.lt;have sS:=hO.rows.base;have HW:Hid (∀W,Below N w W->b<W.heap.size/\ ∀(j:Nat) (h:j<[(x:Int)].length),W.cell? ⟨b,j,none⟩=some (iv [(x:Int)][j])):=aa (fun W hB=>⟨by have:=hB.size;omega,fun j h=>(gW (hB.block b hbN)).trans (hcs j h)⟩);obtain⟨c0,f0,l0⟩:=ae hO.blk;have mJ:=hcs 0 ϕ;simp only[ak] at mJ;have ψ:Hid (Ϙ w w):=aa (aC _ _);have Ii:=hG.A7;clear hO hcs hG;go_enter Tryz.func157,Tryz.ntmps157;go_wp2_with fail
 refine zg 8 [] none [] ?_;simp only[zt];repeat ((first|refine zd ?_|refine zk ?_);simp only[zp])
 intro W1 hE hF;have Qi:=aa (aV ψ.o hE.below);have IZ:=aa (Ext.below hE);clear hE hF c0 f0 mJ;obtain⟨c1,f1,l1⟩:=ae ((Qi.o.block _ lw).trans HO.o.blk);obtain⟨tH,XH⟩:=HW.o W1 (Qi.o.mono fD);have Ξ:=XH 0 ϕ;simp only[ak] at Ξ;clear XH;go_wp2_with fail
 refine(gX _ _ _).mono ?_;rintro e W2 ⟨hb,⟨hc,rfl⟩|⟨hc,rfl⟩⟩;rotate_left
 ·simp at hc;exact zag
 simp at hc;have Ra:=aa (aV Qi.o hb);have HS2:=aa hb;have iL:=aa hc;clear hb hc c1 f1 tH Ξ;obtain⟨c2,f2,l2⟩:=ae ((Ra.o.block _ lw).trans HO.o.blk);obtain⟨uI,XK⟩:=HW.o W2 (Ra.o.mono fD);have Χ:=XK 0 ϕ;simp only[ak] at Χ;clear XK;go_wp2_with fail
 have tX:=iL.o;have Ir:=HO.o.below Ra.o;have h6:W2.ownsRow N 186 5 (.slice o s.led.field.ax.length cc) (s.led.field.ax.length) (dx s.led.field.ax):=Ir.rows.own 0 _ rfl;obtain⟨g,rfl, -,hfg,hgl⟩:=fP h6 (by have:=iL.o;omega);have hg1:wb≠g:=fun e=>Ir.rows.off 0 _ rfl (by rw[e];rfl);have hg2:b≠g:=fun e=>by have:=(h6.lt g rfl).1;omega
 have hg3:g≠wb:=fun e=>hg1 e.symm;have hg4:g≠b:=fun e=>hg2 e.symm;have iD:=aa Ir;have H6:=aa h6;clear Ir h6;refine zg 13 [g] (some 12) [(12,⟨fun _ v=>v= .slice (some ⟨g,0,none⟩) (s.led.field.ax.length-1) cc,fun _ v Wx=>Wx.ownsRow N 186 5 (.slice (some ⟨g,0,none⟩) (s.led.field.ax.length-1) cc) (s.led.field.ax.length-1) ((dx s.led.field.ax).take (x*5)++(dx s.led.field.ax).drop (x*5+5))⟩)] ?_;simp only[zt];repeat ((first|refine zd ?_|refine zk ?_);simp only[zp])
 refine bn _ ϱ ϱ ⟨_,rfl⟩ (fun w' hE hF=>?_) (fun v Wa Wb ho hE=>?_) (fun v hv=>?_)
 ·have G8:Ext [] W2 w':=hE;refine bX 244 #[.slice (some ⟨g,0,none⟩) s.led.field.ax.length cc,iv x,iv (x+1)] (by go_simp;try rfl) ?_;refine(NQ N g _ cc x (dx s.led.field.ax) w' (az (Ms:=[]) H6.o G8 ϕ) (Af _) (by have:=iL.o;omega) ϑ).mono ?_;exact zbB
 ·exact az (Ms:=[]) ho hE ϕ
 obtain rfl:v= .slice (some ⟨g,0,none⟩) (s.led.field.ax.length-1) cc:=hv;simp only[zp];intro W3 hE hF;have nD:W3.ownsRow N 186 5 (.slice (some ⟨g,0,none⟩) (s.led.field.ax.length-1) cc) (s.led.field.ax.length-1) ((dx s.led.field.ax).take (x*5)++(dx s.led.field.ax).drop (x*5+5)):=hF _ (bu _);have eQ:Ext [g] W2 W3:=hE;have ο:=(eQ.block wb iD.o.rows.lt (by simpa using hg1)).trans iD.o.blk;obtain⟨c3,f3,l3⟩:=ae ο;have gP:=aa (af eQ (af nD ο));have nH:=aa (show Below N w W3 from(Ra.o.mono fD).trans ⟨eQ.os,eQ.tape,eQ.output,eQ.size,fun k hk=>eQ.block k (by have:=Ra.o.size;omega) (fun h=>by have:=(H6.o.lt g rfl).1;have:=dY.1 h;omega)⟩);clear hE hF eQ nD ο hg1 hg2 hg3 hg4 hfg hgl c2 f2 uI Χ;go_wp2_with fail
 go_end0
 have q0:=iL.o;simp only[gZ,bI,bJ,df];(repeat (first|rw[aB ϑ]|rw[aj ϑ]))
 refine⟨nH.o.setCell sS _,.inl ⟨rfl,rfl,⟨.slice (some ⟨g,0,none⟩) (s.led.field.ax.length-1) cc,vn,vw,vu,vr,vh,vk,vs⟩,es,iD.o.put (i:=0) rfl ⟨186,5,.slice (some ⟨g,0,none⟩) (s.led.field.ax.length-1) cc,s.led.field.ax.length-1,(dx s.led.field.ax).take (x*5)++(dx s.led.field.ax).drop (x*5+5)⟩ gP.o.1 (fun m hm=>by rw[dY.1 hm];rfl) gP.o.2.1 (.inl rfl) (aG gP.o.2.2 _) (by simp only[gF,kY,Int.toNat_natCast];rw[List.length_eraseIdx_of_lt tX,show dx (s.led.field.ax.eraseIdx x)=_ from tO _ 5 (fun _=>rfl) s.led.field.ax x tX];rfl) (iD.o.es)⟩⟩
theorem TA (N:Nat) (w:World) (wb:Nat) (s:iC) (V:SV) (es:List KE) (ns:Value) (x:Nat) (hO:iW N w wb s V es) (hn:pU N w ns [(x:Int)]) (hG:eD s):Ϝ 161 #[.pointer (some ⟨wb,0,none⟩),ns] w (oZ N wb (gZ s .void [(x:Int)]) w):=by
 obtain⟨vt,vn,vw,vu,vr,vh,vk,vs⟩:=V;obtain⟨o,cc,rfl⟩: ∃o c,vn= .slice o s.led.notes.length c:=aO (n:=s.led.notes.length) (hO.rows.own 1 _ rfl);have HO:=aa hO;have fD:=dS hO;obtain⟨b,c,rfl,hbN,hcs⟩:=hn;have lb:b<w.heap.size:=ϑ;have lw:=hO.rows.lt;have sS:=hO.rows.base;have HW:Hid (∀W,Below N w W->b<W.heap.size/\ ∀(j:Nat) (h:j<[(x:Int)].length),W.cell? ⟨b,j,none⟩=some (iv [(x:Int)][j])):=aa (fun W hB=>⟨by have:=hB.size;omega,fun j h=>(gW (hB.block b hbN)).trans (hcs j h)⟩);obtain⟨c0,f0,l0⟩:=ae hO.blk;have mJ:=hcs 0 ϕ;simp only[ak] at mJ;have ψ:Hid (Ϙ w w):=aa (aC _ _);have Ii:=hG.notes;clear hO hcs hG;go_enter Tryz.func161,Tryz.ntmps161;go_wp2_with fail
 refine zg 10 [] none [] ?_;simp only[zt];repeat ((first|refine zd ?_|refine zk ?_);simp only[zp])
 intro W1 hE hF;have Qi:=aa (aV ψ.o hE.below);have IZ:=aa (Ext.below hE);clear hE hF c0 f0 mJ;obtain⟨c1,f1,l1⟩:=ae ((Qi.o.block _ lw).trans HO.o.blk);obtain⟨tH,XH⟩:=HW.o W1 (Qi.o.mono fD);have Ξ:=XH 0 ϕ;simp only[ak] at Ξ;clear XH;go_wp2_with fail
 refine(gX _ _ _).mono ?_;rintro e W2 ⟨hb,⟨hc,rfl⟩|⟨hc,rfl⟩⟩;rotate_left
 ·simp at hc;exact zag
 simp at hc;have Ra:=aa (aV Qi.o hb);have HS2:=aa hb;have iL:=aa hc;clear hb hc c1 f1 tH Ξ;obtain⟨c2,f2,l2⟩:=ae ((Ra.o.block _ lw).trans HO.o.blk);obtain⟨uI,XK⟩:=HW.o W2 (Ra.o.mono fD);have Χ:=XK 0 ϕ;simp only[ak] at Χ;clear XK;go_wp2_with fail
 have tX:=iL.o;have Ir:=HO.o.below Ra.o;have h6:W2.ownsRow N 188 3 (.slice o s.led.notes.length cc) (s.led.notes.length) (aU s.led.notes):=Ir.rows.own 1 _ rfl;obtain⟨g,rfl, -,hfg,hgl⟩:=fP h6 (by have:=iL.o;omega);have hg1:wb≠g:=fun e=>Ir.rows.off 1 _ rfl (by rw[e];rfl);have hg2:b≠g:=fun e=>by have:=(h6.lt g rfl).1;omega
 have hg3:g≠wb:=fun e=>hg1 e.symm;have hg4:g≠b:=fun e=>hg2 e.symm;have iD:=aa Ir;have H6:=aa h6;clear Ir h6;refine zg 15 [g] (some 14) [(14,⟨fun _ v=>v= .slice (some ⟨g,0,none⟩) (s.led.notes.length-1) cc,fun _ v Wx=>Wx.ownsRow N 188 3 (.slice (some ⟨g,0,none⟩) (s.led.notes.length-1) cc) (s.led.notes.length-1) ((aU s.led.notes).take (x*3)++(aU s.led.notes).drop (x*3+3))⟩)] ?_;simp only[zt];repeat ((first|refine zd ?_|refine zk ?_);simp only[zp])
 refine bn _ ϱ ϱ ⟨_,rfl⟩ (fun w' hE hF=>?_) (fun v Wa Wb ho hE=>?_) (fun v hv=>?_)
 ·have G8:Ext [] W2 w':=hE;refine bX 246 #[.slice (some ⟨g,0,none⟩) s.led.notes.length cc,iv x,iv (x+1)] (by go_simp;try rfl) ?_;refine(KS N g _ cc x (aU s.led.notes) w' (az (Ms:=[]) H6.o G8 ϕ) (ru _) (by have:=iL.o;omega) ϑ).mono ?_;exact zbB
 ·exact az (Ms:=[]) ho hE ϕ
 obtain rfl:v= .slice (some ⟨g,0,none⟩) (s.led.notes.length-1) cc:=hv;simp only[zp];intro W3 hE hF;have nD:W3.ownsRow N 188 3 (.slice (some ⟨g,0,none⟩) (s.led.notes.length-1) cc) (s.led.notes.length-1) ((aU s.led.notes).take (x*3)++(aU s.led.notes).drop (x*3+3)):=hF _ (bu _);have eQ:Ext [g] W2 W3:=hE;have ο:=(eQ.block wb iD.o.rows.lt (by simpa using hg1)).trans iD.o.blk;obtain⟨c3,f3,l3⟩:=ae ο;have gP:=aa (af eQ (af nD ο));have nH:=aa (show Below N w W3 from(Ra.o.mono fD).trans ⟨eQ.os,eQ.tape,eQ.output,eQ.size,fun k hk=>eQ.block k (by have:=Ra.o.size;omega) (fun h=>by have:=(H6.o.lt g rfl).1;have:=dY.1 h;omega)⟩);clear hE hF eQ nD ο hg1 hg2 hg3 hg4 hfg hgl c2 f2 uI Χ;go_wp2_with fail
 go_end0
 have q0:=iL.o;simp only[gZ,bI,bJ,df];(repeat (first|rw[aB ϑ]|rw[aj ϑ]))
 refine⟨nH.o.setCell sS _,.inl ⟨rfl,rfl,⟨vt,.slice (some ⟨g,0,none⟩) (s.led.notes.length-1) cc,vw,vu,vr,vh,vk,vs⟩,es,iD.o.put (i:=1) rfl ⟨188,3,.slice (some ⟨g,0,none⟩) (s.led.notes.length-1) cc,s.led.notes.length-1,(aU s.led.notes).take (x*3)++(aU s.led.notes).drop (x*3+3)⟩ gP.o.1 (fun m hm=>by rw[dY.1 hm];rfl) gP.o.2.1 (.inl rfl) (aG gP.o.2.2 _) (by simp only[gF,mq,Int.toNat_natCast];rw[List.length_eraseIdx_of_lt tX,show aU (s.led.notes.eraseIdx x)=_ from tO _ 3 (fun _=>rfl) s.led.notes x tX];rfl) (iD.o.es)⟩⟩
theorem Mh (N:Nat) (w:World) (wb:Nat) (s:iC) (V:SV) (es:List KE) (ns:Value) (x:Nat) (hO:iW N w wb s V es) (hn:pU N w ns [(x:Int)]) (hG:eD s):Ϝ 167 #[.pointer (some ⟨wb,0,none⟩),ns] w (oZ N wb (gZ s .unread [(x:Int)]) w):=by
 obtain⟨vt,vn,vw,vu,vr,vh,vk,vs⟩:=V;obtain⟨o,cc,rfl⟩: ∃o c,vr= .slice o s.heap.readings.length c:=aO (n:=s.heap.readings.length) (hO.rows.own 4 _ rfl);have HO:=aa hO;have fD:=dS hO;obtain⟨b,c,rfl,hbN,hcs⟩:=hn;have lb:b<w.heap.size:=ϑ;have lw:=hO.rows.lt;have sS:=hO.rows.base;have HW:Hid (∀W,Below N w W->b<W.heap.size/\ ∀(j:Nat) (h:j<[(x:Int)].length),W.cell? ⟨b,j,none⟩=some (iv [(x:Int)][j])):=aa (fun W hB=>⟨by have:=hB.size;omega,fun j h=>(gW (hB.block b hbN)).trans (hcs j h)⟩);obtain⟨c0,f0,l0⟩:=ae hO.blk;have mJ:=hcs 0 ϕ;simp only[ak] at mJ;have ψ:Hid (Ϙ w w):=aa (aC _ _);have Ii:=hG.reads;clear hO hcs hG;go_enter Tryz.func167,Tryz.ntmps167;go_wp2_with fail
 refine zg 10 [] none [] ?_;simp only[zt];repeat ((first|refine zd ?_|refine zk ?_);simp only[zp])
 intro W1 hE hF;have Qi:=aa (aV ψ.o hE.below);have IZ:=aa (Ext.below hE);clear hE hF c0 f0 mJ;obtain⟨c1,f1,l1⟩:=ae ((Qi.o.block _ lw).trans HO.o.blk);obtain⟨tH,XH⟩:=HW.o W1 (Qi.o.mono fD);have Ξ:=XH 0 ϕ;simp only[ak] at Ξ;clear XH;go_wp2_with fail
 refine(gX _ _ _).mono ?_;rintro e W2 ⟨hb,⟨hc,rfl⟩|⟨hc,rfl⟩⟩;rotate_left
 ·simp at hc;exact zag
 simp at hc;have Ra:=aa (aV Qi.o hb);have HS2:=aa hb;have iL:=aa hc;clear hb hc c1 f1 tH Ξ;obtain⟨c2,f2,l2⟩:=ae ((Ra.o.block _ lw).trans HO.o.blk);obtain⟨uI,XK⟩:=HW.o W2 (Ra.o.mono fD);have Χ:=XK 0 ϕ;simp only[ak] at Χ;clear XK;go_wp2_with fail
 have tX:=iL.o;have Ir:=HO.o.below Ra.o;have h6:W2.ownsRow N 190 3 (.slice o s.heap.readings.length cc) (s.heap.readings.length) (aU s.heap.readings):=Ir.rows.own 4 _ rfl;obtain⟨g,rfl, -,hfg,hgl⟩:=fP h6 (by have:=iL.o;omega);have hg1:wb≠g:=fun e=>Ir.rows.off 4 _ rfl (by rw[e];rfl);have hg2:b≠g:=fun e=>by have:=(h6.lt g rfl).1;omega
 have hg3:g≠wb:=fun e=>hg1 e.symm;have hg4:g≠b:=fun e=>hg2 e.symm;have iD:=aa Ir;have H6:=aa h6;clear Ir h6;refine zg 15 [g] (some 14) [(14,⟨fun _ v=>v= .slice (some ⟨g,0,none⟩) (s.heap.readings.length-1) cc,fun _ v Wx=>Wx.ownsRow N 190 3 (.slice (some ⟨g,0,none⟩) (s.heap.readings.length-1) cc) (s.heap.readings.length-1) ((aU s.heap.readings).take (x*3)++(aU s.heap.readings).drop (x*3+3))⟩)] ?_;simp only[zt];repeat ((first|refine zd ?_|refine zk ?_);simp only[zp])
 refine bn _ ϱ ϱ ⟨_,rfl⟩ (fun w' hE hF=>?_) (fun v Wa Wb ho hE=>?_) (fun v hv=>?_)
 ·have G8:Ext [] W2 w':=hE;refine bX 251 #[.slice (some ⟨g,0,none⟩) s.heap.readings.length cc,iv x,iv (x+1)] (by go_simp;try rfl) ?_;refine(KR N g _ cc x (aU s.heap.readings) w' (az (Ms:=[]) H6.o G8 ϕ) (ru _) (by have:=iL.o;omega) ϑ).mono ?_;exact zbB
 ·exact az (Ms:=[]) ho hE ϕ
 obtain rfl:v= .slice (some ⟨g,0,none⟩) (s.heap.readings.length-1) cc:=hv;simp only[zp];intro W3 hE hF;have nD:W3.ownsRow N 190 3 (.slice (some ⟨g,0,none⟩) (s.heap.readings.length-1) cc) (s.heap.readings.length-1) ((aU s.heap.readings).take (x*3)++(aU s.heap.readings).drop (x*3+3)):=hF _ (bu _);have eQ:Ext [g] W2 W3:=hE;have ο:=(eQ.block wb iD.o.rows.lt (by simpa using hg1)).trans iD.o.blk;obtain⟨c3,f3,l3⟩:=ae ο;have gP:=aa (af eQ (af nD ο));have nH:=aa (show Below N w W3 from(Ra.o.mono fD).trans ⟨eQ.os,eQ.tape,eQ.output,eQ.size,fun k hk=>eQ.block k (by have:=Ra.o.size;omega) (fun h=>by have:=(H6.o.lt g rfl).1;have:=dY.1 h;omega)⟩);clear hE hF eQ nD ο hg1 hg2 hg3 hg4 hfg hgl c2 f2 uI Χ;go_wp2_with fail
 go_end0
 have q0:=iL.o;simp only[gZ,bI,bJ,df];(repeat (first|rw[aB ϑ]|rw[aj ϑ]))
 refine⟨nH.o.setCell sS _,.inl ⟨rfl,rfl,⟨vt,vn,vw,vu,.slice (some ⟨g,0,none⟩) (s.heap.readings.length-1) cc,vh,vk,vs⟩,es,iD.o.put (i:=4) rfl ⟨190,3,.slice (some ⟨g,0,none⟩) (s.heap.readings.length-1) cc,s.heap.readings.length-1,(aU s.heap.readings).take (x*3)++(aU s.heap.readings).drop (x*3+3)⟩ gP.o.1 (fun m hm=>by rw[dY.1 hm];rfl) gP.o.2.1 (.inl rfl) (aG gP.o.2.2 _) (by simp only[gF,gK,Int.toNat_natCast];rw[List.length_eraseIdx_of_lt tX,show aU (s.heap.readings.eraseIdx x)=_ from tO _ 3 (fun _=>rfl) s.heap.readings x tX];rfl) (iD.o.es)⟩⟩
theorem Qb (N:Nat) (w:World) (wb:Nat) (s:iC) (V:SV) (es:List KE) (ns:Value) (x:Nat) (hO:iW N w wb s V es) (hn:pU N w ns [(x:Int)]) (hG:eD s):Ϝ 173 #[.pointer (some ⟨wb,0,none⟩),ns] w (oZ N wb (gZ s .rf [(x:Int)]) w):=by
 obtain⟨vt,vn,vw,vu,vr,vh,vk,vs⟩:=V;obtain⟨o,cc,rfl⟩: ∃o c,vs= .slice o s.cz.aI.length c:=aO (n:=s.cz.aI.length) (hO.rows.own 7 _ rfl);have HO:=aa hO;have fD:=dS hO;obtain⟨b,c,rfl,hbN,hcs⟩:=hn;have lb:b<w.heap.size:=ϑ;have lw:=hO.rows.lt;have sS:=hO.rows.base;have HW:Hid (∀W,Below N w W->b<W.heap.size/\ ∀(j:Nat) (h:j<[(x:Int)].length),W.cell? ⟨b,j,none⟩=some (iv [(x:Int)][j])):=aa (fun W hB=>⟨by have:=hB.size;omega,fun j h=>(gW (hB.block b hbN)).trans (hcs j h)⟩);obtain⟨c0,f0,l0⟩:=ae hO.blk;have mJ:=hcs 0 ϕ;simp only[ak] at mJ;have ψ:Hid (Ϙ w w):=aa (aC _ _);have Ii:=hG.aI;clear hO hcs hG;go_enter Tryz.func173,Tryz.ntmps173;go_wp2_with fail
 refine zg 8 [] none [] ?_;simp only[zt];repeat ((first|refine zd ?_|refine zk ?_);simp only[zp])
 intro W1 hE hF;have Qi:=aa (aV ψ.o hE.below);have IZ:=aa (Ext.below hE);clear hE hF c0 f0 mJ;obtain⟨c1,f1,l1⟩:=ae ((Qi.o.block _ lw).trans HO.o.blk);obtain⟨tH,XH⟩:=HW.o W1 (Qi.o.mono fD);have Ξ:=XH 0 ϕ;simp only[ak] at Ξ;clear XH;go_wp2_with fail
 refine(gX _ _ _).mono ?_;rintro e W2 ⟨hb,⟨hc,rfl⟩|⟨hc,rfl⟩⟩;rotate_left
 ·simp at hc;exact zag
 simp at hc;have Ra:=aa (aV Qi.o hb);have HS2:=aa hb;have iL:=aa hc;clear hb hc c1 f1 tH Ξ;obtain⟨c2,f2,l2⟩:=ae ((Ra.o.block _ lw).trans HO.o.blk);obtain⟨uI,XK⟩:=HW.o W2 (Ra.o.mono fD);have Χ:=XK 0 ϕ;simp only[ak] at Χ;clear XK;go_wp2_with fail
 have tX:=iL.o;have Ir:=HO.o.below Ra.o;have h6:W2.ownsRow N 192 4 (.slice o s.cz.aI.length cc) (s.cz.aI.length) (fH s.cz.aI):=Ir.rows.own 7 _ rfl;obtain⟨g,rfl, -,hfg,hgl⟩:=fP h6 (by have:=iL.o;omega);have hg1:wb≠g:=fun e=>Ir.rows.off 7 _ rfl (by rw[e];rfl);have hg2:b≠g:=fun e=>by have:=(h6.lt g rfl).1;omega
 have hg3:g≠wb:=fun e=>hg1 e.symm;have hg4:g≠b:=fun e=>hg2 e.symm;have iD:=aa Ir;have H6:=aa h6;clear Ir h6;refine zg 13 [g] (some 12) [(12,⟨fun _ v=>v= .slice (some ⟨g,0,none⟩) (s.cz.aI.length-1) cc,fun _ v Wx=>Wx.ownsRow N 192 4 (.slice (some ⟨g,0,none⟩) (s.cz.aI.length-1) cc) (s.cz.aI.length-1) ((fH s.cz.aI).take (x*4)++(fH s.cz.aI).drop (x*4+4))⟩)] ?_;simp only[zt];repeat ((first|refine zd ?_|refine zk ?_);simp only[zp])
 refine bn _ ϱ ϱ ⟨_,rfl⟩ (fun w' hE hF=>?_) (fun v Wa Wb ho hE=>?_) (fun v hv=>?_)
 ·have G8:Ext [] W2 w':=hE;refine bX 254 #[.slice (some ⟨g,0,none⟩) s.cz.aI.length cc,iv x,iv (x+1)] (by go_simp;try rfl) ?_;refine(IC N g _ cc x (fH s.cz.aI) w' (az (Ms:=[]) H6.o G8 ϕ) (JR _) (by have:=iL.o;omega) ϑ).mono ?_;exact zbB
 ·exact az (Ms:=[]) ho hE ϕ
 obtain rfl:v= .slice (some ⟨g,0,none⟩) (s.cz.aI.length-1) cc:=hv;simp only[zp];intro W3 hE hF;have nD:W3.ownsRow N 192 4 (.slice (some ⟨g,0,none⟩) (s.cz.aI.length-1) cc) (s.cz.aI.length-1) ((fH s.cz.aI).take (x*4)++(fH s.cz.aI).drop (x*4+4)):=hF _ (bu _);have eQ:Ext [g] W2 W3:=hE;have ο:=(eQ.block wb iD.o.rows.lt (by simpa using hg1)).trans iD.o.blk;obtain⟨c3,f3,l3⟩:=ae ο;have gP:=aa (af eQ (af nD ο));have nH:=aa (show Below N w W3 from(Ra.o.mono fD).trans ⟨eQ.os,eQ.tape,eQ.output,eQ.size,fun k hk=>eQ.block k (by have:=Ra.o.size;omega) (fun h=>by have:=(H6.o.lt g rfl).1;have:=dY.1 h;omega)⟩);clear hE hF eQ nD ο hg1 hg2 hg3 hg4 hfg hgl c2 f2 uI Χ;go_wp2_with fail
 go_end0
 have q0:=iL.o;simp only[gZ,bI,bJ,df];(repeat (first|rw[aB ϑ]|rw[aj ϑ]))
 refine⟨nH.o.setCell sS _,.inl ⟨rfl,rfl,⟨vt,vn,vw,vu,vr,vh,vk,.slice (some ⟨g,0,none⟩) (s.cz.aI.length-1) cc⟩,es,iD.o.put (i:=7) rfl ⟨192,4,.slice (some ⟨g,0,none⟩) (s.cz.aI.length-1) cc,s.cz.aI.length-1,(fH s.cz.aI).take (x*4)++(fH s.cz.aI).drop (x*4+4)⟩ gP.o.1 (fun m hm=>by rw[dY.1 hm];rfl) gP.o.2.1 (.inl rfl) (aG gP.o.2.2 _) (by simp only[gF,eF,Int.toNat_natCast];rw[List.length_eraseIdx_of_lt tX,show fH (s.cz.aI.eraseIdx x)=_ from tO _ 4 (fun _=>rfl) s.cz.aI x tX];rfl) (iD.o.es)⟩⟩
theorem vB (last:Int) (p:Int->Bool):(il last p).Nodup:=by
 unfold il;refine List.Pairwise.filter _ ?_;refine List.Pairwise.map _ (fun a b h=>?_) List.nodup_range;intro e;exact h ϑ
theorem Ij (last:Int) (p:Int->Bool):(il last p).Pairwise (fun a b=>(decide (a<=b))=true):=by
 unfold il;refine List.Pairwise.filter _ ?_;refine List.Pairwise.map _ (fun a b h=>?_) List.pairwise_le_range;simpa using h
theorem zH (p:Int->Bool):(il 4 p).length<=5:=by
 unfold il;refine gI (List.length_filter_le _ _) ?_;simp
theorem Ri (p:Int->Bool) (x:Int) (h0:0<=x) (h4:x<=4) (hx:(il 4 p).contains x=false):((il 4 p++[x]).mergeSort fun a b=>decide (a<=b))=il 4 fun i=>i==x ||(il 4 p).contains i:=by
 have hn: ¬x∈il 4 p:=by
  intro h;rw[List.contains_eq_mem,decide_eq_false_iff_not] at hx;exact hx h
 have hp:(il 4 p++[x]).mergeSort (fun a b=>decide (a<=b)) |>.Perm (il 4 fun i=>i==x ||(il 4 p).contains i):=by
  refine(List.mergeSort_perm _ _).trans ?_;rw[List.perm_ext_iff_of_nodup]
  ·intro a;rw[gz,dY];constructor
   ·rintro(h|rfl)
    ·have:=wu.1 h;exact wu.2 ⟨this.1,by simp[List.contains_eq_mem,h]⟩
    ·exact wu.2 ⟨⟨h0,h4⟩,by simp⟩
   ·intro h;replace h:=(wu.1 h).2;simp only[Bool.or_eq_true,beq_iff_eq,List.contains_eq_mem,dR] at h;exact h.symm
  ·rw[List.nodup_append];refine⟨vB 4 p,by simp,fun a ha b hb=>?_⟩;rw[dY.1 hb];intro e;exact hn (e▸ha)
  ·exact vB 4 _
 refine hp.eq_of_pairwise (le:=fun a b=>(decide (a<=b))=true) (fun a b _ _ h1 h2=>?_) ?_ (Ij 4 _)
 ·simp only[dR] at h1 h2;omega
 ·refine List.pairwise_mergeSort (fun a b c h1 h2=>?_) (fun a b=>?_) _
  ·simp only[dR] at*;omega
  ·simp only[Bool.or_eq_true,dR];omega
theorem erase_filter: ∀(l:List Int) (k:Nat) (x:Int),l.Nodup->l[k]? =some x->l.eraseIdx k=l.filter (fun i=>i !=x):=by
 intro l;induction l with
 |nil=>intro k x _ h;cases h
 |cons y l ih=>
  intro k x hn h;rw[List.nodup_cons] at hn;cases k with
  |zero=>
   simp only[List.getElem?_cons_zero,Option.some.injEq] at h;subst h;rw[List.eraseIdx_cons_zero,List.filter_cons,aj ϕ];symm;rw[List.filter_eq_self];intro a ha;simp only[bne_iff_ne,ne_eq];intro e;exact hn.1 (e▸ha)
  |succ k=>
   have hm:x∈l:=kX (i:=k) (by simpa using h);rw[List.eraseIdx_cons_succ,List.filter_cons,aB (by simp only[bne_iff_ne,ne_eq];intro e;exact hn.1 (e▸hm)),ih k x hn.2 (by simpa using h)]
theorem Kv (p:Int->Bool) (k:Nat) (x:Int) (h:(il 4 p)[k]? =some x):(il 4 p).eraseIdx k=il 4 fun i=>i !=x&&(il 4 p).contains i:=by
 rw[erase_filter _ k x (vB 4 p) h]
 conv=>lhs;unfold il
 conv=>rhs;unfold il
 rw[List.filter_filter];apply List.filter_congr;intro i hi;have:(List.filter p (List.map (fun(k:Nat)=>(k:Int)) (List.range (4+1:Int).toNat))).contains i=p i:=by
  rw[Bool.eq_iff_iff,List.contains_iff_mem,List.mem_filter];exact⟨fun h=>h.2,fun h=>⟨hi,h⟩⟩
 rw[this]
theorem Rc (l:List Int) (v:Value) (n:Int) (w:World) (hv:aK w v l):Ϝ 235 #[v,iv n] w (fun e w'=>w=w'/\((∃k:Nat,l[k]? =some n/\e= .returned (iv k))∨(l.contains n=false/\e= .returned (iv (-1))))):=by
 have Ib:=hv.len;obtain⟨o,c,rfl⟩:=hv.open;have HV:=aa hv;clear hv;go_enter Tryz.func235,Tryz.ntmps235;go_wp2;go_loop [4,5,8] (fun _ _ i=> ∃k:Nat,k<=l.length/\i= .int .i64 k/\(∀j (hj:j<l.length),j<k->l[j]≠n)) (fun _ _ i=>l.length-(intOf i).toNat)
 case atStart=>exact⟨0,bD _,rfl,fun j _ hj=>ϑ⟩
 case round=>
  obtain⟨k,hk,rfl,GX⟩:=hrel;have HN:=aa GX;clear GX;by_cases tX:k<l.length
  ·obtain⟨b,off,rfl,hb,hc0⟩:=aK.cell HV.o tX;by_cases he:l[k]=n
   ·have he':(n==l[k])=true:=by simp[he]
    have HE:=aa he;clear he;go_wp2;go_returns;exact⟨rfl,.inl ⟨k,by rw[<-HE.o];exact bZ tX,by simp⟩⟩
   ·have he':(n==l[k])=false:=by simp;omega
    exact zaI
  ·have XI:k=l.length:=ϑ;exact zcG
theorem Mg (N:Nat) (w:World) (wb:Nat) (s:iC) (V:SV) (es:List KE) (ns:Value) (x:Int) (hO:iW N w wb s V es) (hn:pU N w ns [x]) (hG:eD s):Ϝ 165 #[.pointer (some ⟨wb,0,none⟩),ns] w (oZ N wb (gZ s .mQ [x]) w):=by
 obtain⟨vt,vn,vw,vu,vr,vh,vk,vs⟩:=V;obtain⟨o,cc,rfl⟩: ∃o c,vu= .slice o s.heap.turns.length c:=aO (n:=s.heap.turns.length) (hO.rows.own 3 _ rfl);have HO:=aa hO;have fD:=dS hO;obtain⟨b,c,rfl,hbN,hcs⟩:=hn;have lb:b<w.heap.size:=ϑ;have lw:=hO.rows.lt;have sS:=hO.rows.base;have HW:Hid (∀W,Below N w W->b<W.heap.size/\ ∀(j:Nat) (h:j<[x].length),W.cell? ⟨b,j,none⟩=some (iv [x][j])):=aa (fun W hB=>⟨by have:=hB.size;omega,fun j h=>(gW (hB.block b hbN)).trans (hcs j h)⟩);obtain⟨c0,f0,l0⟩:=ae hO.blk;have mJ:=hcs 0 ϕ;simp only[ak] at mJ;have ψ:Hid (Ϙ w w):=aa (aC _ _);obtain⟨pt,hpt⟩:=hG.turns;have Ii:s.heap.turns.length<=5:=by rw[hpt];exact zH pt
 have hl4:=hG.heap.1;have HPT:=aa (af hpt hl4);have h6:w.ownsRow N 3 1 (.slice o s.heap.turns.length cc) s.heap.turns.length (ag s.heap.turns):=hO.rows.own 3 _ rfl;have H6:=aa h6;clear hpt hl4 h6;clear hO hcs hG;go_enter Tryz.func165,Tryz.ntmps165;go_wp2_with fail
 refine zg 9 [] none [] ?_;simp only[zt];repeat ((first|refine zd ?_|refine zk ?_);simp only[zp])
 intro W1 hE hF;have Qi:=aa (aV ψ.o hE.below);have IZ:=aa (Ext.below hE);clear hE hF c0 f0 mJ;obtain⟨c1,f1,l1⟩:=ae ((Qi.o.block _ lw).trans HO.o.blk);obtain⟨tH,XH⟩:=HW.o W1 (Qi.o.mono fD);have Ξ:=XH 0 ϕ;simp only[ak] at Ξ;clear XH;have Vt:=az (Ms:=[]) H6.o (Ext.ay Qi.o) ϕ;have HX:=aa (Rc s.heap.turns _ x W1 (aH.bV Vt));clear Vt;go_wp2_with fail
 refine HX.o.mono ?_;clear HX;rintro e w1 ⟨rfl,⟨k,hk,rfl⟩|⟨GX,rfl⟩⟩
 ·have tX:=(gY.1 hk).1;have HK:=aa hk;have ahK:((k:Int)<0)=False:=ϕ;clear hk;go_wp2_with fail
  refine(dK 7 [decide ((k:Int)<0)] W1 ϕ _ (by simp[dw]) _ _ rfl).mono ?_;rintro e W2 ⟨hb,⟨hc,rfl⟩|⟨hc,rfl⟩⟩;rotate_left
  ·exfalso;have h0:decide ((k:Int)<0)=false:=ϕ;rw[h0] at hc;exact absurd hc ϖ
  have Ra:=aa (aV Qi.o hb);clear hb hc c1 f1 Ξ tH ahK;obtain⟨c2,f2,l2⟩:=ae ((Ra.o.block _ lw).trans HO.o.blk);obtain⟨uI,XK⟩:=HW.o W2 (Ra.o.mono fD);have Χ:=XK 0 ϕ;simp only[ak] at Χ;clear XK;obtain⟨g,rfl, -,hfg,hgl⟩:=fP H6.o ϑ;have Vt:=az (Ms:=[]) H6.o (Ext.ay Ra.o) ϕ;have hg1:wb≠g:=fun e=>HO.o.rows.off 3 _ rfl (by rw[e];rfl);have HD:=aa (NR N g _ cc k (ag s.heap.turns) W2 Vt (iE _) tX ϑ);clear Vt hfg hgl;go_wp2_with fail
  refine HD.o.mono ?_;rintro e W3 ⟨rfl,nD,eQ⟩;have ο:=(eQ.block wb l2 (by simpa using hg1)).trans ((Ra.o.block _ lw).trans HO.o.blk);obtain⟨c3,f3,l3⟩:=ae ο;have gP:=aa (af eQ (af nD ο));have nH:=aa (show Below N w W3 from(Ra.o.mono fD).trans ⟨eQ.os,eQ.tape,eQ.output,eQ.size,fun k hk=>eQ.block k (by have:=Ra.o.size;omega) (fun h=>by have:=(H6.o.lt g rfl).1;have:=dY.1 h;omega)⟩);clear eQ nD ο hg1 HD c2 f2 uI Χ;go_wp2_with fail
  go_end0
  have hcx:s.heap.turns.contains x=true:=by rw[List.contains_iff_mem];exact kX HK.o
  simp only[gZ,List.getD_cons_zero,hcx];rw[aj ϕ];have hne:il s.heap.last (fun i=>i !=x&&s.heap.turns.contains i)=s.heap.turns.eraseIdx k:=by
   have hk:=HK.o;rw[HPT.o.2,HPT.o.1] at*
   exact(Kv pt k x hk).symm
  rw[hne];have hfe:ag (s.heap.turns.eraseIdx k)=(ag s.heap.turns).take k++(ag s.heap.turns).drop (k+1):=by
   unfold ag;rw[List.eraseIdx_eq_take_drop_succ,List.map_append,List.map_take,List.map_drop]
  refine⟨nH.o.setCell sS _,.inl ⟨rfl,rfl,⟨vt,vn,vw,.slice (some ⟨g,0,none⟩) (s.heap.turns.length-1) cc,vr,vh,vk,vs⟩,es,(HO.o.below Ra.o).put (i:=3) rfl ⟨3,1,.slice (some ⟨g,0,none⟩) (s.heap.turns.length-1) cc,s.heap.turns.length-1,(ag s.heap.turns).take k++(ag s.heap.turns).drop (k+1)⟩ gP.o.1 (fun m hm=>by rw[dY.1 hm];rfl) gP.o.2.1 (.inl rfl) (aG gP.o.2.2 _) ?_ HO.o.es⟩⟩;simp only[gF,gK];rw[List.length_eraseIdx_of_lt tX,hfe];rfl
 ·have HN:=aa GX;clear GX;go_wp2_with fail
  refine(dK 7 [true] W1 ϕ _ (by simp[dw]) _ _ rfl).mono ?_;rintro e W2 ⟨hb,⟨hc,rfl⟩|⟨hc,rfl⟩⟩
  ·exfalso;simp at hc
  simp only[gZ,List.getD_cons_zero,HN.o];rw[aB True.intro];exact⟨rfl,(aV Qi.o hb).mono fD,.inr ⟨by simp,rfl⟩⟩
theorem TD (N:Nat) (w:World) (wb:Nat) (s:iC) (V:SV) (es:List KE) (ns:Value) (x:Int) (hO:iW N w wb s V es) (hn:pU N w ns [x]) (hG:eD s) (hx:0<=x):Ϝ 164 #[.pointer (some ⟨wb,0,none⟩),ns] w (oZ N wb (gZ s .turn [x]) w):=by
 obtain⟨vt,vn,vw,vu,vr,vh,vk,vs⟩:=V;obtain⟨o,cc,rfl⟩: ∃o c,vu= .slice o s.heap.turns.length c:=aO (n:=s.heap.turns.length) (hO.rows.own 3 _ rfl);have HO:=aa hO;have fD:=dS hO;obtain⟨b,c,rfl,hbN,hcs⟩:=hn;have lb:b<w.heap.size:=ϑ;have lw:=hO.rows.lt;have sS:=hO.rows.base;have HW:Hid (∀W,Below N w W->b<W.heap.size/\ ∀(j:Nat) (h:j<[x].length),W.cell? ⟨b,j,none⟩=some (iv [x][j])):=aa (fun W hB=>⟨by have:=hB.size;omega,fun j h=>(gW (hB.block b hbN)).trans (hcs j h)⟩);obtain⟨c0,f0,l0⟩:=ae hO.blk;have mJ:=hcs 0 ϕ;simp only[ak] at mJ;have Qi:Hid (Ϙ w w):=aa (aC _ _);obtain⟨pt,hpt⟩:=hG.turns;have Ii:s.heap.turns.length<=5:=by rw[hpt];exact zH pt
 have hl4:=hG.heap.1;have HPT:=aa (af hpt hl4);have h6:w.ownsRow N 3 1 (.slice o s.heap.turns.length cc) s.heap.turns.length (ag s.heap.turns):=hO.rows.own 3 _ rfl;have H6:=aa h6;clear hpt h6;clear hO hcs hG;go_enter Tryz.func164,Tryz.ntmps164;go_wp2_with fail
 refine(vC x wb s _ w ((Qi.o.block _ lw).trans HO.o.blk) hl4).mono ?_;rintro e W1 ⟨hb,⟨hc,rfl⟩|⟨hc,rfl⟩⟩;rotate_left
 ·simp at hc;exact zag
 simp at hc;have ψ:=aa (aV Qi.o hb);have IZ:=aa hb;have iL:=aa hc;clear hb hc c0 f0 mJ;obtain⟨c1,f1,l1⟩:=ae ((ψ.o.block _ lw).trans HO.o.blk);obtain⟨tH,XH⟩:=HW.o W1 (ψ.o.mono fD);have Ξ:=XH 0 ϕ;simp only[ak] at Ξ;clear XH;go_wp2_with fail
 refine zg 9 [] none [] ?_;simp only[zt];repeat ((first|refine zd ?_|refine zk ?_);simp only[zp])
 intro W2 hE hF;have Ra:=aa (aV ψ.o hE.below);have HS2:=aa (Ext.below hE);clear hE hF c1 f1 tH Ξ;obtain⟨c2,f2,l2⟩:=ae ((Ra.o.block _ lw).trans HO.o.blk);obtain⟨uI,XK⟩:=HW.o W2 (Ra.o.mono fD);have Χ:=XK 0 ϕ;simp only[ak] at Χ;clear XK;have Vt:=az (Ms:=[]) H6.o (Ext.ay Ra.o) ϕ;have HX:=aa (gD s.heap.turns _ x W2 (aH.bV Vt));clear Vt;go_wp2_with fail
 refine HX.o.mono ?_;clear HX;rintro e W3 ⟨rfl,hb⟩;have δ:=aa (aV Ra.o hb);obtain⟨q,hq⟩: ∃q,s.heap.turns.contains x=q:=⟨_,rfl⟩;rw[hq];have HQQ:=aa hq;clear hb hq c2 f2 uI Χ;obtain⟨c3,f3,l3⟩:=ae ((δ.o.block _ lw).trans HO.o.blk);obtain⟨F5,gQ⟩:=HW.o W3 (δ.o.mono fD);have n30:=gQ 0 ϕ;simp only[ak] at n30;clear gQ;go_wp2_with fail
 refine(dK 6 [q] W3 ϕ _ (by simp[dw]) _ _ rfl).mono ?_;rintro e W4 ⟨hb,⟨hc,rfl⟩|⟨hc,rfl⟩⟩;rotate_left
 ·obtain rfl:q=true:=(by cases q <;>simp_all);have q0:=iL.o;have hqq:=HQQ.o;simp only[gZ,List.getD_cons_zero,hqq];rw[aj ϑ,aB True.intro];exact⟨rfl,(aV δ.o hb).mono fD,.inr ⟨by simp,rfl⟩⟩
 obtain rfl:q=false:=(by cases q <;>simp_all);have fV:=aa (aV δ.o hb);have PR:=aa hb;have pg:=aa hc;clear hb hc c3 f3 F5 n30;obtain⟨c4,f4,l4⟩:=ae ((fV.o.block _ lw).trans HO.o.blk);obtain⟨LX,je⟩:=HW.o W4 (fV.o.mono fD);have n40:=je 0 ϕ;simp only[ak] at n40;clear je;go_wp2_with fail
 obtain⟨Ms,γ⟩: ∃Ms,Ms=(Value.slice o s.heap.turns.length cc).ownBlock.toList:=⟨_,rfl⟩;have hO4:=HO.o.below fV.o;have Ν:wb∉Ms:=fun h=>hO4.rows.off 3 _ rfl (by rw[γ] at h;exact bY.1 h);have hm2:b∉Ms:=fun h=>by have:=((hO4.rows.own 3 _ rfl).lt b (by rw[γ] at h;exact bY.1 h)).1;omega
 have pY: ∀m∈Ms,m<W4.heap.size:=fun m h=>((hO4.rows.own 3 _ rfl).lt m (by rw[γ] at h;exact bY.1 h)).2;have HM:=aa γ;have iD:=aa hO4;clear γ hO4;refine zg 12 Ms (some 11) [(10,Spec.slice W4.heap.size #[iv x] 3 1),(11,⟨fun _ v=> ∃o2 c2,v= .slice o2 (s.heap.turns.length+1) c2,fun _ v Wx=>Wx.ownsRow N 3 1 v (s.heap.turns.length+1) (ag s.heap.turns++[iv x])/\(v.ownBlock=(Value.slice o s.heap.turns.length cc).ownBlock∨ ∃q,v.ownBlock=some q/\W4.heap.size<=q)⟩)] ?_;simp only[zt];repeat ((first|refine zd ?_|refine zk ?_);simp only[zp])
 refine dI W4.heap.size _ _ 1 ϱ (ah _) ϱ pY ϕ (fun W hW=>by go_simp;try rfl) (fun b6=>?_);simp only[zp];repeat ((first|refine zd ?_|refine zk ?_);simp only[zp])
 refine bn _ ϱ ϱ (by exact⟨.slice none (s.heap.turns.length+1) 0,none,0,rfl⟩) (fun W6 hE hF=>?_) (fun v Wa Wb ho hE=>?_) (fun v hv=>?_)
 ·have G8:Ext [] W4 W6:=hE;obtain⟨b',hb',hge,μ⟩:=hF _ (bu _) ϰ;cases hb';have YM:W6.ownsRow N 3 1 (.slice o s.heap.turns.length cc) s.heap.turns.length (ag s.heap.turns):=az (Ms:=[]) (iD.o.rows.own 3 _ rfl) G8 ϕ;have ι:aH 1 W6 (.slice (some ⟨b6,0,none⟩) 1 1) 1 ([iv x]):=aH.bS 1 1 μ rfl ϖ;refine Does.mono (cZ pq ϱ ϱ YM ϱ ι (one_one x) ϑ ϑ (by have:=G8.size;have:=fV.o.size;omega)) ?_;exact zat
 ·exact zaP
 obtain⟨o7,c7,rfl⟩:=hv;simp only[zp];intro W5 hE hF;obtain⟨nD,xB⟩:=hF _ (bu _);have eQ:Ext Ms W4 W5:=hE;have ο:=(eQ.block wb iD.o.rows.lt Ν).trans iD.o.blk;obtain⟨c5,f5,l5⟩:=ae ο;have gP:=aa (af eQ (af nD (af xB ο)));have Az:Below N w W5:=(fV.o.mono fD).trans ⟨eQ.os,eQ.tape,eQ.output,eQ.size,fun k hk=>eQ.block k (by have:=fV.o.size;omega) (fun h=>by have:=((iD.o.rows.own 3 _ rfl).lt k (by rw[HM.o] at h;exact bY.1 h)).1;omega)⟩;have nH:=aa Az;clear hE hF eQ nD xB ο Az Ν hm2 pY c4 f4 LX n40;go_upto_region 3 with(fail)
 refine dz fun W6 nL=>?_;have ZC:iW N W6 wb (gK s {s.heap with turns:=s.heap.turns++[x]}) ⟨vt,vn,vw,.slice o7 (s.heap.turns.length+1) c7,vr,vh,vk,vs⟩ es:=by
  rw[nL];exact iD.o.put (i:=3) rfl ⟨3,1,.slice o7 (s.heap.turns.length+1) c7,s.heap.turns.length+1,ag s.heap.turns++[iv x]⟩ gP.o.1 (fun m hm=>by rw[HM.o] at hm;exact bY.1 hm) gP.o.2.1 gP.o.2.2.1 (aG gP.o.2.2.2 _) (by simp[gF,gK,ag]) iD.o.es
 have nZ:=aa (show Below N w W6 from by rw[nL];exact nH.o.setCell sS _);obtain⟨c6,f6,l6⟩:=ae ZC.blk;have h7:W6.ownsRow N 3 1 (.slice o7 (s.heap.turns.length+1) c7) (s.heap.turns++[x]).length (ag (s.heap.turns++[x])):=ZC.rows.own 3 _ rfl;rw[bR,List.length_singleton] at h7;obtain⟨g,rfl, -,hfg,hgl⟩:=fP h7 ϑ;obtain⟨cur,h7b,h7c,h7d,h7e,h7f,h7g⟩: ∃cur,N<=g/\W6.heap[g]? =some (.cells cur 3 (0,0))/\s.heap.turns.length+1<=c7/\c7<=maxLen/\cur.size=c7*1/\cur.toList.take ((s.heap.turns.length+1)*1)=ag (s.heap.turns++[x]):=by
  obtain⟨h1,⟨h2,_⟩|⟨g',cc',cs,h2,h3,h4,h5,h6,h7,h8⟩⟩:=h7
  ·cases h2
  ·cases h2;exact⟨cs,h3,h4,h5,h6,h7,h8⟩
 have hHo:=holds_of_blockI (ss:=s.heap.turns++[x]) h7c (by rw[bR,List.length_singleton, <-Nat.mul_one (s.heap.turns.length+1)];exact h7g);have hsort:=Go.Proofs.Tryz.slices_Sort_int g 0 c7 (s.heap.turns++[x]) W6 hHo hgl (by rw[bR,List.length_singleton];omega);rw[bR,List.length_singleton] at hsort;have I4:=aa (af ZC (af h7b (af h7c (af h7d (af h7e h7f)))));have κ:=aa hsort;clear nL ZC h7 h7b h7c h7d h7e h7f h7g hHo hsort c5 f5;go_wp2_with fail
 refine κ.o.mono ?_;rintro e W9 ⟨rfl,n9,os,rfl⟩;(try go_wp2_with fail)
 go_end0
 have q0:=iL.o;have q1:=pg.o;have hqq:=HQQ.o;simp only[gZ,List.getD_cons_zero,hqq];rw[aj ϑ,aj ϕ];have hne:((s.heap.turns++[x]).mergeSort fun a b=>decide (a<=b))=il s.heap.last (fun i=>i==x ||s.heap.turns.contains i):=by
  rw[HPT.o.2,HPT.o.1] at*
  exact Ri pt x hx ϑ hqq
 have Ib:((s.heap.turns++[x]).mergeSort fun a b=>decide (a<=b)).length=(s.heap.turns++[x]).length:=List.length_mergeSort _;have Fw:=ownsRow_sortedI (n:=n9) (os:=os) (ss:=s.heap.turns++[x]) Ib I4.o.2.1 I4.o.2.2.1 (by rw[bR,List.length_singleton];exact I4.o.2.2.2.1) I4.o.2.2.2.2.1 I4.o.2.2.2.2.2;have hgb:=grownBy_sortedI (w:=W6) (g:=g) (n:=n9) (os:=os) ((s.heap.turns++[x]).mergeSort fun a b=>decide (a<=b)).toArray;have Vp:Ext [g] W6 (Go.Sort.grow (Go.Sort.putRow (Value.int .i64) (Go.Sort.ahead W6 n9) g 0 ((s.heap.turns++[x]).mergeSort fun a b=>decide (a<=b)).toArray) os):=⟨hgb.os,hgb.tape,hgb.output,hgb.size,fun k hk hm=>hgb.block k hk (fun e=>hm (by simp[gV e]))⟩;refine⟨nZ.o.trans ⟨Vp.os,Vp.tape,Vp.output,Vp.size,fun k hk=>Vp.block k (by have:=nZ.o.size;omega) (fun h=>by have:=I4.o.2.1;have:=dY.1 h;omega)⟩,.inl ⟨rfl,rfl,_,es,I4.o.1.over (i:=3) rfl (g:=g) rfl Vp (ag ((s.heap.turns++[x]).mergeSort fun a b=>decide (a<=b))) ?_ ?_ rfl HO.o.es⟩⟩
 ·have h:=Fw;rw[bR,List.length_singleton] at h;show World.ownsRow _ N 3 1 (.slice (some ⟨g,0,none⟩) (s.heap.turns.length+1) c7) (s.heap.turns++[x]).length _;rw[bR,List.length_singleton];exact h
 ·rw[<-hne];simp only[gF,gK];rw[Ib];rfl
structure lK (w:World) (s:iC) (V:SV) (es:List KE):Prop where
 uH:dH w V.uH s.led.field.ax
 QN:bB w V.QN s.led.notes
 bM:bF w V.bM s.heap.bM
 Ed:aK w V.Ed s.heap.turns
 LU:bB w V.LU s.heap.readings
 cz:pJ w V.hps V.cks V.trs es s.cz
theorem lK.below {w W:World} {s:iC} {V:SV} {es:List KE} (h:lK w s V es) {B:Nat} (hb:Below B w W) (hB:w.heap.size<=B):lK W s V es:=
 ⟨h.uH.below hb hB,h.QN.below hb hB,h.bM.below hb hB,h.Ed.below hb hB,h.LU.below hb hB,h.cz.below hb hB⟩
theorem iW.st {N:Nat} {w:World} {wb:Nat} {s:iC} {V:SV} {es:List KE} (h:iW N w wb s V es):lK w s V es where
 uH:=aH.bV (h.rows.own 0 _ rfl)
 QN:=aH.bV (h.rows.own 1 _ rfl)
 bM:=aH.bV (h.rows.own 2 _ rfl)
 Ed:=aH.bV (h.rows.own 3 _ rfl)
 LU:=aH.bV (h.rows.own 4 _ rfl)
 cz:=⟨aH.bV (h.rows.own 5 _ rfl),⟨aH.bV (h.rows.own 6 _ rfl),fun e he=>by
  obtain⟨k,hk,rfl⟩:=kD he;exact aH.bV (h.rows.own (8+k) _ (vY s V es (bZ hk)))⟩,h.es,aH.bV (h.rows.own 7 _ rfl)⟩
def aQ (s:iC):Int:=
 if eG s.led.field true≠0 then 11 else if gH s.led≠0 then 9 else if sK s.heap≠0 then 3
 else if iM.iw s.heap s.heap.turns≠0 then 11 else if iM.mf s.heap s.heap.turns=2 then 9
 else if nM s.cz≠0 then 3 else if gT s.cz true≠0 then 11 else 0
def abN (s:iC) (w:World) (e:Ending) (w':World):Prop:=
 Ϙ w w'/\((aQ s=0/\e= .returned (.tuple #[]))∨(aQ s≠0/\e= .panicked (ji (aQ s))))
theorem abp (f:bG) (tv:Value) (w:World) (ht:dH w tv f.ax):Ϝ 40 #[fv f tv] w (fun e w'=>Ϙ w w'/\ ∃v,e= .returned (.tuple #[v,iv (eG f true)])):=by
 refine(zi f tv w ht).mono ?_;rintro e w' ⟨hb,⟨_,rfl⟩|⟨h0,v,rfl,_⟩⟩
 ·exact⟨hb,_,rfl⟩
 ·exact⟨hb,v,by rw[h0]⟩
theorem Q9 (c:bE) (hv lZ tv:Value) (es:List KE) (w:World) (hc:pJ w hv lZ tv es c):Ϝ 45 #[kv hv lZ tv] w (fun e w'=>Ϙ w w'/\ ∃v u,e= .returned (.tuple #[v,u,iv (gT c true)])):=by
 refine(vg c hv lZ tv es w hc).mono ?_;rintro e w' ⟨hb,⟨_,rfl⟩|⟨h0,v,u,rfl,_⟩⟩
 ·exact⟨hb,_,_,rfl⟩
 ·exact⟨hb,v,u,by rw[h0]⟩
theorem Ql (s:iC) (V:SV) (es:List KE) (w:World) (hS:lK w s V es):Ϝ 102 #[.agg (bP s V)] w (abN s w):=by
 obtain⟨vt,vn,vw,vu,vr,vh,vk,vs⟩:=V;have HS:Hid (∀W,Ϙ w W->lK W s ⟨vt,vn,vw,vu,vr,vh,vk,vs⟩ es):=aa (fun W hb=>hS.below hb (ah _));obtain⟨w0,hw0⟩: ∃w0,w0=w.alloc (.cells (bP s ⟨vt,vn,vw,vu,vr,vh,vk,vs⟩) 62):=⟨_,rfl⟩;have ψ:Hid (Ϙ w w0):=aa (by rw[hw0];exact ai (aC _ _) _)
 have HK0:Hid (w0.heap[w.heap.size]? =some (.cells (bP s ⟨vt,vn,vw,vu,vr,vh,vk,vs⟩) 62 (0,0))):=aa (by rw[hw0];exact av _ _);have ν:w0.heap.size=w.heap.size+1:=by rw[hw0];simp
 clear hS;go_enter Tryz.func102,Tryz.ntmps102;go_upto_region 1 with(fail)
 refine dz fun W1 σ=>?_;rw[<-hw0] at σ;subst σ;obtain⟨c0,f0,l0⟩:=ae HK0.o;clear hw0;go_wp2_with fail
 have HB:=ψ;have HK:=HK0;refine(abp s.led.field _ _ (HS.o _ ψ.o).uH).mono ?_;rintro e X1 ⟨hb,v,rfl⟩;have Qi:=aa (aV HB.o hb);have PU:=aa ((hb.block _ l0).trans HK.o);obtain⟨c1,f1,l1⟩:=ae PU.o;clear hb c0 f0;obtain⟨q0,hq0⟩: ∃q,eG s.led.field true=q:=⟨_,rfl⟩;rw[hq0];have iL:=aa hq0;clear hq0;go_wp2_with fail
 refine(dK 11 [q0 !=0] X1 ϕ _ (by simp[dw]) _ _ rfl).mono ?_;rintro e X2 ⟨hb,⟨hc,rfl⟩|⟨hc,rfl⟩⟩;rotate_left
 ·have hz:q0≠0:=by simpa using hc
  have hv:aQ s=11:=by
   unfold aQ;simp only[iL.o];rw[aB hz]
  exact⟨rfl,aV Qi.o hb,.inr ⟨by rw[hv];decide,by rw[hv]⟩⟩
 have hz:q0=0:=by simpa using hc
 have HZ0:=aa hz;have Ra:=aa (aV Qi.o hb);have Tn:=aa ((hb.block _ l1).trans PU.o);obtain⟨c2,f2,l2⟩:=ae Tn.o;clear hb hc hz c1 f1;go_wp2_with fail
 refine(Be s.led vt vn _ (HS.o _ Ra.o).uH (HS.o _ Ra.o).QN).mono ?_;rintro e X3 ⟨rfl,hb⟩;have δ:=aa (aV Ra.o hb);have LJ:=aa ((hb.block _ l2).trans Tn.o);obtain⟨c3,f3,l3⟩:=ae LJ.o;clear hb c2 f2;obtain⟨q1,hq1⟩: ∃q,gH s.led=q:=⟨_,rfl⟩;rw[hq1];have pg:=aa hq1;clear hq1;go_wp2_with fail
 refine(dK 9 [q1 !=0] X3 ϕ _ (by simp[dw]) _ _ rfl).mono ?_;rintro e X4 ⟨hb,⟨hc,rfl⟩|⟨hc,rfl⟩⟩;rotate_left
 ·have hz:q1≠0:=by simpa using hc
  have hv:aQ s=9:=by
   unfold aQ;simp only[iL.o,pg.o];rw[aj (by have:=HZ0.o;omega)];rw[aB hz]
  exact⟨rfl,aV δ.o hb,.inr ⟨by rw[hv];decide,by rw[hv]⟩⟩
 have hz:q1=0:=by simpa using hc
 have HZ1:=aa hz;have fV:=aa (aV δ.o hb);have HK4:=aa ((hb.block _ l3).trans LJ.o);obtain⟨c4,f4,l4⟩:=ae HK4.o;clear hb hc hz c3 f3;go_wp2_with fail
 refine(iM.sN s.heap vw vu vr _ (HS.o _ fV.o).bM (HS.o _ fV.o).Ed (HS.o _ fV.o).LU).mono ?_;rintro e X5 ⟨rfl,hb⟩;have mO:=aa (aV fV.o hb);have OJ:=aa ((hb.block _ l4).trans HK4.o);obtain⟨c5,f5,l5⟩:=ae OJ.o;clear hb c4 f4;obtain⟨q2,hq2⟩: ∃q,sK s.heap=q:=⟨_,rfl⟩;rw[hq2];have uu:=aa hq2;clear hq2;go_wp2_with fail
 refine(dK 3 [q2 !=0] X5 ϕ _ (by simp[dw]) _ _ rfl).mono ?_;rintro e X6 ⟨hb,⟨hc,rfl⟩|⟨hc,rfl⟩⟩;rotate_left
 ·have hz:q2≠0:=by simpa using hc
  have hv:aQ s=3:=by
   unfold aQ;simp only[iL.o,pg.o,uu.o];rw[aj (by have:=HZ0.o;omega)];rw[aj (by have:=HZ1.o;omega)];rw[aB hz]
  exact⟨rfl,aV mO.o hb,.inr ⟨by rw[hv];decide,by rw[hv]⟩⟩
 have hz:q2=0:=by simpa using hc
 have HZ2:=aa hz;have nZ:=aa (aV mO.o hb);have HK6:=aa ((hb.block _ l5).trans OJ.o);obtain⟨c6,f6,l6⟩:=ae HK6.o;clear hb hc hz c5 f5;go_wp2_with fail
 refine(iM.zY s.heap vw vu vr vu s.heap.turns _ (HS.o _ nZ.o).bM (HS.o _ nZ.o).Ed (HS.o _ nZ.o).LU (HS.o _ nZ.o).Ed).mono ?_;rintro e X7 ⟨rfl,hb⟩;have wK:=aa (aV nZ.o hb);have uw:=aa ((hb.block _ l6).trans HK6.o);obtain⟨c7,f7,l7⟩:=ae uw.o;clear hb c6 f6;obtain⟨q3,hq3⟩: ∃q,iM.iw s.heap s.heap.turns=q:=⟨_,rfl⟩;rw[hq3];have Eb:=aa hq3;clear hq3;obtain⟨q4,hq4⟩: ∃q,iM.mf s.heap s.heap.turns=q:=⟨_,rfl⟩;rw[hq4];have PS:=aa hq4;clear hq4;go_wp2_with fail
 refine(dK 11 [q3 !=0] X7 ϕ _ (by simp[dw]) _ _ rfl).mono ?_;rintro e X8 ⟨hb,⟨hc,rfl⟩|⟨hc,rfl⟩⟩;rotate_left
 ·have hz:q3≠0:=by simpa using hc
  have hv:aQ s=11:=by
   unfold aQ;simp only[iL.o,pg.o,uu.o,Eb.o,PS.o];rw[aj (by have:=HZ0.o;omega)];rw[aj (by have:=HZ1.o;omega)];rw[aj (by have:=HZ2.o;omega)];rw[aB hz]
  exact⟨rfl,aV wK.o hb,.inr ⟨by rw[hv];decide,by rw[hv]⟩⟩
 have hz:q3=0:=by simpa using hc
 have HZ3:=aa hz;have nH:=aa (aV wK.o hb);have HK8:=aa ((hb.block _ l7).trans uw.o);obtain⟨c8,f8,l8⟩:=ae HK8.o;clear hb hc hz c7 f7;go_wp2_with fail
 go_wp2_with fail
 refine(dK 9 [q4==2] X8 ϕ _ (by simp[dw]) _ _ rfl).mono ?_;rintro e X9 ⟨hb,⟨hc,rfl⟩|⟨hc,rfl⟩⟩;rotate_left
 ·have hz:q4=2:=by simpa using hc
  have hv:aQ s=9:=by
   unfold aQ;simp only[iL.o,pg.o,uu.o,Eb.o,PS.o];rw[aj (by have:=HZ0.o;omega)];rw[aj (by have:=HZ1.o;omega)];rw[aj (by have:=HZ2.o;omega)];rw[aj (by have:=HZ3.o;omega)];rw[aB hz]
  exact⟨rfl,aV nH.o hb,.inr ⟨by rw[hv];decide,by rw[hv]⟩⟩
 have hz:q4≠2:=by simpa using hc
 have HZ4:=aa hz;have oJ:=aa (aV nH.o hb);have zZ:=aa ((hb.block _ l8).trans HK8.o);obtain⟨c9,f9,l9⟩:=ae zZ.o;clear hb hc hz c8 f8;go_wp2_with fail
 refine(Co s.cz vh vk vs es _ (HS.o _ oJ.o).cz).mono ?_;rintro e X10 ⟨rfl,hb⟩;have SN:=aa (aV oJ.o hb);have afC:=aa ((hb.block _ l9).trans zZ.o);obtain⟨c10,f10,l10⟩:=ae afC.o;clear hb c9 f9;obtain⟨q5,hq5⟩: ∃q,nM s.cz=q:=⟨_,rfl⟩;rw[hq5];have HQ5:=aa hq5;clear hq5;go_wp2_with fail
 refine(dK 3 [q5 !=0] X10 ϕ _ (by simp[dw]) _ _ rfl).mono ?_;rintro e X11 ⟨hb,⟨hc,rfl⟩|⟨hc,rfl⟩⟩;rotate_left
 ·have hz:q5≠0:=by simpa using hc
  have hv:aQ s=3:=by
   unfold aQ;simp only[iL.o,pg.o,uu.o,Eb.o,PS.o,HQ5.o];rw[aj (by have:=HZ0.o;omega)];rw[aj (by have:=HZ1.o;omega)];rw[aj (by have:=HZ2.o;omega)];rw[aj (by have:=HZ3.o;omega)];rw[aj (by have:=HZ4.o;omega)];rw[aB hz]
  exact⟨rfl,aV SN.o hb,.inr ⟨by rw[hv];decide,by rw[hv]⟩⟩
 have hz:q5=0:=by simpa using hc
 have HZ5:=aa hz;have Y8:=aa (aV SN.o hb);have afB:=aa ((hb.block _ l10).trans afC.o);obtain⟨c11,f11,l11⟩:=ae afB.o;clear hb hc hz c10 f10;go_wp2_with fail
 refine(Q9 s.cz vh vk vs es _ (HS.o _ Y8.o).cz).mono ?_;rintro e X12 ⟨hb,v1,v2,rfl⟩;have afN:=aa (aV Y8.o hb);have afA:=aa ((hb.block _ l11).trans afB.o);obtain⟨c12,f12,l12⟩:=ae afA.o;clear hb c11 f11;obtain⟨q6,hq6⟩: ∃q,gT s.cz true=q:=⟨_,rfl⟩;rw[hq6];have HQ6:=aa hq6;clear hq6;go_wp2_with fail
 refine(dK 11 [q6 !=0] X12 ϕ _ (by simp[dw]) _ _ rfl).mono ?_;rintro e X13 ⟨hb,⟨hc,rfl⟩|⟨hc,rfl⟩⟩;rotate_left
 ·have hz:q6≠0:=by simpa using hc
  have hv:aQ s=11:=by
   unfold aQ;simp only[iL.o,pg.o,uu.o,Eb.o,PS.o,HQ5.o,HQ6.o];rw[aj (by have:=HZ0.o;omega)];rw[aj (by have:=HZ1.o;omega)];rw[aj (by have:=HZ2.o;omega)];rw[aj (by have:=HZ3.o;omega)];rw[aj (by have:=HZ4.o;omega)];rw[aj (by have:=HZ5.o;omega)];rw[aB hz]
  exact⟨rfl,aV afN.o hb,.inr ⟨by rw[hv];decide,by rw[hv]⟩⟩
 have hz:q6=0:=by simpa using hc
 have HZ6:=aa hz;have ajF:=aa (aV afN.o hb);have ajk:=aa ((hb.block _ l12).trans afA.o);obtain⟨c13,f13,l13⟩:=ae ajk.o;clear hb hc hz c12 f12;(try go_wp2_with fail)
 go_end0
 have hv:aQ s=0:=by
  unfold aQ;simp only[iL.o,pg.o,uu.o,Eb.o,PS.o,HQ5.o,HQ6.o];rw[aj (by have:=HZ0.o;omega)];rw[aj (by have:=HZ1.o;omega)];rw[aj (by have:=HZ2.o;omega)];rw[aj (by have:=HZ3.o;omega)];rw[aj (by have:=HZ4.o;omega)];rw[aj (by have:=HZ5.o;omega)];rw[aj (by have:=HZ6.o;omega)]
 exact⟨ajF.o,.inl ⟨hv,rfl⟩⟩
theorem agP:gJ Tryz.prog 51 50 (rv (0,0)) 2 16:=⟨Tryz.underlying51,by kernel_rfl,rfl,by omega⟩
theorem IJ (n:Nat) (xs:List Value) (v:Value) (w:World) (hv:aH 5 w v n xs) (h1: ∀u∈xs,u.oneCell'=true) (Ib:n<=1000):
 Ϝ 176 #[v] w (Bc 186 5 n xs w):=by
 obtain⟨o,c,rfl⟩:=aH.open hv;have HV:=aa hv;have H1:=aa h1;clear h1;have hnil:=fun(w:World) a n c=>Lib.run_eql_slice_nil (P:=Tryz.prog) w 43 186 a n c 0 0 Tryz.underlying43;cases o with
 |none=>
  obtain⟨hl,o,c',h0,h1,h2,h3,h4⟩:=hv;cases h0;obtain rfl:c=0:=h3 rfl;obtain rfl:n=0:=ϑ;have hx:xs=[]:=jh (by simpa using hl);subst hx;clear HV H1;go_enter Tryz.func176,Tryz.ntmps176;exact zaH
 |some a=>
  obtain⟨b,off,sp⟩:=a;obtain rfl:sp=none:=zaQ;clear hv;go_enter Tryz.func176,Tryz.ntmps176;go_wp2_with (at_builtin;refine eP rfl _ _ TI rfl w.heap.size (.slice (some ⟨w.heap.size,0,none⟩) 0 0) 0 [] rfl ?_ (.slice (some ⟨b,off,none⟩) n c) n xs rfl ?_ H1.o ϑ ϑ ϕ ?_)
  ·exact zaU
  ·exact aH.alloc HV.o _
  ·exact zam
theorem Ez (n:Nat) (xs:List Value) (v:Value) (w:World) (hv:aH 3 w v n xs) (h1: ∀u∈xs,u.oneCell'=true) (Ib:n<=1000):
 Ϝ 177 #[v] w (Bc 188 3 n xs w):=by
 obtain⟨o,c,rfl⟩:=aH.open hv;have HV:=aa hv;have H1:=aa h1;clear h1;have hnil:=fun(w:World) a n c=>Lib.run_eql_slice_nil (P:=Tryz.prog) w 47 188 a n c 0 0 Tryz.underlying47;cases o with
 |none=>
  obtain⟨hl,o,c',h0,h1,h2,h3,h4⟩:=hv;cases h0;obtain rfl:c=0:=h3 rfl;obtain rfl:n=0:=ϑ;have hx:xs=[]:=jh (by simpa using hl);subst hx;clear HV H1;go_enter Tryz.func177,Tryz.ntmps177;exact zaH
 |some a=>
  obtain⟨b,off,sp⟩:=a;obtain rfl:sp=none:=zaQ;clear hv;go_enter Tryz.func177,Tryz.ntmps177;go_wp2_with (at_builtin;refine eP rfl _ _ Xn rfl w.heap.size (.slice (some ⟨w.heap.size,0,none⟩) 0 0) 0 [] rfl ?_ (.slice (some ⟨b,off,none⟩) n c) n xs rfl ?_ H1.o ϑ ϑ ϕ ?_)
  ·exact zaU
  ·exact aH.alloc HV.o _
  ·exact zam
theorem IG (n:Nat) (xs:List Value) (v:Value) (w:World) (hv:aH 2 w v n xs) (h1: ∀u∈xs,u.oneCell'=true) (Ib:n<=1000):
 Ϝ 178 #[v] w (Bc 50 2 n xs w):=by
 obtain⟨o,c,rfl⟩:=aH.open hv;have HV:=aa hv;have H1:=aa h1;clear h1;have hnil:=fun(w:World) a n c=>Lib.run_eql_slice_nil (P:=Tryz.prog) w 51 50 a n c 0 0 Tryz.underlying51;cases o with
 |none=>
  obtain⟨hl,o,c',h0,h1,h2,h3,h4⟩:=hv;cases h0;obtain rfl:c=0:=h3 rfl;obtain rfl:n=0:=ϑ;have hx:xs=[]:=jh (by simpa using hl);subst hx;clear HV H1;go_enter Tryz.func178,Tryz.ntmps178;exact zaH
 |some a=>
  obtain⟨b,off,sp⟩:=a;obtain rfl:sp=none:=zaQ;clear hv;go_enter Tryz.func178,Tryz.ntmps178;go_wp2_with (at_builtin;refine eP rfl _ _ agP rfl w.heap.size (.slice (some ⟨w.heap.size,0,none⟩) 0 0) 0 [] rfl ?_ (.slice (some ⟨b,off,none⟩) n c) n xs rfl ?_ H1.o ϑ ϑ ϕ ?_)
  ·exact zaU
  ·exact aH.alloc HV.o _
  ·exact zam
theorem Ey (n:Nat) (xs:List Value) (v:Value) (w:World) (hv:aH 3 w v n xs) (h1: ∀u∈xs,u.oneCell'=true) (Ib:n<=1000):
 Ϝ 179 #[v] w (Bc 190 3 n xs w):=by
 obtain⟨o,c,rfl⟩:=aH.open hv;have HV:=aa hv;have H1:=aa h1;clear h1;have hnil:=fun(w:World) a n c=>Lib.run_eql_slice_nil (P:=Tryz.prog) w 53 190 a n c 0 0 Tryz.underlying53;cases o with
 |none=>
  obtain⟨hl,o,c',h0,h1,h2,h3,h4⟩:=hv;cases h0;obtain rfl:c=0:=h3 rfl;obtain rfl:n=0:=ϑ;have hx:xs=[]:=jh (by simpa using hl);subst hx;clear HV H1;go_enter Tryz.func179,Tryz.ntmps179;exact zaH
 |some a=>
  obtain⟨b,off,sp⟩:=a;obtain rfl:sp=none:=zaQ;clear hv;go_enter Tryz.func179,Tryz.ntmps179;go_wp2_with (at_builtin;refine eP rfl _ _ Xm rfl w.heap.size (.slice (some ⟨w.heap.size,0,none⟩) 0 0) 0 [] rfl ?_ (.slice (some ⟨b,off,none⟩) n c) n xs rfl ?_ H1.o ϑ ϑ ϕ ?_)
  ·exact zaU
  ·exact aH.alloc HV.o _
  ·exact zam
theorem IK (n:Nat) (xs:List Value) (v:Value) (w:World) (hv:aH 2 w v n xs) (h1: ∀u∈xs,u.oneCell'=true) (Ib:n<=1000):
 Ϝ 180 #[v] w (Bc 129 2 n xs w):=by
 obtain⟨o,c,rfl⟩:=aH.open hv;have HV:=aa hv;have H1:=aa h1;clear h1;have hnil:=fun(w:World) a n c=>Lib.run_eql_slice_nil (P:=Tryz.prog) w 56 129 a n c 0 0 Tryz.underlying56;cases o with
 |none=>
  obtain⟨hl,o,c',h0,h1,h2,h3,h4⟩:=hv;cases h0;obtain rfl:c=0:=h3 rfl;obtain rfl:n=0:=ϑ;have hx:xs=[]:=jh (by simpa using hl);subst hx;clear HV H1;go_enter Tryz.func180,Tryz.ntmps180;exact zaH
 |some a=>
  obtain⟨b,off,sp⟩:=a;obtain rfl:sp=none:=zaQ;clear hv;go_enter Tryz.func180,Tryz.ntmps180;go_wp2_with (at_builtin;refine eP rfl _ _ acN rfl w.heap.size (.slice (some ⟨w.heap.size,0,none⟩) 0 0) 0 [] rfl ?_ (.slice (some ⟨b,off,none⟩) n c) n xs rfl ?_ H1.o ϑ ϑ ϕ ?_)
  ·exact zaU
  ·exact aH.alloc HV.o _
  ·exact zam
theorem IL (n:Nat) (xs:List Value) (v:Value) (w:World) (hv:aH 1 w v n xs) (h1: ∀u∈xs,u.oneCell'=true) (Ib:n<=1000):
 Ϝ 181 #[v] w (Bc 52 1 n xs w):=by
 obtain⟨o,c,rfl⟩:=aH.open hv;have HV:=aa hv;have H1:=aa h1;clear h1;have hnil:=fun(w:World) a n c=>Lib.run_eql_slice_nil (P:=Tryz.prog) w 57 52 a n c 0 0 Tryz.underlying57;cases o with
 |none=>
  obtain⟨hl,o,c',h0,h1,h2,h3,h4⟩:=hv;cases h0;obtain rfl:c=0:=h3 rfl;obtain rfl:n=0:=ϑ;have hx:xs=[]:=jh (by simpa using hl);subst hx;clear HV H1;go_enter Tryz.func181,Tryz.ntmps181;exact zaH
 |some a=>
  obtain⟨b,off,sp⟩:=a;obtain rfl:sp=none:=zaQ;clear hv;go_enter Tryz.func181,Tryz.ntmps181;go_wp2_with (at_builtin;refine eP rfl _ _ acP rfl w.heap.size (.slice (some ⟨w.heap.size,0,none⟩) 0 0) 0 [] rfl ?_ (.slice (some ⟨b,off,none⟩) n c) n xs rfl ?_ H1.o ϑ ϑ ϕ ?_)
  ·exact zaU
  ·exact aH.alloc HV.o _
  ·exact zam
theorem II (n:Nat) (xs:List Value) (v:Value) (w:World) (hv:aH 4 w v n xs) (h1: ∀u∈xs,u.oneCell'=true) (Ib:n<=1000):
 Ϝ 182 #[v] w (Bc 192 4 n xs w):=by
 obtain⟨o,c,rfl⟩:=aH.open hv;have HV:=aa hv;have H1:=aa h1;clear h1;have hnil:=fun(w:World) a n c=>Lib.run_eql_slice_nil (P:=Tryz.prog) w 58 192 a n c 0 0 Tryz.underlying58;cases o with
 |none=>
  obtain⟨hl,o,c',h0,h1,h2,h3,h4⟩:=hv;cases h0;obtain rfl:c=0:=h3 rfl;obtain rfl:n=0:=ϑ;have hx:xs=[]:=jh (by simpa using hl);subst hx;clear HV H1;go_enter Tryz.func182,Tryz.ntmps182;exact zaH
 |some a=>
  obtain⟨b,off,sp⟩:=a;obtain rfl:sp=none:=zaQ;clear hv;go_enter Tryz.func182,Tryz.ntmps182;go_wp2_with (at_builtin;refine eP rfl _ _ Xl rfl w.heap.size (.slice (some ⟨w.heap.size,0,none⟩) 0 0) 0 [] rfl ?_ (.slice (some ⟨b,off,none⟩) n c) n xs rfl ?_ H1.o ϑ ϑ ϕ ?_)
  ·exact zaU
  ·exact aH.alloc HV.o _
  ·exact zam
theorem yL (n:Nat) (xs:List Value) (v:Value) (w:World) (hv:aH 1 w v n xs) (h1: ∀u∈xs,u.oneCell'=true) (Ib:n<=1000):
 Ϝ 91 #[v] w (Bc 3 1 n xs w):=by
 obtain⟨o,c,rfl⟩:=aH.open hv;have HV:=aa hv;have H1:=aa h1;clear h1;have hnil:=fun(w:World) a n c=>Lib.run_eql_slice_nil (P:=Tryz.prog) w 52 3 a n c 0 0 Tryz.underlying52;cases o with
 |none=>
  obtain⟨hl,o,c',h0,h1,h2,h3,h4⟩:=hv;cases h0;obtain rfl:c=0:=h3 rfl;obtain rfl:n=0:=ϑ;have hx:xs=[]:=jh (by simpa using hl);subst hx;clear HV H1;go_enter Tryz.func91,Tryz.ntmps91;exact zaH
 |some a=>
  obtain⟨b,off,sp⟩:=a;obtain rfl:sp=none:=zaQ;clear hv;go_enter Tryz.func91,Tryz.ntmps91;go_wp2_with (at_builtin;refine eP rfl _ _ pq rfl w.heap.size (.slice (some ⟨w.heap.size,0,none⟩) 0 0) 0 [] rfl ?_ (.slice (some ⟨b,off,none⟩) n c) n xs rfl ?_ H1.o ϑ ϑ ϕ ?_)
  ·exact zaU
  ·exact aH.alloc HV.o _
  ·exact zam
def Ac (s:iC) (V:SV) (n:Nat) (kc:List Value):List Row:=
 [⟨186,5,V.uH,s.led.field.ax.length,dx s.led.field.ax⟩,⟨188,3,V.QN,s.led.notes.length,aU s.led.notes⟩,
   ⟨50,2,V.bM,s.heap.bM.length,aD s.heap.bM⟩,⟨3,1,V.Ed,s.heap.turns.length,ag s.heap.turns⟩,⟨190,3,V.LU,s.heap.readings.length,aU s.heap.readings⟩,
   ⟨129,2,V.hps,s.cz.heaps.length,aD s.cz.heaps⟩,⟨52,1,V.cks,n,kc⟩,⟨192,4,V.trs,s.cz.aI.length,fH s.cz.aI⟩]
theorem Qr (s:iC) (V:SV) (es:List KE):gF s V es=Ac s V es.length (dW es)++es.map wP:=rfl
theorem Qq (s:iC) (V:SV) (n:Nat) (kc kc':List Value) (X:List Row):(Ac s V n kc++X).set 6 ⟨52,1,V.cks,n,kc'⟩=Ac s V n kc'++X:=rfl
theorem zx (s:iC) (V:SV) (n:Nat) (kc:List Value) (X:List Row):(Ac s V n kc++X)[6]? =some ⟨52,1,V.cks,n,kc⟩:=rfl
theorem FR {w:World} {N:Nat} {t:TypeId} {size:Nat} {v:Value} {n:Nat} {xs:List Value} (h:w.ownsRow N t size v n xs) {g:Nat} (hg:v.ownBlock=some g): ∃cur,w.heap[g]? =some (.cells cur t (0,0)):=by
 obtain⟨h1,⟨rfl,h2⟩|⟨g',c,cs,rfl,hb,hc,h3⟩⟩:=h
 ·cases hg
 ·cases hg;exact⟨cs,hc⟩
theorem uF.Uh {N:Nat} {w:World} {bx:Nat} {R:List Row} (hbx:bx<w.heap.size) (hN:N<=bx) (Fw: ∀r∈R,w.ownsRow (bx+1) r.t r.size r.v r.n r.xs) (hnd:(R.map (·.t)).Nodup):uF N w bx R where
 own i r hr:=bL (Fw r (kX hr)) ϑ
 apart i j a b ha hb hij:=by
  rcases hq:a.v.ownBlock with _|g
  ·exact .inl rfl
  ·refine .inr fun e=>?_;obtain⟨c1,h1⟩:=FR (Fw a (kX ha)) hq;obtain⟨c2,h2⟩:=FR (Fw b (kX hb)) e.symm;rw[h1] at h2;have ht:a.t=b.t:=by injection h2 with h2;injection h2
   refine hij ((List.getElem?_inj (i:=i) (j:=j) (by simpa using(gY.1 ha).1:i<(R.map (·.t)).length) hnd).1 ?_)
   rw[nS,nS,ha,hb,Option.map_some,Option.map_some,ht]
 off i r hr e:=by
  have:=((Fw r (kX hr)).lt bx e).1;omega
 lt:=hbx
 base:=hN
theorem uF.move {N:Nat} {w W:World} {bx wb:Nat} {R:List Row} (h:uF N w bx R) (hE:Ext [] w W) (hwb:w.heap.size<=wb) (tX:wb<W.heap.size):uF N W wb R where
 own i r hr:=az (h.own i r hr) hE ϕ
 apart:=h.apart
 off i r hr e:=by have:=((h.own i r hr).lt wb e).2;omega
 lt:=tX
 base:=by have:=h.base;have:=h.lt;omega
theorem Xy {w:World} {v:Value} {es:List KE} (h:uG w v es): ∀u∈dW es,u.oneCell'=true:=by
 intro u hu;obtain⟨e,he,rfl⟩:=gU.1 hu;obtain⟨o,c,hv⟩:=aH.open (h.2 e he);rw[hv];rfl
theorem Bu (s:iC) (V:SV) (es:List KE) (w:World) (hS:lK w s V es) (hG:eD s):Ϝ 101 #[.agg (bP s V)] w
 (fun e w'=>Ϙ w w'/\ ∃wb V' Ο,e= .returned (.pointer (some ⟨wb,0,none⟩))/\iW w.heap.size w' wb s V' Ο):=by
 obtain⟨vt,vn,vw,vu,vr,vh,vk,vs⟩:=V;have HS:Hid (∀W,Ϙ w W->lK W s ⟨vt,vn,vw,vu,vr,vh,vk,vs⟩ es):=aa (fun W hb=>hS.below hb (ah _));have hek:es.length=s.cz.aR.length:=hS.cz.len;have iD:=aa (Xy hS.cz.aR);have HG:=aa hG;have hl5:=hG.A7;have hn5:=hG.notes;have hw5:=hG.Qa;have Ii:=hG.reads;have hh3:=hG.Og;have Ω:=hG.aR;have ht5:=hG.aI;have hu5:s.heap.turns.length<=5:=by obtain⟨p,hp⟩:=hG.turns;rw[hp];exact zH p
 have hke:es.length<=3:=ϑ;have hwl:s.heap.bM.length<=5:=ϑ;have HEK:=aa hek;clear hS hG hek hw5;go_enter Tryz.func101,Tryz.ntmps101;go_wp2_with fail
 refine dz fun W1 σ=>?_;have ζ:W1.heap[w.heap.size]? =some (.cells (bP s ⟨vt,vn,vw,vu,vr,vh,vk,vs⟩) 62 (0,0)):=by rw[σ];exact av _ _
 have Qi:=aa (show Ϙ w W1 from by rw[σ];exact ai (aC _ _) _)
 have hsz1:w.heap.size<W1.heap.size:=(aP.1 ζ).1;obtain⟨c1,f1,l1⟩:=ae ζ;have PU:=aa ζ;clear σ ζ;refine RX.fo (fun _ _=>False) 10 [] none [(5,⟨fun _ v=> ∃o c,v= .slice o s.led.field.ax.length c,fun _ v Wx=>Wx.ownsRow W1.heap.size 186 5 v s.led.field.ax.length (dx s.led.field.ax)⟩),(9,⟨fun _ v=> ∃o c,v= .slice o s.led.notes.length c,fun _ v Wx=>Wx.ownsRow W1.heap.size 188 3 v s.led.notes.length (aU s.led.notes)⟩)] (by rintro ps a1 Wx hdf h;exact h.elim) ϰ ϰ ?_;simp only[zt];repeat (refine RX.zd ?_;simp only[zp])
 refine RX.bn _ ϱ ϱ (by exact⟨.slice none (s.led.field.ax.length) 0,none,0,rfl⟩) (fun Wq hE hF=>?_) (fun v Wa Wb ho hE=>?_) (fun v hv=>?_)
 ·have G8:Ext [] W1 Wq:=hE;refine RX.bX 176 #[vt] (by go_simp;try rfl) ?_;refine(IJ (s.led.field.ax.length) (dx s.led.field.ax) vt Wq (HS.o Wq (aV Qi.o G8.below)).uH (Af _) ϑ).mono ?_;exact zaF
 ·exact az (Ms:=[]) ho hE ϕ
 obtain⟨Ag,AL,rfl⟩:=hv;simp only[zp];repeat (refine RX.zd ?_;simp only[zp])
 refine RX.bn _ ϱ ϱ (by exact⟨.slice none (s.led.notes.length) 0,none,0,rfl⟩) (fun Wq hE hF=>?_) (fun v Wa Wb ho hE=>?_) (fun v hv=>?_)
 ·have G8:Ext [] W1 Wq:=hE;refine RX.bX 177 #[vn] (by go_simp;try rfl) ?_;refine(Ez (s.led.notes.length) (aU s.led.notes) vn Wq (HS.o Wq (aV Qi.o G8.below)).QN (ru _) ϑ).mono ?_;exact zaF
 ·exact az (Ms:=[]) ho hE ϕ
 obtain⟨Ah,AO,rfl⟩:=hv;simp only[zp];repeat (refine RX.zd ?_;simp only[zp])
 intro Wt hE hF;have UZ:Wt.ownsRow W1.heap.size 188 3 (.slice Ah s.led.notes.length AO) s.led.notes.length (aU s.led.notes):=hF _ (bu _);have UX:Wt.ownsRow W1.heap.size 186 5 (.slice Ag s.led.field.ax.length AL) s.led.field.ax.length (dx s.led.field.ax):=hF _ (kW _ (bu _));have G8:Ext [] W1 Wt:=hE;have HBt:=aa (aV Qi.o G8.below);have hbt:=(G8.block _ l1 ϕ).trans PU.o;have HKt:=aa hbt;have Te:=aa G8;obtain⟨ct,ft,lt⟩:=ae hbt;clear hE hF G8 hbt c1 f1;have xO:=aa UX;have xP:=aa UZ;clear UX UZ;go_upto_region 3 with(fail)
 refine dz fun W2 nL=>?_;have hbk:W2.heap[w.heap.size]? =some (.cells (bP s ⟨.slice Ag s.led.field.ax.length AL,.slice Ah s.led.notes.length AO,vw,vu,vr,vh,vk,vs⟩) 62 (0,0)):=by rw[nL];exact aG (aG (HKt.o) _) _
 have Ra:=aa (show Ϙ w W2 from by rw[nL];exact((HBt.o).setCell (ah _) _).setCell (ah _) _)
 have CP:Ext [w.heap.size] Wt W2:=by rw[nL];exact(fq).trans fq
 have xO:=aa (bL (base:=W1.heap.size) (az (Ms:=[w.heap.size]) xO.o CP (by simp;exact hsz1)) (ah _));have xP:=aa (bL (base:=W1.heap.size) (az (Ms:=[w.heap.size]) xP.o CP (by simp;exact hsz1)) (ah _));have hsz2:W1.heap.size<=W2.heap.size:=by have:=CP.size;have:=Te.o.size;omega
 obtain⟨c2,f2,l2⟩:=ae hbk;have Tn:=aa hbk;clear nL hbk CP ct ft;refine RX.fo (fun _ _=>False) 12 [] none [(3,⟨fun _ v=> ∃o c,v= .slice o s.heap.bM.length c,fun _ v Wx=>Wx.ownsRow W2.heap.size 50 2 v s.heap.bM.length (aD s.heap.bM)⟩),(7,⟨fun _ v=> ∃o c,v= .slice o s.heap.turns.length c,fun _ v Wx=>Wx.ownsRow W2.heap.size 3 1 v s.heap.turns.length (ag s.heap.turns)⟩),(11,⟨fun _ v=> ∃o c,v= .slice o s.heap.readings.length c,fun _ v Wx=>Wx.ownsRow W2.heap.size 190 3 v s.heap.readings.length (aU s.heap.readings)⟩)] (by rintro ps a1 Wx hdf h;exact h.elim) ϰ ϰ ?_;simp only[zt];repeat (refine RX.zd ?_;simp only[zp])
 refine RX.bn _ ϱ ϱ (by exact⟨.slice none (s.heap.bM.length) 0,none,0,rfl⟩) (fun Wq hE hF=>?_) (fun v Wa Wb ho hE=>?_) (fun v hv=>?_)
 ·have G8:Ext [] W2 Wq:=hE;refine RX.bX 178 #[vw] (by go_simp;try rfl) ?_;refine(IG (s.heap.bM.length) (aD s.heap.bM) vw Wq (HS.o Wq (aV Ra.o G8.below)).bM (mG _) ϑ).mono ?_;exact zaF
 ·exact az (Ms:=[]) ho hE ϕ
 obtain⟨BS,Df,rfl⟩:=hv;simp only[zp];repeat (refine RX.zd ?_;simp only[zp])
 refine RX.bn _ ϱ ϱ (by exact⟨.slice none (s.heap.turns.length) 0,none,0,rfl⟩) (fun Wq hE hF=>?_) (fun v Wa Wb ho hE=>?_) (fun v hv=>?_)
 ·have G8:Ext [] W2 Wq:=hE;refine RX.bX 91 #[vu] (by go_simp;try rfl) ?_;refine(yL (s.heap.turns.length) (ag s.heap.turns) vu Wq (HS.o Wq (aV Ra.o G8.below)).Ed (iE _) ϑ).mono ?_;exact zaF
 ·exact az (Ms:=[]) ho hE ϕ
 obtain⟨BU,Dh,rfl⟩:=hv;simp only[zp];repeat (refine RX.zd ?_;simp only[zp])
 refine RX.bn _ ϱ ϱ (by exact⟨.slice none (s.heap.readings.length) 0,none,0,rfl⟩) (fun Wq hE hF=>?_) (fun v Wa Wb ho hE=>?_) (fun v hv=>?_)
 ·have G8:Ext [] W2 Wq:=hE;refine RX.bX 179 #[vr] (by go_simp;try rfl) ?_;refine(Ey (s.heap.readings.length) (aU s.heap.readings) vr Wq (HS.o Wq (aV Ra.o G8.below)).LU (ru _) ϑ).mono ?_;exact zaF
 ·exact az (Ms:=[]) ho hE ϕ
 obtain⟨BV,Di,rfl⟩:=hv;simp only[zp];repeat (refine RX.zd ?_;simp only[zp])
 intro Wt hE hF;have UY:Wt.ownsRow W2.heap.size 190 3 (.slice BV s.heap.readings.length Di) s.heap.readings.length (aU s.heap.readings):=hF _ (bu _);have UU:Wt.ownsRow W2.heap.size 3 1 (.slice BU s.heap.turns.length Dh) s.heap.turns.length (ag s.heap.turns):=hF _ (kW _ (bu _));have UT:Wt.ownsRow W2.heap.size 50 2 (.slice BS s.heap.bM.length Df) s.heap.bM.length (aD s.heap.bM):=hF _ (kW _ (kW _ (bu _)));have G8:Ext [] W2 Wt:=hE;have HBt:=aa (aV Ra.o G8.below);have hbt:=(G8.block _ l2 ϕ).trans Tn.o;have HKt:=aa hbt;have Te:=aa G8;obtain⟨ct,ft,lt⟩:=ae hbt;clear hE hF G8 hbt c2 f2;have Du:=aa UT;have Dv:=aa UU;have Dw:=aa UY;clear UT UU UY;go_upto_region 4 with(fail)
 refine dz fun W3 nL=>?_;have hbk:W3.heap[w.heap.size]? =some (.cells (bP s ⟨.slice Ag s.led.field.ax.length AL,.slice Ah s.led.notes.length AO,.slice BS s.heap.bM.length Df,.slice BU s.heap.turns.length Dh,.slice BV s.heap.readings.length Di,vh,vk,vs⟩) 62 (0,0)):=by rw[nL];exact aG (aG (aG (HKt.o) _) _) _
 have δ:=aa (show Ϙ w W3 from by rw[nL];exact(((HBt.o).setCell (ah _) _).setCell (ah _) _).setCell (ah _) _)
 have CP:Ext [w.heap.size] Wt W3:=by rw[nL];exact((fq).trans fq).trans fq
 have xO:=aa (az (Ms:=[w.heap.size]) (az (Ms:=[]) xO.o Te.o ϕ) CP (by simp;exact hsz1));have xP:=aa (az (Ms:=[w.heap.size]) (az (Ms:=[]) xP.o Te.o ϕ) CP (by simp;exact hsz1));have Du:=aa (bL (base:=W1.heap.size) (az (Ms:=[w.heap.size]) Du.o CP ϗ) ϑ);have Dv:=aa (bL (base:=W1.heap.size) (az (Ms:=[w.heap.size]) Dv.o CP ϗ) ϑ);have Dw:=aa (bL (base:=W1.heap.size) (az (Ms:=[w.heap.size]) Dw.o CP ϗ) ϑ);have UJ:W1.heap.size<=W3.heap.size:=by have:=CP.size;have:=Te.o.size;omega
 obtain⟨c3,f3,l3⟩:=ae hbk;have LJ:=aa hbk;clear nL hbk CP ct ft;refine RX.fo (fun _ _=>False) 12 [] none [(3,⟨fun _ v=> ∃o c,v= .slice o s.cz.heaps.length c,fun _ v Wx=>Wx.ownsRow W3.heap.size 129 2 v s.cz.heaps.length (aD s.cz.heaps)⟩),(7,⟨fun _ v=> ∃o c,v= .slice o es.length c,fun _ v Wx=>Wx.ownsRow W3.heap.size 52 1 v es.length (dW es)⟩),(11,⟨fun _ v=> ∃o c,v= .slice o s.cz.aI.length c,fun _ v Wx=>Wx.ownsRow W3.heap.size 192 4 v s.cz.aI.length (fH s.cz.aI)⟩)] (by rintro ps a1 Wx hdf h;exact h.elim) ϰ ϰ ?_;simp only[zt];repeat (refine RX.zd ?_;simp only[zp])
 refine RX.bn _ ϱ ϱ (by exact⟨.slice none (s.cz.heaps.length) 0,none,0,rfl⟩) (fun Wq hE hF=>?_) (fun v Wa Wb ho hE=>?_) (fun v hv=>?_)
 ·have G8:Ext [] W3 Wq:=hE;refine RX.bX 180 #[vh] (by go_simp;try rfl) ?_;refine(IK (s.cz.heaps.length) (aD s.cz.heaps) vh Wq (HS.o Wq (aV δ.o G8.below)).cz.heaps (mG _) ϑ).mono ?_;exact zaF
 ·exact az (Ms:=[]) ho hE ϕ
 obtain⟨FX,Gt,rfl⟩:=hv;simp only[zp];repeat (refine RX.zd ?_;simp only[zp])
 refine RX.bn _ ϱ ϱ (by exact⟨.slice none (es.length) 0,none,0,rfl⟩) (fun Wq hE hF=>?_) (fun v Wa Wb ho hE=>?_) (fun v hv=>?_)
 ·have G8:Ext [] W3 Wq:=hE;refine RX.bX 181 #[vk] (by go_simp;try rfl) ?_;refine(IL (es.length) (dW es) vk Wq (HS.o Wq (aV δ.o G8.below)).cz.aR.1 (iD.o) ϑ).mono ?_;exact zaF
 ·exact az (Ms:=[]) ho hE ϕ
 obtain⟨BX,yN,rfl⟩:=hv;simp only[zp];repeat (refine RX.zd ?_;simp only[zp])
 refine RX.bn _ ϱ ϱ (by exact⟨.slice none (s.cz.aI.length) 0,none,0,rfl⟩) (fun Wq hE hF=>?_) (fun v Wa Wb ho hE=>?_) (fun v hv=>?_)
 ·have G8:Ext [] W3 Wq:=hE;refine RX.bX 182 #[vs] (by go_simp;try rfl) ?_;refine(II (s.cz.aI.length) (fH s.cz.aI) vs Wq (HS.o Wq (aV δ.o G8.below)).cz.aI (JR _) ϑ).mono ?_;exact zaF
 ·exact az (Ms:=[]) ho hE ϕ
 obtain⟨FW,Gr,rfl⟩:=hv;simp only[zp];repeat (refine RX.zd ?_;simp only[zp])
 intro Wt hE hF;have UW:Wt.ownsRow W3.heap.size 192 4 (.slice FW s.cz.aI.length Gr) s.cz.aI.length (fH s.cz.aI):=hF _ (bu _);have U1:Wt.ownsRow W3.heap.size 52 1 (.slice BX es.length yN) es.length (dW es):=hF _ (kW _ (bu _));have U0:Wt.ownsRow W3.heap.size 129 2 (.slice FX s.cz.heaps.length Gt) s.cz.heaps.length (aD s.cz.heaps):=hF _ (kW _ (kW _ (bu _)));have G8:Ext [] W3 Wt:=hE;have HBt:=aa (aV δ.o G8.below);have hbt:=(G8.block _ l3 ϕ).trans LJ.o;have HKt:=aa hbt;have Te:=aa G8;obtain⟨ct,ft,lt⟩:=ae hbt;clear hE hF G8 hbt c3 f3;have OE:=aa U0;have OH:=aa U1;have OD:=aa UW;clear U0 U1 UW;go_upto_region 5 with(fail)
 refine dz fun W4 nL=>?_;have hbk:W4.heap[w.heap.size]? =some (.cells (bP s ⟨.slice Ag s.led.field.ax.length AL,.slice Ah s.led.notes.length AO,.slice BS s.heap.bM.length Df,.slice BU s.heap.turns.length Dh,.slice BV s.heap.readings.length Di,.slice FX s.cz.heaps.length Gt,.slice BX es.length yN,.slice FW s.cz.aI.length Gr⟩) 62 (0,0)):=by rw[nL];exact aG (aG (aG (HKt.o) _) _) _
 have fV:=aa (show Ϙ w W4 from by rw[nL];exact(((HBt.o).setCell (ah _) _).setCell (ah _) _).setCell (ah _) _)
 have CP:Ext [w.heap.size] Wt W4:=by rw[nL];exact((fq).trans fq).trans fq
 have xO:=aa (az (Ms:=[w.heap.size]) (az (Ms:=[]) xO.o Te.o ϕ) CP (by simp;exact hsz1));have xP:=aa (az (Ms:=[w.heap.size]) (az (Ms:=[]) xP.o Te.o ϕ) CP (by simp;exact hsz1));have Du:=aa (az (Ms:=[w.heap.size]) (az (Ms:=[]) Du.o Te.o ϕ) CP (by simp;exact hsz1));have Dv:=aa (az (Ms:=[w.heap.size]) (az (Ms:=[]) Dv.o Te.o ϕ) CP (by simp;exact hsz1));have Dw:=aa (az (Ms:=[w.heap.size]) (az (Ms:=[]) Dw.o Te.o ϕ) CP (by simp;exact hsz1));have OE:=aa (bL (base:=W1.heap.size) (az (Ms:=[w.heap.size]) OE.o CP ϗ) ϑ);have OH:=aa (bL (base:=W1.heap.size) (az (Ms:=[w.heap.size]) OH.o CP ϗ) ϑ);have OD:=aa (bL (base:=W1.heap.size) (az (Ms:=[w.heap.size]) OD.o CP ϗ) ϑ);have aaB:W1.heap.size<=W4.heap.size:=by have:=CP.size;have:=Te.o.size;omega
 obtain⟨c4,f4,l4⟩:=ae hbk;have HK4:=aa hbk;clear nL hbk CP ct ft;have hR0:uF w.heap.size W4 w.heap.size (Ac s ⟨.slice Ag s.led.field.ax.length AL,.slice Ah s.led.notes.length AO,.slice BS s.heap.bM.length Df,.slice BU s.heap.turns.length Dh,.slice BV s.heap.readings.length Di,.slice FX s.cz.heaps.length Gt,.slice BX es.length yN,.slice FW s.cz.aI.length Gr⟩ es.length (dW es)):=by
  refine uF.Uh (by have:=fV.o.size;omega) (ah _) ?_ (by simp[Ac]);intro r hr;simp only[Ac,eB,List.not_mem_nil,or_false] at hr;rcases hr with rfl|rfl|rfl|rfl|rfl|rfl|rfl|rfl
  ·exact bL xO.o ϑ
  ·exact bL xP.o ϑ
  ·exact bL Du.o ϑ
  ·exact bL Dv.o ϑ
  ·exact bL Dw.o ϑ
  ·exact bL OE.o ϑ
  ·exact bL OH.o ϑ
  ·exact bL OD.o ϑ
 have HR0:=aa hR0;clear hR0;go_wp2_with fail
 go_loopw [4,5,58] (fun _ _ u wr=> ∃i:Nat,i<=es.length/\u= .int .i64 i/\Ϙ w wr/\wr.heap[w.heap.size]? =some (.cells (bP s ⟨.slice Ag s.led.field.ax.length AL,.slice Ah s.led.notes.length AO,.slice BS s.heap.bM.length Df,.slice BU s.heap.turns.length Dh,.slice BV s.heap.readings.length Di,.slice FX s.cz.heaps.length Gt,.slice BX es.length yN,.slice FW s.cz.aI.length Gr⟩) 62 (0,0))/\ ∃Ο:List KE,Ο.length=i/\Ο.map (·.2)=s.cz.aR.take i/\uF w.heap.size wr w.heap.size (Ac s ⟨.slice Ag s.led.field.ax.length AL,.slice Ah s.led.notes.length AO,.slice BS s.heap.bM.length Df,.slice BU s.heap.turns.length Dh,.slice BV s.heap.readings.length Di,.slice FX s.cz.heaps.length Gt,.slice BX es.length yN,.slice FW s.cz.aI.length Gr⟩ es.length (dW (Ο++es.drop i))++Ο.map wP)) (fun _ _ u _=>es.length-(intOf u).toNat)
 case atStart=>exact⟨0,bD _,rfl,fV.o,HK4.o,[],rfl,rfl,by simpa using HR0.o⟩
 case round=>
  obtain⟨i,hi,rfl,hB,hbk,Ο,Es,hes',hOr⟩:=hrel;obtain⟨c5,f5,l5⟩:=ae hbk;by_cases tX:i<es.length
  ·have hcx:=HEK.o;obtain⟨ev,el,zJ⟩: ∃ev el,es[i]? =some (ev,el):=⟨_,_,bZ tX⟩;have hcas:s.cz.aR[i]? =some el:=by rw[<-(HS.o w (aC _ _)).cz.is,nS,zJ];rfl
   have ahY:el.length<=3:=by have:=(HG.o.nE el (kX hcas)).1;omega
   have h6:wr.ownsRow w.heap.size 52 1 (.slice BX es.length yN) es.length (dW (Ο++es.drop i)):=hOr.own 6 _ (zx _ _ _ _ _);obtain⟨gk,ahQ,Pm,hfk,XI⟩:=fP h6 ϑ;subst ahQ;have hgx:(dW (Ο++es.drop i))[i]? =some ev:=by
    unfold dW;rw[nS,lI ϑ,Es,Nat.sub_self,List.getElem?_drop,Nat.add_zero,zJ];rfl
   obtain⟨hg',eg'⟩:=gY.1 hgx;have g6:=(Pm i hg').trans (by rw[eg']);have HX:=aa (af hB (af hbk (af Es (af hes' (af hOr (af h6 (af zJ hcas)))))));have hgb:gk≠w.heap.size:=fun e=>hOr.off 6 _ (zx _ _ _ _ _) (by rw[<-e];rfl);clear hB hbk Es hes' hOr h6 hgx hg' eg' Pm zJ hcas hcx;go_wp2_with fail
   refine RX.fo (fun _ _=>False) 6 [] none [(5,⟨fun _ v=> ∃o c,v= .slice o el.length c,fun _ v Wx=>Wx.ownsRow wr.heap.size 3 1 v el.length (ag el)⟩)] (by rintro ps a1 Wx hdf h;exact h.elim) ϰ ϰ ?_;simp only[zt];repeat (refine RX.zd ?_;simp only[zp])
   refine RX.bn _ ϱ ϱ (by exact⟨.slice none el.length 0,none,0,rfl⟩) (fun Wq hE hF=>?_) (fun v Wa Wb ho hE=>?_) (fun v hv=>?_)
   ·have G8:Ext [] wr Wq:=hE;refine RX.bX 91 #[ev] (by go_simp;try rfl) ?_;refine(yL el.length (ag el) ev Wq ((HS.o Wq (aV HX.o.1 (show Ϙ wr Wq from G8.below))).cz.aR.2 (ev,el) (kX HX.o.2.2.2.2.2.2.1)) (iE _) ϑ).mono ?_;exact zaF
   ·exact az (Ms:=[]) ho hE ϕ
   obtain⟨o8,c8,rfl⟩:=hv;simp only[zp];intro W8 hE hF;have nD:W8.ownsRow wr.heap.size 3 1 (.slice o8 el.length c8) el.length (ag el):=hF _ (bu _);have eQ:Ext [] wr W8:=hE;have ο:=(eQ.block _ l5 ϕ).trans HX.o.2.1;obtain⟨c9,f9,l9⟩:=ae ο;have Bl:=HX.o.2.2.2.2.1.push (wP (.slice o8 el.length c8,el)) eQ ϕ (bL nD (by have:=HX.o.1.size;omega)) (by rcases hq:(Value.slice o8 el.length c8).ownBlock with _|g;(exact .inl hq);(exact .inr ⟨g,hq,(nD.lt g hq).1⟩))
   have h68:=az (Ms:=[]) HX.o.2.2.2.2.2.1 eQ ϕ;obtain⟨gk',aaU,ahR,ana,amT⟩:=fP h68 ϑ;cases aaU;have g7:=(eQ.cell gk i XI ϕ).trans g6;have H8:=aa (af eQ (af ο (af Bl h68)));clear hE hF nD eQ ο Bl h68 ahR c5 f5 g6 hfk;go_wp2_with fail
   go_roundw
   case rel=>
    refine⟨i+1,by omega,by go_num,(aV HX.o.1 H8.o.1.below).setCell (H8.o.2.2.2.lt gk rfl).1 _,((fq (W:=W8) (b:=gk) (off:=i) (v:= .slice o8 el.length c8)).block _ l9 (by simpa using fun e=>hgb e.symm)).trans H8.o.2.1,Ο++[(.slice o8 el.length c8,el)],by simp[HX.o.2.2.1],?_,?_⟩
    ·rw[List.map_append,HX.o.2.2.2.1,oQ,HX.o.2.2.2.2.2.2.2];rfl
    ·have hS:=jX H8.o.2.2.2 i (.slice o8 el.length c8);have hk2:(dW (Ο++es.drop i)).set i (.slice o8 el.length c8)=dW (Ο++[(.slice o8 el.length c8,el)]++es.drop (i+1)):=by
      unfold dW;rw[List.map_append,nT _ _ (by simp[HX.o.2.2.1]),kC,HX.o.2.2.1,Nat.sub_self,rM tX,List.map_cons,List.set_cons_zero];simp
     have hP:=H8.o.2.2.1.put (i:=6) (r:=⟨52,1,.slice (some ⟨gk,0,none⟩) es.length yN,es.length,dW (Ο++es.drop i)⟩) (by rw[jg];exact zx _ _ _ _ _) ⟨52,1,.slice (some ⟨gk,0,none⟩) es.length yN,es.length,dW (Ο++[(.slice o8 el.length c8,el)]++es.drop (i+1))⟩ (fq (W:=W8) (b:=gk) (off:=i) (v:= .slice o8 el.length c8)) (fun m hm=> .inr (.inr (by rw[dY.1 hm];rfl))) (by rw[hk2] at hS;exact hS) (.inl rfl);rw[jg,Qq] at hP;rw[List.map_append];exact hP
   case measure=>simp[intOf];omega
  ·obtain rfl:i=es.length:=ϑ;have HX:=aa (af hB (af hbk (af Es (af hes' hOr))));clear hB hbk Es hes' hOr;go_upto_region 10 with(fail)
   refine wp_region_lit ?_;refine wpList_load_row rfl _ _ rfl w.heap.size rfl _ _ _ _ HX.o.2.1 Tryz.underlying62 rfl ϰ ?_;simp only[zp];clear c5 f5;go_wp2_with fail
   trace_state
   go_returns;refine⟨ai HX.o.1 _,wr.heap.size,⟨.slice Ag s.led.field.ax.length AL,.slice Ah s.led.notes.length AO,.slice BS s.heap.bM.length Df,.slice BU s.heap.turns.length Dh,.slice BV s.heap.readings.length Di,.slice FX s.cz.heaps.length Gt,.slice BX es.length yN,.slice FW s.cz.aI.length Gr⟩,Ο,by simp,⟨av _ _,?_,?_⟩⟩
   ·have h:=HX.o.2.2.2.2;rw[List.drop_length,List.append_nil] at h;rw[Qr,HX.o.2.2.1];exact h.move (Ext.ay (ai (aC _ _) _)) (ah _) ϕ
   ·rw[HX.o.2.2.2.1,iT (by have:=HEK.o;omega)]
structure Env (w:World):Prop where
 pow: ∃t f,w.heap[0]? =some (.cells (Lib.pow10Tab.map fun z=>Value.int .u64 z).toArray t f)
 len: ∃m,w.cell? ⟨1,0,none⟩=some (.int .i64 m)/\1<w.heap.size
 syn: ∃tp p t f,w.heap[2]? =some (.cells #[.iface tp p] t f)
 rng: ∃tp p t f,w.heap[3]? =some (.cells #[.iface tp p] t f)
theorem Env.lts {w:World} (h:Env w):0<w.heap.size/\1<w.heap.size/\2<w.heap.size/\3<w.heap.size:=by
 obtain⟨t,f,h0⟩:=h.pow;obtain⟨m,h1,hl⟩:=h.len;obtain⟨tp,p,t2,f2,h2⟩:=h.syn;obtain⟨tp3,p3,t3,f3,h3⟩:=h.rng;exact⟨(aP.1 h0).1,hl,(aP.1 h2).1,(aP.1 h3).1⟩
theorem Env.size {w:World} (h:Env w):4<=w.heap.size:=by
 have:=h.lts;omega
theorem Env.below {w W:World} (h:Env w) {B:Nat} (hb:Below B w W) (hB:w.heap.size<=B):Env W:=by
 have h4:=h.lts;have hz:=hb.size;obtain⟨t,f,h0⟩:=h.pow;obtain⟨m,h1,hl⟩:=h.len;obtain⟨tp,p,t2,f2,h2⟩:=h.syn;obtain⟨tp3,p3,t3,f3,h3⟩:=h.rng;exact⟨⟨t,f,(hb.block 0 ϑ).trans h0⟩,⟨m,(gW (hb.block 1 ϑ)).trans h1,by omega⟩,⟨tp,p,t2,f2,(hb.block 2 ϑ).trans h2⟩,⟨tp3,p3,t3,f3,(hb.block 3 ϑ).trans h3⟩⟩
theorem Mf {w:World} {g:Nat} {cs:Array Value} {t:TypeId} {f:Nat×Nat} (h:w.heap[g]? =some (.cells cs t f)) {nm:String} (hn:Tryz.prog.globalNamed nm=some g):w.var? Tryz.prog nm=some cs:=by
 simp[World.var?,hn,h]
theorem Py {w:World} (h:Env w) {nm:String} (hn:Tryz.prog.globalNamed nm=some 0):Lib.TabIs Tryz.prog w nm .u64 Lib.pow10Tab:=by
 obtain⟨t,f,h0⟩:=h.pow;exact Mf h0 hn
abbrev dN (l:au):ByteArray:=⟨l.toArray⟩
theorem bytesWorld_below (w:World) (t:TypeId) (s:ByteArray):Ϙ w (Lib.bytesWorld w t s):=by
 unfold Lib.bytesWorld;refine⟨rfl,rfl,rfl,?_,fun i hi=>?_⟩
 ·simp[World.freeze]
 ·have:w.heap.size≠i:=ϑ;simp[World.freeze,Array.getElem?_modify,this];exact heap_alloc_old _ _ hi
theorem CR (w:World) (k:Nat) (os:Array Obj):Ϙ w (Go.Sort.grow (w.drewN k) os):=by
 refine⟨rfl,rfl,rfl,by simp[Go.Sort.grow,World.drewN],fun i hi=>?_⟩;rw[Go.Sort.heap_grow_old _ _ (by simpa [World.drewN] using hi)];rfl
theorem VY (l:au) (w:World) (hE:Env w) (hl:l.length<=1000):Ϝ 175 #[.string (dN l)] w
 (fun e w'=>Ϙ w w'/\((∃v,Lib.atoiAll l= .ok v/\e= .returned (.tuple #[iv v,.nilIface]))∨((∀v,Lib.atoiAll l≠ .ok v)/\ ∃v t p,e= .returned (.tuple #[iv v,.iface t p])))):=by
 have hs:(dN l).size=l.length:=by simp[dN,ByteArray.size]
 cases ha:Lib.atoiAll l with
 |ok v=>
  refine(Go.Proofs.Tryz.strconv_Atoi_ok (dN l) (by rw[hs];omega) v ha w).mono ?_;rintro e w' ⟨rfl,h|⟨t,h⟩⟩
  ·subst h;exact⟨aC _ _,.inl ⟨v,rfl,rfl⟩⟩
  ·subst h;exact⟨bytesWorld_below _ _ _,.inl ⟨v,rfl,rfl⟩⟩
 |range=>
  obtain⟨tp,p,t2,f2,h2⟩:=hE.rng;refine(Go.Proofs.Tryz.strconv_Atoi_range_var (dN l) (by rw[hs];omega) ha tp p w (Mf h2 ϰ)).mono ?_;exact zci
 |_=>
  obtain⟨tp,p,t2,f2,h2⟩:=hE.syn;refine(Go.Proofs.Tryz.strconv_Atoi_syntax_var (dN l) (by rw[hs];omega) ha tp p w (Mf h2 ϰ)).mono ?_;exact zci
theorem Um {l:au} (h: ∀v,Lib.atoiAll l≠ .ok v):jO l=none:=by
 cases hn:jO l with
 |none=>rfl
 |some v=>
  have h4:=(Bh hn).2;have:=Lib.atoiAll_short l ϑ;rw[AP hn] at this;exact absurd this (h v)
theorem Ca {l:au} {v n:Int} (h:Lib.atoiAll l= .ok v) (hn:jO l=some n):v=n:=by
 have h4:=(Bh hn).2;have:=Lib.atoiAll_short l ϑ;rw[AP hn,h] at this;injection this
def aiP (l:au) (w:World) (e:Ending) (w':World):Prop:=Ϙ w w'/\ ∃v,e= .returned (.tuple #[iv v,.bool (jO l).isSome])/\ ∀n,jO l=some n->v=n
theorem MV (l:au) (w:World) (hE:Env w) (hl:l.length<=1000):Ϝ 100 #[.string (dN l)] w (aiP l w):=by
 have hs:(dN l).size=l.length:=by simp[dN,ByteArray.size]
 have HA:=aa (VY l w hE hl);have HE:=aa hE;clear hE;go_enter Tryz.func100,Tryz.ntmps100;go_wp2_with fail
 refine HA.o.mono ?_;rintro e w1 ⟨hb,⟨v,hv,rfl⟩|⟨GX,v,t,p,rfl⟩⟩
 ·have HB:=aa hb;have HV:=aa hv;clear hb hv;by_cases h0:0<=v
  ·by_cases h4:l.length<=4
   ·have h5:(l.length:Int)<=4:=ϑ;go_wp2_with fail
    refine(Go.Proofs.Tryz.strconv_Itoa v ϑ (by have:=(Lib.atoiAll_bounds HV.o).2;omega) w1 (Py (HE.o.below HB.o (ah _)) ϰ)).mono ?_
    rintro e w2 ⟨rfl,k,os,rfl⟩;have HG:=aa (CR w1 k os);obtain⟨w3,hw3⟩: ∃w3,w3=Go.Sort.grow (w1.drewN k) os:=⟨_,rfl⟩;rw[<-hw3] at HG⊢;clear hw3;go_wp2_with fail
    go_returns;refine⟨aV HB.o HG.o,v,?_,fun n hn=>Ca HV.o hn⟩;by_cases he:Lib.itoa v=l
    ·rw[JY h0 h4 he];simp[he]
    ·have hn:jO l=none:=by
      cases hn:jO l with
      |none=>rfl
      |some n=>exact absurd (Ca HV.o hn▸UE hn) he
     rw[hn];have:(Lib.itoa v==l)=false:=by simpa using he
     simp[this]
   ·have h5: ¬(l.length:Int)<=4:=ϑ;go_wp2_with fail
    go_returns;refine⟨HB.o,v,?_,fun n hn=>Ca HV.o hn⟩;have hn:jO l=none:=by
     cases hn:jO l with
     |none=>rfl
     |some n=>exact absurd (Bh hn).2 h4
    rw[hn];simp
  ·go_wp2_with fail
   go_returns;refine⟨HB.o,v,?_,fun n hn=>Ca HV.o hn⟩;have hn:jO l=none:=by
    cases hn:jO l with
    |none=>rfl
    |some n=>have h1:=Ca HV.o hn;have h2:=(Hm hn).1;omega
   rw[hn];simp
 ·have HB:=aa hb;have HN:=aa (Um GX);clear hb GX;go_wp2_with fail
  go_returns;exact⟨HB.o,v,by rw[HN.o];simp,fun n hn=>by rw[HN.o] at hn;cases hn⟩
theorem GY: ∀l:au,Lib.splitK [32] 0 (Lib.count l [32]) l=cB l:=by
 intro l;induction l with
 |nil=>rfl
 |cons c l ih=>
  by_cases hc:c=32
  ·subst hc;rw[Lib.count_cons_eq,Nat.add_comm,Lib.splitK,Lib.index_one,Lib.indexByte,cB,aB rfl];simp[ih]
  ·rw[Lib.count_cons_ne c 32 l hc,cB,aj hc];cases hk:Lib.count l [32] with
   |zero=>
    rw[hk] at ih;rw[<-ih];rfl
   |succ k=>
    rw[hk] at ih;have hb:(c==32)=false:=by simpa using hc
    have hi:Lib.index l [32]≠ -1:=fun h=>by have:=Lib.count_miss h;omega
    have hge:=Lib.index_ge l [32];obtain⟨i,hi2⟩: ∃i:Nat,Lib.index l [32]=i:=⟨(Lib.index l [32]).toNat,by omega⟩;have e1:(Lib.index l [32]== -1)=false:=by simpa using hi
    have hj:Lib.index (c::l) [32]=(i:Int)+1:=by
     rw[Lib.index_one,Lib.indexByte,hb, <-Lib.index_one,e1,hi2];rfl
    have e2:(Lib.index (c::l) [32]== -1)=false:=by rw[hj];simp;omega
    rw[Lib.splitK,e1] at ih;rw[Lib.splitK,e2];simp only[Bool.false_eq_true,if_false,Nat.add_zero,List.length_singleton] at ih⊢;rw[<-ih,hj,hi2];have h1:((i:Int)+1).toNat=i+1:=ϑ;rw[h1];simp
theorem Ab (l:au):(Lib.splitB ⟨#[32]⟩ 0 (Lib.countB (dN l) ⟨#[32]⟩) (dN l)).map (·.data.toList)=cB l:=by
 rw[Lib.splitB_data];exact GY l
abbrev aT (ps:List au):List Value:=ps.map fun p=> .string (dN p)
abbrev fC (w:World) (v:Value) (ps:List au):Prop:=aH 1 w v ps.length (aT ps)
theorem R5 (s:ByteArray):dN s.data.toList=s:=by cases s;simp[dN]
theorem Qm (l:au) (w:World) (hE:Env w) (hl:l.length<=1000):Ϝ 97 #[.string (dN l),.string ⟨#[32]⟩] w
 (fun e w'=> ∃n,n=(cB l).length/\e= .returned (.slice (some ⟨w.heap.size,0,none⟩) n n)/\w'=w.alloc (.cells (aT (cB l)).toArray 9)):=by
 obtain⟨m,hm,_⟩:=hE.len;have hs:(dN l).size=l.length:=by simp[dN,ByteArray.size]
 have Ib:=Lib.splitB_all ⟨#[32]⟩ ϖ 0 _ (dN l) rfl;refine(Go.Proofs.Tryz.strings_Split (dN l) ⟨#[32]⟩ m w (by rw[hs];omega) hm ϖ).mono ?_;rintro e w' ⟨rfl,rfl⟩;refine⟨_,?_,rfl,?_⟩
 ·rw[<-Ab,kC,Ib]
 ·rw[<-Ab];congr 3;unfold aT;rw[List.map_map];apply List.map_congr_left;intro x _;simp only[Function.comp,R5]
theorem Oh (x y z:Addr) (w:World):
 CallsD Tryz.prog 96 #[.pointer (some x),.pointer (some y),.pointer (some z)] .returning w fun e u' w'=>e= .returned (.tuple #[])/\u'= .returning/\w'=w:=by
 refine callsD_of_wpS Tryz.func96 rfl fun c₀ cs hu=>?_;apply wpS_seq;apply wpS_region;simp[wpOpsS,go_sem,recoverD,hu,Tryz.ntmps96,Exit.thenS];refine wpS_of_wp ?_;go_wp2;cases c₀;simp_all [bodyPostS,results,Tryz.results96]
theorem nY {P:Program} {o:Oper} {ρ:Operand->Value} {w:World} (ty:TypeId) (x:Operand) (ho:o.op= .load ty x)
 (g:Nat) (hx:ρ x= .pointer (some ⟨g,0,none⟩)) (t:TypeId) (cs:Array Value) (fr:Nat×Nat) (d:TypeDesc) (hg:w.heap[g]? =some (.cells cs t fr))
 (hu:P.underlying ty=some d) (hd:(match d with| .struct _| .array _ _=>true|_=>false)=true) (hi:(P.info? ty).map (·.size)=some cs.size):(execOp ρ o).run P w= .ok (.value (.agg cs)) w:=by
 unfold execOp;simp only[ho,hx,Instr.loadAt,Instr.sureAddr,Sem.run_bind,Sem.run_pure,Result.andThen_ok,run_loadVar_row w g t ty cs fr d hg hu hd hi]
theorem vF {P:Program} {o:Oper} {ρ:Operand->Value} {w:World} (ty:TypeId) (x y:Operand) (ho:o.op= .store ty x y)
 (g:Nat) (cells:Array Value) (hx:ρ x= .pointer (some ⟨g,0,none⟩)) (hy:ρ y= .agg cells)
 (t:TypeId) (old:Array Value) (hg:w.heap[g]? =some (.cells old t (0,0))) (hi:(P.info? ty).map (·.size)=some cells.size)
 (hold:old.size=cells.size) (h1:cells.all (·.oneCell')=true):(execOp ρ o).run P w= .ok .skip (w.setRow g cells):=by
 unfold execOp;simp only[ho,hx,hy,Instr.storeAt,Instr.sureAddr,Sem.run_bind,Sem.run_pure,Result.andThen_ok,run_storeVar_row w g t ty old cells hg hi hold h1]
theorem sM {P:Program} {o:Oper} {ρ:Operand->Value} {W W':World} {R:Value->World->Prop} (he:(execOp ρ o).run P W= .ok .skip W') (h:R undef W'):Does P o ρ W R:=by
 unfold Does;rw[he];exact h
theorem Dk (v:Value) (w:World):(Instr.typeAssert (.iface 214 v) 20 214 true).run Tryz.prog w= .ok (.tuple #[v,.bool true]) w:=by
 have hu:Tryz.prog.underlying 214=_:=Tryz.underlying214;simp[Instr.typeAssert,run_underlying hu,go_sem]
theorem EI (bs ba be:Nat) (S:Array Value) (A:Array Value) (ec:Value) (φ:Int) (w:World) (hS:w.heap[bs]? =some (.cells S 62 (0,0))) (hA:w.heap[ba]? =some (.cells A 62 (0,0))) (hE:w.heap[be]? =some (.cells #[ec] 26 (0,0)))
 (ν:S.size=22) (hsa:A.size=22) (h1:bs≠ba) (h2:bs≠be) (h3:ba≠be) (hone: ∀u∈S.toList,u.oneCell'=true):
 CallsD Tryz.prog 96 #[.pointer (some ⟨bs,0,none⟩),.pointer (some ⟨ba,0,none⟩),.pointer (some ⟨be,0,none⟩)] (.panicking (ji φ)) w fun e u' w'=>
  e= .returned (.tuple #[])/\u'= .panicking [{v:= .iface 214 (.agg #[iv φ]),recovered:=true}]/\Ext [ba,be] w w'/\w'.heap[ba]? =some (.cells S 62 (0,0))/\w'.heap[be]? =some (.cells #[iv φ] 26 (0,0)):=by
 refine callsD_of_wpS Tryz.func96 rfl fun c₀ cs hu=>?_;apply wpS_seq;apply wpS_region;have hta:=Dk (.agg #[iv φ]) w;obtain⟨cS,fS,lS⟩:=ae hS;obtain⟨cA,fA,lA⟩:=ae hA;obtain⟨cE,fE,lE⟩:=ae hE;simp[wpOpsS,go_sem,recoverD,hu,Tryz.ntmps96,Exit.thenS];refine wpS_of_wp ?_;simp only[Array.replicate_succ,Array.replicate_zero,jr,jv,List.nil_append,List.cons_append,oU,List.set_cons_succ,List.set_cons_zero];go_wp2;refine dz fun W1 σ=>?_;have k1:W1.heap[w.heap.size]? =some (.cells #[iv φ] 214 (0,0)):=by rw[σ];exact av _ _
 have kS:W1.heap[bs]? =some (.cells S 62 (0,0)):=by rw[σ];exact(heap_alloc_old _ _ lS).trans hS
 have kA:W1.heap[ba]? =some (.cells A 62 (0,0)):=by rw[σ];exact(heap_alloc_old _ _ lA).trans hA
 have kE:W1.heap[be]? =some (.cells #[ec] 26 (0,0)):=by rw[σ];exact(heap_alloc_old _ _ lE).trans hE
 have hB1:Ext [] w W1:=by rw[σ];exact Ext.ay (ai (aC _ _) _)
 have hw1:w.heap.size<W1.heap.size:=(aP.1 k1).1;obtain⟨d1,g1,m1⟩:=ae k1;have hne1:ba≠w.heap.size:=ϑ;have hne2:w.heap.size≠ba:=ϑ;clear σ hta cS fS cA fA cE fE;refine zg 4 [ba] (some 3) [(3,⟨fun _ v=>v=undef,fun _ _ Wx=>Wx.heap[ba]? =some (.cells S 62 (0,0))⟩)] ?_;simp only[zt];refine fM ϱ (.agg S) ϱ (fun W hE hF=>?_) ?_
 ·have hs:=(hE.block bs ϑ (by simpa using h1)).trans kS;exact nY _ _ rfl bs rfl _ _ _ _ hs Tryz.underlying62 rfl (by rw[ν];kernel_rfl)
 simp only[zp];repeat ((first|refine zd ?_|refine zk ?_);simp only[zp])
 refine bn _ ϱ ϱ ⟨_,rfl⟩ (fun W hE hF=>?_) (fun v Wa Wb ho hE=>?_) (fun v hv=>?_)
 ·have G8:Ext [] W1 W:=hE;have ha:=(G8.block ba ϑ ϕ).trans kA;refine sM (W':=W.setRow ba S) (vF _ _ _ rfl ba S rfl rfl _ _ ha (by rw[ν];kernel_rfl) (by rw[ν,hsa]) (by rw[jw];exact fun u hu=>hone u (jM.2 hu))) ⟨rfl,setRow_heap W ba A S _ _ ha,?_⟩
  exact(show Ext [ba] W (W.setRow ba S) from dJ)
 ·have G8:Ext [] Wa Wb:=hE;have ho':Wa.heap[ba]? =some (.cells S 62 (0,0)):=ho;exact(G8.block ba (aP.1 ho').1 ϕ).trans ho'
 obtain rfl:v=undef:=hv;simp only[zp];intro W hE hF;have hx:W.heap[ba]? =some (.cells S 62 (0,0)):=hF _ (bu _);have G8:Ext [ba] W1 W:=hE;have he:=(G8.block be ϑ (by simpa using fun e=>h3 e.symm)).trans kE;obtain⟨d2,g2,m2⟩:=ae he;have d20:=d2 0;simp at d20;have HX:=aa (af hx (af G8 he));clear hE hF hx G8 he d1 g1 d2;go_wp2;refine⟨rfl,_,rfl,.tuple #[],by simp[results,Tryz.results96],rfl,rfl,?_,?_,?_⟩
 ·exact(Ext.nil hB1).trans ((HX.o.2.1.more ϕ).trans (fq.more ϕ))
 ·exact(heap_setCell_other W ⟨be,0,none⟩ ba _ h3).trans HX.o.1
 ·exact aG HX.o.2.2 _
structure Dy (B:Nat) (w w':World):Prop where
 ext:qZ B [] w w'
 maps: ∀(k:Nat) es cl,w.heap[k]? =some (.map es cl)->w'.heap[k]? =some (.map es cl)
theorem Dy.sZ {B:Nat} {w w':World} (h:Ext [] w w'):Dy B w w':=⟨qZ.sZ h,fun k es cl hk=>(h.block k (aP.1 hk).1 ϕ).trans hk⟩
theorem Qu (B:Nat):Dp (Ext []) (Dy B):=⟨Ext.refl [],Ext.trans,fun h k=>⟨h.ext.trans k.ext,fun i es cl hi=>k.maps i es cl (h.maps i es cl hi)⟩,Dy.sZ⟩
instance (W0:World):Kept (Dy W0.heap.size) [] W0:=⟨Dy.sZ,fun h=>⟨h.ext.os,h.ext.tape,h.ext.output,h.ext.size,fun k hk hm=>h.ext.block k hk hk hm⟩⟩
structure Fr (bs:Nat) (S:Array Value) (W:World):Prop where
 s:W.heap[bs]? =some (.cells S 62 (0,0))
 a: ∃A,W.heap[bs+1]? =some (.cells A 62 (0,0))/\A.size=22
 e: ∃ec,W.heap[bs+2]? =some (.cells #[ec] 26 (0,0))
theorem Fr.below {bs:Nat} {S:Array Value} {w W:World} (h:Fr bs S w) {B:Nat} (hb:Below B w W) (hB:bs+2<B):Fr bs S W:=by
 obtain⟨A,h1,h2⟩:=h.a;obtain⟨ec,h3⟩:=h.e;exact⟨(hb.block _ ϑ).trans h.s,⟨A,(hb.block _ ϑ).trans h1,h2⟩,⟨ec,(hb.block _ ϑ).trans h3⟩⟩
theorem Cm {bs:Nat} {S:Array Value} (ν:S.size=22) (hone: ∀u∈S.toList,u.oneCell'=true) {W:World} (hF:Fr bs S W) (φ:Int) (tmps:Array Value) (R:Ending->World->Prop)
 (h4:tmps.getD 4 undef= .pointer (some ⟨bs+1,0,none⟩)) (h5:tmps.getD 5 undef= .pointer (some ⟨bs+2,0,none⟩))
 (hR: ∀W',Ext [bs+1,bs+2] W W'->R (.returned (.tuple #[.agg S,iv φ])) W'):
 Leaves Tryz.prog Tryz.f55 tmps R [{target:= .fn (.func 96) #[.pointer (some ⟨bs,0,none⟩),.pointer (some ⟨bs+1,0,none⟩),.pointer (some ⟨bs+2,0,none⟩)],args:= #[]}] (.panicking (ji φ)) W:=by
 obtain⟨A,hA,hAs⟩:=hF.a;obtain⟨ec,hE⟩:=hF.e;refine leaves_cons (f:=96) (args:= #[.pointer (some ⟨bs,0,none⟩),.pointer (some ⟨bs+1,0,none⟩),.pointer (some ⟨bs+2,0,none⟩)]) ϕ (by simp[go_sem]) ?_;refine(EI bs (bs+1) (bs+2) S A ec φ W hF.s hA hE ν hAs ϑ ϑ ϑ hone).mono ?_;rintro e u' w'' ⟨rfl,rfl,Pw,hA',G8⟩;have hr:(results Tryz.f55 tmps).run Tryz.prog w''= .ok (.tuple #[.agg S,iv φ]) w'':=zbr;show Leaves _ _ _ _ [] .returning w'';exact⟨_,hr,hR w'' Pw⟩
theorem J6 {bs:Nat} {S:Array Value} (ν:S.size=22) {W:World} (hA':W.heap[bs+1]? =some (.cells S 62 (0,0))) (G8:W.heap[bs+2]? =some (.cells #[iv 0] 26 (0,0))) (tmps:Array Value) (R:Ending->World->Prop)
 (h4:tmps.getD 4 undef= .pointer (some ⟨bs+1,0,none⟩)) (h5:tmps.getD 5 undef= .pointer (some ⟨bs+2,0,none⟩))
 (hR:R (.returned (.tuple #[.agg S,iv 0])) W):
 Leaves Tryz.prog Tryz.f55 tmps R [{target:= .fn (.func 96) #[.pointer (some ⟨bs,0,none⟩),.pointer (some ⟨bs+1,0,none⟩),.pointer (some ⟨bs+2,0,none⟩)],args:= #[]}] .returning W:=by
 refine leaves_cons (f:=96) (args:= #[.pointer (some ⟨bs,0,none⟩),.pointer (some ⟨bs+1,0,none⟩),.pointer (some ⟨bs+2,0,none⟩)]) ϕ (by simp[go_sem]) ?_;refine(Oh ⟨bs,0,none⟩ ⟨bs+1,0,none⟩ ⟨bs+2,0,none⟩ W).mono ?_;rintro e u' w'' ⟨rfl,rfl,rfl⟩;have hr:(results Tryz.f55 tmps).run Tryz.prog w''= .ok (.tuple #[.agg S,iv 0]) w'':=zbr;show Leaves _ _ _ _ [] .returning w'';exact⟨_,hr,hR⟩
theorem NI (c:jl) (args:Array Value) (w:World):(callFunc (fG c) args).run Tryz.prog w= .ok (.enter (fG c) args) w:=by
 cases c
 ·exact enters_of Tryz.func153 ϰ rfl args w
 ·exact enters_of Tryz.func154 ϰ rfl args w
 ·exact enters_of Tryz.func155 ϰ rfl args w
 ·exact enters_of Tryz.func156 ϰ rfl args w
 ·exact enters_of Tryz.func157 ϰ rfl args w
 ·exact enters_of Tryz.func158 ϰ rfl args w
 ·exact enters_of Tryz.func159 ϰ rfl args w
 ·exact enters_of Tryz.func160 ϰ rfl args w
 ·exact enters_of Tryz.func161 ϰ rfl args w
 ·exact enters_of Tryz.func162 ϰ rfl args w
 ·exact enters_of Tryz.func163 ϰ rfl args w
 ·exact enters_of Tryz.func164 ϰ rfl args w
 ·exact enters_of Tryz.func165 ϰ rfl args w
 ·exact enters_of Tryz.func166 ϰ rfl args w
 ·exact enters_of Tryz.func167 ϰ rfl args w
 ·exact enters_of Tryz.func168 ϰ rfl args w
 ·exact enters_of Tryz.func169 ϰ rfl args w
 ·exact enters_of Tryz.func170 ϰ rfl args w
 ·exact enters_of Tryz.func171 ϰ rfl args w
 ·exact enters_of Tryz.func172 ϰ rfl args w
 ·exact enters_of Tryz.func173 ϰ rfl args w
theorem YT (c:jl) (n:List Int) (hn:n.length=c.many) (hb: ∀x∈n,0<=x/\x<=9999) (N:Nat) (w:World) (wb:Nat) (s:iC) (V:SV) (es:List KE) (ns:Value) (hO:iW N w wb s V es) (hns:n≠[]->pU N w ns n) (hG:eD s):
 Ϝ (fG c) #[.pointer (some ⟨wb,0,none⟩),ns] w (oZ N wb (gZ s c n) w):=by
 cases c
 ·have:n=[]:=jh hn;subst this;exact Xt N w wb s V es ns hO hG
 ·obtain⟨a,b,rfl⟩: ∃a b,n=[a,b]:=zbq;have h:=hns ϕ;exact Ux N w wb s V es ns a b hO h
 ·obtain⟨a,b,d,e,f,rfl⟩: ∃a b d e f,n=[a,b,d,e,f]:=by
   simp only[jl.many] at hn
   match n,hn with
   |[a,b,d,e,f],_=>exact⟨a,b,d,e,f,rfl⟩
  have h:=hns ϕ;exact vW N w wb s V es ns a b d e f hO h hG
 ·obtain⟨a,b,d,rfl⟩: ∃a b d,n=[a,b,d]:=zaY;have h:=hns ϕ;obtain⟨a',rfl⟩: ∃k:Nat,a=k:=⟨a.toNat,by have:=hb a ϕ;omega⟩;exact Tz N w wb s V es ns a' b d hO h
 ·obtain⟨a,rfl⟩: ∃a,n=[a]:=za7;have h:=hns ϕ;obtain⟨a',rfl⟩: ∃k:Nat,a=k:=⟨a.toNat,by have:=hb a ϕ;omega⟩;exact Jl N w wb s V es ns a' hO h hG
 ·obtain⟨a,rfl⟩: ∃a,n=[a]:=za7;have h:=hns ϕ;exact TW N w wb s V es ns a hO h
 ·obtain⟨a,b,rfl⟩: ∃a b,n=[a,b]:=zbq;have h:=hns ϕ;exact YN N w wb s V es ns a b hO h
 ·obtain⟨a,b,d,rfl⟩: ∃a b d,n=[a,b,d]:=zaY;have h:=hns ϕ;exact Cb N w wb s V es ns a b d hO h hG
 ·obtain⟨a,rfl⟩: ∃a,n=[a]:=za7;have h:=hns ϕ;obtain⟨a',rfl⟩: ∃k:Nat,a=k:=⟨a.toNat,by have:=hb a ϕ;omega⟩;exact TA N w wb s V es ns a' hO h hG
 ·obtain⟨a,b,rfl⟩: ∃a b,n=[a,b]:=zbq;have h:=hns ϕ;exact Qj N w wb s V es ns a b hO h ((hb a ϕ))
 ·obtain⟨a,b,d,rfl⟩: ∃a b d,n=[a,b,d]:=zaY;have h:=hns ϕ;obtain⟨a',rfl⟩: ∃k:Nat,a=k:=⟨a.toNat,by have:=hb a ϕ;omega⟩;exact GJ N w wb s V es ns a' b d hO h hG ((hb b ϕ))
 ·obtain⟨a,rfl⟩: ∃a,n=[a]:=za7;have h:=hns ϕ;exact TD N w wb s V es ns a hO h hG ((hb a ϕ).1)
 ·obtain⟨a,rfl⟩: ∃a,n=[a]:=za7;have h:=hns ϕ;exact Mg N w wb s V es ns a hO h hG
 ·obtain⟨a,b,d,rfl⟩: ∃a b d,n=[a,b,d]:=zaY;have h:=hns ϕ;exact UF N w wb s V es ns a b d hO h hG
 ·obtain⟨a,rfl⟩: ∃a,n=[a]:=za7;have h:=hns ϕ;obtain⟨a',rfl⟩: ∃k:Nat,a=k:=⟨a.toNat,by have:=hb a ϕ;omega⟩;exact Mh N w wb s V es ns a' hO h hG
 ·obtain⟨a,b,rfl⟩: ∃a b,n=[a,b]:=zbq;have h:=hns ϕ;exact Vd N w wb s V es ns a b hO h hG ((hb a ϕ))
 ·obtain⟨a,b,d,rfl⟩: ∃a b d,n=[a,b,d]:=zaY;have h:=hns ϕ;obtain⟨a',rfl⟩: ∃k:Nat,a=k:=⟨a.toNat,by have:=hb a ϕ;omega⟩;exact qj N w wb s V es ns a' b d hO h ((hb b ϕ))
 ·obtain⟨a,b,rfl⟩: ∃a b,n=[a,b]:=zbq;have h:=hns ϕ;obtain⟨a',rfl⟩: ∃k:Nat,a=k:=⟨a.toNat,by have:=hb a ϕ;omega⟩;exact VU N w wb s V es ns a' b hO h hG
 ·obtain⟨a,b,d,rfl⟩: ∃a b d,n=[a,b,d]:=zaY;have h:=hns ϕ;obtain⟨a',rfl⟩: ∃k:Nat,a=k:=⟨a.toNat,by have:=hb a ϕ;omega⟩;obtain⟨b',rfl⟩: ∃k:Nat,b=k:=⟨b.toNat,by have:=hb b ϕ;omega⟩;exact Vw N w wb s V es ns a' b' d hO h hG
 ·obtain⟨a,b,d,rfl⟩: ∃a b d,n=[a,b,d]:=zaY;have h:=hns ϕ;exact Xe N w wb s V es ns a b d hO h hG ⟨(hb a ϕ),(hb b ϕ)⟩
 ·obtain⟨a,rfl⟩: ∃a,n=[a]:=za7;have h:=hns ϕ;obtain⟨a',rfl⟩: ∃k:Nat,a=k:=⟨a.toNat,by have:=hb a ϕ;omega⟩;exact Qb N w wb s V es ns a' hO h hG
theorem PZ: ∀l:au,(cB l).length<=l.length+1:=by
 intro l;induction l with
 |nil=>simp[cB]
 |cons c l ih=>
  rw[cB];split
  ·simp;omega
  ·have:=kg l;cases h:cB l with
   |nil=>exact absurd h this
   |cons x ps=>rw[h] at ih;simp at ih⊢;omega
theorem aF {P:Program} {w w':World} {ops:Array Oper} {rest:List Oper} {o:Oper} {a:Act} {Q:Exit->Act->World->Prop} (hg:o.guard=none) (v:Value) (h:(execOp a.eval o).run P w= .ok (.value v) w') (hK:wpList P ops Q rest (a.put o.dst v) w'):wpList P ops Q (o::rest) a w:=by
 refine wpList_plain hg fun K hK'=>?_;exact wF (R:=fun v1 w1=>v1=v/\w1=w') (iq v h ⟨rfl,rfl⟩) fun v1 w1 ⟨h1,h2⟩=>by rw[h1,h2];exact hK' _ _ hK
theorem ib {P:Program} {ops:Array Oper} {l:List Oper} {Q:Exit->Act->World->Prop} {a:Act} {W:World} (h: ∀W',W'=W->wpList P ops Q l a W'):wpList P ops Q l a W:=h W rfl
theorem Jf: ∀(l:au) (p:au),p∈cB l->p.length<=l.length:=by
 intro l;induction l with
 |nil=>intro p h;simp[cB] at h;subst h;simp
 |cons c l ih=>
  intro p h;rw[cB] at h;split at h
  ·rcases eB.1 h with rfl|h
   ·simp
   ·have:=ih p h;simp;omega
  ·cases hw:cB l with
   |nil=>exact absurd hw (kg l)
   |cons x ps=>
    rw[hw] at h;simp only[List.headD_cons,List.tail_cons] at h;rcases eB.1 h with rfl|h
    ·have:=ih x (by rw[hw];simp);simp;omega
    ·have:=ih p (by rw[hw];simp[h]);simp;omega
theorem BZ: ∀(ps:List au) (p:au) (ns:List Int) (n:Int),jY ps=some ns->jO p=some n->jY (ps++[p])=some (ns++[n]):=by
 intro ps;induction ps with
 |nil=>intro p ns n h1 h2;obtain rfl:=gV h1;simp[jY,h2]
 |cons q ps ih=>
  intro p ns n h1 h2;unfold jY at h1;cases hq:jO q with
  |none=>rw[hq] at h1;cases h1
  |some x=>
   cases hs:jY ps with
   |none=>rw[hq,hs] at h1;cases h1
   |some y=>
    rw[hq,hs] at h1;obtain rfl:=gV h1;rw[List.cons_append,jY,hq,ih p y n hs h2];rfl
theorem FZ: ∀(ps:List au) (i:Nat) (p:au),ps[i]? =some p->jO p=none->jY ps=none:=by
 intro ps;induction ps with
 |nil=>intro i p h;cases h
 |cons q ps ih=>
  intro i p h hn;cases i with
  |zero=>
   simp only[List.getElem?_cons_zero,Option.some.injEq] at h;subst h;rw[jY,hn];rfl
  |succ i=>
   rw[jY,ih i p (by simpa using h) hn];cases jO q <;>rfl
def PDo (Ms:List Nat) (s:iC) (l:au) (w:World) (e:Ending) (w':World):Prop:=
 Ϙ w w'/\ ∃V es,e= .returned (.tuple #[.agg (bP (mM aQ s l).1 V),iv (mM aQ s l).2])/\lK w' (mM aQ s l).1 V es/\ ∀W',Ext Ms w' W'->lK W' (mM aQ s l).1 V es
theorem fu {w:World} {s:iC} {V:SV} {es:List KE} (h:lK w s V es): ∀u∈(bP s V).toList,u.oneCell'=true:=by
 obtain⟨o1,c1,h1⟩:=aH.open h.uH;obtain⟨o2,c2,h2⟩:=aH.open h.QN;obtain⟨o3,c3,h3⟩:=aH.open h.bM;obtain⟨o4,c4,h4⟩:=aH.open h.Ed;obtain⟨o5,c5,h5⟩:=aH.open h.LU;obtain⟨o6,c6,h6⟩:=aH.open h.cz.heaps;obtain⟨o7,c7,h7⟩:=aH.open h.cz.aR.1;obtain⟨o8,c8,h8⟩:=aH.open h.cz.aI;simp[bP,h1,h2,h3,h4,h5,h6,h7,h8,Value.oneCell']
theorem VG (s:iC) (V:SV) (es:List KE) (l:au) (w:World) (hS:lK w s V es) (hG:eD s) (hE:Env w) (hl:l.length<=1000) (Ms:List Nat) (γ: ∀m∈Ms,m<w.heap.size) (hSM: ∀W',Ext Ms w W'->lK W' s V es):Ϝ 55 #[.agg (bP s V),.string (dN l)] w (PDo Ms s l w):=by
 obtain⟨vt,vn,vw,vu,vr,vh,vk,vs⟩:=V;have HS:Hid (∀W,Ϙ w W->lK W s ⟨vt,vn,vw,vu,vr,vh,vk,vs⟩ es):=aa (fun W hb=>hS.below hb (ah _));have HE:Hid (∀W,Ϙ w W->Env W):=aa (fun W hb=>hE.below hb (ah _));have HG:=aa hG;have aoi:=aa (fu hS);have Ww:Hid (∀(φ:Int),mM aQ s l=(s,φ)-> ∀W,Ϙ w W->Fr w.heap.size (bP s ⟨vt,vn,vw,vu,vr,vh,vk,vs⟩) W-> ∀tmps:Array Value,tmps.getD 4 undef= .pointer (some ⟨w.heap.size+1,0,none⟩)->tmps.getD 5 undef= .pointer (some ⟨w.heap.size+2,0,none⟩)->
  Leaves Tryz.prog Tryz.f55 tmps (PDo Ms s l w) [{target:= .fn (.func 96) #[.pointer (some ⟨w.heap.size,0,none⟩),.pointer (some ⟨w.heap.size+1,0,none⟩),.pointer (some ⟨w.heap.size+2,0,none⟩)],args:= #[]}] (.panicking (ji φ)) W):=aa (by
  intro φ hd W hb hF tmps h4 h5;refine Cm rfl (fu hS) hF φ tmps _ h4 h5 (fun W' Pw=>?_);have hb':Ϙ w W':=hb.trans ⟨Pw.os,Pw.tape,Pw.output,Pw.size,fun k hk=>Pw.block k (by have:=hb.size;omega) ϗ⟩;refine⟨hb',⟨vt,vn,vw,vu,vr,vh,vk,vs⟩,es,?_,?_,fun W'' G8=>?_⟩
  ·rw[hd]
  ·rw[hd];exact hS.below hb' (ah _)
  ·rw[hd];exact hSM W'' ((Ext.ay hb').trans G8))
 have HMS:=aa γ;clear hS hE hG γ hSM;go_enter_defers Tryz.func55,Tryz.ntmps55
 go_upto_region 2 with(fail)
 refine dz fun W0 hW0=>?_;have hF0:Fr w.heap.size (bP s ⟨vt,vn,vw,vu,vr,vh,vk,vs⟩) W0:=by
  rw[hW0];refine⟨?_,?_,?_⟩
  ·exact(heap_alloc_old _ _ ϗ).trans ((heap_alloc_old _ _ ϕ).trans (av _ _))
  ·exact⟨_,(heap_alloc_old _ _ ϕ).trans (dG _ _ _),rfl⟩
  ·exact⟨_,fU _ _ _ _⟩
 have ψ:=aa (show Ϙ w W0 from by rw[hW0];exact ai (ai (ai (aC _ _) _) _) _)
 have hs0:w.heap.size+3<=W0.heap.size:=by rw[hW0];simp
 have OM:=aa hF0;clear hW0 hF0;go_wp2_with fail
 refine(Qm l W0 (HE.o _ ψ.o) hl).mono ?_;rintro e W1 ⟨np,hnp,rfl,σ⟩;have Qi:=aa (show Ϙ w W1 from by rw[σ];exact ai ψ.o _);have HF1:=aa (show Fr w.heap.size (bP s ⟨vt,vn,vw,vu,vr,vh,vk,vs⟩) W1 from by rw[σ];exact OM.o.below (ai (aC _ _) _) ϑ)
 have hp1:W1.heap[W0.heap.size]? =some (.cells (aT (cB l)).toArray 9 (0,0)):=by rw[σ];exact av _ _
 have hsz1:W1.heap.size=W0.heap.size+1:=by rw[σ];simp
 have ν:w.heap.size+4<=W1.heap.size:=ϑ;obtain⟨pb,hpb⟩: ∃pb,pb=W0.heap.size:=⟨_,rfl⟩;rw[<-hpb] at hp1⊢;have hpl:pb<W1.heap.size:=ϑ;have hpw:w.heap.size+3<=pb:=ϑ;have hn1:1<=np:=by rw[hnp];have:=kg l;cases h:cB l <;>simp_all
 have hn0:0<np:=ϑ;have hnI:(0:Int)<(np:Int):=ϑ;obtain⟨x0,ps,hws⟩: ∃x0 ps,cB l=x0::ps:=by
  cases h:cB l with
  |nil=>exact absurd h (kg l)
  |cons x ps=>exact⟨x,ps,rfl⟩
 obtain⟨c1,f1,l1⟩:=ae hp1;have g0:W1.cell? ⟨pb,0,none⟩=some (.string (dN x0)):=by rw[c1,hws];rfl
 have Tj:=aa (af hp1 (af hnp hws));clear σ hp1 hnp hws hpb hsz1 c1 f1 hs0;go_wp2_with fail
 refine jC (Qu W1.heap.size) ((Ext.refl [] _).drew) (Ps:=(fun i _ v W=>match i with|8=> ∃b:Nat,v= .pointer (some ⟨b,0,none⟩)/\W1.heap.size<=b/\ ∃x y,W.heap[b]? =some (.cells #[x,y] 218 (0,0))|_=>True)) 10 (some 9)
  [(0,⟨fun _ v=> ∃mb,v= .map (some mb),fun _ v W=> ∃mb,v= .map (some mb)/\TabAt Qg wev (fun _=>True) W mb Mo⟩),(8,⟨fun _ v=> ∃b:Nat,v= .pointer (some ⟨b,0,none⟩),fun _ _ _=>True⟩),
    (9,⟨fun _ v=>v=undef,fun xs _ W=> ∃(b:Nat) (x y:Value),xs=[.pointer (some ⟨b,0,none⟩),.agg #[x,y]]/\W1.heap.size<=b/\W.heap[b]? =some (.cells #[x,y] 218 (0,0))⟩)] ϰ ϰ ?_
 simp only[zt];refine jD _ ϱ ϱ (by exact⟨.map (some 0),0,rfl⟩) (fun Wa hE hF hG=>?_) (fun v Wa Wb ho hE=>?_) (fun _ _ _ _ _=>trivial) (fun v hv=>?_)
 ·have G8:Dy W1.heap.size W1 Wa:=hE;refine bX 98 #[] (by go_simp;try rfl) ?_;refine(P8 Wa).mono ?_;rintro e w' ⟨mb,rfl,h1,h2,h3⟩;exact⟨_,rfl,⟨mb,rfl⟩,⟨mb,rfl,h2⟩,Ext.ay h3,trivial⟩
 ·obtain⟨mb,hv,ht⟩:=ho;have G8:Dy W1.heap.size Wa Wb:=hE;obtain⟨h0,Ο,cl,hm,hx⟩:=ht;exact⟨mb,hv,h0,Ο,cl,G8.maps _ _ _ hm,hx⟩
 obtain⟨mb,rfl⟩:=hv;simp only[zp];repeat ((first|refine zd ?_|refine zk ?_);simp only[zp])
 have hm:Tryz.prog.underlying 220=some (.map 9 218):=ϰ;have hz:=fun w=>Tryz.zeroValue218 w;obtain⟨n1,fv,bq,hT1,hone,XL⟩: ∃(n1:Int) (fv:Value) (bq:Bool),Value.tuple #[((TB.look (dN x0) Mo).map wev).getD (.agg #[iv 0,.nilFunc]),.bool (TB.look (dN x0) Mo).isSome]= .tuple #[.agg #[iv n1,fv],.bool bq]/\fv.oneCell'=true/\
  ((qH x0=none/\bq=false/\n1=0)∨ ∃c,qH x0=some c/\bq=true/\n1=c.many/\fv= .func (.func (fG c)) #[] #[]):=by
  rw[Uu];have hx:(dN x0).data.toList=x0:=by simp[dN]
  rw[hx];cases hc:qH x0 with
  |none=>exact⟨0,.nilFunc,false,rfl,rfl,.inl ⟨rfl,rfl,rfl⟩⟩
  |some c=>exact⟨c.many,.func (.func (fG c)) #[] #[],true,rfl,rfl,.inr ⟨c,rfl,rfl,rfl,rfl⟩⟩
 have hlk: ∀(W:World),TabAt Qg wev (fun _=>True) W mb Mo->(Instr.lookup 220 (.map (some mb)) (.string (dN x0)) true).run Tryz.prog W= .ok (.tuple #[.agg #[iv n1,fv],.bool bq]) W:=fun W hT=>by
  have:=sH qP hm hz hT (dN x0) trivial true W rfl;rw[aB rfl] at this;rw[this];exact congrArg (fun q=>Result.ok q W) hT1
 have I6:=aa hlk;have HC:=aa XL;clear hlk hm hT1 XL hz;refine fM ϱ (.tuple #[.agg #[iv n1,fv],.bool bq]) ϱ (fun W hE hF=>?_) ?_
 ·obtain⟨mb',hmb,hT⟩:=hF _ (bu _) ϰ;cases hmb;have:=I6.o W hT;go_simp
 simp only[zp];repeat ((first|refine zd ?_|refine zk ?_);simp only[zp])
 refine jD _ ϱ ϱ (by exact⟨.pointer (some ⟨0,0,none⟩),0,rfl⟩) (fun Wa hE hF hG=>?_) (fun _ _ _ _ _=>trivial) (fun v Wa Wb ho hE=>?_) (fun v hv=>?_)
 ·have G8:Dy W1.heap.size W1 Wa:=hE;exact iq (W':=Wa.alloc (.cells #[iv 0,.nilFunc] 218)) (.pointer (some ⟨Wa.heap.size,0,none⟩)) (by go_simp;try rfl) ⟨⟨_,rfl⟩,trivial,Ext.ay ((aC _ _).alloc (ah _) _),_,rfl,G8.ext.size,_,_,heap_alloc_new _ _⟩
 ·obtain⟨b,hb,hge,x,y,hc⟩:=ho;exact⟨b,hb,hge,x,y,(hE.block b (aP.1 hc).1 ϕ).trans hc⟩
 obtain⟨b8,rfl⟩:=hv;simp only[zp];refine jD _ ϱ ϱ (by exact⟨_,rfl⟩) (fun Wa hE hF hG=>?_) (fun v Wa Wb ho hE=>?_) (fun _ _ _ _ _=>trivial) (fun v hv=>?_)
 ·obtain⟨b,hb,hge,x,y,hc⟩:=hG rfl _ (bu _) ϰ;cases hb;refine sM (W':=Wa.setRow b8 #[iv n1,fv]) ?_ ⟨rfl,⟨b8,iv n1,fv,rfl,hge,setRow_heap Wa b8 _ _ _ _ hc⟩,?_,trivial⟩
  ·exact vF _ _ _ rfl b8 #[iv n1,fv] rfl rfl _ _ hc ϰ rfl (by rw[jw];intro u hu;simp only[List.mem_toArray,eB,List.not_mem_nil,or_false] at hu;rcases hu with rfl|rfl;(exact rfl);(exact hone))
  ·exact(show Dy W1.heap.size Wa (Wa.setRow b8 #[iv n1,fv]) from⟨⟨rfl,rfl,rfl,by simp,fun k _ hkB _=>setRow_other _ _ _ _ ϑ⟩,fun k Ο cl hk=>by
    have hne:k≠b8:=fun e=>by subst e;rw[hc] at hk;cases hk
    exact(setRow_other _ _ _ _ hne).trans hk⟩)
 ·obtain⟨b,x,y,h1,h2,h3⟩:=ho;have G8:Ext [] Wa Wb:=hE;exact⟨b,x,y,h1,h2,(G8.block b (aP.1 h3).1 ϕ).trans h3⟩
 obtain rfl:v=undef:=hv;simp only[zp];intro W2 Ι hF2;obtain⟨ZN,x8,y8,hx8,am5,yz⟩:=hF2 _ (bu _);have Rw:Dy W1.heap.size W1 W2:=Ι;obtain⟨rfl,rfl,rfl⟩:ZN=b8/\x8=iv n1/\y8=fv:=by
  have h:=(show[Value.pointer (some ⟨b8,0,none⟩),.agg #[iv n1,fv]]=[.pointer (some ⟨ZN,0,none⟩),.agg #[x8,y8]] from hx8);simp at h;exact⟨h.1.symm,h.2.1.symm,h.2.2.symm⟩
 have uE:Ϙ W1 W2:=⟨Rw.ext.os,Rw.ext.tape,Rw.ext.output,Rw.ext.size,fun k hk=>Rw.ext.block k hk hk ϕ⟩;have Ra:=aa (aV Qi.o uE);have HF2:=aa (HF1.o.below uE ϑ);have hp2:=(uE.block pb hpl).trans Tj.o.1;have hs2:=uE.size;have HP2:=aa (af hp2 yz);obtain⟨c2,f2,l2⟩:=ae yz;have hone':=aa hone;clear Ι hF2 hx8 Rw uE hp2 yz hone g0;rcases HC.o with⟨hc0,hbq,Rj⟩|⟨c,hc0,hbq,Rj,hfv⟩
 ·subst hbq;have hd:mM aQ s l=(s,4):=yK (by unfold nG;rw[Tj.o.2.2];simp[hc0]);have HD:=aa hd;clear hd;go_wp2_with fail
  refine(dK 4 [true] W2 ϕ _ (by simp[dw]) _ _ rfl).mono ?_;rintro e W3 ⟨hb,⟨hc,rfl⟩|⟨hc,rfl⟩⟩
  ·exact absurd hc ϖ
  ·exact Ww.o 4 HD.o W3 (aV Ra.o hb) (HF2.o.below hb ϑ) _ rfl rfl
 ·subst hbq;subst Rj;subst hfv;have adG:np=ps.length+1:=by rw[Tj.o.2.1,Tj.o.2.2];rfl
  have amC:(np:Int)<=1001:=by have:=PZ l;rw[<-Tj.o.2.1] at this;omega
  have HNP:=aa adG;clear adG;go_wp2_with fail
  refine(dK 4 [(np:Int)-1 !=c.many] W2 ϕ _ (by simp[dw]) _ _ rfl).mono ?_;rintro e W3 ⟨hb,⟨hc,rfl⟩|⟨hc,rfl⟩⟩;rotate_left
  ·have hd:mM aQ s l=(s,4):=yK (by
    unfold nG;rw[Tj.o.2.2,List.headD_cons,hc0,Option.bind_some,List.tail_cons,aj];intro e;have:=HNP.o;simp at hc;omega)
   exact Ww.o 4 hd W3 (aV Ra.o hb) (HF2.o.below hb ϑ) _ rfl rfl
  have hcm:ps.length=c.many:=by
   have:=HNP.o;simp at hc;omega
  have δ:=aa (aV Ra.o hb);have HF3:=aa (HF2.o.below hb ϑ);have hp3:=(hb.block pb ϑ).trans HP2.o.1;have aeo:=(hb.block ZN l2).trans HP2.o.2;have ahq:pb<W3.heap.size:=(aP.1 hp3).1;obtain⟨off,hA⟩: ∃off,(if np=1 then(some ⟨pb,0,none⟩:Option Addr) else some ⟨pb,1,none⟩)=some ⟨pb,off,none⟩:=by split <;>exact⟨_,rfl⟩
  have hoff: ∀i,i<ps.length->off=1:=fun i hi=>by
   have:=HNP.o;rw[aj ϑ] at hA;injection hA with h;injection h with _ h2 _;exact h2.symm
  have HO:=aa (af hoff hcm);have Y2:=aa (af hp3 (af aeo hc0));have hn1':(1:Int)<=(np:Int):=ϑ;clear hb hc hcm hp3 aeo hoff c2 f2 hc0;go_wp2_with fail
  have HN0:Hid (jY []=some []):=aa rfl;go_loopw [9,11,12,13,41] (fun v9 _ _ _ u wr=> ∃i:Nat,i<=ps.length/\u= .int .i64 i/\Ϙ W3 wr/\ ∃(ns:List Int) (o:Option Addr) (c9:Nat),jY (ps.take i)=some ns/\v9= .slice o i c9/\wr.ownsRow W3.heap.size 3 1 (.slice o i c9) i (ag ns)) (fun _ _ _ _ u _=>ps.length-(intOf u).toNat)
  case atStart=>exact⟨0,bD _,rfl,aC _ _,[],none,0,rfl,rfl,⟨rfl,.inl ⟨rfl,rfl⟩⟩⟩
  case round=>
   obtain⟨i,hi,rfl,hB,ns,o9,c9,hns,rfl,η⟩:=hrel;have adF:=HNP.o;by_cases tX:i<ps.length
   ·have hlt2:(i:Int)<((np-1:Nat):Int):=ϑ;have hlt3:i<np-1:=ϑ;have hpr:=(hB.block pb ahq).trans Y2.o.1;obtain⟨cp,fp,lp⟩:=ae hpr;have gi:wr.cell? ⟨pb,off+i,none⟩=some (.string (dN ps[i])):=by
     rw[HO.o.1 i tX,cp,Tj.o.2.2];simp[aT,tX,Nat.add_comm]
    have aaD:ps[i].length<=1000:=by
     have:=Jf l ps[i] (by rw[Tj.o.2.2];simp);omega
    have HNA:=aa (MV ps[i] wr (HE.o wr (aV δ.o hB)) aaD);have HX:=aa (af hB (af hns η));clear hB hns η cp hpr adF;go_wp2_with fail
    refine HNA.o.mono ?_;rintro e W4 ⟨hb4,v,rfl,hv⟩;cases hnb:jO ps[i] with
    |none=>
     rw[hnb] at hv;have fV:=aa (aV HX.o.1 hb4);have hd:mM aQ s l=(s,4):=yK (by
      unfold nG;rw[Tj.o.2.2,List.headD_cons,Y2.o.2.2,Option.bind_some,List.tail_cons,FZ ps i ps[i] (bZ tX) hnb];simp)
     have HD:=aa hd;clear hd hb4 hv hnb HNA gi fp lp;simp only[Option.isSome_none];go_wp2_with fail
     refine(dK 4 [true] W4 ϕ _ (by simp[dw]) _ _ rfl).mono ?_;rintro e W5 ⟨hb,⟨hc,rfl⟩|⟨hc,rfl⟩⟩
     ·exact absurd hc ϖ
     ·exact Ww.o 4 HD.o W5 (aV δ.o (aV fV.o hb)) (HF3.o.below (aV fV.o hb) ϑ) _ rfl rfl
    |some n=>
     rw[hnb] at hv;obtain rfl:v=n:=hv n rfl;have fV:=aa (aV HX.o.1 hb4);have adB:=az (Ms:=[]) HX.o.2.2 (Ext.ay hb4) ϕ;have HN4:=aa hnb;have HW4:=aa (af adB hb4);clear hb4 hv hnb HNA gi fp lp adB;simp only[Option.isSome_some];go_wp2_with fail
     refine(dK 4 [false] W4 ϕ _ (by simp[dw]) _ _ rfl).mono ?_;rintro e W5 ⟨hb,⟨hc,rfl⟩|⟨hc,rfl⟩⟩;rotate_left
     ·exact absurd hc ϖ
     have UO:=az (Ms:=[]) HW4.o.1 (Ext.ay hb) ϕ;have mO:=aa (aV fV.o hb);have HW5:=aa UO;have hs5:=mO.o.size;have hi5:i<=1001:=ϑ;clear hb hc UO;go_wp2_with (at_builtin;go_loud (refine dB rfl _ _ pq rfl W3.heap.size (.slice o9 i c9) i (ag ns) rfl (az (Ms:=[]) HW5.o (Ext.ay (ai (aC _ _) _)) ϕ) (.slice (some ⟨W5.heap.size,0,none⟩) 1 1) 1 [iv v] rfl (aH.bS 1 1 (av _ _) rfl ϖ) (one_one v) ϑ ϑ ϗ ?_))
     intro v' W6 Fw TF hN;obtain⟨o6,c6,rfl⟩:=aO Fw;have Zn:=vO mO.o HW5.o (Ext.ay (ai (aC _ _) _)) Fw TF (ah _) mO.o.size;have HP:=aa (af Zn Fw);clear Zn Fw TF hN;go_wp2_with fail
     go_roundw
     case rel=>
      refine⟨i+1,by omega,by go_num,HP.o.1.1,ns++[v],o6,c6,?_,rfl,?_⟩
      ·rw[oQ,bZ tX];exact BZ _ _ _ _ HX.o.2.1 HN4.o
      ·rw[rH];exact HP.o.2
     case measure=>simp[intOf];omega
   ·obtain rfl:i=ps.length:=ϑ;rw[List.take_length] at hns;have hp:nG l=some (c,ns):=by
     unfold nG;rw[Tj.o.2.2,List.headD_cons,Y2.o.2.2,Option.bind_some,List.tail_cons,aB HO.o.2,hns];rfl
    have ael:=(hB.block ZN (by have:=(aP.1 Y2.o.2.1).1;omega)).trans Y2.o.2.1
    obtain⟨c8,f8,l8⟩:=ae ael;obtain⟨hwl,hnl,hnb,ahv⟩:=qx hp;have HX:=aa (af hB (af η (af hp (af hnl hnb))));have amD: ¬((ps.length:Nat):Int)<((np-1:Nat):Int):=ϑ;have akc: ¬ps.length<np-1:=ϑ;clear hB η hp hns hwl hnl hnb ahv ael adF;go_upto_region 13 with(fail)
    have hFr:=HF3.o.below HX.o.1 ϑ;refine wp_region_lit ?_;refine wpList_load_row rfl _ _ rfl w.heap.size rfl _ _ _ _ hFr.s Tryz.underlying62 rfl ϰ ?_;simp only[zp];have HFr:=aa hFr;have Bq:=aa (Bu s ⟨vt,vn,vw,vu,vr,vh,vk,vs⟩ es wr (HS.o wr (aV δ.o HX.o.1)) HG.o);have xB:=l8;have HC8:=aa c8;clear hFr c8 f8;go_wp2_with fail
    refine Bq.o.mono ?_;rintro e W4 ⟨hb4,wb,V',Ο,rfl,hO4⟩;have aaK:ZN<W3.heap.size:=(aP.1 Y2.o.2.1).1;have hsr:=HX.o.1.size;have aen:=(hb4.block ZN ϑ).trans ((HX.o.1.block ZN aaK).trans Y2.o.2.1);obtain⟨c4,f4,l4⟩:=ae aen;have hns:ns≠[]->pU wr.heap.size W4 (.slice o9 ps.length c9) ns:=fun hne=>by
     have Pg:=az (Ms:=[]) HX.o.2.1 (Ext.ay hb4) ϕ;have Ib:ps.length=ns.length:=by rw[HX.o.2.2.2.1,HO.o.2]
     have hpos:0<ps.length:=by rw[Ib];exact List.length_pos_iff.2 hne
     obtain⟨g,rfl,hcg,hfg,hgl⟩:=fP Pg hpos;obtain⟨g2,hg2,anl,_,Ro⟩:=fP HX.o.2.1 hpos;cases hg2;refine⟨g,c9,by rw[Ib],Ro,fun j hj=>?_⟩;have:=hcg j (by simpa [ag] using hj);simpa [ag] using this
    have aip:=NI c;have HA:=aa (YT c ns HX.o.2.2.2.1 HX.o.2.2.2.2 wr.heap.size W4 wb s V' Ο (.slice o9 ps.length c9) hO4 hns HG.o);have fV:=aa (aV HX.o.1 hb4);have I5:=aa hO4;clear aen hns hb4 hO4;go_wp2_with fail
    refine HA.o.mono ?_;rintro e W5 ⟨hb5,⟨h0,rfl,V2,es2,hO5⟩|⟨hne,rfl⟩⟩;rotate_left
    ·have hd:mM aQ s l=(s,(gZ s c ns).1):=by rw[yJ HX.o.2.2.1,aB hne]
     have aet:=fV.o.trans (hb5.mono (show W3.heap.size<=wr.heap.size from hsr));exact Ww.o _ hd W5 (aV δ.o aet) (HF3.o.below aet ϑ) _ rfl rfl
    have mO:=aa (fV.o.trans (hb5.mono (show W3.heap.size<=wr.heap.size from hsr)));have HO5:=aa (af h0 hO5);have hl5:=hO5.rows.lt;have κ:=aa (Ql (gZ s c ns).2 V2 es2 W5 hO5.st);have hk5:=hO5.blk;clear hb5 h0 hO5 HA c4 f4 aip;go_upto_region 15 with(fail)
    refine wp_region_lit ?_;refine aF rfl _ (by go_simp;first|rfl|exact⟨rfl,rfl⟩) ?_;simp only[zp];refine aF rfl _ (by go_simp;first|rfl|exact⟨rfl,rfl⟩) ?_;simp only[zp];refine aF rfl _ (by go_simp;first|rfl|exact⟨rfl,rfl⟩) ?_;simp only[zp];refine wpList_load_row rfl _ _ rfl wb rfl _ _ _ _ hk5 Tryz.underlying62 rfl ϰ ?_;simp only[zp];have OJ:=aa hk5;clear hk5;go_wp2_with fail
    refine κ.o.mono ?_;rintro e W6 ⟨hb6,⟨h0,rfl⟩|⟨hne,rfl⟩⟩;rotate_left
    ·have hd:mM aQ s l=(s,aQ (gZ s c ns).2):=by rw[yJ HX.o.2.2.1,aj (by rw[HO5.o.1];simp),aB hne]
     have aes:=aV mO.o hb6;exact Ww.o _ hd W6 (aV δ.o aes) (HF3.o.below aes ϑ) _ rfl rfl
    have nZ:=aa (aV mO.o hb6);have Gc:=(hb6.block wb hl5).trans OJ.o;have I4:=aa (af h0 (HO5.o.2.below hb6));clear hb6 h0 κ;go_upto_region 16 with(fail)
    refine wp_region_lit ?_;refine aF rfl _ (by go_simp;first|rfl|exact⟨rfl,rfl⟩) ?_;simp only[zp];refine aF rfl _ (by go_simp;first|rfl|exact⟨rfl,rfl⟩) ?_;simp only[zp];refine aF rfl _ (by go_simp;first|rfl|exact⟨rfl,rfl⟩) ?_;simp only[zp];refine wpList_load_row rfl _ _ rfl wb rfl _ _ _ _ Gc Tryz.underlying62 rfl ϰ ?_;simp only[zp];have abd:=HF3.o.below nZ.o ϑ;obtain⟨A6,hA6,aeT⟩:=abd.a;obtain⟨ec6,tL⟩:=abd.e;refine wpList_store_row rfl _ _ _ rfl (w.heap.size+1) _ rfl rfl _ _ hA6 ϰ (by rw[aeT];rfl) (by rw[jw];exact fun u hu=>fu I4.o.2.st u (jM.2 hu)) ?_
    simp only[zp];refine ib fun W7 uC=>?_;have hA7:W7.heap[w.heap.size+1]? =some (.cells (bP (gZ s c ns).2 V2) 62 (0,0)):=by rw[uC];exact setRow_heap W6 _ A6 _ _ _ hA6
    have abh:Ext [w.heap.size+1] W6 W7:=by rw[uC];exact dJ
    have pF:=(abh.block (w.heap.size+2) (aP.1 tL).1 ϕ).trans tL;obtain⟨c7,f7,l7⟩:=ae pF;have c70:=c7 0;simp at c70;have HX7:=aa (af hA7 (af abh pF));clear uC hA7 abh pF hA6 tL abd aeT c7 Gc;go_wp2_with fail
    have hd:mM aQ s l=((gZ s c ns).2,0):=by rw[yJ HX.o.2.2.1,aj (by rw[HO5.o.1];simp),aj (by rw[I4.o.1];simp)]
    have Iy:Ext [w.heap.size+1,w.heap.size+2] W6 (W7.setCell ⟨w.heap.size+2,0,none⟩ (iv 0)):=(HX7.o.2.1.more ϕ).trans (fq.more ϕ);have hA8:=(heap_setCell_other W7 ⟨w.heap.size+2,0,none⟩ (w.heap.size+1) (iv 0) ϕ).trans HX7.o.1;have aer:=nZ.o;have hsb:=aer.size;refine J6 rfl hA8 (aG HX7.o.2.2 _) _ _ rfl rfl ⟨?_,V2,es2,?_,?_,fun W' G8=>?_⟩
    ·exact(aV δ.o aer).trans ⟨Iy.os,Iy.tape,Iy.output,Iy.size,fun k hk=>Iy.block k (by have:=δ.o.size;omega) ϗ⟩
    ·rw[hd]
    ·rw[hd];have CO:=I4.o.2;have hNb:=CO.rows.base;exact(show iW wr.heap.size _ wb (gZ s c ns).2 V2 es2 from⟨(Iy.block wb CO.rows.lt ϗ).trans CO.blk,CO.rows.keep Iy (fun m hm=> .inr (by simp at hm;omega)),CO.es⟩).st
    ·rw[hd];have CO:=I4.o.2;have hNb:=CO.rows.base;have hO9:iW wr.heap.size _ wb (gZ s c ns).2 V2 es2:=⟨(Iy.block wb CO.rows.lt ϗ).trans CO.blk,CO.rows.keep Iy (fun m hm=> .inr (by simp at hm;omega)),CO.es⟩;have hsr:=HX.o.1.size;have hs3:=δ.o.size;have tX: ∀m∈Ms,m<wr.heap.size:=fun m hm=>by have:=HMS.o m hm;omega
     exact(show iW wr.heap.size W' wb (gZ s c ns).2 V2 es2 from⟨(G8.block wb hO9.rows.lt (fun h=>by have:=tX wb h;omega)).trans hO9.blk,hO9.rows.keep G8 (fun m hm=> .inr (tX m hm)),hO9.es⟩).st
end Go.Proofs.Z.Bk
end

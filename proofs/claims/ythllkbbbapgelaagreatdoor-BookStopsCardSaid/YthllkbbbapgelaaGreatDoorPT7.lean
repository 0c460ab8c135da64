/-
  Texts of this claim, packed by a program: QF UA UD UH.
-/
import Derived.WalkKit
import Derived.WalkLawsBesides
import Derived.WalkSpells
import Derived.Outline
import Derived.Handy
import Derived.KernelRfl
import Derived.Lib.Hide
import Derived.BigRegion
import Derived.Deep.Cut
import Derived.Test.YthllkbbbapgelaaGreatDoorPT6
set_option maxHeartbeats 8000000
set_option maxRecDepth 100000
set_option linter.all false
section
namespace Go.Proofs.YthllkbbbapgelaaGreatDoor
open Go.RowKit Go.RG Go.SL Go.Shelf jl Go.TB
abbrev ZR (d:List Int):Value:=lQ d
abbrev aaG (w:World) (v:Value) (ls:List (List Int)):Prop:=aN 3 w v ls.length (ls.flatMap ah)
theorem ajn (l:List (List Int)) (v:Value) (aZ:Nat) (fst caps:Array Value) (p:Nat->Bool) (I:Nat->World->Prop) (w:World) (h3: ∀x∈l,x.length=3) (eg: ∀args w,(callFunc aZ args).run Tryz.prog w= .ok (.enter aZ args) w)
 (hsl: ∀k W,I k W->aaG W v l)
 (hcall: ∀k (hk:k<l.length) W,(∀j,j<k->p j=false)->I k W->Calls Tryz.prog aZ (fst.push (ZR l[k])++caps) W (fun e W'=>e= .returned (.bool (p k))/\I (k+1) W')) (h0:I 0 w):
 Calls Tryz.prog 205 #[v,.func (.func aZ) fst caps] w (dZ l.length p I (fun k=>iv k) (iv (-1))):=by
 have hlen:=(hsl 0 w h0).len
 obtain⟨o,c,rfl⟩:=(hsl 0 w h0).open
 have HC:=ae hcall
 have HS:=ae hsl
 have H3:=ae h3
 clear hcall hsl h3
 go_enter Tryz.func205,Tryz.ntmps205
 go_wp2
 go_loopw [4,5,8] (fun _ _ i wr=> ∃k:Nat,k<=l.length/\i= .int .i64 k/\(∀j,j<k->p j=false)/\I k wr) (fun _ _ i _=>l.length-(intOf i).toNat)
 case atStart=>exact⟨0,bM _,rfl,fun j hj=>by omega,h0⟩
 case round=>
  obtain⟨k,hk,rfl,hno,hI⟩:=hrel
  by_cases hlt:k<l.length
  ·obtain⟨b,off,y0,y1,y2,hvv,hb,hys,hc0,hc1,hc2⟩:=CQ (HS.o k wr hI) H3.o hlt
   subst hvv
   have hC:=HC.o k hlt wr hno hI
   have hda:ZR l[k]= .agg #[iv y0,iv y1,iv y2]:=by show lQ l[k]=_;rw[hys];rfl
   rw[hda] at hC
   have HN:=ae hno
   clear hno
   go_wp2_with fail
   refine hC.mono ?_
   rintro e W1 ⟨rfl,hI1⟩
   have HI:=ae hI1
   clear hI1 hI hC
   cases hp:p k
   ·go_wp2_with fail
    go_roundw
    case rel=>exact⟨k+1,by omega,by go_num,fun j hj=>(by by_cases e:j=k;(subst e;exact hp);exact HN.o j (by omega)),HI.o⟩
    case measure=>simp[intOf];omega
   ·go_wp2_with fail
    go_returns
    exact⟨k,by omega,HN.o,.inl ⟨hlt,hp,by simp,HI.o⟩⟩
  ·have hkl:k=l.length:=by omega
   have HN:=ae hno
   clear hno
   go_wp2_with fail
   go_returns
   exact⟨k,by omega,HN.o,.inr ⟨hkl,by simp,by subst hkl;exact hI⟩⟩
theorem ahD (l:List (List Int)) (v:Value) (aZ:Nat) (fst caps:Array Value) (p:Nat->Bool) (I:Nat->World->Prop) (w:World) (h3: ∀x∈l,x.length=3) (eg: ∀args w,(callFunc aZ args).run Tryz.prog w= .ok (.enter aZ args) w)
 (hsl: ∀k W,I k W->aaG W v l)
 (hcall: ∀k (hk:k<l.length) W,(∀j,j<k->p j=false)->I k W->Calls Tryz.prog aZ (fst.push (ZR l[k])++caps) W (fun e W'=>e= .returned (.bool (p k))/\I (k+1) W')) (h0:I 0 w):
 Calls Tryz.prog 123 #[v,.func (.func aZ) fst caps] w (dZ l.length p I (fun _=> .bool true) (.bool false)):=by
 have HI:=ae (ajn l v aZ fst caps p I w h3 eg hsl hcall h0)
 have hlen:=(hsl 0 w h0).len
 clear hsl hcall h0 eg
 go_enter Tryz.func123,Tryz.ntmps123
 go_wp2_with fail
 refine HI.o.mono ?_
 clear HI
 rintro e W' ⟨k,hk,hno,⟨hlt,hp,rfl,hI⟩|⟨hkl,rfl,hI⟩⟩
 ·have HN:=ae (ag hno (ag hp hI))
  clear hno hp hI
  go_wp2_with fail
  go_returns
  exact⟨k,hk,HN.o.1,.inl ⟨hlt,HN.o.2.1,by simp,HN.o.2.2⟩⟩
 ·have HN:=ae (ag hno (ag hkl hI))
  clear hno hkl hI
  go_wp2_with fail
  go_returns
  exact⟨k,hk,HN.o.1,.inr ⟨HN.o.2.1,by simp,HN.o.2.1▸HN.o.2.2⟩⟩
def gq (l:aQ) (out:List Int):Bool:=(gm l).any (jw l out)
structure Eu (W:World) (wb mb:Nat) (l:aQ) (tv nv v:Value):Prop where
 work:C9 W wb mb l tv nv v (gm l)
 tab: ∃T,TabAt XC rv (fun _=>True) W mb T
structure Hl (W:World) (wb mb:Nat) (l:aQ) (tv nv v:Value) (out:List Int):Prop where
 work:C9 W wb mb l tv nv v (gm l)
 tab: ∃T,TabAt XC rv (fun _=>True) W mb T/\rE (Dw l out) T (sZ l.field.aK.toNat (gm l) (gm l).length)
theorem Hl.ok {W:World} {wb mb:Nat} {l:aQ} {tv nv v:Value} {out:List Int} (h:Hl W wb mb l tv nv v out):Eu W wb mb l tv nv v:=⟨h.work,let⟨T,h1,_⟩:=h.tab;⟨T,h1⟩⟩
theorem Hl.below {W W':World} {wb mb:Nat} {l:aQ} {tv nv v:Value} {out:List Int} (h:Hl W wb mb l tv nv v out) {B:Nat} (hb:Below B W W') (hB:W.heap.size<=B):Hl W' wb mb l tv nv v out:=
 ⟨h.work.below hb hB,let⟨T,h1,h2⟩:=h.tab;⟨T,h1.below hb hB,h2⟩⟩
theorem Eu.below {W W':World} {wb mb:Nat} {l:aQ} {tv nv v:Value} (h:Eu W wb mb l tv nv v) {B:Nat} (hb:Below B W W') (hB:W.heap.size<=B):Eu W' wb mb l tv nv v:=
 ⟨h.work.below hb hB,let⟨T,h1⟩:=h.tab;⟨T,h1.below hb hB⟩⟩
theorem Eu.lt {W:World} {wb mb:Nat} {l:aQ} {tv nv v:Value} (h:Eu W wb mb l tv nv v):mb<W.heap.size:=let⟨_,h1⟩:=h.tab;h1.lt
theorem Eu.mM {W:World} {wb mb:Nat} {l:aQ} {tv nv v:Value} (h:Eu W wb mb l tv nv v) (o:Nat):W.cell? ⟨mb,o,none⟩=none:=let⟨_,h1⟩:=h.tab;h1.mM o
theorem qM (l:aQ): ∀x∈gm l,x.length=3:=Be l _
theorem GL {l:aQ} (hS:pO l) {d:List Int} (hd:d∈gm l) (i:Nat) (hi:i<3):0<=d.getD i 0/\d.getD i 0<=350:=by
 obtain⟨t,ht,rfl⟩:=Jz.1 hd
 have hF:=iF hS.field
 have:=oG ht
 exact GK (by have:=hS.rate;omega) (by have:=hS.rate;omega) t (by have:=hF.qH;omega) i hi
theorem abk {l:aQ} {out:List Int} {T:List ((Int×Int)×dQ)} (hF:rE (Dw l out) T (sZ l.field.aK.toNat (gm l) (gm l).length)) {d:List Int} (hd:d∈gm l) {i:Nat} (hi:i<l.field.aK.toNat):
 TB.look ((i:Int),d.getD i 0) T=some ((pJ l out d).getD i (0,0)):=by
 obtain⟨r,hr⟩:=hF.has ((i:Int),d.getD i 0) (by
  unfold sZ
  rw[List.take_length,qw]
  exact⟨d,hd,iZ.2 ⟨i,kX.2 hi,rfl⟩⟩)
 rw[hr,hF.only _ _ hr,NW,CZ _ _ _ hi]
theorem aaj {l:aQ} (hS:pO l) (out:List Int) {d:List Int} (hd:d∈gm l): ∀r∈pJ l out d,0<=r.1/\r.1<=2000/\0<=r.2/\r.2<=2000:=by
 intro r hr
 obtain⟨i,hi,rfl⟩:=iZ.1 hr
 have hF:=iF hS.field
 have:=hF.wR
 have hi':=kX.1 hi
 have hb:=GL hS hd i (by omega)
 have:=NV hS out i hb.1 (by omega)
 omega
theorem TY {l:aQ} (hS:pO l) {tv nv v:Value} {out:List Int} {wb mb:Nat} {d:List Int} (hd:d∈gm l) {w:World} (hw:Hl w wb mb l tv nv v out):
 Calls Tryz.prog 125 #[.pointer (some ⟨wb,0,none⟩),lQ d] w (Pz l out d w):=by
 obtain⟨T,hT,hF⟩:=hw.tab
 exact Yz l (iF hS.field) (by have:=hS.box;omega) tv nv v out d (qM l d hd) (pJ l out d) rfl (aaj hS out hd) wb mb T w hw.work.cells hT (fun i hi=>abk hF hd hi)
theorem Vh {l:aQ} (hS:pO l) {tv nv v:Value} {out:List Int} {wb mb bp:Nat} {d:List Int} (hd:d∈gm l) {w:World} (hw:Hl w wb mb l tv nv v out) (hp:w.heap[bp]? =some (.cells #[.pointer (some ⟨wb,0,none⟩)] 159 (0,0))):
 Calls Tryz.prog 124 #[lQ d,.pointer (some ⟨bp,0,none⟩)] w (PV (.bool (jw l out d)) w):=by
 obtain⟨y0,y1,y2,hys⟩:=nH (qM l d hd)
 have hag:lQ d= .agg #[iv y0,iv y1,iv y2]:=by rw[hys];rfl
 have HP:=ae (fun W hW=>hag▸TY (w:=W) hS hd (hw.below (B:=w.heap.size) hW (ai _)))
 rw[hag]
 obtain⟨c1,f1,l1⟩:=af hp
 obtain⟨q,hq⟩: ∃q,jw l out d=q:=⟨_,rfl⟩
 have HQ:=ae hq
 clear hw hp hag hys hq
 go_enter Tryz.func124,Tryz.ntmps124
 go_wp2_with fail
 refine(HP.o _ (ak (aH _ _) _)).mono ?_
 rintro e w' ⟨hb,⟨hc,u,rfl,hu⟩|⟨hc,rfl⟩⟩
 ·have hq:q=true:=by rw[<-HQ.o,hc]
  obtain⟨uo,uc,rfl⟩:=aW hu
  have HB:=ae (bn (ak (aH w.heap.size w) (.cells #[iv y0,iv y1,iv y2] 257)) hb)
  have HE:=ae (ag hc hq)
  clear hb hc hu hq
  go_wp2_with fail
  go_returns
  exact⟨by rw[HE.o.1];simp,HB.o⟩
 ·have HB:=ae (bn (ak (aH w.heap.size w) (.cells #[iv y0,iv y1,iv y2] 257)) hb)
  have HE:=ae hc
  clear hb hc
  go_wp2_with fail
  go_returns
  exact⟨by rw[HE.o];simp,HB.o⟩
theorem oW {l:aQ} (hS:pO l) {tv nv v ov:Value} (out:List Int) {wb mb:Nat} {w:World} (hw:Eu w wb mb l tv nv v) (ho:aO w ov out):
 Calls Tryz.prog 72 #[.pointer (some ⟨wb,0,none⟩),ov] w (fun e w'=>e= .returned (.bool (gq l out))/\Hl w' wb mb l tv nv v out/\Ext [mb] w w'):=by
 obtain⟨T0,hT0⟩:=hw.tab
 obtain⟨oo,oc,rfl⟩:=ho.open
 obtain⟨vo,vc,rfl⟩:=hw.work.truth.open
 have hF:=iF hS.field
 have hlen:(gm l).length<=2500:=iR (zY l _) (lT hF [])
 have hBA:Below w.heap.size w (w.alloc (.cells #[.pointer (some ⟨wb,0,none⟩)] 159)):=ak (aH _ _) _
 have HWO:=ae (MI l hF hS.many tv nv _ _ out wb mb (gm l) T0 _ (hw.work.below hBA (ai _)) (hT0.below hBA (ai _)) (ho.below hBA (ai _)) (qM l) hlen)
 have hmb:=hT0.lt
 have hwb:=hw.work.lt
 have HW:=ae (ag (hw.work.below hBA (ai _)) (hT0.below hBA (ai _)))
 have HS:=ae hS
 obtain⟨q,hq⟩: ∃q,gq l out=q:=⟨_,rfl⟩
 rw[hq]
 have HQ:=ae hq
 have hbp:=ay w (.cells #[.pointer (some ⟨wb,0,none⟩)] 159)
 have HBP:=ae hbp
 clear hw ho hT0 hq hS hbp hBA
 go_enter Tryz.func72,Tryz.ntmps72
 go_wp2_with fail
 refine HWO.o.mono ?_
 rintro e W1 ⟨⟨u,rfl⟩,hE,T,hT,RH⟩
 have abK:=(hE.block w.heap.size (by simp) (by simp;omega)).trans HBP.o
 have Rn:=HW.o.1.table hE HW.o.2.mM
 have hKn:Hl W1 wb mb l tv nv (.slice vo (gm l).length vc) out:=⟨Rn,T,hT,RH⟩
 have XF:Ext [mb] w W1:=(Ext.aA (ak (aH _ _) _)).trans hE
 have HC:=ae (ahD (gm l) (.slice vo (gm l).length vc) 124 #[] #[.pointer (some ⟨w.heap.size,0,none⟩)] (fun k=>jw l out ((gm l).getD k [])) (fun _ W=>Below W1.heap.size W1 W) W1 (qM l)
  (enters_of Tryz.func124 (by kernel_rfl) rfl) (fun k W hW=>Rn.truth.below hW (ai _))
  (fun k hk W _ hW=>by
    have hg:(gm l).getD k []=(gm l)[k]:=by simp[List.getD,hk]
    rw[hg]
    refine(Vh HS.o (df hk) (hKn.below hW (ai _)) ((hW.block _ (aS.1 abK).1).trans abK)).mono ?_
    rintro e W' ⟨rfl,hb⟩
    exact⟨rfl,bn hW hb⟩) (aH _ _))
 obtain⟨c1,f1,l1⟩:=af abK
 obtain⟨c2,f2,l2⟩:=af Rn.cells
 have HX:=ae (ag hKn XF)
 clear hE hT RH abK Rn hKn XF
 obtain⟨ls,hls⟩: ∃ls,gm l=ls:=⟨_,rfl⟩
 rw[hls] at HC c2
 have EY:=ae hls
 clear hls
 go_wp2_with fail
 refine HC.o.mono ?_
 rintro e W2 ⟨k,hk,hno,⟨hlt,hp,rfl,hB⟩|⟨hkl,rfl,hB⟩⟩
 ·have hqt:q=true:=by
   rw[<-HQ.o]
   unfold gq
   rw[EY.o,List.any_eq_true]
   exact⟨ls.getD k [],by rw[show ls.getD k []=ls[k] from by simp[List.getD,hlt]];exact df _,hp⟩
  have HF:=ae (ag hqt hB)
  clear hno hp hB hqt
  go_wp2_with fail
  go_returns
  exact⟨by rw[HF.o.1];simp,HX.o.1.below HF.o.2 (ai _),HX.o.2.trans (Ext.aA HF.o.2)⟩
 ·have hqf:q=false:=by
   rw[<-HQ.o]
   unfold gq
   rw[EY.o,List.any_eq_false]
   intro x hx
   obtain⟨j,hj,rfl⟩:=lY hx
   have:=hno j (by omega)
   simp only at this
   rw[show ls.getD j []=ls[j] from by simp[List.getD,hj]] at this
   simp[this]
  have HF:=ae (ag hqf hB)
  clear hno hB hqf
  go_wp2_with fail
  go_returns
  exact⟨by rw[HF.o.1];simp,HX.o.1.below HF.o.2 (ai _),HX.o.2.trans (Ext.aA HF.o.2)⟩
end Go.Proofs.YthllkbbbapgelaaGreatDoor
namespace Go.Proofs.YthllkbbbapgelaaGreatDoor
open Go.RowKit Go.RG Go.SL Go.Shelf jl Go.TB
def JW (l:aQ):Bool:=nM l.rate 1 50&&(kW l.box&&l.notes.all (AA l))
def iL (l:aQ):Int:=if 5<l.notes.length then 3 else if fO l.field true≠0 then fO l.field true else if JW l=false then 1 else if gq l (upto l.notes.length)=false then 9 else 0
theorem Jb {l:aQ} (h1: ¬5<l.notes.length) (h2:fO l.field true=0) (h3:JW l=true):pO l:=by
 have hf:jS l.field=0:=by
  unfold fO at h2
  split at h2
  ·omega
  ·rename_i h;omega
 obtain⟨hS,hpos,_⟩:=rZ h2
 simp only[JW,nM,kW,eF,eQ,jV] at h3
 obtain⟨⟨r1,r2⟩,⟨b1,⟨b2,b3⟩,b4,b5⟩,hn⟩:=h3
 refine⟨hf,fun e=>by rw[e] at hpos;simp at hpos,⟨r1,r2⟩,⟨by omega,by omega,by omega⟩,by omega,fun x hx=>?_⟩
 have:=hn x hx
 simp only[AA,nM,kW,eF,eQ] at this
 omega
def Bd (n k:Nat):List Int:=(List.range n).map fun(i:Nat)=>if i<k then(i:Int) else 0
theorem Ws (n:Nat):Bd n 0=List.replicate n 0:=by
 unfold Bd
 simp only[Nat.not_lt_zero,if_false]
 rw[List.map_const',List.length_range]
theorem ZQ (n:Nat):Bd n n=upto n:=by
 unfold Bd upto
 apply List.map_congr_left
 intro i hi
 rw[aF (kX.1 hi)]
theorem ZP {n k:Nat} (_hk:k<n):(Bd n k).set k (k:Int)=Bd n (k+1):=by
 refine List.ext_getElem (by simp[Bd]) fun i h1 h2=>?_
 rw[List.getElem_set]
 simp only[Bd,List.getElem_map,List.getElem_range]
 by_cases e:k=i
 ·subst e;simp
 ·rw[aj e]
  by_cases h:i<k
  ·rw[aF h,aF (by omega)]
  ·rw[aj h,aj (by omega)]
theorem Oz (n k:Nat):(Bd n k).length=n:=by simp[Bd]
def PO (l:aQ) (tv nv:Value) (w:World) (e:Ending) (w':World):Prop:=
 Below w.heap.size w w'/\((iL l≠0/\e= .returned (.tuple #[.pointer none,iv (iL l)]))∨
  (iL l=0/\ ∃(wb mb:Nat) (v:Value),e= .returned (.tuple #[.pointer (some ⟨wb,0,none⟩),iv 0])/\w.heap.size<=wb/\w.heap.size<=mb/\Eu w' wb mb l tv nv v))
theorem yu (l:aQ) (tv nv:Value) (w:World) (ht:dV w tv l.field.ax) (hn:bI w nv l.notes):
 Calls Tryz.prog 70 #[lv l tv nv] w (PO l tv nv w):=by
 obtain⟨on,cn,rfl⟩:=hn.open
 obtain⟨ot,ct,rfl⟩:=ht.open
 have hnl:=hn.len
 have HN:=ae hn
 have HT:=ae ht
 clear hn ht
 by_cases h5:5<l.notes.length
 ·have HF:Hid (iL l=3):=ae (by unfold iL;rw[aF h5])
  have h5I:(l.notes.length:Int)>5:=by omega
  go_enter Tryz.func70,Tryz.ntmps70
  go_wp2_with fail
  go_returns
  exact⟨zl,.inl ⟨by rw[HF.o];simp,by rw[HF.o];simp⟩⟩
 have h5I: ¬((l.notes.length:Int)>5):=by omega
 have hW:iL l=if fO l.field true≠0 then fO l.field true else if JW l=false then 1 else if gq l (upto l.notes.length)=false then 9 else 0:=by unfold iL;rw[aj h5]
 have HD:=ae (fun w ht=>BN l.field (.slice ot l.field.ax.length ct) w ht)
 obtain⟨q,hq⟩: ∃q,fO l.field true=q:=⟨_,rfl⟩
 rw[hq] at hW
 by_cases hq0:q=0
 case neg=>
  have HF:Hid (iL l=q/\q≠0/\fO l.field true=q):=ae ⟨by rw[hW,aF hq0],hq0,hq⟩
  have hqb:(q !=0)=true:=by simpa using hq0
  clear hW hq hq0
  go_enter Tryz.func70,Tryz.ntmps70
  go_wp2_with fail
  refine(HD.o _ (HT.o.alloc _)).mono ?_
  rintro e w1 ⟨hb,⟨hne,rfl⟩|⟨h0,_⟩⟩
  ·have HB:=ae (show Below w.heap.size w w1 from zl)
   rw[HF.o.2.2]
   clear hb hne
   go_wp2_with fail
   go_returns
   exact⟨HB.o,.inl ⟨by rw[HF.o.1];exact HF.o.2.1,by rw[HF.o.1];simp⟩⟩
  ·exact absurd (HF.o.2.2.symm.trans h0) HF.o.2.1
 rw[aj (by rw[hq0];simp)] at hW
 rw[hq0] at hq
 have HW:=ae hW
 have hwd: -1000<=l.field.aK/\l.field.aK<=1000:=by
  have hF0:jS l.field=0:=by
   unfold fO at hq
   by_cases h:jS l.field=0
   ·exact h
   ·rw[aF h] at hq;exact hq
  have:=iF hF0
  have:=this.zq
  have:=(iF hF0).wR
  omega
 have HQ:=ae hq
 clear hW hq hq0
 obtain⟨r1,hr1⟩: ∃r1,nM l.rate 1 50=r1:=⟨_,rfl⟩
 obtain⟨r2,hr2⟩: ∃r2,kW l.box=r2:=⟨_,rfl⟩
 obtain⟨r3,hr3⟩: ∃r3,l.notes.all (AA l)=r3:=⟨_,rfl⟩
 have hargs:JW l=(r1&&(r2&&r3)):=by unfold JW;rw[hr1,hr2,hr3]
 have H1:=ae (fun w=>hr1▸x9 l.rate 1 50 w)
 have H2:=ae (fun w=>hr2▸Eg l.box w)
 have H3:=ae (fun(W:World) (hB:Below w.heap.size w W)=>
  hr3▸Xb l.notes (.slice on l.notes.length cn) 116 #[lv l (.slice ot l.field.ax.length ct) (.slice on l.notes.length cn)] #[] (AA l) W (HN.o.below hB (ai _)) (enters_of Tryz.func116 (by kernel_rfl) rfl) (fun x _ W' _=>note_any l _ _ x W' hwd.1 hwd.2))
 have HA:=ae hargs
 clear hargs hr1 hr2 hr3
 go_enter Tryz.func70,Tryz.ntmps70
 go_wp2_with fail
 refine(HD.o _ (HT.o.alloc _)).mono ?_
 rintro e w1 ⟨hb,⟨hne,_⟩|⟨_,u,rfl,hu⟩⟩
 ·exact absurd HQ.o hne
 obtain⟨uo,uc,rfl⟩:=hu.open
 obtain⟨hc,hf⟩:=bJ hb
 have hz0:w.heap.size<w1.heap.size:=by have:=hb.size;simp at this;omega
 have hk1:=(hb.block w.heap.size (by simp)).trans (ay w (.cells (kT l (.slice ot l.field.ax.length ct) (.slice on l.notes.length cn)) 49))
 have HB1:=ae (ag (show Below w.heap.size w w1 from zl) hk1)
 clear hb hu hk1
 go_wp2_with fail
 refine(H1.o _).mono ?_
 rintro e w2 ⟨rfl,hb⟩
 have hk2:=(hb.block _ hz0).trans HB1.o.2
 have HB2:=ae (ag (bn HB1.o.1 hb) hk2)
 obtain⟨c2,f2,l2⟩:=af hk2
 clear hb hk2 hc hf hz0
 cases r1
 ·have hF:iL l=1:=by rw[HW.o,HA.o];rfl
  have HF:=ae hF
  clear hF
  go_wp2_with fail
  go_returns
  exact⟨HB2.o.1,.inl ⟨by rw[HF.o];simp,by rw[HF.o];simp⟩⟩
 go_wp2_with fail
 refine(H2.o _).mono ?_
 rintro e w3 ⟨rfl,hb⟩
 have hk3:=(hb.block _ l2).trans HB2.o.2
 have HB3:=ae (ag (bn HB2.o.1 hb) hk3)
 obtain⟨c3,f3,l3⟩:=af hk3
 clear hb hk3 c2 f2 l2
 cases r2
 ·have hF:iL l=1:=by rw[HW.o,HA.o];rfl
  have HF:=ae hF
  clear hF
  go_wp2_with fail
  go_returns
  exact⟨HB3.o.1,.inl ⟨by rw[HF.o];simp,by rw[HF.o];simp⟩⟩
 go_wp2_with fail
 refine(H3.o _ HB3.o.1).mono ?_
 rintro e w4 ⟨rfl,hb⟩
 have hk4:=(hb.block _ l3).trans HB3.o.2
 have HB4:=ae (ag (bn HB3.o.1 hb) hk4)
 obtain⟨c4,f4,l4⟩:=af hk4
 clear hb hk4 c3 f3 l3
 cases r3
 ·have hF:iL l=1:=by rw[HW.o,HA.o];rfl
  have HF:=ae hF
  clear hF
  go_wp2_with fail
  go_returns
  exact⟨HB4.o.1,.inl ⟨by rw[HF.o];simp,by rw[HF.o];simp⟩⟩
 have hS:pO l:=Jb h5 HQ.o (by rw[HA.o];rfl)
 have hW:iL l=if gq l (upto l.notes.length)=false then 9 else 0:=by rw[HW.o,HA.o];rfl
 have HS:=ae hS
 have HW':=ae hW
 clear hS hW
 go_wp2_with fail
 refine(Wh l _ _ HS.o.field (by have:=HS.o.rate;omega) (by have:=HS.o.rate;omega) w4 (HT.o.below HB4.o.1 (ai _)) (HN.o.below HB4.o.1 (ai _))).mono ?_
 rintro e w5 ⟨wb,mb,v,rfl,hwb,hmb,htab,hlw,hb⟩
 have hk5:=(hb.block _ l4).trans HB4.o.2
 have agf:Eu w5 wb mb l (.slice ot l.field.ax.length ct) (.slice on l.notes.length cn) v:=⟨hlw,[],KQ htab⟩
 have hs4:=HB4.o.1.size
 have pV:=ae (ag (bn HB4.o.1 hb) (ag hk5 agf))
 obtain⟨c5,f5,l5⟩:=af hk5
 obtain⟨n,hn⟩: ∃n,l.notes.length=n:=⟨_,rfl⟩
 have hmk:=vI n (by omega)
 rw[hn] at HW' c5
 have J5:=ae hn
 have hn5:n<=5:=by omega
 clear hb hk5 hlw htab c4 f4 l4 agf hn
 go_upto_region 11 with(fail)
 refine dM fun W6 Cm=>?_
 have IB:Below w5.heap.size w5 W6:=by rw[Cm];exact ak (aH _ _) _
 have hk6:W6.heap[w5.heap.size]? =some (.cells (ah (Bd n 0)).toArray 3 (0,0)):=by rw[Cm,Ws];exact ay _ _
 have H6:=ae (ag IB hk6)
 clear Cm IB hk6 hmk c5 f5 l5
 go_wp2_with fail
 go_loopw [50] (fun u wr=> ∃k:Nat,k<=n/\u= .int .i64 k/\wr.heap[w5.heap.size]? =some (.cells (ah (Bd n k)).toArray 3 (0,0))/\Below w5.heap.size w5 wr) (fun u _=>n-(intOf u).toNat)
 case atStart=>exact⟨0,bM _,rfl,H6.o.2,H6.o.1⟩
 case round=>
  obtain⟨k,hk,rfl,hcb,hB⟩:=hrel
  by_cases hlt:k<n
  ·have hcell:=gG hcb (show k<(Bd n k).length by rw[Oz];exact hlt)
   generalize (Bd n k)[k]'(by rw[Oz];exact hlt)=x at hcell
   have hlb:=dG wr _ hcell
   have hfr:=bg hcb k
   have HX:=ae (ag hcb hB)
   clear hcb hB
   go_wp2_with fail
   go_roundw
   case rel=>
    refine⟨k+1,by omega,by go_num,?_,iD HX.o.2 (ai _) _⟩
    rw[<-ZP hlt, <-sO]
    exact aI HX.o.1 _
   case measure=>simp[intOf];omega
  ·have hkn:k=n:=by omega
   subst hkn
   rw[ZQ] at hcb
   have uS:aO wr (.slice (some ⟨w5.heap.size,0,none⟩) k k) (upto k):=by
    have hul:(upto k).length=k:=by simp[upto]
    have:=aN.dD (w:=wr) (cs:=(ah (upto k)).toArray) 1 k hcb (by simp[ah,hul]) (by simp only[maxLen];omega)
    show aN 1 _ _ (upto k).length _
    rw[hul]
    exact this
   have HP:=ae (oW HS.o (upto k) (pV.o.2.2.below hB (ai _)) uS)
   have HX:=ae hB
   obtain⟨q,hq⟩: ∃q,gq l (upto k)=q:=⟨_,rfl⟩
   rw[hq] at HP HW'
   clear hcb hB uS hq
   go_wp2_with fail
   refine HP.o.mono ?_
   rintro e w7 ⟨rfl,hkn,hE⟩
   have Ib:Below w.heap.size w w7:=by
    have h1:=bn pV.o.1 (HX.o)
    exact iq h1 hE (by omega)
   have HX7:=ae (ag hkn.ok Ib)
   clear hkn hE Ib
   cases q
   ·have HF:=ae HW'.o
    go_wp2_with fail
    go_returns
    exact⟨HX7.o.2,.inl ⟨by rw[HF.o];simp,by rw[HF.o];simp⟩⟩
   ·have HF:=ae HW'.o
    go_wp2_with fail
    go_returns
    exact⟨HX7.o.2,.inr ⟨by rw[HF.o];rfl,wb,mb,v,by simp,by omega,by omega,HX7.o.1⟩⟩
end Go.Proofs.YthllkbbbapgelaaGreatDoor
namespace Go.Proofs.YthllkbbbapgelaaGreatDoor
open Go.RowKit Go.RG Go.SL Go.Shelf jl Go.TB
theorem Ey (l:aQ) (tv nv:Value) (w:World) (ht:dV w tv l.field.ax) (hn:bI w nv l.notes):
 Calls Tryz.prog 183 #[lv l tv nv] w (PV (iv (iL l)) w):=by
 have HC:=ae (yu l tv nv (w.alloc (.cells (kT l tv nv) 49)) (ht.alloc _) (hn.alloc _))
 obtain⟨q,hq⟩: ∃q,iL l=q:=⟨_,rfl⟩
 rw[hq]
 have HQ:=ae hq
 clear ht hn hq
 go_enter Tryz.func183,Tryz.ntmps183
 go_wp2_with fail
 refine HC.o.mono ?_
 rintro e w1 ⟨hb,⟨hne,rfl⟩|⟨h0,wb,mb,v,rfl,_,_,hok⟩⟩
 ·have HB:=ae (show Below w.heap.size w w1 from zl)
  rw[HQ.o]
  clear hb hne
  go_wp2_with fail
  go_returns
  exact⟨by simp,HB.o⟩
 ·have HB:=ae (show Below w.heap.size w w1 from zl)
  have hq0:q=0:=HQ.o.symm.trans h0
  have jK:=ae hq0
  clear hb hok h0 hq0
  go_wp2_with fail
  go_returns
  exact⟨by rw[jK.o];simp,HB.o⟩
theorem pG {l:aQ} (h:iL l=0):pO l/\gq l (upto l.notes.length)=true:=by
 unfold iL at h
 split at h
 ·omega
 ·rename_i h1
  split at h
  ·omega
  ·rename_i h2
   split at h
   ·omega
   ·rename_i h3
    split at h
    ·omega
    ·rename_i h4
     exact⟨Jb h1 (by omega) (by simpa using h3),by simpa using h4⟩
structure pR (w0:World) (Ms:List Nat) (fP:World->Prop) (yU:Value) (below fb pb bb ab:Nat) (W:World):Prop where
 ext:Ext Ms w0 W
 cache:fP W
 found: ∃o n c,W.heap[fb]? =some (.cells #[.slice o n c] 52 (0,0))
 pass:W.heap[pb]? =some (.cells #[yU] 163 (0,0))
 bound:W.heap[bb]? =some (.cells #[iv below] 3 (0,0))
 add:W.heap[ab]? =some (.cells #[.func (.func 121) #[] #[.pointer (some ⟨fb,0,none⟩),.pointer (some ⟨pb,0,none⟩),.pointer (some ⟨bb,0,none⟩),.pointer (some ⟨ab,0,none⟩)]] 252 (0,0))
 new:w0.heap.size<=fb/\w0.heap.size<=pb/\w0.heap.size<=bb/\w0.heap.size<=ab
 old: ∀m∈Ms,m<w0.heap.size
 good:aaF Ms fP
theorem pR.table {w0 W W':World} {Ms:List Nat} {fP:World->Prop} {yU:Value} {below fb pb bb ab:Nat} (h:pR w0 Ms fP yU below fb pb bb ab W) (hE:Ext Ms W W') (hc:fP W'):pR w0 Ms fP yU below fb pb bb ab W':=by
 have hn:=h.new
 have ho:=h.old
 obtain⟨o,n,c,hf⟩:=h.found
 have k: ∀(b:Nat) (x:Obj),W.heap[b]? =some x->w0.heap.size<=b->W'.heap[b]? =some x:=fun b x hb hle=>(hE.block b (aS.1 hb).1 (fun hm=>by have:=ho b hm;omega)).trans hb
 exact⟨h.ext.trans hE,hc,⟨o,n,c,k _ _ hf hn.1⟩,k _ _ h.pass hn.2.1,k _ _ h.bound hn.2.2.1,k _ _ h.add hn.2.2.2,hn,ho,h.good⟩
theorem pR.below {w0 W W':World} {Ms:List Nat} {fP:World->Prop} {yU:Value} {below fb pb bb ab:Nat} (h:pR w0 Ms fP yU below fb pb bb ab W) (hB:Below W.heap.size W W'):pR w0 Ms fP yU below fb pb bb ab W':=
 h.table (Ext.aA hB) (h.good.kept _ _ h.cache fun m hm=>hB.block m (by have:=h.old m hm;have:=h.ext.size;omega))
def aaK (w0:World) (Ms:List Nat) (fP:World->Prop) (yU:Value) (below fb pb bb ab:Nat) (r:Option (List Int)) (W:World) (e:Ending) (W':World):Prop:=
 (pR w0 Ms fP yU below fb pb bb ab W'/\Ext (fb::Ms) W W')/\((∃c,r=some c/\e= .returned (.bool true)/\ ∃sv,W'.heap[fb]? =some (.cells #[sv] 52 (0,0))/\aO W' sv c)∨(r=none/\e= .returned (.bool false)))
theorem pR.set {w0 W:World} {Ms:List Nat} {fP:World->Prop} {yU:Value} {below fb pb bb ab:Nat} (h:pR w0 Ms fP yU below fb pb bb ab W) (hd:fb≠pb/\fb≠bb/\fb≠ab) (o:Option Addr) (n c:Nat):pR w0 Ms fP yU below fb pb bb ab (W.setCell ⟨fb,0,none⟩ (.slice o n c)):=by
 have hn:=h.new
 have ho:=h.old
 obtain⟨o',n',c',hf⟩:=h.found
 exact⟨h.ext.set hn.1 _,h.good.kept _ _ h.cache (fun m hm=>dF _ _ _ _ (by have:=ho m hm;show m≠fb;omega)),⟨o,n,c,aI hf _⟩,
  (dF _ _ _ _ (by show pb≠fb;omega)).trans h.pass,(dF _ _ _ _ (by show bb≠fb;omega)).trans h.bound,(dF _ _ _ _ (by show ab≠fb;omega)).trans h.add,hn,ho,h.good⟩
theorem pR.not {w0 W:World} {Ms:List Nat} {fP:World->Prop} {yU:Value} {below fb pb bb ab:Nat} (h:pR w0 Ms fP yU below fb pb bb ab W): ∀x∈fb::Ms, ∀o n,W.cell? ⟨x,o,none⟩≠some (.int .i64 n):=by
 intro x hx o n hc
 obtain⟨o',n',c',hf⟩:=h.found
 rcases ig.1 hx with rfl|hx
 ·simp only[World.cell?,hf] at hc
  cases o with
  |zero=>simp at hc
  |succ o=>simp at hc
 ·rw[h.good.none _ h.cache x hx o] at hc;cases hc
theorem aam (below:Nat) (hbl:below<=500) (p:List Int->Bool) (Ms:List Nat) (fP:World->Prop) (w0:World) (pf:Nat) (qf kR:Array Value) (fb pb bb ab:Nat) (hd:fb≠pb/\fb≠bb/\fb≠ab)
 (eg: ∀args w,(callFunc pf args).run Tryz.prog w= .ok (.enter pf args) w)
 (vK: ∀l v W,(∀x∈l,0<=x/\x<(below:Int))->Ext Ms w0 W->fP W->aO W v l->Calls Tryz.prog pf (qf.push v++kR) W (fun e W'=>e= .returned (.bool (p l))/\fP W'/\Ext Ms W W')):
 ∀(m f:Nat) (l:List Int) (v:Value) (W:World),l.length+m<=900->f<=900->m<=900->(∀x∈l,0<=x/\x<(below:Int))->pR w0 Ms fP (.func (.func pf) qf kR) below fb pb bb ab W->aO W v l->
  Calls Tryz.prog 121 #[v,iv f,iv m,.pointer (some ⟨fb,0,none⟩),.pointer (some ⟨pb,0,none⟩),.pointer (some ⟨bb,0,none⟩),.pointer (some ⟨ab,0,none⟩)] W
   (aaK w0 Ms fP (.func (.func pf) qf kR) below fb pb bb ab (((jH below m f).map (l++ ·)).find? p) W):=by
 intro m
 induction m with
 |zero=>
  intro f l v W h1 h2 h3 hlb hst hv
  have hres:((jH below 0 f).map (l++ ·)).find? p=if p l then some l else none:=by
   simp only[jH,List.map_cons,List.map_nil,List.append_nil,List.find?_cons,List.find?_nil]
   cases p l <;>rfl
  obtain⟨r,hr⟩: ∃r,((jH below 0 f).map (l++ ·)).find? p=r:=⟨_,rfl⟩
  rw[hr] at hres⊢
  have xu:=ae hres
  clear hr hres
  obtain⟨o,c,rfl⟩:=hv.open
  obtain⟨o',n',c',hf⟩:=hst.found
  have c1:=aB hf
  have c2:=aB hst.pass
  have hlt:=dG W _ c1
  have hfr:=bg hf 0
  have hS:=hst.set hd o l.length c
  have hv1:aO (W.setCell ⟨fb,0,none⟩ (.slice o l.length c)) (.slice o l.length c) l:=aO.uD hv ((mf W ⟨fb,0,none⟩ _).more (Ms':=fb::Ms) (by simp)) hst.not
  have HC:=ae (vK l _ _ hlb hS.ext hS.cache hv1)
  have HS:=ae hst
  have L8:=ae (ag hS hv1)
  have HF:=ae hf
  have hd1: ¬pb=fb:=fun e=>hd.1 e.symm
  have hd2:=hd.1
  clear vK hst hv hS hv1 hf
  go_enter Tryz.func121,Tryz.ntmps121
  go_wp2_with fail
  refine HC.o.mono ?_
  rintro e W' ⟨rfl,hcc,hE⟩
  have hS2:=L8.o.1.table hE hcc
  have hn:=HS.o.new
  have ho:=HS.o.old
  have hfb:W'.heap[fb]? =some (.cells #[.slice o l.length c] 52 (0,0)):=(hE.block fb (by simpa [World.setCell] using hlt) (fun hm=>by have:=ho fb hm;omega)).trans (aI HF.o _)
  have hEE:Ext (fb::Ms) W W':=((mf W ⟨fb,0,none⟩ (.slice o l.length c)).more (by simp)).trans (hE.more (fun x hx=>qX _ hx))
  have hv2:aO W' (.slice o l.length c) l:=aO.uD L8.o.2 (hE.more (Ms':=fb::Ms) (fun x hx=>qX _ hx)) L8.o.1.not
  have HR:=ae (ag hS2 (ag hfb (ag hEE hv2)))
  clear hcc hE hS2 hfb hEE hv2
  go_wp2_with fail
  go_returns
  refine⟨⟨HR.o.1,HR.o.2.2.1⟩,?_⟩
  have hre:=xu.o
  revert hre
  cases p l
  ·intro hre;exact .inr ⟨by simpa using hre,by simp⟩
  ·intro hre;exact .inl ⟨l,by simpa using hre,by simp,_,HR.o.2.1,HR.o.2.2.2⟩
 |succ m ih=>
  intro f l v W h1 h2 h3 hlb hst hv
  obtain⟨o,c,rfl⟩:=hv.open
  have hres:((jH below (m+1) f).map (l++ ·)).find? p=((List.range (below-m-f)).flatMap fun j=>(jH below m (f+j+1)).map ((l++[((f+j:Nat):Int)])++ ·)).find? p:=by
   conv=>lhs;unfold jH
   rw[List.map_flatMap]
   simp only[List.map_map]
   congr 2
   funext j
   apply List.map_congr_left
   intro x _
   simp
  rw[hres]
  clear hres
  obtain⟨r,hr⟩: ∃r,((List.range (below-m-f)).flatMap fun j=>(jH below m (f+j+1)).map ((l++[((f+j:Nat):Int)])++ ·)).find? p=r:=⟨_,rfl⟩
  rw[hr]
  have xu:=ae hr
  clear hr
  have hmm:(m:Int)+1<=900:=by omega
  have hm0:((m:Int)+1==0)=false:=by simp;omega
  have ajN: ¬((m:Int)+1=0):=by omega
  rw[show(((m+1:Nat)):Int)=(m:Int)+1 from by omega]
  have HST:=ae hst
  have HV:=ae hv
  have HIH:=ae ih
  have HD:=ae hd
  have HLB:=ae hlb
  clear vK hst hv ih hd hlb
  go_enter Tryz.func121,Tryz.ntmps121
  go_wp2_with fail
  go_loopw [11] (fun i wr=> ∃q:Nat,f<=q/\q<=f+(below-m-f)/\i= .int .i64 q/\pR w0 Ms fP (.func (.func pf) qf kR) below fb pb bb ab wr/\Ext (fb::Ms) W wr/\
   (∀j,f+j<q->((jH below m (f+j+1)).map ((l++[((f+j:Nat):Int)])++ ·)).find? p=none)) (fun i _=>below+f+1-(intOf i).toNat)
  case atStart=>exact⟨f,ai _,by omega,rfl,HST.o,Ext.refl _ _,fun j hj=>by omega⟩
  case round=>
   obtain⟨q,hfq,hq,rfl,hst,hE,hno⟩:=hrel
   have hv:=aO.uD HV.o hE HST.o.not
   have d1:=aB hst.bound
   have d2:=aB hst.add
   have e1:=dG wr _ d1
   have e2:=dG wr _ d2
   have HS:=ae hst
   have HE:=ae hE
   have HN:=ae hno
   have HVV:=ae hv
   clear hst hE hno hv
   by_cases hlt:q<f+(below-m-f)
   ·have hqI:(q:Int)<=(below:Int)-((m:Int)+1):=by omega
    have hq9:(q:Int)<=500:=by omega
    go_wp2_with fail
    refine qA 10 [] (some 5) [(2,⟨fun _ v=> ∃o c,v= .slice o l.length c,fun _ _ _=>True⟩),(4,⟨fun _ v=> ∃b:Nat,v= .slice (some ⟨b,0,none⟩) 1 1,fun _ _ _=>True⟩),(5,⟨fun _ v=> ∃o c,v= .slice o (l.length+1) c,fun _ v W=>W.ownsRow wr.heap.size 3 1 v (l.length+1) (ah (l++[(q:Int)]))⟩)] (afA wr.heap.size l.length l q) (by kernel_rfl) (by kernel_rfl) ?_
    simp only[zt]
    repeat (refine zd ?_;simp only[zp])
    refine kP _ (by rfl) (by rfl) (by exact⟨.slice none l.length 0,none,0,rfl⟩) (fun W1 hE hF hG=>?_) (fun _ _ _ _ _=>trivial) (fun v Wa Wb ho hE=>aC (Ms:=[]) ho hE (by simp)) (fun v hv=>?_)
    ·have hE':uz wr.heap.size [] wr W1:=hE
     refine dB 91 #[.slice o l.length c] (by go_simp;try rfl) ?_
     refine(clone_any l _ W1 (HVV.o.below (qm hE' (ai _)) (ai _)) (by omega)).mono ?_
     rintro e W2 ⟨v,rfl,ho,hb⟩
     refine⟨v,rfl,aW ho,trivial,Ext.aA hb,cu ho hE'.size⟩
    obtain⟨o2,c2,rfl⟩:=hv
    simp only[zp]
    repeat (refine zd ?_;simp only[zp])
    refine kP _ (by rfl) (by rfl) (by exact⟨.slice (some ⟨0,0,none⟩) 1 1,0,rfl⟩) (fun W1 hE hF hG=>?_) (fun _ _ _ _ _=>trivial) (fun v Wa Wb ho hE=>?_) (fun v hv=>?_)
    ·refine jg (W':=W1.alloc (.cells #[iv q] 3)) (.slice (some ⟨W1.heap.size,0,none⟩) 1 1) (by go_simp;try rfl) ⟨⟨_,rfl⟩,trivial,Ext.aA ((aH _ _).alloc (ai _) _),_,rfl,heap_alloc_new _ _⟩
    ·obtain⟨b,hb,hc⟩:=ho
     exact⟨b,hb,(hE.block b (aS.1 hc).1 (by simp)).trans hc⟩
    obtain⟨b4,rfl⟩:=hv
    simp only[zp]
    refine kP _ (by rfl) (by rfl) (by exact⟨.slice none (l.length+1) 0,none,0,rfl⟩) (fun W1 hE hF hG=>?_) (fun v Wa Wb ho hE=>aC (Ms:=[]) ho hE (by simp)) (fun _ _ _ _ _=>trivial) (fun v hv=>?_)
    ·obtain⟨b,hb,hc⟩:=hG rfl _ (bF _) (by kernel_rfl)
     cases hb
     have ho:W1.ownsRow wr.heap.size 3 1 (.slice o2 l.length c2) l.length (ah l):=hG rfl _ (nC _ (bF _)) (by kernel_rfl)
     have hE':Ext [] wr W1:=hE
     have hsrc:aN 1 W1 (.slice (some ⟨b4,0,none⟩) 1 1) 1 (ah [(q:Int)]):=aN.dD 1 1 hc rfl (by decide)
     refine Does.mono (yl sH (by rfl) (by rfl) ho (by rfl) hsrc (jG _) (by omega) (by omega) hE'.size) ?_
     rintro v W2 ⟨hown,hgr⟩
     rw[<-uN] at hown
     obtain⟨o5,c5,rfl⟩:=aW hown
     exact⟨⟨o5,c5,rfl⟩,hown,GH ho hgr,trivial⟩
    obtain⟨o5,c5,rfl⟩:=hv
    simp only[zp]
    repeat (refine zn ?_;simp only[zp])
    intro W1 hE1 hF
    have hE':uz wr.heap.size [] wr W1:=hE1
    have hB:=qm hE' (ai _)
    obtain⟨hc,hf⟩:=bJ hB
    have ho:W1.ownsRow wr.heap.size 3 1 (.slice o5 (l.length+1) c5) (l.length+1) (ah (l++[(q:Int)])):=hF _ (bF _)
    have uS:aO W1 (.slice o5 (l.length+1) c5) (l++[(q:Int)]):=by
     have:=aN.dS ho
     unfold aO
     rw[dh]
     exact this
    have hcall:=HIH.o (q+1) (l++[(q:Int)]) _ W1 (by simp;omega) (by omega) (by omega) (fun x hx=>by rcases iM.1 hx with h|h;exact HLB.o x h;(obtain rfl:x=(q:Int):=by simpa using h);omega) (HS.o.below hB) uS
    rw[show(((q+1:Nat)):Int)=(q:Int)+1 from by omega] at hcall
    have HC:=ae hcall
    have HB:=ae hB
    clear hcall uS ho hB hE' hE1 hF
    go_wp2_with fail
    refine HC.o.mono ?_
    rintro e W2 ⟨⟨hS2,hE2⟩,hres⟩
    have HS2:=ae hS2
    have HEE:=ae ((HE.o.trans (Ext.aA HB.o)).trans hE2)
    clear hS2 hE2 hc hf d1 d2
    have hq1:f+(q-f)=q:=by omega
    rcases hres with⟨cc,hcc,rfl,sv,hsv,uS⟩|⟨hnone,rfl⟩
    ·have HR:=ae (ag hcc (ag hsv uS))
     clear hcc hsv uS
     go_wp2_with fail
     go_returns
     refine⟨⟨HS2.o,HEE.o⟩,.inl ⟨cc,?_,by simp,sv,HR.o.2⟩⟩
     rw[<-xu.o]
     refine qU p _ _ (q-f) (by simp;omega) cc (fun j hj=>?_) ?_
     ·simp only[List.getElem_range]
      exact HN.o j (by omega)
     ·simp only[List.getElem_range,hq1]
      exact HR.o.1
    ·have HR:=ae hnone
     clear hnone
     go_wp2_with fail
     go_roundw
     case rel=>
      refine⟨q+1,by omega,by omega,by go_num,HS2.o,HEE.o,fun j hj=>?_⟩
      by_cases hjq:f+j=q
      ·rw[hjq];exact HR.o
      ·exact HN.o j (by omega)
     case measure=>simp[intOf];omega
   ·have hqI: ¬((q:Int)<=(below:Int)-((m:Int)+1)):=by omega
    go_wp2_with fail
    go_returns
    refine⟨⟨HS.o,HE.o⟩,.inr ⟨?_,by simp⟩⟩
    rw[<-xu.o]
    exact tJ p _ _ (fun j hj=>by
     simp only[List.length_range] at hj
     simp only[List.getElem_range]
     exact HN.o j (by omega))
def acg (Ms:List Nat) (fP:World->Prop) (r:Option (List Int)) (w:World) (e:Ending) (W':World):Prop:=
 (fP W'/\Ext Ms w W')/\((∃c v,r=some c/\e= .returned v/\aO W' v c)∨(r=none/\ ∃o n c,e= .returned (.slice o n c)))
theorem pR.fin {w0 W:World} {Ms:List Nat} {fP:World->Prop} {yU:Value} {below fb pb bb ab:Nat} (h:pR w0 Ms fP yU below fb pb bb ab W):fP W/\Ext Ms w0 W:=⟨h.cache,h.ext⟩
theorem Ik (below:Nat) (hbl:below<=500) (p:List Int->Bool) (Ms:List Nat) (fP:World->Prop) (hG:aaF Ms fP) (w:World) (hcc:fP w) (hmb: ∀m∈Ms,m<w.heap.size) (pf:Nat) (qf kR:Array Value)
 (eg: ∀args w,(callFunc pf args).run Tryz.prog w= .ok (.enter pf args) w)
 (vK: ∀l v W,(∀x∈l,0<=x/\x<(below:Int))->Ext Ms w W->fP W->aO W v l->Calls Tryz.prog pf (qf.push v++kR) W (fun e W'=>e= .returned (.bool (p l))/\fP W'/\Ext Ms W W')):
 Calls Tryz.prog 71 #[iv below,.func (.func pf) qf kR] w (acg Ms fP (ni below p) w):=by
 have HA:=ae (fun(m:Nat) (W:World) (hm:m<=501) (hst:pR w Ms fP (.func (.func pf) qf kR) below (w.heap.size+1+1) (w.heap.size+1) w.heap.size (w.heap.size+1+1+1) W)=>
  aam below hbl p Ms fP w pf qf kR (w.heap.size+1+1) (w.heap.size+1) w.heap.size (w.heap.size+1+1+1) (by omega) eg vK m 0 [] (.slice none 0 0) W (by simp;omega) (by omega) (by omega) (by simp) hst (qK W))
 obtain⟨r,hr⟩: ∃r,ni below p=r:=⟨_,rfl⟩
 rw[hr]
 have HR:=ae hr
 have HCC:=ae hcc
 clear vK eg hcc hr
 go_enter Tryz.func71,Tryz.ntmps71
 go_wp2_with fail
 go_step3
 go_wp2_with fail
 go_step3
 go_wp2_with fail
 obtain⟨w4,hw4⟩: ∃w4,((((w.alloc (.cells #[iv below] 3)).alloc (.cells #[.func (.func pf) qf kR] 163)).alloc (.cells #[.slice none 0 0] 52)).alloc
  (.cells #[.func (.func 121) #[] #[.pointer (some ⟨w.heap.size+1+1,0,none⟩),.pointer (some ⟨w.heap.size+1,0,none⟩),.pointer (some ⟨w.heap.size,0,none⟩),.pointer (some ⟨w.heap.size+1+1+1,0,none⟩)]] 252))=w4:=⟨_,rfl⟩
 have Za:pR w Ms fP (.func (.func pf) qf kR) below (w.heap.size+1+1) (w.heap.size+1) w.heap.size (w.heap.size+1+1+1) w4:=by
  have hB:Below w.heap.size w w4:=by rw[<-hw4];exact zl
  refine⟨Ext.aA hB,hG.kept _ _ HCC.o (fun m hm=>hB.block m (hmb m hm)),⟨none,0,0,?_⟩,?_,?_,?_,by omega,hmb,hG⟩
  ·rw[<-hw4];exact(aV _ _ _ (by simp)).trans (iw _ _ _ _)
  ·rw[<-hw4];exact(aV _ _ _ (by simp)).trans ((aV _ _ _ (by simp)).trans (dU _ _ _))
  ·rw[<-hw4];exact(aV _ _ _ (by simp;omega)).trans ((aV _ _ _ (by simp;omega)).trans ((aV _ _ _ (by simp)).trans (ay _ _)))
  ·rw[<-hw4];have:=ay (((w.alloc (.cells #[iv below] 3)).alloc (.cells #[.func (.func pf) qf kR] 163)).alloc (.cells #[.slice none 0 0] 52)) (.cells #[.func (.func 121) #[] #[.pointer (some ⟨w.heap.size+1+1,0,none⟩),.pointer (some ⟨w.heap.size+1,0,none⟩),.pointer (some ⟨w.heap.size,0,none⟩),.pointer (some ⟨w.heap.size+1+1+1,0,none⟩)]] 252);simpa using this
 rw[hw4]
 have HS0:=ae Za
 clear Za hw4
 go_loopw [10] (fun i wr=> ∃k:Nat,k<=below+1/\i= .int .i64 k/\pR w Ms fP (.func (.func pf) qf kR) below (w.heap.size+1+1) (w.heap.size+1) w.heap.size (w.heap.size+1+1+1) wr/\
  (∀j,j<k->(jH below j 0).find? p=none)) (fun i _=>below+1-(intOf i).toNat)
 case atStart=>exact⟨0,bM _,rfl,HS0.o,fun j hj=>by omega⟩
 case round=>
  obtain⟨k,hk,rfl,hst,hno⟩:=hrel
  have d2:=aB hst.add
  have e2:=dG wr _ d2
  have HS:=ae hst
  have HN:=ae hno
  clear hst hno
  by_cases hlt:k<below+1
  ·have hkI:(k:Int)<(below:Int)+1:=by omega
   have HC:=ae (HA.o k wr (by omega) HS.o)
   go_wp2_with fail
   refine HC.o.mono ?_
   rintro e W2 ⟨⟨hS2,_⟩,hres⟩
   have HS2:=ae hS2
   rcases hres with⟨cc,hcc,rfl,sv,hsv,uS⟩|⟨hnone,rfl⟩
   ·have hr:r=some cc:=by
     rw[<-HR.o]
     exact Jf (by omega) HN.o (by simpa using hcc)
    obtain⟨so,sc,rfl⟩:=uS.open
    have f1:=aB hsv
    have f2:=bg hsv 0
    have f3:=dG W2 _ f1
    have HX:=ae (ag hr (ag hsv uS))
    clear hr hsv uS hS2 hcc d2
    go_wp2_with fail
    (try rw[Exit.noGoto_ret])
    have hcell:(W2.setCell ⟨w.heap.size+1+1,0,none⟩ (.slice so cc.length sc)).cell? ⟨w.heap.size+1+1,0,none⟩=some (.slice so cc.length sc):=aB (aI HX.o.2.1 _)
    refine bodyPost_ret (v:= .slice so cc.length sc) (by simp[results,Tryz.results71,go_sem,hcell]) rfl ?_
    refine⟨(HS2.o.set (by omega) so cc.length sc).fin,.inl ⟨cc,_,HX.o.1,rfl,?_⟩⟩
    exact aO.uD HX.o.2.2 ((mf W2 ⟨w.heap.size+1+1,0,none⟩ _).more (Ms':=(w.heap.size+1+1)::Ms) (by simp)) HS2.o.not
   ·have HX:=ae hnone
    clear hnone hS2 d2
    go_wp2_with fail
    go_roundw
    case rel=>
     refine⟨k+1,by omega,by go_num,HS2.o,fun j hj=>?_⟩
     by_cases hjq:j=k
     ·subst hjq;simpa using HX.o
     ·exact HN.o j (by omega)
    case measure=>simp[intOf];omega
  ·have hkI: ¬((k:Int)<(below:Int)+1):=by omega
   obtain⟨o',n',c',hf⟩:=HS.o.found
   have f1:=aB hf
   have f2:=bg hf 0
   have f3:=dG wr _ f1
   have hk1:k=below+1:=by omega
   subst hk1
   have hr:r=none:=by
    rw[<-HR.o]
    exact Je HN.o
   go_wp2_with fail
   (try rw[Exit.noGoto_ret])
   have hcell:(wr.setCell ⟨w.heap.size+1+1,0,none⟩ (.slice o' n' c')).cell? ⟨w.heap.size+1+1,0,none⟩=some (.slice o' n' c'):=aB (aI hf _)
   refine bodyPost_ret (v:= .slice o' n' c') (by simp[results,Tryz.results71,go_sem,hcell]) rfl ?_
   exact⟨(HS.o.set (by omega) o' n' c').fin,.inr ⟨rfl,_,_,_,rfl⟩⟩
end Go.Proofs.YthllkbbbapgelaaGreatDoor
end
section
namespace Go.Proofs.YthllkbbbapgelaaGreatDoor
open Go.RowKit Go.RG Go.SL Go.Shelf jl Go.TB
theorem Gx (r x:dQ) (w:World):Calls Tryz.prog 206 #[rv r,rv x] w (PV (rv (xy r x)) w):=by
 go_enter Tryz.func206,Tryz.ntmps206
 go_wp2_with fail
 refine zg 12 [] none [(4,Spec.slice (w.heap.size+3) #[iv r.1,iv x.1] 3 2),(5,Spec.val (iv (min r.1 x.1)))] ?_
 simp only[zt]
 repeat (refine zd ?_;simp only[zp])
 refine dX (w.heap.size+3) _ _ _ (by rfl) (by simp) (by rfl) (by simp) (by simp) (fun W hW=>by go_simp;try rfl) (fun b=>?_)
 simp only[zp]
 refine eu _ (by rfl) (by rfl) 272 _ (fun W hW=>by go_simp;try rfl) (fun W hE hF=>?_) ?_
 ·obtain⟨c,hcb,hB,hc⟩:=hF _ (bF _) (by kernel_rfl)
  cases hcb
  exact A8 r.1 x.1 b 2 W (by simp[World.cell?,hc]) (by simp[World.cell?,hc])
 simp only[zp]
 repeat (refine zd ?_;simp only[zp])
 intro W hE hF
 obtain⟨hc,hf⟩:=bJ hE.below
 have hzE:=hE.size
 (try simp only[bu] at hzE)
 go_wp2
 all_goals
  (try simp only[Exit.inBlock,Exit.then])
  refine bodyPost_ret (v:=rv (min r.1 x.1,max r.2 x.2)) (by simp[results,Tryz.results206,go_sem,hc];try omega) rfl ?_
  exact⟨rfl,ze⟩
abbrev acv (d:Int) (r:dQ):Value:= .agg #[iv d,iv r.1,iv r.2]
theorem NC (d:Int) (r:dQ) (w:World) (h:(0<=d/\d<=350)/\0<=r.1/\r.1<=r.2/\r.2<=2000):Calls Tryz.prog 73 #[acv d r] w (PV (rv (oI d r)) w):=by
 obtain⟨p,q⟩:=r
 have h1: -10000<=d-q/\d-q<=10000:=by simp only at h;omega
 have h2: -10000<=d-p/\d-p<=10000:=by simp only at h;omega
 clear h
 go_enter Tryz.func73,Tryz.ntmps73
 go_wp2_with fail
 go_returns
 exact⟨by simp[oI],zl⟩
def gV (l:aQ) (fine:Bool):Int:=if iL l≠0 then iL l else if fine=false then 2 else if gq l []=false then 11 else 0
def XA (l:aQ) (fine:Bool) (tv nv:Value) (w:World) (e:Ending) (w':World):Prop:=
 Below w.heap.size w w'/\((gV l fine≠0/\e= .returned (.tuple #[.pointer none,iv (gV l fine)]))∨
  (gV l fine=0/\ ∃(wb mb:Nat) (v:Value),e= .returned (.tuple #[.pointer (some ⟨wb,0,none⟩),iv 0])/\w.heap.size<=wb/\w.heap.size<=mb/\Hl w' wb mb l tv nv v []))
theorem Ef {l:aQ} {fine:Bool} (h:gV l fine=0):pO l/\iL l=0/\fine=true/\gq l []=true:=by
 unfold gV at h
 split at h
 ·rename_i h0;exact absurd h h0
 ·rename_i h0
  have h0:iL l=0:=by omega
  split at h
  ·omega
  ·rename_i h1
   split at h
   ·omega
   ·rename_i h2
    exact⟨(pG h0).1,h0,by simpa using h1,by simpa using h2⟩
theorem vS (l:aQ) (tv nv:Value) (fine:Bool) (w:World) (ht:dV w tv l.field.ax) (hn:bI w nv l.notes):
 Calls Tryz.prog 126 #[lv l tv nv,.bool fine] w (XA l fine tv nv w):=by
 have HC:=ae (yu l tv nv (w.alloc (.cells (kT l tv nv) 49)) (ht.alloc _) (hn.alloc _))
 clear ht hn
 obtain⟨q,hq⟩: ∃q,iL l=q:=⟨_,rfl⟩
 by_cases hq0:q=0
 case neg=>
  have HF:Hid (gV l fine=q/\q≠0):=ae ⟨by unfold gV;rw[hq,aF hq0],hq0⟩
  have hqb:(q !=0)=true:=by simpa using hq0
  have HQ:=ae hq
  clear hq hq0
  go_enter Tryz.func126,Tryz.ntmps126
  go_wp2_with fail
  refine HC.o.mono ?_
  rintro e w1 ⟨hb,⟨hne,rfl⟩|⟨h0,_⟩⟩
  ·rw[HQ.o]
   have HB:=ae (show Below w.heap.size w w1 from zl)
   clear hb hne
   go_wp2_with fail
   go_returns
   exact⟨HB.o,.inl ⟨by rw[HF.o.1];exact HF.o.2,by rw[HF.o.1];simp⟩⟩
  ·exact absurd (HQ.o.symm.trans h0) HF.o.2
 subst hq0
 obtain⟨hS,_⟩:=pG hq
 have HS:=ae hS
 have HQ:=ae hq
 cases fine
 ·have HF:Hid (gV l false=2):=ae (by unfold gV;rw[hq];rfl)
  clear hq hS
  go_enter Tryz.func126,Tryz.ntmps126
  go_wp2_with fail
  refine HC.o.mono ?_
  rintro e w1 ⟨hb,⟨hne,_⟩|⟨_,wb,mb,v,rfl,hwb,hmb,hok⟩⟩
  ·exact absurd HQ.o hne
  have HB:=ae (show Below w.heap.size w w1 from zl)
  clear hb hok
  go_wp2_with fail
  go_returns
  exact⟨HB.o,.inl ⟨by rw[HF.o];simp,by rw[HF.o];simp⟩⟩
 obtain⟨r,hr⟩: ∃r,gq l []=r:=⟨_,rfl⟩
 have HF:Hid (gV l true=if r=false then 11 else 0):=ae (by unfold gV;rw[hq,hr];simp)
 have HR:=ae hr
 clear hq hS hr
 go_enter Tryz.func126,Tryz.ntmps126
 go_wp2_with fail
 refine HC.o.mono ?_
 rintro e w1 ⟨hb,⟨hne,_⟩|⟨_,wb,mb,v,rfl,hwb,hmb,hok⟩⟩
 ·exact absurd HQ.o hne
 have HP:=ae (HR.o▸oW HS.o [] hok (aN.nil 1 w1))
 have hsz:=bu w (.cells (kT l tv nv) 49)
 have ajq:w.heap.size<=wb:=by omega
 have VY:w.heap.size<=mb:=by omega
 have HB:=ae (show Below w.heap.size w w1 from zl)
 clear hb hok hwb hmb hsz
 go_wp2_with fail
 refine HP.o.mono ?_
 rintro e w2 ⟨rfl,hkn,hE⟩
 have HX:=ae (ag (iq HB.o hE VY) hkn)
 clear hkn hE
 cases r
 ·have J6:=ae HF.o
  go_wp2_with fail
  go_returns
  exact⟨HX.o.1,.inl ⟨by rw[J6.o];simp,by rw[J6.o];simp⟩⟩
 ·have J6:=ae HF.o
  go_wp2_with fail
  go_returns
  exact⟨HX.o.1,.inr ⟨by rw[J6.o];rfl,wb,mb,v,by simp,ajq,VY,HX.o.2⟩⟩
end Go.Proofs.YthllkbbbapgelaaGreatDoor
namespace Go.Proofs.YthllkbbbapgelaaGreatDoor
open Go.RowKit Go.RG Go.SL Go.Shelf jl Go.TB
theorem Ny {l:aQ} (hS:pO l) {d:List Int} (hd:d∈gm l) (hc:jw l [] d=true) {i:Nat} (hi:i<l.field.aK.toNat):
 0<=((kJ l [] d).getD i (0,0)).1/\((kJ l [] d).getD i (0,0)).1<=((kJ l [] d).getD i (0,0)).2/\((kJ l [] d).getD i (0,0)).2<=2000:=by
 have h1:=QK hi (by have:=hS.box;omega) hc
 have hF:=iF hS.field
 have:=hF.wR
 have hb:=GL hS hd i (by omega)
 have hk:=NV hS [] i hb.1 (by omega)
 rw[Jq l [] d hi] at h1⊢
 unfold tN at h1⊢
 simp only at h1⊢
 omega
theorem Ac {l:aQ} (hS:pO l) {tv nv v:Value} {wb mb:Nat} (aZ:Nat) (p:Int->dQ->dQ) (w:World) (hw:Hl w wb mb l tv nv v [])
 (eg: ∀args w,(callFunc aZ args).run Tryz.prog w= .ok (.enter aZ args) w)
 (hp: ∀(d:Int) (r:dQ) (W:World),(0<=d/\d<=350)/\0<=r.1/\r.1<=r.2/\r.2<=2000->Calls Tryz.prog aZ #[acv d r] W (PV (rv (p d r)) W)):
 Calls Tryz.prog 127 #[.agg #[.func (.func aZ) #[] #[]],.pointer (some ⟨wb,0,none⟩)] w (fun e w'=> ∃u,e= .returned u/\w'.ownsRow w.heap.size 46 2 u (Bv p l (gm l)).length (aG (Bv p l (gm l)))/\Below w.heap.size w w'):=by
 obtain⟨vo,vc,rfl⟩:=hw.work.truth.open
 have hF:=iF hS.field
 have hlen:(gm l).length<=2500:=iR (zY l _) (lT hF [])
 have hw0:=hF.zq
 have hw3:=hF.wR
 obtain⟨n,hn⟩: ∃n:Nat,l.field.aK.toNat=n:=⟨_,rfl⟩
 have hn1:1<=n:=by omega
 have hn3:n<=3:=by omega
 have HN:=ae hn
 have HS:=ae hS
 have HP:=ae hp
 obtain⟨W1,hW1⟩: ∃W1,w.alloc (.cells #[.func (.func aZ) #[] #[]] 169)=W1:=⟨_,rfl⟩
 have hB1:Below w.heap.size w W1:=by rw[<-hW1];exact ak (aH _ _) _
 have hk1:W1.heap[w.heap.size]? =some (.cells #[.func (.func aZ) #[] #[]] 169 (0,0)):=by rw[<-hW1];exact ay _ _
 have abA:=hw.below hB1 (ai _)
 have adH:wb<W1.heap.size:=abA.work.lt
 have afQ:w.heap.size<W1.heap.size:=(aS.1 hk1).1
 have H1:=ae (ag hB1 (ag hk1 abA))
 obtain⟨ds,hds⟩: ∃ds,gm l=ds:=⟨_,rfl⟩
 have hck:=abA.work.cells
 rw[hds] at hck hlen⊢
 obtain⟨c1,f1,l1⟩:=af hck
 have HDS:=ae hds
 clear hw hF hw0 hw3 hn hp hS hB1 hk1 abA hds hck
 go_enter Tryz.func127,Tryz.ntmps127
 go_wp2_with fail
 (try rw[hW1])
 clear hW1
 go_loopw [5,18] (fun v5 u wr=> ∃k:Nat,k<=ds.length/\u= .int .i64 k/\(∃oo oc,v5= .slice oo (lN p l k ds).length oc/\wr.ownsRow W1.heap.size 46 2 (.slice oo (lN p l k ds).length oc) (lN p l k ds).length (aG (lN p l k ds)))/\Below W1.heap.size W1 wr) (fun _ u _=>ds.length-(intOf u).toNat)
 case atStart=>exact⟨0,bM _,rfl,⟨none,0,rfl,⟨rfl,.inl ⟨rfl,rfl⟩⟩⟩,aH _ _⟩
 case round=>
  obtain⟨k,hk,rfl,⟨oo,oc,rfl,how⟩,hB⟩:=hrel
  by_cases hlt:k<ds.length
  ·have hkn:=H1.o.2.2.below hB (ai _)
   have hk1:=(hB.block _ afQ).trans H1.o.2.1
   have htr:=hkn.work.truth
   rw[HDS.o] at htr
   obtain⟨b,off,y0,y1,y2,rfl,hbl,hys,hc0,hc1,hc2⟩:=CQ htr (by rw[<-HDS.o];exact qM l) hlt
   have hacc:=JV p l ds k hk
   rw[HN.o] at hacc
   have hsu:=Ad p l hlt
   have hdm:ds[k]∈gm l:=by rw[HDS.o];exact df _
   obtain⟨d,hd⟩: ∃d,ds[k]=d:=⟨_,rfl⟩
   rw[hd] at hsu hdm hys
   obtain⟨acc,hac⟩: ∃acc,lN p l k ds=acc:=⟨_,rfl⟩
   rw[hac] at how hacc hsu
   rw[hac]
   have agr:(k:Int)<ds.length:=by omega
   have HD:=ae (ag hys hdm)
   have wX:=ae hsu
   have HAC:=ae hacc
   have HX:=ae (ag how (ag hB (ag hkn hk1)))
   have hsz:=hB.size
   obtain⟨s3,hs3⟩: ∃s3,wr.heap.size=s3:=⟨_,rfl⟩
   clear how hB hkn hk1 htr hsu hys hdm hd hac hacc hk
   go_upto_region 5 with(fail)
   refine dM fun W5 xY=>?_
   have xg:Below wr.heap.size wr W5:=by rw[xY];exact zl
   have hk5:W5.heap[wr.heap.size]? =some (.cells #[iv y0,iv y1,iv y2] 257 (0,0)):=by rw[xY];exact ay _ _
   have agB:=HX.o.2.2.1.below xg (ai _)
   have hag:lQ d= .agg #[iv y0,iv y1,iv y2]:=by rw[HD.o.1];rfl
   have HPA:=ae (hag▸TY HS.o HD.o.2 agB)
   have h51:=(xg.block _ (by omega)).trans HX.o.2.2.2
   have CJ:=bn HX.o.2.1 xg
   have Zc:W5.ownsRow W1.heap.size 46 2 (.slice oo acc.length oc) acc.length (aG acc):=dm HX.o.1 fun g hg=>xg.block g (bD HX.o.1 g hg).2
   have hog: ∀g,(Value.slice oo acc.length oc).ownBlock=some g->g<s3:=fun g hg=>by rw[<-hs3];exact(bD HX.o.1 g hg).2
   rw[hs3] at hk5
   have anJ:s3<W5.heap.size:=(aS.1 hk5).1
   have anL:W1.heap.size<=s3:=by omega
   have H5:=ae (ag Zc (ag CJ (ag hk5 (ag h51 hog))))
   obtain⟨c5,f5,l5⟩:=af hk5
   clear xY xg hk5 agB h51 CJ Zc hog hs3 hsz hc0 hc1 hc2 hbl HX hag
   go_wp2_with fail
   refine HPA.o.mono ?_
   rintro e W6 ⟨hb,hcase⟩
   obtain⟨is,ps,pv,rfl,hpo,his,hps⟩: ∃(is:Bool) (ps:List dQ) (pv:Value),e= .returned (.tuple #[pv,.bool is])/\W6.ownsRow W5.heap.size 46 2 pv ps.length (aG ps)/\jw l [] d=is/\ps=if is=true then kJ l [] d else[]:=by
    rcases hcase with⟨hc,u,rfl,hu⟩|⟨hc,rfl⟩
    ·exact⟨true,kJ l [] d,u,rfl,hu,hc,by simp⟩
    ·exact⟨false,[],.slice none 0 0,rfl,⟨rfl,.inl ⟨rfl,rfl⟩⟩,hc,by simp⟩
   obtain⟨po,pc,rfl⟩:=aW hpo
   obtain⟨ns,hns⟩: ∃ns:List dQ,(if is=true then rC p l d else[])=ns:=⟨_,rfl⟩
   have hnl:ns.length=ps.length:=by rw[<-hns,hps];cases is <;>simp[oM,Jp]
   have hpl:ps.length=if is=true then n else 0:=by rw[hps];cases is <;>simp[Jp,HN.o]
   have hstep:lN p l (k+1) ds=kC acc ns ns.length:=by
    rw[wX.o]
    unfold uH
    rw[his, <-hns]
    cases is
    ·simp[wM]
    ·rw[aF rfl,aF rfl,Xh (by rw[oM,HN.o];exact HAC.o)]
   have h66:=(hb.block _ (show s3<W5.heap.size by omega)).trans H5.o.2.2.1
   have ZL:=(hb.block _ (show w.heap.size<W5.heap.size by omega)).trans H5.o.2.2.2.1
   have agd:W6.ownsRow W1.heap.size 46 2 (.slice oo acc.length oc) acc.length (aG acc):=dm H5.o.1 fun g hg=>hb.block g (by have:=H5.o.2.2.2.2 g hg;omega)
   have ajz:=hb.size
   have H6:=ae (ag agd (ag (bn H5.o.2.1 hb) (ag h66 (ag ZL hpo))))
   have HIS:=ae (ag his (ag hps hns))
   have HNL:=ae (ag hnl hpl)
   have HST:=ae hstep
   have hp3:ps.length<=3:=by rw[hpl];split <;>omega
   have alT:=ae ajz
   clear hb hcase hpo his hps hns hnl hpl hstep h66 ZL agd c5 f5 l5
   go_wp2_with fail
   go_loopw [5,30] (fun v5 u wq=> ∃i:Nat,i<=ps.length/\u= .int .i64 i/\(∃oo oc,v5= .slice oo (kC acc ns i).length oc/\wq.ownsRow W1.heap.size 46 2 (.slice oo (kC acc ns i).length oc) (kC acc ns i).length (aG (kC acc ns i))/\(∀g,(Value.slice oo (kC acc ns i).length oc).ownBlock=some g->g<s3∨W6.heap.size<=g))/\Below W1.heap.size W1 wq/\
    (∀b,s3<=b->b<W6.heap.size->wq.heap[b]? =W6.heap[b]?)/\W6.heap.size<=wq.heap.size) (fun _ u _=>ps.length-(intOf u).toNat)
   case atStart=>
    refine⟨0,bM _,rfl,⟨oo,oc,by rw[wM],?_,?_⟩,H6.o.2.1,fun b _ _=>rfl,ai _⟩
    ·rw[wM];exact H6.o.1
    ·rw[wM];exact fun g hg=> .inl (H5.o.2.2.2.2 g hg)
   case round=>
    obtain⟨i,hi,rfl,⟨oo2,Ju,rfl,how,hog⟩,Me,hkeep,adJ⟩:=hrel
    by_cases hlt2:i<ps.length
    ·have hist:is=true:=by
      have:=HNL.o.2
      cases is
      ·rw[aj (by simp)] at this;omega
      ·rfl
     have hin:i<n:=by have:=HNL.o.2;rw[hist] at this;simp at this;omega
     have hpv:=aN.dS (dm (w':=wr) H6.o.2.2.2.2 fun g hg=>hkeep g (by have:=(bD H6.o.2.2.2.2 g hg).1;omega) (bD H6.o.2.2.2.2 g hg).2)
     obtain⟨gp,po',hvp,hgp,q0,q1⟩:=bP.cell hpv hlt2
     subst hvp
     have hk6:=(hkeep s3 (ai _) (by omega)).trans H6.o.2.2.1
     have hcell:=gG (show wr.heap[s3]? =some (.cells (ah d).toArray 257 (0,0)) by rw[HD.o.1];exact hk6) (show i<d.length by rw[HD.o.1];simp;omega)
     have hd3:i<d.length:=by rw[HD.o.1];simp;omega
     have hgd:d.getD i 0=d[i]:=by simp[List.getD,hd3]
     have hdb:=GL HS.o HD.o.2 i (by omega)
     have hiw:i<l.field.aK.toNat:=by rw[HN.o];exact hin
     have hpd:=Ny HS.o HD.o.2 (HIS.o.1.trans hist) hiw
     have hpe:ps[i]=(kJ l [] d).getD i (0,0):=by
      have h1:=HIS.o.2.1
      rw[hist,aF rfl] at h1
      subst h1
      simp[List.getD,hlt2]
     have hin2:i<ns.length:=by rw[HNL.o.1];exact hlt2
     have hne:ns[i]=p (d[i]) ps[i]:=by
      have h1:=HIS.o.2.2
      rw[hist,aF rfl] at h1
      subst h1
      rw[Jy,hpe,hgd]
     rw[<-hpe] at hpd
     rw[hgd] at hdb
     have h1w:=(Me.block _ afQ).trans H1.o.2.1
     have hlenA:=Xg (acc:=acc) (mJ:=ns) (i:=i) (by
      have h1:=HAC.o
      have h2:=HNL.o
      rw[hist] at h2
      simp at h2
      rcases h1 with h|h
      ·exact .inl h
      ·exact .inr (by omega)) (by omega)
     have hold:=fun(ha:acc≠[]) (h:acc.length=ns.length)=>Xe ha h hin2
     generalize hyi:d[i]'hd3=y at*
     generalize D5:ps[i]=r at*
     generalize hxi:ns[i]=x at*
     have HPF:=ae (hne▸HP.o y r)
     have HHP:=ae (ag hpd hdb)
     have HOLD:=ae (ag hold hxi)
     have HLA:=ae hlenA
     have HX:=ae (ag how (ag hog (ag Me (ag hkeep adJ))))
     have Es:(i:Int)<ps.length:=by omega
     have hi3:i<3:=by omega
     have agN:(i:Int)<3:=by omega
     obtain⟨e1,e2,e3⟩:=af h1w
     have HW1:=ae h1w
     have ajA:s3<wr.heap.size:=by omega
     clear how hog Me hkeep adJ hpv hk6 hgd hdb hpd hpe hne h1w hlenA hold hyi D5 hxi hd3 hiw
     cases hist
     go_upto_region 9 with(fail)
     refine dM fun W9 Lm=>?_
     have XH:Below wr.heap.size wr W9:=by rw[Lm];exact zl
     have hk9:W9.heap[wr.heap.size]? =some (.cells #[iv r.1,iv r.2] 46 (0,0)):=by rw[Lm];exact ay _ _
     have hc9:=(XH.cell (p:=⟨s3,i,none⟩) ajA).trans hcell
     obtain⟨i1,i2,i3⟩:=af ((XH.block _ e3).trans HW1.o)
     have hs9:=XH.size
     obtain⟨g1,g2,g3⟩:=af hk9
     have alQ:s3<W9.heap.size:=by omega
     have pW:=ae XH
     clear Lm XH hcell e1 e2 e3 q0 q1
     have Df:=ae hk9
     clear hk9
     refine zg 9 [] none [(7,Spec.val (rv x)),(8,Spec.block W9.heap.size #[iv 0,iv 0] 46)] ?_
     simp only[zt]
     repeat ((first|refine zn ?_|refine zk ?_);simp only[zp])
     refine eu _ (by rfl) (by rfl) aZ #[acv y r] (fun W hW=>by go_simp;(try simp only[eg]);try rfl) (fun W hE hF=>by exact HPF.o W ⟨HHP.o.2,HHP.o.1⟩) ?_
     simp only[zp]
     refine jQ W9.heap.size _ _ (by rfl) (ai _) (by rfl) (by simp) (by simp) (fun W hW=>by go_simp;try rfl) (fun b12=>?_)
     simp only[zp]
     repeat ((first|refine zn ?_|refine zk ?_);simp only[zp])
     intro WA hE hF
     have hE':Ext [] W9 WA:=hE
     obtain⟨c12,RD,acR,hk12⟩:=hF _ (bF _)
     cases RD
     obtain⟨x0,x1⟩:=x
     obtain⟨j1,j2,j3⟩:=af hk12
     have HEA:=ae hE'
     have HKA:=ae hk12
     clear hE hF hE' hk12 g1 g2 g3 i1 i2 i3 hc9
     go_upto_region 10 with(fail)
     refine dM fun WB hWB=>?_
     have ahr:Below W9.heap.size W9 WB:=by rw[hWB];exact iD (iD HEA.o.below acR _) acR _
     have hkB:WB.heap[b12]? =some (.cells #[iv x0,iv x1] 46 (0,0)):=by rw[hWB];exact aI (aI HKA.o _) _
     have hBB:Below wr.heap.size wr WB:=bn pW.o ahr
     have acI:WB.ownsRow W1.heap.size 46 2 (.slice oo2 (kC acc ns i).length Ju) (kC acc ns i).length (aG (kC acc ns i)):=dm HX.o.1 fun g hg=>hBB.block g (bD HX.o.1 g hg).2
     have ahp:=bn HX.o.2.2.1 hBB
     have Zq: ∀b,s3<=b->b<W6.heap.size->WB.heap[b]? =W6.heap[b]? :=fun b hb1 hb2=>(hBB.block b (by have:=HX.o.2.2.2.2;omega)).trans (HX.o.2.2.2.1 b hb1 hb2)
     have af2:W6.heap.size<=WB.heap.size:=iR HX.o.2.2.2.2 hBB.size
     have HB:=ae (ag acI (ag HX.o.2.1 (ag ahp (ag hkB (ag Zq af2)))))
     obtain⟨j1,j2,j3⟩:=af hkB
     clear hWB ahr hBB acI ahp Zq af2 HEA HKA
     have HLB:=ae HLA.o
     obtain⟨L,hL⟩: ∃L,kC acc ns i=L:=⟨_,rfl⟩
     have hgb: ∀g,(Value.slice oo2 (kC acc ns i).length Ju).ownBlock=some g->g≠b12/\W1.heap.size<=g:=fun g hg=>by
      have h1:=bD HX.o.1 g hg
      have h2:=pW.o.size
      omega
     have HGB:=ae hgb
     have J4:=ae HOLD.o
     rw[hL] at HB HLB HGB J4⊢
     have HL:=ae hL
     clear hgb HLA HX HOLD pW Df hL
     by_cases ha:acc=[]
     ·have hm:L.length=i:=by rw[HLB.o,aF ha]
      have hmb:((L.length:Int)==(i:Int))=true:=by rw[beq_iff_eq];omega
      have HAN:Hid (kC acc ns (i+1)=L++[(x0,x1)]):=ae (by
       have h1:=J4.o.2
       subst ha
       rw[Xf hin2,h1,HL.o])
      have HM:=ae hm
      clear ha hm
      go_upto_region 11 with(fail)
      clear hmb
      have hL3:L.length<=3:=by have:=HM.o;omega
      have ajt:W1.heap.size<=WB.heap.size:=HB.o.2.2.1.size
      go_wp2_with (at_builtin;refine eU rfl _ _ Fg rfl W1.heap.size (.slice oo2 L.length Ju) L.length (aG L) rfl ?_ (.slice (some ⟨WB.heap.size,0,none⟩) 1 1) 1 (aG [(x0,x1)]) rfl ?_ (oK _) (by omega) (by omega) (by simp;omega) ?_)
      ·exact aC (Ms:=[]) HB.o.1 (Ext.aA ((aH _ _).alloc (ai _) _)) (by simp)
      ·exact aN.dD 2 1 (ay _ _) rfl (by decide)
      ·intro v' Wc hown hgr hcase
       obtain⟨oo3,YQ,rfl⟩:=aW hown
       have e3:L.length+1=(L++[(x0,x1)]).length:=by simp
       rw[<-oZ,e3] at hown
       rw[e3] at hcase⊢
       have hwB:Below WB.heap.size WB (WB.alloc (.cells #[iv x0,iv x1] 46)):=ak (aH _ _) _
       have hkc: ∀b,b<WB.heap.size->(∀g,(Value.slice oo2 L.length Ju).ownBlock=some g->g≠b)->Wc.heap[b]? =WB.heap[b]? :=fun b hb hn=>(hgr.block b (by simp;omega) (fun e=>hn b (by simpa using e.symm) rfl)).trans (hwB.block b hb)
       have hoc:Hid (Wc.ownsRow W1.heap.size 46 2 (.slice oo3 (L++[(x0,x1)]).length YQ) (L++[(x0,x1)]).length (aG (L++[(x0,x1)]))/\(∀g,(Value.slice oo3 (L++[(x0,x1)]).length YQ).ownBlock=some g->g<s3∨W6.heap.size<=g)/\Below W1.heap.size W1 Wc/\
        Wc.heap[b12]? =some (.cells #[iv x0,iv x1] 46 (0,0))/\(∀b,s3<=b->b<W6.heap.size->Wc.heap[b]? =W6.heap[b]?)/\W6.heap.size<=Wc.heap.size):=ae (by
        refine⟨hown,fun g hg=>?_,Below.grown (bn HB.o.2.2.1 hwB) hgr (by have:=hwB.size;omega) (fun k e=>(HGB.o k e).2),(hkc b12 (aS.1 HB.o.2.2.2.1).1 (fun g hg=>(HGB.o g hg).1)).trans HB.o.2.2.2.1,fun b hb1 hb2=>?_,?_⟩
        ·rcases hcase with h|h
         ·rw[h] at hg;exact HB.o.2.1 g hg
         ·rw[h] at hg
          have:=HB.o.2.2.2.2.2
          have:WB.heap.size+1=g:=by simpa using hg
          right;omega
        ·have:=HB.o.2.2.2.2.2
         exact(hkc b (by omega) (fun g hg=>by have:=HB.o.2.1 g hg;omega)).trans (HB.o.2.2.2.2.1 b hb1 hb2)
        ·have:=HB.o.2.2.2.2.2
         have:=hgr.size
         have:=hwB.size
         omega)
       have zi:=hoc
       have XL:Hid (i<(L++[(x0,x1)]).length):=ae (by have:=HM.o;simp;omega)
       have HLZ:Hid ((L++[(x0,x1)])[i]'XL.o=(x0,x1)):=ae (by
        have:=HM.o
        subst this
        simp)
       have EY:Hid ((L++[(x0,x1)]).set i (xy (x0,x1) (x0,x1))=kC acc ns (i+1)):=ae (by
        rw[HAN.o]
        have:=HM.o
        subst this
        rw[qy _ _ (ai _),Nat.sub_self]
        simp[xy])
       clear hown hgr hcase e3 hwB hkc hoc hL3 ajt j1 j2 j3 HB HGB J4 HLB HAN
       generalize L++[(x0,x1)]=L3 at*
       go_upto_region 12 with(fail)
       have Oi:Wc.ownsRow W1.heap.size 46 2 (.slice oo3 (L3).length YQ) (L3).length (aG (L3)):=zi.o.1
       obtain⟨gb,c2,hg2,abI,V3,⟨s0,s1⟩,hfr2⟩:=oJ Oi XL.o
       rw[HLZ.o] at s0 s1
       (try simp only at s0 s1)
       obtain⟨rfl,rfl⟩:oo3=some ⟨gb,0,none⟩/\YQ=c2:=by simp at hg2;exact hg2
       obtain⟨e1,e2,e3⟩:=af zi.o.2.2.2.1
       have hiL:(i:Int)<((L3).length:Int):=by have:=XL.o;omega
       clear Oi hg2 hfr2
       refine zg 9 [] none [(7,Spec.val (rv (xy (x0,x1) (x0,x1))))] ?_
       simp only[zt]
       repeat ((first|refine zn ?_|refine zk ?_);simp only[zp])
       refine zw 206 (h:=fun W hE hF=>by exact Gx (x0,x1) (x0,x1) W) (t:=?_)
       simp only[zp]
       repeat ((first|refine zn ?_|refine zk ?_);simp only[zp])
       intro XI hE hF
       have hE':Ext [] Wc XI:=hE
       have xh:Below Wc.heap.size Wc XI:=hE'.below
       have zO:XI.ownsRow W1.heap.size 46 2 (.slice (some ⟨gb,0,none⟩) (L3).length YQ) (L3).length (aG (L3)):=aC (Ms:=[]) zi.o.1 hE' (by simp)
       have hset:=nJ zO XL.o (xy (x0,x1) (x0,x1))
       obtain⟨g3,c3,hg3,_,agO,⟨t0,t1⟩,hfr3⟩:=oJ zO XL.o
       obtain⟨rfl,rfl⟩:gb=g3/\YQ=c3:=by simp at hg3;exact hg3
       rw[EY.o] at hset
       have hlen:(L3).length=(kC acc ns (i+1)).length:=by rw[<-EY.o,qp]
       have hgn:gb<s3∨W6.heap.size<=gb:=zi.o.2.1 gb rfl
       have HST:=ae (ag hset (ag hlen (ag (bn zi.o.2.2.1 xh) (ag xh (ag hgn abI)))))
       clear hE hF hE' zO hset hlen xh hg3 hgn e1 e2 e3 s0 s1
       go_wp2_with fail
       go_roundw
       case rel=>
        refine⟨i+1,by omega,by go_num,⟨some ⟨gb,0,none⟩,YQ,by rw[<-HST.o.2.1],?_,?_⟩,?_,?_,?_⟩
        ·have:=HST.o.1
         rw[HST.o.2.1] at this
         exact this
        ·intro g hg
         have:gb=g:=by simpa [Value.ownBlock] using hg
         rw[<-this];exact HST.o.2.2.2.2.1
        ·exact iD (iD HST.o.2.2.1 HST.o.2.2.2.2.2 _) HST.o.2.2.2.2.2 _
        ·intro b hb1 hb2
         have hbg:b≠gb:=by have:=HST.o.2.2.2.2.1;omega
         have h1:=zi.o.2.2.2.2.1 b hb1 hb2
         have h2:=HST.o.2.2.2.1.block b (by have:=zi.o.2.2.2.2.2;omega)
         exact(dF _ _ _ _ hbg).trans ((dF _ _ _ _ hbg).trans (h2.trans h1))
        ·have:=zi.o.2.2.2.2.2
         have:=HST.o.2.2.2.1.size
         simp
         omega
       case measure=>simp[intOf];omega
     ·have hm:L.length=ns.length:=by rw[HLB.o,aj ha]
      have hneb:((L.length:Int)==(i:Int))=false:=by rw[Hf];omega
      have hal:acc.length=ns.length:=by
       have h2:=HNL.o
       rw[aF rfl] at h2
       rcases HAC.o with h|h
       ·exact absurd h ha
       ·omega
      have XL:Hid (i<L.length):=ae (by omega)
      have hz:=J4.o.1 ha hal
      obtain⟨z,hzd⟩: ∃z:dQ,acc.getD i (0,0)=z:=⟨_,rfl⟩
      rw[hzd] at hz
      have HLZ:Hid (L[i]'XL.o=z):=ae (by
       rw[<-hzd,gW, <-hz.1,dn XL.o]
       rfl)
      have EY:Hid (L.set i (xy z (x0,x1))=kC acc ns (i+1)):=ae hz.2.symm
      have HM:=ae hm
      clear ha hm hal hz hzd J4 HLB HGB HL
      go_upto_region 12 with(fail)
      clear hneb
      have zi:=HB
      clear HB
      clear j1 j2 j3
      have Oi:WB.ownsRow W1.heap.size 46 2 (.slice oo2 (L).length Ju) (L).length (aG (L)):=zi.o.1
      obtain⟨gb,c2,hg2,abI,V3,⟨s0,s1⟩,hfr2⟩:=oJ Oi XL.o
      rw[HLZ.o] at s0 s1
      (try simp only at s0 s1)
      obtain⟨rfl,rfl⟩:oo2=some ⟨gb,0,none⟩/\Ju=c2:=by simp at hg2;exact hg2
      obtain⟨e1,e2,e3⟩:=af zi.o.2.2.2.1
      have hiL:(i:Int)<((L).length:Int):=by have:=XL.o;omega
      clear Oi hg2 hfr2
      refine zg 9 [] none [(7,Spec.val (rv (xy z (x0,x1))))] ?_
      simp only[zt]
      repeat ((first|refine zn ?_|refine zk ?_);simp only[zp])
      refine zw 206 (h:=fun W hE hF=>by exact Gx z (x0,x1) W) (t:=?_)
      simp only[zp]
      repeat ((first|refine zn ?_|refine zk ?_);simp only[zp])
      intro XI hE hF
      have hE':Ext [] WB XI:=hE
      have xh:Below WB.heap.size WB XI:=hE'.below
      have zO:XI.ownsRow W1.heap.size 46 2 (.slice (some ⟨gb,0,none⟩) (L).length Ju) (L).length (aG (L)):=aC (Ms:=[]) zi.o.1 hE' (by simp)
      have hset:=nJ zO XL.o (xy z (x0,x1))
      obtain⟨g3,c3,hg3,_,agO,⟨t0,t1⟩,hfr3⟩:=oJ zO XL.o
      obtain⟨rfl,rfl⟩:gb=g3/\Ju=c3:=by simp at hg3;exact hg3
      rw[EY.o] at hset
      have hlen:(L).length=(kC acc ns (i+1)).length:=by rw[<-EY.o,qp]
      have hgn:gb<s3∨W6.heap.size<=gb:=zi.o.2.1 gb rfl
      have HST:=ae (ag hset (ag hlen (ag (bn zi.o.2.2.1 xh) (ag xh (ag hgn abI)))))
      clear hE hF hE' zO hset hlen xh hg3 hgn e1 e2 e3 s0 s1
      go_wp2_with fail
      go_roundw
      case rel=>
       refine⟨i+1,by omega,by go_num,⟨some ⟨gb,0,none⟩,Ju,by rw[<-HST.o.2.1],?_,?_⟩,?_,?_,?_⟩
       ·have:=HST.o.1
        rw[HST.o.2.1] at this
        exact this
       ·intro g hg
        have:gb=g:=by simpa [Value.ownBlock] using hg
        rw[<-this];exact HST.o.2.2.2.2.1
       ·exact iD (iD HST.o.2.2.1 HST.o.2.2.2.2.2 _) HST.o.2.2.2.2.2 _
       ·intro b hb1 hb2
        have hbg:b≠gb:=by have:=HST.o.2.2.2.2.1;omega
        have h1:=zi.o.2.2.2.2.1 b hb1 hb2
        have h2:=HST.o.2.2.2.1.block b (by have:=zi.o.2.2.2.2.2;omega)
        exact(dF _ _ _ _ hbg).trans ((dF _ _ _ _ hbg).trans (h2.trans h1))
       ·have:=zi.o.2.2.2.2.2
        have:=HST.o.2.2.2.1.size
        simp
        omega
      case measure=>simp[intOf];omega
    ·have hip:i=ps.length:=by omega
     subst hip
     rw[<-HNL.o.1, <-HST.o] at how hog
     rw[<-HNL.o.1, <-HST.o]
     have HF:=ae (ag how Me)
     clear how hog Me hkeep adJ
     go_wp2_with fail
     go_roundw
     case rel=>exact⟨k+1,by omega,by go_num,⟨oo2,Ju,rfl,HF.o.1⟩,HF.o.2⟩
     case measure=>simp[intOf];omega
  ·have hkd:k=ds.length:=by omega
   subst hkd
   have HF:=ae (ag how hB)
   clear how hB
   go_wp2_with fail
   go_returns
   exact⟨_,by simp,cu HF.o.1 (by omega),bn H1.o.1 HF.o.2⟩
end Go.Proofs.YthllkbbbapgelaaGreatDoor
namespace Go.Proofs.YthllkbbbapgelaaGreatDoor
open Go.RowKit Go.RG Go.SL Go.Shelf jl Go.TB
def Py (p:Int->dQ->dQ) (l:aQ) (w:World) (e:Ending) (w':World):Prop:=
 Below w.heap.size w w'/\((gV l true≠0/\e= .returned (.tuple #[.slice none 0 0,iv (gV l true)]))∨
  (gV l true=0/\ ∃u,e= .returned (.tuple #[u,iv 0])/\bP w' u (Bv p l (gm l))))
theorem QH (l:aQ) (tv nv:Value) (aZ:Nat) (p:Int->dQ->dQ) (w:World) (ht:dV w tv l.field.ax) (hn:bI w nv l.notes)
 (eg: ∀args w,(callFunc aZ args).run Tryz.prog w= .ok (.enter aZ args) w)
 (hp: ∀(d:Int) (r:dQ) (W:World),(0<=d/\d<=350)/\0<=r.1/\r.1<=r.2/\r.2<=2000->Calls Tryz.prog aZ #[acv d r] W (PV (rv (p d r)) W)):
 Calls Tryz.prog 74 #[.agg #[.func (.func aZ) #[] #[]],lv l tv nv] w (Py p l w):=by
 have HC:=ae (vS l tv nv true ((w.alloc (.cells #[.func (.func aZ) #[] #[]] 169)).alloc (.cells (kT l tv nv) 49)) ((ht.alloc _).alloc _) ((hn.alloc _).alloc _))
 have HE:=ae eg
 have HP:=ae hp
 clear ht hn hp eg
 obtain⟨q,hq⟩: ∃q,gV l true=q:=⟨_,rfl⟩
 have HQ:=ae hq
 clear hq
 go_enter Tryz.func74,Tryz.ntmps74
 go_wp2_with fail
 refine HC.o.mono ?_
 rintro e w1 ⟨hb,⟨hne,rfl⟩|⟨h0,wb,mb,v,rfl,_,_,hok⟩⟩
 ·rw[HQ.o] at hne⊢
  have hqb:(q !=0)=true:=by simpa using hne
  have HB:=ae (ag (show Below w.heap.size w w1 from zl) hne)
  clear hb hne
  go_wp2_with fail
  go_returns
  exact⟨HB.o.1,.inl ⟨by rw[HQ.o];exact HB.o.2,by rw[HQ.o];simp⟩⟩
 ·have hk:=(hb.block w.heap.size (by simp;omega)).trans ((aV _ _ _ (by simp)).trans (ay w (.cells #[.func (.func aZ) #[] #[]] 169)))
  have HBN:=ae (Ac (Ef h0).1 aZ p w1 hok HE.o HP.o)
  have HB:=ae (ag (show Below w.heap.size w w1 from zl) h0)
  obtain⟨c1,f1,l1⟩:=af hk
  clear hb hk hok h0
  go_wp2_with fail
  refine HBN.o.mono ?_
  rintro e w2 ⟨u,rfl,hu,hb⟩
  obtain⟨uo,uc,rfl⟩:=aW hu
  have HX:=ae (ag (bn HB.o.1 hb) (aN.dS hu))
  clear hb hu c1 f1 l1
  go_wp2_with fail
  go_returns
  exact⟨HX.o.1,.inr ⟨HB.o.2,_,by simp,HX.o.2⟩⟩
theorem PG (l:aQ) (tv nv:Value) (w:World) (ht:dV w tv l.field.ax) (hn:bI w nv l.notes):
 Calls Tryz.prog 42 #[lv l tv nv] w (Py oI l w):=by
 have HC:=ae (QH l tv nv 73 oI (w.alloc (.cells (kT l tv nv) 49)) (ht.alloc _) (hn.alloc _) (enters_of Tryz.func73 (by kernel_rfl) rfl) (fun d r W h=>by first|exact NC d r W h|(have:=h;exact NC d r W h)))
 clear ht hn
 go_enter Tryz.func42,Tryz.ntmps42
 go_wp2_with fail
 refine HC.o.mono ?_
 rintro e w1 ⟨hb,⟨hne,rfl⟩|⟨h0,u,rfl,hu⟩⟩
 ·obtain⟨q,hq⟩: ∃q,gV l true=q:=⟨_,rfl⟩
  have HB:=ae (ag (show Below w.heap.size w w1 from zl) (ag hne hq))
  rw[hq]
  clear hb hne hq
  go_wp2_with fail
  go_returns
  exact⟨HB.o.1,.inl ⟨HB.o.2.1,by rw[HB.o.2.2];simp⟩⟩
 ·obtain⟨uo,uc,rfl⟩:=hu.open
  have HB:=ae (ag (show Below w.heap.size w w1 from zl) (ag h0 hu))
  clear hb h0 hu
  go_wp2_with fail
  go_returns
  exact⟨HB.o.1,.inr ⟨HB.o.2.1,_,by simp,HB.o.2.2⟩⟩
end Go.Proofs.YthllkbbbapgelaaGreatDoor
end
section
namespace Go.Proofs.YthllkbbbapgelaaGreatDoor
open Go.RowKit Go.RG Go.SL Go.Shelf jl Go.TB
end Go.Proofs.YthllkbbbapgelaaGreatDoor
namespace Go.Proofs.YthllkbbbapgelaaGreatDoor
open Go.RowKit Go.RG Go.SL Go.Shelf jl Go.TB
end Go.Proofs.YthllkbbbapgelaaGreatDoor
namespace Go.Proofs.YthllkbbbapgelaaGreatDoor
open Go.RowKit Go.RG Go.SL Go.Shelf jl Go.TB
end Go.Proofs.YthllkbbbapgelaaGreatDoor
namespace Go.Proofs.YthllkbbbapgelaaGreatDoor
open Go.RowKit Go.RG Go.SL Go.Shelf jl Go.TB
def nz (l:aQ):List Int:=(ni l.notes.length (gq l)).getD []
theorem Dx {l:aQ} (h:gq l (upto l.notes.length)=true):ni l.notes.length (gq l)=some (nz l):=by
 unfold nz
 cases hs:ni l.notes.length (gq l) with
 |some c=>rfl
 |none=>rw[Na hs _ (Y7 _)] at h;cases h
def Xq (l:aQ) (w:World) (e:Ending) (w':World):Prop:=
 Below w.heap.size w w'/\((iL l≠0/\e= .returned (.tuple #[.slice none 0 0,iv (iL l)]))∨(iL l=0/\ ∃v,e= .returned (.tuple #[v,iv 0])/\aO w' v (nz l)))
theorem Xp (l:aQ) (tv nv:Value) (w:World) (ht:dV w tv l.field.ax) (hn:bI w nv l.notes):
 Calls Tryz.prog 41 #[lv l tv nv] w (Xq l w):=by
 obtain⟨on,cn,rfl⟩:=hn.open
 have HC:=ae (yu l tv _ (w.alloc (.cells (kT l tv (.slice on l.notes.length cn)) 49)) (ht.alloc _) (hn.alloc _))
 clear ht hn
 obtain⟨q,hq⟩: ∃q,iL l=q:=⟨_,rfl⟩
 have HQ:=ae hq
 clear hq
 obtain⟨nn,hnn⟩: ∃nn,l.notes.length=nn:=⟨_,rfl⟩
 have HNN:=ae hnn
 rw[hnn] at HC⊢
 clear hnn
 go_enter Tryz.func41,Tryz.ntmps41
 go_wp2_with fail
 refine HC.o.mono ?_
 rintro e w1 ⟨hb,⟨hne,rfl⟩|⟨h0,wb,mb,v,rfl,hwb,hmb,hok⟩⟩
 ·have HB:=ae (ag (show Below w.heap.size w w1 from zl) hne)
  rw[HQ.o] at hne⊢
  have hqb:(q !=0)=true:=by simpa using hne
  clear hb hne
  go_wp2_with fail
  go_returns
  exact⟨HB.o.1,.inl ⟨HB.o.2,by rw[HQ.o];simp⟩⟩
 ·obtain⟨hS,hpo⟩:=pG h0
  have hsh:=Dx hpo
  have hn5:=hS.many
  rw[HNN.o] at hsh hn5
  have hk1:=(hb.block w.heap.size (by simp)).trans (ay w (.cells (kT l tv (.slice on nn cn)) 49))
  have hmw:w.heap.size<mb:=by simp at hmb;omega
  have BI:=ae (Ik nn (by omega) (gq l) [mb] (fun W=> ∃T,TabAt XC rv (fun _=>True) W mb T) ⟨fun a b ⟨T,hT⟩ hk=>⟨T,hT.kept (hk mb (by simp))⟩,fun W hW m hm o=>by
   obtain rfl:m=mb:=by simpa using hm
   obtain⟨T,hT⟩:=hW
   exact hT.mM o⟩ w1 hok.tab (fun m hm=>by obtain rfl:m=mb:=(by simpa using hm);exact hok.lt) 72 #[.pointer (some ⟨wb,0,none⟩)] #[]
   (enters_of Tryz.func72 (by kernel_rfl) rfl) (fun x u W' _ hE hW hv=>by
     refine(oW hS x (show Eu W' wb mb l tv (.slice on nn cn) v from⟨hok.work.table hE hok.mM,hW⟩) hv).mono ?_
     rintro e W2 ⟨rfl,hkn,hE2⟩
     exact⟨rfl,hkn.ok.tab,hE2⟩))
  have HB:=ae (ag (show Below w.heap.size w w1 from zl) (ag h0 (ag hsh hmw)))
  obtain⟨c1,f1,l1⟩:=af hk1
  clear hb hok h0 hS hpo hsh hk1 hwb hmb hmw
  go_wp2_with fail
  refine BI.o.mono ?_
  rintro e w2 ⟨⟨_,hE⟩,⟨cx,u,hcx,rfl,uS⟩|⟨hno,_⟩⟩
  ·have hres:cx=nz l:=by rw[HB.o.2.2.1] at hcx;injection hcx with h;exact h.symm
   obtain⟨uo,uc,rfl⟩:=uS.open
   have HX:=ae (ag (iq HB.o.1 hE (by have:=HB.o.2.2.2;omega)) (ag hres uS))
   clear hE hcx uS hres c1 f1 l1
   go_wp2_with fail
   go_returns
   exact⟨HX.o.1,.inr ⟨HB.o.2.1,_,by simp;rfl,by rw[<-HX.o.2.1];exact HX.o.2.2⟩⟩
  ·rw[HB.o.2.2.1] at hno;cases hno
end Go.Proofs.YthllkbbbapgelaaGreatDoor
end
section
namespace Go.Proofs.YthllkbbbapgelaaGreatDoor
open Go.RowKit Go.RG Go.SL Go.Shelf jl Go.TB
theorem Pq {l:aQ} (h:gV l true=0):pO l/\ ∃d∈gm l,jw l [] d=true:=by
 obtain⟨hS,_,_,hp⟩:=Ef h
 unfold gq at hp
 rw[List.any_eq_true] at hp
 exact⟨hS,hp⟩
theorem aae {l:aQ} (hp: ∃d∈gm l,jw l [] d=true) (p:Int->dQ->dQ) {i:Nat} (hi:i<l.field.aK.toNat):
 tZ (fun y=> ∃d∈gm l,jw l [] d=true/\y=p (d.getD i 0) ((kJ l [] d).getD i (0,0))) ((Bv p l (gm l)).getD i (0,0)):=by
 obtain⟨d,hd,hc⟩:=hp
 rcases G7 p l (gm l) hi (gm l).length (ai _) with⟨_,h2⟩|⟨_,h1⟩
 ·rw[List.take_length] at h2;rw[h2 d hd] at hc;cases hc
 ·rw[List.take_length] at h1;exact h1
end Go.Proofs.YthllkbbbapgelaaGreatDoor
namespace Go.Proofs.YthllkbbbapgelaaGreatDoor
open Go.RowKit Go.RG Go.SL Go.Shelf jl Go.TB
end Go.Proofs.YthllkbbbapgelaaGreatDoor
end

/-
  Texts of this claim, packed by a program: QF UA UD UH.
-/
import Derived.WalkKit
import Derived.WalkLawsBesides
import Derived.WalkSpells
import Derived.Outline
import Derived.Handy
import Derived.KernelRfl
import Derived.Lib.Hide
import Derived.BigRegion
import Derived.Deep.Cut
import Derived.Test.YthllkbbbapgelaaGreatDoorPW6
set_option maxHeartbeats 8000000
set_option maxRecDepth 100000
set_option linter.all false
section
namespace Go.Proofs.YthllkbbbapgelaaGreatDoor
open Go.RowKit Go.RG Go.SL Go.Shelf jy Go.TB
abbrev aav (d:List Int):Value:=lY d
abbrev abg (w:World) (v:Value) (ls:List (List Int)):Prop:=aN 3 w v ls.length (ls.flatMap ah)
theorem ajL (l:List (List Int)) (v:Value) (bg:Nat) (fst caps:Array Value) (p:Nat->Bool) (I:Nat->World->Prop) (w:World) (h3: ∀x∈l,x.length=3) (eg: ∀args w,(callFunc bg args).run Tryz.prog w= .ok (.enter bg args) w)
 (hsl: ∀k W,I k W->abg W v l)
 (hcall: ∀k (hk:k<l.length) W,(∀j,j<k->p j=false)->I k W->Calls Tryz.prog bg (fst.push (aav l[k])++caps) W (fun e W'=>e= .returned (.bool (p k))/\I (k+1) W')) (h0:I 0 w):
 Calls Tryz.prog 205 #[v,.func (.func bg) fst caps] w (ed l.length p I (fun k=>iv k) (iv (-1))):=by
 have hlen:=(hsl 0 w h0).len
 obtain⟨o,c,rfl⟩:=(hsl 0 w h0).open
 have HC:=ae hcall
 have HS:=ae hsl
 have H3:=ae h3
 clear hcall hsl h3
 go_enter Tryz.func205,Tryz.ntmps205
 go_wp2
 go_loopw [4,5,8] (fun _ _ i wr=> ∃k:Nat,k<=l.length/\i= .int .i64 k/\(∀j,j<k->p j=false)/\I k wr) (fun _ _ i _=>l.length-(intOf i).toNat)
 case atStart=>exact⟨0,bQ _,rfl,fun j hj=>by omega,h0⟩
 case round=>
  obtain⟨k,hk,rfl,hno,hI⟩:=hrel
  by_cases hlt:k<l.length
  ·obtain⟨b,off,y0,y1,y2,hvv,hb,hys,hc0,hc1,hc2⟩:=Du (HS.o k wr hI) H3.o hlt
   subst hvv
   have hC:=HC.o k hlt wr hno hI
   have hda:aav l[k]= .agg #[iv y0,iv y1,iv y2]:=by show lY l[k]=_;rw[hys];rfl
   rw[hda] at hC
   have HN:=ae hno
   clear hno
   go_wp2_with fail
   refine hC.mono ?_
   rintro e W1 ⟨rfl,hI1⟩
   have HI:=ae hI1
   clear hI1 hI hC
   cases hp:p k
   ·go_wp2_with fail
    go_roundw
    case rel=>exact⟨k+1,by omega,by go_num,fun j hj=>(by by_cases e:j=k;(subst e;exact hp);exact HN.o j (by omega)),HI.o⟩
    case measure=>simp[intOf];omega
   ·go_wp2_with fail
    go_returns
    exact⟨k,by omega,HN.o,.inl ⟨hlt,hp,by simp,HI.o⟩⟩
  ·have hkl:k=l.length:=by omega
   have HN:=ae hno
   clear hno
   go_wp2_with fail
   go_returns
   exact⟨k,by omega,HN.o,.inr ⟨hkl,by simp,by subst hkl;exact hI⟩⟩
theorem ah2 (l:List (List Int)) (v:Value) (bg:Nat) (fst caps:Array Value) (p:Nat->Bool) (I:Nat->World->Prop) (w:World) (h3: ∀x∈l,x.length=3) (eg: ∀args w,(callFunc bg args).run Tryz.prog w= .ok (.enter bg args) w)
 (hsl: ∀k W,I k W->abg W v l)
 (hcall: ∀k (hk:k<l.length) W,(∀j,j<k->p j=false)->I k W->Calls Tryz.prog bg (fst.push (aav l[k])++caps) W (fun e W'=>e= .returned (.bool (p k))/\I (k+1) W')) (h0:I 0 w):
 Calls Tryz.prog 123 #[v,.func (.func bg) fst caps] w (ed l.length p I (fun _=> .bool true) (.bool false)):=by
 have HI:=ae (ajL l v bg fst caps p I w h3 eg hsl hcall h0)
 have hlen:=(hsl 0 w h0).len
 clear hsl hcall h0 eg
 go_enter Tryz.func123,Tryz.ntmps123
 go_wp2_with fail
 refine HI.o.mono ?_
 clear HI
 rintro e W' ⟨k,hk,hno,⟨hlt,hp,rfl,hI⟩|⟨hkl,rfl,hI⟩⟩
 ·have HN:=ae (ag hno (ag hp hI))
  clear hno hp hI
  go_wp2_with fail
  go_returns
  exact⟨k,hk,HN.o.1,.inl ⟨hlt,HN.o.2.1,by simp,HN.o.2.2⟩⟩
 ·have HN:=ae (ag hno (ag hkl hI))
  clear hno hkl hI
  go_wp2_with fail
  go_returns
  exact⟨k,hk,HN.o.1,.inr ⟨HN.o.2.1,by simp,HN.o.2.1▸HN.o.2.2⟩⟩
def gq (l:aQ) (out:List Int):Bool:=(gm l).any (jC l out)
structure Fg (W:World) (wb mb:Nat) (l:aQ) (tv nv v:Value):Prop where
 work:D6 W wb mb l tv nv v (gm l)
 tab: ∃T,TabAt Yc rv (fun _=>True) W mb T
structure Iq (W:World) (wb mb:Nat) (l:aQ) (tv nv v:Value) (out:List Int):Prop where
 work:D6 W wb mb l tv nv v (gm l)
 tab: ∃T,TabAt Yc rv (fun _=>True) W mb T/\rH (En l out) T (tH l.field.aK.toNat (gm l) (gm l).length)
theorem Iq.ok {W:World} {wb mb:Nat} {l:aQ} {tv nv v:Value} {out:List Int} (h:Iq W wb mb l tv nv v out):Fg W wb mb l tv nv v:=⟨h.work,let⟨T,h1,_⟩:=h.tab;⟨T,h1⟩⟩
theorem Iq.below {W W':World} {wb mb:Nat} {l:aQ} {tv nv v:Value} {out:List Int} (h:Iq W wb mb l tv nv v out) {B:Nat} (hb:Below B W W') (hB:W.heap.size<=B):Iq W' wb mb l tv nv v out:=
 ⟨h.work.below hb hB,let⟨T,h1,h2⟩:=h.tab;⟨T,h1.below hb hB,h2⟩⟩
theorem Fg.below {W W':World} {wb mb:Nat} {l:aQ} {tv nv v:Value} (h:Fg W wb mb l tv nv v) {B:Nat} (hb:Below B W W') (hB:W.heap.size<=B):Fg W' wb mb l tv nv v:=
 ⟨h.work.below hb hB,let⟨T,h1⟩:=h.tab;⟨T,h1.below hb hB⟩⟩
theorem Fg.lt {W:World} {wb mb:Nat} {l:aQ} {tv nv v:Value} (h:Fg W wb mb l tv nv v):mb<W.heap.size:=let⟨_,h1⟩:=h.tab;h1.lt
theorem Fg.mX {W:World} {wb mb:Nat} {l:aQ} {tv nv v:Value} (h:Fg W wb mb l tv nv v) (o:Nat):W.cell? ⟨mb,o,none⟩=none:=let⟨_,h1⟩:=h.tab;h1.mX o
theorem qM (l:aQ): ∀x∈gm l,x.length=3:=BI l _
theorem Hr {l:aQ} (hS:pW l) {d:List Int} (hd:d∈gm l) (i:Nat) (hi:i<3):0<=d.getD i 0/\d.getD i 0<=350:=by
 obtain⟨t,ht,rfl⟩:=JZ.1 hd
 have hF:=iH hS.field
 have:=oJ ht
 exact Hq (by have:=hS.rate;omega) (by have:=hS.rate;omega) t (by have:=hF.qH;omega) i hi
theorem abT {l:aQ} {out:List Int} {T:List ((Int×Int)×dR)} (hF:rH (En l out) T (tH l.field.aK.toNat (gm l) (gm l).length)) {d:List Int} (hd:d∈gm l) {i:Nat} (hi:i<l.field.aK.toNat):
 TB.look ((i:Int),d.getD i 0) T=some ((pR l out d).getD i (0,0)):=by
 obtain⟨r,hr⟩:=hF.has ((i:Int),d.getD i 0) (by
  unfold tH
  rw[List.take_length,qx]
  exact⟨d,hd,jc.2 ⟨i,kD.2 hi,rfl⟩⟩)
 rw[hr,hF.only _ _ hr,OD,D5 _ _ _ hi]
theorem aaS {l:aQ} (hS:pW l) (out:List Int) {d:List Int} (hd:d∈gm l): ∀r∈pR l out d,0<=r.1/\r.1<=2000/\0<=r.2/\r.2<=2000:=by
 intro r hr
 obtain⟨i,hi,rfl⟩:=jc.1 hr
 have hF:=iH hS.field
 have:=hF.xm
 have hi':=kD.1 hi
 have hb:=Hr hS hd i (by omega)
 have:=OC hS out i hb.1 (by omega)
 omega
theorem UF {l:aQ} (hS:pW l) {tv nv v:Value} {out:List Int} {wb mb:Nat} {d:List Int} (hd:d∈gm l) {w:World} (hw:Iq w wb mb l tv nv v out):
 Calls Tryz.prog 125 #[.pointer (some ⟨wb,0,none⟩),lY d] w (Qj l out d w):=by
 obtain⟨T,hT,hF⟩:=hw.tab
 exact Y9 l (iH hS.field) (by have:=hS.box;omega) tv nv v out d (qM l d hd) (pR l out d) rfl (aaS hS out hd) wb mb T w hw.work.cells hT (fun i hi=>abT hF hd hi)
theorem VP {l:aQ} (hS:pW l) {tv nv v:Value} {out:List Int} {wb mb bp:Nat} {d:List Int} (hd:d∈gm l) {w:World} (hw:Iq w wb mb l tv nv v out) (hp:w.heap[bp]? =some (.cells #[.pointer (some ⟨wb,0,none⟩)] 159 (0,0))):
 Calls Tryz.prog 124 #[lY d,.pointer (some ⟨bp,0,none⟩)] w (PV (.bool (jC l out d)) w):=by
 obtain⟨y0,y1,y2,hys⟩:=nN (qM l d hd)
 have hag:lY d= .agg #[iv y0,iv y1,iv y2]:=by rw[hys];rfl
 have HP:=ae (fun W hW=>hag▸UF (w:=W) hS hd (hw.below (B:=w.heap.size) hW (ai _)))
 rw[hag]
 obtain⟨c1,f1,l1⟩:=af hp
 obtain⟨q,hq⟩: ∃q,jC l out d=q:=⟨_,rfl⟩
 have HQ:=ae hq
 clear hw hp hag hys hq
 go_enter Tryz.func124,Tryz.ntmps124
 go_wp2_with fail
 refine(HP.o _ (aj (aH _ _) _)).mono ?_
 rintro e w' ⟨hb,⟨hc,u,rfl,hu⟩|⟨hc,rfl⟩⟩
 ·have hq:q=true:=by rw[<-HQ.o,hc]
  obtain⟨uo,uc,rfl⟩:=aW hu
  have HB:=ae (aY (aj (aH w.heap.size w) (.cells #[iv y0,iv y1,iv y2] 257)) hb)
  have HE:=ae (ag hc hq)
  clear hb hc hu hq
  go_wp2_with fail
  go_returns
  exact⟨by rw[HE.o.1];simp,HB.o⟩
 ·have HB:=ae (aY (aj (aH w.heap.size w) (.cells #[iv y0,iv y1,iv y2] 257)) hb)
  have HE:=ae hc
  clear hb hc
  go_wp2_with fail
  go_returns
  exact⟨by rw[HE.o];simp,HB.o⟩
theorem pz {l:aQ} (hS:pW l) {tv nv v ov:Value} (out:List Int) {wb mb:Nat} {w:World} (hw:Fg w wb mb l tv nv v) (ho:aO w ov out):
 Calls Tryz.prog 72 #[.pointer (some ⟨wb,0,none⟩),ov] w (fun e w'=>e= .returned (.bool (gq l out))/\Iq w' wb mb l tv nv v out/\Ext [mb] w w'):=by
 obtain⟨T0,hT0⟩:=hw.tab
 obtain⟨oo,oc,rfl⟩:=ho.open
 obtain⟨vo,vc,rfl⟩:=hw.work.truth.open
 have hF:=iH hS.field
 have hlen:(gm l).length<=2500:=iW (Aw l _) (lZ hF [])
 have hBA:Below w.heap.size w (w.alloc (.cells #[.pointer (some ⟨wb,0,none⟩)] 159)):=aj (aH _ _) _
 have HWO:=ae (Nw l hF hS.many tv nv _ _ out wb mb (gm l) T0 _ (hw.work.below hBA (ai _)) (hT0.below hBA (ai _)) (ho.below hBA (ai _)) (qM l) hlen)
 have hmb:=hT0.lt
 have hwb:=hw.work.lt
 have HW:=ae (ag (hw.work.below hBA (ai _)) (hT0.below hBA (ai _)))
 have HS:=ae hS
 obtain⟨q,hq⟩: ∃q,gq l out=q:=⟨_,rfl⟩
 rw[hq]
 have HQ:=ae hq
 have hbp:=ay w (.cells #[.pointer (some ⟨wb,0,none⟩)] 159)
 have HBP:=ae hbp
 clear hw ho hT0 hq hS hbp hBA
 go_enter Tryz.func72,Tryz.ntmps72
 go_wp2_with fail
 refine HWO.o.mono ?_
 rintro e W1 ⟨⟨u,rfl⟩,hE,T,hT,Yf⟩
 have ace:=(hE.block w.heap.size (by simp) (by simp;omega)).trans HBP.o
 have Su:=HW.o.1.table hE HW.o.2.mX
 have hKn:Iq W1 wb mb l tv nv (.slice vo (gm l).length vc) out:=⟨Su,T,hT,Yf⟩
 have Yg:Ext [mb] w W1:=(Ext.aA (aj (aH _ _) _)).trans hE
 have HC:=ae (ah2 (gm l) (.slice vo (gm l).length vc) 124 #[] #[.pointer (some ⟨w.heap.size,0,none⟩)] (fun k=>jC l out ((gm l).getD k [])) (fun _ W=>Below W1.heap.size W1 W) W1 (qM l)
  (enters_of Tryz.func124 (by kernel_rfl) rfl) (fun k W hW=>Su.truth.below hW (ai _))
  (fun k hk W _ hW=>by
    have hg:(gm l).getD k []=(gm l)[k]:=by simp[List.getD,hk]
    rw[hg]
    refine(VP HS.o (dh hk) (hKn.below hW (ai _)) ((hW.block _ (aS.1 ace).1).trans ace)).mono ?_
    rintro e W' ⟨rfl,hb⟩
    exact⟨rfl,aY hW hb⟩) (aH _ _))
 obtain⟨c1,f1,l1⟩:=af ace
 obtain⟨c2,f2,l2⟩:=af Su.cells
 have HX:=ae (ag hKn Yg)
 clear hE hT Yf ace Su hKn Yg
 obtain⟨ls,hls⟩: ∃ls,gm l=ls:=⟨_,rfl⟩
 rw[hls] at HC c2
 have FQ:=ae hls
 clear hls
 go_wp2_with fail
 refine HC.o.mono ?_
 rintro e W2 ⟨k,hk,hno,⟨hlt,hp,rfl,hB⟩|⟨hkl,rfl,hB⟩⟩
 ·have hqt:q=true:=by
   rw[<-HQ.o]
   unfold gq
   rw[FQ.o,List.any_eq_true]
   exact⟨ls.getD k [],by rw[show ls.getD k []=ls[k] from by simp[List.getD,hlt]];exact dh _,hp⟩
  have HF:=ae (ag hqt hB)
  clear hno hp hB hqt
  go_wp2_with fail
  go_returns
  exact⟨by rw[HF.o.1];simp,HX.o.1.below HF.o.2 (ai _),HX.o.2.trans (Ext.aA HF.o.2)⟩
 ·have hqf:q=false:=by
   rw[<-HQ.o]
   unfold gq
   rw[FQ.o,List.any_eq_false]
   intro x hx
   obtain⟨j,hj,rfl⟩:=mF hx
   have:=hno j (by omega)
   simp only at this
   rw[show ls.getD j []=ls[j] from by simp[List.getD,hj]] at this
   simp[this]
  have HF:=ae (ag hqf hB)
  clear hno hB hqf
  go_wp2_with fail
  go_returns
  exact⟨by rw[HF.o.1];simp,HX.o.1.below HF.o.2 (ai _),HX.o.2.trans (Ext.aA HF.o.2)⟩
end Go.Proofs.YthllkbbbapgelaaGreatDoor
namespace Go.Proofs.YthllkbbbapgelaaGreatDoor
open Go.RowKit Go.RG Go.SL Go.Shelf jy Go.TB
def KF (l:aQ):Bool:=nS l.rate 1 50&&(lD l.box&&l.notes.all (Bf l))
def iO (l:aQ):Int:=if 5<l.notes.length then 3 else if fM l.field true≠0 then fM l.field true else if KF l=false then 1 else if gq l (upto l.notes.length)=false then 9 else 0
theorem Jz {l:aQ} (h1: ¬5<l.notes.length) (h2:fM l.field true=0) (h3:KF l=true):pW l:=by
 have hf:jX l.field=0:=by
  unfold fM at h2
  split at h2
  ·omega
  ·rename_i h;omega
 obtain⟨hS,hpos,_⟩:=sD h2
 simp only[KF,nS,lD,eG,eX,ku] at h3
 obtain⟨⟨r1,r2⟩,⟨b1,⟨b2,b3⟩,b4,b5⟩,hn⟩:=h3
 refine⟨hf,fun e=>by rw[e] at hpos;simp at hpos,⟨r1,r2⟩,⟨by omega,by omega,by omega⟩,by omega,fun x hx=>?_⟩
 have:=hn x hx
 simp only[Bf,nS,lD,eG,eX] at this
 omega
def BH (n k:Nat):List Int:=(List.range n).map fun(i:Nat)=>if i<k then(i:Int) else 0
theorem Xd (n:Nat):BH n 0=List.replicate n 0:=by
 unfold BH
 simp only[Nat.not_lt_zero,if_false]
 rw[List.map_const',List.length_range]
theorem aat (n:Nat):BH n n=upto n:=by
 unfold BH upto
 apply List.map_congr_left
 intro i hi
 rw[aF (kD.1 hi)]
theorem aas {n k:Nat} (_hk:k<n):(BH n k).set k (k:Int)=BH n (k+1):=by
 refine List.ext_getElem (by simp[BH]) fun i h1 h2=>?_
 rw[List.getElem_set]
 simp only[BH,List.getElem_map,List.getElem_range]
 by_cases e:k=i
 ·subst e;simp
 ·rw[ak e]
  by_cases h:i<k
  ·rw[aF h,aF (by omega)]
  ·rw[ak h,ak (by omega)]
theorem O6 (n k:Nat):(BH n k).length=n:=by simp[BH]
def Qu (l:aQ) (tv nv:Value) (w:World) (e:Ending) (w':World):Prop:=
 Below w.heap.size w w'/\((iO l≠0/\e= .returned (.tuple #[.pointer none,iv (iO l)]))∨
  (iO l=0/\ ∃(wb mb:Nat) (v:Value),e= .returned (.tuple #[.pointer (some ⟨wb,0,none⟩),iv 0])/\w.heap.size<=wb/\w.heap.size<=mb/\Fg w' wb mb l tv nv v))
theorem yH (l:aQ) (tv nv:Value) (w:World) (ht:dW w tv l.field.ax) (hn:bJ w nv l.notes):
 Calls Tryz.prog 70 #[lv l tv nv] w (Qu l tv nv w):=by
 obtain⟨on,cn,rfl⟩:=hn.open
 obtain⟨ot,ct,rfl⟩:=ht.open
 have hnl:=hn.len
 have HN:=ae hn
 have HT:=ae ht
 clear hn ht
 by_cases h5:5<l.notes.length
 ·have HF:Hid (iO l=3):=ae (by unfold iO;rw[aF h5])
  have h5I:(l.notes.length:Int)>5:=by omega
  go_enter Tryz.func70,Tryz.ntmps70
  go_wp2_with fail
  go_returns
  exact⟨zl,.inl ⟨by rw[HF.o];simp,by rw[HF.o];simp⟩⟩
 have h5I: ¬((l.notes.length:Int)>5):=by omega
 have hW:iO l=if fM l.field true≠0 then fM l.field true else if KF l=false then 1 else if gq l (upto l.notes.length)=false then 9 else 0:=by unfold iO;rw[ak h5]
 have HD:=ae (fun w ht=>CO l.field (.slice ot l.field.ax.length ct) w ht)
 obtain⟨q,hq⟩: ∃q,fM l.field true=q:=⟨_,rfl⟩
 rw[hq] at hW
 by_cases hq0:q=0
 case neg=>
  have HF:Hid (iO l=q/\q≠0/\fM l.field true=q):=ae ⟨by rw[hW,aF hq0],hq0,hq⟩
  have hqb:(q !=0)=true:=by simpa using hq0
  clear hW hq hq0
  go_enter Tryz.func70,Tryz.ntmps70
  go_wp2_with fail
  refine(HD.o _ (HT.o.alloc _)).mono ?_
  rintro e w1 ⟨hb,⟨hne,rfl⟩|⟨h0,_⟩⟩
  ·have HB:=ae (show Below w.heap.size w w1 from zl)
   rw[HF.o.2.2]
   clear hb hne
   go_wp2_with fail
   go_returns
   exact⟨HB.o,.inl ⟨by rw[HF.o.1];exact HF.o.2.1,by rw[HF.o.1];simp⟩⟩
  ·exact absurd (HF.o.2.2.symm.trans h0) HF.o.2.1
 rw[ak (by rw[hq0];simp)] at hW
 rw[hq0] at hq
 have HW:=ae hW
 have hwd: -1000<=l.field.aK/\l.field.aK<=1000:=by
  have hF0:jX l.field=0:=by
   unfold fM at hq
   by_cases h:jX l.field=0
   ·exact h
   ·rw[aF h] at hq;exact hq
  have:=iH hF0
  have:=this.zK
  have:=(iH hF0).xm
  omega
 have HQ:=ae hq
 clear hW hq hq0
 obtain⟨r1,hr1⟩: ∃r1,nS l.rate 1 50=r1:=⟨_,rfl⟩
 obtain⟨r2,hr2⟩: ∃r2,lD l.box=r2:=⟨_,rfl⟩
 obtain⟨r3,hr3⟩: ∃r3,l.notes.all (Bf l)=r3:=⟨_,rfl⟩
 have hargs:KF l=(r1&&(r2&&r3)):=by unfold KF;rw[hr1,hr2,hr3]
 have H1:=ae (fun w=>hr1▸yA l.rate 1 50 w)
 have H2:=ae (fun w=>hr2▸EU l.box w)
 have H3:=ae (fun(W:World) (hB:Below w.heap.size w W)=>
  hr3▸XB l.notes (.slice on l.notes.length cn) 116 #[lv l (.slice ot l.field.ax.length ct) (.slice on l.notes.length cn)] #[] (Bf l) W (HN.o.below hB (ai _)) (enters_of Tryz.func116 (by kernel_rfl) rfl) (fun x _ W' _=>note_any l _ _ x W' hwd.1 hwd.2))
 have HA:=ae hargs
 clear hargs hr1 hr2 hr3
 go_enter Tryz.func70,Tryz.ntmps70
 go_wp2_with fail
 refine(HD.o _ (HT.o.alloc _)).mono ?_
 rintro e w1 ⟨hb,⟨hne,_⟩|⟨_,u,rfl,hu⟩⟩
 ·exact absurd HQ.o hne
 obtain⟨uo,uc,rfl⟩:=hu.open
 obtain⟨hc,hf⟩:=bK hb
 have hz0:w.heap.size<w1.heap.size:=by have:=hb.size;simp at this;omega
 have hk1:=(hb.block w.heap.size (by simp)).trans (ay w (.cells (lh l (.slice ot l.field.ax.length ct) (.slice on l.notes.length cn)) 49))
 have HB1:=ae (ag (show Below w.heap.size w w1 from zl) hk1)
 clear hb hu hk1
 go_wp2_with fail
 refine(H1.o _).mono ?_
 rintro e w2 ⟨rfl,hb⟩
 have hk2:=(hb.block _ hz0).trans HB1.o.2
 have HB2:=ae (ag (aY HB1.o.1 hb) hk2)
 obtain⟨c2,f2,l2⟩:=af hk2
 clear hb hk2 hc hf hz0
 cases r1
 ·have hF:iO l=1:=by rw[HW.o,HA.o];rfl
  have HF:=ae hF
  clear hF
  go_wp2_with fail
  go_returns
  exact⟨HB2.o.1,.inl ⟨by rw[HF.o];simp,by rw[HF.o];simp⟩⟩
 go_wp2_with fail
 refine(H2.o _).mono ?_
 rintro e w3 ⟨rfl,hb⟩
 have hk3:=(hb.block _ l2).trans HB2.o.2
 have HB3:=ae (ag (aY HB2.o.1 hb) hk3)
 obtain⟨c3,f3,l3⟩:=af hk3
 clear hb hk3 c2 f2 l2
 cases r2
 ·have hF:iO l=1:=by rw[HW.o,HA.o];rfl
  have HF:=ae hF
  clear hF
  go_wp2_with fail
  go_returns
  exact⟨HB3.o.1,.inl ⟨by rw[HF.o];simp,by rw[HF.o];simp⟩⟩
 go_wp2_with fail
 refine(H3.o _ HB3.o.1).mono ?_
 rintro e w4 ⟨rfl,hb⟩
 have hk4:=(hb.block _ l3).trans HB3.o.2
 have HB4:=ae (ag (aY HB3.o.1 hb) hk4)
 obtain⟨c4,f4,l4⟩:=af hk4
 clear hb hk4 c3 f3 l3
 cases r3
 ·have hF:iO l=1:=by rw[HW.o,HA.o];rfl
  have HF:=ae hF
  clear hF
  go_wp2_with fail
  go_returns
  exact⟨HB4.o.1,.inl ⟨by rw[HF.o];simp,by rw[HF.o];simp⟩⟩
 have hS:pW l:=Jz h5 HQ.o (by rw[HA.o];rfl)
 have hW:iO l=if gq l (upto l.notes.length)=false then 9 else 0:=by rw[HW.o,HA.o];rfl
 have HS:=ae hS
 have HW':=ae hW
 clear hS hW
 go_wp2_with fail
 refine(WY l _ _ HS.o.field (by have:=HS.o.rate;omega) (by have:=HS.o.rate;omega) w4 (HT.o.below HB4.o.1 (ai _)) (HN.o.below HB4.o.1 (ai _))).mono ?_
 rintro e w5 ⟨wb,mb,v,rfl,hwb,hmb,htab,hlw,hb⟩
 have hk5:=(hb.block _ l4).trans HB4.o.2
 have agI:Fg w5 wb mb l (.slice ot l.field.ax.length ct) (.slice on l.notes.length cn) v:=⟨hlw,[],LC htab⟩
 have hs4:=HB4.o.1.size
 have nD:=ae (ag (aY HB4.o.1 hb) (ag hk5 agI))
 obtain⟨c5,f5,l5⟩:=af hk5
 obtain⟨n,hn⟩: ∃n,l.notes.length=n:=⟨_,rfl⟩
 have hmk:=vS n (by omega)
 rw[hn] at HW' c5
 have KN:=ae hn
 have hn5:n<=5:=by omega
 clear hb hk5 hlw htab c4 f4 l4 agI hn
 go_upto_region 11 with(fail)
 refine dN fun W6 Dl=>?_
 have Fe:Below w5.heap.size w5 W6:=by rw[Dl];exact aj (aH _ _) _
 have hk6:W6.heap[w5.heap.size]? =some (.cells (ah (BH n 0)).toArray 3 (0,0)):=by rw[Dl,Xd];exact ay _ _
 have H6:=ae (ag Fe hk6)
 clear Dl Fe hk6 hmk c5 f5 l5
 go_wp2_with fail
 go_loopw [50] (fun u wr=> ∃k:Nat,k<=n/\u= .int .i64 k/\wr.heap[w5.heap.size]? =some (.cells (ah (BH n k)).toArray 3 (0,0))/\Below w5.heap.size w5 wr) (fun u _=>n-(intOf u).toNat)
 case atStart=>exact⟨0,bQ _,rfl,H6.o.2,H6.o.1⟩
 case round=>
  obtain⟨k,hk,rfl,hcb,hB⟩:=hrel
  by_cases hlt:k<n
  ·have hcell:=gG hcb (show k<(BH n k).length by rw[O6];exact hlt)
   generalize (BH n k)[k]'(by rw[O6];exact hlt)=x at hcell
   have hlb:=dI wr _ hcell
   have hfr:=bn hcb k
   have HX:=ae (ag hcb hB)
   clear hcb hB
   go_wp2_with fail
   go_roundw
   case rel=>
    refine⟨k+1,by omega,by go_num,?_,iF HX.o.2 (ai _) _⟩
    rw[<-aas hlt, <-sV]
    exact aI HX.o.1 _
   case measure=>simp[intOf];omega
  ·have hkn:k=n:=by omega
   subst hkn
   rw[aat] at hcb
   have vg:aO wr (.slice (some ⟨w5.heap.size,0,none⟩) k k) (upto k):=by
    have hul:(upto k).length=k:=by simp[upto]
    have:=aN.dB (w:=wr) (cs:=(ah (upto k)).toArray) 1 k hcb (by simp[ah,hul]) (by simp only[maxLen];omega)
    show aN 1 _ _ (upto k).length _
    rw[hul]
    exact this
   have HP:=ae (pz HS.o (upto k) (nD.o.2.2.below hB (ai _)) vg)
   have HX:=ae hB
   obtain⟨q,hq⟩: ∃q,gq l (upto k)=q:=⟨_,rfl⟩
   rw[hq] at HP HW'
   clear hcb hB vg hq
   go_wp2_with fail
   refine HP.o.mono ?_
   rintro e w7 ⟨rfl,hkn,hE⟩
   have IK:Below w.heap.size w w7:=by
    have h1:=aY nD.o.1 (HX.o)
    exact ik h1 hE (by omega)
   have HX7:=ae (ag hkn.ok IK)
   clear hkn hE IK
   cases q
   ·have HF:=ae HW'.o
    go_wp2_with fail
    go_returns
    exact⟨HX7.o.2,.inl ⟨by rw[HF.o];simp,by rw[HF.o];simp⟩⟩
   ·have HF:=ae HW'.o
    go_wp2_with fail
    go_returns
    exact⟨HX7.o.2,.inr ⟨by rw[HF.o];rfl,wb,mb,v,by simp,by omega,by omega,HX7.o.1⟩⟩
end Go.Proofs.YthllkbbbapgelaaGreatDoor
namespace Go.Proofs.YthllkbbbapgelaaGreatDoor
open Go.RowKit Go.RG Go.SL Go.Shelf jy Go.TB
theorem Fj (l:aQ) (tv nv:Value) (w:World) (ht:dW w tv l.field.ax) (hn:bJ w nv l.notes):
 Calls Tryz.prog 183 #[lv l tv nv] w (PV (iv (iO l)) w):=by
 have HC:=ae (yH l tv nv (w.alloc (.cells (lh l tv nv) 49)) (ht.alloc _) (hn.alloc _))
 obtain⟨q,hq⟩: ∃q,iO l=q:=⟨_,rfl⟩
 rw[hq]
 have HQ:=ae hq
 clear ht hn hq
 go_enter Tryz.func183,Tryz.ntmps183
 go_wp2_with fail
 refine HC.o.mono ?_
 rintro e w1 ⟨hb,⟨hne,rfl⟩|⟨h0,wb,mb,v,rfl,_,_,hok⟩⟩
 ·have HB:=ae (show Below w.heap.size w w1 from zl)
  rw[HQ.o]
  clear hb hne
  go_wp2_with fail
  go_returns
  exact⟨by simp,HB.o⟩
 ·have HB:=ae (show Below w.heap.size w w1 from zl)
  have hq0:q=0:=HQ.o.symm.trans h0
  have jQ:=ae hq0
  clear hb hok h0 hq0
  go_wp2_with fail
  go_returns
  exact⟨by rw[jQ.o];simp,HB.o⟩
theorem pM {l:aQ} (h:iO l=0):pW l/\gq l (upto l.notes.length)=true:=by
 unfold iO at h
 split at h
 ·omega
 ·rename_i h1
  split at h
  ·omega
  ·rename_i h2
   split at h
   ·omega
   ·rename_i h3
    split at h
    ·omega
    ·rename_i h4
     exact⟨Jz h1 (by omega) (by simpa using h3),by simpa using h4⟩
structure pX (w0:World) (Ms:List Nat) (fO:World->Prop) (zA:Value) (below fb pb bb ab:Nat) (W:World):Prop where
 ext:Ext Ms w0 W
 cache:fO W
 found: ∃o n c,W.heap[fb]? =some (.cells #[.slice o n c] 52 (0,0))
 pass:W.heap[pb]? =some (.cells #[zA] 163 (0,0))
 bound:W.heap[bb]? =some (.cells #[iv below] 3 (0,0))
 add:W.heap[ab]? =some (.cells #[.func (.func 121) #[] #[.pointer (some ⟨fb,0,none⟩),.pointer (some ⟨pb,0,none⟩),.pointer (some ⟨bb,0,none⟩),.pointer (some ⟨ab,0,none⟩)]] 252 (0,0))
 new:w0.heap.size<=fb/\w0.heap.size<=pb/\w0.heap.size<=bb/\w0.heap.size<=ab
 old: ∀m∈Ms,m<w0.heap.size
 good:abf Ms fO
theorem pX.table {w0 W W':World} {Ms:List Nat} {fO:World->Prop} {zA:Value} {below fb pb bb ab:Nat} (h:pX w0 Ms fO zA below fb pb bb ab W) (hE:Ext Ms W W') (hc:fO W'):pX w0 Ms fO zA below fb pb bb ab W':=by
 have hn:=h.new
 have ho:=h.old
 obtain⟨o,n,c,hf⟩:=h.found
 have k: ∀(b:Nat) (x:Obj),W.heap[b]? =some x->w0.heap.size<=b->W'.heap[b]? =some x:=fun b x hb hle=>(hE.block b (aS.1 hb).1 (fun hm=>by have:=ho b hm;omega)).trans hb
 exact⟨h.ext.trans hE,hc,⟨o,n,c,k _ _ hf hn.1⟩,k _ _ h.pass hn.2.1,k _ _ h.bound hn.2.2.1,k _ _ h.add hn.2.2.2,hn,ho,h.good⟩
theorem pX.below {w0 W W':World} {Ms:List Nat} {fO:World->Prop} {zA:Value} {below fb pb bb ab:Nat} (h:pX w0 Ms fO zA below fb pb bb ab W) (hB:Below W.heap.size W W'):pX w0 Ms fO zA below fb pb bb ab W':=
 h.table (Ext.aA hB) (h.good.kept _ _ h.cache fun m hm=>hB.block m (by have:=h.old m hm;have:=h.ext.size;omega))
def abl (w0:World) (Ms:List Nat) (fO:World->Prop) (zA:Value) (below fb pb bb ab:Nat) (r:Option (List Int)) (W:World) (e:Ending) (W':World):Prop:=
 (pX w0 Ms fO zA below fb pb bb ab W'/\Ext (fb::Ms) W W')/\((∃c,r=some c/\e= .returned (.bool true)/\ ∃sv,W'.heap[fb]? =some (.cells #[sv] 52 (0,0))/\aO W' sv c)∨(r=none/\e= .returned (.bool false)))
theorem pX.set {w0 W:World} {Ms:List Nat} {fO:World->Prop} {zA:Value} {below fb pb bb ab:Nat} (h:pX w0 Ms fO zA below fb pb bb ab W) (hd:fb≠pb/\fb≠bb/\fb≠ab) (o:Option Addr) (n c:Nat):pX w0 Ms fO zA below fb pb bb ab (W.setCell ⟨fb,0,none⟩ (.slice o n c)):=by
 have hn:=h.new
 have ho:=h.old
 obtain⟨o',n',c',hf⟩:=h.found
 exact⟨h.ext.set hn.1 _,h.good.kept _ _ h.cache (fun m hm=>dH _ _ _ _ (by have:=ho m hm;show m≠fb;omega)),⟨o,n,c,aI hf _⟩,
  (dH _ _ _ _ (by show pb≠fb;omega)).trans h.pass,(dH _ _ _ _ (by show bb≠fb;omega)).trans h.bound,(dH _ _ _ _ (by show ab≠fb;omega)).trans h.add,hn,ho,h.good⟩
theorem pX.not {w0 W:World} {Ms:List Nat} {fO:World->Prop} {zA:Value} {below fb pb bb ab:Nat} (h:pX w0 Ms fO zA below fb pb bb ab W): ∀x∈fb::Ms, ∀o n,W.cell? ⟨x,o,none⟩≠some (.int .i64 n):=by
 intro x hx o n hc
 obtain⟨o',n',c',hf⟩:=h.found
 rcases gZ.1 hx with rfl|hx
 ·simp only[World.cell?,hf] at hc
  cases o with
  |zero=>simp at hc
  |succ o=>simp at hc
 ·rw[h.good.none _ h.cache x hx o] at hc;cases hc
theorem aaV (below:Nat) (hbl:below<=500) (p:List Int->Bool) (Ms:List Nat) (fO:World->Prop) (w0:World) (pf:Nat) (qg lg:Array Value) (fb pb bb ab:Nat) (hd:fb≠pb/\fb≠bb/\fb≠ab)
 (eg: ∀args w,(callFunc pf args).run Tryz.prog w= .ok (.enter pf args) w)
 (vU: ∀l v W,(∀x∈l,0<=x/\x<(below:Int))->Ext Ms w0 W->fO W->aO W v l->Calls Tryz.prog pf (qg.push v++lg) W (fun e W'=>e= .returned (.bool (p l))/\fO W'/\Ext Ms W W')):
 ∀(m f:Nat) (l:List Int) (v:Value) (W:World),l.length+m<=900->f<=900->m<=900->(∀x∈l,0<=x/\x<(below:Int))->pX w0 Ms fO (.func (.func pf) qg lg) below fb pb bb ab W->aO W v l->
  Calls Tryz.prog 121 #[v,iv f,iv m,.pointer (some ⟨fb,0,none⟩),.pointer (some ⟨pb,0,none⟩),.pointer (some ⟨bb,0,none⟩),.pointer (some ⟨ab,0,none⟩)] W
   (abl w0 Ms fO (.func (.func pf) qg lg) below fb pb bb ab (((jM below m f).map (l++ ·)).find? p) W):=by
 intro m
 induction m with
 |zero=>
  intro f l v W h1 h2 h3 hlb hst hv
  have hres:((jM below 0 f).map (l++ ·)).find? p=if p l then some l else none:=by
   simp only[jM,List.map_cons,List.map_nil,List.append_nil,List.find?_cons,List.find?_nil]
   cases p l <;>rfl
  obtain⟨r,hr⟩: ∃r,((jM below 0 f).map (l++ ·)).find? p=r:=⟨_,rfl⟩
  rw[hr] at hres⊢
  have xH:=ae hres
  clear hr hres
  obtain⟨o,c,rfl⟩:=hv.open
  obtain⟨o',n',c',hf⟩:=hst.found
  have c1:=aB hf
  have c2:=aB hst.pass
  have hlt:=dI W _ c1
  have hfr:=bn hf 0
  have hS:=hst.set hd o l.length c
  have hv1:aO (W.setCell ⟨fb,0,none⟩ (.slice o l.length c)) (.slice o l.length c) l:=aO.uN hv ((mJ W ⟨fb,0,none⟩ _).more (Ms':=fb::Ms) (by simp)) hst.not
  have HC:=ae (vU l _ _ hlb hS.ext hS.cache hv1)
  have HS:=ae hst
  have Nc:=ae (ag hS hv1)
  have HF:=ae hf
  have hd1: ¬pb=fb:=fun e=>hd.1 e.symm
  have hd2:=hd.1
  clear vU hst hv hS hv1 hf
  go_enter Tryz.func121,Tryz.ntmps121
  go_wp2_with fail
  refine HC.o.mono ?_
  rintro e W' ⟨rfl,hcc,hE⟩
  have hS2:=Nc.o.1.table hE hcc
  have hn:=HS.o.new
  have ho:=HS.o.old
  have hfb:W'.heap[fb]? =some (.cells #[.slice o l.length c] 52 (0,0)):=(hE.block fb (by simpa [World.setCell] using hlt) (fun hm=>by have:=ho fb hm;omega)).trans (aI HF.o _)
  have hEE:Ext (fb::Ms) W W':=((mJ W ⟨fb,0,none⟩ (.slice o l.length c)).more (by simp)).trans (hE.more (fun x hx=>qZ _ hx))
  have hv2:aO W' (.slice o l.length c) l:=aO.uN Nc.o.2 (hE.more (Ms':=fb::Ms) (fun x hx=>qZ _ hx)) Nc.o.1.not
  have HR:=ae (ag hS2 (ag hfb (ag hEE hv2)))
  clear hcc hE hS2 hfb hEE hv2
  go_wp2_with fail
  go_returns
  refine⟨⟨HR.o.1,HR.o.2.2.1⟩,?_⟩
  have hre:=xH.o
  revert hre
  cases p l
  ·intro hre;exact .inr ⟨by simpa using hre,by simp⟩
  ·intro hre;exact .inl ⟨l,by simpa using hre,by simp,_,HR.o.2.1,HR.o.2.2.2⟩
 |succ m ih=>
  intro f l v W h1 h2 h3 hlb hst hv
  obtain⟨o,c,rfl⟩:=hv.open
  have hres:((jM below (m+1) f).map (l++ ·)).find? p=((List.range (below-m-f)).flatMap fun j=>(jM below m (f+j+1)).map ((l++[((f+j:Nat):Int)])++ ·)).find? p:=by
   conv=>lhs;unfold jM
   rw[List.map_flatMap]
   simp only[List.map_map]
   congr 2
   funext j
   apply List.map_congr_left
   intro x _
   simp
  rw[hres]
  clear hres
  obtain⟨r,hr⟩: ∃r,((List.range (below-m-f)).flatMap fun j=>(jM below m (f+j+1)).map ((l++[((f+j:Nat):Int)])++ ·)).find? p=r:=⟨_,rfl⟩
  rw[hr]
  have xH:=ae hr
  clear hr
  have hmm:(m:Int)+1<=900:=by omega
  have hm0:((m:Int)+1==0)=false:=by simp;omega
  have ake: ¬((m:Int)+1=0):=by omega
  rw[show(((m+1:Nat)):Int)=(m:Int)+1 from by omega]
  have HST:=ae hst
  have HV:=ae hv
  have HIH:=ae ih
  have HD:=ae hd
  have HLB:=ae hlb
  clear vU hst hv ih hd hlb
  go_enter Tryz.func121,Tryz.ntmps121
  go_wp2_with fail
  go_loopw [11] (fun i wr=> ∃q:Nat,f<=q/\q<=f+(below-m-f)/\i= .int .i64 q/\pX w0 Ms fO (.func (.func pf) qg lg) below fb pb bb ab wr/\Ext (fb::Ms) W wr/\
   (∀j,f+j<q->((jM below m (f+j+1)).map ((l++[((f+j:Nat):Int)])++ ·)).find? p=none)) (fun i _=>below+f+1-(intOf i).toNat)
  case atStart=>exact⟨f,ai _,by omega,rfl,HST.o,Ext.refl _ _,fun j hj=>by omega⟩
  case round=>
   obtain⟨q,hfq,hq,rfl,hst,hE,hno⟩:=hrel
   have hv:=aO.uN HV.o hE HST.o.not
   have d1:=aB hst.bound
   have d2:=aB hst.add
   have e1:=dI wr _ d1
   have e2:=dI wr _ d2
   have HS:=ae hst
   have HE:=ae hE
   have HN:=ae hno
   have HVV:=ae hv
   clear hst hE hno hv
   by_cases hlt:q<f+(below-m-f)
   ·have hqI:(q:Int)<=(below:Int)-((m:Int)+1):=by omega
    have hq9:(q:Int)<=500:=by omega
    go_wp2_with fail
    refine qB 10 [] (some 5) [(2,⟨fun _ v=> ∃o c,v= .slice o l.length c,fun _ _ _=>True⟩),(4,⟨fun _ v=> ∃b:Nat,v= .slice (some ⟨b,0,none⟩) 1 1,fun _ _ _=>True⟩),(5,⟨fun _ v=> ∃o c,v= .slice o (l.length+1) c,fun _ v W=>W.ownsRow wr.heap.size 3 1 v (l.length+1) (ah (l++[(q:Int)]))⟩)] (af1 wr.heap.size l.length l q) (by kernel_rfl) (by kernel_rfl) ?_
    simp only[zt]
    repeat (refine zd ?_;simp only[zp])
    refine kY _ (by rfl) (by rfl) (by exact⟨.slice none l.length 0,none,0,rfl⟩) (fun W1 hE hF hG=>?_) (fun _ _ _ _ _=>trivial) (fun v Wa Wb ho hE=>aC (Ms:=[]) ho hE (by simp)) (fun v hv=>?_)
    ·have hE':uI wr.heap.size [] wr W1:=hE
     refine dE 91 #[.slice o l.length c] (by go_simp;try rfl) ?_
     refine(clone_any l _ W1 (HVV.o.below (qo hE' (ai _)) (ai _)) (by omega)).mono ?_
     rintro e W2 ⟨v,rfl,ho,hb⟩
     refine⟨v,rfl,aW ho,trivial,Ext.aA hb,df ho hE'.size⟩
    obtain⟨o2,c2,rfl⟩:=hv
    simp only[zp]
    repeat (refine zd ?_;simp only[zp])
    refine kY _ (by rfl) (by rfl) (by exact⟨.slice (some ⟨0,0,none⟩) 1 1,0,rfl⟩) (fun W1 hE hF hG=>?_) (fun _ _ _ _ _=>trivial) (fun v Wa Wb ho hE=>?_) (fun v hv=>?_)
    ·refine jm (W':=W1.alloc (.cells #[iv q] 3)) (.slice (some ⟨W1.heap.size,0,none⟩) 1 1) (by go_simp;try rfl) ⟨⟨_,rfl⟩,trivial,Ext.aA ((aH _ _).alloc (ai _) _),_,rfl,heap_alloc_new _ _⟩
    ·obtain⟨b,hb,hc⟩:=ho
     exact⟨b,hb,(hE.block b (aS.1 hc).1 (by simp)).trans hc⟩
    obtain⟨b4,rfl⟩:=hv
    simp only[zp]
    refine kY _ (by rfl) (by rfl) (by exact⟨.slice none (l.length+1) 0,none,0,rfl⟩) (fun W1 hE hF hG=>?_) (fun v Wa Wb ho hE=>aC (Ms:=[]) ho hE (by simp)) (fun _ _ _ _ _=>trivial) (fun v hv=>?_)
    ·obtain⟨b,hb,hc⟩:=hG rfl _ (bF _) (by kernel_rfl)
     cases hb
     have ho:W1.ownsRow wr.heap.size 3 1 (.slice o2 l.length c2) l.length (ah l):=hG rfl _ (nJ _ (bF _)) (by kernel_rfl)
     have hE':Ext [] wr W1:=hE
     have hsrc:aN 1 W1 (.slice (some ⟨b4,0,none⟩) 1 1) 1 (ah [(q:Int)]):=aN.dB 1 1 hc rfl (by decide)
     refine Does.mono (yG sK (by rfl) (by rfl) ho (by rfl) hsrc (jL _) (by omega) (by omega) hE'.size) ?_
     rintro v W2 ⟨hown,hgr⟩
     rw[<-uY] at hown
     obtain⟨o5,c5,rfl⟩:=aW hown
     exact⟨⟨o5,c5,rfl⟩,hown,Hm ho hgr,trivial⟩
    obtain⟨o5,c5,rfl⟩:=hv
    simp only[zp]
    repeat (refine zn ?_;simp only[zp])
    intro W1 hE1 hF
    have hE':uI wr.heap.size [] wr W1:=hE1
    have hB:=qo hE' (ai _)
    obtain⟨hc,hf⟩:=bK hB
    have ho:W1.ownsRow wr.heap.size 3 1 (.slice o5 (l.length+1) c5) (l.length+1) (ah (l++[(q:Int)])):=hF _ (bF _)
    have vg:aO W1 (.slice o5 (l.length+1) c5) (l++[(q:Int)]):=by
     have:=aN.dU ho
     unfold aO
     rw[dm]
     exact this
    have hcall:=HIH.o (q+1) (l++[(q:Int)]) _ W1 (by simp;omega) (by omega) (by omega) (fun x hx=>by rcases iP.1 hx with h|h;exact HLB.o x h;(obtain rfl:x=(q:Int):=by simpa using h);omega) (HS.o.below hB) vg
    rw[show(((q+1:Nat)):Int)=(q:Int)+1 from by omega] at hcall
    have HC:=ae hcall
    have HB:=ae hB
    clear hcall vg ho hB hE' hE1 hF
    go_wp2_with fail
    refine HC.o.mono ?_
    rintro e W2 ⟨⟨hS2,hE2⟩,hres⟩
    have HS2:=ae hS2
    have HEE:=ae ((HE.o.trans (Ext.aA HB.o)).trans hE2)
    clear hS2 hE2 hc hf d1 d2
    have hq1:f+(q-f)=q:=by omega
    rcases hres with⟨cc,hcc,rfl,sv,hsv,vg⟩|⟨hnone,rfl⟩
    ·have HR:=ae (ag hcc (ag hsv vg))
     clear hcc hsv vg
     go_wp2_with fail
     go_returns
     refine⟨⟨HS2.o,HEE.o⟩,.inl ⟨cc,?_,by simp,sv,HR.o.2⟩⟩
     rw[<-xH.o]
     refine qW p _ _ (q-f) (by simp;omega) cc (fun j hj=>?_) ?_
     ·simp only[List.getElem_range]
      exact HN.o j (by omega)
     ·simp only[List.getElem_range,hq1]
      exact HR.o.1
    ·have HR:=ae hnone
     clear hnone
     go_wp2_with fail
     go_roundw
     case rel=>
      refine⟨q+1,by omega,by omega,by go_num,HS2.o,HEE.o,fun j hj=>?_⟩
      by_cases hjq:f+j=q
      ·rw[hjq];exact HR.o
      ·exact HN.o j (by omega)
     case measure=>simp[intOf];omega
   ·have hqI: ¬((q:Int)<=(below:Int)-((m:Int)+1)):=by omega
    go_wp2_with fail
    go_returns
    refine⟨⟨HS.o,HE.o⟩,.inr ⟨?_,by simp⟩⟩
    rw[<-xH.o]
    exact tY p _ _ (fun j hj=>by
     simp only[List.length_range] at hj
     simp only[List.getElem_range]
     exact HN.o j (by omega))
def acO (Ms:List Nat) (fO:World->Prop) (r:Option (List Int)) (w:World) (e:Ending) (W':World):Prop:=
 (fO W'/\Ext Ms w W')/\((∃c v,r=some c/\e= .returned v/\aO W' v c)∨(r=none/\ ∃o n c,e= .returned (.slice o n c)))
theorem pX.fin {w0 W:World} {Ms:List Nat} {fO:World->Prop} {zA:Value} {below fb pb bb ab:Nat} (h:pX w0 Ms fO zA below fb pb bb ab W):fO W/\Ext Ms w0 W:=⟨h.cache,h.ext⟩
theorem IV (below:Nat) (hbl:below<=500) (p:List Int->Bool) (Ms:List Nat) (fO:World->Prop) (hG:abf Ms fO) (w:World) (hcc:fO w) (hmb: ∀m∈Ms,m<w.heap.size) (pf:Nat) (qg lg:Array Value)
 (eg: ∀args w,(callFunc pf args).run Tryz.prog w= .ok (.enter pf args) w)
 (vU: ∀l v W,(∀x∈l,0<=x/\x<(below:Int))->Ext Ms w W->fO W->aO W v l->Calls Tryz.prog pf (qg.push v++lg) W (fun e W'=>e= .returned (.bool (p l))/\fO W'/\Ext Ms W W')):
 Calls Tryz.prog 71 #[iv below,.func (.func pf) qg lg] w (acO Ms fO (nG below p) w):=by
 have HA:=ae (fun(m:Nat) (W:World) (hm:m<=501) (hst:pX w Ms fO (.func (.func pf) qg lg) below (w.heap.size+1+1) (w.heap.size+1) w.heap.size (w.heap.size+1+1+1) W)=>
  aaV below hbl p Ms fO w pf qg lg (w.heap.size+1+1) (w.heap.size+1) w.heap.size (w.heap.size+1+1+1) (by omega) eg vU m 0 [] (.slice none 0 0) W (by simp;omega) (by omega) (by omega) (by simp) hst (qK W))
 obtain⟨r,hr⟩: ∃r,nG below p=r:=⟨_,rfl⟩
 rw[hr]
 have HR:=ae hr
 have HCC:=ae hcc
 clear vU eg hcc hr
 go_enter Tryz.func71,Tryz.ntmps71
 go_wp2_with fail
 go_step3
 go_wp2_with fail
 go_step3
 go_wp2_with fail
 obtain⟨w4,hw4⟩: ∃w4,((((w.alloc (.cells #[iv below] 3)).alloc (.cells #[.func (.func pf) qg lg] 163)).alloc (.cells #[.slice none 0 0] 52)).alloc
  (.cells #[.func (.func 121) #[] #[.pointer (some ⟨w.heap.size+1+1,0,none⟩),.pointer (some ⟨w.heap.size+1,0,none⟩),.pointer (some ⟨w.heap.size,0,none⟩),.pointer (some ⟨w.heap.size+1+1+1,0,none⟩)]] 252))=w4:=⟨_,rfl⟩
 have ZE:pX w Ms fO (.func (.func pf) qg lg) below (w.heap.size+1+1) (w.heap.size+1) w.heap.size (w.heap.size+1+1+1) w4:=by
  have hB:Below w.heap.size w w4:=by rw[<-hw4];exact zl
  refine⟨Ext.aA hB,hG.kept _ _ HCC.o (fun m hm=>hB.block m (hmb m hm)),⟨none,0,0,?_⟩,?_,?_,?_,by omega,hmb,hG⟩
  ·rw[<-hw4];exact(aV _ _ _ (by simp)).trans (iq _ _ _ _)
  ·rw[<-hw4];exact(aV _ _ _ (by simp)).trans ((aV _ _ _ (by simp)).trans (dV _ _ _))
  ·rw[<-hw4];exact(aV _ _ _ (by simp;omega)).trans ((aV _ _ _ (by simp;omega)).trans ((aV _ _ _ (by simp)).trans (ay _ _)))
  ·rw[<-hw4];have:=ay (((w.alloc (.cells #[iv below] 3)).alloc (.cells #[.func (.func pf) qg lg] 163)).alloc (.cells #[.slice none 0 0] 52)) (.cells #[.func (.func 121) #[] #[.pointer (some ⟨w.heap.size+1+1,0,none⟩),.pointer (some ⟨w.heap.size+1,0,none⟩),.pointer (some ⟨w.heap.size,0,none⟩),.pointer (some ⟨w.heap.size+1+1+1,0,none⟩)]] 252);simpa using this
 rw[hw4]
 have HS0:=ae ZE
 clear ZE hw4
 go_loopw [10] (fun i wr=> ∃k:Nat,k<=below+1/\i= .int .i64 k/\pX w Ms fO (.func (.func pf) qg lg) below (w.heap.size+1+1) (w.heap.size+1) w.heap.size (w.heap.size+1+1+1) wr/\
  (∀j,j<k->(jM below j 0).find? p=none)) (fun i _=>below+1-(intOf i).toNat)
 case atStart=>exact⟨0,bQ _,rfl,HS0.o,fun j hj=>by omega⟩
 case round=>
  obtain⟨k,hk,rfl,hst,hno⟩:=hrel
  have d2:=aB hst.add
  have e2:=dI wr _ d2
  have HS:=ae hst
  have HN:=ae hno
  clear hst hno
  by_cases hlt:k<below+1
  ·have hkI:(k:Int)<(below:Int)+1:=by omega
   have HC:=ae (HA.o k wr (by omega) HS.o)
   go_wp2_with fail
   refine HC.o.mono ?_
   rintro e W2 ⟨⟨hS2,_⟩,hres⟩
   have HS2:=ae hS2
   rcases hres with⟨cc,hcc,rfl,sv,hsv,vg⟩|⟨hnone,rfl⟩
   ·have hr:r=some cc:=by
     rw[<-HR.o]
     exact JD (by omega) HN.o (by simpa using hcc)
    obtain⟨so,sc,rfl⟩:=vg.open
    have f1:=aB hsv
    have f2:=bn hsv 0
    have f3:=dI W2 _ f1
    have HX:=ae (ag hr (ag hsv vg))
    clear hr hsv vg hS2 hcc d2
    go_wp2_with fail
    (try rw[Exit.noGoto_ret])
    have hcell:(W2.setCell ⟨w.heap.size+1+1,0,none⟩ (.slice so cc.length sc)).cell? ⟨w.heap.size+1+1,0,none⟩=some (.slice so cc.length sc):=aB (aI HX.o.2.1 _)
    refine bodyPost_ret (v:= .slice so cc.length sc) (by simp[results,Tryz.results71,go_sem,hcell]) rfl ?_
    refine⟨(HS2.o.set (by omega) so cc.length sc).fin,.inl ⟨cc,_,HX.o.1,rfl,?_⟩⟩
    exact aO.uN HX.o.2.2 ((mJ W2 ⟨w.heap.size+1+1,0,none⟩ _).more (Ms':=(w.heap.size+1+1)::Ms) (by simp)) HS2.o.not
   ·have HX:=ae hnone
    clear hnone hS2 d2
    go_wp2_with fail
    go_roundw
    case rel=>
     refine⟨k+1,by omega,by go_num,HS2.o,fun j hj=>?_⟩
     by_cases hjq:j=k
     ·subst hjq;simpa using HX.o
     ·exact HN.o j (by omega)
    case measure=>simp[intOf];omega
  ·have hkI: ¬((k:Int)<(below:Int)+1):=by omega
   obtain⟨o',n',c',hf⟩:=HS.o.found
   have f1:=aB hf
   have f2:=bn hf 0
   have f3:=dI wr _ f1
   have hk1:k=below+1:=by omega
   subst hk1
   have hr:r=none:=by
    rw[<-HR.o]
    exact JC HN.o
   go_wp2_with fail
   (try rw[Exit.noGoto_ret])
   have hcell:(wr.setCell ⟨w.heap.size+1+1,0,none⟩ (.slice o' n' c')).cell? ⟨w.heap.size+1+1,0,none⟩=some (.slice o' n' c'):=aB (aI hf _)
   refine bodyPost_ret (v:= .slice o' n' c') (by simp[results,Tryz.results71,go_sem,hcell]) rfl ?_
   exact⟨(HS.o.set (by omega) o' n' c').fin,.inr ⟨rfl,_,_,_,rfl⟩⟩
end Go.Proofs.YthllkbbbapgelaaGreatDoor
end
section
namespace Go.Proofs.YthllkbbbapgelaaGreatDoor
open Go.RowKit Go.RG Go.SL Go.Shelf jy Go.TB
theorem He (r x:dR) (w:World):Calls Tryz.prog 206 #[rv r,rv x] w (PV (rv (xK r x)) w):=by
 go_enter Tryz.func206,Tryz.ntmps206
 go_wp2_with fail
 refine zg 12 [] none [(4,Spec.slice (w.heap.size+3) #[iv r.1,iv x.1] 3 2),(5,Spec.val (iv (min r.1 x.1)))] ?_
 simp only[zt]
 repeat (refine zd ?_;simp only[zp])
 refine dY (w.heap.size+3) _ _ _ (by rfl) (by simp) (by rfl) (by simp) (by simp) (fun W hW=>by go_simp;try rfl) (fun b=>?_)
 simp only[zp]
 refine eF _ (by rfl) (by rfl) 272 _ (fun W hW=>by go_simp;try rfl) (fun W hE hF=>?_) ?_
 ·obtain⟨c,hcb,hB,hc⟩:=hF _ (bF _) (by kernel_rfl)
  cases hcb
  exact BD r.1 x.1 b 2 W (by simp[World.cell?,hc]) (by simp[World.cell?,hc])
 simp only[zp]
 repeat (refine zd ?_;simp only[zp])
 intro W hE hF
 obtain⟨hc,hf⟩:=bK hE.below
 have hzE:=hE.size
 (try simp only[bu] at hzE)
 go_wp2
 all_goals
  (try simp only[Exit.inBlock,Exit.then])
  refine bodyPost_ret (v:=rv (min r.1 x.1,max r.2 x.2)) (by simp[results,Tryz.results206,go_sem,hc];try omega) rfl ?_
  exact⟨rfl,ze⟩
abbrev acv (d:Int) (r:dR):Value:= .agg #[iv d,iv r.1,iv r.2]
theorem Og (d:Int) (r:dR) (w:World) (h:(0<=d/\d<=350)/\0<=r.1/\r.1<=r.2/\r.2<=2000):Calls Tryz.prog 73 #[acv d r] w (PV (rv (oL d r)) w):=by
 obtain⟨p,q⟩:=r
 have h1: -10000<=d-q/\d-q<=10000:=by simp only at h;omega
 have h2: -10000<=d-p/\d-p<=10000:=by simp only at h;omega
 clear h
 go_enter Tryz.func73,Tryz.ntmps73
 go_wp2_with fail
 go_returns
 exact⟨by simp[oL],zl⟩
def gQ (l:aQ) (fine:Bool):Int:=if iO l≠0 then iO l else if fine=false then 2 else if gq l []=false then 11 else 0
def Ya (l:aQ) (fine:Bool) (tv nv:Value) (w:World) (e:Ending) (w':World):Prop:=
 Below w.heap.size w w'/\((gQ l fine≠0/\e= .returned (.tuple #[.pointer none,iv (gQ l fine)]))∨
  (gQ l fine=0/\ ∃(wb mb:Nat) (v:Value),e= .returned (.tuple #[.pointer (some ⟨wb,0,none⟩),iv 0])/\w.heap.size<=wb/\w.heap.size<=mb/\Iq w' wb mb l tv nv v []))
theorem ES {l:aQ} {fine:Bool} (h:gQ l fine=0):pW l/\iO l=0/\fine=true/\gq l []=true:=by
 unfold gQ at h
 split at h
 ·rename_i h0;exact absurd h h0
 ·rename_i h0
  have h0:iO l=0:=by omega
  split at h
  ·omega
  ·rename_i h1
   split at h
   ·omega
   ·rename_i h2
    exact⟨(pM h0).1,h0,by simpa using h1,by simpa using h2⟩
theorem wu (l:aQ) (tv nv:Value) (fine:Bool) (w:World) (ht:dW w tv l.field.ax) (hn:bJ w nv l.notes):
 Calls Tryz.prog 126 #[lv l tv nv,.bool fine] w (Ya l fine tv nv w):=by
 have HC:=ae (yH l tv nv (w.alloc (.cells (lh l tv nv) 49)) (ht.alloc _) (hn.alloc _))
 clear ht hn
 obtain⟨q,hq⟩: ∃q,iO l=q:=⟨_,rfl⟩
 by_cases hq0:q=0
 case neg=>
  have HF:Hid (gQ l fine=q/\q≠0):=ae ⟨by unfold gQ;rw[hq,aF hq0],hq0⟩
  have hqb:(q !=0)=true:=by simpa using hq0
  have HQ:=ae hq
  clear hq hq0
  go_enter Tryz.func126,Tryz.ntmps126
  go_wp2_with fail
  refine HC.o.mono ?_
  rintro e w1 ⟨hb,⟨hne,rfl⟩|⟨h0,_⟩⟩
  ·rw[HQ.o]
   have HB:=ae (show Below w.heap.size w w1 from zl)
   clear hb hne
   go_wp2_with fail
   go_returns
   exact⟨HB.o,.inl ⟨by rw[HF.o.1];exact HF.o.2,by rw[HF.o.1];simp⟩⟩
  ·exact absurd (HQ.o.symm.trans h0) HF.o.2
 subst hq0
 obtain⟨hS,_⟩:=pM hq
 have HS:=ae hS
 have HQ:=ae hq
 cases fine
 ·have HF:Hid (gQ l false=2):=ae (by unfold gQ;rw[hq];rfl)
  clear hq hS
  go_enter Tryz.func126,Tryz.ntmps126
  go_wp2_with fail
  refine HC.o.mono ?_
  rintro e w1 ⟨hb,⟨hne,_⟩|⟨_,wb,mb,v,rfl,hwb,hmb,hok⟩⟩
  ·exact absurd HQ.o hne
  have HB:=ae (show Below w.heap.size w w1 from zl)
  clear hb hok
  go_wp2_with fail
  go_returns
  exact⟨HB.o,.inl ⟨by rw[HF.o];simp,by rw[HF.o];simp⟩⟩
 obtain⟨r,hr⟩: ∃r,gq l []=r:=⟨_,rfl⟩
 have HF:Hid (gQ l true=if r=false then 11 else 0):=ae (by unfold gQ;rw[hq,hr];simp)
 have HR:=ae hr
 clear hq hS hr
 go_enter Tryz.func126,Tryz.ntmps126
 go_wp2_with fail
 refine HC.o.mono ?_
 rintro e w1 ⟨hb,⟨hne,_⟩|⟨_,wb,mb,v,rfl,hwb,hmb,hok⟩⟩
 ·exact absurd HQ.o hne
 have HP:=ae (HR.o▸pz HS.o [] hok (aN.nil 1 w1))
 have hsz:=bu w (.cells (lh l tv nv) 49)
 have ajP:w.heap.size<=wb:=by omega
 have WO:w.heap.size<=mb:=by omega
 have HB:=ae (show Below w.heap.size w w1 from zl)
 clear hb hok hwb hmb hsz
 go_wp2_with fail
 refine HP.o.mono ?_
 rintro e w2 ⟨rfl,hkn,hE⟩
 have HX:=ae (ag (ik HB.o hE WO) hkn)
 clear hkn hE
 cases r
 ·have KO:=ae HF.o
  go_wp2_with fail
  go_returns
  exact⟨HX.o.1,.inl ⟨by rw[KO.o];simp,by rw[KO.o];simp⟩⟩
 ·have KO:=ae HF.o
  go_wp2_with fail
  go_returns
  exact⟨HX.o.1,.inr ⟨by rw[KO.o];rfl,wb,mb,v,by simp,ajP,WO,HX.o.2⟩⟩
end Go.Proofs.YthllkbbbapgelaaGreatDoor
namespace Go.Proofs.YthllkbbbapgelaaGreatDoor
open Go.RowKit Go.RG Go.SL Go.Shelf jy Go.TB
theorem Oc {l:aQ} (hS:pW l) {d:List Int} (hd:d∈gm l) (hc:jC l [] d=true) {i:Nat} (hi:i<l.field.aK.toNat):
 0<=((kT l [] d).getD i (0,0)).1/\((kT l [] d).getD i (0,0)).1<=((kT l [] d).getD i (0,0)).2/\((kT l [] d).getD i (0,0)).2<=2000:=by
 have h1:=Ro hi (by have:=hS.box;omega) hc
 have hF:=iH hS.field
 have:=hF.xm
 have hb:=Hr hS hd i (by omega)
 have hk:=OC hS [] i hb.1 (by omega)
 rw[JQ l [] d hi] at h1⊢
 unfold ug at h1⊢
 simp only at h1⊢
 omega
theorem AA {l:aQ} (hS:pW l) {tv nv v:Value} {wb mb:Nat} (bg:Nat) (p:Int->dR->dR) (w:World) (hw:Iq w wb mb l tv nv v [])
 (eg: ∀args w,(callFunc bg args).run Tryz.prog w= .ok (.enter bg args) w)
 (hp: ∀(d:Int) (r:dR) (W:World),(0<=d/\d<=350)/\0<=r.1/\r.1<=r.2/\r.2<=2000->Calls Tryz.prog bg #[acv d r] W (PV (rv (p d r)) W)):
 Calls Tryz.prog 127 #[.agg #[.func (.func bg) #[] #[]],.pointer (some ⟨wb,0,none⟩)] w (fun e w'=> ∃u,e= .returned u/\w'.ownsRow w.heap.size 46 2 u (BQ p l (gm l)).length (aG (BQ p l (gm l)))/\Below w.heap.size w w'):=by
 obtain⟨vo,vc,rfl⟩:=hw.work.truth.open
 have hF:=iH hS.field
 have hlen:(gm l).length<=2500:=iW (Aw l _) (lZ hF [])
 have hw0:=hF.zK
 have hw3:=hF.xm
 obtain⟨n,hn⟩: ∃n:Nat,l.field.aK.toNat=n:=⟨_,rfl⟩
 have hn1:1<=n:=by omega
 have hn3:n<=3:=by omega
 have HN:=ae hn
 have HS:=ae hS
 have HP:=ae hp
 obtain⟨W1,hW1⟩: ∃W1,w.alloc (.cells #[.func (.func bg) #[] #[]] 169)=W1:=⟨_,rfl⟩
 have hB1:Below w.heap.size w W1:=by rw[<-hW1];exact aj (aH _ _) _
 have hk1:W1.heap[w.heap.size]? =some (.cells #[.func (.func bg) #[] #[]] 169 (0,0)):=by rw[<-hW1];exact ay _ _
 have ab4:=hw.below hB1 (ai _)
 have aec:wb<W1.heap.size:=ab4.work.lt
 have agi:w.heap.size<W1.heap.size:=(aS.1 hk1).1
 have H1:=ae (ag hB1 (ag hk1 ab4))
 obtain⟨ds,hds⟩: ∃ds,gm l=ds:=⟨_,rfl⟩
 have hck:=ab4.work.cells
 rw[hds] at hck hlen⊢
 obtain⟨c1,f1,l1⟩:=af hck
 have HDS:=ae hds
 clear hw hF hw0 hw3 hn hp hS hB1 hk1 ab4 hds hck
 go_enter Tryz.func127,Tryz.ntmps127
 go_wp2_with fail
 (try rw[hW1])
 clear hW1
 go_loopw [5,18] (fun v5 u wr=> ∃k:Nat,k<=ds.length/\u= .int .i64 k/\(∃oo oc,v5= .slice oo (lX p l k ds).length oc/\wr.ownsRow W1.heap.size 46 2 (.slice oo (lX p l k ds).length oc) (lX p l k ds).length (aG (lX p l k ds)))/\Below W1.heap.size W1 wr) (fun _ u _=>ds.length-(intOf u).toNat)
 case atStart=>exact⟨0,bQ _,rfl,⟨none,0,rfl,⟨rfl,.inl ⟨rfl,rfl⟩⟩⟩,aH _ _⟩
 case round=>
  obtain⟨k,hk,rfl,⟨oo,oc,rfl,how⟩,hB⟩:=hrel
  by_cases hlt:k<ds.length
  ·have hkn:=H1.o.2.2.below hB (ai _)
   have hk1:=(hB.block _ agi).trans H1.o.2.1
   have htr:=hkn.work.truth
   rw[HDS.o] at htr
   obtain⟨b,off,y0,y1,y2,rfl,hbl,hys,hc0,hc1,hc2⟩:=Du htr (by rw[<-HDS.o];exact qM l) hlt
   have hacc:=KD p l ds k hk
   rw[HN.o] at hacc
   have hsu:=AB p l hlt
   have hdm:ds[k]∈gm l:=by rw[HDS.o];exact dh _
   obtain⟨d,hd⟩: ∃d,ds[k]=d:=⟨_,rfl⟩
   rw[hd] at hsu hdm hys
   obtain⟨acc,hac⟩: ∃acc,lX p l k ds=acc:=⟨_,rfl⟩
   rw[hac] at how hacc hsu
   rw[hac]
   have agT:(k:Int)<ds.length:=by omega
   have HD:=ae (ag hys hdm)
   have xw:=ae hsu
   have HAC:=ae hacc
   have HX:=ae (ag how (ag hB (ag hkn hk1)))
   have hsz:=hB.size
   obtain⟨s3,hs3⟩: ∃s3,wr.heap.size=s3:=⟨_,rfl⟩
   clear how hB hkn hk1 htr hsu hys hdm hd hac hacc hk
   go_upto_region 5 with(fail)
   refine dN fun W5 yx=>?_
   have vV:Below wr.heap.size wr W5:=by rw[yx];exact zl
   have hk5:W5.heap[wr.heap.size]? =some (.cells #[iv y0,iv y1,iv y2] 257 (0,0)):=by rw[yx];exact ay _ _
   have ag1:=HX.o.2.2.1.below vV (ai _)
   have hag:lY d= .agg #[iv y0,iv y1,iv y2]:=by rw[HD.o.1];rfl
   have HPA:=ae (hag▸UF HS.o HD.o.2 ag1)
   have h51:=(vV.block _ (by omega)).trans HX.o.2.2.2
   have Dn:=aY HX.o.2.1 vV
   have ZG:W5.ownsRow W1.heap.size 46 2 (.slice oo acc.length oc) acc.length (aG acc):=dn HX.o.1 fun g hg=>vV.block g (bD HX.o.1 g hg).2
   have hog: ∀g,(Value.slice oo acc.length oc).ownBlock=some g->g<s3:=fun g hg=>by rw[<-hs3];exact(bD HX.o.1 g hg).2
   rw[hs3] at hk5
   have an8:s3<W5.heap.size:=(aS.1 hk5).1
   have aoa:W1.heap.size<=s3:=by omega
   have H5:=ae (ag ZG (ag Dn (ag hk5 (ag h51 hog))))
   obtain⟨c5,f5,l5⟩:=af hk5
   clear yx vV hk5 ag1 h51 Dn ZG hog hs3 hsz hc0 hc1 hc2 hbl HX hag
   go_wp2_with fail
   refine HPA.o.mono ?_
   rintro e W6 ⟨hb,hcase⟩
   obtain⟨is,ps,pv,rfl,hpo,his,hps⟩: ∃(is:Bool) (ps:List dR) (pv:Value),e= .returned (.tuple #[pv,.bool is])/\W6.ownsRow W5.heap.size 46 2 pv ps.length (aG ps)/\jC l [] d=is/\ps=if is=true then kT l [] d else[]:=by
    rcases hcase with⟨hc,u,rfl,hu⟩|⟨hc,rfl⟩
    ·exact⟨true,kT l [] d,u,rfl,hu,hc,by simp⟩
    ·exact⟨false,[],.slice none 0 0,rfl,⟨rfl,.inl ⟨rfl,rfl⟩⟩,hc,by simp⟩
   obtain⟨po,pc,rfl⟩:=aW hpo
   obtain⟨ns,hns⟩: ∃ns:List dR,(if is=true then rE p l d else[])=ns:=⟨_,rfl⟩
   have hnl:ns.length=ps.length:=by rw[<-hns,hps];cases is <;>simp[oQ,JP]
   have hpl:ps.length=if is=true then n else 0:=by rw[hps];cases is <;>simp[JP,HN.o]
   have hstep:lX p l (k+1) ds=kL acc ns ns.length:=by
    rw[xw.o]
    unfold uS
    rw[his, <-hns]
    cases is
    ·simp[wZ]
    ·rw[aF rfl,aF rfl,XH (by rw[oQ,HN.o];exact HAC.o)]
   have h66:=(hb.block _ (show s3<W5.heap.size by omega)).trans H5.o.2.2.1
   have h61:=(hb.block _ (show w.heap.size<W5.heap.size by omega)).trans H5.o.2.2.2.1
   have agG:W6.ownsRow W1.heap.size 46 2 (.slice oo acc.length oc) acc.length (aG acc):=dn H5.o.1 fun g hg=>hb.block g (by have:=H5.o.2.2.2.2 g hg;omega)
   have ajY:=hb.size
   have H6:=ae (ag agG (ag (aY H5.o.2.1 hb) (ag h66 (ag h61 hpo))))
   have HIS:=ae (ag his (ag hps hns))
   have HNL:=ae (ag hnl hpl)
   have HST:=ae hstep
   have hp3:ps.length<=3:=by rw[hpl];split <;>omega
   have amj:=ae ajY
   clear hb hcase hpo his hps hns hnl hpl hstep h66 h61 agG c5 f5 l5
   go_wp2_with fail
   go_loopw [5,30] (fun v5 u wq=> ∃i:Nat,i<=ps.length/\u= .int .i64 i/\(∃oo oc,v5= .slice oo (kL acc ns i).length oc/\wq.ownsRow W1.heap.size 46 2 (.slice oo (kL acc ns i).length oc) (kL acc ns i).length (aG (kL acc ns i))/\(∀g,(Value.slice oo (kL acc ns i).length oc).ownBlock=some g->g<s3∨W6.heap.size<=g))/\Below W1.heap.size W1 wq/\
    (∀b,s3<=b->b<W6.heap.size->wq.heap[b]? =W6.heap[b]?)/\W6.heap.size<=wq.heap.size) (fun _ u _=>ps.length-(intOf u).toNat)
   case atStart=>
    refine⟨0,bQ _,rfl,⟨oo,oc,by rw[wZ],?_,?_⟩,H6.o.2.1,fun b _ _=>rfl,ai _⟩
    ·rw[wZ];exact H6.o.1
    ·rw[wZ];exact fun g hg=> .inl (H5.o.2.2.2.2 g hg)
   case round=>
    obtain⟨i,hi,rfl,⟨oo2,JV,rfl,how,hog⟩,Nl,hkeep,aee⟩:=hrel
    by_cases hlt2:i<ps.length
    ·have hist:is=true:=by
      have:=HNL.o.2
      cases is
      ·rw[ak (by simp)] at this;omega
      ·rfl
     have hin:i<n:=by have:=HNL.o.2;rw[hist] at this;simp at this;omega
     have hpv:=aN.dU (dn (w':=wr) H6.o.2.2.2.2 fun g hg=>hkeep g (by have:=(bD H6.o.2.2.2.2 g hg).1;omega) (bD H6.o.2.2.2.2 g hg).2)
     obtain⟨gp,po',hvp,hgp,q0,q1⟩:=bT.cell hpv hlt2
     subst hvp
     have hk6:=(hkeep s3 (ai _) (by omega)).trans H6.o.2.2.1
     have hcell:=gG (show wr.heap[s3]? =some (.cells (ah d).toArray 257 (0,0)) by rw[HD.o.1];exact hk6) (show i<d.length by rw[HD.o.1];simp;omega)
     have hd3:i<d.length:=by rw[HD.o.1];simp;omega
     have hgd:d.getD i 0=d[i]:=by simp[List.getD,hd3]
     have hdb:=Hr HS.o HD.o.2 i (by omega)
     have hiw:i<l.field.aK.toNat:=by rw[HN.o];exact hin
     have hpd:=Oc HS.o HD.o.2 (HIS.o.1.trans hist) hiw
     have hpe:ps[i]=(kT l [] d).getD i (0,0):=by
      have h1:=HIS.o.2.1
      rw[hist,aF rfl] at h1
      subst h1
      simp[List.getD,hlt2]
     have hin2:i<ns.length:=by rw[HNL.o.1];exact hlt2
     have hne:ns[i]=p (d[i]) ps[i]:=by
      have h1:=HIS.o.2.2
      rw[hist,aF rfl] at h1
      subst h1
      rw[JY,hpe,hgd]
     rw[<-hpe] at hpd
     rw[hgd] at hdb
     have h1w:=(Nl.block _ agi).trans H1.o.2.1
     have hlenA:=XG (acc:=acc) (mW:=ns) (i:=i) (by
      have h1:=HAC.o
      have h2:=HNL.o
      rw[hist] at h2
      simp at h2
      rcases h1 with h|h
      ·exact .inl h
      ·exact .inr (by omega)) (by omega)
     have hold:=fun(ha:acc≠[]) (h:acc.length=ns.length)=>XE ha h hin2
     generalize hyi:d[i]'hd3=y at*
     generalize Et:ps[i]=r at*
     generalize hxi:ns[i]=x at*
     have HPF:=ae (hne▸HP.o y r)
     have HHP:=ae (ag hpd hdb)
     have HOLD:=ae (ag hold hxi)
     have HLA:=ae hlenA
     have HX:=ae (ag how (ag hog (ag Nl (ag hkeep aee))))
     have Fb:(i:Int)<ps.length:=by omega
     have hi3:i<3:=by omega
     have ahd:(i:Int)<3:=by omega
     obtain⟨e1,e2,e3⟩:=af h1w
     have HW1:=ae h1w
     have ajZ:s3<wr.heap.size:=by omega
     clear how hog Nl hkeep aee hpv hk6 hgd hdb hpd hpe hne h1w hlenA hold hyi Et hxi hd3 hiw
     cases hist
     go_upto_region 9 with(fail)
     refine dN fun W9 Md=>?_
     have hB9:Below wr.heap.size wr W9:=by rw[Md];exact zl
     have hk9:W9.heap[wr.heap.size]? =some (.cells #[iv r.1,iv r.2] 46 (0,0)):=by rw[Md];exact ay _ _
     have hc9:=(hB9.cell (p:=⟨s3,i,none⟩) ajZ).trans hcell
     obtain⟨i1,i2,i3⟩:=af ((hB9.block _ e3).trans HW1.o)
     have hs9:=hB9.size
     obtain⟨g1,g2,g3⟩:=af hk9
     have amg:s3<W9.heap.size:=by omega
     have qQ:=ae hB9
     clear Md hB9 hcell e1 e2 e3 q0 q1
     have D8:=ae hk9
     clear hk9
     refine zg 9 [] none [(7,Spec.val (rv x)),(8,Spec.block W9.heap.size #[iv 0,iv 0] 46)] ?_
     simp only[zt]
     repeat ((first|refine zn ?_|refine zk ?_);simp only[zp])
     refine eF _ (by rfl) (by rfl) bg #[acv y r] (fun W hW=>by go_simp;(try simp only[eg]);try rfl) (fun W hE hF=>by exact HPF.o W ⟨HHP.o.2,HHP.o.1⟩) ?_
     simp only[zp]
     refine jV W9.heap.size _ _ (by rfl) (ai _) (by rfl) (by simp) (by simp) (fun W hW=>by go_simp;try rfl) (fun b12=>?_)
     simp only[zp]
     repeat ((first|refine zn ?_|refine zk ?_);simp only[zp])
     intro WA hE hF
     have hE':Ext [] W9 WA:=hE
     obtain⟨c12,SI,ado,hk12⟩:=hF _ (bF _)
     cases SI
     obtain⟨x0,x1⟩:=x
     obtain⟨j1,j2,j3⟩:=af hk12
     have HEA:=ae hE'
     have HKA:=ae hk12
     clear hE hF hE' hk12 g1 g2 g3 i1 i2 i3 hc9
     go_upto_region 10 with(fail)
     refine dN fun WB hWB=>?_
     have ahQ:Below W9.heap.size W9 WB:=by rw[hWB];exact iF (iF HEA.o.below ado _) ado _
     have hkB:WB.heap[b12]? =some (.cells #[iv x0,iv x1] 46 (0,0)):=by rw[hWB];exact aI (aI HKA.o _) _
     have hBB:Below wr.heap.size wr WB:=aY qQ.o ahQ
     have ade:WB.ownsRow W1.heap.size 46 2 (.slice oo2 (kL acc ns i).length JV) (kL acc ns i).length (aG (kL acc ns i)):=dn HX.o.1 fun g hg=>hBB.block g (bD HX.o.1 g hg).2
     have ahO:=aY HX.o.2.2.1 hBB
     have ZV: ∀b,s3<=b->b<W6.heap.size->WB.heap[b]? =W6.heap[b]? :=fun b hb1 hb2=>(hBB.block b (by have:=HX.o.2.2.2.2;omega)).trans (HX.o.2.2.2.1 b hb1 hb2)
     have agv:W6.heap.size<=WB.heap.size:=iW HX.o.2.2.2.2 hBB.size
     have HB:=ae (ag ade (ag HX.o.2.1 (ag ahO (ag hkB (ag ZV agv)))))
     obtain⟨j1,j2,j3⟩:=af hkB
     clear hWB ahQ hBB ade ahO ZV agv HEA HKA
     have HLB:=ae HLA.o
     obtain⟨L,hL⟩: ∃L,kL acc ns i=L:=⟨_,rfl⟩
     have hgb: ∀g,(Value.slice oo2 (kL acc ns i).length JV).ownBlock=some g->g≠b12/\W1.heap.size<=g:=fun g hg=>by
      have h1:=bD HX.o.1 g hg
      have h2:=qQ.o.size
      omega
     have HGB:=ae hgb
     have KL:=ae HOLD.o
     rw[hL] at HB HLB HGB KL⊢
     have HL:=ae hL
     clear hgb HLA HX HOLD qQ D8 hL
     by_cases ha:acc=[]
     ·have hm:L.length=i:=by rw[HLB.o,aF ha]
      have hmb:((L.length:Int)==(i:Int))=true:=by rw[beq_iff_eq];omega
      have HAN:Hid (kL acc ns (i+1)=L++[(x0,x1)]):=ae (by
       have h1:=KL.o.2
       subst ha
       rw[XF hin2,h1,HL.o])
      have HM:=ae hm
      clear ha hm
      go_upto_region 11 with(fail)
      clear hmb
      have hL3:L.length<=3:=by have:=HM.o;omega
      have ajS:W1.heap.size<=WB.heap.size:=HB.o.2.2.1.size
      go_wp2_with (at_builtin;refine fQ rfl _ _ FZ rfl W1.heap.size (.slice oo2 L.length JV) L.length (aG L) rfl ?_ (.slice (some ⟨WB.heap.size,0,none⟩) 1 1) 1 (aG [(x0,x1)]) rfl ?_ (oN _) (by omega) (by omega) (by simp;omega) ?_)
      ·exact aC (Ms:=[]) HB.o.1 (Ext.aA ((aH _ _).alloc (ai _) _)) (by simp)
      ·exact aN.dB 2 1 (ay _ _) rfl (by decide)
      ·intro v' Wc hown hgr hcase
       obtain⟨oo3,Zi,rfl⟩:=aW hown
       have e3:L.length+1=(L++[(x0,x1)]).length:=by simp
       rw[<-pF,e3] at hown
       rw[e3] at hcase⊢
       have hwB:Below WB.heap.size WB (WB.alloc (.cells #[iv x0,iv x1] 46)):=aj (aH _ _) _
       have hkc: ∀b,b<WB.heap.size->(∀g,(Value.slice oo2 L.length JV).ownBlock=some g->g≠b)->Wc.heap[b]? =WB.heap[b]? :=fun b hb hn=>(hgr.block b (by simp;omega) (fun e=>hn b (by simpa using e.symm) rfl)).trans (hwB.block b hb)
       have hoc:Hid (Wc.ownsRow W1.heap.size 46 2 (.slice oo3 (L++[(x0,x1)]).length Zi) (L++[(x0,x1)]).length (aG (L++[(x0,x1)]))/\(∀g,(Value.slice oo3 (L++[(x0,x1)]).length Zi).ownBlock=some g->g<s3∨W6.heap.size<=g)/\Below W1.heap.size W1 Wc/\
        Wc.heap[b12]? =some (.cells #[iv x0,iv x1] 46 (0,0))/\(∀b,s3<=b->b<W6.heap.size->Wc.heap[b]? =W6.heap[b]?)/\W6.heap.size<=Wc.heap.size):=ae (by
        refine⟨hown,fun g hg=>?_,Below.grown (aY HB.o.2.2.1 hwB) hgr (by have:=hwB.size;omega) (fun k e=>(HGB.o k e).2),(hkc b12 (aS.1 HB.o.2.2.2.1).1 (fun g hg=>(HGB.o g hg).1)).trans HB.o.2.2.2.1,fun b hb1 hb2=>?_,?_⟩
        ·rcases hcase with h|h
         ·rw[h] at hg;exact HB.o.2.1 g hg
         ·rw[h] at hg
          have:=HB.o.2.2.2.2.2
          have:WB.heap.size+1=g:=by simpa using hg
          right;omega
        ·have:=HB.o.2.2.2.2.2
         exact(hkc b (by omega) (fun g hg=>by have:=HB.o.2.1 g hg;omega)).trans (HB.o.2.2.2.2.1 b hb1 hb2)
        ·have:=HB.o.2.2.2.2.2
         have:=hgr.size
         have:=hwB.size
         omega)
       have zJ:=hoc
       have Ym:Hid (i<(L++[(x0,x1)]).length):=ae (by have:=HM.o;simp;omega)
       have HLZ:Hid ((L++[(x0,x1)])[i]'Ym.o=(x0,x1)):=ae (by
        have:=HM.o
        subst this
        simp)
       have FQ:Hid ((L++[(x0,x1)]).set i (xK (x0,x1) (x0,x1))=kL acc ns (i+1)):=ae (by
        rw[HAN.o]
        have:=HM.o
        subst this
        rw[qA _ _ (ai _),Nat.sub_self]
        simp[xK])
       clear hown hgr hcase e3 hwB hkc hoc hL3 ajS j1 j2 j3 HB HGB KL HLB HAN
       generalize L++[(x0,x1)]=L3 at*
       go_upto_region 12 with(fail)
       have OW:Wc.ownsRow W1.heap.size 46 2 (.slice oo3 (L3).length Zi) (L3).length (aG (L3)):=zJ.o.1
       obtain⟨gb,c2,hg2,acb,WR,⟨s0,s1⟩,hfr2⟩:=oM OW Ym.o
       rw[HLZ.o] at s0 s1
       (try simp only at s0 s1)
       obtain⟨rfl,rfl⟩:oo3=some ⟨gb,0,none⟩/\Zi=c2:=by simp at hg2;exact hg2
       obtain⟨e1,e2,e3⟩:=af zJ.o.2.2.2.1
       have hiL:(i:Int)<((L3).length:Int):=by have:=Ym.o;omega
       clear OW hg2 hfr2
       refine zg 9 [] none [(7,Spec.val (rv (xK (x0,x1) (x0,x1))))] ?_
       simp only[zt]
       repeat ((first|refine zn ?_|refine zk ?_);simp only[zp])
       refine zw 206 (h:=fun W hE hF=>by exact He (x0,x1) (x0,x1) W) (t:=?_)
       simp only[zp]
       repeat ((first|refine zn ?_|refine zk ?_);simp only[zp])
       intro Yi hE hF
       have hE':Ext [] Wc Yi:=hE
       have xA:Below Wc.heap.size Wc Yi:=hE'.below
       have Ai:Yi.ownsRow W1.heap.size 46 2 (.slice (some ⟨gb,0,none⟩) (L3).length Zi) (L3).length (aG (L3)):=aC (Ms:=[]) zJ.o.1 hE' (by simp)
       have hset:=nP Ai Ym.o (xK (x0,x1) (x0,x1))
       obtain⟨g3,c3,hg3,_,ahe,⟨t0,t1⟩,hfr3⟩:=oM Ai Ym.o
       obtain⟨rfl,rfl⟩:gb=g3/\Zi=c3:=by simp at hg3;exact hg3
       rw[FQ.o] at hset
       have hlen:(L3).length=(kL acc ns (i+1)).length:=by rw[<-FQ.o,qw]
       have hgn:gb<s3∨W6.heap.size<=gb:=zJ.o.2.1 gb rfl
       have HST:=ae (ag hset (ag hlen (ag (aY zJ.o.2.2.1 xA) (ag xA (ag hgn acb)))))
       clear hE hF hE' Ai hset hlen xA hg3 hgn e1 e2 e3 s0 s1
       go_wp2_with fail
       go_roundw
       case rel=>
        refine⟨i+1,by omega,by go_num,⟨some ⟨gb,0,none⟩,Zi,by rw[<-HST.o.2.1],?_,?_⟩,?_,?_,?_⟩
        ·have:=HST.o.1
         rw[HST.o.2.1] at this
         exact this
        ·intro g hg
         have:gb=g:=by simpa [Value.ownBlock] using hg
         rw[<-this];exact HST.o.2.2.2.2.1
        ·exact iF (iF HST.o.2.2.1 HST.o.2.2.2.2.2 _) HST.o.2.2.2.2.2 _
        ·intro b hb1 hb2
         have hbg:b≠gb:=by have:=HST.o.2.2.2.2.1;omega
         have h1:=zJ.o.2.2.2.2.1 b hb1 hb2
         have h2:=HST.o.2.2.2.1.block b (by have:=zJ.o.2.2.2.2.2;omega)
         exact(dH _ _ _ _ hbg).trans ((dH _ _ _ _ hbg).trans (h2.trans h1))
        ·have:=zJ.o.2.2.2.2.2
         have:=HST.o.2.2.2.1.size
         simp
         omega
       case measure=>simp[intOf];omega
     ·have hm:L.length=ns.length:=by rw[HLB.o,ak ha]
      have hneb:((L.length:Int)==(i:Int))=false:=by rw[Io];omega
      have hal:acc.length=ns.length:=by
       have h2:=HNL.o
       rw[aF rfl] at h2
       rcases HAC.o with h|h
       ·exact absurd h ha
       ·omega
      have Ym:Hid (i<L.length):=ae (by omega)
      have hz:=KL.o.1 ha hal
      obtain⟨z,hzd⟩: ∃z:dR,acc.getD i (0,0)=z:=⟨_,rfl⟩
      rw[hzd] at hz
      have HLZ:Hid (L[i]'Ym.o=z):=ae (by
       rw[<-hzd,gV, <-hz.1,dw Ym.o]
       rfl)
      have FQ:Hid (L.set i (xK z (x0,x1))=kL acc ns (i+1)):=ae hz.2.symm
      have HM:=ae hm
      clear ha hm hal hz hzd KL HLB HGB HL
      go_upto_region 12 with(fail)
      clear hneb
      have zJ:=HB
      clear HB
      clear j1 j2 j3
      have OW:WB.ownsRow W1.heap.size 46 2 (.slice oo2 (L).length JV) (L).length (aG (L)):=zJ.o.1
      obtain⟨gb,c2,hg2,acb,WR,⟨s0,s1⟩,hfr2⟩:=oM OW Ym.o
      rw[HLZ.o] at s0 s1
      (try simp only at s0 s1)
      obtain⟨rfl,rfl⟩:oo2=some ⟨gb,0,none⟩/\JV=c2:=by simp at hg2;exact hg2
      obtain⟨e1,e2,e3⟩:=af zJ.o.2.2.2.1
      have hiL:(i:Int)<((L).length:Int):=by have:=Ym.o;omega
      clear OW hg2 hfr2
      refine zg 9 [] none [(7,Spec.val (rv (xK z (x0,x1))))] ?_
      simp only[zt]
      repeat ((first|refine zn ?_|refine zk ?_);simp only[zp])
      refine zw 206 (h:=fun W hE hF=>by exact He z (x0,x1) W) (t:=?_)
      simp only[zp]
      repeat ((first|refine zn ?_|refine zk ?_);simp only[zp])
      intro Yi hE hF
      have hE':Ext [] WB Yi:=hE
      have xA:Below WB.heap.size WB Yi:=hE'.below
      have Ai:Yi.ownsRow W1.heap.size 46 2 (.slice (some ⟨gb,0,none⟩) (L).length JV) (L).length (aG (L)):=aC (Ms:=[]) zJ.o.1 hE' (by simp)
      have hset:=nP Ai Ym.o (xK z (x0,x1))
      obtain⟨g3,c3,hg3,_,ahe,⟨t0,t1⟩,hfr3⟩:=oM Ai Ym.o
      obtain⟨rfl,rfl⟩:gb=g3/\JV=c3:=by simp at hg3;exact hg3
      rw[FQ.o] at hset
      have hlen:(L).length=(kL acc ns (i+1)).length:=by rw[<-FQ.o,qw]
      have hgn:gb<s3∨W6.heap.size<=gb:=zJ.o.2.1 gb rfl
      have HST:=ae (ag hset (ag hlen (ag (aY zJ.o.2.2.1 xA) (ag xA (ag hgn acb)))))
      clear hE hF hE' Ai hset hlen xA hg3 hgn e1 e2 e3 s0 s1
      go_wp2_with fail
      go_roundw
      case rel=>
       refine⟨i+1,by omega,by go_num,⟨some ⟨gb,0,none⟩,JV,by rw[<-HST.o.2.1],?_,?_⟩,?_,?_,?_⟩
       ·have:=HST.o.1
        rw[HST.o.2.1] at this
        exact this
       ·intro g hg
        have:gb=g:=by simpa [Value.ownBlock] using hg
        rw[<-this];exact HST.o.2.2.2.2.1
       ·exact iF (iF HST.o.2.2.1 HST.o.2.2.2.2.2 _) HST.o.2.2.2.2.2 _
       ·intro b hb1 hb2
        have hbg:b≠gb:=by have:=HST.o.2.2.2.2.1;omega
        have h1:=zJ.o.2.2.2.2.1 b hb1 hb2
        have h2:=HST.o.2.2.2.1.block b (by have:=zJ.o.2.2.2.2.2;omega)
        exact(dH _ _ _ _ hbg).trans ((dH _ _ _ _ hbg).trans (h2.trans h1))
       ·have:=zJ.o.2.2.2.2.2
        have:=HST.o.2.2.2.1.size
        simp
        omega
      case measure=>simp[intOf];omega
    ·have hip:i=ps.length:=by omega
     subst hip
     rw[<-HNL.o.1, <-HST.o] at how hog
     rw[<-HNL.o.1, <-HST.o]
     have HF:=ae (ag how Nl)
     clear how hog Nl hkeep aee
     go_wp2_with fail
     go_roundw
     case rel=>exact⟨k+1,by omega,by go_num,⟨oo2,JV,rfl,HF.o.1⟩,HF.o.2⟩
     case measure=>simp[intOf];omega
  ·have hkd:k=ds.length:=by omega
   subst hkd
   have HF:=ae (ag how hB)
   clear how hB
   go_wp2_with fail
   go_returns
   exact⟨_,by simp,df HF.o.1 (by omega),aY H1.o.1 HF.o.2⟩
end Go.Proofs.YthllkbbbapgelaaGreatDoor
namespace Go.Proofs.YthllkbbbapgelaaGreatDoor
open Go.RowKit Go.RG Go.SL Go.Shelf jy Go.TB
def Qi (p:Int->dR->dR) (l:aQ) (w:World) (e:Ending) (w':World):Prop:=
 Below w.heap.size w w'/\((gQ l true≠0/\e= .returned (.tuple #[.slice none 0 0,iv (gQ l true)]))∨
  (gQ l true=0/\ ∃u,e= .returned (.tuple #[u,iv 0])/\bT w' u (BQ p l (gm l))))
theorem Rk (l:aQ) (tv nv:Value) (bg:Nat) (p:Int->dR->dR) (w:World) (ht:dW w tv l.field.ax) (hn:bJ w nv l.notes)
 (eg: ∀args w,(callFunc bg args).run Tryz.prog w= .ok (.enter bg args) w)
 (hp: ∀(d:Int) (r:dR) (W:World),(0<=d/\d<=350)/\0<=r.1/\r.1<=r.2/\r.2<=2000->Calls Tryz.prog bg #[acv d r] W (PV (rv (p d r)) W)):
 Calls Tryz.prog 74 #[.agg #[.func (.func bg) #[] #[]],lv l tv nv] w (Qi p l w):=by
 have HC:=ae (wu l tv nv true ((w.alloc (.cells #[.func (.func bg) #[] #[]] 169)).alloc (.cells (lh l tv nv) 49)) ((ht.alloc _).alloc _) ((hn.alloc _).alloc _))
 have HE:=ae eg
 have HP:=ae hp
 clear ht hn hp eg
 obtain⟨q,hq⟩: ∃q,gQ l true=q:=⟨_,rfl⟩
 have HQ:=ae hq
 clear hq
 go_enter Tryz.func74,Tryz.ntmps74
 go_wp2_with fail
 refine HC.o.mono ?_
 rintro e w1 ⟨hb,⟨hne,rfl⟩|⟨h0,wb,mb,v,rfl,_,_,hok⟩⟩
 ·rw[HQ.o] at hne⊢
  have hqb:(q !=0)=true:=by simpa using hne
  have HB:=ae (ag (show Below w.heap.size w w1 from zl) hne)
  clear hb hne
  go_wp2_with fail
  go_returns
  exact⟨HB.o.1,.inl ⟨by rw[HQ.o];exact HB.o.2,by rw[HQ.o];simp⟩⟩
 ·have hk:=(hb.block w.heap.size (by simp;omega)).trans ((aV _ _ _ (by simp)).trans (ay w (.cells #[.func (.func bg) #[] #[]] 169)))
  have HBN:=ae (AA (ES h0).1 bg p w1 hok HE.o HP.o)
  have HB:=ae (ag (show Below w.heap.size w w1 from zl) h0)
  obtain⟨c1,f1,l1⟩:=af hk
  clear hb hk hok h0
  go_wp2_with fail
  refine HBN.o.mono ?_
  rintro e w2 ⟨u,rfl,hu,hb⟩
  obtain⟨uo,uc,rfl⟩:=aW hu
  have HX:=ae (ag (aY HB.o.1 hb) (aN.dU hu))
  clear hb hu c1 f1 l1
  go_wp2_with fail
  go_returns
  exact⟨HX.o.1,.inr ⟨HB.o.2,_,by simp,HX.o.2⟩⟩
theorem Ql (l:aQ) (tv nv:Value) (w:World) (ht:dW w tv l.field.ax) (hn:bJ w nv l.notes):
 Calls Tryz.prog 42 #[lv l tv nv] w (Qi oL l w):=by
 have HC:=ae (Rk l tv nv 73 oL (w.alloc (.cells (lh l tv nv) 49)) (ht.alloc _) (hn.alloc _) (enters_of Tryz.func73 (by kernel_rfl) rfl) (fun d r W h=>by first|exact Og d r W h|(have:=h;exact Og d r W h)))
 clear ht hn
 go_enter Tryz.func42,Tryz.ntmps42
 go_wp2_with fail
 refine HC.o.mono ?_
 rintro e w1 ⟨hb,⟨hne,rfl⟩|⟨h0,u,rfl,hu⟩⟩
 ·obtain⟨q,hq⟩: ∃q,gQ l true=q:=⟨_,rfl⟩
  have HB:=ae (ag (show Below w.heap.size w w1 from zl) (ag hne hq))
  rw[hq]
  clear hb hne hq
  go_wp2_with fail
  go_returns
  exact⟨HB.o.1,.inl ⟨HB.o.2.1,by rw[HB.o.2.2];simp⟩⟩
 ·obtain⟨uo,uc,rfl⟩:=hu.open
  have HB:=ae (ag (show Below w.heap.size w w1 from zl) (ag h0 hu))
  clear hb h0 hu
  go_wp2_with fail
  go_returns
  exact⟨HB.o.1,.inr ⟨HB.o.2.1,_,by simp,HB.o.2.2⟩⟩
end Go.Proofs.YthllkbbbapgelaaGreatDoor
end
section
namespace Go.Proofs.YthllkbbbapgelaaGreatDoor
open Go.RowKit Go.RG Go.SL Go.Shelf jy Go.TB
end Go.Proofs.YthllkbbbapgelaaGreatDoor
namespace Go.Proofs.YthllkbbbapgelaaGreatDoor
open Go.RowKit Go.RG Go.SL Go.Shelf jy Go.TB
end Go.Proofs.YthllkbbbapgelaaGreatDoor
namespace Go.Proofs.YthllkbbbapgelaaGreatDoor
open Go.RowKit Go.RG Go.SL Go.Shelf jy Go.TB
end Go.Proofs.YthllkbbbapgelaaGreatDoor
namespace Go.Proofs.YthllkbbbapgelaaGreatDoor
open Go.RowKit Go.RG Go.SL Go.Shelf jy Go.TB
def nI (l:aQ):List Int:=(nG l.notes.length (gq l)).getD []
theorem Eo {l:aQ} (h:gq l (upto l.notes.length)=true):nG l.notes.length (gq l)=some (nI l):=by
 unfold nI
 cases hs:nG l.notes.length (gq l) with
 |some c=>rfl
 |none=>rw[NR hs _ (Zz _)] at h;cases h
def XQ (l:aQ) (w:World) (e:Ending) (w':World):Prop:=
 Below w.heap.size w w'/\((iO l≠0/\e= .returned (.tuple #[.slice none 0 0,iv (iO l)]))∨(iO l=0/\ ∃v,e= .returned (.tuple #[v,iv 0])/\aO w' v (nI l)))
theorem XP (l:aQ) (tv nv:Value) (w:World) (ht:dW w tv l.field.ax) (hn:bJ w nv l.notes):
 Calls Tryz.prog 41 #[lv l tv nv] w (XQ l w):=by
 obtain⟨on,cn,rfl⟩:=hn.open
 have HC:=ae (yH l tv _ (w.alloc (.cells (lh l tv (.slice on l.notes.length cn)) 49)) (ht.alloc _) (hn.alloc _))
 clear ht hn
 obtain⟨q,hq⟩: ∃q,iO l=q:=⟨_,rfl⟩
 have HQ:=ae hq
 clear hq
 obtain⟨nn,hnn⟩: ∃nn,l.notes.length=nn:=⟨_,rfl⟩
 have HNN:=ae hnn
 rw[hnn] at HC⊢
 clear hnn
 go_enter Tryz.func41,Tryz.ntmps41
 go_wp2_with fail
 refine HC.o.mono ?_
 rintro e w1 ⟨hb,⟨hne,rfl⟩|⟨h0,wb,mb,v,rfl,hwb,hmb,hok⟩⟩
 ·have HB:=ae (ag (show Below w.heap.size w w1 from zl) hne)
  rw[HQ.o] at hne⊢
  have hqb:(q !=0)=true:=by simpa using hne
  clear hb hne
  go_wp2_with fail
  go_returns
  exact⟨HB.o.1,.inl ⟨HB.o.2,by rw[HQ.o];simp⟩⟩
 ·obtain⟨hS,hpo⟩:=pM h0
  have hsh:=Eo hpo
  have hn5:=hS.many
  rw[HNN.o] at hsh hn5
  have hk1:=(hb.block w.heap.size (by simp)).trans (ay w (.cells (lh l tv (.slice on nn cn)) 49))
  have hmw:w.heap.size<mb:=by simp at hmb;omega
  have Cf:=ae (IV nn (by omega) (gq l) [mb] (fun W=> ∃T,TabAt Yc rv (fun _=>True) W mb T) ⟨fun a b ⟨T,hT⟩ hk=>⟨T,hT.kept (hk mb (by simp))⟩,fun W hW m hm o=>by
   obtain rfl:m=mb:=by simpa using hm
   obtain⟨T,hT⟩:=hW
   exact hT.mX o⟩ w1 hok.tab (fun m hm=>by obtain rfl:m=mb:=(by simpa using hm);exact hok.lt) 72 #[.pointer (some ⟨wb,0,none⟩)] #[]
   (enters_of Tryz.func72 (by kernel_rfl) rfl) (fun x u W' _ hE hW hv=>by
     refine(pz hS x (show Fg W' wb mb l tv (.slice on nn cn) v from⟨hok.work.table hE hok.mX,hW⟩) hv).mono ?_
     rintro e W2 ⟨rfl,hkn,hE2⟩
     exact⟨rfl,hkn.ok.tab,hE2⟩))
  have HB:=ae (ag (show Below w.heap.size w w1 from zl) (ag h0 (ag hsh hmw)))
  obtain⟨c1,f1,l1⟩:=af hk1
  clear hb hok h0 hS hpo hsh hk1 hwb hmb hmw
  go_wp2_with fail
  refine Cf.o.mono ?_
  rintro e w2 ⟨⟨_,hE⟩,⟨cx,u,hcx,rfl,vg⟩|⟨hno,_⟩⟩
  ·have hres:cx=nI l:=by rw[HB.o.2.2.1] at hcx;injection hcx with h;exact h.symm
   obtain⟨uo,uc,rfl⟩:=vg.open
   have HX:=ae (ag (ik HB.o.1 hE (by have:=HB.o.2.2.2;omega)) (ag hres vg))
   clear hE hcx vg hres c1 f1 l1
   go_wp2_with fail
   go_returns
   exact⟨HX.o.1,.inr ⟨HB.o.2.1,_,by simp;rfl,by rw[<-HX.o.2.1];exact HX.o.2.2⟩⟩
  ·rw[HB.o.2.2.1] at hno;cases hno
end Go.Proofs.YthllkbbbapgelaaGreatDoor
end
section
namespace Go.Proofs.YthllkbbbapgelaaGreatDoor
open Go.RowKit Go.RG Go.SL Go.Shelf jy Go.TB
theorem Qd {l:aQ} (h:gQ l true=0):pW l/\ ∃d∈gm l,jC l [] d=true:=by
 obtain⟨hS,_,_,hp⟩:=ES h
 unfold gq at hp
 rw[List.any_eq_true] at hp
 exact⟨hS,hp⟩
theorem aaN {l:aQ} (hp: ∃d∈gm l,jC l [] d=true) (p:Int->dR->dR) {i:Nat} (hi:i<l.field.aK.toNat):
 um (fun y=> ∃d∈gm l,jC l [] d=true/\y=p (d.getD i 0) ((kT l [] d).getD i (0,0))) ((BQ p l (gm l)).getD i (0,0)):=by
 obtain⟨d,hd,hc⟩:=hp
 rcases Ih p l (gm l) hi (gm l).length (ai _) with⟨_,h2⟩|⟨_,h1⟩
 ·rw[List.take_length] at h2;rw[h2 d hd] at hc;cases hc
 ·rw[List.take_length] at h1;exact h1
end Go.Proofs.YthllkbbbapgelaaGreatDoor
namespace Go.Proofs.YthllkbbbapgelaaGreatDoor
open Go.RowKit Go.RG Go.SL Go.Shelf jy Go.TB
end Go.Proofs.YthllkbbbapgelaaGreatDoor
end

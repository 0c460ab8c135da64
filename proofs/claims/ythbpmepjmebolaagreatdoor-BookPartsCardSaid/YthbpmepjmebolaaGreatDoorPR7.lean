/-
  Texts of this claim, packed by a program: QF UA UD UH.
-/
import Derived.WalkKit
import Derived.WalkLawsBesides
import Derived.WalkSpells
import Derived.Outline
import Derived.Handy
import Derived.KernelRfl
import Derived.Lib.Hide
import Derived.BigRegion
import Derived.Deep.Cut
import Derived.Test.YthbpmepjmebolaaGreatDoorPR6
set_option maxHeartbeats 8000000
set_option maxRecDepth 100000
set_option linter.all false
section
namespace Go.Proofs.YthbpmepjmebolaaGreatDoor
open Go.RowKit Go.RG Go.SL Go.Shelf jv Go.TB
abbrev aaY (d:List Int):Value:=lY d
abbrev abJ (w:World) (v:Value) (ls:List (List Int)):Prop:=aN 3 w v ls.length (ls.flatMap ah)
theorem aj7 (l:List (List Int)) (v:Value) (bz:Nat) (fst caps:Array Value) (p:Nat->Bool) (I:Nat->World->Prop) (w:World) (h3: ∀x∈l,x.length=3) (eg: ∀args w,(callFunc bz args).run Tryz.prog w= .ok (.enter bz args) w)
 (hsl: ∀k W,I k W->abJ W v l)
 (hcall: ∀k (hk:k<l.length) W,(∀j,j<k->p j=false)->I k W->Calls Tryz.prog bz (fst.push (aaY l[k])++caps) W (fun e W'=>e= .returned (.bool (p k))/\I (k+1) W')) (h0:I 0 w):
 Calls Tryz.prog 237 #[v,.func (.func bz) fst caps] w (eP l.length p I (fun k=>iv k) (iv (-1))):=by
 have hlen:=(hsl 0 w h0).len
 obtain⟨o,c,rfl⟩:=(hsl 0 w h0).open
 have HC:=ae hcall
 have HS:=ae hsl
 have H3:=ae h3
 clear hcall hsl h3
 go_enter Tryz.func237,Tryz.ntmps237
 go_wp2
 go_loopw [4,5,8] (fun _ _ i wr=> ∃k:Nat,k<=l.length/\i= .int .i64 k/\(∀j,j<k->p j=false)/\I k wr) (fun _ _ i _=>l.length-(intOf i).toNat)
 case atStart=>exact⟨0,bQ _,rfl,fun j hj=>by omega,h0⟩
 case round=>
  obtain⟨k,hk,rfl,hno,hI⟩:=hrel
  by_cases hlt:k<l.length
  ·obtain⟨b,off,y0,y1,y2,hvv,hb,hys,hc0,hc1,hc2⟩:=Eb (HS.o k wr hI) H3.o hlt
   subst hvv
   have hC:=HC.o k hlt wr hno hI
   have hda:aaY l[k]= .agg #[iv y0,iv y1,iv y2]:=by show lY l[k]=_;rw[hys];rfl
   rw[hda] at hC
   have HN:=ae hno
   clear hno
   go_wp2_with fail
   refine hC.mono ?_
   rintro e W1 ⟨rfl,hI1⟩
   have HI:=ae hI1
   clear hI1 hI hC
   cases hp:p k
   ·go_wp2_with fail
    go_roundw
    case rel=>exact⟨k+1,by omega,by go_num,fun j hj=>(by by_cases e:j=k;(subst e;exact hp);exact HN.o j (by omega)),HI.o⟩
    case measure=>simp[intOf];omega
   ·go_wp2_with fail
    go_returns
    exact⟨k,by omega,HN.o,.inl ⟨hlt,hp,by simp,HI.o⟩⟩
  ·have hkl:k=l.length:=by omega
   have HN:=ae hno
   clear hno
   go_wp2_with fail
   go_returns
   exact⟨k,by omega,HN.o,.inr ⟨hkl,by simp,by subst hkl;exact hI⟩⟩
theorem ail (l:List (List Int)) (v:Value) (bz:Nat) (fst caps:Array Value) (p:Nat->Bool) (I:Nat->World->Prop) (w:World) (h3: ∀x∈l,x.length=3) (eg: ∀args w,(callFunc bz args).run Tryz.prog w= .ok (.enter bz args) w)
 (hsl: ∀k W,I k W->abJ W v l)
 (hcall: ∀k (hk:k<l.length) W,(∀j,j<k->p j=false)->I k W->Calls Tryz.prog bz (fst.push (aaY l[k])++caps) W (fun e W'=>e= .returned (.bool (p k))/\I (k+1) W')) (h0:I 0 w):
 Calls Tryz.prog 160 #[v,.func (.func bz) fst caps] w (eP l.length p I (fun _=> .bool true) (.bool false)):=by
 have HI:=ae (aj7 l v bz fst caps p I w h3 eg hsl hcall h0)
 have hlen:=(hsl 0 w h0).len
 clear hsl hcall h0 eg
 go_enter Tryz.func160,Tryz.ntmps160
 go_wp2_with fail
 refine HI.o.mono ?_
 clear HI
 rintro e W' ⟨k,hk,hno,⟨hlt,hp,rfl,hI⟩|⟨hkl,rfl,hI⟩⟩
 ·have HN:=ae (ag hno (ag hp hI))
  clear hno hp hI
  go_wp2_with fail
  go_returns
  exact⟨k,hk,HN.o.1,.inl ⟨hlt,HN.o.2.1,by simp,HN.o.2.2⟩⟩
 ·have HN:=ae (ag hno (ag hkl hI))
  clear hno hkl hI
  go_wp2_with fail
  go_returns
  exact⟨k,hk,HN.o.1,.inr ⟨HN.o.2.1,by simp,HN.o.2.1▸HN.o.2.2⟩⟩
def gz (l:aQ) (out:List Int):Bool:=(gy l).any (jF l out)
structure FO (W:World) (wb mb:Nat) (l:aQ) (tv nv v:Value):Prop where
 work:Eg W wb mb l tv nv v (gy l)
 tab: ∃T,TabAt YZ rv (fun _=>True) W mb T
structure IJ (W:World) (wb mb:Nat) (l:aQ) (tv nv v:Value) (out:List Int):Prop where
 work:Eg W wb mb l tv nv v (gy l)
 tab: ∃T,TabAt YZ rv (fun _=>True) W mb T/\rM (EI l out) T (tH l.field.aO.toNat (gy l) (gy l).length)
theorem IJ.ok {W:World} {wb mb:Nat} {l:aQ} {tv nv v:Value} {out:List Int} (h:IJ W wb mb l tv nv v out):FO W wb mb l tv nv v:=⟨h.work,let⟨T,h1,_⟩:=h.tab;⟨T,h1⟩⟩
theorem IJ.below {W W':World} {wb mb:Nat} {l:aQ} {tv nv v:Value} {out:List Int} (h:IJ W wb mb l tv nv v out) {B:Nat} (hb:Below B W W') (hB:W.heap.size<=B):IJ W' wb mb l tv nv v out:=
 ⟨h.work.below hb hB,let⟨T,h1,h2⟩:=h.tab;⟨T,h1.below hb hB,h2⟩⟩
theorem FO.below {W W':World} {wb mb:Nat} {l:aQ} {tv nv v:Value} (h:FO W wb mb l tv nv v) {B:Nat} (hb:Below B W W') (hB:W.heap.size<=B):FO W' wb mb l tv nv v:=
 ⟨h.work.below hb hB,let⟨T,h1⟩:=h.tab;⟨T,h1.below hb hB⟩⟩
theorem FO.lt {W:World} {wb mb:Nat} {l:aQ} {tv nv v:Value} (h:FO W wb mb l tv nv v):mb<W.heap.size:=let⟨_,h1⟩:=h.tab;h1.lt
theorem FO.ng {W:World} {wb mb:Nat} {l:aQ} {tv nv v:Value} (h:FO W wb mb l tv nv v) (o:Nat):W.cell? ⟨mb,o,none⟩=none:=let⟨_,h1⟩:=h.tab;h1.ng o
theorem qR (l:aQ): ∀x∈gy l,x.length=3:=Ce l _
theorem Ij {l:aQ} (hS:pX l) {d:List Int} (hd:d∈gy l) (i:Nat) (hi:i<3):0<=d.getD i 0/\d.getD i 0<=350:=by
 obtain⟨t,ht,rfl⟩:=Kq.1 hd
 have hF:=iJ hS.field
 have:=oL ht
 exact Ii (by have:=hS.rate;omega) (by have:=hS.rate;omega) t (by have:=hF.qN;omega) i hi
theorem acj {l:aQ} {out:List Int} {T:List ((Int×Int)×dY)} (hF:rM (EI l out) T (tH l.field.aO.toNat (gy l) (gy l).length)) {d:List Int} (hd:d∈gy l) {i:Nat} (hi:i<l.field.aO.toNat):
 TB.look ((i:Int),d.getD i 0) T=some ((pq l out d).getD i (0,0)):=by
 obtain⟨r,hr⟩:=hF.has ((i:Int),d.getD i 0) (by
  unfold tH
  rw[List.take_length,qE]
  exact⟨d,hd,jd.2 ⟨i,mD.2 hi,rfl⟩⟩)
 rw[hr,hF.only _ _ hr,Pv,Ef _ _ _ hi]
theorem abk {l:aQ} (hS:pX l) (out:List Int) {d:List Int} (hd:d∈gy l): ∀r∈pq l out d,0<=r.1/\r.1<=2000/\0<=r.2/\r.2<=2000:=by
 intro r hr
 obtain⟨i,hi,rfl⟩:=jd.1 hr
 have hF:=iJ hS.field
 have:=hF.xG
 have hi':=mD.1 hi
 have hb:=Ij hS hd i (by omega)
 have:=Pq hS out i hb.1 (by omega)
 omega
theorem Vj {l:aQ} (hS:pX l) {tv nv v:Value} {out:List Int} {wb mb:Nat} {d:List Int} (hd:d∈gy l) {w:World} (hw:IJ w wb mb l tv nv v out):
 Calls Tryz.prog 162 #[.pointer (some ⟨wb,0,none⟩),lY d] w (QV l out d w):=by
 obtain⟨T,hT,hF⟩:=hw.tab
 exact ZG l (iJ hS.field) (by have:=hS.box;omega) tv nv v out d (qR l d hd) (pq l out d) rfl (abk hS out hd) wb mb T w hw.work.cells hT (fun i hi=>acj hF hd hi)
theorem WR {l:aQ} (hS:pX l) {tv nv v:Value} {out:List Int} {wb mb bp:Nat} {d:List Int} (hd:d∈gy l) {w:World} (hw:IJ w wb mb l tv nv v out) (hp:w.heap[bp]? =some (.cells #[.pointer (some ⟨wb,0,none⟩)] 114 (0,0))):
 Calls Tryz.prog 161 #[lY d,.pointer (some ⟨bp,0,none⟩)] w (PV (.bool (jF l out d)) w):=by
 obtain⟨y0,y1,y2,hys⟩:=nX (qR l d hd)
 have hag:lY d= .agg #[iv y0,iv y1,iv y2]:=by rw[hys];rfl
 have HP:=ae (fun W hW=>hag▸Vj (w:=W) hS hd (hw.below (B:=w.heap.size) hW (ai _)))
 rw[hag]
 obtain⟨c1,f1,l1⟩:=af hp
 obtain⟨q,hq⟩: ∃q,jF l out d=q:=⟨_,rfl⟩
 have HQ:=ae hq
 clear hw hp hag hys hq
 go_enter Tryz.func161,Tryz.ntmps161
 go_wp2_with fail
 refine(HP.o _ (aj (aG _ _) _)).mono ?_
 rintro e w' ⟨hb,⟨hc,u,rfl,hu⟩|⟨hc,rfl⟩⟩
 ·have hq:q=true:=by rw[<-HQ.o,hc]
  obtain⟨uo,uc,rfl⟩:=aS hu
  have HB:=ae (aW (aj (aG w.heap.size w) (.cells #[iv y0,iv y1,iv y2] 247)) hb)
  have HE:=ae (ag hc hq)
  clear hb hc hu hq
  go_wp2_with fail
  go_returns
  exact⟨by rw[HE.o.1];simp,HB.o⟩
 ·have HB:=ae (aW (aj (aG w.heap.size w) (.cells #[iv y0,iv y1,iv y2] 247)) hb)
  have HE:=ae hc
  clear hb hc
  go_wp2_with fail
  go_returns
  exact⟨by rw[HE.o];simp,HB.o⟩
theorem pI {l:aQ} (hS:pX l) {tv nv v ov:Value} (out:List Int) {wb mb:Nat} {w:World} (hw:FO w wb mb l tv nv v) (ho:aP w ov out):
 Calls Tryz.prog 93 #[.pointer (some ⟨wb,0,none⟩),ov] w (fun e w'=>e= .returned (.bool (gz l out))/\IJ w' wb mb l tv nv v out/\Ext [mb] w w'):=by
 obtain⟨T0,hT0⟩:=hw.tab
 obtain⟨oo,oc,rfl⟩:=ho.open
 obtain⟨vo,vc,rfl⟩:=hw.work.truth.open
 have hF:=iJ hS.field
 have hlen:(gy l).length<=2500:=ji (AY l _) (lZ hF [])
 have hBA:Below w.heap.size w (w.alloc (.cells #[.pointer (some ⟨wb,0,none⟩)] 114)):=aj (aG _ _) _
 have HWO:=ae (Ob l hF hS.many tv nv _ _ out wb mb (gy l) T0 _ (hw.work.below hBA (ai _)) (hT0.below hBA (ai _)) (ho.below hBA (ai _)) (qR l) hlen)
 have hmb:=hT0.lt
 have hwb:=hw.work.lt
 have HW:=ae (ag (hw.work.below hBA (ai _)) (hT0.below hBA (ai _)))
 have HS:=ae hS
 obtain⟨q,hq⟩: ∃q,gz l out=q:=⟨_,rfl⟩
 rw[hq]
 have HQ:=ae hq
 have hbp:=ax w (.cells #[.pointer (some ⟨wb,0,none⟩)] 114)
 have HBP:=ae hbp
 clear hw ho hT0 hq hS hbp hBA
 go_enter Tryz.func93,Tryz.ntmps93
 go_wp2_with fail
 refine HWO.o.mono ?_
 rintro e W1 ⟨⟨u,rfl⟩,hE,T,hT,Y2⟩
 have acH:=(hE.block w.heap.size (by simp) (by simp;omega)).trans HBP.o
 have TF:=HW.o.1.table hE HW.o.2.ng
 have hKn:IJ W1 wb mb l tv nv (.slice vo (gy l).length vc) out:=⟨TF,T,hT,Y2⟩
 have Y3:Ext [mb] w W1:=(Ext.aA (aj (aG _ _) _)).trans hE
 have HC:=ae (ail (gy l) (.slice vo (gy l).length vc) 161 #[] #[.pointer (some ⟨w.heap.size,0,none⟩)] (fun k=>jF l out ((gy l).getD k [])) (fun _ W=>Below W1.heap.size W1 W) W1 (qR l)
  (enters_of Tryz.func161 (by kernel_rfl) rfl) (fun k W hW=>TF.truth.below hW (ai _))
  (fun k hk W _ hW=>by
    have hg:(gy l).getD k []=(gy l)[k]:=by simp[List.getD,hk]
    rw[hg]
    refine(WR HS.o (cZ hk) (hKn.below hW (ai _)) ((hW.block _ (aV.1 acH).1).trans acH)).mono ?_
    rintro e W' ⟨rfl,hb⟩
    exact⟨rfl,aW hW hb⟩) (aG _ _))
 obtain⟨c1,f1,l1⟩:=af acH
 obtain⟨c2,f2,l2⟩:=af TF.cells
 have HX:=ae (ag hKn Y3)
 clear hE hT Y2 acH TF hKn Y3
 obtain⟨ls,hls⟩: ∃ls,gy l=ls:=⟨_,rfl⟩
 rw[hls] at HC c2
 have Jw:=ae hls
 clear hls
 go_wp2_with fail
 refine HC.o.mono ?_
 rintro e W2 ⟨k,hk,hno,⟨hlt,hp,rfl,hB⟩|⟨hkl,rfl,hB⟩⟩
 ·have hqt:q=true:=by
   rw[<-HQ.o]
   unfold gz
   rw[Jw.o,List.any_eq_true]
   exact⟨ls.getD k [],by rw[show ls.getD k []=ls[k] from by simp[List.getD,hlt]];exact cZ _,hp⟩
  have HF:=ae (ag hqt hB)
  clear hno hp hB hqt
  go_wp2_with fail
  go_returns
  exact⟨by rw[HF.o.1];simp,HX.o.1.below HF.o.2 (ai _),HX.o.2.trans (Ext.aA HF.o.2)⟩
 ·have hqf:q=false:=by
   rw[<-HQ.o]
   unfold gz
   rw[Jw.o,List.any_eq_false]
   intro x hx
   obtain⟨j,hj,rfl⟩:=mG hx
   have:=hno j (by omega)
   simp only at this
   rw[show ls.getD j []=ls[j] from by simp[List.getD,hj]] at this
   simp[this]
  have HF:=ae (ag hqf hB)
  clear hno hB hqf
  go_wp2_with fail
  go_returns
  exact⟨by rw[HF.o.1];simp,HX.o.1.below HF.o.2 (ai _),HX.o.2.trans (Ext.aA HF.o.2)⟩
end Go.Proofs.YthbpmepjmebolaaGreatDoor
namespace Go.Proofs.YthbpmepjmebolaaGreatDoor
open Go.RowKit Go.RG Go.SL Go.Shelf jv Go.TB
def La (l:aQ):Bool:=og l.rate 1 50&&(lh l.box&&l.notes.all (BG l))
def iR (l:aQ):Int:=if 5<l.notes.length then 3 else if fU l.field true≠0 then fU l.field true else if La l=false then 1 else if gz l (upto l.notes.length)=false then 9 else 0
theorem JJ {l:aQ} (h1: ¬5<l.notes.length) (h2:fU l.field true=0) (h3:La l=true):pX l:=by
 have hf:ku l.field=0:=by
  unfold fU at h2
  split at h2
  ·omega
  ·rename_i h;omega
 obtain⟨hS,hpos,_⟩:=sG h2
 simp only[La,og,lh,fH,fB,jR] at h3
 obtain⟨⟨r1,r2⟩,⟨b1,⟨b2,b3⟩,b4,b5⟩,hn⟩:=h3
 refine⟨hf,fun e=>by rw[e] at hpos;simp at hpos,⟨r1,r2⟩,⟨by omega,by omega,by omega⟩,by omega,fun x hx=>?_⟩
 have:=hn x hx
 simp only[BG,og,lh,fH,fB] at this
 omega
def Cc (n k:Nat):List Int:=(List.range n).map fun(i:Nat)=>if i<k then(i:Int) else 0
theorem XN (n:Nat):Cc n 0=List.replicate n 0:=by
 unfold Cc
 simp only[Nat.not_lt_zero,if_false]
 rw[List.map_const',List.length_range]
theorem aaU (n:Nat):Cc n n=upto n:=by
 unfold Cc upto
 apply List.map_congr_left
 intro i hi
 rw[aF (mD.1 hi)]
theorem aaT {n k:Nat} (_hk:k<n):(Cc n k).set k (k:Int)=Cc n (k+1):=by
 refine List.ext_getElem (by simp[Cc]) fun i h1 h2=>?_
 rw[List.getElem_set]
 simp only[Cc,List.getElem_map,List.getElem_range]
 by_cases e:k=i
 ·subst e;simp
 ·rw[ak e]
  by_cases h:i<k
  ·rw[aF h,aF (by omega)]
  ·rw[ak h,ak (by omega)]
theorem Qb (n k:Nat):(Cc n k).length=n:=by simp[Cc]
def Q8 (l:aQ) (tv nv:Value) (w:World) (e:Ending) (w':World):Prop:=
 Below w.heap.size w w'/\((iR l≠0/\e= .returned (.tuple #[.pointer none,iv (iR l)]))∨
  (iR l=0/\ ∃(wb mb:Nat) (v:Value),e= .returned (.tuple #[.pointer (some ⟨wb,0,none⟩),iv 0])/\w.heap.size<=wb/\w.heap.size<=mb/\FO w' wb mb l tv nv v))
theorem yT (l:aQ) (tv nv:Value) (w:World) (ht:dM w tv l.field.az) (hn:bg w nv l.notes):
 Calls Tryz.prog 51 #[lv l tv nv] w (Q8 l tv nv w):=by
 obtain⟨on,cn,rfl⟩:=hn.open
 obtain⟨ot,ct,rfl⟩:=ht.open
 have hnl:=hn.len
 have HN:=ae hn
 have HT:=ae ht
 clear hn ht
 by_cases h5:5<l.notes.length
 ·have HF:Hid (iR l=3):=ae (by unfold iR;rw[aF h5])
  have h5I:(l.notes.length:Int)>5:=by omega
  go_enter Tryz.func51,Tryz.ntmps51
  go_wp2_with fail
  go_returns
  exact⟨zl,.inl ⟨by rw[HF.o];simp,by rw[HF.o];simp⟩⟩
 have h5I: ¬((l.notes.length:Int)>5):=by omega
 have hW:iR l=if fU l.field true≠0 then fU l.field true else if La l=false then 1 else if gz l (upto l.notes.length)=false then 9 else 0:=by unfold iR;rw[ak h5]
 have HD:=ae (fun w ht=>Dj l.field (.slice ot l.field.az.length ct) w ht)
 obtain⟨q,hq⟩: ∃q,fU l.field true=q:=⟨_,rfl⟩
 rw[hq] at hW
 by_cases hq0:q=0
 case neg=>
  have HF:Hid (iR l=q/\q≠0/\fU l.field true=q):=ae ⟨by rw[hW,aF hq0],hq0,hq⟩
  have hqb:(q !=0)=true:=by simpa using hq0
  clear hW hq hq0
  go_enter Tryz.func51,Tryz.ntmps51
  go_wp2_with fail
  refine(HD.o _ (HT.o.alloc _)).mono ?_
  rintro e w1 ⟨hb,⟨hne,rfl⟩|⟨h0,_⟩⟩
  ·have HB:=ae (show Below w.heap.size w w1 from zl)
   rw[HF.o.2.2]
   clear hb hne
   go_wp2_with fail
   go_returns
   exact⟨HB.o,.inl ⟨by rw[HF.o.1];exact HF.o.2.1,by rw[HF.o.1];simp⟩⟩
  ·exact absurd (HF.o.2.2.symm.trans h0) HF.o.2.1
 rw[ak (by rw[hq0];simp)] at hW
 rw[hq0] at hq
 have HW:=ae hW
 have hwd: -1000<=l.field.aO/\l.field.aO<=1000:=by
  have hF0:ku l.field=0:=by
   unfold fU at hq
   by_cases h:ku l.field=0
   ·exact h
   ·rw[aF h] at hq;exact hq
  have:=iJ hF0
  have:=this.zT
  have:=(iJ hF0).xG
  omega
 have HQ:=ae hq
 clear hW hq hq0
 obtain⟨r1,hr1⟩: ∃r1,og l.rate 1 50=r1:=⟨_,rfl⟩
 obtain⟨r2,hr2⟩: ∃r2,lh l.box=r2:=⟨_,rfl⟩
 obtain⟨r3,hr3⟩: ∃r3,l.notes.all (BG l)=r3:=⟨_,rfl⟩
 have hargs:La l=(r1&&(r2&&r3)):=by unfold La;rw[hr1,hr2,hr3]
 have H1:=ae (fun w=>hr1▸yL l.rate 1 50 w)
 have H2:=ae (fun w=>hr2▸Fq l.box w)
 have H3:=ae (fun(W:World) (hB:Below w.heap.size w W)=>
  hr3▸Yl l.notes (.slice on l.notes.length cn) 88 #[lv l (.slice ot l.field.az.length ct) (.slice on l.notes.length cn)] #[] (BG l) W (HN.o.below hB (ai _)) (enters_of Tryz.func88 (by kernel_rfl) rfl) (fun x _ W' _=>note_any l _ _ x W' hwd.1 hwd.2))
 have HA:=ae hargs
 clear hargs hr1 hr2 hr3
 go_enter Tryz.func51,Tryz.ntmps51
 go_wp2_with fail
 refine(HD.o _ (HT.o.alloc _)).mono ?_
 rintro e w1 ⟨hb,⟨hne,_⟩|⟨_,u,rfl,hu⟩⟩
 ·exact absurd HQ.o hne
 obtain⟨uo,uc,rfl⟩:=hu.open
 obtain⟨hc,hf⟩:=bT hb
 have hz0:w.heap.size<w1.heap.size:=by have:=hb.size;simp at this;omega
 have hk1:=(hb.block w.heap.size (by simp)).trans (ax w (.cells (kY l (.slice ot l.field.az.length ct) (.slice on l.notes.length cn)) 33))
 have HB1:=ae (ag (show Below w.heap.size w w1 from zl) hk1)
 clear hb hu hk1
 go_wp2_with fail
 refine(H1.o _).mono ?_
 rintro e w2 ⟨rfl,hb⟩
 have hk2:=(hb.block _ hz0).trans HB1.o.2
 have HB2:=ae (ag (aW HB1.o.1 hb) hk2)
 obtain⟨c2,f2,l2⟩:=af hk2
 clear hb hk2 hc hf hz0
 cases r1
 ·have hF:iR l=1:=by rw[HW.o,HA.o];rfl
  have HF:=ae hF
  clear hF
  go_wp2_with fail
  go_returns
  exact⟨HB2.o.1,.inl ⟨by rw[HF.o];simp,by rw[HF.o];simp⟩⟩
 go_wp2_with fail
 refine(H2.o _).mono ?_
 rintro e w3 ⟨rfl,hb⟩
 have hk3:=(hb.block _ l2).trans HB2.o.2
 have HB3:=ae (ag (aW HB2.o.1 hb) hk3)
 obtain⟨c3,f3,l3⟩:=af hk3
 clear hb hk3 c2 f2 l2
 cases r2
 ·have hF:iR l=1:=by rw[HW.o,HA.o];rfl
  have HF:=ae hF
  clear hF
  go_wp2_with fail
  go_returns
  exact⟨HB3.o.1,.inl ⟨by rw[HF.o];simp,by rw[HF.o];simp⟩⟩
 go_wp2_with fail
 refine(H3.o _ HB3.o.1).mono ?_
 rintro e w4 ⟨rfl,hb⟩
 have hk4:=(hb.block _ l3).trans HB3.o.2
 have HB4:=ae (ag (aW HB3.o.1 hb) hk4)
 obtain⟨c4,f4,l4⟩:=af hk4
 clear hb hk4 c3 f3 l3
 cases r3
 ·have hF:iR l=1:=by rw[HW.o,HA.o];rfl
  have HF:=ae hF
  clear hF
  go_wp2_with fail
  go_returns
  exact⟨HB4.o.1,.inl ⟨by rw[HF.o];simp,by rw[HF.o];simp⟩⟩
 have hS:pX l:=JJ h5 HQ.o (by rw[HA.o];rfl)
 have hW:iR l=if gz l (upto l.notes.length)=false then 9 else 0:=by rw[HW.o,HA.o];rfl
 have HS:=ae hS
 have HW':=ae hW
 clear hS hW
 go_wp2_with fail
 refine(XI l _ _ HS.o.field (by have:=HS.o.rate;omega) (by have:=HS.o.rate;omega) w4 (HT.o.below HB4.o.1 (ai _)) (HN.o.below HB4.o.1 (ai _))).mono ?_
 rintro e w5 ⟨wb,mb,v,rfl,hwb,hmb,htab,hlw,hb⟩
 have hk5:=(hb.block _ l4).trans HB4.o.2
 have agX:FO w5 wb mb l (.slice ot l.field.az.length ct) (.slice on l.notes.length cn) v:=⟨hlw,[],MC htab⟩
 have hs4:=HB4.o.1.size
 have nM:=ae (ag (aW HB4.o.1 hb) (ag hk5 agX))
 obtain⟨c5,f5,l5⟩:=af hk5
 obtain⟨n,hn⟩: ∃n,l.notes.length=n:=⟨_,rfl⟩
 have hmk:=vZ n (by omega)
 rw[hn] at HW' c5
 have Lm:=ae hn
 have hn5:n<=5:=by omega
 clear hb hk5 hlw htab c4 f4 l4 agX hn
 go_upto_region 11 with(fail)
 refine dI fun W6 KG=>?_
 have TU:Below w5.heap.size w5 W6:=by rw[KG];exact aj (aG _ _) _
 have hk6:W6.heap[w5.heap.size]? =some (.cells (ah (Cc n 0)).toArray 3 (0,0)):=by rw[KG,XN];exact ax _ _
 have H6:=ae (ag TU hk6)
 clear KG TU hk6 hmk c5 f5 l5
 go_wp2_with fail
 go_loopw [50] (fun u wr=> ∃k:Nat,k<=n/\u= .int .i64 k/\wr.heap[w5.heap.size]? =some (.cells (ah (Cc n k)).toArray 3 (0,0))/\Below w5.heap.size w5 wr) (fun u _=>n-(intOf u).toNat)
 case atStart=>exact⟨0,bQ _,rfl,H6.o.2,H6.o.1⟩
 case round=>
  obtain⟨k,hk,rfl,hcb,hB⟩:=hrel
  by_cases hlt:k<n
  ·have hcell:=gJ hcb (show k<(Cc n k).length by rw[Qb];exact hlt)
   generalize (Cc n k)[k]'(by rw[Qb];exact hlt)=x at hcell
   have hlb:=dN wr _ hcell
   have hfr:=bD hcb k
   have HX:=ae (ag hcb hB)
   clear hcb hB
   go_wp2_with fail
   go_roundw
   case rel=>
    refine⟨k+1,by omega,by go_num,?_,iI HX.o.2 (ai _) _⟩
    rw[<-aaT hlt, <-sU]
    exact aJ HX.o.1 _
   case measure=>simp[intOf];omega
  ·have hkn:k=n:=by omega
   subst hkn
   rw[aaU] at hcb
   have vN:aP wr (.slice (some ⟨w5.heap.size,0,none⟩) k k) (upto k):=by
    have hul:(upto k).length=k:=by simp[upto]
    have:=aN.dw (w:=wr) (cs:=(ah (upto k)).toArray) 1 k hcb (by simp[ah,hul]) (by simp only[maxLen];omega)
    show aN 1 _ _ (upto k).length _
    rw[hul]
    exact this
   have HP:=ae (pI HS.o (upto k) (nM.o.2.2.below hB (ai _)) vN)
   have HX:=ae hB
   obtain⟨q,hq⟩: ∃q,gz l (upto k)=q:=⟨_,rfl⟩
   rw[hq] at HP HW'
   clear hcb hB vN hq
   go_wp2_with fail
   refine HP.o.mono ?_
   rintro e w7 ⟨rfl,hkn,hE⟩
   have TT:Below w.heap.size w w7:=by
    have h1:=aW nM.o.1 (HX.o)
    exact iD h1 hE (by omega)
   have HX7:=ae (ag hkn.ok TT)
   clear hkn hE TT
   cases q
   ·have HF:=ae HW'.o
    go_wp2_with fail
    go_returns
    exact⟨HX7.o.2,.inl ⟨by rw[HF.o];simp,by rw[HF.o];simp⟩⟩
   ·have HF:=ae HW'.o
    go_wp2_with fail
    go_returns
    exact⟨HX7.o.2,.inr ⟨by rw[HF.o];rfl,wb,mb,v,by simp,by omega,by omega,HX7.o.1⟩⟩
end Go.Proofs.YthbpmepjmebolaaGreatDoor
namespace Go.Proofs.YthbpmepjmebolaaGreatDoor
open Go.RowKit Go.RG Go.SL Go.Shelf jv Go.TB
theorem FP (l:aQ) (tv nv:Value) (w:World) (ht:dM w tv l.field.az) (hn:bg w nv l.notes):
 Calls Tryz.prog 18 #[lv l tv nv] w (PV (iv (iR l)) w):=by
 have HC:=ae (yT l tv nv (w.alloc (.cells (kY l tv nv) 33)) (ht.alloc _) (hn.alloc _))
 obtain⟨q,hq⟩: ∃q,iR l=q:=⟨_,rfl⟩
 rw[hq]
 have HQ:=ae hq
 clear ht hn hq
 go_enter Tryz.func18,Tryz.ntmps18
 go_wp2_with fail
 refine HC.o.mono ?_
 rintro e w1 ⟨hb,⟨hne,rfl⟩|⟨h0,wb,mb,v,rfl,_,_,hok⟩⟩
 ·have HB:=ae (show Below w.heap.size w w1 from zl)
  rw[HQ.o]
  clear hb hne
  go_wp2_with fail
  go_returns
  exact⟨by simp,HB.o⟩
 ·have HB:=ae (show Below w.heap.size w w1 from zl)
  have hq0:q=0:=HQ.o.symm.trans h0
  have jS:=ae hq0
  clear hb hok h0 hq0
  go_wp2_with fail
  go_returns
  exact⟨by rw[jS.o];simp,HB.o⟩
theorem pR {l:aQ} (h:iR l=0):pX l/\gz l (upto l.notes.length)=true:=by
 unfold iR at h
 split at h
 ·omega
 ·rename_i h1
  split at h
  ·omega
  ·rename_i h2
   split at h
   ·omega
   ·rename_i h3
    split at h
    ·omega
    ·rename_i h4
     exact⟨JJ h1 (by omega) (by simpa using h3),by simpa using h4⟩
structure pY (w0:World) (Ms:List Nat) (gU:World->Prop) (zJ:Value) (below fb pb bb ab:Nat) (W:World):Prop where
 ext:Ext Ms w0 W
 cache:gU W
 found: ∃o n c,W.heap[fb]? =some (.cells #[.slice o n c] 36 (0,0))
 pass:W.heap[pb]? =some (.cells #[zJ] 157 (0,0))
 bound:W.heap[bb]? =some (.cells #[iv below] 3 (0,0))
 add:W.heap[ab]? =some (.cells #[.func (.func 170) #[] #[.pointer (some ⟨fb,0,none⟩),.pointer (some ⟨pb,0,none⟩),.pointer (some ⟨bb,0,none⟩),.pointer (some ⟨ab,0,none⟩)]] 256 (0,0))
 new:w0.heap.size<=fb/\w0.heap.size<=pb/\w0.heap.size<=bb/\w0.heap.size<=ab
 old: ∀m∈Ms,m<w0.heap.size
 good:abI Ms gU
theorem pY.table {w0 W W':World} {Ms:List Nat} {gU:World->Prop} {zJ:Value} {below fb pb bb ab:Nat} (h:pY w0 Ms gU zJ below fb pb bb ab W) (hE:Ext Ms W W') (hc:gU W'):pY w0 Ms gU zJ below fb pb bb ab W':=by
 have hn:=h.new
 have ho:=h.old
 obtain⟨o,n,c,hf⟩:=h.found
 have k: ∀(b:Nat) (x:Obj),W.heap[b]? =some x->w0.heap.size<=b->W'.heap[b]? =some x:=fun b x hb hle=>(hE.block b (aV.1 hb).1 (fun hm=>by have:=ho b hm;omega)).trans hb
 exact⟨h.ext.trans hE,hc,⟨o,n,c,k _ _ hf hn.1⟩,k _ _ h.pass hn.2.1,k _ _ h.bound hn.2.2.1,k _ _ h.add hn.2.2.2,hn,ho,h.good⟩
theorem pY.below {w0 W W':World} {Ms:List Nat} {gU:World->Prop} {zJ:Value} {below fb pb bb ab:Nat} (h:pY w0 Ms gU zJ below fb pb bb ab W) (hB:Below W.heap.size W W'):pY w0 Ms gU zJ below fb pb bb ab W':=
 h.table (Ext.aA hB) (h.good.kept _ _ h.cache fun m hm=>hB.block m (by have:=h.old m hm;have:=h.ext.size;omega))
def abN (w0:World) (Ms:List Nat) (gU:World->Prop) (zJ:Value) (below fb pb bb ab:Nat) (r:Option (List Int)) (W:World) (e:Ending) (W':World):Prop:=
 (pY w0 Ms gU zJ below fb pb bb ab W'/\Ext (fb::Ms) W W')/\((∃c,r=some c/\e= .returned (.bool true)/\ ∃sv,W'.heap[fb]? =some (.cells #[sv] 36 (0,0))/\aP W' sv c)∨(r=none/\e= .returned (.bool false)))
theorem pY.set {w0 W:World} {Ms:List Nat} {gU:World->Prop} {zJ:Value} {below fb pb bb ab:Nat} (h:pY w0 Ms gU zJ below fb pb bb ab W) (hd:fb≠pb/\fb≠bb/\fb≠ab) (o:Option Addr) (n c:Nat):pY w0 Ms gU zJ below fb pb bb ab (W.setCell ⟨fb,0,none⟩ (.slice o n c)):=by
 have hn:=h.new
 have ho:=h.old
 obtain⟨o',n',c',hf⟩:=h.found
 exact⟨h.ext.set hn.1 _,h.good.kept _ _ h.cache (fun m hm=>dJ _ _ _ _ (by have:=ho m hm;show m≠fb;omega)),⟨o,n,c,aJ hf _⟩,
  (dJ _ _ _ _ (by show pb≠fb;omega)).trans h.pass,(dJ _ _ _ _ (by show bb≠fb;omega)).trans h.bound,(dJ _ _ _ _ (by show ab≠fb;omega)).trans h.add,hn,ho,h.good⟩
theorem pY.not {w0 W:World} {Ms:List Nat} {gU:World->Prop} {zJ:Value} {below fb pb bb ab:Nat} (h:pY w0 Ms gU zJ below fb pb bb ab W): ∀x∈fb::Ms, ∀o n,W.cell? ⟨x,o,none⟩≠some (.int .i64 n):=by
 intro x hx o n hc
 obtain⟨o',n',c',hf⟩:=h.found
 rcases gY.1 hx with rfl|hx
 ·simp only[World.cell?,hf] at hc
  cases o with
  |zero=>simp at hc
  |succ o=>simp at hc
 ·rw[h.good.none _ h.cache x hx o] at hc;cases hc
theorem abn (below:Nat) (hbl:below<=500) (p:List Int->Bool) (Ms:List Nat) (gU:World->Prop) (w0:World) (pf:Nat) (ql kX:Array Value) (fb pb bb ab:Nat) (hd:fb≠pb/\fb≠bb/\fb≠ab)
 (eg: ∀args w,(callFunc pf args).run Tryz.prog w= .ok (.enter pf args) w)
 (wz: ∀l v W,(∀x∈l,0<=x/\x<(below:Int))->Ext Ms w0 W->gU W->aP W v l->Calls Tryz.prog pf (ql.push v++kX) W (fun e W'=>e= .returned (.bool (p l))/\gU W'/\Ext Ms W W')):
 ∀(m f:Nat) (l:List Int) (v:Value) (W:World),l.length+m<=900->f<=900->m<=900->(∀x∈l,0<=x/\x<(below:Int))->pY w0 Ms gU (.func (.func pf) ql kX) below fb pb bb ab W->aP W v l->
  Calls Tryz.prog 170 #[v,iv f,iv m,.pointer (some ⟨fb,0,none⟩),.pointer (some ⟨pb,0,none⟩),.pointer (some ⟨bb,0,none⟩),.pointer (some ⟨ab,0,none⟩)] W
   (abN w0 Ms gU (.func (.func pf) ql kX) below fb pb bb ab (((jP below m f).map (l++ ·)).find? p) W):=by
 intro m
 induction m with
 |zero=>
  intro f l v W h1 h2 h3 hlb hst hv
  have hres:((jP below 0 f).map (l++ ·)).find? p=if p l then some l else none:=by
   simp only[jP,List.map_cons,List.map_nil,List.append_nil,List.find?_cons,List.find?_nil]
   cases p l <;>rfl
  obtain⟨r,hr⟩: ∃r,((jP below 0 f).map (l++ ·)).find? p=r:=⟨_,rfl⟩
  rw[hr] at hres⊢
  have xX:=ae hres
  clear hr hres
  obtain⟨o,c,rfl⟩:=hv.open
  obtain⟨o',n',c',hf⟩:=hst.found
  have c1:=aC hf
  have c2:=aC hst.pass
  have hlt:=dN W _ c1
  have hfr:=bD hf 0
  have hS:=hst.set hd o l.length c
  have hv1:aP (W.setCell ⟨fb,0,none⟩ (.slice o l.length c)) (.slice o l.length c) l:=aP.uT hv ((mO W ⟨fb,0,none⟩ _).more (Ms':=fb::Ms) (by simp)) hst.not
  have HC:=ae (wz l _ _ hlb hS.ext hS.cache hv1)
  have HS:=ae hst
  have NL:=ae (ag hS hv1)
  have HF:=ae hf
  have hd1: ¬pb=fb:=fun e=>hd.1 e.symm
  have hd2:=hd.1
  clear wz hst hv hS hv1 hf
  go_enter Tryz.func170,Tryz.ntmps170
  go_wp2_with fail
  refine HC.o.mono ?_
  rintro e W' ⟨rfl,hcc,hE⟩
  have hS2:=NL.o.1.table hE hcc
  have hn:=HS.o.new
  have ho:=HS.o.old
  have hfb:W'.heap[fb]? =some (.cells #[.slice o l.length c] 36 (0,0)):=(hE.block fb (by simpa [World.setCell] using hlt) (fun hm=>by have:=ho fb hm;omega)).trans (aJ HF.o _)
  have hEE:Ext (fb::Ms) W W':=((mO W ⟨fb,0,none⟩ (.slice o l.length c)).more (by simp)).trans (hE.more (fun x hx=>qG _ hx))
  have hv2:aP W' (.slice o l.length c) l:=aP.uT NL.o.2 (hE.more (Ms':=fb::Ms) (fun x hx=>qG _ hx)) NL.o.1.not
  have HR:=ae (ag hS2 (ag hfb (ag hEE hv2)))
  clear hcc hE hS2 hfb hEE hv2
  go_wp2_with fail
  go_returns
  refine⟨⟨HR.o.1,HR.o.2.2.1⟩,?_⟩
  have hre:=xX.o
  revert hre
  cases p l
  ·intro hre;exact .inr ⟨by simpa using hre,by simp⟩
  ·intro hre;exact .inl ⟨l,by simpa using hre,by simp,_,HR.o.2.1,HR.o.2.2.2⟩
 |succ m ih=>
  intro f l v W h1 h2 h3 hlb hst hv
  obtain⟨o,c,rfl⟩:=hv.open
  have hres:((jP below (m+1) f).map (l++ ·)).find? p=((List.range (below-m-f)).flatMap fun j=>(jP below m (f+j+1)).map ((l++[((f+j:Nat):Int)])++ ·)).find? p:=by
   conv=>lhs;unfold jP
   rw[List.map_flatMap]
   simp only[List.map_map]
   congr 2
   funext j
   apply List.map_congr_left
   intro x _
   simp
  rw[hres]
  clear hres
  obtain⟨r,hr⟩: ∃r,((List.range (below-m-f)).flatMap fun j=>(jP below m (f+j+1)).map ((l++[((f+j:Nat):Int)])++ ·)).find? p=r:=⟨_,rfl⟩
  rw[hr]
  have xX:=ae hr
  clear hr
  have hmm:(m:Int)+1<=900:=by omega
  have hm0:((m:Int)+1==0)=false:=by simp;omega
  have aky: ¬((m:Int)+1=0):=by omega
  rw[show(((m+1:Nat)):Int)=(m:Int)+1 from by omega]
  have HST:=ae hst
  have HV:=ae hv
  have HIH:=ae ih
  have HD:=ae hd
  have HLB:=ae hlb
  clear wz hst hv ih hd hlb
  go_enter Tryz.func170,Tryz.ntmps170
  go_wp2_with fail
  go_loopw [11] (fun i wr=> ∃q:Nat,f<=q/\q<=f+(below-m-f)/\i= .int .i64 q/\pY w0 Ms gU (.func (.func pf) ql kX) below fb pb bb ab wr/\Ext (fb::Ms) W wr/\
   (∀j,f+j<q->((jP below m (f+j+1)).map ((l++[((f+j:Nat):Int)])++ ·)).find? p=none)) (fun i _=>below+f+1-(intOf i).toNat)
  case atStart=>exact⟨f,ai _,by omega,rfl,HST.o,Ext.refl _ _,fun j hj=>by omega⟩
  case round=>
   obtain⟨q,hfq,hq,rfl,hst,hE,hno⟩:=hrel
   have hv:=aP.uT HV.o hE HST.o.not
   have d1:=aC hst.bound
   have d2:=aC hst.add
   have e1:=dN wr _ d1
   have e2:=dN wr _ d2
   have HS:=ae hst
   have HE:=ae hE
   have HN:=ae hno
   have HVV:=ae hv
   clear hst hE hno hv
   by_cases hlt:q<f+(below-m-f)
   ·have hqI:(q:Int)<=(below:Int)-((m:Int)+1):=by omega
    have hq9:(q:Int)<=500:=by omega
    go_wp2_with fail
    refine qI 10 [] (some 5) [(2,⟨fun _ v=> ∃o c,v= .slice o l.length c,fun _ _ _=>True⟩),(4,⟨fun _ v=> ∃b:Nat,v= .slice (some ⟨b,0,none⟩) 1 1,fun _ _ _=>True⟩),(5,⟨fun _ v=> ∃o c,v= .slice o (l.length+1) c,fun _ v W=>W.ownsRow wr.heap.size 3 1 v (l.length+1) (ah (l++[(q:Int)]))⟩)] (agj wr.heap.size l.length l q) (by kernel_rfl) (by kernel_rfl) ?_
    simp only[zt]
    repeat (refine zd ?_;simp only[zp])
    refine kV _ (by rfl) (by rfl) (by exact⟨.slice none l.length 0,none,0,rfl⟩) (fun W1 hE hF hG=>?_) (fun _ _ _ _ _=>trivial) (fun v Wa Wb ho hE=>aB (Ms:=[]) ho hE (by simp)) (fun v hv=>?_)
    ·have hE':uO wr.heap.size [] wr W1:=hE
     refine dF 98 #[.slice o l.length c] (by go_simp;try rfl) ?_
     refine(clone_any l _ W1 (HVV.o.below (qA hE' (ai _)) (ai _)) (by omega)).mono ?_
     rintro e W2 ⟨v,rfl,ho,hb⟩
     refine⟨v,rfl,aS ho,trivial,Ext.aA hb,dm ho hE'.size⟩
    obtain⟨o2,c2,rfl⟩:=hv
    simp only[zp]
    repeat (refine zd ?_;simp only[zp])
    refine kV _ (by rfl) (by rfl) (by exact⟨.slice (some ⟨0,0,none⟩) 1 1,0,rfl⟩) (fun W1 hE hF hG=>?_) (fun _ _ _ _ _=>trivial) (fun v Wa Wb ho hE=>?_) (fun v hv=>?_)
    ·refine jm (W':=W1.alloc (.cells #[iv q] 3)) (.slice (some ⟨W1.heap.size,0,none⟩) 1 1) (by go_simp;try rfl) ⟨⟨_,rfl⟩,trivial,Ext.aA ((aG _ _).alloc (ai _) _),_,rfl,heap_alloc_new _ _⟩
    ·obtain⟨b,hb,hc⟩:=ho
     exact⟨b,hb,(hE.block b (aV.1 hc).1 (by simp)).trans hc⟩
    obtain⟨b4,rfl⟩:=hv
    simp only[zp]
    refine kV _ (by rfl) (by rfl) (by exact⟨.slice none (l.length+1) 0,none,0,rfl⟩) (fun W1 hE hF hG=>?_) (fun v Wa Wb ho hE=>aB (Ms:=[]) ho hE (by simp)) (fun _ _ _ _ _=>trivial) (fun v hv=>?_)
    ·obtain⟨b,hb,hc⟩:=hG rfl _ (bI _) (by kernel_rfl)
     cases hb
     have ho:W1.ownsRow wr.heap.size 3 1 (.slice o2 l.length c2) l.length (ah l):=hG rfl _ (nS _ (bI _)) (by kernel_rfl)
     have hE':Ext [] wr W1:=hE
     have hsrc:aN 1 W1 (.slice (some ⟨b4,0,none⟩) 1 1) 1 (ah [(q:Int)]):=aN.dw 1 1 hc rfl (by decide)
     refine Does.mono (yR rG (by rfl) (by rfl) ho (by rfl) hsrc (jC _) (by omega) (by omega) hE'.size) ?_
     rintro v W2 ⟨hown,hgr⟩
     rw[<-vG] at hown
     obtain⟨o5,c5,rfl⟩:=aS hown
     exact⟨⟨o5,c5,rfl⟩,hown,Ig ho hgr,trivial⟩
    obtain⟨o5,c5,rfl⟩:=hv
    simp only[zp]
    repeat (refine zn ?_;simp only[zp])
    intro W1 hE1 hF
    have hE':uO wr.heap.size [] wr W1:=hE1
    have hB:=qA hE' (ai _)
    obtain⟨hc,hf⟩:=bT hB
    have ho:W1.ownsRow wr.heap.size 3 1 (.slice o5 (l.length+1) c5) (l.length+1) (ah (l++[(q:Int)])):=hF _ (bI _)
    have vN:aP W1 (.slice o5 (l.length+1) c5) (l++[(q:Int)]):=by
     have:=aN.dE ho
     unfold aP
     rw[dD]
     exact this
    have hcall:=HIH.o (q+1) (l++[(q:Int)]) _ W1 (by simp;omega) (by omega) (by omega) (fun x hx=>by rcases iT.1 hx with h|h;exact HLB.o x h;(obtain rfl:x=(q:Int):=by simpa using h);omega) (HS.o.below hB) vN
    rw[show(((q+1:Nat)):Int)=(q:Int)+1 from by omega] at hcall
    have HC:=ae hcall
    have HB:=ae hB
    clear hcall vN ho hB hE' hE1 hF
    go_wp2_with fail
    refine HC.o.mono ?_
    rintro e W2 ⟨⟨hS2,hE2⟩,hres⟩
    have HS2:=ae hS2
    have HEE:=ae ((HE.o.trans (Ext.aA HB.o)).trans hE2)
    clear hS2 hE2 hc hf d1 d2
    have hq1:f+(q-f)=q:=by omega
    rcases hres with⟨cc,hcc,rfl,sv,hsv,vN⟩|⟨hnone,rfl⟩
    ·have HR:=ae (ag hcc (ag hsv vN))
     clear hcc hsv vN
     go_wp2_with fail
     go_returns
     refine⟨⟨HS2.o,HEE.o⟩,.inl ⟨cc,?_,by simp,sv,HR.o.2⟩⟩
     rw[<-xX.o]
     refine rf p _ _ (q-f) (by simp;omega) cc (fun j hj=>?_) ?_
     ·simp only[List.getElem_range]
      exact HN.o j (by omega)
     ·simp only[List.getElem_range,hq1]
      exact HR.o.1
    ·have HR:=ae hnone
     clear hnone
     go_wp2_with fail
     go_roundw
     case rel=>
      refine⟨q+1,by omega,by omega,by go_num,HS2.o,HEE.o,fun j hj=>?_⟩
      by_cases hjq:f+j=q
      ·rw[hjq];exact HR.o
      ·exact HN.o j (by omega)
     case measure=>simp[intOf];omega
   ·have hqI: ¬((q:Int)<=(below:Int)-((m:Int)+1)):=by omega
    go_wp2_with fail
    go_returns
    refine⟨⟨HS.o,HE.o⟩,.inr ⟨?_,by simp⟩⟩
    rw[<-xX.o]
    exact tX p _ _ (fun j hj=>by
     simp only[List.length_range] at hj
     simp only[List.getElem_range]
     exact HN.o j (by omega))
def adf (Ms:List Nat) (gU:World->Prop) (r:Option (List Int)) (w:World) (e:Ending) (W':World):Prop:=
 (gU W'/\Ext Ms w W')/\((∃c v,r=some c/\e= .returned v/\aP W' v c)∨(r=none/\ ∃o n c,e= .returned (.slice o n c)))
theorem pY.fin {w0 W:World} {Ms:List Nat} {gU:World->Prop} {zJ:Value} {below fb pb bb ab:Nat} (h:pY w0 Ms gU zJ below fb pb bb ab W):gU W/\Ext Ms w0 W:=⟨h.cache,h.ext⟩
theorem I8 (below:Nat) (hbl:below<=500) (p:List Int->Bool) (Ms:List Nat) (gU:World->Prop) (hG:abI Ms gU) (w:World) (hcc:gU w) (hmb: ∀m∈Ms,m<w.heap.size) (pf:Nat) (ql kX:Array Value)
 (eg: ∀args w,(callFunc pf args).run Tryz.prog w= .ok (.enter pf args) w)
 (wz: ∀l v W,(∀x∈l,0<=x/\x<(below:Int))->Ext Ms w W->gU W->aP W v l->Calls Tryz.prog pf (ql.push v++kX) W (fun e W'=>e= .returned (.bool (p l))/\gU W'/\Ext Ms W W')):
 Calls Tryz.prog 104 #[iv below,.func (.func pf) ql kX] w (adf Ms gU (nO below p) w):=by
 have HA:=ae (fun(m:Nat) (W:World) (hm:m<=501) (hst:pY w Ms gU (.func (.func pf) ql kX) below (w.heap.size+1+1) (w.heap.size+1) w.heap.size (w.heap.size+1+1+1) W)=>
  abn below hbl p Ms gU w pf ql kX (w.heap.size+1+1) (w.heap.size+1) w.heap.size (w.heap.size+1+1+1) (by omega) eg wz m 0 [] (.slice none 0 0) W (by simp;omega) (by omega) (by omega) (by simp) hst (qQ W))
 obtain⟨r,hr⟩: ∃r,nO below p=r:=⟨_,rfl⟩
 rw[hr]
 have HR:=ae hr
 have HCC:=ae hcc
 clear wz eg hcc hr
 go_enter Tryz.func104,Tryz.ntmps104
 go_wp2_with fail
 go_step3
 go_wp2_with fail
 go_step3
 go_wp2_with fail
 obtain⟨w4,hw4⟩: ∃w4,((((w.alloc (.cells #[iv below] 3)).alloc (.cells #[.func (.func pf) ql kX] 157)).alloc (.cells #[.slice none 0 0] 36)).alloc
  (.cells #[.func (.func 170) #[] #[.pointer (some ⟨w.heap.size+1+1,0,none⟩),.pointer (some ⟨w.heap.size+1,0,none⟩),.pointer (some ⟨w.heap.size,0,none⟩),.pointer (some ⟨w.heap.size+1+1+1,0,none⟩)]] 256))=w4:=⟨_,rfl⟩
 have aaf:pY w Ms gU (.func (.func pf) ql kX) below (w.heap.size+1+1) (w.heap.size+1) w.heap.size (w.heap.size+1+1+1) w4:=by
  have hB:Below w.heap.size w w4:=by rw[<-hw4];exact zl
  refine⟨Ext.aA hB,hG.kept _ _ HCC.o (fun m hm=>hB.block m (hmb m hm)),⟨none,0,0,?_⟩,?_,?_,?_,by omega,hmb,hG⟩
  ·rw[<-hw4];exact(aX _ _ _ (by simp)).trans (iG _ _ _ _)
  ·rw[<-hw4];exact(aX _ _ _ (by simp)).trans ((aX _ _ _ (by simp)).trans (eF _ _ _))
  ·rw[<-hw4];exact(aX _ _ _ (by simp;omega)).trans ((aX _ _ _ (by simp;omega)).trans ((aX _ _ _ (by simp)).trans (ax _ _)))
  ·rw[<-hw4];have:=ax (((w.alloc (.cells #[iv below] 3)).alloc (.cells #[.func (.func pf) ql kX] 157)).alloc (.cells #[.slice none 0 0] 36)) (.cells #[.func (.func 170) #[] #[.pointer (some ⟨w.heap.size+1+1,0,none⟩),.pointer (some ⟨w.heap.size+1,0,none⟩),.pointer (some ⟨w.heap.size,0,none⟩),.pointer (some ⟨w.heap.size+1+1+1,0,none⟩)]] 256);simpa using this
 rw[hw4]
 have HS0:=ae aaf
 clear aaf hw4
 go_loopw [10] (fun i wr=> ∃k:Nat,k<=below+1/\i= .int .i64 k/\pY w Ms gU (.func (.func pf) ql kX) below (w.heap.size+1+1) (w.heap.size+1) w.heap.size (w.heap.size+1+1+1) wr/\
  (∀j,j<k->(jP below j 0).find? p=none)) (fun i _=>below+1-(intOf i).toNat)
 case atStart=>exact⟨0,bQ _,rfl,HS0.o,fun j hj=>by omega⟩
 case round=>
  obtain⟨k,hk,rfl,hst,hno⟩:=hrel
  have d2:=aC hst.add
  have e2:=dN wr _ d2
  have HS:=ae hst
  have HN:=ae hno
  clear hst hno
  by_cases hlt:k<below+1
  ·have hkI:(k:Int)<(below:Int)+1:=by omega
   have HC:=ae (HA.o k wr (by omega) HS.o)
   go_wp2_with fail
   refine HC.o.mono ?_
   rintro e W2 ⟨⟨hS2,_⟩,hres⟩
   have HS2:=ae hS2
   rcases hres with⟨cc,hcc,rfl,sv,hsv,vN⟩|⟨hnone,rfl⟩
   ·have hr:r=some cc:=by
     rw[<-HR.o]
     exact JO (by omega) HN.o (by simpa using hcc)
    obtain⟨so,sc,rfl⟩:=vN.open
    have f1:=aC hsv
    have f2:=bD hsv 0
    have f3:=dN W2 _ f1
    have HX:=ae (ag hr (ag hsv vN))
    clear hr hsv vN hS2 hcc d2
    go_wp2_with fail
    (try rw[Exit.noGoto_ret])
    have hcell:(W2.setCell ⟨w.heap.size+1+1,0,none⟩ (.slice so cc.length sc)).cell? ⟨w.heap.size+1+1,0,none⟩=some (.slice so cc.length sc):=aC (aJ HX.o.2.1 _)
    refine bodyPost_ret (v:= .slice so cc.length sc) (by simp[results,Tryz.results104,go_sem,hcell]) rfl ?_
    refine⟨(HS2.o.set (by omega) so cc.length sc).fin,.inl ⟨cc,_,HX.o.1,rfl,?_⟩⟩
    exact aP.uT HX.o.2.2 ((mO W2 ⟨w.heap.size+1+1,0,none⟩ _).more (Ms':=(w.heap.size+1+1)::Ms) (by simp)) HS2.o.not
   ·have HX:=ae hnone
    clear hnone hS2 d2
    go_wp2_with fail
    go_roundw
    case rel=>
     refine⟨k+1,by omega,by go_num,HS2.o,fun j hj=>?_⟩
     by_cases hjq:j=k
     ·subst hjq;simpa using HX.o
     ·exact HN.o j (by omega)
    case measure=>simp[intOf];omega
  ·have hkI: ¬((k:Int)<(below:Int)+1):=by omega
   obtain⟨o',n',c',hf⟩:=HS.o.found
   have f1:=aC hf
   have f2:=bD hf 0
   have f3:=dN wr _ f1
   have hk1:k=below+1:=by omega
   subst hk1
   have hr:r=none:=by
    rw[<-HR.o]
    exact JM HN.o
   go_wp2_with fail
   (try rw[Exit.noGoto_ret])
   have hcell:(wr.setCell ⟨w.heap.size+1+1,0,none⟩ (.slice o' n' c')).cell? ⟨w.heap.size+1+1,0,none⟩=some (.slice o' n' c'):=aC (aJ hf _)
   refine bodyPost_ret (v:= .slice o' n' c') (by simp[results,Tryz.results104,go_sem,hcell]) rfl ?_
   exact⟨(HS.o.set (by omega) o' n' c').fin,.inr ⟨rfl,_,_,_,rfl⟩⟩
end Go.Proofs.YthbpmepjmebolaaGreatDoor
end
section
namespace Go.Proofs.YthbpmepjmebolaaGreatDoor
open Go.RowKit Go.RG Go.SL Go.Shelf jv Go.TB
theorem Hw (r x:dY) (w:World):Calls Tryz.prog 238 #[rv r,rv x] w (PV (rv (xZ r x)) w):=by
 go_enter Tryz.func238,Tryz.ntmps238
 go_wp2_with fail
 refine zg 12 [] none [(4,Spec.slice (w.heap.size+3) #[iv r.1,iv x.1] 3 2),(5,Spec.val (iv (min r.1 x.1)))] ?_
 simp only[zt]
 repeat (refine zd ?_;simp only[zp])
 refine eH (w.heap.size+3) _ _ _ (by rfl) (by simp) (by rfl) (by simp) (by simp) (fun W hW=>by go_simp;try rfl) (fun b=>?_)
 simp only[zp]
 refine eX _ (by rfl) (by rfl) 277 _ (fun W hW=>by go_simp;try rfl) (fun W hE hF=>?_) ?_
 ·obtain⟨c,hcb,hB,hc⟩:=hF _ (bI _) (by kernel_rfl)
  cases hcb
  exact BX r.1 x.1 b 2 W (by simp[World.cell?,hc]) (by simp[World.cell?,hc])
 simp only[zp]
 repeat (refine zd ?_;simp only[zp])
 intro W hE hF
 obtain⟨hc,hf⟩:=bT hE.below
 have hzE:=hE.size
 (try simp only[bG] at hzE)
 go_wp2
 all_goals
  (try simp only[Exit.inBlock,Exit.then])
  refine bodyPost_ret (v:=rv (min r.1 x.1,max r.2 x.2)) (by simp[results,Tryz.results238,go_sem,hc];try omega) rfl ?_
  exact⟨rfl,ze⟩
abbrev acv (d:Int) (r:dY):Value:= .agg #[iv d,iv r.1,iv r.2]
theorem OV (d:Int) (r:dY) (w:World) (h:(0<=d/\d<=350)/\0<=r.1/\r.1<=r.2/\r.2<=2000):Calls Tryz.prog 96 #[acv d r] w (PV (rv (oP d r)) w):=by
 obtain⟨p,q⟩:=r
 have h1: -10000<=d-q/\d-q<=10000:=by simp only at h;omega
 have h2: -10000<=d-p/\d-p<=10000:=by simp only at h;omega
 clear h
 go_enter Tryz.func96,Tryz.ntmps96
 go_wp2_with fail
 go_returns
 exact⟨by simp[oP],zl⟩
def gX (l:aQ) (fine:Bool):Int:=if iR l≠0 then iR l else if fine=false then 2 else if gz l []=false then 11 else 0
def YX (l:aQ) (fine:Bool) (tv nv:Value) (w:World) (e:Ending) (w':World):Prop:=
 Below w.heap.size w w'/\((gX l fine≠0/\e= .returned (.tuple #[.pointer none,iv (gX l fine)]))∨
  (gX l fine=0/\ ∃(wb mb:Nat) (v:Value),e= .returned (.tuple #[.pointer (some ⟨wb,0,none⟩),iv 0])/\w.heap.size<=wb/\w.heap.size<=mb/\IJ w' wb mb l tv nv v []))
theorem Fp {l:aQ} {fine:Bool} (h:gX l fine=0):pX l/\iR l=0/\fine=true/\gz l []=true:=by
 unfold gX at h
 split at h
 ·rename_i h0;exact absurd h h0
 ·rename_i h0
  have h0:iR l=0:=by omega
  split at h
  ·omega
  ·rename_i h1
   split at h
   ·omega
   ·rename_i h2
    exact⟨(pR h0).1,h0,by simpa using h1,by simpa using h2⟩
theorem wH (l:aQ) (tv nv:Value) (fine:Bool) (w:World) (ht:dM w tv l.field.az) (hn:bg w nv l.notes):
 Calls Tryz.prog 163 #[lv l tv nv,.bool fine] w (YX l fine tv nv w):=by
 have HC:=ae (yT l tv nv (w.alloc (.cells (kY l tv nv) 33)) (ht.alloc _) (hn.alloc _))
 clear ht hn
 obtain⟨q,hq⟩: ∃q,iR l=q:=⟨_,rfl⟩
 by_cases hq0:q=0
 case neg=>
  have HF:Hid (gX l fine=q/\q≠0):=ae ⟨by unfold gX;rw[hq,aF hq0],hq0⟩
  have hqb:(q !=0)=true:=by simpa using hq0
  have HQ:=ae hq
  clear hq hq0
  go_enter Tryz.func163,Tryz.ntmps163
  go_wp2_with fail
  refine HC.o.mono ?_
  rintro e w1 ⟨hb,⟨hne,rfl⟩|⟨h0,_⟩⟩
  ·rw[HQ.o]
   have HB:=ae (show Below w.heap.size w w1 from zl)
   clear hb hne
   go_wp2_with fail
   go_returns
   exact⟨HB.o,.inl ⟨by rw[HF.o.1];exact HF.o.2,by rw[HF.o.1];simp⟩⟩
  ·exact absurd (HQ.o.symm.trans h0) HF.o.2
 subst hq0
 obtain⟨hS,_⟩:=pR hq
 have HS:=ae hS
 have HQ:=ae hq
 cases fine
 ·have HF:Hid (gX l false=2):=ae (by unfold gX;rw[hq];rfl)
  clear hq hS
  go_enter Tryz.func163,Tryz.ntmps163
  go_wp2_with fail
  refine HC.o.mono ?_
  rintro e w1 ⟨hb,⟨hne,_⟩|⟨_,wb,mb,v,rfl,hwb,hmb,hok⟩⟩
  ·exact absurd HQ.o hne
  have HB:=ae (show Below w.heap.size w w1 from zl)
  clear hb hok
  go_wp2_with fail
  go_returns
  exact⟨HB.o,.inl ⟨by rw[HF.o];simp,by rw[HF.o];simp⟩⟩
 obtain⟨r,hr⟩: ∃r,gz l []=r:=⟨_,rfl⟩
 have HF:Hid (gX l true=if r=false then 11 else 0):=ae (by unfold gX;rw[hq,hr];simp)
 have HR:=ae hr
 clear hq hS hr
 go_enter Tryz.func163,Tryz.ntmps163
 go_wp2_with fail
 refine HC.o.mono ?_
 rintro e w1 ⟨hb,⟨hne,_⟩|⟨_,wb,mb,v,rfl,hwb,hmb,hok⟩⟩
 ·exact absurd HQ.o hne
 have HP:=ae (HR.o▸pI HS.o [] hok (aN.nil 1 w1))
 have hsz:=bG w (.cells (kY l tv nv) 33)
 have aj9:w.heap.size<=wb:=by omega
 have Xx:w.heap.size<=mb:=by omega
 have HB:=ae (show Below w.heap.size w w1 from zl)
 clear hb hok hwb hmb hsz
 go_wp2_with fail
 refine HP.o.mono ?_
 rintro e w2 ⟨rfl,hkn,hE⟩
 have HX:=ae (ag (iD HB.o hE Xx) hkn)
 clear hkn hE
 cases r
 ·have Lr:=ae HF.o
  go_wp2_with fail
  go_returns
  exact⟨HX.o.1,.inl ⟨by rw[Lr.o];simp,by rw[Lr.o];simp⟩⟩
 ·have Lr:=ae HF.o
  go_wp2_with fail
  go_returns
  exact⟨HX.o.1,.inr ⟨by rw[Lr.o];rfl,wb,mb,v,by simp,aj9,Xx,HX.o.2⟩⟩
end Go.Proofs.YthbpmepjmebolaaGreatDoor
namespace Go.Proofs.YthbpmepjmebolaaGreatDoor
open Go.RowKit Go.RG Go.SL Go.Shelf jv Go.TB
theorem OT {l:aQ} (hS:pX l) {d:List Int} (hd:d∈gy l) (hc:jF l [] d=true) {i:Nat} (hi:i<l.field.aO.toNat):
 0<=((kP l [] d).getD i (0,0)).1/\((kP l [] d).getD i (0,0)).1<=((kP l [] d).getD i (0,0)).2/\((kP l [] d).getD i (0,0)).2<=2000:=by
 have h1:=SG hi (by have:=hS.box;omega) hc
 have hF:=iJ hS.field
 have:=hF.xG
 have hb:=Ij hS hd i (by omega)
 have hk:=Pq hS [] i hb.1 (by omega)
 rw[JY l [] d hi] at h1⊢
 unfold ug at h1⊢
 simp only at h1⊢
 omega
theorem A8 {l:aQ} (hS:pX l) {tv nv v:Value} {wb mb:Nat} (bz:Nat) (p:Int->dY->dY) (w:World) (hw:IJ w wb mb l tv nv v [])
 (eg: ∀args w,(callFunc bz args).run Tryz.prog w= .ok (.enter bz args) w)
 (hp: ∀(d:Int) (r:dY) (W:World),(0<=d/\d<=350)/\0<=r.1/\r.1<=r.2/\r.2<=2000->Calls Tryz.prog bz #[acv d r] W (PV (rv (p d r)) W)):
 Calls Tryz.prog 164 #[.agg #[.func (.func bz) #[] #[]],.pointer (some ⟨wb,0,none⟩)] w (fun e w'=> ∃u,e= .returned u/\w'.ownsRow w.heap.size 30 2 u (CS p l (gy l)).length (aI (CS p l (gy l)))/\Below w.heap.size w w'):=by
 obtain⟨vo,vc,rfl⟩:=hw.work.truth.open
 have hF:=iJ hS.field
 have hlen:(gy l).length<=2500:=ji (AY l _) (lZ hF [])
 have hw0:=hF.zT
 have hw3:=hF.xG
 obtain⟨n,hn⟩: ∃n:Nat,l.field.aO.toNat=n:=⟨_,rfl⟩
 have hn1:1<=n:=by omega
 have hn3:n<=3:=by omega
 have HN:=ae hn
 have HS:=ae hS
 have HP:=ae hp
 obtain⟨W1,hW1⟩: ∃W1,w.alloc (.cells #[.func (.func bz) #[] #[]] 190)=W1:=⟨_,rfl⟩
 have hB1:Below w.heap.size w W1:=by rw[<-hW1];exact aj (aG _ _) _
 have hk1:W1.heap[w.heap.size]? =some (.cells #[.func (.func bz) #[] #[]] 190 (0,0)):=by rw[<-hW1];exact ax _ _
 have acy:=hw.below hB1 (ai _)
 have aew:wb<W1.heap.size:=acy.work.lt
 have agA:w.heap.size<W1.heap.size:=(aV.1 hk1).1
 have H1:=ae (ag hB1 (ag hk1 acy))
 obtain⟨ds,hds⟩: ∃ds,gy l=ds:=⟨_,rfl⟩
 have hck:=acy.work.cells
 rw[hds] at hck hlen⊢
 obtain⟨c1,f1,l1⟩:=af hck
 have HDS:=ae hds
 clear hw hF hw0 hw3 hn hp hS hB1 hk1 acy hds hck
 go_enter Tryz.func164,Tryz.ntmps164
 go_wp2_with fail
 (try rw[hW1])
 clear hW1
 go_loopw [5,18] (fun v5 u wr=> ∃k:Nat,k<=ds.length/\u= .int .i64 k/\(∃oo oc,v5= .slice oo (lX p l k ds).length oc/\wr.ownsRow W1.heap.size 30 2 (.slice oo (lX p l k ds).length oc) (lX p l k ds).length (aI (lX p l k ds)))/\Below W1.heap.size W1 wr) (fun _ u _=>ds.length-(intOf u).toNat)
 case atStart=>exact⟨0,bQ _,rfl,⟨none,0,rfl,⟨rfl,.inl ⟨rfl,rfl⟩⟩⟩,aG _ _⟩
 case round=>
  obtain⟨k,hk,rfl,⟨oo,oc,rfl,how⟩,hB⟩:=hrel
  by_cases hlt:k<ds.length
  ·have hkn:=H1.o.2.2.below hB (ai _)
   have hk1:=(hB.block _ agA).trans H1.o.2.1
   have htr:=hkn.work.truth
   rw[HDS.o] at htr
   obtain⟨b,off,y0,y1,y2,rfl,hbl,hys,hc0,hc1,hc2⟩:=Eb htr (by rw[<-HDS.o];exact qR l) hlt
   have hacc:=KZ p l ds k hk
   rw[HN.o] at hacc
   have hsu:=Ba p l hlt
   have hdm:ds[k]∈gy l:=by rw[HDS.o];exact cZ _
   obtain⟨d,hd⟩: ∃d,ds[k]=d:=⟨_,rfl⟩
   rw[hd] at hsu hdm hys
   obtain⟨acc,hac⟩: ∃acc,lX p l k ds=acc:=⟨_,rfl⟩
   rw[hac] at how hacc hsu
   rw[hac]
   have ag7:(k:Int)<ds.length:=by omega
   have HD:=ae (ag hys hdm)
   have xJ:=ae hsu
   have HAC:=ae hacc
   have HX:=ae (ag how (ag hB (ag hkn hk1)))
   have hsz:=hB.size
   obtain⟨s3,hs3⟩: ∃s3,wr.heap.size=s3:=⟨_,rfl⟩
   clear how hB hkn hk1 htr hsu hys hdm hd hac hacc hk
   go_upto_region 5 with(fail)
   refine dI fun W5 yH=>?_
   have zK:Below wr.heap.size wr W5:=by rw[yH];exact zl
   have hk5:W5.heap[wr.heap.size]? =some (.cells #[iv y0,iv y1,iv y2] 247 (0,0)):=by rw[yH];exact ax _ _
   have ahf:=HX.o.2.2.1.below zK (ai _)
   have hag:lY d= .agg #[iv y0,iv y1,iv y2]:=by rw[HD.o.1];rfl
   have HPA:=ae (hag▸Vj HS.o HD.o.2 ahf)
   have h51:=(zK.block _ (by omega)).trans HX.o.2.2.2
   have D7:=aW HX.o.2.1 zK
   have aah:W5.ownsRow W1.heap.size 30 2 (.slice oo acc.length oc) acc.length (aI acc):=dR HX.o.1 fun g hg=>zK.block g (bH HX.o.1 g hg).2
   have hog: ∀g,(Value.slice oo acc.length oc).ownBlock=some g->g<s3:=fun g hg=>by rw[<-hs3];exact(bH HX.o.1 g hg).2
   rw[hs3] at hk5
   have aoQ:s3<W5.heap.size:=(aV.1 hk5).1
   have aoS:W1.heap.size<=s3:=by omega
   have H5:=ae (ag aah (ag D7 (ag hk5 (ag h51 hog))))
   obtain⟨c5,f5,l5⟩:=af hk5
   clear yH zK hk5 ahf h51 D7 aah hog hs3 hsz hc0 hc1 hc2 hbl HX hag
   go_wp2_with fail
   refine HPA.o.mono ?_
   rintro e W6 ⟨hb,hcase⟩
   obtain⟨is,ps,pv,rfl,hpo,his,hps⟩: ∃(is:Bool) (ps:List dY) (pv:Value),e= .returned (.tuple #[pv,.bool is])/\W6.ownsRow W5.heap.size 30 2 pv ps.length (aI ps)/\jF l [] d=is/\ps=if is=true then kP l [] d else[]:=by
    rcases hcase with⟨hc,u,rfl,hu⟩|⟨hc,rfl⟩
    ·exact⟨true,kP l [] d,u,rfl,hu,hc,by simp⟩
    ·exact⟨false,[],.slice none 0 0,rfl,⟨rfl,.inl ⟨rfl,rfl⟩⟩,hc,by simp⟩
   obtain⟨po,pc,rfl⟩:=aS hpo
   obtain⟨ns,hns⟩: ∃ns:List dY,(if is=true then rH p l d else[])=ns:=⟨_,rfl⟩
   have hnl:ns.length=ps.length:=by rw[<-hns,hps];cases is <;>simp[oW,JX]
   have hpl:ps.length=if is=true then n else 0:=by rw[hps];cases is <;>simp[JX,HN.o]
   have hstep:lX p l (k+1) ds=kJ acc ns ns.length:=by
    rw[xJ.o]
    unfold uZ
    rw[his, <-hns]
    cases is
    ·simp[xx]
    ·rw[aF rfl,aF rfl,Yr (by rw[oW,HN.o];exact HAC.o)]
   have h66:=(hb.block _ (show s3<W5.heap.size by omega)).trans H5.o.2.2.1
   have h61:=(hb.block _ (show w.heap.size<W5.heap.size by omega)).trans H5.o.2.2.2.1
   have agV:W6.ownsRow W1.heap.size 30 2 (.slice oo acc.length oc) acc.length (aI acc):=dR H5.o.1 fun g hg=>hb.block g (by have:=H5.o.2.2.2.2 g hg;omega)
   have akj:=hb.size
   have H6:=ae (ag agV (ag (aW H5.o.2.1 hb) (ag h66 (ag h61 hpo))))
   have HIS:=ae (ag his (ag hps hns))
   have HNL:=ae (ag hnl hpl)
   have HST:=ae hstep
   have hp3:ps.length<=3:=by rw[hpl];split <;>omega
   have amT:=ae akj
   clear hb hcase hpo his hps hns hnl hpl hstep h66 h61 agV c5 f5 l5
   go_wp2_with fail
   go_loopw [5,30] (fun v5 u wq=> ∃i:Nat,i<=ps.length/\u= .int .i64 i/\(∃oo oc,v5= .slice oo (kJ acc ns i).length oc/\wq.ownsRow W1.heap.size 30 2 (.slice oo (kJ acc ns i).length oc) (kJ acc ns i).length (aI (kJ acc ns i))/\(∀g,(Value.slice oo (kJ acc ns i).length oc).ownBlock=some g->g<s3∨W6.heap.size<=g))/\Below W1.heap.size W1 wq/\
    (∀b,s3<=b->b<W6.heap.size->wq.heap[b]? =W6.heap[b]?)/\W6.heap.size<=wq.heap.size) (fun _ u _=>ps.length-(intOf u).toNat)
   case atStart=>
    refine⟨0,bQ _,rfl,⟨oo,oc,by rw[xx],?_,?_⟩,H6.o.2.1,fun b _ _=>rfl,ai _⟩
    ·rw[xx];exact H6.o.1
    ·rw[xx];exact fun g hg=> .inl (H5.o.2.2.2.2 g hg)
   case round=>
    obtain⟨i,hi,rfl,⟨oo2,J5,rfl,how,hog⟩,NT,hkeep,aey⟩:=hrel
    by_cases hlt2:i<ps.length
    ·have hist:is=true:=by
      have:=HNL.o.2
      cases is
      ·rw[ak (by simp)] at this;omega
      ·rfl
     have hin:i<n:=by have:=HNL.o.2;rw[hist] at this;simp at this;omega
     have hpv:=aN.dE (dR (w':=wr) H6.o.2.2.2.2 fun g hg=>hkeep g (by have:=(bH H6.o.2.2.2.2 g hg).1;omega) (bH H6.o.2.2.2.2 g hg).2)
     obtain⟨gp,po',hvp,hgp,q0,q1⟩:=bJ.cell hpv hlt2
     subst hvp
     have hk6:=(hkeep s3 (ai _) (by omega)).trans H6.o.2.2.1
     have hcell:=gJ (show wr.heap[s3]? =some (.cells (ah d).toArray 247 (0,0)) by rw[HD.o.1];exact hk6) (show i<d.length by rw[HD.o.1];simp;omega)
     have hd3:i<d.length:=by rw[HD.o.1];simp;omega
     have hgd:d.getD i 0=d[i]:=by simp[List.getD,hd3]
     have hdb:=Ij HS.o HD.o.2 i (by omega)
     have hiw:i<l.field.aO.toNat:=by rw[HN.o];exact hin
     have hpd:=OT HS.o HD.o.2 (HIS.o.1.trans hist) hiw
     have hpe:ps[i]=(kP l [] d).getD i (0,0):=by
      have h1:=HIS.o.2.1
      rw[hist,aF rfl] at h1
      subst h1
      simp[List.getD,hlt2]
     have hin2:i<ns.length:=by rw[HNL.o.1];exact hlt2
     have hne:ns[i]=p (d[i]) ps[i]:=by
      have h1:=HIS.o.2.2
      rw[hist,aF rfl] at h1
      subst h1
      rw[Ko,hpe,hgd]
     rw[<-hpe] at hpd
     rw[hgd] at hdb
     have h1w:=(NT.block _ agA).trans H1.o.2.1
     have hlenA:=Yq (acc:=acc) (mZ:=ns) (i:=i) (by
      have h1:=HAC.o
      have h2:=HNL.o
      rw[hist] at h2
      simp at h2
      rcases h1 with h|h
      ·exact .inl h
      ·exact .inr (by omega)) (by omega)
     have hold:=fun(ha:acc≠[]) (h:acc.length=ns.length)=>Yo ha h hin2
     generalize hyi:d[i]'hd3=y at*
     generalize EW:ps[i]=r at*
     generalize hxi:ns[i]=x at*
     have HPF:=ae (hne▸HP.o y r)
     have HHP:=ae (ag hpd hdb)
     have HOLD:=ae (ag hold hxi)
     have HLA:=ae hlenA
     have HX:=ae (ag how (ag hog (ag NT (ag hkeep aey))))
     have wB:(i:Int)<ps.length:=by omega
     have hi3:i<3:=by omega
     have ahq:(i:Int)<3:=by omega
     obtain⟨e1,e2,e3⟩:=af h1w
     have HW1:=ae h1w
     have akk:s3<wr.heap.size:=by omega
     clear how hog NT hkeep aey hpv hk6 hgd hdb hpd hpe hne h1w hlenA hold hyi EW hxi hd3 hiw
     cases hist
     go_upto_region 9 with(fail)
     refine dI fun W9 Nc=>?_
     have hB9:Below wr.heap.size wr W9:=by rw[Nc];exact zl
     have hk9:W9.heap[wr.heap.size]? =some (.cells #[iv r.1,iv r.2] 30 (0,0)):=by rw[Nc];exact ax _ _
     have hc9:=(hB9.cell (p:=⟨s3,i,none⟩) akk).trans hcell
     obtain⟨i1,i2,i3⟩:=af ((hB9.block _ e3).trans HW1.o)
     have hs9:=hB9.size
     obtain⟨g1,g2,g3⟩:=af hk9
     have amQ:s3<W9.heap.size:=by omega
     have qV:=ae hB9
     clear Nc hB9 hcell e1 e2 e3 q0 q1
     have Ei:=ae hk9
     clear hk9
     refine zg 9 [] none [(7,Spec.val (rv x)),(8,Spec.block W9.heap.size #[iv 0,iv 0] 30)] ?_
     simp only[zt]
     repeat ((first|refine zn ?_|refine zk ?_);simp only[zp])
     refine eX _ (by rfl) (by rfl) bz #[acv y r] (fun W hW=>by go_simp;(try simp only[eg]);try rfl) (fun W hE hF=>by exact HPF.o W ⟨HHP.o.2,HHP.o.1⟩) ?_
     simp only[zp]
     refine jX W9.heap.size _ _ (by rfl) (ai _) (by rfl) (by simp) (by simp) (fun W hW=>by go_simp;try rfl) (fun b12=>?_)
     simp only[zp]
     repeat ((first|refine zn ?_|refine zk ?_);simp only[zp])
     intro WA hE hF
     have hE':Ext [] W9 WA:=hE
     obtain⟨c12,TQ,adL,hk12⟩:=hF _ (bI _)
     cases TQ
     obtain⟨x0,x1⟩:=x
     obtain⟨j1,j2,j3⟩:=af hk12
     have HEA:=ae hE'
     have HKA:=ae hk12
     clear hE hF hE' hk12 g1 g2 g3 i1 i2 i3 hc9
     go_upto_region 10 with(fail)
     refine dI fun WB hWB=>?_
     have ah8:Below W9.heap.size W9 WB:=by rw[hWB];exact iI (iI HEA.o.below adL _) adL _
     have hkB:WB.heap[b12]? =some (.cells #[iv x0,iv x1] 30 (0,0)):=by rw[hWB];exact aJ (aJ HKA.o _) _
     have hBB:Below wr.heap.size wr WB:=aW qV.o ah8
     have adE:WB.ownsRow W1.heap.size 30 2 (.slice oo2 (kJ acc ns i).length J5) (kJ acc ns i).length (aI (kJ acc ns i)):=dR HX.o.1 fun g hg=>hBB.block g (bH HX.o.1 g hg).2
     have ah6:=aW HX.o.2.2.1 hBB
     have aav: ∀b,s3<=b->b<W6.heap.size->WB.heap[b]? =W6.heap[b]? :=fun b hb1 hb2=>(hBB.block b (by have:=HX.o.2.2.2.2;omega)).trans (HX.o.2.2.2.1 b hb1 hb2)
     have agM:W6.heap.size<=WB.heap.size:=ji HX.o.2.2.2.2 hBB.size
     have HB:=ae (ag adE (ag HX.o.2.1 (ag ah6 (ag hkB (ag aav agM)))))
     obtain⟨j1,j2,j3⟩:=af hkB
     clear hWB ah8 hBB adE ah6 aav agM HEA HKA
     have HLB:=ae HLA.o
     obtain⟨L,hL⟩: ∃L,kJ acc ns i=L:=⟨_,rfl⟩
     have hgb: ∀g,(Value.slice oo2 (kJ acc ns i).length J5).ownBlock=some g->g≠b12/\W1.heap.size<=g:=fun g hg=>by
      have h1:=bH HX.o.1 g hg
      have h2:=qV.o.size
      omega
     have HGB:=ae hgb
     have Ll:=ae HOLD.o
     rw[hL] at HB HLB HGB Ll⊢
     have HL:=ae hL
     clear hgb HLA HX HOLD qV Ei hL
     by_cases ha:acc=[]
     ·have hm:L.length=i:=by rw[HLB.o,aF ha]
      have hmb:((L.length:Int)==(i:Int))=true:=by rw[beq_iff_eq];omega
      have HAN:Hid (kJ acc ns (i+1)=L++[(x0,x1)]):=ae (by
       have h1:=Ll.o.2
       subst ha
       rw[Yp hin2,h1,HL.o])
      have HM:=ae hm
      clear ha hm
      go_upto_region 11 with(fail)
      clear hmb
      have hL3:L.length<=3:=by have:=HM.o;omega
      have akd:W1.heap.size<=WB.heap.size:=HB.o.2.2.1.size
      go_wp2_with (at_builtin;refine dV rfl _ _ Gj rfl W1.heap.size (.slice oo2 L.length J5) L.length (aI L) rfl ?_ (.slice (some ⟨WB.heap.size,0,none⟩) 1 1) 1 (aI [(x0,x1)]) rfl ?_ (oU _) (by omega) (by omega) (by simp;omega) ?_)
      ·exact aB (Ms:=[]) HB.o.1 (Ext.aA ((aG _ _).alloc (ai _) _)) (by simp)
      ·exact aN.dw 2 1 (ax _ _) rfl (by decide)
      ·intro v' Wc hown hgr hcase
       obtain⟨Vk,O0,rfl⟩:=aS hown
       have e3:L.length+1=(L++[(x0,x1)]).length:=by simp
       rw[<-pJ,e3] at hown
       rw[e3] at hcase⊢
       have hwB:Below WB.heap.size WB (WB.alloc (.cells #[iv x0,iv x1] 30)):=aj (aG _ _) _
       have hkc: ∀b,b<WB.heap.size->(∀g,(Value.slice oo2 L.length J5).ownBlock=some g->g≠b)->Wc.heap[b]? =WB.heap[b]? :=fun b hb hn=>(hgr.block b (by simp;omega) (fun e=>hn b (by simpa using e.symm) rfl)).trans (hwB.block b hb)
       have hoc:Hid (Wc.ownsRow W1.heap.size 30 2 (.slice Vk (L++[(x0,x1)]).length O0) (L++[(x0,x1)]).length (aI (L++[(x0,x1)]))/\(∀g,(Value.slice Vk (L++[(x0,x1)]).length O0).ownBlock=some g->g<s3∨W6.heap.size<=g)/\Below W1.heap.size W1 Wc/\
        Wc.heap[b12]? =some (.cells #[iv x0,iv x1] 30 (0,0))/\(∀b,s3<=b->b<W6.heap.size->Wc.heap[b]? =W6.heap[b]?)/\W6.heap.size<=Wc.heap.size):=ae (by
        refine⟨hown,fun g hg=>?_,Below.grown (aW HB.o.2.2.1 hwB) hgr (by have:=hwB.size;omega) (fun k e=>(HGB.o k e).2),(hkc b12 (aV.1 HB.o.2.2.2.1).1 (fun g hg=>(HGB.o g hg).1)).trans HB.o.2.2.2.1,fun b hb1 hb2=>?_,?_⟩
        ·rcases hcase with h|h
         ·rw[h] at hg;exact HB.o.2.1 g hg
         ·rw[h] at hg
          have:=HB.o.2.2.2.2.2
          have:WB.heap.size+1=g:=by simpa using hg
          right;omega
        ·have:=HB.o.2.2.2.2.2
         exact(hkc b (by omega) (fun g hg=>by have:=HB.o.2.1 g hg;omega)).trans (HB.o.2.2.2.2.1 b hb1 hb2)
        ·have:=HB.o.2.2.2.2.2
         have:=hgr.size
         have:=hwB.size
         omega)
       have zQ:=hoc
       have Y7:Hid (i<(L++[(x0,x1)]).length):=ae (by have:=HM.o;simp;omega)
       have HLZ:Hid ((L++[(x0,x1)])[i]'Y7.o=(x0,x1)):=ae (by
        have:=HM.o
        subst this
        simp)
       have Jw:Hid ((L++[(x0,x1)]).set i (xZ (x0,x1) (x0,x1))=kJ acc ns (i+1)):=ae (by
        rw[HAN.o]
        have:=HM.o
        subst this
        rw[qH _ _ (ai _),Nat.sub_self]
        simp[xZ])
       clear hown hgr hcase e3 hwB hkc hoc hL3 akd j1 j2 j3 HB HGB Ll HLB HAN
       generalize L++[(x0,x1)]=L3 at*
       go_upto_region 12 with(fail)
       have PQ:Wc.ownsRow W1.heap.size 30 2 (.slice Vk (L3).length O0) (L3).length (aI (L3)):=zQ.o.1
       obtain⟨gb,c2,hg2,acF,XA,⟨s0,s1⟩,hfr2⟩:=oQ PQ Y7.o
       rw[HLZ.o] at s0 s1
       (try simp only at s0 s1)
       obtain⟨rfl,rfl⟩:Vk=some ⟨gb,0,none⟩/\O0=c2:=by simp at hg2;exact hg2
       obtain⟨e1,e2,e3⟩:=af zQ.o.2.2.2.1
       have hiL:(i:Int)<((L3).length:Int):=by have:=Y7.o;omega
       clear PQ hg2 hfr2
       refine zg 9 [] none [(7,Spec.val (rv (xZ (x0,x1) (x0,x1))))] ?_
       simp only[zt]
       repeat ((first|refine zn ?_|refine zk ?_);simp only[zp])
       refine zw 238 (h:=fun W hE hF=>by exact Hw (x0,x1) (x0,x1) W) (t:=?_)
       simp only[zp]
       repeat ((first|refine zn ?_|refine zk ?_);simp only[zp])
       intro Y5 hE hF
       have hE':Ext [] Wc Y5:=hE
       have xQ:Below Wc.heap.size Wc Y5:=hE'.below
       have AB:Y5.ownsRow W1.heap.size 30 2 (.slice (some ⟨gb,0,none⟩) (L3).length O0) (L3).length (aI (L3)):=aB (Ms:=[]) zQ.o.1 hE' (by simp)
       have hset:=nZ AB Y7.o (xZ (x0,x1) (x0,x1))
       obtain⟨g3,c3,hg3,_,ahs,⟨t0,t1⟩,hfr3⟩:=oQ AB Y7.o
       obtain⟨rfl,rfl⟩:gb=g3/\O0=c3:=by simp at hg3;exact hg3
       rw[Jw.o] at hset
       have hlen:(L3).length=(kJ acc ns (i+1)).length:=by rw[<-Jw.o,qC]
       have hgn:gb<s3∨W6.heap.size<=gb:=zQ.o.2.1 gb rfl
       have HST:=ae (ag hset (ag hlen (ag (aW zQ.o.2.2.1 xQ) (ag xQ (ag hgn acF)))))
       clear hE hF hE' AB hset hlen xQ hg3 hgn e1 e2 e3 s0 s1
       go_wp2_with fail
       go_roundw
       case rel=>
        refine⟨i+1,by omega,by go_num,⟨some ⟨gb,0,none⟩,O0,by rw[<-HST.o.2.1],?_,?_⟩,?_,?_,?_⟩
        ·have:=HST.o.1
         rw[HST.o.2.1] at this
         exact this
        ·intro g hg
         have:gb=g:=by simpa [Value.ownBlock] using hg
         rw[<-this];exact HST.o.2.2.2.2.1
        ·exact iI (iI HST.o.2.2.1 HST.o.2.2.2.2.2 _) HST.o.2.2.2.2.2 _
        ·intro b hb1 hb2
         have hbg:b≠gb:=by have:=HST.o.2.2.2.2.1;omega
         have h1:=zQ.o.2.2.2.2.1 b hb1 hb2
         have h2:=HST.o.2.2.2.1.block b (by have:=zQ.o.2.2.2.2.2;omega)
         exact(dJ _ _ _ _ hbg).trans ((dJ _ _ _ _ hbg).trans (h2.trans h1))
        ·have:=zQ.o.2.2.2.2.2
         have:=HST.o.2.2.2.1.size
         simp
         omega
       case measure=>simp[intOf];omega
     ·have hm:L.length=ns.length:=by rw[HLB.o,ak ha]
      have hneb:((L.length:Int)==(i:Int))=false:=by rw[jH];omega
      have hal:acc.length=ns.length:=by
       have h2:=HNL.o
       rw[aF rfl] at h2
       rcases HAC.o with h|h
       ·exact absurd h ha
       ·omega
      have Y7:Hid (i<L.length):=ae (by omega)
      have hz:=Ll.o.1 ha hal
      obtain⟨z,hzd⟩: ∃z:dY,acc.getD i (0,0)=z:=⟨_,rfl⟩
      rw[hzd] at hz
      have HLZ:Hid (L[i]'Y7.o=z):=ae (by
       rw[<-hzd,iH, <-hz.1,dP Y7.o]
       rfl)
      have Jw:Hid (L.set i (xZ z (x0,x1))=kJ acc ns (i+1)):=ae hz.2.symm
      have HM:=ae hm
      clear ha hm hal hz hzd Ll HLB HGB HL
      go_upto_region 12 with(fail)
      clear hneb
      have zQ:=HB
      clear HB
      clear j1 j2 j3
      have PQ:WB.ownsRow W1.heap.size 30 2 (.slice oo2 (L).length J5) (L).length (aI (L)):=zQ.o.1
      obtain⟨gb,c2,hg2,acF,XA,⟨s0,s1⟩,hfr2⟩:=oQ PQ Y7.o
      rw[HLZ.o] at s0 s1
      (try simp only at s0 s1)
      obtain⟨rfl,rfl⟩:oo2=some ⟨gb,0,none⟩/\J5=c2:=by simp at hg2;exact hg2
      obtain⟨e1,e2,e3⟩:=af zQ.o.2.2.2.1
      have hiL:(i:Int)<((L).length:Int):=by have:=Y7.o;omega
      clear PQ hg2 hfr2
      refine zg 9 [] none [(7,Spec.val (rv (xZ z (x0,x1))))] ?_
      simp only[zt]
      repeat ((first|refine zn ?_|refine zk ?_);simp only[zp])
      refine zw 238 (h:=fun W hE hF=>by exact Hw z (x0,x1) W) (t:=?_)
      simp only[zp]
      repeat ((first|refine zn ?_|refine zk ?_);simp only[zp])
      intro Y5 hE hF
      have hE':Ext [] WB Y5:=hE
      have xQ:Below WB.heap.size WB Y5:=hE'.below
      have AB:Y5.ownsRow W1.heap.size 30 2 (.slice (some ⟨gb,0,none⟩) (L).length J5) (L).length (aI (L)):=aB (Ms:=[]) zQ.o.1 hE' (by simp)
      have hset:=nZ AB Y7.o (xZ z (x0,x1))
      obtain⟨g3,c3,hg3,_,ahs,⟨t0,t1⟩,hfr3⟩:=oQ AB Y7.o
      obtain⟨rfl,rfl⟩:gb=g3/\J5=c3:=by simp at hg3;exact hg3
      rw[Jw.o] at hset
      have hlen:(L).length=(kJ acc ns (i+1)).length:=by rw[<-Jw.o,qC]
      have hgn:gb<s3∨W6.heap.size<=gb:=zQ.o.2.1 gb rfl
      have HST:=ae (ag hset (ag hlen (ag (aW zQ.o.2.2.1 xQ) (ag xQ (ag hgn acF)))))
      clear hE hF hE' AB hset hlen xQ hg3 hgn e1 e2 e3 s0 s1
      go_wp2_with fail
      go_roundw
      case rel=>
       refine⟨i+1,by omega,by go_num,⟨some ⟨gb,0,none⟩,J5,by rw[<-HST.o.2.1],?_,?_⟩,?_,?_,?_⟩
       ·have:=HST.o.1
        rw[HST.o.2.1] at this
        exact this
       ·intro g hg
        have:gb=g:=by simpa [Value.ownBlock] using hg
        rw[<-this];exact HST.o.2.2.2.2.1
       ·exact iI (iI HST.o.2.2.1 HST.o.2.2.2.2.2 _) HST.o.2.2.2.2.2 _
       ·intro b hb1 hb2
        have hbg:b≠gb:=by have:=HST.o.2.2.2.2.1;omega
        have h1:=zQ.o.2.2.2.2.1 b hb1 hb2
        have h2:=HST.o.2.2.2.1.block b (by have:=zQ.o.2.2.2.2.2;omega)
        exact(dJ _ _ _ _ hbg).trans ((dJ _ _ _ _ hbg).trans (h2.trans h1))
       ·have:=zQ.o.2.2.2.2.2
        have:=HST.o.2.2.2.1.size
        simp
        omega
      case measure=>simp[intOf];omega
    ·have hip:i=ps.length:=by omega
     subst hip
     rw[<-HNL.o.1, <-HST.o] at how hog
     rw[<-HNL.o.1, <-HST.o]
     have HF:=ae (ag how NT)
     clear how hog NT hkeep aey
     go_wp2_with fail
     go_roundw
     case rel=>exact⟨k+1,by omega,by go_num,⟨oo2,J5,rfl,HF.o.1⟩,HF.o.2⟩
     case measure=>simp[intOf];omega
  ·have hkd:k=ds.length:=by omega
   subst hkd
   have HF:=ae (ag how hB)
   clear how hB
   go_wp2_with fail
   go_returns
   exact⟨_,by simp,dm HF.o.1 (by omega),aW H1.o.1 HF.o.2⟩
end Go.Proofs.YthbpmepjmebolaaGreatDoor
namespace Go.Proofs.YthbpmepjmebolaaGreatDoor
open Go.RowKit Go.RG Go.SL Go.Shelf jv Go.TB
def QU (p:Int->dY->dY) (l:aQ) (w:World) (e:Ending) (w':World):Prop:=
 Below w.heap.size w w'/\((gX l true≠0/\e= .returned (.tuple #[.slice none 0 0,iv (gX l true)]))∨
  (gX l true=0/\ ∃u,e= .returned (.tuple #[u,iv 0])/\bJ w' u (CS p l (gy l))))
theorem Sz (l:aQ) (tv nv:Value) (bz:Nat) (p:Int->dY->dY) (w:World) (ht:dM w tv l.field.az) (hn:bg w nv l.notes)
 (eg: ∀args w,(callFunc bz args).run Tryz.prog w= .ok (.enter bz args) w)
 (hp: ∀(d:Int) (r:dY) (W:World),(0<=d/\d<=350)/\0<=r.1/\r.1<=r.2/\r.2<=2000->Calls Tryz.prog bz #[acv d r] W (PV (rv (p d r)) W)):
 Calls Tryz.prog 97 #[.agg #[.func (.func bz) #[] #[]],lv l tv nv] w (QU p l w):=by
 have HC:=ae (wH l tv nv true ((w.alloc (.cells #[.func (.func bz) #[] #[]] 190)).alloc (.cells (kY l tv nv) 33)) ((ht.alloc _).alloc _) ((hn.alloc _).alloc _))
 have HE:=ae eg
 have HP:=ae hp
 clear ht hn hp eg
 obtain⟨q,hq⟩: ∃q,gX l true=q:=⟨_,rfl⟩
 have HQ:=ae hq
 clear hq
 go_enter Tryz.func97,Tryz.ntmps97
 go_wp2_with fail
 refine HC.o.mono ?_
 rintro e w1 ⟨hb,⟨hne,rfl⟩|⟨h0,wb,mb,v,rfl,_,_,hok⟩⟩
 ·rw[HQ.o] at hne⊢
  have hqb:(q !=0)=true:=by simpa using hne
  have HB:=ae (ag (show Below w.heap.size w w1 from zl) hne)
  clear hb hne
  go_wp2_with fail
  go_returns
  exact⟨HB.o.1,.inl ⟨by rw[HQ.o];exact HB.o.2,by rw[HQ.o];simp⟩⟩
 ·have hk:=(hb.block w.heap.size (by simp;omega)).trans ((aX _ _ _ (by simp)).trans (ax w (.cells #[.func (.func bz) #[] #[]] 190)))
  have HBN:=ae (A8 (Fp h0).1 bz p w1 hok HE.o HP.o)
  have HB:=ae (ag (show Below w.heap.size w w1 from zl) h0)
  obtain⟨c1,f1,l1⟩:=af hk
  clear hb hk hok h0
  go_wp2_with fail
  refine HBN.o.mono ?_
  rintro e w2 ⟨u,rfl,hu,hb⟩
  obtain⟨uo,uc,rfl⟩:=aS hu
  have HX:=ae (ag (aW HB.o.1 hb) (aN.dE hu))
  clear hb hu c1 f1 l1
  go_wp2_with fail
  go_returns
  exact⟨HX.o.1,.inr ⟨HB.o.2,_,by simp,HX.o.2⟩⟩
theorem QX (l:aQ) (tv nv:Value) (w:World) (ht:dM w tv l.field.az) (hn:bg w nv l.notes):
 Calls Tryz.prog 55 #[lv l tv nv] w (QU oP l w):=by
 have HC:=ae (Sz l tv nv 96 oP (w.alloc (.cells (kY l tv nv) 33)) (ht.alloc _) (hn.alloc _) (enters_of Tryz.func96 (by kernel_rfl) rfl) (fun d r W h=>by first|exact OV d r W h|(have:=h;exact OV d r W h)))
 clear ht hn
 go_enter Tryz.func55,Tryz.ntmps55
 go_wp2_with fail
 refine HC.o.mono ?_
 rintro e w1 ⟨hb,⟨hne,rfl⟩|⟨h0,u,rfl,hu⟩⟩
 ·obtain⟨q,hq⟩: ∃q,gX l true=q:=⟨_,rfl⟩
  have HB:=ae (ag (show Below w.heap.size w w1 from zl) (ag hne hq))
  rw[hq]
  clear hb hne hq
  go_wp2_with fail
  go_returns
  exact⟨HB.o.1,.inl ⟨HB.o.2.1,by rw[HB.o.2.2];simp⟩⟩
 ·obtain⟨uo,uc,rfl⟩:=hu.open
  have HB:=ae (ag (show Below w.heap.size w w1 from zl) (ag h0 hu))
  clear hb h0 hu
  go_wp2_with fail
  go_returns
  exact⟨HB.o.1,.inr ⟨HB.o.2.1,_,by simp,HB.o.2.2⟩⟩
end Go.Proofs.YthbpmepjmebolaaGreatDoor
end
section
namespace Go.Proofs.YthbpmepjmebolaaGreatDoor
open Go.RowKit Go.RG Go.SL Go.Shelf jv Go.TB
end Go.Proofs.YthbpmepjmebolaaGreatDoor
namespace Go.Proofs.YthbpmepjmebolaaGreatDoor
open Go.RowKit Go.RG Go.SL Go.Shelf jv Go.TB
end Go.Proofs.YthbpmepjmebolaaGreatDoor
namespace Go.Proofs.YthbpmepjmebolaaGreatDoor
open Go.RowKit Go.RG Go.SL Go.Shelf jv Go.TB
end Go.Proofs.YthbpmepjmebolaaGreatDoor
namespace Go.Proofs.YthbpmepjmebolaaGreatDoor
open Go.RowKit Go.RG Go.SL Go.Shelf jv Go.TB
def nR (l:aQ):List Int:=(nO l.notes.length (gz l)).getD []
theorem EN {l:aQ} (h:gz l (upto l.notes.length)=true):nO l.notes.length (gz l)=some (nR l):=by
 unfold nR
 cases hs:nO l.notes.length (gz l) with
 |some c=>rfl
 |none=>rw[Ox hs _ (aac _)] at h;cases h
def YM (l:aQ) (w:World) (e:Ending) (w':World):Prop:=
 Below w.heap.size w w'/\((iR l≠0/\e= .returned (.tuple #[.slice none 0 0,iv (iR l)]))∨(iR l=0/\ ∃v,e= .returned (.tuple #[v,iv 0])/\aP w' v (nR l)))
theorem YL (l:aQ) (tv nv:Value) (w:World) (ht:dM w tv l.field.az) (hn:bg w nv l.notes):
 Calls Tryz.prog 60 #[lv l tv nv] w (YM l w):=by
 obtain⟨on,cn,rfl⟩:=hn.open
 have HC:=ae (yT l tv _ (w.alloc (.cells (kY l tv (.slice on l.notes.length cn)) 33)) (ht.alloc _) (hn.alloc _))
 clear ht hn
 obtain⟨q,hq⟩: ∃q,iR l=q:=⟨_,rfl⟩
 have HQ:=ae hq
 clear hq
 obtain⟨nn,hnn⟩: ∃nn,l.notes.length=nn:=⟨_,rfl⟩
 have HNN:=ae hnn
 rw[hnn] at HC⊢
 clear hnn
 go_enter Tryz.func60,Tryz.ntmps60
 go_wp2_with fail
 refine HC.o.mono ?_
 rintro e w1 ⟨hb,⟨hne,rfl⟩|⟨h0,wb,mb,v,rfl,hwb,hmb,hok⟩⟩
 ·have HB:=ae (ag (show Below w.heap.size w w1 from zl) hne)
  rw[HQ.o] at hne⊢
  have hqb:(q !=0)=true:=by simpa using hne
  clear hb hne
  go_wp2_with fail
  go_returns
  exact⟨HB.o.1,.inl ⟨HB.o.2,by rw[HQ.o];simp⟩⟩
 ·obtain⟨hS,hpo⟩:=pR h0
  have hsh:=EN hpo
  have hn5:=hS.many
  rw[HNN.o] at hsh hn5
  have hk1:=(hb.block w.heap.size (by simp)).trans (ax w (.cells (kY l tv (.slice on nn cn)) 33))
  have hmw:w.heap.size<mb:=by simp at hmb;omega
  have C9:=ae (I8 nn (by omega) (gz l) [mb] (fun W=> ∃T,TabAt YZ rv (fun _=>True) W mb T) ⟨fun a b ⟨T,hT⟩ hk=>⟨T,hT.kept (hk mb (by simp))⟩,fun W hW m hm o=>by
   obtain rfl:m=mb:=by simpa using hm
   obtain⟨T,hT⟩:=hW
   exact hT.ng o⟩ w1 hok.tab (fun m hm=>by obtain rfl:m=mb:=(by simpa using hm);exact hok.lt) 93 #[.pointer (some ⟨wb,0,none⟩)] #[]
   (enters_of Tryz.func93 (by kernel_rfl) rfl) (fun x u W' _ hE hW hv=>by
     refine(pI hS x (show FO W' wb mb l tv (.slice on nn cn) v from⟨hok.work.table hE hok.ng,hW⟩) hv).mono ?_
     rintro e W2 ⟨rfl,hkn,hE2⟩
     exact⟨rfl,hkn.ok.tab,hE2⟩))
  have HB:=ae (ag (show Below w.heap.size w w1 from zl) (ag h0 (ag hsh hmw)))
  obtain⟨c1,f1,l1⟩:=af hk1
  clear hb hok h0 hS hpo hsh hk1 hwb hmb hmw
  go_wp2_with fail
  refine C9.o.mono ?_
  rintro e w2 ⟨⟨_,hE⟩,⟨cx,u,hcx,rfl,vN⟩|⟨hno,_⟩⟩
  ·have hres:cx=nR l:=by rw[HB.o.2.2.1] at hcx;injection hcx with h;exact h.symm
   obtain⟨uo,uc,rfl⟩:=vN.open
   have HX:=ae (ag (iD HB.o.1 hE (by have:=HB.o.2.2.2;omega)) (ag hres vN))
   clear hE hcx vN hres c1 f1 l1
   go_wp2_with fail
   go_returns
   exact⟨HX.o.1,.inr ⟨HB.o.2.1,_,by simp;rfl,by rw[<-HX.o.2.1];exact HX.o.2.2⟩⟩
  ·rw[HB.o.2.2.1] at hno;cases hno
end Go.Proofs.YthbpmepjmebolaaGreatDoor
end
section
namespace Go.Proofs.YthbpmepjmebolaaGreatDoor
open Go.RowKit Go.RG Go.SL Go.Shelf jv Go.TB
theorem QQ {l:aQ} (h:gX l true=0):pX l/\ ∃d∈gy l,jF l [] d=true:=by
 obtain⟨hS,_,_,hp⟩:=Fp h
 unfold gz at hp
 rw[List.any_eq_true] at hp
 exact⟨hS,hp⟩
theorem abe {l:aQ} (hp: ∃d∈gy l,jF l [] d=true) (p:Int->dY->dY) {i:Nat} (hi:i<l.field.aO.toNat):
 uz (fun y=> ∃d∈gy l,jF l [] d=true/\y=p (d.getD i 0) ((kP l [] d).getD i (0,0))) ((CS p l (gy l)).getD i (0,0)):=by
 obtain⟨d,hd,hc⟩:=hp
 rcases IA p l (gy l) hi (gy l).length (ai _) with⟨_,h2⟩|⟨_,h1⟩
 ·rw[List.take_length] at h2;rw[h2 d hd] at hc;cases hc
 ·rw[List.take_length] at h1;exact h1
end Go.Proofs.YthbpmepjmebolaaGreatDoor
namespace Go.Proofs.YthbpmepjmebolaaGreatDoor
open Go.RowKit Go.RG Go.SL Go.Shelf jv Go.TB
end Go.Proofs.YthbpmepjmebolaaGreatDoor
end

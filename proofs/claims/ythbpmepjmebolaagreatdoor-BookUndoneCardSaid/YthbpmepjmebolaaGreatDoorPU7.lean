/-
  Texts of this claim, packed by a program: QF UA UD UH.
-/
import Derived.WalkKit
import Derived.WalkLawsBesides
import Derived.WalkSpells
import Derived.Outline
import Derived.Handy
import Derived.KernelRfl
import Derived.Lib.Hide
import Derived.BigRegion
import Derived.Deep.Cut
import Derived.Test.YthbpmepjmebolaaGreatDoorPU6
set_option maxHeartbeats 8000000
set_option maxRecDepth 100000
set_option linter.all false
section
namespace Go.Proofs.YthbpmepjmebolaaGreatDoor
open Go.RowKit Go.RG Go.SL Go.Shelf jv Go.TB
abbrev aaO (d:List Int):Value:=mg d
abbrev abw (w:World) (v:Value) (ls:List (List Int)):Prop:=aN 3 w v ls.length (ls.flatMap ah)
theorem akk (l:List (List Int)) (v:Value) (bn:Nat) (fst caps:Array Value) (p:Nat->Bool) (I:Nat->World->Prop) (w:World) (h3: ∀x∈l,x.length=3) (eg: ∀args w,(callFunc bn args).run Tryz.prog w= .ok (.enter bn args) w)
 (hsl: ∀k W,I k W->abw W v l)
 (hcall: ∀k (hk:k<l.length) W,(∀j,j<k->p j=false)->I k W->Calls Tryz.prog bn (fst.push (aaO l[k])++caps) W (fun e W'=>e= .returned (.bool (p k))/\I (k+1) W')) (h0:I 0 w):
 Calls Tryz.prog 237 #[v,.func (.func bn) fst caps] w (eG l.length p I (fun k=>iv k) (iv (-1))):=by
 have hlen:=(hsl 0 w h0).len
 obtain⟨o,c,rfl⟩:=(hsl 0 w h0).open
 have HC:=ae hcall
 have HS:=ae hsl
 have H3:=ae h3
 clear hcall hsl h3
 go_enter Tryz.func237,Tryz.ntmps237
 go_wp2
 go_loopw [4,5,8] (fun _ _ i wr=> ∃k:Nat,k<=l.length/\i= .int .i64 k/\(∀j,j<k->p j=false)/\I k wr) (fun _ _ i _=>l.length-(intOf i).toNat)
 case atStart=>exact⟨0,bU _,rfl,fun j hj=>by omega,h0⟩
 case round=>
  obtain⟨k,hk,rfl,hno,hI⟩:=hrel
  by_cases hlt:k<l.length
  ·obtain⟨b,off,y0,y1,y2,hvv,hb,hys,hc0,hc1,hc2⟩:=Dx (HS.o k wr hI) H3.o hlt
   subst hvv
   have hC:=HC.o k hlt wr hno hI
   have hda:aaO l[k]= .agg #[iv y0,iv y1,iv y2]:=by show mg l[k]=_;rw[hys];rfl
   rw[hda] at hC
   have HN:=ae hno
   clear hno
   go_wp2_with fail
   refine hC.mono ?_
   rintro e W1 ⟨rfl,hI1⟩
   have HI:=ae hI1
   clear hI1 hI hC
   cases hp:p k
   ·go_wp2_with fail
    go_roundw
    case rel=>exact⟨k+1,by omega,by go_num,fun j hj=>(by by_cases e:j=k;(subst e;exact hp);exact HN.o j (by omega)),HI.o⟩
    case measure=>simp[intOf];omega
   ·go_wp2_with fail
    go_returns
    exact⟨k,by omega,HN.o,.inl ⟨hlt,hp,by simp,HI.o⟩⟩
  ·have hkl:k=l.length:=by omega
   have HN:=ae hno
   clear hno
   go_wp2_with fail
   go_returns
   exact⟨k,by omega,HN.o,.inr ⟨hkl,by simp,by subst hkl;exact hI⟩⟩
theorem aiu (l:List (List Int)) (v:Value) (bn:Nat) (fst caps:Array Value) (p:Nat->Bool) (I:Nat->World->Prop) (w:World) (h3: ∀x∈l,x.length=3) (eg: ∀args w,(callFunc bn args).run Tryz.prog w= .ok (.enter bn args) w)
 (hsl: ∀k W,I k W->abw W v l)
 (hcall: ∀k (hk:k<l.length) W,(∀j,j<k->p j=false)->I k W->Calls Tryz.prog bn (fst.push (aaO l[k])++caps) W (fun e W'=>e= .returned (.bool (p k))/\I (k+1) W')) (h0:I 0 w):
 Calls Tryz.prog 160 #[v,.func (.func bn) fst caps] w (eG l.length p I (fun _=> .bool true) (.bool false)):=by
 have HI:=ae (akk l v bn fst caps p I w h3 eg hsl hcall h0)
 have hlen:=(hsl 0 w h0).len
 clear hsl hcall h0 eg
 go_enter Tryz.func160,Tryz.ntmps160
 go_wp2_with fail
 refine HI.o.mono ?_
 clear HI
 rintro e W' ⟨k,hk,hno,⟨hlt,hp,rfl,hI⟩|⟨hkl,rfl,hI⟩⟩
 ·have HN:=ae (ag hno (ag hp hI))
  clear hno hp hI
  go_wp2_with fail
  go_returns
  exact⟨k,hk,HN.o.1,.inl ⟨hlt,HN.o.2.1,by simp,HN.o.2.2⟩⟩
 ·have HN:=ae (ag hno (ag hkl hI))
  clear hno hkl hI
  go_wp2_with fail
  go_returns
  exact⟨k,hk,HN.o.1,.inr ⟨HN.o.2.1,by simp,HN.o.2.1▸HN.o.2.2⟩⟩
def gy (l:aQ) (out:List Int):Bool:=(gq l).any (jE l out)
structure Fv (W:World) (wb mb:Nat) (l:aQ) (tv nv v:Value):Prop where
 work:D8 W wb mb l tv nv v (gq l)
 tab: ∃T,TabAt YJ rv (fun _=>True) W mb T
structure IA (W:World) (wb mb:Nat) (l:aQ) (tv nv v:Value) (out:List Int):Prop where
 work:D8 W wb mb l tv nv v (gq l)
 tab: ∃T,TabAt YJ rv (fun _=>True) W mb T/\rJ (Et l out) T (tH l.field.aO.toNat (gq l) (gq l).length)
theorem IA.ok {W:World} {wb mb:Nat} {l:aQ} {tv nv v:Value} {out:List Int} (h:IA W wb mb l tv nv v out):Fv W wb mb l tv nv v:=⟨h.work,let⟨T,h1,_⟩:=h.tab;⟨T,h1⟩⟩
theorem IA.below {W W':World} {wb mb:Nat} {l:aQ} {tv nv v:Value} {out:List Int} (h:IA W wb mb l tv nv v out) {B:Nat} (hb:Below B W W') (hB:W.heap.size<=B):IA W' wb mb l tv nv v out:=
 ⟨h.work.below hb hB,let⟨T,h1,h2⟩:=h.tab;⟨T,h1.below hb hB,h2⟩⟩
theorem Fv.below {W W':World} {wb mb:Nat} {l:aQ} {tv nv v:Value} (h:Fv W wb mb l tv nv v) {B:Nat} (hb:Below B W W') (hB:W.heap.size<=B):Fv W' wb mb l tv nv v:=
 ⟨h.work.below hb hB,let⟨T,h1⟩:=h.tab;⟨T,h1.below hb hB⟩⟩
theorem Fv.lt {W:World} {wb mb:Nat} {l:aQ} {tv nv v:Value} (h:Fv W wb mb l tv nv v):mb<W.heap.size:=let⟨_,h1⟩:=h.tab;h1.lt
theorem Fv.nz {W:World} {wb mb:Nat} {l:aQ} {tv nv v:Value} (h:Fv W wb mb l tv nv v) (o:Nat):W.cell? ⟨mb,o,none⟩=none:=let⟨_,h1⟩:=h.tab;h1.nz o
theorem qP (l:aQ): ∀x∈gq l,x.length=3:=BR l _
theorem Ia {l:aQ} (hS:pX l) {d:List Int} (hd:d∈gq l) (i:Nat) (hi:i<3):0<=d.getD i 0/\d.getD i 0<=350:=by
 obtain⟨t,ht,rfl⟩:=JZ.1 hd
 have hF:=iK hS.field
 have:=oM ht
 exact Hz (by have:=hS.rate;omega) (by have:=hS.rate;omega) t (by have:=hF.qK;omega) i hi
theorem ab7 {l:aQ} {out:List Int} {T:List ((Int×Int)×dX)} (hF:rJ (Et l out) T (tH l.field.aO.toNat (gq l) (gq l).length)) {d:List Int} (hd:d∈gq l) {i:Nat} (hi:i<l.field.aO.toNat):
 TB.look ((i:Int),d.getD i 0) T=some ((pU l out d).getD i (0,0)):=by
 obtain⟨r,hr⟩:=hF.has ((i:Int),d.getD i 0) (by
  unfold tH
  rw[List.take_length,qB]
  exact⟨d,hd,iZ.2 ⟨i,lM.2 hi,rfl⟩⟩)
 rw[hr,hF.only _ _ hr,OO,D7 _ _ _ hi]
theorem aa6 {l:aQ} (hS:pX l) (out:List Int) {d:List Int} (hd:d∈gq l): ∀r∈pU l out d,0<=r.1/\r.1<=2000/\0<=r.2/\r.2<=2000:=by
 intro r hr
 obtain⟨i,hi,rfl⟩:=iZ.1 hr
 have hF:=iK hS.field
 have:=hF.xC
 have hi':=lM.1 hi
 have hb:=Ia hS hd i (by omega)
 have:=OM hS out i hb.1 (by omega)
 omega
theorem UX {l:aQ} (hS:pX l) {tv nv v:Value} {out:List Int} {wb mb:Nat} {d:List Int} (hd:d∈gq l) {w:World} (hw:IA w wb mb l tv nv v out):
 Calls Tryz.prog 162 #[.pointer (some ⟨wb,0,none⟩),mg d] w (Qv l out d w):=by
 obtain⟨T,hT,hF⟩:=hw.tab
 exact Zu l (iK hS.field) (by have:=hS.box;omega) tv nv v out d (qP l d hd) (pU l out d) rfl (aa6 hS out hd) wb mb T w hw.work.cells hT (fun i hi=>ab7 hF hd hi)
theorem Wj {l:aQ} (hS:pX l) {tv nv v:Value} {out:List Int} {wb mb bp:Nat} {d:List Int} (hd:d∈gq l) {w:World} (hw:IA w wb mb l tv nv v out) (hp:w.heap[bp]? =some (.cells #[.pointer (some ⟨wb,0,none⟩)] 114 (0,0))):
 Calls Tryz.prog 161 #[mg d,.pointer (some ⟨bp,0,none⟩)] w (PV (.bool (jE l out d)) w):=by
 obtain⟨y0,y1,y2,hys⟩:=nY (qP l d hd)
 have hag:mg d= .agg #[iv y0,iv y1,iv y2]:=by rw[hys];rfl
 have HP:=ae (fun W hW=>hag▸UX (w:=W) hS hd (hw.below (B:=w.heap.size) hW (ak _)))
 rw[hag]
 obtain⟨c1,f1,l1⟩:=af hp
 obtain⟨q,hq⟩: ∃q,jE l out d=q:=⟨_,rfl⟩
 have HQ:=ae hq
 clear hw hp hag hys hq
 go_enter Tryz.func161,Tryz.ntmps161
 go_wp2_with fail
 refine(HP.o _ (aj (aG _ _) _)).mono ?_
 rintro e w' ⟨hb,⟨hc,u,rfl,hu⟩|⟨hc,rfl⟩⟩
 ·have hq:q=true:=by rw[<-HQ.o,hc]
  obtain⟨uo,uc,rfl⟩:=aS hu
  have HB:=ae (aY (aj (aG w.heap.size w) (.cells #[iv y0,iv y1,iv y2] 247)) hb)
  have HE:=ae (ag hc hq)
  clear hb hc hu hq
  go_wp2_with fail
  go_returns
  exact⟨by rw[HE.o.1];simp,HB.o⟩
 ·have HB:=ae (aY (aj (aG w.heap.size w) (.cells #[iv y0,iv y1,iv y2] 247)) hb)
  have HE:=ae hc
  clear hb hc
  go_wp2_with fail
  go_returns
  exact⟨by rw[HE.o];simp,HB.o⟩
theorem pI {l:aQ} (hS:pX l) {tv nv v ov:Value} (out:List Int) {wb mb:Nat} {w:World} (hw:Fv w wb mb l tv nv v) (ho:aP w ov out):
 Calls Tryz.prog 93 #[.pointer (some ⟨wb,0,none⟩),ov] w (fun e w'=>e= .returned (.bool (gy l out))/\IA w' wb mb l tv nv v out/\Ext [mb] w w'):=by
 obtain⟨T0,hT0⟩:=hw.tab
 obtain⟨oo,oc,rfl⟩:=ho.open
 obtain⟨vo,vc,rfl⟩:=hw.work.truth.open
 have hF:=iK hS.field
 have hlen:(gq l).length<=2500:=jq (AO l _) (mi hF [])
 have hBA:Below w.heap.size w (w.alloc (.cells #[.pointer (some ⟨wb,0,none⟩)] 114)):=aj (aG _ _) _
 have HWO:=ae (NF l hF hS.many tv nv _ _ out wb mb (gq l) T0 _ (hw.work.below hBA (ak _)) (hT0.below hBA (ak _)) (ho.below hBA (ak _)) (qP l) hlen)
 have hmb:=hT0.lt
 have hwb:=hw.work.lt
 have HW:=ae (ag (hw.work.below hBA (ak _)) (hT0.below hBA (ak _)))
 have HS:=ae hS
 obtain⟨q,hq⟩: ∃q,gy l out=q:=⟨_,rfl⟩
 rw[hq]
 have HQ:=ae hq
 have hbp:=ay w (.cells #[.pointer (some ⟨wb,0,none⟩)] 114)
 have HBP:=ae hbp
 clear hw ho hT0 hq hS hbp hBA
 go_enter Tryz.func93,Tryz.ntmps93
 go_wp2_with fail
 refine HWO.o.mono ?_
 rintro e W1 ⟨⟨u,rfl⟩,hE,T,hT,YN⟩
 have acA:=(hE.block w.heap.size (by simp) (by simp;omega)).trans HBP.o
 have S9:=HW.o.1.table hE HW.o.2.nz
 have hKn:IA W1 wb mb l tv nv (.slice vo (gq l).length vc) out:=⟨S9,T,hT,YN⟩
 have YO:Ext [mb] w W1:=(Ext.az (aj (aG _ _) _)).trans hE
 have HC:=ae (aiu (gq l) (.slice vo (gq l).length vc) 161 #[] #[.pointer (some ⟨w.heap.size,0,none⟩)] (fun k=>jE l out ((gq l).getD k [])) (fun _ W=>Below W1.heap.size W1 W) W1 (qP l)
  (enters_of Tryz.func161 (by kernel_rfl) rfl) (fun k W hW=>S9.truth.below hW (ak _))
  (fun k hk W _ hW=>by
    have hg:(gq l).getD k []=(gq l)[k]:=by simp[List.getD,hk]
    rw[hg]
    refine(Wj HS.o (cZ hk) (hKn.below hW (ak _)) ((hW.block _ (aV.1 acA).1).trans acA)).mono ?_
    rintro e W' ⟨rfl,hb⟩
    exact⟨rfl,aY hW hb⟩) (aG _ _))
 obtain⟨c1,f1,l1⟩:=af acA
 obtain⟨c2,f2,l2⟩:=af S9.cells
 have HX:=ae (ag hKn YO)
 clear hE hT YN acA S9 hKn YO
 obtain⟨ls,hls⟩: ∃ls,gq l=ls:=⟨_,rfl⟩
 rw[hls] at HC c2
 have Jq:=ae hls
 clear hls
 go_wp2_with fail
 refine HC.o.mono ?_
 rintro e W2 ⟨k,hk,hno,⟨hlt,hp,rfl,hB⟩|⟨hkl,rfl,hB⟩⟩
 ·have hqt:q=true:=by
   rw[<-HQ.o]
   unfold gy
   rw[Jq.o,List.any_eq_true]
   exact⟨ls.getD k [],by rw[show ls.getD k []=ls[k] from by simp[List.getD,hlt]];exact cZ _,hp⟩
  have HF:=ae (ag hqt hB)
  clear hno hp hB hqt
  go_wp2_with fail
  go_returns
  exact⟨by rw[HF.o.1];simp,HX.o.1.below HF.o.2 (ak _),HX.o.2.trans (Ext.az HF.o.2)⟩
 ·have hqf:q=false:=by
   rw[<-HQ.o]
   unfold gy
   rw[Jq.o,List.any_eq_false]
   intro x hx
   obtain⟨j,hj,rfl⟩:=mJ hx
   have:=hno j (by omega)
   simp only at this
   rw[show ls.getD j []=ls[j] from by simp[List.getD,hj]] at this
   simp[this]
  have HF:=ae (ag hqf hB)
  clear hno hB hqf
  go_wp2_with fail
  go_returns
  exact⟨by rw[HF.o.1];simp,HX.o.1.below HF.o.2 (ak _),HX.o.2.trans (Ext.az HF.o.2)⟩
end Go.Proofs.YthbpmepjmebolaaGreatDoor
namespace Go.Proofs.YthbpmepjmebolaaGreatDoor
open Go.RowKit Go.RG Go.SL Go.Shelf jv Go.TB
def KH (l:aQ):Bool:=ou l.rate 1 50&&(lG l.box&&l.notes.all (Bv l))
def iU (l:aQ):Int:=if 5<l.notes.length then 3 else if fQ l.field true≠0 then fQ l.field true else if KH l=false then 1 else if gy l (upto l.notes.length)=false then 9 else 0
theorem JB {l:aQ} (h1: ¬5<l.notes.length) (h2:fQ l.field true=0) (h3:KH l=true):pX l:=by
 have hf:jZ l.field=0:=by
  unfold fQ at h2
  split at h2
  ·omega
  ·rename_i h;omega
 obtain⟨hS,hpos,_⟩:=sG h2
 simp only[KH,ou,lG,fH,eY,jR] at h3
 obtain⟨⟨r1,r2⟩,⟨b1,⟨b2,b3⟩,b4,b5⟩,hn⟩:=h3
 refine⟨hf,fun e=>by rw[e] at hpos;simp at hpos,⟨r1,r2⟩,⟨by omega,by omega,by omega⟩,by omega,fun x hx=>?_⟩
 have:=hn x hx
 simp only[Bv,ou,lG,fH,eY] at this
 omega
def BQ (n k:Nat):List Int:=(List.range n).map fun(i:Nat)=>if i<k then(i:Int) else 0
theorem Xy (n:Nat):BQ n 0=List.replicate n 0:=by
 unfold BQ
 simp only[Nat.not_lt_zero,if_false]
 rw[List.map_const',List.length_range]
theorem aaM (n:Nat):BQ n n=upto n:=by
 unfold BQ upto
 apply List.map_congr_left
 intro i hi
 rw[aA (lM.1 hi)]
theorem aaL {n k:Nat} (_hk:k<n):(BQ n k).set k (k:Int)=BQ n (k+1):=by
 refine List.ext_getElem (by simp[BQ]) fun i h1 h2=>?_
 rw[List.getElem_set]
 simp only[BQ,List.getElem_map,List.getElem_range]
 by_cases e:k=i
 ·subst e;simp
 ·rw[ai e]
  by_cases h:i<k
  ·rw[aA h,aA (by omega)]
  ·rw[ai h,ai (by omega)]
theorem Po (n k:Nat):(BQ n k).length=n:=by simp[BQ]
def QH (l:aQ) (tv nv:Value) (w:World) (e:Ending) (w':World):Prop:=
 Below w.heap.size w w'/\((iU l≠0/\e= .returned (.tuple #[.pointer none,iv (iU l)]))∨
  (iU l=0/\ ∃(wb mb:Nat) (v:Value),e= .returned (.tuple #[.pointer (some ⟨wb,0,none⟩),iv 0])/\w.heap.size<=wb/\w.heap.size<=mb/\Fv w' wb mb l tv nv v))
theorem yP (l:aQ) (tv nv:Value) (w:World) (ht:dM w tv l.field.ax) (hn:bz w nv l.notes):
 Calls Tryz.prog 51 #[lv l tv nv] w (QH l tv nv w):=by
 obtain⟨on,cn,rfl⟩:=hn.open
 obtain⟨ot,ct,rfl⟩:=ht.open
 have hnl:=hn.len
 have HN:=ae hn
 have HT:=ae ht
 clear hn ht
 by_cases h5:5<l.notes.length
 ·have HF:Hid (iU l=3):=ae (by unfold iU;rw[aA h5])
  have h5I:(l.notes.length:Int)>5:=by omega
  go_enter Tryz.func51,Tryz.ntmps51
  go_wp2_with fail
  go_returns
  exact⟨zl,.inl ⟨by rw[HF.o];simp,by rw[HF.o];simp⟩⟩
 have h5I: ¬((l.notes.length:Int)>5):=by omega
 have hW:iU l=if fQ l.field true≠0 then fQ l.field true else if KH l=false then 1 else if gy l (upto l.notes.length)=false then 9 else 0:=by unfold iU;rw[ai h5]
 have HD:=ae (fun w ht=>CW l.field (.slice ot l.field.ax.length ct) w ht)
 obtain⟨q,hq⟩: ∃q,fQ l.field true=q:=⟨_,rfl⟩
 rw[hq] at hW
 by_cases hq0:q=0
 case neg=>
  have HF:Hid (iU l=q/\q≠0/\fQ l.field true=q):=ae ⟨by rw[hW,aA hq0],hq0,hq⟩
  have hqb:(q !=0)=true:=by simpa using hq0
  clear hW hq hq0
  go_enter Tryz.func51,Tryz.ntmps51
  go_wp2_with fail
  refine(HD.o _ (HT.o.alloc _)).mono ?_
  rintro e w1 ⟨hb,⟨hne,rfl⟩|⟨h0,_⟩⟩
  ·have HB:=ae (show Below w.heap.size w w1 from zl)
   rw[HF.o.2.2]
   clear hb hne
   go_wp2_with fail
   go_returns
   exact⟨HB.o,.inl ⟨by rw[HF.o.1];exact HF.o.2.1,by rw[HF.o.1];simp⟩⟩
  ·exact absurd (HF.o.2.2.symm.trans h0) HF.o.2.1
 rw[ai (by rw[hq0];simp)] at hW
 rw[hq0] at hq
 have HW:=ae hW
 have hwd: -1000<=l.field.aO/\l.field.aO<=1000:=by
  have hF0:jZ l.field=0:=by
   unfold fQ at hq
   by_cases h:jZ l.field=0
   ·exact h
   ·rw[aA h] at hq;exact hq
  have:=iK hF0
  have:=this.zO
  have:=(iK hF0).xC
  omega
 have HQ:=ae hq
 clear hW hq hq0
 obtain⟨r1,hr1⟩: ∃r1,ou l.rate 1 50=r1:=⟨_,rfl⟩
 obtain⟨r2,hr2⟩: ∃r2,lG l.box=r2:=⟨_,rfl⟩
 obtain⟨r3,hr3⟩: ∃r3,l.notes.all (Bv l)=r3:=⟨_,rfl⟩
 have hargs:KH l=(r1&&(r2&&r3)):=by unfold KH;rw[hr1,hr2,hr3]
 have H1:=ae (fun w=>hr1▸yI l.rate 1 50 w)
 have H2:=ae (fun w=>hr2▸Fb l.box w)
 have H3:=ae (fun(W:World) (hB:Below w.heap.size w W)=>
  hr3▸XZ l.notes (.slice on l.notes.length cn) 88 #[lv l (.slice ot l.field.ax.length ct) (.slice on l.notes.length cn)] #[] (Bv l) W (HN.o.below hB (ak _)) (enters_of Tryz.func88 (by kernel_rfl) rfl) (fun x _ W' _=>note_any l _ _ x W' hwd.1 hwd.2))
 have HA:=ae hargs
 clear hargs hr1 hr2 hr3
 go_enter Tryz.func51,Tryz.ntmps51
 go_wp2_with fail
 refine(HD.o _ (HT.o.alloc _)).mono ?_
 rintro e w1 ⟨hb,⟨hne,_⟩|⟨_,u,rfl,hu⟩⟩
 ·exact absurd HQ.o hne
 obtain⟨uo,uc,rfl⟩:=hu.open
 obtain⟨hc,hf⟩:=bT hb
 have hz0:w.heap.size<w1.heap.size:=by have:=hb.size;simp at this;omega
 have hk1:=(hb.block w.heap.size (by simp)).trans (ay w (.cells (lg l (.slice ot l.field.ax.length ct) (.slice on l.notes.length cn)) 33))
 have HB1:=ae (ag (show Below w.heap.size w w1 from zl) hk1)
 clear hb hu hk1
 go_wp2_with fail
 refine(H1.o _).mono ?_
 rintro e w2 ⟨rfl,hb⟩
 have hk2:=(hb.block _ hz0).trans HB1.o.2
 have HB2:=ae (ag (aY HB1.o.1 hb) hk2)
 obtain⟨c2,f2,l2⟩:=af hk2
 clear hb hk2 hc hf hz0
 cases r1
 ·have hF:iU l=1:=by rw[HW.o,HA.o];rfl
  have HF:=ae hF
  clear hF
  go_wp2_with fail
  go_returns
  exact⟨HB2.o.1,.inl ⟨by rw[HF.o];simp,by rw[HF.o];simp⟩⟩
 go_wp2_with fail
 refine(H2.o _).mono ?_
 rintro e w3 ⟨rfl,hb⟩
 have hk3:=(hb.block _ l2).trans HB2.o.2
 have HB3:=ae (ag (aY HB2.o.1 hb) hk3)
 obtain⟨c3,f3,l3⟩:=af hk3
 clear hb hk3 c2 f2 l2
 cases r2
 ·have hF:iU l=1:=by rw[HW.o,HA.o];rfl
  have HF:=ae hF
  clear hF
  go_wp2_with fail
  go_returns
  exact⟨HB3.o.1,.inl ⟨by rw[HF.o];simp,by rw[HF.o];simp⟩⟩
 go_wp2_with fail
 refine(H3.o _ HB3.o.1).mono ?_
 rintro e w4 ⟨rfl,hb⟩
 have hk4:=(hb.block _ l3).trans HB3.o.2
 have HB4:=ae (ag (aY HB3.o.1 hb) hk4)
 obtain⟨c4,f4,l4⟩:=af hk4
 clear hb hk4 c3 f3 l3
 cases r3
 ·have hF:iU l=1:=by rw[HW.o,HA.o];rfl
  have HF:=ae hF
  clear hF
  go_wp2_with fail
  go_returns
  exact⟨HB4.o.1,.inl ⟨by rw[HF.o];simp,by rw[HF.o];simp⟩⟩
 have hS:pX l:=JB h5 HQ.o (by rw[HA.o];rfl)
 have hW:iU l=if gy l (upto l.notes.length)=false then 9 else 0:=by rw[HW.o,HA.o];rfl
 have HS:=ae hS
 have HW':=ae hW
 clear hS hW
 go_wp2_with fail
 refine(Xt l _ _ HS.o.field (by have:=HS.o.rate;omega) (by have:=HS.o.rate;omega) w4 (HT.o.below HB4.o.1 (ak _)) (HN.o.below HB4.o.1 (ak _))).mono ?_
 rintro e w5 ⟨wb,mb,v,rfl,hwb,hmb,htab,hlw,hb⟩
 have hk5:=(hb.block _ l4).trans HB4.o.2
 have ag5:Fv w5 wb mb l (.slice ot l.field.ax.length ct) (.slice on l.notes.length cn) v:=⟨hlw,[],LM htab⟩
 have hs4:=HB4.o.1.size
 have oK:=ae (ag (aY HB4.o.1 hb) (ag hk5 ag5))
 obtain⟨c5,f5,l5⟩:=af hk5
 obtain⟨n,hn⟩: ∃n,l.notes.length=n:=⟨_,rfl⟩
 have hmk:=vY n (by omega)
 rw[hn] at HW' c5
 have KO:=ae hn
 have hn5:n<=5:=by omega
 clear hb hk5 hlw htab c4 f4 l4 ag5 hn
 go_upto_region 11 with(fail)
 refine dF fun W6 Ko=>?_
 have TA:Below w5.heap.size w5 W6:=by rw[Ko];exact aj (aG _ _) _
 have hk6:W6.heap[w5.heap.size]? =some (.cells (ah (BQ n 0)).toArray 3 (0,0)):=by rw[Ko,Xy];exact ay _ _
 have H6:=ae (ag TA hk6)
 clear Ko TA hk6 hmk c5 f5 l5
 go_wp2_with fail
 go_loopw [50] (fun u wr=> ∃k:Nat,k<=n/\u= .int .i64 k/\wr.heap[w5.heap.size]? =some (.cells (ah (BQ n k)).toArray 3 (0,0))/\Below w5.heap.size w5 wr) (fun u _=>n-(intOf u).toNat)
 case atStart=>exact⟨0,bU _,rfl,H6.o.2,H6.o.1⟩
 case round=>
  obtain⟨k,hk,rfl,hcb,hB⟩:=hrel
  by_cases hlt:k<n
  ·have hcell:=gJ hcb (show k<(BQ n k).length by rw[Po];exact hlt)
   generalize (BQ n k)[k]'(by rw[Po];exact hlt)=x at hcell
   have hlb:=dN wr _ hcell
   have hfr:=bD hcb k
   have HX:=ae (ag hcb hB)
   clear hcb hB
   go_wp2_with fail
   go_roundw
   case rel=>
    refine⟨k+1,by omega,by go_num,?_,iH HX.o.2 (ak _) _⟩
    rw[<-aaL hlt, <-sU]
    exact aJ HX.o.1 _
   case measure=>simp[intOf];omega
  ·have hkn:k=n:=by omega
   subst hkn
   rw[aaM] at hcb
   have vJ:aP wr (.slice (some ⟨w5.heap.size,0,none⟩) k k) (upto k):=by
    have hul:(upto k).length=k:=by simp[upto]
    have:=aN.dm (w:=wr) (cs:=(ah (upto k)).toArray) 1 k hcb (by simp[ah,hul]) (by simp only[maxLen];omega)
    show aN 1 _ _ (upto k).length _
    rw[hul]
    exact this
   have HP:=ae (pI HS.o (upto k) (oK.o.2.2.below hB (ak _)) vJ)
   have HX:=ae hB
   obtain⟨q,hq⟩: ∃q,gy l (upto k)=q:=⟨_,rfl⟩
   rw[hq] at HP HW'
   clear hcb hB vJ hq
   go_wp2_with fail
   refine HP.o.mono ?_
   rintro e w7 ⟨rfl,hkn,hE⟩
   have Tz:Below w.heap.size w w7:=by
    have h1:=aY oK.o.1 (HX.o)
    exact iw h1 hE (by omega)
   have HX7:=ae (ag hkn.ok Tz)
   clear hkn hE Tz
   cases q
   ·have HF:=ae HW'.o
    go_wp2_with fail
    go_returns
    exact⟨HX7.o.2,.inl ⟨by rw[HF.o];simp,by rw[HF.o];simp⟩⟩
   ·have HF:=ae HW'.o
    go_wp2_with fail
    go_returns
    exact⟨HX7.o.2,.inr ⟨by rw[HF.o];rfl,wb,mb,v,by simp,by omega,by omega,HX7.o.1⟩⟩
end Go.Proofs.YthbpmepjmebolaaGreatDoor
namespace Go.Proofs.YthbpmepjmebolaaGreatDoor
open Go.RowKit Go.RG Go.SL Go.Shelf jv Go.TB
theorem Fz (l:aQ) (tv nv:Value) (w:World) (ht:dM w tv l.field.ax) (hn:bz w nv l.notes):
 Calls Tryz.prog 18 #[lv l tv nv] w (PV (iv (iU l)) w):=by
 have HC:=ae (yP l tv nv (w.alloc (.cells (lg l tv nv) 33)) (ht.alloc _) (hn.alloc _))
 obtain⟨q,hq⟩: ∃q,iU l=q:=⟨_,rfl⟩
 rw[hq]
 have HQ:=ae hq
 clear ht hn hq
 go_enter Tryz.func18,Tryz.ntmps18
 go_wp2_with fail
 refine HC.o.mono ?_
 rintro e w1 ⟨hb,⟨hne,rfl⟩|⟨h0,wb,mb,v,rfl,_,_,hok⟩⟩
 ·have HB:=ae (show Below w.heap.size w w1 from zl)
  rw[HQ.o]
  clear hb hne
  go_wp2_with fail
  go_returns
  exact⟨by simp,HB.o⟩
 ·have HB:=ae (show Below w.heap.size w w1 from zl)
  have hq0:q=0:=HQ.o.symm.trans h0
  have jS:=ae hq0
  clear hb hok h0 hq0
  go_wp2_with fail
  go_returns
  exact⟨by rw[jS.o];simp,HB.o⟩
theorem pO {l:aQ} (h:iU l=0):pX l/\gy l (upto l.notes.length)=true:=by
 unfold iU at h
 split at h
 ·omega
 ·rename_i h1
  split at h
  ·omega
  ·rename_i h2
   split at h
   ·omega
   ·rename_i h3
    split at h
    ·omega
    ·rename_i h4
     exact⟨JB h1 (by omega) (by simpa using h3),by simpa using h4⟩
structure pY (w0:World) (Ms:List Nat) (gu:World->Prop) (zH:Value) (below fb pb bb ab:Nat) (W:World):Prop where
 ext:Ext Ms w0 W
 cache:gu W
 found: ∃o n c,W.heap[fb]? =some (.cells #[.slice o n c] 36 (0,0))
 pass:W.heap[pb]? =some (.cells #[zH] 157 (0,0))
 bound:W.heap[bb]? =some (.cells #[iv below] 3 (0,0))
 add:W.heap[ab]? =some (.cells #[.func (.func 170) #[] #[.pointer (some ⟨fb,0,none⟩),.pointer (some ⟨pb,0,none⟩),.pointer (some ⟨bb,0,none⟩),.pointer (some ⟨ab,0,none⟩)]] 256 (0,0))
 new:w0.heap.size<=fb/\w0.heap.size<=pb/\w0.heap.size<=bb/\w0.heap.size<=ab
 old: ∀m∈Ms,m<w0.heap.size
 good:abv Ms gu
theorem pY.table {w0 W W':World} {Ms:List Nat} {gu:World->Prop} {zH:Value} {below fb pb bb ab:Nat} (h:pY w0 Ms gu zH below fb pb bb ab W) (hE:Ext Ms W W') (hc:gu W'):pY w0 Ms gu zH below fb pb bb ab W':=by
 have hn:=h.new
 have ho:=h.old
 obtain⟨o,n,c,hf⟩:=h.found
 have k: ∀(b:Nat) (x:Obj),W.heap[b]? =some x->w0.heap.size<=b->W'.heap[b]? =some x:=fun b x hb hle=>(hE.block b (aV.1 hb).1 (fun hm=>by have:=ho b hm;omega)).trans hb
 exact⟨h.ext.trans hE,hc,⟨o,n,c,k _ _ hf hn.1⟩,k _ _ h.pass hn.2.1,k _ _ h.bound hn.2.2.1,k _ _ h.add hn.2.2.2,hn,ho,h.good⟩
theorem pY.below {w0 W W':World} {Ms:List Nat} {gu:World->Prop} {zH:Value} {below fb pb bb ab:Nat} (h:pY w0 Ms gu zH below fb pb bb ab W) (hB:Below W.heap.size W W'):pY w0 Ms gu zH below fb pb bb ab W':=
 h.table (Ext.az hB) (h.good.kept _ _ h.cache fun m hm=>hB.block m (by have:=h.old m hm;have:=h.ext.size;omega))
def abA (w0:World) (Ms:List Nat) (gu:World->Prop) (zH:Value) (below fb pb bb ab:Nat) (r:Option (List Int)) (W:World) (e:Ending) (W':World):Prop:=
 (pY w0 Ms gu zH below fb pb bb ab W'/\Ext (fb::Ms) W W')/\((∃c,r=some c/\e= .returned (.bool true)/\ ∃sv,W'.heap[fb]? =some (.cells #[sv] 36 (0,0))/\aP W' sv c)∨(r=none/\e= .returned (.bool false)))
theorem pY.set {w0 W:World} {Ms:List Nat} {gu:World->Prop} {zH:Value} {below fb pb bb ab:Nat} (h:pY w0 Ms gu zH below fb pb bb ab W) (hd:fb≠pb/\fb≠bb/\fb≠ab) (o:Option Addr) (n c:Nat):pY w0 Ms gu zH below fb pb bb ab (W.setCell ⟨fb,0,none⟩ (.slice o n c)):=by
 have hn:=h.new
 have ho:=h.old
 obtain⟨o',n',c',hf⟩:=h.found
 exact⟨h.ext.set hn.1 _,h.good.kept _ _ h.cache (fun m hm=>dI _ _ _ _ (by have:=ho m hm;show m≠fb;omega)),⟨o,n,c,aJ hf _⟩,
  (dI _ _ _ _ (by show pb≠fb;omega)).trans h.pass,(dI _ _ _ _ (by show bb≠fb;omega)).trans h.bound,(dI _ _ _ _ (by show ab≠fb;omega)).trans h.add,hn,ho,h.good⟩
theorem pY.not {w0 W:World} {Ms:List Nat} {gu:World->Prop} {zH:Value} {below fb pb bb ab:Nat} (h:pY w0 Ms gu zH below fb pb bb ab W): ∀x∈fb::Ms, ∀o n,W.cell? ⟨x,o,none⟩≠some (.int .i64 n):=by
 intro x hx o n hc
 obtain⟨o',n',c',hf⟩:=h.found
 rcases iy.1 hx with rfl|hx
 ·simp only[World.cell?,hf] at hc
  cases o with
  |zero=>simp at hc
  |succ o=>simp at hc
 ·rw[h.good.none _ h.cache x hx o] at hc;cases hc
theorem aa9 (below:Nat) (hbl:below<=500) (p:List Int->Bool) (Ms:List Nat) (gu:World->Prop) (w0:World) (pf:Nat) (qj kY:Array Value) (fb pb bb ab:Nat) (hd:fb≠pb/\fb≠bb/\fb≠ab)
 (eg: ∀args w,(callFunc pf args).run Tryz.prog w= .ok (.enter pf args) w)
 (wu: ∀l v W,(∀x∈l,0<=x/\x<(below:Int))->Ext Ms w0 W->gu W->aP W v l->Calls Tryz.prog pf (qj.push v++kY) W (fun e W'=>e= .returned (.bool (p l))/\gu W'/\Ext Ms W W')):
 ∀(m f:Nat) (l:List Int) (v:Value) (W:World),l.length+m<=900->f<=900->m<=900->(∀x∈l,0<=x/\x<(below:Int))->pY w0 Ms gu (.func (.func pf) qj kY) below fb pb bb ab W->aP W v l->
  Calls Tryz.prog 170 #[v,iv f,iv m,.pointer (some ⟨fb,0,none⟩),.pointer (some ⟨pb,0,none⟩),.pointer (some ⟨bb,0,none⟩),.pointer (some ⟨ab,0,none⟩)] W
   (abA w0 Ms gu (.func (.func pf) qj kY) below fb pb bb ab (((jO below m f).map (l++ ·)).find? p) W):=by
 intro m
 induction m with
 |zero=>
  intro f l v W h1 h2 h3 hlb hst hv
  have hres:((jO below 0 f).map (l++ ·)).find? p=if p l then some l else none:=by
   simp only[jO,List.map_cons,List.map_nil,List.append_nil,List.find?_cons,List.find?_nil]
   cases p l <;>rfl
  obtain⟨r,hr⟩: ∃r,((jO below 0 f).map (l++ ·)).find? p=r:=⟨_,rfl⟩
  rw[hr] at hres⊢
  have xU:=ae hres
  clear hr hres
  obtain⟨o,c,rfl⟩:=hv.open
  obtain⟨o',n',c',hf⟩:=hst.found
  have c1:=aC hf
  have c2:=aC hst.pass
  have hlt:=dN W _ c1
  have hfr:=bD hf 0
  have hS:=hst.set hd o l.length c
  have hv1:aP (W.setCell ⟨fb,0,none⟩ (.slice o l.length c)) (.slice o l.length c) l:=aP.uT hv ((mQ W ⟨fb,0,none⟩ _).more (Ms':=fb::Ms) (by simp)) hst.not
  have HC:=ae (wu l _ _ hlb hS.ext hS.cache hv1)
  have HS:=ae hst
  have Nc:=ae (ag hS hv1)
  have HF:=ae hf
  have hd1: ¬pb=fb:=fun e=>hd.1 e.symm
  have hd2:=hd.1
  clear wu hst hv hS hv1 hf
  go_enter Tryz.func170,Tryz.ntmps170
  go_wp2_with fail
  refine HC.o.mono ?_
  rintro e W' ⟨rfl,hcc,hE⟩
  have hS2:=Nc.o.1.table hE hcc
  have hn:=HS.o.new
  have ho:=HS.o.old
  have hfb:W'.heap[fb]? =some (.cells #[.slice o l.length c] 36 (0,0)):=(hE.block fb (by simpa [World.setCell] using hlt) (fun hm=>by have:=ho fb hm;omega)).trans (aJ HF.o _)
  have hEE:Ext (fb::Ms) W W':=((mQ W ⟨fb,0,none⟩ (.slice o l.length c)).more (by simp)).trans (hE.more (fun x hx=>pV _ hx))
  have hv2:aP W' (.slice o l.length c) l:=aP.uT Nc.o.2 (hE.more (Ms':=fb::Ms) (fun x hx=>pV _ hx)) Nc.o.1.not
  have HR:=ae (ag hS2 (ag hfb (ag hEE hv2)))
  clear hcc hE hS2 hfb hEE hv2
  go_wp2_with fail
  go_returns
  refine⟨⟨HR.o.1,HR.o.2.2.1⟩,?_⟩
  have hre:=xU.o
  revert hre
  cases p l
  ·intro hre;exact .inr ⟨by simpa using hre,by simp⟩
  ·intro hre;exact .inl ⟨l,by simpa using hre,by simp,_,HR.o.2.1,HR.o.2.2.2⟩
 |succ m ih=>
  intro f l v W h1 h2 h3 hlb hst hv
  obtain⟨o,c,rfl⟩:=hv.open
  have hres:((jO below (m+1) f).map (l++ ·)).find? p=((List.range (below-m-f)).flatMap fun j=>(jO below m (f+j+1)).map ((l++[((f+j:Nat):Int)])++ ·)).find? p:=by
   conv=>lhs;unfold jO
   rw[List.map_flatMap]
   simp only[List.map_map]
   congr 2
   funext j
   apply List.map_congr_left
   intro x _
   simp
  rw[hres]
  clear hres
  obtain⟨r,hr⟩: ∃r,((List.range (below-m-f)).flatMap fun j=>(jO below m (f+j+1)).map ((l++[((f+j:Nat):Int)])++ ·)).find? p=r:=⟨_,rfl⟩
  rw[hr]
  have xU:=ae hr
  clear hr
  have hmm:(m:Int)+1<=900:=by omega
  have hm0:((m:Int)+1==0)=false:=by simp;omega
  have akK: ¬((m:Int)+1=0):=by omega
  rw[show(((m+1:Nat)):Int)=(m:Int)+1 from by omega]
  have HST:=ae hst
  have HV:=ae hv
  have HIH:=ae ih
  have HD:=ae hd
  have HLB:=ae hlb
  clear wu hst hv ih hd hlb
  go_enter Tryz.func170,Tryz.ntmps170
  go_wp2_with fail
  go_loopw [11] (fun i wr=> ∃q:Nat,f<=q/\q<=f+(below-m-f)/\i= .int .i64 q/\pY w0 Ms gu (.func (.func pf) qj kY) below fb pb bb ab wr/\Ext (fb::Ms) W wr/\
   (∀j,f+j<q->((jO below m (f+j+1)).map ((l++[((f+j:Nat):Int)])++ ·)).find? p=none)) (fun i _=>below+f+1-(intOf i).toNat)
  case atStart=>exact⟨f,ak _,by omega,rfl,HST.o,Ext.refl _ _,fun j hj=>by omega⟩
  case round=>
   obtain⟨q,hfq,hq,rfl,hst,hE,hno⟩:=hrel
   have hv:=aP.uT HV.o hE HST.o.not
   have d1:=aC hst.bound
   have d2:=aC hst.add
   have e1:=dN wr _ d1
   have e2:=dN wr _ d2
   have HS:=ae hst
   have HE:=ae hE
   have HN:=ae hno
   have HVV:=ae hv
   clear hst hE hno hv
   by_cases hlt:q<f+(below-m-f)
   ·have hqI:(q:Int)<=(below:Int)-((m:Int)+1):=by omega
    have hq9:(q:Int)<=500:=by omega
    go_wp2_with fail
    refine qF 10 [] (some 5) [(2,⟨fun _ v=> ∃o c,v= .slice o l.length c,fun _ _ _=>True⟩),(4,⟨fun _ v=> ∃b:Nat,v= .slice (some ⟨b,0,none⟩) 1 1,fun _ _ _=>True⟩),(5,⟨fun _ v=> ∃o c,v= .slice o (l.length+1) c,fun _ v W=>W.ownsRow wr.heap.size 3 1 v (l.length+1) (ah (l++[(q:Int)]))⟩)] (agt wr.heap.size l.length l q) (by kernel_rfl) (by kernel_rfl) ?_
    simp only[zt]
    repeat (refine zd ?_;simp only[zp])
    refine kW _ (by rfl) (by rfl) (by exact⟨.slice none l.length 0,none,0,rfl⟩) (fun W1 hE hF hG=>?_) (fun _ _ _ _ _=>trivial) (fun v Wa Wb ho hE=>aB (Ms:=[]) ho hE (by simp)) (fun v hv=>?_)
    ·have hE':uO wr.heap.size [] wr W1:=hE
     refine dB 98 #[.slice o l.length c] (by go_simp;try rfl) ?_
     refine(clone_any l _ W1 (HVV.o.below (qx hE' (ak _)) (ak _)) (by omega)).mono ?_
     rintro e W2 ⟨v,rfl,ho,hb⟩
     refine⟨v,rfl,aS ho,trivial,Ext.az hb,dh ho hE'.size⟩
    obtain⟨o2,c2,rfl⟩:=hv
    simp only[zp]
    repeat (refine zd ?_;simp only[zp])
    refine kW _ (by rfl) (by rfl) (by exact⟨.slice (some ⟨0,0,none⟩) 1 1,0,rfl⟩) (fun W1 hE hF hG=>?_) (fun _ _ _ _ _=>trivial) (fun v Wa Wb ho hE=>?_) (fun v hv=>?_)
    ·refine jf (W':=W1.alloc (.cells #[iv q] 3)) (.slice (some ⟨W1.heap.size,0,none⟩) 1 1) (by go_simp;try rfl) ⟨⟨_,rfl⟩,trivial,Ext.az ((aG _ _).alloc (ak _) _),_,rfl,heap_alloc_new _ _⟩
    ·obtain⟨b,hb,hc⟩:=ho
     exact⟨b,hb,(hE.block b (aV.1 hc).1 (by simp)).trans hc⟩
    obtain⟨b4,rfl⟩:=hv
    simp only[zp]
    refine kW _ (by rfl) (by rfl) (by exact⟨.slice none (l.length+1) 0,none,0,rfl⟩) (fun W1 hE hF hG=>?_) (fun v Wa Wb ho hE=>aB (Ms:=[]) ho hE (by simp)) (fun _ _ _ _ _=>trivial) (fun v hv=>?_)
    ·obtain⟨b,hb,hc⟩:=hG rfl _ (bK _) (by kernel_rfl)
     cases hb
     have ho:W1.ownsRow wr.heap.size 3 1 (.slice o2 l.length c2) l.length (ah l):=hG rfl _ (nU _ (bK _)) (by kernel_rfl)
     have hE':Ext [] wr W1:=hE
     have hsrc:aN 1 W1 (.slice (some ⟨b4,0,none⟩) 1 1) 1 (ah [(q:Int)]):=aN.dm 1 1 hc rfl (by decide)
     refine Does.mono (yO rE (by rfl) (by rfl) ho (by rfl) hsrc (jB _) (by omega) (by omega) hE'.size) ?_
     rintro v W2 ⟨hown,hgr⟩
     rw[<-vF] at hown
     obtain⟨o5,c5,rfl⟩:=aS hown
     exact⟨⟨o5,c5,rfl⟩,hown,Hw ho hgr,trivial⟩
    obtain⟨o5,c5,rfl⟩:=hv
    simp only[zp]
    repeat (refine zn ?_;simp only[zp])
    intro W1 hE1 hF
    have hE':uO wr.heap.size [] wr W1:=hE1
    have hB:=qx hE' (ak _)
    obtain⟨hc,hf⟩:=bT hB
    have ho:W1.ownsRow wr.heap.size 3 1 (.slice o5 (l.length+1) c5) (l.length+1) (ah (l++[(q:Int)])):=hF _ (bK _)
    have vJ:aP W1 (.slice o5 (l.length+1) c5) (l++[(q:Int)]):=by
     have:=aN.dH ho
     unfold aP
     rw[dA]
     exact this
    have hcall:=HIH.o (q+1) (l++[(q:Int)]) _ W1 (by simp;omega) (by omega) (by omega) (fun x hx=>by rcases iI.1 hx with h|h;exact HLB.o x h;(obtain rfl:x=(q:Int):=by simpa using h);omega) (HS.o.below hB) vJ
    rw[show(((q+1:Nat)):Int)=(q:Int)+1 from by omega] at hcall
    have HC:=ae hcall
    have HB:=ae hB
    clear hcall vJ ho hB hE' hE1 hF
    go_wp2_with fail
    refine HC.o.mono ?_
    rintro e W2 ⟨⟨hS2,hE2⟩,hres⟩
    have HS2:=ae hS2
    have HEE:=ae ((HE.o.trans (Ext.az HB.o)).trans hE2)
    clear hS2 hE2 hc hf d1 d2
    have hq1:f+(q-f)=q:=by omega
    rcases hres with⟨cc,hcc,rfl,sv,hsv,vJ⟩|⟨hnone,rfl⟩
    ·have HR:=ae (ag hcc (ag hsv vJ))
     clear hcc hsv vJ
     go_wp2_with fail
     go_returns
     refine⟨⟨HS2.o,HEE.o⟩,.inl ⟨cc,?_,by simp,sv,HR.o.2⟩⟩
     rw[<-xU.o]
     refine qY p _ _ (q-f) (by simp;omega) cc (fun j hj=>?_) ?_
     ·simp only[List.getElem_range]
      exact HN.o j (by omega)
     ·simp only[List.getElem_range,hq1]
      exact HR.o.1
    ·have HR:=ae hnone
     clear hnone
     go_wp2_with fail
     go_roundw
     case rel=>
      refine⟨q+1,by omega,by omega,by go_num,HS2.o,HEE.o,fun j hj=>?_⟩
      by_cases hjq:f+j=q
      ·rw[hjq];exact HR.o
      ·exact HN.o j (by omega)
     case measure=>simp[intOf];omega
   ·have hqI: ¬((q:Int)<=(below:Int)-((m:Int)+1)):=by omega
    go_wp2_with fail
    go_returns
    refine⟨⟨HS.o,HE.o⟩,.inr ⟨?_,by simp⟩⟩
    rw[<-xU.o]
    exact tZ p _ _ (fun j hj=>by
     simp only[List.length_range] at hj
     simp only[List.getElem_range]
     exact HN.o j (by omega))
def ac4 (Ms:List Nat) (gu:World->Prop) (r:Option (List Int)) (w:World) (e:Ending) (W':World):Prop:=
 (gu W'/\Ext Ms w W')/\((∃c v,r=some c/\e= .returned v/\aP W' v c)∨(r=none/\ ∃o n c,e= .returned (.slice o n c)))
theorem pY.fin {w0 W:World} {Ms:List Nat} {gu:World->Prop} {zH:Value} {below fb pb bb ab:Nat} (h:pY w0 Ms gu zH below fb pb bb ab W):gu W/\Ext Ms w0 W:=⟨h.cache,h.ext⟩
theorem IZ (below:Nat) (hbl:below<=500) (p:List Int->Bool) (Ms:List Nat) (gu:World->Prop) (hG:abv Ms gu) (w:World) (hcc:gu w) (hmb: ∀m∈Ms,m<w.heap.size) (pf:Nat) (qj kY:Array Value)
 (eg: ∀args w,(callFunc pf args).run Tryz.prog w= .ok (.enter pf args) w)
 (wu: ∀l v W,(∀x∈l,0<=x/\x<(below:Int))->Ext Ms w W->gu W->aP W v l->Calls Tryz.prog pf (qj.push v++kY) W (fun e W'=>e= .returned (.bool (p l))/\gu W'/\Ext Ms W W')):
 Calls Tryz.prog 104 #[iv below,.func (.func pf) qj kY] w (ac4 Ms gu (nR below p) w):=by
 have HA:=ae (fun(m:Nat) (W:World) (hm:m<=501) (hst:pY w Ms gu (.func (.func pf) qj kY) below (w.heap.size+1+1) (w.heap.size+1) w.heap.size (w.heap.size+1+1+1) W)=>
  aa9 below hbl p Ms gu w pf qj kY (w.heap.size+1+1) (w.heap.size+1) w.heap.size (w.heap.size+1+1+1) (by omega) eg wu m 0 [] (.slice none 0 0) W (by simp;omega) (by omega) (by omega) (by simp) hst (qO W))
 obtain⟨r,hr⟩: ∃r,nR below p=r:=⟨_,rfl⟩
 rw[hr]
 have HR:=ae hr
 have HCC:=ae hcc
 clear wu eg hcc hr
 go_enter Tryz.func104,Tryz.ntmps104
 go_wp2_with fail
 go_step3
 go_wp2_with fail
 go_step3
 go_wp2_with fail
 obtain⟨w4,hw4⟩: ∃w4,((((w.alloc (.cells #[iv below] 3)).alloc (.cells #[.func (.func pf) qj kY] 157)).alloc (.cells #[.slice none 0 0] 36)).alloc
  (.cells #[.func (.func 170) #[] #[.pointer (some ⟨w.heap.size+1+1,0,none⟩),.pointer (some ⟨w.heap.size+1,0,none⟩),.pointer (some ⟨w.heap.size,0,none⟩),.pointer (some ⟨w.heap.size+1+1+1,0,none⟩)]] 256))=w4:=⟨_,rfl⟩
 have Z5:pY w Ms gu (.func (.func pf) qj kY) below (w.heap.size+1+1) (w.heap.size+1) w.heap.size (w.heap.size+1+1+1) w4:=by
  have hB:Below w.heap.size w w4:=by rw[<-hw4];exact zl
  refine⟨Ext.az hB,hG.kept _ _ HCC.o (fun m hm=>hB.block m (hmb m hm)),⟨none,0,0,?_⟩,?_,?_,?_,by omega,hmb,hG⟩
  ·rw[<-hw4];exact(aW _ _ _ (by simp)).trans (iD _ _ _ _)
  ·rw[<-hw4];exact(aW _ _ _ (by simp)).trans ((aW _ _ _ (by simp)).trans (dY _ _ _))
  ·rw[<-hw4];exact(aW _ _ _ (by simp;omega)).trans ((aW _ _ _ (by simp;omega)).trans ((aW _ _ _ (by simp)).trans (ay _ _)))
  ·rw[<-hw4];have:=ay (((w.alloc (.cells #[iv below] 3)).alloc (.cells #[.func (.func pf) qj kY] 157)).alloc (.cells #[.slice none 0 0] 36)) (.cells #[.func (.func 170) #[] #[.pointer (some ⟨w.heap.size+1+1,0,none⟩),.pointer (some ⟨w.heap.size+1,0,none⟩),.pointer (some ⟨w.heap.size,0,none⟩),.pointer (some ⟨w.heap.size+1+1+1,0,none⟩)]] 256);simpa using this
 rw[hw4]
 have HS0:=ae Z5
 clear Z5 hw4
 go_loopw [10] (fun i wr=> ∃k:Nat,k<=below+1/\i= .int .i64 k/\pY w Ms gu (.func (.func pf) qj kY) below (w.heap.size+1+1) (w.heap.size+1) w.heap.size (w.heap.size+1+1+1) wr/\
  (∀j,j<k->(jO below j 0).find? p=none)) (fun i _=>below+1-(intOf i).toNat)
 case atStart=>exact⟨0,bU _,rfl,HS0.o,fun j hj=>by omega⟩
 case round=>
  obtain⟨k,hk,rfl,hst,hno⟩:=hrel
  have d2:=aC hst.add
  have e2:=dN wr _ d2
  have HS:=ae hst
  have HN:=ae hno
  clear hst hno
  by_cases hlt:k<below+1
  ·have hkI:(k:Int)<(below:Int)+1:=by omega
   have HC:=ae (HA.o k wr (by omega) HS.o)
   go_wp2_with fail
   refine HC.o.mono ?_
   rintro e W2 ⟨⟨hS2,_⟩,hres⟩
   have HS2:=ae hS2
   rcases hres with⟨cc,hcc,rfl,sv,hsv,vJ⟩|⟨hnone,rfl⟩
   ·have hr:r=some cc:=by
     rw[<-HR.o]
     exact JF (by omega) HN.o (by simpa using hcc)
    obtain⟨so,sc,rfl⟩:=vJ.open
    have f1:=aC hsv
    have f2:=bD hsv 0
    have f3:=dN W2 _ f1
    have HX:=ae (ag hr (ag hsv vJ))
    clear hr hsv vJ hS2 hcc d2
    go_wp2_with fail
    (try rw[Exit.noGoto_ret])
    have hcell:(W2.setCell ⟨w.heap.size+1+1,0,none⟩ (.slice so cc.length sc)).cell? ⟨w.heap.size+1+1,0,none⟩=some (.slice so cc.length sc):=aC (aJ HX.o.2.1 _)
    refine bodyPost_ret (v:= .slice so cc.length sc) (by simp[results,Tryz.results104,go_sem,hcell]) rfl ?_
    refine⟨(HS2.o.set (by omega) so cc.length sc).fin,.inl ⟨cc,_,HX.o.1,rfl,?_⟩⟩
    exact aP.uT HX.o.2.2 ((mQ W2 ⟨w.heap.size+1+1,0,none⟩ _).more (Ms':=(w.heap.size+1+1)::Ms) (by simp)) HS2.o.not
   ·have HX:=ae hnone
    clear hnone hS2 d2
    go_wp2_with fail
    go_roundw
    case rel=>
     refine⟨k+1,by omega,by go_num,HS2.o,fun j hj=>?_⟩
     by_cases hjq:j=k
     ·subst hjq;simpa using HX.o
     ·exact HN.o j (by omega)
    case measure=>simp[intOf];omega
  ·have hkI: ¬((k:Int)<(below:Int)+1):=by omega
   obtain⟨o',n',c',hf⟩:=HS.o.found
   have f1:=aC hf
   have f2:=bD hf 0
   have f3:=dN wr _ f1
   have hk1:k=below+1:=by omega
   subst hk1
   have hr:r=none:=by
    rw[<-HR.o]
    exact JE HN.o
   go_wp2_with fail
   (try rw[Exit.noGoto_ret])
   have hcell:(wr.setCell ⟨w.heap.size+1+1,0,none⟩ (.slice o' n' c')).cell? ⟨w.heap.size+1+1,0,none⟩=some (.slice o' n' c'):=aC (aJ hf _)
   refine bodyPost_ret (v:= .slice o' n' c') (by simp[results,Tryz.results104,go_sem,hcell]) rfl ?_
   exact⟨(HS.o.set (by omega) o' n' c').fin,.inr ⟨rfl,_,_,_,rfl⟩⟩
end Go.Proofs.YthbpmepjmebolaaGreatDoor
end
section
namespace Go.Proofs.YthbpmepjmebolaaGreatDoor
open Go.RowKit Go.RG Go.SL Go.Shelf jv Go.TB
theorem Hm (r x:dX) (w:World):Calls Tryz.prog 238 #[rv r,rv x] w (PV (rv (xX r x)) w):=by
 go_enter Tryz.func238,Tryz.ntmps238
 go_wp2_with fail
 refine zg 12 [] none [(4,Spec.slice (w.heap.size+3) #[iv r.1,iv x.1] 3 2),(5,Spec.val (iv (min r.1 x.1)))] ?_
 simp only[zt]
 repeat (refine zd ?_;simp only[zp])
 refine eF (w.heap.size+3) _ _ _ (by rfl) (by simp) (by rfl) (by simp) (by simp) (fun W hW=>by go_simp;try rfl) (fun b=>?_)
 simp only[zp]
 refine eQ _ (by rfl) (by rfl) 277 _ (fun W hW=>by go_simp;try rfl) (fun W hE hF=>?_) ?_
 ·obtain⟨c,hcb,hB,hc⟩:=hF _ (bK _) (by kernel_rfl)
  cases hcb
  exact BM r.1 x.1 b 2 W (by simp[World.cell?,hc]) (by simp[World.cell?,hc])
 simp only[zp]
 repeat (refine zd ?_;simp only[zp])
 intro W hE hF
 obtain⟨hc,hf⟩:=bT hE.below
 have hzE:=hE.size
 (try simp only[bI] at hzE)
 go_wp2
 all_goals
  (try simp only[Exit.inBlock,Exit.then])
  refine bodyPost_ret (v:=rv (min r.1 x.1,max r.2 x.2)) (by simp[results,Tryz.results238,go_sem,hc];try omega) rfl ?_
  exact⟨rfl,ze⟩
abbrev acv (d:Int) (r:dX):Value:= .agg #[iv d,iv r.1,iv r.2]
theorem Ol (d:Int) (r:dX) (w:World) (h:(0<=d/\d<=350)/\0<=r.1/\r.1<=r.2/\r.2<=2000):Calls Tryz.prog 96 #[acv d r] w (PV (rv (oP d r)) w):=by
 obtain⟨p,q⟩:=r
 have h1: -10000<=d-q/\d-q<=10000:=by simp only at h;omega
 have h2: -10000<=d-p/\d-p<=10000:=by simp only at h;omega
 clear h
 go_enter Tryz.func96,Tryz.ntmps96
 go_wp2_with fail
 go_returns
 exact⟨by simp[oP],zl⟩
def gX (l:aQ) (fine:Bool):Int:=if iU l≠0 then iU l else if fine=false then 2 else if gy l []=false then 11 else 0
def YG (l:aQ) (fine:Bool) (tv nv:Value) (w:World) (e:Ending) (w':World):Prop:=
 Below w.heap.size w w'/\((gX l fine≠0/\e= .returned (.tuple #[.pointer none,iv (gX l fine)]))∨
  (gX l fine=0/\ ∃(wb mb:Nat) (v:Value),e= .returned (.tuple #[.pointer (some ⟨wb,0,none⟩),iv 0])/\w.heap.size<=wb/\w.heap.size<=mb/\IA w' wb mb l tv nv v []))
theorem Fa {l:aQ} {fine:Bool} (h:gX l fine=0):pX l/\iU l=0/\fine=true/\gy l []=true:=by
 unfold gX at h
 split at h
 ·rename_i h0;exact absurd h h0
 ·rename_i h0
  have h0:iU l=0:=by omega
  split at h
  ·omega
  ·rename_i h1
   split at h
   ·omega
   ·rename_i h2
    exact⟨(pO h0).1,h0,by simpa using h1,by simpa using h2⟩
theorem wF (l:aQ) (tv nv:Value) (fine:Bool) (w:World) (ht:dM w tv l.field.ax) (hn:bz w nv l.notes):
 Calls Tryz.prog 163 #[lv l tv nv,.bool fine] w (YG l fine tv nv w):=by
 have HC:=ae (yP l tv nv (w.alloc (.cells (lg l tv nv) 33)) (ht.alloc _) (hn.alloc _))
 clear ht hn
 obtain⟨q,hq⟩: ∃q,iU l=q:=⟨_,rfl⟩
 by_cases hq0:q=0
 case neg=>
  have HF:Hid (gX l fine=q/\q≠0):=ae ⟨by unfold gX;rw[hq,aA hq0],hq0⟩
  have hqb:(q !=0)=true:=by simpa using hq0
  have HQ:=ae hq
  clear hq hq0
  go_enter Tryz.func163,Tryz.ntmps163
  go_wp2_with fail
  refine HC.o.mono ?_
  rintro e w1 ⟨hb,⟨hne,rfl⟩|⟨h0,_⟩⟩
  ·rw[HQ.o]
   have HB:=ae (show Below w.heap.size w w1 from zl)
   clear hb hne
   go_wp2_with fail
   go_returns
   exact⟨HB.o,.inl ⟨by rw[HF.o.1];exact HF.o.2,by rw[HF.o.1];simp⟩⟩
  ·exact absurd (HQ.o.symm.trans h0) HF.o.2
 subst hq0
 obtain⟨hS,_⟩:=pO hq
 have HS:=ae hS
 have HQ:=ae hq
 cases fine
 ·have HF:Hid (gX l false=2):=ae (by unfold gX;rw[hq];rfl)
  clear hq hS
  go_enter Tryz.func163,Tryz.ntmps163
  go_wp2_with fail
  refine HC.o.mono ?_
  rintro e w1 ⟨hb,⟨hne,_⟩|⟨_,wb,mb,v,rfl,hwb,hmb,hok⟩⟩
  ·exact absurd HQ.o hne
  have HB:=ae (show Below w.heap.size w w1 from zl)
  clear hb hok
  go_wp2_with fail
  go_returns
  exact⟨HB.o,.inl ⟨by rw[HF.o];simp,by rw[HF.o];simp⟩⟩
 obtain⟨r,hr⟩: ∃r,gy l []=r:=⟨_,rfl⟩
 have HF:Hid (gX l true=if r=false then 11 else 0):=ae (by unfold gX;rw[hq,hr];simp)
 have HR:=ae hr
 clear hq hS hr
 go_enter Tryz.func163,Tryz.ntmps163
 go_wp2_with fail
 refine HC.o.mono ?_
 rintro e w1 ⟨hb,⟨hne,_⟩|⟨_,wb,mb,v,rfl,hwb,hmb,hok⟩⟩
 ·exact absurd HQ.o hne
 have HP:=ae (HR.o▸pI HS.o [] hok (aN.nil 1 w1))
 have hsz:=bI w (.cells (lg l tv nv) 33)
 have akm:w.heap.size<=wb:=by omega
 have Xh:w.heap.size<=mb:=by omega
 have HB:=ae (show Below w.heap.size w w1 from zl)
 clear hb hok hwb hmb hsz
 go_wp2_with fail
 refine HP.o.mono ?_
 rintro e w2 ⟨rfl,hkn,hE⟩
 have HX:=ae (ag (iw HB.o hE Xh) hkn)
 clear hkn hE
 cases r
 ·have KQ:=ae HF.o
  go_wp2_with fail
  go_returns
  exact⟨HX.o.1,.inl ⟨by rw[KQ.o];simp,by rw[KQ.o];simp⟩⟩
 ·have KQ:=ae HF.o
  go_wp2_with fail
  go_returns
  exact⟨HX.o.1,.inr ⟨by rw[KQ.o];rfl,wb,mb,v,by simp,akm,Xh,HX.o.2⟩⟩
end Go.Proofs.YthbpmepjmebolaaGreatDoor
namespace Go.Proofs.YthbpmepjmebolaaGreatDoor
open Go.RowKit Go.RG Go.SL Go.Shelf jv Go.TB
theorem Oi {l:aQ} (hS:pX l) {d:List Int} (hd:d∈gq l) (hc:jE l [] d=true) {i:Nat} (hi:i<l.field.aO.toNat):
 0<=((kM l [] d).getD i (0,0)).1/\((kM l [] d).getD i (0,0)).1<=((kM l [] d).getD i (0,0)).2/\((kM l [] d).getD i (0,0)).2<=2000:=by
 have h1:=RS hi (by have:=hS.box;omega) hc
 have hF:=iK hS.field
 have:=hF.xC
 have hb:=Ia hS hd i (by omega)
 have hk:=OM hS [] i hb.1 (by omega)
 rw[JP l [] d hi] at h1⊢
 unfold uj at h1⊢
 simp only at h1⊢
 omega
theorem AU {l:aQ} (hS:pX l) {tv nv v:Value} {wb mb:Nat} (bn:Nat) (p:Int->dX->dX) (w:World) (hw:IA w wb mb l tv nv v [])
 (eg: ∀args w,(callFunc bn args).run Tryz.prog w= .ok (.enter bn args) w)
 (hp: ∀(d:Int) (r:dX) (W:World),(0<=d/\d<=350)/\0<=r.1/\r.1<=r.2/\r.2<=2000->Calls Tryz.prog bn #[acv d r] W (PV (rv (p d r)) W)):
 Calls Tryz.prog 164 #[.agg #[.func (.func bn) #[] #[]],.pointer (some ⟨wb,0,none⟩)] w (fun e w'=> ∃u,e= .returned u/\w'.ownsRow w.heap.size 30 2 u (Ce p l (gq l)).length (aH (Ce p l (gq l)))/\Below w.heap.size w w'):=by
 obtain⟨vo,vc,rfl⟩:=hw.work.truth.open
 have hF:=iK hS.field
 have hlen:(gq l).length<=2500:=jq (AO l _) (mi hF [])
 have hw0:=hF.zO
 have hw3:=hF.xC
 obtain⟨n,hn⟩: ∃n:Nat,l.field.aO.toNat=n:=⟨_,rfl⟩
 have hn1:1<=n:=by omega
 have hn3:n<=3:=by omega
 have HN:=ae hn
 have HS:=ae hS
 have HP:=ae hp
 obtain⟨W1,hW1⟩: ∃W1,w.alloc (.cells #[.func (.func bn) #[] #[]] 190)=W1:=⟨_,rfl⟩
 have hB1:Below w.heap.size w W1:=by rw[<-hW1];exact aj (aG _ _) _
 have hk1:W1.heap[w.heap.size]? =some (.cells #[.func (.func bn) #[] #[]] 190 (0,0)):=by rw[<-hW1];exact ay _ _
 have aco:=hw.below hB1 (ak _)
 have aer:wb<W1.heap.size:=aco.work.lt
 have agJ:w.heap.size<W1.heap.size:=(aV.1 hk1).1
 have H1:=ae (ag hB1 (ag hk1 aco))
 obtain⟨ds,hds⟩: ∃ds,gq l=ds:=⟨_,rfl⟩
 have hck:=aco.work.cells
 rw[hds] at hck hlen⊢
 obtain⟨c1,f1,l1⟩:=af hck
 have HDS:=ae hds
 clear hw hF hw0 hw3 hn hp hS hB1 hk1 aco hds hck
 go_enter Tryz.func164,Tryz.ntmps164
 go_wp2_with fail
 (try rw[hW1])
 clear hW1
 go_loopw [5,18] (fun v5 u wr=> ∃k:Nat,k<=ds.length/\u= .int .i64 k/\(∃oo oc,v5= .slice oo (mf p l k ds).length oc/\wr.ownsRow W1.heap.size 30 2 (.slice oo (mf p l k ds).length oc) (mf p l k ds).length (aH (mf p l k ds)))/\Below W1.heap.size W1 wr) (fun _ u _=>ds.length-(intOf u).toNat)
 case atStart=>exact⟨0,bU _,rfl,⟨none,0,rfl,⟨rfl,.inl ⟨rfl,rfl⟩⟩⟩,aG _ _⟩
 case round=>
  obtain⟨k,hk,rfl,⟨oo,oc,rfl,how⟩,hB⟩:=hrel
  by_cases hlt:k<ds.length
  ·have hkn:=H1.o.2.2.below hB (ak _)
   have hk1:=(hB.block _ agJ).trans H1.o.2.1
   have htr:=hkn.work.truth
   rw[HDS.o] at htr
   obtain⟨b,off,y0,y1,y2,rfl,hbl,hys,hc0,hc1,hc2⟩:=Dx htr (by rw[<-HDS.o];exact qP l) hlt
   have hacc:=KG p l ds k hk
   rw[HN.o] at hacc
   have hsu:=AV p l hlt
   have hdm:ds[k]∈gq l:=by rw[HDS.o];exact cZ _
   obtain⟨d,hd⟩: ∃d,ds[k]=d:=⟨_,rfl⟩
   rw[hd] at hsu hdm hys
   obtain⟨acc,hac⟩: ∃acc,mf p l k ds=acc:=⟨_,rfl⟩
   rw[hac] at how hacc hsu
   rw[hac]
   have ahf:(k:Int)<ds.length:=by omega
   have HD:=ae (ag hys hdm)
   have xH:=ae hsu
   have HAC:=ae hacc
   have HX:=ae (ag how (ag hB (ag hkn hk1)))
   have hsz:=hB.size
   obtain⟨s3,hs3⟩: ∃s3,wr.heap.size=s3:=⟨_,rfl⟩
   clear how hB hkn hk1 htr hsu hys hdm hd hac hacc hk
   go_upto_region 5 with(fail)
   refine dF fun W5 yG=>?_
   have zI:Below wr.heap.size wr W5:=by rw[yG];exact zl
   have hk5:W5.heap[wr.heap.size]? =some (.cells #[iv y0,iv y1,iv y2] 247 (0,0)):=by rw[yG];exact ay _ _
   have ahn:=HX.o.2.2.1.below zI (ak _)
   have hag:mg d= .agg #[iv y0,iv y1,iv y2]:=by rw[HD.o.1];rfl
   have HPA:=ae (hag▸UX HS.o HD.o.2 ahn)
   have h51:=(zI.block _ (by omega)).trans HX.o.2.2.2
   have Dt:=aY HX.o.2.1 zI
   have Z8:W5.ownsRow W1.heap.size 30 2 (.slice oo acc.length oc) acc.length (aH acc):=dQ HX.o.1 fun g hg=>zI.block g (bJ HX.o.1 g hg).2
   have hog: ∀g,(Value.slice oo acc.length oc).ownBlock=some g->g<s3:=fun g hg=>by rw[<-hs3];exact(bJ HX.o.1 g hg).2
   rw[hs3] at hk5
   have apj:s3<W5.heap.size:=(aV.1 hk5).1
   have apl:W1.heap.size<=s3:=by omega
   have H5:=ae (ag Z8 (ag Dt (ag hk5 (ag h51 hog))))
   obtain⟨c5,f5,l5⟩:=af hk5
   clear yG zI hk5 ahn h51 Dt Z8 hog hs3 hsz hc0 hc1 hc2 hbl HX hag
   go_wp2_with fail
   refine HPA.o.mono ?_
   rintro e W6 ⟨hb,hcase⟩
   obtain⟨is,ps,pv,rfl,hpo,his,hps⟩: ∃(is:Bool) (ps:List dX) (pv:Value),e= .returned (.tuple #[pv,.bool is])/\W6.ownsRow W5.heap.size 30 2 pv ps.length (aH ps)/\jE l [] d=is/\ps=if is=true then kM l [] d else[]:=by
    rcases hcase with⟨hc,u,rfl,hu⟩|⟨hc,rfl⟩
    ·exact⟨true,kM l [] d,u,rfl,hu,hc,by simp⟩
    ·exact⟨false,[],.slice none 0 0,rfl,⟨rfl,.inl ⟨rfl,rfl⟩⟩,hc,by simp⟩
   obtain⟨po,pc,rfl⟩:=aS hpo
   obtain⟨ns,hns⟩: ∃ns:List dX,(if is=true then rF p l d else[])=ns:=⟨_,rfl⟩
   have hnl:ns.length=ps.length:=by rw[<-hns,hps];cases is <;>simp[oW,JO]
   have hpl:ps.length=if is=true then n else 0:=by rw[hps];cases is <;>simp[JO,HN.o]
   have hstep:mf p l (k+1) ds=kH acc ns ns.length:=by
    rw[xH.o]
    unfold uY
    rw[his, <-hns]
    cases is
    ·simp[xw]
    ·rw[aA rfl,aA rfl,Ye (by rw[oW,HN.o];exact HAC.o)]
   have h66:=(hb.block _ (show s3<W5.heap.size by omega)).trans H5.o.2.2.1
   have h61:=(hb.block _ (show w.heap.size<W5.heap.size by omega)).trans H5.o.2.2.2.1
   have ag3:W6.ownsRow W1.heap.size 30 2 (.slice oo acc.length oc) acc.length (aH acc):=dQ H5.o.1 fun g hg=>hb.block g (by have:=H5.o.2.2.2.2 g hg;omega)
   have akw:=hb.size
   have H6:=ae (ag ag3 (ag (aY H5.o.2.1 hb) (ag h66 (ag h61 hpo))))
   have HIS:=ae (ag his (ag hps hns))
   have HNL:=ae (ag hnl hpl)
   have HST:=ae hstep
   have hp3:ps.length<=3:=by rw[hpl];split <;>omega
   have anh:=ae akw
   clear hb hcase hpo his hps hns hnl hpl hstep h66 h61 ag3 c5 f5 l5
   go_wp2_with fail
   go_loopw [5,30] (fun v5 u wq=> ∃i:Nat,i<=ps.length/\u= .int .i64 i/\(∃oo oc,v5= .slice oo (kH acc ns i).length oc/\wq.ownsRow W1.heap.size 30 2 (.slice oo (kH acc ns i).length oc) (kH acc ns i).length (aH (kH acc ns i))/\(∀g,(Value.slice oo (kH acc ns i).length oc).ownBlock=some g->g<s3∨W6.heap.size<=g))/\Below W1.heap.size W1 wq/\
    (∀b,s3<=b->b<W6.heap.size->wq.heap[b]? =W6.heap[b]?)/\W6.heap.size<=wq.heap.size) (fun _ u _=>ps.length-(intOf u).toNat)
   case atStart=>
    refine⟨0,bU _,rfl,⟨oo,oc,by rw[xw],?_,?_⟩,H6.o.2.1,fun b _ _=>rfl,ak _⟩
    ·rw[xw];exact H6.o.1
    ·rw[xw];exact fun g hg=> .inl (H5.o.2.2.2.2 g hg)
   case round=>
    obtain⟨i,hi,rfl,⟨oo2,JU,rfl,how,hog⟩,Nq,hkeep,aet⟩:=hrel
    by_cases hlt2:i<ps.length
    ·have hist:is=true:=by
      have:=HNL.o.2
      cases is
      ·rw[ai (by simp)] at this;omega
      ·rfl
     have hin:i<n:=by have:=HNL.o.2;rw[hist] at this;simp at this;omega
     have hpv:=aN.dH (dQ (w':=wr) H6.o.2.2.2.2 fun g hg=>hkeep g (by have:=(bJ H6.o.2.2.2.2 g hg).1;omega) (bJ H6.o.2.2.2.2 g hg).2)
     obtain⟨gp,po',hvp,hgp,q0,q1⟩:=bP.cell hpv hlt2
     subst hvp
     have hk6:=(hkeep s3 (ak _) (by omega)).trans H6.o.2.2.1
     have hcell:=gJ (show wr.heap[s3]? =some (.cells (ah d).toArray 247 (0,0)) by rw[HD.o.1];exact hk6) (show i<d.length by rw[HD.o.1];simp;omega)
     have hd3:i<d.length:=by rw[HD.o.1];simp;omega
     have hgd:d.getD i 0=d[i]:=by simp[List.getD,hd3]
     have hdb:=Ia HS.o HD.o.2 i (by omega)
     have hiw:i<l.field.aO.toNat:=by rw[HN.o];exact hin
     have hpd:=Oi HS.o HD.o.2 (HIS.o.1.trans hist) hiw
     have hpe:ps[i]=(kM l [] d).getD i (0,0):=by
      have h1:=HIS.o.2.1
      rw[hist,aA rfl] at h1
      subst h1
      simp[List.getD,hlt2]
     have hin2:i<ns.length:=by rw[HNL.o.1];exact hlt2
     have hne:ns[i]=p (d[i]) ps[i]:=by
      have h1:=HIS.o.2.2
      rw[hist,aA rfl] at h1
      subst h1
      rw[JY,hpe,hgd]
     rw[<-hpe] at hpd
     rw[hgd] at hdb
     have h1w:=(Nq.block _ agJ).trans H1.o.2.1
     have hlenA:=Yd (acc:=acc) (ny:=ns) (i:=i) (by
      have h1:=HAC.o
      have h2:=HNL.o
      rw[hist] at h2
      simp at h2
      rcases h1 with h|h
      ·exact .inl h
      ·exact .inr (by omega)) (by omega)
     have hold:=fun(ha:acc≠[]) (h:acc.length=ns.length)=>Yb ha h hin2
     generalize hyi:d[i]'hd3=y at*
     generalize Ez:ps[i]=r at*
     generalize hxi:ns[i]=x at*
     have HPF:=ae (hne▸HP.o y r)
     have HHP:=ae (ag hpd hdb)
     have HOLD:=ae (ag hold hxi)
     have HLA:=ae hlenA
     have HX:=ae (ag how (ag hog (ag Nq (ag hkeep aet))))
     have xO:(i:Int)<ps.length:=by omega
     have hi3:i<3:=by omega
     have ahz:(i:Int)<3:=by omega
     obtain⟨e1,e2,e3⟩:=af h1w
     have HW1:=ae h1w
     have akx:s3<wr.heap.size:=by omega
     clear how hog Nq hkeep aet hpv hk6 hgd hdb hpd hpe hne h1w hlenA hold hyi Ez hxi hd3 hiw
     cases hist
     go_upto_region 9 with(fail)
     refine dF fun W9 MC=>?_
     have hB9:Below wr.heap.size wr W9:=by rw[MC];exact zl
     have hk9:W9.heap[wr.heap.size]? =some (.cells #[iv r.1,iv r.2] 30 (0,0)):=by rw[MC];exact ay _ _
     have hc9:=(hB9.cell (p:=⟨s3,i,none⟩) akx).trans hcell
     obtain⟨i1,i2,i3⟩:=af ((hB9.block _ e3).trans HW1.o)
     have hs9:=hB9.size
     obtain⟨g1,g2,g3⟩:=af hk9
     have ane:s3<W9.heap.size:=by omega
     have rH:=ae hB9
     clear MC hB9 hcell e1 e2 e3 q0 q1
     have Ea:=ae hk9
     clear hk9
     refine zg 9 [] none [(7,Spec.val (rv x)),(8,Spec.block W9.heap.size #[iv 0,iv 0] 30)] ?_
     simp only[zt]
     repeat ((first|refine zn ?_|refine zk ?_);simp only[zp])
     refine eQ _ (by rfl) (by rfl) bn #[acv y r] (fun W hW=>by go_simp;(try simp only[eg]);try rfl) (fun W hE hF=>by exact HPF.o W ⟨HHP.o.2,HHP.o.1⟩) ?_
     simp only[zp]
     refine jX W9.heap.size _ _ (by rfl) (ak _) (by rfl) (by simp) (by simp) (fun W hW=>by go_simp;try rfl) (fun b12=>?_)
     simp only[zp]
     repeat ((first|refine zn ?_|refine zk ?_);simp only[zp])
     intro WA hE hF
     have hE':Ext [] W9 WA:=hE
     obtain⟨c12,Tt,adF,hk12⟩:=hF _ (bK _)
     cases Tt
     obtain⟨x0,x1⟩:=x
     obtain⟨j1,j2,j3⟩:=af hk12
     have HEA:=ae hE'
     have HKA:=ae hk12
     clear hE hF hE' hk12 g1 g2 g3 i1 i2 i3 hc9
     go_upto_region 10 with(fail)
     refine dF fun WB hWB=>?_
     have aii:Below W9.heap.size W9 WB:=by rw[hWB];exact iH (iH HEA.o.below adF _) adF _
     have hkB:WB.heap[b12]? =some (.cells #[iv x0,iv x1] 30 (0,0)):=by rw[hWB];exact aJ (aJ HKA.o _) _
     have hBB:Below wr.heap.size wr WB:=aY rH.o aii
     have adx:WB.ownsRow W1.heap.size 30 2 (.slice oo2 (kH acc ns i).length JU) (kH acc ns i).length (aH (kH acc ns i)):=dQ HX.o.1 fun g hg=>hBB.block g (bJ HX.o.1 g hg).2
     have aif:=aY HX.o.2.2.1 hBB
     have aan: ∀b,s3<=b->b<W6.heap.size->WB.heap[b]? =W6.heap[b]? :=fun b hb1 hb2=>(hBB.block b (by have:=HX.o.2.2.2.2;omega)).trans (HX.o.2.2.2.1 b hb1 hb2)
     have agV:W6.heap.size<=WB.heap.size:=jq HX.o.2.2.2.2 hBB.size
     have HB:=ae (ag adx (ag HX.o.2.1 (ag aif (ag hkB (ag aan agV)))))
     obtain⟨j1,j2,j3⟩:=af hkB
     clear hWB aii hBB adx aif aan agV HEA HKA
     have HLB:=ae HLA.o
     obtain⟨L,hL⟩: ∃L,kH acc ns i=L:=⟨_,rfl⟩
     have hgb: ∀g,(Value.slice oo2 (kH acc ns i).length JU).ownBlock=some g->g≠b12/\W1.heap.size<=g:=fun g hg=>by
      have h1:=bJ HX.o.1 g hg
      have h2:=rH.o.size
      omega
     have HGB:=ae hgb
     have KN:=ae HOLD.o
     rw[hL] at HB HLB HGB KN⊢
     have HL:=ae hL
     clear hgb HLA HX HOLD rH Ea hL
     by_cases ha:acc=[]
     ·have hm:L.length=i:=by rw[HLB.o,aA ha]
      have hmb:((L.length:Int)==(i:Int))=true:=by rw[beq_iff_eq];omega
      have HAN:Hid (kH acc ns (i+1)=L++[(x0,x1)]):=ae (by
       have h1:=KN.o.2
       subst ha
       rw[Yc hin2,h1,HL.o])
      have HM:=ae hm
      clear ha hm
      go_upto_region 11 with(fail)
      clear hmb
      have hL3:L.length<=3:=by have:=HM.o;omega
      have akq:W1.heap.size<=WB.heap.size:=HB.o.2.2.1.size
      go_wp2_with (at_builtin;refine dK rfl _ _ F8 rfl W1.heap.size (.slice oo2 L.length JU) L.length (aH L) rfl ?_ (.slice (some ⟨WB.heap.size,0,none⟩) 1 1) 1 (aH [(x0,x1)]) rfl ?_ (oU _) (by omega) (by omega) (by simp;omega) ?_)
      ·exact aB (Ms:=[]) HB.o.1 (Ext.az ((aG _ _).alloc (ak _) _)) (by simp)
      ·exact aN.dm 2 1 (ay _ _) rfl (by decide)
      ·intro v' Wc hown hgr hcase
       obtain⟨UY,Ou,rfl⟩:=aS hown
       have e3:L.length+1=(L++[(x0,x1)]).length:=by simp
       rw[<-pJ,e3] at hown
       rw[e3] at hcase⊢
       have hwB:Below WB.heap.size WB (WB.alloc (.cells #[iv x0,iv x1] 30)):=aj (aG _ _) _
       have hkc: ∀b,b<WB.heap.size->(∀g,(Value.slice oo2 L.length JU).ownBlock=some g->g≠b)->Wc.heap[b]? =WB.heap[b]? :=fun b hb hn=>(hgr.block b (by simp;omega) (fun e=>hn b (by simpa using e.symm) rfl)).trans (hwB.block b hb)
       have hoc:Hid (Wc.ownsRow W1.heap.size 30 2 (.slice UY (L++[(x0,x1)]).length Ou) (L++[(x0,x1)]).length (aH (L++[(x0,x1)]))/\(∀g,(Value.slice UY (L++[(x0,x1)]).length Ou).ownBlock=some g->g<s3∨W6.heap.size<=g)/\Below W1.heap.size W1 Wc/\
        Wc.heap[b12]? =some (.cells #[iv x0,iv x1] 30 (0,0))/\(∀b,s3<=b->b<W6.heap.size->Wc.heap[b]? =W6.heap[b]?)/\W6.heap.size<=Wc.heap.size):=ae (by
        refine⟨hown,fun g hg=>?_,Below.grown (aY HB.o.2.2.1 hwB) hgr (by have:=hwB.size;omega) (fun k e=>(HGB.o k e).2),(hkc b12 (aV.1 HB.o.2.2.2.1).1 (fun g hg=>(HGB.o g hg).1)).trans HB.o.2.2.2.1,fun b hb1 hb2=>?_,?_⟩
        ·rcases hcase with h|h
         ·rw[h] at hg;exact HB.o.2.1 g hg
         ·rw[h] at hg
          have:=HB.o.2.2.2.2.2
          have:WB.heap.size+1=g:=by simpa using hg
          right;omega
        ·have:=HB.o.2.2.2.2.2
         exact(hkc b (by omega) (fun g hg=>by have:=HB.o.2.1 g hg;omega)).trans (HB.o.2.2.2.2.1 b hb1 hb2)
        ·have:=HB.o.2.2.2.2.2
         have:=hgr.size
         have:=hwB.size
         omega)
       have zN:=hoc
       have YT:Hid (i<(L++[(x0,x1)]).length):=ae (by have:=HM.o;simp;omega)
       have HLZ:Hid ((L++[(x0,x1)])[i]'YT.o=(x0,x1)):=ae (by
        have:=HM.o
        subst this
        simp)
       have Jq:Hid ((L++[(x0,x1)]).set i (xX (x0,x1) (x0,x1))=kH acc ns (i+1)):=ae (by
        rw[HAN.o]
        have:=HM.o
        subst this
        rw[qE _ _ (ak _),Nat.sub_self]
        simp[xX])
       clear hown hgr hcase e3 hwB hkc hoc hL3 akq j1 j2 j3 HB HGB KN HLB HAN
       generalize L++[(x0,x1)]=L3 at*
       go_upto_region 12 with(fail)
       have O4:Wc.ownsRow W1.heap.size 30 2 (.slice UY (L3).length Ou) (L3).length (aH (L3)):=zN.o.1
       obtain⟨gb,c2,hg2,acy,Xj,⟨s0,s1⟩,hfr2⟩:=oQ O4 YT.o
       rw[HLZ.o] at s0 s1
       (try simp only at s0 s1)
       obtain⟨rfl,rfl⟩:UY=some ⟨gb,0,none⟩/\Ou=c2:=by simp at hg2;exact hg2
       obtain⟨e1,e2,e3⟩:=af zN.o.2.2.2.1
       have hiL:(i:Int)<((L3).length:Int):=by have:=YT.o;omega
       clear O4 hg2 hfr2
       refine zg 9 [] none [(7,Spec.val (rv (xX (x0,x1) (x0,x1))))] ?_
       simp only[zt]
       repeat ((first|refine zn ?_|refine zk ?_);simp only[zp])
       refine zw 238 (h:=fun W hE hF=>by exact Hm (x0,x1) (x0,x1) W) (t:=?_)
       simp only[zp]
       repeat ((first|refine zn ?_|refine zk ?_);simp only[zp])
       intro YQ hE hF
       have hE':Ext [] Wc YQ:=hE
       have xP:Below Wc.heap.size Wc YQ:=hE'.below
       have Aq:YQ.ownsRow W1.heap.size 30 2 (.slice (some ⟨gb,0,none⟩) (L3).length Ou) (L3).length (aH (L3)):=aB (Ms:=[]) zN.o.1 hE' (by simp)
       have hset:=og Aq YT.o (xX (x0,x1) (x0,x1))
       obtain⟨g3,c3,hg3,_,ahB,⟨t0,t1⟩,hfr3⟩:=oQ Aq YT.o
       obtain⟨rfl,rfl⟩:gb=g3/\Ou=c3:=by simp at hg3;exact hg3
       rw[Jq.o] at hset
       have hlen:(L3).length=(kH acc ns (i+1)).length:=by rw[<-Jq.o,qA]
       have hgn:gb<s3∨W6.heap.size<=gb:=zN.o.2.1 gb rfl
       have HST:=ae (ag hset (ag hlen (ag (aY zN.o.2.2.1 xP) (ag xP (ag hgn acy)))))
       clear hE hF hE' Aq hset hlen xP hg3 hgn e1 e2 e3 s0 s1
       go_wp2_with fail
       go_roundw
       case rel=>
        refine⟨i+1,by omega,by go_num,⟨some ⟨gb,0,none⟩,Ou,by rw[<-HST.o.2.1],?_,?_⟩,?_,?_,?_⟩
        ·have:=HST.o.1
         rw[HST.o.2.1] at this
         exact this
        ·intro g hg
         have:gb=g:=by simpa [Value.ownBlock] using hg
         rw[<-this];exact HST.o.2.2.2.2.1
        ·exact iH (iH HST.o.2.2.1 HST.o.2.2.2.2.2 _) HST.o.2.2.2.2.2 _
        ·intro b hb1 hb2
         have hbg:b≠gb:=by have:=HST.o.2.2.2.2.1;omega
         have h1:=zN.o.2.2.2.2.1 b hb1 hb2
         have h2:=HST.o.2.2.2.1.block b (by have:=zN.o.2.2.2.2.2;omega)
         exact(dI _ _ _ _ hbg).trans ((dI _ _ _ _ hbg).trans (h2.trans h1))
        ·have:=zN.o.2.2.2.2.2
         have:=HST.o.2.2.2.1.size
         simp
         omega
       case measure=>simp[intOf];omega
     ·have hm:L.length=ns.length:=by rw[HLB.o,ai ha]
      have hneb:((L.length:Int)==(i:Int))=false:=by rw[iO];omega
      have hal:acc.length=ns.length:=by
       have h2:=HNL.o
       rw[aA rfl] at h2
       rcases HAC.o with h|h
       ·exact absurd h ha
       ·omega
      have YT:Hid (i<L.length):=ae (by omega)
      have hz:=KN.o.1 ha hal
      obtain⟨z,hzd⟩: ∃z:dX,acc.getD i (0,0)=z:=⟨_,rfl⟩
      rw[hzd] at hz
      have HLZ:Hid (L[i]'YT.o=z):=ae (by
       rw[<-hzd,iF, <-hz.1,dP YT.o]
       rfl)
      have Jq:Hid (L.set i (xX z (x0,x1))=kH acc ns (i+1)):=ae hz.2.symm
      have HM:=ae hm
      clear ha hm hal hz hzd KN HLB HGB HL
      go_upto_region 12 with(fail)
      clear hneb
      have zN:=HB
      clear HB
      clear j1 j2 j3
      have O4:WB.ownsRow W1.heap.size 30 2 (.slice oo2 (L).length JU) (L).length (aH (L)):=zN.o.1
      obtain⟨gb,c2,hg2,acy,Xj,⟨s0,s1⟩,hfr2⟩:=oQ O4 YT.o
      rw[HLZ.o] at s0 s1
      (try simp only at s0 s1)
      obtain⟨rfl,rfl⟩:oo2=some ⟨gb,0,none⟩/\JU=c2:=by simp at hg2;exact hg2
      obtain⟨e1,e2,e3⟩:=af zN.o.2.2.2.1
      have hiL:(i:Int)<((L).length:Int):=by have:=YT.o;omega
      clear O4 hg2 hfr2
      refine zg 9 [] none [(7,Spec.val (rv (xX z (x0,x1))))] ?_
      simp only[zt]
      repeat ((first|refine zn ?_|refine zk ?_);simp only[zp])
      refine zw 238 (h:=fun W hE hF=>by exact Hm z (x0,x1) W) (t:=?_)
      simp only[zp]
      repeat ((first|refine zn ?_|refine zk ?_);simp only[zp])
      intro YQ hE hF
      have hE':Ext [] WB YQ:=hE
      have xP:Below WB.heap.size WB YQ:=hE'.below
      have Aq:YQ.ownsRow W1.heap.size 30 2 (.slice (some ⟨gb,0,none⟩) (L).length JU) (L).length (aH (L)):=aB (Ms:=[]) zN.o.1 hE' (by simp)
      have hset:=og Aq YT.o (xX z (x0,x1))
      obtain⟨g3,c3,hg3,_,ahB,⟨t0,t1⟩,hfr3⟩:=oQ Aq YT.o
      obtain⟨rfl,rfl⟩:gb=g3/\JU=c3:=by simp at hg3;exact hg3
      rw[Jq.o] at hset
      have hlen:(L).length=(kH acc ns (i+1)).length:=by rw[<-Jq.o,qA]
      have hgn:gb<s3∨W6.heap.size<=gb:=zN.o.2.1 gb rfl
      have HST:=ae (ag hset (ag hlen (ag (aY zN.o.2.2.1 xP) (ag xP (ag hgn acy)))))
      clear hE hF hE' Aq hset hlen xP hg3 hgn e1 e2 e3 s0 s1
      go_wp2_with fail
      go_roundw
      case rel=>
       refine⟨i+1,by omega,by go_num,⟨some ⟨gb,0,none⟩,JU,by rw[<-HST.o.2.1],?_,?_⟩,?_,?_,?_⟩
       ·have:=HST.o.1
        rw[HST.o.2.1] at this
        exact this
       ·intro g hg
        have:gb=g:=by simpa [Value.ownBlock] using hg
        rw[<-this];exact HST.o.2.2.2.2.1
       ·exact iH (iH HST.o.2.2.1 HST.o.2.2.2.2.2 _) HST.o.2.2.2.2.2 _
       ·intro b hb1 hb2
        have hbg:b≠gb:=by have:=HST.o.2.2.2.2.1;omega
        have h1:=zN.o.2.2.2.2.1 b hb1 hb2
        have h2:=HST.o.2.2.2.1.block b (by have:=zN.o.2.2.2.2.2;omega)
        exact(dI _ _ _ _ hbg).trans ((dI _ _ _ _ hbg).trans (h2.trans h1))
       ·have:=zN.o.2.2.2.2.2
        have:=HST.o.2.2.2.1.size
        simp
        omega
      case measure=>simp[intOf];omega
    ·have hip:i=ps.length:=by omega
     subst hip
     rw[<-HNL.o.1, <-HST.o] at how hog
     rw[<-HNL.o.1, <-HST.o]
     have HF:=ae (ag how Nq)
     clear how hog Nq hkeep aet
     go_wp2_with fail
     go_roundw
     case rel=>exact⟨k+1,by omega,by go_num,⟨oo2,JU,rfl,HF.o.1⟩,HF.o.2⟩
     case measure=>simp[intOf];omega
  ·have hkd:k=ds.length:=by omega
   subst hkd
   have HF:=ae (ag how hB)
   clear how hB
   go_wp2_with fail
   go_returns
   exact⟨_,by simp,dh HF.o.1 (by omega),aY H1.o.1 HF.o.2⟩
end Go.Proofs.YthbpmepjmebolaaGreatDoor
namespace Go.Proofs.YthbpmepjmebolaaGreatDoor
open Go.RowKit Go.RG Go.SL Go.Shelf jv Go.TB
def Qu (p:Int->dX->dX) (l:aQ) (w:World) (e:Ending) (w':World):Prop:=
 Below w.heap.size w w'/\((gX l true≠0/\e= .returned (.tuple #[.slice none 0 0,iv (gX l true)]))∨
  (gX l true=0/\ ∃u,e= .returned (.tuple #[u,iv 0])/\bP w' u (Ce p l (gq l))))
theorem RI (l:aQ) (tv nv:Value) (bn:Nat) (p:Int->dX->dX) (w:World) (ht:dM w tv l.field.ax) (hn:bz w nv l.notes)
 (eg: ∀args w,(callFunc bn args).run Tryz.prog w= .ok (.enter bn args) w)
 (hp: ∀(d:Int) (r:dX) (W:World),(0<=d/\d<=350)/\0<=r.1/\r.1<=r.2/\r.2<=2000->Calls Tryz.prog bn #[acv d r] W (PV (rv (p d r)) W)):
 Calls Tryz.prog 97 #[.agg #[.func (.func bn) #[] #[]],lv l tv nv] w (Qu p l w):=by
 have HC:=ae (wF l tv nv true ((w.alloc (.cells #[.func (.func bn) #[] #[]] 190)).alloc (.cells (lg l tv nv) 33)) ((ht.alloc _).alloc _) ((hn.alloc _).alloc _))
 have HE:=ae eg
 have HP:=ae hp
 clear ht hn hp eg
 obtain⟨q,hq⟩: ∃q,gX l true=q:=⟨_,rfl⟩
 have HQ:=ae hq
 clear hq
 go_enter Tryz.func97,Tryz.ntmps97
 go_wp2_with fail
 refine HC.o.mono ?_
 rintro e w1 ⟨hb,⟨hne,rfl⟩|⟨h0,wb,mb,v,rfl,_,_,hok⟩⟩
 ·rw[HQ.o] at hne⊢
  have hqb:(q !=0)=true:=by simpa using hne
  have HB:=ae (ag (show Below w.heap.size w w1 from zl) hne)
  clear hb hne
  go_wp2_with fail
  go_returns
  exact⟨HB.o.1,.inl ⟨by rw[HQ.o];exact HB.o.2,by rw[HQ.o];simp⟩⟩
 ·have hk:=(hb.block w.heap.size (by simp;omega)).trans ((aW _ _ _ (by simp)).trans (ay w (.cells #[.func (.func bn) #[] #[]] 190)))
  have HBN:=ae (AU (Fa h0).1 bn p w1 hok HE.o HP.o)
  have HB:=ae (ag (show Below w.heap.size w w1 from zl) h0)
  obtain⟨c1,f1,l1⟩:=af hk
  clear hb hk hok h0
  go_wp2_with fail
  refine HBN.o.mono ?_
  rintro e w2 ⟨u,rfl,hu,hb⟩
  obtain⟨uo,uc,rfl⟩:=aS hu
  have HX:=ae (ag (aY HB.o.1 hb) (aN.dH hu))
  clear hb hu c1 f1 l1
  go_wp2_with fail
  go_returns
  exact⟨HX.o.1,.inr ⟨HB.o.2,_,by simp,HX.o.2⟩⟩
theorem Qx (l:aQ) (tv nv:Value) (w:World) (ht:dM w tv l.field.ax) (hn:bz w nv l.notes):
 Calls Tryz.prog 55 #[lv l tv nv] w (Qu oP l w):=by
 have HC:=ae (RI l tv nv 96 oP (w.alloc (.cells (lg l tv nv) 33)) (ht.alloc _) (hn.alloc _) (enters_of Tryz.func96 (by kernel_rfl) rfl) (fun d r W h=>by first|exact Ol d r W h|(have:=h;exact Ol d r W h)))
 clear ht hn
 go_enter Tryz.func55,Tryz.ntmps55
 go_wp2_with fail
 refine HC.o.mono ?_
 rintro e w1 ⟨hb,⟨hne,rfl⟩|⟨h0,u,rfl,hu⟩⟩
 ·obtain⟨q,hq⟩: ∃q,gX l true=q:=⟨_,rfl⟩
  have HB:=ae (ag (show Below w.heap.size w w1 from zl) (ag hne hq))
  rw[hq]
  clear hb hne hq
  go_wp2_with fail
  go_returns
  exact⟨HB.o.1,.inl ⟨HB.o.2.1,by rw[HB.o.2.2];simp⟩⟩
 ·obtain⟨uo,uc,rfl⟩:=hu.open
  have HB:=ae (ag (show Below w.heap.size w w1 from zl) (ag h0 hu))
  clear hb h0 hu
  go_wp2_with fail
  go_returns
  exact⟨HB.o.1,.inr ⟨HB.o.2.1,_,by simp,HB.o.2.2⟩⟩
end Go.Proofs.YthbpmepjmebolaaGreatDoor
end
section
namespace Go.Proofs.YthbpmepjmebolaaGreatDoor
open Go.RowKit Go.RG Go.SL Go.Shelf jv Go.TB
end Go.Proofs.YthbpmepjmebolaaGreatDoor
namespace Go.Proofs.YthbpmepjmebolaaGreatDoor
open Go.RowKit Go.RG Go.SL Go.Shelf jv Go.TB
end Go.Proofs.YthbpmepjmebolaaGreatDoor
namespace Go.Proofs.YthbpmepjmebolaaGreatDoor
open Go.RowKit Go.RG Go.SL Go.Shelf jv Go.TB
end Go.Proofs.YthbpmepjmebolaaGreatDoor
namespace Go.Proofs.YthbpmepjmebolaaGreatDoor
open Go.RowKit Go.RG Go.SL Go.Shelf jv Go.TB
def nT (l:aQ):List Int:=(nR l.notes.length (gy l)).getD []
theorem Eu {l:aQ} (h:gy l (upto l.notes.length)=true):nR l.notes.length (gy l)=some (nT l):=by
 unfold nT
 cases hs:nR l.notes.length (gy l) with
 |some c=>rfl
 |none=>rw[NV hs _ (ZY _)] at h;cases h
def Yp (l:aQ) (w:World) (e:Ending) (w':World):Prop:=
 Below w.heap.size w w'/\((iU l≠0/\e= .returned (.tuple #[.slice none 0 0,iv (iU l)]))∨(iU l=0/\ ∃v,e= .returned (.tuple #[v,iv 0])/\aP w' v (nT l)))
theorem Yo (l:aQ) (tv nv:Value) (w:World) (ht:dM w tv l.field.ax) (hn:bz w nv l.notes):
 Calls Tryz.prog 60 #[lv l tv nv] w (Yp l w):=by
 obtain⟨on,cn,rfl⟩:=hn.open
 have HC:=ae (yP l tv _ (w.alloc (.cells (lg l tv (.slice on l.notes.length cn)) 33)) (ht.alloc _) (hn.alloc _))
 clear ht hn
 obtain⟨q,hq⟩: ∃q,iU l=q:=⟨_,rfl⟩
 have HQ:=ae hq
 clear hq
 obtain⟨nn,hnn⟩: ∃nn,l.notes.length=nn:=⟨_,rfl⟩
 have HNN:=ae hnn
 rw[hnn] at HC⊢
 clear hnn
 go_enter Tryz.func60,Tryz.ntmps60
 go_wp2_with fail
 refine HC.o.mono ?_
 rintro e w1 ⟨hb,⟨hne,rfl⟩|⟨h0,wb,mb,v,rfl,hwb,hmb,hok⟩⟩
 ·have HB:=ae (ag (show Below w.heap.size w w1 from zl) hne)
  rw[HQ.o] at hne⊢
  have hqb:(q !=0)=true:=by simpa using hne
  clear hb hne
  go_wp2_with fail
  go_returns
  exact⟨HB.o.1,.inl ⟨HB.o.2,by rw[HQ.o];simp⟩⟩
 ·obtain⟨hS,hpo⟩:=pO h0
  have hsh:=Eu hpo
  have hn5:=hS.many
  rw[HNN.o] at hsh hn5
  have hk1:=(hb.block w.heap.size (by simp)).trans (ay w (.cells (lg l tv (.slice on nn cn)) 33))
  have hmw:w.heap.size<mb:=by simp at hmb;omega
  have CQ:=ae (IZ nn (by omega) (gy l) [mb] (fun W=> ∃T,TabAt YJ rv (fun _=>True) W mb T) ⟨fun a b ⟨T,hT⟩ hk=>⟨T,hT.kept (hk mb (by simp))⟩,fun W hW m hm o=>by
   obtain rfl:m=mb:=by simpa using hm
   obtain⟨T,hT⟩:=hW
   exact hT.nz o⟩ w1 hok.tab (fun m hm=>by obtain rfl:m=mb:=(by simpa using hm);exact hok.lt) 93 #[.pointer (some ⟨wb,0,none⟩)] #[]
   (enters_of Tryz.func93 (by kernel_rfl) rfl) (fun x u W' _ hE hW hv=>by
     refine(pI hS x (show Fv W' wb mb l tv (.slice on nn cn) v from⟨hok.work.table hE hok.nz,hW⟩) hv).mono ?_
     rintro e W2 ⟨rfl,hkn,hE2⟩
     exact⟨rfl,hkn.ok.tab,hE2⟩))
  have HB:=ae (ag (show Below w.heap.size w w1 from zl) (ag h0 (ag hsh hmw)))
  obtain⟨c1,f1,l1⟩:=af hk1
  clear hb hok h0 hS hpo hsh hk1 hwb hmb hmw
  go_wp2_with fail
  refine CQ.o.mono ?_
  rintro e w2 ⟨⟨_,hE⟩,⟨cx,u,hcx,rfl,vJ⟩|⟨hno,_⟩⟩
  ·have hres:cx=nT l:=by rw[HB.o.2.2.1] at hcx;injection hcx with h;exact h.symm
   obtain⟨uo,uc,rfl⟩:=vJ.open
   have HX:=ae (ag (iw HB.o.1 hE (by have:=HB.o.2.2.2;omega)) (ag hres vJ))
   clear hE hcx vJ hres c1 f1 l1
   go_wp2_with fail
   go_returns
   exact⟨HX.o.1,.inr ⟨HB.o.2.1,_,by simp;rfl,by rw[<-HX.o.2.1];exact HX.o.2.2⟩⟩
  ·rw[HB.o.2.2.1] at hno;cases hno
end Go.Proofs.YthbpmepjmebolaaGreatDoor
end
section
namespace Go.Proofs.YthbpmepjmebolaaGreatDoor
open Go.RowKit Go.RG Go.SL Go.Shelf jv Go.TB
theorem Qo {l:aQ} (h:gX l true=0):pX l/\ ∃d∈gq l,jE l [] d=true:=by
 obtain⟨hS,_,_,hp⟩:=Fa h
 unfold gy at hp
 rw[List.any_eq_true] at hp
 exact⟨hS,hp⟩
theorem aa1 {l:aQ} (hp: ∃d∈gq l,jE l [] d=true) (p:Int->dX->dX) {i:Nat} (hi:i<l.field.aO.toNat):
 uB (fun y=> ∃d∈gq l,jE l [] d=true/\y=p (d.getD i 0) ((kM l [] d).getD i (0,0))) ((Ce p l (gq l)).getD i (0,0)):=by
 obtain⟨d,hd,hc⟩:=hp
 rcases Iq p l (gq l) hi (gq l).length (ak _) with⟨_,h2⟩|⟨_,h1⟩
 ·rw[List.take_length] at h2;rw[h2 d hd] at hc;cases hc
 ·rw[List.take_length] at h1;exact h1
end Go.Proofs.YthbpmepjmebolaaGreatDoor
namespace Go.Proofs.YthbpmepjmebolaaGreatDoor
open Go.RowKit Go.RG Go.SL Go.Shelf jv Go.TB
end Go.Proofs.YthbpmepjmebolaaGreatDoor
end

/-
  Texts of this claim, packed by a program: QF UA UD UH.
-/
import Derived.WalkKit
import Derived.WalkLawsBesides
import Derived.WalkSpells
import Derived.Outline
import Derived.Handy
import Derived.KernelRfl
import Derived.Lib.Hide
import Derived.BigRegion
import Derived.Deep.Cut
import Derived.Test.YthllkbbbapgelaaGreatDoorPG6
set_option maxHeartbeats 8000000
set_option maxRecDepth 100000
set_option linter.all false
theorem _root_.zb4 {P:Prop} (h:P:=by
 go_wp2_with fail
 go_returns;exact⟨by rw[HF.o.1];simp,HX.o.1.below HF.o.2 (ah _),HX.o.2.trans (Ext.ay HF.o.2)⟩):P:=h
theorem _root_.zbo {P:Prop} (h:P:=by
 go_wp2_with fail
 go_returns;exact⟨δ.o.1,.inl ⟨by rw[HF.o];simp,by rw[HF.o];simp⟩⟩):P:=h
theorem _root_.zbw {P:Prop} (h:P:=by
 intro b ζ θ;have hbg:b≠gb:=by have:=κ.o.2.2.2.2.1;omega
 have h1:=wT.o.2.2.2.2.1 b ζ θ;have h2:=κ.o.2.2.2.1.block b (by have:=wT.o.2.2.2.2.2;omega);exact(dm _ _ _ _ hbg).trans ((dm _ _ _ _ hbg).trans (h2.trans h1))):P:=h
theorem _root_.zck {P:Prop} (h:P:=by
 intro g hg;have:gb=g:=by simpa [Value.ownBlock] using hg
 rw[<-this];exact κ.o.2.2.2.2.1):P:=h
section
namespace Go.Proofs.Z
open Go.RowKit Go.RG Go.SL Go.Shelf ig Go.TB
abbrev VC (d:List Int):Value:=j6 d
abbrev WN (w:World) (v:Value) (ls:List (List Int)):Prop:=aH 3 w v ls.length (ls.flatMap ag)
theorem ag9 (l:List (List Int)) (v:Value) (aY:Nat) (Mr aM:Array Value) (p:Nat->Bool) (I:Nat->World->Prop) (w:World) (h3: ∀x∈l,x.length=3) (eg: Ϛ Tryz.prog aY)
 (Nl: ∀k W,I k W->WN W v l)
 (pG: ∀k (hk:k<l.length) W,(∀j,j<k->p j=false)->I k W->Ϝ aY (Mr.push (VC l[k])++aM) W (fun e W'=>e= .returned (.bool (p k))/\I (k+1) W')) (h0:I 0 w):
 Ϝ 205 #[v,.func (.func aY) Mr aM] w (dM l.length p I (fun k=>iv k) (iv (-1))):=by
 have Ib:=(Nl 0 w h0).len;obtain⟨o,c,rfl⟩:=(Nl 0 w h0).open;have HC:=aa pG;have HS:=aa Nl;have H3:=aa h3;clear pG Nl h3;go_enter Tryz.func205,Tryz.ntmps205;go_wp2;go_loopw [4,5,8] (fun _ _ i wr=> ∃k:Nat,k<=l.length/\i= .int .i64 k/\(∀j,j<k->p j=false)/\I k wr) (fun _ _ i _=>l.length-(intOf i).toNat)
 case atStart=>exact⟨0,bD _,rfl,fun j hj=>ϑ,h0⟩
 case round=>
  obtain⟨k,hk,rfl,GX,hI⟩:=hrel;by_cases tX:k<l.length
  ·obtain⟨b,off,y0,y1,y2,hvv,hb,ω,hc0,hc1,hc2⟩:=zP (HS.o k wr hI) H3.o tX;subst hvv;have hC:=HC.o k tX wr GX hI;have hda:VC l[k]= .agg #[iv y0,iv y1,iv y2]:=by show j6 l[k]=_;rw[ω];rfl
   rw[hda] at hC;exact zae
  ·exact zao
theorem ae6 (l:List (List Int)) (v:Value) (aY:Nat) (Mr aM:Array Value) (p:Nat->Bool) (I:Nat->World->Prop) (w:World) (h3: ∀x∈l,x.length=3) (eg: Ϛ Tryz.prog aY)
 (Nl: ∀k W,I k W->WN W v l)
 (pG: ∀k (hk:k<l.length) W,(∀j,j<k->p j=false)->I k W->Ϝ aY (Mr.push (VC l[k])++aM) W (fun e W'=>e= .returned (.bool (p k))/\I (k+1) W')) (h0:I 0 w):
 Ϝ 123 #[v,.func (.func aY) Mr aM] w (dM l.length p I (fun _=> .bool true) (.bool false)):=by
 have HI:=aa (ag9 l v aY Mr aM p I w h3 eg Nl pG h0);have Ib:=(Nl 0 w h0).len;clear Nl pG h0 eg;go_enter Tryz.func123,Tryz.ntmps123;exact zad
def eY (l:aN) (out:List Int):Bool:=(eX l).any (iH l out)
structure Bd (W:World) (wb mb:Nat) (l:aN) (tv nv v:Value):Prop where
 work:zX W wb mb l tv nv v (eX l)
 tab: ∃T,TabAt SY rv (fun _=>True) W mb T
structure Dq (W:World) (wb mb:Nat) (l:aN) (tv nv v:Value) (out:List Int):Prop where
 work:zX W wb mb l tv nv v (eX l)
 tab: ∃T,TabAt SY rv (fun _=>True) W mb T/\pI (Al l out) T (qA l.field.aJ.toNat (eX l) (eX l).length)
theorem Dq.ok {W:World} {wb mb:Nat} {l:aN} {tv nv v:Value} {out:List Int} (h:Dq W wb mb l tv nv v out):Bd W wb mb l tv nv v:=⟨h.work,let⟨T,h1,_⟩:=h.tab;⟨T,h1⟩⟩
theorem Dq.below {W W':World} {wb mb:Nat} {l:aN} {tv nv v:Value} {out:List Int} (h:Dq W wb mb l tv nv v out) {B:Nat} (hb:Below B W W') (hB:W.heap.size<=B):Dq W' wb mb l tv nv v out:=
 ⟨h.work.below hb hB,let⟨T,h1,h2⟩:=h.tab;⟨T,h1.below hb hB,h2⟩⟩
theorem Bd.below {W W':World} {wb mb:Nat} {l:aN} {tv nv v:Value} (h:Bd W wb mb l tv nv v) {B:Nat} (hb:Below B W W') (hB:W.heap.size<=B):Bd W' wb mb l tv nv v:=
 ⟨h.work.below hb hB,let⟨T,h1⟩:=h.tab;⟨T,h1.below hb hB⟩⟩
theorem Bd.lt {W:World} {wb mb:Nat} {l:aN} {tv nv v:Value} (h:Bd W wb mb l tv nv v):mb<W.heap.size:=let⟨_,h1⟩:=h.tab;h1.lt
theorem Bd.kQ {W:World} {wb mb:Nat} {l:aN} {tv nv v:Value} (h:Bd W wb mb l tv nv v) (o:Nat):W.cell? ⟨mb,o,none⟩=none:=let⟨_,h1⟩:=h.tab;h1.kQ o
theorem oF (l:aN): ∀x∈eX l,x.length=3:=yG l _
theorem CY {l:aN} (hS:nz l) {d:List Int} (hd:d∈eX l) (i:Nat) (hi:i<3):0<=d.getD i 0/\d.getD i 0<=350:=by
 obtain⟨t,ht,rfl⟩:=F4.1 hd;have hF:=gy hS.field;have:=mr ht;exact CX (by have:=hS.rate;omega) (by have:=hS.rate;omega) t (by have:=hF.og;omega) i hi
theorem XB {l:aN} {out:List Int} {T:List ((Int×Int)×dF)} (hF:pI (Al l out) T (qA l.field.aJ.toNat (eX l) (eX l).length)) {d:List Int} (hd:d∈eX l) {i:Nat} (hi:i<l.field.aJ.toNat):
 TB.look ((i:Int),d.getD i 0) T=some ((nk l out d).getD i (0,0)):=by
 obtain⟨r,hr⟩:=hF.has ((i:Int),d.getD i 0) (by
  unfold qA;rw[List.take_length,nR];exact⟨d,hd,gU.2 ⟨i,jL.2 hi,rfl⟩⟩)
 rw[hr,hF.only _ _ hr,Kg,zW _ _ _ hi]
theorem V7 {l:aN} (hS:nz l) (out:List Int) {d:List Int} (hd:d∈eX l): ∀r∈nk l out d,0<=r.1/\r.1<=2000/\0<=r.2/\r.2<=2000:=by
 intro r hr;obtain⟨i,hi,rfl⟩:=gU.1 hr;have hF:=gy hS.field;have:=hF.uj;have hi':=jL.1 hi;have hb:=CY hS hd i ϑ;have:=Ke hS out i hb.1 ϑ;omega
theorem O3 {l:aN} (hS:nz l) {tv nv v:Value} {out:List Int} {wb mb:Nat} {d:List Int} (hd:d∈eX l) {w:World} (hw:Dq w wb mb l tv nv v out):
 Ϝ 125 #[.pointer (some ⟨wb,0,none⟩),j6 d] w (LA l out d w):=by
 obtain⟨T,hT,hF⟩:=hw.tab;exact Uc l (gy hS.field) (by have:=hS.box;omega) tv nv v out d (oF l d hd) (nk l out d) rfl (V7 hS out hd) wb mb T w hw.work.cells hT (fun i hi=>XB hF hd hi)
theorem QE {l:aN} (hS:nz l) {tv nv v:Value} {out:List Int} {wb mb bp:Nat} {d:List Int} (hd:d∈eX l) {w:World} (hw:Dq w wb mb l tv nv v out) (hp:w.heap[bp]? =some (.cells #[.pointer (some ⟨wb,0,none⟩)] 159 (0,0))):
 Ϝ 124 #[j6 d,.pointer (some ⟨bp,0,none⟩)] w (PV (.bool (iH l out d)) w):=by
 obtain⟨y0,y1,y2,ω⟩:=lM (oF l d hd);have hag:j6 d= .agg #[iv y0,iv y1,iv y2]:=by rw[ω];rfl
 have HP:=aa (fun W hW=>hag▸O3 (w:=W) hS hd (hw.below (B:=w.heap.size) hW (ah _)));rw[hag];obtain⟨c1,f1,l1⟩:=ae hp;obtain⟨q,hq⟩: ∃q,iH l out d=q:=⟨_,rfl⟩;have HQ:=aa hq;clear hw hp hag ω hq;go_enter Tryz.func124,Tryz.ntmps124;go_wp2_with fail
 refine(HP.o _ (ai (aC _ _) _)).mono ?_;rintro e w' ⟨hb,⟨hc,u,rfl,hu⟩|⟨hc,rfl⟩⟩
 ·have hq:q=true:=by rw[<-HQ.o,hc]
  obtain⟨uo,uc,rfl⟩:=aL hu;have Ra:=aa (aV (ai (aC w.heap.size w) (.cells #[iv y0,iv y1,iv y2] 257)) hb);have GH:=aa (af hc hq);clear hb hc hu hq;go_wp2_with fail
  go_returns;exact⟨by rw[GH.o.1];simp,Ra.o⟩
 ·have Ra:=aa (aV (ai (aC w.heap.size w) (.cells #[iv y0,iv y1,iv y2] 257)) hb);have GH:=aa hc;clear hb hc;exact za9
theorem mV {l:aN} (hS:nz l) {tv nv v ov:Value} (out:List Int) {wb mb:Nat} {w:World} (hw:Bd w wb mb l tv nv v) (ho:aK w ov out):
 Ϝ 72 #[.pointer (some ⟨wb,0,none⟩),ov] w (fun e w'=>e= .returned (.bool (eY l out))/\Dq w' wb mb l tv nv v out/\Ext [mb] w w'):=by
 obtain⟨T0,hT0⟩:=hw.tab;obtain⟨oo,oc,rfl⟩:=ho.open;obtain⟨vo,vc,rfl⟩:=hw.work.truth.open;have hF:=gy hS.field;have Ib:(eX l).length<=2500:=gI (xI l _) (ko hF []);have hBA:Ϙ w (w.alloc (.cells #[.pointer (some ⟨wb,0,none⟩)] 159)):=ai (aC _ _) _;have HWO:=aa (Jg l hF hS.many tv nv _ _ out wb mb (eX l) T0 _ (hw.work.below hBA (ah _)) (hT0.below hBA (ah _)) (ho.below hBA (ah _)) (oF l) Ib);have hmb:=hT0.lt;have hwb:=hw.work.lt;have HW:=aa (af (hw.work.below hBA (ah _)) (hT0.below hBA (ah _)));have HS:=aa hS;obtain⟨q,hq⟩: ∃q,eY l out=q:=⟨_,rfl⟩;rw[hq];have HQ:=aa hq;have hbp:=av w (.cells #[.pointer (some ⟨wb,0,none⟩)] 159);have HBP:=aa hbp;clear hw ho hT0 hq hS hbp hBA;go_enter Tryz.func72,Tryz.ntmps72;go_wp2_with fail
 refine HWO.o.mono ?_;rintro e W1 ⟨⟨u,rfl⟩,hE,T,hT,Tc⟩;have Yd:=(hE.block w.heap.size ϕ ϗ).trans HBP.o;have Nq:=HW.o.1.table hE HW.o.2.kQ;have hKn:Dq W1 wb mb l tv nv (.slice vo (eX l).length vc) out:=⟨Nq,T,hT,Tc⟩;have Td:Ext [mb] w W1:=(Ext.ay (ai (aC _ _) _)).trans hE;have HC:=aa (ae6 (eX l) (.slice vo (eX l).length vc) 124 #[] #[.pointer (some ⟨w.heap.size,0,none⟩)] (fun k=>iH l out ((eX l).getD k [])) (fun _ W=>Ϙ W1 W) W1 (oF l)
  (enters_of Tryz.func124 ϰ rfl) (fun k W hW=>Nq.truth.below hW (ah _))
  (fun k hk W _ hW=>by
    have hg:(eX l).getD k []=(eX l)[k]:=by simp[List.getD,hk]
    rw[hg];refine(QE HS.o (bK hk) (hKn.below hW (ah _)) ((hW.block _ (aP.1 Yd).1).trans Yd)).mono ?_;rintro e W' ⟨rfl,hb⟩;exact⟨rfl,aV hW hb⟩) (aC _ _))
 obtain⟨c1,f1,l1⟩:=ae Yd;obtain⟨c2,f2,l2⟩:=ae Nq.cells;have HX:=aa (af hKn Td);clear hE hT Tc Yd Nq hKn Td;obtain⟨ls,hls⟩: ∃ls,eX l=ls:=⟨_,rfl⟩;rw[hls] at HC c2;have AX:=aa hls;clear hls;go_wp2_with fail
 refine HC.o.mono ?_;rintro e W2 ⟨k,hk,GX,⟨tX,hp,rfl,hB⟩|⟨XI,rfl,hB⟩⟩
 ·have hqt:q=true:=by
   rw[<-HQ.o];unfold eY;rw[AX.o,List.any_eq_true];exact⟨ls.getD k [],by rw[show ls.getD k []=ls[k] from by simp[List.getD,tX]];exact bK _,hp⟩
  have HF:=aa (af hqt hB);clear GX hp hB hqt;exact zb4
 ·have hqf:q=false:=by
   rw[<-HQ.o];unfold eY;rw[AX.o,List.any_eq_false];intro x hx;obtain⟨j,hj,rfl⟩:=kD hx;have:=GX j ϑ;simp only at this;rw[show ls.getD j []=ls[j] from by simp[List.getD,hj]] at this
   simp[this]
  have HF:=aa (af hqf hB);clear GX hB hqf;exact zb4
end Go.Proofs.Z
namespace Go.Proofs.Z
open Go.RowKit Go.RG Go.SL Go.Shelf ig Go.TB
def Gv (l:aN):Bool:=lT l.rate 1 50&&(jK l.box&&l.notes.all (yf l))
def gH (l:aN):Int:=if 5<l.notes.length then 3 else if eG l.field true≠0 then eG l.field true else if Gv l=false then 1 else if eY l (upto l.notes.length)=false then 9 else 0
theorem Fj {l:aN} (h1: ¬5<l.notes.length) (h2:eG l.field true=0) (h3:Gv l=true):nz l:=by
 have hf:ja l.field=0:=by
  unfold eG at h2;split at h2
  ·omega
  ·rename_i h;omega
 obtain⟨hS,hpos,_⟩:=qc h2;simp only[Gv,lT,jK,dL,dR,iR] at h3;obtain⟨⟨r1,r2⟩,⟨b1,⟨b2,b3⟩,b4,b5⟩,hn⟩:=h3;refine⟨hf,fun e=>by rw[e] at hpos;simp at hpos,⟨r1,r2⟩,⟨by omega,by omega,by omega⟩,by omega,fun x hx=>?_⟩;have:=hn x hx;simp only[yf,lT,jK,dL,dR] at this;omega
def yF (n k:Nat):List Int:=(List.range n).map fun(i:Nat)=>if i<k then(i:Int) else 0
theorem RF (n:Nat):yF n 0=List.replicate n 0:=by
 unfold yF;simp only[Nat.not_lt_zero,if_false];rw[List.map_const',List.length_range]
theorem VB (n:Nat):yF n n=upto n:=by
 unfold yF upto;apply List.map_congr_left;intro i hi;rw[aB (jL.1 hi)]
theorem Vz {k n:Nat} (_hk:n<k):(yF k n).set n (n:Int)=yF k (n+1):=by
 refine List.ext_getElem (by simp[yF]) fun i h1 h2=>?_;rw[List.getElem_set];simp only[yF,List.getElem_map,List.getElem_range];by_cases e:n=i
 ·subst e;simp
 ·rw[aj e];exact zbZ
theorem KI (n k:Nat):(yF n k).length=n:=by simp[yF]
def LP (l:aN) (tv nv:Value) (w:World) (e:Ending) (w':World):Prop:=
 Ϙ w w'/\((gH l≠0/\e= .returned (.tuple #[.pointer none,iv (gH l)]))∨
  (gH l=0/\ ∃(wb mb:Nat) (v:Value),e= .returned (.tuple #[.pointer (some ⟨wb,0,none⟩),iv 0])/\w.heap.size<=wb/\w.heap.size<=mb/\Bd w' wb mb l tv nv v))
theorem vM (l:aN) (tv nv:Value) (w:World) (ht:dH w tv l.field.ax) (hn:bB w nv l.notes):
 Ϝ 70 #[lv l tv nv] w (LP l tv nv w):=by
 obtain⟨on,cn,rfl⟩:=hn.open;obtain⟨ot,ct,rfl⟩:=ht.open;have hnl:=hn.len;have HN:=aa hn;have HT:=aa ht;clear hn ht;by_cases h5:5<l.notes.length
 ·have HF:Hid (gH l=3):=aa (by unfold gH;rw[aB h5]);have h5I:(l.notes.length:Int)>5:=ϑ;go_enter Tryz.func70,Tryz.ntmps70;go_wp2_with fail
  go_returns;exact⟨zl,.inl ⟨by rw[HF.o];simp,by rw[HF.o];simp⟩⟩
 have h5I: ¬((l.notes.length:Int)>5):=ϑ;have hW:gH l=if eG l.field true≠0 then eG l.field true else if Gv l=false then 1 else if eY l (upto l.notes.length)=false then 9 else 0:=by unfold gH;rw[aj h5]
 have HD:=aa (fun w ht=>zi l.field (.slice ot l.field.ax.length ct) w ht);obtain⟨q,hq⟩: ∃q,eG l.field true=q:=⟨_,rfl⟩;rw[hq] at hW;by_cases hq0:q=0
 case neg=>
  have HF:Hid (gH l=q/\q≠0/\eG l.field true=q):=aa ⟨by rw[hW,aB hq0],hq0,hq⟩;have hqb:(q !=0)=true:=by simpa using hq0
  clear hW hq hq0;go_enter Tryz.func70,Tryz.ntmps70;go_wp2_with fail
  refine(HD.o _ (HT.o.alloc _)).mono ?_;rintro e w1 ⟨hb,⟨hne,rfl⟩|⟨h0,_⟩⟩
  ·have HB:=aa (show Ϙ w w1 from zl);rw[HF.o.2.2];clear hb hne;go_wp2_with fail
   go_returns;exact⟨HB.o,.inl ⟨by rw[HF.o.1];exact HF.o.2.1,by rw[HF.o.1];simp⟩⟩
  ·exact absurd (HF.o.2.2.symm.trans h0) HF.o.2.1
 rw[aj (by rw[hq0];simp)] at hW;rw[hq0] at hq;have HW:=aa hW;have hwd: -1000<=l.field.aJ/\l.field.aJ<=1000:=by
  have hF0:ja l.field=0:=by
   unfold eG at hq;by_cases h:ja l.field=0
   ·exact h
   ·rw[aB h] at hq;exact hq
  have:=gy hF0;have:=this.wU;have:=(gy hF0).uj;omega
 have HQ:=aa hq;clear hW hq hq0;obtain⟨r1,hr1⟩: ∃r1,lT l.rate 1 50=r1:=⟨_,rfl⟩;obtain⟨r2,hr2⟩: ∃r2,jK l.box=r2:=⟨_,rfl⟩;obtain⟨r3,hr3⟩: ∃r3,l.notes.all (yf l)=r3:=⟨_,rfl⟩;have hargs:Gv l=(r1&&(r2&&r3)):=by unfold Gv;rw[hr1,hr2,hr3]
 have H1:=aa (fun w=>hr1▸vE l.rate 1 50 w);have H2:=aa (fun w=>hr2▸AR l.box w);have H3:=aa (fun(W:World) (hB:Ϙ w W)=>
  hr3▸Sd l.notes (.slice on l.notes.length cn) 116 #[lv l (.slice ot l.field.ax.length ct) (.slice on l.notes.length cn)] #[] (yf l) W (HN.o.below hB (ah _)) (enters_of Tryz.func116 ϰ rfl) (fun x _ W' _=>Cb l _ _ x W' hwd.1 hwd.2))
 have HA:=aa hargs;clear hargs hr1 hr2 hr3;go_enter Tryz.func70,Tryz.ntmps70;go_wp2_with fail
 refine(HD.o _ (HT.o.alloc _)).mono ?_;rintro e w1 ⟨hb,⟨hne,_⟩|⟨_,u,rfl,hu⟩⟩
 ·exact absurd HQ.o hne
 obtain⟨uo,uc,rfl⟩:=hu.open;obtain⟨hc,hf⟩:=bA hb;have hz0:w.heap.size<w1.heap.size:=by have:=hb.size;simp at this;omega
 have hk1:=(hb.block w.heap.size ϕ).trans (av w (.cells (jG l (.slice ot l.field.ax.length ct) (.slice on l.notes.length cn)) 49));have Qi:=aa (af (show Ϙ w w1 from zl) hk1);clear hb hu hk1;go_wp2_with fail
 refine(H1.o _).mono ?_;rintro e w2 ⟨rfl,hb⟩;have hk2:=(hb.block _ hz0).trans Qi.o.2;have δ:=aa (af (aV Qi.o.1 hb) hk2);obtain⟨c2,f2,l2⟩:=ae hk2;clear hb hk2 hc hf hz0;cases r1
 ·have hF:gH l=1:=by rw[HW.o,HA.o];rfl
  have HF:=aa hF;clear hF;exact zbo
 go_wp2_with fail
 refine(H2.o _).mono ?_;rintro e w3 ⟨rfl,hb⟩;have Ω:=(hb.block _ l2).trans δ.o.2;have Ra:=aa (af (aV δ.o.1 hb) Ω);obtain⟨c3,f3,l3⟩:=ae Ω;clear hb Ω c2 f2 l2;cases r2
 ·have hF:gH l=1:=by rw[HW.o,HA.o];rfl
  have HF:=aa hF;clear hF;go_wp2_with fail
  go_returns;exact⟨Ra.o.1,.inl ⟨by rw[HF.o];simp,by rw[HF.o];simp⟩⟩
 go_wp2_with fail
 refine(H3.o _ Ra.o.1).mono ?_;rintro e w4 ⟨rfl,hb⟩;have hk4:=(hb.block _ l3).trans Ra.o.2;have fV:=aa (af (aV Ra.o.1 hb) hk4);obtain⟨c4,f4,l4⟩:=ae hk4;clear hb hk4 c3 f3 l3;cases r3
 ·have hF:gH l=1:=by rw[HW.o,HA.o];rfl
  have HF:=aa hF;clear hF;go_wp2_with fail
  go_returns;exact⟨fV.o.1,.inl ⟨by rw[HF.o];simp,by rw[HF.o];simp⟩⟩
 have hS:nz l:=Fj h5 HQ.o (by rw[HA.o];rfl);have hW:gH l=if eY l (upto l.notes.length)=false then 9 else 0:=by rw[HW.o,HA.o];rfl
 have HS:=aa hS;have HW':=aa hW;clear hS hW;go_wp2_with fail
 refine(Ry l _ _ HS.o.field (by have:=HS.o.rate;omega) (by have:=HS.o.rate;omega) w4 (HT.o.below fV.o.1 (ah _)) (HN.o.below fV.o.1 (ah _))).mono ?_;rintro e w5 ⟨wb,mb,v,rfl,hwb,hmb,htab,hlw,hb⟩;have hk5:=(hb.block _ l4).trans fV.o.2;have adC:Bd w5 wb mb l (.slice ot l.field.ax.length ct) (.slice on l.notes.length cn) v:=⟨hlw,[],Hr htab⟩;have hs4:=fV.o.1.size;have mO:=aa (af (aV fV.o.1 hb) (af hk5 adC));obtain⟨c5,f5,l5⟩:=ae hk5;obtain⟨n,hn⟩: ∃n,l.notes.length=n:=⟨_,rfl⟩;have hmk:=sG n ϑ;rw[hn] at HW' c5;have GG:=aa hn;have hn5:n<=5:=ϑ;clear hb hk5 hlw htab c4 f4 l4 adC hn;go_upto_region 11 with(fail)
 refine dz fun W6 wY=>?_;have Ev:Ϙ w5 W6:=by rw[wY];exact ai (aC _ _) _
 have Gc:W6.heap[w5.heap.size]? =some (.cells (ag (yF n 0)).toArray 3 (0,0)):=by rw[wY,RF];exact av _ _
 have H6:=aa (af Ev Gc);clear wY Ev Gc hmk c5 f5 l5;go_wp2_with fail
 go_loopw [50] (fun u wr=> ∃k:Nat,k<=n/\u= .int .i64 k/\wr.heap[w5.heap.size]? =some (.cells (ag (yF n k)).toArray 3 (0,0))/\Ϙ w5 wr) (fun u _=>n-(intOf u).toNat)
 case atStart=>exact⟨0,bD _,rfl,H6.o.2,H6.o.1⟩
 case round=>
  obtain⟨k,hk,rfl,hcb,hB⟩:=hrel;by_cases tX:k<n
  ·have MR:=fB hcb (show k<(yF n k).length by rw[KI];exact tX)
   generalize (yF n k)[k]'(by rw[KI];exact tX)=x at MR;have hlb:=dn wr _ MR;have hfr:=aZ hcb k;have HX:=aa (af hcb hB);clear hcb hB;go_wp2_with fail
   go_roundw
   case rel=>
    refine⟨k+1,by omega,by go_num,?_,gu HX.o.2 (ah _) _⟩;rw[<-Vz tX, <-qm];exact aG HX.o.1 _
   case measure=>simp[intOf];omega
  ·have hkn:k=n:=ϑ;subst hkn;rw[VB] at hcb;have rQ:aK wr (.slice (some ⟨w5.heap.size,0,none⟩) k k) (upto k):=by
    have hul:(upto k).length=k:=by simp[upto]
    have:=aH.bS (w:=wr) (cs:=(ag (upto k)).toArray) 1 k hcb (by simp[ag,hul]) (by simp only[maxLen];omega);show aH 1 _ _ (upto k).length _;rw[hul];exact this
   have HP:=aa (mV HS.o (upto k) (mO.o.2.2.below hB (ah _)) rQ);have HX:=aa hB;obtain⟨q,hq⟩: ∃q,eY l (upto k)=q:=⟨_,rfl⟩;rw[hq] at HP HW';clear hcb hB rQ hq;go_wp2_with fail
   refine HP.o.mono ?_;rintro e w7 ⟨rfl,hkn,hE⟩;have D8:Ϙ w w7:=by
    have h1:=aV mO.o.1 (HX.o);exact fT h1 hE ϑ
   have HX7:=aa (af hkn.ok D8);clear hkn hE D8;cases q
   ·have HF:=aa HW'.o;go_wp2_with fail
    go_returns;exact⟨HX7.o.2,.inl ⟨by rw[HF.o];simp,by rw[HF.o];simp⟩⟩
   ·have HF:=aa HW'.o;go_wp2_with fail
    go_returns;exact⟨HX7.o.2,.inr ⟨by rw[HF.o];rfl,wb,mb,v,by simp,by omega,by omega,HX7.o.1⟩⟩
end Go.Proofs.Z
namespace Go.Proofs.Z
open Go.RowKit Go.RG Go.SL Go.Shelf ig Go.TB
theorem Be (l:aN) (tv nv:Value) (w:World) (ht:dH w tv l.field.ax) (hn:bB w nv l.notes):
 Ϝ 183 #[lv l tv nv] w (PV (iv (gH l)) w):=by
 have HC:=aa (vM l tv nv (w.alloc (.cells (jG l tv nv) 49)) (ht.alloc _) (hn.alloc _));obtain⟨q,hq⟩: ∃q,gH l=q:=⟨_,rfl⟩;rw[hq];have HQ:=aa hq;clear ht hn hq;go_enter Tryz.func183,Tryz.ntmps183;go_wp2_with fail
 refine HC.o.mono ?_;rintro e w1 ⟨hb,⟨hne,rfl⟩|⟨h0,wb,mb,v,rfl,_,_,hok⟩⟩
 ·have Ra:=aa (show Ϙ w w1 from zl);rw[HQ.o];clear hb hne;exact zau
 ·have Ra:=aa (show Ϙ w w1 from zl);have hq0:q=0:=HQ.o.symm.trans h0;have GH:=aa hq0;clear hb hok h0 hq0;exact za9
theorem ng {l:aN} (h:gH l=0):nz l/\eY l (upto l.notes.length)=true:=by
 unfold gH at h;split at h
 ·omega
 ·rename_i h1;split at h
  ·omega
  ·rename_i h2;split at h
   ·omega
   ·rename_i h3;split at h
    ·omega
    ·rename_i h4;exact⟨Fj h1 ϑ (by simpa using h3),by simpa using h4⟩
structure nA (w0:World) (Ms:List Nat) (eD:World->Prop) (wM:Value) (below fb pb bb ab:Nat) (W:World):Prop where
 ext:Ext Ms w0 W
 cache:eD W
 found: ∃o n c,W.heap[fb]? =some (.cells #[.slice o n c] 52 (0,0))
 pass:W.heap[pb]? =some (.cells #[wM] 163 (0,0))
 bound:W.heap[bb]? =some (.cells #[iv below] 3 (0,0))
 add:W.heap[ab]? =some (.cells #[.func (.func 121) #[] #[.pointer (some ⟨fb,0,none⟩),.pointer (some ⟨pb,0,none⟩),.pointer (some ⟨bb,0,none⟩),.pointer (some ⟨ab,0,none⟩)]] 252 (0,0))
 new:w0.heap.size<=fb/\w0.heap.size<=pb/\w0.heap.size<=bb/\w0.heap.size<=ab
 old: ∀m∈Ms,m<w0.heap.size
 good:WM Ms eD
theorem nA.table {w0 W W':World} {Ms:List Nat} {eD:World->Prop} {wM:Value} {below fb pb bb ab:Nat} (h:nA w0 Ms eD wM below fb pb bb ab W) (hE:Ext Ms W W') (hc:eD W'):nA w0 Ms eD wM below fb pb bb ab W':=by
 have hn:=h.new;have ho:=h.old;obtain⟨o,n,c,hf⟩:=h.found;have k: ∀(b:Nat) (x:Obj),W.heap[b]? =some x->w0.heap.size<=b->W'.heap[b]? =some x:=fun b x hb hle=>(hE.block b (aP.1 hb).1 (fun hm=>by have:=ho b hm;omega)).trans hb;exact⟨h.ext.trans hE,hc,⟨o,n,c,k _ _ hf hn.1⟩,k _ _ h.pass hn.2.1,k _ _ h.bound hn.2.2.1,k _ _ h.add hn.2.2.2,hn,ho,h.good⟩
theorem nA.below {w0 W W':World} {Ms:List Nat} {eD:World->Prop} {wM:Value} {below fb pb bb ab:Nat} (h:nA w0 Ms eD wM below fb pb bb ab W) (hB:Ϙ W W'):nA w0 Ms eD wM below fb pb bb ab W':=
 h.table (Ext.ay hB) (h.good.kept _ _ h.cache fun m hm=>hB.block m (by have:=h.old m hm;have:=h.ext.size;omega))
def WS (w0:World) (Ms:List Nat) (eD:World->Prop) (wM:Value) (below fb pb bb ab:Nat) (r:Option (List Int)) (W:World) (e:Ending) (W':World):Prop:=
 (nA w0 Ms eD wM below fb pb bb ab W'/\Ext (fb::Ms) W W')/\((∃c,r=some c/\e= .returned (.bool true)/\ ∃sv,W'.heap[fb]? =some (.cells #[sv] 52 (0,0))/\aK W' sv c)∨(r=none/\e= .returned (.bool false)))
theorem nA.set {w0 W:World} {Ms:List Nat} {eD:World->Prop} {wM:Value} {below fb pb bb ab:Nat} (h:nA w0 Ms eD wM below fb pb bb ab W) (hd:fb≠pb/\fb≠bb/\fb≠ab) (o:Option Addr) (n c:Nat):nA w0 Ms eD wM below fb pb bb ab (W.setCell ⟨fb,0,none⟩ (.slice o n c)):=by
 have hn:=h.new;have ho:=h.old;obtain⟨o',n',c',hf⟩:=h.found;exact⟨h.ext.set hn.1 _,h.good.kept _ _ h.cache (fun m hm=>dm _ _ _ _ (by have:=ho m hm;show m≠fb;omega)),⟨o,n,c,aG hf _⟩,
  (dm _ _ _ _ (by show pb≠fb;omega)).trans h.pass,(dm _ _ _ _ (by show bb≠fb;omega)).trans h.bound,(dm _ _ _ _ (by show ab≠fb;omega)).trans h.add,hn,ho,h.good⟩
theorem nA.not {w0 W:World} {Ms:List Nat} {eD:World->Prop} {wM:Value} {below fb pb bb ab:Nat} (h:nA w0 Ms eD wM below fb pb bb ab W): ∀x∈fb::Ms, ∀o n,W.cell? ⟨x,o,none⟩≠some (.int .i64 n):=by
 intro x hx o n hc;obtain⟨o',n',c',hf⟩:=h.found;rcases eB.1 hx with rfl|hx
 ·simp only[World.cell?,hf] at hc;cases o with
  |zero=>simp at hc
  |succ o=>simp at hc
 ·rw[h.good.none _ h.cache x hx o] at hc;cases hc
theorem Wd (below:Nat) (ο:below<=500) (p:List Int->Bool) (Ms:List Nat) (eD:World->Prop) (w0:World) (pf:Nat) (nJ jF:Array Value) (fb pb bb ab:Nat) (hd:fb≠pb/\fb≠bb/\fb≠ab)
 (eg: Ϛ Tryz.prog pf)
 (sI: ∀l v W,(∀x∈l,0<=x/\x<(below:Int))->Ext Ms w0 W->eD W->aK W v l->Ϝ pf (nJ.push v++jF) W (fun e W'=>e= .returned (.bool (p l))/\eD W'/\Ext Ms W W')):
 ∀(m f:Nat) (l:List Int) (v:Value) (W:World),l.length+m<=900->f<=900->m<=900->(∀x∈l,0<=x/\x<(below:Int))->nA w0 Ms eD (.func (.func pf) nJ jF) below fb pb bb ab W->aK W v l->
  Ϝ 121 #[v,iv f,iv m,.pointer (some ⟨fb,0,none⟩),.pointer (some ⟨pb,0,none⟩),.pointer (some ⟨bb,0,none⟩),.pointer (some ⟨ab,0,none⟩)] W
   (WS w0 Ms eD (.func (.func pf) nJ jF) below fb pb bb ab (((iP below m f).map (l++ ·)).find? p) W):=by
 intro m;induction m with
 |zero=>
  intro f l v W h1 h2 h3 hlb UC hv;have π:((iP below 0 f).map (l++ ·)).find? p=if p l then some l else none:=zb9;obtain⟨r,hr⟩: ∃r,((iP below 0 f).map (l++ ·)).find? p=r:=⟨_,rfl⟩;rw[hr] at π⊢;have uK:=aa π;clear hr π;obtain⟨o,c,rfl⟩:=hv.open;obtain⟨o',n',c',hf⟩:=UC.found;have c1:=aA hf;have c2:=aA UC.pass;have tX:=dn W _ c1;have hfr:=aZ hf 0;have hS:=UC.set hd o l.length c;have Β:aK (W.setCell ⟨fb,0,none⟩ (.slice o l.length c)) (.slice o l.length c) l:=aK.ry hv ((kH W ⟨fb,0,none⟩ _).more (jc:=fb::Ms) ϕ) UC.not;have HC:=aa (sI l _ _ hlb hS.ext hS.cache Β);have HS:=aa UC;have IZ:=aa (af hS Β);have HF:=aa hf;have hd1: ¬pb=fb:=fun e=>hd.1 e.symm;have hd2:=hd.1;clear sI UC hv hS Β hf;go_enter Tryz.func121,Tryz.ntmps121;go_wp2_with fail
  refine HC.o.mono ?_;rintro e W' ⟨rfl,μ,hE⟩;have hS2:=IZ.o.1.table hE μ;have hn:=HS.o.new;have ho:=HS.o.old;have hfb:W'.heap[fb]? =some (.cells #[.slice o l.length c] 52 (0,0)):=(hE.block fb (by simpa [World.setCell] using tX) (fun hm=>by have:=ho fb hm;omega)).trans (aG HF.o _);have hEE:Ext (fb::Ms) W W':=((kH W ⟨fb,0,none⟩ (.slice o l.length c)).more ϕ).trans (hE.more (fun x hx=>nu _ hx));have Μ:aK W' (.slice o l.length c) l:=aK.ry IZ.o.2 (hE.more (jc:=fb::Ms) (fun x hx=>nu _ hx)) IZ.o.1.not;exact zba
 |succ m ih=>
  intro f l v W h1 h2 h3 hlb UC hv;obtain⟨o,c,rfl⟩:=hv.open;have π:((iP below (m+1) f).map (l++ ·)).find? p=((List.range (below-m-f)).flatMap fun j=>(iP below m (f+j+1)).map ((l++[((f+j:Nat):Int)])++ ·)).find? p:=by
   conv=>lhs;unfold iP
   rw[List.map_flatMap];simp only[List.map_map];congr 2;funext j;apply List.map_congr_left;intro x _;simp
  rw[π];clear π;obtain⟨r,hr⟩: ∃r,((List.range (below-m-f)).flatMap fun j=>(iP below m (f+j+1)).map ((l++[((f+j:Nat):Int)])++ ·)).find? p=r:=⟨_,rfl⟩;rw[hr];have uK:=aa hr;clear hr;have hmm:(m:Int)+1<=900:=ϑ;have hm0:((m:Int)+1==0)=false:=by simp;omega
  have ahB: ¬((m:Int)+1=0):=ϑ;rw[show(((m+1:Nat)):Int)=(m:Int)+1 from by omega];have κ:=aa UC;have HV:=aa hv;have Tp:=aa ih;have HD:=aa hd;have HLB:=aa hlb;clear sI UC hv ih hd hlb;go_enter Tryz.func121,Tryz.ntmps121;go_wp2_with fail
  go_loopw [11] (fun i wr=> ∃q:Nat,f<=q/\q<=f+(below-m-f)/\i= .int .i64 q/\nA w0 Ms eD (.func (.func pf) nJ jF) below fb pb bb ab wr/\Ext (fb::Ms) W wr/\
   (∀j,f+j<q->((iP below m (f+j+1)).map ((l++[((f+j:Nat):Int)])++ ·)).find? p=none)) (fun i _=>below+f+1-(intOf i).toNat)
  case atStart=>exact⟨f,ah _,by omega,rfl,κ.o,Ext.refl _ _,fun j hj=>ϑ⟩
  case round=>
   obtain⟨q,hfq,hq,rfl,UC,hE,GX⟩:=hrel;have hv:=aK.ry HV.o hE κ.o.not;have d1:=aA UC.bound;have d2:=aA UC.add;have e1:=dn wr _ d1;have e2:=dn wr _ d2;have HS:=aa UC;have HE:=aa hE;have HN:=aa GX;have ZV:=aa hv;clear UC hE GX hv;by_cases tX:q<f+(below-m-f)
   ·have hqI:(q:Int)<=(below:Int)-((m:Int)+1):=ϑ;have hq9:(q:Int)<=500:=ϑ;go_wp2_with fail
    refine nU 10 [] (some 5) [(2,⟨fun _ v=> ∃o c,v= .slice o l.length c,fun _ _ _=>True⟩),(4,⟨fun _ v=> ∃b:Nat,v= .slice (some ⟨b,0,none⟩) 1 1,fun _ _ _=>True⟩),(5,⟨fun _ v=> ∃o c,v= .slice o (l.length+1) c,fun _ v W=>W.ownsRow wr.heap.size 3 1 v (l.length+1) (ag (l++[(q:Int)]))⟩)] (acQ wr.heap.size l.length l q) ϰ ϰ ?_;simp only[zt];repeat (refine zd ?_;simp only[zp])
    refine jD _ ϱ ϱ (by exact⟨.slice none l.length 0,none,0,rfl⟩) (fun W1 hE hF hG=>?_) (fun _ _ _ _ _=>trivial) (fun v Wa Wb ho hE=>az (Ms:=[]) ho hE ϕ) (fun v hv=>?_)
    ·exact zbm
    obtain⟨o2,c2,rfl⟩:=hv;simp only[zp];repeat (refine zd ?_;simp only[zp])
    refine jD _ ϱ ϱ (by exact⟨.slice (some ⟨0,0,none⟩) 1 1,0,rfl⟩) (fun W1 hE hF hG=>?_) (fun _ _ _ _ _=>trivial) (fun v Wa Wb ho hE=>?_) (fun v hv=>?_)
    ·exact zby
    ·exact zco
    obtain⟨b4,rfl⟩:=hv;simp only[zp];refine jD _ ϱ ϱ (by exact⟨.slice none (l.length+1) 0,none,0,rfl⟩) (fun W1 hE hF hG=>?_) (fun v Wa Wb ho hE=>az (Ms:=[]) ho hE ϕ) (fun _ _ _ _ _=>trivial) (fun v hv=>?_)
    ·exact zaN
    obtain⟨o5,c5,rfl⟩:=hv;simp only[zp];repeat (refine zn ?_;simp only[zp])
    intro W1 hE1 hF;have G8:qZ wr.heap.size [] wr W1:=hE1;have hB:=nO G8 (ah _);obtain⟨hc,hf⟩:=bA hB;have ho:W1.ownsRow wr.heap.size 3 1 (.slice o5 (l.length+1) c5) (l.length+1) (ag (l++[(q:Int)])):=hF _ (bu _);have rQ:aK W1 (.slice o5 (l.length+1) c5) (l++[(q:Int)]):=by
     have:=aH.bV ho;unfold aK;rw[bR];exact this
    have pG:=Tp.o (q+1) (l++[(q:Int)]) _ W1 ϗ ϑ ϑ (fun x hx=>by rcases gz.1 hx with h|h;exact HLB.o x h;(obtain rfl:x=(q:Int):=by simpa using h);omega) (HS.o.below hB) rQ
    exact zay
   ·exact zbi
def YX (Ms:List Nat) (eD:World->Prop) (r:Option (List Int)) (w:World) (e:Ending) (W':World):Prop:=
 (eD W'/\Ext Ms w W')/\((∃c v,r=some c/\e= .returned v/\aK W' v c)∨(r=none/\ ∃o n c,e= .returned (.slice o n c)))
theorem nA.fin {w0 W:World} {Ms:List Nat} {eD:World->Prop} {wM:Value} {below fb pb bb ab:Nat} (h:nA w0 Ms eD wM below fb pb bb ab W):eD W/\Ext Ms w0 W:=⟨h.cache,h.ext⟩
theorem Eg (below:Nat) (ο:below<=500) (p:List Int->Bool) (Ms:List Nat) (eD:World->Prop) (hG:WM Ms eD) (w:World) (μ:eD w) (hmb: ∀m∈Ms,m<w.heap.size) (pf:Nat) (nJ jF:Array Value)
 (eg: Ϛ Tryz.prog pf)
 (sI: ∀l v W,(∀x∈l,0<=x/\x<(below:Int))->Ext Ms w W->eD W->aK W v l->Ϝ pf (nJ.push v++jF) W (fun e W'=>e= .returned (.bool (p l))/\eD W'/\Ext Ms W W')):
 Ϝ 71 #[iv below,.func (.func pf) nJ jF] w (YX Ms eD (lu below p) w):=by
 have HA:=aa (fun(m:Nat) (W:World) (hm:m<=501) (UC:nA w Ms eD (.func (.func pf) nJ jF) below (w.heap.size+1+1) (w.heap.size+1) w.heap.size (w.heap.size+1+1+1) W)=>
  Wd below ο p Ms eD w pf nJ jF (w.heap.size+1+1) (w.heap.size+1) w.heap.size (w.heap.size+1+1+1) ϑ eg sI m 0 [] (.slice none 0 0) W ϗ ϑ ϑ ϕ UC (oz W))
 obtain⟨r,hr⟩: ∃r,lu below p=r:=⟨_,rfl⟩;rw[hr];have HR:=aa hr;have HCC:=aa μ;clear sI eg μ hr;go_enter Tryz.func71,Tryz.ntmps71;go_wp2_with fail
 go_step3
 go_wp2_with fail
 go_step3
 go_wp2_with fail
 obtain⟨w4,kT⟩: ∃w4,((((w.alloc (.cells #[iv below] 3)).alloc (.cells #[.func (.func pf) nJ jF] 163)).alloc (.cells #[.slice none 0 0] 52)).alloc
  (.cells #[.func (.func 121) #[] #[.pointer (some ⟨w.heap.size+1+1,0,none⟩),.pointer (some ⟨w.heap.size+1,0,none⟩),.pointer (some ⟨w.heap.size,0,none⟩),.pointer (some ⟨w.heap.size+1+1+1,0,none⟩)]] 252))=w4:=⟨_,rfl⟩
 have UM:nA w Ms eD (.func (.func pf) nJ jF) below (w.heap.size+1+1) (w.heap.size+1) w.heap.size (w.heap.size+1+1+1) w4:=by
  have hB:Ϙ w w4:=by rw[<-kT];exact zl
  refine⟨Ext.ay hB,hG.kept _ _ HCC.o (fun m hm=>hB.block m (hmb m hm)),⟨none,0,0,?_⟩,?_,?_,?_,by omega,hmb,hG⟩
  ·exact zbO
  ·exact zbv
  ·exact za6
  ·rw[<-kT];have:=av (((w.alloc (.cells #[iv below] 3)).alloc (.cells #[.func (.func pf) nJ jF] 163)).alloc (.cells #[.slice none 0 0] 52)) (.cells #[.func (.func 121) #[] #[.pointer (some ⟨w.heap.size+1+1,0,none⟩),.pointer (some ⟨w.heap.size+1,0,none⟩),.pointer (some ⟨w.heap.size,0,none⟩),.pointer (some ⟨w.heap.size+1+1+1,0,none⟩)]] 252);simpa using this
 rw[kT];have ZW:=aa UM;clear UM kT;go_loopw [10] (fun i wr=> ∃k:Nat,k<=below+1/\i= .int .i64 k/\nA w Ms eD (.func (.func pf) nJ jF) below (w.heap.size+1+1) (w.heap.size+1) w.heap.size (w.heap.size+1+1+1) wr/\
  (∀j,j<k->(iP below j 0).find? p=none)) (fun i _=>below+1-(intOf i).toNat)
 case atStart=>exact⟨0,bD _,rfl,ZW.o,fun j hj=>ϑ⟩
 case round=>
  obtain⟨k,hk,rfl,UC,GX⟩:=hrel;have d2:=aA UC.add;have e2:=dn wr _ d2;have HS:=aa UC;have HN:=aa GX;clear UC GX;by_cases tX:k<below+1
  ·have hkI:(k:Int)<(below:Int)+1:=ϑ;have HC:=aa (HA.o k wr ϑ HS.o);go_wp2_with fail
   refine HC.o.mono ?_;rintro e W2 ⟨⟨hS2,_⟩,π⟩;have HS2:=aa hS2;rcases π with⟨cc,μ,rfl,sv,hsv,rQ⟩|⟨hnone,rfl⟩
   ·have hr:r=some cc:=by
     rw[<-HR.o];exact Fv ϑ HN.o (by simpa using μ)
    obtain⟨so,sc,rfl⟩:=rQ.open;have f1:=aA hsv;have f2:=aZ hsv 0;have f3:=dn W2 _ f1;have HX:=aa (af hr (af hsv rQ));clear hr hsv rQ hS2 μ d2;go_wp2_with fail
    (try rw[Exit.noGoto_ret])
    have MR:(W2.setCell ⟨w.heap.size+1+1,0,none⟩ (.slice so cc.length sc)).cell? ⟨w.heap.size+1+1,0,none⟩=some (.slice so cc.length sc):=aA (aG HX.o.2.1 _);refine bodyPost_ret (v:= .slice so cc.length sc) (by simp[results,Tryz.results71,go_sem,MR]) rfl ?_;refine⟨(HS2.o.set ϑ so cc.length sc).fin,.inl ⟨cc,_,HX.o.1,rfl,?_⟩⟩;exact aK.ry HX.o.2.2 ((kH W2 ⟨w.heap.size+1+1,0,none⟩ _).more (jc:=(w.heap.size+1+1)::Ms) ϕ) HS2.o.not
   ·have HX:=aa hnone;clear hnone hS2 d2;go_wp2_with fail
    go_roundw
    case rel=>
     refine⟨k+1,by omega,by go_num,HS2.o,fun j hj=>?_⟩;by_cases hjq:j=k
     ·subst hjq;simpa using HX.o
     ·exact HN.o j ϑ
    case measure=>simp[intOf];omega
  ·have hkI: ¬((k:Int)<(below:Int)+1):=ϑ;obtain⟨o',n',c',hf⟩:=HS.o.found;have f1:=aA hf;have f2:=aZ hf 0;have f3:=dn wr _ f1;have hk1:k=below+1:=ϑ;subst hk1;have hr:r=none:=by
    rw[<-HR.o];exact Fu HN.o
   go_wp2_with fail
   (try rw[Exit.noGoto_ret])
   have MR:(wr.setCell ⟨w.heap.size+1+1,0,none⟩ (.slice o' n' c')).cell? ⟨w.heap.size+1+1,0,none⟩=some (.slice o' n' c'):=aA (aG hf _);refine bodyPost_ret (v:= .slice o' n' c') (by simp[results,Tryz.results71,go_sem,MR]) rfl ?_;exact⟨(HS.o.set ϑ o' n' c').fin,.inr ⟨rfl,_,_,_,rfl⟩⟩
theorem CQ (r x:dF) (w:World):Ϝ 206 #[rv r,rv x] w (PV (rv (uN r x)) w):=by
 go_enter Tryz.func206,Tryz.ntmps206;go_wp2_with fail
 refine zg 12 [] none [(4,Spec.slice (w.heap.size+3) #[iv r.1,iv x.1] 3 2),(5,Spec.val (iv (min r.1 x.1)))] ?_;simp only[zt];repeat (refine zd ?_;simp only[zp])
 refine dI (w.heap.size+3) _ _ _ ϱ ϕ ϱ ϕ ϕ (fun W hW=>by go_simp;try rfl) (fun b=>?_);simp only[zp];refine dQ _ ϱ ϱ 272 _ (fun W hW=>by go_simp;try rfl) (fun W hE hF=>?_) ?_
 ·obtain⟨c,hcb,hB,hc⟩:=hF _ (bu _) ϰ;cases hcb;exact yC r.1 x.1 b 2 W (by simp[World.cell?,hc]) (by simp[World.cell?,hc])
 simp only[zp];repeat (refine zd ?_;simp only[zp])
 intro W hE hF;obtain⟨hc,hf⟩:=bA hE.below;have ic:=hE.size;(try simp only[bg] at ic)
 go_wp2;all_goals
  (try simp only[Exit.inBlock,Exit.then])
  refine bodyPost_ret (v:=rv (min r.1 x.1,max r.2 x.2)) (by simp[results,Tryz.results206,go_sem,hc];try omega) rfl ?_;exact⟨rfl,ze⟩
abbrev acv (d:Int) (r:dF):Value:= .agg #[iv d,iv r.1,iv r.2]
theorem JQ (d:Int) (r:dF) (w:World) (h:(0<=d/\d<=350)/\0<=r.1/\r.1<=r.2/\r.2<=2000):Ϝ 73 #[acv d r] w (PV (rv (mE d r)) w):=by
 obtain⟨p,q⟩:=r;have h1: -10000<=d-q/\d-q<=10000:=by simp only at h;omega
 have h2: -10000<=d-p/\d-p<=10000:=by simp only at h;omega
 clear h;go_enter Tryz.func73,Tryz.ntmps73;go_wp2_with fail
 go_returns;exact⟨by simp[mE],zl⟩
def fI (l:aN) (Α:Bool):Int:=if gH l≠0 then gH l else if Α=false then 2 else if eY l []=false then 11 else 0
def SS (l:aN) (Α:Bool) (tv nv:Value) (w:World) (e:Ending) (w':World):Prop:=
 Ϙ w w'/\((fI l Α≠0/\e= .returned (.tuple #[.pointer none,iv (fI l Α)]))∨
  (fI l Α=0/\ ∃(wb mb:Nat) (v:Value),e= .returned (.tuple #[.pointer (some ⟨wb,0,none⟩),iv 0])/\w.heap.size<=wb/\w.heap.size<=mb/\Dq w' wb mb l tv nv v []))
theorem AQ {l:aN} {Α:Bool} (h:fI l Α=0):nz l/\gH l=0/\Α=true/\eY l []=true:=by
 unfold fI at h;split at h
 ·rename_i h0;exact absurd h h0
 ·rename_i h0;have h0:gH l=0:=ϑ;split at h
  ·omega
  ·rename_i h1;split at h
   ·omega
   ·rename_i h2;exact⟨(ng h0).1,h0,by simpa using h1,by simpa using h2⟩
theorem sP (l:aN) (tv nv:Value) (Α:Bool) (w:World) (ht:dH w tv l.field.ax) (hn:bB w nv l.notes):
 Ϝ 126 #[lv l tv nv,.bool Α] w (SS l Α tv nv w):=by
 have HC:=aa (vM l tv nv (w.alloc (.cells (jG l tv nv) 49)) (ht.alloc _) (hn.alloc _));clear ht hn;obtain⟨q,hq⟩: ∃q,gH l=q:=⟨_,rfl⟩;by_cases hq0:q=0
 case neg=>
  have HE:Hid (fI l Α=q/\q≠0):=aa ⟨by unfold fI;rw[hq,aB hq0],hq0⟩;have hqb:(q !=0)=true:=by simpa using hq0
  have HQ:=aa hq;clear hq hq0;go_enter Tryz.func126,Tryz.ntmps126;go_wp2_with fail
  refine HC.o.mono ?_;rintro e w1 ⟨hb,⟨hne,rfl⟩|⟨h0,_⟩⟩
  ·rw[HQ.o];have Ra:=aa (show Ϙ w w1 from zl);clear hb hne;go_wp2_with fail
   go_returns;exact⟨Ra.o,.inl ⟨by rw[HE.o.1];exact HE.o.2,by rw[HE.o.1];simp⟩⟩
  ·exact absurd (HQ.o.symm.trans h0) HE.o.2
 subst hq0;obtain⟨hS,_⟩:=ng hq;have HS:=aa hS;have HQ:=aa hq;cases Α
 ·have HE:Hid (fI l false=2):=aa (by unfold fI;rw[hq];rfl);clear hq hS;go_enter Tryz.func126,Tryz.ntmps126;go_wp2_with fail
  refine HC.o.mono ?_;rintro e w1 ⟨hb,⟨hne,_⟩|⟨_,wb,mb,v,rfl,hwb,hmb,hok⟩⟩
  ·exact absurd HQ.o hne
  have Ra:=aa (show Ϙ w w1 from zl);clear hb hok;exact za8
 obtain⟨r,hr⟩: ∃r,eY l []=r:=⟨_,rfl⟩;have HE:Hid (fI l true=if r=false then 11 else 0):=aa (by unfold fI;rw[hq,hr];simp);have HR:=aa hr;clear hq hS hr;go_enter Tryz.func126,Tryz.ntmps126;go_wp2_with fail
 refine HC.o.mono ?_;rintro e w1 ⟨hb,⟨hne,_⟩|⟨_,wb,mb,v,rfl,hwb,hmb,hok⟩⟩
 ·exact absurd HQ.o hne
 have HP:=aa (HR.o▸mV HS.o [] hok (aH.nil 1 w1));have ν:=bg w (.cells (jG l tv nv) 49);have ahc:w.heap.size<=wb:=ϑ;have Rk:w.heap.size<=mb:=ϑ;have Ra:=aa (show Ϙ w w1 from zl);clear hb hok hwb hmb ν;go_wp2_with fail
 refine HP.o.mono ?_;rintro e w2 ⟨rfl,hkn,hE⟩;have δ:=aa (af (fT Ra.o hE Rk) hkn);clear hkn hE;cases r
 ·have HF:=aa HE.o;exact zbo
 ·have HF:=aa HE.o;go_wp2_with fail
  go_returns;exact⟨δ.o.1,.inr ⟨by rw[HF.o];rfl,wb,mb,v,by simp,ahc,Rk,δ.o.2⟩⟩
end Go.Proofs.Z
namespace Go.Proofs.Z
open Go.RowKit Go.RG Go.SL Go.Shelf ig Go.TB
theorem JO {l:aN} (hS:nz l) {d:List Int} (hd:d∈eX l) (hc:iH l [] d=true) {i:Nat} (hi:i<l.field.aJ.toNat):
 0<=((jy l [] d).getD i (0,0)).1/\((jy l [] d).getD i (0,0)).1<=((jy l [] d).getD i (0,0)).2/\((jy l [] d).getD i (0,0)).2<=2000:=by
 have h1:=MP hi (by have:=hS.box;omega) hc;have hF:=gy hS.field;have:=hF.uj;have hb:=CY hS hd i ϑ;have hk:=Ke hS [] i hb.1 ϑ;rw[FQ l [] d hi] at h1⊢;unfold qI at h1⊢;simp only at h1⊢;omega
theorem xK {l:aN} (hS:nz l) {tv nv v:Value} {wb mb:Nat} (aY:Nat) (p:Int->dF->dF) (w:World) (hw:Dq w wb mb l tv nv v [])
 (eg: Ϛ Tryz.prog aY)
 (hp: ∀(d:Int) (r:dF) (W:World),(0<=d/\d<=350)/\0<=r.1/\r.1<=r.2/\r.2<=2000->Ϝ aY #[acv d r] W (PV (rv (p d r)) W)):
 Ϝ 127 #[.agg #[.func (.func aY) #[] #[]],.pointer (some ⟨wb,0,none⟩)] w (fun e w'=> ∃u,e= .returned u/\w'.ownsRow w.heap.size 46 2 u (yP p l (eX l)).length (aD (yP p l (eX l)))/\Ϙ w w'):=by
 obtain⟨vo,vc,rfl⟩:=hw.work.truth.open;have hF:=gy hS.field;have Ib:(eX l).length<=2500:=gI (xI l _) (ko hF []);have hw0:=hF.wU;have hw3:=hF.uj;obtain⟨n,hn⟩: ∃n:Nat,l.field.aJ.toNat=n:=⟨_,rfl⟩;have hn1:1<=n:=ϑ;have Il:n<=3:=ϑ;have HN:=aa hn;have HS:=aa hS;have HP:=aa hp;obtain⟨W1,σ⟩: ∃W1,w.alloc (.cells #[.func (.func aY) #[] #[]] 169)=W1:=⟨_,rfl⟩;have hB1:Ϙ w W1:=by rw[<-σ];exact ai (aC _ _) _
 have hk1:W1.heap[w.heap.size]? =some (.cells #[.func (.func aY) #[] #[]] 169 (0,0)):=by rw[<-σ];exact av _ _
 have XT:=hw.below hB1 (ah _);have aax:wb<W1.heap.size:=XT.work.lt;have ac6:w.heap.size<W1.heap.size:=(aP.1 hk1).1;have H1:=aa (af hB1 (af hk1 XT));obtain⟨ds,hds⟩: ∃ds,eX l=ds:=⟨_,rfl⟩;have hck:=XT.work.cells;rw[hds] at hck Ib⊢;obtain⟨c1,f1,l1⟩:=ae hck;have HDS:=aa hds;clear hw hF hw0 hw3 hn hp hS hB1 hk1 XT hds hck;go_enter Tryz.func127,Tryz.ntmps127;go_wp2_with fail
 (try rw[σ])
 clear σ;go_loopw [5,18] (fun v5 u wr=> ∃k:Nat,k<=ds.length/\u= .int .i64 k/\(∃oo oc,v5= .slice oo (j5 p l k ds).length oc/\wr.ownsRow W1.heap.size 46 2 (.slice oo (j5 p l k ds).length oc) (j5 p l k ds).length (aD (j5 p l k ds)))/\Ϙ W1 wr) (fun _ u _=>ds.length-(intOf u).toNat)
 case atStart=>exact⟨0,bD _,rfl,⟨none,0,rfl,⟨rfl,.inl ⟨rfl,rfl⟩⟩⟩,aC _ _⟩
 case round=>
  obtain⟨k,hk,rfl,⟨oo,oc,rfl,η⟩,hB⟩:=hrel;by_cases tX:k<ds.length
  ·have hkn:=H1.o.2.2.below hB (ah _);have hk1:=(hB.block _ ac6).trans H1.o.2.1;have htr:=hkn.work.truth;rw[HDS.o] at htr;obtain⟨b,off,y0,y1,y2,rfl,ο,ω,hc0,hc1,hc2⟩:=zP htr (by rw[<-HDS.o];exact oF l) tX;have hacc:=Gu p l ds k hk;rw[HN.o] at hacc;have hsu:=xL p l tX;have hdm:ds[k]∈eX l:=by rw[HDS.o];exact bK _
   obtain⟨d,hd⟩: ∃d,ds[k]=d:=⟨_,rfl⟩;rw[hd] at hsu hdm ω;obtain⟨acc,hac⟩: ∃acc,j5 p l k ds=acc:=⟨_,rfl⟩;rw[hac] at η hacc hsu;rw[hac];have adM:(k:Int)<ds.length:=ϑ;have HD:=aa (af ω hdm);have uq:=aa hsu;have HAC:=aa hacc;have HX:=aa (af η (af hB (af hkn hk1)));have ν:=hB.size;obtain⟨s3,hs3⟩: ∃s3,wr.heap.size=s3:=⟨_,rfl⟩;clear η hB hkn hk1 htr hsu ω hdm hd hac hacc hk;go_upto_region 5 with(fail)
   refine dz fun W5 vD=>?_;have uD:Ϙ wr W5:=by rw[vD];exact zl
   have hk5:W5.heap[wr.heap.size]? =some (.cells #[iv y0,iv y1,iv y2] 257 (0,0)):=by rw[vD];exact av _ _
   have adU:=HX.o.2.2.1.below uD (ah _);have hag:j6 d= .agg #[iv y0,iv y1,iv y2]:=by rw[HD.o.1];rfl
   have HPA:=aa (hag▸O3 HS.o HD.o.2 adU);have h51:=(uD.block _ ϑ).trans HX.o.2.2.2;have zL:=aV HX.o.2.1 uD;have UO:W5.ownsRow W1.heap.size 46 2 (.slice oo acc.length oc) acc.length (aD acc):=bU HX.o.1 fun g hg=>uD.block g (aW HX.o.1 g hg).2;have hog: ∀g,(Value.slice oo acc.length oc).ownBlock=some g->g<s3:=fun g hg=>by rw[<-hs3];exact(aW HX.o.1 g hg).2
   rw[hs3] at hk5;have amo:s3<W5.heap.size:=(aP.1 hk5).1;have ams:W1.heap.size<=s3:=ϑ;have H5:=aa (af UO (af zL (af hk5 (af h51 hog))));obtain⟨c5,f5,l5⟩:=ae hk5;clear vD uD hk5 adU h51 zL UO hog hs3 ν hc0 hc1 hc2 ο HX hag;go_wp2_with fail
   refine HPA.o.mono ?_;rintro e W6 ⟨hb,XL⟩;obtain⟨is,ps,pv,rfl,hpo,his,hps⟩: ∃(is:Bool) (ps:List dF) (pv:Value),e= .returned (.tuple #[pv,.bool is])/\W6.ownsRow W5.heap.size 46 2 pv ps.length (aD ps)/\iH l [] d=is/\ps=if is=true then jy l [] d else[]:=by
    rcases XL with⟨hc,u,rfl,hu⟩|⟨hc,rfl⟩
    ·exact⟨true,jy l [] d,u,rfl,hu,hc,by simp⟩
    ·exact⟨false,[],.slice none 0 0,rfl,⟨rfl,.inl ⟨rfl,rfl⟩⟩,hc,by simp⟩
   obtain⟨po,pc,rfl⟩:=aL hpo;obtain⟨ns,hns⟩: ∃ns:List dF,(if is=true then pz p l d else[])=ns:=⟨_,rfl⟩;have hnl:ns.length=ps.length:=by rw[<-hns,hps];cases is <;>simp[mI,FP]
   have hpl:ps.length=if is=true then n else 0:=by rw[hps];cases is <;>simp[FP,HN.o]
   have hstep:j5 p l (k+1) ds=jk acc ns ns.length:=by
    rw[uq.o];unfold rC;rw[his, <-hns];cases is
    ·simp[tZ]
    ·rw[aB rfl,aB rfl,Sm (by rw[mI,HN.o];exact HAC.o)]
   have h66:=(hb.block _ (show s3<W5.heap.size by omega)).trans H5.o.2.2.1;have Vt:=(hb.block _ (show w.heap.size<W5.heap.size by omega)).trans H5.o.2.2.2.1;have adA:W6.ownsRow W1.heap.size 46 2 (.slice oo acc.length oc) acc.length (aD acc):=bU H5.o.1 fun g hg=>hb.block g (by have:=H5.o.2.2.2.2 g hg;omega);have ahm:=hb.size;have H6:=aa (af adA (af (aV H5.o.2.1 hb) (af h66 (af Vt hpo))));have HIS:=aa (af his (af hps hns));have Y3:=aa (af hnl hpl);have κ:=aa hstep;have hp3:ps.length<=3:=by rw[hpl];split <;>omega
   have aj7:=aa ahm;clear hb XL hpo his hps hns hnl hpl hstep h66 Vt adA c5 f5 l5;go_wp2_with fail
   go_loopw [5,30] (fun v5 u wq=> ∃i:Nat,i<=ps.length/\u= .int .i64 i/\(∃oo oc,v5= .slice oo (jk acc ns i).length oc/\wq.ownsRow W1.heap.size 46 2 (.slice oo (jk acc ns i).length oc) (jk acc ns i).length (aD (jk acc ns i))/\(∀g,(Value.slice oo (jk acc ns i).length oc).ownBlock=some g->g<s3∨W6.heap.size<=g))/\Ϙ W1 wq/\
    (∀b,s3<=b->b<W6.heap.size->wq.heap[b]? =W6.heap[b]?)/\W6.heap.size<=wq.heap.size) (fun _ u _=>ps.length-(intOf u).toNat)
   case atStart=>
    refine⟨0,bD _,rfl,⟨oo,oc,by rw[tZ],?_,?_⟩,H6.o.2.1,fun b _ _=>rfl,ah _⟩
    ·rw[tZ];exact H6.o.1
    ·rw[tZ];exact fun g hg=> .inl (H5.o.2.2.2.2 g hg)
   case round=>
    obtain⟨i,hi,rfl,⟨oo2,FV,rfl,η,hog⟩,I8,XJ,aaA⟩:=hrel;by_cases hlt2:i<ps.length
    ·have Rm:is=true:=by
      have:=Y3.o.2;cases is
      ·rw[aj ϕ] at this;omega
      ·rfl
     have Φ:i<n:=by have:=Y3.o.2;rw[Rm] at this;simp at this;omega
     have hpv:=aH.bV (bU (w':=wr) H6.o.2.2.2.2 fun g hg=>XJ g (by have:=(aW H6.o.2.2.2.2 g hg).1;omega) (aW H6.o.2.2.2.2 g hg).2)
     obtain⟨gp,po',hvp,hgp,q0,q1⟩:=bF.cell hpv hlt2;subst hvp;have Gc:=(XJ s3 (ah _) ϑ).trans H6.o.2.2.1;have MR:=fB (show wr.heap[s3]? =some (.cells (ag d).toArray 257 (0,0)) by rw[HD.o.1];exact Gc) (show i<d.length by rw[HD.o.1];simp;omega)
     have hd3:i<d.length:=by rw[HD.o.1];simp;omega
     have hgd:d.getD i 0=d[i]:=by simp[List.getD,hd3]
     have hdb:=CY HS.o HD.o.2 i ϑ;have hiw:i<l.field.aJ.toNat:=by rw[HN.o];exact Φ
     have hpd:=JO HS.o HD.o.2 (HIS.o.1.trans Rm) hiw;have hpe:ps[i]=(jy l [] d).getD i (0,0):=by
      have h1:=HIS.o.2.1;rw[Rm,aB rfl] at h1;subst h1;simp[List.getD,hlt2]
     have hin2:i<ns.length:=by rw[Y3.o.1];exact hlt2
     have hne:ns[i]=p (d[i]) ps[i]:=by
      have h1:=HIS.o.2.2;rw[Rm,aB rfl] at h1;subst h1;rw[F3,hpe,hgd]
     rw[<-hpe] at hpd;rw[hgd] at hdb;have h1w:=(I8.block _ ac6).trans H1.o.2.1;have hlenA:=Sl (acc:=acc) (kP:=ns) (i:=i) (by
      have h1:=HAC.o;have h2:=Y3.o;rw[Rm] at h2;simp at h2;rcases h1 with h|h
      ·exact .inl h
      ·exact .inr ϑ) ϑ
     have hold:=fun(ha:acc≠[]) (h:acc.length=ns.length)=>Sj ha h hin2;generalize hyi:d[i]'hd3=y at*
     generalize Ar:ps[i]=r at*
     generalize hxi:ns[i]=x at*
     have HPF:=aa (hne▸HP.o y r);have HHP:=aa (af hpd hdb);have HOLD:=aa (af hold hxi);have HLA:=aa hlenA;have HX:=aa (af η (af hog (af I8 (af XJ aaA))));have Ba:(i:Int)<ps.length:=ϑ;have hi3:i<3:=ϑ;have ad7:(i:Int)<3:=ϑ;obtain⟨e1,e2,e3⟩:=ae h1w;have HW1:=aa h1w;have ahn:s3<wr.heap.size:=ϑ;clear η hog I8 XJ aaA hpv Gc hgd hdb hpd hpe hne h1w hlenA hold hyi Ar hxi hd3 hiw;cases Rm;go_upto_region 9 with(fail)
     refine dz fun W9 Iq=>?_;have Ym:Ϙ wr W9:=by rw[Iq];exact zl
     have sJ:W9.heap[wr.heap.size]? =some (.cells #[iv r.1,iv r.2] 46 (0,0)):=by rw[Iq];exact av _ _
     have hc9:=(Ym.cell (p:=⟨s3,i,none⟩) ahn).trans MR;obtain⟨i1,i2,i3⟩:=ae ((Ym.block _ e3).trans HW1.o);have hs9:=Ym.size;obtain⟨g1,g2,g3⟩:=ae sJ;have aj3:s3<W9.heap.size:=ϑ;have oJ:=aa Ym;clear Iq Ym MR e1 e2 e3 q0 q1;have zZ:=aa sJ;clear sJ;refine zg 9 [] none [(7,Spec.val (rv x)),(8,Spec.block W9.heap.size #[iv 0,iv 0] 46)] ?_;simp only[zt];repeat ((first|refine zn ?_|refine zk ?_);simp only[zp])
     refine dQ _ ϱ ϱ aY #[acv y r] (fun W hW=>by go_simp;(try simp only[eg]);try rfl) (fun W hE hF=>by exact HPF.o W ⟨HHP.o.2,HHP.o.1⟩) ?_
     simp only[zp];refine iY W9.heap.size _ _ ϱ (ah _) ϱ ϕ ϕ (fun W hW=>by go_simp;try rfl) (fun b12=>?_);simp only[zp];repeat ((first|refine zn ?_|refine zk ?_);simp only[zp])
     intro WA hE hF;have G8:Ext [] W9 WA:=hE;obtain⟨c12,NB,Zy,aaR⟩:=hF _ (bu _);cases NB;obtain⟨x0,x1⟩:=x;obtain⟨j1,j2,j3⟩:=ae aaR;have HEA:=aa G8;have HKA:=aa aaR;clear hE hF G8 aaR g1 g2 g3 i1 i2 i3 hc9;go_upto_region 10 with(fail)
     refine dz fun WB hWB=>?_;have aeR:Ϙ W9 WB:=by rw[hWB];exact gu (gu HEA.o.below Zy _) Zy _
     have hkB:WB.heap[b12]? =some (.cells #[iv x0,iv x1] 46 (0,0)):=by rw[hWB];exact aG (aG HKA.o _) _
     have hBB:Ϙ wr WB:=aV oJ.o aeR;have Zo:WB.ownsRow W1.heap.size 46 2 (.slice oo2 (jk acc ns i).length FV) (jk acc ns i).length (aD (jk acc ns i)):=bU HX.o.1 fun g hg=>hBB.block g (aW HX.o.1 g hg).2;have aeP:=aV HX.o.2.2.1 hBB;have U5: ∀b,s3<=b->b<W6.heap.size->WB.heap[b]? =W6.heap[b]? :=fun b ζ θ=>(hBB.block b (by have:=HX.o.2.2.2.2;omega)).trans (HX.o.2.2.2.1 b ζ θ);have adl:W6.heap.size<=WB.heap.size:=gI HX.o.2.2.2.2 hBB.size;have HB:=aa (af Zo (af HX.o.2.1 (af aeP (af hkB (af U5 adl)))));obtain⟨j1,j2,j3⟩:=ae hkB;clear hWB aeR hBB Zo aeP U5 adl HEA HKA;have HLB:=aa HLA.o;obtain⟨L,hL⟩: ∃L,jk acc ns i=L:=⟨_,rfl⟩;have hgb: ∀g,(Value.slice oo2 (jk acc ns i).length FV).ownBlock=some g->g≠b12/\W1.heap.size<=g:=fun g hg=>by
      have h1:=aW HX.o.1 g hg;have h2:=oJ.o.size;omega
     have HGB:=aa hgb;have GD:=aa HOLD.o;rw[hL] at HB HLB HGB GD⊢;have HL:=aa hL;clear hgb HLA HX HOLD oJ zZ hL;by_cases ha:acc=[]
     ·have hm:L.length=i:=by rw[HLB.o,aB ha]
      have hmb:((L.length:Int)==(i:Int))=true:=by rw[beq_iff_eq];omega
      have HAN:Hid (jk acc ns (i+1)=L++[(x0,x1)]):=aa (by
       have h1:=GD.o.2;subst ha;rw[Sk hin2,h1,HL.o])
      have HM:=aa hm;clear ha hm;go_upto_region 11 with(fail)
      clear hmb;have hL3:L.length<=3:=by have:=HM.o;omega
      have ahf:W1.heap.size<=WB.heap.size:=HB.o.2.2.1.size;go_wp2_with (at_builtin;refine dB rfl _ _ BF rfl W1.heap.size (.slice oo2 L.length FV) L.length (aD L) rfl ?_ (.slice (some ⟨WB.heap.size,0,none⟩) 1 1) 1 (aD [(x0,x1)]) rfl ?_ (mG _) ϑ ϑ ϗ ?_)
      ·exact az (Ms:=[]) HB.o.1 (Ext.ay ((aC _ _).alloc (ah _) _)) ϕ
      ·exact aH.bS 2 1 (av _ _) rfl ϖ
      ·intro v' Wc Fw TF XL;obtain⟨O4,JW,rfl⟩:=aL Fw;have e3:L.length+1=(L++[(x0,x1)]).length:=ϕ;rw[<-mW,e3] at Fw;rw[e3] at XL⊢;have Ig:Ϙ WB (WB.alloc (.cells #[iv x0,iv x1] 46)):=ai (aC _ _) _;have hkc: ∀b,b<WB.heap.size->(∀g,(Value.slice oo2 L.length FV).ownBlock=some g->g≠b)->Wc.heap[b]? =WB.heap[b]? :=fun b hb hn=>(TF.block b ϗ (fun e=>hn b (by simpa using e.symm) rfl)).trans (Ig.block b hb);have hoc:Hid (Wc.ownsRow W1.heap.size 46 2 (.slice O4 (L++[(x0,x1)]).length JW) (L++[(x0,x1)]).length (aD (L++[(x0,x1)]))/\(∀g,(Value.slice O4 (L++[(x0,x1)]).length JW).ownBlock=some g->g<s3∨W6.heap.size<=g)/\Ϙ W1 Wc/\
        Wc.heap[b12]? =some (.cells #[iv x0,iv x1] 46 (0,0))/\(∀b,s3<=b->b<W6.heap.size->Wc.heap[b]? =W6.heap[b]?)/\W6.heap.size<=Wc.heap.size):=aa (by
        refine⟨Fw,fun g hg=>?_,Below.grown (aV HB.o.2.2.1 Ig) TF (by have:=Ig.size;omega) (fun k e=>(HGB.o k e).2),(hkc b12 (aP.1 HB.o.2.2.2.1).1 (fun g hg=>(HGB.o g hg).1)).trans HB.o.2.2.2.1,fun b ζ θ=>?_,?_⟩
        ·rcases XL with h|h
         ·rw[h] at hg;exact HB.o.2.1 g hg
         ·rw[h] at hg;have:=HB.o.2.2.2.2.2;have:WB.heap.size+1=g:=by simpa using hg
          right;omega
        ·have:=HB.o.2.2.2.2.2;exact(hkc b ϑ (fun g hg=>by have:=HB.o.2.1 g hg;omega)).trans (HB.o.2.2.2.2.1 b ζ θ)
        ·have:=HB.o.2.2.2.2.2;have:=TF.size;have:=Ig.size;omega)
       have wT:=hoc;have Tm:Hid (i<(L++[(x0,x1)]).length):=aa (by have:=HM.o;simp;omega);have HLZ:Hid ((L++[(x0,x1)])[i]'Tm.o=(x0,x1)):=aa (by
        have:=HM.o;subst this;simp)
       have AX:Hid ((L++[(x0,x1)]).set i (uN (x0,x1) (x0,x1))=jk acc ns (i+1)):=aa (by
        rw[HAN.o];have:=HM.o;subst this;rw[nT _ _ (ah _),Nat.sub_self];simp[uN])
       clear Fw TF XL e3 Ig hkc hoc hL3 ahf j1 j2 j3 HB HGB GD HLB HAN;generalize L++[(x0,x1)]=L3 at*
       go_upto_region 12 with(fail)
       have Ku:Wc.ownsRow W1.heap.size 46 2 (.slice O4 (L3).length JW) (L3).length (aD (L3)):=wT.o.1;obtain⟨gb,c2,hg2,Yb,Ro,⟨s0,s1⟩,hfr2⟩:=mF Ku Tm.o;rw[HLZ.o] at s0 s1;(try simp only at s0 s1)
       obtain⟨rfl,rfl⟩:O4=some ⟨gb,0,none⟩/\JW=c2:=by simp at hg2;exact hg2
       obtain⟨e1,e2,e3⟩:=ae wT.o.2.2.2.1;have XW:(i:Int)<((L3).length:Int):=by have:=Tm.o;omega
       clear Ku hg2 hfr2;refine zg 9 [] none [(7,Spec.val (rv (uN (x0,x1) (x0,x1))))] ?_;simp only[zt];repeat ((first|refine zn ?_|refine zk ?_);simp only[zp])
       refine zw 206 (h:=fun W hE hF=>by exact CQ (x0,x1) (x0,x1) W) (t:=?_)
       simp only[zp];repeat ((first|refine zn ?_|refine zk ?_);simp only[zp])
       intro Tf hE hF;have G8:Ext [] Wc Tf:=hE;have uE:Ϙ Wc Tf:=G8.below;have xz:Tf.ownsRow W1.heap.size 46 2 (.slice (some ⟨gb,0,none⟩) (L3).length JW) (L3).length (aD (L3)):=az (Ms:=[]) wT.o.1 G8 ϕ;have Τ:=lQ xz Tm.o (uN (x0,x1) (x0,x1));obtain⟨g3,c3,hg3,_,ad8,⟨t0,t1⟩,aeb⟩:=mF xz Tm.o;obtain⟨rfl,rfl⟩:gb=g3/\JW=c3:=by simp at hg3;exact hg3
       rw[AX.o] at Τ;have Ib:(L3).length=(jk acc ns (i+1)).length:=by rw[<-AX.o,nQ]
       have hgn:gb<s3∨W6.heap.size<=gb:=wT.o.2.1 gb rfl;have κ:=aa (af Τ (af Ib (af (aV wT.o.2.2.1 uE) (af uE (af hgn Yb)))));clear hE hF G8 xz Τ Ib uE hg3 hgn e1 e2 e3 s0 s1;go_wp2_with fail
       go_roundw
       case rel=>
        refine⟨i+1,by omega,by go_num,⟨some ⟨gb,0,none⟩,JW,by rw[<-κ.o.2.1],?_,?_⟩,?_,?_,?_⟩
        ·have:=κ.o.1;rw[κ.o.2.1] at this;exact this
        ·exact zck
        ·exact gu (gu κ.o.2.2.1 κ.o.2.2.2.2.2 _) κ.o.2.2.2.2.2 _
        ·exact zbw
        ·have:=wT.o.2.2.2.2.2;have:=κ.o.2.2.2.1.size;simp;omega
       case measure=>simp[intOf];omega
     ·have hm:L.length=ns.length:=by rw[HLB.o,aj ha]
      have Cv:((L.length:Int)==(i:Int))=false:=by rw[iI];omega
      have hal:acc.length=ns.length:=by
       have h2:=Y3.o;rw[aB rfl] at h2;rcases HAC.o with h|h
       ·exact absurd h ha
       ·omega
      have Tm:Hid (i<L.length):=aa ϑ;have hz:=GD.o.1 ha hal;obtain⟨z,hzd⟩: ∃z:dF,acc.getD i (0,0)=z:=⟨_,rfl⟩;rw[hzd] at hz;have HLZ:Hid (L[i]'Tm.o=z):=aa (by
       rw[<-hzd,fJ, <-hz.1,bZ Tm.o];rfl)
      have AX:Hid (L.set i (uN z (x0,x1))=jk acc ns (i+1)):=aa hz.2.symm;have HM:=aa hm;clear ha hm hal hz hzd GD HLB HGB HL;go_upto_region 12 with(fail)
      clear Cv;have wT:=HB;clear HB;clear j1 j2 j3;have Ku:WB.ownsRow W1.heap.size 46 2 (.slice oo2 (L).length FV) (L).length (aD (L)):=wT.o.1;obtain⟨gb,c2,hg2,Yb,Ro,⟨s0,s1⟩,hfr2⟩:=mF Ku Tm.o;rw[HLZ.o] at s0 s1;(try simp only at s0 s1)
      obtain⟨rfl,rfl⟩:oo2=some ⟨gb,0,none⟩/\FV=c2:=by simp at hg2;exact hg2
      obtain⟨e1,e2,e3⟩:=ae wT.o.2.2.2.1;have XW:(i:Int)<((L).length:Int):=by have:=Tm.o;omega
      clear Ku hg2 hfr2;refine zg 9 [] none [(7,Spec.val (rv (uN z (x0,x1))))] ?_;simp only[zt];repeat ((first|refine zn ?_|refine zk ?_);simp only[zp])
      refine zw 206 (h:=fun W hE hF=>by exact CQ z (x0,x1) W) (t:=?_)
      simp only[zp];repeat ((first|refine zn ?_|refine zk ?_);simp only[zp])
      intro Tf hE hF;have G8:Ext [] WB Tf:=hE;have uE:Ϙ WB Tf:=G8.below;have xz:Tf.ownsRow W1.heap.size 46 2 (.slice (some ⟨gb,0,none⟩) (L).length FV) (L).length (aD (L)):=az (Ms:=[]) wT.o.1 G8 ϕ;have Τ:=lQ xz Tm.o (uN z (x0,x1));obtain⟨g3,c3,hg3,_,ad8,⟨t0,t1⟩,aeb⟩:=mF xz Tm.o;obtain⟨rfl,rfl⟩:gb=g3/\FV=c3:=by simp at hg3;exact hg3
      rw[AX.o] at Τ;have Ib:(L).length=(jk acc ns (i+1)).length:=by rw[<-AX.o,nQ]
      have hgn:gb<s3∨W6.heap.size<=gb:=wT.o.2.1 gb rfl;have κ:=aa (af Τ (af Ib (af (aV wT.o.2.2.1 uE) (af uE (af hgn Yb)))));clear hE hF G8 xz Τ Ib uE hg3 hgn e1 e2 e3 s0 s1;go_wp2_with fail
      go_roundw
      case rel=>
       refine⟨i+1,by omega,by go_num,⟨some ⟨gb,0,none⟩,FV,by rw[<-κ.o.2.1],?_,?_⟩,?_,?_,?_⟩
       ·have:=κ.o.1;rw[κ.o.2.1] at this;exact this
       ·exact zck
       ·exact gu (gu κ.o.2.2.1 κ.o.2.2.2.2.2 _) κ.o.2.2.2.2.2 _
       ·exact zbw
       ·have:=wT.o.2.2.2.2.2;have:=κ.o.2.2.2.1.size;simp;omega
      case measure=>simp[intOf];omega
    ·have hip:i=ps.length:=ϑ;subst hip;rw[<-Y3.o.1, <-κ.o] at η hog;rw[<-Y3.o.1, <-κ.o];have HF:=aa (af η I8);clear η hog I8 XJ aaA;go_wp2_with fail
     go_roundw
     case rel=>exact⟨k+1,by omega,by go_num,⟨oo2,FV,rfl,HF.o.1⟩,HF.o.2⟩
     case measure=>simp[intOf];omega
  ·have hkd:k=ds.length:=ϑ;subst hkd;have HF:=aa (af η hB);clear η hB;go_wp2_with fail
   go_returns;exact⟨_,by simp,bL HF.o.1 ϑ,aV H1.o.1 HF.o.2⟩
end Go.Proofs.Z
namespace Go.Proofs.Z
open Go.RowKit Go.RG Go.SL Go.Shelf ig Go.TB
def Lx (p:Int->dF->dF) (l:aN) (w:World) (e:Ending) (w':World):Prop:=
 Ϙ w w'/\((fI l true≠0/\e= .returned (.tuple #[.slice none 0 0,iv (fI l true)]))∨
  (fI l true=0/\ ∃u,e= .returned (.tuple #[u,iv 0])/\bF w' u (yP p l (eX l))))
theorem ML (l:aN) (tv nv:Value) (aY:Nat) (p:Int->dF->dF) (w:World) (ht:dH w tv l.field.ax) (hn:bB w nv l.notes)
 (eg: Ϛ Tryz.prog aY)
 (hp: ∀(d:Int) (r:dF) (W:World),(0<=d/\d<=350)/\0<=r.1/\r.1<=r.2/\r.2<=2000->Ϝ aY #[acv d r] W (PV (rv (p d r)) W)):
 Ϝ 74 #[.agg #[.func (.func aY) #[] #[]],lv l tv nv] w (Lx p l w):=by
 have HC:=aa (sP l tv nv true ((w.alloc (.cells #[.func (.func aY) #[] #[]] 169)).alloc (.cells (jG l tv nv) 49)) ((ht.alloc _).alloc _) ((hn.alloc _).alloc _));have HE:=aa eg;have HP:=aa hp;clear ht hn hp eg;obtain⟨q,hq⟩: ∃q,fI l true=q:=⟨_,rfl⟩;have HQ:=aa hq;clear hq;go_enter Tryz.func74,Tryz.ntmps74;go_wp2_with fail
 refine HC.o.mono ?_;rintro e w1 ⟨hb,⟨hne,rfl⟩|⟨h0,wb,mb,v,rfl,_,_,hok⟩⟩
 ·rw[HQ.o] at hne⊢;have hqb:(q !=0)=true:=by simpa using hne
  have HB:=aa (af (show Ϙ w w1 from zl) hne);clear hb hne;go_wp2_with fail
  go_returns;exact⟨HB.o.1,.inl ⟨by rw[HQ.o];exact HB.o.2,by rw[HQ.o];simp⟩⟩
 ·have hk:=(hb.block w.heap.size ϗ).trans ((aS _ _ _ ϕ).trans (av w (.cells #[.func (.func aY) #[] #[]] 169)));have HBN:=aa (xK (AQ h0).1 aY p w1 hok HE.o HP.o);have HB:=aa (af (show Ϙ w w1 from zl) h0);obtain⟨c1,f1,l1⟩:=ae hk;clear hb hk hok h0;go_wp2_with fail
  refine HBN.o.mono ?_;rintro e w2 ⟨u,rfl,hu,hb⟩;obtain⟨uo,uc,rfl⟩:=aL hu;have HX:=aa (af (aV HB.o.1 hb) (aH.bV hu));clear hb hu c1 f1 l1;go_wp2_with fail
  go_returns;exact⟨HX.o.1,.inr ⟨HB.o.2,_,by simp,HX.o.2⟩⟩
theorem LC (l:aN) (tv nv:Value) (w:World) (ht:dH w tv l.field.ax) (hn:bB w nv l.notes):
 Ϝ 42 #[lv l tv nv] w (Lx mE l w):=by
 have HC:=aa (ML l tv nv 73 mE (w.alloc (.cells (jG l tv nv) 49)) (ht.alloc _) (hn.alloc _) (enters_of Tryz.func73 ϰ rfl) (fun d r W h=>by first|exact JQ d r W h|(have:=h;exact JQ d r W h)))
 clear ht hn;go_enter Tryz.func42,Tryz.ntmps42;go_wp2_with fail
 refine HC.o.mono ?_;rintro e w1 ⟨hb,⟨hne,rfl⟩|⟨h0,u,rfl,hu⟩⟩
 ·obtain⟨q,hq⟩: ∃q,fI l true=q:=⟨_,rfl⟩;have HB:=aa (af (show Ϙ w w1 from zl) (af hne hq));rw[hq];clear hb hne hq;go_wp2_with fail
  go_returns;exact⟨HB.o.1,.inl ⟨HB.o.2.1,by rw[HB.o.2.2];simp⟩⟩
 ·obtain⟨uo,uc,rfl⟩:=hu.open;have HB:=aa (af (show Ϙ w w1 from zl) (af h0 hu));clear hb h0 hu;go_wp2_with fail
  go_returns;exact⟨HB.o.1,.inr ⟨HB.o.2.1,_,by simp,HB.o.2.2⟩⟩
end Go.Proofs.Z
namespace Go.Proofs.Z
open Go.RowKit Go.RG Go.SL Go.Shelf ig Go.TB
end Go.Proofs.Z
namespace Go.Proofs.Z
open Go.RowKit Go.RG Go.SL Go.Shelf ig Go.TB
end Go.Proofs.Z
namespace Go.Proofs.Z
open Go.RowKit Go.RG Go.SL Go.Shelf ig Go.TB
def lG (l:aN):List Int:=(lu l.notes.length (eY l)).getD []
theorem Am {l:aN} (h:eY l (upto l.notes.length)=true):lu l.notes.length (eY l)=some (lG l):=by
 unfold lG;cases hs:lu l.notes.length (eY l) with
 |some c=>rfl
 |none=>rw[Jw hs _ (UG _)] at h;cases h
def SC (l:aN) (w:World) (e:Ending) (w':World):Prop:=
 Ϙ w w'/\((gH l≠0/\e= .returned (.tuple #[.slice none 0 0,iv (gH l)]))∨(gH l=0/\ ∃v,e= .returned (.tuple #[v,iv 0])/\aK w' v (lG l)))
theorem SB (l:aN) (tv nv:Value) (w:World) (ht:dH w tv l.field.ax) (hn:bB w nv l.notes):
 Ϝ 41 #[lv l tv nv] w (SC l w):=by
 obtain⟨on,cn,rfl⟩:=hn.open;have HC:=aa (vM l tv _ (w.alloc (.cells (jG l tv (.slice on l.notes.length cn)) 49)) (ht.alloc _) (hn.alloc _));clear ht hn;obtain⟨q,hq⟩: ∃q,gH l=q:=⟨_,rfl⟩;have HQ:=aa hq;clear hq;obtain⟨nn,hnn⟩: ∃nn,l.notes.length=nn:=⟨_,rfl⟩;have HNN:=aa hnn;rw[hnn] at HC⊢;clear hnn;go_enter Tryz.func41,Tryz.ntmps41;go_wp2_with fail
 refine HC.o.mono ?_;rintro e w1 ⟨hb,⟨hne,rfl⟩|⟨h0,wb,mb,v,rfl,hwb,hmb,hok⟩⟩
 ·have HB:=aa (af (show Ϙ w w1 from zl) hne);rw[HQ.o] at hne⊢;have hqb:(q !=0)=true:=by simpa using hne
  clear hb hne;go_wp2_with fail
  go_returns;exact⟨HB.o.1,.inl ⟨HB.o.2,by rw[HQ.o];simp⟩⟩
 ·obtain⟨hS,hpo⟩:=ng h0;have hsh:=Am hpo;have hn5:=hS.many;rw[HNN.o] at hsh hn5;have hk1:=(hb.block w.heap.size ϕ).trans (av w (.cells (jG l tv (.slice on nn cn)) 49));have hmw:w.heap.size<mb:=by simp at hmb;omega
  have yY:=aa (Eg nn ϑ (eY l) [mb] (fun W=> ∃T,TabAt SY rv (fun _=>True) W mb T) ⟨fun a b ⟨T,hT⟩ hk=>⟨T,hT.kept (hk mb ϕ)⟩,fun W hW m hm o=>by
   obtain rfl:m=mb:=by simpa using hm
   obtain⟨T,hT⟩:=hW;exact hT.kQ o⟩ w1 hok.tab (fun m hm=>by obtain rfl:m=mb:=(by simpa using hm);exact hok.lt) 72 #[.pointer (some ⟨wb,0,none⟩)] #[]
   (enters_of Tryz.func72 ϰ rfl) (fun x u W' _ hE hW hv=>by
     refine(mV hS x (show Bd W' wb mb l tv (.slice on nn cn) v from⟨hok.work.table hE hok.kQ,hW⟩) hv).mono ?_;rintro e W2 ⟨rfl,hkn,Ι⟩;exact⟨rfl,hkn.ok.tab,Ι⟩))
  have HB:=aa (af (show Ϙ w w1 from zl) (af h0 (af hsh hmw)));obtain⟨c1,f1,l1⟩:=ae hk1;clear hb hok h0 hS hpo hsh hk1 hwb hmb hmw;go_wp2_with fail
  refine yY.o.mono ?_;rintro e w2 ⟨⟨_,hE⟩,⟨cx,u,hcx,rfl,rQ⟩|⟨GX,_⟩⟩
  ·have π:cx=lG l:=by rw[HB.o.2.2.1] at hcx;injection hcx with h;exact h.symm
   obtain⟨uo,uc,rfl⟩:=rQ.open;have HX:=aa (af (fT HB.o.1 hE (by have:=HB.o.2.2.2;omega)) (af π rQ));clear hE hcx rQ π c1 f1 l1;go_wp2_with fail
   go_returns;exact⟨HX.o.1,.inr ⟨HB.o.2.1,_,by simp;rfl,by rw[<-HX.o.2.1];exact HX.o.2.2⟩⟩
  ·rw[HB.o.2.2.1] at GX;cases GX
theorem Ls {l:aN} (h:fI l true=0):nz l/\ ∃d∈eX l,iH l [] d=true:=by
 obtain⟨hS,_,_,hp⟩:=AQ h;unfold eY at hp;rw[List.any_eq_true] at hp;exact⟨hS,hp⟩
theorem VX {l:aN} (hp: ∃d∈eX l,iH l [] d=true) (p:Int->dF->dF) {i:Nat} (hi:i<l.field.aJ.toNat):
 qM (fun y=> ∃d∈eX l,iH l [] d=true/\y=p (d.getD i 0) ((jy l [] d).getD i (0,0))) ((yP p l (eX l)).getD i (0,0)):=by
 obtain⟨d,hd,hc⟩:=hp;rcases Dj p l (eX l) hi (eX l).length (ah _) with⟨_,h2⟩|⟨_,h1⟩
 ·rw[List.take_length] at h2;rw[h2 d hd] at hc;cases hc
 ·rw[List.take_length] at h1;exact h1
end Go.Proofs.Z
namespace Go.Proofs.Z
open Go.RowKit Go.RG Go.SL Go.Shelf ig Go.TB
end Go.Proofs.Z
end

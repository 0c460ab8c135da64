/-
  Texts of this claim, packed by a program: QF UA RA RE UD UH UL.
-/
import Derived.WalkKit
import Derived.WalkLawsBesides
import Derived.WalkSpells
import Derived.Outline
import Derived.Handy
import Derived.KernelRfl
import Derived.Lib.Hide
import Derived.Deep.Cut
import Derived.Laws.BitsLemmas
import Derived.BigRegion
import Derived.Test.YthllkbbbapgelaaGreatDoorPN6
set_option maxHeartbeats 8000000
set_option maxRecDepth 100000
set_option linter.all false
theorem _root_.zb7 {P:Prop} (h:P:=by
 go_wp2_with fail
 go_returns;exact⟨by rw[HF.o.1];simp,HX.o.1.below HF.o.2 (ah _),HX.o.2.trans (Ext.ax HF.o.2)⟩):P:=h
theorem _root_.zbs {P:Prop} (h:P:=by
 go_wp2_with fail
 go_returns;exact⟨ζ.o.1,.inl ⟨by rw[HF.o];simp,by rw[HF.o];simp⟩⟩):P:=h
theorem _root_.zbA {P:Prop} (h:P:=by
 intro b δ κ;have hbg:b≠gb:=by have:=π.o.2.2.2.2.1;omega
 have h1:=xB.o.2.2.2.2.1 b δ κ;have h2:=π.o.2.2.2.1.block b (by have:=xB.o.2.2.2.2.2;omega);exact(bV _ _ _ _ hbg).trans ((bV _ _ _ _ hbg).trans (h2.trans h1))):P:=h
theorem _root_.zco {P:Prop} (h:P:=by
 intro g hg;have:gb=g:=by simpa [Value.ownBlock] using hg
 rw[<-this];exact π.o.2.2.2.2.1):P:=h
theorem _root_.zau {P:Prop} (h:P:=by
 obtain⟨ajG,ajz,aiU⟩:=ae (((jO HK.o.2.2.1 HK.o.2.1 HE6.o uX Ol ϑ hsw).2.2 b3 WG).trans HK.o.1);clear uX Ol;go_wp2_with fail
 go_roundw
 case rel=>
  refine⟨k+1,by omega,by go_num,o7,c7,?_⟩;rw[yG.o];exact⟨HP.o.2.2.2.1,HP.o.2.2.1,HP.o.1,HP.o.2.1,fun c hc hne=>(HP.o.2.2.2.2 c hc hne).trans (HK.o.2.2.2.2 c hc hne)⟩
 case measure=>simp[intOf];omega):P:=h
section
namespace Go.Proofs.Z
open Go.RowKit Go.RG Go.SL Go.Shelf gK Go.TB
abbrev WV (d:List Int):Value:=kz d
abbrev XW (w:World) (v:Value) (ls:List (List Int)):Prop:=aH 3 w v ls.length (ls.flatMap ag)
theorem aiN (l:List (List Int)) (v:Value) (bg:Nat) (Nf aP:Array Value) (p:Nat->Bool) (I:Nat->World->Prop) (w:World) (h3: ∀x∈l,x.length=3) (eg: Ϛ Tryz.prog bg)
 (Y5: ∀k W,I k W->XW W v l)
 (qY: ∀k (hk:k<l.length) W,(∀j,j<k->p j=false)->I k W->Ϝ bg (Nf.push (WV l[k])++aP) W (fun e W'=>e= .returned (.bool (p k))/\I (k+1) W')) (h0:I 0 w):
 Ϝ 205 #[v,.func (.func bg) Nf aP] w (dN l.length p I (fun k=>iv k) (iv (-1))):=by
 have IY:=(Y5 0 w h0).len;obtain⟨o,c,rfl⟩:=(Y5 0 w h0).open;have HC:=aa qY;have HS:=aa Y5;have H3:=aa h3;clear qY Y5 h3;go_enter Tryz.func205,Tryz.ntmps205;go_wp2;go_loopw [4,5,8] (fun _ _ i wr=> ∃k:Nat,k<=l.length/\i= .int .i64 k/\(∀j,j<k->p j=false)/\I k wr) (fun _ _ i _=>l.length-(intOf i).toNat)
 case atStart=>exact⟨0,bE _,rfl,fun j hj=>ϑ,h0⟩
 case round=>
  obtain⟨k,hk,rfl,IB,hI⟩:=hrel;by_cases uM:k<l.length
  ·obtain⟨b,off,y0,y1,y2,hvv,hb,Ε,hc0,hc1,hc2⟩:=AQ (HS.o k wr hI) H3.o uM;subst hvv;have hC:=HC.o k uM wr IB hI;have hda:WV l[k]= .agg #[iv y0,iv y1,iv y2]:=by show kz l[k]=_;rw[Ε];rfl
   rw[hda] at hC;exact zad
  ·exact zam
theorem agH (l:List (List Int)) (v:Value) (bg:Nat) (Nf aP:Array Value) (p:Nat->Bool) (I:Nat->World->Prop) (w:World) (h3: ∀x∈l,x.length=3) (eg: Ϛ Tryz.prog bg)
 (Y5: ∀k W,I k W->XW W v l)
 (qY: ∀k (hk:k<l.length) W,(∀j,j<k->p j=false)->I k W->Ϝ bg (Nf.push (WV l[k])++aP) W (fun e W'=>e= .returned (.bool (p k))/\I (k+1) W')) (h0:I 0 w):
 Ϝ 123 #[v,.func (.func bg) Nf aP] w (dN l.length p I (fun _=> .bool true) (.bool false)):=by
 have HI:=aa (aiN l v bg Nf aP p I w h3 eg Y5 qY h0);have IY:=(Y5 0 w h0).len;clear Y5 qY h0 eg;go_enter Tryz.func123,Tryz.ntmps123;exact zac
def fo (l:aO) (out:List Int):Bool:=(eZ l).any (iI l out)
structure Cc (W:World) (wb mb:Nat) (l:aO) (tv nv v:Value):Prop where
 work:A9 W wb mb l tv nv v (eZ l)
 tab: ∃T,TabAt T9 rv (fun _=>True) W mb T
structure EX (W:World) (wb mb:Nat) (l:aO) (tv nv v:Value) (out:List Int):Prop where
 work:A9 W wb mb l tv nv v (eZ l)
 tab: ∃T,TabAt T9 rv (fun _=>True) W mb T/\pR (Bt l out) T (qI l.field.aJ.toNat (eZ l) (eZ l).length)
theorem EX.ok {W:World} {wb mb:Nat} {l:aO} {tv nv v:Value} {out:List Int} (h:EX W wb mb l tv nv v out):Cc W wb mb l tv nv v:=⟨h.work,let⟨T,h1,_⟩:=h.tab;⟨T,h1⟩⟩
theorem EX.below {W W':World} {wb mb:Nat} {l:aO} {tv nv v:Value} {out:List Int} (h:EX W wb mb l tv nv v out) {B:Nat} (hb:Below B W W') (hB:W.heap.size<=B):EX W' wb mb l tv nv v out:=
 ⟨h.work.below hb hB,let⟨T,h1,h2⟩:=h.tab;⟨T,h1.below hb hB,h2⟩⟩
theorem Cc.below {W W':World} {wb mb:Nat} {l:aO} {tv nv v:Value} (h:Cc W wb mb l tv nv v) {B:Nat} (hb:Below B W W') (hB:W.heap.size<=B):Cc W' wb mb l tv nv v:=
 ⟨h.work.below hb hB,let⟨T,h1⟩:=h.tab;⟨T,h1.below hb hB⟩⟩
theorem Cc.lt {W:World} {wb mb:Nat} {l:aO} {tv nv v:Value} (h:Cc W wb mb l tv nv v):mb<W.heap.size:=let⟨_,h1⟩:=h.tab;h1.lt
theorem Cc.kV {W:World} {wb mb:Nat} {l:aO} {tv nv v:Value} (h:Cc W wb mb l tv nv v) (o:Nat):W.cell? ⟨mb,o,none⟩=none:=let⟨_,h1⟩:=h.tab;h1.kV o
theorem oM (l:aO): ∀x∈eZ l,x.length=3:=zC l _
theorem Es {l:aO} (hS:nD l) {d:List Int} (hd:d∈eZ l) (i:Nat) (hi:i<3):0<=d.getD i 0/\d.getD i 0<=350:=by
 obtain⟨t,ht,rfl⟩:=GL.1 hd;have hF:=gu hS.field;have:=mF ht;exact Er (by have:=hS.rate;omega) (by have:=hS.rate;omega) t (by have:=hF.oG;omega) i hi
theorem YZ {l:aO} {out:List Int} {T:List ((Int×Int)×dF)} (hF:pR (Bt l out) T (qI l.field.aJ.toNat (eZ l) (eZ l).length)) {d:List Int} (hd:d∈eZ l) {i:Nat} (hi:i<l.field.aJ.toNat):
 TB.look ((i:Int),d.getD i 0) T=some ((nA l out d).getD i (0,0)):=by
 obtain⟨r,hr⟩:=hF.has ((i:Int),d.getD i 0) (by
  unfold qI;rw[List.take_length,nW];exact⟨d,hd,gW.2 ⟨i,jQ.2 hi,rfl⟩⟩)
 rw[hr,hF.only _ _ hr,KP,A7 _ _ _ hi]
theorem Xv {l:aO} (hS:nD l) (out:List Int) {d:List Int} (hd:d∈eZ l): ∀r∈nA l out d,0<=r.1/\r.1<=2000/\0<=r.2/\r.2<=2000:=by
 intro r hr;obtain⟨i,hi,rfl⟩:=gW.1 hr;have hF:=gu hS.field;have:=hF.uU;have hi':=jQ.1 hi;have hb:=Es hS hd i ϑ;have:=KO hS out i hb.1 ϑ;omega
theorem Qa {l:aO} (hS:nD l) {tv nv v:Value} {out:List Int} {wb mb:Nat} {d:List Int} (hd:d∈eZ l) {w:World} (hw:EX w wb mb l tv nv v out):
 Ϝ 125 #[.pointer (some ⟨wb,0,none⟩),kz d] w (Mr l out d w):=by
 obtain⟨T,hT,hF⟩:=hw.tab;exact U6 l (gu hS.field) (by have:=hS.box;omega) tv nv v out d (oM l d hd) (nA l out d) rfl (Xv hS out hd) wb mb T w hw.work.cells hT (fun i hi=>YZ hF hd hi)
theorem Rs {l:aO} (hS:nD l) {tv nv v:Value} {out:List Int} {wb mb bp:Nat} {d:List Int} (hd:d∈eZ l) {w:World} (hw:EX w wb mb l tv nv v out) (hp:w.heap[bp]? =some (.cells #[.pointer (some ⟨wb,0,none⟩)] 159 (0,0))):
 Ϝ 124 #[kz d,.pointer (some ⟨bp,0,none⟩)] w (PV (.bool (iI l out d)) w):=by
 obtain⟨y0,y1,y2,Ε⟩:=lN (oM l d hd);have hag:kz d= .agg #[iv y0,iv y1,iv y2]:=by rw[Ε];rfl
 have HP:=aa (fun W hW=>hag▸Qa (w:=W) hS hd (hw.below (B:=w.heap.size) hW (ah _)));rw[hag];obtain⟨c1,f1,l1⟩:=ae hp;obtain⟨q,hq⟩: ∃q,iI l out d=q:=⟨_,rfl⟩;have HQ:=aa hq;clear hw hp hag Ε hq;go_enter Tryz.func124,Tryz.ntmps124;go_wp2_with fail
 refine(HP.o _ (ai (aF _ _) _)).mono ?_;rintro e w' ⟨hb,⟨hc,u,rfl,hu⟩|⟨hc,rfl⟩⟩
 ·have hq:q=true:=by rw[<-HQ.o,hc]
  obtain⟨uo,uc,rfl⟩:=aM hu;have HB:=aa (aV (ai (aF w.heap.size w) (.cells #[iv y0,iv y1,iv y2] 257)) hb);have HE:=aa (af hc hq);clear hb hc hu hq;go_wp2_with fail
  go_returns;exact⟨by rw[HE.o.1];simp,HB.o⟩
 ·have HB:=aa (aV (ai (aF w.heap.size w) (.cells #[iv y0,iv y1,iv y2] 257)) hb);have HE:=aa hc;clear hb hc;exact zbb
theorem mY {l:aO} (hS:nD l) {tv nv v ov:Value} (out:List Int) {wb mb:Nat} {w:World} (hw:Cc w wb mb l tv nv v) (ho:aL w ov out):
 Ϝ 72 #[.pointer (some ⟨wb,0,none⟩),ov] w (fun e w'=>e= .returned (.bool (fo l out))/\EX w' wb mb l tv nv v out/\Ext [mb] w w'):=by
 obtain⟨T0,hT0⟩:=hw.tab;obtain⟨oo,oc,rfl⟩:=ho.open;obtain⟨vo,vc,rfl⟩:=hw.work.truth.open;have hF:=gu hS.field;have IY:(eZ l).length<=2500:=eU (yA l _) (kC hF []);have hBA:Ϙ w (w.alloc (.cells #[.pointer (some ⟨wb,0,none⟩)] 159)):=ai (aF _ _) _;have HWO:=aa (JO l hF hS.many tv nv _ _ out wb mb (eZ l) T0 _ (hw.work.below hBA (ah _)) (hT0.below hBA (ah _)) (ho.below hBA (ah _)) (oM l) IY);have hmb:=hT0.lt;have hwb:=hw.work.lt;have HW:=aa (af (hw.work.below hBA (ah _)) (hT0.below hBA (ah _)));have HS:=aa hS;obtain⟨q,hq⟩: ∃q,fo l out=q:=⟨_,rfl⟩;rw[hq];have HQ:=aa hq;have hbp:=av w (.cells #[.pointer (some ⟨wb,0,none⟩)] 159);have HBP:=aa hbp;clear hw ho hT0 hq hS hbp hBA;go_enter Tryz.func72,Tryz.ntmps72;go_wp2_with fail
 refine HWO.o.mono ?_;rintro e W1 ⟨⟨u,rfl⟩,hE,T,hT,Uc⟩;have Zv:=(hE.block w.heap.size ϕ ϗ).trans HBP.o;have Oc:=HW.o.1.table hE HW.o.2.kV;have hKn:EX W1 wb mb l tv nv (.slice vo (eZ l).length vc) out:=⟨Oc,T,hT,Uc⟩;have Ud:Ext [mb] w W1:=(Ext.ax (ai (aF _ _) _)).trans hE;have HC:=aa (agH (eZ l) (.slice vo (eZ l).length vc) 124 #[] #[.pointer (some ⟨w.heap.size,0,none⟩)] (fun k=>iI l out ((eZ l).getD k [])) (fun _ W=>Ϙ W1 W) W1 (oM l)
  (enters_of Tryz.func124 ϰ rfl) (fun k W hW=>Oc.truth.below hW (ah _))
  (fun k hk W _ hW=>by
    have hg:(eZ l).getD k []=(eZ l)[k]:=by simp[List.getD,hk]
    rw[hg];refine(Rs HS.o (bZ hk) (hKn.below hW (ah _)) ((hW.block _ (aN.1 Zv).1).trans Zv)).mono ?_;rintro e W' ⟨rfl,hb⟩;exact⟨rfl,aV hW hb⟩) (aF _ _))
 obtain⟨c1,f1,l1⟩:=ae Zv;obtain⟨c2,f2,l2⟩:=ae Oc.cells;have HX:=aa (af hKn Ud);clear hE hT Uc Zv Oc hKn Ud;obtain⟨ls,hls⟩: ∃ls,eZ l=ls:=⟨_,rfl⟩;rw[hls] at HC c2;have vE:=aa hls;clear hls;go_wp2_with fail
 refine HC.o.mono ?_;rintro e W2 ⟨k,hk,IB,⟨uM,hp,rfl,hB⟩|⟨Y9,rfl,hB⟩⟩
 ·have hqt:q=true:=by
   rw[<-HQ.o];unfold fo;rw[vE.o,List.any_eq_true];exact⟨ls.getD k [],by rw[show ls.getD k []=ls[k] from by simp[List.getD,uM]];exact bZ _,hp⟩
  have HF:=aa (af hqt hB);clear IB hp hB hqt;exact zb7
 ·have hqf:q=false:=by
   rw[<-HQ.o];unfold fo;rw[vE.o,List.any_eq_false];intro x hx;obtain⟨j,hj,rfl⟩:=lK hx;have:=IB j ϑ;simp only at this;rw[show ls.getD j []=ls[j] from by simp[List.getD,hj]] at this
   simp[this]
  have HF:=aa (af hqf hB);clear IB hB hqf;exact zb7
end Go.Proofs.Z
namespace Go.Proofs.Z
open Go.RowKit Go.RG Go.SL Go.Shelf gK Go.TB
def Ht (l:aO):Bool:=lV l.rate 1 50&&(jP l.box&&l.notes.all (yV l))
def gG (l:aO):Int:=if 5<l.notes.length then 3 else if eO l.field true≠0 then eO l.field true else if Ht l=false then 1 else if fo l (upto l.notes.length)=false then 9 else 0
theorem Gf {l:aO} (h1: ¬5<l.notes.length) (h2:eO l.field true=0) (h3:Ht l=true):nD l:=by
 have hf:iZ l.field=0:=by
  unfold eO at h2;split at h2
  ·omega
  ·rename_i h;omega
 obtain⟨hS,hpos,_⟩:=ql h2;simp only[Ht,lV,jP,dU,dZ,jh] at h3;obtain⟨⟨r1,r2⟩,⟨b1,⟨b2,b3⟩,b4,b5⟩,hn⟩:=h3;refine⟨hf,fun e=>by rw[e] at hpos;simp at hpos,⟨r1,r2⟩,⟨by omega,by omega,by omega⟩,by omega,fun x hx=>?_⟩;have:=hn x hx;simp only[yV,lV,jP,dU,dZ] at this;omega
def zB (n k:Nat):List Int:=(List.range n).map fun(i:Nat)=>if i<k then(i:Int) else 0
theorem SI (n:Nat):zB n 0=List.replicate n 0:=by
 unfold zB;simp only[Nat.not_lt_zero,if_false];rw[List.map_const',List.length_range]
theorem WU (n:Nat):zB n n=upto n:=by
 unfold zB upto;apply List.map_congr_left;intro i hi;rw[aG (jQ.1 hi)]
theorem WT {k n:Nat} (_hk:n<k):(zB k n).set n (n:Int)=zB k (n+1):=by
 refine List.ext_getElem (by simp[zB]) fun i h1 h2=>?_;rw[List.getElem_set];simp only[zB,List.getElem_map,List.getElem_range];by_cases e:n=i
 ·subst e;simp
 ·rw[ak e];exact zb2
theorem Ll (n k:Nat):(zB n k).length=n:=by simp[zB]
def MH (l:aO) (tv nv:Value) (w:World) (e:Ending) (w':World):Prop:=
 Ϙ w w'/\((gG l≠0/\e= .returned (.tuple #[.pointer none,iv (gG l)]))∨
  (gG l=0/\ ∃(wb mb:Nat) (v:Value),e= .returned (.tuple #[.pointer (some ⟨wb,0,none⟩),iv 0])/\w.heap.size<=wb/\w.heap.size<=mb/\Cc w' wb mb l tv nv v))
theorem wI (l:aO) (tv nv:Value) (w:World) (ht:cz w tv l.field.aj) (hn:aU w nv l.notes):
 Ϝ 70 #[lv l tv nv] w (MH l tv nv w):=by
 obtain⟨on,cn,rfl⟩:=hn.open;obtain⟨ot,ct,rfl⟩:=ht.open;have hnl:=hn.len;have HN:=aa hn;have HT:=aa ht;clear hn ht;by_cases h5:5<l.notes.length
 ·have HF:Hid (gG l=3):=aa (by unfold gG;rw[aG h5]);have h5I:(l.notes.length:Int)>5:=ϑ;go_enter Tryz.func70,Tryz.ntmps70;go_wp2_with fail
  go_returns;exact⟨zl,.inl ⟨by rw[HF.o];simp,by rw[HF.o];simp⟩⟩
 have h5I: ¬((l.notes.length:Int)>5):=ϑ;have hW:gG l=if eO l.field true≠0 then eO l.field true else if Ht l=false then 1 else if fo l (upto l.notes.length)=false then 9 else 0:=by unfold gG;rw[ak h5]
 have HD:=aa (fun w ht=>Aa l.field (.slice ot l.field.aj.length ct) w ht);obtain⟨q,hq⟩: ∃q,eO l.field true=q:=⟨_,rfl⟩;rw[hq] at hW;by_cases hq0:q=0
 case neg=>
  have HF:Hid (gG l=q/\q≠0/\eO l.field true=q):=aa ⟨by rw[hW,aG hq0],hq0,hq⟩;have hqb:(q !=0)=true:=by simpa using hq0
  clear hW hq hq0;go_enter Tryz.func70,Tryz.ntmps70;go_wp2_with fail
  refine(HD.o _ (HT.o.alloc _)).mono ?_;rintro e w1 ⟨hb,⟨hne,rfl⟩|⟨h0,_⟩⟩
  ·have HB:=aa (show Ϙ w w1 from zl);rw[HF.o.2.2];clear hb hne;go_wp2_with fail
   go_returns;exact⟨HB.o,.inl ⟨by rw[HF.o.1];exact HF.o.2.1,by rw[HF.o.1];simp⟩⟩
  ·exact absurd (HF.o.2.2.symm.trans h0) HF.o.2.1
 rw[ak (by rw[hq0];simp)] at hW;rw[hq0] at hq;have HW:=aa hW;have hwd: -1000<=l.field.aJ/\l.field.aJ<=1000:=by
  have hF0:iZ l.field=0:=by
   unfold eO at hq;by_cases h:iZ l.field=0
   ·exact h
   ·rw[aG h] at hq;exact hq
  have:=gu hF0;have:=this.xD;have:=(gu hF0).uU;omega
 have HQ:=aa hq;clear hW hq hq0;obtain⟨r1,hr1⟩: ∃r1,lV l.rate 1 50=r1:=⟨_,rfl⟩;obtain⟨r2,hr2⟩: ∃r2,jP l.box=r2:=⟨_,rfl⟩;obtain⟨r3,hr3⟩: ∃r3,l.notes.all (yV l)=r3:=⟨_,rfl⟩;have hargs:Ht l=(r1&&(r2&&r3)):=by unfold Ht;rw[hr1,hr2,hr3]
 have H1:=aa (fun w=>hr1▸wB l.rate 1 50 w);have H2:=aa (fun w=>hr2▸BM l.box w);have H3:=aa (fun(W:World) (hB:Ϙ w W)=>
  hr3▸Tv l.notes (.slice on l.notes.length cn) 116 #[lv l (.slice ot l.field.aj.length ct) (.slice on l.notes.length cn)] #[] (yV l) W (HN.o.below hB (ah _)) (enters_of Tryz.func116 ϰ rfl) (fun x _ W' _=>Df l _ _ x W' hwd.1 hwd.2))
 have HA:=aa hargs;clear hargs hr1 hr2 hr3;go_enter Tryz.func70,Tryz.ntmps70;go_wp2_with fail
 refine(HD.o _ (HT.o.alloc _)).mono ?_;rintro e w1 ⟨hb,⟨hne,_⟩|⟨_,u,rfl,hu⟩⟩
 ·exact absurd HQ.o hne
 obtain⟨uo,uc,rfl⟩:=hu.open;obtain⟨hc,hf⟩:=bH hb;have hz0:w.heap.size<w1.heap.size:=by have:=hb.size;simp at this;omega
 have hk1:=(hb.block w.heap.size ϕ).trans (av w (.cells (iY l (.slice ot l.field.aj.length ct) (.slice on l.notes.length cn)) 49));have R9:=aa (af (show Ϙ w w1 from zl) hk1);clear hb hu hk1;go_wp2_with fail
 refine(H1.o _).mono ?_;rintro e w2 ⟨rfl,hb⟩;have hk2:=(hb.block _ hz0).trans R9.o.2;have ζ:=aa (af (aV R9.o.1 hb) hk2);obtain⟨c2,f2,l2⟩:=ae hk2;clear hb hk2 hc hf hz0;cases r1
 ·have hF:gG l=1:=by rw[HW.o,HA.o];rfl
  have HF:=aa hF;clear hF;exact zbs
 go_wp2_with fail
 refine(H2.o _).mono ?_;rintro e w3 ⟨rfl,hb⟩;have hk3:=(hb.block _ l2).trans ζ.o.2;have Uy:=aa (af (aV ζ.o.1 hb) hk3);obtain⟨c3,f3,l3⟩:=ae hk3;clear hb hk3 c2 f2 l2;cases r2
 ·have hF:gG l=1:=by rw[HW.o,HA.o];rfl
  have HF:=aa hF;clear hF;go_wp2_with fail
  go_returns;exact⟨Uy.o.1,.inl ⟨by rw[HF.o];simp,by rw[HF.o];simp⟩⟩
 go_wp2_with fail
 refine(H3.o _ Uy.o.1).mono ?_;rintro e w4 ⟨rfl,hb⟩;have hk4:=(hb.block _ l3).trans Uy.o.2;have gJ:=aa (af (aV Uy.o.1 hb) hk4);obtain⟨c4,f4,l4⟩:=ae hk4;clear hb hk4 c3 f3 l3;cases r3
 ·have hF:gG l=1:=by rw[HW.o,HA.o];rfl
  have HF:=aa hF;clear hF;go_wp2_with fail
  go_returns;exact⟨gJ.o.1,.inl ⟨by rw[HF.o];simp,by rw[HF.o];simp⟩⟩
 have hS:nD l:=Gf h5 HQ.o (by rw[HA.o];rfl);have hW:gG l=if fo l (upto l.notes.length)=false then 9 else 0:=by rw[HW.o,HA.o];rfl
 have HS:=aa hS;have HW':=aa hW;clear hS hW;go_wp2_with fail
 refine(SC l _ _ HS.o.field (by have:=HS.o.rate;omega) (by have:=HS.o.rate;omega) w4 (HT.o.below gJ.o.1 (ah _)) (HN.o.below gJ.o.1 (ah _))).mono ?_;rintro e w5 ⟨wb,mb,v,rfl,hwb,hmb,htab,hlw,hb⟩;have hk5:=(hb.block _ l4).trans gJ.o.2;have ae0:Cc w5 wb mb l (.slice ot l.field.aj.length ct) (.slice on l.notes.length cn) v:=⟨hlw,[],IM htab⟩;have hs4:=gJ.o.1.size;have lM:=aa (af (aV gJ.o.1 hb) (af hk5 ae0));obtain⟨c5,f5,l5⟩:=ae hk5;obtain⟨n,hn⟩: ∃n,l.notes.length=n:=⟨_,rfl⟩;have hmk:=tF n ϑ;rw[hn] at HW' c5;have Ie:=aa hn;have hn5:n<=5:=ϑ;clear hb hk5 hlw htab c4 f4 l4 ae0 hn;go_upto_region 11 with(fail)
 refine bU fun W6 ug=>?_;have Le:Ϙ w5 W6:=by rw[ug];exact ai (aF _ _) _
 have I8:W6.heap[w5.heap.size]? =some (.cells (ag (zB n 0)).toArray 3 (0,0)):=by rw[ug,SI];exact av _ _
 have H6:=aa (af Le I8);clear ug Le I8 hmk c5 f5 l5;go_wp2_with fail
 go_loopw [50] (fun u wr=> ∃k:Nat,k<=n/\u= .int .i64 k/\wr.heap[w5.heap.size]? =some (.cells (ag (zB n k)).toArray 3 (0,0))/\Ϙ w5 wr) (fun u _=>n-(intOf u).toNat)
 case atStart=>exact⟨0,bE _,rfl,H6.o.2,H6.o.1⟩
 case round=>
  obtain⟨k,hk,rfl,hcb,hB⟩:=hrel;by_cases uM:k<n
  ·have Q7:=fD hcb (show k<(zB n k).length by rw[Ll];exact uM)
   generalize (zB n k)[k]'(by rw[Ll];exact uM)=x at Q7;have hlb:=dB wr _ Q7;have hfr:=bn hcb k;have HX:=aa (af hcb hB);clear hcb hB;go_wp2_with fail
   go_roundw
   case rel=>
    refine⟨k+1,by omega,by go_num,?_,dP HX.o.2 (ah _) _⟩;rw[<-WT uM, <-qC];exact aA HX.o.1 _
   case measure=>simp[intOf];omega
  ·have hkn:k=n:=ϑ;subst hkn;rw[WU] at hcb;have sH:aL wr (.slice (some ⟨w5.heap.size,0,none⟩) k k) (upto k):=by
    have hul:(upto k).length=k:=by simp[upto]
    have:=aH.bI (w:=wr) (cs:=(ag (upto k)).toArray) 1 k hcb (by simp[ag,hul]) (by simp only[maxLen];omega);show aH 1 _ _ (upto k).length _;rw[hul];exact this
   have HP:=aa (mY HS.o (upto k) (lM.o.2.2.below hB (ah _)) sH);have HX:=aa hB;obtain⟨q,hq⟩: ∃q,fo l (upto k)=q:=⟨_,rfl⟩;rw[hq] at HP HW';clear hcb hB sH hq;go_wp2_with fail
   refine HP.o.mono ?_;rintro e w7 ⟨rfl,hkn,hE⟩;have JH:Ϙ w w7:=by
    have h1:=aV lM.o.1 (HX.o);exact dM h1 hE ϑ
   have HX7:=aa (af hkn.ok JH);clear hkn hE JH;cases q
   ·have HF:=aa HW'.o;go_wp2_with fail
    go_returns;exact⟨HX7.o.2,.inl ⟨by rw[HF.o];simp,by rw[HF.o];simp⟩⟩
   ·have HF:=aa HW'.o;go_wp2_with fail
    go_returns;exact⟨HX7.o.2,.inr ⟨by rw[HF.o];rfl,wb,mb,v,by simp,by omega,by omega,HX7.o.1⟩⟩
end Go.Proofs.Z
namespace Go.Proofs.Z
open Go.RowKit Go.RG Go.SL Go.Shelf gK Go.TB
theorem Ce (l:aO) (tv nv:Value) (w:World) (ht:cz w tv l.field.aj) (hn:aU w nv l.notes):
 Ϝ 183 #[lv l tv nv] w (PV (iv (gG l)) w):=by
 have HC:=aa (wI l tv nv (w.alloc (.cells (iY l tv nv) 49)) (ht.alloc _) (hn.alloc _));obtain⟨q,hq⟩: ∃q,gG l=q:=⟨_,rfl⟩;rw[hq];have HQ:=aa hq;clear ht hn hq;go_enter Tryz.func183,Tryz.ntmps183;go_wp2_with fail
 refine HC.o.mono ?_;rintro e w1 ⟨hb,⟨hne,rfl⟩|⟨h0,wb,mb,v,rfl,_,_,hok⟩⟩
 ·have HB:=aa (show Ϙ w w1 from zl);rw[HQ.o];clear hb hne;exact zaA
 ·have HB:=aa (show Ϙ w w1 from zl);have hq0:q=0:=HQ.o.symm.trans h0;have HE:=aa hq0;clear hb hok h0 hq0;exact zbb
theorem nu {l:aO} (h:gG l=0):nD l/\fo l (upto l.notes.length)=true:=by
 unfold gG at h;split at h
 ·omega
 ·rename_i h1;split at h
  ·omega
  ·rename_i h2;split at h
   ·omega
   ·rename_i h3;split at h
    ·omega
    ·rename_i h4;exact⟨Gf h1 ϑ (by simpa using h3),by simpa using h4⟩
structure nE (w0:World) (Ms:List Nat) (eB:World->Prop) (xn:Value) (below fb pb bb ab:Nat) (W:World):Prop where
 ext:Ext Ms w0 W
 cache:eB W
 found: ∃o n c,W.heap[fb]? =some (.cells #[.slice o n c] 52 (0,0))
 pass:W.heap[pb]? =some (.cells #[xn] 163 (0,0))
 bound:W.heap[bb]? =some (.cells #[iv below] 3 (0,0))
 add:W.heap[ab]? =some (.cells #[.func (.func 121) #[] #[.pointer (some ⟨fb,0,none⟩),.pointer (some ⟨pb,0,none⟩),.pointer (some ⟨bb,0,none⟩),.pointer (some ⟨ab,0,none⟩)]] 252 (0,0))
 new:w0.heap.size<=fb/\w0.heap.size<=pb/\w0.heap.size<=bb/\w0.heap.size<=ab
 old: ∀m∈Ms,m<w0.heap.size
 good:XV Ms eB
theorem nE.table {w0 W W':World} {Ms:List Nat} {eB:World->Prop} {xn:Value} {below fb pb bb ab:Nat} (h:nE w0 Ms eB xn below fb pb bb ab W) (hE:Ext Ms W W') (hc:eB W'):nE w0 Ms eB xn below fb pb bb ab W':=by
 have hn:=h.new;have ho:=h.old;obtain⟨o,n,c,hf⟩:=h.found;have k: ∀(b:Nat) (x:Obj),W.heap[b]? =some x->w0.heap.size<=b->W'.heap[b]? =some x:=fun b x hb hle=>(hE.block b (aN.1 hb).1 (fun hm=>by have:=ho b hm;omega)).trans hb;exact⟨h.ext.trans hE,hc,⟨o,n,c,k _ _ hf hn.1⟩,k _ _ h.pass hn.2.1,k _ _ h.bound hn.2.2.1,k _ _ h.add hn.2.2.2,hn,ho,h.good⟩
theorem nE.below {w0 W W':World} {Ms:List Nat} {eB:World->Prop} {xn:Value} {below fb pb bb ab:Nat} (h:nE w0 Ms eB xn below fb pb bb ab W) (hB:Ϙ W W'):nE w0 Ms eB xn below fb pb bb ab W':=
 h.table (Ext.ax hB) (h.good.kept _ _ h.cache fun m hm=>hB.block m (by have:=h.old m hm;have:=h.ext.size;omega))
def X0 (w0:World) (Ms:List Nat) (eB:World->Prop) (xn:Value) (below fb pb bb ab:Nat) (r:Option (List Int)) (W:World) (e:Ending) (W':World):Prop:=
 (nE w0 Ms eB xn below fb pb bb ab W'/\Ext (fb::Ms) W W')/\((∃c,r=some c/\e= .returned (.bool true)/\ ∃sv,W'.heap[fb]? =some (.cells #[sv] 52 (0,0))/\aL W' sv c)∨(r=none/\e= .returned (.bool false)))
theorem nE.set {w0 W:World} {Ms:List Nat} {eB:World->Prop} {xn:Value} {below fb pb bb ab:Nat} (h:nE w0 Ms eB xn below fb pb bb ab W) (hd:fb≠pb/\fb≠bb/\fb≠ab) (o:Option Addr) (n c:Nat):nE w0 Ms eB xn below fb pb bb ab (W.setCell ⟨fb,0,none⟩ (.slice o n c)):=by
 have hn:=h.new;have ho:=h.old;obtain⟨o',n',c',hf⟩:=h.found;exact⟨h.ext.set hn.1 _,h.good.kept _ _ h.cache (fun m hm=>bV _ _ _ _ (by have:=ho m hm;show m≠fb;omega)),⟨o,n,c,aA hf _⟩,
  (bV _ _ _ _ (by show pb≠fb;omega)).trans h.pass,(bV _ _ _ _ (by show bb≠fb;omega)).trans h.bound,(bV _ _ _ _ (by show ab≠fb;omega)).trans h.add,hn,ho,h.good⟩
theorem nE.not {w0 W:World} {Ms:List Nat} {eB:World->Prop} {xn:Value} {below fb pb bb ab:Nat} (h:nE w0 Ms eB xn below fb pb bb ab W): ∀x∈fb::Ms, ∀o n,W.cell? ⟨x,o,none⟩≠some (.int .i64 n):=by
 intro x hx o n hc;obtain⟨o',n',c',hf⟩:=h.found;rcases eQ.1 hx with rfl|hx
 ·simp only[World.cell?,hf] at hc;cases o with
  |zero=>simp at hc
  |succ o=>simp at hc
 ·rw[h.good.none _ h.cache x hx o] at hc;cases hc
theorem Xy (below:Nat) (χ:below<=500) (p:List Int->Bool) (Ms:List Nat) (eB:World->Prop) (w0:World) (pf:Nat) (nN jI:Array Value) (fb pb bb ab:Nat) (hd:fb≠pb/\fb≠bb/\fb≠ab)
 (eg: Ϛ Tryz.prog pf)
 (tJ: ∀l v W,(∀x∈l,0<=x/\x<(below:Int))->Ext Ms w0 W->eB W->aL W v l->Ϝ pf (nN.push v++jI) W (fun e W'=>e= .returned (.bool (p l))/\eB W'/\Ext Ms W W')):
 ∀(m f:Nat) (l:List Int) (v:Value) (W:World),l.length+m<=900->f<=900->m<=900->(∀x∈l,0<=x/\x<(below:Int))->nE w0 Ms eB (.func (.func pf) nN jI) below fb pb bb ab W->aL W v l->
  Ϝ 121 #[v,iv f,iv m,.pointer (some ⟨fb,0,none⟩),.pointer (some ⟨pb,0,none⟩),.pointer (some ⟨bb,0,none⟩),.pointer (some ⟨ab,0,none⟩)] W
   (X0 w0 Ms eB (.func (.func pf) nN jI) below fb pb bb ab (((iQ below m f).map (l++ ·)).find? p) W):=by
 intro m;induction m with
 |zero=>
  intro f l v W h1 h2 h3 hlb Y6 hv;have μ:((iQ below 0 f).map (l++ ·)).find? p=if p l then some l else none:=zcc;obtain⟨r,hr⟩: ∃r,((iQ below 0 f).map (l++ ·)).find? p=r:=⟨_,rfl⟩;rw[hr] at μ⊢;have vG:=aa μ;clear hr μ;obtain⟨o,c,rfl⟩:=hv.open;obtain⟨o',n',c',hf⟩:=Y6.found;have c1:=aD hf;have c2:=aD Y6.pass;have uM:=dB W _ c1;have hfr:=bn hf 0;have hS:=Y6.set hd o l.length c;have Η:aL (W.setCell ⟨fb,0,none⟩ (.slice o l.length c)) (.slice o l.length c) l:=aL.rQ hv ((jo W ⟨fb,0,none⟩ _).more (jc:=fb::Ms) ϕ) Y6.not;have HC:=aa (tJ l _ _ hlb hS.ext hS.cache Η);have HS:=aa Y6;have Jz:=aa (af hS Η);have HF:=aa hf;have hd1: ¬pb=fb:=fun e=>hd.1 e.symm;have hd2:=hd.1;clear tJ Y6 hv hS Η hf;go_enter Tryz.func121,Tryz.ntmps121;go_wp2_with fail
  refine HC.o.mono ?_;rintro e W' ⟨rfl,ο,hE⟩;have hS2:=Jz.o.1.table hE ο;have hn:=HS.o.new;have ho:=HS.o.old;have hfb:W'.heap[fb]? =some (.cells #[.slice o l.length c] 52 (0,0)):=(hE.block fb (by simpa [World.setCell] using uM) (fun hm=>by have:=ho fb hm;omega)).trans (aA HF.o _);have hEE:Ext (fb::Ms) W W':=((jo W ⟨fb,0,none⟩ (.slice o l.length c)).more ϕ).trans (hE.more (fun x hx=>nY _ hx));have Τ:aL W' (.slice o l.length c) l:=aL.rQ Jz.o.2 (hE.more (jc:=fb::Ms) (fun x hx=>nY _ hx)) Jz.o.1.not;exact zbd
 |succ m ih=>
  intro f l v W h1 h2 h3 hlb Y6 hv;obtain⟨o,c,rfl⟩:=hv.open;have μ:((iQ below (m+1) f).map (l++ ·)).find? p=((List.range (below-m-f)).flatMap fun j=>(iQ below m (f+j+1)).map ((l++[((f+j:Nat):Int)])++ ·)).find? p:=by
   conv=>lhs;unfold iQ
   rw[List.map_flatMap];simp only[List.map_map];congr 2;funext j;apply List.map_congr_left;intro x _;simp
  rw[μ];clear μ;obtain⟨r,hr⟩: ∃r,((List.range (below-m-f)).flatMap fun j=>(iQ below m (f+j+1)).map ((l++[((f+j:Nat):Int)])++ ·)).find? p=r:=⟨_,rfl⟩;rw[hr];have vG:=aa hr;clear hr;have hmm:(m:Int)+1<=900:=ϑ;have hm0:((m:Int)+1==0)=false:=by simp;omega
  have ajf: ¬((m:Int)+1=0):=ϑ;rw[show(((m+1:Nat)):Int)=(m:Int)+1 from by omega];have π:=aa Y6;have HV:=aa hv;have Uk:=aa ih;have HD:=aa hd;have HLB:=aa hlb;clear tJ Y6 hv ih hd hlb;go_enter Tryz.func121,Tryz.ntmps121;go_wp2_with fail
  go_loopw [11] (fun i wr=> ∃q:Nat,f<=q/\q<=f+(below-m-f)/\i= .int .i64 q/\nE w0 Ms eB (.func (.func pf) nN jI) below fb pb bb ab wr/\Ext (fb::Ms) W wr/\
   (∀j,f+j<q->((iQ below m (f+j+1)).map ((l++[((f+j:Nat):Int)])++ ·)).find? p=none)) (fun i _=>below+f+1-(intOf i).toNat)
  case atStart=>exact⟨f,ah _,by omega,rfl,π.o,Ext.refl _ _,fun j hj=>ϑ⟩
  case round=>
   obtain⟨q,hfq,hq,rfl,Y6,hE,IB⟩:=hrel;have hv:=aL.rQ HV.o hE π.o.not;have d1:=aD Y6.bound;have d2:=aD Y6.add;have e1:=dB wr _ d1;have e2:=dB wr _ d2;have HS:=aa Y6;have HE:=aa hE;have HN:=aa IB;have HVV:=aa hv;clear Y6 hE IB hv;by_cases uM:q<f+(below-m-f)
   ·have hqI:(q:Int)<=(below:Int)-((m:Int)+1):=ϑ;have hq9:(q:Int)<=500:=ϑ;go_wp2_with fail
    refine og 10 [] (some 5) [(2,⟨fun _ v=> ∃o c,v= .slice o l.length c,fun _ _ _=>True⟩),(4,⟨fun _ v=> ∃b:Nat,v= .slice (some ⟨b,0,none⟩) 1 1,fun _ _ _=>True⟩),(5,⟨fun _ v=> ∃o c,v= .slice o (l.length+1) c,fun _ v W=>W.ownsRow wr.heap.size 3 1 v (l.length+1) (ag (l++[(q:Int)]))⟩)] (aeb wr.heap.size l.length l q) ϰ ϰ ?_;simp only[zt];repeat (refine zd ?_;simp only[zp])
    refine jG _ ϱ ϱ (by exact⟨.slice none l.length 0,none,0,rfl⟩) (fun W1 hE hF hG=>?_) (fun _ _ _ _ _=>trivial) (fun v Wa Wb ho hE=>az (Ms:=[]) ho hE ϕ) (fun v hv=>?_)
    ·exact zbq
    obtain⟨o2,c2,rfl⟩:=hv;simp only[zp];repeat (refine zd ?_;simp only[zp])
    refine jG _ ϱ ϱ (by exact⟨.slice (some ⟨0,0,none⟩) 1 1,0,rfl⟩) (fun W1 hE hF hG=>?_) (fun _ _ _ _ _=>trivial) (fun v Wa Wb ho hE=>?_) (fun v hv=>?_)
    ·exact zbC
    ·exact zct
    obtain⟨b4,rfl⟩:=hv;simp only[zp];refine jG _ ϱ ϱ (by exact⟨.slice none (l.length+1) 0,none,0,rfl⟩) (fun W1 hE hF hG=>?_) (fun v Wa Wb ho hE=>az (Ms:=[]) ho hE ϕ) (fun _ _ _ _ _=>trivial) (fun v hv=>?_)
    ·exact zaN
    obtain⟨o5,c5,rfl⟩:=hv;simp only[zp];repeat (refine zn ?_;simp only[zp])
    intro W1 hE1 hF;have Iq:rJ wr.heap.size [] wr W1:=hE1;have hB:=nT Iq (ah _);obtain⟨hc,hf⟩:=bH hB;have ho:W1.ownsRow wr.heap.size 3 1 (.slice o5 (l.length+1) c5) (l.length+1) (ag (l++[(q:Int)])):=hF _ (aW _);have sH:aL W1 (.slice o5 (l.length+1) c5) (l++[(q:Int)]):=by
     have:=aH.bY ho;unfold aL;rw[cu];exact this
    have qY:=Uk.o (q+1) (l++[(q:Int)]) _ W1 ϗ ϑ ϑ (fun x hx=>by rcases gq.1 hx with h|h;exact HLB.o x h;(obtain rfl:x=(q:Int):=by simpa using h);omega) (HS.o.below hB) sH
    exact zaz
   ·exact zbm
def aaa (Ms:List Nat) (eB:World->Prop) (r:Option (List Int)) (w:World) (e:Ending) (W':World):Prop:=
 (eB W'/\Ext Ms w W')/\((∃c v,r=some c/\e= .returned v/\aL W' v c)∨(r=none/\ ∃o n c,e= .returned (.slice o n c)))
theorem nE.fin {w0 W:World} {Ms:List Nat} {eB:World->Prop} {xn:Value} {below fb pb bb ab:Nat} (h:nE w0 Ms eB xn below fb pb bb ab W):eB W/\Ext Ms w0 W:=⟨h.cache,h.ext⟩
theorem Fy (below:Nat) (χ:below<=500) (p:List Int->Bool) (Ms:List Nat) (eB:World->Prop) (hG:XV Ms eB) (w:World) (ο:eB w) (hmb: ∀m∈Ms,m<w.heap.size) (pf:Nat) (nN jI:Array Value)
 (eg: Ϛ Tryz.prog pf)
 (tJ: ∀l v W,(∀x∈l,0<=x/\x<(below:Int))->Ext Ms w W->eB W->aL W v l->Ϝ pf (nN.push v++jI) W (fun e W'=>e= .returned (.bool (p l))/\eB W'/\Ext Ms W W')):
 Ϝ 71 #[iv below,.func (.func pf) nN jI] w (aaa Ms eB (lG below p) w):=by
 have HA:=aa (fun(m:Nat) (W:World) (hm:m<=501) (Y6:nE w Ms eB (.func (.func pf) nN jI) below (w.heap.size+1+1) (w.heap.size+1) w.heap.size (w.heap.size+1+1+1) W)=>
  Xy below χ p Ms eB w pf nN jI (w.heap.size+1+1) (w.heap.size+1) w.heap.size (w.heap.size+1+1+1) ϑ eg tJ m 0 [] (.slice none 0 0) W ϗ ϑ ϑ ϕ Y6 (oJ W))
 obtain⟨r,hr⟩: ∃r,lG below p=r:=⟨_,rfl⟩;rw[hr];have HR:=aa hr;have HCC:=aa ο;clear tJ eg ο hr;go_enter Tryz.func71,Tryz.ntmps71;go_wp2_with fail
 go_step3
 go_wp2_with fail
 go_step3
 go_wp2_with fail
 obtain⟨w4,kY⟩: ∃w4,((((w.alloc (.cells #[iv below] 3)).alloc (.cells #[.func (.func pf) nN jI] 163)).alloc (.cells #[.slice none 0 0] 52)).alloc
  (.cells #[.func (.func 121) #[] #[.pointer (some ⟨w.heap.size+1+1,0,none⟩),.pointer (some ⟨w.heap.size+1,0,none⟩),.pointer (some ⟨w.heap.size,0,none⟩),.pointer (some ⟨w.heap.size+1+1+1,0,none⟩)]] 252))=w4:=⟨_,rfl⟩
 have VK:nE w Ms eB (.func (.func pf) nN jI) below (w.heap.size+1+1) (w.heap.size+1) w.heap.size (w.heap.size+1+1+1) w4:=by
  have hB:Ϙ w w4:=by rw[<-kY];exact zl
  refine⟨Ext.ax hB,hG.kept _ _ HCC.o (fun m hm=>hB.block m (hmb m hm)),⟨none,0,0,?_⟩,?_,?_,?_,by omega,hmb,hG⟩
  ·exact zbR
  ·exact zbz
  ·exact za6
  ·rw[<-kY];have:=av (((w.alloc (.cells #[iv below] 3)).alloc (.cells #[.func (.func pf) nN jI] 163)).alloc (.cells #[.slice none 0 0] 52)) (.cells #[.func (.func 121) #[] #[.pointer (some ⟨w.heap.size+1+1,0,none⟩),.pointer (some ⟨w.heap.size+1,0,none⟩),.pointer (some ⟨w.heap.size,0,none⟩),.pointer (some ⟨w.heap.size+1+1+1,0,none⟩)]] 252);simpa using this
 rw[kY];have HS0:=aa VK;clear VK kY;go_loopw [10] (fun i wr=> ∃k:Nat,k<=below+1/\i= .int .i64 k/\nE w Ms eB (.func (.func pf) nN jI) below (w.heap.size+1+1) (w.heap.size+1) w.heap.size (w.heap.size+1+1+1) wr/\
  (∀j,j<k->(iQ below j 0).find? p=none)) (fun i _=>below+1-(intOf i).toNat)
 case atStart=>exact⟨0,bE _,rfl,HS0.o,fun j hj=>ϑ⟩
 case round=>
  obtain⟨k,hk,rfl,Y6,IB⟩:=hrel;have d2:=aD Y6.add;have e2:=dB wr _ d2;have HS:=aa Y6;have HN:=aa IB;clear Y6 IB;by_cases uM:k<below+1
  ·have hkI:(k:Int)<(below:Int)+1:=ϑ;have HC:=aa (HA.o k wr ϑ HS.o);go_wp2_with fail
   refine HC.o.mono ?_;rintro e W2 ⟨⟨hS2,_⟩,μ⟩;have HS2:=aa hS2;rcases μ with⟨cc,ο,rfl,sv,hsv,sH⟩|⟨hnone,rfl⟩
   ·have hr:r=some cc:=by
     rw[<-HR.o];exact Gl ϑ HN.o (by simpa using ο)
    obtain⟨so,sc,rfl⟩:=sH.open;have f1:=aD hsv;have f2:=bn hsv 0;have f3:=dB W2 _ f1;have HX:=aa (af hr (af hsv sH));clear hr hsv sH hS2 ο d2;go_wp2_with fail
    (try rw[Exit.noGoto_ret])
    have Q7:(W2.setCell ⟨w.heap.size+1+1,0,none⟩ (.slice so cc.length sc)).cell? ⟨w.heap.size+1+1,0,none⟩=some (.slice so cc.length sc):=aD (aA HX.o.2.1 _);refine bodyPost_ret (v:= .slice so cc.length sc) (by simp[results,Tryz.results71,go_sem,Q7]) rfl ?_;refine⟨(HS2.o.set ϑ so cc.length sc).fin,.inl ⟨cc,_,HX.o.1,rfl,?_⟩⟩;exact aL.rQ HX.o.2.2 ((jo W2 ⟨w.heap.size+1+1,0,none⟩ _).more (jc:=(w.heap.size+1+1)::Ms) ϕ) HS2.o.not
   ·have HX:=aa hnone;clear hnone hS2 d2;go_wp2_with fail
    go_roundw
    case rel=>
     refine⟨k+1,by omega,by go_num,HS2.o,fun j hj=>?_⟩;by_cases hjq:j=k
     ·subst hjq;simpa using HX.o
     ·exact HN.o j ϑ
    case measure=>simp[intOf];omega
  ·have hkI: ¬((k:Int)<(below:Int)+1):=ϑ;obtain⟨o',n',c',hf⟩:=HS.o.found;have f1:=aD hf;have f2:=bn hf 0;have f3:=dB wr _ f1;have hk1:k=below+1:=ϑ;subst hk1;have hr:r=none:=by
    rw[<-HR.o];exact Gj HN.o
   go_wp2_with fail
   (try rw[Exit.noGoto_ret])
   have Q7:(wr.setCell ⟨w.heap.size+1+1,0,none⟩ (.slice o' n' c')).cell? ⟨w.heap.size+1+1,0,none⟩=some (.slice o' n' c'):=aD (aA hf _);refine bodyPost_ret (v:= .slice o' n' c') (by simp[results,Tryz.results71,go_sem,Q7]) rfl ?_;exact⟨(HS.o.set ϑ o' n' c').fin,.inr ⟨rfl,_,_,_,rfl⟩⟩
theorem Eg (r x:dF) (w:World):Ϝ 206 #[rv r,rv x] w (PV (rv (vJ r x)) w):=by
 go_enter Tryz.func206,Tryz.ntmps206;go_wp2_with fail
 refine zg 12 [] none [(4,Spec.slice (w.heap.size+3) #[iv r.1,iv x.1] 3 2),(5,Spec.val (iv (min r.1 x.1)))] ?_;simp only[zt];repeat (refine zd ?_;simp only[zp])
 refine cB (w.heap.size+3) _ _ _ ϱ ϕ ϱ ϕ ϕ (fun W hW=>by go_simp;try rfl) (fun b=>?_);simp only[zp];refine dL _ ϱ ϱ 272 _ (fun W hW=>by go_simp;try rfl) (fun W hE hF=>?_) ?_
 ·obtain⟨c,hcb,hB,hc⟩:=hF _ (aW _) ϰ;cases hcb;exact zx r.1 x.1 b 2 W (by simp[World.cell?,hc]) (by simp[World.cell?,hc])
 simp only[zp];repeat (refine zd ?_;simp only[zp])
 intro W hE hF;obtain⟨hc,hf⟩:=bH hE.below;have ig:=hE.size;(try simp only[bA] at ig)
 go_wp2;all_goals
  (try simp only[Exit.inBlock,Exit.then])
  refine bodyPost_ret (v:=rv (min r.1 x.1,max r.2 x.2)) (by simp[results,Tryz.results206,go_sem,hc];try omega) rfl ?_;exact⟨rfl,ze⟩
abbrev acv (d:Int) (r:dF):Value:= .agg #[iv d,iv r.1,iv r.2]
theorem Kt (d:Int) (r:dF) (w:World) (h:(0<=d/\d<=350)/\0<=r.1/\r.1<=r.2/\r.2<=2000):Ϝ 73 #[acv d r] w (PV (rv (mH d r)) w):=by
 obtain⟨p,q⟩:=r;have h1: -10000<=d-q/\d-q<=10000:=by simp only at h;omega
 have h2: -10000<=d-p/\d-p<=10000:=by simp only at h;omega
 clear h;go_enter Tryz.func73,Tryz.ntmps73;go_wp2_with fail
 go_returns;exact⟨by simp[mH],zl⟩
def fI (l:aO) (Ζ:Bool):Int:=if gG l≠0 then gG l else if Ζ=false then 2 else if fo l []=false then 11 else 0
def TY (l:aO) (Ζ:Bool) (tv nv:Value) (w:World) (e:Ending) (w':World):Prop:=
 Ϙ w w'/\((fI l Ζ≠0/\e= .returned (.tuple #[.pointer none,iv (fI l Ζ)]))∨
  (fI l Ζ=0/\ ∃(wb mb:Nat) (v:Value),e= .returned (.tuple #[.pointer (some ⟨wb,0,none⟩),iv 0])/\w.heap.size<=wb/\w.heap.size<=mb/\EX w' wb mb l tv nv v []))
theorem BL {l:aO} {Ζ:Bool} (h:fI l Ζ=0):nD l/\gG l=0/\Ζ=true/\fo l []=true:=by
 unfold fI at h;split at h
 ·rename_i h0;exact absurd h h0
 ·rename_i h0;have h0:gG l=0:=ϑ;split at h
  ·omega
  ·rename_i h1;split at h
   ·omega
   ·rename_i h2;exact⟨(nu h0).1,h0,by simpa using h1,by simpa using h2⟩
theorem tY (l:aO) (tv nv:Value) (Ζ:Bool) (w:World) (ht:cz w tv l.field.aj) (hn:aU w nv l.notes):
 Ϝ 126 #[lv l tv nv,.bool Ζ] w (TY l Ζ tv nv w):=by
 have HC:=aa (wI l tv nv (w.alloc (.cells (iY l tv nv) 49)) (ht.alloc _) (hn.alloc _));clear ht hn;obtain⟨q,hq⟩: ∃q,gG l=q:=⟨_,rfl⟩;by_cases hq0:q=0
 case neg=>
  have HE:Hid (fI l Ζ=q/\q≠0):=aa ⟨by unfold fI;rw[hq,aG hq0],hq0⟩;have hqb:(q !=0)=true:=by simpa using hq0
  have HQ:=aa hq;clear hq hq0;go_enter Tryz.func126,Tryz.ntmps126;go_wp2_with fail
  refine HC.o.mono ?_;rintro e w1 ⟨hb,⟨hne,rfl⟩|⟨h0,_⟩⟩
  ·rw[HQ.o];have Uy:=aa (show Ϙ w w1 from zl);clear hb hne;go_wp2_with fail
   go_returns;exact⟨Uy.o,.inl ⟨by rw[HE.o.1];exact HE.o.2,by rw[HE.o.1];simp⟩⟩
  ·exact absurd (HQ.o.symm.trans h0) HE.o.2
 subst hq0;obtain⟨hS,_⟩:=nu hq;have HS:=aa hS;have HQ:=aa hq;cases Ζ
 ·have HE:Hid (fI l false=2):=aa (by unfold fI;rw[hq];rfl);clear hq hS;go_enter Tryz.func126,Tryz.ntmps126;go_wp2_with fail
  refine HC.o.mono ?_;rintro e w1 ⟨hb,⟨hne,_⟩|⟨_,wb,mb,v,rfl,hwb,hmb,hok⟩⟩
  ·exact absurd HQ.o hne
  have Uy:=aa (show Ϙ w w1 from zl);clear hb hok;exact za9
 obtain⟨r,hr⟩: ∃r,fo l []=r:=⟨_,rfl⟩;have HE:Hid (fI l true=if r=false then 11 else 0):=aa (by unfold fI;rw[hq,hr];simp);have HR:=aa hr;clear hq hS hr;go_enter Tryz.func126,Tryz.ntmps126;go_wp2_with fail
 refine HC.o.mono ?_;rintro e w1 ⟨hb,⟨hne,_⟩|⟨_,wb,mb,v,rfl,hwb,hmb,hok⟩⟩
 ·exact absurd HQ.o hne
 have HP:=aa (HR.o▸mY HS.o [] hok (aH.nil 1 w1));have τ:=bA w (.cells (iY l tv nv) 49);have aiP:w.heap.size<=wb:=ϑ;have Sk:w.heap.size<=mb:=ϑ;have Uy:=aa (show Ϙ w w1 from zl);clear hb hok hwb hmb τ;go_wp2_with fail
 refine HP.o.mono ?_;rintro e w2 ⟨rfl,hkn,hE⟩;have ζ:=aa (af (dM Uy.o hE Sk) hkn);clear hkn hE;cases r
 ·have HF:=aa HE.o;exact zbs
 ·have HF:=aa HE.o;go_wp2_with fail
  go_returns;exact⟨ζ.o.1,.inr ⟨by rw[HF.o];rfl,wb,mb,v,by simp,aiP,Sk,ζ.o.2⟩⟩
end Go.Proofs.Z
namespace Go.Proofs.Z
open Go.RowKit Go.RG Go.SL Go.Shelf gK Go.TB
theorem Kq {l:aO} (hS:nD l) {d:List Int} (hd:d∈eZ l) (hc:iI l [] d=true) {i:Nat} (hi:i<l.field.aJ.toNat):
 0<=((jB l [] d).getD i (0,0)).1/\((jB l [] d).getD i (0,0)).1<=((jB l [] d).getD i (0,0)).2/\((jB l [] d).getD i (0,0)).2<=2000:=by
 have h1:=NB hi (by have:=hS.box;omega) hc;have hF:=gu hS.field;have:=hF.uU;have hb:=Es hS hd i ϑ;have hk:=KO hS [] i hb.1 ϑ;rw[Gz l [] d hi] at h1⊢;unfold qU at h1⊢;simp only at h1⊢;omega
theorem yC {l:aO} (hS:nD l) {tv nv v:Value} {wb mb:Nat} (bg:Nat) (p:Int->dF->dF) (w:World) (hw:EX w wb mb l tv nv v [])
 (eg: Ϛ Tryz.prog bg)
 (hp: ∀(d:Int) (r:dF) (W:World),(0<=d/\d<=350)/\0<=r.1/\r.1<=r.2/\r.2<=2000->Ϝ bg #[acv d r] W (PV (rv (p d r)) W)):
 Ϝ 127 #[.agg #[.func (.func bg) #[] #[]],.pointer (some ⟨wb,0,none⟩)] w (fun e w'=> ∃u,e= .returned u/\w'.ownsRow w.heap.size 46 2 u (zL p l (eZ l)).length (aB (zL p l (eZ l)))/\Ϙ w w'):=by
 obtain⟨vo,vc,rfl⟩:=hw.work.truth.open;have hF:=gu hS.field;have IY:(eZ l).length<=2500:=eU (yA l _) (kC hF []);have hw0:=hF.xD;have hw3:=hF.uU;obtain⟨n,hn⟩: ∃n:Nat,l.field.aJ.toNat=n:=⟨_,rfl⟩;have hn1:1<=n:=ϑ;have I7:n<=3:=ϑ;have HN:=aa hn;have HS:=aa hS;have HP:=aa hp;obtain⟨W1,ν⟩: ∃W1,w.alloc (.cells #[.func (.func bg) #[] #[]] 169)=W1:=⟨_,rfl⟩;have hB1:Ϙ w W1:=by rw[<-ν];exact ai (aF _ _) _
 have hk1:W1.heap[w.heap.size]? =some (.cells #[.func (.func bg) #[] #[]] 169 (0,0)):=by rw[<-ν];exact av _ _
 have Zk:=hw.below hB1 (ah _);have abN:wb<W1.heap.size:=Zk.work.lt;have aew:w.heap.size<W1.heap.size:=(aN.1 hk1).1;have H1:=aa (af hB1 (af hk1 Zk));obtain⟨ds,hds⟩: ∃ds,eZ l=ds:=⟨_,rfl⟩;have hck:=Zk.work.cells;rw[hds] at hck IY⊢;obtain⟨c1,f1,l1⟩:=ae hck;have HDS:=aa hds;clear hw hF hw0 hw3 hn hp hS hB1 hk1 Zk hds hck;go_enter Tryz.func127,Tryz.ntmps127;go_wp2_with fail
 (try rw[ν])
 clear ν;go_loopw [5,18] (fun v5 u wr=> ∃k:Nat,k<=ds.length/\u= .int .i64 k/\(∃oo oc,v5= .slice oo (ky p l k ds).length oc/\wr.ownsRow W1.heap.size 46 2 (.slice oo (ky p l k ds).length oc) (ky p l k ds).length (aB (ky p l k ds)))/\Ϙ W1 wr) (fun _ u _=>ds.length-(intOf u).toNat)
 case atStart=>exact⟨0,bE _,rfl,⟨none,0,rfl,⟨rfl,.inl ⟨rfl,rfl⟩⟩⟩,aF _ _⟩
 case round=>
  obtain⟨k,hk,rfl,⟨oo,oc,rfl,σ⟩,hB⟩:=hrel;by_cases uM:k<ds.length
  ·have hkn:=H1.o.2.2.below hB (ah _);have hk1:=(hB.block _ aew).trans H1.o.2.1;have htr:=hkn.work.truth;rw[HDS.o] at htr;obtain⟨b,off,y0,y1,y2,rfl,χ,Ε,hc0,hc1,hc2⟩:=AQ htr (by rw[<-HDS.o];exact oM l) uM;have hacc:=Hr p l ds k hk;rw[HN.o] at hacc;have hsu:=yD p l uM;have hdm:ds[k]∈eZ l:=by rw[HDS.o];exact bZ _
   obtain⟨d,hd⟩: ∃d,ds[k]=d:=⟨_,rfl⟩;rw[hd] at hsu hdm Ε;obtain⟨acc,hac⟩: ∃acc,ky p l k ds=acc:=⟨_,rfl⟩;rw[hac] at σ hacc hsu;rw[hac];have afd:(k:Int)<ds.length:=ϑ;have HD:=aa (af Ε hdm);have uZ:=aa hsu;have HAC:=aa hacc;have HX:=aa (af σ (af hB (af hkn hk1)));have τ:=hB.size;obtain⟨s3,hs3⟩: ∃s3,wr.heap.size=s3:=⟨_,rfl⟩;clear σ hB hkn hk1 htr hsu Ε hdm hd hac hacc hk;go_upto_region 5 with(fail)
   refine bU fun W5 qM=>?_;have vB:Ϙ wr W5:=by rw[qM];exact zl
   have hk5:W5.heap[wr.heap.size]? =some (.cells #[iv y0,iv y1,iv y2] 257 (0,0)):=by rw[qM];exact av _ _
   have afn:=HX.o.2.2.1.below vB (ah _);have hag:kz d= .agg #[iv y0,iv y1,iv y2]:=by rw[HD.o.1];rfl
   have HPA:=aa (hag▸Qa HS.o HD.o.2 afn);have h51:=(vB.block _ ϑ).trans HX.o.2.2.2;have AJ:=aV HX.o.2.1 vB;have VR:W5.ownsRow W1.heap.size 46 2 (.slice oo acc.length oc) acc.length (aB acc):=bT HX.o.1 fun g hg=>vB.block g (aS HX.o.1 g hg).2;have hog: ∀g,(Value.slice oo acc.length oc).ownBlock=some g->g<s3:=fun g hg=>by rw[<-hs3];exact(aS HX.o.1 g hg).2
   rw[hs3] at hk5;have aod:s3<W5.heap.size:=(aN.1 hk5).1;have aog:W1.heap.size<=s3:=ϑ;have H5:=aa (af VR (af AJ (af hk5 (af h51 hog))));obtain⟨c5,f5,l5⟩:=ae hk5;clear qM vB hk5 afn h51 AJ VR hog hs3 τ hc0 hc1 hc2 χ HX hag;go_wp2_with fail
   refine HPA.o.mono ?_;rintro e W6 ⟨hb,θ⟩;obtain⟨is,ps,pv,rfl,hpo,his,hps⟩: ∃(is:Bool) (ps:List dF) (pv:Value),e= .returned (.tuple #[pv,.bool is])/\W6.ownsRow W5.heap.size 46 2 pv ps.length (aB ps)/\iI l [] d=is/\ps=if is=true then jB l [] d else[]:=by
    rcases θ with⟨hc,u,rfl,hu⟩|⟨hc,rfl⟩
    ·exact⟨true,jB l [] d,u,rfl,hu,hc,by simp⟩
    ·exact⟨false,[],.slice none 0 0,rfl,⟨rfl,.inl ⟨rfl,rfl⟩⟩,hc,by simp⟩
   obtain⟨po,pc,rfl⟩:=aM hpo;obtain⟨ns,hns⟩: ∃ns:List dF,(if is=true then pO p l d else[])=ns:=⟨_,rfl⟩;have hnl:ns.length=ps.length:=by rw[<-hns,hps];cases is <;>simp[mM,Gy]
   have hpl:ps.length=if is=true then n else 0:=by rw[hps];cases is <;>simp[Gy,HN.o]
   have hstep:ky p l (k+1) ds=jr acc ns ns.length:=by
    rw[uZ.o];unfold rV;rw[his, <-hns];cases is
    ·simp[uP]
    ·rw[aG rfl,aG rfl,TC (by rw[mM,HN.o];exact HAC.o)]
   have h66:=(hb.block _ (show s3<W5.heap.size by omega)).trans H5.o.2.2.1;have WQ:=(hb.block _ (show w.heap.size<W5.heap.size by omega)).trans H5.o.2.2.2.1;have aeY:W6.ownsRow W1.heap.size 46 2 (.slice oo acc.length oc) acc.length (aB acc):=bT H5.o.1 fun g hg=>hb.block g (by have:=H5.o.2.2.2.2 g hg;omega);have aiZ:=hb.size;have H6:=aa (af aeY (af (aV H5.o.2.1 hb) (af h66 (af WQ hpo))));have HIS:=aa (af his (af hps hns));have HNL:=aa (af hnl hpl);have π:=aa hstep;have hp3:ps.length<=3:=by rw[hpl];split <;>omega
   have alM:=aa aiZ;clear hb θ hpo his hps hns hnl hpl hstep h66 WQ aeY c5 f5 l5;go_wp2_with fail
   go_loopw [5,30] (fun v5 u wq=> ∃i:Nat,i<=ps.length/\u= .int .i64 i/\(∃oo oc,v5= .slice oo (jr acc ns i).length oc/\wq.ownsRow W1.heap.size 46 2 (.slice oo (jr acc ns i).length oc) (jr acc ns i).length (aB (jr acc ns i))/\(∀g,(Value.slice oo (jr acc ns i).length oc).ownBlock=some g->g<s3∨W6.heap.size<=g))/\Ϙ W1 wq/\
    (∀b,s3<=b->b<W6.heap.size->wq.heap[b]? =W6.heap[b]?)/\W6.heap.size<=wq.heap.size) (fun _ u _=>ps.length-(intOf u).toNat)
   case atStart=>
    refine⟨0,bE _,rfl,⟨oo,oc,by rw[uP],?_,?_⟩,H6.o.2.1,fun b _ _=>rfl,ah _⟩
    ·rw[uP];exact H6.o.1
    ·rw[uP];exact fun g hg=> .inl (H5.o.2.2.2.2 g hg)
   case round=>
    obtain⟨i,hi,rfl,⟨oo2,GH,rfl,σ,hog⟩,JG,Oa,abR⟩:=hrel;by_cases hlt2:i<ps.length
    ·have Sl:is=true:=by
      have:=HNL.o.2;cases is
      ·rw[ak ϕ] at this;omega
      ·rfl
     have hin:i<n:=by have:=HNL.o.2;rw[Sl] at this;simp at this;omega
     have hpv:=aH.bY (bT (w':=wr) H6.o.2.2.2.2 fun g hg=>Oa g (by have:=(aS H6.o.2.2.2.2 g hg).1;omega) (aS H6.o.2.2.2.2 g hg).2)
     obtain⟨gp,po',hvp,hgp,q0,q1⟩:=bD.cell hpv hlt2;subst hvp;have I8:=(Oa s3 (ah _) ϑ).trans H6.o.2.2.1;have Q7:=fD (show wr.heap[s3]? =some (.cells (ag d).toArray 257 (0,0)) by rw[HD.o.1];exact I8) (show i<d.length by rw[HD.o.1];simp;omega)
     have hd3:i<d.length:=by rw[HD.o.1];simp;omega
     have hgd:d.getD i 0=d[i]:=by simp[List.getD,hd3]
     have hdb:=Es HS.o HD.o.2 i ϑ;have hiw:i<l.field.aJ.toNat:=by rw[HN.o];exact hin
     have hpd:=Kq HS.o HD.o.2 (HIS.o.1.trans Sl) hiw;have hpe:ps[i]=(jB l [] d).getD i (0,0):=by
      have h1:=HIS.o.2.1;rw[Sl,aG rfl] at h1;subst h1;simp[List.getD,hlt2]
     have hin2:i<ns.length:=by rw[HNL.o.1];exact hlt2
     have hne:ns[i]=p (d[i]) ps[i]:=by
      have h1:=HIS.o.2.2;rw[Sl,aG rfl] at h1;subst h1;rw[GK,hpe,hgd]
     rw[<-hpe] at hpd;rw[hgd] at hdb;have h1w:=(JG.block _ aew).trans H1.o.2.1;have hlenA:=TA (acc:=acc) (kU:=ns) (i:=i) (by
      have h1:=HAC.o;have h2:=HNL.o;rw[Sl] at h2;simp at h2;rcases h1 with h|h
      ·exact .inl h
      ·exact .inr ϑ) ϑ
     have hold:=fun(ha:acc≠[]) (h:acc.length=ns.length)=>Ty ha h hin2;generalize hyi:d[i]'hd3=y at*
     generalize BA:ps[i]=r at*
     generalize hxi:ns[i]=x at*
     have HPF:=aa (hne▸HP.o y r);have HHP:=aa (af hpd hdb);have HOLD:=aa (af hold hxi);have HLA:=aa hlenA;have HX:=aa (af σ (af hog (af JG (af Oa abR))));have oK:(i:Int)<ps.length:=ϑ;have hi3:i<3:=ϑ;have afz:(i:Int)<3:=ϑ;obtain⟨e1,e2,e3⟩:=ae h1w;have HW1:=aa h1w;have ai0:s3<wr.heap.size:=ϑ;clear σ hog JG Oa abR hpv I8 hgd hdb hpd hpe hne h1w hlenA hold hyi BA hxi hd3 hiw;cases Sl;go_upto_region 9 with(fail)
     refine bU fun W9 Jb=>?_;have ZH:Ϙ wr W9:=by rw[Jb];exact zl
     have tL:W9.heap[wr.heap.size]? =some (.cells #[iv r.1,iv r.2] 46 (0,0)):=by rw[Jb];exact av _ _
     have hc9:=(ZH.cell (p:=⟨s3,i,none⟩) ai0).trans Q7;obtain⟨i1,i2,i3⟩:=ae ((ZH.block _ e3).trans HW1.o);have hs9:=ZH.size;obtain⟨g1,g2,g3⟩:=ae tL;have alI:s3<W9.heap.size:=ϑ;have oU:=aa ZH;clear Jb ZH Q7 e1 e2 e3 q0 q1;have Bb:=aa tL;clear tL;refine zg 9 [] none [(7,Spec.val (rv x)),(8,Spec.block W9.heap.size #[iv 0,iv 0] 46)] ?_;simp only[zt];repeat ((first|refine zn ?_|refine zk ?_);simp only[zp])
     refine dL _ ϱ ϱ bg #[acv y r] (fun W hW=>by go_simp;(try simp only[eg]);try rfl) (fun W hE hF=>by exact HPF.o W ⟨HHP.o.2,HHP.o.1⟩) ?_
     simp only[zp];refine gQ W9.heap.size _ _ ϱ (ah _) ϱ ϕ ϕ (fun W hW=>by go_simp;try rfl) (fun b12=>?_);simp only[zp];repeat ((first|refine zn ?_|refine zk ?_);simp only[zp])
     intro WA hE hF;have Iq:Ext [] W9 WA:=hE;obtain⟨c12,FO,aaM,ab7⟩:=hF _ (aW _);cases FO;obtain⟨x0,x1⟩:=x;obtain⟨j1,j2,j3⟩:=ae ab7;have HEA:=aa Iq;have HKA:=aa ab7;clear hE hF Iq ab7 g1 g2 g3 i1 i2 i3 hc9;go_upto_region 10 with(fail)
     refine bU fun WB hWB=>?_;have agr:Ϙ W9 WB:=by rw[hWB];exact dP (dP HEA.o.below aaM _) aaM _
     have hkB:WB.heap[b12]? =some (.cells #[iv x0,iv x1] 46 (0,0)):=by rw[hWB];exact aA (aA HKA.o _) _
     have hBB:Ϙ wr WB:=aV oU.o agr;have aaE:WB.ownsRow W1.heap.size 46 2 (.slice oo2 (jr acc ns i).length GH) (jr acc ns i).length (aB (jr acc ns i)):=bT HX.o.1 fun g hg=>hBB.block g (aS HX.o.1 g hg).2;have agp:=aV HX.o.2.2.1 hBB;have V9: ∀b,s3<=b->b<W6.heap.size->WB.heap[b]? =W6.heap[b]? :=fun b δ κ=>(hBB.block b (by have:=HX.o.2.2.2.2;omega)).trans (HX.o.2.2.2.1 b δ κ);have aeJ:W6.heap.size<=WB.heap.size:=eU HX.o.2.2.2.2 hBB.size;have HB:=aa (af aaE (af HX.o.2.1 (af agp (af hkB (af V9 aeJ)))));obtain⟨j1,j2,j3⟩:=ae hkB;clear hWB agr hBB aaE agp V9 aeJ HEA HKA;have HLB:=aa HLA.o;obtain⟨L,hL⟩: ∃L,jr acc ns i=L:=⟨_,rfl⟩;have hgb: ∀g,(Value.slice oo2 (jr acc ns i).length GH).ownBlock=some g->g≠b12/\W1.heap.size<=g:=fun g hg=>by
      have h1:=aS HX.o.1 g hg;have h2:=oU.o.size;omega
     have HGB:=aa hgb;have Ic:=aa HOLD.o;rw[hL] at HB HLB HGB Ic⊢;have HL:=aa hL;clear hgb HLA HX HOLD oU Bb hL;by_cases ha:acc=[]
     ·have hm:L.length=i:=by rw[HLB.o,aG ha]
      have hmb:((L.length:Int)==(i:Int))=true:=by rw[beq_iff_eq];omega
      have HAN:Hid (jr acc ns (i+1)=L++[(x0,x1)]):=aa (by
       have h1:=Ic.o.2;subst ha;rw[Tz hin2,h1,HL.o])
      have HM:=aa hm;clear ha hm;go_upto_region 11 with(fail)
      clear hmb;have hL3:L.length<=3:=by have:=HM.o;omega
      have aiR:W1.heap.size<=WB.heap.size:=HB.o.2.2.1.size;go_wp2_with (at_builtin;refine cZ rfl _ _ CK rfl W1.heap.size (.slice oo2 L.length GH) L.length (aB L) rfl ?_ (.slice (some ⟨WB.heap.size,0,none⟩) 1 1) 1 (aB [(x0,x1)]) rfl ?_ (kF _) ϑ ϑ ϗ ?_)
      ·exact az (Ms:=[]) HB.o.1 (Ext.ax ((aF _ _).alloc (ah _) _)) ϕ
      ·exact aH.bI 2 1 (av _ _) rfl ϖ
      ·intro v' Wc Gm Y7 θ;obtain⟨oo3,Vh,rfl⟩:=aM Gm;have e3:L.length+1=(L++[(x0,x1)]).length:=ϕ;rw[<-jJ,e3] at Gm;rw[e3] at θ⊢;have hwB:Ϙ WB (WB.alloc (.cells #[iv x0,iv x1] 46)):=ai (aF _ _) _;have hkc: ∀b,b<WB.heap.size->(∀g,(Value.slice oo2 L.length GH).ownBlock=some g->g≠b)->Wc.heap[b]? =WB.heap[b]? :=fun b hb hn=>(Y7.block b ϗ (fun e=>hn b (by simpa using e.symm) rfl)).trans (hwB.block b hb);have hoc:Hid (Wc.ownsRow W1.heap.size 46 2 (.slice oo3 (L++[(x0,x1)]).length Vh) (L++[(x0,x1)]).length (aB (L++[(x0,x1)]))/\(∀g,(Value.slice oo3 (L++[(x0,x1)]).length Vh).ownBlock=some g->g<s3∨W6.heap.size<=g)/\Ϙ W1 Wc/\
        Wc.heap[b12]? =some (.cells #[iv x0,iv x1] 46 (0,0))/\(∀b,s3<=b->b<W6.heap.size->Wc.heap[b]? =W6.heap[b]?)/\W6.heap.size<=Wc.heap.size):=aa (by
        refine⟨Gm,fun g hg=>?_,Below.grown (aV HB.o.2.2.1 hwB) Y7 (by have:=hwB.size;omega) (fun k e=>(HGB.o k e).2),(hkc b12 (aN.1 HB.o.2.2.2.1).1 (fun g hg=>(HGB.o g hg).1)).trans HB.o.2.2.2.1,fun b δ κ=>?_,?_⟩
        ·rcases θ with h|h
         ·rw[h] at hg;exact HB.o.2.1 g hg
         ·rw[h] at hg;have:=HB.o.2.2.2.2.2;have:WB.heap.size+1=g:=by simpa using hg
          right;omega
        ·have:=HB.o.2.2.2.2.2;exact(hkc b ϑ (fun g hg=>by have:=HB.o.2.1 g hg;omega)).trans (HB.o.2.2.2.2.1 b δ κ)
        ·have:=HB.o.2.2.2.2.2;have:=Y7.size;have:=hwB.size;omega)
       have xB:=hoc;have Uj:Hid (i<(L++[(x0,x1)]).length):=aa (by have:=HM.o;simp;omega);have HLZ:Hid ((L++[(x0,x1)])[i]'Uj.o=(x0,x1)):=aa (by
        have:=HM.o;subst this;simp)
       have vE:Hid ((L++[(x0,x1)]).set i (vJ (x0,x1) (x0,x1))=jr acc ns (i+1)):=aa (by
        rw[HAN.o];have:=HM.o;subst this;rw[nZ _ _ (ah _),Nat.sub_self];simp[vJ])
       clear Gm Y7 θ e3 hwB hkc hoc hL3 aiR j1 j2 j3 HB HGB Ic HLB HAN;generalize L++[(x0,x1)]=L3 at*
       go_upto_region 12 with(fail)
       have K4:Wc.ownsRow W1.heap.size 46 2 (.slice oo3 (L3).length Vh) (L3).length (aB (L3)):=xB.o.1;obtain⟨gb,c2,hg2,Zt,Sn,⟨s0,s1⟩,hfr2⟩:=mI K4 Uj.o;rw[HLZ.o] at s0 s1;(try simp only at s0 s1)
       obtain⟨rfl,rfl⟩:oo3=some ⟨gb,0,none⟩/\Vh=c2:=by simp at hg2;exact hg2
       obtain⟨e1,e2,e3⟩:=ae xB.o.2.2.2.1;have Zn:(i:Int)<((L3).length:Int):=by have:=Uj.o;omega
       clear K4 hg2 hfr2;refine zg 9 [] none [(7,Spec.val (rv (vJ (x0,x1) (x0,x1))))] ?_;simp only[zt];repeat ((first|refine zn ?_|refine zk ?_);simp only[zp])
       refine zw 206 (h:=fun W hE hF=>by exact Eg (x0,x1) (x0,x1) W) (t:=?_)
       simp only[zp];repeat ((first|refine zn ?_|refine zk ?_);simp only[zp])
       intro QH hE hF;have Iq:Ext [] Wc QH:=hE;have vC:Ϙ Wc QH:=Iq.below;have yl:QH.ownsRow W1.heap.size 46 2 (.slice (some ⟨gb,0,none⟩) (L3).length Vh) (L3).length (aB (L3)):=az (Ms:=[]) xB.o.1 Iq ϕ;have Β:=lT yl Uj.o (vJ (x0,x1) (x0,x1));obtain⟨g3,c3,hg3,_,afD,⟨t0,t1⟩,afH⟩:=mI yl Uj.o;obtain⟨rfl,rfl⟩:gb=g3/\Vh=c3:=by simp at hg3;exact hg3
       rw[vE.o] at Β;have IY:(L3).length=(jr acc ns (i+1)).length:=by rw[<-vE.o,nV]
       have hgn:gb<s3∨W6.heap.size<=gb:=xB.o.2.1 gb rfl;have π:=aa (af Β (af IY (af (aV xB.o.2.2.1 vC) (af vC (af hgn Zt)))));clear hE hF Iq yl Β IY vC hg3 hgn e1 e2 e3 s0 s1;go_wp2_with fail
       go_roundw
       case rel=>
        refine⟨i+1,by omega,by go_num,⟨some ⟨gb,0,none⟩,Vh,by rw[<-π.o.2.1],?_,?_⟩,?_,?_,?_⟩
        ·have:=π.o.1;rw[π.o.2.1] at this;exact this
        ·exact zco
        ·exact dP (dP π.o.2.2.1 π.o.2.2.2.2.2 _) π.o.2.2.2.2.2 _
        ·exact zbA
        ·have:=xB.o.2.2.2.2.2;have:=π.o.2.2.2.1.size;simp;omega
       case measure=>simp[intOf];omega
     ·have hm:L.length=ns.length:=by rw[HLB.o,ak ha]
      have D5:((L.length:Int)==(i:Int))=false:=by rw[ES];omega
      have hal:acc.length=ns.length:=by
       have h2:=HNL.o;rw[aG rfl] at h2;rcases HAC.o with h|h
       ·exact absurd h ha
       ·omega
      have Uj:Hid (i<L.length):=aa ϑ;have hz:=Ic.o.1 ha hal;obtain⟨z,hzd⟩: ∃z:dF,acc.getD i (0,0)=z:=⟨_,rfl⟩;rw[hzd] at hz;have HLZ:Hid (L[i]'Uj.o=z):=aa (by
       rw[<-hzd,fK, <-hz.1,dn Uj.o];rfl)
      have vE:Hid (L.set i (vJ z (x0,x1))=jr acc ns (i+1)):=aa hz.2.symm;have HM:=aa hm;clear ha hm hal hz hzd Ic HLB HGB HL;go_upto_region 12 with(fail)
      clear D5;have xB:=HB;clear HB;clear j1 j2 j3;have K4:WB.ownsRow W1.heap.size 46 2 (.slice oo2 (L).length GH) (L).length (aB (L)):=xB.o.1;obtain⟨gb,c2,hg2,Zt,Sn,⟨s0,s1⟩,hfr2⟩:=mI K4 Uj.o;rw[HLZ.o] at s0 s1;(try simp only at s0 s1)
      obtain⟨rfl,rfl⟩:oo2=some ⟨gb,0,none⟩/\GH=c2:=by simp at hg2;exact hg2
      obtain⟨e1,e2,e3⟩:=ae xB.o.2.2.2.1;have Zn:(i:Int)<((L).length:Int):=by have:=Uj.o;omega
      clear K4 hg2 hfr2;refine zg 9 [] none [(7,Spec.val (rv (vJ z (x0,x1))))] ?_;simp only[zt];repeat ((first|refine zn ?_|refine zk ?_);simp only[zp])
      refine zw 206 (h:=fun W hE hF=>by exact Eg z (x0,x1) W) (t:=?_)
      simp only[zp];repeat ((first|refine zn ?_|refine zk ?_);simp only[zp])
      intro QH hE hF;have Iq:Ext [] WB QH:=hE;have vC:Ϙ WB QH:=Iq.below;have yl:QH.ownsRow W1.heap.size 46 2 (.slice (some ⟨gb,0,none⟩) (L).length GH) (L).length (aB (L)):=az (Ms:=[]) xB.o.1 Iq ϕ;have Β:=lT yl Uj.o (vJ z (x0,x1));obtain⟨g3,c3,hg3,_,afD,⟨t0,t1⟩,afH⟩:=mI yl Uj.o;obtain⟨rfl,rfl⟩:gb=g3/\GH=c3:=by simp at hg3;exact hg3
      rw[vE.o] at Β;have IY:(L).length=(jr acc ns (i+1)).length:=by rw[<-vE.o,nV]
      have hgn:gb<s3∨W6.heap.size<=gb:=xB.o.2.1 gb rfl;have π:=aa (af Β (af IY (af (aV xB.o.2.2.1 vC) (af vC (af hgn Zt)))));clear hE hF Iq yl Β IY vC hg3 hgn e1 e2 e3 s0 s1;go_wp2_with fail
      go_roundw
      case rel=>
       refine⟨i+1,by omega,by go_num,⟨some ⟨gb,0,none⟩,GH,by rw[<-π.o.2.1],?_,?_⟩,?_,?_,?_⟩
       ·have:=π.o.1;rw[π.o.2.1] at this;exact this
       ·exact zco
       ·exact dP (dP π.o.2.2.1 π.o.2.2.2.2.2 _) π.o.2.2.2.2.2 _
       ·exact zbA
       ·have:=xB.o.2.2.2.2.2;have:=π.o.2.2.2.1.size;simp;omega
      case measure=>simp[intOf];omega
    ·have hip:i=ps.length:=ϑ;subst hip;rw[<-HNL.o.1, <-π.o] at σ hog;rw[<-HNL.o.1, <-π.o];have HF:=aa (af σ JG);clear σ hog JG Oa abR;go_wp2_with fail
     go_roundw
     case rel=>exact⟨k+1,by omega,by go_num,⟨oo2,GH,rfl,HF.o.1⟩,HF.o.2⟩
     case measure=>simp[intOf];omega
  ·have hkd:k=ds.length:=ϑ;subst hkd;have HF:=aa (af σ hB);clear σ hB;go_wp2_with fail
   go_returns;exact⟨_,by simp,bK HF.o.1 ϑ,aV H1.o.1 HF.o.2⟩
end Go.Proofs.Z
namespace Go.Proofs.Z
open Go.RowKit Go.RG Go.SL Go.Shelf gK Go.TB
def Mq (p:Int->dF->dF) (l:aO) (w:World) (e:Ending) (w':World):Prop:=
 Ϙ w w'/\((fI l true≠0/\e= .returned (.tuple #[.slice none 0 0,iv (fI l true)]))∨
  (fI l true=0/\ ∃u,e= .returned (.tuple #[u,iv 0])/\bD w' u (zL p l (eZ l))))
theorem Ny (l:aO) (tv nv:Value) (bg:Nat) (p:Int->dF->dF) (w:World) (ht:cz w tv l.field.aj) (hn:aU w nv l.notes)
 (eg: Ϛ Tryz.prog bg)
 (hp: ∀(d:Int) (r:dF) (W:World),(0<=d/\d<=350)/\0<=r.1/\r.1<=r.2/\r.2<=2000->Ϝ bg #[acv d r] W (PV (rv (p d r)) W)):
 Ϝ 74 #[.agg #[.func (.func bg) #[] #[]],lv l tv nv] w (Mq p l w):=by
 have HC:=aa (tY l tv nv true ((w.alloc (.cells #[.func (.func bg) #[] #[]] 169)).alloc (.cells (iY l tv nv) 49)) ((ht.alloc _).alloc _) ((hn.alloc _).alloc _));have HE:=aa eg;have HP:=aa hp;clear ht hn hp eg;obtain⟨q,hq⟩: ∃q,fI l true=q:=⟨_,rfl⟩;have HQ:=aa hq;clear hq;go_enter Tryz.func74,Tryz.ntmps74;go_wp2_with fail
 refine HC.o.mono ?_;rintro e w1 ⟨hb,⟨hne,rfl⟩|⟨h0,wb,mb,v,rfl,_,_,hok⟩⟩
 ·rw[HQ.o] at hne⊢;have hqb:(q !=0)=true:=by simpa using hne
  have HB:=aa (af (show Ϙ w w1 from zl) hne);clear hb hne;go_wp2_with fail
  go_returns;exact⟨HB.o.1,.inl ⟨by rw[HQ.o];exact HB.o.2,by rw[HQ.o];simp⟩⟩
 ·have hk:=(hb.block w.heap.size ϗ).trans ((aT _ _ _ ϕ).trans (av w (.cells #[.func (.func bg) #[] #[]] 169)));have HBN:=aa (yC (BL h0).1 bg p w1 hok HE.o HP.o);have HB:=aa (af (show Ϙ w w1 from zl) h0);obtain⟨c1,f1,l1⟩:=ae hk;clear hb hk hok h0;go_wp2_with fail
  refine HBN.o.mono ?_;rintro e w2 ⟨u,rfl,hu,hb⟩;obtain⟨uo,uc,rfl⟩:=aM hu;have HX:=aa (af (aV HB.o.1 hb) (aH.bY hu));clear hb hu c1 f1 l1;go_wp2_with fail
  go_returns;exact⟨HX.o.1,.inr ⟨HB.o.2,_,by simp,HX.o.2⟩⟩
theorem Mv (l:aO) (tv nv:Value) (w:World) (ht:cz w tv l.field.aj) (hn:aU w nv l.notes):
 Ϝ 42 #[lv l tv nv] w (Mq mH l w):=by
 have HC:=aa (Ny l tv nv 73 mH (w.alloc (.cells (iY l tv nv) 49)) (ht.alloc _) (hn.alloc _) (enters_of Tryz.func73 ϰ rfl) (fun d r W h=>by first|exact Kt d r W h|(have:=h;exact Kt d r W h)))
 clear ht hn;go_enter Tryz.func42,Tryz.ntmps42;go_wp2_with fail
 refine HC.o.mono ?_;rintro e w1 ⟨hb,⟨hne,rfl⟩|⟨h0,u,rfl,hu⟩⟩
 ·obtain⟨q,hq⟩: ∃q,fI l true=q:=⟨_,rfl⟩;have HB:=aa (af (show Ϙ w w1 from zl) (af hne hq));rw[hq];clear hb hne hq;go_wp2_with fail
  go_returns;exact⟨HB.o.1,.inl ⟨HB.o.2.1,by rw[HB.o.2.2];simp⟩⟩
 ·obtain⟨uo,uc,rfl⟩:=hu.open;have HB:=aa (af (show Ϙ w w1 from zl) (af h0 hu));clear hb h0 hu;go_wp2_with fail
  go_returns;exact⟨HB.o.1,.inr ⟨HB.o.2.1,_,by simp,HB.o.2.2⟩⟩
end Go.Proofs.Z
namespace Go.Proofs.Z
open Go.RowKit Go.RG Go.SL Go.Shelf gK Go.TB
abbrev PY (f:bL) (tv:Value):Array Value:= #[iv f.rows,iv f.aJ,iv f.left.1,iv f.left.2,tv]
end Go.Proofs.Z
namespace Go.Proofs.Z
open Go.RowKit Go.RG Go.SL Go.Shelf gK Go.TB
end Go.Proofs.Z
namespace Go.Proofs.Z
open Go.RowKit Go.RG Go.SL Go.Shelf gK Go.TB
def agW (l:List Int) (w:World) (e:Ending) (w':World):Prop:= ∃v,e= .returned v/\w'.ownsRow w.heap.size 3 1 v l.length (ag l)/\Ϙ w w'
theorem abg:fU Tryz.prog 57 52 (.slice none 0 0) 1 24:=⟨Tryz.underlying57,by kernel_rfl,rfl,by omega⟩
abbrev LE:=Value×List Int
def rP (es:List LE):List Value:=es.map (·.1)
structure Les (base:Nat) (v:Value) (es:List LE) (W:World):Prop where
 row:W.ownsRow base 52 1 v es.length (rP es)
 each: ∀e∈es,W.ownsRow base 3 1 e.1 e.2.length (ag e.2)/\ ∀g,e.1.ownBlock=some g->v.ownBlock≠some g
theorem Vv {base:Nat} {W W8 W9:World} {v v':Value} {es:List LE} {e:LE} (hT:Les base v es W) (hE:Ext [] W W8) (hG:W8.grownBy W9 v.ownBlock) (hN:v'.ownBlock=v.ownBlock∨v'.ownBlock=some W8.heap.size)
 (hO:W9.ownsRow base 52 1 v' (es.length+1) (rP es++[e.1])) (hC:W8.ownsRow W.heap.size 3 1 e.1 e.2.length (ag e.2)) (hb:base<=W.heap.size):Les base v' (es++[e]) W9:=by
 have hz:=hE.size;have hcb:=aS hC;have hvb:=aS hT.row;refine⟨?_,fun x hx=>?_⟩
 ·rw[cu];have:rP (es++[e])=rP es++[e.1]:=by simp[rP]
  rw[this];exact hO
 ·rcases gq.1 hx with hx|hx
  ·obtain⟨k1,k2⟩:=hT.each x hx;have kb:=aS k1;refine⟨bT k1 fun g hg=>(hG.block g (by have:=(kb g hg).2;omega) (fun e1=>k2 g hg e1.symm)).trans (hE.block g (kb g hg).2 ϕ),fun g hg e1=>?_⟩;rcases hN with hN|hN
   ·exact k2 g hg (by rw[<-hN,e1])
   ·rw[e1] at hN;injection hN with hN;have:=(kb g hg).2;omega
  ·obtain rfl:x=e:=by simpa using hx
   refine⟨bK (bT hC fun g hg=>hG.block g (hcb g hg).2 (fun e1=>by have:=(hvb g e1.symm).2;have:=(hcb g hg).1;omega)) hb,fun g hg e1=>?_⟩;rcases hN with hN|hN
   ·have:=(hvb g (by rw[<-hN,e1])).2;have:=(hcb g hg).1;omega
   ·rw[e1] at hN;injection hN with hN;have:=(hcb g hg).2;omega
end Go.Proofs.Z
namespace Go.Proofs.Z
open Go.RowKit Go.RG Go.SL Go.Shelf gK Go.TB
theorem CQ {w:World} {b:Nat} {t:TypeId} {fr:Nat×Nat} {a0 a1 a2 a3 a4:Value} (h:w.heap[b]? =some (.cells #[a0,a1,a2,a3,a4] t fr)) (y0 y1 y2 y3 y4:Value):
 (((((w.setCell ⟨b,0,none⟩ y0).setCell ⟨b,1,none⟩ y1).setCell ⟨b,2,none⟩ y2).setCell ⟨b,3,none⟩ y3).setCell ⟨b,4,none⟩ y4).heap[b]? =some (.cells #[y0,y1,y2,y3,y4] t fr):=by
 have:=(aA (o:=4) (aA (o:=3) (aA (o:=2) (aA (o:=1) (aA (o:=0) h y0) y1) y2) y3) y4);simpa using this
theorem Ej {W:World} {b g:Nat} (hg:g≠b) (y0 y1 y2 y3 y4:Value):
 (((((W.setCell ⟨b,0,none⟩ y0).setCell ⟨b,1,none⟩ y1).setCell ⟨b,2,none⟩ y2).setCell ⟨b,3,none⟩ y3).setCell ⟨b,4,none⟩ y4).heap[g]? =W.heap[g]? :=by
 exact(bV _ _ _ _ hg).trans ((bV _ _ _ _ hg).trans ((bV _ _ _ _ hg).trans ((bV _ _ _ _ hg).trans (bV _ _ _ _ hg))))
theorem El {w W:World} {b:Nat} (hb:w.heap.size<=b) (h:Ϙ w W) (y0 y1 y2 y3 y4:Value):
 Ϙ w (((((W.setCell ⟨b,0,none⟩ y0).setCell ⟨b,1,none⟩ y1).setCell ⟨b,2,none⟩ y2).setCell ⟨b,3,none⟩ y3).setCell ⟨b,4,none⟩ y4):=
 dP (dP (dP (dP (dP h hb _) hb _) hb _) hb _) hb _
theorem PW (r:dF) (w:World):Ϝ 143 #[rv r] w (PV (rv r) w):=by
 go_enter Tryz.func143,Tryz.ntmps143;go_wp2;all_goals
  (try simp only[Exit.inBlock,Exit.then])
  refine bodyPost_ret (v:=rv r) (by simp[results,Tryz.results143,go_sem];try omega) rfl ?_;exact⟨rfl,zl⟩
theorem abf:fU Tryz.prog 43 186 (JW (0,0,0,(0,0))) 5 40:=⟨Tryz.underlying43,by kernel_rfl,rfl,by omega⟩
theorem Fw (R:List FZ) (r:FZ):bP (R++[r])=bP R++bP [r]:=by simp[bP]
def aab (f:bL) (w:World) (e:Ending) (w':World):Prop:= ∃tv,e= .returned (fv f tv)/\w'.ownsRow w.heap.size 186 5 tv f.aj.length (bP f.aj)/\Ϙ w w'
theorem Nu (f:bL) (tv:Value) (w:World) (ht:cz w tv f.aj) (hl:f.aj.length<=1000):
 Ϝ 84 #[fv f tv] w (aab f w):=by
 obtain⟨to,tc,rfl⟩:=ht.open;have HT:=aa ht;clear ht;go_enter Tryz.func84,Tryz.ntmps84;go_upto_region 1 with(fail)
 refine bU fun W1 ν=>?_;have R9:=aa (show Ϙ w W1 from by rw[ν];exact zl);have Ca:W1.heap[w.heap.size]? =some (.cells (PY f (.slice to f.aj.length tc)) 78 (0,0)):=by rw[ν];exact(aT _ _ _ (by first|omega|(simp;done)|(simp;omega))).trans (av _ _)
 have hA1:W1.heap[w.heap.size+1]? =some (.cells #[iv 0,iv 0,iv 0,iv 0,.slice none 0 0] 45 (0,0)):=by rw[ν];exact dm _ _ _
 have s0:=(aN.1 Ca).1;have s1:=(aN.1 hA1).1;have hcr:=(ae Ca).1;have HA:=aa (af Ca hA1);clear Ca hA1 ν;refine zg 9 [] none [(6,Spec.val (rv f.left)),(8,Spec.block W1.heap.size #[iv 0,iv 0,iv 0,iv 0,.slice none 0 0] 45)] ?_;simp only[zt];repeat ((first|refine zn ?_|refine zk ?_);simp only[zp])
 refine zw 143 (h:=fun W hE hF=>by exact PW f.left W) (t:=?_);simp only[zp];repeat ((first|refine zn ?_|refine zk ?_);simp only[zp])
 refine gQ W1.heap.size _ _ ϱ (ah _) ϱ ϕ ϕ (fun W hW=>by go_simp;try rfl) (fun b3=>?_);simp only[zp];intro W2 hE hF;have Iq:Ext [] W1 W2:=hE;obtain⟨b3',Γ,hbB,ZX⟩:=hF _ (aW _);cases Γ;have hB2:=aV R9.o Iq.below;have hs2:=Iq.size;have hA2:W2.heap[w.heap.size]? =some (.cells (PY f (.slice to f.aj.length tc)) 78 (0,0)):=(Iq.block _ s0 ϕ).trans HA.o.1;have hA3:W2.heap[w.heap.size+1]? =some (.cells #[iv 0,iv 0,iv 0,iv 0,.slice none 0 0] 45 (0,0)):=(Iq.block _ s1 ϕ).trans HA.o.2;have HA2:=aa (af hA2 (af hA3 (af ZX hB2)));obtain⟨hc3,hf3,hl3⟩:=ae ZX;have ajR:w.heap.size+2<=b3:=ϑ;clear hE hF Iq ZX hA2 hA3 hB2 hcr s0 s1;go_upto_region 2 with(fail)
 refine bU fun W3 φ=>?_;have hblk3:W3.heap[b3]? =some (.cells #[iv f.rows,iv f.aJ,iv f.left.1,iv f.left.2,.slice none 0 0] 45 (0,0)):=by rw[φ];exact CQ HA2.o.2.2.1 _ _ _ _ _
 have Oj: ∀g,g≠b3->W3.heap[g]? =W2.heap[g]? :=fun g hg=>by rw[φ];exact Ej hg _ _ _ _ _
 have hB3:Ϙ w W3:=by rw[φ];exact El ϑ HA2.o.2.2.2 _ _ _ _ _
 have WG:b3<W3.heap.size:=(aN.1 hblk3).1;have JE:=aa (af ((Oj w.heap.size ϑ).trans HA2.o.1) (af ((Oj (w.heap.size+1) ϑ).trans HA2.o.2.1) (af hblk3 hB3)));clear φ hblk3 Oj hB3 hc3 hf3 hl3 HA2 HA R9 hs2;go_wp2_with fail
 go_loopw [4] (fun u wq=> ∃k:Nat,k<=f.aj.length/\u= .int .i64 k/\ ∃o2 c2,wq.heap[b3]? =some (.cells (sj f (.slice o2 k c2)) 45 (0,0))/\
  wq.ownsRow W3.heap.size 186 5 (.slice o2 k c2) k (bP (f.aj.take k))/\Ϙ w wq/\W3.heap.size<=wq.heap.size/\ ∀c,c<W3.heap.size->c≠b3->wq.heap[c]? =W3.heap[c]?) (fun u _=>f.aj.length-(intOf u).toNat)
 case atStart=>exact⟨0,bE _,rfl,none,0,JE.o.2.2.1,⟨rfl,.inl ⟨rfl,rfl⟩⟩,JE.o.2.2.2,ah _,fun _ _ _=>rfl⟩
 case round=>
  obtain⟨k,hk,rfl,o2,c2,ZX,Gm,hB,hsw,Oa⟩:=hrel;have ha0:=(Oa w.heap.size ϑ ϑ).trans JE.o.1;obtain⟨BV,I9,BS⟩:=ae ha0;obtain⟨BU,hfr2,Dy⟩:=ae ZX;have WM:=HT.o.below hB (ah _);have HK:=aa (af ZX (af Gm (af hB (af hsw Oa))));have HA0:=aa ha0;clear ZX Gm hB Oa ha0;by_cases Ξ:k<f.aj.length
  ·obtain⟨b,off,rfl,δ,d0,d1,d2,d3,d4⟩:=cz.cell WM Ξ;have oK:(k:Int)<f.aj.length:=ϑ;have htk:bP (f.aj.take (k+1))=bP (f.aj.take k)++bP [f.aj[k]]:=by
    rw[eG Ξ,Fw]
   clear WM;generalize f.aj[k]=x at*
   obtain⟨x0,x1,x2,x3,x4⟩:=x;simp only at d0 d1 d2 d3 d4;have yG:=aa htk;clear htk;go_upto_region 6 with(fail)
   refine bU fun W5 qM=>?_;have vB:Ϙ wr W5:=by rw[qM];exact zl
   have hk5:W5.heap[wr.heap.size]? =some (.cells #[iv x0,iv x1,iv x2,iv x3,iv x4] 287 (0,0)):=by
    rw[qM];first|exact av _ _|exact CQ (av _ _) _ _ _ _ _
   have hkb:=(vB.block _ Dy).trans HK.o.1;have MC:=aa (af vB (af hk5 hkb));clear qM BV I9 BS BU hfr2 d0 d1 d2 d3 d4 δ;obtain⟨e1,e2,e3⟩:=ae hk5;obtain⟨p1,p2,p3⟩:=ae hkb;clear vB hk5 hkb;refine zg 13 [] none [(10,Spec.val (rv (x3,x4))),(12,Spec.slice W5.heap.size #[iv x0,iv x1,iv x2,iv x3,iv x4] 186 1)] ?_;simp only[zt];repeat ((first|refine zn ?_|refine zk ?_);simp only[zp])
   refine zw 143 (h:=fun W hE hF=>by exact PW (x3,x4) W) (t:=?_)
   simp only[zp];repeat ((first|refine zn ?_|refine zk ?_);simp only[zp])
   refine cB W5.heap.size _ _ _ ϱ (ah _) ϱ ϕ ϕ (fun W hW=>by go_simp;try rfl) (fun b8=>?_);simp only[zp];intro W6 ry hF6;have AB:Ext [] W5 W6:=ry;obtain⟨QC,tN,Sv,mQ⟩:=hF6 _ (aW _);cases tN;have ZG:Ext [] wr W6:=(Ext.ax MC.o.1).trans AB;have HE6:=aa ZG;have TU:=aa mQ;have adh:=aa (az (Ms:=[]) HK.o.2.1 ZG ϕ);have hz6:=ZG.size;clear ry hF6 AB mQ ZG e1 e2 e3 p1 p2 p3;go_wp2_with (at_builtin;go_loud (refine cZ rfl _ _ abf rfl W3.heap.size (.slice o2 k c2) k (bP (f.aj.take k)) rfl adh.o (.slice (some ⟨b8,0,none⟩) 1 1) 1 (bP [(x0,x1,x2,(x3,x4))]) rfl (aH.bI 5 1 TU.o rfl ϖ) (vU _) ϑ ϑ ϑ ?_))
   intro v' W7 uX Ol _;obtain⟨o7,c7,rfl⟩:=aM uX;have HP:=aa (qa (i:=4) (u:= .slice o7 (k+1) c7) HK.o.2.2.1 HK.o.2.1 HE6.o uX Ol hsw WG ϑ HK.o.1);exact zau
  ·obtain rfl:k=f.aj.length:=ϑ;clear WM;have μ:=(HK.o.2.2.2.2 (w.heap.size+1) ϑ ϑ).trans JE.o.2.1;obtain⟨acf,acb,abT⟩:=ae μ;have zR:=aa μ;clear μ;go_wp2_with fail
   refine bodyPost_ret (v:=fv f (.slice o2 f.aj.length c2)) (results_cell_row Tryz.results84 _ _ (w.heap.size+1) _ _ (0,0) _ rfl (CQ zR.o _ _ _ _ _) Tryz.underlying45 rfl ϰ) rfl ?_;refine⟨_,rfl,?_,El ϑ HK.o.2.2.1 _ _ _ _ _⟩;have:=HK.o.2.1;rw[List.take_length] at this;refine bK (bT this fun g hg=>Ej ?_ _ _ _ _ _) JE.o.2.2.2.size;have:=(aS HK.o.2.1 g hg).1;omega
end Go.Proofs.Z
namespace Go.Proofs.Z
open Go.RowKit Go.RG Go.SL Go.Shelf gK Go.TB
end Go.Proofs.Z
namespace Go.Proofs.Z
open Go.RowKit Go.RG Go.SL Go.Shelf gK Go.TB
end Go.Proofs.Z
namespace Go.Proofs.Z
open Go.RowKit Go.RG Go.SL Go.Shelf gK Go.TB
end Go.Proofs.Z
namespace Go.Proofs.Z
open Go.RowKit Go.RG Go.SL Go.Shelf gK Go.TB
def lI (l:aO):List Int:=(lG l.notes.length (fo l)).getD []
theorem Bu {l:aO} (h:fo l (upto l.notes.length)=true):lG l.notes.length (fo l)=some (lI l):=by
 unfold lI;cases hs:lG l.notes.length (fo l) with
 |some c=>rfl
 |none=>rw[J8 hs _ (VF _)] at h;cases h
def TM (l:aO) (w:World) (e:Ending) (w':World):Prop:=
 Ϙ w w'/\((gG l≠0/\e= .returned (.tuple #[.slice none 0 0,iv (gG l)]))∨(gG l=0/\ ∃v,e= .returned (.tuple #[v,iv 0])/\aL w' v (lI l)))
theorem TL (l:aO) (tv nv:Value) (w:World) (ht:cz w tv l.field.aj) (hn:aU w nv l.notes):
 Ϝ 41 #[lv l tv nv] w (TM l w):=by
 obtain⟨on,cn,rfl⟩:=hn.open;have HC:=aa (wI l tv _ (w.alloc (.cells (iY l tv (.slice on l.notes.length cn)) 49)) (ht.alloc _) (hn.alloc _));clear ht hn;obtain⟨q,hq⟩: ∃q,gG l=q:=⟨_,rfl⟩;have HQ:=aa hq;clear hq;obtain⟨nn,hnn⟩: ∃nn,l.notes.length=nn:=⟨_,rfl⟩;have HNN:=aa hnn;rw[hnn] at HC⊢;clear hnn;go_enter Tryz.func41,Tryz.ntmps41;go_wp2_with fail
 refine HC.o.mono ?_;rintro e w1 ⟨hb,⟨hne,rfl⟩|⟨h0,wb,mb,v,rfl,hwb,hmb,hok⟩⟩
 ·have HB:=aa (af (show Ϙ w w1 from zl) hne);rw[HQ.o] at hne⊢;have hqb:(q !=0)=true:=by simpa using hne
  clear hb hne;go_wp2_with fail
  go_returns;exact⟨HB.o.1,.inl ⟨HB.o.2,by rw[HQ.o];simp⟩⟩
 ·obtain⟨hS,hpo⟩:=nu h0;have hsh:=Bu hpo;have hn5:=hS.many;rw[HNN.o] at hsh hn5;have hk1:=(hb.block w.heap.size ϕ).trans (av w (.cells (iY l tv (.slice on nn cn)) 49));have hmw:w.heap.size<mb:=by simp at hmb;omega
  have zS:=aa (Fy nn ϑ (fo l) [mb] (fun W=> ∃T,TabAt T9 rv (fun _=>True) W mb T) ⟨fun a b ⟨T,hT⟩ hk=>⟨T,hT.kept (hk mb ϕ)⟩,fun W hW m hm o=>by
   obtain rfl:m=mb:=by simpa using hm
   obtain⟨T,hT⟩:=hW;exact hT.kV o⟩ w1 hok.tab (fun m hm=>by obtain rfl:m=mb:=(by simpa using hm);exact hok.lt) 72 #[.pointer (some ⟨wb,0,none⟩)] #[]
   (enters_of Tryz.func72 ϰ rfl) (fun x u W' _ hE hW hv=>by
     refine(mY hS x (show Cc W' wb mb l tv (.slice on nn cn) v from⟨hok.work.table hE hok.kV,hW⟩) hv).mono ?_;rintro e W2 ⟨rfl,hkn,Ι⟩;exact⟨rfl,hkn.ok.tab,Ι⟩))
  have HB:=aa (af (show Ϙ w w1 from zl) (af h0 (af hsh hmw)));obtain⟨c1,f1,l1⟩:=ae hk1;clear hb hok h0 hS hpo hsh hk1 hwb hmb hmw;go_wp2_with fail
  refine zS.o.mono ?_;rintro e w2 ⟨⟨_,hE⟩,⟨cx,u,hcx,rfl,sH⟩|⟨IB,_⟩⟩
  ·have μ:cx=lI l:=by rw[HB.o.2.2.1] at hcx;injection hcx with h;exact h.symm
   obtain⟨uo,uc,rfl⟩:=sH.open;have HX:=aa (af (dM HB.o.1 hE (by have:=HB.o.2.2.2;omega)) (af μ sH));clear hE hcx sH μ c1 f1 l1;go_wp2_with fail
   go_returns;exact⟨HX.o.1,.inr ⟨HB.o.2.1,_,by simp;rfl,by rw[<-HX.o.2.1];exact HX.o.2.2⟩⟩
  ·rw[HB.o.2.2.1] at IB;cases IB
theorem Mk {l:aO} (h:fI l true=0):nD l/\ ∃d∈eZ l,iI l [] d=true:=by
 obtain⟨hS,_,_,hp⟩:=BL h;unfold fo at hp;rw[List.any_eq_true] at hp;exact⟨hS,hp⟩
theorem Xp {l:aO} (hp: ∃d∈eZ l,iI l [] d=true) (p:Int->dF->dF) {i:Nat} (hi:i<l.field.aJ.toNat):
 q9 (fun y=> ∃d∈eZ l,iI l [] d=true/\y=p (d.getD i 0) ((jB l [] d).getD i (0,0))) ((zL p l (eZ l)).getD i (0,0)):=by
 obtain⟨d,hd,hc⟩:=hp;rcases EN p l (eZ l) hi (eZ l).length (ah _) with⟨_,h2⟩|⟨_,h1⟩
 ·rw[List.take_length] at h2;rw[h2 d hd] at hc;cases hc
 ·rw[List.take_length] at h1;exact h1
end Go.Proofs.Z
namespace Go.Proofs.Z
open Go.RowKit Go.RG Go.SL Go.Shelf gK Go.TB
end Go.Proofs.Z
namespace Go.Proofs.Z
open Go.RowKit Go.RG Go.SL Go.Shelf gK Go.TB
theorem En (b:Nat): ∀(l:List (Nat×Value)) (W:World),Ext [b] W (l.foldl (fun W p=>W.setCell ⟨b,p.1,none⟩ p.2) W)
 |[],_=>Ext.refl _ _
 |p::l,W=>(jo W ⟨b,p.1,none⟩ p.2).trans (En b l _)
end Go.Proofs.Z
namespace Go.Proofs.Z
open Go.RowKit Go.RG Go.SL Go.Shelf gK Go.TB
end Go.Proofs.Z
end

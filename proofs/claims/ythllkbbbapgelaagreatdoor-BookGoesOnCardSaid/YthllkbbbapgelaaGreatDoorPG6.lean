/-
  Texts of this claim, packed by a program: QA QD.
-/
import Derived.WalkKit
import Derived.WalkLawsBesides
import Derived.WalkSpells
import Derived.Outline
import Derived.Handy
import Derived.KernelRfl
import Derived.Lib.Hide
import Derived.Test.YthllkbbbapgelaaGreatDoorPG5
set_option maxHeartbeats 8000000
set_option maxRecDepth 100000
set_option linter.all false
theorem _root_.zcw {P:Prop} (h:P:=by
 have G8:Ext [] W Wa:=hE;obtain⟨b',hb',hge,μ⟩:=hF _ (bu _) ϰ;cases hb';have YM:=az (Ms:=[]) Ea.o.2.1 G8 ϕ;have ι:aH 3 Wa (.slice (some ⟨b6,0,none⟩) 1 1) 1 (ag ys):=zb2;refine Does.mono (cZ Zd ϱ ϱ YM ϱ ι (iE _) ϑ ϑ (by have:=G8.size;omega)) ?_;exact zax):P:=h
theorem _root_.zcE {P:Prop} (h:P:=by
 intro o1 o2;refine⟨⟨ai (ai fV.o _) _,by simp,by simp,fun b hb=>⟨by simp,by have:=(Ay b).1 hb;simp;omega⟩⟩,?_⟩;exact zbb):P:=h
theorem _root_.zar {P:Prop} (h:P:=by
 refine⟨⟨?_,?_,fun m hm h0 lg=>?_,by rw[tJ];omega⟩,Yk,?_⟩
 ·exact(Av _ (by have:=(χ _ (Φ (w4.heap.size+1) ϑ ϑ)).2;omega) ϑ ϑ).trans uw.o.2.1
 ·exact(Av _ (by have:=(χ _ (Φ w4.heap.size ϑ ϑ)).2;omega) ϑ ϑ).trans uw.o.2.2
 ·exact(Av m (vR.o.bnd m hm) (fun e=>yx (e▸hm)) (fun e=>(χ (B+1+1) (Φ _ ϑ ϑ)).1 (e▸hm))).trans (uw.o.1 m hm h0 lg)
 rw[uq.o,OO.o];refine⟨?_,?_,⟨v',aG ui.o.2.2 _,hlen1.symm▸bU ui.o.1 fun g hg=>dm _ _ _ _ (by have:=(aW ui.o.1 g hg).1;show g≠B+1+1;omega),fun g hg=>⟨fun hm=>?_,by rw[tJ];exact(aW ui.o.1 g hg).2⟩⟩,?_,?_⟩
 ·exact(Γ _ (by have:=(χ _ (Φ B ϑ ϑ)).2;omega) ϑ ϑ).trans GA.o.b0
 ·exact(Γ _ (by have:=(χ _ (Φ (B+1) ϑ ϑ)).2;omega) ϑ ϑ).trans GA.o.tab
 ·rcases ui.o.2.1 g hg with h1|h1
  ·exact yx (h1▸hm)
  ·have:=vR.o.bnd g hm;omega
 ·exact(Γ _ (by have:=(χ _ (Φ (B+3) ϑ ϑ)).2;omega) ϑ ϑ).trans GA.o.ptr
 ·exact(Γ _ (by have:=(χ _ (Φ (B+4) ϑ ϑ)).2;omega) ϑ ϑ).trans GA.o.b4):P:=h
theorem _root_.zbP {P:Prop} (h:P:=by
 have h1:=aW Ea.o.2.1 g xA;have h2:=Ea.o.2.2 g xA;exact⟨g,(fun g' hg=>by cases hg;rfl),h1.1,h1.2,h2.1,fun e=>by have:=HVO.o g xA;omega⟩):P:=h
theorem _root_.zbp {P:Prop} (h:P:=by
 exact iq (W':=Wa.alloc (.cells #[iv 0,iv 0] 46)) (.pointer (some ⟨Wa.heap.size,0,none⟩)) (by go_simp;try rfl) ⟨⟨_,rfl⟩,trivial,Ext.ay ((aC _ _).alloc (ah _) _),_,rfl,(show qZ W6.heap.size [] W6 Wa from hE).size,heap_alloc_new _ _⟩):P:=h
theorem _root_.zch {P:Prop} (h:P:=by
 obtain⟨b,hb,hge,hc⟩:=ho;exact⟨b,hb,hge,(hE.block b (aP.1 hc).1 ϕ).trans hc⟩):P:=h
theorem _root_.zaD {P:Prop} (h:P:=by
 have nD:W8.ownsRow W1.heap.size 46 2 (.slice o3 (i+1) c3) (i+1) (aD (rs.take (i+1))):=hF _ (bu _);have Az:Ϙ W1 W8:=⟨G8.os.trans H6.o.2.1.os,G8.tape.trans H6.o.2.1.tape,G8.output.trans H6.o.2.1.output,gI H6.o.2.1.size G8.size,fun b hb=>(G8.block b (by have:=H6.o.2.1.size;omega) (by simp <;>omega)).trans (H6.o.2.1.block b hb)⟩;have H8:=aa (af nD Az);clear hE hF G8 nD Az p1 p2 p3;go_wp2_with fail
 go_roundw
 case rel=>
  refine⟨i+1,by omega,by go_num,by rw[HS.o.1],by rw[HS.o.2.1],⟨o3,c3,rfl,H8.o.1⟩,H8.o.2,fun j hj hji=>?_⟩;by_cases Zw:j=i
  ·subst Zw;rw[HRI.o];omega
  ·exact HX.o.2.2.2.2 j hj ϑ
 case measure=>simp[intOf];omega):P:=h
theorem _root_.zaE {P:Prop} (h:P:=by
 have G8:Ext [] W6 Wa:=hE;obtain⟨b',hb',hge,μ⟩:=hF _ (bu _) ϰ;cases hb';have YM:=az (Ms:=[]) H6.o.1 G8 ϕ;have ι:aH 2 Wa (.slice (some ⟨b2,0,none⟩) 1 1) 1 (aD [r]):=aH.bS 2 1 μ rfl ϖ;refine Does.mono (cZ BF ϱ ϱ YM ϱ ι (mG _) ϑ ϑ (by have:=G8.size;have:=H6.o.2.1.size;omega)) ?_;rintro v' Wc ⟨ho,TF,XL⟩;refine⟨aL ho,?_,⟨TF.os,TF.tape,TF.output,TF.size,fun b hb hn=>TF.block b hb (fun e=>by first|(simp[Value.ownBlock] at e;done)|(simp[Value.ownBlock] at e;exact hn (by simp[e])))⟩⟩;show Wc.ownsRow _ _ _ v' (i+1) _;rw[HS.o.2.2,mW];exact ho):P:=h
theorem _root_.zcd {P:Prop} (h:P:=by
 have HF:=aa hF;clear hF;go_wp2_with fail
 go_returns;exact⟨aV ZU.o.1 HO.o.2,.inr ⟨HF.o,by simp⟩⟩):P:=h
section
namespace Go.Proofs.Z
open Go.RowKit Go.RG Go.SL Go.Shelf ig Go.TB
abbrev xv (t:AV):Value:= .agg #[.int .i64 t.1,.int .i64 t.2.1,.int .i64 t.2.2]
abbrev jG (l:aN) (tv nv:Value):Array Value:= #[iv l.field.rows,iv l.field.aJ,iv l.field.left.1,iv l.field.left.2,tv,iv l.rate,iv l.box.1,iv l.box.2,nv]
abbrev lv (l:aN) (tv nv:Value):Value:= .agg (jG l tv nv)
def jK (r:dF):Bool:=decide (r.1<=r.2)&&(lT r.1 0 2000&&lT r.2 0 2000)
def yf (l:aN) (n:AV):Bool:=lT n.1 0 (l.field.aJ-1)&&jK n.2
theorem vE (n l h:Int) (w:World):Ϝ 117 #[iv n,iv l,iv h] w (PV (.bool (lT n l h)) w):=by
 by_cases h1:l<=n
 all_goals
  go_enter Tryz.func117,Tryz.ntmps117;exact zbS
theorem sD (n:Int) (w:World):Ϝ 199 #[iv n] w (PV (.bool (lT n 0 2000)) w):=by
 go_enter Tryz.func199,Tryz.ntmps199;go_wp2_with fail
 refine(vE _ _ _ _).mono ?_;rintro e w' ⟨rfl,hb⟩;exact zaV
theorem AR (r:dF) (w:World):Ϝ 118 #[rv r] w (PV (.bool (jK r)) w):=by
 obtain⟨p,q⟩:=r;by_cases h0:p<=q
 ·obtain⟨x,hx⟩: ∃x,lT p 0 2000=x:=⟨_,rfl⟩;have HC:=aa (fun w=>hx▸sD p w);have HX:=aa hx;clear hx;cases x
  ·have hF:jK (p,q)=false:=by unfold jK;simp only[HX.o];simp
   rw[hF];clear hF;go_enter Tryz.func118,Tryz.ntmps118;exact zcB
  ·have hF:jK (p,q)=lT q 0 2000:=by unfold jK;simp only[HX.o];simp[h0]
   rw[hF];clear hF;go_enter Tryz.func118,Tryz.ntmps118;go_wp2_with fail
   refine(HC.o _).mono ?_;rintro e w' ⟨rfl,hb⟩;obtain⟨hc,hf⟩:=bA hb;have hz0:w.heap.size<w'.heap.size:=(by have:=hb.size;(try simp only[bg] at this);omega)
   go_wp2_with fail
   refine(sD q _).mono ?_;rintro e w2 ⟨rfl,θ⟩;exact zbc
 ·have hb0:decide (p<=q)=false:=by simpa using h0
  have hF:jK (p,q)=false:=by unfold jK;simp[h0]
  rw[hF];clear hF;go_enter Tryz.func118,Tryz.ntmps118;go_wp2;go_returns;exact⟨by simp,zl⟩
theorem Cb (l:aN) (tv nv:Value) (n:AV) (w:World) (h0: -1000<=l.field.aJ) (h1:l.field.aJ<=1000):
 Ϝ 116 #[lv l tv nv,xv n] w (PV (.bool (yf l n)) w):=by
 obtain⟨x,hx⟩: ∃x,lT n.1 0 (l.field.aJ-1)=x:=⟨_,rfl⟩;have HC:=aa (fun w=>hx▸vE n.1 0 (l.field.aJ-1) w);have HX:=aa hx;clear hx;cases x
 ·have hF:yf l n=false:=by unfold yf;rw[HX.o];rfl
  rw[hF];clear hF;go_enter Tryz.func116,Tryz.ntmps116;exact zcB
 ·have hF:yf l n=jK n.2:=by unfold yf;rw[HX.o];rfl
  rw[hF];clear hF;go_enter Tryz.func116,Tryz.ntmps116;go_wp2_with fail
  refine(HC.o _).mono ?_;rintro e w' ⟨rfl,hb⟩;obtain⟨hc,hf⟩:=bA hb;have hz0:w.heap.size<w'.heap.size:=(by have:=hb.size;(try simp only[bg] at this);omega)
  have hz1:w.heap.size+1<w'.heap.size:=(by have:=hb.size;(try simp only[bg] at this);omega)
  go_wp2_with fail
  refine(AR n.2 _).mono ?_;rintro e w2 ⟨rfl,θ⟩;exact zbc
theorem yC (a b:Int) (g c:Nat) (w:World) (h0:w.cell? ⟨g,0,none⟩=some (iv a)) (h1:w.cell? ⟨g,1,none⟩=some (iv b)):
 Ϝ 272 #[.slice (some ⟨g,0,none⟩) 2 c] w (PV (iv (min a b)) w):=by
 have H:=aa (yh a b g c w h0 h1);go_enter Tryz.func272,Tryz.ntmps272;exact zcy
theorem Ll (r x:dF) (w:World):Ϝ 204 #[rv r,rv x] w (PV (rv (qI r x)) w):=by
 go_enter Tryz.func204,Tryz.ntmps204;go_wp2_with fail
 refine zg 12 [] none [(9,Spec.slice (w.heap.size+3) #[iv r.2,iv x.2] 3 2),(10,Spec.val (iv (min r.2 x.2)))] ?_;simp only[zt];repeat (refine zd ?_;simp only[zp])
 refine dI (w.heap.size+3) _ _ _ ϱ ϕ ϱ ϕ ϕ (fun W hW=>by go_simp;try rfl) (fun b=>?_);simp only[zp];refine dQ _ ϱ ϱ 272 _ (fun W hW=>by go_simp;try rfl) (fun W hE hF=>?_) ?_
 ·obtain⟨c,hcb,hB,hc⟩:=hF _ (bu _) ϰ;cases hcb;exact yC r.2 x.2 b 2 W (by simp[World.cell?,hc]) (by simp[World.cell?,hc])
 simp only[zp];repeat (refine zd ?_;simp only[zp])
 intro W hE hF;obtain⟨hc,hf⟩:=bA hE.below;have ic:=hE.size;(try simp only[bg] at ic)
 go_wp2;all_goals
  (try simp only[Exit.inBlock,Exit.then])
  refine bodyPost_ret (v:=rv (max r.1 x.1,min r.2 x.2)) (by simp[results,Tryz.results204,go_sem,hc];try omega) rfl ?_;exact⟨rfl,ze⟩
end Go.Proofs.Z
namespace Go.Proofs.Z
open Go.RowKit Go.RG Go.SL Go.Shelf ig Go.TB
theorem ag7 (l:List AV) (v:Value) (aY:Nat) (Mr aM:Array Value) (p:Nat->Bool) (I:Nat->World->Prop) (w:World) (eg: Ϛ Tryz.prog aY)
 (Nl: ∀k W,I k W->bB W v l)
 (pG: ∀k (hk:k<l.length) W,(∀j,j<k->p j=false)->I k W->Ϝ aY (Mr.push (xv l[k])++aM) W (fun e W'=>e= .returned (.bool (p k))/\I (k+1) W')) (h0:I 0 w):
 Ϝ 268 #[v,.func (.func aY) Mr aM] w (dM l.length p I (fun k=>iv k) (iv (-1))):=by
 have Ib:=(Nl 0 w h0).len;obtain⟨o,c,rfl⟩:=(Nl 0 w h0).open;have HC:=aa pG;have HS:=aa Nl;clear pG Nl;go_enter Tryz.func268,Tryz.ntmps268;exact zcs
theorem ae5 (l:List AV) (v:Value) (aY:Nat) (Mr aM:Array Value) (p:Nat->Bool) (I:Nat->World->Prop) (w:World) (eg: Ϛ Tryz.prog aY)
 (Nl: ∀k W,I k W->bB W v l)
 (pG: ∀k (hk:k<l.length) W,(∀j,j<k->p j=false)->I k W->Ϝ aY (Mr.push (xv l[k])++aM) W (fun e W'=>e= .returned (.bool (p k))/\I (k+1) W')) (h0:I 0 w):
 Ϝ 200 #[v,.func (.func aY) Mr aM] w (dM l.length p I (fun _=> .bool true) (.bool false)):=by
 have HI:=aa (ag7 l v aY Mr aM p I w eg Nl pG h0);have Ib:=(Nl 0 w h0).len;clear Nl pG h0 eg;go_enter Tryz.func200,Tryz.ntmps200;exact zad
theorem afd (x:AV) (bx aY:Nat) (Mr aM:Array Value) (b:Bool) (W:World) (R:World->Prop) (eg: Ϛ Tryz.prog aY)
 (hbx:W.cell? ⟨bx,0,none⟩=some (.func (.func aY) Mr aM))
 (pG:Ϝ aY (Mr.push (xv x)++aM) (W.alloc (.cells #[iv x.1,iv x.2.1,iv x.2.2] 188)) (fun e W'=>e= .returned (.bool b)/\R W')):
 Ϝ 201 #[xv x,.pointer (some ⟨bx,0,none⟩)] W (fun e W'=>e= .returned (.bool !b)/\R W'):=by
 have tX:=dn W _ hbx;have HC:=aa pG;clear pG;go_enter Tryz.func201,Tryz.ntmps201;exact zaq
theorem aiI (l:List AV) (v:Value) (aY:Nat) (Mr aM:Array Value) (p:Nat->Bool) (I:Nat->World->Prop) (w:World) (eg: Ϛ Tryz.prog aY)
 (Nl: ∀k W,I k W->bB W v l) (hal: ∀k W o,I k W->I k (W.alloc o))
 (pG: ∀k (hk:k<l.length) W,(∀j,j<k->p j=true)->I k W->Ϝ aY (Mr.push (xv l[k])++aM) W (fun e W'=>e= .returned (.bool (p k))/\I (k+1) W'/\iy w.heap.size W W')) (h0:I 0 w):
 Ϝ 119 #[v,.func (.func aY) Mr aM] w (dM l.length (fun k=>!p k) I (fun _=> .bool false) (.bool true)):=by
 have HI:=aa (ae5 l v 201 #[] #[.pointer (some ⟨w.heap.size,0,none⟩)] (fun k=>!p k)
  (fun k W=>I k W/\W.heap[w.heap.size]? =some (.cells #[.func (.func aY) Mr aM] 248 (0,0))) (w.alloc (.cells #[.func (.func aY) Mr aM] 248))
  (enters_of Tryz.func201 ϰ rfl) (fun k W h=>Nl k W h.1)
  (fun k hk W GX h=>by
    have tX:w.heap.size<W.heap.size:=(aP.1 h.2).1;refine(afd l[k] w.heap.size aY Mr aM (p k) W (fun W'=>I (k+1) W'/\W'.heap[w.heap.size]? =some (.cells #[.func (.func aY) Mr aM] 248 (0,0))) eg (aA h.2) ?_);refine(pG k hk _ (fun j hj=>by simpa using GX j hj) (by first|exact hal _ _ _ h.1|exact h.1)).mono ?_;rintro e W' ⟨rfl,h1,h2⟩;refine⟨rfl,h1,(h2.block _ (ah _) (by first|exact tX|(simp;omega))).trans (by first|exact h.2|exact(aS _ _ _ tX).trans h.2)⟩)
  ⟨hal _ _ _ h0,heap_alloc_new w _⟩)
 have Ib:=(Nl 0 w h0).len;clear Nl pG h0 eg hal;go_enter Tryz.func119,Tryz.ntmps119;exact zaf
theorem Sd (l:List AV) (v:Value) (aY:Nat) (Mr aM:Array Value) (q:AV->Bool) (w:World) (hv:bB w v l) (eg: Ϛ Tryz.prog aY)
 (pG: ∀x∈l, ∀W,Ϙ w W->Ϝ aY (Mr.push (xv x)++aM) W (PV (.bool (q x)) W)):
 Ϝ 119 #[v,.func (.func aY) Mr aM] w (PV (.bool (l.all q)) w):=by
 refine(aiI l v aY Mr aM (fun k=>q (l.getD k (0,0,0))) (fun _ W=>Ϙ w W) w eg (fun k W h=>hv.below h (ah _)) (fun k W o h=>ai h o) (fun k hk W _ h=>?_) (aC _ _)).mono ?_
 ·exact zaz
 ·exact zaJ
end Go.Proofs.Z
namespace Go.Proofs.Z
open Go.RowKit Go.RG Go.SL Go.Shelf ig Go.TB
attribute [local go_sem] Oper.semAt_some
theorem lM {l:List Int} (h:l.length=3): ∃a b c,l=[a,b,c]:=by
 match l,h with
 |[a,b,c],_=>exact⟨a,b,c,rfl⟩
theorem VD (l:aN) (tv nv rvv:Value) (rows:List Int) (w:World) (hr:aK w rvv rows) (h0:0<=l.rate) (h1:l.rate<=50) (h7:rows.length<=7) (hb: ∀x∈rows,x<3):
 Ϝ 203 #[lv l tv nv,rvv] w (fun e w'=>e= .returned (j6 (j4 l.rate rows))/\Ϙ w w'/\w.heap.size<w'.heap.size):=by
 obtain⟨ro,rc,rfl⟩:=hr.open;have HR:=aa hr;have HB:=aa hb;clear hr hb;go_enter Tryz.func203,Tryz.ntmps203;go_wp2_with fail
 go_loopw [9] (fun u wr=> ∃k:Nat,k<=rows.length/\u= .int .i64 k/\Ϙ w wr/\wr.heap[w.heap.size]? =some (.cells (jG l tv nv) 49 (0,0))/\wr.heap[w.heap.size+1]? =some (.cells (ag (j4 l.rate (rows.take k))).toArray 257 (0,0))) (fun u _=>rows.length-(intOf u).toNat)
 case atStart=>
  refine⟨0,bD _,rfl,zl,(aS _ _ _ ϕ).trans (av _ _),?_⟩;rw[List.take_zero,RH];exact dG _ _ _
 case round=>
  obtain⟨k,hk,rfl,hB,hk0,hk1⟩:=hrel;obtain⟨c0,f0,l0⟩:=ae hk0;by_cases tX:k<rows.length
  ·have rQ:=HR.o.below hB (ah _);obtain⟨b,off,rfl,hb,hc0⟩:=aK.cell rQ tX;have hx3:=HB.o _ (bK tX);have hsu:rows.take (k+1)=rows.take k++[rows[k]]:=eT tX;have hbd:=CX h0 h1 (rows.take k) (by rw[eO];omega);generalize rows[k]=x at*
   have uq:=aa hsu;have HK:=aa (af hB (af hk0 hk1));have I7:=aa hbd;clear rQ hsu hB hk0 hbd;by_cases hx:0<=x
   ·obtain⟨n,rfl⟩: ∃n:Nat,x=n:=⟨x.toNat,by omega⟩;have Il:n<3:=ϑ;obtain⟨d,hd⟩: ∃d,(j4 l.rate (rows.take k)).getD n 0=d:=⟨_,rfl⟩;have hdb:=I7.o n Il;rw[hd] at hdb;have MR:=fB hk1 (show n<(j4 l.rate (rows.take k)).length by rw[jJ];omega)
    rw[show(j4 l.rate (rows.take k))[n]'(by rw[jJ];omega)=d from by rw[<-hd];simp[List.getD,jJ,Il]] at MR
    have hfr:=aZ hk1 n;have hl1:=dn wr _ MR;have HD:=aa hd;clear hd hk1;go_upto_region 5 with(fail)
    refine zg 7 [] none [] ?_;simp only[zt];repeat (refine zn ?_;simp only[zp])
    intro W hE hF;obtain⟨hc,hf⟩:=bA hE.below;have ic:=hE.size;(try simp only[bg] at ic)
    have HE:=aa hE;clear hF ic;go_wp2_with fail
    go_roundw
    case rel=>
     refine⟨k+1,by omega,by go_num,gu (aV HK.o.1 HE.o.below) ϕ _,(dm _ _ _ _ (by show w.heap.size≠w.heap.size+1;omega)).trans ((HE.o.block _ l0 ϕ).trans HK.o.2.1),?_⟩;rw[uq.o, <-NJ _ _ _ Il,HD.o, <-qm];exact aG ((HE.o.block _ hl1 ϕ).trans HK.o.2.2) _
    case measure=>simp[intOf];omega
   ·have hxb:decide (0<=x)=false:=by simpa using hx
    have HX:=aa hx;clear hk1;go_wp2_with fail
    go_roundw
    case rel=>
     refine⟨k+1,by omega,by go_num,HK.o.1,HK.o.2.1,?_⟩;rw[uq.o,NK _ _ _ (by have:=HX.o;omega)];exact HK.o.2.2
    case measure=>simp[intOf];omega
  ·have XI:k=rows.length:=ϑ;subst XI;rw[List.take_length] at hk1;obtain⟨y0,y1,y2,ω⟩:=lM (jJ l.rate rows);rw[ω] at hk1;have aaS:wr.heap[w.heap.size+1]? =some (.cells #[iv y0,iv y1,iv y2] 257 (0,0)):=hk1;obtain⟨c1,f1,l1⟩:=ae aaS;have yV:=aa ω;have WL:=aa hB;have hkF:(((wr.setCell ⟨w.heap.size+1,0,none⟩ (iv y0)).setCell ⟨w.heap.size+1,1,none⟩ (iv y1)).setCell ⟨w.heap.size+1,2,none⟩ (iv y2)).heap[w.heap.size+1]? =some (.cells #[iv y0,iv y1,iv y2] 257 (0,0)):=aG (aG (aG aaS _) _) _;obtain⟨cF,fF,lF⟩:=ae hkF;clear hk0 hk1 aaS hB ω hkF;go_wp2_with fail
   (try rw[Exit.noGoto_ret])
   refine bodyPost_ret (v:= .agg #[iv y0,iv y1,iv y2]) (by simp[results,Tryz.results203,go_sem,cF]) rfl ?_;exact⟨by rw[yV.o];rfl,gu (gu (gu WL.o ϕ _) ϕ _) ϕ _,by simp[World.setCell];omega⟩
theorem BO {f:bG} (hf:ja f=0) {x:List Int} (hx:x∈nP f):mD f x=ik f [] x:=by
 have hS:=gy hf;have h0:=hS.wV;obtain⟨h1,h2⟩:=Ce.1 hx;have hall:x.all (xW f)=true:=by
  rw[iR];intro n hn;obtain⟨i,hi,rfl⟩:=kD hn;have:=h2 i ϑ;rw[show x.getD i 0=x[i] from by simp[List.getD,hi]] at this
  simp only[xW,lT,Bool.or_eq_true,beq_iff_eq,dL,dR];omega
 unfold mD;rw[hf,hall,decide_eq_true (show(x.length:Int)=f.rows by omega)];simp
structure Tu (W:World) (n bl bo iB bc ob l:Nat) (o:List Int):Prop where
 y:W.heap[iB]? =some (.cells #[.func (.yield l) #[] #[]] 163 (0,0))
 out:W.heap[bo]? =some (.cells #[.slice (some ⟨ob,0,none⟩) n n] 52 (0,0))
 ch:W.heap[bc]? =some (.cells #[.func (.func 270) #[] #[.pointer (some ⟨bo,0,none⟩),.pointer (some ⟨bl,0,none⟩),.pointer (some ⟨iB,0,none⟩),.pointer (some ⟨bc,0,none⟩)]] 274 (0,0))
 cells:W.heap[ob]? =some (.cells (ag o).toArray 3 (0,0))
theorem Tu.kept {W W':World} {n bl bo iB bc ob l:Nat} {o:List Int} (h:Tu W n bl bo iB bc ob l o) (hk: ∀m∈[ob,iB,bo,bc],m<W.heap.size->W'.heap[m]? =W.heap[m]?):Tu W' n bl bo iB bc ob l o:=
 ⟨(hk _ ϕ (aP.1 h.y).1).trans h.y,(hk _ ϕ (aP.1 h.out).1).trans h.out,(hk _ ϕ (aP.1 h.ch).1).trans h.ch,(hk _ ϕ (aP.1 h.cells).1).trans h.cells⟩
theorem Tu.below {W W':World} {n bl bo iB bc ob l:Nat} {o:List Int} (h:Tu W n bl bo iB bc ob l o) (hb:Ϙ W W'):Tu W' n bl bo iB bc ob l o:=h.kept fun m _ hm=>hb.block m hm
theorem Tu.set {W:World} {n bl bo iB bc ob l:Nat} {o:List Int} (h:Tu W n bl bo iB bc ob l o) (hd1:iB≠ob) (hd2:bo≠ob) (hd3:bc≠ob) (i:Nat) (x:Int):Tu (W.setCell ⟨ob,i,none⟩ (iv x)) n bl bo iB bc ob l (o.set i x):=
 ⟨(dm _ _ _ _ hd1).trans h.y,(dm _ _ _ _ hd2).trans h.out,(dm _ _ _ _ hd3).trans h.ch,by rw[<-qm];exact aG h.cells _⟩
def afh (Ms:List Nat) (x:List Int) (v:Value) (W:World):Prop:=
 ∃ob:Nat,v= .slice (some ⟨ob,0,none⟩) x.length x.length/\W.heap[ob]? =some (.cells (ag x).toArray 3 (0,0))/\ob∈Ms
structure ZP (bl:Nat) (l:aN) (tv nv:Value) (W:World):Prop where
 lb:W.heap[bl]? =some (.cells (jG l tv nv) 49 (0,0))
 uH:dH W tv l.field.ax
theorem JF (l:aN) (hf:ja l.field=0) (tv nv:Value) (bl bo iB bc ob y:Nat) (hd1:iB≠ob) (hd2:bo≠ob) (hd3:bc≠ob) (J:List Nat->Option Nat->World->Prop)
 (hInv: ∀Ms s W1,J Ms s W1->ZP bl l tv nv W1)
 (hstep: ∀Ms jc s W1 W2,J Ms s W1->Ext Ms W1 W2->(∀m∈jc,m∈Ms∨(W1.heap.size<=m/\m<W2.heap.size))->True->J jc s W2)
 (hY: ∀Ms k v W1 (hk:k<(bH l.field []).length),J Ms (some k) W1->afh Ms (bH l.field [])[k] v W1->YieldAt Fence.wide 0 Tryz.prog y #[v] W1 fun e W'=>
   ((∀m∈Ms,m∉[]->m<W1.heap.size->W'.heap[m]? =W1.heap[m]?)/\W1.heap.size<=W'.heap.size)/\((e= .returned (.bool true)/\J Ms (some (k+1)) W')∨(e= .returned (.bool false)/\J Ms none W'))):
 ∀(m i k:Nat) (Κ:List Int) (W:World) (o:List Int),i+m=l.field.rows.toNat->Κ.length=i->o.length=l.field.rows.toNat->o.take i=Κ->iN (dX l.field) i k Κ->Tu W l.field.rows.toNat bl bo iB bc ob y o->J [ob,iB,bo,bc] (some (qV l.field [] k)) W->
  CallsIn Fence.wide 0 Tryz.prog 270 #[iv i,.pointer (some ⟨bo,0,none⟩),.pointer (some ⟨bl,0,none⟩),.pointer (some ⟨iB,0,none⟩),.pointer (some ⟨bc,0,none⟩)] W
   (fun e W'=>(e= .returned (.bool true)/\J [ob,iB,bo,bc] (some (qV l.field [] (k+(dZ ((dX l.field).drop i)).length))) W'/\ ∃o',o'.length=l.field.rows.toNat/\o'.take i=Κ/\Tu W' l.field.rows.toNat bl bo iB bc ob y o')∨
     (e= .returned (.bool false)/\J [ob,iB,bo,bc] none W')):=by
 have hS:=gy hf;have hRl:(dX l.field).length=l.field.rows.toNat:=by simp[dX]
 intro m;induction m with
 |zero=>
  intro i k Κ W o him hpl hol hot hat UC hJ;have hrow:(i:Int)=(l.field.rows.toNat:Int):=ϑ;obtain⟨hone,hk,hx⟩:=hat.last ϑ;rw[hone];obtain rfl:o=Κ:=by rw[<-hot,show i=o.length by omega,List.take_length]
  have Ρ:k<(nP l.field).length:=hk;have wN:(nP l.field)[k]=o:=hx;obtain⟨ο,htl⟩:=hInv _ _ _ hJ;have hrt:=AZ l.field tv (.slice (some ⟨ob,0,none⟩) l.field.rows.toNat l.field.rows.toNat) o W htl (by rw[<-hol];exact aH.bS (cs:=(ag o).toArray) 1 o.length UC.cells (by simp[ag]) (by have:=hS.og;simp only[maxLen];omega))
  rw[BO hf (wN▸bK Ρ)] at hrt;obtain⟨LY,Oe,NY⟩:=ae ο;obtain⟨YL,cf2,cl2⟩:=ae UC.out;obtain⟨cc3,cf3,cl3⟩:=ae UC.y;have HR:=aa hrt;have HS:=aa UC;have HJ:=aa hJ;have κ:=aa hstep;have HY:=aa hY;have HK:=aa (show ∃h:k<(nP l.field).length,(nP l.field)[k]=o from⟨Ρ,wN⟩);have HO:=aa (af hol hot);have Pf:=hS.og;have heq:((i:Int)==(l.field.rows.toNat:Int))=true:=by simpa using hrow
  clear hrt hInv hstep hY UC hJ ο htl hat wN hx hk Ρ hone hrow hot hS;obtain⟨q,hq⟩: ∃q,ik l.field [] o=q:=⟨_,rfl⟩;have HQ:=aa hq;rw[hq] at HR;clear hq;have XQ:o.length=l.field.rows.toNat:=HO.out.1;obtain⟨rn,hrn⟩: ∃rn,l.field.rows.toNat=rn:=⟨_,rfl⟩;rw[hrn] at HR heq YL XQ⊢;have HRN:=aa hrn;clear hrn him;cases q
  ·skip
   refine callsIn_of_wp Tryz.func270 rfl trivial ?_;simp only[Tryz.ntmps270,List.size_toArray,List.length_cons,List.length_nil,Nat.reduceAdd,Nat.reduceSub,Array.replicate_succ,Array.replicate_zero,jr,jv,List.nil_append,List.cons_append]
   gi_wp2_with fail
   refine(callsIn_wide.2 HR.out).mono ?_;rintro e W1 ⟨rfl,ζ⟩;have Qi:=aa ζ;clear ζ
   gi_wp2_with fail
   go_returns;have Bb:=κ.out _ _ _ _ _ HJ.out (Ext.ay Qi.out) (fun m hm=> .inl hm) trivial;obtain⟨Ρ,wN⟩:=HK.out;rw[<-PG Ρ (by rw[wN];exact HQ.out)] at Bb;exact .inl ⟨by simp,Bb,o,XQ,HO.out.2,HRN.out▸HS.out.below Qi.out⟩
  ·skip
   refine callsIn_of_wp Tryz.func270 rfl trivial ?_;simp only[Tryz.ntmps270,List.size_toArray,List.length_cons,List.length_nil,Nat.reduceAdd,Nat.reduceSub,Array.replicate_succ,Array.replicate_zero,jr,jv,List.nil_append,List.cons_append]
   gi_wp2_with fail
   refine(callsIn_wide.2 HR.out).mono ?_;rintro e W1 ⟨rfl,ζ⟩;obtain⟨hc1,hf1⟩:=bA ζ;have hs1:=ζ.size;have Qi:=aa ζ;have Bb:=κ.out _ _ _ _ _ HJ.out (Ext.ay ζ) (fun m hm=> .inl hm) trivial;obtain⟨Ρ,wN⟩:=HK.out;obtain⟨hc,hx⟩:=BA Ρ (by rw[wN];exact HQ.out);obtain⟨g1,t1,a1,b1,hy1,Bl⟩:=HY.out _ _ (.slice (some ⟨ob,0,none⟩) rn rn) W1 hc Bb (by
    rw[hx,wN];exact⟨ob,by rw[XQ],(HS.out.below Qi.out).cells,by simp⟩)
   have hcn:qV l.field [] (k+1)=qV l.field [] k+1:=KX Ρ (by rw[wN];exact HQ.out);have HR1:=aa Bl;have WY:=aa hcn;clear Bl Bb Ρ wN hc hx hcn ζ
   gi_wp2_with fail
   refine HR1.out.mono ?_;rintro e W' ⟨⟨XJ,ν⟩,⟨rfl,hJ⟩|⟨rfl,hJ⟩⟩
   ·have WH:=aa hJ;have HK':=aa XJ;clear hJ XJ
    gi_wp2_with fail
    go_returns;exact .inl ⟨by simp,by rw[WY.out];exact WH.out,o,XQ,HO.out.2,HRN.out▸(HS.out.below Qi.out).kept (fun m hm lg=>HK'.out m hm ϕ lg)⟩
   ·have WH:=aa hJ;clear hJ XJ
    gi_wp2_with fail
    go_returns;exact .inr ⟨by simp,WH.out⟩
 |succ m ih=>
  intro i k Κ W o him hpl hol hot hat UC hJ;have hi:i<(dX l.field).length:=ϑ;have τ:=iN.count hi;have hw0:=hS.wU;have hw1:=hS.uj;have Pf:=hS.og;have hr0:=hS.wV;have Ar:(dX l.field)[i]=(-1,l.field.aJ-1):=by simp[dX]
  obtain⟨z,hz,hz4⟩: ∃z:Nat,(z:Int)=l.field.aJ+1/\z<=4:=⟨(l.field.aJ+1).toNat,by omega,by omega⟩;have ν:(dP (dX l.field)[i]).toNat=z:=by rw[Ar];unfold dP;simp only;omega
  rw[ν] at τ;obtain⟨ο,htl⟩:=hInv _ _ _ hJ;obtain⟨LY,Oe,NY⟩:=ae ο;obtain⟨YL,cf2,cl2⟩:=ae UC.out;have hne:(i:Int)≠(l.field.rows.toNat:Int):=ϑ;have Cv:((i:Int)==(l.field.rows.toNat:Int))=false:=by simpa using hne
  have SK:Hid (∀c:Nat,c<z->iN (dX l.field) (i+1) (k+c*(dZ ((dX l.field).drop (i+1))).length) (Κ++[(c:Int)-1])):=aa (fun c hc=>by
   have:=hat.next hi c (by rw[ν];exact hc);rw[Ar] at this;rw[show(c:Int)-1= -1+(c:Int) from by omega];exact this)
  have HI:=aa hInv;have κ:=aa hstep;have HS:=aa UC;have HJ:=aa hJ;have Tp:=aa ih;have GD:=aa (af hol hot);have HCZ:=aa τ;have HZ:=aa hz;have hi7:i<7:=ϑ;have hiR:i<l.field.rows.toNat:=ϑ;have hR7:l.field.rows.toNat<=7:=ϑ;clear hInv hstep hY hat UC hJ ih τ hne ο htl Ar ν hi hol hot hRl hz hS;obtain⟨rn,hrn⟩: ∃rn,l.field.rows.toNat=rn:=⟨_,rfl⟩;rw[hrn] at HS Tp GD hiR hR7 him Cv YL⊢;clear hrn;refine callsIn_of_wp Tryz.func270 rfl trivial ?_;simp only[Tryz.ntmps270,List.size_toArray,List.length_cons,List.length_nil,Nat.reduceAdd,Nat.reduceSub,Array.replicate_succ,Array.replicate_zero,jr,jv,List.nil_append,List.cons_append]
  gi_wp2_with fail
  rw[<-HZ.out]
  gi_loopw [26] (fun u wr=> ∃c:Nat,c<=z/\u= .int .i64 c/\ ∃o':List Int,o'.length=rn/\o'.take i=Κ/\Tu wr rn bl bo iB bc ob y o'/\J [ob,iB,bo,bc] (some (qV l.field [] (k+c*(dZ ((dX l.field).drop (i+1))).length))) wr)
   (fun u _=>z-(intOf u).toNat)
  case atStart=>exact⟨0,bD _,rfl,o,GD.out.1,GD.out.2,HS.out,by simpa using HJ.out⟩
  case round=>
   obtain⟨c,hcz,rfl,o',ho1,Ψ,UC,hJ⟩:=hrel;by_cases tX:c<z
   ·obtain⟨ZK,Le,K3⟩:=ae UC.out;obtain⟨ZJ,Ld,KZ⟩:=ae UC.ch;obtain⟨yv,MR⟩: ∃yv,wr.cell? ⟨ob,i,none⟩=some (iv yv):=⟨_,fB UC.cells (show i<o'.length by omega)⟩;have hab:=dn wr _ MR;have hfr:=aZ UC.cells i;have Dr:=aa UC;have OL:=aa hJ;have HO:=aa (af ho1 Ψ);have Ba:(c:Int)<z:=ϑ;clear UC hJ ho1 Ψ LY Oe NY YL cf2 cl2;have Cs:=Dr.out.set hd1 hd2 hd3 i ((c:Int)-1);have Vo:J [ob,iB,bo,bc] (some (qV l.field [] (k+c*(dZ ((dX l.field).drop (i+1))).length))) (wr.setCell ⟨ob,i,none⟩ (iv ((c:Int)-1))):=
     κ.out _ _ _ _ _ OL.out ((kH wr ⟨ob,i,none⟩ _).more (fun x hx=>by simp at hx;subst hx;simp)) (fun m hm=> .inl hm) trivial
    have pG:=Tp.out (i+1) _ (Κ++[(c:Int)-1]) _ (o'.set i ((c:Int)-1)) ϑ (by simp[hpl]) (by simp[HO.out.1]) (by
     rw[List.take_set];rw[oQ,HO.out.2];have XV:i<o'.length:=by have:=HO.out.1;omega
     rw[bZ XV];simp[nT,hpl]) (SK.out c tX) Cs Vo
    rw[show((i+1:Nat):Int)=(i:Int)+1 from by omega] at pG;have yY:=aa pG;clear pG Cs Vo
    gi_wp2_with fail
    refine yY.out.mono ?_;rintro e W2 (⟨rfl,hJ2,o2,ho1,Ψ,Ct⟩|⟨rfl,hJ2⟩)
    ·have HJ2:=aa hJ2;have Oz:=aa Ct;have xQ:=aa (af ho1 Ψ);clear hJ2 Ct ho1 Ψ ZK Le K3 ZJ Ld KZ MR hab hfr
     gi_wp2_with fail
     go_roundw
     case rel=>
      exact zbn
     case measure=>simp[intOf];omega
    ·have HJ2:=aa hJ2;clear hJ2 ZK Le K3 ZJ Ld KZ MR hab hfr
     gi_wp2_with fail
     go_returns;exact .inr ⟨by simp,HJ2.out⟩
   ·exact zbu
theorem TT (l:aN) (hf:ja l.field=0) (tv nv:Value) (bl:Nat):
 Sw Tryz.prog 269 #[.pointer (some ⟨bl,0,none⟩)] (bH l.field []) afh [] (fun _=>True) (ZP bl l tv nv):=by
 intro y J W hInv hstep hY h0;obtain⟨ο,htl⟩:=hInv _ _ _ h0;have hch:=fun bo iB bc ob hd1 hd2 hd3=>JF l hf tv nv bl bo iB bc ob y hd1 hd2 hd3 J hInv hstep hY;have hS:=gy hf;have Pf:=hS.og;have hr0:=hS.wV;obtain⟨LY,Oe,NY⟩:=ae ο;obtain⟨rn,hrn⟩: ∃rn:Nat,l.field.rows=rn:=⟨l.field.rows.toNat,by omega⟩;have hrt:l.field.rows.toNat=rn:=ϑ;have HCH:=aa hch;have κ:=aa hstep;have HJ:=aa h0;have HRN:=aa (af hrn hrt);have hmk:=sG rn ϑ;have Il: ∀(A B C:Obj) (v:Value) (t:TypeId),((((W.alloc A).alloc B).alloc C).alloc (.cells #[v] t)).cell? ⟨W.heap.size+1+1+1,0,none⟩=some v:=fun A B C v t=>aA (ku W A B C _);have hf3: ∀(A B C:Obj) (v:Value) (t:TypeId),((((W.alloc A).alloc B).alloc C).alloc (.cells #[v] t)).frozen? ⟨W.heap.size+1+1+1,0,none⟩=false:=fun A B C v t=>aZ (ku W A B C _) 0;have hl4:jG l tv nv= #[iv (rn:Int),iv l.field.aJ,iv l.field.left.1,iv l.field.left.2,tv,iv l.rate,iv l.box.1,iv l.box.2,nv]:=by unfold jG;rw[hrn]
 rw[hl4] at LY;clear hInv hstep hY hch h0 hS ο htl hrn hrt hl4;go_enter Tryz.func269,Tryz.ntmps269;go_wp2_with fail
 refine(callsIn_wide.1 (HCH.o (W.heap.size+1+1) W.heap.size (W.heap.size+1+1+1) (W.heap.size+1) ϑ ϑ ϑ l.field.rows.toNat 0 0 [] _ (List.replicate rn 0) ϑ rfl (by simp[HRN.o.2]) ϕ (iN.zero _) ⟨?_,?_,?_,?_⟩
  (κ.o _ _ _ _ _ HJ.o (Ext.ay zl) (fun m hm=> .inr (by simp at hm;(first|omega|(simp;omega)))) trivial))).mono ?_
 ·exact zb0
 ·rw[HRN.o.2];exact((aS _ _ _ ϕ).trans (fU _ _ _ _))
 ·exact ku _ _ _ _ _
 ·exact((aS _ _ _ ϕ).trans ((aS _ _ _ ϕ).trans (dG _ _ _)))
 ·rintro e W2 (⟨rfl,hJ2,_⟩|⟨rfl,hJ2⟩)
  ·have HJ2:=aa hJ2;clear hJ2 Il hf3 hmk;go_wp2_with fail
   go_end0
   refine⟨⟨_,rfl⟩,[W.heap.size+1,W.heap.size,W.heap.size+1+1,W.heap.size+1+1+1],.inl ?_⟩;have:=HJ2.o;rw[<-KY];simpa [nP] using this
  ·have HJ2:=aa hJ2;clear hJ2 Il hf3 hmk;exact zbG
theorem TU (l:aN) (tv nv:Value) (w:World):
 Ϝ 202 #[lv l tv nv] w (fun e w'=>e= .returned (.func (.func 269) #[] #[.pointer (some ⟨w.heap.size,0,none⟩)])/\w'=w.alloc (.cells (jG l tv nv) 49)):=by
 go_enter Tryz.func202,Tryz.ntmps202;exact zbA
end Go.Proofs.Z
namespace Go.Proofs.Z
open Go.RowKit Go.RG Go.SL Go.Shelf ig Go.TB
attribute [local go_sem] Oper.semAt_some
theorem Zd:gJ Tryz.prog 255 257 (.agg #[iv 0,iv 0,iv 0]) 3 24:=⟨Tryz.underlying255,by kernel_rfl,rfl,by omega⟩
def nN (l:aN) (k:Nat):List (List Int):=((bH l.field []).take k).foldl (fun acc t=>jW acc (j4 l.rate t)) []
def eX (l:aN):List (List Int):=nN l (bH l.field []).length
theorem KL {l:aN} {k:Nat} {x:List Int} (hx:(bH l.field [])[k]? =some x):nN l (k+1)=jW (nN l k) (j4 l.rate x):=by
 obtain⟨hk,rfl⟩:=gY.1 hx;unfold nN;rw[eT hk,List.foldl_append];rfl
theorem yG (l:aN) (k:Nat): ∀y∈nN l k,y.length=3:=fun y hy=>by
 unfold nN at hy;rw[yj] at hy;rcases hy with h|⟨t,_,rfl⟩
 ·cases h
 ·exact jJ _ _
theorem xI (l:aN): ∀k,(nN l k).length<=k:=by
 intro k;unfold nN;have: ∀(ts:List (List Int)) (acc:List (List Int)),(ts.foldl (fun acc t=>jW acc (j4 l.rate t)) acc).length<=acc.length+ts.length:=by
  intro ts;induction ts with
  |nil=>intro acc;simp
  |cons t ts ih=>
   intro acc;have h1:=ih (jW acc (j4 l.rate t));have h2:=Fq acc (j4 l.rate t);simp only[List.foldl_cons,List.length_cons];omega
 have h:=this ((bH l.field []).take k) [];simp only[List.length_nil,Nat.zero_add,eO] at h;omega
theorem F4 {l:aN} {d:List Int}:d∈eX l↔ ∃t∈bH l.field [],d=j4 l.rate t:=by
 unfold eX nN;rw[List.take_length,yj];simp
abbrev q9 (l:aN) (tv nv v:Value) (mb:Nat):Array Value:= #[iv l.field.rows,iv l.field.aJ,iv l.field.left.1,iv l.field.left.2,tv,iv l.rate,iv l.box.1,iv l.box.2,nv,v,.map (some mb)]
structure IX (B:Nat) (l:aN) (tv nv:Value) (ls:List (List Int)) (Ms:List Nat) (W:World):Prop where
 b0:W.heap[B]? =some (.cells (jG l tv nv) 49 (0,0))
 tab:W.heap[B+1]? =some (.map #[] 0)
 work: ∃v,W.heap[B+2]? =some (.cells (q9 l tv nv v (B+1)) 260 (0,0))/\W.ownsRow (B+7) 257 3 v ls.length (ls.flatMap ag)/\ ∀g,v.ownBlock=some g->g∉Ms/\g<W.heap.size
 ptr:W.heap[B+3]? =some (.cells #[.pointer (some ⟨B+2,0,none⟩)] 159 (0,0))
 b4:W.heap[B+4]? =some (.cells (jG l tv nv) 49 (0,0))
theorem IX.kept {B:Nat} {l:aN} {tv nv:Value} {ls:List (List Int)} {Ms jc:List Nat} {W W':World} (h:IX B l tv nv ls Ms W) (hs:W.heap.size<=W'.heap.size) (hk: ∀b,B<=b->b<B+5->W'.heap[b]? =W.heap[b]?)
 (ho: ∀g,B+7<=g->g<W.heap.size->g∉Ms->W'.heap[g]? =W.heap[g]?) (hM: ∀m∈jc,m∈Ms∨(W.heap.size<=m/\m<W'.heap.size)):IX B l tv nv ls jc W':=by
 obtain⟨v,h1,h2,h3⟩:=h.work;refine⟨(hk _ ϑ ϑ).trans h.b0,(hk _ ϑ ϑ).trans h.tab,⟨v,(hk _ ϑ ϑ).trans h1,bU h2 fun g hg=>ho g (aW h2 g hg).1 (aW h2 g hg).2 (h3 g hg).1,fun g hg=>⟨fun hm=>?_,by have:=(h3 g hg).2;omega⟩⟩,
  (hk _ ϑ ϑ).trans h.ptr,(hk _ ϑ ϑ).trans h.b4⟩
 exact zbk
structure zX (W:World) (wb mb:Nat) (l:aN) (tv nv v:Value) (ls:List (List Int)):Prop where
 cells:W.heap[wb]? =some (.cells (q9 l tv nv v mb) 260 (0,0))
 uH:dH W tv l.field.ax
 notes:bB W nv l.notes
 truth:aH 3 W v ls.length (ls.flatMap ag)
def Sn (l:aN) (tv nv:Value) (w:World) (e:Ending) (W:World):Prop:=
 ∃(wb mb:Nat) (v:Value),e= .returned (.pointer (some ⟨wb,0,none⟩))/\w.heap.size<=wb/\w.heap.size<=mb/\W.heap[mb]? =some (.map #[] 0)/\zX W wb mb l tv nv v (eX l)/\Ϙ w W
theorem Ry (l:aN) (tv nv:Value) (hf:ja l.field=0) (h0:0<=l.rate) (h1:l.rate<=50) (w:World) (ht:dH w tv l.field.ax) (hn:bB w nv l.notes):
 Ϝ 120 #[lv l tv nv] w (Sn l tv nv w):=by
 obtain⟨ot,ct,rfl⟩:=ht.open;obtain⟨on,cn,rfl⟩:=hn.open;have hS:=gy hf;have hr0:=hS.wV;have Pf:=hS.og;have hw3:=hS.uj;have hmm:= @run_makeMap Tryz.prog;have HF:=aa hf;have HS:=aa hS;have HT':Hid (∀W,Ϙ w W->dH W (.slice ot l.field.ax.length ct) l.field.ax):=aa (fun W hb=>ht.below hb (ah _));have HN':Hid (∀W,Ϙ w W->bB W (.slice on l.notes.length cn) l.notes):=aa (fun W hb=>hn.below hb (ah _));clear ht hn hf hS;obtain⟨tv,Gb⟩: ∃tv,Value.slice ot l.field.ax.length ct=tv:=⟨_,rfl⟩;obtain⟨nv,hnv⟩: ∃nv,Value.slice on l.notes.length cn=nv:=⟨_,rfl⟩;rw[Gb] at HT'⊢;rw[hnv] at HN'⊢;refine(callsIn_wide (n:=0)).1 ?_;refine callsIn_of_wp_marks Tryz.func120 rfl trivial ?_;simp only[Tryz.ntmps120,List.size_toArray,List.length_cons,List.length_nil,Nat.reduceAdd,Nat.reduceSub,Array.replicate_succ,Array.replicate_zero,jr,jv,List.nil_append,List.cons_append]
 gi_wp2_with fail
 refine(callsIn_wide.2 (TU l tv nv _)).mono ?_;rintro e w1 ⟨rfl,rfl⟩
 gi_wp2_with fail
 obtain⟨B,kT⟩: ∃B,w.heap.size=B:=⟨_,rfl⟩;rw[kT];obtain⟨w4,hw4⟩: ∃w4,(((((w.alloc (.cells (jG l tv nv) 49)).alloc (.map #[] 0)).alloc (.cells #[iv l.field.rows,iv l.field.aJ,iv l.field.left.1,iv l.field.left.2,tv,iv l.rate,iv l.box.1,iv l.box.2,nv,.slice none 0 0,.map (some (B+1))] 260)).alloc (.cells #[.pointer (some ⟨B+1+1,0,none⟩)] 159)).alloc (.cells (jG l tv nv) 49))=w4:=⟨_,rfl⟩;have aaB:w4.heap.size=B+5:=by rw[<-hw4];simp;omega
 have fV:Hid (Ϙ w w4):=aa (by rw[<-hw4];exact zl);have HA4:Hid (IX B l tv nv [] [] w4):=aa (by
  rw[<-hw4];refine⟨?_,?_,⟨.slice none 0 0,?_,⟨rfl,.inl ⟨rfl,rfl⟩⟩,fun g hg=>by cases hg⟩,?_,?_⟩
  ·rw[<-kT];exact(aS _ _ _ ϗ).trans ((aS _ _ _ ϗ).trans ((aS _ _ _ ϗ).trans ((aS _ _ _ ϕ).trans (av _ _))))
  ·rw[<-kT];exact(aS _ _ _ ϕ).trans ((aS _ _ _ ϕ).trans ((aS _ _ _ ϕ).trans (dG _ _ _)))
  ·rw[<-kT];exact(aS _ _ _ ϕ).trans ((aS _ _ _ ϕ).trans (fU _ _ _ _))
  ·rw[<-kT];exact(aS _ _ _ ϕ).trans (ku _ _ _ _ _)
  ·have:=av ((((w.alloc (.cells (jG l tv nv) 49)).alloc (.map #[] 0)).alloc (.cells #[iv l.field.rows,iv l.field.aJ,iv l.field.left.1,iv l.field.left.2,tv,iv l.rate,iv l.box.1,iv l.box.2,nv,.slice none 0 0,.map (some (B+1))] 260)).alloc (.cells #[.pointer (some ⟨B+1+1,0,none⟩)] 159)) (.cells (jG l tv nv) 49);simp only[bg,kT] at this;exact this)
 rw[hw4];clear hw4 hmm;have Ay: ∀b,b∈[B,B+1,B+2,B+3,B+4,B+5,B+6]↔(B<=b/\b<B+7):=fun b=>by simp;omega
 obtain⟨Os,CL⟩: ∃Os,[B,B+1,B+2,B+3,B+4,B+5,B+6]=Os:=⟨_,rfl⟩;rw[CL] at Ay;clear CL;have hcnt:=ko HS.o [];refine kL (TT l HF.o tv nv (B+4)) rfl (enters_of Tryz.func269 ϰ rfl) rfl ϕ
  (fun Ms k W=>Dx w Os Ms W/\IX B l tv nv (nN l k) Ms W)
  (fun _ _ _=>False)
  ?hInv ?mZ ?hI ?hIx ?Et ?qE ?h0
  (fun a Ms k W1 a₁ W=> ∃(x:List Int) (ob:Nat),(bH l.field [])[k]? =some x/\a₁={tmps:=(a.tmps.setIfInBounds 12 (.slice (some ⟨ob,0,none⟩) x.length x.length)).setIfInBounds 4 (.slice (some ⟨ob,0,none⟩) x.length x.length),defers:=[]}/\
    (Dx w Os Ms W/\IX B l tv nv (nN l k) Ms W)/\(ob∈Ms/\W.heap[ob]? =some (.cells (ag x).toArray 3 (0,0)))/\
    (∀m∈Ms,m∉([]:List Nat)->m<W1.heap.size->W.heap[m]? =W1.heap[m]?)/\W1.heap.size<=W.heap.size)
  ?Iu ?hassign ?hbody ?hdone ?hstop
 case hInv=>
  rintro Ms k W ⟨hF,hP⟩;exact⟨hP.b4,HT'.o W hF.ext⟩
 case mZ=>rintro cd Ms W h;exact h.elim
 case hI=>
  exact za3
 case hIx=>rintro cd Ms jc Wa Wb h;exact h.elim
 case Et=>
  rintro Ms k W r ob ⟨hF,hP⟩ hr;exact za5
 case qE=>rintro cd Ms W r ob h;exact h.elim
 case h0=>
  exact zcE
 case Iu=>
  rintro Ms k W1 a₁ W obj ⟨x,ob,hx,ha,⟨hF,hP⟩,⟨wO,hcb⟩,hk,hs⟩;have χ:=(hF.apart (B+6) ((Ay _).2 ϑ)).1;refine⟨x,ob,hx,ha,⟨hF.put obj ϑ,hP.kept ϕ (fun b h1 h2=>World.putObj_heap_other ϑ) (fun g h1 h2 h3=>World.putObj_heap_other ϑ) (fun m hm=> .inl hm)⟩,
   ⟨wO,(World.putObj_heap_other (fun e=>χ (by rw[show B+6=ob by omega];exact wO))).trans hcb⟩,
   fun m hm h0 lg=>(World.putObj_heap_other (fun e=>χ (by rw[show B+6=m by omega];exact hm))).trans (hk m hm h0 lg),by simpa using hs⟩
 case hassign=>
  rintro Ms k v W hk ⟨hF,hP⟩ ⟨ob,rfl,hcb,wO⟩ tX;have hxk:(bH l.field [])[k]? =some (bH l.field [])[k]:=bZ hk;generalize (bH l.field [])[k]=x at*
  gi_wp2
  exact⟨⟨x,ob,hxk,rfl,⟨hF,hP⟩,⟨wO,hcb⟩,fun _ _ _ _=>trivial,ah _⟩,trivial,trivial⟩
 case hbody=>
  rintro Ms k W1 a₁ W busy hk ⟨x,ob,hx,rfl,⟨hF,hP⟩,⟨wO,hcb⟩,XJ,ν⟩ ε hD;simp only[oU,List.set_cons_succ,List.set_cons_zero];have hxl:=mr (kX hx);have hxm:=(Aa (kX hx)).1;have rQ:aK W (.slice (some ⟨ob,0,none⟩) x.length x.length) x:=aH.bS (cs:=(ag x).toArray) 1 x.length hcb (by simp[ag]) (by simp only[maxLen];omega);have Po:=VD l tv nv _ x W rQ h0 h1 ϑ (fun n hn=>by
   obtain⟨i,hi,rfl⟩:=kD hn;have:=(Ce.1 hxm).2 i ϑ;rw[show x.getD i 0=x[i] from by simp[List.getD,hi]] at this
   omega)
  have hsu:=KL (l:=l) hx;have hdl:=jJ l.rate x;obtain⟨ys,Kq⟩: ∃ys,j4 l.rate x=ys:=⟨_,rfl⟩;rw[Kq] at Po hsu hdl;obtain⟨y0,y1,y2,ω⟩:=lM hdl;have Vf:Ϝ 203 #[lv l tv nv,.slice (some ⟨ob,0,none⟩) x.length x.length] W (fun e w'=>e= .returned (.agg #[iv y0,iv y1,iv y2])/\Ϙ W w'/\W.heap.size<w'.heap.size):=by rw[ω] at Po;exact Po
  obtain⟨c0,f0,l0⟩:=ae hP.b0;have aaP:k<=2500:=ϑ;have hlk:=xI l k;have h3s:=yG l k;have GH:=aa hF;have HP:=aa hP;have HDU:=aa Vf;have uq:=aa hsu;have HK:=aa (af XJ (af ε hD));have yV:=aa (af ω hdl);have H3:=aa h3s;clear hF hP Po Vf hsu hdl ω Kq XJ ε hD hx hxm hcb rQ hxl h3s;generalize nN l (k+1)=ls' at*
  generalize nN l k=ls at*
  gi_wp2_with fail
  refine(CallsIn.inRound _ (callsIn_wide.2 HDU.o)).mono ?_;rintro e w6 ⟨rfl,hb,Zg⟩;obtain⟨W7,uC⟩: ∃W7,w6.alloc (.cells #[iv y0,iv y1,iv y2] 257)=W7:=⟨_,rfl⟩;have D8:Ϙ W W7:=by rw[<-uC];exact ai hb _
  have aaX:W7.heap[w6.heap.size]? =some (.cells #[iv y0,iv y1,iv y2] 257 (0,0)):=by rw[<-uC];exact av _ _
  have adm:W7.heap.size=w6.heap.size+1:=by rw[<-uC];simp
  have χ: ∀b∈Os,b∉Ms/\b<W.heap.size:=GH.o.apart;have Φ: ∀b,B<=b->b<B+7->b∈Os:=fun b h1 h2=>(Ay b).2 ϑ;have hF7:=(GH.o.gM (Ext.ay D8) (fun m hm=> .inl hm)).1;have NC:IX B l tv nv ls Ms W7:=HP.o.kept D8.size (fun b h1 h2=>D8.block b (χ b (Φ b h1 ϑ)).2) (fun g h1 h2 h3=>D8.block g h2) (fun m hm=> .inl hm);have Zm:W7.heap[w4.heap.size+1]? =some (.loop busy):=(D8.block _ (aP.1 HK.o.2.1).1).trans HK.o.2.1;have hD7:W7.heap[w4.heap.size]? =some (.deferred (some [])):=(D8.block _ (aP.1 HK.o.2.2).1).trans HK.o.2.2;have adT: ∀m∈Ms,m∉([]:List Nat)->m<W1.heap.size->W7.heap[m]? =W1.heap[m]? :=fun m hm h0 lg=>(D8.block m ϑ).trans (HK.o.1 m hm h0 lg);obtain⟨s0,hs0⟩: ∃s0,W.heap.size=s0:=⟨_,rfl⟩;have ZW:Hid (B+7<=s0/\s0∉Ms/\s0<w6.heap.size):=aa ⟨by have:=(χ (B+6) (Φ _ ϑ ϑ)).2;omega,fun hm=>by have:=GH.o.bnd s0 hm;omega,by omega⟩;obtain⟨v,aaz,adh,UI⟩:=HP.o.work;have Β:=(D8.block _ (aP.1 aaz).1).trans aaz;have Μ:=bU adh fun g hg=>D8.block g (UI g hg).2;have hv3: ∀g,v.ownBlock=some g->g∉Ms/\g<W7.heap.size:=fun g hg=>⟨(UI g hg).1,by have:=(UI g hg).2;have:=D8.size;omega⟩;have HVO:Hid (∀g,v.ownBlock=some g->g<s0):=aa (fun g hg=>by have:=(UI g hg).2;omega)
  clear aaz adh UI;obtain⟨vo,vc,rfl⟩:=aL Μ;have hs1:W1.heap.size<=W7.heap.size:=by have:=D8.size;omega
  have vR:=aa hF7;have PT:=aa NC;have HV:=aa (af Β (af Μ hv3));have uw:=aa (af adT (af Zm hD7));have ZZ:=aa aaX;have amt:s0<w6.heap.size:=ϑ;have aew: ∀b∈Os,b∉Ms/\b<W7.heap.size:=fun b hb=>⟨(χ b hb).1,by have:=(χ b hb).2;omega⟩;clear χ;have χ:=aew;clear aew;obtain⟨c1,f1,q1⟩:=ae (show W7.heap[B+1+1+1]? =some (.cells #[.pointer (some ⟨B+1+1,0,none⟩)] 159 (0,0)) from NC.ptr);obtain⟨c2,f2,q2⟩:=ae (show W7.heap[B+1+1]? =some (.cells (q9 l tv nv (.slice vo ls.length vc) (B+1)) 260 (0,0)) from Β);obtain⟨c3,f3,q3⟩:=ae aaX;clear hb Zg c0 f0 l0 hF7 NC Β Μ hv3 adT Zm hD7 aaX GH HP HK D8 hs0
  gi_wp2_with fail
  (try rw[uC])
  clear uC;have an8:=aa adm;clear adm;rcases(List.eq_nil_or_concat ls).imp id (fun⟨A,z,e⟩=>(⟨A,z,e.trans (List.concat_eq_append)⟩: ∃A z,ls=A++[z])) with rfl|⟨A,z,rfl⟩
  ·simp only[List.length_nil] at c2 HV HVO;have OO:Hid (jW [] ys=[]++[ys]):=aa (by simp[jW]);refine dD 22 [] none [] ϰ ϰ ϰ ?_;simp only[zt];repeat ((first|refine zn ?_|refine zk ?_);simp only[zp])
   intro W hE hF;obtain⟨hc,hf⟩:=bA hE.below;have ic:=hE.size;(try simp only[bg] at ic)
   have jZ:Ext [] W7 W:=hE;have D7:IX B l tv nv ([]) Ms W:=PT.o.kept jZ.size (fun b h1 h2=>jZ.block b (by have:=(χ b (Φ b h1 ϑ)).2;omega) ϕ) (fun g h1 h2 h3=>jZ.block g h2 ϕ) (fun m hm=> .inl hm)
   have CJ:=(jZ.block _ ϑ ϕ).trans ZZ.o;obtain⟨v8,qC,qB,xy⟩:=D7.work;have Cr:v8= .slice (vo) (0) vc:=zaR;rw[Cr] at qC qB xy;clear Cr;(try simp only[List.length_nil] at qB)
   (try simp only[bR,List.length_cons,List.length_nil,Nat.zero_add] at qB)
   obtain⟨p1,p2,p3⟩:=ae (show W.heap[B+1+1+1]? =some (.cells #[.pointer (some ⟨B+1+1,0,none⟩)] 159 (0,0)) from D7.ptr);obtain⟨p4,p5,p6⟩:=ae (show W.heap[B+1+1]? =some (.cells (q9 l tv nv (.slice (vo) (0) vc) (B+1)) 260 (0,0)) from qC);obtain⟨p7,p8,p9⟩:=ae CJ;have aaC:=jZ.size;have GA:=aa D7;have Ea:=aa (af qC (af qB xy));have gP:=aa jZ;clear hE hF hc hf jZ D7 qC qB xy CJ c1 f1 q1 c2 f2 q2 c3 f3 q3 ic;obtain⟨gx,hgx,X0,hgx2,yx,XZ⟩: ∃gx,(∀g,(Value.slice (vo) (0) vc).ownBlock=some g->g=gx)/\B+7<=gx/\gx<W.heap.size/\gx∉Ms/\gx≠w6.heap.size:=by
    cases xA:(Value.slice (vo) (0) vc).ownBlock with
    |none=>exact⟨s0,(fun g hg=>by cases hg),ZW.o.1,by omega,ZW.o.2.1,by omega⟩
    |some g=>
     exact zbP
   have HG:=aa hgx;clear hgx;have z1:gx≠B+1+1:=ϑ;have z2:gx≠B+1+1+1:=ϑ;have z1':B+1+1≠gx:=ϑ;have z2':B+1+1+1≠gx:=ϑ;have z3':w6.heap.size≠gx:=ϑ
   gi_wp2_with fail
   refine dD 8 [gx] (some 7) [(6,Spec.slice W.heap.size #[iv y0,iv y1,iv y2] 257 1),(7,⟨fun _ v=> ∃o c,v= .slice o (0+1) c,fun _ v Wx=>Wx.ownsRow (B+7) 257 3 v (0+1) ((([])++[ys]).flatMap ag)/\(∀g,v.ownBlock=some g->g=gx∨W.heap.size<=g)⟩)] ϰ ϰ ϰ ?_;simp only[zt];repeat ((first|refine zn ?_|refine zk ?_);simp only[zp])
   refine dI W.heap.size _ _ 1 ϱ (ah _) ϱ (by simpa using hgx2) ϕ (fun W hW=>by go_simp;try rfl) (fun b6=>?_);simp only[zp];refine bn _ ϱ ϱ (by exact⟨.slice none (0+1) 0,none,0,rfl⟩) (fun Wa hE hF=>?_) (fun v Wa Wb ho hE=>?_) (fun v hv=>?_)
   ·exact zcw
   ·exact zaP
   obtain⟨o7,c7,rfl⟩:=hv;simp only[zp];intro W9 hE hF;have G8:Ext [gx] W W9:=hE;obtain⟨Ph,Er⟩:=hF _ (bu _);have xx:W9.heap[B+1+1]? =some (.cells (q9 l tv nv (.slice (vo) (0) vc) (B+1)) 260 (0,0)):=(G8.block _ p6 (by simpa using z1')).trans Ea.o.1;obtain⟨c9,f9,l9⟩:=ae xx;have yX:=aa G8;have ui:=aa (af Ph (af Er xx));clear hE hF G8 Ph Er p1 p2 p4 p5 p7 p8 xx
   gi_wp2_with fail
   obtain⟨v',hv'⟩: ∃v',Value.slice o7 (0+1) c7=v':=⟨_,rfl⟩;rw[hv'] at ui⊢;have tJ:(W9.setCell ⟨B+1+1,9,none⟩ v').heap.size=W9.heap.size:=by simp[World.setCell]
   have hs9:=yX.o.size;have Γ: ∀b,b<W.heap.size->b≠gx->b≠B+1+1->(W9.setCell ⟨B+1+1,9,none⟩ v').heap[b]? =W.heap[b]? :=fun b hb h1 h2=>
    (dm _ _ _ _ h2).trans (yX.o.block b hb (by simpa using h1))
   have Av: ∀b,b<W7.heap.size->b≠gx->b≠B+1+1->(W9.setCell ⟨B+1+1,9,none⟩ v').heap[b]? =W7.heap[b]? :=fun b hb h1 h2=>(Γ b ϑ h1 h2).trans (gP.o.block b hb ϕ);have Yk:Dx w Os Ms (W9.setCell ⟨B+1+1,9,none⟩ v'):=vR.o.own (vR.o.ext.trans ⟨yX.o.os.trans gP.o.os,yX.o.tape.trans gP.o.tape,yX.o.output.trans gP.o.output,by rw[tJ];omega,fun b hb=>(dm _ _ _ _ (by show b≠B+1+1;omega)).trans ((yX.o.block b (by have:=vR.o.ext.size;omega) ϗ).trans (gP.o.block b (by have:=vR.o.ext.size;omega) ϕ))⟩) (by rw[tJ];omega);have hlen1:(([])++[ys]).length=0+1:=ϕ;exact zar
  ·have hz3:=H3.o z ϕ;obtain⟨gb,gc,hvv,hgb,Nw,Ih⟩:=zB (A:=A) (z:=z) (by simpa using HV.o.2.1) (fun x hx=>H3.o x (by simp[hx])) hz3;have hcap:vo=some ⟨gb,0,none⟩:=by simp at hvv;exact hvv.1
   subst hcap;have hzl:(ag z).length=3:=by simp[ag,hz3]
   (try simp only[bR,List.length_cons,List.length_nil,Nat.zero_add] at c2)
   (try simp only[bR,List.length_cons,List.length_nil,Nat.zero_add] at HV)
   (try simp only[bR,List.length_cons,List.length_nil,Nat.zero_add] at HVO)
   (try simp only[bR,List.length_cons,List.length_nil,Nat.zero_add] at hlk)
   have hAI:((A.length:Int)+1==0)=false:=by simp;omega
   have hA0: ¬((A.length:Int)+1=0):=ϑ;have hA1:((A.length:Int)+1).toNat=A.length+1:=ϑ;have hAm:(A.length:Int)+1-1=A.length:=ϑ;have hy3:ys.length=3:=yV.o.2;rcases hq:(z==ys) with _|_
   ·have OO:Hid (jW (A++[z]) ys=(A++[z])++[ys]):=aa (by
     unfold jW;rw[aj];simp only[List.getLast?_append,List.getLast?_singleton];intro e;simp at e;subst e;simp at hq)
    refine dD 22 [] none [] ϰ ϰ ϰ ?_;simp only[zt];repeat ((first|refine zn ?_|refine zk ?_);simp only[zp])
    refine eU ϱ (.pointer (some ⟨gb,A.length*3,none⟩)) ϱ (fun W hW=>by go_simp;(try simp(disch:=omega) only[IntWalk.i64_in]);(try rw[aB ϑ]);(try simp);(try (intro hx;exfalso;omega))) ?_
    simp only[zp];refine eU ϱ (.agg (ag z).toArray) ϱ (fun W hW=>jo 257 _ ϱ gb (A.length*3) ϱ (ag z) _ (fun j u hj=>(hW gb _ Nw ϕ).trans (Ih j u hj)) Tryz.underlying257 rfl (by rw[hzl];kernel_rfl)) ?_;simp only[zp];refine eU ϱ (.agg #[iv y0,iv y1,iv y2]) ϱ (fun W hW=>by go_simp;try rfl) ?_;simp only[zp];refine eU ϱ (.bool true) ϱ (fun W hW=>(lU 257 3 _ 3 _ _ ϱ Tryz.underlying257 Tryz.underlying3 (by intro w;go_simp) ϰ z [y0,y1,y2] ϱ ϱ hz3 ϱ).trans (by rw[yV.o.1] at hq;rw[hq];rfl)) ?_;simp only[zp];repeat ((first|refine zn ?_|refine zk ?_);simp only[zp])
    intro W hE hF;obtain⟨hc,hf⟩:=bA hE.below;have ic:=hE.size;(try simp only[bg] at ic)
    have jZ:Ext [] W7 W:=hE;have D7:IX B l tv nv (A++[z]) Ms W:=PT.o.kept jZ.size (fun b h1 h2=>jZ.block b (by have:=(χ b (Φ b h1 ϑ)).2;omega) ϕ) (fun g h1 h2 h3=>jZ.block g h2 ϕ) (fun m hm=> .inl hm)
    have CJ:=(jZ.block _ ϑ ϕ).trans ZZ.o;obtain⟨v8,qC,qB,xy⟩:=D7.work;have Cr:v8= .slice ((some ⟨gb,0,none⟩)) ((A.length+1)) vc:=zaR;rw[Cr] at qC qB xy;clear Cr;(try simp only[List.length_nil] at qB)
    (try simp only[bR,List.length_cons,List.length_nil,Nat.zero_add] at qB)
    obtain⟨p1,p2,p3⟩:=ae (show W.heap[B+1+1+1]? =some (.cells #[.pointer (some ⟨B+1+1,0,none⟩)] 159 (0,0)) from D7.ptr);obtain⟨p4,p5,p6⟩:=ae (show W.heap[B+1+1]? =some (.cells (q9 l tv nv (.slice ((some ⟨gb,0,none⟩)) ((A.length+1)) vc) (B+1)) 260 (0,0)) from qC);obtain⟨p7,p8,p9⟩:=ae CJ;have aaC:=jZ.size;have GA:=aa D7;have Ea:=aa (af qC (af qB xy));have gP:=aa jZ;clear hE hF hc hf jZ D7 qC qB xy CJ c1 f1 q1 c2 f2 q2 c3 f3 q3 ic;obtain⟨gx,hgx,X0,hgx2,yx,XZ⟩: ∃gx,(∀g,(Value.slice ((some ⟨gb,0,none⟩)) ((A.length+1)) vc).ownBlock=some g->g=gx)/\B+7<=gx/\gx<W.heap.size/\gx∉Ms/\gx≠w6.heap.size:=by
     cases xA:(Value.slice ((some ⟨gb,0,none⟩)) ((A.length+1)) vc).ownBlock with
     |none=>exact⟨s0,(fun g hg=>by cases hg),ZW.o.1,by omega,ZW.o.2.1,by omega⟩
     |some g=>
      exact zbP
    have HG:=aa hgx;clear hgx;have z1:gx≠B+1+1:=ϑ;have z2:gx≠B+1+1+1:=ϑ;have z1':B+1+1≠gx:=ϑ;have z2':B+1+1+1≠gx:=ϑ;have z3':w6.heap.size≠gx:=ϑ
    gi_wp2_with fail
    refine dD 8 [gx] (some 7) [(6,Spec.slice W.heap.size #[iv y0,iv y1,iv y2] 257 1),(7,⟨fun _ v=> ∃o c,v= .slice o ((A.length+1)+1) c,fun _ v Wx=>Wx.ownsRow (B+7) 257 3 v ((A.length+1)+1) (((A++[z])++[ys]).flatMap ag)/\(∀g,v.ownBlock=some g->g=gx∨W.heap.size<=g)⟩)] ϰ ϰ ϰ ?_;simp only[zt];repeat ((first|refine zn ?_|refine zk ?_);simp only[zp])
    refine dI W.heap.size _ _ 1 ϱ (ah _) ϱ (by simpa using hgx2) ϕ (fun W hW=>by go_simp;try rfl) (fun b6=>?_);simp only[zp];refine bn _ ϱ ϱ (by exact⟨.slice none ((A.length+1)+1) 0,none,0,rfl⟩) (fun Wa hE hF=>?_) (fun v Wa Wb ho hE=>?_) (fun v hv=>?_)
    ·exact zcw
    ·exact zaP
    obtain⟨o7,c7,rfl⟩:=hv;simp only[zp];intro W9 hE hF;have G8:Ext [gx] W W9:=hE;obtain⟨Ph,Er⟩:=hF _ (bu _);have xx:W9.heap[B+1+1]? =some (.cells (q9 l tv nv (.slice ((some ⟨gb,0,none⟩)) ((A.length+1)) vc) (B+1)) 260 (0,0)):=(G8.block _ p6 (by simpa using z1')).trans Ea.o.1;obtain⟨c9,f9,l9⟩:=ae xx;have yX:=aa G8;have ui:=aa (af Ph (af Er xx));clear hE hF G8 Ph Er p1 p2 p4 p5 p7 p8 xx
    gi_wp2_with fail
    obtain⟨v',hv'⟩: ∃v',Value.slice o7 ((A.length+1)+1) c7=v':=⟨_,rfl⟩;rw[hv'] at ui⊢;have tJ:(W9.setCell ⟨B+1+1,9,none⟩ v').heap.size=W9.heap.size:=by simp[World.setCell]
    have hs9:=yX.o.size;have Γ: ∀b,b<W.heap.size->b≠gx->b≠B+1+1->(W9.setCell ⟨B+1+1,9,none⟩ v').heap[b]? =W.heap[b]? :=fun b hb h1 h2=>
     (dm _ _ _ _ h2).trans (yX.o.block b hb (by simpa using h1))
    have Av: ∀b,b<W7.heap.size->b≠gx->b≠B+1+1->(W9.setCell ⟨B+1+1,9,none⟩ v').heap[b]? =W7.heap[b]? :=fun b hb h1 h2=>(Γ b ϑ h1 h2).trans (gP.o.block b hb ϕ);have Yk:Dx w Os Ms (W9.setCell ⟨B+1+1,9,none⟩ v'):=vR.o.own (vR.o.ext.trans ⟨yX.o.os.trans gP.o.os,yX.o.tape.trans gP.o.tape,yX.o.output.trans gP.o.output,by rw[tJ];omega,fun b hb=>(dm _ _ _ _ (by show b≠B+1+1;omega)).trans ((yX.o.block b (by have:=vR.o.ext.size;omega) ϗ).trans (gP.o.block b (by have:=vR.o.ext.size;omega) ϕ))⟩) (by rw[tJ];omega);have hlen1:((A++[z])++[ys]).length=(A.length+1)+1:=ϕ;exact zar
   ·have OO:Hid (jW (A++[z]) ys=A++[z]):=aa (by
     unfold jW;rw[aB];simp only[List.getLast?_append,List.getLast?_singleton];have:z=ys:=by simpa using hq
     rw[this];rfl)
    refine dD 22 [] none [] ϰ ϰ ϰ ?_;simp only[zt];repeat ((first|refine zn ?_|refine zk ?_);simp only[zp])
    refine eU ϱ (.pointer (some ⟨gb,A.length*3,none⟩)) ϱ (fun W hW=>by go_simp;(try simp(disch:=omega) only[IntWalk.i64_in]);(try rw[aB ϑ]);(try simp);(try (intro hx;exfalso;omega))) ?_
    simp only[zp];refine eU ϱ (.agg (ag z).toArray) ϱ (fun W hW=>jo 257 _ ϱ gb (A.length*3) ϱ (ag z) _ (fun j u hj=>(hW gb _ Nw ϕ).trans (Ih j u hj)) Tryz.underlying257 rfl (by rw[hzl];kernel_rfl)) ?_;simp only[zp];refine eU ϱ (.agg #[iv y0,iv y1,iv y2]) ϱ (fun W hW=>by go_simp;try rfl) ?_;simp only[zp];refine eU ϱ (.bool false) ϱ (fun W hW=>(lU 257 3 _ 3 _ _ ϱ Tryz.underlying257 Tryz.underlying3 (by intro w;go_simp) ϰ z [y0,y1,y2] ϱ ϱ hz3 ϱ).trans (by rw[yV.o.1] at hq;rw[hq];rfl)) ?_;simp only[zp];repeat ((first|refine zn ?_|refine zk ?_);simp only[zp])
    intro W hE hF;obtain⟨hc,hf⟩:=bA hE.below;have ic:=hE.size;(try simp only[bg] at ic)
    have jZ:Ext [] W7 W:=hE;have gP:=aa jZ;clear hE hF hc hf jZ
    gi_wp2_with fail
    have hs8:=gP.o.size;refine⟨⟨?_,?_,fun m hm h0 lg=>?_,by omega⟩,(vR.o.gM (gP.o.more ϕ) (fun m hm=> .inl hm)).1,?_⟩
    ·exact(gP.o.block _ (aP.1 uw.o.2.1).1 ϕ).trans uw.o.2.1
    ·exact(gP.o.block _ (aP.1 uw.o.2.2).1 ϕ).trans uw.o.2.2
    ·exact(gP.o.block m ϑ ϕ).trans (uw.o.1 m hm h0 lg)
    ·rw[uq.o,OO.o];exact PT.o.kept gP.o.size (fun b h1 h2=>gP.o.block b (by have:=(χ b (Φ b h1 ϑ)).2;omega) ϕ) (fun g h1 h2 h3=>gP.o.block g h2 ϕ) (fun m hm=> .inl hm)
 case hdone=>
  rintro Ms W ⟨hF,hP⟩ hD tX;obtain⟨v,Β,Μ,hv3⟩:=hP.work;obtain⟨c1,f1,l1⟩:=ae (show W.heap[B+1+1+1]? =some (.cells #[.pointer (some ⟨B+1+1,0,none⟩)] 159 (0,0)) from hP.ptr);have hFE:=(hF.put (Obj.deferred none) (r:=w4.heap.size) ϑ).ext;have HX:=aa (af hFE (af Β (af Μ hP.tab)));clear hF hP Β Μ hv3 hFE
  gi_wp2_with fail
  refine⟨by simp,.inl ⟨_,_,rfl,run_takeDeferred hD,?_⟩⟩;refine⟨.pointer (some ⟨B+1+1,0,none⟩),by simp[results,Tryz.results120,go_sem],B+1+1,B+1,v,rfl,by omega,by omega,?_,⟨?_,HT'.o _ HX.o.1,HN'.o _ HX.o.1,?_⟩,HX.o.1⟩
  ·exact(World.putObj_heap_other ϑ).trans HX.o.2.2.2
  ·exact(World.putObj_heap_other ϑ).trans HX.o.2.1
  ·exact aH.bV (bU HX.o.2.2.1 fun g hg=>World.putObj_heap_other (by have:=(aW HX.o.2.2.1 g hg).1;omega))
 case hstop=>rintro cd Ms W h;exact h.elim
abbrev SY (k:Int×Int):Value:= .agg #[iv k.1,iv k.2]
theorem Hz:SE Tryz.prog 324 SY (fun _=>True) where
 find w x es:=run_findKey_eq w ϰ x es
 check b a w _:=by
  unfold Instr.checkKey;simp[go_sem];simp only[Db,Result.andThen_ok]
 eq a b w _ _:=by
  unfold Op.equal Op.maxDepth;simp[go_sem];obtain⟨a1,a2⟩:=a;obtain⟨b1,b2⟩:=b;by_cases h1:a1=b1 <;>by_cases h2:a2=b2 <;>simp[h1,h2]
 bits a _:=by simp[Instr.sameBits]
theorem Z9:gJ Tryz.prog 47 188 (xv (0,0,0)) 3 24:=⟨Tryz.underlying47,by kernel_rfl,rfl,by omega⟩
theorem zP {w:World} {o:Option Addr} {n c:Nat} {ls:List (List Int)} (h:aH 3 w (.slice o n c) ls.length (ls.flatMap ag)) (h3: ∀x∈ls,x.length=3) {k:Nat} (hk:k<ls.length):
 ∃b off y0 y1 y2,o=some ⟨b,off,none⟩/\b<w.heap.size/\ls[k]=[y0,y1,y2]/\w.cell? ⟨b,off+k*3,none⟩=some (iv y0)/\w.cell? ⟨b,off+k*3+1,none⟩=some (iv y1)/\w.cell? ⟨b,off+k*3+2,none⟩=some (iv y2):=by
 obtain⟨hl,o',c',hv,h1,h2,hn,h4⟩:=h;cases hv;obtain⟨y0,y1,y2,ω⟩:=lM (h3 _ (bK hk));cases o with
 |none=>have:=hn rfl;omega
 |some a=>
  obtain⟨b,off,sp⟩:=a;obtain⟨hs,hc⟩:=h4 _ rfl;simp only at hs hc;subst hs;have g: ∀j (hj:j<3),(ls.flatMap ag)[k*3+j]? =[iv y0,iv y1,iv y2][j]? :=fun j hj=>by
   have: ∀(ls:List (List Int)) (k:Nat) (hk:k<ls.length),(∀x∈ls,x.length=3)->(ls.flatMap ag)[k*3+j]? =(ag ls[k])[j]? :=by
    intro ls;induction ls with
    |nil=>intro k hk;simp at hk
    |cons x ls ih=>
     intro k hk h3;have hx:(ag x).length=3:=by simp[ag,h3 x ϕ]
     rw[List.flatMap_cons];cases k with
     |zero=>simp only[Nat.zero_mul,Nat.zero_add,List.getElem_cons_zero];rw[rP ϑ]
     |succ k=>
      rw[lI ϑ,hx,show(k+1)*3+j-3=k*3+j from by omega];simpa using ih k (by simpa using hk) (fun y hy=>h3 y (by simp[hy]))
   rw[this ls k hk h3,ω];rfl
  exact zbf
theorem zX.lt {W:World} {wb mb:Nat} {l:aN} {tv nv v:Value} {ls:List (List Int)} (h:zX W wb mb l tv nv v ls):wb<W.heap.size:=(aP.1 h.cells).1
theorem zX.below {W W':World} {wb mb:Nat} {l:aN} {tv nv v:Value} {ls:List (List Int)} (h:zX W wb mb l tv nv v ls) {B:Nat} (hb:Below B W W') (hB:W.heap.size<=B):zX W' wb mb l tv nv v ls:=
 ⟨(hb.block _ (by have:=h.lt;omega)).trans h.cells,h.uH.below hb hB,h.notes.below hb hB,h.truth.below hb hB⟩
theorem zX.table {W W':World} {wb mb:Nat} {l:aN} {tv nv v:Value} {ls:List (List Int)} (h:zX W wb mb l tv nv v ls) (hE:Ext [mb] W W') (hn: ∀o,W.cell? ⟨mb,o,none⟩=none):zX W' wb mb l tv nv v ls:=by
 have hm: ∀x∈[mb], ∀o,W.cell? ⟨x,o,none⟩=none:=fun x hx o=>by have e:x=mb:=(by simpa using hx);rw[e];exact hn o
 refine⟨(hE.block _ h.lt (fun e=>?_)).trans h.cells,h.uH.eZ hE hm,h.notes.eZ hE hm,h.truth.eZ hE hm⟩;have e:wb=mb:=by simpa using e
 have:=hn 0;rw[<-e] at this;simp[World.cell?,h.cells] at this
theorem sM {P:Program} {o:Oper} {ρ:Operand->Value} {W W':World} {R:Value->World->Prop} (he:(execOp ρ o).run P W= .ok .skip W') (h:R undef W'):Does P o ρ W R:=by
 unfold Does;rw[he];exact h
theorem KH {mb:Nat} {w W W':World} (h:Ext [mb] w W) (hb:Below w.heap.size W W'):Ext [mb] w W':=
 ⟨hb.os.trans h.os,hb.tape.trans h.tape,hb.output.trans h.output,gI h.size hb.size,fun k hk hm=>(hb.block k hk).trans (h.block k hk hm)⟩
structure pI (ns:List AV) (T:List ((Int×Int)×dF)) (done:List (Int×Int)):Prop where
 only: ∀key r,TB.look key T=some r->r=kn ns key
 has: ∀key∈done, ∃r,TB.look key T=some r
theorem pI.nil (ns:List AV):pI ns [] []:=⟨fun key r h=>(by cases h),fun key h=>(by cases h)⟩
theorem pI.new {ns:List AV} {T:List ((Int×Int)×dF)} {done:List (Int×Int)} (h:pI ns T done) (key:Int×Int):pI ns (TB.store key (kn ns key) T) (done++[key]):=by
 refine⟨fun k r hl=>?_,fun k hk=>?_⟩
 ·rw[tC] at hl;split at hl
  ·rename_i e;cases hl;rw[e]
  ·exact h.only k r hl
 ·rw[tC];by_cases e:k=key
  ·exact⟨_,aB e⟩
  ·rw[aj e];rcases gz.1 hk with h1|h1
   ·exact h.has k h1
   ·exact absurd (by simpa using h1) e
theorem pI.old {ns:List AV} {T:List ((Int×Int)×dF)} {done:List (Int×Int)} (h:pI ns T done) (key:Int×Int) {r:dF} (hl:TB.look key T=some r):pI ns T (done++[key]):=
 ⟨h.only,fun k hk=>by
   rcases gz.1 hk with h1|h1
   ·exact h.has k h1
   ·have:k=key:=by simpa using h1
    rw[this];exact⟨r,hl⟩⟩
def keysOf (d:List Int) (i:Nat):List (Int×Int):=(List.range i).map fun(j:Nat)=>((j:Int),d.getD j 0)
def qA (n:Nat) (ls:List (List Int)) (k:Nat):List (Int×Int):=(ls.take k).flatMap fun d=>keysOf d n
theorem Ki {n:Nat} {ls:List (List Int)} {k:Nat} (hk:k<ls.length):qA n ls (k+1)=qA n ls k++keysOf ls[k] n:=by
 unfold qA;rw[eT hk,rO];simp
theorem Kj (d:List Int) (i:Nat):keysOf d (i+1)=keysOf d i++[((i:Int),d.getD i 0)]:=by
 unfold keysOf;rw[List.range_succ,List.map_append];rfl
theorem Jg (l:aN) (hS:oV l.field) (h5:l.notes.length<=5) (tv nv v ov:Value) (out:List Int) (wb mb:Nat) (ls:List (List Int)) (T0:List ((Int×Int)×dF)) (w:World) (hw:zX w wb mb l tv nv v ls) (hT:TabAt SY rv (fun _=>True) w mb T0)
 (ho:aK w ov out) (h3: ∀x∈ls,x.length=3) (Ib:ls.length<=2500):
 Ϝ 122 #[.pointer (some ⟨wb,0,none⟩),ov] w (fun e w'=>(∃u,e= .returned u)/\Ext [mb] w w'/\ ∃T,TabAt SY rv (fun _=>True) w' mb T/\pI (Al l out) T (qA l.field.aJ.toNat ls ls.length)):=by
 obtain⟨on,cn,rfl⟩:=hw.notes.open;obtain⟨ot,ct,rfl⟩:=hw.uH.open;obtain⟨vo,vc,rfl⟩:=hw.truth.open;obtain⟨oo,oc,rfl⟩:=ho.open;have hwn:=hw.lt;have hmb:=hT.lt;have aaF:=hT.kQ;obtain⟨c1,f1,l1⟩:=ae hw.cells;obtain⟨W1,hrun,hT1,hE1⟩:=RV (P:=Tryz.prog) (kv:=SY) (vv:=rv) (ok:=fun _=>True) (mt:=258) (k:=324) (e:=46) ϰ 0 hT;have hw1:=hw.table hE1 aaF;have Ν: ∀x∈[mb], ∀o,w.cell? ⟨x,o,none⟩=none:=fun x hx o=>by have e:x=mb:=(by simpa using hx);rw[e];exact aaF o
 have ho1:=ho.eZ hE1 Ν;have hwm:wb≠mb:=hT.ne hw.cells;have HO:=aa (af ho ho1);have HW:=aa hw;have HW1:=aa hw1;have HT1:=aa (af hT1 hE1);have H3:=aa h3;have hw0:=hS.wU;have hw3:=hS.uj;obtain⟨n,hn⟩: ∃n:Nat,l.field.aJ=n:=⟨l.field.aJ.toNat,by omega⟩;have HN:=aa hn;have Il:n<=3:=ϑ;have hnt:l.field.aJ.toNat=n:=ϑ;rw[hnt];clear hw hT ho hw1 hT1 hE1 hS hn hnt hw0 hw3 Ν h3;go_enter Tryz.func122,Tryz.ntmps122;go_upto_region 2 with(fail)
 obtain⟨c1',f1',l1'⟩:=ae HW1.o.cells;have amL:=HT1.o.1.lt;have hsz1:=HT1.o.2.size;clear c1 f1 hrun;go_wp2_with fail
 go_loopw [4,26] (fun v4 u wr=> ∃k:Nat,k<=l.notes.length/\u= .int .i64 k/\(∃lo lc,v4= .slice lo (jT l out k).length lc/\wr.ownsRow W1.heap.size 188 3 (.slice lo (jT l out k).length lc) (jT l out k).length (aU (jT l out k)))/\Ϙ W1 wr) (fun _ u _=>l.notes.length-(intOf u).toNat)
 case atStart=>exact⟨0,bD _,rfl,⟨none,0,rfl,⟨rfl,.inl ⟨rfl,rfl⟩⟩⟩,aC _ _⟩
 case round=>
  obtain⟨k,hk,rfl,⟨lo,lc,rfl,η⟩,hB⟩:=hrel;have Δ:=HW1.o.below hB (ah _);by_cases tX:k<l.notes.length
  ·obtain⟨b,off,hvv,hb,hc0,hc1,hc2⟩:=bB.cell Δ.notes tX;cases hvv;have Pm:l.notes.getD k (0,(0,0))=l.notes[k]:=by simp[List.getD,tX]
   have hcon:=gD out (.slice oo out.length oc) (k:Int);obtain⟨q,hq⟩: ∃q,out.contains (k:Int)=q:=⟨_,rfl⟩;rw[hq] at hcon;have hll:=Ck l out k;have HC:=aa hcon;have HQ:=aa (af hq Pm);have HOW:=aa (af η hB);generalize l.notes[k]=x at*
   clear Δ η hB hcon hq Pm;cases q
   ·have hsu:=Na (l:=l) HQ.o.1;rw[HQ.o.2] at hsu;have uq:=aa hsu;clear hsu;go_upto_region 5 with(fail)
    refine dz fun W5 vD=>?_;have uD:Ϙ wr W5:=by rw[vD];exact zl
    have hk5:W5.heap[wr.heap.size]? =some (.cells #[iv x.1,iv x.2.1,iv x.2.2] 188 (0,0)):=by rw[vD];exact av _ _
    have rQ:=HO.o.2.below (aV HOW.o.2 uD) (ah _);have mO:=aa (af uD (af hk5 rQ));clear vD uD hk5 rQ hc0 hc1 hc2 hb;go_wp2_with fail
    refine(HC.o W5 mO.o.2.2).mono ?_;rintro e W6 ⟨rfl,hb6⟩;have Gc:=(hb6.block _ (aP.1 mO.o.2.1).1).trans mO.o.2.1;obtain⟨e1,e2,e3⟩:=ae Gc;have nZ:=aa (aV (aV HOW.o.2 mO.o.1) hb6);have U2:=az (Ms:=[]) (az (Ms:=[]) HOW.o.1 (Ext.ay mO.o.1) ϕ) (Ext.ay hb6) ϕ;have I4:=aa U2;clear hb6 Gc U2;go_wp2_with (at_builtin;refine eP rfl _ _ Z9 rfl W1.heap.size (.slice lo (jT l out k).length lc) (jT l out k).length (aU (jT l out k)) rfl ?_ (.slice (some ⟨W6.heap.size,0,none⟩) 1 1) 1 [iv x.1,iv x.2.1,iv x.2.2] rfl ?_ (by simp[Value.oneCell']) ϑ ϑ (by have:=nZ.o.size;simp;omega) ?_)
    ·exact az (Ms:=[]) I4.o (Ext.ay ((aC _ _).alloc (ah _) _)) ϕ
    ·exact aH.bS 3 1 (av _ _) rfl ϖ
    ·intro v' W7 Fw TF;obtain⟨o7,c7,rfl⟩:=aL Fw;have ZX:=aa Fw;have HG7:=aa TF;clear Fw TF;go_wp2_with fail
     go_roundw
     case rel=>
      refine⟨k+1,by omega,by go_num,⟨o7,c7,by rw[uq.o];simp,?_⟩,?_⟩
      ·rw[uq.o];have:=ZX.o;simpa [aU,rO] using this
      ·exact Below.grown (ai nZ.o _) HG7.o (by have:=nZ.o.size;simp;omega) (fun k e=>(aW I4.o k e).1)
     case measure=>simp[intOf];omega
   ·have hsu:=Q3 (l:=l) HQ.o.1;have uq:=aa hsu;clear hsu;go_upto_region 5 with(fail)
    refine dz fun W5 vD=>?_;have uD:Ϙ wr W5:=by rw[vD];exact zl
    have rQ:=HO.o.2.below (aV HOW.o.2 uD) (ah _);have mO:=aa (af uD rQ);clear vD uD rQ hc0 hc1 hc2 hb;go_wp2_with fail
    refine(HC.o W5 mO.o.2).mono ?_;rintro e W6 ⟨rfl,hb6⟩;have nZ:=aa (aV (aV HOW.o.2 mO.o.1) hb6);have U2:=az (Ms:=[]) (az (Ms:=[]) HOW.o.1 (Ext.ay mO.o.1) ϕ) (Ext.ay hb6) ϕ;have I4:=aa U2;clear hb6 U2;go_wp2_with fail
    go_roundw
    case rel=>exact⟨k+1,by omega,by go_num,⟨lo,lc,by rw[uq.o],by rw[uq.o];exact I4.o⟩,nZ.o⟩
    case measure=>simp[intOf];omega
  ·have XI:k=l.notes.length:=ϑ;subst XI;have hll:=Ck l out l.notes.length;have Td:Ext [mb] w wr:=KH HT1.o.2 (hB.mono hsz1);have HOW:=aa (af η hB);have HEW:=aa Td;have HT:=aa (HT1.o.1.below hB (ah _));have HWR:=aa Δ;have hwl:=Δ.lt;obtain⟨d1,g1,m1⟩:=ae Δ.cells;obtain⟨ns,hns⟩: ∃ns,jT l out l.notes.length=ns:=⟨_,rfl⟩;have adE:Al l out=ns:=hns;have HNS:=aa adE;rw[hns] at hll HOW;rw[hns];clear η hB Δ Td hns adE c1' f1';have U4:=HT.o.kQ;have hleft:bB wr (.slice lo ns.length lc) ns:=aH.bV HOW.o.1;have HLF:=aa hleft;have Cw:=HT.o.lt;have Gg:Hid (∀W,Ext [mb] wr W->zX W wb mb l (.slice ot l.field.ax.length ct) (.slice on l.notes.length cn) (.slice vo ls.length vc) ls/\bB W (.slice lo ns.length lc) ns):=aa (fun W hE=>⟨HWR.o.table hE U4,HLF.o.eZ hE (fun x hx o=>by have e:x=mb:=(by simpa using hx);rw[e];exact U4 o)⟩);have HWS:=aa HOW.o.2.size;have hLO: ∀g,(Value.slice lo ns.length lc).ownBlock=some g->g<wr.heap.size:=fun g hg=>(aW HOW.o.1 g hg).2;clear hleft aaF U4;obtain⟨W2,hW2⟩: ∃W2,wr=W2:=⟨_,rfl⟩;rw[hW2] at Gg HT HEW hLO;have HLO:=aa hLO;clear hLO;have Ra:Hid (Ext [mb] W2 wr):=aa (by rw[hW2];exact Ext.refl _ _);have HTW:Hid (TabAt SY rv (fun _=>True) wr mb ([]:List ((Int×Int)×dF))):=aa (by rw[hW2];exact HT.o);clear hW2;go_wp2_with fail
   go_loopw [45] (fun u wr=> ∃k:Nat,k<=ls.length/\u= .int .i64 k/\Ext [mb] W2 wr/\ ∃T,TabAt SY rv (fun _=>True) wr mb T/\pI ns T (qA n ls k)) (fun u _=>ls.length-(intOf u).toNat)
   case atStart=>exact⟨0,bD _,rfl,Ra.o,[],HTW.o,pI.nil _⟩
   case round=>
    obtain⟨k,hk,rfl,hE,T,hT,Tc⟩:=hrel;obtain⟨Δ,hlf⟩:=Gg.o _ hE;by_cases tX:k<ls.length
    ·obtain⟨d1,g1,m1⟩:=ae Δ.cells;obtain⟨b,off,y0,y1,y2,hvv,hb,ω,r0,r1,r2⟩:=zP Δ.truth H3.o tX;subst hvv;have Γ:=Ki (n:=n) tX;generalize ls[k]=d at*
     have HKS:=aa Γ;have yV:=aa ω;have HX:=aa (af hE (af hT Tc));clear Γ ω hE hT Tc Δ hlf;go_upto_region 11 with(fail)
     refine dz fun W3 Η=>?_;have hB3:Ϙ wr W3:=by rw[Η];exact zl
     have Pk:W3.heap[wr.heap.size]? =some (.cells #[iv y0,iv y1,iv y2] 257 (0,0)):=by rw[Η];exact av _ _
     have rJ:Ext [mb] W2 W3:=HX.o.1.trans (Ext.ay hB3);have hT3:=HX.o.2.1.below hB3 (ah _);obtain⟨ada,ahE⟩:=Gg.o _ rJ;obtain⟨b8,yz⟩: ∃b8,wr.heap.size=b8:=⟨_,rfl⟩;rw[yz] at Pk;rw[yz];have ahz:mb≠b8:=by have:=HX.o.2.1.lt;omega
     have Ws:=aa (af rJ (af hT3 (af HX.o.2.2 Pk)));clear Η d1 g1 m1 r0 r1 r2 hb hB3 rJ hT3 yz HX;obtain⟨d1,g1,m1⟩:=ae ada.cells;clear ada ahE Pk;go_wp2_with fail
     rw[HN.o];go_loopw [55] (fun u wr=> ∃i:Nat,i<=n/\u= .int .i64 i/\Ext [mb] W3 wr/\ ∃T,TabAt SY rv (fun _=>True) wr mb T/\pI ns T (qA n ls k++keysOf d i)) (fun u _=>n-(intOf u).toNat)
     case atStart=>exact⟨0,bD _,rfl,Ext.refl _ _,T,Ws.o.2.1,by have:=Ws.o.2.2.1;simpa [keysOf] using this⟩
     case round=>
      obtain⟨i,hi,rfl,hE,T,hT,Tc⟩:=hrel;by_cases amM:i<n
      ·have Ι:=Ws.o.1.trans hE;have Pk:=(hE.block _ (aP.1 Ws.o.2.2.2).1 (by simpa using fun e=>ahz e.symm)).trans Ws.o.2.2.2;have adX:wr.heap[b8]? =some (.cells (ag d).toArray 257 (0,0)):=by rw[yV.o];exact Pk
       have hd3:d.length=3:=by rw[yV.o];rfl
       have MR:=fB adX (show i<d.length by omega);have hgd:d.getD i 0=d[i]' ϑ :=by simp[List.getD,hd3,show i<3 by omega]
       have hkk:=Kj d i;rw[hgd] at hkk;generalize hdi:d[i]' ϑ =di at*
       have HDI:Hid (∀h,d[i]'h=di):=aa (fun _=>hdi);clear hdi;have aem:=(aP.1 Pk).1;have hi3:i<3:=ϑ;have HKK:=aa hkk;have HX:=aa (af hE (af hT (af Tc Pk)));clear hkk hE hT Tc hgd hd3 Pk adX Ι;go_upto_region 15 with(fail)
       refine dz fun W6 wY=>?_;have Ev:Ϙ wr W6:=by rw[wY];exact zl
       have hk10:W6.heap[wr.heap.size]? =some (.cells #[iv (i:Int),iv di] 324 (0,0)):=by rw[wY];exact av _ _
       have tL:Ext [mb] W3 W6:=HX.o.1.trans (Ext.ay Ev);have Yi:=HX.o.2.1.below Ev (ah _);have adW:=(Ev.block _ aem).trans HX.o.2.2.2;obtain⟨hw6,adO⟩:=Gg.o _ (Ws.o.1.trans tL);have jR:=fun cm W hW=>sH Hz (mt:=258) (e:=46) ϰ (z:=rv (0,0)) (fun W=>by simp[go_sem]) Yi ((i:Int),di) trivial cm W hW;obtain⟨b10,xD⟩: ∃b10,wr.heap.size=b10:=⟨_,rfl⟩;rw[xD] at hk10;rw[xD];have ano:b8<b10:=ϑ;have akg:mb<b10:=by have:=HX.o.2.1.lt;omega
       have HT6:=aa Yi;have HX6:=aa (af tL (af adW (af hk10 (af hw6 adO))));obtain⟨e1,e2,e3⟩:=ae hw6.cells;obtain⟨e4,e5,e6⟩:=ae hk10;obtain⟨lk,hlk⟩: ∃lk,TB.look ((i:Int),di) T=lk:=⟨_,rfl⟩;rw[hlk] at jR;have ajf:=aa hlk;clear wY MR Ev tL Yi adW hw6 adO hk10 xD d1 g1 m1 hlk;cases lk with
       |some r=>
        have I6:=aa (jR true);simp only[Option.map_some,Option.getD_some,Option.isSome_some,if_true] at I6;clear jR;refine nU 11 [] (some 10) [(9,⟨fun _ v=> ∃b:Nat,v= .pointer (some ⟨b,0,none⟩),fun _ _ _=>True⟩),(10,⟨fun _ v=>v=undef,fun _ _ _=>True⟩)] (fun i _ v W=>match i with|9=> ∃b:Nat,v= .pointer (some ⟨b,0,none⟩)/\W6.heap.size<=b/\W.heap[b]? =some (.cells #[iv 0,iv 0] 46 (0,0))|_=>True) ϰ ϰ ?_
        simp only[zt];repeat ((first|refine zn ?_|refine zk ?_);simp only[zp])
        refine fM ϱ (.tuple #[.agg #[iv r.1,iv r.2],.bool true]) ϱ (fun W hE _=>by have:=I6.o W (hE.block mb (HT6.o.lt) ϕ);go_simp;try rfl) ?_
        simp only[zp];repeat ((first|refine zn ?_|refine zk ?_);simp only[zp])
        refine jD _ ϱ ϱ (by exact⟨_,0,rfl⟩) (fun Wa hE hF hG=>?_) (fun _ _ _ _ _=>trivial) (fun v Wa Wb ho hE=>?_) (fun v hv=>?_)
        ·exact zbp
        ·exact zch
        obtain⟨b11,rfl⟩:=hv;simp only[zp];refine jD _ ϱ ϱ (by exact⟨_,rfl⟩) (fun Wa hE hF hG=>?_) (fun _ _ _ _ _=>trivial) (fun _ _ _ _ _=>trivial) (fun v hv=>?_)
        ·obtain⟨b,hb,hge,hc⟩:=hG rfl _ (bu _) ϰ;cases hb;obtain⟨x1,x2,x3⟩:=ae hc;exact sM (W':=(Wa.setCell ⟨b11,0,none⟩ (iv r.1)).setCell ⟨b11,1,none⟩ (iv r.2)) (by go_simp;try rfl) ⟨rfl,trivial,⟨rfl,rfl,rfl,by simp[World.setCell],fun k' Ρ hkB _=>(dm _ _ _ _ (by show k'≠b11;omega)).trans (dm _ _ _ _ (by show k'≠b11;omega))⟩,trivial⟩
        obtain rfl:v=undef:=hv;simp only[Act.put];intro Sr Vr _;have zL:Ϙ W6 Sr:=nO Vr (ah _);have Gh:Ext [mb] W3 Sr:=HX6.o.1.trans (Ext.ay zL);have Vm:=HT6.o.below zL (ah _);have WZ:=aa (af Gh (af Vm (HKK.o▸(jg _ _ _▸HX.o.2.2.1.old _ ajf.o:pI ns T (qA n ls k++(keysOf d i++[((i:Int),di)]))))));clear Vr zL Gh Vm e1 e2 e3 e4 e5 e6;go_wp2_with fail
        go_roundw
        case rel=>exact⟨i+1,by omega,by go_num,WZ.o.1,T,WZ.o.2.1,WZ.o.2.2⟩
        case measure=>simp[intOf];omega
       |none=>
        have I6:=aa (jR true);simp only[Option.map_none,Option.getD_none,Option.isSome_none,if_true] at I6;clear jR;refine nU 11 [] (some 10) [(9,⟨fun _ v=> ∃b:Nat,v= .pointer (some ⟨b,0,none⟩),fun _ _ _=>True⟩),(10,⟨fun _ v=>v=undef,fun _ _ _=>True⟩)] (fun i _ v W=>match i with|9=> ∃b:Nat,v= .pointer (some ⟨b,0,none⟩)/\W6.heap.size<=b/\W.heap[b]? =some (.cells #[iv 0,iv 0] 46 (0,0))|_=>True) ϰ ϰ ?_
        simp only[zt];repeat ((first|refine zn ?_|refine zk ?_);simp only[zp])
        refine fM ϱ (.tuple #[.agg #[iv 0,iv 0],.bool false]) ϱ (fun W hE _=>by have:=I6.o W (hE.block mb (HT6.o.lt) ϕ);go_simp;try rfl) ?_
        simp only[zp];repeat ((first|refine zn ?_|refine zk ?_);simp only[zp])
        refine jD _ ϱ ϱ (by exact⟨_,0,rfl⟩) (fun Wa hE hF hG=>?_) (fun _ _ _ _ _=>trivial) (fun v Wa Wb ho hE=>?_) (fun v hv=>?_)
        ·exact zbp
        ·exact zch
        obtain⟨b11,rfl⟩:=hv;simp only[zp];refine jD _ ϱ ϱ (by exact⟨_,rfl⟩) (fun Wa hE hF hG=>?_) (fun _ _ _ _ _=>trivial) (fun _ _ _ _ _=>trivial) (fun v hv=>?_)
        ·obtain⟨b,hb,hge,hc⟩:=hG rfl _ (bu _) ϰ;cases hb;obtain⟨x1,x2,x3⟩:=ae hc;exact sM (W':=(Wa.setCell ⟨b11,0,none⟩ (iv 0)).setCell ⟨b11,1,none⟩ (iv 0)) (by go_simp;try rfl) ⟨rfl,trivial,⟨rfl,rfl,rfl,by simp[World.setCell],fun k' Ρ hkB _=>(dm _ _ _ _ (by show k'≠b11;omega)).trans (dm _ _ _ _ (by show k'≠b11;omega))⟩,trivial⟩
        obtain rfl:v=undef:=hv;simp only[Act.put];intro Sr Vr _;have zL:Ϙ W6 Sr:=nO Vr (ah _);have Gh:Ext [mb] W3 Sr:=HX6.o.1.trans (Ext.ay zL);have Vm:=HT6.o.below zL (ah _);have Pj:=(zL.block _ (aP.1 HX6.o.2.1).1).trans HX6.o.2.1;have U8:=(zL.block _ e6).trans HX6.o.2.2.1;have MR:=fB (show Sr.heap[b8]? =some (.cells (ag d).toArray 257 (0,0)) by rw[yV.o];exact Pj) (show i<d.length by rw[yV.o];simpa using hi3)
        rw[HDI.o] at MR;obtain⟨ade,adP⟩:=Gg.o _ (Ws.o.1.trans Gh);obtain⟨e1,e2,e3⟩:=ae ade.cells;have ah7:=(aP.1 Pj).1;have aho:=zL.size;have WZ:=aa (af Gh (af Vm (af Pj U8)));clear Vr zL Gh Vm Pj U8 ade adP e4 e5;go_upto_region 18 with(fail)
        refine dz fun W17 aa7=>?_;have Yn:Ϙ Sr W17:=by rw[aa7];exact zl
        have aaQ:W17.heap[Sr.heap.size]? =some (.cells #[iv 0,iv di] 46 (0,0)):=by rw[aa7];exact av _ _
        obtain⟨b13,Ip⟩: ∃b13,Sr.heap.size=b13:=⟨_,rfl⟩;rw[Ip] at aaQ;rw[Ip];have Yl:Ext [mb] W3 W17:=WZ.o.1.trans (Ext.ay Yn);have aeB:=WZ.o.2.1.below Yn (ah _);have U7:=(Yn.block _ (aP.1 WZ.o.2.2.2).1).trans WZ.o.2.2.2;obtain⟨adb,Zt⟩:=Gg.o _ (Ws.o.1.trans Yl);have q10:b10<b13:=ϑ;have qmb:mb<b13:=ϑ;have qW3:W3.heap.size<=b13:=by have:=WZ.o.1.size;omega
        have qW2:W2.heap.size<=b13:=by have:=Ws.o.1.size;have:=WZ.o.1.size;omega
        have qwb:wb<b13:=by have:=hwl;have:=Ws.o.1.size;have:=Yl.size;omega
        have hk0:uA ns ((i:Int),di) 0=(0,di):=rfl;have Z0:=aa (af Yl (af aeB (af U7 (af adb Zt))));have U6:W17.heap[b13]? =some (.cells #[iv (uA ns ((i:Int),di) 0).1,iv (uA ns ((i:Int),di) 0).2] 46 (0,0)):=aaQ;clear aa7 Yn Yl aeB U7 adb Zt aaQ MR e1 e2 e3 aho ah7 e6 Ip hk0;go_wp2_with fail
        go_loopw [79] (fun u wr=> ∃j:Nat,j<=ns.length/\u= .int .i64 j/\wr.heap[b13]? =some (.cells #[iv (uA ns ((i:Int),di) j).1,iv (uA ns ((i:Int),di) j).2] 46 (0,0))/\Ext [b13] W17 wr) (fun u _=>ns.length-(intOf u).toNat)
        case atStart=>exact⟨0,bD _,rfl,U6,Ext.refl _ _⟩
        case round=>
         obtain⟨j,hj,rfl,hkr,hEr⟩:=hrel;obtain⟨x1,x2,x3⟩:=ae hkr;by_cases adJ:j<ns.length
         ·have adN:=Z0.o.2.2.2.2.ext hEr (fun z hz e=>by have:=HLO.o z e;have hz':z=b13:=(by simpa using hz);omega)
          obtain⟨lb,M6,rfl,hlb,hn0,hn1,hn2⟩:=bB.cell adN adJ;have hsu:=F9 (ns:=ns) (key:=((i:Int),di)) adJ;generalize ns[j]=x at*
          generalize hr:uA ns ((i:Int),di) j=r at*
          have uq:=aa hsu;have WX:=aa (af hkr hEr);clear hsu hkr hEr adN hr U6;by_cases hxi:x.1=(i:Int)
          ·have hxb:(x.1==(i:Int))=true:=by simpa using hxi
           have HXI:=aa hxi;clear hxi;go_upto_region 22 with(fail)
           go_wp2_with fail
           refine(Ll r x.2 _).mono ?_;rintro e W9 ⟨rfl,tK⟩;obtain⟨hc,hf⟩:=bA tK;have hs9:=tK.size;simp only[bg] at hs9;have oJ:=aa (aV (ai (aC wr.heap.size wr) (.cells #[iv x.1,iv x.2.1,iv x.2.2] 188)) tK);clear tK;go_wp2_with fail
           go_roundw
           case rel=>
            refine⟨j+1,by omega,by go_num,?_,?_⟩
            ·rw[uq.o,aB HXI.o];exact aG (aG ((oJ.o.block _ x3).trans WX.o.1) _) _
            ·exact((WX.o.2.trans (Ext.ay oJ.o)).trans (kH _ ⟨b13,0,none⟩ _)).trans (kH _ ⟨b13,1,none⟩ _)
           case measure=>simp[intOf];omega
          ·have hxb:(x.1==(i:Int))=false:=by simpa using hxi
           have HXI:=aa hxi;clear hxi;go_wp2_with fail
           go_roundw
           case rel=>
            refine⟨j+1,by omega,by go_num,?_,WX.o.2.trans (Ext.ay (ai (aC _ _) _))⟩;rw[uq.o,aj HXI.o];exact(aS _ _ _ x3).trans WX.o.1
           case measure=>simp[intOf];omega
         ·have hjl:j=ns.length:=ϑ;subst hjl;have hkne:b13∉[mb]:=by simp;omega
          have hTr:TabAt SY rv (fun _=>True) wr mb T:=Z0.o.2.1.ext hEr ϗ;have Zv:=(hEr.block _ (aP.1 Z0.o.2.2.1).1 ϗ).trans Z0.o.2.2.1;have Δ:=(hEr.block _ Z0.o.2.2.2.1.lt ϗ).trans Z0.o.2.2.2.1.cells;obtain⟨e1,e2,e3⟩:=ae Δ;obtain⟨e4,e5,e6⟩:=ae Zv;have hkn:uA ns ((i:Int),di) ns.length=kn ns ((i:Int),di):=rfl;rw[hkn] at x1 hkr;generalize hr:kn ns ((i:Int),di)=r at*
          have HRR:=aa hr;have HTR:=aa hTr;have HER:=aa hEr;clear hkr hEr hTr Zv Δ hkn hr U6;go_upto_region 24 with(fail)
          refine zg 6 [] none [] ?_;simp only[zt];repeat ((first|refine zn ?_|refine zk ?_);simp only[zp])
          intro W hE hF;obtain⟨hc,hf⟩:=bA hE.below;have ic:=hE.size;(try simp only[bg] at ic)
          obtain⟨W25,hrun,aeA,aeN⟩:=eH Hz (mt:=258) (e:=46) ϰ (HTR.o.below hE.below (ah _)) ((i:Int),di) trivial r;have abf:=HX.o.2.2.1.new ((i:Int),di);rw[HRR.o,jg, <-HKK.o] at abf;have ZF:Ext [mb] W3 W25:=by
           have h1:Ext [mb] W3 wr:=KH Z0.o.1 ⟨HER.o.os,HER.o.tape,HER.o.output,HER.o.size,fun k' Ρ=>HER.o.block k' (by have:=Z0.o.1.size;omega) ϗ⟩;exact(h1.trans (hE.more ϕ)).trans aeN
          have H25:=aa (af ZF (af aeA abf));clear aeA aeN abf ZF hE hF hc hf e1 e2 e3 e4 e5 e6 x1 x2 x3;go_wp2_with fail
          go_roundw
          case rel=>exact⟨i+1,by omega,by go_num,H25.o.1,_,H25.o.2.1,H25.o.2.2⟩
          case measure=>simp[intOf];omega
      ·have Φ:i=n:=ϑ;subst Φ;have H9:=aa (af (Ws.o.1.trans hE) (af hT (HKS.o▸Tc:pI ns T (qA i ls (k+1)))));clear hE hT Tc;go_wp2_with fail
       go_roundw
       case rel=>exact⟨k+1,by omega,by go_num,H9.o.1,T,H9.o.2.1,H9.o.2.2⟩
       case measure=>simp[intOf];omega
    ·have XI:k=ls.length:=ϑ;subst XI;have H9:=aa (af (HEW.o.trans hE) (af hT Tc));clear hE hT Tc Δ hlf;go_wp2_with fail
     go_end0
     exact⟨⟨_,rfl⟩,H9.o.1,T,H9.o.2.1,HNS.o▸H9.o.2.2⟩
end Go.Proofs.Z
namespace Go.Proofs.Z
open Go.RowKit Go.RG Go.SL Go.Shelf ig Go.TB
theorem BF:gJ Tryz.prog 69 46 (rv (0,0)) 2 16:=⟨Tryz.underlying69,by kernel_rfl,rfl,by omega⟩
def LA (l:aN) (out d:List Int) (w:World) (e:Ending) (w':World):Prop:=
 Ϙ w w'/\((iH l out d=true/\ ∃v,e= .returned (.tuple #[v,.bool true])/\w'.ownsRow w.heap.size 46 2 v (jy l out d).length (aD (jy l out d)))∨(iH l out d=false/\e= .returned (.tuple #[.slice none 0 0,.bool false])))
theorem Uc (l:aN) (hS:oV l.field) (hbx:0<=l.box.1/\l.box.1<=2000/\0<=l.box.2/\l.box.2<=2000) (tv nv v:Value) (out d:List Int) (hd3:d.length=3) (rs:List dF) (hrs:rs=nk l out d)
 (hrb: ∀r∈rs,0<=r.1/\r.1<=2000/\0<=r.2/\r.2<=2000) (wb mb:Nat) (T:List ((Int×Int)×dF)) (w:World) (hw:w.heap[wb]? =some (.cells (q9 l tv nv v mb) 260 (0,0))) (hT:TabAt SY rv (fun _=>True) w mb T)
 (jR: ∀i:Nat,i<l.field.aJ.toNat->TB.look ((i:Int),d.getD i 0) T=some (rs.getD i (0,0))):
 Ϝ 125 #[.pointer (some ⟨wb,0,none⟩),j6 d] w (LA l out d w):=by
 have hrl:rs.length=l.field.aJ.toNat:=by rw[hrs,wI]
 have hw0:=hS.wU;have hw3:=hS.uj;obtain⟨n,hn⟩: ∃n:Nat,l.field.aJ=n:=⟨l.field.aJ.toNat,by omega⟩;have hnt:l.field.aJ.toNat=n:=ϑ;rw[hnt] at jR hrl;have Il:n<=3:=ϑ;obtain⟨y0,y1,y2,ω⟩:=lM hd3;have hlow:=uQ (·.1) rs (fun r hr=>by have:=hrb r hr;omega);have hhigh:=uQ (·.2) rs (fun r hr=>by have:=hrb r hr;omega);obtain⟨c1,f1,l1⟩:=ae hw;have hag:j6 d= .agg #[iv y0,iv y1,iv y2]:=by rw[ω];rfl
 rw[hag];have HN:=aa hn;have zf:=aa (af hrs hrl);have I6:=aa jR;have I1:=aa (af hrb (af hlow hhigh));have HW:=aa (af hw hT);have yV:=aa (af ω hd3);clear hrs hrl jR hrb hlow hhigh hw hT hn hnt hw0 hw3 hag ω hd3;go_enter Tryz.func125,Tryz.ntmps125;go_wp2_with fail
 obtain⟨W1,σ⟩: ∃W1,w.alloc (.cells #[iv y0,iv y1,iv y2] 257)=W1:=⟨_,rfl⟩;have hB1:Ϙ w W1:=by rw[<-σ];exact ai (aC _ _) _
 have hk0:W1.heap[w.heap.size]? =some (.cells #[iv y0,iv y1,iv y2] 257 (0,0)):=by rw[<-σ];exact av _ _
 have hw1:=(hB1.block _ l1).trans HW.o.1;have hT1:=HW.o.2.below hB1 (ah _);have hs1:W1.heap.size=w.heap.size+1:=by rw[<-σ];simp
 have ZU:=aa (af hB1 (af hk0 (af hw1 hT1)));rw[σ];have hws:w.heap.size<W1.heap.size:=ϑ;have aax:wb<W1.heap.size:=ϑ;clear σ hB1 hk0 hw1 hT1 hs1 c1 f1;rw[HN.o];go_loopw [4,6,7,18] (fun v4 v6 v7 u wr=> ∃i:Nat,i<=n/\u= .int .i64 i/\v6= .int .i64 (jP (·.1) rs i)/\v7= .int .i64 (jP (·.2) rs i)/\(∃oo oc,v4= .slice oo i oc/\wr.ownsRow W1.heap.size 46 2 (.slice oo i oc) i (aD (rs.take i)))/\Ϙ W1 wr/\
  (∀j (hj:j<rs.length),j<i->rs[j].1<=rs[j].2)) (fun _ _ _ u _=>n-(intOf u).toNat)
 case atStart=>exact⟨0,bD _,rfl,rfl,rfl,⟨none,0,rfl,⟨rfl,.inl ⟨rfl,rfl⟩⟩⟩,aC _ _,fun j hj h=>ϑ⟩
 case round=>
  obtain⟨i,hi,rfl,rfl,rfl,⟨oo,oc,rfl,η⟩,hB,hok⟩:=hrel;have Δ:=(hB.block _ aax).trans ZU.o.2.2.1;have hkr:=(hB.block _ hws).trans ZU.o.2.1;have hTr:=ZU.o.2.2.2.below hB (ah _);obtain⟨d1,g1,m1⟩:=ae Δ;by_cases tX:i<n
  ·have hir:i<rs.length:=by rw[zf.o.2];exact tX
   have MR:=fB (show wr.heap[w.heap.size]? =some (.cells (ag d).toArray 257 (0,0)) by rw[yV.o.1];exact hkr) (show i<d.length by rw[yV.o.2];omega)
   have hgd:d.getD i 0=d[i]'(by rw[yV.o.2];omega):=by simp[List.getD,yV.o.2,show i<3 by omega]
   have hlk:=I6.o i tX;rw[hgd,show rs.getD i (0,0)=rs[i] from by simp[List.getD,hir]] at hlk
   generalize d[i]'(by rw[yV.o.2];omega)=di at*
   have jR:=fun W hW=>sH Hz (mt:=258) (e:=46) ϰ (z:=rv (0,0)) (fun W=>by simp[go_sem]) hTr ((i:Int),di) trivial false W hW;rw[hlk] at jR;simp only[Option.map_some,Option.getD_some,Option.isSome_some,Bool.false_eq_true,if_false] at jR;have hbd:=I1.o.1 rs[i] (bK hir);have hlo:=I1.o.2.1 i ϑ;have hhi:=I1.o.2.2 i ϑ;have hls:=qi (·.1) hir;have hhs:=qi (·.2) hir;have htk:rs.take (i+1)=rs.take i++[rs[i]]:=eT hir;generalize Ar:rs[i]=r at*
   have aem:=m1;have hi3:i<3:=ϑ;have ad7:(i:Int)<3:=ϑ;have hwl:w.heap.size<wr.heap.size:=by have:=hB.size;omega
   have HL:=aa jR;have HS:=aa (af hls (af hhs htk));have HX:=aa (af η (af hB (af Δ (af hTr hok))));have HRI:=aa Ar;clear hgd hlk jR hls hhs htk η hB Δ hkr hTr hok Ar;generalize jP (·.1) rs i=S9 at*
   generalize jP (·.2) rs i=TQ at*
   go_upto_region 5 with(fail)
   refine zg 11 [] none [(10,Spec.block wr.heap.size #[iv 0,iv 0] 46)] ?_;simp only[zt];repeat ((first|refine zn ?_|refine zk ?_);simp only[zp])
   refine fM ϱ (rv r) ϱ (fun W hE _=>by have:=HL.o W (hE.block mb (HX.o.2.2.2.1.lt) ϕ);go_simp;try rfl) ?_
   simp only[zp];refine iY wr.heap.size _ _ ϱ (ah _) ϱ ϕ ϕ (fun W hW=>by go_simp;try rfl) (fun b9=>?_);simp only[zp];intro W5 KC hF5;have Iz:Ext [] wr W5:=KC;obtain⟨c9,tK,aea,sJ⟩:=hF5 _ (bu _);cases tK;obtain⟨p1,p2,p3⟩:=ae sJ;have HE5:=aa Iz;have hs5:=Iz.size;clear KC hF5 Iz MR;go_upto_region 6 with(fail)
   refine dz fun W6 wY=>?_;have Ev:Ϙ wr W6:=by rw[wY];exact gu (gu (show Ϙ wr W5 from HE5.o.below) aea _) aea _
   have aaN:W6.heap[b9]? =some (.cells #[iv r.1,iv r.2] 46 (0,0)):=by rw[wY];exact aG (aG sJ _) _
   have U2:W6.ownsRow W1.heap.size 46 2 (.slice oo i oc) i (aD (rs.take i)):=bU HX.o.1 fun g hg=>Ev.block g (aW HX.o.1 g hg).2;have H6:=aa (af U2 (af (aV HX.o.2.1 Ev) (af Ev aaN)));clear wY Ev sJ p1 p2 p3 d1 g1 U2;obtain⟨p1,p2,p3⟩:=ae aaN;clear aaN;by_cases hgt:r.2<r.1
   ·have hcp:iH l out d=false:=by
     unfold iH;rw[<-zf.o.1];have:rs.all (fun r=>decide (r.1<=r.2))=false:=by
      rw[List.all_eq_false];exact⟨r,by rw[<-HRI.o];exact bK _,by simp;omega⟩
     rw[this];rfl
    have HCP:=aa hcp;clear hcp;go_wp2_with fail
    go_returns;exact⟨aV ZU.o.1 H6.o.2.1,.inr ⟨HCP.o,by simp⟩⟩
   ·have amE: ¬(r.1>r.2):=hgt;go_upto_region 8 with(fail)
    cases oo with
    |none=>
     have hgl:True:=trivial;refine zg 14 [] (some 3) [(2,Spec.slice W6.heap.size #[iv r.1,iv r.2] 46 1),(3,⟨fun _ v=> ∃o c,v= .slice o (i+1) c,fun _ v Wx=>Wx.ownsRow W1.heap.size 46 2 v (i+1) (aD (rs.take (i+1)))⟩)] ?_;simp only[zt];repeat ((first|refine zn ?_|refine zk ?_);simp only[zp])
     refine dI W6.heap.size _ _ 1 ϱ (ah _) ϱ (by first|(simp;done)|simpa using hgl) ϕ (fun W hW=>by go_simp;try rfl) (fun b2=>?_)
     simp only[zp];refine bn _ ϱ ϱ (by exact⟨.slice none (i+1) 0,none,0,rfl⟩) (fun Wa hE hF=>?_) (fun v Wa Wb ho hE=>?_) (fun v hv=>?_)
     ·exact zaE
     ·exact az (Ms:=[]) ho hE ϕ
     obtain⟨o3,c3,rfl⟩:=hv;simp only[zp];repeat ((first|refine zn ?_|refine zk ?_);simp only[zp])
     intro W8 hE hF;have G8:Ext [] W6 W8:=hE;exact zaD
    |some a=>
     obtain⟨gb,rfl,hgb⟩: ∃gb:Nat,a=⟨gb,0,none⟩/\W1.heap.size<=gb:=by
      obtain⟨_,⟨hv,_⟩|⟨g,c,cs,hv,hbg,hrest⟩⟩:=H6.o.1
      ·cases hv
      ·simp at hv;exact⟨g,hv.1,hbg⟩
     have hgl:gb<W6.heap.size:=(aW H6.o.1 gb rfl).2;have hgw:gb<wr.heap.size:=(aW HX.o.1 gb rfl).2;have Er:b9≠gb:=ϑ;refine zg 14 [gb] (some 3) [(2,Spec.slice W6.heap.size #[iv r.1,iv r.2] 46 1),(3,⟨fun _ v=> ∃o c,v= .slice o (i+1) c,fun _ v Wx=>Wx.ownsRow W1.heap.size 46 2 v (i+1) (aD (rs.take (i+1)))⟩)] ?_;simp only[zt];repeat ((first|refine zn ?_|refine zk ?_);simp only[zp])
     refine dI W6.heap.size _ _ 1 ϱ (ah _) ϱ (by first|(simp;done)|simpa using hgl) ϕ (fun W hW=>by go_simp;try rfl) (fun b2=>?_)
     simp only[zp];refine bn _ ϱ ϱ (by exact⟨.slice none (i+1) 0,none,0,rfl⟩) (fun Wa hE hF=>?_) (fun v Wa Wb ho hE=>?_) (fun v hv=>?_)
     ·exact zaE
     ·exact az (Ms:=[]) ho hE ϕ
     obtain⟨o3,c3,rfl⟩:=hv;simp only[zp];repeat ((first|refine zn ?_|refine zk ?_);simp only[zp])
     intro W8 hE hF;have G8:Ext [gb] W6 W8:=hE;exact zaD
  ·have Φ:i=n:=ϑ;subst Φ;have htk:rs.take i=rs:=iT (by rw[zf.o.2];exact ah _);rw[htk] at η;have hl:jP (·.1) rs i=En l out d:=by unfold En;rw[<-zf.o.1, <-vX,zf.o.2]
   have hh:jP (·.2) rs i=wX l out d:=by unfold wX;rw[<-zf.o.1, <-vX,zf.o.2]
   have hall:(nk l out d).all (fun r=>decide (r.1<=r.2))=true:=by
    rw[<-zf.o.1,iR];intro r hr;obtain⟨j,hj,rfl⟩:=kD hr;simpa using hok j hj (by rw[<-zf.o.2];exact hj)
   have hcp:iH l out d=(decide (En l out d<=l.box.2)&&decide (l.box.1<=wX l out d)):=by unfold iH;rw[hall,Bool.true_and]
   have hlo:=I1.o.2.1 i (by rw[zf.o.2];exact ah _);have hhi:=I1.o.2.2 i (by rw[zf.o.2];exact ah _);have hpl:jy l out d=rs.map fun r=>qI r (l.box.1-(wX l out d-r.2),l.box.2-(En l out d-r.1)):=by unfold jy;rw[zf.o.1]
   rw[hl,hh] at*
   generalize En l out d=S9 at*
   generalize wX l out d=TQ at*
   have HCP:=aa hcp;have Ti:=aa hpl;have HO:=aa (af η hB);have HWR:=aa Δ;clear hl hh hall hcp hpl η hB hok Δ hkr hTr htk;by_cases h1:S9>l.box.2
   ·have hF:iH l out d=false:=by rw[HCP.o,decide_eq_false ϑ];rfl
    exact zcd
   by_cases h2:TQ<l.box.1
   ·have hF:iH l out d=false:=by rw[HCP.o,decide_eq_true (show S9<=l.box.2 by omega),decide_eq_false ϑ];rfl
    exact zcd
   have hT:iH l out d=true:=by rw[HCP.o,decide_eq_true (show S9<=l.box.2 by omega),decide_eq_true (show l.box.1<=TQ by omega)];rfl
   have HTR:=aa hT;clear hT;have hpos:0<i:=by have:=hS.wU;have:=HN.o;omega
   obtain⟨gb,rfl,hgb⟩: ∃gb:Nat,oo=some ⟨gb,0,none⟩/\W1.heap.size<=gb:=by
    obtain⟨_,⟨hv,h0⟩|⟨g,c,cs,hv,hbg,hrest⟩⟩:=HO.o.1
    ·omega
    ·simp at hv;exact⟨g,hv.1,hbg⟩
   obtain⟨ps,hps⟩: ∃ps,jy l out d=ps:=⟨_,rfl⟩;have adv:ps.length=i:=by rw[<-hps,Ti.o,kC,zf.o.2]
   have HPS:=aa (af hps adv);have hq0:ps.take 0++rs.drop 0=rs:=ϕ;have hown0:wr.ownsRow W1.heap.size 46 2 (.slice (some ⟨gb,0,none⟩) i oc) i (aD (ps.take 0++rs.drop 0)):=by rw[hq0];exact HO.o.1
   have HO0:=aa hown0;clear hps adv hq0 hown0;go_wp2_with fail
   go_loopw [69] (fun u wq=> ∃j:Nat,j<=i/\u= .int .i64 j/\wq.ownsRow W1.heap.size 46 2 (.slice (some ⟨gb,0,none⟩) i oc) i (aD (ps.take j++rs.drop j))/\Ϙ W1 wq) (fun u _=>i-(intOf u).toNat)
   case atStart=>exact⟨0,bD _,rfl,HO0.o,HO.o.2⟩
   case round=>
    obtain⟨j,hj,rfl,η,hB⟩:=hrel;by_cases tX:j<i
    ·have hjr:j<rs.length:=by rw[zf.o.2];exact tX
     have hjp:j<ps.length:=by rw[HPS.o.2];exact tX
     have hQl:(ps.take j++rs.drop j).length=i:=by rw[bR,eO,jq,zf.o.2,HPS.o.2];omega
     have how':wr.ownsRow W1.heap.size 46 2 (.slice (some ⟨gb,0,none⟩) (ps.take j++rs.drop j).length oc) (ps.take j++rs.drop j).length (aD (ps.take j++rs.drop j)):=by rw[hQl];exact η
     have hQj:(ps.take j++rs.drop j)[j]'(by rw[hQl];exact tX)=rs[j]:=by
      rw[List.getElem_append_right (by rw[eO];omega)];simp[eO,Nat.min_eq_left (kV hjp)]
     have hQn:(ps.take j++rs.drop j).set j ps[j]=ps.take (j+1)++rs.drop (j+1):=by
      rw[nT _ _ (by rw[eO];omega),eO,Nat.min_eq_left (kV hjp),Nat.sub_self,eT hjp,show rs.drop j=rs[j]::rs.drop (j+1) from rM hjr,List.set_cons_zero,jg];rfl
     have hpj:ps[j]=qI rs[j] (l.box.1-(TQ-rs[j].2),l.box.2-(S9-rs[j].1)):=by
      have h1:=HPS.o.1;have h2:=Ti.o;rw[h1] at h2;subst h2;rw[List.getElem_map]
     have hop:=mF how' (show j<(ps.take j++rs.drop j).length by rw[hQl];exact tX)
     have hbd:=I1.o.1 rs[j] (bK hjr);rw[hpj] at hQn;rw[hQj] at hop;generalize rs[j]=r at*
     obtain⟨g2,c2,hg2,Yb,Ro,⟨s0,s1⟩,hfr2⟩:=hop;obtain⟨rfl,rfl⟩:gb=g2/\oc=c2:=by simp at hg2;exact hg2
     have Δ:=(hB.block _ aax).trans ZU.o.2.2.1;have ζ: -10000<=TQ-r.2/\TQ-r.2<=10000:=ϑ;have θ: -10000<=S9-r.1/\S9-r.1<=10000:=ϑ;have Θ: -20000<=l.box.1-(TQ-r.2)/\l.box.1-(TQ-r.2)<=20000:=ϑ;have hb4: -20000<=l.box.2-(S9-r.1)/\l.box.2-(S9-r.1)<=20000:=ϑ;have HQ:=aa (af hQn (af hQl (af how' hB)));have Ba:(j:Int)<i:=ϑ;have hbw:Ϙ wr wr:=aC _ _;clear hpj hQn hQl η how' hB hQj hg2 hbw hjp hjr;go_upto_region 15 with(fail)
     refine dz fun PM aa8=>?_;have Rx:Ϙ wr PM:=by rw[aa8];exact zl
     have ad3:PM.heap[wr.heap.size]? =some (.cells #[iv r.1,iv r.2] 46 (0,0)):=by rw[aa8];exact av _ _
     have adf:=(Rx.block _ (aP.1 Δ).1).trans Δ;have agV:=(Rx.cell (p:=⟨gb,j*2,none⟩) Ro).trans s0;have agU:=(Rx.cell (p:=⟨gb,j*2+1,none⟩) Ro).trans s1;have amr:=Rx.size;have ako:gb<PM.heap.size:=ϑ;have H14:=aa Rx;obtain⟨e1,e2,e3⟩:=ae adf;obtain⟨e4,e5,e6⟩:=ae ad3;clear aa8 Rx adf Δ s0 s1 hfr2 ad3;refine zg 27 [] none [(26,Spec.val (rv (qI r (l.box.1-(TQ-r.2),l.box.2-(S9-r.1)))))] ?_;simp only[zt];repeat ((first|refine zn ?_|refine zk ?_);simp only[zp])
     refine zw 204 (h:=fun W hE hF=>by exact Ll r (l.box.1-(TQ-r.2),l.box.2-(S9-r.1)) W) (t:=?_)
     simp only[zp];intro W hE hF;obtain⟨hc,hf⟩:=bA hE.below;have ic:=hE.size;(try simp only[bg] at ic)
     have HE:=aa hE;have hBW:Ϙ wr W:=aV H14.o hE.below;have Fw:W.ownsRow W1.heap.size 46 2 (.slice (some ⟨gb,0,none⟩) (ps.take j++rs.drop j).length oc) (ps.take j++rs.drop j).length (aD (ps.take j++rs.drop j)):=bU HQ.o.2.2.1 fun g hg=>hBW.block g (aW HQ.o.2.2.1 g hg).2;obtain⟨g3,c3,hg3,_,ad8,⟨t0,t1⟩,aeb⟩:=mF Fw (show j<(ps.take j++rs.drop j).length by rw[HQ.o.2.1];exact tX)
     obtain⟨rfl,rfl⟩:gb=g3/\oc=c3:=by simp at hg3;exact hg3
     have Τ:=lQ Fw (show j<(ps.take j++rs.drop j).length by rw[HQ.o.2.1];exact tX) (qI r (l.box.1-(TQ-r.2),l.box.2-(S9-r.1)))
     rw[HQ.o.1] at Τ;have Nl:(ps.take (j+1)++rs.drop (j+1)).length=i:=by rw[<-HQ.o.1,nQ,HQ.o.2.1]
     have κ:=aa (af Τ (af Nl (aV HQ.o.2.2.2 hBW)));clear hE hF Fw hg3 Τ Nl hBW e1 e2 e3 e4 e5 e6 agV agU hc hf ic;go_wp2_with fail
     go_roundw
     case rel=>
      refine⟨j+1,by omega,by go_num,?_,gu (gu κ.o.2.2 hgb _) hgb _⟩;have:=κ.o.1;rw[HQ.o.2.1] at this;exact this
     case measure=>simp[intOf];omega
    ·have hji:j=i:=ϑ;subst hji;have hfin:ps.take j++rs.drop j=ps:=by rw[iT (by rw[HPS.o.2];exact ah _),List.drop_of_length_le (by rw[zf.o.2];exact ah _),List.append_nil]
     rw[hfin] at η;have HF:=aa (af η hB);clear hfin η hB;go_wp2_with fail
     go_returns;refine⟨aV ZU.o.1 HF.o.2,.inl ⟨HTR.o,_,by simp;rfl,?_⟩⟩;rw[HPS.o.1,HPS.o.2];exact bL HF.o.1 ϑ
end Go.Proofs.Z
end

/-
  Texts of this claim, packed by a program: ZC VM VN VO VL.
-/
import Derived.WalkKit
import Derived.WalkLawsBesides
import Derived.WalkSpells
import Derived.Outline
import Derived.Handy
import Derived.KernelRfl
import Derived.Lib.Hide
import Derived.Test.YthllkbbbapgelaaGreatDoorPN7
set_option maxHeartbeats 8000000
set_option maxRecDepth 100000
set_option linter.all false
theorem _root_.zch {P:Prop} (h:P:=by
 obtain⟨o,c,rfl⟩:=aM ht';exact⟨_,rfl,⟨o,c,rfl⟩,⟨o,c,rfl,bK ht' Iq.size⟩,Ext.ax hb⟩):P:=h
section
namespace Go.Proofs.Z
open Go.RowKit Go.RG Go.SL Go.Shelf gK Go.TB
theorem PO (r:dF) (w:World):Ϝ 85 #[rv r] w (PV (rv r) w):=by
 go_enter Tryz.func85,Tryz.ntmps85;exact zba
end Go.Proofs.Z
namespace Go.Proofs.Z
open Go.RowKit Go.RG Go.SL Go.Shelf gK Go.TB
theorem Ka {w:World} {b:Nat} {t:TypeId} {fr:Nat×Nat} {a0 a1 a2 a3 a4 a5 a6 a7 a8:Value} (h:w.heap[b]? =some (.cells #[a0,a1,a2,a3,a4,a5,a6,a7,a8] t fr)) (y0 y1 y2 y3 y4 y5 y6 y7 y8:Value):
 (((((((((w.setCell ⟨b,0,none⟩ y0).setCell ⟨b,1,none⟩ y1).setCell ⟨b,2,none⟩ y2).setCell ⟨b,3,none⟩ y3).setCell ⟨b,4,none⟩ y4).setCell ⟨b,5,none⟩ y5).setCell ⟨b,6,none⟩ y6).setCell ⟨b,7,none⟩ y7).setCell ⟨b,8,none⟩ y8).heap[b]? =some (.cells #[y0,y1,y2,y3,y4,y5,y6,y7,y8] t fr):=by
 have k:=aA (o:=8) (aA (o:=7) (aA (o:=6) (aA (o:=5) (aA (o:=4) (aA (o:=3) (aA (o:=2) (aA (o:=1) (aA (o:=0) h y0) y1) y2) y3) y4) y5) y6) y7) y8;simp only[nC,List.set_cons_succ,List.set_cons_zero] at k;exact k
theorem Li (W:World) (b:Nat) (y0 y1 y2 y3 y4 y5 y6 y7 y8:Value):Ext [b] W (((((((((W.setCell ⟨b,0,none⟩ y0).setCell ⟨b,1,none⟩ y1).setCell ⟨b,2,none⟩ y2).setCell ⟨b,3,none⟩ y3).setCell ⟨b,4,none⟩ y4).setCell ⟨b,5,none⟩ y5).setCell ⟨b,6,none⟩ y6).setCell ⟨b,7,none⟩ y7).setCell ⟨b,8,none⟩ y8):=
 En b [(0,y0),(1,y1),(2,y2),(3,y3),(4,y4),(5,y5),(6,y6),(7,y7),(8,y8)] W
theorem vW (R:List zW) (r:zW):aK (R++[r])=aK R++aK [r]:=by simp[aK]
def aa0 (l:aO) (w:World) (e:Ending) (w':World):Prop:= ∃tv nv,e= .returned (lv l tv nv)/\cz w' tv l.field.aj/\aU w' nv l.notes/\Ϙ w w'/\(∀g,tv.ownBlock=some g->w.heap.size<=g)/\ ∀g,nv.ownBlock=some g->w.heap.size<=g
theorem Po (l:aO) (tv nv:Value) (w:World) (ht:cz w tv l.field.aj) (hn:aU w nv l.notes) (hl:l.field.aj.length<=1000) (hl2:l.notes.length<=1000):
 Ϝ 51 #[lv l tv nv] w (aa0 l w):=by
 obtain⟨no,nc,rfl⟩:=hn.open;have HA:=aa (af ht hn);have ak0:=aa (fun(W:World) (hb:Ϙ w W)=>Nu l.field tv W (ht.below hb (ah _)) hl);obtain⟨nn,hnn⟩: ∃nn,l.notes.length=nn:=⟨_,rfl⟩;have HNN:=aa hnn;rw[hnn] at hl2⊢;clear ht hn hnn;go_enter Tryz.func51,Tryz.ntmps51;go_upto_region 1 with(fail)
 refine bU fun W1 ν=>?_;have hB1:Ϙ w W1:=by rw[ν];exact zl
 have Ca:W1.heap[w.heap.size]? =some (.cells (iY l tv (.slice no nn nc)) 82 (0,0)):=by rw[ν];exact(aT _ _ _ ϕ).trans (av _ _)
 have hA1:W1.heap[w.heap.size+1]? =some (.cells #[iv 0,iv 0,iv 0,iv 0,.slice none 0 0,iv 0,iv 0,iv 0,.slice none 0 0] 49 (0,0)):=by rw[ν];exact dm _ _ _
 have HA1:=aa (af hB1 (af Ca hA1));obtain⟨c0,f0,l0⟩:=ae Ca;have s1:=(aN.1 hA1).1;clear Ca hA1 ν hB1;refine zg 10 [] none [(2,⟨fun _ v=> ∃o c,v=fv l.field (.slice o l.field.aj.length c),fun _ v Wx=> ∃o c,v=fv l.field (.slice o l.field.aj.length c)/\Wx.ownsRow W1.heap.size 186 5 (.slice o l.field.aj.length c) l.field.aj.length (bP l.field.aj)⟩),(7,Spec.val (rv l.box)),(9,Spec.block W1.heap.size #[iv 0,iv 0,iv 0,iv 0,.slice none 0 0,iv 0,iv 0,iv 0,.slice none 0 0] 49)] ?_;simp only[zt];repeat ((first|refine zn ?_|refine zk ?_);simp only[zp])
 refine aY _ ϱ ϱ (by exact⟨_,none,0,rfl⟩) (fun Wa hE hF=>?_) (fun v Wa Wb ho hE=>?_) (fun v hv=>?_)
 ·have Iq:Ext [] W1 Wa:=hE;refine bM 84 #[fv l.field tv] (by go_simp;try rfl) ?_;refine(ak0.o Wa (aV HA1.o.1 Iq.below)).mono ?_;rintro e W' ⟨tv',rfl,ht',hb⟩;exact zch
 ·obtain⟨o,c,hv,h1⟩:=ho;exact⟨o,c,hv,az (Ms:=[]) h1 (show Ext [] Wa Wb from hE) ϕ⟩
 obtain⟨to,tc,rfl⟩:=hv;simp only[zp];repeat ((first|refine zn ?_|refine zk ?_);simp only[zp])
 refine dL _ ϱ ϱ 85 #[rv l.box] (fun W hW=>by go_simp;try rfl) (fun W hE hF=>by exact PO l.box W) ?_;simp only[zp];repeat ((first|refine zn ?_|refine zk ?_);simp only[zp])
 refine gQ W1.heap.size _ _ ϱ (ah _) ϱ ϕ ϕ (fun W hW=>by go_simp;try rfl) (fun b3=>?_);simp only[zp];(try simp only[])
 intro W2 hE hF;have Iq:Ext [] W1 W2:=hE;obtain⟨b3',Γ,hbB,ZX⟩:=hF _ (aW _);cases Γ;obtain⟨o',c',he,Ze⟩:=hF _ (jf _ (aW _));cases he;have hB2:=aV HA1.o.1 Iq.below;have HA2:=aa (af ((Iq.block _ l0 ϕ).trans HA1.o.2.1) (af ((Iq.block _ s1 ϕ).trans HA1.o.2.2) (af ZX (af hB2 Ze))));obtain⟨hc3,hf3,hl3⟩:=ae ZX;have ajR:w.heap.size+2<=b3:=ϑ;clear hE hF Iq ZX hB2 Ze c0 f0;go_upto_region 2 with(fail)
 refine bU fun W3 φ=>?_;have kX:Ext [b3] W2 W3:=by rw[φ];exact Li _ _ _ _ _ _ _ _ _ _ _
 have hblk3:W3.heap[b3]? =some (.cells (iY l (.slice to l.field.aj.length tc) (.slice none 0 0)) 49 (0,0)):=by rw[φ];exact Ka HA2.o.2.2.1 _ _ _ _ _ _ _ _ _
 have hB3:Ϙ w W3:=dM HA2.o.2.2.2.1 kX ϑ;have aji:W3.heap.size=W3.heap.size:=rfl;have Oj: ∀g,g<W2.heap.size->g≠b3->W3.heap[g]? =W2.heap[g]? :=fun g hg hne=>kX.block g hg (by simpa using hne);have WG:b3<W3.heap.size:=(aN.1 hblk3).1;have ai2:w.heap.size+1<W2.heap.size:=(aN.1 HA2.o.2.1).1;have htb: ∀x∈[b3],(Value.slice to l.field.aj.length tc).ownBlock≠some x:=by
  intro x hx e;obtain rfl:x=b3:=by simpa using hx
  obtain⟨_,⟨h2,_⟩|⟨g,cap,cur,h2,_,hgb,_⟩⟩:=HA2.o.2.2.2.2
  ·rw[h2] at e;cases e
  ·rw[h2] at e;obtain rfl:g=x:=by simpa [Value.ownBlock] using e
   rw[HA2.o.2.2.1] at hgb;injection hgb with hgb;injection hgb with _ hgb _;exact absurd hgb ϖ
 have aaB:=(aH.bY HA2.o.2.2.2.2).ext kX htb;have HTG:=aa (show ∀g,(Value.slice to l.field.aj.length tc).ownBlock=some g->W1.heap.size<=g/\g≠b3 from fun g hg=>⟨(aS HA2.o.2.2.2.2 g hg).1,fun e=>htb b3 ϕ (by rw[<-e];exact hg)⟩);have JE:=aa (af ((Oj w.heap.size ϑ ϑ).trans HA2.o.1) (af ((Oj (w.heap.size+1) ai2 ϑ).trans HA2.o.2.1) (af hblk3 (af hB3 aaB))));clear φ hblk3 hB3 Oj hc3 hf3 hl3 kX aaB htb aji;go_wp2_with fail
 go_loopw [4] (fun u wq=> ∃k:Nat,k<=nn/\u= .int .i64 k/\ ∃o2 c2,wq.heap[b3]? =some (.cells (iY l (.slice to l.field.aj.length tc) (.slice o2 k c2)) 49 (0,0))/\
  wq.ownsRow W3.heap.size 188 3 (.slice o2 k c2) k (aK (l.notes.take k))/\Ϙ w wq/\W3.heap.size<=wq.heap.size/\ ∀c,c<W3.heap.size->c≠b3->wq.heap[c]? =W3.heap[c]?) (fun u _=>nn-(intOf u).toNat)
 case atStart=>exact⟨0,bE _,rfl,none,0,JE.o.2.2.1,⟨rfl,.inl ⟨rfl,rfl⟩⟩,JE.o.2.2.2.1,ah _,fun _ _ _=>rfl⟩
 case round=>
  obtain⟨k,hk,rfl,o2,c2,ZX,Gm,hB,hsw,Oa⟩:=hrel;have ha0:=(Oa w.heap.size ϑ ϑ).trans JE.o.1;obtain⟨BV,I9,BS⟩:=ae ha0;obtain⟨BU,hfr2,Dy⟩:=ae ZX;have WM:=HA.o.2.below hB (ah _);have HK:=aa (af ZX (af Gm (af hB (af hsw Oa))));clear ZX Gm hB Oa ha0;by_cases Ξ:k<nn
  ·have ab2:k<l.notes.length:=by rw[HNN.o];exact Ξ
   obtain⟨b,off,hvb,δ,d0,d1,d2⟩:=aU.cell (show aH 3 wr (.slice no l.notes.length nc) l.notes.length (aK l.notes) from WM) ab2;have oK:(k:Int)<nn:=ϑ;have htk:aK (l.notes.take (k+1))=aK (l.notes.take k)++aK [l.notes[k]]:=by
    rw[eG ab2,vW]
   generalize l.notes[k]=x at*
   clear WM ab2;obtain⟨x0,x1,x2⟩:=x;simp only at d0 d1 d2;cases hvb;have yG:=aa htk;clear htk;go_wp2_with fail
   refine zg 17 [] none [(14,Spec.val (rv (x1,x2))),(16,Spec.slice wr.heap.size #[iv x0,iv x1,iv x2] 188 1)] ?_;simp only[zt];repeat ((first|refine zn ?_|refine zk ?_);simp only[zp])
   refine dL _ ϱ ϱ 85 #[rv (x1,x2)] (fun W hW=>by go_simp;try rfl) (fun W hE hF=>by exact PO (x1,x2) W) ?_
   simp only[zp];repeat ((first|refine zn ?_|refine zk ?_);simp only[zp])
   refine cB wr.heap.size _ _ _ ϱ (ah _) ϱ ϕ ϕ (fun W hW=>by go_simp;try rfl) (fun b8=>?_);simp only[zp];intro W6 ry hF6;have AB:Ext [] wr W6:=ry;obtain⟨QC,tN,Sv,mQ⟩:=hF6 _ (aW _);cases tN;have HE6:=aa AB;have TU:=aa mQ;have adh:=aa (az (Ms:=[]) HK.o.2.1 AB ϕ);have hz6:=AB.size;clear ry hF6 AB mQ BV I9 BS BU hfr2 d0 d1 d2 δ;go_wp2_with (at_builtin;go_loud (refine cZ rfl _ _ UG rfl W3.heap.size (.slice o2 k c2) k (aK (l.notes.take k)) rfl adh.o (.slice (some ⟨b8,0,none⟩) 1 1) 1 (aK [(x0,x1,x2)]) rfl (aH.bI 3 1 TU.o rfl ϖ) (mJ _) ϑ ϑ ϑ ?_))
   intro v' W7 uX Ol _;obtain⟨o7,c7,rfl⟩:=aM uX;have HP:=aa (qa (i:=8) (u:= .slice o7 (k+1) c7) HK.o.2.2.1 HK.o.2.1 HE6.o uX Ol hsw WG ϑ HK.o.1);exact zau
  ·have hkn:k=nn:=ϑ;have hnl: ¬(k:Int)<nn:=ϑ;have μ:=(HK.o.2.2.2.2 (w.heap.size+1) ϑ ϑ).trans JE.o.2.1;obtain⟨acf,acb,abT⟩:=ae μ;have zR:=aa μ;clear μ WM;subst hkn;go_wp2_with fail
   have Qu:=Li wr (w.heap.size+1) (iv l.field.rows) (iv l.field.aJ) (iv l.field.left.1) (iv l.field.left.2) (.slice to l.field.aj.length tc) (iv l.rate) (iv l.box.1) (iv l.box.2) (.slice o2 k c2);have Β:=Ka zR.o (iv l.field.rows) (iv l.field.aJ) (iv l.field.left.1) (iv l.field.left.2) (.slice to l.field.aj.length tc) (iv l.rate) (iv l.box.1) (iv l.box.2) (.slice o2 k c2);generalize ((((((((wr.setCell ⟨w.heap.size+1,0,none⟩ (iv l.field.rows)).setCell ⟨w.heap.size+1,1,none⟩ (iv l.field.aJ)).setCell ⟨w.heap.size+1,2,none⟩ (iv l.field.left.1)).setCell ⟨w.heap.size+1,3,none⟩ (iv l.field.left.2)).setCell ⟨w.heap.size+1,4,none⟩ (.slice to l.field.aj.length tc)).setCell ⟨w.heap.size+1,5,none⟩ (iv l.rate)).setCell ⟨w.heap.size+1,6,none⟩ (iv l.box.1)).setCell ⟨w.heap.size+1,7,none⟩ (iv l.box.2)).setCell ⟨w.heap.size+1,8,none⟩ (.slice o2 k c2)=X at*
   refine bodyPost_ret (v:=lv l (.slice to l.field.aj.length tc) (.slice o2 k c2)) (results_cell_row Tryz.results51 _ _ (w.heap.size+1) _ _ (0,0) _ rfl Β Tryz.underlying49 rfl ϰ) rfl ?_;refine⟨_,_,rfl,?_,?_,dM HK.o.2.2.1 Qu ϑ,fun g hg=>by have:=(HTG.o g hg).1;omega,fun g hg=>by have:=(aS HK.o.2.1 g hg).1;omega⟩
   ·refine(JE.o.2.2.2.2.kept (w':=wr) fun b off n c e hb=>?_).ext Qu fun x hx e=>?_
    ·exact HK.o.2.2.2.2 b hb (HTG.o b (by rw[e];rfl)).2
    ·obtain rfl:x=w.heap.size+1:=by simpa using hx
     have:=(HTG.o _ e).1;omega
   ·have Gm:=HK.o.2.1;rw[<-HNN.o,List.take_length,HNN.o] at Gm;have hx:=aH.bY (Ao Gm Qu fun x hx e=>by
     obtain rfl:x=w.heap.size+1:=by simpa using hx
     have:=(aS Gm _ e).1;omega)
    unfold aU;rw[HNN.o];exact hx
theorem YJ {l:aO} (hS:nD l) {t:List Int} (ht:t∈bN l.field []):t.length<=7:=by
 have:=mF ht;have:=(gu hS.field).oG;omega
theorem KI {l:aO} (h:fo l (upto l.notes.length)=true):fo l (lI l)=true/\MO l.notes.length 0 (lI l)/\ ∀x,MO l.notes.length 0 x->fo l x=true->lZ x (lI l)=false:=
 J7 (Bu h)
theorem R4 {l:aO} (h:gG l=0):lI l=[]↔fo l []=true:=by
 have hp:=(nu h).2;obtain⟨h1,_,h3⟩:=KI hp;constructor
 ·intro e;rw[e] at h1;exact h1
 ·intro hn;have:=yZ (h3 [] (by simp[MO]) hn);exact jl (by simpa using this)
theorem EP {l:aO} (h:gG l=0) (hl:lI l=[]):fI l true=0:=by
 unfold fI;rw[h,(R4 h).1 hl];simp
theorem SS (f:bL):(zD f).length=f.aJ.toNat:=by simp[zD]
end Go.Proofs.Z
end

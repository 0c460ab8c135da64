/-
  Texts of this claim, packed by a program: QA QD.
-/
import Derived.WalkKit
import Derived.WalkLawsBesides
import Derived.WalkSpells
import Derived.Outline
import Derived.Handy
import Derived.KernelRfl
import Derived.Lib.Hide
import Derived.Test.YthllkbbbapgelaaGreatDoorPW5
set_option maxHeartbeats 8000000
set_option maxRecDepth 100000
set_option linter.all false
section
namespace Go.Proofs.YthllkbbbapgelaaGreatDoor
open Go.RowKit Go.RG Go.SL Go.Shelf jy Go.TB
abbrev xv (t:EX):Value:= .agg #[.int .i64 t.1,.int .i64 t.2.1,.int .i64 t.2.2]
abbrev lh (l:aQ) (tv nv:Value):Array Value:= #[iv l.field.rows,iv l.field.aK,iv l.field.left.1,iv l.field.left.2,tv,iv l.rate,iv l.box.1,iv l.box.2,nv]
abbrev lv (l:aQ) (tv nv:Value):Value:= .agg (lh l tv nv)
def lD (r:dR):Bool:=decide (r.1<=r.2)&&(nS r.1 0 2000&&nS r.2 0 2000)
def Bf (l:aQ) (n:EX):Bool:=nS n.1 0 (l.field.aK-1)&&lD n.2
theorem yA (n l h:Int) (w:World):Calls Tryz.prog 117 #[iv n,iv l,iv h] w (PV (.bool (nS n l h)) w):=by
 by_cases h1:l<=n
 all_goals
  go_enter Tryz.func117,Tryz.ntmps117
  go_wp2
  go_returns
  exact⟨by simp[nS];omega,aH _ _⟩
theorem vO (n:Int) (w:World):Calls Tryz.prog 199 #[iv n] w (PV (.bool (nS n 0 2000)) w):=by
 go_enter Tryz.func199,Tryz.ntmps199
 go_wp2_with fail
 refine(yA _ _ _ _).mono ?_
 rintro e w' ⟨rfl,hb⟩
 go_wp2_with fail
 go_returns
 exact⟨by simp,hb⟩
theorem EU (r:dR) (w:World):Calls Tryz.prog 118 #[rv r] w (PV (.bool (lD r)) w):=by
 obtain⟨p,q⟩:=r
 by_cases h0:p<=q
 ·obtain⟨x,hx⟩: ∃x,nS p 0 2000=x:=⟨_,rfl⟩
  have H1:=ae (fun w=>hx▸vO p w)
  have HX:=ae hx
  clear hx
  cases x
  ·have hF:lD (p,q)=false:=by unfold lD;simp only[HX.o];simp
   rw[hF]
   clear hF
   go_enter Tryz.func118,Tryz.ntmps118
   go_wp2_with fail
   refine(H1.o _).mono ?_
   rintro e w' ⟨rfl,hb⟩
   go_wp2_with fail
   go_returns
   exact⟨by simp,zl⟩
  ·have hF:lD (p,q)=nS q 0 2000:=by unfold lD;simp only[HX.o];simp[h0]
   rw[hF]
   clear hF
   go_enter Tryz.func118,Tryz.ntmps118
   go_wp2_with fail
   refine(H1.o _).mono ?_
   rintro e w' ⟨rfl,hb⟩
   obtain⟨hc,hf⟩:=bK hb
   have hz0:w.heap.size<w'.heap.size:=(by have:=hb.size;(try simp only[bu] at this);omega)
   go_wp2_with fail
   refine(vO q _).mono ?_
   rintro e w2 ⟨rfl,hb2⟩
   go_wp2_with fail
   go_returns
   exact⟨by simp,zl⟩
 ·have hb0:decide (p<=q)=false:=by simpa using h0
  have hF:lD (p,q)=false:=by unfold lD;simp[h0]
  rw[hF]
  clear hF
  go_enter Tryz.func118,Tryz.ntmps118
  go_wp2
  go_returns
  exact⟨by simp,zl⟩
theorem note_any (l:aQ) (tv nv:Value) (n:EX) (w:World) (h0: -1000<=l.field.aK) (h1:l.field.aK<=1000):
 Calls Tryz.prog 116 #[lv l tv nv,xv n] w (PV (.bool (Bf l n)) w):=by
 obtain⟨x,hx⟩: ∃x,nS n.1 0 (l.field.aK-1)=x:=⟨_,rfl⟩
 have H1:=ae (fun w=>hx▸yA n.1 0 (l.field.aK-1) w)
 have HX:=ae hx
 clear hx
 cases x
 ·have hF:Bf l n=false:=by unfold Bf;rw[HX.o];rfl
  rw[hF]
  clear hF
  go_enter Tryz.func116,Tryz.ntmps116
  go_wp2_with fail
  refine(H1.o _).mono ?_
  rintro e w' ⟨rfl,hb⟩
  go_wp2_with fail
  go_returns
  exact⟨by simp,zl⟩
 ·have hF:Bf l n=lD n.2:=by unfold Bf;rw[HX.o];rfl
  rw[hF]
  clear hF
  go_enter Tryz.func116,Tryz.ntmps116
  go_wp2_with fail
  refine(H1.o _).mono ?_
  rintro e w' ⟨rfl,hb⟩
  obtain⟨hc,hf⟩:=bK hb
  have hz0:w.heap.size<w'.heap.size:=(by have:=hb.size;(try simp only[bu] at this);omega)
  have hz1:w.heap.size+1<w'.heap.size:=(by have:=hb.size;(try simp only[bu] at this);omega)
  go_wp2_with fail
  refine(EU n.2 _).mono ?_
  rintro e w2 ⟨rfl,hb2⟩
  go_wp2_with fail
  go_returns
  exact⟨by simp,zl⟩
theorem BD (a b:Int) (g c:Nat) (w:World) (h0:w.cell? ⟨g,0,none⟩=some (iv a)) (h1:w.cell? ⟨g,1,none⟩=some (iv b)):
 Calls Tryz.prog 272 #[.slice (some ⟨g,0,none⟩) 2 c] w (PV (iv (min a b)) w):=by
 have H:=ae (Bg a b g c w h0 h1)
 go_enter Tryz.func272,Tryz.ntmps272
 go_wp2_with fail
 refine H.o.mono ?_
 rintro e w' ⟨rfl,hb⟩
 go_wp2_with fail
 go_returns
 exact⟨by simp,hb⟩
theorem both_any (r x:dR) (w:World):Calls Tryz.prog 204 #[rv r,rv x] w (PV (rv (ug r x)) w):=by
 go_enter Tryz.func204,Tryz.ntmps204
 go_wp2_with fail
 refine zg 12 [] none [(9,Spec.slice (w.heap.size+3) #[iv r.2,iv x.2] 3 2),(10,Spec.val (iv (min r.2 x.2)))] ?_
 simp only[zt]
 repeat (refine zd ?_;simp only[zp])
 refine dY (w.heap.size+3) _ _ _ (by rfl) (by simp) (by rfl) (by simp) (by simp) (fun W hW=>by go_simp;try rfl) (fun b=>?_)
 simp only[zp]
 refine eF _ (by rfl) (by rfl) 272 _ (fun W hW=>by go_simp;try rfl) (fun W hE hF=>?_) ?_
 ·obtain⟨c,hcb,hB,hc⟩:=hF _ (bF _) (by kernel_rfl)
  cases hcb
  exact BD r.2 x.2 b 2 W (by simp[World.cell?,hc]) (by simp[World.cell?,hc])
 simp only[zp]
 repeat (refine zd ?_;simp only[zp])
 intro W hE hF
 obtain⟨hc,hf⟩:=bK hE.below
 have hzE:=hE.size
 (try simp only[bu] at hzE)
 go_wp2
 all_goals
  (try simp only[Exit.inBlock,Exit.then])
  refine bodyPost_ret (v:=rv (max r.1 x.1,min r.2 x.2)) (by simp[results,Tryz.results204,go_sem,hc];try omega) rfl ?_
  exact⟨rfl,ze⟩
end Go.Proofs.YthllkbbbapgelaaGreatDoor
namespace Go.Proofs.YthllkbbbapgelaaGreatDoor
open Go.RowKit Go.RG Go.SL Go.Shelf jy Go.TB
theorem ajJ (l:List EX) (v:Value) (bg:Nat) (fst caps:Array Value) (p:Nat->Bool) (I:Nat->World->Prop) (w:World) (eg: ∀args w,(callFunc bg args).run Tryz.prog w= .ok (.enter bg args) w)
 (hsl: ∀k W,I k W->bJ W v l)
 (hcall: ∀k (hk:k<l.length) W,(∀j,j<k->p j=false)->I k W->Calls Tryz.prog bg (fst.push (xv l[k])++caps) W (fun e W'=>e= .returned (.bool (p k))/\I (k+1) W')) (h0:I 0 w):
 Calls Tryz.prog 268 #[v,.func (.func bg) fst caps] w (ed l.length p I (fun k=>iv k) (iv (-1))):=by
 have hlen:=(hsl 0 w h0).len
 obtain⟨o,c,rfl⟩:=(hsl 0 w h0).open
 have HC:=ae hcall
 have HS:=ae hsl
 clear hcall hsl
 go_enter Tryz.func268,Tryz.ntmps268
 go_wp2
 go_loopw [4,5,8] (fun _ _ i wr=> ∃k:Nat,k<=l.length/\i= .int .i64 k/\(∀j,j<k->p j=false)/\I k wr) (fun _ _ i _=>l.length-(intOf i).toNat)
 case atStart=>exact⟨0,bQ _,rfl,fun j hj=>by omega,h0⟩
 case round=>
  obtain⟨k,hk,rfl,hno,hI⟩:=hrel
  by_cases hlt:k<l.length
  ·obtain⟨b,off,rfl,hb,hc0,hc1,hc2⟩:=bJ.cell (HS.o k wr hI) hlt
   have hC:=HC.o k hlt wr hno hI
   have HN:=ae hno
   clear hno
   go_wp2_with fail
   refine hC.mono ?_
   rintro e W1 ⟨rfl,hI1⟩
   have HI:=ae hI1
   clear hI1 hI hC
   cases hp:p k
   ·go_wp2_with fail
    go_roundw
    case rel=>exact⟨k+1,by omega,by go_num,fun j hj=>(by by_cases e:j=k;(subst e;exact hp);exact HN.o j (by omega)),HI.o⟩
    case measure=>simp[intOf];omega
   ·go_wp2_with fail
    go_returns
    exact⟨k,by omega,HN.o,.inl ⟨hlt,hp,by simp,HI.o⟩⟩
  ·have hkl:k=l.length:=by omega
   have HN:=ae hno
   clear hno
   go_wp2_with fail
   go_returns
   exact⟨k,by omega,HN.o,.inr ⟨hkl,by simp,by subst hkl;exact hI⟩⟩
theorem ah1 (l:List EX) (v:Value) (bg:Nat) (fst caps:Array Value) (p:Nat->Bool) (I:Nat->World->Prop) (w:World) (eg: ∀args w,(callFunc bg args).run Tryz.prog w= .ok (.enter bg args) w)
 (hsl: ∀k W,I k W->bJ W v l)
 (hcall: ∀k (hk:k<l.length) W,(∀j,j<k->p j=false)->I k W->Calls Tryz.prog bg (fst.push (xv l[k])++caps) W (fun e W'=>e= .returned (.bool (p k))/\I (k+1) W')) (h0:I 0 w):
 Calls Tryz.prog 200 #[v,.func (.func bg) fst caps] w (ed l.length p I (fun _=> .bool true) (.bool false)):=by
 have HI:=ae (ajJ l v bg fst caps p I w eg hsl hcall h0)
 have hlen:=(hsl 0 w h0).len
 clear hsl hcall h0 eg
 go_enter Tryz.func200,Tryz.ntmps200
 go_wp2_with fail
 refine HI.o.mono ?_
 clear HI
 rintro e W' ⟨k,hk,hno,⟨hlt,hp,rfl,hI⟩|⟨hkl,rfl,hI⟩⟩
 ·have HN:=ae (ag hno (ag hp hI))
  clear hno hp hI
  go_wp2_with fail
  go_returns
  exact⟨k,hk,HN.o.1,.inl ⟨hlt,HN.o.2.1,by simp,HN.o.2.2⟩⟩
 ·have HN:=ae (ag hno (ag hkl hI))
  clear hno hkl hI
  go_wp2_with fail
  go_returns
  exact⟨k,hk,HN.o.1,.inr ⟨HN.o.2.1,by simp,HN.o.2.1▸HN.o.2.2⟩⟩
theorem ah9 (x:EX) (bx bg:Nat) (fst caps:Array Value) (b:Bool) (W:World) (R:World->Prop) (eg: ∀args w,(callFunc bg args).run Tryz.prog w= .ok (.enter bg args) w)
 (hbx:W.cell? ⟨bx,0,none⟩=some (.func (.func bg) fst caps))
 (hcall:Calls Tryz.prog bg (fst.push (xv x)++caps) (W.alloc (.cells #[iv x.1,iv x.2.1,iv x.2.2] 188)) (fun e W'=>e= .returned (.bool b)/\R W')):
 Calls Tryz.prog 201 #[xv x,.pointer (some ⟨bx,0,none⟩)] W (fun e W'=>e= .returned (.bool !b)/\R W'):=by
 have hlt:=dI W _ hbx
 have HC:=ae hcall
 clear hcall
 go_enter Tryz.func201,Tryz.ntmps201
 go_wp2_with fail
 refine HC.o.mono ?_
 rintro e W' ⟨rfl,hR⟩
 have HR:=ae hR
 clear hR
 go_wp2_with fail
 go_returns
 exact⟨by simp,HR.o⟩
theorem ak8 (l:List EX) (v:Value) (bg:Nat) (fst caps:Array Value) (p:Nat->Bool) (I:Nat->World->Prop) (w:World) (eg: ∀args w,(callFunc bg args).run Tryz.prog w= .ok (.enter bg args) w)
 (hsl: ∀k W,I k W->bJ W v l) (hal: ∀k W o,I k W->I k (W.alloc o))
 (hcall: ∀k (hk:k<l.length) W,(∀j,j<k->p j=true)->I k W->Calls Tryz.prog bg (fst.push (xv l[k])++caps) W (fun e W'=>e= .returned (.bool (p k))/\I (k+1) W'/\jq w.heap.size W W')) (h0:I 0 w):
 Calls Tryz.prog 119 #[v,.func (.func bg) fst caps] w (ed l.length (fun k=>!p k) I (fun _=> .bool false) (.bool true)):=by
 have HI:=ae (ah1 l v 201 #[] #[.pointer (some ⟨w.heap.size,0,none⟩)] (fun k=>!p k)
  (fun k W=>I k W/\W.heap[w.heap.size]? =some (.cells #[.func (.func bg) fst caps] 248 (0,0))) (w.alloc (.cells #[.func (.func bg) fst caps] 248))
  (enters_of Tryz.func201 (by kernel_rfl) rfl) (fun k W h=>hsl k W h.1)
  (fun k hk W hno h=>by
    have hlt:w.heap.size<W.heap.size:=(aS.1 h.2).1
    refine(ah9 l[k] w.heap.size bg fst caps (p k) W (fun W'=>I (k+1) W'/\W'.heap[w.heap.size]? =some (.cells #[.func (.func bg) fst caps] 248 (0,0))) eg (aB h.2) ?_)
    refine(hcall k hk _ (fun j hj=>by simpa using hno j hj) (by first|exact hal _ _ _ h.1|exact h.1)).mono ?_
    rintro e W' ⟨rfl,h1,h2⟩
    refine⟨rfl,h1,(h2.block _ (ai _) (by first|exact hlt|(simp;omega))).trans (by first|exact h.2|exact(aV _ _ _ hlt).trans h.2)⟩)
  ⟨hal _ _ _ h0,heap_alloc_new w _⟩)
 have hlen:=(hsl 0 w h0).len
 clear hsl hcall h0 eg hal
 go_enter Tryz.func119,Tryz.ntmps119
 go_wp2_with fail
 refine HI.o.mono ?_
 clear HI
 rintro e W' ⟨k,hk,hno,⟨hlt,hp,rfl,hI,_⟩|⟨hkl,rfl,hI,_⟩⟩
 ·have HN:=ae (ag hno (ag hp hI))
  clear hno hp hI
  go_wp2_with fail
  go_returns
  exact⟨k,hk,HN.o.1,.inl ⟨hlt,HN.o.2.1,by simp,HN.o.2.2⟩⟩
 ·have HN:=ae (ag hno (ag hkl hI))
  clear hno hkl hI
  go_wp2_with fail
  go_returns
  exact⟨k,hk,HN.o.1,.inr ⟨HN.o.2.1,by simp,HN.o.2.1▸HN.o.2.2⟩⟩
theorem XB (l:List EX) (v:Value) (bg:Nat) (fst caps:Array Value) (q:EX->Bool) (w:World) (hv:bJ w v l) (eg: ∀args w,(callFunc bg args).run Tryz.prog w= .ok (.enter bg args) w)
 (hcall: ∀x∈l, ∀W,Below w.heap.size w W->Calls Tryz.prog bg (fst.push (xv x)++caps) W (PV (.bool (q x)) W)):
 Calls Tryz.prog 119 #[v,.func (.func bg) fst caps] w (PV (.bool (l.all q)) w):=by
 refine(ak8 l v bg fst caps (fun k=>q (l.getD k (0,0,0))) (fun _ W=>Below w.heap.size w W) w eg (fun k W h=>hv.below h (ai _)) (fun k W o h=>aj h o) (fun k hk W _ h=>?_) (aH _ _)).mono ?_
 ·refine(hcall l[k] (dh _) W h).mono ?_
  rintro e W' ⟨rfl,hb⟩
  exact⟨by simp[hk],aY h hb,jq.aA hb⟩
 ·intro e W' hpost
  obtain⟨rfl,k,_,hI⟩:=hpost.all
  refine⟨?_,hI⟩
  rw[jH,jR]
end Go.Proofs.YthllkbbbapgelaaGreatDoor
namespace Go.Proofs.YthllkbbbapgelaaGreatDoor
open Go.RowKit Go.RG Go.SL Go.Shelf jy Go.TB
attribute [local go_sem] Oper.semAt_some
theorem nN {l:List Int} (h:l.length=3): ∃a b c,l=[a,b,c]:=by
 match l,h with
 |[a,b,c],_=>exact⟨a,b,c,rfl⟩
theorem aaw (l:aQ) (tv nv rvv:Value) (rows:List Int) (w:World) (hr:aO w rvv rows) (h0:0<=l.rate) (h1:l.rate<=50) (h7:rows.length<=7) (hb: ∀x∈rows,x<3):
 Calls Tryz.prog 203 #[lv l tv nv,rvv] w (fun e w'=>e= .returned (lY (lW l.rate rows))/\Below w.heap.size w w'/\w.heap.size<w'.heap.size):=by
 obtain⟨ro,rc,rfl⟩:=hr.open
 have HR:=ae hr
 have HB:=ae hb
 clear hr hb
 go_enter Tryz.func203,Tryz.ntmps203
 go_wp2_with fail
 go_loopw [9] (fun u wr=> ∃k:Nat,k<=rows.length/\u= .int .i64 k/\Below w.heap.size w wr/\wr.heap[w.heap.size]? =some (.cells (lh l tv nv) 49 (0,0))/\wr.heap[w.heap.size+1]? =some (.cells (ah (lW l.rate (rows.take k))).toArray 257 (0,0))) (fun u _=>rows.length-(intOf u).toNat)
 case atStart=>
  refine⟨0,bQ _,rfl,zl,(aV _ _ _ (by simp)).trans (ay _ _),?_⟩
  rw[List.take_zero,Xe]
  exact dV _ _ _
 case round=>
  obtain⟨k,hk,rfl,hB,hk0,hk1⟩:=hrel
  obtain⟨c0,f0,l0⟩:=af hk0
  by_cases hlt:k<rows.length
  ·have vg:=HR.o.below hB (ai _)
   obtain⟨b,off,rfl,hb,hc0⟩:=aO.cell vg hlt
   have hx3:=HB.o _ (dh hlt)
   have hsu:rows.take (k+1)=rows.take k++[rows[k]]:=iC hlt
   have hbd:=Hq h0 h1 (rows.take k) (by rw[gU];omega)
   generalize rows[k]=x at*
   have xw:=ae hsu
   have HK:=ae (ag hB (ag hk0 hk1))
   have HBD:=ae hbd
   clear vg hsu hB hk0 hbd
   by_cases hx:0<=x
   ·obtain⟨n,rfl⟩: ∃n:Nat,x=n:=⟨x.toNat,by omega⟩
    have hn3:n<3:=by omega
    obtain⟨d,hd⟩: ∃d,(lW l.rate (rows.take k)).getD n 0=d:=⟨_,rfl⟩
    have hdb:=HBD.o n hn3
    rw[hd] at hdb
    have hcell:=gG hk1 (show n<(lW l.rate (rows.take k)).length by rw[lu];omega)
    rw[show(lW l.rate (rows.take k))[n]'(by rw[lu];omega)=d from by rw[<-hd];simp[List.getD,lu,hn3]] at hcell
    have hfr:=bn hk1 n
    have hl1:=dI wr _ hcell
    have HD:=ae hd
    clear hd hk1
    go_upto_region 5 with(fail)
    refine zg 7 [] none [] ?_
    simp only[zt]
    repeat (refine zn ?_;simp only[zp])
    intro W hE hF
    obtain⟨hc,hf⟩:=bK hE.below
    have hzE:=hE.size
    (try simp only[bu] at hzE)
    have HE:=ae hE
    clear hF hzE
    go_wp2_with fail
    go_roundw
    case rel=>
     refine⟨k+1,by omega,by go_num,iF (aY HK.o.1 HE.o.below) (by simp) _,(dH _ _ _ _ (by show w.heap.size≠w.heap.size+1;omega)).trans ((HE.o.block _ l0 (by simp)).trans HK.o.2.1),?_⟩
     rw[xw.o, <-S9 _ _ _ hn3,HD.o, <-sV]
     exact aI ((HE.o.block _ hl1 (by simp)).trans HK.o.2.2) _
    case measure=>simp[intOf];omega
   ·have hxb:decide (0<=x)=false:=by simpa using hx
    have HX:=ae hx
    clear hk1
    go_wp2_with fail
    go_roundw
    case rel=>
     refine⟨k+1,by omega,by go_num,HK.o.1,HK.o.2.1,?_⟩
     rw[xw.o,Tc _ _ _ (by have:=HX.o;omega)]
     exact HK.o.2.2
    case measure=>simp[intOf];omega
  ·have hkl:k=rows.length:=by omega
   subst hkl
   rw[List.take_length] at hk1
   obtain⟨y0,y1,y2,hys⟩:=nN (lu l.rate rows)
   rw[hys] at hk1
   have aes:wr.heap[w.heap.size+1]? =some (.cells #[iv y0,iv y1,iv y2] 257 (0,0)):=hk1
   obtain⟨c1,f1,l1⟩:=af aes
   have Cc:=ae hys
   have HB':=ae hB
   have hkF:(((wr.setCell ⟨w.heap.size+1,0,none⟩ (iv y0)).setCell ⟨w.heap.size+1,1,none⟩ (iv y1)).setCell ⟨w.heap.size+1,2,none⟩ (iv y2)).heap[w.heap.size+1]? =some (.cells #[iv y0,iv y1,iv y2] 257 (0,0)):=aI (aI (aI aes _) _) _
   obtain⟨cF,fF,lF⟩:=af hkF
   clear hk0 hk1 aes hB hys hkF
   go_wp2_with fail
   (try rw[Exit.noGoto_ret])
   refine bodyPost_ret (v:= .agg #[iv y0,iv y1,iv y2]) (by simp[results,Tryz.results203,go_sem,cF]) rfl ?_
   exact⟨by rw[Cc.o];rfl,iF (iF (iF HB'.o (by simp) _) (by simp) _) (by simp) _,by simp[World.setCell];omega⟩
theorem Gh {f:bU} (hf:jX f=0) {x:List Int} (hx:x∈qp f):oK f x=jk f [] x:=by
 have hS:=iH hf
 have h0:=hS.zM
 obtain⟨h1,h2⟩:=Gw.1 hx
 have hall:x.all (AZ f)=true:=by
  rw[ku]
  intro n hn
  obtain⟨i,hi,rfl⟩:=mF hn
  have:=h2 i (by omega)
  rw[show x.getD i 0=x[i] from by simp[List.getD,hi]] at this
  simp only[AZ,nS,Bool.or_eq_true,beq_iff_eq,eG,eX]
  omega
 unfold oK
 rw[hf,hall,decide_eq_true (show(x.length:Int)=f.rows by omega)]
 simp
structure Yq (W:World) (n bl bo jv bc ob l:Nat) (o:List Int):Prop where
 y:W.heap[jv]? =some (.cells #[.func (.yield l) #[] #[]] 163 (0,0))
 out:W.heap[bo]? =some (.cells #[.slice (some ⟨ob,0,none⟩) n n] 52 (0,0))
 ch:W.heap[bc]? =some (.cells #[.func (.func 270) #[] #[.pointer (some ⟨bo,0,none⟩),.pointer (some ⟨bl,0,none⟩),.pointer (some ⟨jv,0,none⟩),.pointer (some ⟨bc,0,none⟩)]] 274 (0,0))
 cells:W.heap[ob]? =some (.cells (ah o).toArray 3 (0,0))
theorem Yq.kept {W W':World} {n bl bo jv bc ob l:Nat} {o:List Int} (h:Yq W n bl bo jv bc ob l o) (hk: ∀m∈[ob,jv,bo,bc],m<W.heap.size->W'.heap[m]? =W.heap[m]?):Yq W' n bl bo jv bc ob l o:=
 ⟨(hk _ (by simp) (aS.1 h.y).1).trans h.y,(hk _ (by simp) (aS.1 h.out).1).trans h.out,(hk _ (by simp) (aS.1 h.ch).1).trans h.ch,(hk _ (by simp) (aS.1 h.cells).1).trans h.cells⟩
theorem Yq.below {W W':World} {n bl bo jv bc ob l:Nat} {o:List Int} (h:Yq W n bl bo jv bc ob l o) (hb:Below W.heap.size W W'):Yq W' n bl bo jv bc ob l o:=h.kept fun m _ hm=>hb.block m hm
theorem Yq.set {W:World} {n bl bo jv bc ob l:Nat} {o:List Int} (h:Yq W n bl bo jv bc ob l o) (hd1:jv≠ob) (hd2:bo≠ob) (hd3:bc≠ob) (i:Nat) (x:Int):Yq (W.setCell ⟨ob,i,none⟩ (iv x)) n bl bo jv bc ob l (o.set i x):=
 ⟨(dH _ _ _ _ hd1).trans h.y,(dH _ _ _ _ hd2).trans h.out,(dH _ _ _ _ hd3).trans h.ch,by rw[<-sV];exact aI h.cells _⟩
def aid (Ms:List Nat) (x:List Int) (v:Value) (W:World):Prop:=
 ∃ob:Nat,v= .slice (some ⟨ob,0,none⟩) x.length x.length/\W.heap[ob]? =some (.cells (ah x).toArray 3 (0,0))/\ob∈Ms
structure adA (bl:Nat) (l:aQ) (tv nv:Value) (W:World):Prop where
 lb:W.heap[bl]? =some (.cells (lh l tv nv) 49 (0,0))
 xE:dW W tv l.field.ax
theorem NZ (l:aQ) (hf:jX l.field=0) (tv nv:Value) (bl bo jv bc ob y:Nat) (hd1:jv≠ob) (hd2:bo≠ob) (hd3:bc≠ob) (J:List Nat->Option Nat->World->Prop)
 (hInv: ∀Ms s W1,J Ms s W1->adA bl l tv nv W1)
 (hstep: ∀Ms Ms' s W1 W2,J Ms s W1->Ext Ms W1 W2->(∀m∈Ms',m∈Ms∨(W1.heap.size<=m/\m<W2.heap.size))->True->J Ms' s W2)
 (hY: ∀Ms k v W1 (hk:k<(bV l.field []).length),J Ms (some k) W1->aid Ms (bV l.field [])[k] v W1->YieldAt Fence.wide 0 Tryz.prog y #[v] W1 fun e W'=>
   ((∀m∈Ms,m∉[]->m<W1.heap.size->W'.heap[m]? =W1.heap[m]?)/\W1.heap.size<=W'.heap.size)/\((e= .returned (.bool true)/\J Ms (some (k+1)) W')∨(e= .returned (.bool false)/\J Ms none W'))):
 ∀(m i k:Nat) (pre:List Int) (W:World) (o:List Int),i+m=l.field.rows.toNat->pre.length=i->o.length=l.field.rows.toNat->o.take i=pre->jJ (eY l.field) i k pre->Yq W l.field.rows.toNat bl bo jv bc ob y o->J [ob,jv,bo,bc] (some (uD l.field [] k)) W->
  CallsIn Fence.wide 0 Tryz.prog 270 #[iv i,.pointer (some ⟨bo,0,none⟩),.pointer (some ⟨bl,0,none⟩),.pointer (some ⟨jv,0,none⟩),.pointer (some ⟨bc,0,none⟩)] W
   (fun e W'=>(e= .returned (.bool true)/\J [ob,jv,bo,bc] (some (uD l.field [] (k+(fB ((eY l.field).drop i)).length))) W'/\ ∃o',o'.length=l.field.rows.toNat/\o'.take i=pre/\Yq W' l.field.rows.toNat bl bo jv bc ob y o')∨
     (e= .returned (.bool false)/\J [ob,jv,bo,bc] none W')):=by
 have hS:=iH hf
 have hRl:(eY l.field).length=l.field.rows.toNat:=by simp[eY]
 intro m
 induction m with
 |zero=>
  intro i k pre W o him hpl hol hot hat hst hJ
  have hrow:(i:Int)=(l.field.rows.toNat:Int):=by omega
  obtain⟨hone,hk,hx⟩:=hat.last (by omega)
  rw[hone]
  obtain rfl:o=pre:=by rw[<-hot,show i=o.length by omega,List.take_length]
  have hk':k<(qp l.field).length:=hk
  have hxx:(qp l.field)[k]=o:=hx
  obtain⟨hbl,htl⟩:=hInv _ _ _ hJ
  have hrt:=EZ l.field tv (.slice (some ⟨ob,0,none⟩) l.field.rows.toNat l.field.rows.toNat) o W htl (by rw[<-hol];exact aN.dB (cs:=(ah o).toArray) 1 o.length hst.cells (by simp[ah]) (by have:=hS.qH;simp only[maxLen];omega))
  rw[Gh hf (hxx▸dh hk')] at hrt
  obtain⟨QC,cf1,Tz⟩:=af hbl
  obtain⟨cc2,cf2,cl2⟩:=af hst.out
  obtain⟨cc3,cf3,cl3⟩:=af hst.y
  have HR:=ae hrt
  have HS:=ae hst
  have HJ:=ae hJ
  have HST:=ae hstep
  have HY:=ae hY
  have HK:=ae (show ∃h:k<(qp l.field).length,(qp l.field)[k]=o from⟨hk',hxx⟩)
  have HO:=ae (ag hol hot)
  have UM:=hS.qH
  have heq:((i:Int)==(l.field.rows.toNat:Int))=true:=by simpa using hrow
  clear hrt hInv hstep hY hst hJ hbl htl hat hxx hx hk hk' hone hrow hot hS
  obtain⟨q,hq⟩: ∃q,jk l.field [] o=q:=⟨_,rfl⟩
  have HQ:=ae hq
  rw[hq] at HR
  clear hq
  have ab2:o.length=l.field.rows.toNat:=HO.out.1
  obtain⟨rn,hrn⟩: ∃rn,l.field.rows.toNat=rn:=⟨_,rfl⟩
  rw[hrn] at HR heq cc2 ab2⊢
  have HRN:=ae hrn
  clear hrn him
  cases q
  ·skip
   refine callsIn_of_wp Tryz.func270 rfl trivial ?_
   simp only[Tryz.ntmps270,List.size_toArray,List.length_cons,List.length_nil,Nat.reduceAdd,Nat.reduceSub,Array.replicate_succ,Array.replicate_zero,kQ,kR,List.nil_append,List.cons_append]
   gi_wp2_with fail
   refine(callsIn_wide.2 HR.out).mono ?_
   rintro e W1 ⟨rfl,hb1⟩
   have HB1:=ae hb1
   clear hb1
   gi_wp2_with fail
   go_returns
   have hJ1:=HST.out _ _ _ _ _ HJ.out (Ext.aA HB1.out) (fun m hm=> .inl hm) trivial
   obtain⟨hk',hxx⟩:=HK.out
   rw[<-U1 hk' (by rw[hxx];exact HQ.out)] at hJ1
   exact .inl ⟨by simp,hJ1,o,ab2,HO.out.2,HRN.out▸HS.out.below HB1.out⟩
  ·skip
   refine callsIn_of_wp Tryz.func270 rfl trivial ?_
   simp only[Tryz.ntmps270,List.size_toArray,List.length_cons,List.length_nil,Nat.reduceAdd,Nat.reduceSub,Array.replicate_succ,Array.replicate_zero,kQ,kR,List.nil_append,List.cons_append]
   gi_wp2_with fail
   refine(callsIn_wide.2 HR.out).mono ?_
   rintro e W1 ⟨rfl,hb1⟩
   obtain⟨hc1,hf1⟩:=bK hb1
   have hs1:=hb1.size
   have HB1:=ae hb1
   have hJ1:=HST.out _ _ _ _ _ HJ.out (Ext.aA hb1) (fun m hm=> .inl hm) trivial
   obtain⟨hk',hxx⟩:=HK.out
   obtain⟨hc,hx⟩:=FW hk' (by rw[hxx];exact HQ.out)
   obtain⟨g1,t1,a1,b1,hy1,hR1⟩:=HY.out _ _ (.slice (some ⟨ob,0,none⟩) rn rn) W1 hc hJ1 (by
    rw[hx,hxx]
    exact⟨ob,by rw[ab2],(HS.out.below HB1.out).cells,by simp⟩)
   have hcn:uD l.field [] (k+1)=uD l.field [] k+1:=Py hk' (by rw[hxx];exact HQ.out)
   have HR1:=ae hR1
   have HCN:=ae hcn
   clear hR1 hJ1 hk' hxx hc hx hcn hb1
   gi_wp2_with fail
   refine HR1.out.mono ?_
   rintro e W' ⟨⟨hkeep,hsz⟩,⟨rfl,hJ⟩|⟨rfl,hJ⟩⟩
   ·have HJ':=ae hJ
    have HK':=ae hkeep
    clear hJ hkeep
    gi_wp2_with fail
    go_returns
    exact .inl ⟨by simp,by rw[HCN.out];exact HJ'.out,o,ab2,HO.out.2,HRN.out▸(HS.out.below HB1.out).kept (fun m hm hml=>HK'.out m hm (by simp) hml)⟩
   ·have HJ':=ae hJ
    clear hJ hkeep
    gi_wp2_with fail
    go_returns
    exact .inr ⟨by simp,HJ'.out⟩
 |succ m ih=>
  intro i k pre W o him hpl hol hot hat hst hJ
  have hi:i<(eY l.field).length:=by omega
  have hcount:=jJ.count hi
  have hw0:=hS.zK
  have hw1:=hS.xm
  have UM:=hS.qH
  have hr0:=hS.zM
  have Et:(eY l.field)[i]=(-1,l.field.aK-1):=by simp[eY]
  obtain⟨z,hz,hz4⟩: ∃z:Nat,(z:Int)=l.field.aK+1/\z<=4:=⟨(l.field.aK+1).toNat,by omega,by omega⟩
  have hsz:(eu (eY l.field)[i]).toNat=z:=by rw[Et];unfold eu;simp only;omega
  rw[hsz] at hcount
  obtain⟨hbl,htl⟩:=hInv _ _ _ hJ
  obtain⟨QC,cf1,Tz⟩:=af hbl
  obtain⟨cc2,cf2,cl2⟩:=af hst.out
  have hne:(i:Int)≠(l.field.rows.toNat:Int):=by omega
  have hneb:((i:Int)==(l.field.rows.toNat:Int))=false:=by simpa using hne
  have Np:Hid (∀c:Nat,c<z->jJ (eY l.field) (i+1) (k+c*(fB ((eY l.field).drop (i+1))).length) (pre++[(c:Int)-1])):=ae (fun c hc=>by
   have:=hat.next hi c (by rw[hsz];exact hc)
   rw[Et] at this
   rw[show(c:Int)-1= -1+(c:Int) from by omega]
   exact this)
  have HI:=ae hInv
  have HST:=ae hstep
  have HS:=ae hst
  have HJ:=ae hJ
  have HIH:=ae ih
  have KL:=ae (ag hol hot)
  have HCZ:=ae hcount
  have HZ:=ae hz
  have hi7:i<7:=by omega
  have hiR:i<l.field.rows.toNat:=by omega
  have hR7:l.field.rows.toNat<=7:=by omega
  clear hInv hstep hY hat hst hJ ih hcount hne hbl htl Et hsz hi hol hot hRl hz hS
  obtain⟨rn,hrn⟩: ∃rn,l.field.rows.toNat=rn:=⟨_,rfl⟩
  rw[hrn] at HS HIH KL hiR hR7 him hneb cc2⊢
  clear hrn
  refine callsIn_of_wp Tryz.func270 rfl trivial ?_
  simp only[Tryz.ntmps270,List.size_toArray,List.length_cons,List.length_nil,Nat.reduceAdd,Nat.reduceSub,Array.replicate_succ,Array.replicate_zero,kQ,kR,List.nil_append,List.cons_append]
  gi_wp2_with fail
  rw[<-HZ.out]
  gi_loopw [26] (fun u wr=> ∃c:Nat,c<=z/\u= .int .i64 c/\ ∃o':List Int,o'.length=rn/\o'.take i=pre/\Yq wr rn bl bo jv bc ob y o'/\J [ob,jv,bo,bc] (some (uD l.field [] (k+c*(fB ((eY l.field).drop (i+1))).length))) wr)
   (fun u _=>z-(intOf u).toNat)
  case atStart=>exact⟨0,bQ _,rfl,o,KL.out.1,KL.out.2,HS.out,by simpa using HJ.out⟩
  case round=>
   obtain⟨c,hcz,rfl,o',ho1,ho2,hst,hJ⟩:=hrel
   by_cases hlt:c<z
   ·obtain⟨cd1,PW,PG⟩:=af hst.out
    obtain⟨cd3,PU,PD⟩:=af hst.ch
    obtain⟨yv,hcell⟩: ∃yv,wr.cell? ⟨ob,i,none⟩=some (iv yv):=⟨_,gG hst.cells (show i<o'.length by omega)⟩
    have hab:=dI wr _ hcell
    have hfr:=bn hst.cells i
    have Ir:=ae hst
    have Ul:=ae hJ
    have HO:=ae (ag ho1 ho2)
    have Fb:(c:Int)<z:=by omega
    clear hst hJ ho1 ho2 QC cf1 Tz cc2 cf2 cl2
    have GV:=Ir.out.set hd1 hd2 hd3 i ((c:Int)-1)
    have hJS:J [ob,jv,bo,bc] (some (uD l.field [] (k+c*(fB ((eY l.field).drop (i+1))).length))) (wr.setCell ⟨ob,i,none⟩ (iv ((c:Int)-1))):=
     HST.out _ _ _ _ _ Ul.out ((mJ wr ⟨ob,i,none⟩ _).more (fun x hx=>by simp at hx;subst hx;simp)) (fun m hm=> .inl hm) trivial
    have hcall:=HIH.out (i+1) _ (pre++[(c:Int)-1]) _ (o'.set i ((c:Int)-1)) (by omega) (by simp[hpl]) (by simp[HO.out.1]) (by
     rw[List.take_set]
     rw[qY,HO.out.2]
     have hio:i<o'.length:=by have:=HO.out.1;omega
     rw[dw hio]
     simp[qA,hpl]) (Np.out c hlt) GV hJS
    rw[show((i+1:Nat):Int)=(i:Int)+1 from by omega] at hcall
    have Cf:=ae hcall
    clear hcall GV hJS
    gi_wp2_with fail
    refine Cf.out.mono ?_
    rintro e W2 (⟨rfl,hJ2,o2,ho1,ho2,hst2⟩|⟨rfl,hJ2⟩)
    ·have HJ2:=ae hJ2
     have Uc:=ae hst2
     have Fh:=ae (ag ho1 ho2)
     clear hJ2 hst2 ho1 ho2 cd1 PW PG cd3 PU PD hcell hab hfr
     gi_wp2_with fail
     go_roundw
     case rel=>
      refine⟨c+1,by omega,by go_num,o2,Fh.out.1,?_,Uc.out,?_⟩
      ·have:=congrArg (List.take i) Fh.out.2
       rw[List.take_take,Nat.min_eq_left (by omega)] at this
       rw[this,nK (by omega),kF (by omega)]
      ·rw[Nat.add_mul,Nat.one_mul, <-Nat.add_assoc];exact HJ2.out
     case measure=>simp[intOf];omega
    ·have HJ2:=ae hJ2
     clear hJ2 cd1 PW PG cd3 PU PD hcell hab hfr
     gi_wp2_with fail
     go_returns
     exact .inr ⟨by simp,HJ2.out⟩
   ·have SG:c=z:=by omega
    subst SG
    have Ul:=ae hJ
    have Ir:=ae hst
    have HO:=ae (ag ho1 ho2)
    clear hJ hst ho1 ho2 QC cf1 Tz cc2 cf2 cl2
    gi_wp2_with fail
    go_returns
    refine .inl ⟨by simp,?_,o',HO.out.1,HO.out.2,Ir.out⟩
    rw[HCZ.out];exact Ul.out
theorem YY (l:aQ) (hf:jX l.field=0) (tv nv:Value) (bl:Nat):
 XM Tryz.prog 269 #[.pointer (some ⟨bl,0,none⟩)] (bV l.field []) aid [] (fun _=>True) (adA bl l tv nv):=by
 intro y J W hInv hstep hY h0
 obtain⟨hbl,htl⟩:=hInv _ _ _ h0
 have hch:=fun bo jv bc ob hd1 hd2 hd3=>NZ l hf tv nv bl bo jv bc ob y hd1 hd2 hd3 J hInv hstep hY
 have hS:=iH hf
 have UM:=hS.qH
 have hr0:=hS.zM
 obtain⟨QC,cf1,Tz⟩:=af hbl
 obtain⟨rn,hrn⟩: ∃rn:Nat,l.field.rows=rn:=⟨l.field.rows.toNat,by omega⟩
 have hrt:l.field.rows.toNat=rn:=by omega
 have HCH:=ae hch
 have HST:=ae hstep
 have HJ:=ae h0
 have HRN:=ae (ag hrn hrt)
 have hmk:=vS rn (by omega)
 have hn3: ∀(A B C:Obj) (v:Value) (t:TypeId),((((W.alloc A).alloc B).alloc C).alloc (.cells #[v] t)).cell? ⟨W.heap.size+1+1+1,0,none⟩=some v:=fun A B C v t=>aB (mg W A B C _)
 have hf3: ∀(A B C:Obj) (v:Value) (t:TypeId),((((W.alloc A).alloc B).alloc C).alloc (.cells #[v] t)).frozen? ⟨W.heap.size+1+1+1,0,none⟩=false:=fun A B C v t=>bn (mg W A B C _) 0
 have hl4:lh l tv nv= #[iv (rn:Int),iv l.field.aK,iv l.field.left.1,iv l.field.left.2,tv,iv l.rate,iv l.box.1,iv l.box.2,nv]:=by unfold lh;rw[hrn]
 rw[hl4] at QC
 clear hInv hstep hY hch h0 hS hbl htl hrn hrt hl4
 go_enter Tryz.func269,Tryz.ntmps269
 go_wp2_with fail
 refine(callsIn_wide.1 (HCH.o (W.heap.size+1+1) W.heap.size (W.heap.size+1+1+1) (W.heap.size+1) (by omega) (by omega) (by omega) l.field.rows.toNat 0 0 [] _ (List.replicate rn 0) (by omega) rfl (by simp[HRN.o.2]) (by simp) (jJ.zero _) ⟨?_,?_,?_,?_⟩
  (HST.o _ _ _ _ _ HJ.o (Ext.aA zl) (fun m hm=> .inr (by simp at hm;(first|omega|(simp;omega)))) trivial))).mono ?_
 ·exact((aV _ _ _ (by simp;omega)).trans ((aV _ _ _ (by simp;omega)).trans ((aV _ _ _ (by simp)).trans (ay _ _))))
 ·rw[HRN.o.2];exact((aV _ _ _ (by simp)).trans (iq _ _ _ _))
 ·exact mg _ _ _ _ _
 ·exact((aV _ _ _ (by simp)).trans ((aV _ _ _ (by simp)).trans (dV _ _ _)))
 ·rintro e W2 (⟨rfl,hJ2,_⟩|⟨rfl,hJ2⟩)
  ·have HJ2:=ae hJ2
   clear hJ2 hn3 hf3 hmk
   go_wp2_with fail
   go_end0
   refine⟨⟨_,rfl⟩,[W.heap.size+1,W.heap.size,W.heap.size+1+1,W.heap.size+1+1+1],.inl ?_⟩
   have:=HJ2.o
   rw[<-Pz]
   simpa [qp] using this
  ·have HJ2:=ae hJ2
   clear hJ2 hn3 hf3 hmk
   go_wp2_with fail
   go_end0
   exact⟨⟨_,rfl⟩,_,.inr HJ2.o⟩
theorem YZ (l:aQ) (tv nv:Value) (w:World):
 Calls Tryz.prog 202 #[lv l tv nv] w (fun e w'=>e= .returned (.func (.func 269) #[] #[.pointer (some ⟨w.heap.size,0,none⟩)])/\w'=w.alloc (.cells (lh l tv nv) 49)):=by
 go_enter Tryz.func202,Tryz.ntmps202
 go_wp2
 go_returns
 exact⟨by simp,rfl⟩
end Go.Proofs.YthllkbbbapgelaaGreatDoor
namespace Go.Proofs.YthllkbbbapgelaaGreatDoor
open Go.RowKit Go.RG Go.SL Go.Shelf jy Go.TB
attribute [local go_sem] Oper.semAt_some
theorem ac1:iQ Tryz.prog 255 257 (.agg #[iv 0,iv 0,iv 0]) 3 24:=⟨Tryz.underlying255,by kernel_rfl,rfl,by omega⟩
def ql (l:aQ) (k:Nat):List (List Int):=((bV l.field []).take k).foldl (fun acc t=>lT acc (lW l.rate t)) []
def gm (l:aQ):List (List Int):=ql l (bV l.field []).length
theorem O8 {l:aQ} {k:Nat} {x:List Int} (hx:(bV l.field [])[k]? =some x):ql l (k+1)=lT (ql l k) (lW l.rate x):=by
 obtain⟨hk,rfl⟩:=je.1 hx
 unfold ql
 rw[iC hk,List.foldl_append]
 rfl
theorem BI (l:aQ) (k:Nat): ∀y∈ql l k,y.length=3:=fun y hy=>by
 unfold ql at hy
 rw[Bh] at hy
 rcases hy with h|⟨t,_,rfl⟩
 ·cases h
 ·exact lu _ _
theorem Aw (l:aQ): ∀k,(ql l k).length<=k:=by
 intro k
 unfold ql
 have: ∀(ts:List (List Int)) (acc:List (List Int)),(ts.foldl (fun acc t=>lT acc (lW l.rate t)) acc).length<=acc.length+ts.length:=by
  intro ts
  induction ts with
  |nil=>intro acc;simp
  |cons t ts ih=>
   intro acc
   have h1:=ih (lT acc (lW l.rate t))
   have h2:=JB acc (lW l.rate t)
   simp only[List.foldl_cons,List.length_cons]
   omega
 have h:=this ((bV l.field []).take k) []
 simp only[List.length_nil,Nat.zero_add,gU] at h
 omega
theorem JZ {l:aQ} {d:List Int}:d∈gm l↔ ∃t∈bV l.field [],d=lW l.rate t:=by
 unfold gm ql
 rw[List.take_length,Bh]
 simp
abbrev uJ (l:aQ) (tv nv v:Value) (mb:Nat):Array Value:= #[iv l.field.rows,iv l.field.aK,iv l.field.left.1,iv l.field.left.2,tv,iv l.rate,iv l.box.1,iv l.box.2,nv,v,.map (some mb)]
structure Na (B:Nat) (l:aQ) (tv nv:Value) (ls:List (List Int)) (Ms:List Nat) (W:World):Prop where
 b0:W.heap[B]? =some (.cells (lh l tv nv) 49 (0,0))
 tab:W.heap[B+1]? =some (.map #[] 0)
 work: ∃v,W.heap[B+2]? =some (.cells (uJ l tv nv v (B+1)) 260 (0,0))/\W.ownsRow (B+7) 257 3 v ls.length (ls.flatMap ah)/\ ∀g,v.ownBlock=some g->g∉Ms/\g<W.heap.size
 ptr:W.heap[B+3]? =some (.cells #[.pointer (some ⟨B+2,0,none⟩)] 159 (0,0))
 b4:W.heap[B+4]? =some (.cells (lh l tv nv) 49 (0,0))
theorem Na.kept {B:Nat} {l:aQ} {tv nv:Value} {ls:List (List Int)} {Ms Ms':List Nat} {W W':World} (h:Na B l tv nv ls Ms W) (hs:W.heap.size<=W'.heap.size) (hk: ∀b,B<=b->b<B+5->W'.heap[b]? =W.heap[b]?)
 (ho: ∀g,B+7<=g->g<W.heap.size->g∉Ms->W'.heap[g]? =W.heap[g]?) (hM: ∀m∈Ms',m∈Ms∨(W.heap.size<=m/\m<W'.heap.size)):Na B l tv nv ls Ms' W':=by
 obtain⟨v,h1,h2,h3⟩:=h.work
 refine⟨(hk _ (by omega) (by omega)).trans h.b0,(hk _ (by omega) (by omega)).trans h.tab,⟨v,(hk _ (by omega) (by omega)).trans h1,dn h2 fun g hg=>ho g (bD h2 g hg).1 (bD h2 g hg).2 (h3 g hg).1,fun g hg=>⟨fun hm=>?_,by have:=(h3 g hg).2;omega⟩⟩,
  (hk _ (by omega) (by omega)).trans h.ptr,(hk _ (by omega) (by omega)).trans h.b4⟩
 rcases hM g hm with h4|h4
 ·exact(h3 g hg).1 h4
 ·have:=(h3 g hg).2;omega
structure D6 (W:World) (wb mb:Nat) (l:aQ) (tv nv v:Value) (ls:List (List Int)):Prop where
 cells:W.heap[wb]? =some (.cells (uJ l tv nv v mb) 260 (0,0))
 xE:dW W tv l.field.ax
 notes:bJ W nv l.notes
 truth:aN 3 W v ls.length (ls.flatMap ah)
def XI (l:aQ) (tv nv:Value) (w:World) (e:Ending) (W:World):Prop:=
 ∃(wb mb:Nat) (v:Value),e= .returned (.pointer (some ⟨wb,0,none⟩))/\w.heap.size<=wb/\w.heap.size<=mb/\W.heap[mb]? =some (.map #[] 0)/\D6 W wb mb l tv nv v (gm l)/\Below w.heap.size w W
theorem WY (l:aQ) (tv nv:Value) (hf:jX l.field=0) (h0:0<=l.rate) (h1:l.rate<=50) (w:World) (ht:dW w tv l.field.ax) (hn:bJ w nv l.notes):
 Calls Tryz.prog 120 #[lv l tv nv] w (XI l tv nv w):=by
 obtain⟨ot,ct,rfl⟩:=ht.open
 obtain⟨on,cn,rfl⟩:=hn.open
 have hS:=iH hf
 have hr0:=hS.zM
 have UM:=hS.qH
 have hw3:=hS.xm
 have hmm:= @run_makeMap Tryz.prog
 have HF:=ae hf
 have HS:=ae hS
 have HT':Hid (∀W,Below w.heap.size w W->dW W (.slice ot l.field.ax.length ct) l.field.ax):=ae (fun W hb=>ht.below hb (ai _))
 have HN':Hid (∀W,Below w.heap.size w W->bJ W (.slice on l.notes.length cn) l.notes):=ae (fun W hb=>hn.below hb (ai _))
 clear ht hn hf hS
 obtain⟨tv,J8⟩: ∃tv,Value.slice ot l.field.ax.length ct=tv:=⟨_,rfl⟩
 obtain⟨nv,hnv⟩: ∃nv,Value.slice on l.notes.length cn=nv:=⟨_,rfl⟩
 rw[J8] at HT'⊢
 rw[hnv] at HN'⊢
 refine(callsIn_wide (n:=0)).1 ?_
 refine callsIn_of_wp_marks Tryz.func120 rfl trivial ?_
 simp only[Tryz.ntmps120,List.size_toArray,List.length_cons,List.length_nil,Nat.reduceAdd,Nat.reduceSub,Array.replicate_succ,Array.replicate_zero,kQ,kR,List.nil_append,List.cons_append]
 gi_wp2_with fail
 refine(callsIn_wide.2 (YZ l tv nv _)).mono ?_
 rintro e w1 ⟨rfl,rfl⟩
 gi_wp2_with fail
 obtain⟨B,mZ⟩: ∃B,w.heap.size=B:=⟨_,rfl⟩
 rw[mZ]
 obtain⟨w4,hw4⟩: ∃w4,(((((w.alloc (.cells (lh l tv nv) 49)).alloc (.map #[] 0)).alloc (.cells #[iv l.field.rows,iv l.field.aK,iv l.field.left.1,iv l.field.left.2,tv,iv l.rate,iv l.box.1,iv l.box.2,nv,.slice none 0 0,.map (some (B+1))] 260)).alloc (.cells #[.pointer (some ⟨B+1+1,0,none⟩)] 159)).alloc (.cells (lh l tv nv) 49))=w4:=⟨_,rfl⟩
 have aef:w4.heap.size=B+5:=by rw[<-hw4];simp;omega
 have HB4:Hid (Below w.heap.size w w4):=ae (by rw[<-hw4];exact zl)
 have HA4:Hid (Na B l tv nv [] [] w4):=ae (by
  rw[<-hw4]
  refine⟨?_,?_,⟨.slice none 0 0,?_,⟨rfl,.inl ⟨rfl,rfl⟩⟩,fun g hg=>by cases hg⟩,?_,?_⟩
  ·rw[<-mZ];exact(aV _ _ _ (by simp;omega)).trans ((aV _ _ _ (by simp;omega)).trans ((aV _ _ _ (by simp;omega)).trans ((aV _ _ _ (by simp)).trans (ay _ _))))
  ·rw[<-mZ];exact(aV _ _ _ (by simp)).trans ((aV _ _ _ (by simp)).trans ((aV _ _ _ (by simp)).trans (dV _ _ _)))
  ·rw[<-mZ];exact(aV _ _ _ (by simp)).trans ((aV _ _ _ (by simp)).trans (iq _ _ _ _))
  ·rw[<-mZ];exact(aV _ _ _ (by simp)).trans (mg _ _ _ _ _)
  ·have:=ay ((((w.alloc (.cells (lh l tv nv) 49)).alloc (.map #[] 0)).alloc (.cells #[iv l.field.rows,iv l.field.aK,iv l.field.left.1,iv l.field.left.2,tv,iv l.rate,iv l.box.1,iv l.box.2,nv,.slice none 0 0,.map (some (B+1))] 260)).alloc (.cells #[.pointer (some ⟨B+1+1,0,none⟩)] 159)) (.cells (lh l tv nv) 49)
   simp only[bu,mZ] at this
   exact this)
 rw[hw4]
 clear hw4 hmm
 have Ey: ∀b,b∈[B,B+1,B+2,B+3,B+4,B+5,B+6]↔(B<=b/\b<B+7):=fun b=>by simp;omega
 obtain⟨Os,G9⟩: ∃Os,[B,B+1,B+2,B+3,B+4,B+5,B+6]=Os:=⟨_,rfl⟩
 rw[G9] at Ey
 clear G9
 have hcnt:=lZ HS.o []
 refine mP (YY l HF.o tv nv (B+4)) rfl (enters_of Tryz.func269 (by kernel_rfl) rfl) rfl (by simp)
  (fun Ms k W=>IB w Os Ms W/\Na B l tv nv (ql l k) Ms W)
  (fun _ _ _=>False)
  ?hInv ?pK ?hI ?hIx ?Ja ?tX ?h0
  (fun a Ms k W1 a₁ W=> ∃(x:List Int) (ob:Nat),(bV l.field [])[k]? =some x/\a₁={tmps:=(a.tmps.setIfInBounds 12 (.slice (some ⟨ob,0,none⟩) x.length x.length)).setIfInBounds 4 (.slice (some ⟨ob,0,none⟩) x.length x.length),defers:=[]}/\
    (IB w Os Ms W/\Na B l tv nv (ql l k) Ms W)/\(ob∈Ms/\W.heap[ob]? =some (.cells (ah x).toArray 3 (0,0)))/\
    (∀m∈Ms,m∉([]:List Nat)->m<W1.heap.size->W.heap[m]? =W1.heap[m]?)/\W1.heap.size<=W.heap.size)
  ?MB ?hassign ?hbody ?hdone ?hstop
 case hInv=>
  rintro Ms k W ⟨hF,hP⟩
  exact⟨hP.b4,HT'.o W hF.ext⟩
 case pK=>rintro cd Ms W h;exact h.elim
 case hI=>
  rintro Ms Ms' k Wa Wb ⟨hF,hP⟩ hE hMs _
  exact⟨(hF.iV hE hMs).1,hP.kept hE.size (fun b h1 h2=>(hF.iV hE hMs).2 b ((Ey b).2 (by omega))) (fun g h1 h2 h3=>hE.block g h2 h3) hMs⟩
 case hIx=>rintro cd Ms Ms' Wa Wb h;exact h.elim
 case Ja=>
  rintro Ms k W r ob ⟨hF,hP⟩ hr
  exact⟨hF.put ob (by omega),hP.kept (by simp) (fun b h1 h2=>World.putObj_heap_other (by omega)) (fun g h1 h2 h3=>World.putObj_heap_other (by omega)) (fun m hm=> .inl hm)⟩
 case tX=>rintro cd Ms W r ob h;exact h.elim
 case h0=>
  intro o1 o2
  refine⟨⟨aj (aj HB4.o _) _,by simp,by simp,fun b hb=>⟨by simp,by have:=(Ey b).1 hb;simp;omega⟩⟩,?_⟩
  exact HA4.o.kept (by simp;omega) (fun b h1 h2=>(aV _ _ _ (by simp;omega)).trans (aV _ _ _ (by omega))) (fun g h1 h2 h3=>by omega) (fun m hm=> .inl hm)
 case MB=>
  rintro Ms k W1 a₁ W obj ⟨x,ob,hx,ha,⟨hF,hP⟩,⟨hob,hcb⟩,hk,hs⟩
  have hap:=(hF.apart (B+6) ((Ey _).2 (by omega))).1
  refine⟨x,ob,hx,ha,⟨hF.put obj (by omega),hP.kept (by simp) (fun b h1 h2=>World.putObj_heap_other (by omega)) (fun g h1 h2 h3=>World.putObj_heap_other (by omega)) (fun m hm=> .inl hm)⟩,
   ⟨hob,(World.putObj_heap_other (fun e=>hap (by rw[show B+6=ob by omega];exact hob))).trans hcb⟩,
   fun m hm h0 hml=>(World.putObj_heap_other (fun e=>hap (by rw[show B+6=m by omega];exact hm))).trans (hk m hm h0 hml),by simpa using hs⟩
 case hassign=>
  rintro Ms k v W hk ⟨hF,hP⟩ ⟨ob,rfl,hcb,hob⟩ hlt
  have hxk:(bV l.field [])[k]? =some (bV l.field [])[k]:=dw hk
  generalize (bV l.field [])[k]=x at*
  gi_wp2
  exact⟨⟨x,ob,hxk,rfl,⟨hF,hP⟩,⟨hob,hcb⟩,fun _ _ _ _=>trivial,ai _⟩,trivial,trivial⟩
 case hbody=>
  rintro Ms k W1 a₁ W busy hk ⟨x,ob,hx,rfl,⟨hF,hP⟩,⟨hob,hcb⟩,hkeep,hsz⟩ hrec hD
  simp only[rf,List.set_cons_succ,List.set_cons_zero]
  have hxl:=oJ (ni hx)
  have hxm:=(Ea (ni hx)).1
  have vg:aO W (.slice (some ⟨ob,0,none⟩) x.length x.length) x:=aN.dB (cs:=(ah x).toArray) 1 x.length hcb (by simp[ah]) (by simp only[maxLen];omega)
  have UQ:=aaw l tv nv _ x W vg h0 h1 (by omega) (fun n hn=>by
   obtain⟨i,hi,rfl⟩:=mF hn
   have:=(Gw.1 hxm).2 i (by omega)
   rw[show x.getD i 0=x[i] from by simp[List.getD,hi]] at this
   omega)
  have hsu:=O8 (l:=l) hx
  have hdl:=lu l.rate x
  obtain⟨ys,OT⟩: ∃ys,lW l.rate x=ys:=⟨_,rfl⟩
  rw[OT] at UQ hsu hdl
  obtain⟨y0,y1,y2,hys⟩:=nN hdl
  have Z7:Calls Tryz.prog 203 #[lv l tv nv,.slice (some ⟨ob,0,none⟩) x.length x.length] W (fun e w'=>e= .returned (.agg #[iv y0,iv y1,iv y2])/\Below W.heap.size W w'/\W.heap.size<w'.heap.size):=by rw[hys] at UQ;exact UQ
  obtain⟨c0,f0,l0⟩:=af hP.b0
  have aeq:k<=2500:=by omega
  have hlk:=Aw l k
  have h3s:=BI l k
  have KO:=ae hF
  have HP:=ae hP
  have HDU:=ae Z7
  have xw:=ae hsu
  have HK:=ae (ag hkeep (ag hrec hD))
  have Cc:=ae (ag hys hdl)
  have H3:=ae h3s
  clear hF hP UQ Z7 hsu hdl hys OT hkeep hrec hD hx hxm hcb vg hxl h3s
  generalize ql l (k+1)=ls' at*
  generalize ql l k=ls at*
  gi_wp2_with fail
  refine(CallsIn.inRound _ (callsIn_wide.2 HDU.o)).mono ?_
  rintro e w6 ⟨rfl,hb,hgrow⟩
  obtain⟨W7,zB⟩: ∃W7,w6.alloc (.cells #[iv y0,iv y1,iv y2] 257)=W7:=⟨_,rfl⟩
  have IK:Below W.heap.size W W7:=by rw[<-zB];exact aj hb _
  have aew:W7.heap[w6.heap.size]? =some (.cells #[iv y0,iv y1,iv y2] 257 (0,0)):=by rw[<-zB];exact ay _ _
  have agw:W7.heap.size=w6.heap.size+1:=by rw[<-zB];simp
  have hap: ∀b∈Os,b∉Ms/\b<W.heap.size:=KO.o.apart
  have hin: ∀b,B<=b->b<B+7->b∈Os:=fun b h1 h2=>(Ey b).2 (by omega)
  have hF7:=(KO.o.iV (Ext.aA IK) (fun m hm=> .inl hm)).1
  have SK:Na B l tv nv ls Ms W7:=HP.o.kept IK.size (fun b h1 h2=>IK.block b (hap b (hin b h1 (by omega))).2) (fun g h1 h2 h3=>IK.block g h2) (fun m hm=> .inl hm)
  have adb:W7.heap[w4.heap.size+1]? =some (.loop busy):=(IK.block _ (aS.1 HK.o.2.1).1).trans HK.o.2.1
  have hD7:W7.heap[w4.heap.size]? =some (.deferred (some [])):=(IK.block _ (aS.1 HK.o.2.2).1).trans HK.o.2.2
  have ag0: ∀m∈Ms,m∉([]:List Nat)->m<W1.heap.size->W7.heap[m]? =W1.heap[m]? :=fun m hm h0 hml=>(IK.block m (by omega)).trans (HK.o.1 m hm h0 hml)
  obtain⟨s0,hs0⟩: ∃s0,W.heap.size=s0:=⟨_,rfl⟩
  have HS0:Hid (B+7<=s0/\s0∉Ms/\s0<w6.heap.size):=ae ⟨by have:=(hap (B+6) (hin _ (by omega) (by omega))).2;omega,fun hm=>by have:=KO.o.bnd s0 hm;omega,by omega⟩
  obtain⟨v,aed,agr,ZA⟩:=HP.o.work
  have hv1:=(IK.block _ (aS.1 aed).1).trans aed
  have hv2:=dn agr fun g hg=>IK.block g (ZA g hg).2
  have hv3: ∀g,v.ownBlock=some g->g∉Ms/\g<W7.heap.size:=fun g hg=>⟨(ZA g hg).1,by have:=(ZA g hg).2;have:=IK.size;omega⟩
  have HVO:Hid (∀g,v.ownBlock=some g->g<s0):=ae (fun g hg=>by have:=(ZA g hg).2;omega)
  clear aed agr ZA
  obtain⟨vo,vc,rfl⟩:=aW hv2
  have hs1:W1.heap.size<=W7.heap.size:=by have:=IK.size;omega
  have yM:=ae hF7
  have Vb:=ae SK
  have HV:=ae (ag hv1 (ag hv2 hv3))
  have xI:=ae (ag ag0 (ag adb hD7))
  have HBT:=ae aew
  have aob:s0<w6.heap.size:=by omega
  have hap': ∀b∈Os,b∉Ms/\b<W7.heap.size:=fun b hb=>⟨(hap b hb).1,by have:=(hap b hb).2;omega⟩
  clear hap
  have hap:=hap'
  clear hap'
  obtain⟨c1,f1,q1⟩:=af (show W7.heap[B+1+1+1]? =some (.cells #[.pointer (some ⟨B+1+1,0,none⟩)] 159 (0,0)) from SK.ptr)
  obtain⟨c2,f2,q2⟩:=af (show W7.heap[B+1+1]? =some (.cells (uJ l tv nv (.slice vo ls.length vc) (B+1)) 260 (0,0)) from hv1)
  obtain⟨c3,f3,q3⟩:=af aew
  clear hb hgrow c0 f0 l0 hF7 SK hv1 hv2 hv3 ag0 adb hD7 aew KO HP HK IK hs0
  gi_wp2_with fail
  (try rw[zB])
  clear zB
  have apF:=ae agw
  clear agw
  rcases(List.eq_nil_or_concat ls).imp id (fun⟨A,z,e⟩=>(⟨A,z,e.trans (List.concat_eq_append)⟩: ∃A z,ls=A++[z])) with rfl|⟨A,z,rfl⟩
  ·simp only[List.length_nil] at c2 HV HVO
   have Um:Hid (lT [] ys=[]++[ys]):=ae (by simp[lT])
   refine dP 22 [] none [] (by kernel_rfl) (by kernel_rfl) (by kernel_rfl) ?_
   simp only[zt]
   repeat ((first|refine zn ?_|refine zk ?_);simp only[zp])
   intro W hE hF
   obtain⟨hc,hf⟩:=bK hE.below
   have hzE:=hE.size
   (try simp only[bu] at hzE)
   have lV:Ext [] W7 W:=hE
   have IJ:Na B l tv nv ([]) Ms W:=Vb.o.kept lV.size (fun b h1 h2=>lV.block b (by have:=(hap b (hin b h1 (by omega))).2;omega) (by simp)) (fun g h1 h2 h3=>lV.block g h2 (by simp)) (fun m hm=> .inl hm)
   have G7:=(lV.block _ (by omega) (by simp)).trans HBT.o
   obtain⟨v8,tN,tK,Ah⟩:=IJ.work
   have GU:v8= .slice (vo) (0) vc:=by
    have h4:=(lV.block _ q2 (by simp)).trans HV.o.1
    rw[tN] at h4
    simp only[Option.some.injEq,Obj.cells.injEq,and_true,Array.mk.injEq,List.cons.injEq,true_and] at h4
    exact h4
   rw[GU] at tN tK Ah
   clear GU
   (try simp only[List.length_nil] at tK)
   (try simp only[dm,List.length_cons,List.length_nil,Nat.zero_add] at tK)
   obtain⟨p1,p2,p3⟩:=af (show W.heap[B+1+1+1]? =some (.cells #[.pointer (some ⟨B+1+1,0,none⟩)] 159 (0,0)) from IJ.ptr)
   obtain⟨p4,p5,p6⟩:=af (show W.heap[B+1+1]? =some (.cells (uJ l tv nv (.slice (vo) (0) vc) (B+1)) 260 (0,0)) from tN)
   obtain⟨p7,p8,p9⟩:=af G7
   have aeg:=lV.size
   have KJ:=ae IJ
   have IL:=ae (ag tN (ag tK Ah))
   have ja:=ae lV
   clear hE hF hc hf lV IJ tN tK Ah G7 c1 f1 q1 c2 f2 q2 c3 f3 q3 hzE
   obtain⟨gx,hgx,aca,hgx2,BA,ab9⟩: ∃gx,(∀g,(Value.slice (vo) (0) vc).ownBlock=some g->g=gx)/\B+7<=gx/\gx<W.heap.size/\gx∉Ms/\gx≠w6.heap.size:=by
    cases Aj:(Value.slice (vo) (0) vc).ownBlock with
    |none=>exact⟨s0,(fun g hg=>by cases hg),HS0.o.1,by omega,HS0.o.2.1,by omega⟩
    |some g=>
     have h1:=bD IL.o.2.1 g Aj
     have h2:=IL.o.2.2 g Aj
     exact⟨g,(fun g' hg=>by cases hg;rfl),h1.1,h1.2,h2.1,fun e=>by have:=HVO.o g Aj;omega⟩
   have HG:=ae hgx
   clear hgx
   have z1:gx≠B+1+1:=by omega
   have z2:gx≠B+1+1+1:=by omega
   have z1':B+1+1≠gx:=by omega
   have z2':B+1+1+1≠gx:=by omega
   have z3':w6.heap.size≠gx:=by omega
   gi_wp2_with fail
   refine dP 8 [gx] (some 7) [(6,Spec.slice W.heap.size #[iv y0,iv y1,iv y2] 257 1),(7,⟨fun _ v=> ∃o c,v= .slice o (0+1) c,fun _ v Wx=>Wx.ownsRow (B+7) 257 3 v (0+1) ((([])++[ys]).flatMap ah)/\(∀g,v.ownBlock=some g->g=gx∨W.heap.size<=g)⟩)] (by kernel_rfl) (by kernel_rfl) (by kernel_rfl) ?_
   simp only[zt]
   repeat ((first|refine zn ?_|refine zk ?_);simp only[zp])
   refine dY W.heap.size _ _ 1 (by rfl) (ai _) (by rfl) (by simpa using hgx2) (by simp) (fun W hW=>by go_simp;try rfl) (fun b6=>?_)
   simp only[zp]
   refine bG _ (by rfl) (by rfl) (by exact⟨.slice none (0+1) 0,none,0,rfl⟩) (fun Wa hE hF=>?_) (fun v Wa Wb ho hE=>?_) (fun v hv=>?_)
   ·have hE':Ext [] W Wa:=hE
    obtain⟨b',hb',hge,hcc⟩:=hF _ (bF _) (by kernel_rfl)
    cases hb'
    have hown6:=aC (Ms:=[]) IL.o.2.1 hE' (by simp)
    have hsrc:aN 3 Wa (.slice (some ⟨b6,0,none⟩) 1 1) 1 (ah ys):=by
     rw[Cc.o.1]
     exact aN.dB 3 1 hcc rfl (by decide)
    refine Does.mono (dM ac1 (by rfl) (by rfl) hown6 (by rfl) hsrc (jL _) (by omega) (by omega) (by have:=hE'.size;omega)) ?_
    rintro v' Wc ⟨ho,hgr,hcase⟩
    refine⟨aW ho,⟨?_,fun g hg=>?_⟩,⟨hgr.os,hgr.tape,hgr.output,hgr.size,fun b hb hn=>hgr.block b hb (fun e=>hn (by rw[HG.o b e.symm];simp))⟩⟩
    ·rw[uZ]
     simpa using ho
    ·rcases hcase with h1|h1
     ·exact .inl (HG.o g (by rw[<-h1,hg]))
     ·rw[hg] at h1;injection h1 with h1;exact .inr (by have:=hE'.size;omega)
   ·exact⟨aC (Ms:=[]) ho.1 hE (by simp),ho.2⟩
   obtain⟨o7,c7,rfl⟩:=hv
   simp only[zp]
   intro W9 hE hF
   have hE':Ext [gx] W W9:=hE
   obtain⟨UN,I8⟩:=hF _ (bF _)
   have Ag:W9.heap[B+1+1]? =some (.cells (uJ l tv nv (.slice (vo) (0) vc) (B+1)) 260 (0,0)):=(hE'.block _ p6 (by simpa using z1')).trans IL.o.1
   obtain⟨c9,f9,l9⟩:=af Ag
   have Ce:=ae hE'
   have xk:=ae (ag UN (ag I8 Ag))
   clear hE hF hE' UN I8 p1 p2 p4 p5 p7 p8 Ag
   gi_wp2_with fail
   obtain⟨v',hv'⟩: ∃v',Value.slice o7 (0+1) c7=v':=⟨_,rfl⟩
   rw[hv'] at xk⊢
   have wO:(W9.setCell ⟨B+1+1,9,none⟩ v').heap.size=W9.heap.size:=by simp[World.setCell]
   have hs9:=Ce.o.size
   have hks: ∀b,b<W.heap.size->b≠gx->b≠B+1+1->(W9.setCell ⟨B+1+1,9,none⟩ v').heap[b]? =W.heap[b]? :=fun b hb h1 h2=>
    (dH _ _ _ _ h2).trans (Ce.o.block b hb (by simpa using h1))
   have FI: ∀b,b<W7.heap.size->b≠gx->b≠B+1+1->(W9.setCell ⟨B+1+1,9,none⟩ v').heap[b]? =W7.heap[b]? :=fun b hb h1 h2=>(hks b (by omega) h1 h2).trans (ja.o.block b hb (by simp))
   have hFB:IB w Os Ms (W9.setCell ⟨B+1+1,9,none⟩ v'):=yM.o.own (yM.o.ext.trans ⟨Ce.o.os.trans ja.o.os,Ce.o.tape.trans ja.o.tape,Ce.o.output.trans ja.o.output,by rw[wO];omega,fun b hb=>(dH _ _ _ _ (by show b≠B+1+1;omega)).trans ((Ce.o.block b (by have:=yM.o.ext.size;omega) (by simp;omega)).trans (ja.o.block b (by have:=yM.o.ext.size;omega) (by simp)))⟩) (by rw[wO];omega)
   have hlen1:(([])++[ys]).length=0+1:=by simp
   refine⟨⟨?_,?_,fun m hm h0 hml=>?_,by rw[wO];omega⟩,hFB,?_⟩
   ·exact(FI _ (by have:=(hap _ (hin (w4.heap.size+1) (by omega) (by omega))).2;omega) (by omega) (by omega)).trans xI.o.2.1
   ·exact(FI _ (by have:=(hap _ (hin w4.heap.size (by omega) (by omega))).2;omega) (by omega) (by omega)).trans xI.o.2.2
   ·exact(FI m (yM.o.bnd m hm) (fun e=>BA (e▸hm)) (fun e=>(hap (B+1+1) (hin _ (by omega) (by omega))).1 (e▸hm))).trans (xI.o.1 m hm h0 hml)
   rw[xw.o,Um.o]
   refine⟨?_,?_,⟨v',aI xk.o.2.2 _,hlen1.symm▸dn xk.o.1 fun g hg=>dH _ _ _ _ (by have:=(bD xk.o.1 g hg).1;show g≠B+1+1;omega),fun g hg=>⟨fun hm=>?_,by rw[wO];exact(bD xk.o.1 g hg).2⟩⟩,?_,?_⟩
   ·exact(hks _ (by have:=(hap _ (hin B (by omega) (by omega))).2;omega) (by omega) (by omega)).trans KJ.o.b0
   ·exact(hks _ (by have:=(hap _ (hin (B+1) (by omega) (by omega))).2;omega) (by omega) (by omega)).trans KJ.o.tab
   ·rcases xk.o.2.1 g hg with h1|h1
    ·exact BA (h1▸hm)
    ·have:=yM.o.bnd g hm;omega
   ·exact(hks _ (by have:=(hap _ (hin (B+3) (by omega) (by omega))).2;omega) (by omega) (by omega)).trans KJ.o.ptr
   ·exact(hks _ (by have:=(hap _ (hin (B+4) (by omega) (by omega))).2;omega) (by omega) (by omega)).trans KJ.o.b4
  ·have hz3:=H3.o z (by simp)
   obtain⟨gb,gc,hvv,hgb,SE,LY⟩:=CY (A:=A) (z:=z) (by simpa using HV.o.2.1) (fun x hx=>H3.o x (by simp[hx])) hz3
   have hcap:vo=some ⟨gb,0,none⟩:=by simp at hvv;exact hvv.1
   subst hcap
   have hzl:(ah z).length=3:=by simp[ah,hz3]
   (try simp only[dm,List.length_cons,List.length_nil,Nat.zero_add] at c2)
   (try simp only[dm,List.length_cons,List.length_nil,Nat.zero_add] at HV)
   (try simp only[dm,List.length_cons,List.length_nil,Nat.zero_add] at HVO)
   (try simp only[dm,List.length_cons,List.length_nil,Nat.zero_add] at hlk)
   have hAI:((A.length:Int)+1==0)=false:=by simp;omega
   have hA0: ¬((A.length:Int)+1=0):=by omega
   have hA1:((A.length:Int)+1).toNat=A.length+1:=by omega
   have hAm:(A.length:Int)+1-1=A.length:=by omega
   have hy3:ys.length=3:=Cc.o.2
   rcases hq:(z==ys) with _|_
   ·have Um:Hid (lT (A++[z]) ys=(A++[z])++[ys]):=ae (by
     unfold lT
     rw[ak]
     simp only[List.getLast?_append,List.getLast?_singleton]
     intro e
     simp at e
     subst e;simp at hq)
    refine dP 22 [] none [] (by kernel_rfl) (by kernel_rfl) (by kernel_rfl) ?_
    simp only[zt]
    repeat ((first|refine zn ?_|refine zk ?_);simp only[zp])
    refine fZ (by rfl) (.pointer (some ⟨gb,A.length*3,none⟩)) (by rfl) (fun W hW=>by go_simp;(try simp(disch:=omega) only[IntWalk.i64_in]);(try rw[aF (by omega)]);(try simp);(try (intro hx;exfalso;omega))) ?_
    simp only[zp]
    refine fZ (by rfl) (.agg (ah z).toArray) (by rfl) (fun W hW=>kN 257 _ (by rfl) gb (A.length*3) (by rfl) (ah z) _ (fun j u hj=>(hW gb _ SE (by simp)).trans (LY j u hj)) Tryz.underlying257 rfl (by rw[hzl];kernel_rfl)) ?_
    simp only[zp]
    refine fZ (by rfl) (.agg #[iv y0,iv y1,iv y2]) (by rfl) (fun W hW=>by go_simp;try rfl) ?_
    simp only[zp]
    refine fZ (by rfl) (.bool true) (by rfl) (fun W hW=>(nT 257 3 _ 3 _ _ (by rfl) Tryz.underlying257 Tryz.underlying3 (by intro w;go_simp) (by kernel_rfl) z [y0,y1,y2] (by rfl) (by rfl) hz3 (by rfl)).trans (by rw[Cc.o.1] at hq;rw[hq];rfl)) ?_
    simp only[zp]
    repeat ((first|refine zn ?_|refine zk ?_);simp only[zp])
    intro W hE hF
    obtain⟨hc,hf⟩:=bK hE.below
    have hzE:=hE.size
    (try simp only[bu] at hzE)
    have lV:Ext [] W7 W:=hE
    have IJ:Na B l tv nv (A++[z]) Ms W:=Vb.o.kept lV.size (fun b h1 h2=>lV.block b (by have:=(hap b (hin b h1 (by omega))).2;omega) (by simp)) (fun g h1 h2 h3=>lV.block g h2 (by simp)) (fun m hm=> .inl hm)
    have G7:=(lV.block _ (by omega) (by simp)).trans HBT.o
    obtain⟨v8,tN,tK,Ah⟩:=IJ.work
    have GU:v8= .slice ((some ⟨gb,0,none⟩)) ((A.length+1)) vc:=by
     have h4:=(lV.block _ q2 (by simp)).trans HV.o.1
     rw[tN] at h4
     simp only[Option.some.injEq,Obj.cells.injEq,and_true,Array.mk.injEq,List.cons.injEq,true_and] at h4
     exact h4
    rw[GU] at tN tK Ah
    clear GU
    (try simp only[List.length_nil] at tK)
    (try simp only[dm,List.length_cons,List.length_nil,Nat.zero_add] at tK)
    obtain⟨p1,p2,p3⟩:=af (show W.heap[B+1+1+1]? =some (.cells #[.pointer (some ⟨B+1+1,0,none⟩)] 159 (0,0)) from IJ.ptr)
    obtain⟨p4,p5,p6⟩:=af (show W.heap[B+1+1]? =some (.cells (uJ l tv nv (.slice ((some ⟨gb,0,none⟩)) ((A.length+1)) vc) (B+1)) 260 (0,0)) from tN)
    obtain⟨p7,p8,p9⟩:=af G7
    have aeg:=lV.size
    have KJ:=ae IJ
    have IL:=ae (ag tN (ag tK Ah))
    have ja:=ae lV
    clear hE hF hc hf lV IJ tN tK Ah G7 c1 f1 q1 c2 f2 q2 c3 f3 q3 hzE
    obtain⟨gx,hgx,aca,hgx2,BA,ab9⟩: ∃gx,(∀g,(Value.slice ((some ⟨gb,0,none⟩)) ((A.length+1)) vc).ownBlock=some g->g=gx)/\B+7<=gx/\gx<W.heap.size/\gx∉Ms/\gx≠w6.heap.size:=by
     cases Aj:(Value.slice ((some ⟨gb,0,none⟩)) ((A.length+1)) vc).ownBlock with
     |none=>exact⟨s0,(fun g hg=>by cases hg),HS0.o.1,by omega,HS0.o.2.1,by omega⟩
     |some g=>
      have h1:=bD IL.o.2.1 g Aj
      have h2:=IL.o.2.2 g Aj
      exact⟨g,(fun g' hg=>by cases hg;rfl),h1.1,h1.2,h2.1,fun e=>by have:=HVO.o g Aj;omega⟩
    have HG:=ae hgx
    clear hgx
    have z1:gx≠B+1+1:=by omega
    have z2:gx≠B+1+1+1:=by omega
    have z1':B+1+1≠gx:=by omega
    have z2':B+1+1+1≠gx:=by omega
    have z3':w6.heap.size≠gx:=by omega
    gi_wp2_with fail
    refine dP 8 [gx] (some 7) [(6,Spec.slice W.heap.size #[iv y0,iv y1,iv y2] 257 1),(7,⟨fun _ v=> ∃o c,v= .slice o ((A.length+1)+1) c,fun _ v Wx=>Wx.ownsRow (B+7) 257 3 v ((A.length+1)+1) (((A++[z])++[ys]).flatMap ah)/\(∀g,v.ownBlock=some g->g=gx∨W.heap.size<=g)⟩)] (by kernel_rfl) (by kernel_rfl) (by kernel_rfl) ?_
    simp only[zt]
    repeat ((first|refine zn ?_|refine zk ?_);simp only[zp])
    refine dY W.heap.size _ _ 1 (by rfl) (ai _) (by rfl) (by simpa using hgx2) (by simp) (fun W hW=>by go_simp;try rfl) (fun b6=>?_)
    simp only[zp]
    refine bG _ (by rfl) (by rfl) (by exact⟨.slice none ((A.length+1)+1) 0,none,0,rfl⟩) (fun Wa hE hF=>?_) (fun v Wa Wb ho hE=>?_) (fun v hv=>?_)
    ·have hE':Ext [] W Wa:=hE
     obtain⟨b',hb',hge,hcc⟩:=hF _ (bF _) (by kernel_rfl)
     cases hb'
     have hown6:=aC (Ms:=[]) IL.o.2.1 hE' (by simp)
     have hsrc:aN 3 Wa (.slice (some ⟨b6,0,none⟩) 1 1) 1 (ah ys):=by
      rw[Cc.o.1]
      exact aN.dB 3 1 hcc rfl (by decide)
     refine Does.mono (dM ac1 (by rfl) (by rfl) hown6 (by rfl) hsrc (jL _) (by omega) (by omega) (by have:=hE'.size;omega)) ?_
     rintro v' Wc ⟨ho,hgr,hcase⟩
     refine⟨aW ho,⟨?_,fun g hg=>?_⟩,⟨hgr.os,hgr.tape,hgr.output,hgr.size,fun b hb hn=>hgr.block b hb (fun e=>hn (by rw[HG.o b e.symm];simp))⟩⟩
     ·rw[uZ]
      simpa using ho
     ·rcases hcase with h1|h1
      ·exact .inl (HG.o g (by rw[<-h1,hg]))
      ·rw[hg] at h1;injection h1 with h1;exact .inr (by have:=hE'.size;omega)
    ·exact⟨aC (Ms:=[]) ho.1 hE (by simp),ho.2⟩
    obtain⟨o7,c7,rfl⟩:=hv
    simp only[zp]
    intro W9 hE hF
    have hE':Ext [gx] W W9:=hE
    obtain⟨UN,I8⟩:=hF _ (bF _)
    have Ag:W9.heap[B+1+1]? =some (.cells (uJ l tv nv (.slice ((some ⟨gb,0,none⟩)) ((A.length+1)) vc) (B+1)) 260 (0,0)):=(hE'.block _ p6 (by simpa using z1')).trans IL.o.1
    obtain⟨c9,f9,l9⟩:=af Ag
    have Ce:=ae hE'
    have xk:=ae (ag UN (ag I8 Ag))
    clear hE hF hE' UN I8 p1 p2 p4 p5 p7 p8 Ag
    gi_wp2_with fail
    obtain⟨v',hv'⟩: ∃v',Value.slice o7 ((A.length+1)+1) c7=v':=⟨_,rfl⟩
    rw[hv'] at xk⊢
    have wO:(W9.setCell ⟨B+1+1,9,none⟩ v').heap.size=W9.heap.size:=by simp[World.setCell]
    have hs9:=Ce.o.size
    have hks: ∀b,b<W.heap.size->b≠gx->b≠B+1+1->(W9.setCell ⟨B+1+1,9,none⟩ v').heap[b]? =W.heap[b]? :=fun b hb h1 h2=>
     (dH _ _ _ _ h2).trans (Ce.o.block b hb (by simpa using h1))
    have FI: ∀b,b<W7.heap.size->b≠gx->b≠B+1+1->(W9.setCell ⟨B+1+1,9,none⟩ v').heap[b]? =W7.heap[b]? :=fun b hb h1 h2=>(hks b (by omega) h1 h2).trans (ja.o.block b hb (by simp))
    have hFB:IB w Os Ms (W9.setCell ⟨B+1+1,9,none⟩ v'):=yM.o.own (yM.o.ext.trans ⟨Ce.o.os.trans ja.o.os,Ce.o.tape.trans ja.o.tape,Ce.o.output.trans ja.o.output,by rw[wO];omega,fun b hb=>(dH _ _ _ _ (by show b≠B+1+1;omega)).trans ((Ce.o.block b (by have:=yM.o.ext.size;omega) (by simp;omega)).trans (ja.o.block b (by have:=yM.o.ext.size;omega) (by simp)))⟩) (by rw[wO];omega)
    have hlen1:((A++[z])++[ys]).length=(A.length+1)+1:=by simp
    refine⟨⟨?_,?_,fun m hm h0 hml=>?_,by rw[wO];omega⟩,hFB,?_⟩
    ·exact(FI _ (by have:=(hap _ (hin (w4.heap.size+1) (by omega) (by omega))).2;omega) (by omega) (by omega)).trans xI.o.2.1
    ·exact(FI _ (by have:=(hap _ (hin w4.heap.size (by omega) (by omega))).2;omega) (by omega) (by omega)).trans xI.o.2.2
    ·exact(FI m (yM.o.bnd m hm) (fun e=>BA (e▸hm)) (fun e=>(hap (B+1+1) (hin _ (by omega) (by omega))).1 (e▸hm))).trans (xI.o.1 m hm h0 hml)
    rw[xw.o,Um.o]
    refine⟨?_,?_,⟨v',aI xk.o.2.2 _,hlen1.symm▸dn xk.o.1 fun g hg=>dH _ _ _ _ (by have:=(bD xk.o.1 g hg).1;show g≠B+1+1;omega),fun g hg=>⟨fun hm=>?_,by rw[wO];exact(bD xk.o.1 g hg).2⟩⟩,?_,?_⟩
    ·exact(hks _ (by have:=(hap _ (hin B (by omega) (by omega))).2;omega) (by omega) (by omega)).trans KJ.o.b0
    ·exact(hks _ (by have:=(hap _ (hin (B+1) (by omega) (by omega))).2;omega) (by omega) (by omega)).trans KJ.o.tab
    ·rcases xk.o.2.1 g hg with h1|h1
     ·exact BA (h1▸hm)
     ·have:=yM.o.bnd g hm;omega
    ·exact(hks _ (by have:=(hap _ (hin (B+3) (by omega) (by omega))).2;omega) (by omega) (by omega)).trans KJ.o.ptr
    ·exact(hks _ (by have:=(hap _ (hin (B+4) (by omega) (by omega))).2;omega) (by omega) (by omega)).trans KJ.o.b4
   ·have Um:Hid (lT (A++[z]) ys=A++[z]):=ae (by
     unfold lT
     rw[aF]
     simp only[List.getLast?_append,List.getLast?_singleton]
     have:z=ys:=by simpa using hq
     rw[this]
     rfl)
    refine dP 22 [] none [] (by kernel_rfl) (by kernel_rfl) (by kernel_rfl) ?_
    simp only[zt]
    repeat ((first|refine zn ?_|refine zk ?_);simp only[zp])
    refine fZ (by rfl) (.pointer (some ⟨gb,A.length*3,none⟩)) (by rfl) (fun W hW=>by go_simp;(try simp(disch:=omega) only[IntWalk.i64_in]);(try rw[aF (by omega)]);(try simp);(try (intro hx;exfalso;omega))) ?_
    simp only[zp]
    refine fZ (by rfl) (.agg (ah z).toArray) (by rfl) (fun W hW=>kN 257 _ (by rfl) gb (A.length*3) (by rfl) (ah z) _ (fun j u hj=>(hW gb _ SE (by simp)).trans (LY j u hj)) Tryz.underlying257 rfl (by rw[hzl];kernel_rfl)) ?_
    simp only[zp]
    refine fZ (by rfl) (.agg #[iv y0,iv y1,iv y2]) (by rfl) (fun W hW=>by go_simp;try rfl) ?_
    simp only[zp]
    refine fZ (by rfl) (.bool false) (by rfl) (fun W hW=>(nT 257 3 _ 3 _ _ (by rfl) Tryz.underlying257 Tryz.underlying3 (by intro w;go_simp) (by kernel_rfl) z [y0,y1,y2] (by rfl) (by rfl) hz3 (by rfl)).trans (by rw[Cc.o.1] at hq;rw[hq];rfl)) ?_
    simp only[zp]
    repeat ((first|refine zn ?_|refine zk ?_);simp only[zp])
    intro W hE hF
    obtain⟨hc,hf⟩:=bK hE.below
    have hzE:=hE.size
    (try simp only[bu] at hzE)
    have lV:Ext [] W7 W:=hE
    have ja:=ae lV
    clear hE hF hc hf lV
    gi_wp2_with fail
    have hs8:=ja.o.size
    refine⟨⟨?_,?_,fun m hm h0 hml=>?_,by omega⟩,(yM.o.iV (ja.o.more (by simp)) (fun m hm=> .inl hm)).1,?_⟩
    ·exact(ja.o.block _ (aS.1 xI.o.2.1).1 (by simp)).trans xI.o.2.1
    ·exact(ja.o.block _ (aS.1 xI.o.2.2).1 (by simp)).trans xI.o.2.2
    ·exact(ja.o.block m (by omega) (by simp)).trans (xI.o.1 m hm h0 hml)
    ·rw[xw.o,Um.o]
     exact Vb.o.kept ja.o.size (fun b h1 h2=>ja.o.block b (by have:=(hap b (hin b h1 (by omega))).2;omega) (by simp)) (fun g h1 h2 h3=>ja.o.block g h2 (by simp)) (fun m hm=> .inl hm)
 case hdone=>
  rintro Ms W ⟨hF,hP⟩ hD hlt
  obtain⟨v,hv1,hv2,hv3⟩:=hP.work
  obtain⟨c1,f1,l1⟩:=af (show W.heap[B+1+1+1]? =some (.cells #[.pointer (some ⟨B+1+1,0,none⟩)] 159 (0,0)) from hP.ptr)
  have hFE:=(hF.put (Obj.deferred none) (r:=w4.heap.size) (by omega)).ext
  have HX:=ae (ag hFE (ag hv1 (ag hv2 hP.tab)))
  clear hF hP hv1 hv2 hv3 hFE
  gi_wp2_with fail
  refine⟨by simp,.inl ⟨_,_,rfl,run_takeDeferred hD,?_⟩⟩
  refine⟨.pointer (some ⟨B+1+1,0,none⟩),by simp[results,Tryz.results120,go_sem],B+1+1,B+1,v,rfl,by omega,by omega,?_,⟨?_,HT'.o _ HX.o.1,HN'.o _ HX.o.1,?_⟩,HX.o.1⟩
  ·exact(World.putObj_heap_other (by omega)).trans HX.o.2.2.2
  ·exact(World.putObj_heap_other (by omega)).trans HX.o.2.1
  ·exact aN.dU (dn HX.o.2.2.1 fun g hg=>World.putObj_heap_other (by have:=(bD HX.o.2.2.1 g hg).1;omega))
 case hstop=>rintro cd Ms W h;exact h.elim
end Go.Proofs.YthllkbbbapgelaaGreatDoor
end
section
namespace Go.Proofs.YthllkbbbapgelaaGreatDoor
open Go.RowKit Go.RG Go.SL Go.Shelf jy Go.TB
abbrev Yc (k:Int×Int):Value:= .agg #[iv k.1,iv k.2]
theorem LK:XR Tryz.prog 324 Yc (fun _=>True) where
 find w x es:=run_findKey_eq w (by kernel_rfl) x es
 check b a w _:=by
  unfold Instr.checkKey
  simp[go_sem]
  simp only[Hz,Result.andThen_ok]
 eq a b w _ _:=by
  unfold Op.equal Op.maxDepth
  simp[go_sem]
  obtain⟨a1,a2⟩:=a
  obtain⟨b1,b2⟩:=b
  by_cases h1:a1=b1 <;>by_cases h2:a2=b2 <;>simp[h1,h2]
 bits a _:=by simp[Instr.sameBits]
theorem adO:iQ Tryz.prog 47 188 (xv (0,0,0)) 3 24:=⟨Tryz.underlying47,by kernel_rfl,rfl,by omega⟩
theorem Du {w:World} {o:Option Addr} {n c:Nat} {ls:List (List Int)} (h:aN 3 w (.slice o n c) ls.length (ls.flatMap ah)) (h3: ∀x∈ls,x.length=3) {k:Nat} (hk:k<ls.length):
 ∃b off y0 y1 y2,o=some ⟨b,off,none⟩/\b<w.heap.size/\ls[k]=[y0,y1,y2]/\w.cell? ⟨b,off+k*3,none⟩=some (iv y0)/\w.cell? ⟨b,off+k*3+1,none⟩=some (iv y1)/\w.cell? ⟨b,off+k*3+2,none⟩=some (iv y2):=by
 obtain⟨hl,o',c',hv,h1,h2,hn,h4⟩:=h
 cases hv
 obtain⟨y0,y1,y2,hys⟩:=nN (h3 _ (dh hk))
 cases o with
 |none=>have:=hn rfl;omega
 |some a=>
  obtain⟨b,off,sp⟩:=a
  obtain⟨hs,hc⟩:=h4 _ rfl
  simp only at hs hc
  subst hs
  have g: ∀j (hj:j<3),(ls.flatMap ah)[k*3+j]? =[iv y0,iv y1,iv y2][j]? :=fun j hj=>by
   have: ∀(ls:List (List Int)) (k:Nat) (hk:k<ls.length),(∀x∈ls,x.length=3)->(ls.flatMap ah)[k*3+j]? =(ah ls[k])[j]? :=by
    intro ls
    induction ls with
    |nil=>intro k hk;simp at hk
    |cons x ls ih=>
     intro k hk h3
     have hx:(ah x).length=3:=by simp[ah,h3 x (by simp)]
     rw[List.flatMap_cons]
     cases k with
     |zero=>simp only[Nat.zero_mul,Nat.zero_add,List.getElem_cons_zero];rw[ve (by omega)]
     |succ k=>
      rw[oG (by omega),hx,show(k+1)*3+j-3=k*3+j from by omega]
      simpa using ih k (by simpa using hk) (fun y hy=>h3 y (by simp[hy]))
   rw[this ls k hk h3,hys]
   rfl
  have r0:=hc (k*3+0) (iv y0) (by rw[g 0 (by omega)];rfl)
  have r1:=hc (k*3+1) (iv y1) (by rw[g 1 (by omega)];rfl)
  have r2:=hc (k*3+2) (iv y2) (by rw[g 2 (by omega)];rfl)
  rw[Nat.add_zero] at r0
  rw[<-Nat.add_assoc] at r1 r2
  exact⟨b,off,y0,y1,y2,rfl,dI w _ r0,hys,r0,r1,r2⟩
theorem D6.lt {W:World} {wb mb:Nat} {l:aQ} {tv nv v:Value} {ls:List (List Int)} (h:D6 W wb mb l tv nv v ls):wb<W.heap.size:=(aS.1 h.cells).1
theorem D6.below {W W':World} {wb mb:Nat} {l:aQ} {tv nv v:Value} {ls:List (List Int)} (h:D6 W wb mb l tv nv v ls) {B:Nat} (hb:Below B W W') (hB:W.heap.size<=B):D6 W' wb mb l tv nv v ls:=
 ⟨(hb.block _ (by have:=h.lt;omega)).trans h.cells,h.xE.below hb hB,h.notes.below hb hB,h.truth.below hb hB⟩
theorem D6.table {W W':World} {wb mb:Nat} {l:aQ} {tv nv v:Value} {ls:List (List Int)} (h:D6 W wb mb l tv nv v ls) (hE:Ext [mb] W W') (hn: ∀o,W.cell? ⟨mb,o,none⟩=none):D6 W' wb mb l tv nv v ls:=by
 have hm: ∀x∈[mb], ∀o,W.cell? ⟨x,o,none⟩=none:=fun x hx o=>by have e:x=mb:=(by simpa using hx);rw[e];exact hn o
 refine⟨(hE.block _ h.lt (fun e=>?_)).trans h.cells,h.xE.gu hE hm,h.notes.gu hE hm,h.truth.gu hE hm⟩
 have e:wb=mb:=by simpa using e
 have:=hn 0
 rw[<-e] at this
 simp[World.cell?,h.cells] at this
theorem vX {P:Program} {o:Oper} {ρ:Operand->Value} {W W':World} {R:Value->World->Prop} (he:(execOp ρ o).run P W= .ok .skip W') (h:R undef W'):Does P o ρ W R:=by
 unfold Does;rw[he];exact h
theorem O5 {mb:Nat} {w W W':World} (h:Ext [mb] w W) (hb:Below w.heap.size W W'):Ext [mb] w W':=
 ⟨hb.os.trans h.os,hb.tape.trans h.tape,hb.output.trans h.output,iW h.size hb.size,fun k hk hm=>(hb.block k hk).trans (h.block k hk hm)⟩
structure rH (ns:List EX) (T:List ((Int×Int)×dR)) (done:List (Int×Int)):Prop where
 only: ∀key r,TB.look key T=some r->r=kn ns key
 has: ∀key∈done, ∃r,TB.look key T=some r
theorem rH.nil (ns:List EX):rH ns [] []:=⟨fun key r h=>(by cases h),fun key h=>(by cases h)⟩
theorem rH.new {ns:List EX} {T:List ((Int×Int)×dR)} {done:List (Int×Int)} (h:rH ns T done) (key:Int×Int):rH ns (TB.store key (kn ns key) T) (done++[key]):=by
 refine⟨fun k r hl=>?_,fun k hk=>?_⟩
 ·rw[wK] at hl
  split at hl
  ·rename_i e;cases hl;rw[e]
  ·exact h.only k r hl
 ·rw[wK]
  by_cases e:k=key
  ·exact⟨_,aF e⟩
  ·rw[ak e]
   rcases iP.1 hk with h1|h1
   ·exact h.has k h1
   ·exact absurd (by simpa using h1) e
theorem rH.old {ns:List EX} {T:List ((Int×Int)×dR)} {done:List (Int×Int)} (h:rH ns T done) (key:Int×Int) {r:dR} (hl:TB.look key T=some r):rH ns T (done++[key]):=
 ⟨h.only,fun k hk=>by
   rcases iP.1 hk with h1|h1
   ·exact h.has k h1
   ·have:k=key:=by simpa using h1
    rw[this];exact⟨r,hl⟩⟩
def keysOf (d:List Int) (i:Nat):List (Int×Int):=(List.range i).map fun(j:Nat)=>((j:Int),d.getD j 0)
def tH (n:Nat) (ls:List (List Int)) (k:Nat):List (Int×Int):=(ls.take k).flatMap fun d=>keysOf d n
theorem OH {n:Nat} {ls:List (List Int)} {k:Nat} (hk:k<ls.length):tH n ls (k+1)=tH n ls k++keysOf ls[k] n:=by
 unfold tH
 rw[iC hk,uZ]
 simp
theorem OI (d:List Int) (i:Nat):keysOf d (i+1)=keysOf d i++[((i:Int),d.getD i 0)]:=by
 unfold keysOf
 rw[List.range_succ,List.map_append]
 rfl
theorem Nw (l:aQ) (hS:ru l.field) (h5:l.notes.length<=5) (tv nv v ov:Value) (out:List Int) (wb mb:Nat) (ls:List (List Int)) (T0:List ((Int×Int)×dR)) (w:World) (hw:D6 w wb mb l tv nv v ls) (hT:TabAt Yc rv (fun _=>True) w mb T0)
 (ho:aO w ov out) (h3: ∀x∈ls,x.length=3) (hlen:ls.length<=2500):
 Calls Tryz.prog 122 #[.pointer (some ⟨wb,0,none⟩),ov] w (fun e w'=>(∃u,e= .returned u)/\Ext [mb] w w'/\ ∃T,TabAt Yc rv (fun _=>True) w' mb T/\rH (En l out) T (tH l.field.aK.toNat ls ls.length)):=by
 obtain⟨on,cn,rfl⟩:=hw.notes.open
 obtain⟨ot,ct,rfl⟩:=hw.xE.open
 obtain⟨vo,vc,rfl⟩:=hw.truth.open
 obtain⟨oo,oc,rfl⟩:=ho.open
 have hwn:=hw.lt
 have hmb:=hT.lt
 have aej:=hT.mX
 obtain⟨c1,f1,l1⟩:=af hw.cells
 obtain⟨W1,hrun,hT1,hE1⟩:=Xo (P:=Tryz.prog) (kv:=Yc) (vv:=rv) (ok:=fun _=>True) (mt:=258) (k:=324) (e:=46) (by kernel_rfl) 0 hT
 have hw1:=hw.table hE1 aej
 have hm1: ∀x∈[mb], ∀o,w.cell? ⟨x,o,none⟩=none:=fun x hx o=>by have e:x=mb:=(by simpa using hx);rw[e];exact aej o
 have ho1:=ho.gu hE1 hm1
 have hwm:wb≠mb:=hT.ne hw.cells
 have HO:=ae (ag ho ho1)
 have HW:=ae hw
 have HW1:=ae hw1
 have HT1:=ae (ag hT1 hE1)
 have H3:=ae h3
 have hw0:=hS.zK
 have hw3:=hS.xm
 obtain⟨n,hn⟩: ∃n:Nat,l.field.aK=n:=⟨l.field.aK.toNat,by omega⟩
 have HN:=ae hn
 have hn3:n<=3:=by omega
 have hnt:l.field.aK.toNat=n:=by omega
 rw[hnt]
 clear hw hT ho hw1 hT1 hE1 hS hn hnt hw0 hw3 hm1 h3
 go_enter Tryz.func122,Tryz.ntmps122
 go_upto_region 2 with(fail)
 obtain⟨c1',f1',l1'⟩:=af HW1.o.cells
 have aos:=HT1.o.1.lt
 have hsz1:=HT1.o.2.size
 clear c1 f1 hrun
 go_wp2_with fail
 go_loopw [4,26] (fun v4 u wr=> ∃k:Nat,k<=l.notes.length/\u= .int .i64 k/\(∃lo lc,v4= .slice lo (lM l out k).length lc/\wr.ownsRow W1.heap.size 188 3 (.slice lo (lM l out k).length lc) (lM l out k).length (aX (lM l out k)))/\Below W1.heap.size W1 wr) (fun _ u _=>l.notes.length-(intOf u).toNat)
 case atStart=>exact⟨0,bQ _,rfl,⟨none,0,rfl,⟨rfl,.inl ⟨rfl,rfl⟩⟩⟩,aH _ _⟩
 case round=>
  obtain⟨k,hk,rfl,⟨lo,lc,rfl,how⟩,hB⟩:=hrel
  have hwr:=HW1.o.below hB (ai _)
  by_cases hlt:k<l.notes.length
  ·obtain⟨b,off,hvv,hb,hc0,hc1,hc2⟩:=bJ.cell hwr.notes hlt
   cases hvv
   have hgk:l.notes.getD k (0,(0,0))=l.notes[k]:=by simp[List.getD,hlt]
   have hcon:=iJ out (.slice oo out.length oc) (k:Int)
   obtain⟨q,hq⟩: ∃q,out.contains (k:Int)=q:=⟨_,rfl⟩
   rw[hq] at hcon
   have hll:=GK l out k
   have HC:=ae hcon
   have HQ:=ae (ag hq hgk)
   have HOW:=ae (ag how hB)
   generalize l.notes[k]=x at*
   clear hwr how hB hcon hq hgk
   cases q
   ·have hsu:=RP (l:=l) HQ.o.1
    rw[HQ.o.2] at hsu
    have xw:=ae hsu
    clear hsu
    go_upto_region 5 with(fail)
    refine dN fun W5 yx=>?_
    have vV:Below wr.heap.size wr W5:=by rw[yx];exact zl
    have hk5:W5.heap[wr.heap.size]? =some (.cells #[iv x.1,iv x.2.1,iv x.2.2] 188 (0,0)):=by rw[yx];exact ay _ _
    have vg:=HO.o.2.below (aY HOW.o.2 vV) (ai _)
    have nD:=ae (ag vV (ag hk5 vg))
    clear yx vV hk5 vg hc0 hc1 hc2 hb
    go_wp2_with fail
    refine(HC.o W5 nD.o.2.2).mono ?_
    rintro e W6 ⟨rfl,hb6⟩
    have hk6:=(hb6.block _ (aS.1 nD.o.2.1).1).trans nD.o.2.1
    obtain⟨e1,e2,e3⟩:=af hk6
    have pY:=ae (aY (aY HOW.o.2 nD.o.1) hb6)
    have ZR:=aC (Ms:=[]) (aC (Ms:=[]) HOW.o.1 (Ext.aA nD.o.1) (by simp)) (Ext.aA hb6) (by simp)
    have Jk:=ae ZR
    clear hb6 hk6 ZR
    go_wp2_with (at_builtin;refine fV rfl _ _ adO rfl W1.heap.size (.slice lo (lM l out k).length lc) (lM l out k).length (aX (lM l out k)) rfl ?_ (.slice (some ⟨W6.heap.size,0,none⟩) 1 1) 1 [iv x.1,iv x.2.1,iv x.2.2] rfl ?_ (by simp[Value.oneCell']) (by omega) (by omega) (by have:=pY.o.size;simp;omega) ?_)
    ·exact aC (Ms:=[]) Jk.o (Ext.aA ((aH _ _).alloc (ai _) _)) (by simp)
    ·exact aN.dB 3 1 (ay _ _) rfl (by decide)
    ·intro v' W7 hown hgr
     obtain⟨o7,c7,rfl⟩:=aW hown
     have HO7:=ae hown
     have HG7:=ae hgr
     clear hown hgr
     go_wp2_with fail
     go_roundw
     case rel=>
      refine⟨k+1,by omega,by go_num,⟨o7,c7,by rw[xw.o];simp,?_⟩,?_⟩
      ·rw[xw.o]
       have:=HO7.o
       simpa [aX,uZ] using this
      ·exact Below.grown (aj pY.o _) HG7.o (by have:=pY.o.size;simp;omega) (fun k e=>(bD Jk.o k e).1)
     case measure=>simp[intOf];omega
   ·have hsu:=Wl (l:=l) HQ.o.1
    have xw:=ae hsu
    clear hsu
    go_upto_region 5 with(fail)
    refine dN fun W5 yx=>?_
    have vV:Below wr.heap.size wr W5:=by rw[yx];exact zl
    have vg:=HO.o.2.below (aY HOW.o.2 vV) (ai _)
    have nD:=ae (ag vV vg)
    clear yx vV vg hc0 hc1 hc2 hb
    go_wp2_with fail
    refine(HC.o W5 nD.o.2).mono ?_
    rintro e W6 ⟨rfl,hb6⟩
    have pY:=ae (aY (aY HOW.o.2 nD.o.1) hb6)
    have ZR:=aC (Ms:=[]) (aC (Ms:=[]) HOW.o.1 (Ext.aA nD.o.1) (by simp)) (Ext.aA hb6) (by simp)
    have Jk:=ae ZR
    clear hb6 ZR
    go_wp2_with fail
    go_roundw
    case rel=>exact⟨k+1,by omega,by go_num,⟨lo,lc,by rw[xw.o],by rw[xw.o];exact Jk.o⟩,pY.o⟩
    case measure=>simp[intOf];omega
  ·have hkl:k=l.notes.length:=by omega
   subst hkl
   have hll:=GK l out l.notes.length
   have Yg:Ext [mb] w wr:=O5 HT1.o.2 (hB.mono hsz1)
   have HOW:=ae (ag how hB)
   have HEW:=ae Yg
   have HT:=ae (HT1.o.1.below hB (ai _))
   have HWR:=ae hwr
   have hwl:=hwr.lt
   obtain⟨d1,g1,m1⟩:=af hwr.cells
   obtain⟨ns,hns⟩: ∃ns,lM l out l.notes.length=ns:=⟨_,rfl⟩
   have agK:En l out=ns:=hns
   have HNS:=ae agK
   rw[hns] at hll HOW
   rw[hns]
   clear how hB hwr Yg hns agK c1' f1'
   have ZU:=HT.o.mX
   have hleft:bJ wr (.slice lo ns.length lc) ns:=aN.dU HOW.o.1
   have HLF:=ae hleft
   have GY:=HT.o.lt
   have Ko:Hid (∀W,Ext [mb] wr W->D6 W wb mb l (.slice ot l.field.ax.length ct) (.slice on l.notes.length cn) (.slice vo ls.length vc) ls/\bJ W (.slice lo ns.length lc) ns):=ae (fun W hE=>⟨HWR.o.table hE ZU,HLF.o.gu hE (fun x hx o=>by have e:x=mb:=(by simpa using hx);rw[e];exact ZU o)⟩)
   have HWS:=ae HOW.o.2.size
   have hLO: ∀g,(Value.slice lo ns.length lc).ownBlock=some g->g<wr.heap.size:=fun g hg=>(bD HOW.o.1 g hg).2
   clear hleft aej ZU
   obtain⟨W2,hW2⟩: ∃W2,wr=W2:=⟨_,rfl⟩
   rw[hW2] at Ko HT HEW hLO
   have HLO:=ae hLO
   clear hLO
   have HB2:Hid (Ext [mb] W2 wr):=ae (by rw[hW2];exact Ext.refl _ _)
   have HTW:Hid (TabAt Yc rv (fun _=>True) wr mb ([]:List ((Int×Int)×dR))):=ae (by rw[hW2];exact HT.o)
   clear hW2
   go_wp2_with fail
   go_loopw [45] (fun u wr=> ∃k:Nat,k<=ls.length/\u= .int .i64 k/\Ext [mb] W2 wr/\ ∃T,TabAt Yc rv (fun _=>True) wr mb T/\rH ns T (tH n ls k)) (fun u _=>ls.length-(intOf u).toNat)
   case atStart=>exact⟨0,bQ _,rfl,HB2.o,[],HTW.o,rH.nil _⟩
   case round=>
    obtain⟨k,hk,rfl,hE,T,hT,Yf⟩:=hrel
    obtain⟨hwr,hlf⟩:=Ko.o _ hE
    by_cases hlt:k<ls.length
    ·obtain⟨d1,g1,m1⟩:=af hwr.cells
     obtain⟨b,off,y0,y1,y2,hvv,hb,hys,r0,r1,r2⟩:=Du hwr.truth H3.o hlt
     subst hvv
     have hks:=OH (n:=n) hlt
     generalize ls[k]=d at*
     have HKS:=ae hks
     have Cc:=ae hys
     have HX:=ae (ag hE (ag hT Yf))
     clear hks hys hE hT Yf hwr hlf
     go_upto_region 11 with(fail)
     refine dN fun W3 hW3=>?_
     have hB3:Below wr.heap.size wr W3:=by rw[hW3];exact zl
     have hk8:W3.heap[wr.heap.size]? =some (.cells #[iv y0,iv y1,iv y2] 257 (0,0)):=by rw[hW3];exact ay _ _
     have yz:Ext [mb] W2 W3:=HX.o.1.trans (Ext.aA hB3)
     have hT3:=HX.o.2.1.below hB3 (ai _)
     obtain⟨agl,akh⟩:=Ko.o _ yz
     obtain⟨b8,hb8⟩: ∃b8,wr.heap.size=b8:=⟨_,rfl⟩
     rw[hb8] at hk8
     rw[hb8]
     have akd:mb≠b8:=by have:=HX.o.2.1.lt;omega
     have HX3:=ae (ag yz (ag hT3 (ag HX.o.2.2 hk8)))
     clear hW3 d1 g1 m1 r0 r1 r2 hb hB3 yz hT3 hb8 HX
     obtain⟨d1,g1,m1⟩:=af agl.cells
     clear agl akh hk8
     go_wp2_with fail
     rw[HN.o]
     go_loopw [55] (fun u wr=> ∃i:Nat,i<=n/\u= .int .i64 i/\Ext [mb] W3 wr/\ ∃T,TabAt Yc rv (fun _=>True) wr mb T/\rH ns T (tH n ls k++keysOf d i)) (fun u _=>n-(intOf u).toNat)
     case atStart=>exact⟨0,bQ _,rfl,Ext.refl _ _,T,HX3.o.2.1,by have:=HX3.o.2.2.1;simpa [keysOf] using this⟩
     case round=>
      obtain⟨i,hi,rfl,hE,T,hT,Yf⟩:=hrel
      by_cases aou:i<n
      ·have hE2:=HX3.o.1.trans hE
       have hk8:=(hE.block _ (aS.1 HX3.o.2.2.2).1 (by simpa using fun e=>akd e.symm)).trans HX3.o.2.2.2
       have ag4:wr.heap[b8]? =some (.cells (ah d).toArray 257 (0,0)):=by rw[Cc.o];exact hk8
       have hd3:d.length=3:=by rw[Cc.o];rfl
       have hcell:=gG ag4 (show i<d.length by omega)
       have hgd:d.getD i 0=d[i]'(by omega):=by simp[List.getD,hd3,show i<3 by omega]
       have hkk:=OI d i
       rw[hgd] at hkk
       generalize hdi:d[i]'(by omega)=di at*
       have HDI:Hid (∀h,d[i]'h=di):=ae (fun _=>hdi)
       clear hdi
       have ahr:=(aS.1 hk8).1
       have hi3:i<3:=by omega
       have HKK:=ae hkk
       have HX:=ae (ag hE (ag hT (ag Yf hk8)))
       clear hkk hE hT Yf hgd hd3 hk8 ag4 hE2
       go_upto_region 15 with(fail)
       refine dN fun W6 Dl=>?_
       have Fe:Below wr.heap.size wr W6:=by rw[Dl];exact zl
       have hk10:W6.heap[wr.heap.size]? =some (.cells #[iv (i:Int),iv di] 324 (0,0)):=by rw[Dl];exact ay _ _
       have BC:Ext [mb] W3 W6:=HX.o.1.trans (Ext.aA Fe)
       have hT6:=HX.o.2.1.below Fe (ai _)
       have ag3:=(Fe.block _ ahr).trans HX.o.2.2.2
       obtain⟨hw6,agV⟩:=Ko.o _ (HX3.o.1.trans BC)
       have hlook:=fun cm W hW=>vT LK (mt:=258) (e:=46) (by kernel_rfl) (z:=rv (0,0)) (fun W=>by simp[go_sem]) hT6 ((i:Int),di) trivial cm W hW
       obtain⟨b10,Ap⟩: ∃b10,wr.heap.size=b10:=⟨_,rfl⟩
       rw[Ap] at hk10
       rw[Ap]
       have ao3:b8<b10:=by omega
       have amq:mb<b10:=by have:=HX.o.2.1.lt;omega
       have HT6:=ae hT6
       have HX6:=ae (ag BC (ag ag3 (ag hk10 (ag hw6 agV))))
       obtain⟨e1,e2,e3⟩:=af hw6.cells
       obtain⟨e4,e5,e6⟩:=af hk10
       obtain⟨lk,hlk⟩: ∃lk,TB.look ((i:Int),di) T=lk:=⟨_,rfl⟩
       rw[hlk] at hlook
       have alD:=ae hlk
       clear Dl hcell Fe BC hT6 ag3 hw6 agV hk10 Ap d1 g1 m1 hlk
       cases lk with
       |some r=>
        have Nj:=ae (hlook true)
        simp only[Option.map_some,Option.getD_some,Option.isSome_some,if_true] at Nj
        clear hlook
        refine qB 11 [] (some 10) [(9,⟨fun _ v=> ∃b:Nat,v= .pointer (some ⟨b,0,none⟩),fun _ _ _=>True⟩),(10,⟨fun _ v=>v=undef,fun _ _ _=>True⟩)] (fun i _ v W=>match i with|9=> ∃b:Nat,v= .pointer (some ⟨b,0,none⟩)/\W6.heap.size<=b/\W.heap[b]? =some (.cells #[iv 0,iv 0] 46 (0,0))|_=>True) (by kernel_rfl) (by kernel_rfl) ?_
        simp only[zt]
        repeat ((first|refine zn ?_|refine zk ?_);simp only[zp])
        refine iw (by rfl) (.tuple #[.agg #[iv r.1,iv r.2],.bool true]) (by rfl) (fun W hE _=>by have:=Nj.o W (hE.block mb (HT6.o.lt) (by simp));go_simp;try rfl) ?_
        simp only[zp]
        repeat ((first|refine zn ?_|refine zk ?_);simp only[zp])
        refine kY _ (by rfl) (by rfl) (by exact⟨_,0,rfl⟩) (fun Wa hE hF hG=>?_) (fun _ _ _ _ _=>trivial) (fun v Wa Wb ho hE=>?_) (fun v hv=>?_)
        ·exact jm (W':=Wa.alloc (.cells #[iv 0,iv 0] 46)) (.pointer (some ⟨Wa.heap.size,0,none⟩)) (by go_simp;try rfl) ⟨⟨_,rfl⟩,trivial,Ext.aA ((aH _ _).alloc (ai _) _),_,rfl,(show uI W6.heap.size [] W6 Wa from hE).size,heap_alloc_new _ _⟩
        ·obtain⟨b,hb,hge,hc⟩:=ho
         exact⟨b,hb,hge,(hE.block b (aS.1 hc).1 (by simp)).trans hc⟩
        obtain⟨b11,rfl⟩:=hv
        simp only[zp]
        refine kY _ (by rfl) (by rfl) (by exact⟨_,rfl⟩) (fun Wa hE hF hG=>?_) (fun _ _ _ _ _=>trivial) (fun _ _ _ _ _=>trivial) (fun v hv=>?_)
        ·obtain⟨b,hb,hge,hc⟩:=hG rfl _ (bF _) (by kernel_rfl)
         cases hb
         obtain⟨x1,x2,x3⟩:=af hc
         exact vX (W':=(Wa.setCell ⟨b11,0,none⟩ (iv r.1)).setCell ⟨b11,1,none⟩ (iv r.2)) (by go_simp;try rfl) ⟨rfl,trivial,⟨rfl,rfl,rfl,by simp[World.setCell],fun k' hk' hkB _=>(dH _ _ _ _ (by show k'≠b11;omega)).trans (dH _ _ _ _ (by show k'≠b11;omega))⟩,trivial⟩
        obtain rfl:v=undef:=hv
        simp only[Act.put]
        intro XK aaj _
        have Dn:Below W6.heap.size W6 XK:=qo aaj (ai _)
        have Kq:Ext [mb] W3 XK:=HX6.o.1.trans (Ext.aA Dn)
        have aae:=HT6.o.below Dn (ai _)
        have H15:=ae (ag Kq (ag aae (HKK.o▸(jg _ _ _▸HX.o.2.2.1.old _ alD.o:rH ns T (tH n ls k++(keysOf d i++[((i:Int),di)]))))))
        clear aaj Dn Kq aae e1 e2 e3 e4 e5 e6
        go_wp2_with fail
        go_roundw
        case rel=>exact⟨i+1,by omega,by go_num,H15.o.1,T,H15.o.2.1,H15.o.2.2⟩
        case measure=>simp[intOf];omega
       |none=>
        have Nj:=ae (hlook true)
        simp only[Option.map_none,Option.getD_none,Option.isSome_none,if_true] at Nj
        clear hlook
        refine qB 11 [] (some 10) [(9,⟨fun _ v=> ∃b:Nat,v= .pointer (some ⟨b,0,none⟩),fun _ _ _=>True⟩),(10,⟨fun _ v=>v=undef,fun _ _ _=>True⟩)] (fun i _ v W=>match i with|9=> ∃b:Nat,v= .pointer (some ⟨b,0,none⟩)/\W6.heap.size<=b/\W.heap[b]? =some (.cells #[iv 0,iv 0] 46 (0,0))|_=>True) (by kernel_rfl) (by kernel_rfl) ?_
        simp only[zt]
        repeat ((first|refine zn ?_|refine zk ?_);simp only[zp])
        refine iw (by rfl) (.tuple #[.agg #[iv 0,iv 0],.bool false]) (by rfl) (fun W hE _=>by have:=Nj.o W (hE.block mb (HT6.o.lt) (by simp));go_simp;try rfl) ?_
        simp only[zp]
        repeat ((first|refine zn ?_|refine zk ?_);simp only[zp])
        refine kY _ (by rfl) (by rfl) (by exact⟨_,0,rfl⟩) (fun Wa hE hF hG=>?_) (fun _ _ _ _ _=>trivial) (fun v Wa Wb ho hE=>?_) (fun v hv=>?_)
        ·exact jm (W':=Wa.alloc (.cells #[iv 0,iv 0] 46)) (.pointer (some ⟨Wa.heap.size,0,none⟩)) (by go_simp;try rfl) ⟨⟨_,rfl⟩,trivial,Ext.aA ((aH _ _).alloc (ai _) _),_,rfl,(show uI W6.heap.size [] W6 Wa from hE).size,heap_alloc_new _ _⟩
        ·obtain⟨b,hb,hge,hc⟩:=ho
         exact⟨b,hb,hge,(hE.block b (aS.1 hc).1 (by simp)).trans hc⟩
        obtain⟨b11,rfl⟩:=hv
        simp only[zp]
        refine kY _ (by rfl) (by rfl) (by exact⟨_,rfl⟩) (fun Wa hE hF hG=>?_) (fun _ _ _ _ _=>trivial) (fun _ _ _ _ _=>trivial) (fun v hv=>?_)
        ·obtain⟨b,hb,hge,hc⟩:=hG rfl _ (bF _) (by kernel_rfl)
         cases hb
         obtain⟨x1,x2,x3⟩:=af hc
         exact vX (W':=(Wa.setCell ⟨b11,0,none⟩ (iv 0)).setCell ⟨b11,1,none⟩ (iv 0)) (by go_simp;try rfl) ⟨rfl,trivial,⟨rfl,rfl,rfl,by simp[World.setCell],fun k' hk' hkB _=>(dH _ _ _ _ (by show k'≠b11;omega)).trans (dH _ _ _ _ (by show k'≠b11;omega))⟩,trivial⟩
        obtain rfl:v=undef:=hv
        simp only[Act.put]
        intro XK aaj _
        have Dn:Below W6.heap.size W6 XK:=qo aaj (ai _)
        have Kq:Ext [mb] W3 XK:=HX6.o.1.trans (Ext.aA Dn)
        have aae:=HT6.o.below Dn (ai _)
        have UO:=(Dn.block _ (aS.1 HX6.o.2.1).1).trans HX6.o.2.1
        have ZY:=(Dn.block _ e6).trans HX6.o.2.2.1
        have hcell:=gG (show XK.heap[b8]? =some (.cells (ah d).toArray 257 (0,0)) by rw[Cc.o];exact UO) (show i<d.length by rw[Cc.o];simpa using hi3)
        rw[HDI.o] at hcell
        obtain⟨agn,agW⟩:=Ko.o _ (HX3.o.1.trans Kq)
        obtain⟨e1,e2,e3⟩:=af agn.cells
        have akE:=(aS.1 UO).1
        have aj0:=Dn.size
        have H15:=ae (ag Kq (ag aae (ag UO ZY)))
        clear aaj Dn Kq aae UO ZY agn agW e4 e5
        go_upto_region 18 with(fail)
        refine dN fun W17 aeA=>?_
        have aco:Below XK.heap.size XK W17:=by rw[aeA];exact zl
        have aer:W17.heap[XK.heap.size]? =some (.cells #[iv 0,iv di] 46 (0,0)):=by rw[aeA];exact ay _ _
        obtain⟨b13,Mc⟩: ∃b13,XK.heap.size=b13:=⟨_,rfl⟩
        rw[Mc] at aer
        rw[Mc]
        have acm:Ext [mb] W3 W17:=H15.o.1.trans (Ext.aA aco)
        have ahF:=H15.o.2.1.below aco (ai _)
        have ZX:=(aco.block _ (aS.1 H15.o.2.2.2).1).trans H15.o.2.2.2
        obtain⟨agm,adk⟩:=Ko.o _ (HX3.o.1.trans acm)
        have q10:b10<b13:=by omega
        have qmb:mb<b13:=by omega
        have qW3:W3.heap.size<=b13:=by have:=H15.o.1.size;omega
        have qW2:W2.heap.size<=b13:=by have:=HX3.o.1.size;have:=H15.o.1.size;omega
        have qwb:wb<b13:=by have:=hwl;have:=HX3.o.1.size;have:=acm.size;omega
        have hk0:xy ns ((i:Int),di) 0=(0,di):=rfl
        have H17:=ae (ag acm (ag ahF (ag ZX (ag agm adk))))
        have ZW:W17.heap[b13]? =some (.cells #[iv (xy ns ((i:Int),di) 0).1,iv (xy ns ((i:Int),di) 0).2] 46 (0,0)):=aer
        clear aeA aco acm ahF ZX agm adk aer hcell e1 e2 e3 aj0 akE e6 Mc hk0
        go_wp2_with fail
        go_loopw [79] (fun u wr=> ∃j:Nat,j<=ns.length/\u= .int .i64 j/\wr.heap[b13]? =some (.cells #[iv (xy ns ((i:Int),di) j).1,iv (xy ns ((i:Int),di) j).2] 46 (0,0))/\Ext [b13] W17 wr) (fun u _=>ns.length-(intOf u).toNat)
        case atStart=>exact⟨0,bQ _,rfl,ZW,Ext.refl _ _⟩
        case round=>
         obtain⟨j,hj,rfl,hkr,hEr⟩:=hrel
         obtain⟨x1,x2,x3⟩:=af hkr
         by_cases agQ:j<ns.length
         ·have agU:=H17.o.2.2.2.2.ext hEr (fun z hz e=>by have:=HLO.o z e;have hz':z=b13:=(by simpa using hz);omega)
          obtain⟨lb,RH,rfl,hlb,hn0,hn1,hn2⟩:=bJ.cell agU agQ
          have hsu:=J6 (ns:=ns) (key:=((i:Int),di)) agQ
          generalize ns[j]=x at*
          generalize hr:xy ns ((i:Int),di) j=r at*
          have xw:=ae hsu
          have HKR:=ae (ag hkr hEr)
          clear hsu hkr hEr agU hr ZW
          by_cases hxi:x.1=(i:Int)
          ·have hxb:(x.1==(i:Int))=true:=by simpa using hxi
           have HXI:=ae hxi
           clear hxi
           go_upto_region 22 with(fail)
           go_wp2_with fail
           refine(both_any r x.2 _).mono ?_
           rintro e W9 ⟨rfl,wP⟩
           obtain⟨hc,hf⟩:=bK wP
           have hs9:=wP.size
           simp only[bu] at hs9
           have qQ:=ae (aY (aj (aH wr.heap.size wr) (.cells #[iv x.1,iv x.2.1,iv x.2.2] 188)) wP)
           clear wP
           go_wp2_with fail
           go_roundw
           case rel=>
            refine⟨j+1,by omega,by go_num,?_,?_⟩
            ·rw[xw.o,aF HXI.o]
             exact aI (aI ((qQ.o.block _ x3).trans HKR.o.1) _) _
            ·exact((HKR.o.2.trans (Ext.aA qQ.o)).trans (mJ _ ⟨b13,0,none⟩ _)).trans (mJ _ ⟨b13,1,none⟩ _)
           case measure=>simp[intOf];omega
          ·have hxb:(x.1==(i:Int))=false:=by simpa using hxi
           have HXI:=ae hxi
           clear hxi
           go_wp2_with fail
           go_roundw
           case rel=>
            refine⟨j+1,by omega,by go_num,?_,HKR.o.2.trans (Ext.aA (aj (aH _ _) _))⟩
            rw[xw.o,ak HXI.o]
            exact(aV _ _ _ x3).trans HKR.o.1
           case measure=>simp[intOf];omega
         ·have hjl:j=ns.length:=by omega
          subst hjl
          have hkne:b13∉[mb]:=by simp;omega
          have hTr:TabAt Yc rv (fun _=>True) wr mb T:=H17.o.2.1.ext hEr (by simp;omega)
          have adm:=(hEr.block _ (aS.1 H17.o.2.2.1).1 (by simp;omega)).trans H17.o.2.2.1
          have hwr:=(hEr.block _ H17.o.2.2.2.1.lt (by simp;omega)).trans H17.o.2.2.2.1.cells
          obtain⟨e1,e2,e3⟩:=af hwr
          obtain⟨e4,e5,e6⟩:=af adm
          have hkn:xy ns ((i:Int),di) ns.length=kn ns ((i:Int),di):=rfl
          rw[hkn] at x1 hkr
          generalize hr:kn ns ((i:Int),di)=r at*
          have HRR:=ae hr
          have HTR:=ae hTr
          have HER:=ae hEr
          clear hkr hEr hTr adm hwr hkn hr ZW
          go_upto_region 24 with(fail)
          refine zg 6 [] none [] ?_
          simp only[zt]
          repeat ((first|refine zn ?_|refine zk ?_);simp only[zp])
          intro W hE hF
          obtain⟨hc,hf⟩:=bK hE.below
          have hzE:=hE.size
          (try simp only[bu] at hzE)
          obtain⟨W25,hrun,ahE,ahM⟩:=fU LK (mt:=258) (e:=46) (by kernel_rfl) (HTR.o.below hE.below (ai _)) ((i:Int),di) trivial r
          have aeH:=HX.o.2.2.1.new ((i:Int),di)
          rw[HRR.o,jg, <-HKK.o] at aeH
          have ads:Ext [mb] W3 W25:=by
           have h1:Ext [mb] W3 wr:=O5 H17.o.1 ⟨HER.o.os,HER.o.tape,HER.o.output,HER.o.size,fun k' hk'=>HER.o.block k' (by have:=H17.o.1.size;omega) (by simp;omega)⟩
           exact(h1.trans (hE.more (by simp))).trans ahM
          have H25:=ae (ag ads (ag ahE aeH))
          clear ahE ahM aeH ads hE hF hc hf e1 e2 e3 e4 e5 e6 x1 x2 x3
          go_wp2_with fail
          go_roundw
          case rel=>exact⟨i+1,by omega,by go_num,H25.o.1,_,H25.o.2.1,H25.o.2.2⟩
          case measure=>simp[intOf];omega
      ·have hin:i=n:=by omega
       subst hin
       have H9:=ae (ag (HX3.o.1.trans hE) (ag hT (HKS.o▸Yf:rH ns T (tH i ls (k+1)))))
       clear hE hT Yf
       go_wp2_with fail
       go_roundw
       case rel=>exact⟨k+1,by omega,by go_num,H9.o.1,T,H9.o.2.1,H9.o.2.2⟩
       case measure=>simp[intOf];omega
    ·have hkl:k=ls.length:=by omega
     subst hkl
     have H9:=ae (ag (HEW.o.trans hE) (ag hT Yf))
     clear hE hT Yf hwr hlf
     go_wp2_with fail
     go_end0
     exact⟨⟨_,rfl⟩,H9.o.1,T,H9.o.2.1,HNS.o▸H9.o.2.2⟩
end Go.Proofs.YthllkbbbapgelaaGreatDoor
namespace Go.Proofs.YthllkbbbapgelaaGreatDoor
open Go.RowKit Go.RG Go.SL Go.Shelf jy Go.TB
theorem FZ:iQ Tryz.prog 69 46 (rv (0,0)) 2 16:=⟨Tryz.underlying69,by kernel_rfl,rfl,by omega⟩
def Qj (l:aQ) (out d:List Int) (w:World) (e:Ending) (w':World):Prop:=
 Below w.heap.size w w'/\((jC l out d=true/\ ∃v,e= .returned (.tuple #[v,.bool true])/\w'.ownsRow w.heap.size 46 2 v (kT l out d).length (aG (kT l out d)))∨(jC l out d=false/\e= .returned (.tuple #[.slice none 0 0,.bool false])))
theorem Y9 (l:aQ) (hS:ru l.field) (hbx:0<=l.box.1/\l.box.1<=2000/\0<=l.box.2/\l.box.2<=2000) (tv nv v:Value) (out d:List Int) (hd3:d.length=3) (rs:List dR) (hrs:rs=pR l out d)
 (hrb: ∀r∈rs,0<=r.1/\r.1<=2000/\0<=r.2/\r.2<=2000) (wb mb:Nat) (T:List ((Int×Int)×dR)) (w:World) (hw:w.heap[wb]? =some (.cells (uJ l tv nv v mb) 260 (0,0))) (hT:TabAt Yc rv (fun _=>True) w mb T)
 (hlook: ∀i:Nat,i<l.field.aK.toNat->TB.look ((i:Int),d.getD i 0) T=some (rs.getD i (0,0))):
 Calls Tryz.prog 125 #[.pointer (some ⟨wb,0,none⟩),lY d] w (Qj l out d w):=by
 have hrl:rs.length=l.field.aK.toNat:=by rw[hrs,zu]
 have hw0:=hS.zK
 have hw3:=hS.xm
 obtain⟨n,hn⟩: ∃n:Nat,l.field.aK=n:=⟨l.field.aK.toNat,by omega⟩
 have hnt:l.field.aK.toNat=n:=by omega
 rw[hnt] at hlook hrl
 have hn3:n<=3:=by omega
 obtain⟨y0,y1,y2,hys⟩:=nN hd3
 have hlow:=xP (·.1) rs (fun r hr=>by have:=hrb r hr;omega)
 have hhigh:=xP (·.2) rs (fun r hr=>by have:=hrb r hr;omega)
 obtain⟨c1,f1,l1⟩:=af hw
 have hag:lY d= .agg #[iv y0,iv y1,iv y2]:=by rw[hys];rfl
 rw[hag]
 have HN:=ae hn
 have FP:=ae (ag hrs hrl)
 have Nj:=ae hlook
 have Nh:=ae (ag hrb (ag hlow hhigh))
 have HW:=ae (ag hw hT)
 have Cc:=ae (ag hys hd3)
 clear hrs hrl hlook hrb hlow hhigh hw hT hn hnt hw0 hw3 hag hys hd3
 go_enter Tryz.func125,Tryz.ntmps125
 go_wp2_with fail
 obtain⟨W1,hW1⟩: ∃W1,w.alloc (.cells #[iv y0,iv y1,iv y2] 257)=W1:=⟨_,rfl⟩
 have hB1:Below w.heap.size w W1:=by rw[<-hW1];exact aj (aH _ _) _
 have hk0:W1.heap[w.heap.size]? =some (.cells #[iv y0,iv y1,iv y2] 257 (0,0)):=by rw[<-hW1];exact ay _ _
 have hw1:=(hB1.block _ l1).trans HW.o.1
 have hT1:=HW.o.2.below hB1 (ai _)
 have hs1:W1.heap.size=w.heap.size+1:=by rw[<-hW1];simp
 have HX1:=ae (ag hB1 (ag hk0 (ag hw1 hT1)))
 rw[hW1]
 have hws:w.heap.size<W1.heap.size:=by omega
 have aec:wb<W1.heap.size:=by omega
 clear hW1 hB1 hk0 hw1 hT1 hs1 c1 f1
 rw[HN.o]
 go_loopw [4,6,7,18] (fun v4 v6 v7 u wr=> ∃i:Nat,i<=n/\u= .int .i64 i/\v6= .int .i64 (lJ (·.1) rs i)/\v7= .int .i64 (lJ (·.2) rs i)/\(∃oo oc,v4= .slice oo i oc/\wr.ownsRow W1.heap.size 46 2 (.slice oo i oc) i (aG (rs.take i)))/\Below W1.heap.size W1 wr/\
  (∀j (hj:j<rs.length),j<i->rs[j].1<=rs[j].2)) (fun _ _ _ u _=>n-(intOf u).toNat)
 case atStart=>exact⟨0,bQ _,rfl,rfl,rfl,⟨none,0,rfl,⟨rfl,.inl ⟨rfl,rfl⟩⟩⟩,aH _ _,fun j hj h=>by omega⟩
 case round=>
  obtain⟨i,hi,rfl,rfl,rfl,⟨oo,oc,rfl,how⟩,hB,hok⟩:=hrel
  have hwr:=(hB.block _ aec).trans HX1.o.2.2.1
  have hkr:=(hB.block _ hws).trans HX1.o.2.1
  have hTr:=HX1.o.2.2.2.below hB (ai _)
  obtain⟨d1,g1,m1⟩:=af hwr
  by_cases hlt:i<n
  ·have hir:i<rs.length:=by rw[FP.o.2];exact hlt
   have hcell:=gG (show wr.heap[w.heap.size]? =some (.cells (ah d).toArray 257 (0,0)) by rw[Cc.o.1];exact hkr) (show i<d.length by rw[Cc.o.2];omega)
   have hgd:d.getD i 0=d[i]'(by rw[Cc.o.2];omega):=by simp[List.getD,Cc.o.2,show i<3 by omega]
   have hlk:=Nj.o i hlt
   rw[hgd,show rs.getD i (0,0)=rs[i] from by simp[List.getD,hir]] at hlk
   generalize d[i]'(by rw[Cc.o.2];omega)=di at*
   have hlook:=fun W hW=>vT LK (mt:=258) (e:=46) (by kernel_rfl) (z:=rv (0,0)) (fun W=>by simp[go_sem]) hTr ((i:Int),di) trivial false W hW
   rw[hlk] at hlook
   simp only[Option.map_some,Option.getD_some,Option.isSome_some,Bool.false_eq_true,if_false] at hlook
   have hbd:=Nh.o.1 rs[i] (dh hir)
   have hlo:=Nh.o.2.1 i (by omega)
   have hhi:=Nh.o.2.2 i (by omega)
   have hls:=sN (·.1) hir
   have hhs:=sN (·.2) hir
   have htk:rs.take (i+1)=rs.take i++[rs[i]]:=iC hir
   generalize Et:rs[i]=r at*
   have ahr:=m1
   have hi3:i<3:=by omega
   have ahd:(i:Int)<3:=by omega
   have hwl:w.heap.size<wr.heap.size:=by have:=hB.size;omega
   have HL:=ae hlook
   have HS:=ae (ag hls (ag hhs htk))
   have HX:=ae (ag how (ag hB (ag hwr (ag hTr hok))))
   have HRI:=ae Et
   clear hgd hlk hlook hls hhs htk how hB hwr hkr hTr hok Et
   generalize lJ (·.1) rs i=Yd at*
   generalize lJ (·.2) rs i=YV at*
   go_upto_region 5 with(fail)
   refine zg 11 [] none [(10,Spec.block wr.heap.size #[iv 0,iv 0] 46)] ?_
   simp only[zt]
   repeat ((first|refine zn ?_|refine zk ?_);simp only[zp])
   refine iw (by rfl) (rv r) (by rfl) (fun W hE _=>by have:=HL.o W (hE.block mb (HX.o.2.2.2.1.lt) (by simp));go_simp;try rfl) ?_
   simp only[zp]
   refine jV wr.heap.size _ _ (by rfl) (ai _) (by rfl) (by simp) (by simp) (fun W hW=>by go_simp;try rfl) (fun b9=>?_)
   simp only[zp]
   intro W5 Ez hF5
   have MG:Ext [] wr W5:=Ez
   obtain⟨c9,wP,ahg,hk9⟩:=hF5 _ (bF _)
   cases wP
   obtain⟨p1,p2,p3⟩:=af hk9
   have HE5:=ae MG
   have hs5:=MG.size
   clear Ez hF5 MG hcell
   go_upto_region 6 with(fail)
   refine dN fun W6 Dl=>?_
   have Fe:Below wr.heap.size wr W6:=by rw[Dl];exact iF (iF (show Below wr.heap.size wr W5 from HE5.o.below) ahg _) ahg _
   have aeo:W6.heap[b9]? =some (.cells #[iv r.1,iv r.2] 46 (0,0)):=by rw[Dl];exact aI (aI hk9 _) _
   have ZR:W6.ownsRow W1.heap.size 46 2 (.slice oo i oc) i (aG (rs.take i)):=dn HX.o.1 fun g hg=>Fe.block g (bD HX.o.1 g hg).2
   have H6:=ae (ag ZR (ag (aY HX.o.2.1 Fe) (ag Fe aeo)))
   clear Dl Fe hk9 p1 p2 p3 d1 g1 ZR
   obtain⟨p1,p2,p3⟩:=af aeo
   clear aeo
   by_cases hgt:r.2<r.1
   ·have hcp:jC l out d=false:=by
     unfold jC
     rw[<-FP.o.1]
     have:rs.all (fun r=>decide (r.1<=r.2))=false:=by
      rw[List.all_eq_false]
      exact⟨r,by rw[<-HRI.o];exact dh _,by simp;omega⟩
     rw[this];rfl
    have HCP:=ae hcp
    clear hcp
    go_wp2_with fail
    go_returns
    exact⟨aY HX1.o.1 H6.o.2.1,.inr ⟨HCP.o,by simp⟩⟩
   ·have aol: ¬(r.1>r.2):=hgt
    go_upto_region 8 with(fail)
    cases oo with
    |none=>
     have hgl:True:=trivial
     refine zg 14 [] (some 3) [(2,Spec.slice W6.heap.size #[iv r.1,iv r.2] 46 1),(3,⟨fun _ v=> ∃o c,v= .slice o (i+1) c,fun _ v Wx=>Wx.ownsRow W1.heap.size 46 2 v (i+1) (aG (rs.take (i+1)))⟩)] ?_
     simp only[zt]
     repeat ((first|refine zn ?_|refine zk ?_);simp only[zp])
     refine dY W6.heap.size _ _ 1 (by rfl) (ai _) (by rfl) (by first|(simp;done)|simpa using hgl) (by simp) (fun W hW=>by go_simp;try rfl) (fun b2=>?_)
     simp only[zp]
     refine bG _ (by rfl) (by rfl) (by exact⟨.slice none (i+1) 0,none,0,rfl⟩) (fun Wa hE hF=>?_) (fun v Wa Wb ho hE=>?_) (fun v hv=>?_)
     ·have hE':Ext [] W6 Wa:=hE
      obtain⟨b',hb',hge,hcc⟩:=hF _ (bF _) (by kernel_rfl)
      cases hb'
      have hown6:=aC (Ms:=[]) H6.o.1 hE' (by simp)
      have hsrc:aN 2 Wa (.slice (some ⟨b2,0,none⟩) 1 1) 1 (aG [r]):=aN.dB 2 1 hcc rfl (by decide)
      refine Does.mono (dM FZ (by rfl) (by rfl) hown6 (by rfl) hsrc (oN _) (by omega) (by omega) (by have:=hE'.size;have:=H6.o.2.1.size;omega)) ?_
      rintro v' Wc ⟨ho,hgr,hcase⟩
      refine⟨aW ho,?_,⟨hgr.os,hgr.tape,hgr.output,hgr.size,fun b hb hn=>hgr.block b hb (fun e=>by first|(simp[Value.ownBlock] at e;done)|(simp[Value.ownBlock] at e;exact hn (by simp[e])))⟩⟩
      show Wc.ownsRow _ _ _ v' (i+1) _
      rw[HS.o.2.2,pF]
      exact ho
     ·exact aC (Ms:=[]) ho hE (by simp)
     obtain⟨o3,c3,rfl⟩:=hv
     simp only[zp]
     repeat ((first|refine zn ?_|refine zk ?_);simp only[zp])
     intro W8 hE hF
     have hE':Ext [] W6 W8:=hE
     have qE:W8.ownsRow W1.heap.size 46 2 (.slice o3 (i+1) c3) (i+1) (aG (rs.take (i+1))):=hF _ (bF _)
     have AU:Below W1.heap.size W1 W8:=⟨hE'.os.trans H6.o.2.1.os,hE'.tape.trans H6.o.2.1.tape,hE'.output.trans H6.o.2.1.output,iW H6.o.2.1.size hE'.size,fun b hb=>(hE'.block b (by have:=H6.o.2.1.size;omega) (by simp <;>omega)).trans (H6.o.2.1.block b hb)⟩
     have H8:=ae (ag qE AU)
     clear hE hF hE' qE AU p1 p2 p3
     go_wp2_with fail
     go_roundw
     case rel=>
      refine⟨i+1,by omega,by go_num,by rw[HS.o.1],by rw[HS.o.2.1],⟨o3,c3,rfl,H8.o.1⟩,H8.o.2,fun j hj hji=>?_⟩
      by_cases hje:j=i
      ·subst hje;rw[HRI.o];omega
      ·exact HX.o.2.2.2.2 j hj (by omega)
     case measure=>simp[intOf];omega
    |some a=>
     obtain⟨gb,rfl,hgb⟩: ∃gb:Nat,a=⟨gb,0,none⟩/\W1.heap.size<=gb:=by
      obtain⟨_,⟨hv,_⟩|⟨g,c,cs,hv,hbg,hrest⟩⟩:=H6.o.1
      ·cases hv
      ·simp at hv;exact⟨g,hv.1,hbg⟩
     have hgl:gb<W6.heap.size:=(bD H6.o.1 gb rfl).2
     have hgw:gb<wr.heap.size:=(bD HX.o.1 gb rfl).2
     have I8:b9≠gb:=by omega
     refine zg 14 [gb] (some 3) [(2,Spec.slice W6.heap.size #[iv r.1,iv r.2] 46 1),(3,⟨fun _ v=> ∃o c,v= .slice o (i+1) c,fun _ v Wx=>Wx.ownsRow W1.heap.size 46 2 v (i+1) (aG (rs.take (i+1)))⟩)] ?_
     simp only[zt]
     repeat ((first|refine zn ?_|refine zk ?_);simp only[zp])
     refine dY W6.heap.size _ _ 1 (by rfl) (ai _) (by rfl) (by first|(simp;done)|simpa using hgl) (by simp) (fun W hW=>by go_simp;try rfl) (fun b2=>?_)
     simp only[zp]
     refine bG _ (by rfl) (by rfl) (by exact⟨.slice none (i+1) 0,none,0,rfl⟩) (fun Wa hE hF=>?_) (fun v Wa Wb ho hE=>?_) (fun v hv=>?_)
     ·have hE':Ext [] W6 Wa:=hE
      obtain⟨b',hb',hge,hcc⟩:=hF _ (bF _) (by kernel_rfl)
      cases hb'
      have hown6:=aC (Ms:=[]) H6.o.1 hE' (by simp)
      have hsrc:aN 2 Wa (.slice (some ⟨b2,0,none⟩) 1 1) 1 (aG [r]):=aN.dB 2 1 hcc rfl (by decide)
      refine Does.mono (dM FZ (by rfl) (by rfl) hown6 (by rfl) hsrc (oN _) (by omega) (by omega) (by have:=hE'.size;have:=H6.o.2.1.size;omega)) ?_
      rintro v' Wc ⟨ho,hgr,hcase⟩
      refine⟨aW ho,?_,⟨hgr.os,hgr.tape,hgr.output,hgr.size,fun b hb hn=>hgr.block b hb (fun e=>by first|(simp[Value.ownBlock] at e;done)|(simp[Value.ownBlock] at e;exact hn (by simp[e])))⟩⟩
      show Wc.ownsRow _ _ _ v' (i+1) _
      rw[HS.o.2.2,pF]
      exact ho
     ·exact aC (Ms:=[]) ho hE (by simp)
     obtain⟨o3,c3,rfl⟩:=hv
     simp only[zp]
     repeat ((first|refine zn ?_|refine zk ?_);simp only[zp])
     intro W8 hE hF
     have hE':Ext [gb] W6 W8:=hE
     have qE:W8.ownsRow W1.heap.size 46 2 (.slice o3 (i+1) c3) (i+1) (aG (rs.take (i+1))):=hF _ (bF _)
     have AU:Below W1.heap.size W1 W8:=⟨hE'.os.trans H6.o.2.1.os,hE'.tape.trans H6.o.2.1.tape,hE'.output.trans H6.o.2.1.output,iW H6.o.2.1.size hE'.size,fun b hb=>(hE'.block b (by have:=H6.o.2.1.size;omega) (by simp <;>omega)).trans (H6.o.2.1.block b hb)⟩
     have H8:=ae (ag qE AU)
     clear hE hF hE' qE AU p1 p2 p3
     go_wp2_with fail
     go_roundw
     case rel=>
      refine⟨i+1,by omega,by go_num,by rw[HS.o.1],by rw[HS.o.2.1],⟨o3,c3,rfl,H8.o.1⟩,H8.o.2,fun j hj hji=>?_⟩
      by_cases hje:j=i
      ·subst hje;rw[HRI.o];omega
      ·exact HX.o.2.2.2.2 j hj (by omega)
     case measure=>simp[intOf];omega
  ·have hin:i=n:=by omega
   subst hin
   have htk:rs.take i=rs:=kF (by rw[FP.o.2];exact ai _)
   rw[htk] at how
   have hl:lJ (·.1) rs i=I5 l out d:=by unfold I5;rw[<-FP.o.1, <-yS,FP.o.2]
   have hh:lJ (·.2) rs i=zO l out d:=by unfold zO;rw[<-FP.o.1, <-yS,FP.o.2]
   have hall:(pR l out d).all (fun r=>decide (r.1<=r.2))=true:=by
    rw[<-FP.o.1,ku]
    intro r hr
    obtain⟨j,hj,rfl⟩:=mF hr
    simpa using hok j hj (by rw[<-FP.o.2];exact hj)
   have hcp:jC l out d=(decide (I5 l out d<=l.box.2)&&decide (l.box.1<=zO l out d)):=by unfold jC;rw[hall,Bool.true_and]
   have hlo:=Nh.o.2.1 i (by rw[FP.o.2];exact ai _)
   have hhi:=Nh.o.2.2 i (by rw[FP.o.2];exact ai _)
   have hpl:kT l out d=rs.map fun r=>ug r (l.box.1-(zO l out d-r.2),l.box.2-(I5 l out d-r.1)):=by unfold kT;rw[FP.o.1]
   rw[hl,hh] at*
   generalize I5 l out d=Yd at*
   generalize zO l out d=YV at*
   have HCP:=ae hcp
   have Yk:=ae hpl
   have HO:=ae (ag how hB)
   have HWR:=ae hwr
   clear hl hh hall hcp hpl how hB hok hwr hkr hTr htk
   by_cases h1:Yd>l.box.2
   ·have hF:jC l out d=false:=by rw[HCP.o,decide_eq_false (by omega)];rfl
    have HF:=ae hF
    clear hF
    go_wp2_with fail
    go_returns
    exact⟨aY HX1.o.1 HO.o.2,.inr ⟨HF.o,by simp⟩⟩
   by_cases h2:YV<l.box.1
   ·have hF:jC l out d=false:=by rw[HCP.o,decide_eq_true (show Yd<=l.box.2 by omega),decide_eq_false (by omega)];rfl
    have HF:=ae hF
    clear hF
    go_wp2_with fail
    go_returns
    exact⟨aY HX1.o.1 HO.o.2,.inr ⟨HF.o,by simp⟩⟩
   have hT:jC l out d=true:=by rw[HCP.o,decide_eq_true (show Yd<=l.box.2 by omega),decide_eq_true (show l.box.1<=YV by omega)];rfl
   have HTR:=ae hT
   clear hT
   have hpos:0<i:=by have:=hS.zK;have:=HN.o;omega
   obtain⟨gb,rfl,hgb⟩: ∃gb:Nat,oo=some ⟨gb,0,none⟩/\W1.heap.size<=gb:=by
    obtain⟨_,⟨hv,h0⟩|⟨g,c,cs,hv,hbg,hrest⟩⟩:=HO.o.1
    ·omega
    ·simp at hv;exact⟨g,hv.1,hbg⟩
   obtain⟨ps,hps⟩: ∃ps,kT l out d=ps:=⟨_,rfl⟩
   have agD:ps.length=i:=by rw[<-hps,Yk.o,mD,FP.o.2]
   have HPS:=ae (ag hps agD)
   have hq0:ps.take 0++rs.drop 0=rs:=by simp
   have hown0:wr.ownsRow W1.heap.size 46 2 (.slice (some ⟨gb,0,none⟩) i oc) i (aG (ps.take 0++rs.drop 0)):=by rw[hq0];exact HO.o.1
   have HO0:=ae hown0
   clear hps agD hq0 hown0
   go_wp2_with fail
   go_loopw [69] (fun u wq=> ∃j:Nat,j<=i/\u= .int .i64 j/\wq.ownsRow W1.heap.size 46 2 (.slice (some ⟨gb,0,none⟩) i oc) i (aG (ps.take j++rs.drop j))/\Below W1.heap.size W1 wq) (fun u _=>i-(intOf u).toNat)
   case atStart=>exact⟨0,bQ _,rfl,HO0.o,HO.o.2⟩
   case round=>
    obtain⟨j,hj,rfl,how,hB⟩:=hrel
    by_cases hlt:j<i
    ·have hjr:j<rs.length:=by rw[FP.o.2];exact hlt
     have hjp:j<ps.length:=by rw[HPS.o.2];exact hlt
     have hQl:(ps.take j++rs.drop j).length=i:=by rw[dm,gU,lG,FP.o.2,HPS.o.2];omega
     have how':wr.ownsRow W1.heap.size 46 2 (.slice (some ⟨gb,0,none⟩) (ps.take j++rs.drop j).length oc) (ps.take j++rs.drop j).length (aG (ps.take j++rs.drop j)):=by rw[hQl];exact how
     have hQj:(ps.take j++rs.drop j)[j]'(by rw[hQl];exact hlt)=rs[j]:=by
      rw[List.getElem_append_right (by rw[gU];omega)]
      simp[gU,Nat.min_eq_left (ng hjp)]
     have hQn:(ps.take j++rs.drop j).set j ps[j]=ps.take (j+1)++rs.drop (j+1):=by
      rw[qA _ _ (by rw[gU];omega),gU,Nat.min_eq_left (ng hjp),Nat.sub_self,iC hjp,show rs.drop j=rs[j]::rs.drop (j+1) from uj hjr,List.set_cons_zero,jg]
      rfl
     have hpj:ps[j]=ug rs[j] (l.box.1-(YV-rs[j].2),l.box.2-(Yd-rs[j].1)):=by
      have h1:=HPS.o.1
      have h2:=Yk.o
      rw[h1] at h2
      subst h2
      rw[List.getElem_map]
     have hop:=oM how' (show j<(ps.take j++rs.drop j).length by rw[hQl];exact hlt)
     have hbd:=Nh.o.1 rs[j] (dh hjr)
     rw[hpj] at hQn
     rw[hQj] at hop
     generalize rs[j]=r at*
     obtain⟨g2,c2,hg2,acb,WR,⟨s0,s1⟩,hfr2⟩:=hop
     obtain⟨rfl,rfl⟩:gb=g2/\oc=c2:=by simp at hg2;exact hg2
     have hwr:=(hB.block _ aec).trans HX1.o.2.2.1
     have hb1: -10000<=YV-r.2/\YV-r.2<=10000:=by omega
     have hb2: -10000<=Yd-r.1/\Yd-r.1<=10000:=by omega
     have hb3: -20000<=l.box.1-(YV-r.2)/\l.box.1-(YV-r.2)<=20000:=by omega
     have hb4: -20000<=l.box.2-(Yd-r.1)/\l.box.2-(Yd-r.1)<=20000:=by omega
     have HQ:=ae (ag hQn (ag hQl (ag how' hB)))
     have Fb:(j:Int)<i:=by omega
     have hbw:Below wr.heap.size wr wr:=aH _ _
     clear hpj hQn hQl how how' hB hQj hg2 hbw hjp hjr
     go_upto_region 15 with(fail)
     refine dN fun U4 aeB=>?_
     have WX:Below wr.heap.size wr U4:=by rw[aeB];exact zl
     have aha:U4.heap[wr.heap.size]? =some (.cells #[iv r.1,iv r.2] 46 (0,0)):=by rw[aeB];exact ay _ _
     have agp:=(WX.block _ (aS.1 hwr).1).trans hwr
     have ajy:=(WX.cell (p:=⟨gb,j*2,none⟩) WR).trans s0
     have ajx:=(WX.cell (p:=⟨gb,j*2+1,none⟩) WR).trans s1
     have an9:=WX.size
     have amw:gb<U4.heap.size:=by omega
     have H14:=ae WX
     obtain⟨e1,e2,e3⟩:=af agp
     obtain⟨e4,e5,e6⟩:=af aha
     clear aeB WX agp hwr s0 s1 hfr2 aha
     refine zg 27 [] none [(26,Spec.val (rv (ug r (l.box.1-(YV-r.2),l.box.2-(Yd-r.1)))))] ?_
     simp only[zt]
     repeat ((first|refine zn ?_|refine zk ?_);simp only[zp])
     refine zw 204 (h:=fun W hE hF=>by exact both_any r (l.box.1-(YV-r.2),l.box.2-(Yd-r.1)) W) (t:=?_)
     simp only[zp]
     intro W hE hF
     obtain⟨hc,hf⟩:=bK hE.below
     have hzE:=hE.size
     (try simp only[bu] at hzE)
     have HE:=ae hE
     have hBW:Below wr.heap.size wr W:=aY H14.o hE.below
     have hown:W.ownsRow W1.heap.size 46 2 (.slice (some ⟨gb,0,none⟩) (ps.take j++rs.drop j).length oc) (ps.take j++rs.drop j).length (aG (ps.take j++rs.drop j)):=dn HQ.o.2.2.1 fun g hg=>hBW.block g (bD HQ.o.2.2.1 g hg).2
     obtain⟨g3,c3,hg3,_,ahe,⟨t0,t1⟩,hfr3⟩:=oM hown (show j<(ps.take j++rs.drop j).length by rw[HQ.o.2.1];exact hlt)
     obtain⟨rfl,rfl⟩:gb=g3/\oc=c3:=by simp at hg3;exact hg3
     have hset:=nP hown (show j<(ps.take j++rs.drop j).length by rw[HQ.o.2.1];exact hlt) (ug r (l.box.1-(YV-r.2),l.box.2-(Yd-r.1)))
     rw[HQ.o.1] at hset
     have hsl:(ps.take (j+1)++rs.drop (j+1)).length=i:=by rw[<-HQ.o.1,qw,HQ.o.2.1]
     have HST:=ae (ag hset (ag hsl (aY HQ.o.2.2.2 hBW)))
     clear hE hF hown hg3 hset hsl hBW e1 e2 e3 e4 e5 e6 ajy ajx hc hf hzE
     go_wp2_with fail
     go_roundw
     case rel=>
      refine⟨j+1,by omega,by go_num,?_,iF (iF HST.o.2.2 hgb _) hgb _⟩
      have:=HST.o.1
      rw[HQ.o.2.1] at this
      exact this
     case measure=>simp[intOf];omega
    ·have hji:j=i:=by omega
     subst hji
     have hfin:ps.take j++rs.drop j=ps:=by rw[kF (by rw[HPS.o.2];exact ai _),List.drop_of_length_le (by rw[FP.o.2];exact ai _),List.append_nil]
     rw[hfin] at how
     have HF:=ae (ag how hB)
     clear hfin how hB
     go_wp2_with fail
     go_returns
     refine⟨aY HX1.o.1 HF.o.2,.inl ⟨HTR.o,_,by simp;rfl,?_⟩⟩
     rw[HPS.o.1,HPS.o.2]
     exact df HF.o.1 (by omega)
end Go.Proofs.YthllkbbbapgelaaGreatDoor
end

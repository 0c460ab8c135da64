/-
  Texts of this claim, packed by a program: QA QD.
-/
import Derived.WalkKit
import Derived.WalkLawsBesides
import Derived.WalkSpells
import Derived.Outline
import Derived.Handy
import Derived.KernelRfl
import Derived.Lib.Hide
import Derived.Test.YthbpmepjmebolaaGreatDoorPA5
set_option maxHeartbeats 8000000
set_option maxRecDepth 100000
set_option linter.all false
section
namespace Go.Proofs.YthbpmepjmebolaaGreatDoor
open Go.RowKit Go.RG Go.SL Go.Shelf jC Go.TB
abbrev xv (t:Ff):Value:= .agg #[.int .i64 t.1,.int .i64 t.2.1,.int .i64 t.2.2]
abbrev kW (l:aS) (tv nv:Value):Array Value:= #[iv l.field.rows,iv l.field.aO,iv l.field.left.1,iv l.field.left.2,tv,iv l.rate,iv l.box.1,iv l.box.2,nv]
abbrev lv (l:aS) (tv nv:Value):Value:= .agg (kW l tv nv)
def lh (r:dY):Bool:=decide (r.1<=r.2)&&(nZ r.1 0 2000&&nZ r.2 0 2000)
def BB (l:aS) (n:Ff):Bool:=nZ n.1 0 (l.field.aO-1)&&lh n.2
theorem yK (n l h:Int) (w:World):Calls Tryz.prog 89 #[iv n,iv l,iv h] w (PV (.bool (nZ n l h)) w):=by
 by_cases h1:l<=n
 all_goals
  go_enter Tryz.func89,Tryz.ntmps89
  go_wp2
  go_returns
  exact⟨by simp[nZ];omega,aG _ _⟩
theorem wB (n:Int) (w:World):Calls Tryz.prog 154 #[iv n] w (PV (.bool (nZ n 0 2000)) w):=by
 go_enter Tryz.func154,Tryz.ntmps154
 go_wp2_with fail
 refine(yK _ _ _ _).mono ?_
 rintro e w' ⟨rfl,hb⟩
 go_wp2_with fail
 go_returns
 exact⟨by simp,hb⟩
theorem Fe (r:dY) (w:World):Calls Tryz.prog 90 #[rv r] w (PV (.bool (lh r)) w):=by
 obtain⟨p,q⟩:=r
 by_cases h0:p<=q
 ·obtain⟨x,hx⟩: ∃x,nZ p 0 2000=x:=⟨_,rfl⟩
  have H1:=ae (fun w=>hx▸wB p w)
  have HX:=ae hx
  clear hx
  cases x
  ·have hF:lh (p,q)=false:=by unfold lh;simp only[HX.o];simp
   rw[hF]
   clear hF
   go_enter Tryz.func90,Tryz.ntmps90
   go_wp2_with fail
   refine(H1.o _).mono ?_
   rintro e w' ⟨rfl,hb⟩
   go_wp2_with fail
   go_returns
   exact⟨by simp,zl⟩
  ·have hF:lh (p,q)=nZ q 0 2000:=by unfold lh;simp only[HX.o];simp[h0]
   rw[hF]
   clear hF
   go_enter Tryz.func90,Tryz.ntmps90
   go_wp2_with fail
   refine(H1.o _).mono ?_
   rintro e w' ⟨rfl,hb⟩
   obtain⟨hc,hf⟩:=bV hb
   have hz0:w.heap.size<w'.heap.size:=(by have:=hb.size;(try simp only[bI] at this);omega)
   go_wp2_with fail
   refine(wB q _).mono ?_
   rintro e w2 ⟨rfl,hb2⟩
   go_wp2_with fail
   go_returns
   exact⟨by simp,zl⟩
 ·have hb0:decide (p<=q)=false:=by simpa using h0
  have hF:lh (p,q)=false:=by unfold lh;simp[h0]
  rw[hF]
  clear hF
  go_enter Tryz.func90,Tryz.ntmps90
  go_wp2
  go_returns
  exact⟨by simp,zl⟩
theorem note_any (l:aS) (tv nv:Value) (n:Ff) (w:World) (h0: -1000<=l.field.aO) (h1:l.field.aO<=1000):
 Calls Tryz.prog 88 #[lv l tv nv,xv n] w (PV (.bool (BB l n)) w):=by
 obtain⟨x,hx⟩: ∃x,nZ n.1 0 (l.field.aO-1)=x:=⟨_,rfl⟩
 have H1:=ae (fun w=>hx▸yK n.1 0 (l.field.aO-1) w)
 have HX:=ae hx
 clear hx
 cases x
 ·have hF:BB l n=false:=by unfold BB;rw[HX.o];rfl
  rw[hF]
  clear hF
  go_enter Tryz.func88,Tryz.ntmps88
  go_wp2_with fail
  refine(H1.o _).mono ?_
  rintro e w' ⟨rfl,hb⟩
  go_wp2_with fail
  go_returns
  exact⟨by simp,zl⟩
 ·have hF:BB l n=lh n.2:=by unfold BB;rw[HX.o];rfl
  rw[hF]
  clear hF
  go_enter Tryz.func88,Tryz.ntmps88
  go_wp2_with fail
  refine(H1.o _).mono ?_
  rintro e w' ⟨rfl,hb⟩
  obtain⟨hc,hf⟩:=bV hb
  have hz0:w.heap.size<w'.heap.size:=(by have:=hb.size;(try simp only[bI] at this);omega)
  have hz1:w.heap.size+1<w'.heap.size:=(by have:=hb.size;(try simp only[bI] at this);omega)
  go_wp2_with fail
  refine(Fe n.2 _).mono ?_
  rintro e w2 ⟨rfl,hb2⟩
  go_wp2_with fail
  go_returns
  exact⟨by simp,zl⟩
theorem BP (a b:Int) (g c:Nat) (w:World) (h0:w.cell? ⟨g,0,none⟩=some (iv a)) (h1:w.cell? ⟨g,1,none⟩=some (iv b)):
 Calls Tryz.prog 277 #[.slice (some ⟨g,0,none⟩) 2 c] w (PV (iv (min a b)) w):=by
 have H:=ae (BD a b g c w h0 h1)
 go_enter Tryz.func277,Tryz.ntmps277
 go_wp2_with fail
 refine H.o.mono ?_
 rintro e w' ⟨rfl,hb⟩
 go_wp2_with fail
 go_returns
 exact⟨by simp,hb⟩
theorem both_any (r x:dY) (w:World):Calls Tryz.prog 236 #[rv r,rv x] w (PV (rv (uB r x)) w):=by
 go_enter Tryz.func236,Tryz.ntmps236
 go_wp2_with fail
 refine zg 12 [] none [(9,Spec.slice (w.heap.size+3) #[iv r.2,iv x.2] 3 2),(10,Spec.val (iv (min r.2 x.2)))] ?_
 simp only[zt]
 repeat (refine zd ?_;simp only[zp])
 refine cu (w.heap.size+3) _ _ _ (by rfl) (by simp) (by rfl) (by simp) (by simp) (fun W hW=>by go_simp;try rfl) (fun b=>?_)
 simp only[zp]
 refine dK _ (by rfl) (by rfl) 277 _ (fun W hW=>by go_simp;try rfl) (fun W hE hF=>?_) ?_
 ·obtain⟨c,hcb,hB,hc⟩:=hF _ (bg _) (by kernel_rfl)
  cases hcb
  exact BP r.2 x.2 b 2 W (by simp[World.cell?,hc]) (by simp[World.cell?,hc])
 simp only[zp]
 repeat (refine zd ?_;simp only[zp])
 intro W hE hF
 obtain⟨hc,hf⟩:=bV hE.below
 have hzE:=hE.size
 (try simp only[bI] at hzE)
 go_wp2
 all_goals
  (try simp only[Exit.inBlock,Exit.then])
  refine bodyPost_ret (v:=rv (max r.1 x.1,min r.2 x.2)) (by simp[results,Tryz.results236,go_sem,hc];try omega) rfl ?_
  exact⟨rfl,ze⟩
end Go.Proofs.YthbpmepjmebolaaGreatDoor
namespace Go.Proofs.YthbpmepjmebolaaGreatDoor
open Go.RowKit Go.RG Go.SL Go.Shelf jC Go.TB
theorem akv (l:List Ff) (v:Value) (bz:Nat) (fst caps:Array Value) (p:Nat->Bool) (I:Nat->World->Prop) (w:World) (eg: ∀args w,(callFunc bz args).run Tryz.prog w= .ok (.enter bz args) w)
 (hsl: ∀k W,I k W->bD W v l)
 (hcall: ∀k (hk:k<l.length) W,(∀j,j<k->p j=false)->I k W->Calls Tryz.prog bz (fst.push (xv l[k])++caps) W (fun e W'=>e= .returned (.bool (p k))/\I (k+1) W')) (h0:I 0 w):
 Calls Tryz.prog 232 #[v,.func (.func bz) fst caps] w (eP l.length p I (fun k=>iv k) (iv (-1))):=by
 have hlen:=(hsl 0 w h0).len
 obtain⟨o,c,rfl⟩:=(hsl 0 w h0).open
 have HC:=ae hcall
 have HS:=ae hsl
 clear hcall hsl
 go_enter Tryz.func232,Tryz.ntmps232
 go_wp2
 go_loopw [4,5,8] (fun _ _ i wr=> ∃k:Nat,k<=l.length/\i= .int .i64 k/\(∀j,j<k->p j=false)/\I k wr) (fun _ _ i _=>l.length-(intOf i).toNat)
 case atStart=>exact⟨0,bW _,rfl,fun j hj=>by omega,h0⟩
 case round=>
  obtain⟨k,hk,rfl,hno,hI⟩:=hrel
  by_cases hlt:k<l.length
  ·obtain⟨b,off,rfl,hb,hc0,hc1,hc2⟩:=bD.cell (HS.o k wr hI) hlt
   have hC:=HC.o k hlt wr hno hI
   have HN:=ae hno
   clear hno
   go_wp2_with fail
   refine hC.mono ?_
   rintro e W1 ⟨rfl,hI1⟩
   have HI:=ae hI1
   clear hI1 hI hC
   cases hp:p k
   ·go_wp2_with fail
    go_roundw
    case rel=>exact⟨k+1,by omega,by go_num,fun j hj=>(by by_cases e:j=k;(subst e;exact hp);exact HN.o j (by omega)),HI.o⟩
    case measure=>simp[intOf];omega
   ·go_wp2_with fail
    go_returns
    exact⟨k,by omega,HN.o,.inl ⟨hlt,hp,by simp,HI.o⟩⟩
  ·have hkl:k=l.length:=by omega
   have HN:=ae hno
   clear hno
   go_wp2_with fail
   go_returns
   exact⟨k,by omega,HN.o,.inr ⟨hkl,by simp,by subst hkl;exact hI⟩⟩
theorem aiM (l:List Ff) (v:Value) (bz:Nat) (fst caps:Array Value) (p:Nat->Bool) (I:Nat->World->Prop) (w:World) (eg: ∀args w,(callFunc bz args).run Tryz.prog w= .ok (.enter bz args) w)
 (hsl: ∀k W,I k W->bD W v l)
 (hcall: ∀k (hk:k<l.length) W,(∀j,j<k->p j=false)->I k W->Calls Tryz.prog bz (fst.push (xv l[k])++caps) W (fun e W'=>e= .returned (.bool (p k))/\I (k+1) W')) (h0:I 0 w):
 Calls Tryz.prog 155 #[v,.func (.func bz) fst caps] w (eP l.length p I (fun _=> .bool true) (.bool false)):=by
 have HI:=ae (akv l v bz fst caps p I w eg hsl hcall h0)
 have hlen:=(hsl 0 w h0).len
 clear hsl hcall h0 eg
 go_enter Tryz.func155,Tryz.ntmps155
 go_wp2_with fail
 refine HI.o.mono ?_
 clear HI
 rintro e W' ⟨k,hk,hno,⟨hlt,hp,rfl,hI⟩|⟨hkl,rfl,hI⟩⟩
 ·have HN:=ae (ag hno (ag hp hI))
  clear hno hp hI
  go_wp2_with fail
  go_returns
  exact⟨k,hk,HN.o.1,.inl ⟨hlt,HN.o.2.1,by simp,HN.o.2.2⟩⟩
 ·have HN:=ae (ag hno (ag hkl hI))
  clear hno hkl hI
  go_wp2_with fail
  go_returns
  exact⟨k,hk,HN.o.1,.inr ⟨HN.o.2.1,by simp,HN.o.2.1▸HN.o.2.2⟩⟩
theorem aiU (x:Ff) (bx bz:Nat) (fst caps:Array Value) (b:Bool) (W:World) (R:World->Prop) (eg: ∀args w,(callFunc bz args).run Tryz.prog w= .ok (.enter bz args) w)
 (hbx:W.cell? ⟨bx,0,none⟩=some (.func (.func bz) fst caps))
 (hcall:Calls Tryz.prog bz (fst.push (xv x)++caps) (W.alloc (.cells #[iv x.1,iv x.2.1,iv x.2.2] 120)) (fun e W'=>e= .returned (.bool b)/\R W')):
 Calls Tryz.prog 156 #[xv x,.pointer (some ⟨bx,0,none⟩)] W (fun e W'=>e= .returned (.bool !b)/\R W'):=by
 have hlt:=dP W _ hbx
 have HC:=ae hcall
 clear hcall
 go_enter Tryz.func156,Tryz.ntmps156
 go_wp2_with fail
 refine HC.o.mono ?_
 rintro e W' ⟨rfl,hR⟩
 have HR:=ae hR
 clear hR
 go_wp2_with fail
 go_returns
 exact⟨by simp,HR.o⟩
theorem al7 (l:List Ff) (v:Value) (bz:Nat) (fst caps:Array Value) (p:Nat->Bool) (I:Nat->World->Prop) (w:World) (eg: ∀args w,(callFunc bz args).run Tryz.prog w= .ok (.enter bz args) w)
 (hsl: ∀k W,I k W->bD W v l) (hal: ∀k W o,I k W->I k (W.alloc o))
 (hcall: ∀k (hk:k<l.length) W,(∀j,j<k->p j=true)->I k W->Calls Tryz.prog bz (fst.push (xv l[k])++caps) W (fun e W'=>e= .returned (.bool (p k))/\I (k+1) W'/\jr w.heap.size W W')) (h0:I 0 w):
 Calls Tryz.prog 91 #[v,.func (.func bz) fst caps] w (eP l.length (fun k=>!p k) I (fun _=> .bool false) (.bool true)):=by
 have HI:=ae (aiM l v 156 #[] #[.pointer (some ⟨w.heap.size,0,none⟩)] (fun k=>!p k)
  (fun k W=>I k W/\W.heap[w.heap.size]? =some (.cells #[.func (.func bz) fst caps] 179 (0,0))) (w.alloc (.cells #[.func (.func bz) fst caps] 179))
  (enters_of Tryz.func156 (by kernel_rfl) rfl) (fun k W h=>hsl k W h.1)
  (fun k hk W hno h=>by
    have hlt:w.heap.size<W.heap.size:=(aV.1 h.2).1
    refine(aiU l[k] w.heap.size bz fst caps (p k) W (fun W'=>I (k+1) W'/\W'.heap[w.heap.size]? =some (.cells #[.func (.func bz) fst caps] 179 (0,0))) eg (aB h.2) ?_)
    refine(hcall k hk _ (fun j hj=>by simpa using hno j hj) (by first|exact hal _ _ _ h.1|exact h.1)).mono ?_
    rintro e W' ⟨rfl,h1,h2⟩
    refine⟨rfl,h1,(h2.block _ (ai _) (by first|exact hlt|(simp;omega))).trans (by first|exact h.2|exact(aW _ _ _ hlt).trans h.2)⟩)
  ⟨hal _ _ _ h0,heap_alloc_new w _⟩)
 have hlen:=(hsl 0 w h0).len
 clear hsl hcall h0 eg hal
 go_enter Tryz.func91,Tryz.ntmps91
 go_wp2_with fail
 refine HI.o.mono ?_
 clear HI
 rintro e W' ⟨k,hk,hno,⟨hlt,hp,rfl,hI,_⟩|⟨hkl,rfl,hI,_⟩⟩
 ·have HN:=ae (ag hno (ag hp hI))
  clear hno hp hI
  go_wp2_with fail
  go_returns
  exact⟨k,hk,HN.o.1,.inl ⟨hlt,HN.o.2.1,by simp,HN.o.2.2⟩⟩
 ·have HN:=ae (ag hno (ag hkl hI))
  clear hno hkl hI
  go_wp2_with fail
  go_returns
  exact⟨k,hk,HN.o.1,.inr ⟨HN.o.2.1,by simp,HN.o.2.1▸HN.o.2.2⟩⟩
theorem Yg (l:List Ff) (v:Value) (bz:Nat) (fst caps:Array Value) (q:Ff->Bool) (w:World) (hv:bD w v l) (eg: ∀args w,(callFunc bz args).run Tryz.prog w= .ok (.enter bz args) w)
 (hcall: ∀x∈l, ∀W,Below w.heap.size w W->Calls Tryz.prog bz (fst.push (xv x)++caps) W (PV (.bool (q x)) W)):
 Calls Tryz.prog 91 #[v,.func (.func bz) fst caps] w (PV (.bool (l.all q)) w):=by
 refine(al7 l v bz fst caps (fun k=>q (l.getD k (0,0,0))) (fun _ W=>Below w.heap.size w W) w eg (fun k W h=>hv.below h (ai _)) (fun k W o h=>ak h o) (fun k hk W _ h=>?_) (aG _ _)).mono ?_
 ·refine(hcall l[k] (bT _) W h).mono ?_
  rintro e W' ⟨rfl,hb⟩
  exact⟨by simp[hk],aX h hb,jr.az hb⟩
 ·intro e W' hpost
  obtain⟨rfl,k,_,hI⟩:=hpost.all
  refine⟨?_,hI⟩
  rw[jL,jV]
end Go.Proofs.YthbpmepjmebolaaGreatDoor
namespace Go.Proofs.YthbpmepjmebolaaGreatDoor
open Go.RowKit Go.RG Go.SL Go.Shelf jC Go.TB
attribute [local go_sem] Oper.semAt_some
theorem nV {l:List Int} (h:l.length=3): ∃a b c,l=[a,b,c]:=by
 match l,h with
 |[a,b,c],_=>exact⟨a,b,c,rfl⟩
theorem aa3 (l:aS) (tv nv rvv:Value) (rows:List Int) (w:World) (hr:aP w rvv rows) (h0:0<=l.rate) (h1:l.rate<=50) (h7:rows.length<=7) (hb: ∀x∈rows,x<3):
 Calls Tryz.prog 158 #[lv l tv nv,rvv] w (fun e w'=>e= .returned (lY (lW l.rate rows))/\Below w.heap.size w w'/\w.heap.size<w'.heap.size):=by
 obtain⟨ro,rc,rfl⟩:=hr.open
 have HR:=ae hr
 have HB:=ae hb
 clear hr hb
 go_enter Tryz.func158,Tryz.ntmps158
 go_wp2_with fail
 go_loopw [9] (fun u wr=> ∃k:Nat,k<=rows.length/\u= .int .i64 k/\Below w.heap.size w wr/\wr.heap[w.heap.size]? =some (.cells (kW l tv nv) 33 (0,0))/\wr.heap[w.heap.size+1]? =some (.cells (ah (lW l.rate (rows.take k))).toArray 247 (0,0))) (fun u _=>rows.length-(intOf u).toNat)
 case atStart=>
  refine⟨0,bW _,rfl,zl,(aW _ _ _ (by simp)).trans (ay _ _),?_⟩
  rw[List.take_zero,XI]
  exact ed _ _ _
 case round=>
  obtain⟨k,hk,rfl,hB,hk0,hk1⟩:=hrel
  obtain⟨c0,f0,l0⟩:=af hk0
  by_cases hlt:k<rows.length
  ·have vU:=HR.o.below hB (ai _)
   obtain⟨b,off,rfl,hb,hc0⟩:=aP.cell vU hlt
   have hx3:=HB.o _ (bT hlt)
   have hsu:rows.take (k+1)=rows.take k++[rows[k]]:=iy hlt
   have hbd:=Il h0 h1 (rows.take k) (by rw[gX];omega)
   generalize rows[k]=x at*
   have xK:=ae hsu
   have HK:=ae (ag hB (ag hk0 hk1))
   have NJ:=ae hbd
   clear vU hsu hB hk0 hbd
   by_cases hx:0<=x
   ·obtain⟨n,rfl⟩: ∃n:Nat,x=n:=⟨x.toNat,by omega⟩
    have hn3:n<3:=by omega
    obtain⟨d,hd⟩: ∃d,(lW l.rate (rows.take k)).getD n 0=d:=⟨_,rfl⟩
    have hdb:=NJ.o n hn3
    rw[hd] at hdb
    have hcell:=gJ hk1 (show n<(lW l.rate (rows.take k)).length by rw[kZ];omega)
    rw[show(lW l.rate (rows.take k))[n]'(by rw[kZ];omega)=d from by rw[<-hd];simp[List.getD,kZ,hn3]] at hcell
    have hfr:=bF hk1 n
    have hl1:=dP wr _ hcell
    have HD:=ae hd
    clear hd hk1
    go_upto_region 5 with(fail)
    refine zg 7 [] none [] ?_
    simp only[zt]
    repeat (refine zn ?_;simp only[zp])
    intro W hE hF
    obtain⟨hc,hf⟩:=bV hE.below
    have hzE:=hE.size
    (try simp only[bI] at hzE)
    have HE:=ae hE
    clear hF hzE
    go_wp2_with fail
    go_roundw
    case rel=>
     refine⟨k+1,by omega,by go_num,iG (aX HK.o.1 HE.o.below) (by simp) _,(dL _ _ _ _ (by show w.heap.size≠w.heap.size+1;omega)).trans ((HE.o.block _ l0 (by simp)).trans HK.o.2.1),?_⟩
     rw[xK.o, <-Ua _ _ _ hn3,HD.o, <-tH]
     exact aI ((HE.o.block _ hl1 (by simp)).trans HK.o.2.2) _
    case measure=>simp[intOf];omega
   ·have hxb:decide (0<=x)=false:=by simpa using hx
    have HX:=ae hx
    clear hk1
    go_wp2_with fail
    go_roundw
    case rel=>
     refine⟨k+1,by omega,by go_num,HK.o.1,HK.o.2.1,?_⟩
     rw[xK.o,Ub _ _ _ (by have:=HX.o;omega)]
     exact HK.o.2.2
    case measure=>simp[intOf];omega
  ·have hkl:k=rows.length:=by omega
   subst hkl
   rw[List.take_length] at hk1
   obtain⟨y0,y1,y2,hys⟩:=nV (kZ l.rate rows)
   rw[hys] at hk1
   have ae5:wr.heap[w.heap.size+1]? =some (.cells #[iv y0,iv y1,iv y2] 247 (0,0)):=hk1
   obtain⟨c1,f1,l1⟩:=af ae5
   have CP:=ae hys
   have HB':=ae hB
   have hkF:(((wr.setCell ⟨w.heap.size+1,0,none⟩ (iv y0)).setCell ⟨w.heap.size+1,1,none⟩ (iv y1)).setCell ⟨w.heap.size+1,2,none⟩ (iv y2)).heap[w.heap.size+1]? =some (.cells #[iv y0,iv y1,iv y2] 247 (0,0)):=aI (aI (aI ae5 _) _) _
   obtain⟨cF,fF,lF⟩:=af hkF
   clear hk0 hk1 ae5 hB hys hkF
   go_wp2_with fail
   (try rw[Exit.noGoto_ret])
   refine bodyPost_ret (v:= .agg #[iv y0,iv y1,iv y2]) (by simp[results,Tryz.results158,go_sem,cF]) rfl ?_
   exact⟨by rw[CP.o];rfl,iG (iG (iG HB'.o (by simp) _) (by simp) _) (by simp) _,by simp[World.setCell];omega⟩
theorem Gw {f:cZ} (hf:kz f=0) {x:List Int} (hx:x∈qG f):oV f x=jg f [] x:=by
 have hS:=iI hf
 have h0:=hS.zW
 obtain⟨h1,h2⟩:=GZ.1 hx
 have hall:x.all (Bl f)=true:=by
  rw[jS]
  intro n hn
  obtain⟨i,hi,rfl⟩:=mF hn
  have:=h2 i (by omega)
  rw[show x.getD i 0=x[i] from by simp[List.getD,hi]] at this
  simp only[Bl,nZ,Bool.or_eq_true,beq_iff_eq,fG,eX]
  omega
 unfold oV
 rw[hf,hall,decide_eq_true (show(x.length:Int)=f.rows by omega)]
 simp
structure Za (W:World) (n bl bo jy bc ob l:Nat) (o:List Int):Prop where
 y:W.heap[jy]? =some (.cells #[.func (.yield l) #[] #[]] 157 (0,0))
 out:W.heap[bo]? =some (.cells #[.slice (some ⟨ob,0,none⟩) n n] 36 (0,0))
 ch:W.heap[bc]? =some (.cells #[.func (.func 234) #[] #[.pointer (some ⟨bo,0,none⟩),.pointer (some ⟨bl,0,none⟩),.pointer (some ⟨jy,0,none⟩),.pointer (some ⟨bc,0,none⟩)]] 167 (0,0))
 cells:W.heap[ob]? =some (.cells (ah o).toArray 3 (0,0))
theorem Za.kept {W W':World} {n bl bo jy bc ob l:Nat} {o:List Int} (h:Za W n bl bo jy bc ob l o) (hk: ∀m∈[ob,jy,bo,bc],m<W.heap.size->W'.heap[m]? =W.heap[m]?):Za W' n bl bo jy bc ob l o:=
 ⟨(hk _ (by simp) (aV.1 h.y).1).trans h.y,(hk _ (by simp) (aV.1 h.out).1).trans h.out,(hk _ (by simp) (aV.1 h.ch).1).trans h.ch,(hk _ (by simp) (aV.1 h.cells).1).trans h.cells⟩
theorem Za.below {W W':World} {n bl bo jy bc ob l:Nat} {o:List Int} (h:Za W n bl bo jy bc ob l o) (hb:Below W.heap.size W W'):Za W' n bl bo jy bc ob l o:=h.kept fun m _ hm=>hb.block m hm
theorem Za.set {W:World} {n bl bo jy bc ob l:Nat} {o:List Int} (h:Za W n bl bo jy bc ob l o) (hd1:jy≠ob) (hd2:bo≠ob) (hd3:bc≠ob) (i:Nat) (x:Int):Za (W.setCell ⟨ob,i,none⟩ (iv x)) n bl bo jy bc ob l (o.set i x):=
 ⟨(dL _ _ _ _ hd1).trans h.y,(dL _ _ _ _ hd2).trans h.out,(dL _ _ _ _ hd3).trans h.ch,by rw[<-tH];exact aI h.cells _⟩
def aiY (Ms:List Nat) (x:List Int) (v:Value) (W:World):Prop:=
 ∃ob:Nat,v= .slice (some ⟨ob,0,none⟩) x.length x.length/\W.heap[ob]? =some (.cells (ah x).toArray 3 (0,0))/\ob∈Ms
structure aed (bl:Nat) (l:aS) (tv nv:Value) (W:World):Prop where
 lb:W.heap[bl]? =some (.cells (kW l tv nv) 33 (0,0))
 uK:dJ W tv l.field.au
theorem Ot (l:aS) (hf:kz l.field=0) (tv nv:Value) (bl bo jy bc ob y:Nat) (hd1:jy≠ob) (hd2:bo≠ob) (hd3:bc≠ob) (J:List Nat->Option Nat->World->Prop)
 (hInv: ∀Ms s W1,J Ms s W1->aed bl l tv nv W1)
 (hstep: ∀Ms Ms' s W1 W2,J Ms s W1->Ext Ms W1 W2->(∀m∈Ms',m∈Ms∨(W1.heap.size<=m/\m<W2.heap.size))->True->J Ms' s W2)
 (hY: ∀Ms k v W1 (hk:k<(df l.field []).length),J Ms (some k) W1->aiY Ms (df l.field [])[k] v W1->YieldAt Fence.wide 0 Tryz.prog y #[v] W1 fun e W'=>
   ((∀m∈Ms,m∉[]->m<W1.heap.size->W'.heap[m]? =W1.heap[m]?)/\W1.heap.size<=W'.heap.size)/\((e= .returned (.bool true)/\J Ms (some (k+1)) W')∨(e= .returned (.bool false)/\J Ms none W'))):
 ∀(m i k:Nat) (pre:List Int) (W:World) (o:List Int),i+m=l.field.rows.toNat->pre.length=i->o.length=l.field.rows.toNat->o.take i=pre->jM (fH l.field) i k pre->Za W l.field.rows.toNat bl bo jy bc ob y o->J [ob,jy,bo,bc] (some (uS l.field [] k)) W->
  CallsIn Fence.wide 0 Tryz.prog 234 #[iv i,.pointer (some ⟨bo,0,none⟩),.pointer (some ⟨bl,0,none⟩),.pointer (some ⟨jy,0,none⟩),.pointer (some ⟨bc,0,none⟩)] W
   (fun e W'=>(e= .returned (.bool true)/\J [ob,jy,bo,bc] (some (uS l.field [] (k+(fJ ((fH l.field).drop i)).length))) W'/\ ∃o',o'.length=l.field.rows.toNat/\o'.take i=pre/\Za W' l.field.rows.toNat bl bo jy bc ob y o')∨
     (e= .returned (.bool false)/\J [ob,jy,bo,bc] none W')):=by
 have hS:=iI hf
 have hRl:(fH l.field).length=l.field.rows.toNat:=by simp[fH]
 intro m
 induction m with
 |zero=>
  intro i k pre W o him hpl hol hot hat hst hJ
  have hrow:(i:Int)=(l.field.rows.toNat:Int):=by omega
  obtain⟨hone,hk,hx⟩:=hat.last (by omega)
  rw[hone]
  obtain rfl:o=pre:=by rw[<-hot,show i=o.length by omega,List.take_length]
  have hk':k<(qG l.field).length:=hk
  have hxx:(qG l.field)[k]=o:=hx
  obtain⟨hbl,htl⟩:=hInv _ _ _ hJ
  have hrt:=Fh l.field tv (.slice (some ⟨ob,0,none⟩) l.field.rows.toNat l.field.rows.toNat) o W htl (by rw[<-hol];exact aK.dw (cs:=(ah o).toArray) 1 o.length hst.cells (by simp[ah]) (by have:=hS.qP;simp only[maxLen];omega))
  rw[Gw hf (hxx▸bT hk')] at hrt
  obtain⟨Q4,cf1,Um⟩:=af hbl
  obtain⟨cc2,cf2,cl2⟩:=af hst.out
  obtain⟨cc3,cf3,cl3⟩:=af hst.y
  have HR:=ae hrt
  have HS:=ae hst
  have HJ:=ae hJ
  have HST:=ae hstep
  have HY:=ae hY
  have HK:=ae (show ∃h:k<(qG l.field).length,(qG l.field)[k]=o from⟨hk',hxx⟩)
  have HO:=ae (ag hol hot)
  have Vp:=hS.qP
  have heq:((i:Int)==(l.field.rows.toNat:Int))=true:=by simpa using hrow
  clear hrt hInv hstep hY hst hJ hbl htl hat hxx hx hk hk' hone hrow hot hS
  obtain⟨q,hq⟩: ∃q,jg l.field [] o=q:=⟨_,rfl⟩
  have HQ:=ae hq
  rw[hq] at HR
  clear hq
  have acM:o.length=l.field.rows.toNat:=HO.out.1
  obtain⟨rn,hrn⟩: ∃rn,l.field.rows.toNat=rn:=⟨_,rfl⟩
  rw[hrn] at HR heq cc2 acM⊢
  have HRN:=ae hrn
  clear hrn him
  cases q
  ·skip
   refine callsIn_of_wp Tryz.func234 rfl trivial ?_
   simp only[Tryz.ntmps234,List.size_toArray,List.length_cons,List.length_nil,Nat.reduceAdd,Nat.reduceSub,Array.replicate_succ,Array.replicate_zero,lL,lM,List.nil_append,List.cons_append]
   gi_wp2_with fail
   refine(callsIn_wide.2 HR.out).mono ?_
   rintro e W1 ⟨rfl,hb1⟩
   have HB1:=ae hb1
   clear hb1
   gi_wp2_with fail
   go_returns
   have hJ1:=HST.out _ _ _ _ _ HJ.out (Ext.az HB1.out) (fun m hm=> .inl hm) trivial
   obtain⟨hk',hxx⟩:=HK.out
   rw[<-VF hk' (by rw[hxx];exact HQ.out)] at hJ1
   exact .inl ⟨by simp,hJ1,o,acM,HO.out.2,HRN.out▸HS.out.below HB1.out⟩
  ·skip
   refine callsIn_of_wp Tryz.func234 rfl trivial ?_
   simp only[Tryz.ntmps234,List.size_toArray,List.length_cons,List.length_nil,Nat.reduceAdd,Nat.reduceSub,Array.replicate_succ,Array.replicate_zero,lL,lM,List.nil_append,List.cons_append]
   gi_wp2_with fail
   refine(callsIn_wide.2 HR.out).mono ?_
   rintro e W1 ⟨rfl,hb1⟩
   obtain⟨hc1,hf1⟩:=bV hb1
   have hs1:=hb1.size
   have HB1:=ae hb1
   have hJ1:=HST.out _ _ _ _ _ HJ.out (Ext.az hb1) (fun m hm=> .inl hm) trivial
   obtain⟨hk',hxx⟩:=HK.out
   obtain⟨hc,hx⟩:=Gi hk' (by rw[hxx];exact HQ.out)
   obtain⟨g1,t1,a1,b1,hy1,hR1⟩:=HY.out _ _ (.slice (some ⟨ob,0,none⟩) rn rn) W1 hc hJ1 (by
    rw[hx,hxx]
    exact⟨ob,by rw[acM],(HS.out.below HB1.out).cells,by simp⟩)
   have hcn:uS l.field [] (k+1)=uS l.field [] k+1:=P9 hk' (by rw[hxx];exact HQ.out)
   have HR1:=ae hR1
   have HCN:=ae hcn
   clear hR1 hJ1 hk' hxx hc hx hcn hb1
   gi_wp2_with fail
   refine HR1.out.mono ?_
   rintro e W' ⟨⟨hkeep,hsz⟩,⟨rfl,hJ⟩|⟨rfl,hJ⟩⟩
   ·have HJ':=ae hJ
    have HK':=ae hkeep
    clear hJ hkeep
    gi_wp2_with fail
    go_returns
    exact .inl ⟨by simp,by rw[HCN.out];exact HJ'.out,o,acM,HO.out.2,HRN.out▸(HS.out.below HB1.out).kept (fun m hm hml=>HK'.out m hm (by simp) hml)⟩
   ·have HJ':=ae hJ
    clear hJ hkeep
    gi_wp2_with fail
    go_returns
    exact .inr ⟨by simp,HJ'.out⟩
 |succ m ih=>
  intro i k pre W o him hpl hol hot hat hst hJ
  have hi:i<(fH l.field).length:=by omega
  have hcount:=jM.count hi
  have hw0:=hS.zV
  have hw1:=hS.xH
  have Vp:=hS.qP
  have hr0:=hS.zW
  have EF:(fH l.field)[i]=(-1,l.field.aO-1):=by simp[fH]
  obtain⟨z,hz,hz4⟩: ∃z:Nat,(z:Int)=l.field.aO+1/\z<=4:=⟨(l.field.aO+1).toNat,by omega,by omega⟩
  have hsz:(eQ (fH l.field)[i]).toNat=z:=by rw[EF];unfold eQ;simp only;omega
  rw[hsz] at hcount
  obtain⟨hbl,htl⟩:=hInv _ _ _ hJ
  obtain⟨Q4,cf1,Um⟩:=af hbl
  obtain⟨cc2,cf2,cl2⟩:=af hst.out
  have hne:(i:Int)≠(l.field.rows.toNat:Int):=by omega
  have hneb:((i:Int)==(l.field.rows.toNat:Int))=false:=by simpa using hne
  have YO:Hid (∀c:Nat,c<z->jM (fH l.field) (i+1) (k+c*(fJ ((fH l.field).drop (i+1))).length) (pre++[(c:Int)-1])):=ae (fun c hc=>by
   have:=hat.next hi c (by rw[hsz];exact hc)
   rw[EF] at this
   rw[show(c:Int)-1= -1+(c:Int) from by omega]
   exact this)
  have HI:=ae hInv
  have HST:=ae hstep
  have HS:=ae hst
  have HJ:=ae hJ
  have HIH:=ae ih
  have Ll:=ae (ag hol hot)
  have HCZ:=ae hcount
  have HZ:=ae hz
  have hi7:i<7:=by omega
  have hiR:i<l.field.rows.toNat:=by omega
  have hR7:l.field.rows.toNat<=7:=by omega
  clear hInv hstep hY hat hst hJ ih hcount hne hbl htl EF hsz hi hol hot hRl hz hS
  obtain⟨rn,hrn⟩: ∃rn,l.field.rows.toNat=rn:=⟨_,rfl⟩
  rw[hrn] at HS HIH Ll hiR hR7 him hneb cc2⊢
  clear hrn
  refine callsIn_of_wp Tryz.func234 rfl trivial ?_
  simp only[Tryz.ntmps234,List.size_toArray,List.length_cons,List.length_nil,Nat.reduceAdd,Nat.reduceSub,Array.replicate_succ,Array.replicate_zero,lL,lM,List.nil_append,List.cons_append]
  gi_wp2_with fail
  rw[<-HZ.out]
  gi_loopw [26] (fun u wr=> ∃c:Nat,c<=z/\u= .int .i64 c/\ ∃o':List Int,o'.length=rn/\o'.take i=pre/\Za wr rn bl bo jy bc ob y o'/\J [ob,jy,bo,bc] (some (uS l.field [] (k+c*(fJ ((fH l.field).drop (i+1))).length))) wr)
   (fun u _=>z-(intOf u).toNat)
  case atStart=>exact⟨0,bW _,rfl,o,Ll.out.1,Ll.out.2,HS.out,by simpa using HJ.out⟩
  case round=>
   obtain⟨c,hcz,rfl,o',ho1,ho2,hst,hJ⟩:=hrel
   by_cases hlt:c<z
   ·obtain⟨cd1,Qp,Qc⟩:=af hst.out
    obtain⟨cd3,Qo,Qb⟩:=af hst.ch
    obtain⟨yv,hcell⟩: ∃yv,wr.cell? ⟨ob,i,none⟩=some (iv yv):=⟨_,gJ hst.cells (show i<o'.length by omega)⟩
    have hab:=dP wr _ hcell
    have hfr:=bF hst.cells i
    have IU:=ae hst
    have U0:=ae hJ
    have HO:=ae (ag ho1 ho2)
    have xR:(c:Int)<z:=by omega
    clear hst hJ ho1 ho2 Q4 cf1 Um cc2 cf2 cl2
    have Hl:=IU.out.set hd1 hd2 hd3 i ((c:Int)-1)
    have hJS:J [ob,jy,bo,bc] (some (uS l.field [] (k+c*(fJ ((fH l.field).drop (i+1))).length))) (wr.setCell ⟨ob,i,none⟩ (iv ((c:Int)-1))):=
     HST.out _ _ _ _ _ U0.out ((mO wr ⟨ob,i,none⟩ _).more (fun x hx=>by simp at hx;subst hx;simp)) (fun m hm=> .inl hm) trivial
    have hcall:=HIH.out (i+1) _ (pre++[(c:Int)-1]) _ (o'.set i ((c:Int)-1)) (by omega) (by simp[hpl]) (by simp[HO.out.1]) (by
     rw[List.take_set]
     rw[rF,HO.out.2]
     have hio:i<o'.length:=by have:=HO.out.1;omega
     rw[dA hio]
     simp[qK,hpl]) (YO.out c hlt) Hl hJS
    rw[show((i+1:Nat):Int)=(i:Int)+1 from by omega] at hcall
    have CS:=ae hcall
    clear hcall Hl hJS
    gi_wp2_with fail
    refine CS.out.mono ?_
    rintro e W2 (⟨rfl,hJ2,o2,ho1,ho2,hst2⟩|⟨rfl,hJ2⟩)
    ·have HJ2:=ae hJ2
     have UN:=ae hst2
     have Bd:=ae (ag ho1 ho2)
     clear hJ2 hst2 ho1 ho2 cd1 Qp Qc cd3 Qo Qb hcell hab hfr
     gi_wp2_with fail
     go_roundw
     case rel=>
      refine⟨c+1,by omega,by go_num,o2,Bd.out.1,?_,UN.out,?_⟩
      ·have:=congrArg (List.take i) Bd.out.2
       rw[List.take_take,Nat.min_eq_left (by omega)] at this
       rw[this,uG (by omega),kK (by omega)]
      ·rw[Nat.add_mul,Nat.one_mul, <-Nat.add_assoc];exact HJ2.out
     case measure=>simp[intOf];omega
    ·have HJ2:=ae hJ2
     clear hJ2 cd1 Qp Qc cd3 Qo Qb hcell hab hfr
     gi_wp2_with fail
     go_returns
     exact .inr ⟨by simp,HJ2.out⟩
   ·have TL:c=z:=by omega
    subst TL
    have U0:=ae hJ
    have IU:=ae hst
    have HO:=ae (ag ho1 ho2)
    clear hJ hst ho1 ho2 Q4 cf1 Um cc2 cf2 cl2
    gi_wp2_with fail
    go_returns
    refine .inl ⟨by simp,?_,o',HO.out.1,HO.out.2,IU.out⟩
    rw[HCZ.out];exact U0.out
theorem Zy (l:aS) (hf:kz l.field=0) (tv nv:Value) (bl:Nat):
 Yw Tryz.prog 233 #[.pointer (some ⟨bl,0,none⟩)] (df l.field []) aiY [] (fun _=>True) (aed bl l tv nv):=by
 intro y J W hInv hstep hY h0
 obtain⟨hbl,htl⟩:=hInv _ _ _ h0
 have hch:=fun bo jy bc ob hd1 hd2 hd3=>Ot l hf tv nv bl bo jy bc ob y hd1 hd2 hd3 J hInv hstep hY
 have hS:=iI hf
 have Vp:=hS.qP
 have hr0:=hS.zW
 obtain⟨Q4,cf1,Um⟩:=af hbl
 obtain⟨rn,hrn⟩: ∃rn:Nat,l.field.rows=rn:=⟨l.field.rows.toNat,by omega⟩
 have hrt:l.field.rows.toNat=rn:=by omega
 have HCH:=ae hch
 have HST:=ae hstep
 have HJ:=ae h0
 have HRN:=ae (ag hrn hrt)
 have hmk:=wE rn (by omega)
 have hn3: ∀(A B C:Obj) (v:Value) (t:TypeId),((((W.alloc A).alloc B).alloc C).alloc (.cells #[v] t)).cell? ⟨W.heap.size+1+1+1,0,none⟩=some v:=fun A B C v t=>aB (mg W A B C _)
 have hf3: ∀(A B C:Obj) (v:Value) (t:TypeId),((((W.alloc A).alloc B).alloc C).alloc (.cells #[v] t)).frozen? ⟨W.heap.size+1+1+1,0,none⟩=false:=fun A B C v t=>bF (mg W A B C _) 0
 have hl4:kW l tv nv= #[iv (rn:Int),iv l.field.aO,iv l.field.left.1,iv l.field.left.2,tv,iv l.rate,iv l.box.1,iv l.box.2,nv]:=by unfold kW;rw[hrn]
 rw[hl4] at Q4
 clear hInv hstep hY hch h0 hS hbl htl hrn hrt hl4
 go_enter Tryz.func233,Tryz.ntmps233
 go_wp2_with fail
 refine(callsIn_wide.1 (HCH.o (W.heap.size+1+1) W.heap.size (W.heap.size+1+1+1) (W.heap.size+1) (by omega) (by omega) (by omega) l.field.rows.toNat 0 0 [] _ (List.replicate rn 0) (by omega) rfl (by simp[HRN.o.2]) (by simp) (jM.zero _) ⟨?_,?_,?_,?_⟩
  (HST.o _ _ _ _ _ HJ.o (Ext.az zl) (fun m hm=> .inr (by simp at hm;(first|omega|(simp;omega)))) trivial))).mono ?_
 ·exact((aW _ _ _ (by simp;omega)).trans ((aW _ _ _ (by simp;omega)).trans ((aW _ _ _ (by simp)).trans (ay _ _))))
 ·rw[HRN.o.2];exact((aW _ _ _ (by simp)).trans (iD _ _ _ _))
 ·exact mg _ _ _ _ _
 ·exact((aW _ _ _ (by simp)).trans ((aW _ _ _ (by simp)).trans (ed _ _ _)))
 ·rintro e W2 (⟨rfl,hJ2,_⟩|⟨rfl,hJ2⟩)
  ·have HJ2:=ae hJ2
   clear hJ2 hn3 hf3 hmk
   go_wp2_with fail
   go_end0
   refine⟨⟨_,rfl⟩,[W.heap.size+1,W.heap.size,W.heap.size+1+1,W.heap.size+1+1+1],.inl ?_⟩
   have:=HJ2.o
   rw[<-Qa]
   simpa [qG] using this
  ·have HJ2:=ae hJ2
   clear hJ2 hn3 hf3 hmk
   go_wp2_with fail
   go_end0
   exact⟨⟨_,rfl⟩,_,.inr HJ2.o⟩
theorem Zz (l:aS) (tv nv:Value) (w:World):
 Calls Tryz.prog 157 #[lv l tv nv] w (fun e w'=>e= .returned (.func (.func 233) #[] #[.pointer (some ⟨w.heap.size,0,none⟩)])/\w'=w.alloc (.cells (kW l tv nv) 33)):=by
 go_enter Tryz.func157,Tryz.ntmps157
 go_wp2
 go_returns
 exact⟨by simp,rfl⟩
end Go.Proofs.YthbpmepjmebolaaGreatDoor
namespace Go.Proofs.YthbpmepjmebolaaGreatDoor
open Go.RowKit Go.RG Go.SL Go.Shelf jC Go.TB
attribute [local go_sem] Oper.semAt_some
theorem adJ:iR Tryz.prog 243 247 (.agg #[iv 0,iv 0,iv 0]) 3 24:=⟨Tryz.underlying243,by kernel_rfl,rfl,by omega⟩
def qE (l:aS) (k:Nat):List (List Int):=((df l.field []).take k).foldl (fun acc t=>lT acc (lW l.rate t)) []
def gy (l:aS):List (List Int):=qE l (df l.field []).length
theorem PN {l:aS} {k:Nat} {x:List Int} (hx:(df l.field [])[k]? =some x):qE l (k+1)=lT (qE l k) (lW l.rate x):=by
 obtain⟨hk,rfl⟩:=jq.1 hx
 unfold qE
 rw[iy hk,List.foldl_append]
 rfl
theorem BV (l:aS) (k:Nat): ∀y∈qE l k,y.length=3:=fun y hy=>by
 unfold qE at hy
 rw[BF] at hy
 rcases hy with h|⟨t,_,rfl⟩
 ·cases h
 ·exact kZ _ _
theorem AV (l:aS): ∀k,(qE l k).length<=k:=by
 intro k
 unfold qE
 have: ∀(ts:List (List Int)) (acc:List (List Int)),(ts.foldl (fun acc t=>lT acc (lW l.rate t)) acc).length<=acc.length+ts.length:=by
  intro ts
  induction ts with
  |nil=>intro acc;simp
  |cons t ts ih=>
   intro acc
   have h1:=ih (lT acc (lW l.rate t))
   have h2:=JR acc (lW l.rate t)
   simp only[List.foldl_cons,List.length_cons]
   omega
 have h:=this ((df l.field []).take k) []
 simp only[List.length_nil,Nat.zero_add,gX] at h
 omega
theorem Kw {l:aS} {d:List Int}:d∈gy l↔ ∃t∈df l.field [],d=lW l.rate t:=by
 unfold gy qE
 rw[List.take_length,BF]
 simp
abbrev uY (l:aS) (tv nv v:Value) (mb:Nat):Array Value:= #[iv l.field.rows,iv l.field.aO,iv l.field.left.1,iv l.field.left.2,tv,iv l.rate,iv l.box.1,iv l.box.2,nv,v,.map (some mb)]
structure NC (B:Nat) (l:aS) (tv nv:Value) (ls:List (List Int)) (Ms:List Nat) (W:World):Prop where
 b0:W.heap[B]? =some (.cells (kW l tv nv) 33 (0,0))
 tab:W.heap[B+1]? =some (.map #[] 0)
 work: ∃v,W.heap[B+2]? =some (.cells (uY l tv nv v (B+1)) 245 (0,0))/\W.ownsRow (B+7) 247 3 v ls.length (ls.flatMap ah)/\ ∀g,v.ownBlock=some g->g∉Ms/\g<W.heap.size
 ptr:W.heap[B+3]? =some (.cells #[.pointer (some ⟨B+2,0,none⟩)] 114 (0,0))
 b4:W.heap[B+4]? =some (.cells (kW l tv nv) 33 (0,0))
theorem NC.kept {B:Nat} {l:aS} {tv nv:Value} {ls:List (List Int)} {Ms Ms':List Nat} {W W':World} (h:NC B l tv nv ls Ms W) (hs:W.heap.size<=W'.heap.size) (hk: ∀b,B<=b->b<B+5->W'.heap[b]? =W.heap[b]?)
 (ho: ∀g,B+7<=g->g<W.heap.size->g∉Ms->W'.heap[g]? =W.heap[g]?) (hM: ∀m∈Ms',m∈Ms∨(W.heap.size<=m/\m<W'.heap.size)):NC B l tv nv ls Ms' W':=by
 obtain⟨v,h1,h2,h3⟩:=h.work
 refine⟨(hk _ (by omega) (by omega)).trans h.b0,(hk _ (by omega) (by omega)).trans h.tab,⟨v,(hk _ (by omega) (by omega)).trans h1,dQ h2 fun g hg=>ho g (bH h2 g hg).1 (bH h2 g hg).2 (h3 g hg).1,fun g hg=>⟨fun hm=>?_,by have:=(h3 g hg).2;omega⟩⟩,
  (hk _ (by omega) (by omega)).trans h.ptr,(hk _ (by omega) (by omega)).trans h.b4⟩
 rcases hM g hm with h4|h4
 ·exact(h3 g hg).1 h4
 ·have:=(h3 g hg).2;omega
structure Eb (W:World) (wb mb:Nat) (l:aS) (tv nv v:Value) (ls:List (List Int)):Prop where
 cells:W.heap[wb]? =some (.cells (uY l tv nv v mb) 245 (0,0))
 uK:dJ W tv l.field.au
 notes:bD W nv l.notes
 truth:aK 3 W v ls.length (ls.flatMap ah)
def Yq (l:aS) (tv nv:Value) (w:World) (e:Ending) (W:World):Prop:=
 ∃(wb mb:Nat) (v:Value),e= .returned (.pointer (some ⟨wb,0,none⟩))/\w.heap.size<=wb/\w.heap.size<=mb/\W.heap[mb]? =some (.map #[] 0)/\Eb W wb mb l tv nv v (gy l)/\Below w.heap.size w W
theorem XC (l:aS) (tv nv:Value) (hf:kz l.field=0) (h0:0<=l.rate) (h1:l.rate<=50) (w:World) (ht:dJ w tv l.field.au) (hn:bD w nv l.notes):
 Calls Tryz.prog 92 #[lv l tv nv] w (Yq l tv nv w):=by
 obtain⟨ot,ct,rfl⟩:=ht.open
 obtain⟨on,cn,rfl⟩:=hn.open
 have hS:=iI hf
 have hr0:=hS.zW
 have Vp:=hS.qP
 have hw3:=hS.xH
 have hmm:= @run_makeMap Tryz.prog
 have HF:=ae hf
 have HS:=ae hS
 have HT':Hid (∀W,Below w.heap.size w W->dJ W (.slice ot l.field.au.length ct) l.field.au):=ae (fun W hb=>ht.below hb (ai _))
 have HN':Hid (∀W,Below w.heap.size w W->bD W (.slice on l.notes.length cn) l.notes):=ae (fun W hb=>hn.below hb (ai _))
 clear ht hn hf hS
 obtain⟨tv,KH⟩: ∃tv,Value.slice ot l.field.au.length ct=tv:=⟨_,rfl⟩
 obtain⟨nv,hnv⟩: ∃nv,Value.slice on l.notes.length cn=nv:=⟨_,rfl⟩
 rw[KH] at HT'⊢
 rw[hnv] at HN'⊢
 refine(callsIn_wide (n:=0)).1 ?_
 refine callsIn_of_wp_marks Tryz.func92 rfl trivial ?_
 simp only[Tryz.ntmps92,List.size_toArray,List.length_cons,List.length_nil,Nat.reduceAdd,Nat.reduceSub,Array.replicate_succ,Array.replicate_zero,lL,lM,List.nil_append,List.cons_append]
 gi_wp2_with fail
 refine(callsIn_wide.2 (Zz l tv nv _)).mono ?_
 rintro e w1 ⟨rfl,rfl⟩
 gi_wp2_with fail
 obtain⟨B,qx⟩: ∃B,w.heap.size=B:=⟨_,rfl⟩
 rw[qx]
 obtain⟨w4,hw4⟩: ∃w4,(((((w.alloc (.cells (kW l tv nv) 33)).alloc (.map #[] 0)).alloc (.cells #[iv l.field.rows,iv l.field.aO,iv l.field.left.1,iv l.field.left.2,tv,iv l.rate,iv l.box.1,iv l.box.2,nv,.slice none 0 0,.map (some (B+1))] 245)).alloc (.cells #[.pointer (some ⟨B+1+1,0,none⟩)] 114)).alloc (.cells (kW l tv nv) 33))=w4:=⟨_,rfl⟩
 have aeQ:w4.heap.size=B+5:=by rw[<-hw4];simp;omega
 have HB4:Hid (Below w.heap.size w w4):=ae (by rw[<-hw4];exact zl)
 have HA4:Hid (NC B l tv nv [] [] w4):=ae (by
  rw[<-hw4]
  refine⟨?_,?_,⟨.slice none 0 0,?_,⟨rfl,.inl ⟨rfl,rfl⟩⟩,fun g hg=>by cases hg⟩,?_,?_⟩
  ·rw[<-qx];exact(aW _ _ _ (by simp;omega)).trans ((aW _ _ _ (by simp;omega)).trans ((aW _ _ _ (by simp;omega)).trans ((aW _ _ _ (by simp)).trans (ay _ _))))
  ·rw[<-qx];exact(aW _ _ _ (by simp)).trans ((aW _ _ _ (by simp)).trans ((aW _ _ _ (by simp)).trans (ed _ _ _)))
  ·rw[<-qx];exact(aW _ _ _ (by simp)).trans ((aW _ _ _ (by simp)).trans (iD _ _ _ _))
  ·rw[<-qx];exact(aW _ _ _ (by simp)).trans (mg _ _ _ _ _)
  ·have:=ay ((((w.alloc (.cells (kW l tv nv) 33)).alloc (.map #[] 0)).alloc (.cells #[iv l.field.rows,iv l.field.aO,iv l.field.left.1,iv l.field.left.2,tv,iv l.rate,iv l.box.1,iv l.box.2,nv,.slice none 0 0,.map (some (B+1))] 245)).alloc (.cells #[.pointer (some ⟨B+1+1,0,none⟩)] 114)) (.cells (kW l tv nv) 33)
   simp only[bI,qx] at this
   exact this)
 rw[hw4]
 clear hw4 hmm
 have KL: ∀b,b∈[B,B+1,B+2,B+3,B+4,B+5,B+6]↔(B<=b/\b<B+7):=fun b=>by simp;omega
 obtain⟨Os,PD⟩: ∃Os,[B,B+1,B+2,B+3,B+4,B+5,B+6]=Os:=⟨_,rfl⟩
 rw[PD] at KL
 clear PD
 have hcnt:=lZ HS.o []
 refine mX (Zy l HF.o tv nv (B+4)) rfl (enters_of Tryz.func233 (by kernel_rfl) rfl) rfl (by simp)
  (fun Ms k W=>Lr w Os Ms W/\NC B l tv nv (qE l k) Ms W)
  (fun _ _ _=>False)
  ?hInv ?um ?hI ?hIx ?Q3 ?yJ ?h0
  (fun a Ms k W1 a₁ W=> ∃(x:List Int) (ob:Nat),(df l.field [])[k]? =some x/\a₁={tmps:=(a.tmps.setIfInBounds 12 (.slice (some ⟨ob,0,none⟩) x.length x.length)).setIfInBounds 4 (.slice (some ⟨ob,0,none⟩) x.length x.length),defers:=[]}/\
    (Lr w Os Ms W/\NC B l tv nv (qE l k) Ms W)/\(ob∈Ms/\W.heap[ob]? =some (.cells (ah x).toArray 3 (0,0)))/\
    (∀m∈Ms,m∉([]:List Nat)->m<W1.heap.size->W.heap[m]? =W1.heap[m]?)/\W1.heap.size<=W.heap.size)
  ?TQ ?hassign ?hbody ?hdone ?hstop
 case hInv=>
  rintro Ms k W ⟨hF,hP⟩
  exact⟨hP.b4,HT'.o W hF.ext⟩
 case um=>rintro cd Ms W h;exact h.elim
 case hI=>
  rintro Ms Ms' k Wa Wb ⟨hF,hP⟩ hE hMs _
  exact⟨(hF.ja hE hMs).1,hP.kept hE.size (fun b h1 h2=>(hF.ja hE hMs).2 b ((KL b).2 (by omega))) (fun g h1 h2 h3=>hE.block g h2 h3) hMs⟩
 case hIx=>rintro cd Ms Ms' Wa Wb h;exact h.elim
 case Q3=>
  rintro Ms k W r ob ⟨hF,hP⟩ hr
  exact⟨hF.put ob (by omega),hP.kept (by simp) (fun b h1 h2=>World.putObj_heap_other (by omega)) (fun g h1 h2 h3=>World.putObj_heap_other (by omega)) (fun m hm=> .inl hm)⟩
 case yJ=>rintro cd Ms W r ob h;exact h.elim
 case h0=>
  intro o1 o2
  refine⟨⟨ak (ak HB4.o _) _,by simp,by simp,fun b hb=>⟨by simp,by have:=(KL b).1 hb;simp;omega⟩⟩,?_⟩
  exact HA4.o.kept (by simp;omega) (fun b h1 h2=>(aW _ _ _ (by simp;omega)).trans (aW _ _ _ (by omega))) (fun g h1 h2 h3=>by omega) (fun m hm=> .inl hm)
 case TQ=>
  rintro Ms k W1 a₁ W obj ⟨x,ob,hx,ha,⟨hF,hP⟩,⟨hob,hcb⟩,hk,hs⟩
  have hap:=(hF.apart (B+6) ((KL _).2 (by omega))).1
  refine⟨x,ob,hx,ha,⟨hF.put obj (by omega),hP.kept (by simp) (fun b h1 h2=>World.putObj_heap_other (by omega)) (fun g h1 h2 h3=>World.putObj_heap_other (by omega)) (fun m hm=> .inl hm)⟩,
   ⟨hob,(World.putObj_heap_other (fun e=>hap (by rw[show B+6=ob by omega];exact hob))).trans hcb⟩,
   fun m hm h0 hml=>(World.putObj_heap_other (fun e=>hap (by rw[show B+6=m by omega];exact hm))).trans (hk m hm h0 hml),by simpa using hs⟩
 case hassign=>
  rintro Ms k v W hk ⟨hF,hP⟩ ⟨ob,rfl,hcb,hob⟩ hlt
  have hxk:(df l.field [])[k]? =some (df l.field [])[k]:=dA hk
  generalize (df l.field [])[k]=x at*
  gi_wp2
  exact⟨⟨x,ob,hxk,rfl,⟨hF,hP⟩,⟨hob,hcb⟩,fun _ _ _ _=>trivial,ai _⟩,trivial,trivial⟩
 case hbody=>
  rintro Ms k W1 a₁ W busy hk ⟨x,ob,hx,rfl,⟨hF,hP⟩,⟨hob,hcb⟩,hkeep,hsz⟩ hrec hD
  simp only[uD,List.set_cons_succ,List.set_cons_zero]
  have hxl:=oQ (mG hx)
  have hxm:=(Ef (mG hx)).1
  have vU:aP W (.slice (some ⟨ob,0,none⟩) x.length x.length) x:=aK.dw (cs:=(ah x).toArray) 1 x.length hcb (by simp[ah]) (by simp only[maxLen];omega)
  have Vt:=aa3 l tv nv _ x W vU h0 h1 (by omega) (fun n hn=>by
   obtain⟨i,hi,rfl⟩:=mF hn
   have:=(GZ.1 hxm).2 i (by omega)
   rw[show x.getD i 0=x[i] from by simp[List.getD,hi]] at this
   omega)
  have hsu:=PN (l:=l) hx
  have hdl:=kZ l.rate x
  obtain⟨ys,Pn⟩: ∃ys,lW l.rate x=ys:=⟨_,rfl⟩
  rw[Pn] at Vt hsu hdl
  obtain⟨y0,y1,y2,hys⟩:=nV hdl
  have aaH:Calls Tryz.prog 158 #[lv l tv nv,.slice (some ⟨ob,0,none⟩) x.length x.length] W (fun e w'=>e= .returned (.agg #[iv y0,iv y1,iv y2])/\Below W.heap.size W w'/\W.heap.size<w'.heap.size):=by rw[hys] at Vt;exact Vt
  obtain⟨c0,f0,l0⟩:=af hP.b0
  have ae3:k<=2500:=by omega
  have hlk:=AV l k
  have h3s:=BV l k
  have Lp:=ae hF
  have HP:=ae hP
  have HDU:=ae aaH
  have xK:=ae hsu
  have HK:=ae (ag hkeep (ag hrec hD))
  have CP:=ae (ag hys hdl)
  have H3:=ae h3s
  clear hF hP Vt aaH hsu hdl hys Pn hkeep hrec hD hx hxm hcb vU hxl h3s
  generalize qE l (k+1)=ls' at*
  generalize qE l k=ls at*
  gi_wp2_with fail
  refine(CallsIn.inRound _ (callsIn_wide.2 HDU.o)).mono ?_
  rintro e w6 ⟨rfl,hb,hgrow⟩
  obtain⟨W7,FI⟩: ∃W7,w6.alloc (.cells #[iv y0,iv y1,iv y2] 247)=W7:=⟨_,rfl⟩
  have TR:Below W.heap.size W W7:=by rw[<-FI];exact ak hb _
  have afb:W7.heap[w6.heap.size]? =some (.cells #[iv y0,iv y1,iv y2] 247 (0,0)):=by rw[<-FI];exact ay _ _
  have ahd:W7.heap.size=w6.heap.size+1:=by rw[<-FI];simp
  have hap: ∀b∈Os,b∉Ms/\b<W.heap.size:=Lp.o.apart
  have hin: ∀b,B<=b->b<B+7->b∈Os:=fun b h1 h2=>(KL b).2 (by omega)
  have hF7:=(Lp.o.ja (Ext.az TR) (fun m hm=> .inl hm)).1
  have TP:NC B l tv nv ls Ms W7:=HP.o.kept TR.size (fun b h1 h2=>TR.block b (hap b (hin b h1 (by omega))).2) (fun g h1 h2 h3=>TR.block g h2) (fun m hm=> .inl hm)
  have adS:W7.heap[w4.heap.size+1]? =some (.loop busy):=(TR.block _ (aV.1 HK.o.2.1).1).trans HK.o.2.1
  have hD7:W7.heap[w4.heap.size]? =some (.deferred (some [])):=(TR.block _ (aV.1 HK.o.2.2).1).trans HK.o.2.2
  have ahF: ∀m∈Ms,m∉([]:List Nat)->m<W1.heap.size->W7.heap[m]? =W1.heap[m]? :=fun m hm h0 hml=>(TR.block m (by omega)).trans (HK.o.1 m hm h0 hml)
  obtain⟨s0,hs0⟩: ∃s0,W.heap.size=s0:=⟨_,rfl⟩
  have HS0:Hid (B+7<=s0/\s0∉Ms/\s0<w6.heap.size):=ae ⟨by have:=(hap (B+6) (hin _ (by omega) (by omega))).2;omega,fun hm=>by have:=Lp.o.bnd s0 hm;omega,by omega⟩
  obtain⟨v,aeO,ag8,aag⟩:=HP.o.work
  have hv1:=(TR.block _ (aV.1 aeO).1).trans aeO
  have hv2:=dQ ag8 fun g hg=>TR.block g (aag g hg).2
  have hv3: ∀g,v.ownBlock=some g->g∉Ms/\g<W7.heap.size:=fun g hg=>⟨(aag g hg).1,by have:=(aag g hg).2;have:=TR.size;omega⟩
  have HVO:Hid (∀g,v.ownBlock=some g->g<s0):=ae (fun g hg=>by have:=(aag g hg).2;omega)
  clear aeO ag8 aag
  obtain⟨vo,vc,rfl⟩:=aT hv2
  have hs1:W1.heap.size<=W7.heap.size:=by have:=TR.size;omega
  have yZ:=ae hF7
  have VS:=ae TP
  have HV:=ae (ag hv1 (ag hv2 hv3))
  have wR:=ae (ag ahF (ag adS hD7))
  have HBT:=ae afb
  have apo:s0<w6.heap.size:=by omega
  have hap': ∀b∈Os,b∉Ms/\b<W7.heap.size:=fun b hb=>⟨(hap b hb).1,by have:=(hap b hb).2;omega⟩
  clear hap
  have hap:=hap'
  clear hap'
  obtain⟨c1,f1,q1⟩:=af (show W7.heap[B+1+1+1]? =some (.cells #[.pointer (some ⟨B+1+1,0,none⟩)] 114 (0,0)) from TP.ptr)
  obtain⟨c2,f2,q2⟩:=af (show W7.heap[B+1+1]? =some (.cells (uY l tv nv (.slice vo ls.length vc) (B+1)) 245 (0,0)) from hv1)
  obtain⟨c3,f3,q3⟩:=af afb
  clear hb hgrow c0 f0 l0 hF7 TP hv1 hv2 hv3 ahF adS hD7 afb Lp HP HK TR hs0
  gi_wp2_with fail
  (try rw[FI])
  clear FI
  have aqV:=ae ahd
  clear ahd
  rcases(List.eq_nil_or_concat ls).imp id (fun⟨A,z,e⟩=>(⟨A,z,e.trans (List.concat_eq_append)⟩: ∃A z,ls=A++[z])) with rfl|⟨A,z,rfl⟩
  ·simp only[List.length_nil] at c2 HV HVO
   have YQ:Hid (lT [] ys=[]++[ys]):=ae (by simp[lT])
   refine dW 22 [] none [] (by kernel_rfl) (by kernel_rfl) (by kernel_rfl) ?_
   simp only[zt]
   repeat ((first|refine zn ?_|refine zk ?_);simp only[zp])
   intro W hE hF
   obtain⟨hc,hf⟩:=bV hE.below
   have hzE:=hE.size
   (try simp only[bI] at hzE)
   have lV:Ext [] W7 W:=hE
   have I8:NC B l tv nv ([]) Ms W:=VS.o.kept lV.size (fun b h1 h2=>lV.block b (by have:=(hap b (hin b h1 (by omega))).2;omega) (by simp)) (fun g h1 h2 h3=>lV.block g h2 (by simp)) (fun m hm=> .inl hm)
   have Hw:=(lV.block _ (by omega) (by simp)).trans HBT.o
   obtain⟨v8,ui,ug,Au⟩:=I8.work
   have Hg:v8= .slice (vo) (0) vc:=by
    have h4:=(lV.block _ q2 (by simp)).trans HV.o.1
    rw[ui] at h4
    simp only[Option.some.injEq,Obj.cells.injEq,and_true,Array.mk.injEq,List.cons.injEq,true_and] at h4
    exact h4
   rw[Hg] at ui ug Au
   clear Hg
   (try simp only[List.length_nil] at ug)
   (try simp only[dE,List.length_cons,List.length_nil,Nat.zero_add] at ug)
   obtain⟨p1,p2,p3⟩:=af (show W.heap[B+1+1+1]? =some (.cells #[.pointer (some ⟨B+1+1,0,none⟩)] 114 (0,0)) from I8.ptr)
   obtain⟨p4,p5,p6⟩:=af (show W.heap[B+1+1]? =some (.cells (uY l tv nv (.slice (vo) (0) vc) (B+1)) 245 (0,0)) from ui)
   obtain⟨p7,p8,p9⟩:=af Hw
   have aeR:=lV.size
   have Lj:=ae I8
   have I9:=ae (ag ui (ag ug Au))
   have iZ:=ae lV
   clear hE hF hc hf lV I8 ui ug Au Hw c1 f1 q1 c2 f2 q2 c3 f3 q3 hzE
   obtain⟨gx,hgx,acV,hgx2,BN,acU⟩: ∃gx,(∀g,(Value.slice (vo) (0) vc).ownBlock=some g->g=gx)/\B+7<=gx/\gx<W.heap.size/\gx∉Ms/\gx≠w6.heap.size:=by
    cases Az:(Value.slice (vo) (0) vc).ownBlock with
    |none=>exact⟨s0,(fun g hg=>by cases hg),HS0.o.1,by omega,HS0.o.2.1,by omega⟩
    |some g=>
     have h1:=bH I9.o.2.1 g Az
     have h2:=I9.o.2.2 g Az
     exact⟨g,(fun g' hg=>by cases hg;rfl),h1.1,h1.2,h2.1,fun e=>by have:=HVO.o g Az;omega⟩
   have HG:=ae hgx
   clear hgx
   have z1:gx≠B+1+1:=by omega
   have z2:gx≠B+1+1+1:=by omega
   have z1':B+1+1≠gx:=by omega
   have z2':B+1+1+1≠gx:=by omega
   have z3':w6.heap.size≠gx:=by omega
   gi_wp2_with fail
   refine dW 8 [gx] (some 7) [(6,Spec.slice W.heap.size #[iv y0,iv y1,iv y2] 247 1),(7,⟨fun _ v=> ∃o c,v= .slice o (0+1) c,fun _ v Wx=>Wx.ownsRow (B+7) 247 3 v (0+1) ((([])++[ys]).flatMap ah)/\(∀g,v.ownBlock=some g->g=gx∨W.heap.size<=g)⟩)] (by kernel_rfl) (by kernel_rfl) (by kernel_rfl) ?_
   simp only[zt]
   repeat ((first|refine zn ?_|refine zk ?_);simp only[zp])
   refine cu W.heap.size _ _ 1 (by rfl) (ai _) (by rfl) (by simpa using hgx2) (by simp) (fun W hW=>by go_simp;try rfl) (fun b6=>?_)
   simp only[zp]
   refine bJ _ (by rfl) (by rfl) (by exact⟨.slice none (0+1) 0,none,0,rfl⟩) (fun Wa hE hF=>?_) (fun v Wa Wb ho hE=>?_) (fun v hv=>?_)
   ·have hE':Ext [] W Wa:=hE
    obtain⟨b',hb',hge,hcc⟩:=hF _ (bg _) (by kernel_rfl)
    cases hb'
    have hown6:=aA (Ms:=[]) I9.o.2.1 hE' (by simp)
    have hsrc:aK 3 Wa (.slice (some ⟨b6,0,none⟩) 1 1) 1 (ah ys):=by
     rw[CP.o.1]
     exact aK.dw 3 1 hcc rfl (by decide)
    refine Does.mono (dU adJ (by rfl) (by rfl) hown6 (by rfl) hsrc (jD _) (by omega) (by omega) (by have:=hE'.size;omega)) ?_
    rintro v' Wc ⟨ho,hgr,hcase⟩
    refine⟨aT ho,⟨?_,fun g hg=>?_⟩,⟨hgr.os,hgr.tape,hgr.output,hgr.size,fun b hb hn=>hgr.block b hb (fun e=>hn (by rw[HG.o b e.symm];simp))⟩⟩
    ·rw[vO]
     simpa using ho
    ·rcases hcase with h1|h1
     ·exact .inl (HG.o g (by rw[<-h1,hg]))
     ·rw[hg] at h1;injection h1 with h1;exact .inr (by have:=hE'.size;omega)
   ·exact⟨aA (Ms:=[]) ho.1 hE (by simp),ho.2⟩
   obtain⟨o7,c7,rfl⟩:=hv
   simp only[zp]
   intro W9 hE hF
   have hE':Ext [gx] W W9:=hE
   obtain⟨Vq,Jo⟩:=hF _ (bg _)
   have Ar:W9.heap[B+1+1]? =some (.cells (uY l tv nv (.slice (vo) (0) vc) (B+1)) 245 (0,0)):=(hE'.block _ p6 (by simpa using z1')).trans I9.o.1
   obtain⟨c9,f9,l9⟩:=af Ar
   have CQ:=ae hE'
   have xG:=ae (ag Vq (ag Jo Ar))
   clear hE hF hE' Vq Jo p1 p2 p4 p5 p7 p8 Ar
   gi_wp2_with fail
   obtain⟨v',hv'⟩: ∃v',Value.slice o7 (0+1) c7=v':=⟨_,rfl⟩
   rw[hv'] at xG⊢
   have xh:(W9.setCell ⟨B+1+1,9,none⟩ v').heap.size=W9.heap.size:=by simp[World.setCell]
   have hs9:=CQ.o.size
   have hks: ∀b,b<W.heap.size->b≠gx->b≠B+1+1->(W9.setCell ⟨B+1+1,9,none⟩ v').heap[b]? =W.heap[b]? :=fun b hb h1 h2=>
    (dL _ _ _ _ h2).trans (CQ.o.block b hb (by simpa using h1))
   have EN: ∀b,b<W7.heap.size->b≠gx->b≠B+1+1->(W9.setCell ⟨B+1+1,9,none⟩ v').heap[b]? =W7.heap[b]? :=fun b hb h1 h2=>(hks b (by omega) h1 h2).trans (iZ.o.block b hb (by simp))
   have hFB:Lr w Os Ms (W9.setCell ⟨B+1+1,9,none⟩ v'):=yZ.o.own (yZ.o.ext.trans ⟨CQ.o.os.trans iZ.o.os,CQ.o.tape.trans iZ.o.tape,CQ.o.output.trans iZ.o.output,by rw[xh];omega,fun b hb=>(dL _ _ _ _ (by show b≠B+1+1;omega)).trans ((CQ.o.block b (by have:=yZ.o.ext.size;omega) (by simp;omega)).trans (iZ.o.block b (by have:=yZ.o.ext.size;omega) (by simp)))⟩) (by rw[xh];omega)
   have hlen1:(([])++[ys]).length=0+1:=by simp
   refine⟨⟨?_,?_,fun m hm h0 hml=>?_,by rw[xh];omega⟩,hFB,?_⟩
   ·exact(EN _ (by have:=(hap _ (hin (w4.heap.size+1) (by omega) (by omega))).2;omega) (by omega) (by omega)).trans wR.o.2.1
   ·exact(EN _ (by have:=(hap _ (hin w4.heap.size (by omega) (by omega))).2;omega) (by omega) (by omega)).trans wR.o.2.2
   ·exact(EN m (yZ.o.bnd m hm) (fun e=>BN (e▸hm)) (fun e=>(hap (B+1+1) (hin _ (by omega) (by omega))).1 (e▸hm))).trans (wR.o.1 m hm h0 hml)
   rw[xK.o,YQ.o]
   refine⟨?_,?_,⟨v',aI xG.o.2.2 _,hlen1.symm▸dQ xG.o.1 fun g hg=>dL _ _ _ _ (by have:=(bH xG.o.1 g hg).1;show g≠B+1+1;omega),fun g hg=>⟨fun hm=>?_,by rw[xh];exact(bH xG.o.1 g hg).2⟩⟩,?_,?_⟩
   ·exact(hks _ (by have:=(hap _ (hin B (by omega) (by omega))).2;omega) (by omega) (by omega)).trans Lj.o.b0
   ·exact(hks _ (by have:=(hap _ (hin (B+1) (by omega) (by omega))).2;omega) (by omega) (by omega)).trans Lj.o.tab
   ·rcases xG.o.2.1 g hg with h1|h1
    ·exact BN (h1▸hm)
    ·have:=yZ.o.bnd g hm;omega
   ·exact(hks _ (by have:=(hap _ (hin (B+3) (by omega) (by omega))).2;omega) (by omega) (by omega)).trans Lj.o.ptr
   ·exact(hks _ (by have:=(hap _ (hin (B+4) (by omega) (by omega))).2;omega) (by omega) (by omega)).trans Lj.o.b4
  ·have hz3:=H3.o z (by simp)
   obtain⟨gb,gc,hvv,hgb,TK,Fz⟩:=Dk (A:=A) (z:=z) (by simpa using HV.o.2.1) (fun x hx=>H3.o x (by simp[hx])) hz3
   have hcap:vo=some ⟨gb,0,none⟩:=by simp at hvv;exact hvv.1
   subst hcap
   have hzl:(ah z).length=3:=by simp[ah,hz3]
   (try simp only[dE,List.length_cons,List.length_nil,Nat.zero_add] at c2)
   (try simp only[dE,List.length_cons,List.length_nil,Nat.zero_add] at HV)
   (try simp only[dE,List.length_cons,List.length_nil,Nat.zero_add] at HVO)
   (try simp only[dE,List.length_cons,List.length_nil,Nat.zero_add] at hlk)
   have hAI:((A.length:Int)+1==0)=false:=by simp;omega
   have hA0: ¬((A.length:Int)+1=0):=by omega
   have hA1:((A.length:Int)+1).toNat=A.length+1:=by omega
   have hAm:(A.length:Int)+1-1=A.length:=by omega
   have hy3:ys.length=3:=CP.o.2
   rcases hq:(z==ys) with _|_
   ·have YQ:Hid (lT (A++[z]) ys=(A++[z])++[ys]):=ae (by
     unfold lT
     rw[aj]
     simp only[List.getLast?_append,List.getLast?_singleton]
     intro e
     simp at e
     subst e;simp at hq)
    refine dW 22 [] none [] (by kernel_rfl) (by kernel_rfl) (by kernel_rfl) ?_
    simp only[zt]
    repeat ((first|refine zn ?_|refine zk ?_);simp only[zp])
    refine gq (by rfl) (.pointer (some ⟨gb,A.length*3,none⟩)) (by rfl) (fun W hW=>by go_simp;(try simp(disch:=omega) only[IntWalk.i64_in]);(try rw[aC (by omega)]);(try simp);(try (intro hx;exfalso;omega))) ?_
    simp only[zp]
    refine gq (by rfl) (.agg (ah z).toArray) (by rfl) (fun W hW=>jU 247 _ (by rfl) gb (A.length*3) (by rfl) (ah z) _ (fun j u hj=>(hW gb _ TK (by simp)).trans (Fz j u hj)) Tryz.underlying247 rfl (by rw[hzl];kernel_rfl)) ?_
    simp only[zp]
    refine gq (by rfl) (.agg #[iv y0,iv y1,iv y2]) (by rfl) (fun W hW=>by go_simp;try rfl) ?_
    simp only[zp]
    refine gq (by rfl) (.bool true) (by rfl) (fun W hW=>(ou 247 3 _ 3 _ _ (by rfl) Tryz.underlying247 Tryz.underlying3 (by intro w;go_simp) (by kernel_rfl) z [y0,y1,y2] (by rfl) (by rfl) hz3 (by rfl)).trans (by rw[CP.o.1] at hq;rw[hq];rfl)) ?_
    simp only[zp]
    repeat ((first|refine zn ?_|refine zk ?_);simp only[zp])
    intro W hE hF
    obtain⟨hc,hf⟩:=bV hE.below
    have hzE:=hE.size
    (try simp only[bI] at hzE)
    have lV:Ext [] W7 W:=hE
    have I8:NC B l tv nv (A++[z]) Ms W:=VS.o.kept lV.size (fun b h1 h2=>lV.block b (by have:=(hap b (hin b h1 (by omega))).2;omega) (by simp)) (fun g h1 h2 h3=>lV.block g h2 (by simp)) (fun m hm=> .inl hm)
    have Hw:=(lV.block _ (by omega) (by simp)).trans HBT.o
    obtain⟨v8,ui,ug,Au⟩:=I8.work
    have Hg:v8= .slice ((some ⟨gb,0,none⟩)) ((A.length+1)) vc:=by
     have h4:=(lV.block _ q2 (by simp)).trans HV.o.1
     rw[ui] at h4
     simp only[Option.some.injEq,Obj.cells.injEq,and_true,Array.mk.injEq,List.cons.injEq,true_and] at h4
     exact h4
    rw[Hg] at ui ug Au
    clear Hg
    (try simp only[List.length_nil] at ug)
    (try simp only[dE,List.length_cons,List.length_nil,Nat.zero_add] at ug)
    obtain⟨p1,p2,p3⟩:=af (show W.heap[B+1+1+1]? =some (.cells #[.pointer (some ⟨B+1+1,0,none⟩)] 114 (0,0)) from I8.ptr)
    obtain⟨p4,p5,p6⟩:=af (show W.heap[B+1+1]? =some (.cells (uY l tv nv (.slice ((some ⟨gb,0,none⟩)) ((A.length+1)) vc) (B+1)) 245 (0,0)) from ui)
    obtain⟨p7,p8,p9⟩:=af Hw
    have aeR:=lV.size
    have Lj:=ae I8
    have I9:=ae (ag ui (ag ug Au))
    have iZ:=ae lV
    clear hE hF hc hf lV I8 ui ug Au Hw c1 f1 q1 c2 f2 q2 c3 f3 q3 hzE
    obtain⟨gx,hgx,acV,hgx2,BN,acU⟩: ∃gx,(∀g,(Value.slice ((some ⟨gb,0,none⟩)) ((A.length+1)) vc).ownBlock=some g->g=gx)/\B+7<=gx/\gx<W.heap.size/\gx∉Ms/\gx≠w6.heap.size:=by
     cases Az:(Value.slice ((some ⟨gb,0,none⟩)) ((A.length+1)) vc).ownBlock with
     |none=>exact⟨s0,(fun g hg=>by cases hg),HS0.o.1,by omega,HS0.o.2.1,by omega⟩
     |some g=>
      have h1:=bH I9.o.2.1 g Az
      have h2:=I9.o.2.2 g Az
      exact⟨g,(fun g' hg=>by cases hg;rfl),h1.1,h1.2,h2.1,fun e=>by have:=HVO.o g Az;omega⟩
    have HG:=ae hgx
    clear hgx
    have z1:gx≠B+1+1:=by omega
    have z2:gx≠B+1+1+1:=by omega
    have z1':B+1+1≠gx:=by omega
    have z2':B+1+1+1≠gx:=by omega
    have z3':w6.heap.size≠gx:=by omega
    gi_wp2_with fail
    refine dW 8 [gx] (some 7) [(6,Spec.slice W.heap.size #[iv y0,iv y1,iv y2] 247 1),(7,⟨fun _ v=> ∃o c,v= .slice o ((A.length+1)+1) c,fun _ v Wx=>Wx.ownsRow (B+7) 247 3 v ((A.length+1)+1) (((A++[z])++[ys]).flatMap ah)/\(∀g,v.ownBlock=some g->g=gx∨W.heap.size<=g)⟩)] (by kernel_rfl) (by kernel_rfl) (by kernel_rfl) ?_
    simp only[zt]
    repeat ((first|refine zn ?_|refine zk ?_);simp only[zp])
    refine cu W.heap.size _ _ 1 (by rfl) (ai _) (by rfl) (by simpa using hgx2) (by simp) (fun W hW=>by go_simp;try rfl) (fun b6=>?_)
    simp only[zp]
    refine bJ _ (by rfl) (by rfl) (by exact⟨.slice none ((A.length+1)+1) 0,none,0,rfl⟩) (fun Wa hE hF=>?_) (fun v Wa Wb ho hE=>?_) (fun v hv=>?_)
    ·have hE':Ext [] W Wa:=hE
     obtain⟨b',hb',hge,hcc⟩:=hF _ (bg _) (by kernel_rfl)
     cases hb'
     have hown6:=aA (Ms:=[]) I9.o.2.1 hE' (by simp)
     have hsrc:aK 3 Wa (.slice (some ⟨b6,0,none⟩) 1 1) 1 (ah ys):=by
      rw[CP.o.1]
      exact aK.dw 3 1 hcc rfl (by decide)
     refine Does.mono (dU adJ (by rfl) (by rfl) hown6 (by rfl) hsrc (jD _) (by omega) (by omega) (by have:=hE'.size;omega)) ?_
     rintro v' Wc ⟨ho,hgr,hcase⟩
     refine⟨aT ho,⟨?_,fun g hg=>?_⟩,⟨hgr.os,hgr.tape,hgr.output,hgr.size,fun b hb hn=>hgr.block b hb (fun e=>hn (by rw[HG.o b e.symm];simp))⟩⟩
     ·rw[vO]
      simpa using ho
     ·rcases hcase with h1|h1
      ·exact .inl (HG.o g (by rw[<-h1,hg]))
      ·rw[hg] at h1;injection h1 with h1;exact .inr (by have:=hE'.size;omega)
    ·exact⟨aA (Ms:=[]) ho.1 hE (by simp),ho.2⟩
    obtain⟨o7,c7,rfl⟩:=hv
    simp only[zp]
    intro W9 hE hF
    have hE':Ext [gx] W W9:=hE
    obtain⟨Vq,Jo⟩:=hF _ (bg _)
    have Ar:W9.heap[B+1+1]? =some (.cells (uY l tv nv (.slice ((some ⟨gb,0,none⟩)) ((A.length+1)) vc) (B+1)) 245 (0,0)):=(hE'.block _ p6 (by simpa using z1')).trans I9.o.1
    obtain⟨c9,f9,l9⟩:=af Ar
    have CQ:=ae hE'
    have xG:=ae (ag Vq (ag Jo Ar))
    clear hE hF hE' Vq Jo p1 p2 p4 p5 p7 p8 Ar
    gi_wp2_with fail
    obtain⟨v',hv'⟩: ∃v',Value.slice o7 ((A.length+1)+1) c7=v':=⟨_,rfl⟩
    rw[hv'] at xG⊢
    have xh:(W9.setCell ⟨B+1+1,9,none⟩ v').heap.size=W9.heap.size:=by simp[World.setCell]
    have hs9:=CQ.o.size
    have hks: ∀b,b<W.heap.size->b≠gx->b≠B+1+1->(W9.setCell ⟨B+1+1,9,none⟩ v').heap[b]? =W.heap[b]? :=fun b hb h1 h2=>
     (dL _ _ _ _ h2).trans (CQ.o.block b hb (by simpa using h1))
    have EN: ∀b,b<W7.heap.size->b≠gx->b≠B+1+1->(W9.setCell ⟨B+1+1,9,none⟩ v').heap[b]? =W7.heap[b]? :=fun b hb h1 h2=>(hks b (by omega) h1 h2).trans (iZ.o.block b hb (by simp))
    have hFB:Lr w Os Ms (W9.setCell ⟨B+1+1,9,none⟩ v'):=yZ.o.own (yZ.o.ext.trans ⟨CQ.o.os.trans iZ.o.os,CQ.o.tape.trans iZ.o.tape,CQ.o.output.trans iZ.o.output,by rw[xh];omega,fun b hb=>(dL _ _ _ _ (by show b≠B+1+1;omega)).trans ((CQ.o.block b (by have:=yZ.o.ext.size;omega) (by simp;omega)).trans (iZ.o.block b (by have:=yZ.o.ext.size;omega) (by simp)))⟩) (by rw[xh];omega)
    have hlen1:((A++[z])++[ys]).length=(A.length+1)+1:=by simp
    refine⟨⟨?_,?_,fun m hm h0 hml=>?_,by rw[xh];omega⟩,hFB,?_⟩
    ·exact(EN _ (by have:=(hap _ (hin (w4.heap.size+1) (by omega) (by omega))).2;omega) (by omega) (by omega)).trans wR.o.2.1
    ·exact(EN _ (by have:=(hap _ (hin w4.heap.size (by omega) (by omega))).2;omega) (by omega) (by omega)).trans wR.o.2.2
    ·exact(EN m (yZ.o.bnd m hm) (fun e=>BN (e▸hm)) (fun e=>(hap (B+1+1) (hin _ (by omega) (by omega))).1 (e▸hm))).trans (wR.o.1 m hm h0 hml)
    rw[xK.o,YQ.o]
    refine⟨?_,?_,⟨v',aI xG.o.2.2 _,hlen1.symm▸dQ xG.o.1 fun g hg=>dL _ _ _ _ (by have:=(bH xG.o.1 g hg).1;show g≠B+1+1;omega),fun g hg=>⟨fun hm=>?_,by rw[xh];exact(bH xG.o.1 g hg).2⟩⟩,?_,?_⟩
    ·exact(hks _ (by have:=(hap _ (hin B (by omega) (by omega))).2;omega) (by omega) (by omega)).trans Lj.o.b0
    ·exact(hks _ (by have:=(hap _ (hin (B+1) (by omega) (by omega))).2;omega) (by omega) (by omega)).trans Lj.o.tab
    ·rcases xG.o.2.1 g hg with h1|h1
     ·exact BN (h1▸hm)
     ·have:=yZ.o.bnd g hm;omega
    ·exact(hks _ (by have:=(hap _ (hin (B+3) (by omega) (by omega))).2;omega) (by omega) (by omega)).trans Lj.o.ptr
    ·exact(hks _ (by have:=(hap _ (hin (B+4) (by omega) (by omega))).2;omega) (by omega) (by omega)).trans Lj.o.b4
   ·have YQ:Hid (lT (A++[z]) ys=A++[z]):=ae (by
     unfold lT
     rw[aC]
     simp only[List.getLast?_append,List.getLast?_singleton]
     have:z=ys:=by simpa using hq
     rw[this]
     rfl)
    refine dW 22 [] none [] (by kernel_rfl) (by kernel_rfl) (by kernel_rfl) ?_
    simp only[zt]
    repeat ((first|refine zn ?_|refine zk ?_);simp only[zp])
    refine gq (by rfl) (.pointer (some ⟨gb,A.length*3,none⟩)) (by rfl) (fun W hW=>by go_simp;(try simp(disch:=omega) only[IntWalk.i64_in]);(try rw[aC (by omega)]);(try simp);(try (intro hx;exfalso;omega))) ?_
    simp only[zp]
    refine gq (by rfl) (.agg (ah z).toArray) (by rfl) (fun W hW=>jU 247 _ (by rfl) gb (A.length*3) (by rfl) (ah z) _ (fun j u hj=>(hW gb _ TK (by simp)).trans (Fz j u hj)) Tryz.underlying247 rfl (by rw[hzl];kernel_rfl)) ?_
    simp only[zp]
    refine gq (by rfl) (.agg #[iv y0,iv y1,iv y2]) (by rfl) (fun W hW=>by go_simp;try rfl) ?_
    simp only[zp]
    refine gq (by rfl) (.bool false) (by rfl) (fun W hW=>(ou 247 3 _ 3 _ _ (by rfl) Tryz.underlying247 Tryz.underlying3 (by intro w;go_simp) (by kernel_rfl) z [y0,y1,y2] (by rfl) (by rfl) hz3 (by rfl)).trans (by rw[CP.o.1] at hq;rw[hq];rfl)) ?_
    simp only[zp]
    repeat ((first|refine zn ?_|refine zk ?_);simp only[zp])
    intro W hE hF
    obtain⟨hc,hf⟩:=bV hE.below
    have hzE:=hE.size
    (try simp only[bI] at hzE)
    have lV:Ext [] W7 W:=hE
    have iZ:=ae lV
    clear hE hF hc hf lV
    gi_wp2_with fail
    have hs8:=iZ.o.size
    refine⟨⟨?_,?_,fun m hm h0 hml=>?_,by omega⟩,(yZ.o.ja (iZ.o.more (by simp)) (fun m hm=> .inl hm)).1,?_⟩
    ·exact(iZ.o.block _ (aV.1 wR.o.2.1).1 (by simp)).trans wR.o.2.1
    ·exact(iZ.o.block _ (aV.1 wR.o.2.2).1 (by simp)).trans wR.o.2.2
    ·exact(iZ.o.block m (by omega) (by simp)).trans (wR.o.1 m hm h0 hml)
    ·rw[xK.o,YQ.o]
     exact VS.o.kept iZ.o.size (fun b h1 h2=>iZ.o.block b (by have:=(hap b (hin b h1 (by omega))).2;omega) (by simp)) (fun g h1 h2 h3=>iZ.o.block g h2 (by simp)) (fun m hm=> .inl hm)
 case hdone=>
  rintro Ms W ⟨hF,hP⟩ hD hlt
  obtain⟨v,hv1,hv2,hv3⟩:=hP.work
  obtain⟨c1,f1,l1⟩:=af (show W.heap[B+1+1+1]? =some (.cells #[.pointer (some ⟨B+1+1,0,none⟩)] 114 (0,0)) from hP.ptr)
  have hFE:=(hF.put (Obj.deferred none) (r:=w4.heap.size) (by omega)).ext
  have HX:=ae (ag hFE (ag hv1 (ag hv2 hP.tab)))
  clear hF hP hv1 hv2 hv3 hFE
  gi_wp2_with fail
  refine⟨by simp,.inl ⟨_,_,rfl,run_takeDeferred hD,?_⟩⟩
  refine⟨.pointer (some ⟨B+1+1,0,none⟩),by simp[results,Tryz.results92,go_sem],B+1+1,B+1,v,rfl,by omega,by omega,?_,⟨?_,HT'.o _ HX.o.1,HN'.o _ HX.o.1,?_⟩,HX.o.1⟩
  ·exact(World.putObj_heap_other (by omega)).trans HX.o.2.2.2
  ·exact(World.putObj_heap_other (by omega)).trans HX.o.2.1
  ·exact aK.dR (dQ HX.o.2.2.1 fun g hg=>World.putObj_heap_other (by have:=(bH HX.o.2.2.1 g hg).1;omega))
 case hstop=>rintro cd Ms W h;exact h.elim
end Go.Proofs.YthbpmepjmebolaaGreatDoor
end
section
namespace Go.Proofs.YthbpmepjmebolaaGreatDoor
open Go.RowKit Go.RG Go.SL Go.Shelf jC Go.TB
abbrev YU (k:Int×Int):Value:= .agg #[iv k.1,iv k.2]
theorem MJ:YH Tryz.prog 290 YU (fun _=>True) where
 find w x es:=run_findKey_eq w (by kernel_rfl) x es
 check b a w _:=by
  unfold Instr.checkKey
  simp[go_sem]
  simp only[Iz,Result.andThen_ok]
 eq a b w _ _:=by
  unfold Op.equal Op.maxDepth
  simp[go_sem]
  obtain⟨a1,a2⟩:=a
  obtain⟨b1,b2⟩:=b
  by_cases h1:a1=b1 <;>by_cases h2:a2=b2 <;>simp[h1,h2]
 bits a _:=by simp[Instr.sameBits]
theorem aer:iR Tryz.prog 31 120 (xv (0,0,0)) 3 24:=⟨Tryz.underlying31,by kernel_rfl,rfl,by omega⟩
theorem D5 {w:World} {o:Option Addr} {n c:Nat} {ls:List (List Int)} (h:aK 3 w (.slice o n c) ls.length (ls.flatMap ah)) (h3: ∀x∈ls,x.length=3) {k:Nat} (hk:k<ls.length):
 ∃b off y0 y1 y2,o=some ⟨b,off,none⟩/\b<w.heap.size/\ls[k]=[y0,y1,y2]/\w.cell? ⟨b,off+k*3,none⟩=some (iv y0)/\w.cell? ⟨b,off+k*3+1,none⟩=some (iv y1)/\w.cell? ⟨b,off+k*3+2,none⟩=some (iv y2):=by
 obtain⟨hl,o',c',hv,h1,h2,hn,h4⟩:=h
 cases hv
 obtain⟨y0,y1,y2,hys⟩:=nV (h3 _ (bT hk))
 cases o with
 |none=>have:=hn rfl;omega
 |some a=>
  obtain⟨b,off,sp⟩:=a
  obtain⟨hs,hc⟩:=h4 _ rfl
  simp only at hs hc
  subst hs
  have g: ∀j (hj:j<3),(ls.flatMap ah)[k*3+j]? =[iv y0,iv y1,iv y2][j]? :=fun j hj=>by
   have: ∀(ls:List (List Int)) (k:Nat) (hk:k<ls.length),(∀x∈ls,x.length=3)->(ls.flatMap ah)[k*3+j]? =(ah ls[k])[j]? :=by
    intro ls
    induction ls with
    |nil=>intro k hk;simp at hk
    |cons x ls ih=>
     intro k hk h3
     have hx:(ah x).length=3:=by simp[ah,h3 x (by simp)]
     rw[List.flatMap_cons]
     cases k with
     |zero=>simp only[Nat.zero_mul,Nat.zero_add,List.getElem_cons_zero];rw[vP (by omega)]
     |succ k=>
      rw[nT (by omega),hx,show(k+1)*3+j-3=k*3+j from by omega]
      simpa using ih k (by simpa using hk) (fun y hy=>h3 y (by simp[hy]))
   rw[this ls k hk h3,hys]
   rfl
  have r0:=hc (k*3+0) (iv y0) (by rw[g 0 (by omega)];rfl)
  have r1:=hc (k*3+1) (iv y1) (by rw[g 1 (by omega)];rfl)
  have r2:=hc (k*3+2) (iv y2) (by rw[g 2 (by omega)];rfl)
  rw[Nat.add_zero] at r0
  rw[<-Nat.add_assoc] at r1 r2
  exact⟨b,off,y0,y1,y2,rfl,dP w _ r0,hys,r0,r1,r2⟩
theorem Eb.lt {W:World} {wb mb:Nat} {l:aS} {tv nv v:Value} {ls:List (List Int)} (h:Eb W wb mb l tv nv v ls):wb<W.heap.size:=(aV.1 h.cells).1
theorem Eb.below {W W':World} {wb mb:Nat} {l:aS} {tv nv v:Value} {ls:List (List Int)} (h:Eb W wb mb l tv nv v ls) {B:Nat} (hb:Below B W W') (hB:W.heap.size<=B):Eb W' wb mb l tv nv v ls:=
 ⟨(hb.block _ (by have:=h.lt;omega)).trans h.cells,h.uK.below hb hB,h.notes.below hb hB,h.truth.below hb hB⟩
theorem Eb.table {W W':World} {wb mb:Nat} {l:aS} {tv nv v:Value} {ls:List (List Int)} (h:Eb W wb mb l tv nv v ls) (hE:Ext [mb] W W') (hn: ∀o,W.cell? ⟨mb,o,none⟩=none):Eb W' wb mb l tv nv v ls:=by
 have hm: ∀x∈[mb], ∀o,W.cell? ⟨x,o,none⟩=none:=fun x hx o=>by have e:x=mb:=(by simpa using hx);rw[e];exact hn o
 refine⟨(hE.block _ h.lt (fun e=>?_)).trans h.cells,h.uK.gB hE hm,h.notes.gB hE hm,h.truth.gB hE hm⟩
 have e:wb=mb:=by simpa using e
 have:=hn 0
 rw[<-e] at this
 simp[World.cell?,h.cells] at this
theorem wI {P:Program} {o:Oper} {ρ:Operand->Value} {W W':World} {R:Value->World->Prop} (he:(execOp ρ o).run P W= .ok .skip W') (h:R undef W'):Does P o ρ W R:=by
 unfold Does;rw[he];exact h
theorem PL {mb:Nat} {w W W':World} (h:Ext [mb] w W) (hb:Below w.heap.size W W'):Ext [mb] w W':=
 ⟨hb.os.trans h.os,hb.tape.trans h.tape,hb.output.trans h.output,jo h.size hb.size,fun k hk hm=>(hb.block k hk).trans (h.block k hk hm)⟩
structure rU (ns:List Ff) (T:List ((Int×Int)×dY)) (done:List (Int×Int)):Prop where
 only: ∀key r,TB.look key T=some r->r=kn ns key
 has: ∀key∈done, ∃r,TB.look key T=some r
theorem rU.nil (ns:List Ff):rU ns [] []:=⟨fun key r h=>(by cases h),fun key h=>(by cases h)⟩
theorem rU.new {ns:List Ff} {T:List ((Int×Int)×dY)} {done:List (Int×Int)} (h:rU ns T done) (key:Int×Int):rU ns (TB.store key (kn ns key) T) (done++[key]):=by
 refine⟨fun k r hl=>?_,fun k hk=>?_⟩
 ·rw[wZ] at hl
  split at hl
  ·rename_i e;cases hl;rw[e]
  ·exact h.only k r hl
 ·rw[wZ]
  by_cases e:k=key
  ·exact⟨_,aC e⟩
  ·rw[aj e]
   rcases iE.1 hk with h1|h1
   ·exact h.has k h1
   ·exact absurd (by simpa using h1) e
theorem rU.old {ns:List Ff} {T:List ((Int×Int)×dY)} {done:List (Int×Int)} (h:rU ns T done) (key:Int×Int) {r:dY} (hl:TB.look key T=some r):rU ns T (done++[key]):=
 ⟨h.only,fun k hk=>by
   rcases iE.1 hk with h1|h1
   ·exact h.has k h1
   ·have:k=key:=by simpa using h1
    rw[this];exact⟨r,hl⟩⟩
def keysOf (d:List Int) (i:Nat):List (Int×Int):=(List.range i).map fun(j:Nat)=>((j:Int),d.getD j 0)
def uf (n:Nat) (ls:List (List Int)) (k:Nat):List (Int×Int):=(ls.take k).flatMap fun d=>keysOf d n
theorem O7 {n:Nat} {ls:List (List Int)} {k:Nat} (hk:k<ls.length):uf n ls (k+1)=uf n ls k++keysOf ls[k] n:=by
 unfold uf
 rw[iy hk,vO]
 simp
theorem O8 (d:List Int) (i:Nat):keysOf d (i+1)=keysOf d i++[((i:Int),d.getD i 0)]:=by
 unfold keysOf
 rw[List.range_succ,List.map_append]
 rfl
theorem NW (l:aS) (hS:rG l.field) (h5:l.notes.length<=5) (tv nv v ov:Value) (out:List Int) (wb mb:Nat) (ls:List (List Int)) (T0:List ((Int×Int)×dY)) (w:World) (hw:Eb w wb mb l tv nv v ls) (hT:TabAt YU rv (fun _=>True) w mb T0)
 (ho:aP w ov out) (h3: ∀x∈ls,x.length=3) (hlen:ls.length<=2500):
 Calls Tryz.prog 159 #[.pointer (some ⟨wb,0,none⟩),ov] w (fun e w'=>(∃u,e= .returned u)/\Ext [mb] w w'/\ ∃T,TabAt YU rv (fun _=>True) w' mb T/\rU (Eu l out) T (uf l.field.aO.toNat ls ls.length)):=by
 obtain⟨on,cn,rfl⟩:=hw.notes.open
 obtain⟨ot,ct,rfl⟩:=hw.uK.open
 obtain⟨vo,vc,rfl⟩:=hw.truth.open
 obtain⟨oo,oc,rfl⟩:=ho.open
 have hwn:=hw.lt
 have hmb:=hT.lt
 have aeV:=hT.ni
 obtain⟨c1,f1,l1⟩:=af hw.cells
 obtain⟨W1,hrun,hT1,hE1⟩:=XU (P:=Tryz.prog) (kv:=YU) (vv:=rv) (ok:=fun _=>True) (mt:=242) (k:=290) (e:=30) (by kernel_rfl) 0 hT
 have hw1:=hw.table hE1 aeV
 have hm1: ∀x∈[mb], ∀o,w.cell? ⟨x,o,none⟩=none:=fun x hx o=>by have e:x=mb:=(by simpa using hx);rw[e];exact aeV o
 have ho1:=ho.gB hE1 hm1
 have hwm:wb≠mb:=hT.ne hw.cells
 have HO:=ae (ag ho ho1)
 have HW:=ae hw
 have HW1:=ae hw1
 have HT1:=ae (ag hT1 hE1)
 have H3:=ae h3
 have hw0:=hS.zV
 have hw3:=hS.xH
 obtain⟨n,hn⟩: ∃n:Nat,l.field.aO=n:=⟨l.field.aO.toNat,by omega⟩
 have HN:=ae hn
 have hn3:n<=3:=by omega
 have hnt:l.field.aO.toNat=n:=by omega
 rw[hnt]
 clear hw hT ho hw1 hT1 hE1 hS hn hnt hw0 hw3 hm1 h3
 go_enter Tryz.func159,Tryz.ntmps159
 go_upto_region 2 with(fail)
 obtain⟨c1',f1',l1'⟩:=af HW1.o.cells
 have apE:=HT1.o.1.lt
 have hsz1:=HT1.o.2.size
 clear c1 f1 hrun
 go_wp2_with fail
 go_loopw [4,26] (fun v4 u wr=> ∃k:Nat,k<=l.notes.length/\u= .int .i64 k/\(∃lo lc,v4= .slice lo (lI l out k).length lc/\wr.ownsRow W1.heap.size 120 3 (.slice lo (lI l out k).length lc) (lI l out k).length (aY (lI l out k)))/\Below W1.heap.size W1 wr) (fun _ u _=>l.notes.length-(intOf u).toNat)
 case atStart=>exact⟨0,bW _,rfl,⟨none,0,rfl,⟨rfl,.inl ⟨rfl,rfl⟩⟩⟩,aG _ _⟩
 case round=>
  obtain⟨k,hk,rfl,⟨lo,lc,rfl,how⟩,hB⟩:=hrel
  have hwr:=HW1.o.below hB (ai _)
  by_cases hlt:k<l.notes.length
  ·obtain⟨b,off,hvv,hb,hc0,hc1,hc2⟩:=bD.cell hwr.notes hlt
   cases hvv
   have hgk:l.notes.getD k (0,(0,0))=l.notes[k]:=by simp[List.getD,hlt]
   have hcon:=iL out (.slice oo out.length oc) (k:Int)
   obtain⟨q,hq⟩: ∃q,out.contains (k:Int)=q:=⟨_,rfl⟩
   rw[hq] at hcon
   have hll:=G9 l out k
   have HC:=ae hcon
   have HQ:=ae (ag hq hgk)
   have HOW:=ae (ag how hB)
   generalize l.notes[k]=x at*
   clear hwr how hB hcon hq hgk
   cases q
   ·have hsu:=Tf (l:=l) HQ.o.1
    rw[HQ.o.2] at hsu
    have xK:=ae hsu
    clear hsu
    go_upto_region 5 with(fail)
    refine dH fun W5 yI=>?_
    have zM:Below wr.heap.size wr W5:=by rw[yI];exact zl
    have hk5:W5.heap[wr.heap.size]? =some (.cells #[iv x.1,iv x.2.1,iv x.2.2] 120 (0,0)):=by rw[yI];exact ay _ _
    have vU:=HO.o.2.below (aX HOW.o.2 zM) (ai _)
    have nM:=ae (ag zM (ag hk5 vU))
    clear yI zM hk5 vU hc0 hc1 hc2 hb
    go_wp2_with fail
    refine(HC.o W5 nM.o.2.2).mono ?_
    rintro e W6 ⟨rfl,hb6⟩
    have hk6:=(hb6.block _ (aV.1 nM.o.2.1).1).trans nM.o.2.1
    obtain⟨e1,e2,e3⟩:=af hk6
    have qo:=ae (aX (aX HOW.o.2 nM.o.1) hb6)
    have ho6:=aA (Ms:=[]) (aA (Ms:=[]) HOW.o.1 (Ext.az nM.o.1) (by simp)) (Ext.az hb6) (by simp)
    have F6:=ae ho6
    clear hb6 hk6 ho6
    go_wp2_with (at_builtin;refine gm rfl _ _ aer rfl W1.heap.size (.slice lo (lI l out k).length lc) (lI l out k).length (aY (lI l out k)) rfl ?_ (.slice (some ⟨W6.heap.size,0,none⟩) 1 1) 1 [iv x.1,iv x.2.1,iv x.2.2] rfl ?_ (by simp[Value.oneCell']) (by omega) (by omega) (by have:=qo.o.size;simp;omega) ?_)
    ·exact aA (Ms:=[]) F6.o (Ext.az ((aG _ _).alloc (ai _) _)) (by simp)
    ·exact aK.dw 3 1 (ay _ _) rfl (by decide)
    ·intro v' W7 hown hgr
     obtain⟨o7,c7,rfl⟩:=aT hown
     have HO7:=ae hown
     have HG7:=ae hgr
     clear hown hgr
     go_wp2_with fail
     go_roundw
     case rel=>
      refine⟨k+1,by omega,by go_num,⟨o7,c7,by rw[xK.o];simp,?_⟩,?_⟩
      ·rw[xK.o]
       have:=HO7.o
       simpa [aY,vO] using this
      ·exact Below.grown (ak qo.o _) HG7.o (by have:=qo.o.size;simp;omega) (fun k e=>(bH F6.o k e).1)
     case measure=>simp[intOf];omega
   ·have hsu:=Xc (l:=l) HQ.o.1
    have xK:=ae hsu
    clear hsu
    go_upto_region 5 with(fail)
    refine dH fun W5 yI=>?_
    have zM:Below wr.heap.size wr W5:=by rw[yI];exact zl
    have vU:=HO.o.2.below (aX HOW.o.2 zM) (ai _)
    have nM:=ae (ag zM vU)
    clear yI zM vU hc0 hc1 hc2 hb
    go_wp2_with fail
    refine(HC.o W5 nM.o.2).mono ?_
    rintro e W6 ⟨rfl,hb6⟩
    have qo:=ae (aX (aX HOW.o.2 nM.o.1) hb6)
    have ho6:=aA (Ms:=[]) (aA (Ms:=[]) HOW.o.1 (Ext.az nM.o.1) (by simp)) (Ext.az hb6) (by simp)
    have F6:=ae ho6
    clear hb6 ho6
    go_wp2_with fail
    go_roundw
    case rel=>exact⟨k+1,by omega,by go_num,⟨lo,lc,by rw[xK.o],by rw[xK.o];exact F6.o⟩,qo.o⟩
    case measure=>simp[intOf];omega
  ·have hkl:k=l.notes.length:=by omega
   subst hkl
   have hll:=G9 l out l.notes.length
   have YY:Ext [mb] w wr:=PL HT1.o.2 (hB.mono hsz1)
   have HOW:=ae (ag how hB)
   have HEW:=ae YY
   have HT:=ae (HT1.o.1.below hB (ai _))
   have HWR:=ae hwr
   have hwl:=hwr.lt
   obtain⟨d1,g1,m1⟩:=af hwr.cells
   obtain⟨ns,hns⟩: ∃ns,lI l out l.notes.length=ns:=⟨_,rfl⟩
   have ahp:Eu l out=ns:=hns
   have HNS:=ae ahp
   rw[hns] at hll HOW
   rw[hns]
   clear how hB hwr YY hns ahp c1' f1'
   have aax:=HT.o.ni
   have hleft:bD wr (.slice lo ns.length lc) ns:=aK.dR HOW.o.1
   have HLF:=ae hleft
   have Ho:=HT.o.lt
   have KN:Hid (∀W,Ext [mb] wr W->Eb W wb mb l (.slice ot l.field.au.length ct) (.slice on l.notes.length cn) (.slice vo ls.length vc) ls/\bD W (.slice lo ns.length lc) ns):=ae (fun W hE=>⟨HWR.o.table hE aax,HLF.o.gB hE (fun x hx o=>by have e:x=mb:=(by simpa using hx);rw[e];exact aax o)⟩)
   have HWS:=ae HOW.o.2.size
   have hLO: ∀g,(Value.slice lo ns.length lc).ownBlock=some g->g<wr.heap.size:=fun g hg=>(bH HOW.o.1 g hg).2
   clear hleft aeV aax
   obtain⟨W2,hW2⟩: ∃W2,wr=W2:=⟨_,rfl⟩
   rw[hW2] at KN HT HEW hLO
   have HLO:=ae hLO
   clear hLO
   have HB2:Hid (Ext [mb] W2 wr):=ae (by rw[hW2];exact Ext.refl _ _)
   have HTW:Hid (TabAt YU rv (fun _=>True) wr mb ([]:List ((Int×Int)×dY))):=ae (by rw[hW2];exact HT.o)
   clear hW2
   go_wp2_with fail
   go_loopw [45] (fun u wr=> ∃k:Nat,k<=ls.length/\u= .int .i64 k/\Ext [mb] W2 wr/\ ∃T,TabAt YU rv (fun _=>True) wr mb T/\rU ns T (uf n ls k)) (fun u _=>ls.length-(intOf u).toNat)
   case atStart=>exact⟨0,bW _,rfl,HB2.o,[],HTW.o,rU.nil _⟩
   case round=>
    obtain⟨k,hk,rfl,hE,T,hT,YX⟩:=hrel
    obtain⟨hwr,hlf⟩:=KN.o _ hE
    by_cases hlt:k<ls.length
    ·obtain⟨d1,g1,m1⟩:=af hwr.cells
     obtain⟨b,off,y0,y1,y2,hvv,hb,hys,r0,r1,r2⟩:=D5 hwr.truth H3.o hlt
     subst hvv
     have hks:=O7 (n:=n) hlt
     generalize ls[k]=d at*
     have HKS:=ae hks
     have CP:=ae hys
     have HX:=ae (ag hE (ag hT YX))
     clear hks hys hE hT YX hwr hlf
     go_upto_region 11 with(fail)
     refine dH fun W3 hW3=>?_
     have hB3:Below wr.heap.size wr W3:=by rw[hW3];exact zl
     have hk8:W3.heap[wr.heap.size]? =some (.cells #[iv y0,iv y1,iv y2] 247 (0,0)):=by rw[hW3];exact ay _ _
     have uJ:Ext [mb] W2 W3:=HX.o.1.trans (Ext.az hB3)
     have hT3:=HX.o.2.1.below hB3 (ai _)
     obtain⟨ag3,akZ⟩:=KN.o _ uJ
     obtain⟨b8,hb8⟩: ∃b8,wr.heap.size=b8:=⟨_,rfl⟩
     rw[hb8] at hk8
     rw[hb8]
     have akU:mb≠b8:=by have:=HX.o.2.1.lt;omega
     have HX3:=ae (ag uJ (ag hT3 (ag HX.o.2.2 hk8)))
     clear hW3 d1 g1 m1 r0 r1 r2 hb hB3 uJ hT3 hb8 HX
     obtain⟨d1,g1,m1⟩:=af ag3.cells
     clear ag3 akZ hk8
     go_wp2_with fail
     rw[HN.o]
     go_loopw [55] (fun u wr=> ∃i:Nat,i<=n/\u= .int .i64 i/\Ext [mb] W3 wr/\ ∃T,TabAt YU rv (fun _=>True) wr mb T/\rU ns T (uf n ls k++keysOf d i)) (fun u _=>n-(intOf u).toNat)
     case atStart=>exact⟨0,bW _,rfl,Ext.refl _ _,T,HX3.o.2.1,by have:=HX3.o.2.2.1;simpa [keysOf] using this⟩
     case round=>
      obtain⟨i,hi,rfl,hE,T,hT,YX⟩:=hrel
      by_cases apF:i<n
      ·have hE2:=HX3.o.1.trans hE
       have hk8:=(hE.block _ (aV.1 HX3.o.2.2.2).1 (by simpa using fun e=>akU e.symm)).trans HX3.o.2.2.2
       have ahJ:wr.heap[b8]? =some (.cells (ah d).toArray 247 (0,0)):=by rw[CP.o];exact hk8
       have hd3:d.length=3:=by rw[CP.o];rfl
       have hcell:=gJ ahJ (show i<d.length by omega)
       have hgd:d.getD i 0=d[i]'(by omega):=by simp[List.getD,hd3,show i<3 by omega]
       have hkk:=O8 d i
       rw[hgd] at hkk
       generalize hdi:d[i]'(by omega)=di at*
       have HDI:Hid (∀h,d[i]'h=di):=ae (fun _=>hdi)
       clear hdi
       have ah6:=(aV.1 hk8).1
       have hi3:i<3:=by omega
       have HKK:=ae hkk
       have HX:=ae (ag hE (ag hT (ag YX hk8)))
       clear hkk hE hT YX hgd hd3 hk8 ahJ hE2
       go_upto_region 15 with(fail)
       refine dH fun W6 KJ=>?_
       have TS:Below wr.heap.size wr W6:=by rw[KJ];exact zl
       have hk10:W6.heap[wr.heap.size]? =some (.cells #[iv (i:Int),iv di] 290 (0,0)):=by rw[KJ];exact ay _ _
       have zZ:Ext [mb] W3 W6:=HX.o.1.trans (Ext.az TS)
       have hT6:=HX.o.2.1.below TS (ai _)
       have ahI:=(TS.block _ ah6).trans HX.o.2.2.2
       obtain⟨hw6,ahA⟩:=KN.o _ (HX3.o.1.trans zZ)
       have hlook:=fun cm W hW=>wF MJ (mt:=242) (e:=30) (by kernel_rfl) (z:=rv (0,0)) (fun W=>by simp[go_sem]) hT6 ((i:Int),di) trivial cm W hW
       obtain⟨b10,ry⟩: ∃b10,wr.heap.size=b10:=⟨_,rfl⟩
       rw[ry] at hk10
       rw[ry]
       have aqh:b8<b10:=by omega
       have anr:mb<b10:=by have:=HX.o.2.1.lt;omega
       have HT6:=ae hT6
       have HX6:=ae (ag zZ (ag ahI (ag hk10 (ag hw6 ahA))))
       obtain⟨e1,e2,e3⟩:=af hw6.cells
       obtain⟨e4,e5,e6⟩:=af hk10
       obtain⟨lk,hlk⟩: ∃lk,TB.look ((i:Int),di) T=lk:=⟨_,rfl⟩
       rw[hlk] at hlook
       have amF:=ae hlk
       clear KJ hcell TS zZ hT6 ahI hw6 ahA hk10 ry d1 g1 m1 hlk
       cases lk with
       |some r=>
        have NH:=ae (hlook true)
        simp only[Option.map_some,Option.getD_some,Option.isSome_some,if_true] at NH
        clear hlook
        refine qL 11 [] (some 10) [(9,⟨fun _ v=> ∃b:Nat,v= .pointer (some ⟨b,0,none⟩),fun _ _ _=>True⟩),(10,⟨fun _ v=>v=undef,fun _ _ _=>True⟩)] (fun i _ v W=>match i with|9=> ∃b:Nat,v= .pointer (some ⟨b,0,none⟩)/\W6.heap.size<=b/\W.heap[b]? =some (.cells #[iv 0,iv 0] 30 (0,0))|_=>True) (by kernel_rfl) (by kernel_rfl) ?_
        simp only[zt]
        repeat ((first|refine zn ?_|refine zk ?_);simp only[zp])
        refine iH (by rfl) (.tuple #[.agg #[iv r.1,iv r.2],.bool true]) (by rfl) (fun W hE _=>by have:=NH.o W (hE.block mb (HT6.o.lt) (by simp));go_simp;try rfl) ?_
        simp only[zp]
        repeat ((first|refine zn ?_|refine zk ?_);simp only[zp])
        refine kR _ (by rfl) (by rfl) (by exact⟨_,0,rfl⟩) (fun Wa hE hF hG=>?_) (fun _ _ _ _ _=>trivial) (fun v Wa Wb ho hE=>?_) (fun v hv=>?_)
        ·exact jl (W':=Wa.alloc (.cells #[iv 0,iv 0] 30)) (.pointer (some ⟨Wa.heap.size,0,none⟩)) (by go_simp;try rfl) ⟨⟨_,rfl⟩,trivial,Ext.az ((aG _ _).alloc (ai _) _),_,rfl,(show uX W6.heap.size [] W6 Wa from hE).size,heap_alloc_new _ _⟩
        ·obtain⟨b,hb,hge,hc⟩:=ho
         exact⟨b,hb,hge,(hE.block b (aV.1 hc).1 (by simp)).trans hc⟩
        obtain⟨b11,rfl⟩:=hv
        simp only[zp]
        refine kR _ (by rfl) (by rfl) (by exact⟨_,rfl⟩) (fun Wa hE hF hG=>?_) (fun _ _ _ _ _=>trivial) (fun _ _ _ _ _=>trivial) (fun v hv=>?_)
        ·obtain⟨b,hb,hge,hc⟩:=hG rfl _ (bg _) (by kernel_rfl)
         cases hb
         obtain⟨x1,x2,x3⟩:=af hc
         exact wI (W':=(Wa.setCell ⟨b11,0,none⟩ (iv r.1)).setCell ⟨b11,1,none⟩ (iv r.2)) (by go_simp;try rfl) ⟨rfl,trivial,⟨rfl,rfl,rfl,by simp[World.setCell],fun k' hk' hkB _=>(dL _ _ _ _ (by show k'≠b11;omega)).trans (dL _ _ _ _ (by show k'≠b11;omega))⟩,trivial⟩
        obtain rfl:v=undef:=hv
        simp only[Act.put]
        intro Yt aaQ _
        have Dw:Below W6.heap.size W6 Yt:=qF aaQ (ai _)
        have KO:Ext [mb] W3 Yt:=HX6.o.1.trans (Ext.az Dw)
        have aaO:=HT6.o.below Dw (ai _)
        have H15:=ae (ag KO (ag aaO (HKK.o▸(nS _ _ _▸HX.o.2.2.1.old _ amF.o:rU ns T (uf n ls k++(keysOf d i++[((i:Int),di)]))))))
        clear aaQ Dw KO aaO e1 e2 e3 e4 e5 e6
        go_wp2_with fail
        go_roundw
        case rel=>exact⟨i+1,by omega,by go_num,H15.o.1,T,H15.o.2.1,H15.o.2.2⟩
        case measure=>simp[intOf];omega
       |none=>
        have NH:=ae (hlook true)
        simp only[Option.map_none,Option.getD_none,Option.isSome_none,if_true] at NH
        clear hlook
        refine qL 11 [] (some 10) [(9,⟨fun _ v=> ∃b:Nat,v= .pointer (some ⟨b,0,none⟩),fun _ _ _=>True⟩),(10,⟨fun _ v=>v=undef,fun _ _ _=>True⟩)] (fun i _ v W=>match i with|9=> ∃b:Nat,v= .pointer (some ⟨b,0,none⟩)/\W6.heap.size<=b/\W.heap[b]? =some (.cells #[iv 0,iv 0] 30 (0,0))|_=>True) (by kernel_rfl) (by kernel_rfl) ?_
        simp only[zt]
        repeat ((first|refine zn ?_|refine zk ?_);simp only[zp])
        refine iH (by rfl) (.tuple #[.agg #[iv 0,iv 0],.bool false]) (by rfl) (fun W hE _=>by have:=NH.o W (hE.block mb (HT6.o.lt) (by simp));go_simp;try rfl) ?_
        simp only[zp]
        repeat ((first|refine zn ?_|refine zk ?_);simp only[zp])
        refine kR _ (by rfl) (by rfl) (by exact⟨_,0,rfl⟩) (fun Wa hE hF hG=>?_) (fun _ _ _ _ _=>trivial) (fun v Wa Wb ho hE=>?_) (fun v hv=>?_)
        ·exact jl (W':=Wa.alloc (.cells #[iv 0,iv 0] 30)) (.pointer (some ⟨Wa.heap.size,0,none⟩)) (by go_simp;try rfl) ⟨⟨_,rfl⟩,trivial,Ext.az ((aG _ _).alloc (ai _) _),_,rfl,(show uX W6.heap.size [] W6 Wa from hE).size,heap_alloc_new _ _⟩
        ·obtain⟨b,hb,hge,hc⟩:=ho
         exact⟨b,hb,hge,(hE.block b (aV.1 hc).1 (by simp)).trans hc⟩
        obtain⟨b11,rfl⟩:=hv
        simp only[zp]
        refine kR _ (by rfl) (by rfl) (by exact⟨_,rfl⟩) (fun Wa hE hF hG=>?_) (fun _ _ _ _ _=>trivial) (fun _ _ _ _ _=>trivial) (fun v hv=>?_)
        ·obtain⟨b,hb,hge,hc⟩:=hG rfl _ (bg _) (by kernel_rfl)
         cases hb
         obtain⟨x1,x2,x3⟩:=af hc
         exact wI (W':=(Wa.setCell ⟨b11,0,none⟩ (iv 0)).setCell ⟨b11,1,none⟩ (iv 0)) (by go_simp;try rfl) ⟨rfl,trivial,⟨rfl,rfl,rfl,by simp[World.setCell],fun k' hk' hkB _=>(dL _ _ _ _ (by show k'≠b11;omega)).trans (dL _ _ _ _ (by show k'≠b11;omega))⟩,trivial⟩
        obtain rfl:v=undef:=hv
        simp only[Act.put]
        intro Yt aaQ _
        have Dw:Below W6.heap.size W6 Yt:=qF aaQ (ai _)
        have KO:Ext [mb] W3 Yt:=HX6.o.1.trans (Ext.az Dw)
        have aaO:=HT6.o.below Dw (ai _)
        have Vr:=(Dw.block _ (aV.1 HX6.o.2.1).1).trans HX6.o.2.1
        have aaC:=(Dw.block _ e6).trans HX6.o.2.2.1
        have hcell:=gJ (show Yt.heap[b8]? =some (.cells (ah d).toArray 247 (0,0)) by rw[CP.o];exact Vr) (show i<d.length by rw[CP.o];simpa using hi3)
        rw[HDI.o] at hcell
        obtain⟨ag5,ahB⟩:=KN.o _ (HX3.o.1.trans KO)
        obtain⟨e1,e2,e3⟩:=af ag5.cells
        have alq:=(aV.1 Vr).1
        have akL:=Dw.size
        have H15:=ae (ag KO (ag aaO (ag Vr aaC)))
        clear aaQ Dw KO aaO Vr aaC ag5 ahB e4 e5
        go_upto_region 18 with(fail)
        refine dH fun W17 afh=>?_
        have ac6:Below Yt.heap.size Yt W17:=by rw[afh];exact zl
        have ae4:W17.heap[Yt.heap.size]? =some (.cells #[iv 0,iv di] 30 (0,0)):=by rw[afh];exact ay _ _
        obtain⟨b13,MS⟩: ∃b13,Yt.heap.size=b13:=⟨_,rfl⟩
        rw[MS] at ae4
        rw[MS]
        have ac4:Ext [mb] W3 W17:=H15.o.1.trans (Ext.az ac6)
        have ail:=H15.o.2.1.below ac6 (ai _)
        have aaB:=(ac6.block _ (aV.1 H15.o.2.2.2).1).trans H15.o.2.2.2
        obtain⟨ag4,adW⟩:=KN.o _ (HX3.o.1.trans ac4)
        have q10:b10<b13:=by omega
        have qmb:mb<b13:=by omega
        have qW3:W3.heap.size<=b13:=by have:=H15.o.1.size;omega
        have qW2:W2.heap.size<=b13:=by have:=HX3.o.1.size;have:=H15.o.1.size;omega
        have qwb:wb<b13:=by have:=hwl;have:=HX3.o.1.size;have:=ac4.size;omega
        have hk0:xQ ns ((i:Int),di) 0=(0,di):=rfl
        have H17:=ae (ag ac4 (ag ail (ag aaB (ag ag4 adW))))
        have aaA:W17.heap[b13]? =some (.cells #[iv (xQ ns ((i:Int),di) 0).1,iv (xQ ns ((i:Int),di) 0).2] 30 (0,0)):=ae4
        clear afh ac6 ac4 ail aaB ag4 adW ae4 hcell e1 e2 e3 akL alq e6 MS hk0
        go_wp2_with fail
        go_loopw [79] (fun u wr=> ∃j:Nat,j<=ns.length/\u= .int .i64 j/\wr.heap[b13]? =some (.cells #[iv (xQ ns ((i:Int),di) j).1,iv (xQ ns ((i:Int),di) j).2] 30 (0,0))/\Ext [b13] W17 wr) (fun u _=>ns.length-(intOf u).toNat)
        case atStart=>exact⟨0,bW _,rfl,aaA,Ext.refl _ _⟩
        case round=>
         obtain⟨j,hj,rfl,hkr,hEr⟩:=hrel
         obtain⟨x1,x2,x3⟩:=af hkr
         by_cases ahv:j<ns.length
         ·have ahz:=H17.o.2.2.2.2.ext hEr (fun z hz e=>by have:=HLO.o z e;have hz':z=b13:=(by simpa using hz);omega)
          obtain⟨lb,SY,rfl,hlb,hn0,hn1,hn2⟩:=bD.cell ahz ahv
          have hsu:=KF (ns:=ns) (key:=((i:Int),di)) ahv
          generalize ns[j]=x at*
          generalize hr:xQ ns ((i:Int),di) j=r at*
          have xK:=ae hsu
          have HKR:=ae (ag hkr hEr)
          clear hsu hkr hEr ahz hr aaA
          by_cases hxi:x.1=(i:Int)
          ·have hxb:(x.1==(i:Int))=true:=by simpa using hxi
           have HXI:=ae hxi
           clear hxi
           go_upto_region 22 with(fail)
           go_wp2_with fail
           refine(both_any r x.2 _).mono ?_
           rintro e W9 ⟨rfl,rW⟩
           obtain⟨hc,hf⟩:=bV rW
           have hs9:=rW.size
           simp only[bI] at hs9
           have mW:=ae (aX (ak (aG wr.heap.size wr) (.cells #[iv x.1,iv x.2.1,iv x.2.2] 120)) rW)
           clear rW
           go_wp2_with fail
           go_roundw
           case rel=>
            refine⟨j+1,by omega,by go_num,?_,?_⟩
            ·rw[xK.o,aC HXI.o]
             exact aI (aI ((mW.o.block _ x3).trans HKR.o.1) _) _
            ·exact((HKR.o.2.trans (Ext.az mW.o)).trans (mO _ ⟨b13,0,none⟩ _)).trans (mO _ ⟨b13,1,none⟩ _)
           case measure=>simp[intOf];omega
          ·have hxb:(x.1==(i:Int))=false:=by simpa using hxi
           have HXI:=ae hxi
           clear hxi
           go_wp2_with fail
           go_roundw
           case rel=>
            refine⟨j+1,by omega,by go_num,?_,HKR.o.2.trans (Ext.az (ak (aG _ _) _))⟩
            rw[xK.o,aj HXI.o]
            exact(aW _ _ _ x3).trans HKR.o.1
           case measure=>simp[intOf];omega
         ·have hjl:j=ns.length:=by omega
          subst hjl
          have hkne:b13∉[mb]:=by simp;omega
          have hTr:TabAt YU rv (fun _=>True) wr mb T:=H17.o.2.1.ext hEr (by simp;omega)
          have adY:=(hEr.block _ (aV.1 H17.o.2.2.1).1 (by simp;omega)).trans H17.o.2.2.1
          have hwr:=(hEr.block _ H17.o.2.2.2.1.lt (by simp;omega)).trans H17.o.2.2.2.1.cells
          obtain⟨e1,e2,e3⟩:=af hwr
          obtain⟨e4,e5,e6⟩:=af adY
          have hkn:xQ ns ((i:Int),di) ns.length=kn ns ((i:Int),di):=rfl
          rw[hkn] at x1 hkr
          generalize hr:kn ns ((i:Int),di)=r at*
          have HRR:=ae hr
          have HTR:=ae hTr
          have HER:=ae hEr
          clear hkr hEr hTr adY hwr hkn hr aaA
          go_upto_region 24 with(fail)
          refine zg 6 [] none [] ?_
          simp only[zt]
          repeat ((first|refine zn ?_|refine zk ?_);simp only[zp])
          intro W hE hF
          obtain⟨hc,hf⟩:=bV hE.below
          have hzE:=hE.size
          (try simp only[bI] at hzE)
          obtain⟨W25,hrun,aik,aiw⟩:=fV MJ (mt:=242) (e:=30) (by kernel_rfl) (HTR.o.below hE.below (ai _)) ((i:Int),di) trivial r
          have afl:=HX.o.2.2.1.new ((i:Int),di)
          rw[HRR.o,nS, <-HKK.o] at afl
          have ad5:Ext [mb] W3 W25:=by
           have h1:Ext [mb] W3 wr:=PL H17.o.1 ⟨HER.o.os,HER.o.tape,HER.o.output,HER.o.size,fun k' hk'=>HER.o.block k' (by have:=H17.o.1.size;omega) (by simp;omega)⟩
           exact(h1.trans (hE.more (by simp))).trans aiw
          have H25:=ae (ag ad5 (ag aik afl))
          clear aik aiw afl ad5 hE hF hc hf e1 e2 e3 e4 e5 e6 x1 x2 x3
          go_wp2_with fail
          go_roundw
          case rel=>exact⟨i+1,by omega,by go_num,H25.o.1,_,H25.o.2.1,H25.o.2.2⟩
          case measure=>simp[intOf];omega
      ·have hin:i=n:=by omega
       subst hin
       have H9:=ae (ag (HX3.o.1.trans hE) (ag hT (HKS.o▸YX:rU ns T (uf i ls (k+1)))))
       clear hE hT YX
       go_wp2_with fail
       go_roundw
       case rel=>exact⟨k+1,by omega,by go_num,H9.o.1,T,H9.o.2.1,H9.o.2.2⟩
       case measure=>simp[intOf];omega
    ·have hkl:k=ls.length:=by omega
     subst hkl
     have H9:=ae (ag (HEW.o.trans hE) (ag hT YX))
     clear hE hT YX hwr hlf
     go_wp2_with fail
     go_end0
     exact⟨⟨_,rfl⟩,H9.o.1,T,H9.o.2.1,HNS.o▸H9.o.2.2⟩
end Go.Proofs.YthbpmepjmebolaaGreatDoor
namespace Go.Proofs.YthbpmepjmebolaaGreatDoor
open Go.RowKit Go.RG Go.SL Go.Shelf jC Go.TB
theorem Gj:iR Tryz.prog 75 30 (rv (0,0)) 2 16:=⟨Tryz.underlying75,by kernel_rfl,rfl,by omega⟩
def QL (l:aS) (out d:List Int) (w:World) (e:Ending) (w':World):Prop:=
 Below w.heap.size w w'/\((jG l out d=true/\ ∃v,e= .returned (.tuple #[v,.bool true])/\w'.ownsRow w.heap.size 30 2 v (kL l out d).length (aH (kL l out d)))∨(jG l out d=false/\e= .returned (.tuple #[.slice none 0 0,.bool false])))
theorem ZH (l:aS) (hS:rG l.field) (hbx:0<=l.box.1/\l.box.1<=2000/\0<=l.box.2/\l.box.2<=2000) (tv nv v:Value) (out d:List Int) (hd3:d.length=3) (rs:List dY) (hrs:rs=qi l out d)
 (hrb: ∀r∈rs,0<=r.1/\r.1<=2000/\0<=r.2/\r.2<=2000) (wb mb:Nat) (T:List ((Int×Int)×dY)) (w:World) (hw:w.heap[wb]? =some (.cells (uY l tv nv v mb) 245 (0,0))) (hT:TabAt YU rv (fun _=>True) w mb T)
 (hlook: ∀i:Nat,i<l.field.aO.toNat->TB.look ((i:Int),d.getD i 0) T=some (rs.getD i (0,0))):
 Calls Tryz.prog 162 #[.pointer (some ⟨wb,0,none⟩),lY d] w (QL l out d w):=by
 have hrl:rs.length=l.field.aO.toNat:=by rw[hrs,zI]
 have hw0:=hS.zV
 have hw3:=hS.xH
 obtain⟨n,hn⟩: ∃n:Nat,l.field.aO=n:=⟨l.field.aO.toNat,by omega⟩
 have hnt:l.field.aO.toNat=n:=by omega
 rw[hnt] at hlook hrl
 have hn3:n<=3:=by omega
 obtain⟨y0,y1,y2,hys⟩:=nV hd3
 have hlow:=yj (·.1) rs (fun r hr=>by have:=hrb r hr;omega)
 have hhigh:=yj (·.2) rs (fun r hr=>by have:=hrb r hr;omega)
 obtain⟨c1,f1,l1⟩:=af hw
 have hag:lY d= .agg #[iv y0,iv y1,iv y2]:=by rw[hys];rfl
 rw[hag]
 have HN:=ae hn
 have F5:=ae (ag hrs hrl)
 have NH:=ae hlook
 have NG:=ae (ag hrb (ag hlow hhigh))
 have HW:=ae (ag hw hT)
 have CP:=ae (ag hys hd3)
 clear hrs hrl hlook hrb hlow hhigh hw hT hn hnt hw0 hw3 hag hys hd3
 go_enter Tryz.func162,Tryz.ntmps162
 go_wp2_with fail
 obtain⟨W1,hW1⟩: ∃W1,w.alloc (.cells #[iv y0,iv y1,iv y2] 247)=W1:=⟨_,rfl⟩
 have hB1:Below w.heap.size w W1:=by rw[<-hW1];exact ak (aG _ _) _
 have hk0:W1.heap[w.heap.size]? =some (.cells #[iv y0,iv y1,iv y2] 247 (0,0)):=by rw[<-hW1];exact ay _ _
 have hw1:=(hB1.block _ l1).trans HW.o.1
 have hT1:=HW.o.2.below hB1 (ai _)
 have hs1:W1.heap.size=w.heap.size+1:=by rw[<-hW1];simp
 have HX1:=ae (ag hB1 (ag hk0 (ag hw1 hT1)))
 rw[hW1]
 have hws:w.heap.size<W1.heap.size:=by omega
 have aeN:wb<W1.heap.size:=by omega
 clear hW1 hB1 hk0 hw1 hT1 hs1 c1 f1
 rw[HN.o]
 go_loopw [4,6,7,18] (fun v4 v6 v7 u wr=> ∃i:Nat,i<=n/\u= .int .i64 i/\v6= .int .i64 (lD (·.1) rs i)/\v7= .int .i64 (lD (·.2) rs i)/\(∃oo oc,v4= .slice oo i oc/\wr.ownsRow W1.heap.size 30 2 (.slice oo i oc) i (aH (rs.take i)))/\Below W1.heap.size W1 wr/\
  (∀j (hj:j<rs.length),j<i->rs[j].1<=rs[j].2)) (fun _ _ _ u _=>n-(intOf u).toNat)
 case atStart=>exact⟨0,bW _,rfl,rfl,rfl,⟨none,0,rfl,⟨rfl,.inl ⟨rfl,rfl⟩⟩⟩,aG _ _,fun j hj h=>by omega⟩
 case round=>
  obtain⟨i,hi,rfl,rfl,rfl,⟨oo,oc,rfl,how⟩,hB,hok⟩:=hrel
  have hwr:=(hB.block _ aeN).trans HX1.o.2.2.1
  have hkr:=(hB.block _ hws).trans HX1.o.2.1
  have hTr:=HX1.o.2.2.2.below hB (ai _)
  obtain⟨d1,g1,m1⟩:=af hwr
  by_cases hlt:i<n
  ·have hir:i<rs.length:=by rw[F5.o.2];exact hlt
   have hcell:=gJ (show wr.heap[w.heap.size]? =some (.cells (ah d).toArray 247 (0,0)) by rw[CP.o.1];exact hkr) (show i<d.length by rw[CP.o.2];omega)
   have hgd:d.getD i 0=d[i]'(by rw[CP.o.2];omega):=by simp[List.getD,CP.o.2,show i<3 by omega]
   have hlk:=NH.o i hlt
   rw[hgd,show rs.getD i (0,0)=rs[i] from by simp[List.getD,hir]] at hlk
   generalize d[i]'(by rw[CP.o.2];omega)=di at*
   have hlook:=fun W hW=>wF MJ (mt:=242) (e:=30) (by kernel_rfl) (z:=rv (0,0)) (fun W=>by simp[go_sem]) hTr ((i:Int),di) trivial false W hW
   rw[hlk] at hlook
   simp only[Option.map_some,Option.getD_some,Option.isSome_some,Bool.false_eq_true,if_false] at hlook
   have hbd:=NG.o.1 rs[i] (bT hir)
   have hlo:=NG.o.2.1 i (by omega)
   have hhi:=NG.o.2.2 i (by omega)
   have hls:=sW (·.1) hir
   have hhs:=sW (·.2) hir
   have htk:rs.take (i+1)=rs.take i++[rs[i]]:=iy hir
   generalize EF:rs[i]=r at*
   have ah6:=m1
   have hi3:i<3:=by omega
   have ahT:(i:Int)<3:=by omega
   have hwl:w.heap.size<wr.heap.size:=by have:=hB.size;omega
   have HL:=ae hlook
   have HS:=ae (ag hls (ag hhs htk))
   have HX:=ae (ag how (ag hB (ag hwr (ag hTr hok))))
   have HRI:=ae EF
   clear hgd hlk hlook hls hhs htk how hB hwr hkr hTr hok EF
   generalize lD (·.1) rs i=YV at*
   generalize lD (·.2) rs i=Zv at*
   go_upto_region 5 with(fail)
   refine zg 11 [] none [(10,Spec.block wr.heap.size #[iv 0,iv 0] 30)] ?_
   simp only[zt]
   repeat ((first|refine zn ?_|refine zk ?_);simp only[zp])
   refine iH (by rfl) (rv r) (by rfl) (fun W hE _=>by have:=HL.o W (hE.block mb (HX.o.2.2.2.1.lt) (by simp));go_simp;try rfl) ?_
   simp only[zp]
   refine jZ wr.heap.size _ _ (by rfl) (ai _) (by rfl) (by simp) (by simp) (fun W hW=>by go_simp;try rfl) (fun b9=>?_)
   simp only[zp]
   intro W5 PI hF5
   have Nb:Ext [] wr W5:=PI
   obtain⟨c9,rW,ahW,hk9⟩:=hF5 _ (bg _)
   cases rW
   obtain⟨p1,p2,p3⟩:=af hk9
   have HE5:=ae Nb
   have hs5:=Nb.size
   clear PI hF5 Nb hcell
   go_upto_region 6 with(fail)
   refine dH fun W6 KJ=>?_
   have TS:Below wr.heap.size wr W6:=by rw[KJ];exact iG (iG (show Below wr.heap.size wr W5 from HE5.o.below) ahW _) ahW _
   have ae1:W6.heap[b9]? =some (.cells #[iv r.1,iv r.2] 30 (0,0)):=by rw[KJ];exact aI (aI hk9 _) _
   have ho6:W6.ownsRow W1.heap.size 30 2 (.slice oo i oc) i (aH (rs.take i)):=dQ HX.o.1 fun g hg=>TS.block g (bH HX.o.1 g hg).2
   have H6:=ae (ag ho6 (ag (aX HX.o.2.1 TS) (ag TS ae1)))
   clear KJ TS hk9 p1 p2 p3 d1 g1 ho6
   obtain⟨p1,p2,p3⟩:=af ae1
   clear ae1
   by_cases hgt:r.2<r.1
   ·have hcp:jG l out d=false:=by
     unfold jG
     rw[<-F5.o.1]
     have:rs.all (fun r=>decide (r.1<=r.2))=false:=by
      rw[List.all_eq_false]
      exact⟨r,by rw[<-HRI.o];exact bT _,by simp;omega⟩
     rw[this];rfl
    have HCP:=ae hcp
    clear hcp
    go_wp2_with fail
    go_returns
    exact⟨aX HX1.o.1 H6.o.2.1,.inr ⟨HCP.o,by simp⟩⟩
   ·have apy: ¬(r.1>r.2):=hgt
    go_upto_region 8 with(fail)
    cases oo with
    |none=>
     have hgl:True:=trivial
     refine zg 14 [] (some 3) [(2,Spec.slice W6.heap.size #[iv r.1,iv r.2] 30 1),(3,⟨fun _ v=> ∃o c,v= .slice o (i+1) c,fun _ v Wx=>Wx.ownsRow W1.heap.size 30 2 v (i+1) (aH (rs.take (i+1)))⟩)] ?_
     simp only[zt]
     repeat ((first|refine zn ?_|refine zk ?_);simp only[zp])
     refine cu W6.heap.size _ _ 1 (by rfl) (ai _) (by rfl) (by first|(simp;done)|simpa using hgl) (by simp) (fun W hW=>by go_simp;try rfl) (fun b2=>?_)
     simp only[zp]
     refine bJ _ (by rfl) (by rfl) (by exact⟨.slice none (i+1) 0,none,0,rfl⟩) (fun Wa hE hF=>?_) (fun v Wa Wb ho hE=>?_) (fun v hv=>?_)
     ·have hE':Ext [] W6 Wa:=hE
      obtain⟨b',hb',hge,hcc⟩:=hF _ (bg _) (by kernel_rfl)
      cases hb'
      have hown6:=aA (Ms:=[]) H6.o.1 hE' (by simp)
      have hsrc:aK 2 Wa (.slice (some ⟨b2,0,none⟩) 1 1) 1 (aH [r]):=aK.dw 2 1 hcc rfl (by decide)
      refine Does.mono (dU Gj (by rfl) (by rfl) hown6 (by rfl) hsrc (pz _) (by omega) (by omega) (by have:=hE'.size;have:=H6.o.2.1.size;omega)) ?_
      rintro v' Wc ⟨ho,hgr,hcase⟩
      refine⟨aT ho,?_,⟨hgr.os,hgr.tape,hgr.output,hgr.size,fun b hb hn=>hgr.block b hb (fun e=>by first|(simp[Value.ownBlock] at e;done)|(simp[Value.ownBlock] at e;exact hn (by simp[e])))⟩⟩
      show Wc.ownsRow _ _ _ v' (i+1) _
      rw[HS.o.2.2,pX]
      exact ho
     ·exact aA (Ms:=[]) ho hE (by simp)
     obtain⟨o3,c3,rfl⟩:=hv
     simp only[zp]
     repeat ((first|refine zn ?_|refine zk ?_);simp only[zp])
     intro W8 hE hF
     have hE':Ext [] W6 W8:=hE
     have qM:W8.ownsRow W1.heap.size 30 2 (.slice o3 (i+1) c3) (i+1) (aH (rs.take (i+1))):=hF _ (bg _)
     have EW:Below W1.heap.size W1 W8:=⟨hE'.os.trans H6.o.2.1.os,hE'.tape.trans H6.o.2.1.tape,hE'.output.trans H6.o.2.1.output,jo H6.o.2.1.size hE'.size,fun b hb=>(hE'.block b (by have:=H6.o.2.1.size;omega) (by simp <;>omega)).trans (H6.o.2.1.block b hb)⟩
     have H8:=ae (ag qM EW)
     clear hE hF hE' qM EW p1 p2 p3
     go_wp2_with fail
     go_roundw
     case rel=>
      refine⟨i+1,by omega,by go_num,by rw[HS.o.1],by rw[HS.o.2.1],⟨o3,c3,rfl,H8.o.1⟩,H8.o.2,fun j hj hji=>?_⟩
      by_cases hje:j=i
      ·subst hje;rw[HRI.o];omega
      ·exact HX.o.2.2.2.2 j hj (by omega)
     case measure=>simp[intOf];omega
    |some a=>
     obtain⟨gb,rfl,hgb⟩: ∃gb:Nat,a=⟨gb,0,none⟩/\W1.heap.size<=gb:=by
      obtain⟨_,⟨hv,_⟩|⟨g,c,cs,hv,hbg,hrest⟩⟩:=H6.o.1
      ·cases hv
      ·simp at hv;exact⟨g,hv.1,hbg⟩
     have hgl:gb<W6.heap.size:=(bH H6.o.1 gb rfl).2
     have hgw:gb<wr.heap.size:=(bH HX.o.1 gb rfl).2
     have Jo:b9≠gb:=by omega
     refine zg 14 [gb] (some 3) [(2,Spec.slice W6.heap.size #[iv r.1,iv r.2] 30 1),(3,⟨fun _ v=> ∃o c,v= .slice o (i+1) c,fun _ v Wx=>Wx.ownsRow W1.heap.size 30 2 v (i+1) (aH (rs.take (i+1)))⟩)] ?_
     simp only[zt]
     repeat ((first|refine zn ?_|refine zk ?_);simp only[zp])
     refine cu W6.heap.size _ _ 1 (by rfl) (ai _) (by rfl) (by first|(simp;done)|simpa using hgl) (by simp) (fun W hW=>by go_simp;try rfl) (fun b2=>?_)
     simp only[zp]
     refine bJ _ (by rfl) (by rfl) (by exact⟨.slice none (i+1) 0,none,0,rfl⟩) (fun Wa hE hF=>?_) (fun v Wa Wb ho hE=>?_) (fun v hv=>?_)
     ·have hE':Ext [] W6 Wa:=hE
      obtain⟨b',hb',hge,hcc⟩:=hF _ (bg _) (by kernel_rfl)
      cases hb'
      have hown6:=aA (Ms:=[]) H6.o.1 hE' (by simp)
      have hsrc:aK 2 Wa (.slice (some ⟨b2,0,none⟩) 1 1) 1 (aH [r]):=aK.dw 2 1 hcc rfl (by decide)
      refine Does.mono (dU Gj (by rfl) (by rfl) hown6 (by rfl) hsrc (pz _) (by omega) (by omega) (by have:=hE'.size;have:=H6.o.2.1.size;omega)) ?_
      rintro v' Wc ⟨ho,hgr,hcase⟩
      refine⟨aT ho,?_,⟨hgr.os,hgr.tape,hgr.output,hgr.size,fun b hb hn=>hgr.block b hb (fun e=>by first|(simp[Value.ownBlock] at e;done)|(simp[Value.ownBlock] at e;exact hn (by simp[e])))⟩⟩
      show Wc.ownsRow _ _ _ v' (i+1) _
      rw[HS.o.2.2,pX]
      exact ho
     ·exact aA (Ms:=[]) ho hE (by simp)
     obtain⟨o3,c3,rfl⟩:=hv
     simp only[zp]
     repeat ((first|refine zn ?_|refine zk ?_);simp only[zp])
     intro W8 hE hF
     have hE':Ext [gb] W6 W8:=hE
     have qM:W8.ownsRow W1.heap.size 30 2 (.slice o3 (i+1) c3) (i+1) (aH (rs.take (i+1))):=hF _ (bg _)
     have EW:Below W1.heap.size W1 W8:=⟨hE'.os.trans H6.o.2.1.os,hE'.tape.trans H6.o.2.1.tape,hE'.output.trans H6.o.2.1.output,jo H6.o.2.1.size hE'.size,fun b hb=>(hE'.block b (by have:=H6.o.2.1.size;omega) (by simp <;>omega)).trans (H6.o.2.1.block b hb)⟩
     have H8:=ae (ag qM EW)
     clear hE hF hE' qM EW p1 p2 p3
     go_wp2_with fail
     go_roundw
     case rel=>
      refine⟨i+1,by omega,by go_num,by rw[HS.o.1],by rw[HS.o.2.1],⟨o3,c3,rfl,H8.o.1⟩,H8.o.2,fun j hj hji=>?_⟩
      by_cases hje:j=i
      ·subst hje;rw[HRI.o];omega
      ·exact HX.o.2.2.2.2 j hj (by omega)
     case measure=>simp[intOf];omega
  ·have hin:i=n:=by omega
   subst hin
   have htk:rs.take i=rs:=kK (by rw[F5.o.2];exact ai _)
   rw[htk] at how
   have hl:lD (·.1) rs i=Jl l out d:=by unfold Jl;rw[<-F5.o.1, <-zq,F5.o.2]
   have hh:lD (·.2) rs i=zY l out d:=by unfold zY;rw[<-F5.o.1, <-zq,F5.o.2]
   have hall:(qi l out d).all (fun r=>decide (r.1<=r.2))=true:=by
    rw[<-F5.o.1,jS]
    intro r hr
    obtain⟨j,hj,rfl⟩:=mF hr
    simpa using hok j hj (by rw[<-F5.o.2];exact hj)
   have hcp:jG l out d=(decide (Jl l out d<=l.box.2)&&decide (l.box.1<=zY l out d)):=by unfold jG;rw[hall,Bool.true_and]
   have hlo:=NG.o.2.1 i (by rw[F5.o.2];exact ai _)
   have hhi:=NG.o.2.2 i (by rw[F5.o.2];exact ai _)
   have hpl:kL l out d=rs.map fun r=>uB r (l.box.1-(zY l out d-r.2),l.box.2-(Jl l out d-r.1)):=by unfold kL;rw[F5.o.1]
   rw[hl,hh] at*
   generalize Jl l out d=YV at*
   generalize zY l out d=Zv at*
   have HCP:=ae hcp
   have HPL:=ae hpl
   have HO:=ae (ag how hB)
   have HWR:=ae hwr
   clear hl hh hall hcp hpl how hB hok hwr hkr hTr htk
   by_cases h1:YV>l.box.2
   ·have hF:jG l out d=false:=by rw[HCP.o,decide_eq_false (by omega)];rfl
    have HF:=ae hF
    clear hF
    go_wp2_with fail
    go_returns
    exact⟨aX HX1.o.1 HO.o.2,.inr ⟨HF.o,by simp⟩⟩
   by_cases h2:Zv<l.box.1
   ·have hF:jG l out d=false:=by rw[HCP.o,decide_eq_true (show YV<=l.box.2 by omega),decide_eq_false (by omega)];rfl
    have HF:=ae hF
    clear hF
    go_wp2_with fail
    go_returns
    exact⟨aX HX1.o.1 HO.o.2,.inr ⟨HF.o,by simp⟩⟩
   have hT:jG l out d=true:=by rw[HCP.o,decide_eq_true (show YV<=l.box.2 by omega),decide_eq_true (show l.box.1<=Zv by omega)];rfl
   have HTR:=ae hT
   clear hT
   have hpos:0<i:=by have:=hS.zV;have:=HN.o;omega
   obtain⟨gb,rfl,hgb⟩: ∃gb:Nat,oo=some ⟨gb,0,none⟩/\W1.heap.size<=gb:=by
    obtain⟨_,⟨hv,h0⟩|⟨g,c,cs,hv,hbg,hrest⟩⟩:=HO.o.1
    ·omega
    ·simp at hv;exact⟨g,hv.1,hbg⟩
   obtain⟨ps,hps⟩: ∃ps,kL l out d=ps:=⟨_,rfl⟩
   have ahj:ps.length=i:=by rw[<-hps,HPL.o,lJ,F5.o.2]
   have HPS:=ae (ag hps ahj)
   have hq0:ps.take 0++rs.drop 0=rs:=by simp
   have hown0:wr.ownsRow W1.heap.size 30 2 (.slice (some ⟨gb,0,none⟩) i oc) i (aH (ps.take 0++rs.drop 0)):=by rw[hq0];exact HO.o.1
   have HO0:=ae hown0
   clear hps ahj hq0 hown0
   go_wp2_with fail
   go_loopw [69] (fun u wq=> ∃j:Nat,j<=i/\u= .int .i64 j/\wq.ownsRow W1.heap.size 30 2 (.slice (some ⟨gb,0,none⟩) i oc) i (aH (ps.take j++rs.drop j))/\Below W1.heap.size W1 wq) (fun u _=>i-(intOf u).toNat)
   case atStart=>exact⟨0,bW _,rfl,HO0.o,HO.o.2⟩
   case round=>
    obtain⟨j,hj,rfl,how,hB⟩:=hrel
    by_cases hlt:j<i
    ·have hjr:j<rs.length:=by rw[F5.o.2];exact hlt
     have hjp:j<ps.length:=by rw[HPS.o.2];exact hlt
     have hQl:(ps.take j++rs.drop j).length=i:=by rw[dE,gX,lK,F5.o.2,HPS.o.2];omega
     have how':wr.ownsRow W1.heap.size 30 2 (.slice (some ⟨gb,0,none⟩) (ps.take j++rs.drop j).length oc) (ps.take j++rs.drop j).length (aH (ps.take j++rs.drop j)):=by rw[hQl];exact how
     have hQj:(ps.take j++rs.drop j)[j]'(by rw[hQl];exact hlt)=rs[j]:=by
      rw[List.getElem_append_right (by rw[gX];omega)]
      simp[gX,Nat.min_eq_left (nz hjp)]
     have hQn:(ps.take j++rs.drop j).set j ps[j]=ps.take (j+1)++rs.drop (j+1):=by
      rw[qK _ _ (by rw[gX];omega),gX,Nat.min_eq_left (nz hjp),Nat.sub_self,iy hjp,show rs.drop j=rs[j]::rs.drop (j+1) from A7 hjr,List.set_cons_zero,nS]
      rfl
     have hpj:ps[j]=uB rs[j] (l.box.1-(Zv-rs[j].2),l.box.2-(YV-rs[j].1)):=by
      have h1:=HPS.o.1
      have h2:=HPL.o
      rw[h1] at h2
      subst h2
      rw[List.getElem_map]
     have hop:=pq how' (show j<(ps.take j++rs.drop j).length by rw[hQl];exact hlt)
     have hbd:=NG.o.1 rs[j] (bT hjr)
     rw[hpj] at hQn
     rw[hQj] at hop
     generalize rs[j]=r at*
     obtain⟨g2,c2,hg2,acW,Xu,⟨s0,s1⟩,hfr2⟩:=hop
     obtain⟨rfl,rfl⟩:gb=g2/\oc=c2:=by simp at hg2;exact hg2
     have hwr:=(hB.block _ aeN).trans HX1.o.2.2.1
     have hb1: -10000<=Zv-r.2/\Zv-r.2<=10000:=by omega
     have hb2: -10000<=YV-r.1/\YV-r.1<=10000:=by omega
     have hb3: -20000<=l.box.1-(Zv-r.2)/\l.box.1-(Zv-r.2)<=20000:=by omega
     have hb4: -20000<=l.box.2-(YV-r.1)/\l.box.2-(YV-r.1)<=20000:=by omega
     have HQ:=ae (ag hQn (ag hQl (ag how' hB)))
     have xR:(j:Int)<i:=by omega
     have hbw:Below wr.heap.size wr wr:=aG _ _
     clear hpj hQn hQl how how' hB hQj hg2 hbw hjp hjr
     go_upto_region 15 with(fail)
     refine dH fun VI afi=>?_
     have XB:Below wr.heap.size wr VI:=by rw[afi];exact zl
     have ahQ:VI.heap[wr.heap.size]? =some (.cells #[iv r.1,iv r.2] 30 (0,0)):=by rw[afi];exact ay _ _
     have ag6:=(XB.block _ (aV.1 hwr).1).trans hwr
     have akj:=(XB.cell (p:=⟨gb,j*2,none⟩) Xu).trans s0
     have aki:=(XB.cell (p:=⟨gb,j*2+1,none⟩) Xu).trans s1
     have apm:=XB.size
     have anx:gb<VI.heap.size:=by omega
     have H14:=ae XB
     obtain⟨e1,e2,e3⟩:=af ag6
     obtain⟨e4,e5,e6⟩:=af ahQ
     clear afi XB ag6 hwr s0 s1 hfr2 ahQ
     refine zg 27 [] none [(26,Spec.val (rv (uB r (l.box.1-(Zv-r.2),l.box.2-(YV-r.1)))))] ?_
     simp only[zt]
     repeat ((first|refine zn ?_|refine zk ?_);simp only[zp])
     refine zw 236 (h:=fun W hE hF=>by exact both_any r (l.box.1-(Zv-r.2),l.box.2-(YV-r.1)) W) (t:=?_)
     simp only[zp]
     intro W hE hF
     obtain⟨hc,hf⟩:=bV hE.below
     have hzE:=hE.size
     (try simp only[bI] at hzE)
     have HE:=ae hE
     have hBW:Below wr.heap.size wr W:=aX H14.o hE.below
     have hown:W.ownsRow W1.heap.size 30 2 (.slice (some ⟨gb,0,none⟩) (ps.take j++rs.drop j).length oc) (ps.take j++rs.drop j).length (aH (ps.take j++rs.drop j)):=dQ HQ.o.2.2.1 fun g hg=>hBW.block g (bH HQ.o.2.2.1 g hg).2
     obtain⟨g3,c3,hg3,_,ahU,⟨t0,t1⟩,hfr3⟩:=pq hown (show j<(ps.take j++rs.drop j).length by rw[HQ.o.2.1];exact hlt)
     obtain⟨rfl,rfl⟩:gb=g3/\oc=c3:=by simp at hg3;exact hg3
     have hset:=nY hown (show j<(ps.take j++rs.drop j).length by rw[HQ.o.2.1];exact hlt) (uB r (l.box.1-(Zv-r.2),l.box.2-(YV-r.1)))
     rw[HQ.o.1] at hset
     have hsl:(ps.take (j+1)++rs.drop (j+1)).length=i:=by rw[<-HQ.o.1,qH,HQ.o.2.1]
     have HST:=ae (ag hset (ag hsl (aX HQ.o.2.2.2 hBW)))
     clear hE hF hown hg3 hset hsl hBW e1 e2 e3 e4 e5 e6 akj aki hc hf hzE
     go_wp2_with fail
     go_roundw
     case rel=>
      refine⟨j+1,by omega,by go_num,?_,iG (iG HST.o.2.2 hgb _) hgb _⟩
      have:=HST.o.1
      rw[HQ.o.2.1] at this
      exact this
     case measure=>simp[intOf];omega
    ·have hji:j=i:=by omega
     subst hji
     have hfin:ps.take j++rs.drop j=ps:=by rw[kK (by rw[HPS.o.2];exact ai _),List.drop_of_length_le (by rw[F5.o.2];exact ai _),List.append_nil]
     rw[hfin] at how
     have HF:=ae (ag how hB)
     clear hfin how hB
     go_wp2_with fail
     go_returns
     refine⟨aX HX1.o.1 HF.o.2,.inl ⟨HTR.o,_,by simp;rfl,?_⟩⟩
     rw[HPS.o.1,HPS.o.2]
     exact bY HF.o.1 (by omega)
end Go.Proofs.YthbpmepjmebolaaGreatDoor
end

/-
  Texts of this claim, packed by a program: QA QD.
-/
import Derived.WalkKit
import Derived.WalkLawsBesides
import Derived.WalkSpells
import Derived.Outline
import Derived.Handy
import Derived.KernelRfl
import Derived.Lib.Hide
import Derived.Test.YthllkbbbapgelaaGreatDoorPT5
set_option maxHeartbeats 8000000
set_option maxRecDepth 100000
set_option linter.all false
section
namespace Go.Proofs.YthllkbbbapgelaaGreatDoor
open Go.RowKit Go.RG Go.SL Go.Shelf jl Go.TB
abbrev xv (t:Ei):Value:= .agg #[.int .i64 t.1,.int .i64 t.2.1,.int .i64 t.2.2]
abbrev kT (l:aQ) (tv nv:Value):Array Value:= #[iv l.field.rows,iv l.field.aK,iv l.field.left.1,iv l.field.left.2,tv,iv l.rate,iv l.box.1,iv l.box.2,nv]
abbrev lv (l:aQ) (tv nv:Value):Value:= .agg (kT l tv nv)
def kW (r:dQ):Bool:=decide (r.1<=r.2)&&(nM r.1 0 2000&&nM r.2 0 2000)
def AA (l:aQ) (n:Ei):Bool:=nM n.1 0 (l.field.aK-1)&&kW n.2
theorem x9 (n l h:Int) (w:World):Calls Tryz.prog 117 #[iv n,iv l,iv h] w (PV (.bool (nM n l h)) w):=by
 by_cases h1:l<=n
 all_goals
  go_enter Tryz.func117,Tryz.ntmps117
  go_wp2
  go_returns
  exact⟨by simp[nM];omega,aH _ _⟩
theorem vG (n:Int) (w:World):Calls Tryz.prog 199 #[iv n] w (PV (.bool (nM n 0 2000)) w):=by
 go_enter Tryz.func199,Tryz.ntmps199
 go_wp2_with fail
 refine(x9 _ _ _ _).mono ?_
 rintro e w' ⟨rfl,hb⟩
 go_wp2_with fail
 go_returns
 exact⟨by simp,hb⟩
theorem Eg (r:dQ) (w:World):Calls Tryz.prog 118 #[rv r] w (PV (.bool (kW r)) w):=by
 obtain⟨p,q⟩:=r
 by_cases h0:p<=q
 ·obtain⟨x,hx⟩: ∃x,nM p 0 2000=x:=⟨_,rfl⟩
  have H1:=ae (fun w=>hx▸vG p w)
  have HX:=ae hx
  clear hx
  cases x
  ·have hF:kW (p,q)=false:=by unfold kW;simp only[HX.o];simp
   rw[hF]
   clear hF
   go_enter Tryz.func118,Tryz.ntmps118
   go_wp2_with fail
   refine(H1.o _).mono ?_
   rintro e w' ⟨rfl,hb⟩
   go_wp2_with fail
   go_returns
   exact⟨by simp,zl⟩
  ·have hF:kW (p,q)=nM q 0 2000:=by unfold kW;simp only[HX.o];simp[h0]
   rw[hF]
   clear hF
   go_enter Tryz.func118,Tryz.ntmps118
   go_wp2_with fail
   refine(H1.o _).mono ?_
   rintro e w' ⟨rfl,hb⟩
   obtain⟨hc,hf⟩:=bJ hb
   have hz0:w.heap.size<w'.heap.size:=(by have:=hb.size;(try simp only[bu] at this);omega)
   go_wp2_with fail
   refine(vG q _).mono ?_
   rintro e w2 ⟨rfl,hb2⟩
   go_wp2_with fail
   go_returns
   exact⟨by simp,zl⟩
 ·have hb0:decide (p<=q)=false:=by simpa using h0
  have hF:kW (p,q)=false:=by unfold kW;simp[h0]
  rw[hF]
  clear hF
  go_enter Tryz.func118,Tryz.ntmps118
  go_wp2
  go_returns
  exact⟨by simp,zl⟩
theorem note_any (l:aQ) (tv nv:Value) (n:Ei) (w:World) (h0: -1000<=l.field.aK) (h1:l.field.aK<=1000):
 Calls Tryz.prog 116 #[lv l tv nv,xv n] w (PV (.bool (AA l n)) w):=by
 obtain⟨x,hx⟩: ∃x,nM n.1 0 (l.field.aK-1)=x:=⟨_,rfl⟩
 have H1:=ae (fun w=>hx▸x9 n.1 0 (l.field.aK-1) w)
 have HX:=ae hx
 clear hx
 cases x
 ·have hF:AA l n=false:=by unfold AA;rw[HX.o];rfl
  rw[hF]
  clear hF
  go_enter Tryz.func116,Tryz.ntmps116
  go_wp2_with fail
  refine(H1.o _).mono ?_
  rintro e w' ⟨rfl,hb⟩
  go_wp2_with fail
  go_returns
  exact⟨by simp,zl⟩
 ·have hF:AA l n=kW n.2:=by unfold AA;rw[HX.o];rfl
  rw[hF]
  clear hF
  go_enter Tryz.func116,Tryz.ntmps116
  go_wp2_with fail
  refine(H1.o _).mono ?_
  rintro e w' ⟨rfl,hb⟩
  obtain⟨hc,hf⟩:=bJ hb
  have hz0:w.heap.size<w'.heap.size:=(by have:=hb.size;(try simp only[bu] at this);omega)
  have hz1:w.heap.size+1<w'.heap.size:=(by have:=hb.size;(try simp only[bu] at this);omega)
  go_wp2_with fail
  refine(Eg n.2 _).mono ?_
  rintro e w2 ⟨rfl,hb2⟩
  go_wp2_with fail
  go_returns
  exact⟨by simp,zl⟩
theorem A8 (a b:Int) (g c:Nat) (w:World) (h0:w.cell? ⟨g,0,none⟩=some (iv a)) (h1:w.cell? ⟨g,1,none⟩=some (iv b)):
 Calls Tryz.prog 272 #[.slice (some ⟨g,0,none⟩) 2 c] w (PV (iv (min a b)) w):=by
 have H:=ae (AB a b g c w h0 h1)
 go_enter Tryz.func272,Tryz.ntmps272
 go_wp2_with fail
 refine H.o.mono ?_
 rintro e w' ⟨rfl,hb⟩
 go_wp2_with fail
 go_returns
 exact⟨by simp,hb⟩
theorem both_any (r x:dQ) (w:World):Calls Tryz.prog 204 #[rv r,rv x] w (PV (rv (tN r x)) w):=by
 go_enter Tryz.func204,Tryz.ntmps204
 go_wp2_with fail
 refine zg 12 [] none [(9,Spec.slice (w.heap.size+3) #[iv r.2,iv x.2] 3 2),(10,Spec.val (iv (min r.2 x.2)))] ?_
 simp only[zt]
 repeat (refine zd ?_;simp only[zp])
 refine dX (w.heap.size+3) _ _ _ (by rfl) (by simp) (by rfl) (by simp) (by simp) (fun W hW=>by go_simp;try rfl) (fun b=>?_)
 simp only[zp]
 refine eu _ (by rfl) (by rfl) 272 _ (fun W hW=>by go_simp;try rfl) (fun W hE hF=>?_) ?_
 ·obtain⟨c,hcb,hB,hc⟩:=hF _ (bF _) (by kernel_rfl)
  cases hcb
  exact A8 r.2 x.2 b 2 W (by simp[World.cell?,hc]) (by simp[World.cell?,hc])
 simp only[zp]
 repeat (refine zd ?_;simp only[zp])
 intro W hE hF
 obtain⟨hc,hf⟩:=bJ hE.below
 have hzE:=hE.size
 (try simp only[bu] at hzE)
 go_wp2
 all_goals
  (try simp only[Exit.inBlock,Exit.then])
  refine bodyPost_ret (v:=rv (max r.1 x.1,min r.2 x.2)) (by simp[results,Tryz.results204,go_sem,hc];try omega) rfl ?_
  exact⟨rfl,ze⟩
end Go.Proofs.YthllkbbbapgelaaGreatDoor
namespace Go.Proofs.YthllkbbbapgelaaGreatDoor
open Go.RowKit Go.RG Go.SL Go.Shelf jl Go.TB
theorem ajl (l:List Ei) (v:Value) (aZ:Nat) (fst caps:Array Value) (p:Nat->Bool) (I:Nat->World->Prop) (w:World) (eg: ∀args w,(callFunc aZ args).run Tryz.prog w= .ok (.enter aZ args) w)
 (hsl: ∀k W,I k W->bI W v l)
 (hcall: ∀k (hk:k<l.length) W,(∀j,j<k->p j=false)->I k W->Calls Tryz.prog aZ (fst.push (xv l[k])++caps) W (fun e W'=>e= .returned (.bool (p k))/\I (k+1) W')) (h0:I 0 w):
 Calls Tryz.prog 268 #[v,.func (.func aZ) fst caps] w (dZ l.length p I (fun k=>iv k) (iv (-1))):=by
 have hlen:=(hsl 0 w h0).len
 obtain⟨o,c,rfl⟩:=(hsl 0 w h0).open
 have HC:=ae hcall
 have HS:=ae hsl
 clear hcall hsl
 go_enter Tryz.func268,Tryz.ntmps268
 go_wp2
 go_loopw [4,5,8] (fun _ _ i wr=> ∃k:Nat,k<=l.length/\i= .int .i64 k/\(∀j,j<k->p j=false)/\I k wr) (fun _ _ i _=>l.length-(intOf i).toNat)
 case atStart=>exact⟨0,bM _,rfl,fun j hj=>by omega,h0⟩
 case round=>
  obtain⟨k,hk,rfl,hno,hI⟩:=hrel
  by_cases hlt:k<l.length
  ·obtain⟨b,off,rfl,hb,hc0,hc1,hc2⟩:=bI.cell (HS.o k wr hI) hlt
   have hC:=HC.o k hlt wr hno hI
   have HN:=ae hno
   clear hno
   go_wp2_with fail
   refine hC.mono ?_
   rintro e W1 ⟨rfl,hI1⟩
   have HI:=ae hI1
   clear hI1 hI hC
   cases hp:p k
   ·go_wp2_with fail
    go_roundw
    case rel=>exact⟨k+1,by omega,by go_num,fun j hj=>(by by_cases e:j=k;(subst e;exact hp);exact HN.o j (by omega)),HI.o⟩
    case measure=>simp[intOf];omega
   ·go_wp2_with fail
    go_returns
    exact⟨k,by omega,HN.o,.inl ⟨hlt,hp,by simp,HI.o⟩⟩
  ·have hkl:k=l.length:=by omega
   have HN:=ae hno
   clear hno
   go_wp2_with fail
   go_returns
   exact⟨k,by omega,HN.o,.inr ⟨hkl,by simp,by subst hkl;exact hI⟩⟩
theorem ahC (l:List Ei) (v:Value) (aZ:Nat) (fst caps:Array Value) (p:Nat->Bool) (I:Nat->World->Prop) (w:World) (eg: ∀args w,(callFunc aZ args).run Tryz.prog w= .ok (.enter aZ args) w)
 (hsl: ∀k W,I k W->bI W v l)
 (hcall: ∀k (hk:k<l.length) W,(∀j,j<k->p j=false)->I k W->Calls Tryz.prog aZ (fst.push (xv l[k])++caps) W (fun e W'=>e= .returned (.bool (p k))/\I (k+1) W')) (h0:I 0 w):
 Calls Tryz.prog 200 #[v,.func (.func aZ) fst caps] w (dZ l.length p I (fun _=> .bool true) (.bool false)):=by
 have HI:=ae (ajl l v aZ fst caps p I w eg hsl hcall h0)
 have hlen:=(hsl 0 w h0).len
 clear hsl hcall h0 eg
 go_enter Tryz.func200,Tryz.ntmps200
 go_wp2_with fail
 refine HI.o.mono ?_
 clear HI
 rintro e W' ⟨k,hk,hno,⟨hlt,hp,rfl,hI⟩|⟨hkl,rfl,hI⟩⟩
 ·have HN:=ae (ag hno (ag hp hI))
  clear hno hp hI
  go_wp2_with fail
  go_returns
  exact⟨k,hk,HN.o.1,.inl ⟨hlt,HN.o.2.1,by simp,HN.o.2.2⟩⟩
 ·have HN:=ae (ag hno (ag hkl hI))
  clear hno hkl hI
  go_wp2_with fail
  go_returns
  exact⟨k,hk,HN.o.1,.inr ⟨HN.o.2.1,by simp,HN.o.2.1▸HN.o.2.2⟩⟩
theorem ahK (x:Ei) (bx aZ:Nat) (fst caps:Array Value) (b:Bool) (W:World) (R:World->Prop) (eg: ∀args w,(callFunc aZ args).run Tryz.prog w= .ok (.enter aZ args) w)
 (hbx:W.cell? ⟨bx,0,none⟩=some (.func (.func aZ) fst caps))
 (hcall:Calls Tryz.prog aZ (fst.push (xv x)++caps) (W.alloc (.cells #[iv x.1,iv x.2.1,iv x.2.2] 188)) (fun e W'=>e= .returned (.bool b)/\R W')):
 Calls Tryz.prog 201 #[xv x,.pointer (some ⟨bx,0,none⟩)] W (fun e W'=>e= .returned (.bool !b)/\R W'):=by
 have hlt:=dG W _ hbx
 have HC:=ae hcall
 clear hcall
 go_enter Tryz.func201,Tryz.ntmps201
 go_wp2_with fail
 refine HC.o.mono ?_
 rintro e W' ⟨rfl,hR⟩
 have HR:=ae hR
 clear hR
 go_wp2_with fail
 go_returns
 exact⟨by simp,HR.o⟩
theorem akK (l:List Ei) (v:Value) (aZ:Nat) (fst caps:Array Value) (p:Nat->Bool) (I:Nat->World->Prop) (w:World) (eg: ∀args w,(callFunc aZ args).run Tryz.prog w= .ok (.enter aZ args) w)
 (hsl: ∀k W,I k W->bI W v l) (hal: ∀k W o,I k W->I k (W.alloc o))
 (hcall: ∀k (hk:k<l.length) W,(∀j,j<k->p j=true)->I k W->Calls Tryz.prog aZ (fst.push (xv l[k])++caps) W (fun e W'=>e= .returned (.bool (p k))/\I (k+1) W'/\jk w.heap.size W W')) (h0:I 0 w):
 Calls Tryz.prog 119 #[v,.func (.func aZ) fst caps] w (dZ l.length (fun k=>!p k) I (fun _=> .bool false) (.bool true)):=by
 have HI:=ae (ahC l v 201 #[] #[.pointer (some ⟨w.heap.size,0,none⟩)] (fun k=>!p k)
  (fun k W=>I k W/\W.heap[w.heap.size]? =some (.cells #[.func (.func aZ) fst caps] 248 (0,0))) (w.alloc (.cells #[.func (.func aZ) fst caps] 248))
  (enters_of Tryz.func201 (by kernel_rfl) rfl) (fun k W h=>hsl k W h.1)
  (fun k hk W hno h=>by
    have hlt:w.heap.size<W.heap.size:=(aS.1 h.2).1
    refine(ahK l[k] w.heap.size aZ fst caps (p k) W (fun W'=>I (k+1) W'/\W'.heap[w.heap.size]? =some (.cells #[.func (.func aZ) fst caps] 248 (0,0))) eg (aB h.2) ?_)
    refine(hcall k hk _ (fun j hj=>by simpa using hno j hj) (by first|exact hal _ _ _ h.1|exact h.1)).mono ?_
    rintro e W' ⟨rfl,h1,h2⟩
    refine⟨rfl,h1,(h2.block _ (ai _) (by first|exact hlt|(simp;omega))).trans (by first|exact h.2|exact(aV _ _ _ hlt).trans h.2)⟩)
  ⟨hal _ _ _ h0,heap_alloc_new w _⟩)
 have hlen:=(hsl 0 w h0).len
 clear hsl hcall h0 eg hal
 go_enter Tryz.func119,Tryz.ntmps119
 go_wp2_with fail
 refine HI.o.mono ?_
 clear HI
 rintro e W' ⟨k,hk,hno,⟨hlt,hp,rfl,hI,_⟩|⟨hkl,rfl,hI,_⟩⟩
 ·have HN:=ae (ag hno (ag hp hI))
  clear hno hp hI
  go_wp2_with fail
  go_returns
  exact⟨k,hk,HN.o.1,.inl ⟨hlt,HN.o.2.1,by simp,HN.o.2.2⟩⟩
 ·have HN:=ae (ag hno (ag hkl hI))
  clear hno hkl hI
  go_wp2_with fail
  go_returns
  exact⟨k,hk,HN.o.1,.inr ⟨HN.o.2.1,by simp,HN.o.2.1▸HN.o.2.2⟩⟩
theorem Xb (l:List Ei) (v:Value) (aZ:Nat) (fst caps:Array Value) (q:Ei->Bool) (w:World) (hv:bI w v l) (eg: ∀args w,(callFunc aZ args).run Tryz.prog w= .ok (.enter aZ args) w)
 (hcall: ∀x∈l, ∀W,Below w.heap.size w W->Calls Tryz.prog aZ (fst.push (xv x)++caps) W (PV (.bool (q x)) W)):
 Calls Tryz.prog 119 #[v,.func (.func aZ) fst caps] w (PV (.bool (l.all q)) w):=by
 refine(akK l v aZ fst caps (fun k=>q (l.getD k (0,0,0))) (fun _ W=>Below w.heap.size w W) w eg (fun k W h=>hv.below h (ai _)) (fun k W o h=>ak h o) (fun k hk W _ h=>?_) (aH _ _)).mono ?_
 ·refine(hcall l[k] (df _) W h).mono ?_
  rintro e W' ⟨rfl,hb⟩
  exact⟨by simp[hk],bn h hb,jk.aA hb⟩
 ·intro e W' hpost
  obtain⟨rfl,k,_,hI⟩:=hpost.all
  refine⟨?_,hI⟩
  rw[jC,jL]
end Go.Proofs.YthllkbbbapgelaaGreatDoor
namespace Go.Proofs.YthllkbbbapgelaaGreatDoor
open Go.RowKit Go.RG Go.SL Go.Shelf jl Go.TB
attribute [local go_sem] Oper.semAt_some
theorem nH {l:List Int} (h:l.length=3): ∃a b c,l=[a,b,c]:=by
 match l,h with
 |[a,b,c],_=>exact⟨a,b,c,rfl⟩
theorem ZT (l:aQ) (tv nv rvv:Value) (rows:List Int) (w:World) (hr:aO w rvv rows) (h0:0<=l.rate) (h1:l.rate<=50) (h7:rows.length<=7) (hb: ∀x∈rows,x<3):
 Calls Tryz.prog 203 #[lv l tv nv,rvv] w (fun e w'=>e= .returned (lQ (lM l.rate rows))/\Below w.heap.size w w'/\w.heap.size<w'.heap.size):=by
 obtain⟨ro,rc,rfl⟩:=hr.open
 have HR:=ae hr
 have HB:=ae hb
 clear hr hb
 go_enter Tryz.func203,Tryz.ntmps203
 go_wp2_with fail
 go_loopw [9] (fun u wr=> ∃k:Nat,k<=rows.length/\u= .int .i64 k/\Below w.heap.size w wr/\wr.heap[w.heap.size]? =some (.cells (kT l tv nv) 49 (0,0))/\wr.heap[w.heap.size+1]? =some (.cells (ah (lM l.rate (rows.take k))).toArray 257 (0,0))) (fun u _=>rows.length-(intOf u).toNat)
 case atStart=>
  refine⟨0,bM _,rfl,zl,(aV _ _ _ (by simp)).trans (ay _ _),?_⟩
  rw[List.take_zero,Wu]
  exact dU _ _ _
 case round=>
  obtain⟨k,hk,rfl,hB,hk0,hk1⟩:=hrel
  obtain⟨c0,f0,l0⟩:=af hk0
  by_cases hlt:k<rows.length
  ·have uS:=HR.o.below hB (ai _)
   obtain⟨b,off,rfl,hb,hc0⟩:=aO.cell uS hlt
   have hx3:=HB.o _ (df hlt)
   have hsu:rows.take (k+1)=rows.take k++[rows[k]]:=iC hlt
   have hbd:=GK h0 h1 (rows.take k) (by rw[gJ];omega)
   generalize rows[k]=x at*
   have wX:=ae hsu
   have HK:=ae (ag hB (ag hk0 hk1))
   have HBD:=ae hbd
   clear uS hsu hB hk0 hbd
   by_cases hx:0<=x
   ·obtain⟨n,rfl⟩: ∃n:Nat,x=n:=⟨x.toNat,by omega⟩
    have hn3:n<3:=by omega
    obtain⟨d,hd⟩: ∃d,(lM l.rate (rows.take k)).getD n 0=d:=⟨_,rfl⟩
    have hdb:=HBD.o n hn3
    rw[hd] at hdb
    have hcell:=gG hk1 (show n<(lM l.rate (rows.take k)).length by rw[kV];omega)
    rw[show(lM l.rate (rows.take k))[n]'(by rw[kV];omega)=d from by rw[<-hd];simp[List.getD,kV,hn3]] at hcell
    have hfr:=bg hk1 n
    have hl1:=dG wr _ hcell
    have HD:=ae hd
    clear hd hk1
    go_upto_region 5 with(fail)
    refine zg 7 [] none [] ?_
    simp only[zt]
    repeat (refine zn ?_;simp only[zp])
    intro W hE hF
    obtain⟨hc,hf⟩:=bJ hE.below
    have hzE:=hE.size
    (try simp only[bu] at hzE)
    have HE:=ae hE
    clear hF hzE
    go_wp2_with fail
    go_roundw
    case rel=>
     refine⟨k+1,by omega,by go_num,iD (bn HK.o.1 HE.o.below) (by simp) _,(dF _ _ _ _ (by show w.heap.size≠w.heap.size+1;omega)).trans ((HE.o.block _ l0 (by simp)).trans HK.o.2.1),?_⟩
     rw[wX.o, <-RS _ _ _ hn3,HD.o, <-sO]
     exact aI ((HE.o.block _ hl1 (by simp)).trans HK.o.2.2) _
    case measure=>simp[intOf];omega
   ·have hxb:decide (0<=x)=false:=by simpa using hx
    have HX:=ae hx
    clear hk1
    go_wp2_with fail
    go_roundw
    case rel=>
     refine⟨k+1,by omega,by go_num,HK.o.1,HK.o.2.1,?_⟩
     rw[wX.o,RU _ _ _ (by have:=HX.o;omega)]
     exact HK.o.2.2
    case measure=>simp[intOf];omega
  ·have hkl:k=rows.length:=by omega
   subst hkl
   rw[List.take_length] at hk1
   obtain⟨y0,y1,y2,hys⟩:=nH (kV l.rate rows)
   rw[hys] at hk1
   have adW:wr.heap[w.heap.size+1]? =some (.cells #[iv y0,iv y1,iv y2] 257 (0,0)):=hk1
   obtain⟨c1,f1,l1⟩:=af adW
   have BG:=ae hys
   have HB':=ae hB
   have hkF:(((wr.setCell ⟨w.heap.size+1,0,none⟩ (iv y0)).setCell ⟨w.heap.size+1,1,none⟩ (iv y1)).setCell ⟨w.heap.size+1,2,none⟩ (iv y2)).heap[w.heap.size+1]? =some (.cells #[iv y0,iv y1,iv y2] 257 (0,0)):=aI (aI (aI adW _) _) _
   obtain⟨cF,fF,lF⟩:=af hkF
   clear hk0 hk1 adW hB hys hkF
   go_wp2_with fail
   (try rw[Exit.noGoto_ret])
   refine bodyPost_ret (v:= .agg #[iv y0,iv y1,iv y2]) (by simp[results,Tryz.results203,go_sem,cF]) rfl ?_
   exact⟨by rw[BG.o];rfl,iD (iD (iD HB'.o (by simp) _) (by simp) _) (by simp) _,by simp[World.setCell];omega⟩
theorem FM {f:bQ} (hf:jS f=0) {x:List Int} (hx:x∈qo f):oH f x=je f [] x:=by
 have hS:=iF hf
 have h0:=hS.zu
 obtain⟨h1,h2⟩:=FY.1 hx
 have hall:x.all (Am f)=true:=by
  rw[jV]
  intro n hn
  obtain⟨i,hi,rfl⟩:=lY hn
  have:=h2 i (by omega)
  rw[show x.getD i 0=x[i] from by simp[List.getD,hi]] at this
  simp only[Am,nM,Bool.or_eq_true,beq_iff_eq,eF,eQ]
  omega
 unfold oH
 rw[hf,hall,decide_eq_true (show(x.length:Int)=f.rows by omega)]
 simp
structure XP (W:World) (n bl bo jo bc ob l:Nat) (o:List Int):Prop where
 y:W.heap[jo]? =some (.cells #[.func (.yield l) #[] #[]] 163 (0,0))
 out:W.heap[bo]? =some (.cells #[.slice (some ⟨ob,0,none⟩) n n] 52 (0,0))
 ch:W.heap[bc]? =some (.cells #[.func (.func 270) #[] #[.pointer (some ⟨bo,0,none⟩),.pointer (some ⟨bl,0,none⟩),.pointer (some ⟨jo,0,none⟩),.pointer (some ⟨bc,0,none⟩)]] 274 (0,0))
 cells:W.heap[ob]? =some (.cells (ah o).toArray 3 (0,0))
theorem XP.kept {W W':World} {n bl bo jo bc ob l:Nat} {o:List Int} (h:XP W n bl bo jo bc ob l o) (hk: ∀m∈[ob,jo,bo,bc],m<W.heap.size->W'.heap[m]? =W.heap[m]?):XP W' n bl bo jo bc ob l o:=
 ⟨(hk _ (by simp) (aS.1 h.y).1).trans h.y,(hk _ (by simp) (aS.1 h.out).1).trans h.out,(hk _ (by simp) (aS.1 h.ch).1).trans h.ch,(hk _ (by simp) (aS.1 h.cells).1).trans h.cells⟩
theorem XP.below {W W':World} {n bl bo jo bc ob l:Nat} {o:List Int} (h:XP W n bl bo jo bc ob l o) (hb:Below W.heap.size W W'):XP W' n bl bo jo bc ob l o:=h.kept fun m _ hm=>hb.block m hm
theorem XP.set {W:World} {n bl bo jo bc ob l:Nat} {o:List Int} (h:XP W n bl bo jo bc ob l o) (hd1:jo≠ob) (hd2:bo≠ob) (hd3:bc≠ob) (i:Nat) (x:Int):XP (W.setCell ⟨ob,i,none⟩ (iv x)) n bl bo jo bc ob l (o.set i x):=
 ⟨(dF _ _ _ _ hd1).trans h.y,(dF _ _ _ _ hd2).trans h.out,(dF _ _ _ _ hd3).trans h.ch,by rw[<-sO];exact aI h.cells _⟩
def ahO (Ms:List Nat) (x:List Int) (v:Value) (W:World):Prop:=
 ∃ob:Nat,v= .slice (some ⟨ob,0,none⟩) x.length x.length/\W.heap[ob]? =some (.cells (ah x).toArray 3 (0,0))/\ob∈Ms
structure ac4 (bl:Nat) (l:aQ) (tv nv:Value) (W:World):Prop where
 lb:W.heap[bl]? =some (.cells (kT l tv nv) 49 (0,0))
 xn:dV W tv l.field.ax
theorem Nq (l:aQ) (hf:jS l.field=0) (tv nv:Value) (bl bo jo bc ob y:Nat) (hd1:jo≠ob) (hd2:bo≠ob) (hd3:bc≠ob) (J:List Nat->Option Nat->World->Prop)
 (hInv: ∀Ms s W1,J Ms s W1->ac4 bl l tv nv W1)
 (hstep: ∀Ms Ms' s W1 W2,J Ms s W1->Ext Ms W1 W2->(∀m∈Ms',m∈Ms∨(W1.heap.size<=m/\m<W2.heap.size))->True->J Ms' s W2)
 (hY: ∀Ms k v W1 (hk:k<(bT l.field []).length),J Ms (some k) W1->ahO Ms (bT l.field [])[k] v W1->YieldAt Fence.wide 0 Tryz.prog y #[v] W1 fun e W'=>
   ((∀m∈Ms,m∉[]->m<W1.heap.size->W'.heap[m]? =W1.heap[m]?)/\W1.heap.size<=W'.heap.size)/\((e= .returned (.bool true)/\J Ms (some (k+1)) W')∨(e= .returned (.bool false)/\J Ms none W'))):
 ∀(m i k:Nat) (pre:List Int) (W:World) (o:List Int),i+m=l.field.rows.toNat->pre.length=i->o.length=l.field.rows.toNat->o.take i=pre->jE (eX l.field) i k pre->XP W l.field.rows.toNat bl bo jo bc ob y o->J [ob,jo,bo,bc] (some (uq l.field [] k)) W->
  CallsIn Fence.wide 0 Tryz.prog 270 #[iv i,.pointer (some ⟨bo,0,none⟩),.pointer (some ⟨bl,0,none⟩),.pointer (some ⟨jo,0,none⟩),.pointer (some ⟨bc,0,none⟩)] W
   (fun e W'=>(e= .returned (.bool true)/\J [ob,jo,bo,bc] (some (uq l.field [] (k+(fB ((eX l.field).drop i)).length))) W'/\ ∃o',o'.length=l.field.rows.toNat/\o'.take i=pre/\XP W' l.field.rows.toNat bl bo jo bc ob y o')∨
     (e= .returned (.bool false)/\J [ob,jo,bo,bc] none W')):=by
 have hS:=iF hf
 have hRl:(eX l.field).length=l.field.rows.toNat:=by simp[eX]
 intro m
 induction m with
 |zero=>
  intro i k pre W o him hpl hol hot hat hst hJ
  have hrow:(i:Int)=(l.field.rows.toNat:Int):=by omega
  obtain⟨hone,hk,hx⟩:=hat.last (by omega)
  rw[hone]
  obtain rfl:o=pre:=by rw[<-hot,show i=o.length by omega,List.take_length]
  have hk':k<(qo l.field).length:=hk
  have hxx:(qo l.field)[k]=o:=hx
  obtain⟨hbl,htl⟩:=hInv _ _ _ hJ
  have hrt:=Em l.field tv (.slice (some ⟨ob,0,none⟩) l.field.rows.toNat l.field.rows.toNat) o W htl (by rw[<-hol];exact aN.dD (cs:=(ah o).toArray) 1 o.length hst.cells (by simp[ah]) (by have:=hS.qH;simp only[maxLen];omega))
  rw[FM hf (hxx▸df hk')] at hrt
  obtain⟨PX,cf1,SA⟩:=af hbl
  obtain⟨cc2,cf2,cl2⟩:=af hst.out
  obtain⟨cc3,cf3,cl3⟩:=af hst.y
  have HR:=ae hrt
  have HS:=ae hst
  have HJ:=ae hJ
  have HST:=ae hstep
  have HY:=ae hY
  have HK:=ae (show ∃h:k<(qo l.field).length,(qo l.field)[k]=o from⟨hk',hxx⟩)
  have HO:=ae (ag hol hot)
  have Ue:=hS.qH
  have heq:((i:Int)==(l.field.rows.toNat:Int))=true:=by simpa using hrow
  clear hrt hInv hstep hY hst hJ hbl htl hat hxx hx hk hk' hone hrow hot hS
  obtain⟨q,hq⟩: ∃q,je l.field [] o=q:=⟨_,rfl⟩
  have HQ:=ae hq
  rw[hq] at HR
  clear hq
  have aby:o.length=l.field.rows.toNat:=HO.out.1
  obtain⟨rn,hrn⟩: ∃rn,l.field.rows.toNat=rn:=⟨_,rfl⟩
  rw[hrn] at HR heq cc2 aby⊢
  have HRN:=ae hrn
  clear hrn him
  cases q
  ·skip
   refine callsIn_of_wp Tryz.func270 rfl trivial ?_
   simp only[Tryz.ntmps270,List.size_toArray,List.length_cons,List.length_nil,Nat.reduceAdd,Nat.reduceSub,Array.replicate_succ,Array.replicate_zero,kG,kH,List.nil_append,List.cons_append]
   gi_wp2_with fail
   refine(callsIn_wide.2 HR.out).mono ?_
   rintro e W1 ⟨rfl,hb1⟩
   have HB1:=ae hb1
   clear hb1
   gi_wp2_with fail
   go_returns
   have hJ1:=HST.out _ _ _ _ _ HJ.out (Ext.aA HB1.out) (fun m hm=> .inl hm) trivial
   obtain⟨hk',hxx⟩:=HK.out
   rw[<-Us hk' (by rw[hxx];exact HQ.out)] at hJ1
   exact .inl ⟨by simp,hJ1,o,aby,HO.out.2,HRN.out▸HS.out.below HB1.out⟩
  ·skip
   refine callsIn_of_wp Tryz.func270 rfl trivial ?_
   simp only[Tryz.ntmps270,List.size_toArray,List.length_cons,List.length_nil,Nat.reduceAdd,Nat.reduceSub,Array.replicate_succ,Array.replicate_zero,kG,kH,List.nil_append,List.cons_append]
   gi_wp2_with fail
   refine(callsIn_wide.2 HR.out).mono ?_
   rintro e W1 ⟨rfl,hb1⟩
   obtain⟨hc1,hf1⟩:=bJ hb1
   have hs1:=hb1.size
   have HB1:=ae hb1
   have hJ1:=HST.out _ _ _ _ _ HJ.out (Ext.aA hb1) (fun m hm=> .inl hm) trivial
   obtain⟨hk',hxx⟩:=HK.out
   obtain⟨hc,hx⟩:=Fb hk' (by rw[hxx];exact HQ.out)
   obtain⟨g1,t1,a1,b1,hy1,hR1⟩:=HY.out _ _ (.slice (some ⟨ob,0,none⟩) rn rn) W1 hc hJ1 (by
    rw[hx,hxx]
    exact⟨ob,by rw[aby],(HS.out.below HB1.out).cells,by simp⟩)
   have hcn:uq l.field [] (k+1)=uq l.field [] k+1:=OQ hk' (by rw[hxx];exact HQ.out)
   have HR1:=ae hR1
   have HCN:=ae hcn
   clear hR1 hJ1 hk' hxx hc hx hcn hb1
   gi_wp2_with fail
   refine HR1.out.mono ?_
   rintro e W' ⟨⟨hkeep,hsz⟩,⟨rfl,hJ⟩|⟨rfl,hJ⟩⟩
   ·have HJ':=ae hJ
    have HK':=ae hkeep
    clear hJ hkeep
    gi_wp2_with fail
    go_returns
    exact .inl ⟨by simp,by rw[HCN.out];exact HJ'.out,o,aby,HO.out.2,HRN.out▸(HS.out.below HB1.out).kept (fun m hm hml=>HK'.out m hm (by simp) hml)⟩
   ·have HJ':=ae hJ
    clear hJ hkeep
    gi_wp2_with fail
    go_returns
    exact .inr ⟨by simp,HJ'.out⟩
 |succ m ih=>
  intro i k pre W o him hpl hol hot hat hst hJ
  have hi:i<(eX l.field).length:=by omega
  have hcount:=jE.count hi
  have hw0:=hS.zq
  have hw1:=hS.wR
  have Ue:=hS.qH
  have hr0:=hS.zu
  have D5:(eX l.field)[i]=(-1,l.field.aK-1):=by simp[eX]
  obtain⟨z,hz,hz4⟩: ∃z:Nat,(z:Int)=l.field.aK+1/\z<=4:=⟨(l.field.aK+1).toNat,by omega,by omega⟩
  have hsz:(ed (eX l.field)[i]).toNat=z:=by rw[D5];unfold ed;simp only;omega
  rw[hsz] at hcount
  obtain⟨hbl,htl⟩:=hInv _ _ _ hJ
  obtain⟨PX,cf1,SA⟩:=af hbl
  obtain⟨cc2,cf2,cl2⟩:=af hst.out
  have hne:(i:Int)≠(l.field.rows.toNat:Int):=by omega
  have hneb:((i:Int)==(l.field.rows.toNat:Int))=false:=by simpa using hne
  have TG:Hid (∀c:Nat,c<z->jE (eX l.field) (i+1) (k+c*(fB ((eX l.field).drop (i+1))).length) (pre++[(c:Int)-1])):=ae (fun c hc=>by
   have:=hat.next hi c (by rw[hsz];exact hc)
   rw[D5] at this
   rw[show(c:Int)-1= -1+(c:Int) from by omega]
   exact this)
  have HI:=ae hInv
  have HST:=ae hstep
  have HS:=ae hst
  have HJ:=ae hJ
  have HIH:=ae ih
  have J4:=ae (ag hol hot)
  have HCZ:=ae hcount
  have HZ:=ae hz
  have hi7:i<7:=by omega
  have hiR:i<l.field.rows.toNat:=by omega
  have hR7:l.field.rows.toNat<=7:=by omega
  clear hInv hstep hY hat hst hJ ih hcount hne hbl htl D5 hsz hi hol hot hRl hz hS
  obtain⟨rn,hrn⟩: ∃rn,l.field.rows.toNat=rn:=⟨_,rfl⟩
  rw[hrn] at HS HIH J4 hiR hR7 him hneb cc2⊢
  clear hrn
  refine callsIn_of_wp Tryz.func270 rfl trivial ?_
  simp only[Tryz.ntmps270,List.size_toArray,List.length_cons,List.length_nil,Nat.reduceAdd,Nat.reduceSub,Array.replicate_succ,Array.replicate_zero,kG,kH,List.nil_append,List.cons_append]
  gi_wp2_with fail
  rw[<-HZ.out]
  gi_loopw [26] (fun u wr=> ∃c:Nat,c<=z/\u= .int .i64 c/\ ∃o':List Int,o'.length=rn/\o'.take i=pre/\XP wr rn bl bo jo bc ob y o'/\J [ob,jo,bo,bc] (some (uq l.field [] (k+c*(fB ((eX l.field).drop (i+1))).length))) wr)
   (fun u _=>z-(intOf u).toNat)
  case atStart=>exact⟨0,bM _,rfl,o,J4.out.1,J4.out.2,HS.out,by simpa using HJ.out⟩
  case round=>
   obtain⟨c,hcz,rfl,o',ho1,ho2,hst,hJ⟩:=hrel
   by_cases hlt:c<z
   ·obtain⟨cd1,O7,OV⟩:=af hst.out
    obtain⟨cd3,O6,OU⟩:=af hst.ch
    obtain⟨yv,hcell⟩: ∃yv,wr.cell? ⟨ob,i,none⟩=some (iv yv):=⟨_,gG hst.cells (show i<o'.length by omega)⟩
    have hab:=dG wr _ hcell
    have hfr:=bg hst.cells i
    have Hm:=ae hst
    have TJ:=ae hJ
    have HO:=ae (ag ho1 ho2)
    have Es:(c:Int)<z:=by omega
    clear hst hJ ho1 ho2 PX cf1 SA cc2 cf2 cl2
    have Gj:=Hm.out.set hd1 hd2 hd3 i ((c:Int)-1)
    have ZH:J [ob,jo,bo,bc] (some (uq l.field [] (k+c*(fB ((eX l.field).drop (i+1))).length))) (wr.setCell ⟨ob,i,none⟩ (iv ((c:Int)-1))):=
     HST.out _ _ _ _ _ TJ.out ((mf wr ⟨ob,i,none⟩ _).more (fun x hx=>by simp at hx;subst hx;simp)) (fun m hm=> .inl hm) trivial
    have hcall:=HIH.out (i+1) _ (pre++[(c:Int)-1]) _ (o'.set i ((c:Int)-1)) (by omega) (by simp[hpl]) (by simp[HO.out.1]) (by
     rw[List.take_set]
     rw[qW,HO.out.2]
     have hio:i<o'.length:=by have:=HO.out.1;omega
     rw[dn hio]
     simp[qy,hpl]) (TG.out c hlt) Gj ZH
    rw[show((i+1:Nat):Int)=(i:Int)+1 from by omega] at hcall
    have BI:=ae hcall
    clear hcall Gj ZH
    gi_wp2_with fail
    refine BI.out.mono ?_
    rintro e W2 (⟨rfl,hJ2,o2,ho1,ho2,hst2⟩|⟨rfl,hJ2⟩)
    ·have HJ2:=ae hJ2
     have Tt:=ae hst2
     have Ew:=ae (ag ho1 ho2)
     clear hJ2 hst2 ho1 ho2 cd1 O7 OV cd3 O6 OU hcell hab hfr
     gi_wp2_with fail
     go_roundw
     case rel=>
      refine⟨c+1,by omega,by go_num,o2,Ew.out.1,?_,Tt.out,?_⟩
      ·have:=congrArg (List.take i) Ew.out.2
       rw[List.take_take,Nat.min_eq_left (by omega)] at this
       rw[this,nD (by omega),jW (by omega)]
      ·rw[Nat.add_mul,Nat.one_mul, <-Nat.add_assoc];exact HJ2.out
     case measure=>simp[intOf];omega
    ·have HJ2:=ae hJ2
     clear hJ2 cd1 O7 OV cd3 O6 OU hcell hab hfr
     gi_wp2_with fail
     go_returns
     exact .inr ⟨by simp,HJ2.out⟩
   ·have Ry:c=z:=by omega
    subst Ry
    have TJ:=ae hJ
    have Hm:=ae hst
    have HO:=ae (ag ho1 ho2)
    clear hJ hst ho1 ho2 PX cf1 SA cc2 cf2 cl2
    gi_wp2_with fail
    go_returns
    refine .inl ⟨by simp,?_,o',HO.out.1,HO.out.2,Hm.out⟩
    rw[HCZ.out];exact TJ.out
theorem Yn (l:aQ) (hf:jS l.field=0) (tv nv:Value) (bl:Nat):
 Xm Tryz.prog 269 #[.pointer (some ⟨bl,0,none⟩)] (bT l.field []) ahO [] (fun _=>True) (ac4 bl l tv nv):=by
 intro y J W hInv hstep hY h0
 obtain⟨hbl,htl⟩:=hInv _ _ _ h0
 have hch:=fun bo jo bc ob hd1 hd2 hd3=>Nq l hf tv nv bl bo jo bc ob y hd1 hd2 hd3 J hInv hstep hY
 have hS:=iF hf
 have Ue:=hS.qH
 have hr0:=hS.zu
 obtain⟨PX,cf1,SA⟩:=af hbl
 obtain⟨rn,hrn⟩: ∃rn:Nat,l.field.rows=rn:=⟨l.field.rows.toNat,by omega⟩
 have hrt:l.field.rows.toNat=rn:=by omega
 have HCH:=ae hch
 have HST:=ae hstep
 have HJ:=ae h0
 have HRN:=ae (ag hrn hrt)
 have hmk:=vI rn (by omega)
 have hn3: ∀(A B C:Obj) (v:Value) (t:TypeId),((((W.alloc A).alloc B).alloc C).alloc (.cells #[v] t)).cell? ⟨W.heap.size+1+1+1,0,none⟩=some v:=fun A B C v t=>aB (lV W A B C _)
 have hf3: ∀(A B C:Obj) (v:Value) (t:TypeId),((((W.alloc A).alloc B).alloc C).alloc (.cells #[v] t)).frozen? ⟨W.heap.size+1+1+1,0,none⟩=false:=fun A B C v t=>bg (lV W A B C _) 0
 have hl4:kT l tv nv= #[iv (rn:Int),iv l.field.aK,iv l.field.left.1,iv l.field.left.2,tv,iv l.rate,iv l.box.1,iv l.box.2,nv]:=by unfold kT;rw[hrn]
 rw[hl4] at PX
 clear hInv hstep hY hch h0 hS hbl htl hrn hrt hl4
 go_enter Tryz.func269,Tryz.ntmps269
 go_wp2_with fail
 refine(callsIn_wide.1 (HCH.o (W.heap.size+1+1) W.heap.size (W.heap.size+1+1+1) (W.heap.size+1) (by omega) (by omega) (by omega) l.field.rows.toNat 0 0 [] _ (List.replicate rn 0) (by omega) rfl (by simp[HRN.o.2]) (by simp) (jE.zero _) ⟨?_,?_,?_,?_⟩
  (HST.o _ _ _ _ _ HJ.o (Ext.aA zl) (fun m hm=> .inr (by simp at hm;(first|omega|(simp;omega)))) trivial))).mono ?_
 ·exact((aV _ _ _ (by simp;omega)).trans ((aV _ _ _ (by simp;omega)).trans ((aV _ _ _ (by simp)).trans (ay _ _))))
 ·rw[HRN.o.2];exact((aV _ _ _ (by simp)).trans (iw _ _ _ _))
 ·exact lV _ _ _ _ _
 ·exact((aV _ _ _ (by simp)).trans ((aV _ _ _ (by simp)).trans (dU _ _ _)))
 ·rintro e W2 (⟨rfl,hJ2,_⟩|⟨rfl,hJ2⟩)
  ·have HJ2:=ae hJ2
   clear hJ2 hn3 hf3 hmk
   go_wp2_with fail
   go_end0
   refine⟨⟨_,rfl⟩,[W.heap.size+1,W.heap.size,W.heap.size+1+1,W.heap.size+1+1+1],.inl ?_⟩
   have:=HJ2.o
   rw[<-OT]
   simpa [qo] using this
  ·have HJ2:=ae hJ2
   clear hJ2 hn3 hf3 hmk
   go_wp2_with fail
   go_end0
   exact⟨⟨_,rfl⟩,_,.inr HJ2.o⟩
theorem Yo (l:aQ) (tv nv:Value) (w:World):
 Calls Tryz.prog 202 #[lv l tv nv] w (fun e w'=>e= .returned (.func (.func 269) #[] #[.pointer (some ⟨w.heap.size,0,none⟩)])/\w'=w.alloc (.cells (kT l tv nv) 49)):=by
 go_enter Tryz.func202,Tryz.ntmps202
 go_wp2
 go_returns
 exact⟨by simp,rfl⟩
end Go.Proofs.YthllkbbbapgelaaGreatDoor
namespace Go.Proofs.YthllkbbbapgelaaGreatDoor
open Go.RowKit Go.RG Go.SL Go.Shelf jl Go.TB
attribute [local go_sem] Oper.semAt_some
theorem acx:iO Tryz.prog 255 257 (.agg #[iv 0,iv 0,iv 0]) 3 24:=⟨Tryz.underlying255,by kernel_rfl,rfl,by omega⟩
def qj (l:aQ) (k:Nat):List (List Int):=((bT l.field []).take k).foldl (fun acc t=>lJ acc (lM l.rate t)) []
def gm (l:aQ):List (List Int):=qj l (bT l.field []).length
theorem OB {l:aQ} {k:Nat} {x:List Int} (hx:(bT l.field [])[k]? =some x):qj l (k+1)=lJ (qj l k) (lM l.rate x):=by
 obtain⟨hk,rfl⟩:=ji.1 hx
 unfold qj
 rw[iC hk,List.foldl_append]
 rfl
theorem Be (l:aQ) (k:Nat): ∀y∈qj l k,y.length=3:=fun y hy=>by
 unfold qj at hy
 rw[AL] at hy
 rcases hy with h|⟨t,_,rfl⟩
 ·cases h
 ·exact kV _ _
theorem zY (l:aQ): ∀k,(qj l k).length<=k:=by
 intro k
 unfold qj
 have: ∀(ts:List (List Int)) (acc:List (List Int)),(ts.foldl (fun acc t=>lJ acc (lM l.rate t)) acc).length<=acc.length+ts.length:=by
  intro ts
  induction ts with
  |nil=>intro acc;simp
  |cons t ts ih=>
   intro acc
   have h1:=ih (lJ acc (lM l.rate t))
   have h2:=Jd acc (lM l.rate t)
   simp only[List.foldl_cons,List.length_cons]
   omega
 have h:=this ((bT l.field []).take k) []
 simp only[List.length_nil,Nat.zero_add,gJ] at h
 omega
theorem Jz {l:aQ} {d:List Int}:d∈gm l↔ ∃t∈bT l.field [],d=lM l.rate t:=by
 unfold gm qj
 rw[List.take_length,AL]
 simp
abbrev uA (l:aQ) (tv nv v:Value) (mb:Nat):Array Value:= #[iv l.field.rows,iv l.field.aK,iv l.field.left.1,iv l.field.left.2,tv,iv l.rate,iv l.box.1,iv l.box.2,nv,v,.map (some mb)]
structure LZ (B:Nat) (l:aQ) (tv nv:Value) (ls:List (List Int)) (Ms:List Nat) (W:World):Prop where
 b0:W.heap[B]? =some (.cells (kT l tv nv) 49 (0,0))
 tab:W.heap[B+1]? =some (.map #[] 0)
 work: ∃v,W.heap[B+2]? =some (.cells (uA l tv nv v (B+1)) 260 (0,0))/\W.ownsRow (B+7) 257 3 v ls.length (ls.flatMap ah)/\ ∀g,v.ownBlock=some g->g∉Ms/\g<W.heap.size
 ptr:W.heap[B+3]? =some (.cells #[.pointer (some ⟨B+2,0,none⟩)] 159 (0,0))
 b4:W.heap[B+4]? =some (.cells (kT l tv nv) 49 (0,0))
theorem LZ.kept {B:Nat} {l:aQ} {tv nv:Value} {ls:List (List Int)} {Ms Ms':List Nat} {W W':World} (h:LZ B l tv nv ls Ms W) (hs:W.heap.size<=W'.heap.size) (hk: ∀b,B<=b->b<B+5->W'.heap[b]? =W.heap[b]?)
 (ho: ∀g,B+7<=g->g<W.heap.size->g∉Ms->W'.heap[g]? =W.heap[g]?) (hM: ∀m∈Ms',m∈Ms∨(W.heap.size<=m/\m<W'.heap.size)):LZ B l tv nv ls Ms' W':=by
 obtain⟨v,h1,h2,h3⟩:=h.work
 refine⟨(hk _ (by omega) (by omega)).trans h.b0,(hk _ (by omega) (by omega)).trans h.tab,⟨v,(hk _ (by omega) (by omega)).trans h1,dm h2 fun g hg=>ho g (bD h2 g hg).1 (bD h2 g hg).2 (h3 g hg).1,fun g hg=>⟨fun hm=>?_,by have:=(h3 g hg).2;omega⟩⟩,
  (hk _ (by omega) (by omega)).trans h.ptr,(hk _ (by omega) (by omega)).trans h.b4⟩
 rcases hM g hm with h4|h4
 ·exact(h3 g hg).1 h4
 ·have:=(h3 g hg).2;omega
structure C9 (W:World) (wb mb:Nat) (l:aQ) (tv nv v:Value) (ls:List (List Int)):Prop where
 cells:W.heap[wb]? =some (.cells (uA l tv nv v mb) 260 (0,0))
 xn:dV W tv l.field.ax
 notes:bI W nv l.notes
 truth:aN 3 W v ls.length (ls.flatMap ah)
def Xi (l:aQ) (tv nv:Value) (w:World) (e:Ending) (W:World):Prop:=
 ∃(wb mb:Nat) (v:Value),e= .returned (.pointer (some ⟨wb,0,none⟩))/\w.heap.size<=wb/\w.heap.size<=mb/\W.heap[mb]? =some (.map #[] 0)/\C9 W wb mb l tv nv v (gm l)/\Below w.heap.size w W
theorem Wh (l:aQ) (tv nv:Value) (hf:jS l.field=0) (h0:0<=l.rate) (h1:l.rate<=50) (w:World) (ht:dV w tv l.field.ax) (hn:bI w nv l.notes):
 Calls Tryz.prog 120 #[lv l tv nv] w (Xi l tv nv w):=by
 obtain⟨ot,ct,rfl⟩:=ht.open
 obtain⟨on,cn,rfl⟩:=hn.open
 have hS:=iF hf
 have hr0:=hS.zu
 have Ue:=hS.qH
 have hw3:=hS.wR
 have hmm:= @run_makeMap Tryz.prog
 have HF:=ae hf
 have HS:=ae hS
 have HT':Hid (∀W,Below w.heap.size w W->dV W (.slice ot l.field.ax.length ct) l.field.ax):=ae (fun W hb=>ht.below hb (ai _))
 have HN':Hid (∀W,Below w.heap.size w W->bI W (.slice on l.notes.length cn) l.notes):=ae (fun W hb=>hn.below hb (ai _))
 clear ht hn hf hS
 obtain⟨tv,JG⟩: ∃tv,Value.slice ot l.field.ax.length ct=tv:=⟨_,rfl⟩
 obtain⟨nv,hnv⟩: ∃nv,Value.slice on l.notes.length cn=nv:=⟨_,rfl⟩
 rw[JG] at HT'⊢
 rw[hnv] at HN'⊢
 refine(callsIn_wide (n:=0)).1 ?_
 refine callsIn_of_wp_marks Tryz.func120 rfl trivial ?_
 simp only[Tryz.ntmps120,List.size_toArray,List.length_cons,List.length_nil,Nat.reduceAdd,Nat.reduceSub,Array.replicate_succ,Array.replicate_zero,kG,kH,List.nil_append,List.cons_append]
 gi_wp2_with fail
 refine(callsIn_wide.2 (Yo l tv nv _)).mono ?_
 rintro e w1 ⟨rfl,rfl⟩
 gi_wp2_with fail
 obtain⟨B,mP⟩: ∃B,w.heap.size=B:=⟨_,rfl⟩
 rw[mP]
 obtain⟨w4,hw4⟩: ∃w4,(((((w.alloc (.cells (kT l tv nv) 49)).alloc (.map #[] 0)).alloc (.cells #[iv l.field.rows,iv l.field.aK,iv l.field.left.1,iv l.field.left.2,tv,iv l.rate,iv l.box.1,iv l.box.2,nv,.slice none 0 0,.map (some (B+1))] 260)).alloc (.cells #[.pointer (some ⟨B+1+1,0,none⟩)] 159)).alloc (.cells (kT l tv nv) 49))=w4:=⟨_,rfl⟩
 have adK:w4.heap.size=B+5:=by rw[<-hw4];simp;omega
 have HB4:Hid (Below w.heap.size w w4):=ae (by rw[<-hw4];exact zl)
 have HA4:Hid (LZ B l tv nv [] [] w4):=ae (by
  rw[<-hw4]
  refine⟨?_,?_,⟨.slice none 0 0,?_,⟨rfl,.inl ⟨rfl,rfl⟩⟩,fun g hg=>by cases hg⟩,?_,?_⟩
  ·rw[<-mP];exact(aV _ _ _ (by simp;omega)).trans ((aV _ _ _ (by simp;omega)).trans ((aV _ _ _ (by simp;omega)).trans ((aV _ _ _ (by simp)).trans (ay _ _))))
  ·rw[<-mP];exact(aV _ _ _ (by simp)).trans ((aV _ _ _ (by simp)).trans ((aV _ _ _ (by simp)).trans (dU _ _ _)))
  ·rw[<-mP];exact(aV _ _ _ (by simp)).trans ((aV _ _ _ (by simp)).trans (iw _ _ _ _))
  ·rw[<-mP];exact(aV _ _ _ (by simp)).trans (lV _ _ _ _ _)
  ·have:=ay ((((w.alloc (.cells (kT l tv nv) 49)).alloc (.map #[] 0)).alloc (.cells #[iv l.field.rows,iv l.field.aK,iv l.field.left.1,iv l.field.left.2,tv,iv l.rate,iv l.box.1,iv l.box.2,nv,.slice none 0 0,.map (some (B+1))] 260)).alloc (.cells #[.pointer (some ⟨B+1+1,0,none⟩)] 159)) (.cells (kT l tv nv) 49)
   simp only[bu,mP] at this
   exact this)
 rw[hw4]
 clear hw4 hmm
 have D8: ∀b,b∈[B,B+1,B+2,B+3,B+4,B+5,B+6]↔(B<=b/\b<B+7):=fun b=>by simp;omega
 obtain⟨Os,Gv⟩: ∃Os,[B,B+1,B+2,B+3,B+4,B+5,B+6]=Os:=⟨_,rfl⟩
 rw[Gv] at D8
 clear Gv
 have hcnt:=lT HS.o []
 refine mD (Yn l HF.o tv nv (B+4)) rfl (enters_of Tryz.func269 (by kernel_rfl) rfl) rfl (by simp)
  (fun Ms k W=>Hu w Os Ms W/\LZ B l tv nv (qj l k) Ms W)
  (fun _ _ _=>False)
  ?hInv ?pF ?hI ?hIx ?IA ?tH ?h0
  (fun a Ms k W1 a₁ W=> ∃(x:List Int) (ob:Nat),(bT l.field [])[k]? =some x/\a₁={tmps:=(a.tmps.setIfInBounds 12 (.slice (some ⟨ob,0,none⟩) x.length x.length)).setIfInBounds 4 (.slice (some ⟨ob,0,none⟩) x.length x.length),defers:=[]}/\
    (Hu w Os Ms W/\LZ B l tv nv (qj l k) Ms W)/\(ob∈Ms/\W.heap[ob]? =some (.cells (ah x).toArray 3 (0,0)))/\
    (∀m∈Ms,m∉([]:List Nat)->m<W1.heap.size->W.heap[m]? =W1.heap[m]?)/\W1.heap.size<=W.heap.size)
  ?Lr ?hassign ?hbody ?hdone ?hstop
 case hInv=>
  rintro Ms k W ⟨hF,hP⟩
  exact⟨hP.b4,HT'.o W hF.ext⟩
 case pF=>rintro cd Ms W h;exact h.elim
 case hI=>
  rintro Ms Ms' k Wa Wb ⟨hF,hP⟩ hE hMs _
  exact⟨(hF.iQ hE hMs).1,hP.kept hE.size (fun b h1 h2=>(hF.iQ hE hMs).2 b ((D8 b).2 (by omega))) (fun g h1 h2 h3=>hE.block g h2 h3) hMs⟩
 case hIx=>rintro cd Ms Ms' Wa Wb h;exact h.elim
 case IA=>
  rintro Ms k W r ob ⟨hF,hP⟩ hr
  exact⟨hF.put ob (by omega),hP.kept (by simp) (fun b h1 h2=>World.putObj_heap_other (by omega)) (fun g h1 h2 h3=>World.putObj_heap_other (by omega)) (fun m hm=> .inl hm)⟩
 case tH=>rintro cd Ms W r ob h;exact h.elim
 case h0=>
  intro o1 o2
  refine⟨⟨ak (ak HB4.o _) _,by simp,by simp,fun b hb=>⟨by simp,by have:=(D8 b).1 hb;simp;omega⟩⟩,?_⟩
  exact HA4.o.kept (by simp;omega) (fun b h1 h2=>(aV _ _ _ (by simp;omega)).trans (aV _ _ _ (by omega))) (fun g h1 h2 h3=>by omega) (fun m hm=> .inl hm)
 case Lr=>
  rintro Ms k W1 a₁ W obj ⟨x,ob,hx,ha,⟨hF,hP⟩,⟨hob,hcb⟩,hk,hs⟩
  have hap:=(hF.apart (B+6) ((D8 _).2 (by omega))).1
  refine⟨x,ob,hx,ha,⟨hF.put obj (by omega),hP.kept (by simp) (fun b h1 h2=>World.putObj_heap_other (by omega)) (fun g h1 h2 h3=>World.putObj_heap_other (by omega)) (fun m hm=> .inl hm)⟩,
   ⟨hob,(World.putObj_heap_other (fun e=>hap (by rw[show B+6=ob by omega];exact hob))).trans hcb⟩,
   fun m hm h0 hml=>(World.putObj_heap_other (fun e=>hap (by rw[show B+6=m by omega];exact hm))).trans (hk m hm h0 hml),by simpa using hs⟩
 case hassign=>
  rintro Ms k v W hk ⟨hF,hP⟩ ⟨ob,rfl,hcb,hob⟩ hlt
  have hxk:(bT l.field [])[k]? =some (bT l.field [])[k]:=dn hk
  generalize (bT l.field [])[k]=x at*
  gi_wp2
  exact⟨⟨x,ob,hxk,rfl,⟨hF,hP⟩,⟨hob,hcb⟩,fun _ _ _ _=>trivial,ai _⟩,trivial,trivial⟩
 case hbody=>
  rintro Ms k W1 a₁ W busy hk ⟨x,ob,hx,rfl,⟨hF,hP⟩,⟨hob,hcb⟩,hkeep,hsz⟩ hrec hD
  simp only[qY,List.set_cons_succ,List.set_cons_zero]
  have hxl:=oG (mW hx)
  have hxm:=(Di (mW hx)).1
  have uS:aO W (.slice (some ⟨ob,0,none⟩) x.length x.length) x:=aN.dD (cs:=(ah x).toArray) 1 x.length hcb (by simp[ah]) (by simp only[maxLen];omega)
  have Uh:=ZT l tv nv _ x W uS h0 h1 (by omega) (fun n hn=>by
   obtain⟨i,hi,rfl⟩:=lY hn
   have:=(FY.1 hxm).2 i (by omega)
   rw[show x.getD i 0=x[i] from by simp[List.getD,hi]] at this
   omega)
  have hsu:=OB (l:=l) hx
  have hdl:=kV l.rate x
  obtain⟨ys,Oe⟩: ∃ys,lM l.rate x=ys:=⟨_,rfl⟩
  rw[Oe] at Uh hsu hdl
  obtain⟨y0,y1,y2,hys⟩:=nH hdl
  have Zy:Calls Tryz.prog 203 #[lv l tv nv,.slice (some ⟨ob,0,none⟩) x.length x.length] W (fun e w'=>e= .returned (.agg #[iv y0,iv y1,iv y2])/\Below W.heap.size W w'/\W.heap.size<w'.heap.size):=by rw[hys] at Uh;exact Uh
  obtain⟨c0,f0,l0⟩:=af hP.b0
  have adU:k<=2500:=by omega
  have hlk:=zY l k
  have h3s:=Be l k
  have J6:=ae hF
  have HP:=ae hP
  have HDU:=ae Zy
  have wX:=ae hsu
  have HK:=ae (ag hkeep (ag hrec hD))
  have BG:=ae (ag hys hdl)
  have H3:=ae h3s
  clear hF hP Uh Zy hsu hdl hys Oe hkeep hrec hD hx hxm hcb uS hxl h3s
  generalize qj l (k+1)=ls' at*
  generalize qj l k=ls at*
  gi_wp2_with fail
  refine(CallsIn.inRound _ (callsIn_wide.2 HDU.o)).mono ?_
  rintro e w6 ⟨rfl,hb,hgrow⟩
  obtain⟨W7,yV⟩: ∃W7,w6.alloc (.cells #[iv y0,iv y1,iv y2] 257)=W7:=⟨_,rfl⟩
  have Ib:Below W.heap.size W W7:=by rw[<-yV];exact ak hb _
  have ad1:W7.heap[w6.heap.size]? =some (.cells #[iv y0,iv y1,iv y2] 257 (0,0)):=by rw[<-yV];exact ay _ _
  have af4:W7.heap.size=w6.heap.size+1:=by rw[<-yV];simp
  have hap: ∀b∈Os,b∉Ms/\b<W.heap.size:=J6.o.apart
  have hin: ∀b,B<=b->b<B+7->b∈Os:=fun b h1 h2=>(D8 b).2 (by omega)
  have hF7:=(J6.o.iQ (Ext.aA Ib) (fun m hm=> .inl hm)).1
  have RF:LZ B l tv nv ls Ms W7:=HP.o.kept Ib.size (fun b h1 h2=>Ib.block b (hap b (hin b h1 (by omega))).2) (fun g h1 h2 h3=>Ib.block g h2) (fun m hm=> .inl hm)
  have acH:W7.heap[w4.heap.size+1]? =some (.loop busy):=(Ib.block _ (aS.1 HK.o.2.1).1).trans HK.o.2.1
  have hD7:W7.heap[w4.heap.size]? =some (.deferred (some [])):=(Ib.block _ (aS.1 HK.o.2.2).1).trans HK.o.2.2
  have agA: ∀m∈Ms,m∉([]:List Nat)->m<W1.heap.size->W7.heap[m]? =W1.heap[m]? :=fun m hm h0 hml=>(Ib.block m (by omega)).trans (HK.o.1 m hm h0 hml)
  obtain⟨s0,hs0⟩: ∃s0,W.heap.size=s0:=⟨_,rfl⟩
  have HS0:Hid (B+7<=s0/\s0∉Ms/\s0<w6.heap.size):=ae ⟨by have:=(hap (B+6) (hin _ (by omega) (by omega))).2;omega,fun hm=>by have:=J6.o.bnd s0 hm;omega,by omega⟩
  obtain⟨v,adI,afY,Y8⟩:=HP.o.work
  have hv1:=(Ib.block _ (aS.1 adI).1).trans adI
  have hv2:=dm afY fun g hg=>Ib.block g (Y8 g hg).2
  have hv3: ∀g,v.ownBlock=some g->g∉Ms/\g<W7.heap.size:=fun g hg=>⟨(Y8 g hg).1,by have:=(Y8 g hg).2;have:=Ib.size;omega⟩
  have HVO:Hid (∀g,v.ownBlock=some g->g<s0):=ae (fun g hg=>by have:=(Y8 g hg).2;omega)
  clear adI afY Y8
  obtain⟨vo,vc,rfl⟩:=aW hv2
  have hs1:W1.heap.size<=W7.heap.size:=by have:=Ib.size;omega
  have yB:=ae hF7
  have UE:=ae RF
  have HV:=ae (ag hv1 (ag hv2 hv3))
  have xw:=ae (ag agA (ag acH hD7))
  have HBT:=ae ad1
  have anM:s0<w6.heap.size:=by omega
  have hap': ∀b∈Os,b∉Ms/\b<W7.heap.size:=fun b hb=>⟨(hap b hb).1,by have:=(hap b hb).2;omega⟩
  clear hap
  have hap:=hap'
  clear hap'
  obtain⟨c1,f1,q1⟩:=af (show W7.heap[B+1+1+1]? =some (.cells #[.pointer (some ⟨B+1+1,0,none⟩)] 159 (0,0)) from RF.ptr)
  obtain⟨c2,f2,q2⟩:=af (show W7.heap[B+1+1]? =some (.cells (uA l tv nv (.slice vo ls.length vc) (B+1)) 260 (0,0)) from hv1)
  obtain⟨c3,f3,q3⟩:=af ad1
  clear hb hgrow c0 f0 l0 hF7 RF hv1 hv2 hv3 agA acH hD7 ad1 J6 HP HK Ib hs0
  gi_wp2_with fail
  (try rw[yV])
  clear yV
  have apc:=ae af4
  clear af4
  rcases(List.eq_nil_or_concat ls).imp id (fun⟨A,z,e⟩=>(⟨A,z,e.trans (List.concat_eq_append)⟩: ∃A z,ls=A++[z])) with rfl|⟨A,z,rfl⟩
  ·simp only[List.length_nil] at c2 HV HVO
   have TK:Hid (lJ [] ys=[]++[ys]):=ae (by simp[lJ])
   refine dN 22 [] none [] (by kernel_rfl) (by kernel_rfl) (by kernel_rfl) ?_
   simp only[zt]
   repeat ((first|refine zn ?_|refine zk ?_);simp only[zp])
   intro W hE hF
   obtain⟨hc,hf⟩:=bJ hE.below
   have hzE:=hE.size
   (try simp only[bu] at hzE)
   have lL:Ext [] W7 W:=hE
   have Ia:LZ B l tv nv ([]) Ms W:=UE.o.kept lL.size (fun b h1 h2=>lL.block b (by have:=(hap b (hin b h1 (by omega))).2;omega) (by simp)) (fun g h1 h2 h3=>lL.block g h2 (by simp)) (fun m hm=> .inl hm)
   have Gt:=(lL.block _ (by omega) (by simp)).trans HBT.o
   obtain⟨v8,tu,tq,zN⟩:=Ia.work
   have Gi:v8= .slice (vo) (0) vc:=by
    have h4:=(lL.block _ q2 (by simp)).trans HV.o.1
    rw[tu] at h4
    simp only[Option.some.injEq,Obj.cells.injEq,and_true,Array.mk.injEq,List.cons.injEq,true_and] at h4
    exact h4
   rw[Gi] at tu tq zN
   clear Gi
   (try simp only[List.length_nil] at tq)
   (try simp only[dh,List.length_cons,List.length_nil,Nat.zero_add] at tq)
   obtain⟨p1,p2,p3⟩:=af (show W.heap[B+1+1+1]? =some (.cells #[.pointer (some ⟨B+1+1,0,none⟩)] 159 (0,0)) from Ia.ptr)
   obtain⟨p4,p5,p6⟩:=af (show W.heap[B+1+1]? =some (.cells (uA l tv nv (.slice (vo) (0) vc) (B+1)) 260 (0,0)) from tu)
   obtain⟨p7,p8,p9⟩:=af Gt
   have adL:=lL.size
   have J3:=ae Ia
   have Ic:=ae (ag tu (ag tq zN))
   have iW:=ae lL
   clear hE hF hc hf lL Ia tu tq zN Gt c1 f1 q1 c2 f2 q2 c3 f3 q3 hzE
   obtain⟨gx,hgx,abH,hgx2,AY,abG⟩: ∃gx,(∀g,(Value.slice (vo) (0) vc).ownBlock=some g->g=gx)/\B+7<=gx/\gx<W.heap.size/\gx∉Ms/\gx≠w6.heap.size:=by
    cases zQ:(Value.slice (vo) (0) vc).ownBlock with
    |none=>exact⟨s0,(fun g hg=>by cases hg),HS0.o.1,by omega,HS0.o.2.1,by omega⟩
    |some g=>
     have h1:=bD Ic.o.2.1 g zQ
     have h2:=Ic.o.2.2 g zQ
     exact⟨g,(fun g' hg=>by cases hg;rfl),h1.1,h1.2,h2.1,fun e=>by have:=HVO.o g zQ;omega⟩
   have HG:=ae hgx
   clear hgx
   have z1:gx≠B+1+1:=by omega
   have z2:gx≠B+1+1+1:=by omega
   have z1':B+1+1≠gx:=by omega
   have z2':B+1+1+1≠gx:=by omega
   have z3':w6.heap.size≠gx:=by omega
   gi_wp2_with fail
   refine dN 8 [gx] (some 7) [(6,Spec.slice W.heap.size #[iv y0,iv y1,iv y2] 257 1),(7,⟨fun _ v=> ∃o c,v= .slice o (0+1) c,fun _ v Wx=>Wx.ownsRow (B+7) 257 3 v (0+1) ((([])++[ys]).flatMap ah)/\(∀g,v.ownBlock=some g->g=gx∨W.heap.size<=g)⟩)] (by kernel_rfl) (by kernel_rfl) (by kernel_rfl) ?_
   simp only[zt]
   repeat ((first|refine zn ?_|refine zk ?_);simp only[zp])
   refine dX W.heap.size _ _ 1 (by rfl) (ai _) (by rfl) (by simpa using hgx2) (by simp) (fun W hW=>by go_simp;try rfl) (fun b6=>?_)
   simp only[zp]
   refine bG _ (by rfl) (by rfl) (by exact⟨.slice none (0+1) 0,none,0,rfl⟩) (fun Wa hE hF=>?_) (fun v Wa Wb ho hE=>?_) (fun v hv=>?_)
   ·have hE':Ext [] W Wa:=hE
    obtain⟨b',hb',hge,hcc⟩:=hF _ (bF _) (by kernel_rfl)
    cases hb'
    have hown6:=aC (Ms:=[]) Ic.o.2.1 hE' (by simp)
    have hsrc:aN 3 Wa (.slice (some ⟨b6,0,none⟩) 1 1) 1 (ah ys):=by
     rw[BG.o.1]
     exact aN.dD 3 1 hcc rfl (by decide)
    refine Does.mono (dK acx (by rfl) (by rfl) hown6 (by rfl) hsrc (jG _) (by omega) (by omega) (by have:=hE'.size;omega)) ?_
    rintro v' Wc ⟨ho,hgr,hcase⟩
    refine⟨aW ho,⟨?_,fun g hg=>?_⟩,⟨hgr.os,hgr.tape,hgr.output,hgr.size,fun b hb hn=>hgr.block b hb (fun e=>hn (by rw[HG.o b e.symm];simp))⟩⟩
    ·rw[uP]
     simpa using ho
    ·rcases hcase with h1|h1
     ·exact .inl (HG.o g (by rw[<-h1,hg]))
     ·rw[hg] at h1;injection h1 with h1;exact .inr (by have:=hE'.size;omega)
   ·exact⟨aC (Ms:=[]) ho.1 hE (by simp),ho.2⟩
   obtain⟨o7,c7,rfl⟩:=hv
   simp only[zp]
   intro W9 hE hF
   have hE':Ext [gx] W W9:=hE
   obtain⟨Uf,Iy⟩:=hF _ (bF _)
   have zM:W9.heap[B+1+1]? =some (.cells (uA l tv nv (.slice (vo) (0) vc) (B+1)) 260 (0,0)):=(hE'.block _ p6 (by simpa using z1')).trans Ic.o.1
   obtain⟨c9,f9,l9⟩:=af zM
   have BH:=ae hE'
   have wQ:=ae (ag Uf (ag Iy zM))
   clear hE hF hE' Uf Iy p1 p2 p4 p5 p7 p8 zM
   gi_wp2_with fail
   obtain⟨v',hv'⟩: ∃v',Value.slice o7 (0+1) c7=v':=⟨_,rfl⟩
   rw[hv'] at wQ⊢
   have wC:(W9.setCell ⟨B+1+1,9,none⟩ v').heap.size=W9.heap.size:=by simp[World.setCell]
   have hs9:=BH.o.size
   have hks: ∀b,b<W.heap.size->b≠gx->b≠B+1+1->(W9.setCell ⟨B+1+1,9,none⟩ v').heap[b]? =W.heap[b]? :=fun b hb h1 h2=>
    (dF _ _ _ _ h2).trans (BH.o.block b hb (by simpa using h1))
   have EP: ∀b,b<W7.heap.size->b≠gx->b≠B+1+1->(W9.setCell ⟨B+1+1,9,none⟩ v').heap[b]? =W7.heap[b]? :=fun b hb h1 h2=>(hks b (by omega) h1 h2).trans (iW.o.block b hb (by simp))
   have hFB:Hu w Os Ms (W9.setCell ⟨B+1+1,9,none⟩ v'):=yB.o.own (yB.o.ext.trans ⟨BH.o.os.trans iW.o.os,BH.o.tape.trans iW.o.tape,BH.o.output.trans iW.o.output,by rw[wC];omega,fun b hb=>(dF _ _ _ _ (by show b≠B+1+1;omega)).trans ((BH.o.block b (by have:=yB.o.ext.size;omega) (by simp;omega)).trans (iW.o.block b (by have:=yB.o.ext.size;omega) (by simp)))⟩) (by rw[wC];omega)
   have hlen1:(([])++[ys]).length=0+1:=by simp
   refine⟨⟨?_,?_,fun m hm h0 hml=>?_,by rw[wC];omega⟩,hFB,?_⟩
   ·exact(EP _ (by have:=(hap _ (hin (w4.heap.size+1) (by omega) (by omega))).2;omega) (by omega) (by omega)).trans xw.o.2.1
   ·exact(EP _ (by have:=(hap _ (hin w4.heap.size (by omega) (by omega))).2;omega) (by omega) (by omega)).trans xw.o.2.2
   ·exact(EP m (yB.o.bnd m hm) (fun e=>AY (e▸hm)) (fun e=>(hap (B+1+1) (hin _ (by omega) (by omega))).1 (e▸hm))).trans (xw.o.1 m hm h0 hml)
   rw[wX.o,TK.o]
   refine⟨?_,?_,⟨v',aI wQ.o.2.2 _,hlen1.symm▸dm wQ.o.1 fun g hg=>dF _ _ _ _ (by have:=(bD wQ.o.1 g hg).1;show g≠B+1+1;omega),fun g hg=>⟨fun hm=>?_,by rw[wC];exact(bD wQ.o.1 g hg).2⟩⟩,?_,?_⟩
   ·exact(hks _ (by have:=(hap _ (hin B (by omega) (by omega))).2;omega) (by omega) (by omega)).trans J3.o.b0
   ·exact(hks _ (by have:=(hap _ (hin (B+1) (by omega) (by omega))).2;omega) (by omega) (by omega)).trans J3.o.tab
   ·rcases wQ.o.2.1 g hg with h1|h1
    ·exact AY (h1▸hm)
    ·have:=yB.o.bnd g hm;omega
   ·exact(hks _ (by have:=(hap _ (hin (B+3) (by omega) (by omega))).2;omega) (by omega) (by omega)).trans J3.o.ptr
   ·exact(hks _ (by have:=(hap _ (hin (B+4) (by omega) (by omega))).2;omega) (by omega) (by omega)).trans J3.o.b4
  ·have hz3:=H3.o z (by simp)
   obtain⟨gb,gc,hvv,hgb,Rx,Lc⟩:=BX (A:=A) (z:=z) (by simpa using HV.o.2.1) (fun x hx=>H3.o x (by simp[hx])) hz3
   have hcap:vo=some ⟨gb,0,none⟩:=by simp at hvv;exact hvv.1
   subst hcap
   have hzl:(ah z).length=3:=by simp[ah,hz3]
   (try simp only[dh,List.length_cons,List.length_nil,Nat.zero_add] at c2)
   (try simp only[dh,List.length_cons,List.length_nil,Nat.zero_add] at HV)
   (try simp only[dh,List.length_cons,List.length_nil,Nat.zero_add] at HVO)
   (try simp only[dh,List.length_cons,List.length_nil,Nat.zero_add] at hlk)
   have hAI:((A.length:Int)+1==0)=false:=by simp;omega
   have hA0: ¬((A.length:Int)+1=0):=by omega
   have hA1:((A.length:Int)+1).toNat=A.length+1:=by omega
   have hAm:(A.length:Int)+1-1=A.length:=by omega
   have hy3:ys.length=3:=BG.o.2
   rcases hq:(z==ys) with _|_
   ·have TK:Hid (lJ (A++[z]) ys=(A++[z])++[ys]):=ae (by
     unfold lJ
     rw[aj]
     simp only[List.getLast?_append,List.getLast?_singleton]
     intro e
     simp at e
     subst e;simp at hq)
    refine dN 22 [] none [] (by kernel_rfl) (by kernel_rfl) (by kernel_rfl) ?_
    simp only[zt]
    repeat ((first|refine zn ?_|refine zk ?_);simp only[zp])
    refine fZ (by rfl) (.pointer (some ⟨gb,A.length*3,none⟩)) (by rfl) (fun W hW=>by go_simp;(try simp(disch:=omega) only[IntWalk.i64_in]);(try rw[aF (by omega)]);(try simp);(try (intro hx;exfalso;omega))) ?_
    simp only[zp]
    refine fZ (by rfl) (.agg (ah z).toArray) (by rfl) (fun W hW=>kF 257 _ (by rfl) gb (A.length*3) (by rfl) (ah z) _ (fun j u hj=>(hW gb _ Rx (by simp)).trans (Lc j u hj)) Tryz.underlying257 rfl (by rw[hzl];kernel_rfl)) ?_
    simp only[zp]
    refine fZ (by rfl) (.agg #[iv y0,iv y1,iv y2]) (by rfl) (fun W hW=>by go_simp;try rfl) ?_
    simp only[zp]
    refine fZ (by rfl) (.bool true) (by rfl) (fun W hW=>(nN 257 3 _ 3 _ _ (by rfl) Tryz.underlying257 Tryz.underlying3 (by intro w;go_simp) (by kernel_rfl) z [y0,y1,y2] (by rfl) (by rfl) hz3 (by rfl)).trans (by rw[BG.o.1] at hq;rw[hq];rfl)) ?_
    simp only[zp]
    repeat ((first|refine zn ?_|refine zk ?_);simp only[zp])
    intro W hE hF
    obtain⟨hc,hf⟩:=bJ hE.below
    have hzE:=hE.size
    (try simp only[bu] at hzE)
    have lL:Ext [] W7 W:=hE
    have Ia:LZ B l tv nv (A++[z]) Ms W:=UE.o.kept lL.size (fun b h1 h2=>lL.block b (by have:=(hap b (hin b h1 (by omega))).2;omega) (by simp)) (fun g h1 h2 h3=>lL.block g h2 (by simp)) (fun m hm=> .inl hm)
    have Gt:=(lL.block _ (by omega) (by simp)).trans HBT.o
    obtain⟨v8,tu,tq,zN⟩:=Ia.work
    have Gi:v8= .slice ((some ⟨gb,0,none⟩)) ((A.length+1)) vc:=by
     have h4:=(lL.block _ q2 (by simp)).trans HV.o.1
     rw[tu] at h4
     simp only[Option.some.injEq,Obj.cells.injEq,and_true,Array.mk.injEq,List.cons.injEq,true_and] at h4
     exact h4
    rw[Gi] at tu tq zN
    clear Gi
    (try simp only[List.length_nil] at tq)
    (try simp only[dh,List.length_cons,List.length_nil,Nat.zero_add] at tq)
    obtain⟨p1,p2,p3⟩:=af (show W.heap[B+1+1+1]? =some (.cells #[.pointer (some ⟨B+1+1,0,none⟩)] 159 (0,0)) from Ia.ptr)
    obtain⟨p4,p5,p6⟩:=af (show W.heap[B+1+1]? =some (.cells (uA l tv nv (.slice ((some ⟨gb,0,none⟩)) ((A.length+1)) vc) (B+1)) 260 (0,0)) from tu)
    obtain⟨p7,p8,p9⟩:=af Gt
    have adL:=lL.size
    have J3:=ae Ia
    have Ic:=ae (ag tu (ag tq zN))
    have iW:=ae lL
    clear hE hF hc hf lL Ia tu tq zN Gt c1 f1 q1 c2 f2 q2 c3 f3 q3 hzE
    obtain⟨gx,hgx,abH,hgx2,AY,abG⟩: ∃gx,(∀g,(Value.slice ((some ⟨gb,0,none⟩)) ((A.length+1)) vc).ownBlock=some g->g=gx)/\B+7<=gx/\gx<W.heap.size/\gx∉Ms/\gx≠w6.heap.size:=by
     cases zQ:(Value.slice ((some ⟨gb,0,none⟩)) ((A.length+1)) vc).ownBlock with
     |none=>exact⟨s0,(fun g hg=>by cases hg),HS0.o.1,by omega,HS0.o.2.1,by omega⟩
     |some g=>
      have h1:=bD Ic.o.2.1 g zQ
      have h2:=Ic.o.2.2 g zQ
      exact⟨g,(fun g' hg=>by cases hg;rfl),h1.1,h1.2,h2.1,fun e=>by have:=HVO.o g zQ;omega⟩
    have HG:=ae hgx
    clear hgx
    have z1:gx≠B+1+1:=by omega
    have z2:gx≠B+1+1+1:=by omega
    have z1':B+1+1≠gx:=by omega
    have z2':B+1+1+1≠gx:=by omega
    have z3':w6.heap.size≠gx:=by omega
    gi_wp2_with fail
    refine dN 8 [gx] (some 7) [(6,Spec.slice W.heap.size #[iv y0,iv y1,iv y2] 257 1),(7,⟨fun _ v=> ∃o c,v= .slice o ((A.length+1)+1) c,fun _ v Wx=>Wx.ownsRow (B+7) 257 3 v ((A.length+1)+1) (((A++[z])++[ys]).flatMap ah)/\(∀g,v.ownBlock=some g->g=gx∨W.heap.size<=g)⟩)] (by kernel_rfl) (by kernel_rfl) (by kernel_rfl) ?_
    simp only[zt]
    repeat ((first|refine zn ?_|refine zk ?_);simp only[zp])
    refine dX W.heap.size _ _ 1 (by rfl) (ai _) (by rfl) (by simpa using hgx2) (by simp) (fun W hW=>by go_simp;try rfl) (fun b6=>?_)
    simp only[zp]
    refine bG _ (by rfl) (by rfl) (by exact⟨.slice none ((A.length+1)+1) 0,none,0,rfl⟩) (fun Wa hE hF=>?_) (fun v Wa Wb ho hE=>?_) (fun v hv=>?_)
    ·have hE':Ext [] W Wa:=hE
     obtain⟨b',hb',hge,hcc⟩:=hF _ (bF _) (by kernel_rfl)
     cases hb'
     have hown6:=aC (Ms:=[]) Ic.o.2.1 hE' (by simp)
     have hsrc:aN 3 Wa (.slice (some ⟨b6,0,none⟩) 1 1) 1 (ah ys):=by
      rw[BG.o.1]
      exact aN.dD 3 1 hcc rfl (by decide)
     refine Does.mono (dK acx (by rfl) (by rfl) hown6 (by rfl) hsrc (jG _) (by omega) (by omega) (by have:=hE'.size;omega)) ?_
     rintro v' Wc ⟨ho,hgr,hcase⟩
     refine⟨aW ho,⟨?_,fun g hg=>?_⟩,⟨hgr.os,hgr.tape,hgr.output,hgr.size,fun b hb hn=>hgr.block b hb (fun e=>hn (by rw[HG.o b e.symm];simp))⟩⟩
     ·rw[uP]
      simpa using ho
     ·rcases hcase with h1|h1
      ·exact .inl (HG.o g (by rw[<-h1,hg]))
      ·rw[hg] at h1;injection h1 with h1;exact .inr (by have:=hE'.size;omega)
    ·exact⟨aC (Ms:=[]) ho.1 hE (by simp),ho.2⟩
    obtain⟨o7,c7,rfl⟩:=hv
    simp only[zp]
    intro W9 hE hF
    have hE':Ext [gx] W W9:=hE
    obtain⟨Uf,Iy⟩:=hF _ (bF _)
    have zM:W9.heap[B+1+1]? =some (.cells (uA l tv nv (.slice ((some ⟨gb,0,none⟩)) ((A.length+1)) vc) (B+1)) 260 (0,0)):=(hE'.block _ p6 (by simpa using z1')).trans Ic.o.1
    obtain⟨c9,f9,l9⟩:=af zM
    have BH:=ae hE'
    have wQ:=ae (ag Uf (ag Iy zM))
    clear hE hF hE' Uf Iy p1 p2 p4 p5 p7 p8 zM
    gi_wp2_with fail
    obtain⟨v',hv'⟩: ∃v',Value.slice o7 ((A.length+1)+1) c7=v':=⟨_,rfl⟩
    rw[hv'] at wQ⊢
    have wC:(W9.setCell ⟨B+1+1,9,none⟩ v').heap.size=W9.heap.size:=by simp[World.setCell]
    have hs9:=BH.o.size
    have hks: ∀b,b<W.heap.size->b≠gx->b≠B+1+1->(W9.setCell ⟨B+1+1,9,none⟩ v').heap[b]? =W.heap[b]? :=fun b hb h1 h2=>
     (dF _ _ _ _ h2).trans (BH.o.block b hb (by simpa using h1))
    have EP: ∀b,b<W7.heap.size->b≠gx->b≠B+1+1->(W9.setCell ⟨B+1+1,9,none⟩ v').heap[b]? =W7.heap[b]? :=fun b hb h1 h2=>(hks b (by omega) h1 h2).trans (iW.o.block b hb (by simp))
    have hFB:Hu w Os Ms (W9.setCell ⟨B+1+1,9,none⟩ v'):=yB.o.own (yB.o.ext.trans ⟨BH.o.os.trans iW.o.os,BH.o.tape.trans iW.o.tape,BH.o.output.trans iW.o.output,by rw[wC];omega,fun b hb=>(dF _ _ _ _ (by show b≠B+1+1;omega)).trans ((BH.o.block b (by have:=yB.o.ext.size;omega) (by simp;omega)).trans (iW.o.block b (by have:=yB.o.ext.size;omega) (by simp)))⟩) (by rw[wC];omega)
    have hlen1:((A++[z])++[ys]).length=(A.length+1)+1:=by simp
    refine⟨⟨?_,?_,fun m hm h0 hml=>?_,by rw[wC];omega⟩,hFB,?_⟩
    ·exact(EP _ (by have:=(hap _ (hin (w4.heap.size+1) (by omega) (by omega))).2;omega) (by omega) (by omega)).trans xw.o.2.1
    ·exact(EP _ (by have:=(hap _ (hin w4.heap.size (by omega) (by omega))).2;omega) (by omega) (by omega)).trans xw.o.2.2
    ·exact(EP m (yB.o.bnd m hm) (fun e=>AY (e▸hm)) (fun e=>(hap (B+1+1) (hin _ (by omega) (by omega))).1 (e▸hm))).trans (xw.o.1 m hm h0 hml)
    rw[wX.o,TK.o]
    refine⟨?_,?_,⟨v',aI wQ.o.2.2 _,hlen1.symm▸dm wQ.o.1 fun g hg=>dF _ _ _ _ (by have:=(bD wQ.o.1 g hg).1;show g≠B+1+1;omega),fun g hg=>⟨fun hm=>?_,by rw[wC];exact(bD wQ.o.1 g hg).2⟩⟩,?_,?_⟩
    ·exact(hks _ (by have:=(hap _ (hin B (by omega) (by omega))).2;omega) (by omega) (by omega)).trans J3.o.b0
    ·exact(hks _ (by have:=(hap _ (hin (B+1) (by omega) (by omega))).2;omega) (by omega) (by omega)).trans J3.o.tab
    ·rcases wQ.o.2.1 g hg with h1|h1
     ·exact AY (h1▸hm)
     ·have:=yB.o.bnd g hm;omega
    ·exact(hks _ (by have:=(hap _ (hin (B+3) (by omega) (by omega))).2;omega) (by omega) (by omega)).trans J3.o.ptr
    ·exact(hks _ (by have:=(hap _ (hin (B+4) (by omega) (by omega))).2;omega) (by omega) (by omega)).trans J3.o.b4
   ·have TK:Hid (lJ (A++[z]) ys=A++[z]):=ae (by
     unfold lJ
     rw[aF]
     simp only[List.getLast?_append,List.getLast?_singleton]
     have:z=ys:=by simpa using hq
     rw[this]
     rfl)
    refine dN 22 [] none [] (by kernel_rfl) (by kernel_rfl) (by kernel_rfl) ?_
    simp only[zt]
    repeat ((first|refine zn ?_|refine zk ?_);simp only[zp])
    refine fZ (by rfl) (.pointer (some ⟨gb,A.length*3,none⟩)) (by rfl) (fun W hW=>by go_simp;(try simp(disch:=omega) only[IntWalk.i64_in]);(try rw[aF (by omega)]);(try simp);(try (intro hx;exfalso;omega))) ?_
    simp only[zp]
    refine fZ (by rfl) (.agg (ah z).toArray) (by rfl) (fun W hW=>kF 257 _ (by rfl) gb (A.length*3) (by rfl) (ah z) _ (fun j u hj=>(hW gb _ Rx (by simp)).trans (Lc j u hj)) Tryz.underlying257 rfl (by rw[hzl];kernel_rfl)) ?_
    simp only[zp]
    refine fZ (by rfl) (.agg #[iv y0,iv y1,iv y2]) (by rfl) (fun W hW=>by go_simp;try rfl) ?_
    simp only[zp]
    refine fZ (by rfl) (.bool false) (by rfl) (fun W hW=>(nN 257 3 _ 3 _ _ (by rfl) Tryz.underlying257 Tryz.underlying3 (by intro w;go_simp) (by kernel_rfl) z [y0,y1,y2] (by rfl) (by rfl) hz3 (by rfl)).trans (by rw[BG.o.1] at hq;rw[hq];rfl)) ?_
    simp only[zp]
    repeat ((first|refine zn ?_|refine zk ?_);simp only[zp])
    intro W hE hF
    obtain⟨hc,hf⟩:=bJ hE.below
    have hzE:=hE.size
    (try simp only[bu] at hzE)
    have lL:Ext [] W7 W:=hE
    have iW:=ae lL
    clear hE hF hc hf lL
    gi_wp2_with fail
    have hs8:=iW.o.size
    refine⟨⟨?_,?_,fun m hm h0 hml=>?_,by omega⟩,(yB.o.iQ (iW.o.more (by simp)) (fun m hm=> .inl hm)).1,?_⟩
    ·exact(iW.o.block _ (aS.1 xw.o.2.1).1 (by simp)).trans xw.o.2.1
    ·exact(iW.o.block _ (aS.1 xw.o.2.2).1 (by simp)).trans xw.o.2.2
    ·exact(iW.o.block m (by omega) (by simp)).trans (xw.o.1 m hm h0 hml)
    ·rw[wX.o,TK.o]
     exact UE.o.kept iW.o.size (fun b h1 h2=>iW.o.block b (by have:=(hap b (hin b h1 (by omega))).2;omega) (by simp)) (fun g h1 h2 h3=>iW.o.block g h2 (by simp)) (fun m hm=> .inl hm)
 case hdone=>
  rintro Ms W ⟨hF,hP⟩ hD hlt
  obtain⟨v,hv1,hv2,hv3⟩:=hP.work
  obtain⟨c1,f1,l1⟩:=af (show W.heap[B+1+1+1]? =some (.cells #[.pointer (some ⟨B+1+1,0,none⟩)] 159 (0,0)) from hP.ptr)
  have hFE:=(hF.put (Obj.deferred none) (r:=w4.heap.size) (by omega)).ext
  have HX:=ae (ag hFE (ag hv1 (ag hv2 hP.tab)))
  clear hF hP hv1 hv2 hv3 hFE
  gi_wp2_with fail
  refine⟨by simp,.inl ⟨_,_,rfl,run_takeDeferred hD,?_⟩⟩
  refine⟨.pointer (some ⟨B+1+1,0,none⟩),by simp[results,Tryz.results120,go_sem],B+1+1,B+1,v,rfl,by omega,by omega,?_,⟨?_,HT'.o _ HX.o.1,HN'.o _ HX.o.1,?_⟩,HX.o.1⟩
  ·exact(World.putObj_heap_other (by omega)).trans HX.o.2.2.2
  ·exact(World.putObj_heap_other (by omega)).trans HX.o.2.1
  ·exact aN.dS (dm HX.o.2.2.1 fun g hg=>World.putObj_heap_other (by have:=(bD HX.o.2.2.1 g hg).1;omega))
 case hstop=>rintro cd Ms W h;exact h.elim
end Go.Proofs.YthllkbbbapgelaaGreatDoor
end
section
namespace Go.Proofs.YthllkbbbapgelaaGreatDoor
open Go.RowKit Go.RG Go.SL Go.Shelf jl Go.TB
abbrev XC (k:Int×Int):Value:= .agg #[iv k.1,iv k.2]
theorem KX:Xr Tryz.prog 324 XC (fun _=>True) where
 find w x es:=run_findKey_eq w (by kernel_rfl) x es
 check b a w _:=by
  unfold Instr.checkKey
  simp[go_sem]
  simp only[GV,Result.andThen_ok]
 eq a b w _ _:=by
  unfold Op.equal Op.maxDepth
  simp[go_sem]
  obtain⟨a1,a2⟩:=a
  obtain⟨b1,b2⟩:=b
  by_cases h1:a1=b1 <;>by_cases h2:a2=b2 <;>simp[h1,h2]
 bits a _:=by simp[Instr.sameBits]
theorem adk:iO Tryz.prog 47 188 (xv (0,0,0)) 3 24:=⟨Tryz.underlying47,by kernel_rfl,rfl,by omega⟩
theorem CQ {w:World} {o:Option Addr} {n c:Nat} {ls:List (List Int)} (h:aN 3 w (.slice o n c) ls.length (ls.flatMap ah)) (h3: ∀x∈ls,x.length=3) {k:Nat} (hk:k<ls.length):
 ∃b off y0 y1 y2,o=some ⟨b,off,none⟩/\b<w.heap.size/\ls[k]=[y0,y1,y2]/\w.cell? ⟨b,off+k*3,none⟩=some (iv y0)/\w.cell? ⟨b,off+k*3+1,none⟩=some (iv y1)/\w.cell? ⟨b,off+k*3+2,none⟩=some (iv y2):=by
 obtain⟨hl,o',c',hv,h1,h2,hn,h4⟩:=h
 cases hv
 obtain⟨y0,y1,y2,hys⟩:=nH (h3 _ (df hk))
 cases o with
 |none=>have:=hn rfl;omega
 |some a=>
  obtain⟨b,off,sp⟩:=a
  obtain⟨hs,hc⟩:=h4 _ rfl
  simp only at hs hc
  subst hs
  have g: ∀j (hj:j<3),(ls.flatMap ah)[k*3+j]? =[iv y0,iv y1,iv y2][j]? :=fun j hj=>by
   have: ∀(ls:List (List Int)) (k:Nat) (hk:k<ls.length),(∀x∈ls,x.length=3)->(ls.flatMap ah)[k*3+j]? =(ah ls[k])[j]? :=by
    intro ls
    induction ls with
    |nil=>intro k hk;simp at hk
    |cons x ls ih=>
     intro k hk h3
     have hx:(ah x).length=3:=by simp[ah,h3 x (by simp)]
     rw[List.flatMap_cons]
     cases k with
     |zero=>simp only[Nat.zero_mul,Nat.zero_add,List.getElem_cons_zero];rw[uQ (by omega)]
     |succ k=>
      rw[ou (by omega),hx,show(k+1)*3+j-3=k*3+j from by omega]
      simpa using ih k (by simpa using hk) (fun y hy=>h3 y (by simp[hy]))
   rw[this ls k hk h3,hys]
   rfl
  have r0:=hc (k*3+0) (iv y0) (by rw[g 0 (by omega)];rfl)
  have r1:=hc (k*3+1) (iv y1) (by rw[g 1 (by omega)];rfl)
  have r2:=hc (k*3+2) (iv y2) (by rw[g 2 (by omega)];rfl)
  rw[Nat.add_zero] at r0
  rw[<-Nat.add_assoc] at r1 r2
  exact⟨b,off,y0,y1,y2,rfl,dG w _ r0,hys,r0,r1,r2⟩
theorem C9.lt {W:World} {wb mb:Nat} {l:aQ} {tv nv v:Value} {ls:List (List Int)} (h:C9 W wb mb l tv nv v ls):wb<W.heap.size:=(aS.1 h.cells).1
theorem C9.below {W W':World} {wb mb:Nat} {l:aQ} {tv nv v:Value} {ls:List (List Int)} (h:C9 W wb mb l tv nv v ls) {B:Nat} (hb:Below B W W') (hB:W.heap.size<=B):C9 W' wb mb l tv nv v ls:=
 ⟨(hb.block _ (by have:=h.lt;omega)).trans h.cells,h.xn.below hb hB,h.notes.below hb hB,h.truth.below hb hB⟩
theorem C9.table {W W':World} {wb mb:Nat} {l:aQ} {tv nv v:Value} {ls:List (List Int)} (h:C9 W wb mb l tv nv v ls) (hE:Ext [mb] W W') (hn: ∀o,W.cell? ⟨mb,o,none⟩=none):C9 W' wb mb l tv nv v ls:=by
 have hm: ∀x∈[mb], ∀o,W.cell? ⟨x,o,none⟩=none:=fun x hx o=>by have e:x=mb:=(by simpa using hx);rw[e];exact hn o
 refine⟨(hE.block _ h.lt (fun e=>?_)).trans h.cells,h.xn.gu hE hm,h.notes.gu hE hm,h.truth.gu hE hm⟩
 have e:wb=mb:=by simpa using e
 have:=hn 0
 rw[<-e] at this
 simp[World.cell?,h.cells] at this
theorem vN {P:Program} {o:Oper} {ρ:Operand->Value} {W W':World} {R:Value->World->Prop} (he:(execOp ρ o).run P W= .ok .skip W') (h:R undef W'):Does P o ρ W R:=by
 unfold Does;rw[he];exact h
theorem Oy {mb:Nat} {w W W':World} (h:Ext [mb] w W) (hb:Below w.heap.size W W'):Ext [mb] w W':=
 ⟨hb.os.trans h.os,hb.tape.trans h.tape,hb.output.trans h.output,iR h.size hb.size,fun k hk hm=>(hb.block k hk).trans (h.block k hk hm)⟩
structure rE (ns:List Ei) (T:List ((Int×Int)×dQ)) (done:List (Int×Int)):Prop where
 only: ∀key r,TB.look key T=some r->r=kn ns key
 has: ∀key∈done, ∃r,TB.look key T=some r
theorem rE.nil (ns:List Ei):rE ns [] []:=⟨fun key r h=>(by cases h),fun key h=>(by cases h)⟩
theorem rE.new {ns:List Ei} {T:List ((Int×Int)×dQ)} {done:List (Int×Int)} (h:rE ns T done) (key:Int×Int):rE ns (TB.store key (kn ns key) T) (done++[key]):=by
 refine⟨fun k r hl=>?_,fun k hk=>?_⟩
 ·rw[wz] at hl
  split at hl
  ·rename_i e;cases hl;rw[e]
  ·exact h.only k r hl
 ·rw[wz]
  by_cases e:k=key
  ·exact⟨_,aF e⟩
  ·rw[aj e]
   rcases iM.1 hk with h1|h1
   ·exact h.has k h1
   ·exact absurd (by simpa using h1) e
theorem rE.old {ns:List Ei} {T:List ((Int×Int)×dQ)} {done:List (Int×Int)} (h:rE ns T done) (key:Int×Int) {r:dQ} (hl:TB.look key T=some r):rE ns T (done++[key]):=
 ⟨h.only,fun k hk=>by
   rcases iM.1 hk with h1|h1
   ·exact h.has k h1
   ·have:k=key:=by simpa using h1
    rw[this];exact⟨r,hl⟩⟩
def keysOf (d:List Int) (i:Nat):List (Int×Int):=(List.range i).map fun(j:Nat)=>((j:Int),d.getD j 0)
def sZ (n:Nat) (ls:List (List Int)) (k:Nat):List (Int×Int):=(ls.take k).flatMap fun d=>keysOf d n
theorem NZ {n:Nat} {ls:List (List Int)} {k:Nat} (hk:k<ls.length):sZ n ls (k+1)=sZ n ls k++keysOf ls[k] n:=by
 unfold sZ
 rw[iC hk,uP]
 simp
theorem N7 (d:List Int) (i:Nat):keysOf d (i+1)=keysOf d i++[((i:Int),d.getD i 0)]:=by
 unfold keysOf
 rw[List.range_succ,List.map_append]
 rfl
theorem MI (l:aQ) (hS:qZ l.field) (h5:l.notes.length<=5) (tv nv v ov:Value) (out:List Int) (wb mb:Nat) (ls:List (List Int)) (T0:List ((Int×Int)×dQ)) (w:World) (hw:C9 w wb mb l tv nv v ls) (hT:TabAt XC rv (fun _=>True) w mb T0)
 (ho:aO w ov out) (h3: ∀x∈ls,x.length=3) (hlen:ls.length<=2500):
 Calls Tryz.prog 122 #[.pointer (some ⟨wb,0,none⟩),ov] w (fun e w'=>(∃u,e= .returned u)/\Ext [mb] w w'/\ ∃T,TabAt XC rv (fun _=>True) w' mb T/\rE (Dw l out) T (sZ l.field.aK.toNat ls ls.length)):=by
 obtain⟨on,cn,rfl⟩:=hw.notes.open
 obtain⟨ot,ct,rfl⟩:=hw.xn.open
 obtain⟨vo,vc,rfl⟩:=hw.truth.open
 obtain⟨oo,oc,rfl⟩:=ho.open
 have hwn:=hw.lt
 have hmb:=hT.lt
 have adO:=hT.mM
 obtain⟨c1,f1,l1⟩:=af hw.cells
 obtain⟨W1,hrun,hT1,hE1⟩:=WO (P:=Tryz.prog) (kv:=XC) (vv:=rv) (ok:=fun _=>True) (mt:=258) (k:=324) (e:=46) (by kernel_rfl) 0 hT
 have hw1:=hw.table hE1 adO
 have hm1: ∀x∈[mb], ∀o,w.cell? ⟨x,o,none⟩=none:=fun x hx o=>by have e:x=mb:=(by simpa using hx);rw[e];exact adO o
 have ho1:=ho.gu hE1 hm1
 have hwm:wb≠mb:=hT.ne hw.cells
 have HO:=ae (ag ho ho1)
 have HW:=ae hw
 have HW1:=ae hw1
 have HT1:=ae (ag hT1 hE1)
 have H3:=ae h3
 have hw0:=hS.zq
 have hw3:=hS.wR
 obtain⟨n,hn⟩: ∃n:Nat,l.field.aK=n:=⟨l.field.aK.toNat,by omega⟩
 have HN:=ae hn
 have hn3:n<=3:=by omega
 have hnt:l.field.aK.toNat=n:=by omega
 rw[hnt]
 clear hw hT ho hw1 hT1 hE1 hS hn hnt hw0 hw3 hm1 h3
 go_enter Tryz.func122,Tryz.ntmps122
 go_upto_region 2 with(fail)
 obtain⟨c1',f1',l1'⟩:=af HW1.o.cells
 have an2:=HT1.o.1.lt
 have hsz1:=HT1.o.2.size
 clear c1 f1 hrun
 go_wp2_with fail
 go_loopw [4,26] (fun v4 u wr=> ∃k:Nat,k<=l.notes.length/\u= .int .i64 k/\(∃lo lc,v4= .slice lo (lG l out k).length lc/\wr.ownsRow W1.heap.size 188 3 (.slice lo (lG l out k).length lc) (lG l out k).length (aX (lG l out k)))/\Below W1.heap.size W1 wr) (fun _ u _=>l.notes.length-(intOf u).toNat)
 case atStart=>exact⟨0,bM _,rfl,⟨none,0,rfl,⟨rfl,.inl ⟨rfl,rfl⟩⟩⟩,aH _ _⟩
 case round=>
  obtain⟨k,hk,rfl,⟨lo,lc,rfl,how⟩,hB⟩:=hrel
  have hwr:=HW1.o.below hB (ai _)
  by_cases hlt:k<l.notes.length
  ·obtain⟨b,off,hvv,hb,hc0,hc1,hc2⟩:=bI.cell hwr.notes hlt
   cases hvv
   have hgk:l.notes.getD k (0,(0,0))=l.notes[k]:=by simp[List.getD,hlt]
   have hcon:=iH out (.slice oo out.length oc) (k:Int)
   obtain⟨q,hq⟩: ∃q,out.contains (k:Int)=q:=⟨_,rfl⟩
   rw[hq] at hcon
   have hll:=F9 l out k
   have HC:=ae hcon
   have HQ:=ae (ag hq hgk)
   have HOW:=ae (ag how hB)
   generalize l.notes[k]=x at*
   clear hwr how hB hcon hq hgk
   cases q
   ·have hsu:=Q3 (l:=l) HQ.o.1
    rw[HQ.o.2] at hsu
    have wX:=ae hsu
    clear hsu
    go_upto_region 5 with(fail)
    refine dM fun W5 xY=>?_
    have xg:Below wr.heap.size wr W5:=by rw[xY];exact zl
    have hk5:W5.heap[wr.heap.size]? =some (.cells #[iv x.1,iv x.2.1,iv x.2.2] 188 (0,0)):=by rw[xY];exact ay _ _
    have uS:=HO.o.2.below (bn HOW.o.2 xg) (ai _)
    have pV:=ae (ag xg (ag hk5 uS))
    clear xY xg hk5 uS hc0 hc1 hc2 hb
    go_wp2_with fail
    refine(HC.o W5 pV.o.2.2).mono ?_
    rintro e W6 ⟨rfl,hb6⟩
    have hk6:=(hb6.block _ (aS.1 pV.o.2.1).1).trans pV.o.2.1
    obtain⟨e1,e2,e3⟩:=af hk6
    have qG:=ae (bn (bn HOW.o.2 pV.o.1) hb6)
    have Zn:=aC (Ms:=[]) (aC (Ms:=[]) HOW.o.1 (Ext.aA pV.o.1) (by simp)) (Ext.aA hb6) (by simp)
    have Mc:=ae Zn
    clear hb6 hk6 Zn
    go_wp2_with (at_builtin;refine fV rfl _ _ adk rfl W1.heap.size (.slice lo (lG l out k).length lc) (lG l out k).length (aX (lG l out k)) rfl ?_ (.slice (some ⟨W6.heap.size,0,none⟩) 1 1) 1 [iv x.1,iv x.2.1,iv x.2.2] rfl ?_ (by simp[Value.oneCell']) (by omega) (by omega) (by have:=qG.o.size;simp;omega) ?_)
    ·exact aC (Ms:=[]) Mc.o (Ext.aA ((aH _ _).alloc (ai _) _)) (by simp)
    ·exact aN.dD 3 1 (ay _ _) rfl (by decide)
    ·intro v' W7 hown hgr
     obtain⟨o7,c7,rfl⟩:=aW hown
     have HO7:=ae hown
     have HG7:=ae hgr
     clear hown hgr
     go_wp2_with fail
     go_roundw
     case rel=>
      refine⟨k+1,by omega,by go_num,⟨o7,c7,by rw[wX.o];simp,?_⟩,?_⟩
      ·rw[wX.o]
       have:=HO7.o
       simpa [aX,uP] using this
      ·exact Below.grown (ak qG.o _) HG7.o (by have:=qG.o.size;simp;omega) (fun k e=>(bD Mc.o k e).1)
     case measure=>simp[intOf];omega
   ·have hsu:=VF (l:=l) HQ.o.1
    have wX:=ae hsu
    clear hsu
    go_upto_region 5 with(fail)
    refine dM fun W5 xY=>?_
    have xg:Below wr.heap.size wr W5:=by rw[xY];exact zl
    have uS:=HO.o.2.below (bn HOW.o.2 xg) (ai _)
    have pV:=ae (ag xg uS)
    clear xY xg uS hc0 hc1 hc2 hb
    go_wp2_with fail
    refine(HC.o W5 pV.o.2).mono ?_
    rintro e W6 ⟨rfl,hb6⟩
    have qG:=ae (bn (bn HOW.o.2 pV.o.1) hb6)
    have Zn:=aC (Ms:=[]) (aC (Ms:=[]) HOW.o.1 (Ext.aA pV.o.1) (by simp)) (Ext.aA hb6) (by simp)
    have Mc:=ae Zn
    clear hb6 Zn
    go_wp2_with fail
    go_roundw
    case rel=>exact⟨k+1,by omega,by go_num,⟨lo,lc,by rw[wX.o],by rw[wX.o];exact Mc.o⟩,qG.o⟩
    case measure=>simp[intOf];omega
  ·have hkl:k=l.notes.length:=by omega
   subst hkl
   have hll:=F9 l out l.notes.length
   have XF:Ext [mb] w wr:=Oy HT1.o.2 (hB.mono hsz1)
   have HOW:=ae (ag how hB)
   have HEW:=ae XF
   have HT:=ae (HT1.o.1.below hB (ai _))
   have HWR:=ae hwr
   have hwl:=hwr.lt
   obtain⟨d1,g1,m1⟩:=af hwr.cells
   obtain⟨ns,hns⟩: ∃ns,lG l out l.notes.length=ns:=⟨_,rfl⟩
   have agi:Dw l out=ns:=hns
   have HNS:=ae agi
   rw[hns] at hll HOW
   rw[hns]
   clear how hB hwr XF hns agi c1' f1'
   have Zp:=HT.o.mM
   have hleft:bI wr (.slice lo ns.length lc) ns:=aN.dS HOW.o.1
   have HLF:=ae hleft
   have Gm:=HT.o.lt
   have JI:Hid (∀W,Ext [mb] wr W->C9 W wb mb l (.slice ot l.field.ax.length ct) (.slice on l.notes.length cn) (.slice vo ls.length vc) ls/\bI W (.slice lo ns.length lc) ns):=ae (fun W hE=>⟨HWR.o.table hE Zp,HLF.o.gu hE (fun x hx o=>by have e:x=mb:=(by simpa using hx);rw[e];exact Zp o)⟩)
   have HWS:=ae HOW.o.2.size
   have hLO: ∀g,(Value.slice lo ns.length lc).ownBlock=some g->g<wr.heap.size:=fun g hg=>(bD HOW.o.1 g hg).2
   clear hleft adO Zp
   obtain⟨W2,hW2⟩: ∃W2,wr=W2:=⟨_,rfl⟩
   rw[hW2] at JI HT HEW hLO
   have HLO:=ae hLO
   clear hLO
   have HB2:Hid (Ext [mb] W2 wr):=ae (by rw[hW2];exact Ext.refl _ _)
   have HTW:Hid (TabAt XC rv (fun _=>True) wr mb ([]:List ((Int×Int)×dQ))):=ae (by rw[hW2];exact HT.o)
   clear hW2
   go_wp2_with fail
   go_loopw [45] (fun u wr=> ∃k:Nat,k<=ls.length/\u= .int .i64 k/\Ext [mb] W2 wr/\ ∃T,TabAt XC rv (fun _=>True) wr mb T/\rE ns T (sZ n ls k)) (fun u _=>ls.length-(intOf u).toNat)
   case atStart=>exact⟨0,bM _,rfl,HB2.o,[],HTW.o,rE.nil _⟩
   case round=>
    obtain⟨k,hk,rfl,hE,T,hT,RH⟩:=hrel
    obtain⟨hwr,hlf⟩:=JI.o _ hE
    by_cases hlt:k<ls.length
    ·obtain⟨d1,g1,m1⟩:=af hwr.cells
     obtain⟨b,off,y0,y1,y2,hvv,hb,hys,r0,r1,r2⟩:=CQ hwr.truth H3.o hlt
     subst hvv
     have hks:=NZ (n:=n) hlt
     generalize ls[k]=d at*
     have HKS:=ae hks
     have BG:=ae hys
     have HX:=ae (ag hE (ag hT RH))
     clear hks hys hE hT RH hwr hlf
     go_upto_region 11 with(fail)
     refine dM fun W3 hW3=>?_
     have hB3:Below wr.heap.size wr W3:=by rw[hW3];exact zl
     have hk8:W3.heap[wr.heap.size]? =some (.cells #[iv y0,iv y1,iv y2] 257 (0,0)):=by rw[hW3];exact ay _ _
     have xZ:Ext [mb] W2 W3:=HX.o.1.trans (Ext.aA hB3)
     have hT3:=HX.o.2.1.below hB3 (ai _)
     obtain⟨afT,ajQ⟩:=JI.o _ xZ
     obtain⟨b8,hb8⟩: ∃b8,wr.heap.size=b8:=⟨_,rfl⟩
     rw[hb8] at hk8
     rw[hb8]
     have ajM:mb≠b8:=by have:=HX.o.2.1.lt;omega
     have HX3:=ae (ag xZ (ag hT3 (ag HX.o.2.2 hk8)))
     clear hW3 d1 g1 m1 r0 r1 r2 hb hB3 xZ hT3 hb8 HX
     obtain⟨d1,g1,m1⟩:=af afT.cells
     clear afT ajQ hk8
     go_wp2_with fail
     rw[HN.o]
     go_loopw [55] (fun u wr=> ∃i:Nat,i<=n/\u= .int .i64 i/\Ext [mb] W3 wr/\ ∃T,TabAt XC rv (fun _=>True) wr mb T/\rE ns T (sZ n ls k++keysOf d i)) (fun u _=>n-(intOf u).toNat)
     case atStart=>exact⟨0,bM _,rfl,Ext.refl _ _,T,HX3.o.2.1,by have:=HX3.o.2.2.1;simpa [keysOf] using this⟩
     case round=>
      obtain⟨i,hi,rfl,hE,T,hT,RH⟩:=hrel
      by_cases an3:i<n
      ·have hE2:=HX3.o.1.trans hE
       have hk8:=(hE.block _ (aS.1 HX3.o.2.2.2).1 (by simpa using fun e=>ajM e.symm)).trans HX3.o.2.2.2
       have agE:wr.heap[b8]? =some (.cells (ah d).toArray 257 (0,0)):=by rw[BG.o];exact hk8
       have hd3:d.length=3:=by rw[BG.o];rfl
       have hcell:=gG agE (show i<d.length by omega)
       have hgd:d.getD i 0=d[i]'(by omega):=by simp[List.getD,hd3,show i<3 by omega]
       have hkk:=N7 d i
       rw[hgd] at hkk
       generalize hdi:d[i]'(by omega)=di at*
       have HDI:Hid (∀h,d[i]'h=di):=ae (fun _=>hdi)
       clear hdi
       have ag0:=(aS.1 hk8).1
       have hi3:i<3:=by omega
       have HKK:=ae hkk
       have HX:=ae (ag hE (ag hT (ag RH hk8)))
       clear hkk hE hT RH hgd hd3 hk8 agE hE2
       go_upto_region 15 with(fail)
       refine dM fun W6 Cm=>?_
       have IB:Below wr.heap.size wr W6:=by rw[Cm];exact zl
       have hk10:W6.heap[wr.heap.size]? =some (.cells #[iv (i:Int),iv di] 324 (0,0)):=by rw[Cm];exact ay _ _
       have A7:Ext [mb] W3 W6:=HX.o.1.trans (Ext.aA IB)
       have hT6:=HX.o.2.1.below IB (ai _)
       have agD:=(IB.block _ ag0).trans HX.o.2.2.2
       obtain⟨hw6,agt⟩:=JI.o _ (HX3.o.1.trans A7)
       have hlook:=fun cm W hW=>vJ KX (mt:=258) (e:=46) (by kernel_rfl) (z:=rv (0,0)) (fun W=>by simp[go_sem]) hT6 ((i:Int),di) trivial cm W hW
       obtain⟨b10,zU⟩: ∃b10,wr.heap.size=b10:=⟨_,rfl⟩
       rw[zU] at hk10
       rw[zU]
       have aoB:b8<b10:=by omega
       have alZ:mb<b10:=by have:=HX.o.2.1.lt;omega
       have HT6:=ae hT6
       have HX6:=ae (ag A7 (ag agD (ag hk10 (ag hw6 agt))))
       obtain⟨e1,e2,e3⟩:=af hw6.cells
       obtain⟨e4,e5,e6⟩:=af hk10
       obtain⟨lk,hlk⟩: ∃lk,TB.look ((i:Int),di) T=lk:=⟨_,rfl⟩
       rw[hlk] at hlook
       have ala:=ae hlk
       clear Cm hcell IB A7 hT6 agD hw6 agt hk10 zU d1 g1 m1 hlk
       cases lk with
       |some r=>
        have Md:=ae (hlook true)
        simp only[Option.map_some,Option.getD_some,Option.isSome_some,if_true] at Md
        clear hlook
        refine qA 11 [] (some 10) [(9,⟨fun _ v=> ∃b:Nat,v= .pointer (some ⟨b,0,none⟩),fun _ _ _=>True⟩),(10,⟨fun _ v=>v=undef,fun _ _ _=>True⟩)] (fun i _ v W=>match i with|9=> ∃b:Nat,v= .pointer (some ⟨b,0,none⟩)/\W6.heap.size<=b/\W.heap[b]? =some (.cells #[iv 0,iv 0] 46 (0,0))|_=>True) (by kernel_rfl) (by kernel_rfl) ?_
        simp only[zt]
        repeat ((first|refine zn ?_|refine zk ?_);simp only[zp])
        refine iE (by rfl) (.tuple #[.agg #[iv r.1,iv r.2],.bool true]) (by rfl) (fun W hE _=>by have:=Md.o W (hE.block mb (HT6.o.lt) (by simp));go_simp;try rfl) ?_
        simp only[zp]
        repeat ((first|refine zn ?_|refine zk ?_);simp only[zp])
        refine kP _ (by rfl) (by rfl) (by exact⟨_,0,rfl⟩) (fun Wa hE hF hG=>?_) (fun _ _ _ _ _=>trivial) (fun v Wa Wb ho hE=>?_) (fun v hv=>?_)
        ·exact jg (W':=Wa.alloc (.cells #[iv 0,iv 0] 46)) (.pointer (some ⟨Wa.heap.size,0,none⟩)) (by go_simp;try rfl) ⟨⟨_,rfl⟩,trivial,Ext.aA ((aH _ _).alloc (ai _) _),_,rfl,(show uz W6.heap.size [] W6 Wa from hE).size,heap_alloc_new _ _⟩
        ·obtain⟨b,hb,hge,hc⟩:=ho
         exact⟨b,hb,hge,(hE.block b (aS.1 hc).1 (by simp)).trans hc⟩
        obtain⟨b11,rfl⟩:=hv
        simp only[zp]
        refine kP _ (by rfl) (by rfl) (by exact⟨_,rfl⟩) (fun Wa hE hF hG=>?_) (fun _ _ _ _ _=>trivial) (fun _ _ _ _ _=>trivial) (fun v hv=>?_)
        ·obtain⟨b,hb,hge,hc⟩:=hG rfl _ (bF _) (by kernel_rfl)
         cases hb
         obtain⟨x1,x2,x3⟩:=af hc
         exact vN (W':=(Wa.setCell ⟨b11,0,none⟩ (iv r.1)).setCell ⟨b11,1,none⟩ (iv r.2)) (by go_simp;try rfl) ⟨rfl,trivial,⟨rfl,rfl,rfl,by simp[World.setCell],fun k' hk' hkB _=>(dF _ _ _ _ (by show k'≠b11;omega)).trans (dF _ _ _ _ (by show k'≠b11;omega))⟩,trivial⟩
        obtain rfl:v=undef:=hv
        simp only[Act.put]
        intro Xk ZJ _
        have CJ:Below W6.heap.size W6 Xk:=qm ZJ (ai _)
        have JJ:Ext [mb] W3 Xk:=HX6.o.1.trans (Ext.aA CJ)
        have ZF:=HT6.o.below CJ (ai _)
        have H15:=ae (ag JJ (ag ZF (HKK.o▸(kZ _ _ _▸HX.o.2.2.1.old _ ala.o:rE ns T (sZ n ls k++(keysOf d i++[((i:Int),di)]))))))
        clear ZJ CJ JJ ZF e1 e2 e3 e4 e5 e6
        go_wp2_with fail
        go_roundw
        case rel=>exact⟨i+1,by omega,by go_num,H15.o.1,T,H15.o.2.1,H15.o.2.2⟩
        case measure=>simp[intOf];omega
       |none=>
        have Md:=ae (hlook true)
        simp only[Option.map_none,Option.getD_none,Option.isSome_none,if_true] at Md
        clear hlook
        refine qA 11 [] (some 10) [(9,⟨fun _ v=> ∃b:Nat,v= .pointer (some ⟨b,0,none⟩),fun _ _ _=>True⟩),(10,⟨fun _ v=>v=undef,fun _ _ _=>True⟩)] (fun i _ v W=>match i with|9=> ∃b:Nat,v= .pointer (some ⟨b,0,none⟩)/\W6.heap.size<=b/\W.heap[b]? =some (.cells #[iv 0,iv 0] 46 (0,0))|_=>True) (by kernel_rfl) (by kernel_rfl) ?_
        simp only[zt]
        repeat ((first|refine zn ?_|refine zk ?_);simp only[zp])
        refine iE (by rfl) (.tuple #[.agg #[iv 0,iv 0],.bool false]) (by rfl) (fun W hE _=>by have:=Md.o W (hE.block mb (HT6.o.lt) (by simp));go_simp;try rfl) ?_
        simp only[zp]
        repeat ((first|refine zn ?_|refine zk ?_);simp only[zp])
        refine kP _ (by rfl) (by rfl) (by exact⟨_,0,rfl⟩) (fun Wa hE hF hG=>?_) (fun _ _ _ _ _=>trivial) (fun v Wa Wb ho hE=>?_) (fun v hv=>?_)
        ·exact jg (W':=Wa.alloc (.cells #[iv 0,iv 0] 46)) (.pointer (some ⟨Wa.heap.size,0,none⟩)) (by go_simp;try rfl) ⟨⟨_,rfl⟩,trivial,Ext.aA ((aH _ _).alloc (ai _) _),_,rfl,(show uz W6.heap.size [] W6 Wa from hE).size,heap_alloc_new _ _⟩
        ·obtain⟨b,hb,hge,hc⟩:=ho
         exact⟨b,hb,hge,(hE.block b (aS.1 hc).1 (by simp)).trans hc⟩
        obtain⟨b11,rfl⟩:=hv
        simp only[zp]
        refine kP _ (by rfl) (by rfl) (by exact⟨_,rfl⟩) (fun Wa hE hF hG=>?_) (fun _ _ _ _ _=>trivial) (fun _ _ _ _ _=>trivial) (fun v hv=>?_)
        ·obtain⟨b,hb,hge,hc⟩:=hG rfl _ (bF _) (by kernel_rfl)
         cases hb
         obtain⟨x1,x2,x3⟩:=af hc
         exact vN (W':=(Wa.setCell ⟨b11,0,none⟩ (iv 0)).setCell ⟨b11,1,none⟩ (iv 0)) (by go_simp;try rfl) ⟨rfl,trivial,⟨rfl,rfl,rfl,by simp[World.setCell],fun k' hk' hkB _=>(dF _ _ _ _ (by show k'≠b11;omega)).trans (dF _ _ _ _ (by show k'≠b11;omega))⟩,trivial⟩
        obtain rfl:v=undef:=hv
        simp only[Act.put]
        intro Xk ZJ _
        have CJ:Below W6.heap.size W6 Xk:=qm ZJ (ai _)
        have JJ:Ext [mb] W3 Xk:=HX6.o.1.trans (Ext.aA CJ)
        have ZF:=HT6.o.below CJ (ai _)
        have Ug:=(CJ.block _ (aS.1 HX6.o.2.1).1).trans HX6.o.2.1
        have Zu:=(CJ.block _ e6).trans HX6.o.2.2.1
        have hcell:=gG (show Xk.heap[b8]? =some (.cells (ah d).toArray 257 (0,0)) by rw[BG.o];exact Ug) (show i<d.length by rw[BG.o];simpa using hi3)
        rw[HDI.o] at hcell
        obtain⟨afV,agu⟩:=JI.o _ (HX3.o.1.trans JJ)
        obtain⟨e1,e2,e3⟩:=af afV.cells
        have akf:=(aS.1 Ug).1
        have ajB:=CJ.size
        have H15:=ae (ag JJ (ag ZF (ag Ug Zu)))
        clear ZJ CJ JJ ZF Ug Zu afV agu e4 e5
        go_upto_region 18 with(fail)
        refine dM fun W17 ad5=>?_
        have abR:Below Xk.heap.size Xk W17:=by rw[ad5];exact zl
        have adV:W17.heap[Xk.heap.size]? =some (.cells #[iv 0,iv di] 46 (0,0)):=by rw[ad5];exact ay _ _
        obtain⟨b13,Ll⟩: ∃b13,Xk.heap.size=b13:=⟨_,rfl⟩
        rw[Ll] at adV
        rw[Ll]
        have abQ:Ext [mb] W3 W17:=H15.o.1.trans (Ext.aA abR)
        have ahe:=H15.o.2.1.below abR (ai _)
        have Zt:=(abR.block _ (aS.1 H15.o.2.2.2).1).trans H15.o.2.2.2
        obtain⟨afU,acN⟩:=JI.o _ (HX3.o.1.trans abQ)
        have q10:b10<b13:=by omega
        have qmb:mb<b13:=by omega
        have qW3:W3.heap.size<=b13:=by have:=H15.o.1.size;omega
        have qW2:W2.heap.size<=b13:=by have:=HX3.o.1.size;have:=H15.o.1.size;omega
        have qwb:wb<b13:=by have:=hwl;have:=HX3.o.1.size;have:=abQ.size;omega
        have hk0:wZ ns ((i:Int),di) 0=(0,di):=rfl
        have H17:=ae (ag abQ (ag ahe (ag Zt (ag afU acN))))
        have Zr:W17.heap[b13]? =some (.cells #[iv (wZ ns ((i:Int),di) 0).1,iv (wZ ns ((i:Int),di) 0).2] 46 (0,0)):=adV
        clear ad5 abR abQ ahe Zt afU acN adV hcell e1 e2 e3 ajB akf e6 Ll hk0
        go_wp2_with fail
        go_loopw [79] (fun u wr=> ∃j:Nat,j<=ns.length/\u= .int .i64 j/\wr.heap[b13]? =some (.cells #[iv (wZ ns ((i:Int),di) j).1,iv (wZ ns ((i:Int),di) j).2] 46 (0,0))/\Ext [b13] W17 wr) (fun u _=>ns.length-(intOf u).toNat)
        case atStart=>exact⟨0,bM _,rfl,Zr,Ext.refl _ _⟩
        case round=>
         obtain⟨j,hj,rfl,hkr,hEr⟩:=hrel
         obtain⟨x1,x2,x3⟩:=af hkr
         by_cases agn:j<ns.length
         ·have ags:=H17.o.2.2.2.2.ext hEr (fun z hz e=>by have:=HLO.o z e;have hz':z=b13:=(by simpa using hz);omega)
          obtain⟨lb,QV,rfl,hlb,hn0,hn1,hn2⟩:=bI.cell ags agn
          have hsu:=JE (ns:=ns) (key:=((i:Int),di)) agn
          generalize ns[j]=x at*
          generalize hr:wZ ns ((i:Int),di) j=r at*
          have wX:=ae hsu
          have HKR:=ae (ag hkr hEr)
          clear hsu hkr hEr ags hr Zr
          by_cases hxi:x.1=(i:Int)
          ·have hxb:(x.1==(i:Int))=true:=by simpa using hxi
           have HXI:=ae hxi
           clear hxi
           go_upto_region 22 with(fail)
           go_wp2_with fail
           refine(both_any r x.2 _).mono ?_
           rintro e W9 ⟨rfl,wE⟩
           obtain⟨hc,hf⟩:=bJ wE
           have hs9:=wE.size
           simp only[bu] at hs9
           have pW:=ae (bn (ak (aH wr.heap.size wr) (.cells #[iv x.1,iv x.2.1,iv x.2.2] 188)) wE)
           clear wE
           go_wp2_with fail
           go_roundw
           case rel=>
            refine⟨j+1,by omega,by go_num,?_,?_⟩
            ·rw[wX.o,aF HXI.o]
             exact aI (aI ((pW.o.block _ x3).trans HKR.o.1) _) _
            ·exact((HKR.o.2.trans (Ext.aA pW.o)).trans (mf _ ⟨b13,0,none⟩ _)).trans (mf _ ⟨b13,1,none⟩ _)
           case measure=>simp[intOf];omega
          ·have hxb:(x.1==(i:Int))=false:=by simpa using hxi
           have HXI:=ae hxi
           clear hxi
           go_wp2_with fail
           go_roundw
           case rel=>
            refine⟨j+1,by omega,by go_num,?_,HKR.o.2.trans (Ext.aA (ak (aH _ _) _))⟩
            rw[wX.o,aj HXI.o]
            exact(aV _ _ _ x3).trans HKR.o.1
           case measure=>simp[intOf];omega
         ·have hjl:j=ns.length:=by omega
          subst hjl
          have hkne:b13∉[mb]:=by simp;omega
          have hTr:TabAt XC rv (fun _=>True) wr mb T:=H17.o.2.1.ext hEr (by simp;omega)
          have acP:=(hEr.block _ (aS.1 H17.o.2.2.1).1 (by simp;omega)).trans H17.o.2.2.1
          have hwr:=(hEr.block _ H17.o.2.2.2.1.lt (by simp;omega)).trans H17.o.2.2.2.1.cells
          obtain⟨e1,e2,e3⟩:=af hwr
          obtain⟨e4,e5,e6⟩:=af acP
          have hkn:wZ ns ((i:Int),di) ns.length=kn ns ((i:Int),di):=rfl
          rw[hkn] at x1 hkr
          generalize hr:kn ns ((i:Int),di)=r at*
          have HRR:=ae hr
          have HTR:=ae hTr
          have HER:=ae hEr
          clear hkr hEr hTr acP hwr hkn hr Zr
          go_upto_region 24 with(fail)
          refine zg 6 [] none [] ?_
          simp only[zt]
          repeat ((first|refine zn ?_|refine zk ?_);simp only[zp])
          intro W hE hF
          obtain⟨hc,hf⟩:=bJ hE.below
          have hzE:=hE.size
          (try simp only[bu] at hzE)
          obtain⟨W25,hrun,ahd,ahn⟩:=fU KX (mt:=258) (e:=46) (by kernel_rfl) (HTR.o.below hE.below (ai _)) ((i:Int),di) trivial r
          have aea:=HX.o.2.2.1.new ((i:Int),di)
          rw[HRR.o,kZ, <-HKK.o] at aea
          have acV:Ext [mb] W3 W25:=by
           have h1:Ext [mb] W3 wr:=Oy H17.o.1 ⟨HER.o.os,HER.o.tape,HER.o.output,HER.o.size,fun k' hk'=>HER.o.block k' (by have:=H17.o.1.size;omega) (by simp;omega)⟩
           exact(h1.trans (hE.more (by simp))).trans ahn
          have H25:=ae (ag acV (ag ahd aea))
          clear ahd ahn aea acV hE hF hc hf e1 e2 e3 e4 e5 e6 x1 x2 x3
          go_wp2_with fail
          go_roundw
          case rel=>exact⟨i+1,by omega,by go_num,H25.o.1,_,H25.o.2.1,H25.o.2.2⟩
          case measure=>simp[intOf];omega
      ·have hin:i=n:=by omega
       subst hin
       have H9:=ae (ag (HX3.o.1.trans hE) (ag hT (HKS.o▸RH:rE ns T (sZ i ls (k+1)))))
       clear hE hT RH
       go_wp2_with fail
       go_roundw
       case rel=>exact⟨k+1,by omega,by go_num,H9.o.1,T,H9.o.2.1,H9.o.2.2⟩
       case measure=>simp[intOf];omega
    ·have hkl:k=ls.length:=by omega
     subst hkl
     have H9:=ae (ag (HEW.o.trans hE) (ag hT RH))
     clear hE hT RH hwr hlf
     go_wp2_with fail
     go_end0
     exact⟨⟨_,rfl⟩,H9.o.1,T,H9.o.2.1,HNS.o▸H9.o.2.2⟩
end Go.Proofs.YthllkbbbapgelaaGreatDoor
namespace Go.Proofs.YthllkbbbapgelaaGreatDoor
open Go.RowKit Go.RG Go.SL Go.Shelf jl Go.TB
theorem Fg:iO Tryz.prog 69 46 (rv (0,0)) 2 16:=⟨Tryz.underlying69,by kernel_rfl,rfl,by omega⟩
def Pz (l:aQ) (out d:List Int) (w:World) (e:Ending) (w':World):Prop:=
 Below w.heap.size w w'/\((jw l out d=true/\ ∃v,e= .returned (.tuple #[v,.bool true])/\w'.ownsRow w.heap.size 46 2 v (kJ l out d).length (aG (kJ l out d)))∨(jw l out d=false/\e= .returned (.tuple #[.slice none 0 0,.bool false])))
theorem Yz (l:aQ) (hS:qZ l.field) (hbx:0<=l.box.1/\l.box.1<=2000/\0<=l.box.2/\l.box.2<=2000) (tv nv v:Value) (out d:List Int) (hd3:d.length=3) (rs:List dQ) (hrs:rs=pJ l out d)
 (hrb: ∀r∈rs,0<=r.1/\r.1<=2000/\0<=r.2/\r.2<=2000) (wb mb:Nat) (T:List ((Int×Int)×dQ)) (w:World) (hw:w.heap[wb]? =some (.cells (uA l tv nv v mb) 260 (0,0))) (hT:TabAt XC rv (fun _=>True) w mb T)
 (hlook: ∀i:Nat,i<l.field.aK.toNat->TB.look ((i:Int),d.getD i 0) T=some (rs.getD i (0,0))):
 Calls Tryz.prog 125 #[.pointer (some ⟨wb,0,none⟩),lQ d] w (Pz l out d w):=by
 have hrl:rs.length=l.field.aK.toNat:=by rw[hrs,yR]
 have hw0:=hS.zq
 have hw3:=hS.wR
 obtain⟨n,hn⟩: ∃n:Nat,l.field.aK=n:=⟨l.field.aK.toNat,by omega⟩
 have hnt:l.field.aK.toNat=n:=by omega
 rw[hnt] at hlook hrl
 have hn3:n<=3:=by omega
 obtain⟨y0,y1,y2,hys⟩:=nH hd3
 have hlow:=xC (·.1) rs (fun r hr=>by have:=hrb r hr;omega)
 have hhigh:=xC (·.2) rs (fun r hr=>by have:=hrb r hr;omega)
 obtain⟨c1,f1,l1⟩:=af hw
 have hag:lQ d= .agg #[iv y0,iv y1,iv y2]:=by rw[hys];rfl
 rw[hag]
 have HN:=ae hn
 have EX:=ae (ag hrs hrl)
 have Md:=ae hlook
 have L9:=ae (ag hrb (ag hlow hhigh))
 have HW:=ae (ag hw hT)
 have BG:=ae (ag hys hd3)
 clear hrs hrl hlook hrb hlow hhigh hw hT hn hnt hw0 hw3 hag hys hd3
 go_enter Tryz.func125,Tryz.ntmps125
 go_wp2_with fail
 obtain⟨W1,hW1⟩: ∃W1,w.alloc (.cells #[iv y0,iv y1,iv y2] 257)=W1:=⟨_,rfl⟩
 have hB1:Below w.heap.size w W1:=by rw[<-hW1];exact ak (aH _ _) _
 have hk0:W1.heap[w.heap.size]? =some (.cells #[iv y0,iv y1,iv y2] 257 (0,0)):=by rw[<-hW1];exact ay _ _
 have hw1:=(hB1.block _ l1).trans HW.o.1
 have hT1:=HW.o.2.below hB1 (ai _)
 have hs1:W1.heap.size=w.heap.size+1:=by rw[<-hW1];simp
 have HX1:=ae (ag hB1 (ag hk0 (ag hw1 hT1)))
 rw[hW1]
 have hws:w.heap.size<W1.heap.size:=by omega
 have adH:wb<W1.heap.size:=by omega
 clear hW1 hB1 hk0 hw1 hT1 hs1 c1 f1
 rw[HN.o]
 go_loopw [4,6,7,18] (fun v4 v6 v7 u wr=> ∃i:Nat,i<=n/\u= .int .i64 i/\v6= .int .i64 (lq (·.1) rs i)/\v7= .int .i64 (lq (·.2) rs i)/\(∃oo oc,v4= .slice oo i oc/\wr.ownsRow W1.heap.size 46 2 (.slice oo i oc) i (aG (rs.take i)))/\Below W1.heap.size W1 wr/\
  (∀j (hj:j<rs.length),j<i->rs[j].1<=rs[j].2)) (fun _ _ _ u _=>n-(intOf u).toNat)
 case atStart=>exact⟨0,bM _,rfl,rfl,rfl,⟨none,0,rfl,⟨rfl,.inl ⟨rfl,rfl⟩⟩⟩,aH _ _,fun j hj h=>by omega⟩
 case round=>
  obtain⟨i,hi,rfl,rfl,rfl,⟨oo,oc,rfl,how⟩,hB,hok⟩:=hrel
  have hwr:=(hB.block _ adH).trans HX1.o.2.2.1
  have hkr:=(hB.block _ hws).trans HX1.o.2.1
  have hTr:=HX1.o.2.2.2.below hB (ai _)
  obtain⟨d1,g1,m1⟩:=af hwr
  by_cases hlt:i<n
  ·have hir:i<rs.length:=by rw[EX.o.2];exact hlt
   have hcell:=gG (show wr.heap[w.heap.size]? =some (.cells (ah d).toArray 257 (0,0)) by rw[BG.o.1];exact hkr) (show i<d.length by rw[BG.o.2];omega)
   have hgd:d.getD i 0=d[i]'(by rw[BG.o.2];omega):=by simp[List.getD,BG.o.2,show i<3 by omega]
   have hlk:=Md.o i hlt
   rw[hgd,show rs.getD i (0,0)=rs[i] from by simp[List.getD,hir]] at hlk
   generalize d[i]'(by rw[BG.o.2];omega)=di at*
   have hlook:=fun W hW=>vJ KX (mt:=258) (e:=46) (by kernel_rfl) (z:=rv (0,0)) (fun W=>by simp[go_sem]) hTr ((i:Int),di) trivial false W hW
   rw[hlk] at hlook
   simp only[Option.map_some,Option.getD_some,Option.isSome_some,Bool.false_eq_true,if_false] at hlook
   have hbd:=L9.o.1 rs[i] (df hir)
   have hlo:=L9.o.2.1 i (by omega)
   have hhi:=L9.o.2.2 i (by omega)
   have hls:=sJ (·.1) hir
   have hhs:=sJ (·.2) hir
   have htk:rs.take (i+1)=rs.take i++[rs[i]]:=iC hir
   generalize D5:rs[i]=r at*
   have ag0:=m1
   have hi3:i<3:=by omega
   have agN:(i:Int)<3:=by omega
   have hwl:w.heap.size<wr.heap.size:=by have:=hB.size;omega
   have HL:=ae hlook
   have HS:=ae (ag hls (ag hhs htk))
   have HX:=ae (ag how (ag hB (ag hwr (ag hTr hok))))
   have HRI:=ae D5
   clear hgd hlk hlook hls hhs htk how hB hwr hkr hTr hok D5
   generalize lq (·.1) rs i=XD at*
   generalize lq (·.2) rs i=Yk at*
   go_upto_region 5 with(fail)
   refine zg 11 [] none [(10,Spec.block wr.heap.size #[iv 0,iv 0] 46)] ?_
   simp only[zt]
   repeat ((first|refine zn ?_|refine zk ?_);simp only[zp])
   refine iE (by rfl) (rv r) (by rfl) (fun W hE _=>by have:=HL.o W (hE.block mb (HX.o.2.2.2.1.lt) (by simp));go_simp;try rfl) ?_
   simp only[zp]
   refine jQ wr.heap.size _ _ (by rfl) (ai _) (by rfl) (by simp) (by simp) (fun W hW=>by go_simp;try rfl) (fun b9=>?_)
   simp only[zp]
   intro W5 Oq hF5
   have Lu:Ext [] wr W5:=Oq
   obtain⟨c9,wE,agQ,hk9⟩:=hF5 _ (bF _)
   cases wE
   obtain⟨p1,p2,p3⟩:=af hk9
   have HE5:=ae Lu
   have hs5:=Lu.size
   clear Oq hF5 Lu hcell
   go_upto_region 6 with(fail)
   refine dM fun W6 Cm=>?_
   have IB:Below wr.heap.size wr W6:=by rw[Cm];exact iD (iD (show Below wr.heap.size wr W5 from HE5.o.below) agQ _) agQ _
   have adS:W6.heap[b9]? =some (.cells #[iv r.1,iv r.2] 46 (0,0)):=by rw[Cm];exact aI (aI hk9 _) _
   have Zn:W6.ownsRow W1.heap.size 46 2 (.slice oo i oc) i (aG (rs.take i)):=dm HX.o.1 fun g hg=>IB.block g (bD HX.o.1 g hg).2
   have H6:=ae (ag Zn (ag (bn HX.o.2.1 IB) (ag IB adS)))
   clear Cm IB hk9 p1 p2 p3 d1 g1 Zn
   obtain⟨p1,p2,p3⟩:=af adS
   clear adS
   by_cases hgt:r.2<r.1
   ·have hcp:jw l out d=false:=by
     unfold jw
     rw[<-EX.o.1]
     have:rs.all (fun r=>decide (r.1<=r.2))=false:=by
      rw[List.all_eq_false]
      exact⟨r,by rw[<-HRI.o];exact df _,by simp;omega⟩
     rw[this];rfl
    have HCP:=ae hcp
    clear hcp
    go_wp2_with fail
    go_returns
    exact⟨bn HX1.o.1 H6.o.2.1,.inr ⟨HCP.o,by simp⟩⟩
   ·have anW: ¬(r.1>r.2):=hgt
    go_upto_region 8 with(fail)
    cases oo with
    |none=>
     have hgl:True:=trivial
     refine zg 14 [] (some 3) [(2,Spec.slice W6.heap.size #[iv r.1,iv r.2] 46 1),(3,⟨fun _ v=> ∃o c,v= .slice o (i+1) c,fun _ v Wx=>Wx.ownsRow W1.heap.size 46 2 v (i+1) (aG (rs.take (i+1)))⟩)] ?_
     simp only[zt]
     repeat ((first|refine zn ?_|refine zk ?_);simp only[zp])
     refine dX W6.heap.size _ _ 1 (by rfl) (ai _) (by rfl) (by first|(simp;done)|simpa using hgl) (by simp) (fun W hW=>by go_simp;try rfl) (fun b2=>?_)
     simp only[zp]
     refine bG _ (by rfl) (by rfl) (by exact⟨.slice none (i+1) 0,none,0,rfl⟩) (fun Wa hE hF=>?_) (fun v Wa Wb ho hE=>?_) (fun v hv=>?_)
     ·have hE':Ext [] W6 Wa:=hE
      obtain⟨b',hb',hge,hcc⟩:=hF _ (bF _) (by kernel_rfl)
      cases hb'
      have hown6:=aC (Ms:=[]) H6.o.1 hE' (by simp)
      have hsrc:aN 2 Wa (.slice (some ⟨b2,0,none⟩) 1 1) 1 (aG [r]):=aN.dD 2 1 hcc rfl (by decide)
      refine Does.mono (dK Fg (by rfl) (by rfl) hown6 (by rfl) hsrc (oK _) (by omega) (by omega) (by have:=hE'.size;have:=H6.o.2.1.size;omega)) ?_
      rintro v' Wc ⟨ho,hgr,hcase⟩
      refine⟨aW ho,?_,⟨hgr.os,hgr.tape,hgr.output,hgr.size,fun b hb hn=>hgr.block b hb (fun e=>by first|(simp[Value.ownBlock] at e;done)|(simp[Value.ownBlock] at e;exact hn (by simp[e])))⟩⟩
      show Wc.ownsRow _ _ _ v' (i+1) _
      rw[HS.o.2.2,oZ]
      exact ho
     ·exact aC (Ms:=[]) ho hE (by simp)
     obtain⟨o3,c3,rfl⟩:=hv
     simp only[zp]
     repeat ((first|refine zn ?_|refine zk ?_);simp only[zp])
     intro W8 hE hF
     have hE':Ext [] W6 W8:=hE
     have qE:W8.ownsRow W1.heap.size 46 2 (.slice o3 (i+1) c3) (i+1) (aG (rs.take (i+1))):=hF _ (bF _)
     have Ah:Below W1.heap.size W1 W8:=⟨hE'.os.trans H6.o.2.1.os,hE'.tape.trans H6.o.2.1.tape,hE'.output.trans H6.o.2.1.output,iR H6.o.2.1.size hE'.size,fun b hb=>(hE'.block b (by have:=H6.o.2.1.size;omega) (by simp <;>omega)).trans (H6.o.2.1.block b hb)⟩
     have H8:=ae (ag qE Ah)
     clear hE hF hE' qE Ah p1 p2 p3
     go_wp2_with fail
     go_roundw
     case rel=>
      refine⟨i+1,by omega,by go_num,by rw[HS.o.1],by rw[HS.o.2.1],⟨o3,c3,rfl,H8.o.1⟩,H8.o.2,fun j hj hji=>?_⟩
      by_cases hje:j=i
      ·subst hje;rw[HRI.o];omega
      ·exact HX.o.2.2.2.2 j hj (by omega)
     case measure=>simp[intOf];omega
    |some a=>
     obtain⟨gb,rfl,hgb⟩: ∃gb:Nat,a=⟨gb,0,none⟩/\W1.heap.size<=gb:=by
      obtain⟨_,⟨hv,_⟩|⟨g,c,cs,hv,hbg,hrest⟩⟩:=H6.o.1
      ·cases hv
      ·simp at hv;exact⟨g,hv.1,hbg⟩
     have hgl:gb<W6.heap.size:=(bD H6.o.1 gb rfl).2
     have hgw:gb<wr.heap.size:=(bD HX.o.1 gb rfl).2
     have Iy:b9≠gb:=by omega
     refine zg 14 [gb] (some 3) [(2,Spec.slice W6.heap.size #[iv r.1,iv r.2] 46 1),(3,⟨fun _ v=> ∃o c,v= .slice o (i+1) c,fun _ v Wx=>Wx.ownsRow W1.heap.size 46 2 v (i+1) (aG (rs.take (i+1)))⟩)] ?_
     simp only[zt]
     repeat ((first|refine zn ?_|refine zk ?_);simp only[zp])
     refine dX W6.heap.size _ _ 1 (by rfl) (ai _) (by rfl) (by first|(simp;done)|simpa using hgl) (by simp) (fun W hW=>by go_simp;try rfl) (fun b2=>?_)
     simp only[zp]
     refine bG _ (by rfl) (by rfl) (by exact⟨.slice none (i+1) 0,none,0,rfl⟩) (fun Wa hE hF=>?_) (fun v Wa Wb ho hE=>?_) (fun v hv=>?_)
     ·have hE':Ext [] W6 Wa:=hE
      obtain⟨b',hb',hge,hcc⟩:=hF _ (bF _) (by kernel_rfl)
      cases hb'
      have hown6:=aC (Ms:=[]) H6.o.1 hE' (by simp)
      have hsrc:aN 2 Wa (.slice (some ⟨b2,0,none⟩) 1 1) 1 (aG [r]):=aN.dD 2 1 hcc rfl (by decide)
      refine Does.mono (dK Fg (by rfl) (by rfl) hown6 (by rfl) hsrc (oK _) (by omega) (by omega) (by have:=hE'.size;have:=H6.o.2.1.size;omega)) ?_
      rintro v' Wc ⟨ho,hgr,hcase⟩
      refine⟨aW ho,?_,⟨hgr.os,hgr.tape,hgr.output,hgr.size,fun b hb hn=>hgr.block b hb (fun e=>by first|(simp[Value.ownBlock] at e;done)|(simp[Value.ownBlock] at e;exact hn (by simp[e])))⟩⟩
      show Wc.ownsRow _ _ _ v' (i+1) _
      rw[HS.o.2.2,oZ]
      exact ho
     ·exact aC (Ms:=[]) ho hE (by simp)
     obtain⟨o3,c3,rfl⟩:=hv
     simp only[zp]
     repeat ((first|refine zn ?_|refine zk ?_);simp only[zp])
     intro W8 hE hF
     have hE':Ext [gb] W6 W8:=hE
     have qE:W8.ownsRow W1.heap.size 46 2 (.slice o3 (i+1) c3) (i+1) (aG (rs.take (i+1))):=hF _ (bF _)
     have Ah:Below W1.heap.size W1 W8:=⟨hE'.os.trans H6.o.2.1.os,hE'.tape.trans H6.o.2.1.tape,hE'.output.trans H6.o.2.1.output,iR H6.o.2.1.size hE'.size,fun b hb=>(hE'.block b (by have:=H6.o.2.1.size;omega) (by simp <;>omega)).trans (H6.o.2.1.block b hb)⟩
     have H8:=ae (ag qE Ah)
     clear hE hF hE' qE Ah p1 p2 p3
     go_wp2_with fail
     go_roundw
     case rel=>
      refine⟨i+1,by omega,by go_num,by rw[HS.o.1],by rw[HS.o.2.1],⟨o3,c3,rfl,H8.o.1⟩,H8.o.2,fun j hj hji=>?_⟩
      by_cases hje:j=i
      ·subst hje;rw[HRI.o];omega
      ·exact HX.o.2.2.2.2 j hj (by omega)
     case measure=>simp[intOf];omega
  ·have hin:i=n:=by omega
   subst hin
   have htk:rs.take i=rs:=jW (by rw[EX.o.2];exact ai _)
   rw[htk] at how
   have hl:lq (·.1) rs i=Iu l out d:=by unfold Iu;rw[<-EX.o.1, <-yH,EX.o.2]
   have hh:lq (·.2) rs i=zy l out d:=by unfold zy;rw[<-EX.o.1, <-yH,EX.o.2]
   have hall:(pJ l out d).all (fun r=>decide (r.1<=r.2))=true:=by
    rw[<-EX.o.1,jV]
    intro r hr
    obtain⟨j,hj,rfl⟩:=lY hr
    simpa using hok j hj (by rw[<-EX.o.2];exact hj)
   have hcp:jw l out d=(decide (Iu l out d<=l.box.2)&&decide (l.box.1<=zy l out d)):=by unfold jw;rw[hall,Bool.true_and]
   have hlo:=L9.o.2.1 i (by rw[EX.o.2];exact ai _)
   have hhi:=L9.o.2.2 i (by rw[EX.o.2];exact ai _)
   have hpl:kJ l out d=rs.map fun r=>tN r (l.box.1-(zy l out d-r.2),l.box.2-(Iu l out d-r.1)):=by unfold kJ;rw[EX.o.1]
   rw[hl,hh] at*
   generalize Iu l out d=XD at*
   generalize zy l out d=Yk at*
   have HCP:=ae hcp
   have HPL:=ae hpl
   have HO:=ae (ag how hB)
   have HWR:=ae hwr
   clear hl hh hall hcp hpl how hB hok hwr hkr hTr htk
   by_cases h1:XD>l.box.2
   ·have hF:jw l out d=false:=by rw[HCP.o,decide_eq_false (by omega)];rfl
    have HF:=ae hF
    clear hF
    go_wp2_with fail
    go_returns
    exact⟨bn HX1.o.1 HO.o.2,.inr ⟨HF.o,by simp⟩⟩
   by_cases h2:Yk<l.box.1
   ·have hF:jw l out d=false:=by rw[HCP.o,decide_eq_true (show XD<=l.box.2 by omega),decide_eq_false (by omega)];rfl
    have HF:=ae hF
    clear hF
    go_wp2_with fail
    go_returns
    exact⟨bn HX1.o.1 HO.o.2,.inr ⟨HF.o,by simp⟩⟩
   have hT:jw l out d=true:=by rw[HCP.o,decide_eq_true (show XD<=l.box.2 by omega),decide_eq_true (show l.box.1<=Yk by omega)];rfl
   have HTR:=ae hT
   clear hT
   have hpos:0<i:=by have:=hS.zq;have:=HN.o;omega
   obtain⟨gb,rfl,hgb⟩: ∃gb:Nat,oo=some ⟨gb,0,none⟩/\W1.heap.size<=gb:=by
    obtain⟨_,⟨hv,h0⟩|⟨g,c,cs,hv,hbg,hrest⟩⟩:=HO.o.1
    ·omega
    ·simp at hv;exact⟨g,hv.1,hbg⟩
   obtain⟨ps,hps⟩: ∃ps,kJ l out d=ps:=⟨_,rfl⟩
   have aga:ps.length=i:=by rw[<-hps,HPL.o,lX,EX.o.2]
   have HPS:=ae (ag hps aga)
   have hq0:ps.take 0++rs.drop 0=rs:=by simp
   have hown0:wr.ownsRow W1.heap.size 46 2 (.slice (some ⟨gb,0,none⟩) i oc) i (aG (ps.take 0++rs.drop 0)):=by rw[hq0];exact HO.o.1
   have HO0:=ae hown0
   clear hps aga hq0 hown0
   go_wp2_with fail
   go_loopw [69] (fun u wq=> ∃j:Nat,j<=i/\u= .int .i64 j/\wq.ownsRow W1.heap.size 46 2 (.slice (some ⟨gb,0,none⟩) i oc) i (aG (ps.take j++rs.drop j))/\Below W1.heap.size W1 wq) (fun u _=>i-(intOf u).toNat)
   case atStart=>exact⟨0,bM _,rfl,HO0.o,HO.o.2⟩
   case round=>
    obtain⟨j,hj,rfl,how,hB⟩:=hrel
    by_cases hlt:j<i
    ·have hjr:j<rs.length:=by rw[EX.o.2];exact hlt
     have hjp:j<ps.length:=by rw[HPS.o.2];exact hlt
     have hQl:(ps.take j++rs.drop j).length=i:=by rw[dh,gJ,kY,EX.o.2,HPS.o.2];omega
     have how':wr.ownsRow W1.heap.size 46 2 (.slice (some ⟨gb,0,none⟩) (ps.take j++rs.drop j).length oc) (ps.take j++rs.drop j).length (aG (ps.take j++rs.drop j)):=by rw[hQl];exact how
     have hQj:(ps.take j++rs.drop j)[j]'(by rw[hQl];exact hlt)=rs[j]:=by
      rw[List.getElem_append_right (by rw[gJ];omega)]
      simp[gJ,Nat.min_eq_left (mV hjp)]
     have hQn:(ps.take j++rs.drop j).set j ps[j]=ps.take (j+1)++rs.drop (j+1):=by
      rw[qy _ _ (by rw[gJ];omega),gJ,Nat.min_eq_left (mV hjp),Nat.sub_self,iC hjp,show rs.drop j=rs[j]::rs.drop (j+1) from uO hjr,List.set_cons_zero,kZ]
      rfl
     have hpj:ps[j]=tN rs[j] (l.box.1-(Yk-rs[j].2),l.box.2-(XD-rs[j].1)):=by
      have h1:=HPS.o.1
      have h2:=HPL.o
      rw[h1] at h2
      subst h2
      rw[List.getElem_map]
     have hop:=oJ how' (show j<(ps.take j++rs.drop j).length by rw[hQl];exact hlt)
     have hbd:=L9.o.1 rs[j] (df hjr)
     rw[hpj] at hQn
     rw[hQj] at hop
     generalize rs[j]=r at*
     obtain⟨g2,c2,hg2,abI,V3,⟨s0,s1⟩,hfr2⟩:=hop
     obtain⟨rfl,rfl⟩:gb=g2/\oc=c2:=by simp at hg2;exact hg2
     have hwr:=(hB.block _ adH).trans HX1.o.2.2.1
     have hb1: -10000<=Yk-r.2/\Yk-r.2<=10000:=by omega
     have hb2: -10000<=XD-r.1/\XD-r.1<=10000:=by omega
     have hb3: -20000<=l.box.1-(Yk-r.2)/\l.box.1-(Yk-r.2)<=20000:=by omega
     have hb4: -20000<=l.box.2-(XD-r.1)/\l.box.2-(XD-r.1)<=20000:=by omega
     have HQ:=ae (ag hQn (ag hQl (ag how' hB)))
     have Es:(j:Int)<i:=by omega
     have hbw:Below wr.heap.size wr wr:=aH _ _
     clear hpj hQn hQl how how' hB hQj hg2 hbw hjp hjr
     go_upto_region 15 with(fail)
     refine dM fun Uw ad6=>?_
     have We:Below wr.heap.size wr Uw:=by rw[ad6];exact zl
     have agK:Uw.heap[wr.heap.size]? =some (.cells #[iv r.1,iv r.2] 46 (0,0)):=by rw[ad6];exact ay _ _
     have afW:=(We.block _ (aS.1 hwr).1).trans hwr
     have ai9:=(We.cell (p:=⟨gb,j*2,none⟩) V3).trans s0
     have ai8:=(We.cell (p:=⟨gb,j*2+1,none⟩) V3).trans s1
     have anK:=We.size
     have al4:gb<Uw.heap.size:=by omega
     have H14:=ae We
     obtain⟨e1,e2,e3⟩:=af afW
     obtain⟨e4,e5,e6⟩:=af agK
     clear ad6 We afW hwr s0 s1 hfr2 agK
     refine zg 27 [] none [(26,Spec.val (rv (tN r (l.box.1-(Yk-r.2),l.box.2-(XD-r.1)))))] ?_
     simp only[zt]
     repeat ((first|refine zn ?_|refine zk ?_);simp only[zp])
     refine zw 204 (h:=fun W hE hF=>by exact both_any r (l.box.1-(Yk-r.2),l.box.2-(XD-r.1)) W) (t:=?_)
     simp only[zp]
     intro W hE hF
     obtain⟨hc,hf⟩:=bJ hE.below
     have hzE:=hE.size
     (try simp only[bu] at hzE)
     have HE:=ae hE
     have hBW:Below wr.heap.size wr W:=bn H14.o hE.below
     have hown:W.ownsRow W1.heap.size 46 2 (.slice (some ⟨gb,0,none⟩) (ps.take j++rs.drop j).length oc) (ps.take j++rs.drop j).length (aG (ps.take j++rs.drop j)):=dm HQ.o.2.2.1 fun g hg=>hBW.block g (bD HQ.o.2.2.1 g hg).2
     obtain⟨g3,c3,hg3,_,agO,⟨t0,t1⟩,hfr3⟩:=oJ hown (show j<(ps.take j++rs.drop j).length by rw[HQ.o.2.1];exact hlt)
     obtain⟨rfl,rfl⟩:gb=g3/\oc=c3:=by simp at hg3;exact hg3
     have hset:=nJ hown (show j<(ps.take j++rs.drop j).length by rw[HQ.o.2.1];exact hlt) (tN r (l.box.1-(Yk-r.2),l.box.2-(XD-r.1)))
     rw[HQ.o.1] at hset
     have hsl:(ps.take (j+1)++rs.drop (j+1)).length=i:=by rw[<-HQ.o.1,qp,HQ.o.2.1]
     have HST:=ae (ag hset (ag hsl (bn HQ.o.2.2.2 hBW)))
     clear hE hF hown hg3 hset hsl hBW e1 e2 e3 e4 e5 e6 ai9 ai8 hc hf hzE
     go_wp2_with fail
     go_roundw
     case rel=>
      refine⟨j+1,by omega,by go_num,?_,iD (iD HST.o.2.2 hgb _) hgb _⟩
      have:=HST.o.1
      rw[HQ.o.2.1] at this
      exact this
     case measure=>simp[intOf];omega
    ·have hji:j=i:=by omega
     subst hji
     have hfin:ps.take j++rs.drop j=ps:=by rw[jW (by rw[HPS.o.2];exact ai _),List.drop_of_length_le (by rw[EX.o.2];exact ai _),List.append_nil]
     rw[hfin] at how
     have HF:=ae (ag how hB)
     clear hfin how hB
     go_wp2_with fail
     go_returns
     refine⟨bn HX1.o.1 HF.o.2,.inl ⟨HTR.o,_,by simp;rfl,?_⟩⟩
     rw[HPS.o.1,HPS.o.2]
     exact cu HF.o.1 (by omega)
end Go.Proofs.YthllkbbbapgelaaGreatDoor
end

/-
  Texts of this claim, packed by a program: QA QD QF.
-/
import Derived.WalkKit
import Derived.WalkLawsBesides
import Derived.WalkSpells
import Derived.Outline
import Derived.Handy
import Derived.KernelRfl
import Derived.Lib.Hide
import Derived.Test.YtabpkkbiioihaaaGreatDoorPK5
set_option maxHeartbeats 8000000
set_option maxRecDepth 100000
set_option linter.all false
section
namespace Go.Proofs.YtabpkkbiioihaaaGreatDoor
open Go.RowKit Go.RG Go.SL Go.Shelf gZ Go.TB
abbrev xv (t:wP):Value:= .agg #[.int .i64 t.1,.int .i64 t.2.1,.int .i64 t.2.2]
abbrev iW (l:ax) (tv nv:Value):Array Value:= #[iv l.field.rows,iv l.field.ai,iv l.field.left.1,iv l.field.left.2,tv,iv l.rate,iv l.box.1,iv l.box.2,nv]
abbrev lv (l:ax) (tv nv:Value):Value:= .agg (iW l tv nv)
def iG (r:bK):Bool:=decide (r.1<=r.2)&&(inB r.1 0 2000&&inB r.2 0 2000)
def oV (l:ax) (n:wP):Bool:=inB n.1 0 (l.field.ai-1)&&iG n.2
theorem rF (n l h:Int) (w:World):Calls Tryz.prog 105 #[iv n,iv l,iv h] w (PV (.bool (inB n l h)) w):=by
 by_cases h1:l<=n
 all_goals
  go_enter Tryz.func105,Tryz.ntmps105
  go_wp2
  go_returns
  exact⟨by simp[inB];omega,Below.refl _ _⟩
theorem oW (n:Int) (w:World):Calls Tryz.prog 165 #[iv n] w (PV (.bool (inB n 0 2000)) w):=by
 go_enter Tryz.func165,Tryz.ntmps165
 go_wp2_with fail
 refine(rF _ _ _ _).mono ?_
 rintro e w' ⟨rfl,hb⟩
 go_wp2_with fail
 go_returns
 exact⟨by simp,hb⟩
theorem yw (r:bK) (w:World):Calls Tryz.prog 106 #[rv r] w (PV (.bool (iG r)) w):=by
 obtain⟨p,q⟩:=r
 by_cases h0:p<=q
 ·obtain⟨x,hx⟩: ∃x,inB p 0 2000=x:=⟨_,rfl⟩
  have H1:=Lib.hid (fun w=>hx▸oW p w)
  have HX:=Lib.hid hx
  clear hx
  cases x
  ·have hF:iG (p,q)=false:=by unfold iG;simp only[HX.out];simp
   rw[hF]
   clear hF
   go_enter Tryz.func106,Tryz.ntmps106
   go_wp2_with fail
   refine(H1.out _).mono ?_
   rintro e w' ⟨rfl,hb⟩
   go_wp2_with fail
   go_returns
   exact⟨by simp,zl⟩
  ·have hF:iG (p,q)=inB q 0 2000:=by unfold iG;simp only[HX.out];simp[h0]
   rw[hF]
   clear hF
   go_enter Tryz.func106,Tryz.ntmps106
   go_wp2_with fail
   refine(H1.out _).mono ?_
   rintro e w' ⟨rfl,hb⟩
   obtain⟨hc,hf⟩:=aW hb
   have hz0:w.heap.size<w'.heap.size:=(by have:=hb.size;(try simp only[World.size_alloc] at this);omega)
   go_wp2_with fail
   refine(oW q _).mono ?_
   rintro e w2 ⟨rfl,hb2⟩
   go_wp2_with fail
   go_returns
   exact⟨by simp,zl⟩
 ·have hb0:decide (p<=q)=false:=by simpa using h0
  have hF:iG (p,q)=false:=by unfold iG;simp[h0]
  rw[hF]
  clear hF
  go_enter Tryz.func106,Tryz.ntmps106
  go_wp2
  go_returns
  exact⟨by simp,zl⟩
theorem note_any (l:ax) (tv nv:Value) (n:wP) (w:World) (h0: -1000<=l.field.ai) (h1:l.field.ai<=1000):
 Calls Tryz.prog 104 #[lv l tv nv,xv n] w (PV (.bool (oV l n)) w):=by
 obtain⟨x,hx⟩: ∃x,inB n.1 0 (l.field.ai-1)=x:=⟨_,rfl⟩
 have H1:=Lib.hid (fun w=>hx▸rF n.1 0 (l.field.ai-1) w)
 have HX:=Lib.hid hx
 clear hx
 cases x
 ·have hF:oV l n=false:=by unfold oV;rw[HX.out];rfl
  rw[hF]
  clear hF
  go_enter Tryz.func104,Tryz.ntmps104
  go_wp2_with fail
  refine(H1.out _).mono ?_
  rintro e w' ⟨rfl,hb⟩
  go_wp2_with fail
  go_returns
  exact⟨by simp,zl⟩
 ·have hF:oV l n=iG n.2:=by unfold oV;rw[HX.out];rfl
  rw[hF]
  clear hF
  go_enter Tryz.func104,Tryz.ntmps104
  go_wp2_with fail
  refine(H1.out _).mono ?_
  rintro e w' ⟨rfl,hb⟩
  obtain⟨hc,hf⟩:=aW hb
  have hz0:w.heap.size<w'.heap.size:=(by have:=hb.size;(try simp only[World.size_alloc] at this);omega)
  have hz1:w.heap.size+1<w'.heap.size:=(by have:=hb.size;(try simp only[World.size_alloc] at this);omega)
  go_wp2_with fail
  refine(yw n.2 _).mono ?_
  rintro e w2 ⟨rfl,hb2⟩
  go_wp2_with fail
  go_returns
  exact⟨by simp,zl⟩
theorem vW (a b:Int) (g c:Nat) (w:World) (h0:w.cell? ⟨g,0,none⟩=some (iv a)) (h1:w.cell? ⟨g,1,none⟩=some (iv b)):
 Calls Tryz.prog 113 #[.slice (some ⟨g,0,none⟩) 2 c] w (PV (iv (min a b)) w):=by
 have H:=Lib.hid (vK a b g c w h0 h1)
 go_enter Tryz.func113,Tryz.ntmps113
 go_wp2_with fail
 refine H.out.mono ?_
 rintro e w' ⟨rfl,hb⟩
 go_wp2_with fail
 go_returns
 exact⟨by simp,hb⟩
theorem both_any (r x:bK) (w:World):Calls Tryz.prog 112 #[rv r,rv x] w (PV (rv (bothR r x)) w):=by
 go_enter Tryz.func112,Tryz.ntmps112
 go_wp2_with fail
 refine zg 12 [] none [(9,Spec.slice (w.heap.size+3) #[iv r.2,iv x.2] 3 2),(10,Spec.val (iv (min r.2 x.2)))] ?_
 simp only[zt]
 repeat (refine zd ?_;simp only[zp])
 refine bZ (w.heap.size+3) _ _ _ (by rfl) (by simp) (by rfl) (by simp) (by simp) (fun W hW=>by go_simp;try rfl) (fun b=>?_)
 simp only[zp]
 refine dh _ (by rfl) (by rfl) 113 _ (fun W hW=>by go_simp;try rfl) (fun W hE hF=>?_) ?_
 ·obtain⟨c,hcb,hB,hc⟩:=hF _ (List.Mem.head _) (by kernel_rfl)
  cases hcb
  exact vW r.2 x.2 b 2 W (by simp[World.cell?,hc]) (by simp[World.cell?,hc])
 simp only[zp]
 repeat (refine zd ?_;simp only[zp])
 intro W hE hF
 obtain⟨hc,hf⟩:=aW hE.below
 have hzE:=hE.size
 (try simp only[World.size_alloc] at hzE)
 go_wp2
 all_goals
  (try simp only[Exit.inBlock,Exit.then])
  refine bodyPost_ret (v:=rv (max r.1 x.1,min r.2 x.2)) (by simp[results,Tryz.results112,go_sem,hc];try omega) rfl ?_
  exact⟨rfl,ze⟩
end Go.Proofs.YtabpkkbiioihaaaGreatDoor
namespace Go.Proofs.YtabpkkbiioihaaaGreatDoor
open Go.RowKit Go.RG Go.SL Go.Shelf gZ Go.TB
theorem ad3 (l:List wP) (v:Value) (aI:Nat) (fst caps:Array Value) (p:Nat->Bool) (I:Nat->World->Prop) (w:World) (eg: ∀args w,(callFunc aI args).run Tryz.prog w= .ok (.enter aI args) w)
 (hsl: ∀k W,I k W->aT W v l)
 (hcall: ∀k (hk:k<l.length) W,(∀j,j<k->p j=false)->I k W->Calls Tryz.prog aI (fst.push (xv l[k])++caps) W (fun e W'=>e= .returned (.bool (p k))/\I (k+1) W')) (h0:I 0 w):
 Calls Tryz.prog 214 #[v,.func (.func aI) fst caps] w (dA l.length p I (fun k=>iv k) (iv (-1))):=by
 have hlen:=(hsl 0 w h0).len
 obtain⟨o,c,rfl⟩:=(hsl 0 w h0).open
 have HC:=Lib.hid hcall
 have HS:=Lib.hid hsl
 clear hcall hsl
 go_enter Tryz.func214,Tryz.ntmps214
 go_wp2
 go_loopw [4,5,8] (fun _ _ i wr=> ∃k:Nat,k<=l.length/\i= .int .i64 k/\(∀j,j<k->p j=false)/\I k wr) (fun _ _ i _=>l.length-(intOf i).toNat)
 case atStart=>exact⟨0,Nat.zero_le _,rfl,fun j hj=>by omega,h0⟩
 case round=>
  obtain⟨k,hk,rfl,hno,hI⟩:=hrel
  by_cases hlt:k<l.length
  ·obtain⟨b,off,rfl,hb,hc0,hc1,hc2⟩:=aT.cell (HS.out k wr hI) hlt
   have hC:=HC.out k hlt wr hno hI
   have HN:=Lib.hid hno
   clear hno
   go_wp2_with fail
   refine hC.mono ?_
   rintro e W1 ⟨rfl,hI1⟩
   have HI:=Lib.hid hI1
   clear hI1 hI hC
   cases hp:p k
   ·go_wp2_with fail
    go_roundw
    case rel=>exact⟨k+1,by omega,by go_num,fun j hj=>(by by_cases e:j=k;(subst e;exact hp);exact HN.out j (by omega)),HI.out⟩
    case measure=>simp[intOf];omega
   ·go_wp2_with fail
    go_returns
    exact⟨k,by omega,HN.out,.inl ⟨hlt,hp,by simp,HI.out⟩⟩
  ·have hkl:k=l.length:=by omega
   have HN:=Lib.hid hno
   clear hno
   go_wp2_with fail
   go_returns
   exact⟨k,by omega,HN.out,.inr ⟨hkl,by simp,by subst hkl;exact hI⟩⟩
theorem ach (l:List wP) (v:Value) (aI:Nat) (fst caps:Array Value) (p:Nat->Bool) (I:Nat->World->Prop) (w:World) (eg: ∀args w,(callFunc aI args).run Tryz.prog w= .ok (.enter aI args) w)
 (hsl: ∀k W,I k W->aT W v l)
 (hcall: ∀k (hk:k<l.length) W,(∀j,j<k->p j=false)->I k W->Calls Tryz.prog aI (fst.push (xv l[k])++caps) W (fun e W'=>e= .returned (.bool (p k))/\I (k+1) W')) (h0:I 0 w):
 Calls Tryz.prog 166 #[v,.func (.func aI) fst caps] w (dA l.length p I (fun _=> .bool true) (.bool false)):=by
 have HI:=Lib.hid (ad3 l v aI fst caps p I w eg hsl hcall h0)
 have hlen:=(hsl 0 w h0).len
 clear hsl hcall h0 eg
 go_enter Tryz.func166,Tryz.ntmps166
 go_wp2_with fail
 refine HI.out.mono ?_
 clear HI
 rintro e W' ⟨k,hk,hno,⟨hlt,hp,rfl,hI⟩|⟨hkl,rfl,hI⟩⟩
 ·have HN:=Lib.hid (And.intro hno (And.intro hp hI))
  clear hno hp hI
  go_wp2_with fail
  go_returns
  exact⟨k,hk,HN.out.1,.inl ⟨hlt,HN.out.2.1,by simp,HN.out.2.2⟩⟩
 ·have HN:=Lib.hid (And.intro hno (And.intro hkl hI))
  clear hno hkl hI
  go_wp2_with fail
  go_returns
  exact⟨k,hk,HN.out.1,.inr ⟨HN.out.2.1,by simp,HN.out.2.1▸HN.out.2.2⟩⟩
theorem acw (x:wP) (bx aI:Nat) (fst caps:Array Value) (b:Bool) (W:World) (R:World->Prop) (eg: ∀args w,(callFunc aI args).run Tryz.prog w= .ok (.enter aI args) w)
 (hbx:W.cell? ⟨bx,0,none⟩=some (.func (.func aI) fst caps))
 (hcall:Calls Tryz.prog aI (fst.push (xv x)++caps) (W.alloc (.cells #[iv x.1,iv x.2.1,iv x.2.2] 151)) (fun e W'=>e= .returned (.bool b)/\R W')):
 Calls Tryz.prog 167 #[xv x,.pointer (some ⟨bx,0,none⟩)] W (fun e W'=>e= .returned (.bool !b)/\R W'):=by
 have hlt:=World.block_lt_of_cell? W _ hbx
 have HC:=Lib.hid hcall
 clear hcall
 go_enter Tryz.func167,Tryz.ntmps167
 go_wp2_with fail
 refine HC.out.mono ?_
 rintro e W' ⟨rfl,hR⟩
 have HR:=Lib.hid hR
 clear hR
 go_wp2_with fail
 go_returns
 exact⟨by simp,HR.out⟩
theorem afp (l:List wP) (v:Value) (aI:Nat) (fst caps:Array Value) (p:Nat->Bool) (I:Nat->World->Prop) (w:World) (eg: ∀args w,(callFunc aI args).run Tryz.prog w= .ok (.enter aI args) w)
 (hsl: ∀k W,I k W->aT W v l) (hal: ∀k W o,I k W->I k (W.alloc o))
 (hcall: ∀k (hk:k<l.length) W,(∀j,j<k->p j=true)->I k W->Calls Tryz.prog aI (fst.push (xv l[k])++caps) W (fun e W'=>e= .returned (.bool (p k))/\I (k+1) W'/\gu w.heap.size W W')) (h0:I 0 w):
 Calls Tryz.prog 107 #[v,.func (.func aI) fst caps] w (dA l.length (fun k=>!p k) I (fun _=> .bool false) (.bool true)):=by
 have HI:=Lib.hid (ach l v 167 #[] #[.pointer (some ⟨w.heap.size,0,none⟩)] (fun k=>!p k)
  (fun k W=>I k W/\W.heap[w.heap.size]? =some (.cells #[.func (.func aI) fst caps] 173 (0,0))) (w.alloc (.cells #[.func (.func aI) fst caps] 173))
  (enters_of Tryz.func167 (by kernel_rfl) rfl) (fun k W h=>hsl k W h.1)
  (fun k hk W hno h=>by
    have hlt:w.heap.size<W.heap.size:=(Array.getElem?_eq_some_iff.1 h.2).1
    refine(acw l[k] w.heap.size aI fst caps (p k) W (fun W'=>I (k+1) W'/\W'.heap[w.heap.size]? =some (.cells #[.func (.func aI) fst caps] 173 (0,0))) eg (ay h.2) ?_)
    refine(hcall k hk _ (fun j hj=>by simpa using hno j hj) (by first|exact hal _ _ _ h.1|exact h.1)).mono ?_
    rintro e W' ⟨rfl,h1,h2⟩
    refine⟨rfl,h1,(h2.block _ (Nat.le_refl _) (by first|exact hlt|(simp;omega))).trans (by first|exact h.2|exact(Below.heap_alloc _ _ _ hlt).trans h.2)⟩)
  ⟨hal _ _ _ h0,heap_alloc_new w _⟩)
 have hlen:=(hsl 0 w h0).len
 clear hsl hcall h0 eg hal
 go_enter Tryz.func107,Tryz.ntmps107
 go_wp2_with fail
 refine HI.out.mono ?_
 clear HI
 rintro e W' ⟨k,hk,hno,⟨hlt,hp,rfl,hI,_⟩|⟨hkl,rfl,hI,_⟩⟩
 ·have HN:=Lib.hid (And.intro hno (And.intro hp hI))
  clear hno hp hI
  go_wp2_with fail
  go_returns
  exact⟨k,hk,HN.out.1,.inl ⟨hlt,HN.out.2.1,by simp,HN.out.2.2⟩⟩
 ·have HN:=Lib.hid (And.intro hno (And.intro hkl hI))
  clear hno hkl hI
  go_wp2_with fail
  go_returns
  exact⟨k,hk,HN.out.1,.inr ⟨HN.out.2.1,by simp,HN.out.2.1▸HN.out.2.2⟩⟩
theorem PW (l:List wP) (v:Value) (aI:Nat) (fst caps:Array Value) (q:wP->Bool) (w:World) (hv:aT w v l) (eg: ∀args w,(callFunc aI args).run Tryz.prog w= .ok (.enter aI args) w)
 (hcall: ∀x∈l, ∀W,Below w.heap.size w W->Calls Tryz.prog aI (fst.push (xv x)++caps) W (PV (.bool (q x)) W)):
 Calls Tryz.prog 107 #[v,.func (.func aI) fst caps] w (PV (.bool (l.all q)) w):=by
 refine(afp l v aI fst caps (fun k=>q (l.getD k (0,0,0))) (fun _ W=>Below w.heap.size w W) w eg (fun k W h=>hv.below h (Nat.le_refl _)) (fun k W o h=>af h o) (fun k hk W _ h=>?_) (Below.refl _ _)).mono ?_
 ·refine(hcall l[k] (List.getElem_mem _) W h).mono ?_
  rintro e W' ⟨rfl,hb⟩
  exact⟨by simp[hk],aH h hb,gu.of_below hb⟩
 ·intro e W' hpost
  obtain⟨rfl,k,_,hI⟩:=hpost.all
  refine⟨?_,hI⟩
  rw[gY,iC]
end Go.Proofs.YtabpkkbiioihaaaGreatDoor
namespace Go.Proofs.YtabpkkbiioihaaaGreatDoor
open Go.RowKit Go.RG Go.SL Go.Shelf gZ Go.TB
attribute [local go_sem] Oper.semAt_some
theorem jJ {l:List Int} (h:l.length=3): ∃a b c,l=[a,b,c]:=by
 match l,h with
 |[a,b,c],_=>exact⟨a,b,c,rfl⟩
theorem Uc (l:ax) (tv nv rvv:Value) (rows:List Int) (w:World) (hr:aN w rvv rows) (h0:0<=l.rate) (h1:l.rate<=50) (h7:rows.length<=7) (hb: ∀x∈rows,x<3):
 Calls Tryz.prog 169 #[lv l tv nv,rvv] w (fun e w'=>e= .returned (jk (bu l.rate rows))/\Below w.heap.size w w'/\w.heap.size<w'.heap.size):=by
 obtain⟨ro,rc,rfl⟩:=hr.open
 have HR:=Lib.hid hr
 have HB:=Lib.hid hb
 clear hr hb
 go_enter Tryz.func169,Tryz.ntmps169
 go_wp2_with fail
 go_loopw [9] (fun u wr=> ∃k:Nat,k<=rows.length/\u= .int .i64 k/\Below w.heap.size w wr/\wr.heap[w.heap.size]? =some (.cells (iW l tv nv) 33 (0,0))/\wr.heap[w.heap.size+1]? =some (.cells (intCells (bu l.rate (rows.take k))).toArray 134 (0,0))) (fun u _=>rows.length-(intOf u).toNat)
 case atStart=>
  refine⟨0,Nat.zero_le _,rfl,zl,(Below.heap_alloc _ _ _ (by simp)).trans (ag _ _),?_⟩
  rw[List.take_zero,Pm]
  exact dL _ _ _
 case round=>
  obtain⟨k,hk,rfl,hB,hk0,hk1⟩:=hrel
  obtain⟨c0,f0,l0⟩:=cells_of_block hk0
  by_cases hlt:k<rows.length
  ·have Nc:=HR.out.below hB (Nat.le_refl _)
   obtain⟨b,off,rfl,hb,hc0⟩:=aN.cell Nc hlt
   have hx3:=HB.out _ (List.getElem_mem hlt)
   have hsu:rows.take (k+1)=rows.take k++[rows[k]]:=List.take_succ_eq_append_getElem hlt
   have hbd:=Ih h0 h1 (rows.take k) (by rw[List.length_take];omega)
   generalize rows[k]=x at*
   have qA:=Lib.hid hsu
   have HK:=Lib.hid (And.intro hB (And.intro hk0 hk1))
   have Qq:=Lib.hid hbd
   clear Nc hsu hB hk0 hbd
   by_cases hx:0<=x
   ·obtain⟨n,rfl⟩: ∃n:Nat,x=n:=⟨x.toNat,by omega⟩
    have hn3:n<3:=by omega
    obtain⟨d,hd⟩: ∃d,(bu l.rate (rows.take k)).getD n 0=d:=⟨_,rfl⟩
    have Xy:=Qq.out n hn3
    rw[hd] at Xy
    have hcell:=ed hk1 (show n<(bu l.rate (rows.take k)).length by rw[iY];omega)
    rw[show(bu l.rate (rows.take k))[n]'(by rw[iY];omega)=d from by rw[<-hd];simp[List.getD,iY,hn3]] at hcell
    have hfr:=aX hk1 n
    have hl1:=World.block_lt_of_cell? wr _ hcell
    have HD:=Lib.hid hd
    clear hd hk1
    go_upto_region 5 with(fail)
    refine zg 7 [] none [] ?_
    simp only[zt]
    repeat (refine zn ?_;simp only[zp])
    intro W hE hF
    obtain⟨hc,hf⟩:=aW hE.below
    have hzE:=hE.size
    (try simp only[World.size_alloc] at hzE)
    have HE:=Lib.hid hE
    clear hF hzE
    go_wp2_with fail
    go_roundw
    case rel=>
     refine⟨k+1,by omega,by go_num,gm (aH HK.out.1 HE.out.below) (by simp) _,(Below.heap_setCell _ _ _ _ (by show w.heap.size≠w.heap.size+1;omega)).trans ((HE.out.block _ l0 (by simp)).trans HK.out.2.1),?_⟩
     rw[qA.out, <-KX _ _ _ hn3,HD.out, <-ni]
     exact ak ((HE.out.block _ hl1 (by simp)).trans HK.out.2.2) _
    case measure=>simp[intOf];omega
   ·have hxb:decide (0<=x)=false:=by simpa using hx
    have HX:=Lib.hid hx
    clear hk1
    go_wp2_with fail
    go_roundw
    case rel=>
     refine⟨k+1,by omega,by go_num,HK.out.1,HK.out.2.1,?_⟩
     rw[qA.out,KY _ _ _ (by have:=HX.out;omega)]
     exact HK.out.2.2
    case measure=>simp[intOf];omega
  ·have hkl:k=rows.length:=by omega
   subst hkl
   rw[List.take_length] at hk1
   obtain⟨y0,y1,y2,hys⟩:=jJ (iY l.rate rows)
   rw[hys] at hk1
   have YO:wr.heap[w.heap.size+1]? =some (.cells #[iv y0,iv y1,iv y2] 134 (0,0)):=hk1
   obtain⟨c1,f1,l1⟩:=cells_of_block YO
   have wM:=Lib.hid hys
   have HB':=Lib.hid hB
   have hkF:(((wr.setCell ⟨w.heap.size+1,0,none⟩ (iv y0)).setCell ⟨w.heap.size+1,1,none⟩ (iv y1)).setCell ⟨w.heap.size+1,2,none⟩ (iv y2)).heap[w.heap.size+1]? =some (.cells #[iv y0,iv y1,iv y2] 134 (0,0)):=ak (ak (ak YO _) _) _
   obtain⟨cF,fF,lF⟩:=cells_of_block hkF
   clear hk0 hk1 YO hB hys hkF
   go_wp2_with fail
   (try rw[Exit.noGoto_ret])
   refine bodyPost_ret (v:= .agg #[iv y0,iv y1,iv y2]) (by simp[results,Tryz.results169,go_sem,cF]) rfl ?_
   exact⟨by rw[wM.out];rfl,gm (gm (gm HB'.out (by simp) _) (by simp) _) (by simp) _,by simp[World.setCell];omega⟩
theorem zf {f:aO} (hf:fC f=0) {x:List Int} (hx:x∈kH f):jV f x=eF f [] x:=by
 have hS:=fH hf
 have h0:=hS.ug
 obtain⟨h1,h2⟩:=zD.1 hx
 have hall:x.all (vz f)=true:=by
  rw[List.all_eq_true]
  intro n hn
  obtain⟨i,hi,rfl⟩:=List.getElem_of_mem hn
  have:=h2 i (by omega)
  rw[show x.getD i 0=x[i] from by simp[List.getD,hi]] at this
  simp only[vz,inB,Bool.or_eq_true,beq_iff_eq,Bool.and_eq_true,decide_eq_true_eq]
  omega
 unfold jV
 rw[hf,hall,decide_eq_true (show(x.length:Int)=f.rows by omega)]
 simp
structure QJ (W:World) (n bl bo fU bc ob l:Nat) (o:List Int):Prop where
 y:W.heap[fU]? =some (.cells #[.func (.yield l) #[] #[]] 128 (0,0))
 out:W.heap[bo]? =some (.cells #[.slice (some ⟨ob,0,none⟩) n n] 36 (0,0))
 ch:W.heap[bc]? =some (.cells #[.func (.func 216) #[] #[.pointer (some ⟨bo,0,none⟩),.pointer (some ⟨bl,0,none⟩),.pointer (some ⟨fU,0,none⟩),.pointer (some ⟨bc,0,none⟩)]] 124 (0,0))
 cells:W.heap[ob]? =some (.cells (intCells o).toArray 3 (0,0))
theorem QJ.kept {W W':World} {n bl bo fU bc ob l:Nat} {o:List Int} (h:QJ W n bl bo fU bc ob l o) (hk: ∀m∈[ob,fU,bo,bc],m<W.heap.size->W'.heap[m]? =W.heap[m]?):QJ W' n bl bo fU bc ob l o:=
 ⟨(hk _ (by simp) (Array.getElem?_eq_some_iff.1 h.y).1).trans h.y,(hk _ (by simp) (Array.getElem?_eq_some_iff.1 h.out).1).trans h.out,(hk _ (by simp) (Array.getElem?_eq_some_iff.1 h.ch).1).trans h.ch,(hk _ (by simp) (Array.getElem?_eq_some_iff.1 h.cells).1).trans h.cells⟩
theorem QJ.below {W W':World} {n bl bo fU bc ob l:Nat} {o:List Int} (h:QJ W n bl bo fU bc ob l o) (hb:Below W.heap.size W W'):QJ W' n bl bo fU bc ob l o:=h.kept fun m _ hm=>hb.block m hm
theorem QJ.set {W:World} {n bl bo fU bc ob l:Nat} {o:List Int} (h:QJ W n bl bo fU bc ob l o) (hd1:fU≠ob) (hd2:bo≠ob) (hd3:bc≠ob) (i:Nat) (x:Int):QJ (W.setCell ⟨ob,i,none⟩ (iv x)) n bl bo fU bc ob l (o.set i x):=
 ⟨(Below.heap_setCell _ _ _ _ hd1).trans h.y,(Below.heap_setCell _ _ _ _ hd2).trans h.out,(Below.heap_setCell _ _ _ _ hd3).trans h.ch,by rw[<-ni];exact ak h.cells _⟩
def acC (Ms:List Nat) (x:List Int) (v:Value) (W:World):Prop:=
 ∃ob:Nat,v= .slice (some ⟨ob,0,none⟩) x.length x.length/\W.heap[ob]? =some (.cells (intCells x).toArray 3 (0,0))/\ob∈Ms
structure XK (bl:Nat) (l:ax) (tv nv:Value) (W:World):Prop where
 lb:W.heap[bl]? =some (.cells (iW l tv nv) 33 (0,0))
 pM:bW W tv l.field.ae
theorem F7 (l:ax) (hf:fC l.field=0) (tv nv:Value) (bl bo fU bc ob y:Nat) (hd1:fU≠ob) (hd2:bo≠ob) (hd3:bc≠ob) (J:List Nat->Option Nat->World->Prop)
 (hInv: ∀Ms s W1,J Ms s W1->XK bl l tv nv W1)
 (hstep: ∀Ms Ms' s W1 W2,J Ms s W1->Ext Ms W1 W2->(∀m∈Ms',m∈Ms∨(W1.heap.size<=m/\m<W2.heap.size))->True->J Ms' s W2)
 (hY: ∀Ms k v W1 (hk:k<(aG l.field []).length),J Ms (some k) W1->acC Ms (aG l.field [])[k] v W1->YieldAt Fence.wide 0 Tryz.prog y #[v] W1 fun e W'=>
   ((∀m∈Ms,m∉[]->m<W1.heap.size->W'.heap[m]? =W1.heap[m]?)/\W1.heap.size<=W'.heap.size)/\((e= .returned (.bool true)/\J Ms (some (k+1)) W')∨(e= .returned (.bool false)/\J Ms none W'))):
 ∀(m i k:Nat) (pre:List Int) (W:World) (o:List Int),i+m=l.field.rows.toNat->pre.length=i->o.length=l.field.rows.toNat->o.take i=pre->gy (dB l.field) i k pre->QJ W l.field.rows.toNat bl bo fU bc ob y o->J [ob,fU,bo,bc] (some (cntF l.field [] k)) W->
  CallsIn Fence.wide 0 Tryz.prog 216 #[iv i,.pointer (some ⟨bo,0,none⟩),.pointer (some ⟨bl,0,none⟩),.pointer (some ⟨fU,0,none⟩),.pointer (some ⟨bc,0,none⟩)] W
   (fun e W'=>(e= .returned (.bool true)/\J [ob,fU,bo,bc] (some (cntF l.field [] (k+(dC ((dB l.field).drop i)).length))) W'/\ ∃o',o'.length=l.field.rows.toNat/\o'.take i=pre/\QJ W' l.field.rows.toNat bl bo fU bc ob y o')∨
     (e= .returned (.bool false)/\J [ob,fU,bo,bc] none W')):=by
 have hS:=fH hf
 have hRl:(dB l.field).length=l.field.rows.toNat:=by simp[dB]
 intro m
 induction m with
 |zero=>
  intro i k pre W o him hpl hol hot hat hst hJ
  have hrow:(i:Int)=(l.field.rows.toNat:Int):=by omega
  obtain⟨hone,hk,hx⟩:=hat.last (by omega)
  rw[hone]
  obtain rfl:o=pre:=by rw[<-hot,show i=o.length by omega,List.take_length]
  have hk':k<(kH l.field).length:=hk
  have hxx:(kH l.field)[k]=o:=hx
  obtain⟨hbl,htl⟩:=hInv _ _ _ hJ
  have hrt:=yx l.field tv (.slice (some ⟨ob,0,none⟩) l.field.rows.toNat l.field.rows.toNat) o W htl (by rw[<-hol];exact aB.of_block (cs:=(intCells o).toArray) 1 o.length hst.cells (by simp[intCells]) (by have:=hS.lU;simp only[maxLen];omega))
  rw[zf hf (hxx▸List.getElem_mem hk')] at hrt
  obtain⟨Jo,cf1,Lr⟩:=cells_of_block hbl
  obtain⟨WJ,Zk,Zi⟩:=cells_of_block hst.out
  obtain⟨cc3,cf3,cl3⟩:=cells_of_block hst.y
  have HR:=Lib.hid hrt
  have HS:=Lib.hid hst
  have HJ:=Lib.hid hJ
  have HST:=Lib.hid hstep
  have HY:=Lib.hid hY
  have HK:=Lib.hid (show ∃h:k<(kH l.field).length,(kH l.field)[k]=o from⟨hk',hxx⟩)
  have HO:=Lib.hid (And.intro hol hot)
  have MZ:=hS.lU
  have heq:((i:Int)==(l.field.rows.toNat:Int))=true:=by simpa using hrow
  clear hrt hInv hstep hY hst hJ hbl htl hat hxx hx hk hk' hone hrow hot hS
  obtain⟨q,hq⟩: ∃q,eF l.field [] o=q:=⟨_,rfl⟩
  have HQ:=Lib.hid hq
  rw[hq] at HR
  clear hq
  have VR:o.length=l.field.rows.toNat:=HO.out.1
  obtain⟨rn,hrn⟩: ∃rn,l.field.rows.toNat=rn:=⟨_,rfl⟩
  rw[hrn] at HR heq WJ VR⊢
  have HRN:=Lib.hid hrn
  clear hrn him
  cases q
  ·skip
   refine callsIn_of_wp Tryz.func216 rfl trivial ?_
   simp only[Tryz.ntmps216,List.size_toArray,List.length_cons,List.length_nil,Nat.reduceAdd,Nat.reduceSub,Array.replicate_succ,Array.replicate_zero,List.push_toArray,List.append_toArray,List.nil_append,List.cons_append]
   gi_wp2_with fail
   refine(callsIn_wide.2 HR.out).mono ?_
   rintro e W1 ⟨rfl,hb1⟩
   have HB1:=Lib.hid hb1
   clear hb1
   gi_wp2_with fail
   go_returns
   have hJ1:=HST.out _ _ _ _ _ HJ.out (Ext.of_below HB1.out) (fun m hm=> .inl hm) trivial
   obtain⟨hk',hxx⟩:=HK.out
   rw[<-Nu hk' (by rw[hxx];exact HQ.out)] at hJ1
   exact .inl ⟨by simp,hJ1,o,VR,HO.out.2,HRN.out▸HS.out.below HB1.out⟩
  ·skip
   refine callsIn_of_wp Tryz.func216 rfl trivial ?_
   simp only[Tryz.ntmps216,List.size_toArray,List.length_cons,List.length_nil,Nat.reduceAdd,Nat.reduceSub,Array.replicate_succ,Array.replicate_zero,List.push_toArray,List.append_toArray,List.nil_append,List.cons_append]
   gi_wp2_with fail
   refine(callsIn_wide.2 HR.out).mono ?_
   rintro e W1 ⟨rfl,hb1⟩
   obtain⟨hc1,hf1⟩:=aW hb1
   have hs1:=hb1.size
   have HB1:=Lib.hid hb1
   have hJ1:=HST.out _ _ _ _ _ HJ.out (Ext.of_below hb1) (fun m hm=> .inl hm) trivial
   obtain⟨hk',hxx⟩:=HK.out
   obtain⟨hc,hx⟩:=yS hk' (by rw[hxx];exact HQ.out)
   obtain⟨g1,t1,a1,b1,hy1,hR1⟩:=HY.out _ _ (.slice (some ⟨ob,0,none⟩) rn rn) W1 hc hJ1 (by
    rw[hx,hxx]
    exact⟨ob,by rw[VR],(HS.out.below HB1.out).cells,by simp⟩)
   have hcn:cntF l.field [] (k+1)=cntF l.field [] k+1:=Iz hk' (by rw[hxx];exact HQ.out)
   have HR1:=Lib.hid hR1
   have U8:=Lib.hid hcn
   clear hR1 hJ1 hk' hxx hc hx hcn hb1
   gi_wp2_with fail
   refine HR1.out.mono ?_
   rintro e W' ⟨⟨hkeep,hsz⟩,⟨rfl,hJ⟩|⟨rfl,hJ⟩⟩
   ·have UO:=Lib.hid hJ
    have HK':=Lib.hid hkeep
    clear hJ hkeep
    gi_wp2_with fail
    go_returns
    exact .inl ⟨by simp,by rw[U8.out];exact UO.out,o,VR,HO.out.2,HRN.out▸(HS.out.below HB1.out).kept (fun m hm hml=>HK'.out m hm (by simp) hml)⟩
   ·have UO:=Lib.hid hJ
    clear hJ hkeep
    gi_wp2_with fail
    go_returns
    exact .inr ⟨by simp,UO.out⟩
 |succ m ih=>
  intro i k pre W o him hpl hol hot hat hst hJ
  have hi:i<(dB l.field).length:=by omega
  have hcount:=gy.count hi
  have hw0:=hS.uf
  have hw1:=hS.qM
  have MZ:=hS.lU
  have hr0:=hS.ug
  have AP:(dB l.field)[i]=(-1,l.field.ai-1):=by simp[dB]
  obtain⟨z,hz,hz4⟩: ∃z:Nat,(z:Int)=l.field.ai+1/\z<=4:=⟨(l.field.ai+1).toNat,by omega,by omega⟩
  have hsz:(df (dB l.field)[i]).toNat=z:=by rw[AP];unfold df;simp only;omega
  rw[hsz] at hcount
  obtain⟨hbl,htl⟩:=hInv _ _ _ hJ
  obtain⟨Jo,cf1,Lr⟩:=cells_of_block hbl
  obtain⟨WJ,Zk,Zi⟩:=cells_of_block hst.out
  have hne:(i:Int)≠(l.field.rows.toNat:Int):=by omega
  have hneb:((i:Int)==(l.field.rows.toNat:Int))=false:=by simpa using hne
  have Qm:Hid (∀c:Nat,c<z->gy (dB l.field) (i+1) (k+c*(dC ((dB l.field).drop (i+1))).length) (pre++[(c:Int)-1])):=Lib.hid (fun c hc=>by
   have:=hat.next hi c (by rw[hsz];exact hc)
   rw[AP] at this
   rw[show(c:Int)-1= -1+(c:Int) from by omega]
   exact this)
  have HI:=Lib.hid hInv
  have HST:=Lib.hid hstep
  have HS:=Lib.hid hst
  have HJ:=Lib.hid hJ
  have HIH:=Lib.hid ih
  have BG:=Lib.hid (And.intro hol hot)
  have ZN:=Lib.hid hcount
  have HZ:=Lib.hid hz
  have ZX:i<7:=by omega
  have hiR:i<l.field.rows.toNat:=by omega
  have hR7:l.field.rows.toNat<=7:=by omega
  clear hInv hstep hY hat hst hJ ih hcount hne hbl htl AP hsz hi hol hot hRl hz hS
  obtain⟨rn,hrn⟩: ∃rn,l.field.rows.toNat=rn:=⟨_,rfl⟩
  rw[hrn] at HS HIH BG hiR hR7 him hneb WJ⊢
  clear hrn
  refine callsIn_of_wp Tryz.func216 rfl trivial ?_
  simp only[Tryz.ntmps216,List.size_toArray,List.length_cons,List.length_nil,Nat.reduceAdd,Nat.reduceSub,Array.replicate_succ,Array.replicate_zero,List.push_toArray,List.append_toArray,List.nil_append,List.cons_append]
  gi_wp2_with fail
  rw[<-HZ.out]
  gi_loopw [26] (fun u wr=> ∃c:Nat,c<=z/\u= .int .i64 c/\ ∃o':List Int,o'.length=rn/\o'.take i=pre/\QJ wr rn bl bo fU bc ob y o'/\J [ob,fU,bo,bc] (some (cntF l.field [] (k+c*(dC ((dB l.field).drop (i+1))).length))) wr)
   (fun u _=>z-(intOf u).toNat)
  case atStart=>exact⟨0,Nat.zero_le _,rfl,o,BG.out.1,BG.out.2,HS.out,by simpa using HJ.out⟩
  case round=>
   obtain⟨c,hcz,rfl,o',ho1,ho2,hst,hJ⟩:=hrel
   by_cases hlt:c<z
   ·obtain⟨XH,IV,IC⟩:=cells_of_block hst.out
    obtain⟨XG,IU,IB⟩:=cells_of_block hst.ch
    obtain⟨yv,hcell⟩: ∃yv,wr.cell? ⟨ob,i,none⟩=some (iv yv):=⟨_,ed hst.cells (show i<o'.length by omega)⟩
    have hab:=World.block_lt_of_cell? wr _ hcell
    have hfr:=aX hst.cells i
    have Au:=Lib.hid hst
    have MG:=Lib.hid hJ
    have HO:=Lib.hid (And.intro ho1 ho2)
    have KO:(c:Int)<z:=by omega
    clear hst hJ ho1 ho2 Jo cf1 Lr WJ Zk Zi
    have zN:=Au.out.set hd1 hd2 hd3 i ((c:Int)-1)
    have TQ:J [ob,fU,bo,bc] (some (cntF l.field [] (k+c*(dC ((dB l.field).drop (i+1))).length))) (wr.setCell ⟨ob,i,none⟩ (iv ((c:Int)-1))):=
     HST.out _ _ _ _ _ MG.out ((og wr ⟨ob,i,none⟩ _).more (fun x hx=>by simp at hx;subst hx;simp)) (fun m hm=> .inl hm) trivial
    have hcall:=HIH.out (i+1) _ (pre++[(c:Int)-1]) _ (o'.set i ((c:Int)-1)) (by omega) (by simp[hpl]) (by simp[HO.out.1]) (by
     rw[List.take_set]
     rw[List.take_add_one,HO.out.2]
     have VV:i<o'.length:=by have:=HO.out.1;omega
     rw[List.getElem?_eq_getElem VV]
     simp[List.set_append_right,hpl]) (Qm.out c hlt) zN TQ
    rw[show((i+1:Nat):Int)=(i:Int)+1 from by omega] at hcall
    have AB:=Lib.hid hcall
    clear hcall zN TQ
    gi_wp2_with fail
    refine AB.out.mono ?_
    rintro e W2 (⟨rfl,hJ2,o2,ho1,ho2,hst2⟩|⟨rfl,hJ2⟩)
    ·have HJ2:=Lib.hid hJ2
     have Fq:=Lib.hid hst2
     have wQ:=Lib.hid (And.intro ho1 ho2)
     clear hJ2 hst2 ho1 ho2 XH IV IC XG IU IB hcell hab hfr
     gi_wp2_with fail
     go_roundw
     case rel=>
      refine⟨c+1,by omega,by go_num,o2,wQ.out.1,?_,Fq.out,?_⟩
      ·have:=congrArg (List.take i) wQ.out.2
       rw[List.take_take,Nat.min_eq_left (by omega)] at this
       rw[this,List.take_append_of_le_length (by omega),List.take_of_length_le (by omega)]
      ·rw[Nat.add_mul,Nat.one_mul, <-Nat.add_assoc];exact HJ2.out
     case measure=>simp[intOf];omega
    ·have HJ2:=Lib.hid hJ2
     clear hJ2 XH IV IC XG IU IB hcell hab hfr
     gi_wp2_with fail
     go_returns
     exact .inr ⟨by simp,HJ2.out⟩
   ·have KR:c=z:=by omega
    subst KR
    have MG:=Lib.hid hJ
    have Au:=Lib.hid hst
    have HO:=Lib.hid (And.intro ho1 ho2)
    clear hJ hst ho1 ho2 Jo cf1 Lr WJ Zk Zi
    gi_wp2_with fail
    go_returns
    refine .inl ⟨by simp,?_,o',HO.out.1,HO.out.2,Au.out⟩
    rw[ZN.out];exact MG.out
theorem Q8 (l:ax) (hf:fC l.field=0) (tv nv:Value) (bl:Nat):
 Qd Tryz.prog 215 #[.pointer (some ⟨bl,0,none⟩)] (aG l.field []) acC [] (fun _=>True) (XK bl l tv nv):=by
 intro y J W hInv hstep hY h0
 obtain⟨hbl,htl⟩:=hInv _ _ _ h0
 have hch:=fun bo fU bc ob hd1 hd2 hd3=>F7 l hf tv nv bl bo fU bc ob y hd1 hd2 hd3 J hInv hstep hY
 have hS:=fH hf
 have MZ:=hS.lU
 have hr0:=hS.ug
 obtain⟨Jo,cf1,Lr⟩:=cells_of_block hbl
 obtain⟨rn,hrn⟩: ∃rn:Nat,l.field.rows=rn:=⟨l.field.rows.toNat,by omega⟩
 have hrt:l.field.rows.toNat=rn:=by omega
 have ZO:=Lib.hid hch
 have HST:=Lib.hid hstep
 have HJ:=Lib.hid h0
 have HRN:=Lib.hid (And.intro hrn hrt)
 have hmk:=pg rn (by omega)
 have hn3: ∀(A B C:Obj) (v:Value) (t:TypeId),((((W.alloc A).alloc B).alloc C).alloc (.cells #[v] t)).cell? ⟨W.heap.size+1+1+1,0,none⟩=some v:=fun A B C v t=>ay (jq W A B C _)
 have hf3: ∀(A B C:Obj) (v:Value) (t:TypeId),((((W.alloc A).alloc B).alloc C).alloc (.cells #[v] t)).frozen? ⟨W.heap.size+1+1+1,0,none⟩=false:=fun A B C v t=>aX (jq W A B C _) 0
 have hl4:iW l tv nv= #[iv (rn:Int),iv l.field.ai,iv l.field.left.1,iv l.field.left.2,tv,iv l.rate,iv l.box.1,iv l.box.2,nv]:=by unfold iW;rw[hrn]
 rw[hl4] at Jo
 clear hInv hstep hY hch h0 hS hbl htl hrn hrt hl4
 go_enter Tryz.func215,Tryz.ntmps215
 go_wp2_with fail
 refine(callsIn_wide.1 (ZO.out (W.heap.size+1+1) W.heap.size (W.heap.size+1+1+1) (W.heap.size+1) (by omega) (by omega) (by omega) l.field.rows.toNat 0 0 [] _ (List.replicate rn 0) (by omega) rfl (by simp[HRN.out.2]) (by simp) (gy.zero _) ⟨?_,?_,?_,?_⟩
  (HST.out _ _ _ _ _ HJ.out (Ext.of_below zl) (fun m hm=> .inr (by simp at hm;(first|omega|(simp;omega)))) trivial))).mono ?_
 ·exact((Below.heap_alloc _ _ _ (by simp;omega)).trans ((Below.heap_alloc _ _ _ (by simp;omega)).trans ((Below.heap_alloc _ _ _ (by simp)).trans (ag _ _))))
 ·rw[HRN.out.2];exact((Below.heap_alloc _ _ _ (by simp)).trans (fJ _ _ _ _))
 ·exact jq _ _ _ _ _
 ·exact((Below.heap_alloc _ _ _ (by simp)).trans ((Below.heap_alloc _ _ _ (by simp)).trans (dL _ _ _)))
 ·rintro e W2 (⟨rfl,hJ2,_⟩|⟨rfl,hJ2⟩)
  ·have HJ2:=Lib.hid hJ2
   clear hJ2 hn3 hf3 hmk
   go_wp2_with fail
   go_end0
   refine⟨⟨_,rfl⟩,[W.heap.size+1,W.heap.size,W.heap.size+1+1,W.heap.size+1+1+1],.inl ?_⟩
   have:=HJ2.out
   rw[<-IA]
   simpa [kH] using this
  ·have HJ2:=Lib.hid hJ2
   clear hJ2 hn3 hf3 hmk
   go_wp2_with fail
   go_end0
   exact⟨⟨_,rfl⟩,_,.inr HJ2.out⟩
theorem Q9 (l:ax) (tv nv:Value) (w:World):
 Calls Tryz.prog 168 #[lv l tv nv] w (fun e w'=>e= .returned (.func (.func 215) #[] #[.pointer (some ⟨w.heap.size,0,none⟩)])/\w'=w.alloc (.cells (iW l tv nv) 33)):=by
 go_enter Tryz.func168,Tryz.ntmps168
 go_wp2
 go_returns
 exact⟨by simp,rfl⟩
end Go.Proofs.YtabpkkbiioihaaaGreatDoor
namespace Go.Proofs.YtabpkkbiioihaaaGreatDoor
open Go.RowKit Go.RG Go.SL Go.Shelf gZ Go.TB
attribute [local go_sem] Oper.semAt_some
theorem Xh:fD Tryz.prog 129 134 (.agg #[iv 0,iv 0,iv 0]) 3 24:=⟨Tryz.underlying129,by kernel_rfl,rfl,by omega⟩
def jS (l:ax) (k:Nat):List (List Int):=((aG l.field []).take k).foldl (fun acc t=>je acc (bu l.rate t)) []
def bz (l:ax):List (List Int):=jS l (aG l.field []).length
theorem Ii {l:ax} {k:Nat} {x:List Int} (hx:(aG l.field [])[k]? =some x):jS l (k+1)=je (jS l k) (bu l.rate x):=by
 obtain⟨hk,rfl⟩:=List.getElem?_eq_some_iff.1 hx
 unfold jS
 rw[List.take_succ_eq_append_getElem hk,List.foldl_append]
 rfl
theorem wz (l:ax) (k:Nat): ∀y∈jS l k,y.length=3:=fun y hy=>by
 unfold jS at hy
 rw[zC] at hy
 rcases hy with h|⟨t,_,rfl⟩
 ·cases h
 ·exact iY _ _
theorem uO (l:ax): ∀k,(jS l k).length<=k:=by
 intro k
 unfold jS
 have: ∀(ts:List (List Int)) (acc:List (List Int)),(ts.foldl (fun acc t=>je acc (bu l.rate t)) acc).length<=acc.length+ts.length:=by
  intro ts
  induction ts with
  |nil=>intro acc;simp
  |cons t ts ih=>
   intro acc
   have h1:=ih (je acc (bu l.rate t))
   have h2:=BO acc (bu l.rate t)
   simp only[List.foldl_cons,List.length_cons]
   omega
 have h:=this ((aG l.field []).take k) []
 simp only[List.length_nil,Nat.zero_add,List.length_take] at h
 omega
theorem sU {l:ax} {d:List Int}:d∈bz l↔ ∃t∈aG l.field [],d=bu l.rate t:=by
 unfold bz jS
 rw[List.take_length,zC]
 simp
abbrev nX (l:ax) (tv nv v:Value) (mb:Nat):Array Value:= #[iv l.field.rows,iv l.field.ai,iv l.field.left.1,iv l.field.left.2,tv,iv l.rate,iv l.box.1,iv l.box.2,nv,v,.map (some mb)]
structure Fg (B:Nat) (l:ax) (tv nv:Value) (ls:List (List Int)) (Ms:List Nat) (W:World):Prop where
 b0:W.heap[B]? =some (.cells (iW l tv nv) 33 (0,0))
 tab:W.heap[B+1]? =some (.map #[] 0)
 work: ∃v,W.heap[B+2]? =some (.cells (nX l tv nv v (B+1)) 132 (0,0))/\W.ownsRow (B+7) 134 3 v ls.length (ls.flatMap intCells)/\ ∀g,v.ownBlock=some g->g∉Ms/\g<W.heap.size
 ptr:W.heap[B+3]? =some (.cells #[.pointer (some ⟨B+2,0,none⟩)] 95 (0,0))
 b4:W.heap[B+4]? =some (.cells (iW l tv nv) 33 (0,0))
theorem Fg.kept {B:Nat} {l:ax} {tv nv:Value} {ls:List (List Int)} {Ms Ms':List Nat} {W W':World} (h:Fg B l tv nv ls Ms W) (hs:W.heap.size<=W'.heap.size) (hk: ∀b,B<=b->b<B+5->W'.heap[b]? =W.heap[b]?)
 (ho: ∀g,B+7<=g->g<W.heap.size->g∉Ms->W'.heap[g]? =W.heap[g]?) (hM: ∀m∈Ms',m∈Ms∨(W.heap.size<=m/\m<W'.heap.size)):Fg B l tv nv ls Ms' W':=by
 obtain⟨v,h1,h2,h3⟩:=h.work
 refine⟨(hk _ (by omega) (by omega)).trans h.b0,(hk _ (by omega) (by omega)).trans h.tab,⟨v,(hk _ (by omega) (by omega)).trans h1,cZ h2 fun g hg=>ho g (aZ h2 g hg).1 (aZ h2 g hg).2 (h3 g hg).1,fun g hg=>⟨fun hm=>?_,by have:=(h3 g hg).2;omega⟩⟩,
  (hk _ (by omega) (by omega)).trans h.ptr,(hk _ (by omega) (by omega)).trans h.b4⟩
 rcases hM g hm with h4|h4
 ·exact(h3 g hg).1 h4
 ·have:=(h3 g hg).2;omega
structure xE (W:World) (wb mb:Nat) (l:ax) (tv nv v:Value) (ls:List (List Int)):Prop where
 cells:W.heap[wb]? =some (.cells (nX l tv nv v mb) 132 (0,0))
 pM:bW W tv l.field.ae
 notes:aT W nv l.notes
 truth:aB 3 W v ls.length (ls.flatMap intCells)
def P8 (l:ax) (tv nv:Value) (w:World) (e:Ending) (W:World):Prop:=
 ∃(wb mb:Nat) (v:Value),e= .returned (.pointer (some ⟨wb,0,none⟩))/\w.heap.size<=wb/\w.heap.size<=mb/\W.heap[mb]? =some (.map #[] 0)/\xE W wb mb l tv nv v (bz l)/\Below w.heap.size w W
theorem O7 (l:ax) (tv nv:Value) (hf:fC l.field=0) (h0:0<=l.rate) (h1:l.rate<=50) (w:World) (ht:bW w tv l.field.ae) (hn:aT w nv l.notes):
 Calls Tryz.prog 108 #[lv l tv nv] w (P8 l tv nv w):=by
 obtain⟨ot,ct,rfl⟩:=ht.open
 obtain⟨on,cn,rfl⟩:=hn.open
 have hS:=fH hf
 have hr0:=hS.ug
 have MZ:=hS.lU
 have hw3:=hS.qM
 have hmm:= @run_makeMap Tryz.prog
 have HF:=Lib.hid hf
 have HS:=Lib.hid hS
 have Z9:Hid (∀W,Below w.heap.size w W->bW W (.slice ot l.field.ae.length ct) l.field.ae):=Lib.hid (fun W hb=>ht.below hb (Nat.le_refl _))
 have HN':Hid (∀W,Below w.heap.size w W->aT W (.slice on l.notes.length cn) l.notes):=Lib.hid (fun W hb=>hn.below hb (Nat.le_refl _))
 clear ht hn hf hS
 obtain⟨tv,Xp⟩: ∃tv,Value.slice ot l.field.ae.length ct=tv:=⟨_,rfl⟩
 obtain⟨nv,hnv⟩: ∃nv,Value.slice on l.notes.length cn=nv:=⟨_,rfl⟩
 rw[Xp] at Z9⊢
 rw[hnv] at HN'⊢
 refine(callsIn_wide (n:=0)).1 ?_
 refine callsIn_of_wp_marks Tryz.func108 rfl trivial ?_
 simp only[Tryz.ntmps108,List.size_toArray,List.length_cons,List.length_nil,Nat.reduceAdd,Nat.reduceSub,Array.replicate_succ,Array.replicate_zero,List.push_toArray,List.append_toArray,List.nil_append,List.cons_append]
 gi_wp2_with fail
 refine(callsIn_wide.2 (Q9 l tv nv _)).mono ?_
 rintro e w1 ⟨rfl,rfl⟩
 gi_wp2_with fail
 obtain⟨B,kR⟩: ∃B,w.heap.size=B:=⟨_,rfl⟩
 rw[kR]
 obtain⟨w4,hw4⟩: ∃w4,(((((w.alloc (.cells (iW l tv nv) 33)).alloc (.map #[] 0)).alloc (.cells #[iv l.field.rows,iv l.field.ai,iv l.field.left.1,iv l.field.left.2,tv,iv l.rate,iv l.box.1,iv l.box.2,nv,.slice none 0 0,.map (some (B+1))] 132)).alloc (.cells #[.pointer (some ⟨B+1+1,0,none⟩)] 95)).alloc (.cells (iW l tv nv) 33))=w4:=⟨_,rfl⟩
 have Yw:w4.heap.size=B+5:=by rw[<-hw4];simp;omega
 have HB4:Hid (Below w.heap.size w w4):=Lib.hid (by rw[<-hw4];exact zl)
 have HA4:Hid (Fg B l tv nv [] [] w4):=Lib.hid (by
  rw[<-hw4]
  refine⟨?_,?_,⟨.slice none 0 0,?_,⟨rfl,.inl ⟨rfl,rfl⟩⟩,fun g hg=>by cases hg⟩,?_,?_⟩
  ·rw[<-kR];exact(Below.heap_alloc _ _ _ (by simp;omega)).trans ((Below.heap_alloc _ _ _ (by simp;omega)).trans ((Below.heap_alloc _ _ _ (by simp;omega)).trans ((Below.heap_alloc _ _ _ (by simp)).trans (ag _ _))))
  ·rw[<-kR];exact(Below.heap_alloc _ _ _ (by simp)).trans ((Below.heap_alloc _ _ _ (by simp)).trans ((Below.heap_alloc _ _ _ (by simp)).trans (dL _ _ _)))
  ·rw[<-kR];exact(Below.heap_alloc _ _ _ (by simp)).trans ((Below.heap_alloc _ _ _ (by simp)).trans (fJ _ _ _ _))
  ·rw[<-kR];exact(Below.heap_alloc _ _ _ (by simp)).trans (jq _ _ _ _ _)
  ·have:=ag ((((w.alloc (.cells (iW l tv nv) 33)).alloc (.map #[] 0)).alloc (.cells #[iv l.field.rows,iv l.field.ai,iv l.field.left.1,iv l.field.left.2,tv,iv l.rate,iv l.box.1,iv l.box.2,nv,.slice none 0 0,.map (some (B+1))] 132)).alloc (.cells #[.pointer (some ⟨B+1+1,0,none⟩)] 95)) (.cells (iW l tv nv) 33)
   simp only[World.size_alloc,kR] at this
   exact this)
 rw[hw4]
 clear hw4 hmm
 have CV: ∀b,b∈[B,B+1,B+2,B+3,B+4,B+5,B+6]↔(B<=b/\b<B+7):=fun b=>by simp;omega
 obtain⟨Os,Hw⟩: ∃Os,[B,B+1,B+2,B+3,B+4,B+5,B+6]=Os:=⟨_,rfl⟩
 rw[Hw] at CV
 clear Hw
 have hcnt:=jm HS.out []
 refine jT (Q8 l HF.out tv nv (B+4)) rfl (enters_of Tryz.func215 (by kernel_rfl) rfl) rfl (by simp)
  (fun Ms k W=>Du w Os Ms W/\Fg B l tv nv (jS l k) Ms W)
  (fun _ _ _=>False)
  ?hInv ?pz ?hI ?hIx ?Nl ?uK ?h0
  (fun a Ms k W1 a₁ W=> ∃(x:List Int) (ob:Nat),(aG l.field [])[k]? =some x/\a₁={tmps:=(a.tmps.setIfInBounds 12 (.slice (some ⟨ob,0,none⟩) x.length x.length)).setIfInBounds 4 (.slice (some ⟨ob,0,none⟩) x.length x.length),defers:=[]}/\
    (Du w Os Ms W/\Fg B l tv nv (jS l k) Ms W)/\(ob∈Ms/\W.heap[ob]? =some (.cells (intCells x).toArray 3 (0,0)))/\
    (∀m∈Ms,m∉([]:List Nat)->m<W1.heap.size->W.heap[m]? =W1.heap[m]?)/\W1.heap.size<=W.heap.size)
  ?O4 ?hassign ?hbody ?hdone ?hstop
 case hInv=>
  rintro Ms k W ⟨hF,hP⟩
  exact⟨hP.b4,Z9.out W hF.ext⟩
 case pz=>rintro cd Ms W h;exact h.elim
 case hI=>
  rintro Ms Ms' k Wa Wb ⟨hF,hP⟩ hE hMs _
  exact⟨(hF.step hE hMs).1,hP.kept hE.size (fun b h1 h2=>(hF.step hE hMs).2 b ((CV b).2 (by omega))) (fun g h1 h2 h3=>hE.block g h2 h3) hMs⟩
 case hIx=>rintro cd Ms Ms' Wa Wb h;exact h.elim
 case Nl=>
  rintro Ms k W r ob ⟨hF,hP⟩ hr
  exact⟨hF.put ob (by omega),hP.kept (by simp) (fun b h1 h2=>World.putObj_heap_other (by omega)) (fun g h1 h2 h3=>World.putObj_heap_other (by omega)) (fun m hm=> .inl hm)⟩
 case uK=>rintro cd Ms W r ob h;exact h.elim
 case h0=>
  intro o1 o2
  refine⟨⟨af (af HB4.out _) _,by simp,by simp,fun b hb=>⟨by simp,by have:=(CV b).1 hb;simp;omega⟩⟩,?_⟩
  exact HA4.out.kept (by simp;omega) (fun b h1 h2=>(Below.heap_alloc _ _ _ (by simp;omega)).trans (Below.heap_alloc _ _ _ (by omega))) (fun g h1 h2 h3=>by omega) (fun m hm=> .inl hm)
 case O4=>
  rintro Ms k W1 a₁ W obj ⟨x,ob,hx,ha,⟨hF,hP⟩,⟨hob,hcb⟩,hk,hs⟩
  have hap:=(hF.apart (B+6) ((CV _).2 (by omega))).1
  refine⟨x,ob,hx,ha,⟨hF.put obj (by omega),hP.kept (by simp) (fun b h1 h2=>World.putObj_heap_other (by omega)) (fun g h1 h2 h3=>World.putObj_heap_other (by omega)) (fun m hm=> .inl hm)⟩,
   ⟨hob,(World.putObj_heap_other (fun e=>hap (by rw[show B+6=ob by omega];exact hob))).trans hcb⟩,
   fun m hm h0 hml=>(World.putObj_heap_other (fun e=>hap (by rw[show B+6=m by omega];exact hm))).trans (hk m hm h0 hml),by simpa using hs⟩
 case hassign=>
  rintro Ms k v W hk ⟨hF,hP⟩ ⟨ob,rfl,hcb,hob⟩ hlt
  have hxk:(aG l.field [])[k]? =some (aG l.field [])[k]:=List.getElem?_eq_getElem hk
  generalize (aG l.field [])[k]=x at*
  gi_wp2
  exact⟨⟨x,ob,hxk,rfl,⟨hF,hP⟩,⟨hob,hcb⟩,fun _ _ _ _=>trivial,Nat.le_refl _⟩,trivial,trivial⟩
 case hbody=>
  rintro Ms k W1 a₁ W busy hk ⟨x,ob,hx,rfl,⟨hF,hP⟩,⟨hob,hcb⟩,hkeep,hsz⟩ hrec hD
  simp only[List.setIfInBounds_toArray,List.set_cons_succ,List.set_cons_zero]
  have hxl:=kY (List.mem_of_getElem? hx)
  have hxm:=(xJ (List.mem_of_getElem? hx)).1
  have Nc:aN W (.slice (some ⟨ob,0,none⟩) x.length x.length) x:=aB.of_block (cs:=(intCells x).toArray) 1 x.length hcb (by simp[intCells]) (by simp only[maxLen];omega)
  have Nj:=Uc l tv nv _ x W Nc h0 h1 (by omega) (fun n hn=>by
   obtain⟨i,hi,rfl⟩:=List.getElem_of_mem hn
   have:=(zD.1 hxm).2 i (by omega)
   rw[show x.getD i 0=x[i] from by simp[List.getD,hi]] at this
   omega)
  have hsu:=Ii (l:=l) hx
  have hdl:=iY l.rate x
  obtain⟨ys,Hg⟩: ∃ys,bu l.rate x=ys:=⟨_,rfl⟩
  rw[Hg] at Nj hsu hdl
  obtain⟨y0,y1,y2,hys⟩:=jJ hdl
  have TJ:Calls Tryz.prog 169 #[lv l tv nv,.slice (some ⟨ob,0,none⟩) x.length x.length] W (fun e w'=>e= .returned (.agg #[iv y0,iv y1,iv y2])/\Below W.heap.size W w'/\W.heap.size<w'.heap.size):=by rw[hys] at Nj;exact Nj
  obtain⟨c0,f0,l0⟩:=cells_of_block hP.b0
  have YN:k<=2500:=by omega
  have hlk:=uO l k
  have h3s:=wz l k
  have Dt:=Lib.hid hF
  have HP:=Lib.hid hP
  have HDU:=Lib.hid TJ
  have qA:=Lib.hid hsu
  have HK:=Lib.hid (And.intro hkeep (And.intro hrec hD))
  have wM:=Lib.hid (And.intro hys hdl)
  have H3:=Lib.hid h3s
  clear hF hP Nj TJ hsu hdl hys Hg hkeep hrec hD hx hxm hcb Nc hxl h3s
  generalize jS l (k+1)=ls' at*
  generalize jS l k=ls at*
  gi_wp2_with fail
  refine(CallsIn.inRound _ (callsIn_wide.2 HDU.out)).mono ?_
  rintro e w6 ⟨rfl,hb,hgrow⟩
  obtain⟨W7,Bj⟩: ∃W7,w6.alloc (.cells #[iv y0,iv y1,iv y2] 134)=W7:=⟨_,rfl⟩
  have AU:Below W.heap.size W W7:=by rw[<-Bj];exact af hb _
  have YT:W7.heap[w6.heap.size]? =some (.cells #[iv y0,iv y1,iv y2] 134 (0,0)):=by rw[<-Bj];exact ag _ _
  have aaR:W7.heap.size=w6.heap.size+1:=by rw[<-Bj];simp
  have hap: ∀b∈Os,b∉Ms/\b<W.heap.size:=Dt.out.apart
  have hin: ∀b,B<=b->b<B+7->b∈Os:=fun b h1 h2=>(CV b).2 (by omega)
  have hF7:=(Dt.out.step (Ext.of_below AU) (fun m hm=> .inl hm)).1
  have Y2:Fg B l tv nv ls Ms W7:=HP.out.kept AU.size (fun b h1 h2=>AU.block b (hap b (hin b h1 (by omega))).2) (fun g h1 h2 h3=>AU.block g h2) (fun m hm=> .inl hm)
  have Xq:W7.heap[w4.heap.size+1]? =some (.loop busy):=(AU.block _ (Array.getElem?_eq_some_iff.1 HK.out.2.1).1).trans HK.out.2.1
  have hD7:W7.heap[w4.heap.size]? =some (.deferred (some [])):=(AU.block _ (Array.getElem?_eq_some_iff.1 HK.out.2.2).1).trans HK.out.2.2
  have abk: ∀m∈Ms,m∉([]:List Nat)->m<W1.heap.size->W7.heap[m]? =W1.heap[m]? :=fun m hm h0 hml=>(AU.block m (by omega)).trans (HK.out.1 m hm h0 hml)
  obtain⟨s0,hs0⟩: ∃s0,W.heap.size=s0:=⟨_,rfl⟩
  have HS0:Hid (B+7<=s0/\s0∉Ms/\s0<w6.heap.size):=Lib.hid ⟨by have:=(hap (B+6) (hin _ (by omega) (by omega))).2;omega,fun hm=>by have:=Dt.out.bnd s0 hm;omega,by omega⟩
  obtain⟨v,Yu,aaO,SG⟩:=HP.out.work
  have hv1:=(AU.block _ (Array.getElem?_eq_some_iff.1 Yu).1).trans Yu
  have hv2:=cZ aaO fun g hg=>AU.block g (SG g hg).2
  have hv3: ∀g,v.ownBlock=some g->g∉Ms/\g<W7.heap.size:=fun g hg=>⟨(SG g hg).1,by have:=(SG g hg).2;have:=AU.size;omega⟩
  have HVO:Hid (∀g,v.ownBlock=some g->g<s0):=Lib.hid (fun g hg=>by have:=(SG g hg).2;omega)
  clear Yu aaO SG
  obtain⟨vo,vc,rfl⟩:=aK hv2
  have hs1:W1.heap.size<=W7.heap.size:=by have:=AU.size;omega
  have su:=Lib.hid hF7
  have U5:=Lib.hid Y2
  have HV:=Lib.hid (And.intro hv1 (And.intro hv2 hv3))
  have uY:=Lib.hid (And.intro abk (And.intro Xq hD7))
  have XQ:=Lib.hid YT
  have aid:s0<w6.heap.size:=by omega
  have hap': ∀b∈Os,b∉Ms/\b<W7.heap.size:=fun b hb=>⟨(hap b hb).1,by have:=(hap b hb).2;omega⟩
  clear hap
  have hap:=hap'
  clear hap'
  obtain⟨c1,f1,q1⟩:=cells_of_block (show W7.heap[B+1+1+1]? =some (.cells #[.pointer (some ⟨B+1+1,0,none⟩)] 95 (0,0)) from Y2.ptr)
  obtain⟨c2,f2,q2⟩:=cells_of_block (show W7.heap[B+1+1]? =some (.cells (nX l tv nv (.slice vo ls.length vc) (B+1)) 132 (0,0)) from hv1)
  obtain⟨c3,f3,q3⟩:=cells_of_block YT
  clear hb hgrow c0 f0 l0 hF7 Y2 hv1 hv2 hv3 abk Xq hD7 YT Dt HP HK AU hs0
  gi_wp2_with fail
  (try rw[Bj])
  clear Bj
  have ajB:=Lib.hid aaR
  clear aaR
  rcases(List.eq_nil_or_concat ls).imp id (fun⟨A,z,e⟩=>(⟨A,z,e.trans (List.concat_eq_append)⟩: ∃A z,ls=A++[z])) with rfl|⟨A,z,rfl⟩
  ·simp only[List.length_nil] at c2 HV HVO
   have Qp:Hid (je [] ys=[]++[ys]):=Lib.hid (by simp[je])
   refine bY 22 [] none [] (by kernel_rfl) (by kernel_rfl) (by kernel_rfl) ?_
   simp only[zt]
   repeat ((first|refine zn ?_|refine zk ?_);simp only[zp])
   intro W hE hF
   obtain⟨hc,hf⟩:=aW hE.below
   have hzE:=hE.size
   (try simp only[World.size_alloc] at hzE)
   have jg:Ext [] W7 W:=hE
   have AQ:Fg B l tv nv ([]) Ms W:=U5.out.kept jg.size (fun b h1 h2=>jg.block b (by have:=(hap b (hin b h1 (by omega))).2;omega) (by simp)) (fun g h1 h2 h3=>jg.block g h2 (by simp)) (fun m hm=> .inl hm)
   have zS:=(jg.block _ (by omega) (by simp)).trans XQ.out
   obtain⟨v8,nI,nH,uF⟩:=AQ.work
   have zM:v8= .slice (vo) (0) vc:=by
    have h4:=(jg.block _ q2 (by simp)).trans HV.out.1
    rw[nI] at h4
    simp only[Option.some.injEq,Obj.cells.injEq,and_true,Array.mk.injEq,List.cons.injEq,true_and] at h4
    exact h4
   rw[zM] at nI nH uF
   clear zM
   (try simp only[List.length_nil] at nH)
   (try simp only[List.length_append,List.length_cons,List.length_nil,Nat.zero_add] at nH)
   obtain⟨p1,p2,p3⟩:=cells_of_block (show W.heap[B+1+1+1]? =some (.cells #[.pointer (some ⟨B+1+1,0,none⟩)] 95 (0,0)) from AQ.ptr)
   obtain⟨p4,p5,p6⟩:=cells_of_block (show W.heap[B+1+1]? =some (.cells (nX l tv nv (.slice (vo) (0) vc) (B+1)) 132 (0,0)) from nI)
   obtain⟨p7,p8,p9⟩:=cells_of_block zS
   have Yx:=jg.size
   have Dq:=Lib.hid AQ
   have Fp:=Lib.hid (And.intro nI (And.intro nH uF))
   have fV:=Lib.hid jg
   clear hE hF hc hf jg AQ nI nH uF zS c1 f1 q1 c2 f2 q2 c3 f3 q3 hzE
   obtain⟨gx,hgx,VX,hgx2,vU,VW⟩: ∃gx,(∀g,(Value.slice (vo) (0) vc).ownBlock=some g->g=gx)/\B+7<=gx/\gx<W.heap.size/\gx∉Ms/\gx≠w6.heap.size:=by
    cases qF:(Value.slice (vo) (0) vc).ownBlock with
    |none=>exact⟨s0,(fun g hg=>by cases hg),HS0.out.1,by omega,HS0.out.2.1,by omega⟩
    |some g=>
     have h1:=aZ Fp.out.2.1 g qF
     have h2:=Fp.out.2.2 g qF
     exact⟨g,(fun g' hg=>by cases hg;rfl),h1.1,h1.2,h2.1,fun e=>by have:=HVO.out g qF;omega⟩
   have HG:=Lib.hid hgx
   clear hgx
   have z1:gx≠B+1+1:=by omega
   have z2:gx≠B+1+1+1:=by omega
   have z1':B+1+1≠gx:=by omega
   have z2':B+1+1+1≠gx:=by omega
   have z3':w6.heap.size≠gx:=by omega
   gi_wp2_with fail
   refine bY 8 [gx] (some 7) [(6,Spec.slice W.heap.size #[iv y0,iv y1,iv y2] 134 1),(7,⟨fun _ v=> ∃o c,v= .slice o (0+1) c,fun _ v Wx=>Wx.ownsRow (B+7) 134 3 v (0+1) ((([])++[ys]).flatMap intCells)/\(∀g,v.ownBlock=some g->g=gx∨W.heap.size<=g)⟩)] (by kernel_rfl) (by kernel_rfl) (by kernel_rfl) ?_
   simp only[zt]
   repeat ((first|refine zn ?_|refine zk ?_);simp only[zp])
   refine bZ W.heap.size _ _ 1 (by rfl) (Nat.le_refl _) (by rfl) (by simpa using hgx2) (by simp) (fun W hW=>by go_simp;try rfl) (fun b6=>?_)
   simp only[zp]
   refine aP _ (by rfl) (by rfl) (by exact⟨.slice none (0+1) 0,none,0,rfl⟩) (fun Wa hE hF=>?_) (fun v Wa Wb ho hE=>?_) (fun v hv=>?_)
   ·have hE':Ext [] W Wa:=hE
    obtain⟨b',hb',hge,hcc⟩:=hF _ (List.Mem.head _) (by kernel_rfl)
    cases hb'
    have hown6:=ah (Ms:=[]) Fp.out.2.1 hE' (by simp)
    have hsrc:aB 3 Wa (.slice (some ⟨b6,0,none⟩) 1 1) 1 (intCells ys):=by
     rw[wM.out.1]
     exact aB.of_block 3 1 hcc rfl (by decide)
    refine Does.mono (bP Xh (by rfl) (by rfl) hown6 (by rfl) hsrc (iT _) (by omega) (by omega) (by have:=hE'.size;omega)) ?_
    rintro v' Wc ⟨ho,hgr,hcase⟩
    refine⟨aK ho,⟨?_,fun g hg=>?_⟩,⟨hgr.os,hgr.tape,hgr.output,hgr.size,fun b hb hn=>hgr.block b hb (fun e=>hn (by rw[HG.out b e.symm];simp))⟩⟩
    ·rw[List.flatMap_append]
     simpa using ho
    ·rcases hcase with h1|h1
     ·exact .inl (HG.out g (by rw[<-h1,hg]))
     ·rw[hg] at h1;injection h1 with h1;exact .inr (by have:=hE'.size;omega)
   ·exact⟨ah (Ms:=[]) ho.1 hE (by simp),ho.2⟩
   obtain⟨o7,c7,rfl⟩:=hv
   simp only[zp]
   intro W9 hE hF
   have hE':Ext [gx] W W9:=hE
   obtain⟨Na,KQ⟩:=hF _ (List.Mem.head _)
   have uD:W9.heap[B+1+1]? =some (.cells (nX l tv nv (.slice (vo) (0) vc) (B+1)) 132 (0,0)):=(hE'.block _ p6 (by simpa using z1')).trans Fp.out.1
   obtain⟨c9,f9,l9⟩:=cells_of_block uD
   have xG:=Lib.hid hE'
   have uU:=Lib.hid (And.intro Na (And.intro KQ uD))
   clear hE hF hE' Na KQ p1 p2 p4 p5 p7 p8 uD
   gi_wp2_with fail
   obtain⟨v',hv'⟩: ∃v',Value.slice o7 (0+1) c7=v':=⟨_,rfl⟩
   rw[hv'] at uU⊢
   have pY:(W9.setCell ⟨B+1+1,9,none⟩ v').heap.size=W9.heap.size:=by simp[World.setCell]
   have hs9:=xG.out.size
   have hks: ∀b,b<W.heap.size->b≠gx->b≠B+1+1->(W9.setCell ⟨B+1+1,9,none⟩ v').heap[b]? =W.heap[b]? :=fun b hb h1 h2=>
    (Below.heap_setCell _ _ _ _ h2).trans (xG.out.block b hb (by simpa using h1))
   have vT: ∀b,b<W7.heap.size->b≠gx->b≠B+1+1->(W9.setCell ⟨B+1+1,9,none⟩ v').heap[b]? =W7.heap[b]? :=fun b hb h1 h2=>(hks b (by omega) h1 h2).trans (fV.out.block b hb (by simp))
   have V8:Du w Os Ms (W9.setCell ⟨B+1+1,9,none⟩ v'):=su.out.own (su.out.ext.trans ⟨xG.out.os.trans fV.out.os,xG.out.tape.trans fV.out.tape,xG.out.output.trans fV.out.output,by rw[pY];omega,fun b hb=>(Below.heap_setCell _ _ _ _ (by show b≠B+1+1;omega)).trans ((xG.out.block b (by have:=su.out.ext.size;omega) (by simp;omega)).trans (fV.out.block b (by have:=su.out.ext.size;omega) (by simp)))⟩) (by rw[pY];omega)
   have hlen1:(([])++[ys]).length=0+1:=by simp
   refine⟨⟨?_,?_,fun m hm h0 hml=>?_,by rw[pY];omega⟩,V8,?_⟩
   ·exact(vT _ (by have:=(hap _ (hin (w4.heap.size+1) (by omega) (by omega))).2;omega) (by omega) (by omega)).trans uY.out.2.1
   ·exact(vT _ (by have:=(hap _ (hin w4.heap.size (by omega) (by omega))).2;omega) (by omega) (by omega)).trans uY.out.2.2
   ·exact(vT m (su.out.bnd m hm) (fun e=>vU (e▸hm)) (fun e=>(hap (B+1+1) (hin _ (by omega) (by omega))).1 (e▸hm))).trans (uY.out.1 m hm h0 hml)
   rw[qA.out,Qp.out]
   refine⟨?_,?_,⟨v',ak uU.out.2.2 _,hlen1.symm▸cZ uU.out.1 fun g hg=>Below.heap_setCell _ _ _ _ (by have:=(aZ uU.out.1 g hg).1;show g≠B+1+1;omega),fun g hg=>⟨fun hm=>?_,by rw[pY];exact(aZ uU.out.1 g hg).2⟩⟩,?_,?_⟩
   ·exact(hks _ (by have:=(hap _ (hin B (by omega) (by omega))).2;omega) (by omega) (by omega)).trans Dq.out.b0
   ·exact(hks _ (by have:=(hap _ (hin (B+1) (by omega) (by omega))).2;omega) (by omega) (by omega)).trans Dq.out.tab
   ·rcases uU.out.2.1 g hg with h1|h1
    ·exact vU (h1▸hm)
    ·have:=su.out.bnd g hm;omega
   ·exact(hks _ (by have:=(hap _ (hin (B+3) (by omega) (by omega))).2;omega) (by omega) (by omega)).trans Dq.out.ptr
   ·exact(hks _ (by have:=(hap _ (hin (B+4) (by omega) (by omega))).2;omega) (by omega) (by omega)).trans Dq.out.b4
  ·have hz3:=H3.out z (by simp)
   obtain⟨gb,gc,hvv,hgb,KP,EE⟩:=wY (A:=A) (z:=z) (by simpa using HV.out.2.1) (fun x hx=>H3.out x (by simp[hx])) hz3
   have hcap:vo=some ⟨gb,0,none⟩:=by simp at hvv;exact hvv.1
   subst hcap
   have hzl:(intCells z).length=3:=by simp[intCells,hz3]
   (try simp only[List.length_append,List.length_cons,List.length_nil,Nat.zero_add] at c2)
   (try simp only[List.length_append,List.length_cons,List.length_nil,Nat.zero_add] at HV)
   (try simp only[List.length_append,List.length_cons,List.length_nil,Nat.zero_add] at HVO)
   (try simp only[List.length_append,List.length_cons,List.length_nil,Nat.zero_add] at hlk)
   have hAI:((A.length:Int)+1==0)=false:=by simp;omega
   have hA0: ¬((A.length:Int)+1=0):=by omega
   have hA1:((A.length:Int)+1).toNat=A.length+1:=by omega
   have hAm:(A.length:Int)+1-1=A.length:=by omega
   have hy3:ys.length=3:=wM.out.2
   rcases hq:(z==ys) with _|_
   ·have Qp:Hid (je (A++[z]) ys=(A++[z])++[ys]):=Lib.hid (by
     unfold je
     rw[if_neg]
     simp only[List.getLast?_append,List.getLast?_singleton]
     intro e
     simp at e
     subst e;simp at hq)
    refine bY 22 [] none [] (by kernel_rfl) (by kernel_rfl) (by kernel_rfl) ?_
    simp only[zt]
    repeat ((first|refine zn ?_|refine zk ?_);simp only[zp])
    refine dS (by rfl) (.pointer (some ⟨gb,A.length*3,none⟩)) (by rfl) (fun W hW=>by go_simp;(try simp(disch:=omega) only[IntWalk.i64_in]);(try rw[if_pos (by omega)]);(try simp);(try (intro hx;exfalso;omega))) ?_
    simp only[zp]
    refine dS (by rfl) (.agg (intCells z).toArray) (by rfl) (fun W hW=>iJ 134 _ (by rfl) gb (A.length*3) (by rfl) (intCells z) _ (fun j u hj=>(hW gb _ KP (by simp)).trans (EE j u hj)) Tryz.underlying134 rfl (by rw[hzl];kernel_rfl)) ?_
    simp only[zp]
    refine dS (by rfl) (.agg #[iv y0,iv y1,iv y2]) (by rfl) (fun W hW=>by go_simp;try rfl) ?_
    simp only[zp]
    refine dS (by rfl) (.bool true) (by rfl) (fun W hW=>(jL 134 3 _ 3 _ _ (by rfl) Tryz.underlying134 Tryz.underlying3 (by intro w;go_simp) (by kernel_rfl) z [y0,y1,y2] (by rfl) (by rfl) hz3 (by rfl)).trans (by rw[wM.out.1] at hq;rw[hq];rfl)) ?_
    simp only[zp]
    repeat ((first|refine zn ?_|refine zk ?_);simp only[zp])
    intro W hE hF
    obtain⟨hc,hf⟩:=aW hE.below
    have hzE:=hE.size
    (try simp only[World.size_alloc] at hzE)
    have jg:Ext [] W7 W:=hE
    have AQ:Fg B l tv nv (A++[z]) Ms W:=U5.out.kept jg.size (fun b h1 h2=>jg.block b (by have:=(hap b (hin b h1 (by omega))).2;omega) (by simp)) (fun g h1 h2 h3=>jg.block g h2 (by simp)) (fun m hm=> .inl hm)
    have zS:=(jg.block _ (by omega) (by simp)).trans XQ.out
    obtain⟨v8,nI,nH,uF⟩:=AQ.work
    have zM:v8= .slice ((some ⟨gb,0,none⟩)) ((A.length+1)) vc:=by
     have h4:=(jg.block _ q2 (by simp)).trans HV.out.1
     rw[nI] at h4
     simp only[Option.some.injEq,Obj.cells.injEq,and_true,Array.mk.injEq,List.cons.injEq,true_and] at h4
     exact h4
    rw[zM] at nI nH uF
    clear zM
    (try simp only[List.length_nil] at nH)
    (try simp only[List.length_append,List.length_cons,List.length_nil,Nat.zero_add] at nH)
    obtain⟨p1,p2,p3⟩:=cells_of_block (show W.heap[B+1+1+1]? =some (.cells #[.pointer (some ⟨B+1+1,0,none⟩)] 95 (0,0)) from AQ.ptr)
    obtain⟨p4,p5,p6⟩:=cells_of_block (show W.heap[B+1+1]? =some (.cells (nX l tv nv (.slice ((some ⟨gb,0,none⟩)) ((A.length+1)) vc) (B+1)) 132 (0,0)) from nI)
    obtain⟨p7,p8,p9⟩:=cells_of_block zS
    have Yx:=jg.size
    have Dq:=Lib.hid AQ
    have Fp:=Lib.hid (And.intro nI (And.intro nH uF))
    have fV:=Lib.hid jg
    clear hE hF hc hf jg AQ nI nH uF zS c1 f1 q1 c2 f2 q2 c3 f3 q3 hzE
    obtain⟨gx,hgx,VX,hgx2,vU,VW⟩: ∃gx,(∀g,(Value.slice ((some ⟨gb,0,none⟩)) ((A.length+1)) vc).ownBlock=some g->g=gx)/\B+7<=gx/\gx<W.heap.size/\gx∉Ms/\gx≠w6.heap.size:=by
     cases qF:(Value.slice ((some ⟨gb,0,none⟩)) ((A.length+1)) vc).ownBlock with
     |none=>exact⟨s0,(fun g hg=>by cases hg),HS0.out.1,by omega,HS0.out.2.1,by omega⟩
     |some g=>
      have h1:=aZ Fp.out.2.1 g qF
      have h2:=Fp.out.2.2 g qF
      exact⟨g,(fun g' hg=>by cases hg;rfl),h1.1,h1.2,h2.1,fun e=>by have:=HVO.out g qF;omega⟩
    have HG:=Lib.hid hgx
    clear hgx
    have z1:gx≠B+1+1:=by omega
    have z2:gx≠B+1+1+1:=by omega
    have z1':B+1+1≠gx:=by omega
    have z2':B+1+1+1≠gx:=by omega
    have z3':w6.heap.size≠gx:=by omega
    gi_wp2_with fail
    refine bY 8 [gx] (some 7) [(6,Spec.slice W.heap.size #[iv y0,iv y1,iv y2] 134 1),(7,⟨fun _ v=> ∃o c,v= .slice o ((A.length+1)+1) c,fun _ v Wx=>Wx.ownsRow (B+7) 134 3 v ((A.length+1)+1) (((A++[z])++[ys]).flatMap intCells)/\(∀g,v.ownBlock=some g->g=gx∨W.heap.size<=g)⟩)] (by kernel_rfl) (by kernel_rfl) (by kernel_rfl) ?_
    simp only[zt]
    repeat ((first|refine zn ?_|refine zk ?_);simp only[zp])
    refine bZ W.heap.size _ _ 1 (by rfl) (Nat.le_refl _) (by rfl) (by simpa using hgx2) (by simp) (fun W hW=>by go_simp;try rfl) (fun b6=>?_)
    simp only[zp]
    refine aP _ (by rfl) (by rfl) (by exact⟨.slice none ((A.length+1)+1) 0,none,0,rfl⟩) (fun Wa hE hF=>?_) (fun v Wa Wb ho hE=>?_) (fun v hv=>?_)
    ·have hE':Ext [] W Wa:=hE
     obtain⟨b',hb',hge,hcc⟩:=hF _ (List.Mem.head _) (by kernel_rfl)
     cases hb'
     have hown6:=ah (Ms:=[]) Fp.out.2.1 hE' (by simp)
     have hsrc:aB 3 Wa (.slice (some ⟨b6,0,none⟩) 1 1) 1 (intCells ys):=by
      rw[wM.out.1]
      exact aB.of_block 3 1 hcc rfl (by decide)
     refine Does.mono (bP Xh (by rfl) (by rfl) hown6 (by rfl) hsrc (iT _) (by omega) (by omega) (by have:=hE'.size;omega)) ?_
     rintro v' Wc ⟨ho,hgr,hcase⟩
     refine⟨aK ho,⟨?_,fun g hg=>?_⟩,⟨hgr.os,hgr.tape,hgr.output,hgr.size,fun b hb hn=>hgr.block b hb (fun e=>hn (by rw[HG.out b e.symm];simp))⟩⟩
     ·rw[List.flatMap_append]
      simpa using ho
     ·rcases hcase with h1|h1
      ·exact .inl (HG.out g (by rw[<-h1,hg]))
      ·rw[hg] at h1;injection h1 with h1;exact .inr (by have:=hE'.size;omega)
    ·exact⟨ah (Ms:=[]) ho.1 hE (by simp),ho.2⟩
    obtain⟨o7,c7,rfl⟩:=hv
    simp only[zp]
    intro W9 hE hF
    have hE':Ext [gx] W W9:=hE
    obtain⟨Na,KQ⟩:=hF _ (List.Mem.head _)
    have uD:W9.heap[B+1+1]? =some (.cells (nX l tv nv (.slice ((some ⟨gb,0,none⟩)) ((A.length+1)) vc) (B+1)) 132 (0,0)):=(hE'.block _ p6 (by simpa using z1')).trans Fp.out.1
    obtain⟨c9,f9,l9⟩:=cells_of_block uD
    have xG:=Lib.hid hE'
    have uU:=Lib.hid (And.intro Na (And.intro KQ uD))
    clear hE hF hE' Na KQ p1 p2 p4 p5 p7 p8 uD
    gi_wp2_with fail
    obtain⟨v',hv'⟩: ∃v',Value.slice o7 ((A.length+1)+1) c7=v':=⟨_,rfl⟩
    rw[hv'] at uU⊢
    have pY:(W9.setCell ⟨B+1+1,9,none⟩ v').heap.size=W9.heap.size:=by simp[World.setCell]
    have hs9:=xG.out.size
    have hks: ∀b,b<W.heap.size->b≠gx->b≠B+1+1->(W9.setCell ⟨B+1+1,9,none⟩ v').heap[b]? =W.heap[b]? :=fun b hb h1 h2=>
     (Below.heap_setCell _ _ _ _ h2).trans (xG.out.block b hb (by simpa using h1))
    have vT: ∀b,b<W7.heap.size->b≠gx->b≠B+1+1->(W9.setCell ⟨B+1+1,9,none⟩ v').heap[b]? =W7.heap[b]? :=fun b hb h1 h2=>(hks b (by omega) h1 h2).trans (fV.out.block b hb (by simp))
    have V8:Du w Os Ms (W9.setCell ⟨B+1+1,9,none⟩ v'):=su.out.own (su.out.ext.trans ⟨xG.out.os.trans fV.out.os,xG.out.tape.trans fV.out.tape,xG.out.output.trans fV.out.output,by rw[pY];omega,fun b hb=>(Below.heap_setCell _ _ _ _ (by show b≠B+1+1;omega)).trans ((xG.out.block b (by have:=su.out.ext.size;omega) (by simp;omega)).trans (fV.out.block b (by have:=su.out.ext.size;omega) (by simp)))⟩) (by rw[pY];omega)
    have hlen1:((A++[z])++[ys]).length=(A.length+1)+1:=by simp
    refine⟨⟨?_,?_,fun m hm h0 hml=>?_,by rw[pY];omega⟩,V8,?_⟩
    ·exact(vT _ (by have:=(hap _ (hin (w4.heap.size+1) (by omega) (by omega))).2;omega) (by omega) (by omega)).trans uY.out.2.1
    ·exact(vT _ (by have:=(hap _ (hin w4.heap.size (by omega) (by omega))).2;omega) (by omega) (by omega)).trans uY.out.2.2
    ·exact(vT m (su.out.bnd m hm) (fun e=>vU (e▸hm)) (fun e=>(hap (B+1+1) (hin _ (by omega) (by omega))).1 (e▸hm))).trans (uY.out.1 m hm h0 hml)
    rw[qA.out,Qp.out]
    refine⟨?_,?_,⟨v',ak uU.out.2.2 _,hlen1.symm▸cZ uU.out.1 fun g hg=>Below.heap_setCell _ _ _ _ (by have:=(aZ uU.out.1 g hg).1;show g≠B+1+1;omega),fun g hg=>⟨fun hm=>?_,by rw[pY];exact(aZ uU.out.1 g hg).2⟩⟩,?_,?_⟩
    ·exact(hks _ (by have:=(hap _ (hin B (by omega) (by omega))).2;omega) (by omega) (by omega)).trans Dq.out.b0
    ·exact(hks _ (by have:=(hap _ (hin (B+1) (by omega) (by omega))).2;omega) (by omega) (by omega)).trans Dq.out.tab
    ·rcases uU.out.2.1 g hg with h1|h1
     ·exact vU (h1▸hm)
     ·have:=su.out.bnd g hm;omega
    ·exact(hks _ (by have:=(hap _ (hin (B+3) (by omega) (by omega))).2;omega) (by omega) (by omega)).trans Dq.out.ptr
    ·exact(hks _ (by have:=(hap _ (hin (B+4) (by omega) (by omega))).2;omega) (by omega) (by omega)).trans Dq.out.b4
   ·have Qp:Hid (je (A++[z]) ys=A++[z]):=Lib.hid (by
     unfold je
     rw[if_pos]
     simp only[List.getLast?_append,List.getLast?_singleton]
     have:z=ys:=by simpa using hq
     rw[this]
     rfl)
    refine bY 22 [] none [] (by kernel_rfl) (by kernel_rfl) (by kernel_rfl) ?_
    simp only[zt]
    repeat ((first|refine zn ?_|refine zk ?_);simp only[zp])
    refine dS (by rfl) (.pointer (some ⟨gb,A.length*3,none⟩)) (by rfl) (fun W hW=>by go_simp;(try simp(disch:=omega) only[IntWalk.i64_in]);(try rw[if_pos (by omega)]);(try simp);(try (intro hx;exfalso;omega))) ?_
    simp only[zp]
    refine dS (by rfl) (.agg (intCells z).toArray) (by rfl) (fun W hW=>iJ 134 _ (by rfl) gb (A.length*3) (by rfl) (intCells z) _ (fun j u hj=>(hW gb _ KP (by simp)).trans (EE j u hj)) Tryz.underlying134 rfl (by rw[hzl];kernel_rfl)) ?_
    simp only[zp]
    refine dS (by rfl) (.agg #[iv y0,iv y1,iv y2]) (by rfl) (fun W hW=>by go_simp;try rfl) ?_
    simp only[zp]
    refine dS (by rfl) (.bool false) (by rfl) (fun W hW=>(jL 134 3 _ 3 _ _ (by rfl) Tryz.underlying134 Tryz.underlying3 (by intro w;go_simp) (by kernel_rfl) z [y0,y1,y2] (by rfl) (by rfl) hz3 (by rfl)).trans (by rw[wM.out.1] at hq;rw[hq];rfl)) ?_
    simp only[zp]
    repeat ((first|refine zn ?_|refine zk ?_);simp only[zp])
    intro W hE hF
    obtain⟨hc,hf⟩:=aW hE.below
    have hzE:=hE.size
    (try simp only[World.size_alloc] at hzE)
    have jg:Ext [] W7 W:=hE
    have fV:=Lib.hid jg
    clear hE hF hc hf jg
    gi_wp2_with fail
    have hs8:=fV.out.size
    refine⟨⟨?_,?_,fun m hm h0 hml=>?_,by omega⟩,(su.out.step (fV.out.more (by simp)) (fun m hm=> .inl hm)).1,?_⟩
    ·exact(fV.out.block _ (Array.getElem?_eq_some_iff.1 uY.out.2.1).1 (by simp)).trans uY.out.2.1
    ·exact(fV.out.block _ (Array.getElem?_eq_some_iff.1 uY.out.2.2).1 (by simp)).trans uY.out.2.2
    ·exact(fV.out.block m (by omega) (by simp)).trans (uY.out.1 m hm h0 hml)
    ·rw[qA.out,Qp.out]
     exact U5.out.kept fV.out.size (fun b h1 h2=>fV.out.block b (by have:=(hap b (hin b h1 (by omega))).2;omega) (by simp)) (fun g h1 h2 h3=>fV.out.block g h2 (by simp)) (fun m hm=> .inl hm)
 case hdone=>
  rintro Ms W ⟨hF,hP⟩ hD hlt
  obtain⟨v,hv1,hv2,hv3⟩:=hP.work
  obtain⟨c1,f1,l1⟩:=cells_of_block (show W.heap[B+1+1+1]? =some (.cells #[.pointer (some ⟨B+1+1,0,none⟩)] 95 (0,0)) from hP.ptr)
  have hFE:=(hF.put (Obj.deferred none) (r:=w4.heap.size) (by omega)).ext
  have HX:=Lib.hid (And.intro hFE (And.intro hv1 (And.intro hv2 hP.tab)))
  clear hF hP hv1 hv2 hv3 hFE
  gi_wp2_with fail
  refine⟨by simp,.inl ⟨_,_,rfl,run_takeDeferred hD,?_⟩⟩
  refine⟨.pointer (some ⟨B+1+1,0,none⟩),by simp[results,Tryz.results108,go_sem],B+1+1,B+1,v,rfl,by omega,by omega,?_,⟨?_,Z9.out _ HX.out.1,HN'.out _ HX.out.1,?_⟩,HX.out.1⟩
  ·exact(World.putObj_heap_other (by omega)).trans HX.out.2.2.2
  ·exact(World.putObj_heap_other (by omega)).trans HX.out.2.1
  ·exact aB.dn (cZ HX.out.2.2.1 fun g hg=>World.putObj_heap_other (by have:=(aZ HX.out.2.2.1 g hg).1;omega))
 case hstop=>rintro cd Ms W h;exact h.elim
end Go.Proofs.YtabpkkbiioihaaaGreatDoor
end
section
namespace Go.Proofs.YtabpkkbiioihaaaGreatDoor
open Go.RowKit Go.RG Go.SL Go.Shelf gZ Go.TB
abbrev QZ (k:Int×Int):Value:= .agg #[iv k.1,iv k.2]
theorem Eu:Qh Tryz.prog 180 QZ (fun _=>True) where
 find w x es:=run_findKey_eq w (by kernel_rfl) x es
 check b a w _:=by
  unfold Instr.checkKey
  simp[go_sem]
  simp only[Ac,Result.andThen_ok]
 eq a b w _ _:=by
  unfold Op.equal Op.maxDepth
  simp[go_sem]
  obtain⟨a1,a2⟩:=a
  obtain⟨b1,b2⟩:=b
  by_cases h1:a1=b1 <;>by_cases h2:a2=b2 <;>simp[h1,h2]
 bits a _:=by simp[Instr.sameBits]
theorem X0:fD Tryz.prog 31 151 (xv (0,0,0)) 3 24:=⟨Tryz.underlying31,by kernel_rfl,rfl,by omega⟩
theorem xy {w:World} {o:Option Addr} {n c:Nat} {ls:List (List Int)} (h:aB 3 w (.slice o n c) ls.length (ls.flatMap intCells)) (h3: ∀x∈ls,x.length=3) {k:Nat} (hk:k<ls.length):
 ∃b off y0 y1 y2,o=some ⟨b,off,none⟩/\b<w.heap.size/\ls[k]=[y0,y1,y2]/\w.cell? ⟨b,off+k*3,none⟩=some (iv y0)/\w.cell? ⟨b,off+k*3+1,none⟩=some (iv y1)/\w.cell? ⟨b,off+k*3+2,none⟩=some (iv y2):=by
 obtain⟨hl,o',c',hv,h1,h2,hn,h4⟩:=h
 cases hv
 obtain⟨y0,y1,y2,hys⟩:=jJ (h3 _ (List.getElem_mem hk))
 cases o with
 |none=>have:=hn rfl;omega
 |some a=>
  obtain⟨b,off,sp⟩:=a
  obtain⟨hs,hc⟩:=h4 _ rfl
  simp only at hs hc
  subst hs
  have g: ∀j (hj:j<3),(ls.flatMap intCells)[k*3+j]? =[iv y0,iv y1,iv y2][j]? :=fun j hj=>by
   have: ∀(ls:List (List Int)) (k:Nat) (hk:k<ls.length),(∀x∈ls,x.length=3)->(ls.flatMap intCells)[k*3+j]? =(intCells ls[k])[j]? :=by
    intro ls
    induction ls with
    |nil=>intro k hk;simp at hk
    |cons x ls ih=>
     intro k hk h3
     have hx:(intCells x).length=3:=by simp[intCells,h3 x (by simp)]
     rw[List.flatMap_cons]
     cases k with
     |zero=>simp only[Nat.zero_mul,Nat.zero_add,List.getElem_cons_zero];rw[List.getElem?_append_left (by omega)]
     |succ k=>
      rw[List.getElem?_append_right (by omega),hx,show(k+1)*3+j-3=k*3+j from by omega]
      simpa using ih k (by simpa using hk) (fun y hy=>h3 y (by simp[hy]))
   rw[this ls k hk h3,hys]
   rfl
  have r0:=hc (k*3+0) (iv y0) (by rw[g 0 (by omega)];rfl)
  have r1:=hc (k*3+1) (iv y1) (by rw[g 1 (by omega)];rfl)
  have r2:=hc (k*3+2) (iv y2) (by rw[g 2 (by omega)];rfl)
  rw[Nat.add_zero] at r0
  rw[<-Nat.add_assoc] at r1 r2
  exact⟨b,off,y0,y1,y2,rfl,World.block_lt_of_cell? w _ r0,hys,r0,r1,r2⟩
theorem xE.lt {W:World} {wb mb:Nat} {l:ax} {tv nv v:Value} {ls:List (List Int)} (h:xE W wb mb l tv nv v ls):wb<W.heap.size:=(Array.getElem?_eq_some_iff.1 h.cells).1
theorem xE.below {W W':World} {wb mb:Nat} {l:ax} {tv nv v:Value} {ls:List (List Int)} (h:xE W wb mb l tv nv v ls) {B:Nat} (hb:Below B W W') (hB:W.heap.size<=B):xE W' wb mb l tv nv v ls:=
 ⟨(hb.block _ (by have:=h.lt;omega)).trans h.cells,h.pM.below hb hB,h.notes.below hb hB,h.truth.below hb hB⟩
theorem xE.table {W W':World} {wb mb:Nat} {l:ax} {tv nv v:Value} {ls:List (List Int)} (h:xE W wb mb l tv nv v ls) (hE:Ext [mb] W W') (hn: ∀o,W.cell? ⟨mb,o,none⟩=none):xE W' wb mb l tv nv v ls:=by
 have hm: ∀x∈[mb], ∀o,W.cell? ⟨x,o,none⟩=none:=fun x hx o=>by have e:x=mb:=(by simpa using hx);rw[e];exact hn o
 refine⟨(hE.block _ h.lt (fun e=>?_)).trans h.cells,h.pM.gQ hE hm,h.notes.gQ hE hm,h.truth.gQ hE hm⟩
 have e:wb=mb:=by simpa using e
 have:=hn 0
 rw[<-e] at this
 simp[World.cell?,h.cells] at this
theorem pF {P:Program} {o:Oper} {ρ:Operand->Value} {W W':World} {R:Value->World->Prop} (he:(execOp ρ o).run P W= .ok .skip W') (h:R undef W'):Does P o ρ W R:=by
 unfold Does;rw[he];exact h
theorem Ib {mb:Nat} {w W W':World} (h:Ext [mb] w W) (hb:Below w.heap.size W W'):Ext [mb] w W':=
 ⟨hb.os.trans h.os,hb.tape.trans h.tape,hb.output.trans h.output,Nat.le_trans h.size hb.size,fun k hk hm=>(hb.block k hk).trans (h.block k hk hm)⟩
structure lY (ns:List wP) (T:List ((Int×Int)×bK)) (done:List (Int×Int)):Prop where
 only: ∀key r,TB.look key T=some r->r=kn ns key
 has: ∀key∈done, ∃r,TB.look key T=some r
theorem lY.nil (ns:List wP):lY ns [] []:=⟨fun key r h=>(by cases h),fun key h=>(by cases h)⟩
theorem lY.new {ns:List wP} {T:List ((Int×Int)×bK)} {done:List (Int×Int)} (h:lY ns T done) (key:Int×Int):lY ns (TB.store key (kn ns key) T) (done++[key]):=by
 refine⟨fun k r hl=>?_,fun k hk=>?_⟩
 ·rw[pW] at hl
  split at hl
  ·rename_i e;cases hl;rw[e]
  ·exact h.only k r hl
 ·rw[pW]
  by_cases e:k=key
  ·exact⟨_,if_pos e⟩
  ·rw[if_neg e]
   rcases List.mem_append.1 hk with h1|h1
   ·exact h.has k h1
   ·exact absurd (by simpa using h1) e
theorem lY.old {ns:List wP} {T:List ((Int×Int)×bK)} {done:List (Int×Int)} (h:lY ns T done) (key:Int×Int) {r:bK} (hl:TB.look key T=some r):lY ns T (done++[key]):=
 ⟨h.only,fun k hk=>by
   rcases List.mem_append.1 hk with h1|h1
   ·exact h.has k h1
   ·have:k=key:=by simpa using h1
    rw[this];exact⟨r,hl⟩⟩
def keysOf (d:List Int) (i:Nat):List (Int×Int):=(List.range i).map fun(j:Nat)=>((j:Int),d.getD j 0)
def nG (n:Nat) (ls:List (List Int)) (k:Nat):List (Int×Int):=(ls.take k).flatMap fun d=>keysOf d n
theorem G5 {n:Nat} {ls:List (List Int)} {k:Nat} (hk:k<ls.length):nG n ls (k+1)=nG n ls k++keysOf ls[k] n:=by
 unfold nG
 rw[List.take_succ_eq_append_getElem hk,List.flatMap_append]
 simp
theorem G6 (d:List Int) (i:Nat):keysOf d (i+1)=keysOf d i++[((i:Int),d.getD i 0)]:=by
 unfold keysOf
 rw[List.range_succ,List.map_append]
 rfl
theorem FO (l:ax) (hS:lK l.field) (h5:l.notes.length<=5) (tv nv v ov:Value) (out:List Int) (wb mb:Nat) (ls:List (List Int)) (T0:List ((Int×Int)×bK)) (w:World) (hw:xE w wb mb l tv nv v ls) (hT:TabAt QZ rv (fun _=>True) w mb T0)
 (ho:aN w ov out) (h3: ∀x∈ls,x.length=3) (hlen:ls.length<=2500):
 Calls Tryz.prog 109 #[.pointer (some ⟨wb,0,none⟩),ov] w (fun e w'=>(∃u,e= .returned u)/\Ext [mb] w w'/\ ∃T,TabAt QZ rv (fun _=>True) w' mb T/\lY (lX l out) T (nG l.field.ai.toNat ls ls.length)):=by
 obtain⟨on,cn,rfl⟩:=hw.notes.open
 obtain⟨ot,ct,rfl⟩:=hw.pM.open
 obtain⟨vo,vc,rfl⟩:=hw.truth.open
 obtain⟨oo,oc,rfl⟩:=ho.open
 have hwn:=hw.lt
 have hmb:=hT.lt
 have YD:=hT.noCell
 obtain⟨c1,f1,l1⟩:=cells_of_block hw.cells
 obtain⟨W1,hrun,hT1,hE1⟩:=PI (P:=Tryz.prog) (kv:=QZ) (vv:=rv) (ok:=fun _=>True) (mt:=130) (k:=180) (e:=30) (by kernel_rfl) 0 hT
 have hw1:=hw.table hE1 YD
 have hm1: ∀x∈[mb], ∀o,w.cell? ⟨x,o,none⟩=none:=fun x hx o=>by have e:x=mb:=(by simpa using hx);rw[e];exact YD o
 have ho1:=ho.gQ hE1 hm1
 have hwm:wb≠mb:=hT.ne hw.cells
 have HO:=Lib.hid (And.intro ho ho1)
 have HW:=Lib.hid hw
 have HW1:=Lib.hid hw1
 have HT1:=Lib.hid (And.intro hT1 hE1)
 have H3:=Lib.hid h3
 have hw0:=hS.uf
 have hw3:=hS.qM
 obtain⟨n,hn⟩: ∃n:Nat,l.field.ai=n:=⟨l.field.ai.toNat,by omega⟩
 have HN:=Lib.hid hn
 have hn3:n<=3:=by omega
 have hnt:l.field.ai.toNat=n:=by omega
 rw[hnt]
 clear hw hT ho hw1 hT1 hE1 hS hn hnt hw0 hw3 hm1 h3
 go_enter Tryz.func109,Tryz.ntmps109
 go_upto_region 2 with(fail)
 obtain⟨c1',f1',l1'⟩:=cells_of_block HW1.out.cells
 have aiu:=HT1.out.1.lt
 have hsz1:=HT1.out.2.size
 clear c1 f1 hrun
 go_wp2_with fail
 go_loopw [4,26] (fun v4 u wr=> ∃k:Nat,k<=l.notes.length/\u= .int .i64 k/\(∃lo lc,v4= .slice lo (iV l out k).length lc/\wr.ownsRow W1.heap.size 151 3 (.slice lo (iV l out k).length lc) (iV l out k).length (aF (iV l out k)))/\Below W1.heap.size W1 wr) (fun _ u _=>l.notes.length-(intOf u).toNat)
 case atStart=>exact⟨0,Nat.zero_le _,rfl,⟨none,0,rfl,⟨rfl,.inl ⟨rfl,rfl⟩⟩⟩,Below.refl _ _⟩
 case round=>
  obtain⟨k,hk,rfl,⟨lo,lc,rfl,how⟩,hB⟩:=hrel
  have hwr:=HW1.out.below hB (Nat.le_refl _)
  by_cases hlt:k<l.notes.length
  ·obtain⟨b,off,hvv,hb,hc0,hc1,hc2⟩:=aT.cell hwr.notes hlt
   cases hvv
   have hgk:l.notes.getD k (0,(0,0))=l.notes[k]:=by simp[List.getD,hlt]
   have hcon:=eP out (.slice oo out.length oc) (k:Int)
   obtain⟨q,hq⟩: ∃q,out.contains (k:Int)=q:=⟨_,rfl⟩
   rw[hq] at hcon
   have hll:=zJ l out k
   have HC:=Lib.hid hcon
   have HQ:=Lib.hid (And.intro hq hgk)
   have HOW:=Lib.hid (And.intro how hB)
   generalize l.notes[k]=x at*
   clear hwr how hB hcon hq hgk
   cases q
   ·have hsu:=Kw (l:=l) HQ.out.1
    rw[HQ.out.2] at hsu
    have qA:=Lib.hid hsu
    clear hsu
    go_upto_region 5 with(fail)
    refine dD fun W5 xu=>?_
    have sV:Below wr.heap.size wr W5:=by rw[xu];exact zl
    have hk5:W5.heap[wr.heap.size]? =some (.cells #[iv x.1,iv x.2.1,iv x.2.2] 151 (0,0)):=by rw[xu];exact ag _ _
    have Nc:=HO.out.2.below (aH HOW.out.2 sV) (Nat.le_refl _)
    have lD:=Lib.hid (And.intro sV (And.intro hk5 Nc))
    clear xu sV hk5 Nc hc0 hc1 hc2 hb
    go_wp2_with fail
    refine(HC.out W5 lD.out.2.2).mono ?_
    rintro e W6 ⟨rfl,hb6⟩
    have hk6:=(hb6.block _ (Array.getElem?_eq_some_iff.1 lD.out.2.1).1).trans lD.out.2.1
    obtain⟨e1,e2,e3⟩:=cells_of_block hk6
    have lT:=Lib.hid (aH (aH HOW.out.2 lD.out.1) hb6)
    have Tn:=ah (Ms:=[]) (ah (Ms:=[]) HOW.out.1 (Ext.of_below lD.out.1) (by simp)) (Ext.of_below hb6) (by simp)
    have Fv:=Lib.hid Tn
    clear hb6 hk6 Tn
    go_wp2_with (at_builtin;refine dY rfl _ _ X0 rfl W1.heap.size (.slice lo (iV l out k).length lc) (iV l out k).length (aF (iV l out k)) rfl ?_ (.slice (some ⟨W6.heap.size,0,none⟩) 1 1) 1 [iv x.1,iv x.2.1,iv x.2.2] rfl ?_ (by simp[Value.oneCell']) (by omega) (by omega) (by have:=lT.out.size;simp;omega) ?_)
    ·exact ah (Ms:=[]) Fv.out (Ext.of_below ((Below.refl _ _).alloc (Nat.le_refl _) _)) (by simp)
    ·exact aB.of_block 3 1 (ag _ _) rfl (by decide)
    ·intro v' W7 hown hgr
     obtain⟨o7,c7,rfl⟩:=aK hown
     have HO7:=Lib.hid hown
     have HG7:=Lib.hid hgr
     clear hown hgr
     go_wp2_with fail
     go_roundw
     case rel=>
      refine⟨k+1,by omega,by go_num,⟨o7,c7,by rw[qA.out];simp,?_⟩,?_⟩
      ·rw[qA.out]
       have:=HO7.out
       simpa [aF,List.flatMap_append] using this
      ·exact Below.grown (af lT.out _) HG7.out (by have:=lT.out.size;simp;omega) (fun k e=>(aZ Fv.out k e).1)
     case measure=>simp[intOf];omega
   ·have hsu:=OC (l:=l) HQ.out.1
    have qA:=Lib.hid hsu
    clear hsu
    go_upto_region 5 with(fail)
    refine dD fun W5 xu=>?_
    have sV:Below wr.heap.size wr W5:=by rw[xu];exact zl
    have Nc:=HO.out.2.below (aH HOW.out.2 sV) (Nat.le_refl _)
    have lD:=Lib.hid (And.intro sV Nc)
    clear xu sV Nc hc0 hc1 hc2 hb
    go_wp2_with fail
    refine(HC.out W5 lD.out.2).mono ?_
    rintro e W6 ⟨rfl,hb6⟩
    have lT:=Lib.hid (aH (aH HOW.out.2 lD.out.1) hb6)
    have Tn:=ah (Ms:=[]) (ah (Ms:=[]) HOW.out.1 (Ext.of_below lD.out.1) (by simp)) (Ext.of_below hb6) (by simp)
    have Fv:=Lib.hid Tn
    clear hb6 Tn
    go_wp2_with fail
    go_roundw
    case rel=>exact⟨k+1,by omega,by go_num,⟨lo,lc,by rw[qA.out],by rw[qA.out];exact Fv.out⟩,lT.out⟩
    case measure=>simp[intOf];omega
  ·have hkl:k=l.notes.length:=by omega
   subst hkl
   have hll:=zJ l out l.notes.length
   have Y5:Ext [mb] w wr:=Ib HT1.out.2 (hB.mono hsz1)
   have HOW:=Lib.hid (And.intro how hB)
   have HEW:=Lib.hid Y5
   have HT:=Lib.hid (HT1.out.1.below hB (Nat.le_refl _))
   have HWR:=Lib.hid hwr
   have hwl:=hwr.lt
   obtain⟨d1,g1,m1⟩:=cells_of_block hwr.cells
   obtain⟨ns,hns⟩: ∃ns,iV l out l.notes.length=ns:=⟨_,rfl⟩
   have aa5:lX l out=ns:=hns
   have HNS:=Lib.hid aa5
   rw[hns] at hll HOW
   rw[hns]
   clear how hB hwr Y5 hns aa5 c1' f1'
   have Tt:=HT.out.noCell
   have hleft:aT wr (.slice lo ns.length lc) ns:=aB.dn HOW.out.1
   have HLF:=Lib.hid hleft
   have OV:=HT.out.lt
   have CW:Hid (∀W,Ext [mb] wr W->xE W wb mb l (.slice ot l.field.ae.length ct) (.slice on l.notes.length cn) (.slice vo ls.length vc) ls/\aT W (.slice lo ns.length lc) ns):=Lib.hid (fun W hE=>⟨HWR.out.table hE Tt,HLF.out.gQ hE (fun x hx o=>by have e:x=mb:=(by simpa using hx);rw[e];exact Tt o)⟩)
   have HWS:=Lib.hid HOW.out.2.size
   have hLO: ∀g,(Value.slice lo ns.length lc).ownBlock=some g->g<wr.heap.size:=fun g hg=>(aZ HOW.out.1 g hg).2
   clear hleft YD Tt
   obtain⟨W2,hW2⟩: ∃W2,wr=W2:=⟨_,rfl⟩
   rw[hW2] at CW HT HEW hLO
   have HLO:=Lib.hid hLO
   clear hLO
   have HB2:Hid (Ext [mb] W2 wr):=Lib.hid (by rw[hW2];exact Ext.refl _ _)
   have HTW:Hid (TabAt QZ rv (fun _=>True) wr mb ([]:List ((Int×Int)×bK))):=Lib.hid (by rw[hW2];exact HT.out)
   clear hW2
   go_wp2_with fail
   go_loopw [45] (fun u wr=> ∃k:Nat,k<=ls.length/\u= .int .i64 k/\Ext [mb] W2 wr/\ ∃T,TabAt QZ rv (fun _=>True) wr mb T/\lY ns T (nG n ls k)) (fun u _=>ls.length-(intOf u).toNat)
   case atStart=>exact⟨0,Nat.zero_le _,rfl,HB2.out,[],HTW.out,lY.nil _⟩
   case round=>
    obtain⟨k,hk,rfl,hE,T,hT,Qy⟩:=hrel
    obtain⟨hwr,hlf⟩:=CW.out _ hE
    by_cases hlt:k<ls.length
    ·obtain⟨d1,g1,m1⟩:=cells_of_block hwr.cells
     obtain⟨b,off,y0,y1,y2,hvv,hb,hys,r0,r1,r2⟩:=xy hwr.truth H3.out hlt
     subst hvv
     have hks:=G5 (n:=n) hlt
     generalize ls[k]=d at*
     have HKS:=Lib.hid hks
     have wM:=Lib.hid hys
     have HX:=Lib.hid (And.intro hE (And.intro hT Qy))
     clear hks hys hE hT Qy hwr hlf
     go_upto_region 11 with(fail)
     refine dD fun W3 hW3=>?_
     have hB3:Below wr.heap.size wr W3:=by rw[hW3];exact zl
     have hk8:W3.heap[wr.heap.size]? =some (.cells #[iv y0,iv y1,iv y2] 134 (0,0)):=by rw[hW3];exact ag _ _
     have rE:Ext [mb] W2 W3:=HX.out.1.trans (Ext.of_below hB3)
     have hT3:=HX.out.2.1.below hB3 (Nat.le_refl _)
     obtain⟨aaK,aeu⟩:=CW.out _ rE
     obtain⟨b8,hb8⟩: ∃b8,wr.heap.size=b8:=⟨_,rfl⟩
     rw[hb8] at hk8
     rw[hb8]
     have aer:mb≠b8:=by have:=HX.out.2.1.lt;omega
     have UJ:=Lib.hid (And.intro rE (And.intro hT3 (And.intro HX.out.2.2 hk8)))
     clear hW3 d1 g1 m1 r0 r1 r2 hb hB3 rE hT3 hb8 HX
     obtain⟨d1,g1,m1⟩:=cells_of_block aaK.cells
     clear aaK aeu hk8
     go_wp2_with fail
     rw[HN.out]
     go_loopw [55] (fun u wr=> ∃i:Nat,i<=n/\u= .int .i64 i/\Ext [mb] W3 wr/\ ∃T,TabAt QZ rv (fun _=>True) wr mb T/\lY ns T (nG n ls k++keysOf d i)) (fun u _=>n-(intOf u).toNat)
     case atStart=>exact⟨0,Nat.zero_le _,rfl,Ext.refl _ _,T,UJ.out.2.1,by have:=UJ.out.2.2.1;simpa [keysOf] using this⟩
     case round=>
      obtain⟨i,hi,rfl,hE,T,hT,Qy⟩:=hrel
      by_cases aiv:i<n
      ·have hE2:=UJ.out.1.trans hE
       have hk8:=(hE.block _ (Array.getElem?_eq_some_iff.1 UJ.out.2.2.2).1 (by simpa using fun e=>aer e.symm)).trans UJ.out.2.2.2
       have Tz:wr.heap[b8]? =some (.cells (intCells d).toArray 134 (0,0)):=by rw[wM.out];exact hk8
       have hd3:d.length=3:=by rw[wM.out];rfl
       have hcell:=ed Tz (show i<d.length by omega)
       have hgd:d.getD i 0=d[i]'(by omega):=by simp[List.getD,hd3,show i<3 by omega]
       have hkk:=G6 d i
       rw[hgd] at hkk
       generalize hdi:d[i]'(by omega)=di at*
       have HDI:Hid (∀h,d[i]'h=di):=Lib.hid (fun _=>hdi)
       clear hdi
       have abJ:=(Array.getElem?_eq_some_iff.1 hk8).1
       have hi3:i<3:=by omega
       have HKK:=Lib.hid hkk
       have HX:=Lib.hid (And.intro hE (And.intro hT (And.intro Qy hk8)))
       clear hkk hE hT Qy hgd hd3 hk8 Tz hE2
       go_upto_region 15 with(fail)
       refine dD fun W6 Hu=>?_
       have FC:Below wr.heap.size wr W6:=by rw[Hu];exact zl
       have hk10:W6.heap[wr.heap.size]? =some (.cells #[iv (i:Int),iv di] 180 (0,0)):=by rw[Hu];exact ag _ _
       have yA:Ext [mb] W3 W6:=HX.out.1.trans (Ext.of_below FC)
       have V7:=HX.out.2.1.below FC (Nat.le_refl _)
       have abm:=(FC.block _ abJ).trans HX.out.2.2.2
       obtain⟨hw6,abf⟩:=CW.out _ (UJ.out.1.trans yA)
       have hlook:=fun cm W hW=>pq Eu (mt:=130) (e:=30) (by kernel_rfl) (z:=rv (0,0)) (fun W=>by simp[go_sem]) V7 ((i:Int),di) trivial cm W hW
       obtain⟨b10,TM⟩: ∃b10,wr.heap.size=b10:=⟨_,rfl⟩
       rw[TM] at hk10
       rw[TM]
       have aiX:b8<b10:=by omega
       have agA:mb<b10:=by have:=HX.out.2.1.lt;omega
       have Z8:=Lib.hid V7
       have HX6:=Lib.hid (And.intro yA (And.intro abm (And.intro hk10 (And.intro hw6 abf))))
       obtain⟨e1,e2,e3⟩:=cells_of_block hw6.cells
       obtain⟨e4,e5,e6⟩:=cells_of_block hk10
       obtain⟨lk,hlk⟩: ∃lk,TB.look ((i:Int),di) T=lk:=⟨_,rfl⟩
       rw[hlk] at hlook
       have afU:=Lib.hid hlk
       clear Hu hcell FC yA V7 abm hw6 abf hk10 TM d1 g1 m1 hlk
       cases lk with
       |some r=>
        have Fz:=Lib.hid (hlook true)
        simp only[Option.map_some,Option.getD_some,Option.isSome_some,if_true] at Fz
        clear hlook
        refine tZ 11 [] (some 10) [(9,⟨fun _ v=> ∃b:Nat,v= .pointer (some ⟨b,0,none⟩),fun _ _ _=>True⟩),(10,⟨fun _ v=>v=undef,fun _ _ _=>True⟩)] (fun i _ v W=>match i with|9=> ∃b:Nat,v= .pointer (some ⟨b,0,none⟩)/\W6.heap.size<=b/\W.heap[b]? =some (.cells #[iv 0,iv 0] 30 (0,0))|_=>True) (by kernel_rfl) (by kernel_rfl) ?_
        simp only[zt]
        repeat ((first|refine zn ?_|refine zk ?_);simp only[zp])
        refine eG (by rfl) (.tuple #[.agg #[iv r.1,iv r.2],.bool true]) (by rfl) (fun W hE _=>by have:=Fz.out W (hE.block mb (Z8.out.lt) (by simp));go_simp;try rfl) ?_
        simp only[zp]
        repeat ((first|refine zn ?_|refine zk ?_);simp only[zp])
        refine mX _ (by rfl) (by rfl) (by exact⟨_,0,rfl⟩) (fun Wa hE hF hG=>?_) (fun _ _ _ _ _=>trivial) (fun v Wa Wb ho hE=>?_) (fun v hv=>?_)
        ·exact iK (W':=Wa.alloc (.cells #[iv 0,iv 0] 30)) (.pointer (some ⟨Wa.heap.size,0,none⟩)) (by go_simp;try rfl) ⟨⟨_,rfl⟩,trivial,Ext.of_below ((Below.refl _ _).alloc (Nat.le_refl _) _),_,rfl,(show sD W6.heap.size [] W6 Wa from hE).size,heap_alloc_new _ _⟩
        ·obtain⟨b,hb,hge,hc⟩:=ho
         exact⟨b,hb,hge,(hE.block b (Array.getElem?_eq_some_iff.1 hc).1 (by simp)).trans hc⟩
        obtain⟨b11,rfl⟩:=hv
        simp only[zp]
        refine mX _ (by rfl) (by rfl) (by exact⟨_,rfl⟩) (fun Wa hE hF hG=>?_) (fun _ _ _ _ _=>trivial) (fun _ _ _ _ _=>trivial) (fun v hv=>?_)
        ·obtain⟨b,hb,hge,hc⟩:=hG rfl _ (List.Mem.head _) (by kernel_rfl)
         cases hb
         obtain⟨x1,x2,x3⟩:=cells_of_block hc
         exact pF (W':=(Wa.setCell ⟨b11,0,none⟩ (iv r.1)).setCell ⟨b11,1,none⟩ (iv r.2)) (by go_simp;try rfl) ⟨rfl,trivial,⟨rfl,rfl,rfl,by simp[World.setCell],fun k' hk' hkB _=>(Below.heap_setCell _ _ _ _ (by show k'≠b11;omega)).trans (Below.heap_setCell _ _ _ _ (by show k'≠b11;omega))⟩,trivial⟩
        obtain rfl:v=undef:=hv
        simp only[Act.put]
        intro Qa Hy _
        have xw:Below W6.heap.size W6 Qa:=Aj Hy (Nat.le_refl _)
        have CX:Ext [mb] W3 Qa:=HX6.out.1.trans (Ext.of_below xw)
        have TP:=Z8.out.below xw (Nat.le_refl _)
        have U9:=Lib.hid (And.intro CX (And.intro TP (HKK.out▸(List.append_assoc _ _ _▸HX.out.2.2.1.old _ afU.out:lY ns T (nG n ls k++(keysOf d i++[((i:Int),di)]))))))
        clear Hy xw CX TP e1 e2 e3 e4 e5 e6
        go_wp2_with fail
        go_roundw
        case rel=>exact⟨i+1,by omega,by go_num,U9.out.1,T,U9.out.2.1,U9.out.2.2⟩
        case measure=>simp[intOf];omega
       |none=>
        have Fz:=Lib.hid (hlook true)
        simp only[Option.map_none,Option.getD_none,Option.isSome_none,if_true] at Fz
        clear hlook
        refine tZ 11 [] (some 10) [(9,⟨fun _ v=> ∃b:Nat,v= .pointer (some ⟨b,0,none⟩),fun _ _ _=>True⟩),(10,⟨fun _ v=>v=undef,fun _ _ _=>True⟩)] (fun i _ v W=>match i with|9=> ∃b:Nat,v= .pointer (some ⟨b,0,none⟩)/\W6.heap.size<=b/\W.heap[b]? =some (.cells #[iv 0,iv 0] 30 (0,0))|_=>True) (by kernel_rfl) (by kernel_rfl) ?_
        simp only[zt]
        repeat ((first|refine zn ?_|refine zk ?_);simp only[zp])
        refine eG (by rfl) (.tuple #[.agg #[iv 0,iv 0],.bool false]) (by rfl) (fun W hE _=>by have:=Fz.out W (hE.block mb (Z8.out.lt) (by simp));go_simp;try rfl) ?_
        simp only[zp]
        repeat ((first|refine zn ?_|refine zk ?_);simp only[zp])
        refine mX _ (by rfl) (by rfl) (by exact⟨_,0,rfl⟩) (fun Wa hE hF hG=>?_) (fun _ _ _ _ _=>trivial) (fun v Wa Wb ho hE=>?_) (fun v hv=>?_)
        ·exact iK (W':=Wa.alloc (.cells #[iv 0,iv 0] 30)) (.pointer (some ⟨Wa.heap.size,0,none⟩)) (by go_simp;try rfl) ⟨⟨_,rfl⟩,trivial,Ext.of_below ((Below.refl _ _).alloc (Nat.le_refl _) _),_,rfl,(show sD W6.heap.size [] W6 Wa from hE).size,heap_alloc_new _ _⟩
        ·obtain⟨b,hb,hge,hc⟩:=ho
         exact⟨b,hb,hge,(hE.block b (Array.getElem?_eq_some_iff.1 hc).1 (by simp)).trans hc⟩
        obtain⟨b11,rfl⟩:=hv
        simp only[zp]
        refine mX _ (by rfl) (by rfl) (by exact⟨_,rfl⟩) (fun Wa hE hF hG=>?_) (fun _ _ _ _ _=>trivial) (fun _ _ _ _ _=>trivial) (fun v hv=>?_)
        ·obtain⟨b,hb,hge,hc⟩:=hG rfl _ (List.Mem.head _) (by kernel_rfl)
         cases hb
         obtain⟨x1,x2,x3⟩:=cells_of_block hc
         exact pF (W':=(Wa.setCell ⟨b11,0,none⟩ (iv 0)).setCell ⟨b11,1,none⟩ (iv 0)) (by go_simp;try rfl) ⟨rfl,trivial,⟨rfl,rfl,rfl,by simp[World.setCell],fun k' hk' hkB _=>(Below.heap_setCell _ _ _ _ (by show k'≠b11;omega)).trans (Below.heap_setCell _ _ _ _ (by show k'≠b11;omega))⟩,trivial⟩
        obtain rfl:v=undef:=hv
        simp only[Act.put]
        intro Qa Hy _
        have xw:Below W6.heap.size W6 Qa:=Aj Hy (Nat.le_refl _)
        have CX:Ext [mb] W3 Qa:=HX6.out.1.trans (Ext.of_below xw)
        have TP:=Z8.out.below xw (Nat.le_refl _)
        have Nb:=(xw.block _ (Array.getElem?_eq_some_iff.1 HX6.out.2.1).1).trans HX6.out.2.1
        have TD:=(xw.block _ e6).trans HX6.out.2.2.1
        have hcell:=ed (show Qa.heap[b8]? =some (.cells (intCells d).toArray 134 (0,0)) by rw[wM.out];exact Nb) (show i<d.length by rw[wM.out];simpa using hi3)
        rw[HDI.out] at hcell
        obtain⟨aaM,abg⟩:=CW.out _ (UJ.out.1.trans CX)
        obtain⟨e1,e2,e3⟩:=cells_of_block aaM.cells
        have aeS:=(Array.getElem?_eq_some_iff.1 Nb).1
        have aej:=xw.size
        have U9:=Lib.hid (And.intro CX (And.intro TP (And.intro Nb TD)))
        clear Hy xw CX TP Nb TD aaM abg e4 e5
        go_upto_region 18 with(fail)
        refine dD fun Z5 Y0=>?_
        have Wh:Below Qa.heap.size Qa Z5:=by rw[Y0];exact zl
        have OW:Z5.heap[Qa.heap.size]? =some (.cells #[iv 0,iv di] 30 (0,0)):=by rw[Y0];exact ag _ _
        obtain⟨b13,YY⟩: ∃b13,Qa.heap.size=b13:=⟨_,rfl⟩
        rw[YY] at OW
        rw[YY]
        have We:Ext [mb] W3 Z5:=U9.out.1.trans (Ext.of_below Wh)
        have abU:=U9.out.2.1.below Wh (Nat.le_refl _)
        have TC:=(Wh.block _ (Array.getElem?_eq_some_iff.1 U9.out.2.2.2).1).trans U9.out.2.2.2
        obtain⟨aaL,Xt⟩:=CW.out _ (UJ.out.1.trans We)
        have q10:b10<b13:=by omega
        have qmb:mb<b13:=by omega
        have qW3:W3.heap.size<=b13:=by have:=U9.out.1.size;omega
        have qW2:W2.heap.size<=b13:=by have:=UJ.out.1.size;have:=U9.out.1.size;omega
        have qwb:wb<b13:=by have:=hwl;have:=UJ.out.1.size;have:=We.size;omega
        have hk0:qE ns ((i:Int),di) 0=(0,di):=rfl
        have XT:=Lib.hid (And.intro We (And.intro abU (And.intro TC (And.intro aaL Xt))))
        have TA:Z5.heap[b13]? =some (.cells #[iv (qE ns ((i:Int),di) 0).1,iv (qE ns ((i:Int),di) 0).2] 30 (0,0)):=OW
        clear Y0 Wh We abU TC aaL Xt OW hcell e1 e2 e3 aej aeS e6 YY hk0
        go_wp2_with fail
        go_loopw [79] (fun u wr=> ∃j:Nat,j<=ns.length/\u= .int .i64 j/\wr.heap[b13]? =some (.cells #[iv (qE ns ((i:Int),di) j).1,iv (qE ns ((i:Int),di) j).2] 30 (0,0))/\Ext [b13] Z5 wr) (fun u _=>ns.length-(intOf u).toNat)
        case atStart=>exact⟨0,Nat.zero_le _,rfl,TA,Ext.refl _ _⟩
        case round=>
         obtain⟨j,hj,rfl,hkr,hEr⟩:=hrel
         obtain⟨x1,x2,x3⟩:=cells_of_block hkr
         by_cases aba:j<ns.length
         ·have abe:=XT.out.2.2.2.2.ext hEr (fun z hz e=>by have:=HLO.out z e;have hz':z=b13:=(by simpa using hz);omega)
          obtain⟨lb,adU,rfl,hlb,hn0,hn1,hn2⟩:=aT.cell abe aba
          have hsu:=CS (ns:=ns) (key:=((i:Int),di)) aba
          generalize ns[j]=x at*
          generalize hr:qE ns ((i:Int),di) j=r at*
          have qA:=Lib.hid hsu
          have HKR:=Lib.hid (And.intro hkr hEr)
          clear hsu hkr hEr abe hr TA
          by_cases hxi:x.1=(i:Int)
          ·have hxb:(x.1==(i:Int))=true:=by simpa using hxi
           have HXI:=Lib.hid hxi
           clear hxi
           go_upto_region 22 with(fail)
           go_wp2_with fail
           refine(both_any r x.2 _).mono ?_
           rintro e W9 ⟨rfl,uk⟩
           obtain⟨hc,hf⟩:=aW uk
           have hs9:=uk.size
           simp only[World.size_alloc] at hs9
           have oM:=Lib.hid (aH (af (Below.refl wr.heap.size wr) (.cells #[iv x.1,iv x.2.1,iv x.2.2] 151)) uk)
           clear uk
           go_wp2_with fail
           go_roundw
           case rel=>
            refine⟨j+1,by omega,by go_num,?_,?_⟩
            ·rw[qA.out,if_pos HXI.out]
             exact ak (ak ((oM.out.block _ x3).trans HKR.out.1) _) _
            ·exact((HKR.out.2.trans (Ext.of_below oM.out)).trans (og _ ⟨b13,0,none⟩ _)).trans (og _ ⟨b13,1,none⟩ _)
           case measure=>simp[intOf];omega
          ·have hxb:(x.1==(i:Int))=false:=by simpa using hxi
           have HXI:=Lib.hid hxi
           clear hxi
           go_wp2_with fail
           go_roundw
           case rel=>
            refine⟨j+1,by omega,by go_num,?_,HKR.out.2.trans (Ext.of_below (af (Below.refl _ _) _))⟩
            rw[qA.out,if_neg HXI.out]
            exact(Below.heap_alloc _ _ _ x3).trans HKR.out.1
           case measure=>simp[intOf];omega
         ·have hjl:j=ns.length:=by omega
          subst hjl
          have hkne:b13∉[mb]:=by simp;omega
          have hTr:TabAt QZ rv (fun _=>True) wr mb T:=XT.out.2.1.ext hEr (by simp;omega)
          have Xv:=(hEr.block _ (Array.getElem?_eq_some_iff.1 XT.out.2.2.1).1 (by simp;omega)).trans XT.out.2.2.1
          have hwr:=(hEr.block _ XT.out.2.2.2.1.lt (by simp;omega)).trans XT.out.2.2.2.1.cells
          obtain⟨e1,e2,e3⟩:=cells_of_block hwr
          obtain⟨e4,e5,e6⟩:=cells_of_block Xv
          have hkn:qE ns ((i:Int),di) ns.length=kn ns ((i:Int),di):=rfl
          rw[hkn] at x1 hkr
          generalize hr:kn ns ((i:Int),di)=r at*
          have HRR:=Lib.hid hr
          have HTR:=Lib.hid hTr
          have HER:=Lib.hid hEr
          clear hkr hEr hTr Xv hwr hkn hr TA
          go_upto_region 24 with(fail)
          refine zg 6 [] none [] ?_
          simp only[zt]
          repeat ((first|refine zn ?_|refine zk ?_);simp only[zp])
          intro W hE hF
          obtain⟨hc,hf⟩:=aW hE.below
          have hzE:=hE.size
          (try simp only[World.size_alloc] at hzE)
          obtain⟨W25,hrun,abT,ab2⟩:=dK Eu (mt:=130) (e:=30) (by kernel_rfl) (HTR.out.below hE.below (Nat.le_refl _)) ((i:Int),di) trivial r
          have Y4:=HX.out.2.2.1.new ((i:Int),di)
          rw[HRR.out,List.append_assoc, <-HKK.out] at Y4
          have XC:Ext [mb] W3 W25:=by
           have h1:Ext [mb] W3 wr:=Ib XT.out.1 ⟨HER.out.os,HER.out.tape,HER.out.output,HER.out.size,fun k' hk'=>HER.out.block k' (by have:=XT.out.1.size;omega) (by simp;omega)⟩
           exact(h1.trans (hE.more (by simp))).trans ab2
          have H25:=Lib.hid (And.intro XC (And.intro abT Y4))
          clear abT ab2 Y4 XC hE hF hc hf e1 e2 e3 e4 e5 e6 x1 x2 x3
          go_wp2_with fail
          go_roundw
          case rel=>exact⟨i+1,by omega,by go_num,H25.out.1,_,H25.out.2.1,H25.out.2.2⟩
          case measure=>simp[intOf];omega
      ·have hin:i=n:=by omega
       subst hin
       have H9:=Lib.hid (And.intro (UJ.out.1.trans hE) (And.intro hT (HKS.out▸Qy:lY ns T (nG i ls (k+1)))))
       clear hE hT Qy
       go_wp2_with fail
       go_roundw
       case rel=>exact⟨k+1,by omega,by go_num,H9.out.1,T,H9.out.2.1,H9.out.2.2⟩
       case measure=>simp[intOf];omega
    ·have hkl:k=ls.length:=by omega
     subst hkl
     have H9:=Lib.hid (And.intro (HEW.out.trans hE) (And.intro hT Qy))
     clear hE hT Qy hwr hlf
     go_wp2_with fail
     go_end0
     exact⟨⟨_,rfl⟩,H9.out.1,T,H9.out.2.1,HNS.out▸H9.out.2.2⟩
end Go.Proofs.YtabpkkbiioihaaaGreatDoor
namespace Go.Proofs.YtabpkkbiioihaaaGreatDoor
open Go.RowKit Go.RG Go.SL Go.Shelf gZ Go.TB
theorem yT:fD Tryz.prog 51 30 (rv (0,0)) 2 16:=⟨Tryz.underlying51,by kernel_rfl,rfl,by omega⟩
def Jc (l:ax) (out d:List Int) (w:World) (e:Ending) (w':World):Prop:=
 Below w.heap.size w w'/\((eu l out d=true/\ ∃v,e= .returned (.tuple #[v,.bool true])/\w'.ownsRow w.heap.size 30 2 v (gK l out d).length (aj (gK l out d)))∨(eu l out d=false/\e= .returned (.tuple #[.slice none 0 0,.bool false])))
theorem Rt (l:ax) (hS:lK l.field) (hbx:0<=l.box.1/\l.box.1<=2000/\0<=l.box.2/\l.box.2<=2000) (tv nv v:Value) (out d:List Int) (hd3:d.length=3) (rs:List bK) (hrs:rs=alone l out d)
 (hrb: ∀r∈rs,0<=r.1/\r.1<=2000/\0<=r.2/\r.2<=2000) (wb mb:Nat) (T:List ((Int×Int)×bK)) (w:World) (hw:w.heap[wb]? =some (.cells (nX l tv nv v mb) 132 (0,0))) (hT:TabAt QZ rv (fun _=>True) w mb T)
 (hlook: ∀i:Nat,i<l.field.ai.toNat->TB.look ((i:Int),d.getD i 0) T=some (rs.getD i (0,0))):
 Calls Tryz.prog 57 #[.pointer (some ⟨wb,0,none⟩),jk d] w (Jc l out d w):=by
 have hrl:rs.length=l.field.ai.toNat:=by rw[hrs,jZ]
 have hw0:=hS.uf
 have hw3:=hS.qM
 obtain⟨n,hn⟩: ∃n:Nat,l.field.ai=n:=⟨l.field.ai.toNat,by omega⟩
 have hnt:l.field.ai.toNat=n:=by omega
 rw[hnt] at hlook hrl
 have hn3:n<=3:=by omega
 obtain⟨y0,y1,y2,hys⟩:=jJ hd3
 have hlow:=qO (·.1) rs (fun r hr=>by have:=hrb r hr;omega)
 have hhigh:=qO (·.2) rs (fun r hr=>by have:=hrb r hr;omega)
 obtain⟨c1,f1,l1⟩:=cells_of_block hw
 have hag:jk d= .agg #[iv y0,iv y1,iv y2]:=by rw[hys];rfl
 rw[hag]
 have HN:=Lib.hid hn
 have yL:=Lib.hid (And.intro hrs hrl)
 have Fz:=Lib.hid hlook
 have Jp:=Lib.hid (And.intro hrb (And.intro hlow hhigh))
 have HW:=Lib.hid (And.intro hw hT)
 have wM:=Lib.hid (And.intro hys hd3)
 clear hrs hrl hlook hrb hlow hhigh hw hT hn hnt hw0 hw3 hag hys hd3
 go_enter Tryz.func57,Tryz.ntmps57
 go_wp2_with fail
 obtain⟨W1,hW1⟩: ∃W1,w.alloc (.cells #[iv y0,iv y1,iv y2] 134)=W1:=⟨_,rfl⟩
 have hB1:Below w.heap.size w W1:=by rw[<-hW1];exact af (Below.refl _ _) _
 have hk0:W1.heap[w.heap.size]? =some (.cells #[iv y0,iv y1,iv y2] 134 (0,0)):=by rw[<-hW1];exact ag _ _
 have hw1:=(hB1.block _ l1).trans HW.out.1
 have hT1:=HW.out.2.below hB1 (Nat.le_refl _)
 have hs1:W1.heap.size=w.heap.size+1:=by rw[<-hW1];simp
 have XN:=Lib.hid (And.intro hB1 (And.intro hk0 (And.intro hw1 hT1)))
 rw[hW1]
 have hws:w.heap.size<W1.heap.size:=by omega
 have Yt:wb<W1.heap.size:=by omega
 clear hW1 hB1 hk0 hw1 hT1 hs1 c1 f1
 rw[HN.out]
 go_loopw [4,6,7,18] (fun v4 v6 v7 u wr=> ∃i:Nat,i<=n/\u= .int .i64 i/\v6= .int .i64 (sumTo (·.1) rs i)/\v7= .int .i64 (sumTo (·.2) rs i)/\(∃oo oc,v4= .slice oo i oc/\wr.ownsRow W1.heap.size 30 2 (.slice oo i oc) i (aj (rs.take i)))/\Below W1.heap.size W1 wr/\
  (∀j (hj:j<rs.length),j<i->rs[j].1<=rs[j].2)) (fun _ _ _ u _=>n-(intOf u).toNat)
 case atStart=>exact⟨0,Nat.zero_le _,rfl,rfl,rfl,⟨none,0,rfl,⟨rfl,.inl ⟨rfl,rfl⟩⟩⟩,Below.refl _ _,fun j hj h=>by omega⟩
 case round=>
  obtain⟨i,hi,rfl,rfl,rfl,⟨oo,oc,rfl,how⟩,hB,hok⟩:=hrel
  have hwr:=(hB.block _ Yt).trans XN.out.2.2.1
  have hkr:=(hB.block _ hws).trans XN.out.2.1
  have hTr:=XN.out.2.2.2.below hB (Nat.le_refl _)
  obtain⟨d1,g1,m1⟩:=cells_of_block hwr
  by_cases hlt:i<n
  ·have hir:i<rs.length:=by rw[yL.out.2];exact hlt
   have hcell:=ed (show wr.heap[w.heap.size]? =some (.cells (intCells d).toArray 134 (0,0)) by rw[wM.out.1];exact hkr) (show i<d.length by rw[wM.out.2];omega)
   have hgd:d.getD i 0=d[i]'(by rw[wM.out.2];omega):=by simp[List.getD,wM.out.2,show i<3 by omega]
   have hlk:=Fz.out i hlt
   rw[hgd,show rs.getD i (0,0)=rs[i] from by simp[List.getD,hir]] at hlk
   generalize d[i]'(by rw[wM.out.2];omega)=di at*
   have hlook:=fun W hW=>pq Eu (mt:=130) (e:=30) (by kernel_rfl) (z:=rv (0,0)) (fun W=>by simp[go_sem]) hTr ((i:Int),di) trivial false W hW
   rw[hlk] at hlook
   simp only[Option.map_some,Option.getD_some,Option.isSome_some,Bool.false_eq_true,if_false] at hlook
   have hbd:=Jp.out.1 rs[i] (List.getElem_mem hir)
   have hlo:=Jp.out.2.1 i (by omega)
   have hhi:=Jp.out.2.2 i (by omega)
   have hls:=mY (·.1) hir
   have hhs:=mY (·.2) hir
   have htk:rs.take (i+1)=rs.take i++[rs[i]]:=List.take_succ_eq_append_getElem hir
   generalize AP:rs[i]=r at*
   have abJ:=m1
   have hi3:i<3:=by omega
   have abu:(i:Int)<3:=by omega
   have hwl:w.heap.size<wr.heap.size:=by have:=hB.size;omega
   have HL:=Lib.hid hlook
   have HS:=Lib.hid (And.intro hls (And.intro hhs htk))
   have HX:=Lib.hid (And.intro how (And.intro hB (And.intro hwr (And.intro hTr hok))))
   have ZB:=Lib.hid AP
   clear hgd hlk hlook hls hhs htk how hB hwr hkr hTr hok AP
   generalize sumTo (·.1) rs i=Qx at*
   generalize sumTo (·.2) rs i=Q5 at*
   go_upto_region 5 with(fail)
   refine zg 11 [] none [(10,Spec.block wr.heap.size #[iv 0,iv 0] 30)] ?_
   simp only[zt]
   repeat ((first|refine zn ?_|refine zk ?_);simp only[zp])
   refine eG (by rfl) (rv r) (by rfl) (fun W hE _=>by have:=HL.out W (hE.block mb (HX.out.2.2.2.1.lt) (by simp));go_simp;try rfl) ?_
   simp only[zp]
   refine gW wr.heap.size _ _ (by rfl) (Nat.le_refl _) (by rfl) (by simp) (by simp) (fun W hW=>by go_simp;try rfl) (fun b9=>?_)
   simp only[zp]
   intro W5 TS hF5
   have Y8:Ext [] wr W5:=TS
   obtain⟨c9,uk,abx,hk9⟩:=hF5 _ (List.Mem.head _)
   cases uk
   obtain⟨p1,p2,p3⟩:=cells_of_block hk9
   have HE5:=Lib.hid Y8
   have hs5:=Y8.size
   clear TS hF5 Y8 hcell
   go_upto_region 6 with(fail)
   refine dD fun W6 Hu=>?_
   have FC:Below wr.heap.size wr W6:=by rw[Hu];exact gm (gm (show Below wr.heap.size wr W5 from HE5.out.below) abx _) abx _
   have YL:W6.heap[b9]? =some (.cells #[iv r.1,iv r.2] 30 (0,0)):=by rw[Hu];exact ak (ak hk9 _) _
   have Tn:W6.ownsRow W1.heap.size 30 2 (.slice oo i oc) i (aj (rs.take i)):=cZ HX.out.1 fun g hg=>FC.block g (aZ HX.out.1 g hg).2
   have H6:=Lib.hid (And.intro Tn (And.intro (aH HX.out.2.1 FC) (And.intro FC YL)))
   clear Hu FC hk9 p1 p2 p3 d1 g1 Tn
   obtain⟨p1,p2,p3⟩:=cells_of_block YL
   clear YL
   by_cases hgt:r.2<r.1
   ·have hcp:eu l out d=false:=by
     unfold eu
     rw[<-yL.out.1]
     have:rs.all (fun r=>decide (r.1<=r.2))=false:=by
      rw[List.all_eq_false]
      exact⟨r,by rw[<-ZB.out];exact List.getElem_mem _,by simp;omega⟩
     rw[this];rfl
    have HCP:=Lib.hid hcp
    clear hcp
    go_wp2_with fail
    go_returns
    exact⟨aH XN.out.1 H6.out.2.1,.inr ⟨HCP.out,by simp⟩⟩
   ·have ain: ¬(r.1>r.2):=hgt
    go_upto_region 8 with(fail)
    cases oo with
    |none=>
     have hgl:True:=trivial
     refine zg 14 [] (some 3) [(2,Spec.slice W6.heap.size #[iv r.1,iv r.2] 30 1),(3,⟨fun _ v=> ∃o c,v= .slice o (i+1) c,fun _ v Wx=>Wx.ownsRow W1.heap.size 30 2 v (i+1) (aj (rs.take (i+1)))⟩)] ?_
     simp only[zt]
     repeat ((first|refine zn ?_|refine zk ?_);simp only[zp])
     refine bZ W6.heap.size _ _ 1 (by rfl) (Nat.le_refl _) (by rfl) (by first|(simp;done)|simpa using hgl) (by simp) (fun W hW=>by go_simp;try rfl) (fun b2=>?_)
     simp only[zp]
     refine aP _ (by rfl) (by rfl) (by exact⟨.slice none (i+1) 0,none,0,rfl⟩) (fun Wa hE hF=>?_) (fun v Wa Wb ho hE=>?_) (fun v hv=>?_)
     ·have hE':Ext [] W6 Wa:=hE
      obtain⟨b',hb',hge,hcc⟩:=hF _ (List.Mem.head _) (by kernel_rfl)
      cases hb'
      have hown6:=ah (Ms:=[]) H6.out.1 hE' (by simp)
      have hsrc:aB 2 Wa (.slice (some ⟨b2,0,none⟩) 1 1) 1 (aj [r]):=aB.of_block 2 1 hcc rfl (by decide)
      refine Does.mono (bP yT (by rfl) (by rfl) hown6 (by rfl) hsrc (kT _) (by omega) (by omega) (by have:=hE'.size;have:=H6.out.2.1.size;omega)) ?_
      rintro v' Wc ⟨ho,hgr,hcase⟩
      refine⟨aK ho,?_,⟨hgr.os,hgr.tape,hgr.output,hgr.size,fun b hb hn=>hgr.block b hb (fun e=>by first|(simp[Value.ownBlock] at e;done)|(simp[Value.ownBlock] at e;exact hn (by simp[e])))⟩⟩
      show Wc.ownsRow _ _ _ v' (i+1) _
      rw[HS.out.2.2,kG]
      exact ho
     ·exact ah (Ms:=[]) ho hE (by simp)
     obtain⟨o3,c3,rfl⟩:=hv
     simp only[zp]
     repeat ((first|refine zn ?_|refine zk ?_);simp only[zp])
     intro W8 hE hF
     have hE':Ext [] W6 W8:=hE
     have lH:W8.ownsRow W1.heap.size 30 2 (.slice o3 (i+1) c3) (i+1) (aj (rs.take (i+1))):=hF _ (List.Mem.head _)
     have uX:Below W1.heap.size W1 W8:=⟨hE'.os.trans H6.out.2.1.os,hE'.tape.trans H6.out.2.1.tape,hE'.output.trans H6.out.2.1.output,Nat.le_trans H6.out.2.1.size hE'.size,fun b hb=>(hE'.block b (by have:=H6.out.2.1.size;omega) (by simp <;>omega)).trans (H6.out.2.1.block b hb)⟩
     have H8:=Lib.hid (And.intro lH uX)
     clear hE hF hE' lH uX p1 p2 p3
     go_wp2_with fail
     go_roundw
     case rel=>
      refine⟨i+1,by omega,by go_num,by rw[HS.out.1],by rw[HS.out.2.1],⟨o3,c3,rfl,H8.out.1⟩,H8.out.2,fun j hj hji=>?_⟩
      by_cases hje:j=i
      ·subst hje;rw[ZB.out];omega
      ·exact HX.out.2.2.2.2 j hj (by omega)
     case measure=>simp[intOf];omega
    |some a=>
     obtain⟨gb,rfl,hgb⟩: ∃gb:Nat,a=⟨gb,0,none⟩/\W1.heap.size<=gb:=by
      obtain⟨_,⟨hv,_⟩|⟨g,c,cs,hv,hbg,hrest⟩⟩:=H6.out.1
      ·cases hv
      ·simp at hv;exact⟨g,hv.1,hbg⟩
     have hgl:gb<W6.heap.size:=(aZ H6.out.1 gb rfl).2
     have hgw:gb<wr.heap.size:=(aZ HX.out.1 gb rfl).2
     have KQ:b9≠gb:=by omega
     refine zg 14 [gb] (some 3) [(2,Spec.slice W6.heap.size #[iv r.1,iv r.2] 30 1),(3,⟨fun _ v=> ∃o c,v= .slice o (i+1) c,fun _ v Wx=>Wx.ownsRow W1.heap.size 30 2 v (i+1) (aj (rs.take (i+1)))⟩)] ?_
     simp only[zt]
     repeat ((first|refine zn ?_|refine zk ?_);simp only[zp])
     refine bZ W6.heap.size _ _ 1 (by rfl) (Nat.le_refl _) (by rfl) (by first|(simp;done)|simpa using hgl) (by simp) (fun W hW=>by go_simp;try rfl) (fun b2=>?_)
     simp only[zp]
     refine aP _ (by rfl) (by rfl) (by exact⟨.slice none (i+1) 0,none,0,rfl⟩) (fun Wa hE hF=>?_) (fun v Wa Wb ho hE=>?_) (fun v hv=>?_)
     ·have hE':Ext [] W6 Wa:=hE
      obtain⟨b',hb',hge,hcc⟩:=hF _ (List.Mem.head _) (by kernel_rfl)
      cases hb'
      have hown6:=ah (Ms:=[]) H6.out.1 hE' (by simp)
      have hsrc:aB 2 Wa (.slice (some ⟨b2,0,none⟩) 1 1) 1 (aj [r]):=aB.of_block 2 1 hcc rfl (by decide)
      refine Does.mono (bP yT (by rfl) (by rfl) hown6 (by rfl) hsrc (kT _) (by omega) (by omega) (by have:=hE'.size;have:=H6.out.2.1.size;omega)) ?_
      rintro v' Wc ⟨ho,hgr,hcase⟩
      refine⟨aK ho,?_,⟨hgr.os,hgr.tape,hgr.output,hgr.size,fun b hb hn=>hgr.block b hb (fun e=>by first|(simp[Value.ownBlock] at e;done)|(simp[Value.ownBlock] at e;exact hn (by simp[e])))⟩⟩
      show Wc.ownsRow _ _ _ v' (i+1) _
      rw[HS.out.2.2,kG]
      exact ho
     ·exact ah (Ms:=[]) ho hE (by simp)
     obtain⟨o3,c3,rfl⟩:=hv
     simp only[zp]
     repeat ((first|refine zn ?_|refine zk ?_);simp only[zp])
     intro W8 hE hF
     have hE':Ext [gb] W6 W8:=hE
     have lH:W8.ownsRow W1.heap.size 30 2 (.slice o3 (i+1) c3) (i+1) (aj (rs.take (i+1))):=hF _ (List.Mem.head _)
     have uX:Below W1.heap.size W1 W8:=⟨hE'.os.trans H6.out.2.1.os,hE'.tape.trans H6.out.2.1.tape,hE'.output.trans H6.out.2.1.output,Nat.le_trans H6.out.2.1.size hE'.size,fun b hb=>(hE'.block b (by have:=H6.out.2.1.size;omega) (by simp <;>omega)).trans (H6.out.2.1.block b hb)⟩
     have H8:=Lib.hid (And.intro lH uX)
     clear hE hF hE' lH uX p1 p2 p3
     go_wp2_with fail
     go_roundw
     case rel=>
      refine⟨i+1,by omega,by go_num,by rw[HS.out.1],by rw[HS.out.2.1],⟨o3,c3,rfl,H8.out.1⟩,H8.out.2,fun j hj hji=>?_⟩
      by_cases hje:j=i
      ·subst hje;rw[ZB.out];omega
      ·exact HX.out.2.2.2.2 j hj (by omega)
     case measure=>simp[intOf];omega
  ·have hin:i=n:=by omega
   subst hin
   have htk:rs.take i=rs:=List.take_of_length_le (by rw[yL.out.2];exact Nat.le_refl _)
   rw[htk] at how
   have hl:sumTo (·.1) rs i=uB l out d:=by unfold uB;rw[<-yL.out.1, <-sJ,yL.out.2]
   have hh:sumTo (·.2) rs i=nJ l out d:=by unfold nJ;rw[<-yL.out.1, <-sJ,yL.out.2]
   have hall:(alone l out d).all (fun r=>decide (r.1<=r.2))=true:=by
    rw[<-yL.out.1,List.all_eq_true]
    intro r hr
    obtain⟨j,hj,rfl⟩:=List.getElem_of_mem hr
    simpa using hok j hj (by rw[<-yL.out.2];exact hj)
   have hcp:eu l out d=(decide (uB l out d<=l.box.2)&&decide (l.box.1<=nJ l out d)):=by unfold eu;rw[hall,Bool.true_and]
   have hlo:=Jp.out.2.1 i (by rw[yL.out.2];exact Nat.le_refl _)
   have hhi:=Jp.out.2.2 i (by rw[yL.out.2];exact Nat.le_refl _)
   have hpl:gK l out d=rs.map fun r=>bothR r (l.box.1-(nJ l out d-r.2),l.box.2-(uB l out d-r.1)):=by unfold gK;rw[yL.out.1]
   rw[hl,hh] at*
   generalize uB l out d=Qx at*
   generalize nJ l out d=Q5 at*
   have HCP:=Lib.hid hcp
   have U4:=Lib.hid hpl
   have HO:=Lib.hid (And.intro how hB)
   have HWR:=Lib.hid hwr
   clear hl hh hall hcp hpl how hB hok hwr hkr hTr htk
   by_cases h1:Qx>l.box.2
   ·have hF:eu l out d=false:=by rw[HCP.out,decide_eq_false (by omega)];rfl
    have HF:=Lib.hid hF
    clear hF
    go_wp2_with fail
    go_returns
    exact⟨aH XN.out.1 HO.out.2,.inr ⟨HF.out,by simp⟩⟩
   by_cases h2:Q5<l.box.1
   ·have hF:eu l out d=false:=by rw[HCP.out,decide_eq_true (show Qx<=l.box.2 by omega),decide_eq_false (by omega)];rfl
    have HF:=Lib.hid hF
    clear hF
    go_wp2_with fail
    go_returns
    exact⟨aH XN.out.1 HO.out.2,.inr ⟨HF.out,by simp⟩⟩
   have hT:eu l out d=true:=by rw[HCP.out,decide_eq_true (show Qx<=l.box.2 by omega),decide_eq_true (show l.box.1<=Q5 by omega)];rfl
   have HTR:=Lib.hid hT
   clear hT
   have hpos:0<i:=by have:=hS.uf;have:=HN.out;omega
   obtain⟨gb,rfl,hgb⟩: ∃gb:Nat,oo=some ⟨gb,0,none⟩/\W1.heap.size<=gb:=by
    obtain⟨_,⟨hv,h0⟩|⟨g,c,cs,hv,hbg,hrest⟩⟩:=HO.out.1
    ·omega
    ·simp at hv;exact⟨g,hv.1,hbg⟩
   obtain⟨ps,hps⟩: ∃ps,gK l out d=ps:=⟨_,rfl⟩
   have aaZ:ps.length=i:=by rw[<-hps,U4.out,List.length_map,yL.out.2]
   have HPS:=Lib.hid (And.intro hps aaZ)
   have hq0:ps.take 0++rs.drop 0=rs:=by simp
   have hown0:wr.ownsRow W1.heap.size 30 2 (.slice (some ⟨gb,0,none⟩) i oc) i (aj (ps.take 0++rs.drop 0)):=by rw[hq0];exact HO.out.1
   have HO0:=Lib.hid hown0
   clear hps aaZ hq0 hown0
   go_wp2_with fail
   go_loopw [69] (fun u wq=> ∃j:Nat,j<=i/\u= .int .i64 j/\wq.ownsRow W1.heap.size 30 2 (.slice (some ⟨gb,0,none⟩) i oc) i (aj (ps.take j++rs.drop j))/\Below W1.heap.size W1 wq) (fun u _=>i-(intOf u).toNat)
   case atStart=>exact⟨0,Nat.zero_le _,rfl,HO0.out,HO.out.2⟩
   case round=>
    obtain⟨j,hj,rfl,how,hB⟩:=hrel
    by_cases hlt:j<i
    ·have hjr:j<rs.length:=by rw[yL.out.2];exact hlt
     have hjp:j<ps.length:=by rw[HPS.out.2];exact hlt
     have hQl:(ps.take j++rs.drop j).length=i:=by rw[List.length_append,List.length_take,List.length_drop,yL.out.2,HPS.out.2];omega
     have how':wr.ownsRow W1.heap.size 30 2 (.slice (some ⟨gb,0,none⟩) (ps.take j++rs.drop j).length oc) (ps.take j++rs.drop j).length (aj (ps.take j++rs.drop j)):=by rw[hQl];exact how
     have hQj:(ps.take j++rs.drop j)[j]'(by rw[hQl];exact hlt)=rs[j]:=by
      rw[List.getElem_append_right (by rw[List.length_take];omega)]
      simp[List.length_take,Nat.min_eq_left (Nat.le_of_lt hjp)]
     have hQn:(ps.take j++rs.drop j).set j ps[j]=ps.take (j+1)++rs.drop (j+1):=by
      rw[List.set_append_right _ _ (by rw[List.length_take];omega),List.length_take,Nat.min_eq_left (Nat.le_of_lt hjp),Nat.sub_self,List.take_succ_eq_append_getElem hjp,show rs.drop j=rs[j]::rs.drop (j+1) from List.drop_eq_getElem_cons hjr,List.set_cons_zero,List.append_assoc]
      rfl
     have hpj:ps[j]=bothR rs[j] (l.box.1-(Q5-rs[j].2),l.box.2-(Qx-rs[j].1)):=by
      have h1:=HPS.out.1
      have h2:=U4.out
      rw[h1] at h2
      subst h2
      rw[List.getElem_map]
     have hop:=mJ how' (show j<(ps.take j++rs.drop j).length by rw[hQl];exact hlt)
     have hbd:=Jp.out.1 rs[j] (List.getElem_mem hjr)
     rw[hpj] at hQn
     rw[hQj] at hop
     generalize rs[j]=r at*
     obtain⟨g2,c2,hg2,VY,OZ,⟨s0,s1⟩,hfr2⟩:=hop
     obtain⟨rfl,rfl⟩:gb=g2/\oc=c2:=by simp at hg2;exact hg2
     have hwr:=(hB.block _ Yt).trans XN.out.2.2.1
     have hb1: -10000<=Q5-r.2/\Q5-r.2<=10000:=by omega
     have hb2: -10000<=Qx-r.1/\Qx-r.1<=10000:=by omega
     have hb3: -20000<=l.box.1-(Q5-r.2)/\l.box.1-(Q5-r.2)<=20000:=by omega
     have hb4: -20000<=l.box.2-(Qx-r.1)/\l.box.2-(Qx-r.1)<=20000:=by omega
     have HQ:=Lib.hid (And.intro hQn (And.intro hQl (And.intro how' hB)))
     have KO:(j:Int)<i:=by omega
     have hbw:Below wr.heap.size wr wr:=Below.refl _ _
     clear hpj hQn hQl how how' hB hQj hg2 hbw hjp hjr
     go_upto_region 15 with(fail)
     refine dD fun WS Y1=>?_
     have Bl:Below wr.heap.size wr WS:=by rw[Y1];exact zl
     have abr:WS.heap[wr.heap.size]? =some (.cells #[iv r.1,iv r.2] 30 (0,0)):=by rw[Y1];exact ag _ _
     have aaN:=(Bl.block _ (Array.getElem?_eq_some_iff.1 hwr).1).trans hwr
     have adO:=(Bl.cell (p:=⟨gb,j*2,none⟩) OZ).trans s0
     have adN:=(Bl.cell (p:=⟨gb,j*2+1,none⟩) OZ).trans s1
     have aib:=Bl.size
     have agG:gb<WS.heap.size:=by omega
     have H14:=Lib.hid Bl
     obtain⟨e1,e2,e3⟩:=cells_of_block aaN
     obtain⟨e4,e5,e6⟩:=cells_of_block abr
     clear Y1 Bl aaN hwr s0 s1 hfr2 abr
     refine zg 27 [] none [(26,Spec.val (rv (bothR r (l.box.1-(Q5-r.2),l.box.2-(Qx-r.1)))))] ?_
     simp only[zt]
     repeat ((first|refine zn ?_|refine zk ?_);simp only[zp])
     refine zw 112 (h:=fun W hE hF=>by exact both_any r (l.box.1-(Q5-r.2),l.box.2-(Qx-r.1)) W) (t:=?_)
     simp only[zp]
     intro W hE hF
     obtain⟨hc,hf⟩:=aW hE.below
     have hzE:=hE.size
     (try simp only[World.size_alloc] at hzE)
     have HE:=Lib.hid hE
     have hBW:Below wr.heap.size wr W:=aH H14.out hE.below
     have hown:W.ownsRow W1.heap.size 30 2 (.slice (some ⟨gb,0,none⟩) (ps.take j++rs.drop j).length oc) (ps.take j++rs.drop j).length (aj (ps.take j++rs.drop j)):=cZ HQ.out.2.2.1 fun g hg=>hBW.block g (aZ HQ.out.2.2.1 g hg).2
     obtain⟨g3,c3,hg3,_,abv,⟨t0,t1⟩,hfr3⟩:=mJ hown (show j<(ps.take j++rs.drop j).length by rw[HQ.out.2.1];exact hlt)
     obtain⟨rfl,rfl⟩:gb=g3/\oc=c3:=by simp at hg3;exact hg3
     have hset:=oJ hown (show j<(ps.take j++rs.drop j).length by rw[HQ.out.2.1];exact hlt) (bothR r (l.box.1-(Q5-r.2),l.box.2-(Qx-r.1)))
     rw[HQ.out.1] at hset
     have hsl:(ps.take (j+1)++rs.drop (j+1)).length=i:=by rw[<-HQ.out.1,List.length_set,HQ.out.2.1]
     have HST:=Lib.hid (And.intro hset (And.intro hsl (aH HQ.out.2.2.2 hBW)))
     clear hE hF hown hg3 hset hsl hBW e1 e2 e3 e4 e5 e6 adO adN hc hf hzE
     go_wp2_with fail
     go_roundw
     case rel=>
      refine⟨j+1,by omega,by go_num,?_,gm (gm HST.out.2.2 hgb _) hgb _⟩
      have:=HST.out.1
      rw[HQ.out.2.1] at this
      exact this
     case measure=>simp[intOf];omega
    ·have hji:j=i:=by omega
     subst hji
     have hfin:ps.take j++rs.drop j=ps:=by rw[List.take_of_length_le (by rw[HPS.out.2];exact Nat.le_refl _),List.drop_of_length_le (by rw[yL.out.2];exact Nat.le_refl _),List.append_nil]
     rw[hfin] at how
     have HF:=Lib.hid (And.intro how hB)
     clear hfin how hB
     go_wp2_with fail
     go_returns
     refine⟨aH XN.out.1 HF.out.2,.inl ⟨HTR.out,_,by simp;rfl,?_⟩⟩
     rw[HPS.out.1,HPS.out.2]
     exact bH HF.out.1 (by omega)
end Go.Proofs.YtabpkkbiioihaaaGreatDoor
end
section
namespace Go.Proofs.YtabpkkbiioihaaaGreatDoor
open Go.RowKit Go.RG Go.SL Go.Shelf gZ Go.TB
abbrev Ub (d:List Int):Value:=jk d
abbrev UU (w:World) (v:Value) (ls:List (List Int)):Prop:=aB 3 w v ls.length (ls.flatMap intCells)
theorem ad5 (l:List (List Int)) (v:Value) (aI:Nat) (fst caps:Array Value) (p:Nat->Bool) (I:Nat->World->Prop) (w:World) (h3: ∀x∈l,x.length=3) (eg: ∀args w,(callFunc aI args).run Tryz.prog w= .ok (.enter aI args) w)
 (hsl: ∀k W,I k W->UU W v l)
 (hcall: ∀k (hk:k<l.length) W,(∀j,j<k->p j=false)->I k W->Calls Tryz.prog aI (fst.push (Ub l[k])++caps) W (fun e W'=>e= .returned (.bool (p k))/\I (k+1) W')) (h0:I 0 w):
 Calls Tryz.prog 170 #[v,.func (.func aI) fst caps] w (dA l.length p I (fun k=>iv k) (iv (-1))):=by
 have hlen:=(hsl 0 w h0).len
 obtain⟨o,c,rfl⟩:=(hsl 0 w h0).open
 have HC:=Lib.hid hcall
 have HS:=Lib.hid hsl
 have H3:=Lib.hid h3
 clear hcall hsl h3
 go_enter Tryz.func170,Tryz.ntmps170
 go_wp2
 go_loopw [4,5,8] (fun _ _ i wr=> ∃k:Nat,k<=l.length/\i= .int .i64 k/\(∀j,j<k->p j=false)/\I k wr) (fun _ _ i _=>l.length-(intOf i).toNat)
 case atStart=>exact⟨0,Nat.zero_le _,rfl,fun j hj=>by omega,h0⟩
 case round=>
  obtain⟨k,hk,rfl,hno,hI⟩:=hrel
  by_cases hlt:k<l.length
  ·obtain⟨b,off,y0,y1,y2,hvv,hb,hys,hc0,hc1,hc2⟩:=xy (HS.out k wr hI) H3.out hlt
   subst hvv
   have hC:=HC.out k hlt wr hno hI
   have hda:Ub l[k]= .agg #[iv y0,iv y1,iv y2]:=by show jk l[k]=_;rw[hys];rfl
   rw[hda] at hC
   have HN:=Lib.hid hno
   clear hno
   go_wp2_with fail
   refine hC.mono ?_
   rintro e W1 ⟨rfl,hI1⟩
   have HI:=Lib.hid hI1
   clear hI1 hI hC
   cases hp:p k
   ·go_wp2_with fail
    go_roundw
    case rel=>exact⟨k+1,by omega,by go_num,fun j hj=>(by by_cases e:j=k;(subst e;exact hp);exact HN.out j (by omega)),HI.out⟩
    case measure=>simp[intOf];omega
   ·go_wp2_with fail
    go_returns
    exact⟨k,by omega,HN.out,.inl ⟨hlt,hp,by simp,HI.out⟩⟩
  ·have hkl:k=l.length:=by omega
   have HN:=Lib.hid hno
   clear hno
   go_wp2_with fail
   go_returns
   exact⟨k,by omega,HN.out,.inr ⟨hkl,by simp,by subst hkl;exact hI⟩⟩
theorem aci (l:List (List Int)) (v:Value) (aI:Nat) (fst caps:Array Value) (p:Nat->Bool) (I:Nat->World->Prop) (w:World) (h3: ∀x∈l,x.length=3) (eg: ∀args w,(callFunc aI args).run Tryz.prog w= .ok (.enter aI args) w)
 (hsl: ∀k W,I k W->UU W v l)
 (hcall: ∀k (hk:k<l.length) W,(∀j,j<k->p j=false)->I k W->Calls Tryz.prog aI (fst.push (Ub l[k])++caps) W (fun e W'=>e= .returned (.bool (p k))/\I (k+1) W')) (h0:I 0 w):
 Calls Tryz.prog 110 #[v,.func (.func aI) fst caps] w (dA l.length p I (fun _=> .bool true) (.bool false)):=by
 have HI:=Lib.hid (ad5 l v aI fst caps p I w h3 eg hsl hcall h0)
 have hlen:=(hsl 0 w h0).len
 clear hsl hcall h0 eg
 go_enter Tryz.func110,Tryz.ntmps110
 go_wp2_with fail
 refine HI.out.mono ?_
 clear HI
 rintro e W' ⟨k,hk,hno,⟨hlt,hp,rfl,hI⟩|⟨hkl,rfl,hI⟩⟩
 ·have HN:=Lib.hid (And.intro hno (And.intro hp hI))
  clear hno hp hI
  go_wp2_with fail
  go_returns
  exact⟨k,hk,HN.out.1,.inl ⟨hlt,HN.out.2.1,by simp,HN.out.2.2⟩⟩
 ·have HN:=Lib.hid (And.intro hno (And.intro hkl hI))
  clear hno hkl hI
  go_wp2_with fail
  go_returns
  exact⟨k,hk,HN.out.1,.inr ⟨HN.out.2.1,by simp,HN.out.2.1▸HN.out.2.2⟩⟩
def dF (l:ax) (out:List Int):Bool:=(bz l).any (eu l out)
structure Mc (W:World) (wb mb:Nat) (l:ax) (tv nv v:Value):Prop where
 work:xE W wb mb l tv nv v (bz l)
 tab: ∃T,TabAt QZ rv (fun _=>True) W mb T
structure Ar (W:World) (wb mb:Nat) (l:ax) (tv nv v:Value) (out:List Int):Prop where
 work:xE W wb mb l tv nv v (bz l)
 tab: ∃T,TabAt QZ rv (fun _=>True) W mb T/\lY (lX l out) T (nG l.field.ai.toNat (bz l) (bz l).length)
theorem Ar.ok {W:World} {wb mb:Nat} {l:ax} {tv nv v:Value} {out:List Int} (h:Ar W wb mb l tv nv v out):Mc W wb mb l tv nv v:=⟨h.work,let⟨T,h1,_⟩:=h.tab;⟨T,h1⟩⟩
theorem Ar.below {W W':World} {wb mb:Nat} {l:ax} {tv nv v:Value} {out:List Int} (h:Ar W wb mb l tv nv v out) {B:Nat} (hb:Below B W W') (hB:W.heap.size<=B):Ar W' wb mb l tv nv v out:=
 ⟨h.work.below hb hB,let⟨T,h1,h2⟩:=h.tab;⟨T,h1.below hb hB,h2⟩⟩
theorem Mc.below {W W':World} {wb mb:Nat} {l:ax} {tv nv v:Value} (h:Mc W wb mb l tv nv v) {B:Nat} (hb:Below B W W') (hB:W.heap.size<=B):Mc W' wb mb l tv nv v:=
 ⟨h.work.below hb hB,let⟨T,h1⟩:=h.tab;⟨T,h1.below hb hB⟩⟩
theorem lq (l:ax): ∀x∈bz l,x.length=3:=wz l _
theorem zX {l:ax} (hS:kJ l) {d:List Int} (hd:d∈bz l) (i:Nat) (hi:i<3):0<=d.getD i 0/\d.getD i 0<=350:=by
 obtain⟨t,ht,rfl⟩:=sU.1 hd
 have hF:=fH hS.field
 have:=kY ht
 exact Ih (by have:=hS.rate;omega) (by have:=hS.rate;omega) t (by have:=hF.lU;omega) i hi
theorem Vz {l:ax} {out:List Int} {T:List ((Int×Int)×bK)} (hF:lY (lX l out) T (nG l.field.ai.toNat (bz l) (bz l).length)) {d:List Int} (hd:d∈bz l) {i:Nat} (hi:i<l.field.ai.toNat):
 TB.look ((i:Int),d.getD i 0) T=some ((alone l out d).getD i (0,0)):=by
 obtain⟨r,hr⟩:=hF.has ((i:Int),d.getD i 0) (by
  unfold nG
  rw[List.take_length,List.mem_flatMap]
  exact⟨d,hd,List.mem_map.2 ⟨i,List.mem_range.2 hi,rfl⟩⟩)
 rw[hr,hF.only _ _ hr,vN,ku _ _ _ hi]
theorem Ux {l:ax} (hS:kJ l) (out:List Int) {d:List Int} (hd:d∈bz l): ∀r∈alone l out d,0<=r.1/\r.1<=2000/\0<=r.2/\r.2<=2000:=by
 intro r hr
 obtain⟨i,hi,rfl⟩:=List.mem_map.1 hr
 have hF:=fH hS.field
 have:=hF.qM
 have hi':=List.mem_range.1 hi
 have hb:=zX hS hd i (by omega)
 have:=GY hS out i hb.1 (by omega)
 omega
theorem MO {l:ax} (hS:kJ l) {tv nv v:Value} {out:List Int} {wb mb:Nat} {d:List Int} (hd:d∈bz l) {w:World} (hw:Ar w wb mb l tv nv v out):
 Calls Tryz.prog 57 #[.pointer (some ⟨wb,0,none⟩),jk d] w (Jc l out d w):=by
 obtain⟨T,hT,hF⟩:=hw.tab
 exact Rt l (fH hS.field) (by have:=hS.box;omega) tv nv v out d (lq l d hd) (alone l out d) rfl (Ux hS out hd) wb mb T w hw.work.cells hT (fun i hi=>Vz hF hd hi)
theorem Oa {l:ax} (hS:kJ l) {tv nv v:Value} {out:List Int} {wb mb bp:Nat} {d:List Int} (hd:d∈bz l) {w:World} (hw:Ar w wb mb l tv nv v out) (hp:w.heap[bp]? =some (.cells #[.pointer (some ⟨wb,0,none⟩)] 95 (0,0))):
 Calls Tryz.prog 111 #[jk d,.pointer (some ⟨bp,0,none⟩)] w (PV (.bool (eu l out d)) w):=by
 obtain⟨y0,y1,y2,hys⟩:=jJ (lq l d hd)
 have hag:jk d= .agg #[iv y0,iv y1,iv y2]:=by rw[hys];rfl
 have HP:=Lib.hid (fun W hW=>hag▸MO (w:=W) hS hd (hw.below (B:=w.heap.size) hW (Nat.le_refl _)))
 rw[hag]
 obtain⟨c1,f1,l1⟩:=cells_of_block hp
 obtain⟨q,hq⟩: ∃q,eu l out d=q:=⟨_,rfl⟩
 have HQ:=Lib.hid hq
 clear hw hp hag hys hq
 go_enter Tryz.func111,Tryz.ntmps111
 go_wp2_with fail
 refine(HP.out _ (af (Below.refl _ _) _)).mono ?_
 rintro e w' ⟨hb,⟨hc,u,rfl,hu⟩|⟨hc,rfl⟩⟩
 ·have hq:q=true:=by rw[<-HQ.out,hc]
  obtain⟨uo,uc,rfl⟩:=aK hu
  have HB:=Lib.hid (aH (af (Below.refl w.heap.size w) (.cells #[iv y0,iv y1,iv y2] 134)) hb)
  have HE:=Lib.hid (And.intro hc hq)
  clear hb hc hu hq
  go_wp2_with fail
  go_returns
  exact⟨by rw[HE.out.1];simp,HB.out⟩
 ·have HB:=Lib.hid (aH (af (Below.refl w.heap.size w) (.cells #[iv y0,iv y1,iv y2] 134)) hb)
  have HE:=Lib.hid hc
  clear hb hc
  go_wp2_with fail
  go_returns
  exact⟨by rw[HE.out];simp,HB.out⟩
theorem mf {l:ax} (hS:kJ l) {tv nv v ov:Value} (out:List Int) {wb mb:Nat} {w:World} (hw:Mc w wb mb l tv nv v) (ho:aN w ov out):
 Calls Tryz.prog 56 #[.pointer (some ⟨wb,0,none⟩),ov] w (fun e w'=>e= .returned (.bool (dF l out))/\Ar w' wb mb l tv nv v out/\Ext [mb] w w'):=by
 obtain⟨T0,hT0⟩:=hw.tab
 obtain⟨oo,oc,rfl⟩:=ho.open
 obtain⟨vo,vc,rfl⟩:=hw.work.truth.open
 have hF:=fH hS.field
 have hlen:(bz l).length<=2500:=Nat.le_trans (uO l _) (jm hF [])
 have Z4:Below w.heap.size w (w.alloc (.cells #[.pointer (some ⟨wb,0,none⟩)] 95)):=af (Below.refl _ _) _
 have HWO:=Lib.hid (FO l hF hS.many tv nv _ _ out wb mb (bz l) T0 _ (hw.work.below Z4 (Nat.le_refl _)) (hT0.below Z4 (Nat.le_refl _)) (ho.below Z4 (Nat.le_refl _)) (lq l) hlen)
 have hmb:=hT0.lt
 have hwb:=hw.work.lt
 have HW:=Lib.hid (And.intro (hw.work.below Z4 (Nat.le_refl _)) (hT0.below Z4 (Nat.le_refl _)))
 have HS:=Lib.hid hS
 obtain⟨q,hq⟩: ∃q,dF l out=q:=⟨_,rfl⟩
 rw[hq]
 have HQ:=Lib.hid hq
 have hbp:=ag w (.cells #[.pointer (some ⟨wb,0,none⟩)] 95)
 have HBP:=Lib.hid hbp
 clear hw ho hT0 hq hS hbp Z4
 go_enter Tryz.func56,Tryz.ntmps56
 go_wp2_with fail
 refine HWO.out.mono ?_
 rintro e W1 ⟨⟨u,rfl⟩,hE,T,hT,Qy⟩
 have V3:=(hE.block w.heap.size (by simp) (by simp;omega)).trans HBP.out
 have KL:=HW.out.1.table hE HW.out.2.noCell
 have hKn:Ar W1 wb mb l tv nv (.slice vo (bz l).length vc) out:=⟨KL,T,hT,Qy⟩
 have Y5:Ext [mb] w W1:=(Ext.of_below (af (Below.refl _ _) _)).trans hE
 have HC:=Lib.hid (aci (bz l) (.slice vo (bz l).length vc) 111 #[] #[.pointer (some ⟨w.heap.size,0,none⟩)] (fun k=>eu l out ((bz l).getD k [])) (fun _ W=>Below W1.heap.size W1 W) W1 (lq l)
  (enters_of Tryz.func111 (by kernel_rfl) rfl) (fun k W hW=>KL.truth.below hW (Nat.le_refl _))
  (fun k hk W _ hW=>by
    have hg:(bz l).getD k []=(bz l)[k]:=by simp[List.getD,hk]
    rw[hg]
    refine(Oa HS.out (List.getElem_mem hk) (hKn.below hW (Nat.le_refl _)) ((hW.block _ (Array.getElem?_eq_some_iff.1 V3).1).trans V3)).mono ?_
    rintro e W' ⟨rfl,hb⟩
    exact⟨rfl,aH hW hb⟩) (Below.refl _ _))
 obtain⟨c1,f1,l1⟩:=cells_of_block V3
 obtain⟨c2,f2,l2⟩:=cells_of_block KL.cells
 have HX:=Lib.hid (And.intro hKn Y5)
 clear hE hT Qy V3 KL hKn Y5
 obtain⟨ls,hls⟩: ∃ls,bz l=ls:=⟨_,rfl⟩
 rw[hls] at HC c2
 have Jh:=Lib.hid hls
 clear hls
 go_wp2_with fail
 refine HC.out.mono ?_
 rintro e W2 ⟨k,hk,hno,⟨hlt,hp,rfl,hB⟩|⟨hkl,rfl,hB⟩⟩
 ·have hqt:q=true:=by
   rw[<-HQ.out]
   unfold dF
   rw[Jh.out,List.any_eq_true]
   exact⟨ls.getD k [],by rw[show ls.getD k []=ls[k] from by simp[List.getD,hlt]];exact List.getElem_mem _,hp⟩
  have HF:=Lib.hid (And.intro hqt hB)
  clear hno hp hB hqt
  go_wp2_with fail
  go_returns
  exact⟨by rw[HF.out.1];simp,HX.out.1.below HF.out.2 (Nat.le_refl _),HX.out.2.trans (Ext.of_below HF.out.2)⟩
 ·have hqf:q=false:=by
   rw[<-HQ.out]
   unfold dF
   rw[Jh.out,List.any_eq_false]
   intro x hx
   obtain⟨j,hj,rfl⟩:=List.getElem_of_mem hx
   have:=hno j (by omega)
   simp only at this
   rw[show ls.getD j []=ls[j] from by simp[List.getD,hj]] at this
   simp[this]
  have HF:=Lib.hid (And.intro hqf hB)
  clear hno hB hqf
  go_wp2_with fail
  go_returns
  exact⟨by rw[HF.out.1];simp,HX.out.1.below HF.out.2 (Nat.le_refl _),HX.out.2.trans (Ext.of_below HF.out.2)⟩
end Go.Proofs.YtabpkkbiioihaaaGreatDoor
namespace Go.Proofs.YtabpkkbiioihaaaGreatDoor
open Go.RowKit Go.RG Go.SL Go.Shelf gZ Go.TB
def rW (l:ax):Bool:=inB l.rate 1 50&&(iG l.box&&l.notes.all (oV l))
def dV (l:ax):Int:=if 5<l.notes.length then 3 else if cO l.field true≠0 then cO l.field true else if rW l=false then 1 else if dF l (upto l.notes.length)=false then 9 else 0
theorem BM {l:ax} (h1: ¬5<l.notes.length) (h2:cO l.field true=0) (h3:rW l=true):kJ l:=by
 have hf:fC l.field=0:=by
  unfold cO at h2
  split at h2
  ·omega
  ·rename_i h;omega
 obtain⟨hS,hpos,_⟩:=tH h2
 simp only[rW,inB,iG,Bool.and_eq_true,decide_eq_true_eq,List.all_eq_true] at h3
 obtain⟨⟨r1,r2⟩,⟨b1,⟨b2,b3⟩,b4,b5⟩,hn⟩:=h3
 refine⟨hf,fun e=>by rw[e] at hpos;simp at hpos,⟨r1,r2⟩,⟨by omega,by omega,by omega⟩,by omega,fun x hx=>?_⟩
 have:=hn x hx
 simp only[oV,inB,iG,Bool.and_eq_true,decide_eq_true_eq] at this
 omega
def wo (n k:Nat):List Int:=(List.range n).map fun(i:Nat)=>if i<k then(i:Int) else 0
theorem Pj (n:Nat):wo n 0=List.replicate n 0:=by
 unfold wo
 simp only[Nat.not_lt_zero,if_false]
 rw[List.map_const',List.length_range]
theorem TZ (n:Nat):wo n n=upto n:=by
 unfold wo upto
 apply List.map_congr_left
 intro i hi
 rw[if_pos (List.mem_range.1 hi)]
theorem TY {n k:Nat} (_hk:k<n):(wo n k).set k (k:Int)=wo n (k+1):=by
 refine List.ext_getElem (by simp[wo]) fun i h1 h2=>?_
 rw[List.getElem_set]
 simp only[wo,List.getElem_map,List.getElem_range]
 by_cases e:k=i
 ·subst e;simp
 ·rw[if_neg e]
  by_cases h:i<k
  ·rw[if_pos h,if_pos (by omega)]
  ·rw[if_neg h,if_neg (by omega)]
theorem Ie (n k:Nat):(wo n k).length=n:=by simp[wo]
def Jk (l:ax) (tv nv:Value) (w:World) (e:Ending) (w':World):Prop:=
 Below w.heap.size w w'/\((dV l≠0/\e= .returned (.tuple #[.pointer none,iv (dV l)]))∨
  (dV l=0/\ ∃(wb mb:Nat) (v:Value),e= .returned (.tuple #[.pointer (some ⟨wb,0,none⟩),iv 0])/\w.heap.size<=wb/\w.heap.size<=mb/\Mc w' wb mb l tv nv v))
theorem yh (l:ax) (tv nv:Value) (w:World) (ht:bW w tv l.field.ae) (hn:aT w nv l.notes):
 Calls Tryz.prog 55 #[lv l tv nv] w (Jk l tv nv w):=by
 obtain⟨on,cn,rfl⟩:=hn.open
 obtain⟨ot,ct,rfl⟩:=ht.open
 have hnl:=hn.len
 have HN:=Lib.hid hn
 have HT:=Lib.hid ht
 clear hn ht
 by_cases h5:5<l.notes.length
 ·have HF:Hid (dV l=3):=Lib.hid (by unfold dV;rw[if_pos h5])
  have h5I:(l.notes.length:Int)>5:=by omega
  go_enter Tryz.func55,Tryz.ntmps55
  go_wp2_with fail
  go_returns
  exact⟨zl,.inl ⟨by rw[HF.out];simp,by rw[HF.out];simp⟩⟩
 have h5I: ¬((l.notes.length:Int)>5):=by omega
 have hW:dV l=if cO l.field true≠0 then cO l.field true else if rW l=false then 1 else if dF l (upto l.notes.length)=false then 9 else 0:=by unfold dV;rw[if_neg h5]
 have HD:=Lib.hid (fun w ht=>oO l.field (.slice ot l.field.ae.length ct) w ht)
 obtain⟨q,hq⟩: ∃q,cO l.field true=q:=⟨_,rfl⟩
 rw[hq] at hW
 by_cases hq0:q=0
 case neg=>
  have HF:Hid (dV l=q/\q≠0/\cO l.field true=q):=Lib.hid ⟨by rw[hW,if_pos hq0],hq0,hq⟩
  have hqb:(q !=0)=true:=by simpa using hq0
  clear hW hq hq0
  go_enter Tryz.func55,Tryz.ntmps55
  go_wp2_with fail
  refine(HD.out _ (HT.out.alloc _)).mono ?_
  rintro e w1 ⟨hb,⟨hne,rfl⟩|⟨h0,_⟩⟩
  ·have HB:=Lib.hid (show Below w.heap.size w w1 from zl)
   rw[HF.out.2.2]
   clear hb hne
   go_wp2_with fail
   go_returns
   exact⟨HB.out,.inl ⟨by rw[HF.out.1];exact HF.out.2.1,by rw[HF.out.1];simp⟩⟩
  ·exact absurd (HF.out.2.2.symm.trans h0) HF.out.2.1
 rw[if_neg (by rw[hq0];simp)] at hW
 rw[hq0] at hq
 have HW:=Lib.hid hW
 have hwd: -1000<=l.field.ai/\l.field.ai<=1000:=by
  have hF0:fC l.field=0:=by
   unfold cO at hq
   by_cases h:fC l.field=0
   ·exact h
   ·rw[if_pos h] at hq;exact hq
  have:=fH hF0
  have:=this.uf
  have:=(fH hF0).qM
  omega
 have HQ:=Lib.hid hq
 clear hW hq hq0
 obtain⟨r1,hr1⟩: ∃r1,inB l.rate 1 50=r1:=⟨_,rfl⟩
 obtain⟨r2,hr2⟩: ∃r2,iG l.box=r2:=⟨_,rfl⟩
 obtain⟨r3,hr3⟩: ∃r3,l.notes.all (oV l)=r3:=⟨_,rfl⟩
 have hargs:rW l=(r1&&(r2&&r3)):=by unfold rW;rw[hr1,hr2,hr3]
 have H1:=Lib.hid (fun w=>hr1▸rF l.rate 1 50 w)
 have H2:=Lib.hid (fun w=>hr2▸yw l.box w)
 have H3:=Lib.hid (fun(W:World) (hB:Below w.heap.size w W)=>
  hr3▸PW l.notes (.slice on l.notes.length cn) 104 #[lv l (.slice ot l.field.ae.length ct) (.slice on l.notes.length cn)] #[] (oV l) W (HN.out.below hB (Nat.le_refl _)) (enters_of Tryz.func104 (by kernel_rfl) rfl) (fun x _ W' _=>note_any l _ _ x W' hwd.1 hwd.2))
 have HA:=Lib.hid hargs
 clear hargs hr1 hr2 hr3
 go_enter Tryz.func55,Tryz.ntmps55
 go_wp2_with fail
 refine(HD.out _ (HT.out.alloc _)).mono ?_
 rintro e w1 ⟨hb,⟨hne,_⟩|⟨_,u,rfl,hu⟩⟩
 ·exact absurd HQ.out hne
 obtain⟨uo,uc,rfl⟩:=hu.open
 obtain⟨hc,hf⟩:=aW hb
 have hz0:w.heap.size<w1.heap.size:=by have:=hb.size;simp at this;omega
 have hk1:=(hb.block w.heap.size (by simp)).trans (ag w (.cells (iW l (.slice ot l.field.ae.length ct) (.slice on l.notes.length cn)) 33))
 have HB1:=Lib.hid (And.intro (show Below w.heap.size w w1 from zl) hk1)
 clear hb hu hk1
 go_wp2_with fail
 refine(H1.out _).mono ?_
 rintro e w2 ⟨rfl,hb⟩
 have hk2:=(hb.block _ hz0).trans HB1.out.2
 have HB2:=Lib.hid (And.intro (aH HB1.out.1 hb) hk2)
 obtain⟨c2,f2,l2⟩:=cells_of_block hk2
 clear hb hk2 hc hf hz0
 cases r1
 ·have hF:dV l=1:=by rw[HW.out,HA.out];rfl
  have HF:=Lib.hid hF
  clear hF
  go_wp2_with fail
  go_returns
  exact⟨HB2.out.1,.inl ⟨by rw[HF.out];simp,by rw[HF.out];simp⟩⟩
 go_wp2_with fail
 refine(H2.out _).mono ?_
 rintro e w3 ⟨rfl,hb⟩
 have hk3:=(hb.block _ l2).trans HB2.out.2
 have HB3:=Lib.hid (And.intro (aH HB2.out.1 hb) hk3)
 obtain⟨c3,f3,l3⟩:=cells_of_block hk3
 clear hb hk3 c2 f2 l2
 cases r2
 ·have hF:dV l=1:=by rw[HW.out,HA.out];rfl
  have HF:=Lib.hid hF
  clear hF
  go_wp2_with fail
  go_returns
  exact⟨HB3.out.1,.inl ⟨by rw[HF.out];simp,by rw[HF.out];simp⟩⟩
 go_wp2_with fail
 refine(H3.out _ HB3.out.1).mono ?_
 rintro e w4 ⟨rfl,hb⟩
 have hk4:=(hb.block _ l3).trans HB3.out.2
 have HB4:=Lib.hid (And.intro (aH HB3.out.1 hb) hk4)
 obtain⟨c4,f4,l4⟩:=cells_of_block hk4
 clear hb hk4 c3 f3 l3
 cases r3
 ·have hF:dV l=1:=by rw[HW.out,HA.out];rfl
  have HF:=Lib.hid hF
  clear hF
  go_wp2_with fail
  go_returns
  exact⟨HB4.out.1,.inl ⟨by rw[HF.out];simp,by rw[HF.out];simp⟩⟩
 have hS:kJ l:=BM h5 HQ.out (by rw[HA.out];rfl)
 have hW:dV l=if dF l (upto l.notes.length)=false then 9 else 0:=by rw[HW.out,HA.out];rfl
 have HS:=Lib.hid hS
 have HW':=Lib.hid hW
 clear hS hW
 go_wp2_with fail
 refine(O7 l _ _ HS.out.field (by have:=HS.out.rate;omega) (by have:=HS.out.rate;omega) w4 (HT.out.below HB4.out.1 (Nat.le_refl _)) (HN.out.below HB4.out.1 (Nat.le_refl _))).mono ?_
 rintro e w5 ⟨wb,mb,v,rfl,hwb,hmb,htab,hlw,hb⟩
 have hk5:=(hb.block _ l4).trans HB4.out.2
 have aa3:Mc w5 wb mb l (.slice ot l.field.ae.length ct) (.slice on l.notes.length cn) v:=⟨hlw,[],Em htab⟩
 have hs4:=HB4.out.1.size
 have lD:=Lib.hid (And.intro (aH HB4.out.1 hb) (And.intro hk5 aa3))
 obtain⟨c5,f5,l5⟩:=cells_of_block hk5
 obtain⟨n,hn⟩: ∃n,l.notes.length=n:=⟨_,rfl⟩
 have hmk:=pg n (by omega)
 rw[hn] at HW' c5
 have HNE:=Lib.hid hn
 have hn5:n<=5:=by omega
 clear hb hk5 hlw htab c4 f4 l4 aa3 hn
 go_upto_region 11 with(fail)
 refine dD fun W6 Hu=>?_
 have FC:Below w5.heap.size w5 W6:=by rw[Hu];exact af (Below.refl _ _) _
 have hk6:W6.heap[w5.heap.size]? =some (.cells (intCells (wo n 0)).toArray 3 (0,0)):=by rw[Hu,Pj];exact ag _ _
 have H6:=Lib.hid (And.intro FC hk6)
 clear Hu FC hk6 hmk c5 f5 l5
 go_wp2_with fail
 go_loopw [50] (fun u wr=> ∃k:Nat,k<=n/\u= .int .i64 k/\wr.heap[w5.heap.size]? =some (.cells (intCells (wo n k)).toArray 3 (0,0))/\Below w5.heap.size w5 wr) (fun u _=>n-(intOf u).toNat)
 case atStart=>exact⟨0,Nat.zero_le _,rfl,H6.out.2,H6.out.1⟩
 case round=>
  obtain⟨k,hk,rfl,hcb,hB⟩:=hrel
  by_cases hlt:k<n
  ·have hcell:=ed hcb (show k<(wo n k).length by rw[Ie];exact hlt)
   generalize (wo n k)[k]'(by rw[Ie];exact hlt)=x at hcell
   have hlb:=World.block_lt_of_cell? wr _ hcell
   have hfr:=aX hcb k
   have HX:=Lib.hid (And.intro hcb hB)
   clear hcb hB
   go_wp2_with fail
   go_roundw
   case rel=>
    refine⟨k+1,by omega,by go_num,?_,gm HX.out.2 (Nat.le_refl _) _⟩
    rw[<-TY hlt, <-ni]
    exact ak HX.out.1 _
   case measure=>simp[intOf];omega
  ·have hkn:k=n:=by omega
   subst hkn
   rw[TZ] at hcb
   have Nc:aN wr (.slice (some ⟨w5.heap.size,0,none⟩) k k) (upto k):=by
    have hul:(upto k).length=k:=by simp[upto]
    have:=aB.of_block (w:=wr) (cs:=(intCells (upto k)).toArray) 1 k hcb (by simp[intCells,hul]) (by simp only[maxLen];omega)
    show aB 1 _ _ (upto k).length _
    rw[hul]
    exact this
   have HP:=Lib.hid (mf HS.out (upto k) (lD.out.2.2.below hB (Nat.le_refl _)) Nc)
   have HX:=Lib.hid hB
   obtain⟨q,hq⟩: ∃q,dF l (upto k)=q:=⟨_,rfl⟩
   rw[hq] at HP HW'
   clear hcb hB Nc hq
   go_wp2_with fail
   refine HP.out.mono ?_
   rintro e w7 ⟨rfl,hkn,hE⟩
   have AU:Below w.heap.size w w7:=by
    have h1:=aH lD.out.1 (HX.out)
    exact iF h1 hE (by omega)
   have Zx:=Lib.hid (And.intro hkn.ok AU)
   clear hkn hE AU
   cases q
   ·have HF:=Lib.hid HW'.out
    go_wp2_with fail
    go_returns
    exact⟨Zx.out.2,.inl ⟨by rw[HF.out];simp,by rw[HF.out];simp⟩⟩
   ·have HF:=Lib.hid HW'.out
    go_wp2_with fail
    go_returns
    exact⟨Zx.out.2,.inr ⟨by rw[HF.out];rfl,wb,mb,v,by simp,by omega,by omega,Zx.out.1⟩⟩
end Go.Proofs.YtabpkkbiioihaaaGreatDoor
namespace Go.Proofs.YtabpkkbiioihaaaGreatDoor
open Go.RowKit Go.RG Go.SL Go.Shelf gZ Go.TB
theorem yD (l:ax) (tv nv:Value) (w:World) (ht:bW w tv l.field.ae) (hn:aT w nv l.notes):
 Calls Tryz.prog 93 #[lv l tv nv] w (PV (iv (dV l)) w):=by
 have HC:=Lib.hid (yh l tv nv (w.alloc (.cells (iW l tv nv) 33)) (ht.alloc _) (hn.alloc _))
 obtain⟨q,hq⟩: ∃q,dV l=q:=⟨_,rfl⟩
 rw[hq]
 have HQ:=Lib.hid hq
 clear ht hn hq
 go_enter Tryz.func93,Tryz.ntmps93
 go_wp2_with fail
 refine HC.out.mono ?_
 rintro e w1 ⟨hb,⟨hne,rfl⟩|⟨h0,wb,mb,v,rfl,_,_,hok⟩⟩
 ·have HB:=Lib.hid (show Below w.heap.size w w1 from zl)
  rw[HQ.out]
  clear hb hne
  go_wp2_with fail
  go_returns
  exact⟨by simp,HB.out⟩
 ·have HB:=Lib.hid (show Below w.heap.size w w1 from zl)
  have hq0:q=0:=HQ.out.symm.trans h0
  have gJ:=Lib.hid hq0
  clear hb hok h0 hq0
  go_wp2_with fail
  go_returns
  exact⟨by rw[gJ.out];simp,HB.out⟩
theorem vY {l:ax} (h:dV l=0):kJ l/\dF l (upto l.notes.length)=true:=by
 unfold dV at h
 split at h
 ·omega
 ·rename_i h1
  split at h
  ·omega
  ·rename_i h2
   split at h
   ·omega
   ·rename_i h3
    split at h
    ·omega
    ·rename_i h4
     exact⟨BM h1 (by omega) (by simpa using h3),by simpa using h4⟩
end Go.Proofs.YtabpkkbiioihaaaGreatDoor
end

/-
  Texts of this claim, packed by a program: WA WB.
-/
import Derived.WalkKit
import Derived.WalkLawsBesides
import Derived.WalkSpells
import Derived.Outline
import Derived.Handy
import Derived.KernelRfl
import Derived.Lib.Hide
import Derived.Test.YthllkbbbapgelaaGreatDoorProg
import Derived.Shelf.Abstract
import Derived.Laws.EntriesVeiled
import Derived.Test.YthllkbbbapgelaaGreatDoorPW3
set_option maxHeartbeats 8000000
set_option maxRecDepth 100000
set_option linter.all false
section
namespace Go.Proofs.YthllkbbbapgelaaGreatDoor.jI
open Go.RowKit Go.RG Go.SL jy
abbrev iv (n:Int):Value:= .int .i64 n
abbrev rv (r:dR):Value:= .agg #[.int .i64 r.1,.int .i64 r.2]
abbrev xv (x:EX):Value:= .agg #[.int .i64 x.1,.int .i64 x.2.1,.int .i64 x.2.2]
abbrev hv (h:cZ) (wv tv xv:Value):Value:= .agg #[.int .i64 h.last,.int .i64 h.size,.int .i64 h.aZ,.int .i64 h.die,.int .i64 h.uF,.int .i64 h.start.1,.int .i64 h.start.2,wv,tv,xv]
theorem sG (n l h:Int) (w:World):Calls Tryz.prog 215 #[iv n,iv l,iv h] w (PV (.bool (nS n l h)) w):=by
 by_cases h1:l<=n
 all_goals
  go_enter Tryz.func215,Tryz.ntmps215
  go_wp2
  go_returns
  exact⟨by simp[nS];omega,aH _ _⟩
theorem Zg (r:dR) (n:Int) (w:World):Calls Tryz.prog 274 #[rv r,iv n] w (PV (.bool (wz r n)) w):=by
 go_enter Tryz.func274,Tryz.ntmps274
 go_wp2
 all_goals
  go_returns
  exact⟨by simp[wz];omega,by go_grown⟩
theorem size_any (r:dR) (w:World) (h1:0<=r.1) (h2:r.1<=r.2) (h3:r.2<=100000):
 Calls Tryz.prog 213 #[rv r] w (PV (iv (eu r)) w):=by
 go_enter Tryz.func213,Tryz.ntmps213
 go_wp2
 go_returns
 exact⟨by simp[eu],by go_grown⟩
theorem KQ (r:dR) (w:World):Calls Tryz.prog 210 #[rv r] w (PV (.bool (wz r 20)) w):=by
 go_enter Tryz.func210,Tryz.ntmps210
 go_wp2_with (go_at_call 274;refine(Zg _ _ _).mono ?_;rintro e w' ⟨rfl,hb⟩)
 go_returns
 exact⟨by simp,(aH _ _).alloc (ai _) _ |>.trans (hb.mono (by simp))⟩
theorem yw (h:cZ) (a b c:Value) (n:Int) (w:World):Calls Tryz.prog 273 #[hv h a b c,iv n] w (PV (.bool (nS n 0 h.last)) w):=by
 go_enter Tryz.func273,Tryz.ntmps273
 go_wp2_with (go_at_call 215;refine(sG _ _ _ _).mono ?_;rintro e w' ⟨rfl,hb⟩)
 go_returns
 exact⟨by simp,(aH _ _).alloc (ai _) _ |>.trans (hb.mono (by simp))⟩
theorem rY (h:cZ) (a b c:Value) (w:World) (h0:0<=h.last) (h9:h.last<=9):Calls Tryz.prog 93 #[hv h a b c] w (PV (iv (h.last+1)) w):=by
 go_enter Tryz.func93,Tryz.ntmps93
 go_wp2
 go_returns
 exact⟨by simp,by go_grown⟩
theorem Xr (h:cZ) (a b c:Value) (n:Int) (w:World):Calls Tryz.prog 219 #[hv h a b c,iv n] w (PV (.bool (decide (h.uF<n))) w):=by
 go_enter Tryz.func219,Tryz.ntmps219
 go_wp2
 go_returns
 exact⟨by simp,by go_grown⟩
theorem dies_any (h:cZ) (a b c:Value) (n:Int) (w:World):Calls Tryz.prog 220 #[hv h a b c,iv n] w (PV (.bool (decide (n<h.die))) w):=by
 go_enter Tryz.func220,Tryz.ntmps220
 go_wp2
 go_returns
 exact⟨by simp,by go_grown⟩
theorem Zp (h:cZ) (a b c:Value) (n:Int) (w:World):Calls Tryz.prog 137 #[hv h a b c,iv n] w (PV (.bool (decide (h.uF<n) ||decide (n<h.die))) w):=by
 go_enter Tryz.func137,Tryz.ntmps137
 go_wp2_with (first|(go_at_call 219;refine(Xr _ _ _ _ _ _).mono ?_;rintro e w' ⟨rfl,hb⟩;obtain⟨hc,hf⟩:=bK hb;have hz0:w.heap.size<w'.heap.size:=(by have:=hb.size;(try simp only[bu] at this);omega))|(go_at_call 220;refine(dies_any _ _ _ _ _ _).mono ?_;rintro e w' ⟨rfl,hb⟩;obtain⟨hc,hf⟩:=bK hb;have hz0:w.heap.size<w'.heap.size:=(by have:=hb.size;(try simp only[bu] at this);omega)))
 all_goals
  go_returns
  exact⟨by simp[*],zl⟩
theorem oP (h:cZ) (a b c:Value) (w:World):Calls Tryz.prog 208 #[hv h a b c] w (PV (.bool (fG h)) w):=by
 go_enter Tryz.func208,Tryz.ntmps208
 go_wp2_with (first|(go_at_call 215;refine(sG _ _ _ _).mono ?_;rintro e w' ⟨rfl,hb⟩;obtain⟨hc,hf⟩:=bK hb;have hz0:w.heap.size<w'.heap.size:=(by have:=hb.size;(try simp only[bu] at this);omega))|(go_at_call 274;refine(Zg (_,_) _ _).mono ?_;rintro e w' ⟨rfl,hb⟩;obtain⟨hc,hf⟩:=bK hb;have hz0:w.heap.size<w'.heap.size:=(by have:=hb.size;(try simp only[bu] at this);omega)))
 all_goals
  go_returns
  exact⟨by simp only[fG];simp[*];try omega,zl⟩
end Go.Proofs.YthllkbbbapgelaaGreatDoor.jI
namespace Go.Proofs.YthllkbbbapgelaaGreatDoor.jI
open Go.RowKit Go.RG Go.SL Go.Shelf jy
theorem ajI (l:List dR) (v:Value) (bg:Nat) (fst caps:Array Value) (p:Nat->Bool) (I:Nat->World->Prop) (w:World) (eg: ∀args w,(callFunc bg args).run Tryz.prog w= .ok (.enter bg args) w)
 (hsl: ∀k W,I k W->bT W v l)
 (hcall: ∀k (hk:k<l.length) W,(∀j,j<k->p j=false)->I k W->Calls Tryz.prog bg (fst.push (rv l[k])++caps) W (fun e W'=>e= .returned (.bool (p k))/\I (k+1) W')) (h0:I 0 w):
 Calls Tryz.prog 310 #[v,.func (.func bg) fst caps] w (ed l.length p I (fun k=>iv k) (iv (-1))):=by
 have hlen:=(hsl 0 w h0).len
 obtain⟨o,c,rfl⟩:=(hsl 0 w h0).open
 have HC:=ae hcall
 have HS:=ae hsl
 clear hcall hsl
 go_enter Tryz.func310,Tryz.ntmps310
 go_wp2
 go_loopw [4,5,8] (fun _ _ i wr=> ∃k:Nat,k<=l.length/\i= .int .i64 k/\(∀j,j<k->p j=false)/\I k wr) (fun _ _ i _=>l.length-(intOf i).toNat)
 case atStart=>exact⟨0,bQ _,rfl,fun j hj=>by omega,h0⟩
 case round=>
  obtain⟨k,hk,rfl,hno,hI⟩:=hrel
  by_cases hlt:k<l.length
  ·obtain⟨b,off,rfl,hb,hc0,hc1⟩:=bT.cell (HS.o k wr hI) hlt
   have hC:=HC.o k hlt wr hno hI
   have HN:=ae hno
   clear hno
   go_wp2_with fail
   refine hC.mono ?_
   rintro e W1 ⟨rfl,hI1⟩
   have HI:=ae hI1
   clear hI1 hI hC
   cases hp:p k
   ·go_wp2_with fail
    go_roundw
    case rel=>exact⟨k+1,by omega,by go_num,fun j hj=>(by by_cases e:j=k;(subst e;exact hp);exact HN.o j (by omega)),HI.o⟩
    case measure=>simp[intOf];omega
   ·go_wp2_with fail
    go_returns
    exact⟨k,by omega,HN.o,.inl ⟨hlt,hp,by simp,HI.o⟩⟩
  ·have hkl:k=l.length:=by omega
   have HN:=ae hno
   clear hno
   go_wp2_with fail
   go_returns
   exact⟨k,by omega,HN.o,.inr ⟨hkl,by simp,by subst hkl;exact hI⟩⟩
theorem ad8 (l:List Int) (v:Value) (bg:Nat) (fst caps:Array Value) (p:Nat->Bool) (I:Nat->World->Prop) (w:World) (eg: ∀args w,(callFunc bg args).run Tryz.prog w= .ok (.enter bg args) w)
 (hsl: ∀k W,I k W->aO W v l)
 (hcall: ∀k (hk:k<l.length) W,(∀j,j<k->p j=false)->I k W->Calls Tryz.prog bg (fst.push (iv l[k])++caps) W (fun e W'=>e= .returned (.bool (p k))/\I (k+1) W')) (h0:I 0 w):
 Calls Tryz.prog 279 #[v,.func (.func bg) fst caps] w (ed l.length p I (fun k=>iv k) (iv (-1))):=by
 have hlen:=(hsl 0 w h0).len
 obtain⟨o,c,rfl⟩:=(hsl 0 w h0).open
 have HC:=ae hcall
 have HS:=ae hsl
 clear hcall hsl
 go_enter Tryz.func279,Tryz.ntmps279
 go_wp2
 go_loopw [4,5,8] (fun _ _ i wr=> ∃k:Nat,k<=l.length/\i= .int .i64 k/\(∀j,j<k->p j=false)/\I k wr) (fun _ _ i _=>l.length-(intOf i).toNat)
 case atStart=>exact⟨0,bQ _,rfl,fun j hj=>by omega,h0⟩
 case round=>
  obtain⟨k,hk,rfl,hno,hI⟩:=hrel
  by_cases hlt:k<l.length
  ·obtain⟨b,off,rfl,hb,hc0⟩:=aO.cell (HS.o k wr hI) hlt
   have hC:=HC.o k hlt wr hno hI
   have HN:=ae hno
   clear hno
   go_wp2_with fail
   refine hC.mono ?_
   rintro e W1 ⟨rfl,hI1⟩
   have HI:=ae hI1
   clear hI1 hI hC
   cases hp:p k
   ·go_wp2_with fail
    go_roundw
    case rel=>exact⟨k+1,by omega,by go_num,fun j hj=>(by by_cases e:j=k;(subst e;exact hp);exact HN.o j (by omega)),HI.o⟩
    case measure=>simp[intOf];omega
   ·go_wp2_with fail
    go_returns
    exact⟨k,by omega,HN.o,.inl ⟨hlt,hp,by simp,HI.o⟩⟩
  ·have hkl:k=l.length:=by omega
   have HN:=ae hno
   clear hno
   go_wp2_with fail
   go_returns
   exact⟨k,by omega,HN.o,.inr ⟨hkl,by simp,by subst hkl;exact hI⟩⟩
theorem ajG (l:List EX) (v:Value) (bg:Nat) (fst caps:Array Value) (p:Nat->Bool) (I:Nat->World->Prop) (w:World) (eg: ∀args w,(callFunc bg args).run Tryz.prog w= .ok (.enter bg args) w)
 (hsl: ∀k W,I k W->bJ W v l)
 (hcall: ∀k (hk:k<l.length) W,(∀j,j<k->p j=false)->I k W->Calls Tryz.prog bg (fst.push (xv l[k])++caps) W (fun e W'=>e= .returned (.bool (p k))/\I (k+1) W')) (h0:I 0 w):
 Calls Tryz.prog 311 #[v,.func (.func bg) fst caps] w (ed l.length p I (fun k=>iv k) (iv (-1))):=by
 have hlen:=(hsl 0 w h0).len
 obtain⟨o,c,rfl⟩:=(hsl 0 w h0).open
 have HC:=ae hcall
 have HS:=ae hsl
 clear hcall hsl
 go_enter Tryz.func311,Tryz.ntmps311
 go_wp2
 go_loopw [4,5,8] (fun _ _ i wr=> ∃k:Nat,k<=l.length/\i= .int .i64 k/\(∀j,j<k->p j=false)/\I k wr) (fun _ _ i _=>l.length-(intOf i).toNat)
 case atStart=>exact⟨0,bQ _,rfl,fun j hj=>by omega,h0⟩
 case round=>
  obtain⟨k,hk,rfl,hno,hI⟩:=hrel
  by_cases hlt:k<l.length
  ·obtain⟨b,off,rfl,hb,hc0,hc1,hc2⟩:=bJ.cell (HS.o k wr hI) hlt
   have hC:=HC.o k hlt wr hno hI
   have HN:=ae hno
   clear hno
   go_wp2_with fail
   refine hC.mono ?_
   rintro e W1 ⟨rfl,hI1⟩
   have HI:=ae hI1
   clear hI1 hI hC
   cases hp:p k
   ·go_wp2_with fail
    go_roundw
    case rel=>exact⟨k+1,by omega,by go_num,fun j hj=>(by by_cases e:j=k;(subst e;exact hp);exact HN.o j (by omega)),HI.o⟩
    case measure=>simp[intOf];omega
   ·go_wp2_with fail
    go_returns
    exact⟨k,by omega,HN.o,.inl ⟨hlt,hp,by simp,HI.o⟩⟩
  ·have hkl:k=l.length:=by omega
   have HN:=ae hno
   clear hno
   go_wp2_with fail
   go_returns
   exact⟨k,by omega,HN.o,.inr ⟨hkl,by simp,by subst hkl;exact hI⟩⟩
theorem ah0 (l:List dR) (v:Value) (bg:Nat) (fst caps:Array Value) (p:Nat->Bool) (I:Nat->World->Prop) (w:World) (eg: ∀args w,(callFunc bg args).run Tryz.prog w= .ok (.enter bg args) w)
 (hsl: ∀k W,I k W->bT W v l)
 (hcall: ∀k (hk:k<l.length) W,(∀j,j<k->p j=false)->I k W->Calls Tryz.prog bg (fst.push (rv l[k])++caps) W (fun e W'=>e= .returned (.bool (p k))/\I (k+1) W')) (h0:I 0 w):
 Calls Tryz.prog 275 #[v,.func (.func bg) fst caps] w (ed l.length p I (fun _=> .bool true) (.bool false)):=by
 have HI:=ae (ajI l v bg fst caps p I w eg hsl hcall h0)
 have hlen:=(hsl 0 w h0).len
 clear hsl hcall h0 eg
 go_enter Tryz.func275,Tryz.ntmps275
 go_wp2_with fail
 refine HI.o.mono ?_
 clear HI
 rintro e W' ⟨k,hk,hno,⟨hlt,hp,rfl,hI⟩|⟨hkl,rfl,hI⟩⟩
 ·have HN:=ae (ag hno (ag hp hI))
  clear hno hp hI
  go_wp2_with fail
  go_returns
  exact⟨k,hk,HN.o.1,.inl ⟨hlt,HN.o.2.1,by simp,HN.o.2.2⟩⟩
 ·have HN:=ae (ag hno (ag hkl hI))
  clear hno hkl hI
  go_wp2_with fail
  go_returns
  exact⟨k,hk,HN.o.1,.inr ⟨HN.o.2.1,by simp,HN.o.2.1▸HN.o.2.2⟩⟩
theorem Px (l:List Int) (v:Value) (bg:Nat) (fst caps:Array Value) (p:Nat->Bool) (I:Nat->World->Prop) (w:World) (eg: ∀args w,(callFunc bg args).run Tryz.prog w= .ok (.enter bg args) w)
 (hsl: ∀k W,I k W->aO W v l)
 (hcall: ∀k (hk:k<l.length) W,(∀j,j<k->p j=false)->I k W->Calls Tryz.prog bg (fst.push (iv l[k])++caps) W (fun e W'=>e= .returned (.bool (p k))/\I (k+1) W')) (h0:I 0 w):
 Calls Tryz.prog 217 #[v,.func (.func bg) fst caps] w (ed l.length p I (fun _=> .bool true) (.bool false)):=by
 have HI:=ae (ad8 l v bg fst caps p I w eg hsl hcall h0)
 have hlen:=(hsl 0 w h0).len
 clear hsl hcall h0 eg
 go_enter Tryz.func217,Tryz.ntmps217
 go_wp2_with fail
 refine HI.o.mono ?_
 clear HI
 rintro e W' ⟨k,hk,hno,⟨hlt,hp,rfl,hI⟩|⟨hkl,rfl,hI⟩⟩
 ·have HN:=ae (ag hno (ag hp hI))
  clear hno hp hI
  go_wp2_with fail
  go_returns
  exact⟨k,hk,HN.o.1,.inl ⟨hlt,HN.o.2.1,by simp,HN.o.2.2⟩⟩
 ·have HN:=ae (ag hno (ag hkl hI))
  clear hno hkl hI
  go_wp2_with fail
  go_returns
  exact⟨k,hk,HN.o.1,.inr ⟨HN.o.2.1,by simp,HN.o.2.1▸HN.o.2.2⟩⟩
theorem ahY (l:List EX) (v:Value) (bg:Nat) (fst caps:Array Value) (p:Nat->Bool) (I:Nat->World->Prop) (w:World) (eg: ∀args w,(callFunc bg args).run Tryz.prog w= .ok (.enter bg args) w)
 (hsl: ∀k W,I k W->bJ W v l)
 (hcall: ∀k (hk:k<l.length) W,(∀j,j<k->p j=false)->I k W->Calls Tryz.prog bg (fst.push (xv l[k])++caps) W (fun e W'=>e= .returned (.bool (p k))/\I (k+1) W')) (h0:I 0 w):
 Calls Tryz.prog 277 #[v,.func (.func bg) fst caps] w (ed l.length p I (fun _=> .bool true) (.bool false)):=by
 have HI:=ae (ajG l v bg fst caps p I w eg hsl hcall h0)
 have hlen:=(hsl 0 w h0).len
 clear hsl hcall h0 eg
 go_enter Tryz.func277,Tryz.ntmps277
 go_wp2_with fail
 refine HI.o.mono ?_
 clear HI
 rintro e W' ⟨k,hk,hno,⟨hlt,hp,rfl,hI⟩|⟨hkl,rfl,hI⟩⟩
 ·have HN:=ae (ag hno (ag hp hI))
  clear hno hp hI
  go_wp2_with fail
  go_returns
  exact⟨k,hk,HN.o.1,.inl ⟨hlt,HN.o.2.1,by simp,HN.o.2.2⟩⟩
 ·have HN:=ae (ag hno (ag hkl hI))
  clear hno hkl hI
  go_wp2_with fail
  go_returns
  exact⟨k,hk,HN.o.1,.inr ⟨HN.o.2.1,by simp,HN.o.2.1▸HN.o.2.2⟩⟩
theorem ah8 (x:dR) (bx bg:Nat) (fst caps:Array Value) (b:Bool) (W:World) (R:World->Prop) (eg: ∀args w,(callFunc bg args).run Tryz.prog w= .ok (.enter bg args) w)
 (hbx:W.cell? ⟨bx,0,none⟩=some (.func (.func bg) fst caps))
 (hcall:Calls Tryz.prog bg (fst.push (rv x)++caps) (W.alloc (.cells #[iv x.1,iv x.2] 50)) (fun e W'=>e= .returned (.bool b)/\R W')):
 Calls Tryz.prog 276 #[rv x,.pointer (some ⟨bx,0,none⟩)] W (fun e W'=>e= .returned (.bool !b)/\R W'):=by
 have hlt:=dI W _ hbx
 have HC:=ae hcall
 clear hcall
 go_enter Tryz.func276,Tryz.ntmps276
 go_wp2_with fail
 refine HC.o.mono ?_
 rintro e W' ⟨rfl,hR⟩
 have HR:=ae hR
 clear hR
 go_wp2_with fail
 go_returns
 exact⟨by simp,HR.o⟩
theorem aia (x:Int) (bx bg:Nat) (fst caps:Array Value) (b:Bool) (W:World) (R:World->Prop) (eg: ∀args w,(callFunc bg args).run Tryz.prog w= .ok (.enter bg args) w)
 (hbx:W.cell? ⟨bx,0,none⟩=some (.func (.func bg) fst caps))
 (hcall:Calls Tryz.prog bg (fst.push (iv x)++caps) W (fun e W'=>e= .returned (.bool b)/\R W')):
 Calls Tryz.prog 218 #[iv x,.pointer (some ⟨bx,0,none⟩)] W (fun e W'=>e= .returned (.bool !b)/\R W'):=by
 have hlt:=dI W _ hbx
 have HC:=ae hcall
 clear hcall
 go_enter Tryz.func218,Tryz.ntmps218
 go_wp2_with fail
 refine HC.o.mono ?_
 rintro e W' ⟨rfl,hR⟩
 have HR:=ae hR
 clear hR
 go_wp2_with fail
 go_returns
 exact⟨by simp,HR.o⟩
theorem ah7 (x:EX) (bx bg:Nat) (fst caps:Array Value) (b:Bool) (W:World) (R:World->Prop) (eg: ∀args w,(callFunc bg args).run Tryz.prog w= .ok (.enter bg args) w)
 (hbx:W.cell? ⟨bx,0,none⟩=some (.func (.func bg) fst caps))
 (hcall:Calls Tryz.prog bg (fst.push (xv x)++caps) (W.alloc (.cells #[iv x.1,iv x.2.1,iv x.2.2] 190)) (fun e W'=>e= .returned (.bool b)/\R W')):
 Calls Tryz.prog 278 #[xv x,.pointer (some ⟨bx,0,none⟩)] W (fun e W'=>e= .returned (.bool !b)/\R W'):=by
 have hlt:=dI W _ hbx
 have HC:=ae hcall
 clear hcall
 go_enter Tryz.func278,Tryz.ntmps278
 go_wp2_with fail
 refine HC.o.mono ?_
 rintro e W' ⟨rfl,hR⟩
 have HR:=ae hR
 clear hR
 go_wp2_with fail
 go_returns
 exact⟨by simp,HR.o⟩
theorem ak7 (l:List dR) (v:Value) (bg:Nat) (fst caps:Array Value) (p:Nat->Bool) (I:Nat->World->Prop) (w:World) (eg: ∀args w,(callFunc bg args).run Tryz.prog w= .ok (.enter bg args) w)
 (hsl: ∀k W,I k W->bT W v l) (hal: ∀k W o,I k W->I k (W.alloc o))
 (hcall: ∀k (hk:k<l.length) W,(∀j,j<k->p j=true)->I k W->Calls Tryz.prog bg (fst.push (rv l[k])++caps) W (fun e W'=>e= .returned (.bool (p k))/\I (k+1) W'/\jq w.heap.size W W')) (h0:I 0 w):
 Calls Tryz.prog 209 #[v,.func (.func bg) fst caps] w (ed l.length (fun k=>!p k) I (fun _=> .bool false) (.bool true)):=by
 have HI:=ae (ah0 l v 276 #[] #[.pointer (some ⟨w.heap.size,0,none⟩)] (fun k=>!p k)
  (fun k W=>I k W/\W.heap[w.heap.size]? =some (.cells #[.func (.func bg) fst caps] 330 (0,0))) (w.alloc (.cells #[.func (.func bg) fst caps] 330))
  (enters_of Tryz.func276 (by kernel_rfl) rfl) (fun k W h=>hsl k W h.1)
  (fun k hk W hno h=>by
    have hlt:w.heap.size<W.heap.size:=(aS.1 h.2).1
    refine(ah8 l[k] w.heap.size bg fst caps (p k) W (fun W'=>I (k+1) W'/\W'.heap[w.heap.size]? =some (.cells #[.func (.func bg) fst caps] 330 (0,0))) eg (aB h.2) ?_)
    refine(hcall k hk _ (fun j hj=>by simpa using hno j hj) (by first|exact hal _ _ _ h.1|exact h.1)).mono ?_
    rintro e W' ⟨rfl,h1,h2⟩
    refine⟨rfl,h1,(h2.block _ (ai _) (by first|exact hlt|(simp;omega))).trans (by first|exact h.2|exact(aV _ _ _ hlt).trans h.2)⟩)
  ⟨hal _ _ _ h0,heap_alloc_new w _⟩)
 have hlen:=(hsl 0 w h0).len
 clear hsl hcall h0 eg hal
 go_enter Tryz.func209,Tryz.ntmps209
 go_wp2_with fail
 refine HI.o.mono ?_
 clear HI
 rintro e W' ⟨k,hk,hno,⟨hlt,hp,rfl,hI,_⟩|⟨hkl,rfl,hI,_⟩⟩
 ·have HN:=ae (ag hno (ag hp hI))
  clear hno hp hI
  go_wp2_with fail
  go_returns
  exact⟨k,hk,HN.o.1,.inl ⟨hlt,HN.o.2.1,by simp,HN.o.2.2⟩⟩
 ·have HN:=ae (ag hno (ag hkl hI))
  clear hno hkl hI
  go_wp2_with fail
  go_returns
  exact⟨k,hk,HN.o.1,.inr ⟨HN.o.2.1,by simp,HN.o.2.1▸HN.o.2.2⟩⟩
theorem allI (l:List Int) (v:Value) (bg:Nat) (fst caps:Array Value) (p:Nat->Bool) (I:Nat->World->Prop) (w:World) (eg: ∀args w,(callFunc bg args).run Tryz.prog w= .ok (.enter bg args) w)
 (hsl: ∀k W,I k W->aO W v l) (hal: ∀k W o,I k W->I k (W.alloc o))
 (hcall: ∀k (hk:k<l.length) W,(∀j,j<k->p j=true)->I k W->Calls Tryz.prog bg (fst.push (iv l[k])++caps) W (fun e W'=>e= .returned (.bool (p k))/\I (k+1) W'/\jq w.heap.size W W')) (h0:I 0 w):
 Calls Tryz.prog 135 #[v,.func (.func bg) fst caps] w (ed l.length (fun k=>!p k) I (fun _=> .bool false) (.bool true)):=by
 have HI:=ae (Px l v 218 #[] #[.pointer (some ⟨w.heap.size,0,none⟩)] (fun k=>!p k)
  (fun k W=>I k W/\W.heap[w.heap.size]? =some (.cells #[.func (.func bg) fst caps] 274 (0,0))) (w.alloc (.cells #[.func (.func bg) fst caps] 274))
  (enters_of Tryz.func218 (by kernel_rfl) rfl) (fun k W h=>hsl k W h.1)
  (fun k hk W hno h=>by
    have hlt:w.heap.size<W.heap.size:=(aS.1 h.2).1
    refine(aia l[k] w.heap.size bg fst caps (p k) W (fun W'=>I (k+1) W'/\W'.heap[w.heap.size]? =some (.cells #[.func (.func bg) fst caps] 274 (0,0))) eg (aB h.2) ?_)
    refine(hcall k hk _ (fun j hj=>by simpa using hno j hj) (by first|exact hal _ _ _ h.1|exact h.1)).mono ?_
    rintro e W' ⟨rfl,h1,h2⟩
    refine⟨rfl,h1,(h2.block _ (ai _) (by first|exact hlt|(simp;omega))).trans (by first|exact h.2|exact(Below.heap_alloc _ _ _ hlt).trans h.2)⟩)
  ⟨hal _ _ _ h0,heap_alloc_new w _⟩)
 have hlen:=(hsl 0 w h0).len
 clear hsl hcall h0 eg hal
 go_enter Tryz.func135,Tryz.ntmps135
 go_wp2_with fail
 refine HI.o.mono ?_
 clear HI
 rintro e W' ⟨k,hk,hno,⟨hlt,hp,rfl,hI,_⟩|⟨hkl,rfl,hI,_⟩⟩
 ·have HN:=ae (ag hno (ag hp hI))
  clear hno hp hI
  go_wp2_with fail
  go_returns
  exact⟨k,hk,HN.o.1,.inl ⟨hlt,HN.o.2.1,by simp,HN.o.2.2⟩⟩
 ·have HN:=ae (ag hno (ag hkl hI))
  clear hno hkl hI
  go_wp2_with fail
  go_returns
  exact⟨k,hk,HN.o.1,.inr ⟨HN.o.2.1,by simp,HN.o.2.1▸HN.o.2.2⟩⟩
theorem ak6 (l:List EX) (v:Value) (bg:Nat) (fst caps:Array Value) (p:Nat->Bool) (I:Nat->World->Prop) (w:World) (eg: ∀args w,(callFunc bg args).run Tryz.prog w= .ok (.enter bg args) w)
 (hsl: ∀k W,I k W->bJ W v l) (hal: ∀k W o,I k W->I k (W.alloc o))
 (hcall: ∀k (hk:k<l.length) W,(∀j,j<k->p j=true)->I k W->Calls Tryz.prog bg (fst.push (xv l[k])++caps) W (fun e W'=>e= .returned (.bool (p k))/\I (k+1) W'/\jq w.heap.size W W')) (h0:I 0 w):
 Calls Tryz.prog 211 #[v,.func (.func bg) fst caps] w (ed l.length (fun k=>!p k) I (fun _=> .bool false) (.bool true)):=by
 have HI:=ae (ahY l v 278 #[] #[.pointer (some ⟨w.heap.size,0,none⟩)] (fun k=>!p k)
  (fun k W=>I k W/\W.heap[w.heap.size]? =some (.cells #[.func (.func bg) fst caps] 328 (0,0))) (w.alloc (.cells #[.func (.func bg) fst caps] 328))
  (enters_of Tryz.func278 (by kernel_rfl) rfl) (fun k W h=>hsl k W h.1)
  (fun k hk W hno h=>by
    have hlt:w.heap.size<W.heap.size:=(aS.1 h.2).1
    refine(ah7 l[k] w.heap.size bg fst caps (p k) W (fun W'=>I (k+1) W'/\W'.heap[w.heap.size]? =some (.cells #[.func (.func bg) fst caps] 328 (0,0))) eg (aB h.2) ?_)
    refine(hcall k hk _ (fun j hj=>by simpa using hno j hj) (by first|exact hal _ _ _ h.1|exact h.1)).mono ?_
    rintro e W' ⟨rfl,h1,h2⟩
    refine⟨rfl,h1,(h2.block _ (ai _) (by first|exact hlt|(simp;omega))).trans (by first|exact h.2|exact(aV _ _ _ hlt).trans h.2)⟩)
  ⟨hal _ _ _ h0,heap_alloc_new w _⟩)
 have hlen:=(hsl 0 w h0).len
 clear hsl hcall h0 eg hal
 go_enter Tryz.func211,Tryz.ntmps211
 go_wp2_with fail
 refine HI.o.mono ?_
 clear HI
 rintro e W' ⟨k,hk,hno,⟨hlt,hp,rfl,hI,_⟩|⟨hkl,rfl,hI,_⟩⟩
 ·have HN:=ae (ag hno (ag hp hI))
  clear hno hp hI
  go_wp2_with fail
  go_returns
  exact⟨k,hk,HN.o.1,.inl ⟨hlt,HN.o.2.1,by simp,HN.o.2.2⟩⟩
 ·have HN:=ae (ag hno (ag hkl hI))
  clear hno hkl hI
  go_wp2_with fail
  go_returns
  exact⟨k,hk,HN.o.1,.inr ⟨HN.o.2.1,by simp,HN.o.2.1▸HN.o.2.2⟩⟩
end Go.Proofs.YthllkbbbapgelaaGreatDoor.jI
namespace Go.Proofs.YthllkbbbapgelaaGreatDoor.jI
open Go.RowKit Go.RG Go.SL Go.Shelf jy
theorem NY (h:cZ) (a b c:Value) (x:EX) (w:World):Calls Tryz.prog 207 #[hv h a b c,xv x] w (PV (.bool (Be h.last x)) w):=by
 go_enter Tryz.func207,Tryz.ntmps207
 go_wp2_with (first|(go_at_call 273;refine(yw h _ _ _ _ _).mono ?_;rintro e w' ⟨rfl,hb⟩;obtain⟨hc,hf⟩:=bK hb;have hz0:w.heap.size<w'.heap.size:=(by have:=hb.size;(try simp only[bu] at this);omega);have hz1:w.heap.size+1<w'.heap.size:=(by have:=hb.size;(try simp only[bu] at this);omega))|(go_at_call 215;refine(sG _ _ _ _).mono ?_;rintro e w' ⟨rfl,hb⟩;obtain⟨hc,hf⟩:=bK hb;have hz0:w.heap.size<w'.heap.size:=(by have:=hb.size;(try simp only[bu] at this);omega);have hz1:w.heap.size+1<w'.heap.size:=(by have:=hb.size;(try simp only[bu] at this);omega)))
 all_goals
  go_returns
  exact⟨by simp[Be, *],zl⟩
theorem yU (x:EX) (l0 l1 l2 l3 l4 l5 l6 l7 l8 l9:Int) (w:World) (h0:0<=x.1) (h9:x.1<=9) (hs0:0<=x.2.1) (hs1:x.2.1<=1000) (he0:0<=x.2.2) (he1:x.2.2<=50)
 (hl: ∀n∈[l0,l1,l2,l3,l4,l5,l6,l7,l8,l9],0<=n/\n<=100000):
 Calls Tryz.prog 148 #[xv x,.agg #[iv l0,iv l1,iv l2,iv l3,iv l4,iv l5,iv l6,iv l7,iv l8,iv l9]] w (PV (.bool (CX x [l0,l1,l2,l3,l4,l5,l6,l7,l8,l9])) w):=by
 obtain⟨hh,xs,xe⟩:=x
 simp only at h0 h9 hs0 hs1 he0 he1
 obtain⟨k,rfl⟩:=Int.eq_ofNat_of_zero_le h0
 have hk:k<10:=by omega
 have hlk:=hl ([l0,l1,l2,l3,l4,l5,l6,l7,l8,l9][k]'(by simpa using hk)) (dh _)
 generalize hm:[l0,l1,l2,l3,l4,l5,l6,l7,l8,l9][k]'(by simpa using hk)=m at hlk
 have hcell:(w.alloc (.cells #[iv k,iv xs,iv xe] 190) |>.alloc (.cells #[iv l0,iv l1,iv l2,iv l3,iv l4,iv l5,iv l6,iv l7,iv l8,iv l9] 178)).cell? ⟨w.heap.size+1,k,none⟩=some (iv m):=by
  have:([iv l0,iv l1,iv l2,iv l3,iv l4,iv l5,iv l6,iv l7,iv l8,iv l9]:List Value)[k]? =some (iv m):=by
   have:([l0,l1,l2,l3,l4,l5,l6,l7,l8,l9].map iv)[k]? =some (iv m):=by
    rw[qy,dw (by simpa using hk),hm];rfl
   exact this
  simp only[World.cell?]
  rw[show(w.alloc (.cells #[iv k,iv xs,iv xe] 190) |>.alloc (.cells #[iv l0,iv l1,iv l2,iv l3,iv l4,iv l5,iv l6,iv l7,iv l8,iv l9] 178)).heap[w.heap.size+1]? =some (.cells #[iv l0,iv l1,iv l2,iv l3,iv l4,iv l5,iv l6,iv l7,iv l8,iv l9] 178) from by
   have:=heap_alloc_new (w.alloc (.cells #[iv k,iv xs,iv xe] 190)) (.cells #[iv l0,iv l1,iv l2,iv l3,iv l4,iv l5,iv l6,iv l7,iv l8,iv l9] 178)
   rwa [bu] at this]
  simpa using this
 have hr:CX ((k:Int),xs,xe) [l0,l1,l2,l3,l4,l5,l6,l7,l8,l9]=nS (m-xs) (-xe) xe:=by
  simp only[CX,Int.toNat_natCast,gV]
  rw[dw (by simpa using hk),hm];rfl
 have HR:=ae hr
 clear hr hm hl
 have hk':(k:Int)<10:=by omega
 go_enter Tryz.func148,Tryz.ntmps148
 go_wp2_with fail
 refine zg 13 [] none [(12,Spec.val (.bool (nS (m-xs) (-xe) xe)))] ?_
 simp only[zt]
 repeat (refine zn ?_;simp only[zp])
 refine zv 215 (h:=fun W hE hF=>by exact sG _ _ _ _) (t:=?_)
 simp only[zp]
 repeat (refine zd ?_;simp only[zp])
 intro W hE hF
 obtain⟨hc,hf⟩:=bK hE.below
 have hzE:=hE.size
 (try simp only[bu] at hzE)
 go_wp2
 go_returns
 rw[HR.o]
 exact⟨by simp,(by repeat (first|exact aH _ _|assumption|refine aY ?_ hE.below|refine aj ?_ _|refine qG ?_))⟩
theorem Bg (a b:Int) (g c:Nat) (w:World) (h0:w.cell? ⟨g,0,none⟩=some (iv a)) (h1:w.cell? ⟨g,1,none⟩=some (iv b)):
 Calls Tryz.prog 198 #[.slice (some ⟨g,0,none⟩) 2 c] w (PV (iv (min a b)) w):=by
 go_enter Tryz.func198,Tryz.ntmps198
 go_wp2
 go_rounds 2
 all_goals
  go_returns
  exact⟨by simp <;>omega,aH _ _⟩
theorem Ej (a b:Int) (g c:Nat) (w:World) (h0:w.cell? ⟨g,0,none⟩=some (iv a)) (h1:w.cell? ⟨g,1,none⟩=some (iv b)):
 Calls Tryz.prog 212 #[.slice (some ⟨g,0,none⟩) 2 c] w (PV (iv (min a b)) w):=by
 have H:=ae (Bg a b g c w h0 h1)
 go_enter Tryz.func212,Tryz.ntmps212
 go_wp2_with fail
 refine H.o.mono ?_
 rintro e w' ⟨rfl,hb⟩
 go_wp2_with fail
 go_returns
 exact⟨by simp,hb⟩
theorem Jo (r:dR) (n:Int) (w:World):Calls Tryz.prog 132 #[rv r,iv n] w (PV (rv (min r.1 n,max r.2 n)) w):=by
 go_enter Tryz.func132,Tryz.ntmps132
 go_wp2_with fail
 refine zg 10 [] none [(3,Spec.slice (w.heap.size+2) #[iv r.1,iv n] 3 2),(4,Spec.val (iv (min r.1 n)))] ?_
 simp only[zt]
 repeat (refine zd ?_;simp only[zp])
 refine dY (w.heap.size+2) _ _ _ (by rfl) (by simp) (by rfl) (by simp) (by simp) (fun W hW=>by go_simp;try rfl) (fun b=>?_)
 simp only[zp]
 refine eF _ (by rfl) (by rfl) 212 _ (fun W hW=>by go_simp;try rfl) (fun W hE hF=>?_) ?_
 ·obtain⟨c,hcb,hB,hc⟩:=hF _ (bF _) (by kernel_rfl)
  cases hcb
  exact Ej r.1 n b 2 W (by simp[World.cell?,hc]) (by simp[World.cell?,hc])
 simp only[zp]
 repeat (refine zd ?_;simp only[zp])
 intro W hE hF
 obtain⟨hc,hf⟩:=bK hE.below
 have hzE:=hE.size
 (try simp only[bu] at hzE)
 go_wp2
 all_goals
  (try simp only[Exit.inBlock,Exit.then])
  refine bodyPost_ret (v:=rv (min r.1 n,max r.2 n)) (by simp[results,Tryz.results132,go_sem,hc];try omega) rfl ?_
  exact⟨rfl,ze⟩
theorem iJ (l:List Int) (v:Value) (n:Int) (w:World) (hv:aO w v l):Calls Tryz.prog 147 #[v,iv n] w (PV (.bool (l.contains n)) w):=by
 have hidx:Calls Tryz.prog 235 #[v,iv n] w (fun e w'=>w=w'/\((l.contains n=true/\ ∃k:Nat,k<l.length/\e= .returned (iv k))∨(l.contains n=false/\e= .returned (iv (-1))))):=by
  have hlen:=hv.len
  obtain⟨o,c,rfl⟩:=hv.open
  have HV:=ae hv
  clear hv
  go_enter Tryz.func235,Tryz.ntmps235
  go_wp2
  go_loop [4,5,8] (fun _ _ i=> ∃k:Nat,k<=l.length/\i= .int .i64 k/\(∀j (hj:j<l.length),j<k->l[j]≠n)) (fun _ _ i=>l.length-(intOf i).toNat)
  case atStart=>exact⟨0,bQ _,rfl,fun j _ hj=>by omega⟩
  case round=>
   obtain⟨k,hk,rfl,hno⟩:=hrel
   have HN:=ae hno
   clear hno
   by_cases hlt:k<l.length
   ·obtain⟨b,off,rfl,hb,hc0⟩:=aO.cell HV.o hlt
    by_cases he:l[k]=n
    ·have he':(n==l[k])=true:=by simp[he]
     have HE:=ae he
     clear he
     go_wp2
     go_returns
     exact⟨rfl,.inl ⟨by rw[<-HE.o];exact dh _,k,hlt,by simp⟩⟩
    ·have he':(n==l[k])=false:=by simp;omega
     have HE:=ae he
     clear he
     go_wp2
     go_round
     case rel=>exact⟨k+1,by omega,by go_num,fun j hj hjk=>(by by_cases e:j=k;(subst e;exact HE.o);exact HN.o j hj (by omega))⟩
     case measure=>simp[intOf];omega
   ·have hkl:k=l.length:=by omega
    go_wp2
    go_returns
    refine⟨rfl,.inr ⟨?_,by simp⟩⟩
    intro hm
    obtain⟨j,hj,e⟩:=mF hm
    exact HN.o j hj (by omega) e
 have HI:=ae hidx
 clear hidx
 go_enter Tryz.func147,Tryz.ntmps147
 go_wp2_with fail
 refine HI.o.mono ?_
 rintro e w' ⟨rfl,⟨hc,k,hk,rfl⟩|⟨hc,rfl⟩⟩
 ·have HC:=ae hc
  clear hc
  go_wp2_with fail
  go_returns
  exact⟨by rw[HC.o];simp,aH _ _⟩
 ·have HC:=ae hc
  clear hc
  go_wp2_with fail
  go_returns
  exact⟨by rw[HC.o];simp,aH _ _⟩
theorem KY:iQ Tryz.prog 51 50 (rv (0,0)) 2 16:=⟨Tryz.underlying51,by kernel_rfl,rfl,by omega⟩
theorem sK:iQ Tryz.prog 52 3 (iv 0) 1 8:=⟨Tryz.underlying52,by kernel_rfl,rfl,by omega⟩
theorem Rf (h:cZ) (wv b c:Value) (w:World) (hw:bT w wv h.bZ) (hlen:h.bZ.length<=1000):
 Calls Tryz.prog 146 #[hv h wv b c] w (PSl 2 (h.bZ.length+1) (aG (h.start::h.bZ)) w):=by
 obtain⟨o,cc,rfl⟩:=hw.open
 have HW:=ae hw
 clear hw
 go_enter Tryz.func146,Tryz.ntmps146
 go_wp2_with (at_builtin;refine fV rfl _ _ KY rfl (w.heap.size+1) (.slice (some ⟨w.heap.size+1,0,none⟩) 1 1) 1 [iv h.start.1,iv h.start.2] rfl ?_ (.slice o h.bZ.length cc) h.bZ.length (aG h.bZ) rfl ?_ (oN _) (by omega) (by omega) (by simp) ?_)
 ·exact iM (dV _ _ _) rfl (ai _) (by decide)
 ·exact(HW.o.alloc _).alloc _
 ·intro v' w1 hown hgrow
  have HO:=ae hown
  have HG:=ae hgrow
  clear hown hgrow
  go_wp2
  go_returns
  refine⟨v',by simp,?_,?_⟩
  ·have:=aN.dU HO.o
   rw[Nat.add_comm] at this
   exact this
  ·exact Below.grown (aj (aj (aH _ _) _) _) HG.o (by simp;omega) (fun k e=>by cases e;show _<=w.heap.size+1;omega)
theorem Vm (h:cZ) (n p:Int) (lb hb:Nat) (w:World) (hl:w.heap[lb]? =some (.cells #[iv p] 3 (0,0))) (hh:w.cell? ⟨hb,0,none⟩=some (iv h.last))
 (hp0: -1<=p) (hp1:p<=1000):
 Calls Tryz.prog 214 #[iv n,.pointer (some ⟨lb,0,none⟩),.pointer (some ⟨hb,0,none⟩)] w
  (fun e w'=>e= .returned (.bool (nS n (p+1) h.last))/\w'.heap[lb]? =some (.cells #[iv n] 3 (0,0))/\Ext [lb] w w'):=by
 have hc:=aB hl
 have hf:w.frozen? ⟨lb,0,none⟩=false:=by simp[World.frozen?,hl]
 have hlt:=dI w _ hc
 have hlt2:=dI w _ hh
 have HL:=ae hl
 clear hl
 go_enter Tryz.func214,Tryz.ntmps214
 go_wp2_with (go_at_call 215;refine(sG _ _ _ _).mono ?_;rintro e w' ⟨rfl,hb⟩;obtain⟨hc,hf⟩:=bK hb)
 go_returns
 refine⟨by simp,?_,?_⟩
 ·exact aI ((hb.block lb hlt).trans HL.o) _
 ·exact(Ext.aA hb).trans (mJ w' ⟨lb,0,none⟩ _)
end Go.Proofs.YthllkbbbapgelaaGreatDoor.jI
namespace Go.Proofs.YthllkbbbapgelaaGreatDoor.jI
open Go.RowKit Go.RG Go.SL Go.Shelf jy
theorem pg (h:cZ) (a b c v:Value) (l:List Int) (w:World) (hv':aO w v l) (h0:0<=h.last) (h9:h.last<=9):
 Calls Tryz.prog 129 #[hv h a b c,v] w (PV (.bool (og h.last l)) w):=by
 have HA:=ae (allI l v 214 #[] #[.pointer (some ⟨w.heap.size+1,0,none⟩),.pointer (some ⟨w.heap.size,0,none⟩)] (aaP h.last (-1) l)
  (fun k W=>W.heap[w.heap.size+1]? =some (.cells #[iv (((-1:Int)::l).getD k 0)] 3 (0,0))/\W.cell? ⟨w.heap.size,0,none⟩=some (iv h.last)/\Below w.heap.size w W)
  ((w.alloc (.cells #[iv h.last,iv h.size,iv h.aZ,iv h.die,iv h.uF,iv h.start.1,iv h.start.2,a,b,c] 55)).alloc (.cells #[iv (-1)] 3))
  (enters_of Tryz.func214 (by kernel_rfl) rfl) (fun k W hI=>hv'.below hI.2.2 (ai _))
  (fun k W o hI=>⟨(aV _ _ _ (aS.1 hI.1).1).trans hI.1,by
    have:=dI W _ hI.2.1
    rw[jd (w:=W) (aV _ _ _ this)];exact hI.2.1,aj hI.2.2 _⟩)
  (fun k hk W hno hI=>by
    have hp:=Xx h.last h0 l k hno (by omega)
    refine(Vm h l[k] (((-1:Int)::l).getD k 0) (w.heap.size+1) w.heap.size W hI.1 hI.2.1 hp.1 (by omega)).mono ?_
    rintro e W' ⟨rfl,h1,h2⟩
    refine⟨?_,⟨?_,?_,?_⟩,?_⟩
    ·have e:l.getD k 0=l[k]:=by simp[hk]
     simp only[aaP,e]
    ·rw[List.getD_cons_succ,show l.getD k 0=l[k] from by simp[hk]];exact h1
    ·have hlt:=dI W _ hI.2.1
     rw[h2.cell _ _ hlt (by simp)];exact hI.2.1
    ·exact hI.2.2.trans ⟨h2.os,h2.tape,h2.output,h2.size,fun i hi=>h2.block i (by have:=hI.2.2.size;omega) (by simp;omega)⟩
    ·exact jq.wH h2 (by simp))
  ⟨dV _ _ _,by
    rw[jd (w:=w.alloc (.cells #[iv h.last,iv h.size,iv h.aZ,iv h.die,iv h.uF,iv h.start.1,iv h.start.2,a,b,c] 55)) (aV _ _ _ (by simp))]
    simp only[World.cell?,ay];rfl,aj (aj (aH _ _) _) _⟩)
 clear hv'
 go_enter Tryz.func129,Tryz.ntmps129
 go_wp2_with fail
 refine HA.o.mono ?_
 rintro e W' hpost
 obtain⟨rfl,k,hk,hI⟩:=hpost.all
 have HI:=ae hI.2.2
 clear hI hpost
 go_wp2_with fail
 go_returns
 refine⟨?_,HI.o⟩
 rw[og,IP, <-jH]
 simp
theorem XA (l:List dR) (v:Value) (bg:Nat) (fst caps:Array Value) (q:dR->Bool) (w:World) (hv:bT w v l) (eg: ∀args w,(callFunc bg args).run Tryz.prog w= .ok (.enter bg args) w)
 (hcall: ∀x∈l, ∀W,Below w.heap.size w W->Calls Tryz.prog bg (fst.push (rv x)++caps) W (PV (.bool (q x)) W)):
 Calls Tryz.prog 209 #[v,.func (.func bg) fst caps] w (PV (.bool (l.all q)) w):=by
 refine(ak7 l v bg fst caps (fun k=>q (l.getD k (0,0))) (fun _ W=>Below w.heap.size w W) w eg (fun k W h=>hv.below h (ai _)) (fun k W o h=>aj h o) (fun k hk W _ h=>?_) (aH _ _)).mono ?_
 ·refine(hcall l[k] (dh _) W h).mono ?_
  rintro e W' ⟨rfl,hb⟩
  exact⟨by simp[hk],aY h hb,jq.aA hb⟩
 ·intro e W' hpost
  obtain⟨rfl,k,_,hI⟩:=hpost.all
  refine⟨?_,hI⟩
  rw[jH,jR]
theorem Xz (l:List EX) (v:Value) (bg:Nat) (fst caps:Array Value) (q:EX->Bool) (w:World) (hv:bJ w v l) (eg: ∀args w,(callFunc bg args).run Tryz.prog w= .ok (.enter bg args) w)
 (hcall: ∀x∈l, ∀W,Below w.heap.size w W->Calls Tryz.prog bg (fst.push (xv x)++caps) W (PV (.bool (q x)) W)):
 Calls Tryz.prog 211 #[v,.func (.func bg) fst caps] w (PV (.bool (l.all q)) w):=by
 refine(ak6 l v bg fst caps (fun k=>q (l.getD k (0,0,0))) (fun _ W=>Below w.heap.size w W) w eg (fun k W h=>hv.below h (ai _)) (fun k W o h=>aj h o) (fun k hk W _ h=>?_) (aH _ _)).mono ?_
 ·refine(hcall l[k] (dh _) W h).mono ?_
  rintro e W' ⟨rfl,hb⟩
  exact⟨by simp[hk],aY h hb,jq.aA hb⟩
 ·intro e W' hpost
  obtain⟨rfl,k,_,hI⟩:=hpost.all
  refine⟨?_,hI⟩
  rw[jH,jR]
theorem MX (l:List dR) (v:Value) (w:World) (hv:bT w v l):Calls Tryz.prog 209 #[v,.func (.func 210) #[] #[]] w (PV (.bool (l.all (wz · 20))) w):=
 XA l v _ #[] #[] (wz · 20) w hv (enters_of Tryz.func210 (by kernel_rfl) rfl) (fun x _ W _=>KQ x W)
theorem BR (h:cZ) (a b c:Value) (l:List EX) (v:Value) (w:World) (hv':bJ w v l):
 Calls Tryz.prog 211 #[v,.func (.func 207) #[hv h a b c] #[]] w (PV (.bool (l.all (Be h.last))) w):=
 Xz l v _ #[hv h a b c] #[] (Be h.last) w hv' (enters_of Tryz.func207 (by kernel_rfl) rfl) (fun x _ W _=>NY h a b c x W)
theorem TK (h:cZ) (wv tv uU:Value) (w:World) (hw:bT w wv h.bZ) (ht:aO w tv h.turns) (hx:bJ w uU h.readings) (hl:h.last<=9) (hr:(h.readings.length:Int)<=5)
 (hn:fG h=false):Calls Tryz.prog 128 #[hv h wv tv uU] w (PV (iv 1) w):=by
 obtain⟨ow,cw,rfl⟩:=hw.open
 obtain⟨ot,ct,rfl⟩:=ht.open
 obtain⟨ox,cx,rfl⟩:=hx.open
 have HW:=ae hw
 have HT:=ae ht
 have HX:=ae hx
 clear hw ht hx
 have hl0:fG h=true->0<=h.last:=fun e=>by simp only[fG,eG,eX] at e;exact e.1.1.1.1.1
 have HN:=ae hn
 rw[hn] at hl0
 clear hn
 (try replace hl0:=hl0 rfl)
 go_enter Tryz.func128,Tryz.ntmps128
 go_wp2_with fail
 refine zg 31 [] none [(1,Spec.val (.bool false))] ?_
 simp only[zt]
 repeat ((first|refine zd ?_|refine zk ?_);simp only[zp])
 refine eF _ (by rfl) (by rfl) 208 _ (fun W hW=>by go_simp;try rfl) (fun W hE hF=>by have:=oP h (.slice ow h.bZ.length cw) (.slice ot h.turns.length ct) (.slice ox h.readings.length cx) W;rw[HN.o] at this;exact this) ?_
 simp only[zp]
 repeat ((first|refine zd ?_|refine zk ?_);simp only[zp])
 intro W hE hF
 obtain⟨hc,hf⟩:=bK hE.below
 have hzE:=hE.size
 (try simp only[bu] at hzE)
 go_wp2
 go_returns
 exact⟨by simp,ze⟩
theorem TJ (h:cZ) (wv tv uU:Value) (w:World) (hw:bT w wv h.bZ) (ht:aO w tv h.turns) (hx:bJ w uU h.readings) (hl:h.last<=9) (hr:(h.readings.length:Int)<=5)
 (hn:fG h=true) (h2:((h.bZ.length:Int)==h.last+1)=false):Calls Tryz.prog 128 #[hv h wv tv uU] w (PV (iv 1) w):=by
 obtain⟨ow,cw,rfl⟩:=hw.open
 obtain⟨ot,ct,rfl⟩:=ht.open
 obtain⟨ox,cx,rfl⟩:=hx.open
 have HW:=ae hw
 have HT:=ae ht
 have HX:=ae hx
 clear hw ht hx
 have hl0:fG h=true->0<=h.last:=fun e=>by simp only[fG,eG,eX] at e;exact e.1.1.1.1.1
 have HN:=ae hn
 rw[hn] at hl0
 clear hn
 (try replace hl0:=hl0 rfl)
 have h2':((h.bZ.length:Int) !=h.last+1)=true:=by simp only[bne,h2];rfl
 go_enter Tryz.func128,Tryz.ntmps128
 go_wp2_with fail
 refine zg 31 [] none [(1,Spec.val (.bool true)),(8,Spec.val (iv (h.last+1)))] ?_
 simp only[zt]
 repeat ((first|refine zd ?_|refine zk ?_);simp only[zp])
 refine eF _ (by rfl) (by rfl) 208 _ (fun W hW=>by go_simp;try rfl) (fun W hE hF=>by have:=oP h (.slice ow h.bZ.length cw) (.slice ot h.turns.length ct) (.slice ox h.readings.length cx) W;rw[HN.o] at this;exact this) ?_
 simp only[zp]
 repeat ((first|refine zd ?_|refine zk ?_);simp only[zp])
 refine eF _ (by rfl) (by rfl) 93 _ (fun W hW=>by go_simp;try rfl) (fun W hE hF=>by exact rY h _ _ _ W hl0 hl) ?_
 simp only[zp]
 repeat ((first|refine zd ?_|refine zk ?_);simp only[zp])
 intro W hE hF
 obtain⟨hc,hf⟩:=bK hE.below
 have hzE:=hE.size
 (try simp only[bu] at hzE)
 go_wp2
 go_returns
 exact⟨by simp,ze⟩
theorem TI (h:cZ) (wv tv uU:Value) (w:World) (hw:bT w wv h.bZ) (ht:aO w tv h.turns) (hx:bJ w uU h.readings) (hl:h.last<=9) (hr:(h.readings.length:Int)<=5)
 (hn:fG h=true) (h2:((h.bZ.length:Int)==h.last+1)=true) (h3:og h.last h.turns=false):Calls Tryz.prog 128 #[hv h wv tv uU] w (PV (iv 1) w):=by
 obtain⟨ow,cw,rfl⟩:=hw.open
 obtain⟨ot,ct,rfl⟩:=ht.open
 obtain⟨ox,cx,rfl⟩:=hx.open
 have HW:=ae hw
 have HT:=ae ht
 have HX:=ae hx
 clear hw ht hx
 have hl0:fG h=true->0<=h.last:=fun e=>by simp only[fG,eG,eX] at e;exact e.1.1.1.1.1
 have HN:=ae hn
 rw[hn] at hl0
 clear hn
 (try replace hl0:=hl0 rfl)
 have h2':((h.bZ.length:Int) !=h.last+1)=false:=by simp only[bne,h2];rfl
 have H3:=ae h3
 clear h3
 go_enter Tryz.func128,Tryz.ntmps128
 go_wp2_with fail
 refine zg 31 [] none [(1,Spec.val (.bool true)),(8,Spec.val (iv (h.last+1))),(15,Spec.val (.bool false))] ?_
 simp only[zt]
 repeat ((first|refine zd ?_|refine zk ?_);simp only[zp])
 refine eF _ (by rfl) (by rfl) 208 _ (fun W hW=>by go_simp;try rfl) (fun W hE hF=>by have:=oP h (.slice ow h.bZ.length cw) (.slice ot h.turns.length ct) (.slice ox h.readings.length cx) W;rw[HN.o] at this;exact this) ?_
 simp only[zp]
 repeat ((first|refine zd ?_|refine zk ?_);simp only[zp])
 refine eF _ (by rfl) (by rfl) 93 _ (fun W hW=>by go_simp;try rfl) (fun W hE hF=>by exact rY h _ _ _ W hl0 hl) ?_
 simp only[zp]
 repeat ((first|refine zd ?_|refine zk ?_);simp only[zp])
 refine eF _ (by rfl) (by rfl) 129 _ (fun W hW=>by go_simp;try rfl) (fun W hE hF=>by have:=pg h (.slice ow h.bZ.length cw) (.slice ot h.turns.length ct) (.slice ox h.readings.length cx) (.slice ot h.turns.length ct) h.turns W ((HT.o.alloc _).ext hE (by simp)) hl0 hl;rw[H3.o] at this;exact this) ?_
 simp only[zp]
 repeat ((first|refine zd ?_|refine zk ?_);simp only[zp])
 intro W hE hF
 obtain⟨hc,hf⟩:=bK hE.below
 have hzE:=hE.size
 (try simp only[bu] at hzE)
 go_wp2
 go_returns
 exact⟨by simp,ze⟩
theorem TG (h:cZ) (wv tv uU:Value) (w:World) (hw:bT w wv h.bZ) (ht:aO w tv h.turns) (hx:bJ w uU h.readings) (hl:h.last<=9) (hr:(h.readings.length:Int)<=5)
 (hn:fG h=true) (h2:((h.bZ.length:Int)==h.last+1)=true) (h3:og h.last h.turns=true) (h4:h.bZ.all (wz · 20)=false):Calls Tryz.prog 128 #[hv h wv tv uU] w (PV (iv 1) w):=by
 obtain⟨ow,cw,rfl⟩:=hw.open
 obtain⟨ot,ct,rfl⟩:=ht.open
 obtain⟨ox,cx,rfl⟩:=hx.open
 have HW:=ae hw
 have HT:=ae ht
 have HX:=ae hx
 clear hw ht hx
 have hl0:fG h=true->0<=h.last:=fun e=>by simp only[fG,eG,eX] at e;exact e.1.1.1.1.1
 have HN:=ae hn
 rw[hn] at hl0
 clear hn
 (try replace hl0:=hl0 rfl)
 have h2':((h.bZ.length:Int) !=h.last+1)=false:=by simp only[bne,h2];rfl
 have H3:=ae h3
 have H4:=ae h4
 clear h3 h4
 go_enter Tryz.func128,Tryz.ntmps128
 go_wp2_with fail
 refine zg 31 [] none [(1,Spec.val (.bool true)),(8,Spec.val (iv (h.last+1))),(15,Spec.val (.bool true)),(21,Spec.val (.bool false))] ?_
 simp only[zt]
 repeat ((first|refine zd ?_|refine zk ?_);simp only[zp])
 refine eF _ (by rfl) (by rfl) 208 _ (fun W hW=>by go_simp;try rfl) (fun W hE hF=>by have:=oP h (.slice ow h.bZ.length cw) (.slice ot h.turns.length ct) (.slice ox h.readings.length cx) W;rw[HN.o] at this;exact this) ?_
 simp only[zp]
 repeat ((first|refine zd ?_|refine zk ?_);simp only[zp])
 refine eF _ (by rfl) (by rfl) 93 _ (fun W hW=>by go_simp;try rfl) (fun W hE hF=>by exact rY h _ _ _ W hl0 hl) ?_
 simp only[zp]
 repeat ((first|refine zd ?_|refine zk ?_);simp only[zp])
 refine eF _ (by rfl) (by rfl) 129 _ (fun W hW=>by go_simp;try rfl) (fun W hE hF=>by have:=pg h (.slice ow h.bZ.length cw) (.slice ot h.turns.length ct) (.slice ox h.readings.length cx) (.slice ot h.turns.length ct) h.turns W ((HT.o.alloc _).ext hE (by simp)) hl0 hl;rw[H3.o] at this;exact this) ?_
 simp only[zp]
 repeat ((first|refine zd ?_|refine zk ?_);simp only[zp])
 refine eF _ (by rfl) (by rfl) 209 _ (fun W hW=>by go_simp;try rfl) (fun W hE hF=>by have:=MX h.bZ (.slice ow h.bZ.length cw) W ((HW.o.alloc _).ext hE (by simp));rw[H4.o] at this;exact this) ?_
 simp only[zp]
 repeat ((first|refine zd ?_|refine zk ?_);simp only[zp])
 intro W hE hF
 obtain⟨hc,hf⟩:=bK hE.below
 have hzE:=hE.size
 (try simp only[bu] at hzE)
 go_wp2
 go_returns
 exact⟨by simp,ze⟩
theorem TF (h:cZ) (wv tv uU:Value) (w:World) (hw:bT w wv h.bZ) (ht:aO w tv h.turns) (hx:bJ w uU h.readings) (hl:h.last<=9) (hr:(h.readings.length:Int)<=5)
 (hn:fG h=true) (h2:((h.bZ.length:Int)==h.last+1)=true) (h3:og h.last h.turns=true) (h4:h.bZ.all (wz · 20)=true) (h5:h.readings.all (Be h.last)=false):Calls Tryz.prog 128 #[hv h wv tv uU] w (PV (iv 1) w):=by
 obtain⟨ow,cw,rfl⟩:=hw.open
 obtain⟨ot,ct,rfl⟩:=ht.open
 obtain⟨ox,cx,rfl⟩:=hx.open
 have HW:=ae hw
 have HT:=ae ht
 have HX:=ae hx
 clear hw ht hx
 have hl0:fG h=true->0<=h.last:=fun e=>by simp only[fG,eG,eX] at e;exact e.1.1.1.1.1
 have HN:=ae hn
 rw[hn] at hl0
 clear hn
 (try replace hl0:=hl0 rfl)
 have h2':((h.bZ.length:Int) !=h.last+1)=false:=by simp only[bne,h2];rfl
 have H3:=ae h3
 have H4:=ae h4
 have H5:=ae h5
 clear h3 h4 h5
 go_enter Tryz.func128,Tryz.ntmps128
 go_wp2_with fail
 refine zg 31 [] none [(1,Spec.val (.bool true)),(8,Spec.val (iv (h.last+1))),(15,Spec.val (.bool true)),(21,Spec.val (.bool true)),(28,Spec.val (.bool false))] ?_
 simp only[zt]
 repeat ((first|refine zd ?_|refine zk ?_);simp only[zp])
 refine eF _ (by rfl) (by rfl) 208 _ (fun W hW=>by go_simp;try rfl) (fun W hE hF=>by have:=oP h (.slice ow h.bZ.length cw) (.slice ot h.turns.length ct) (.slice ox h.readings.length cx) W;rw[HN.o] at this;exact this) ?_
 simp only[zp]
 repeat ((first|refine zd ?_|refine zk ?_);simp only[zp])
 refine eF _ (by rfl) (by rfl) 93 _ (fun W hW=>by go_simp;try rfl) (fun W hE hF=>by exact rY h _ _ _ W hl0 hl) ?_
 simp only[zp]
 repeat ((first|refine zd ?_|refine zk ?_);simp only[zp])
 refine eF _ (by rfl) (by rfl) 129 _ (fun W hW=>by go_simp;try rfl) (fun W hE hF=>by have:=pg h (.slice ow h.bZ.length cw) (.slice ot h.turns.length ct) (.slice ox h.readings.length cx) (.slice ot h.turns.length ct) h.turns W ((HT.o.alloc _).ext hE (by simp)) hl0 hl;rw[H3.o] at this;exact this) ?_
 simp only[zp]
 repeat ((first|refine zd ?_|refine zk ?_);simp only[zp])
 refine eF _ (by rfl) (by rfl) 209 _ (fun W hW=>by go_simp;try rfl) (fun W hE hF=>by have:=MX h.bZ (.slice ow h.bZ.length cw) W ((HW.o.alloc _).ext hE (by simp));rw[H4.o] at this;exact this) ?_
 simp only[zp]
 repeat ((first|refine zd ?_|refine zk ?_);simp only[zp])
 refine eF _ (by rfl) (by rfl) 211 _ (fun W hW=>by go_simp;try rfl) (fun W hE hF=>by have:=BR h (.slice ow h.bZ.length cw) (.slice ot h.turns.length ct) (.slice ox h.readings.length cx) h.readings (.slice ox h.readings.length cx) W ((HX.o.alloc _).ext hE (by simp));rw[H5.o] at this;exact this) ?_
 simp only[zp]
 repeat ((first|refine zd ?_|refine zk ?_);simp only[zp])
 intro W hE hF
 obtain⟨hc,hf⟩:=bK hE.below
 have hzE:=hE.size
 (try simp only[bu] at hzE)
 go_wp2
 go_returns
 exact⟨by simp,ze⟩
end Go.Proofs.YthllkbbbapgelaaGreatDoor.jI
namespace Go.Proofs.YthllkbbbapgelaaGreatDoor.jI
open Go.RowKit Go.RG Go.SL Go.Shelf jy
theorem PI (h:cZ) (wv tv uU:Value) (w:World) (hx:bJ w uU h.readings) (hl:9<h.last∨5<(h.readings.length:Int)):
 Calls Tryz.prog 128 #[hv h wv tv uU] w (PV (iv 3) w):=by
 obtain⟨ox,cx,rfl⟩:=hx.open
 clear hx
 by_cases h9:9<h.last
 all_goals
  go_enter Tryz.func128,Tryz.ntmps128
  go_wp2
  go_returns
  exact⟨by simp,zl⟩
theorem TC (h:cZ) (wv tv uU:Value) (w:World) (hw:bT w wv h.bZ) (ht:aO w tv h.turns) (hx:bJ w uU h.readings) (hl:h.last<=9) (hr:(h.readings.length:Int)<=5)
 (hn:fG h=true) (h2:((h.bZ.length:Int)==h.last+1)=true) (h3:og h.last h.turns=true) (h4:h.bZ.all (wz · 20)=true) (h5:h.readings.all (Be h.last)=true)
 (res:Int) (hres:Hid (res=if 2000<uw (h.start::h.bZ) then 3 else 0)):
 Calls Tryz.prog 128 #[hv h wv tv uU] w (PV (iv res) w):=by
 have hlen:h.bZ.length<=10:=by have:=of_decide_eq_true (p:=(h.bZ.length:Int)=h.last+1) (by simpa using h2);omega
 have hok: ∀r∈h.start::h.bZ,0<=r.1/\r.1<=r.2/\r.2<=500/\1<=eu r/\eu r<=501:=by
  intro r hr
  rcases gZ.1 hr with rfl|hr
  ·have:wz h.start 500=true:=by simp only[fG,eG] at hn;exact hn.2
   exact yg this
  ·have:=yg (ku.1 h4 r hr)
   omega
 have jw:=ae hok
 clear hok
 obtain⟨ow,cw,rfl⟩:=hw.open
 obtain⟨ot,ct,rfl⟩:=ht.open
 obtain⟨ox,cx,rfl⟩:=hx.open
 have HW:=ae hw
 have HT:=ae ht
 have HX:=ae hx
 clear hw ht hx
 have hl0:fG h=true->0<=h.last:=fun e=>by simp only[fG,eG,eX] at e;exact e.1.1.1.1.1
 have HN:=ae hn
 rw[hn] at hl0
 clear hn
 (try replace hl0:=hl0 rfl)
 have h2':((h.bZ.length:Int) !=h.last+1)=false:=by simp only[bne,h2];rfl
 have H3:=ae h3
 have H4:=ae h4
 have H5:=ae h5
 clear h3 h4 h5
 go_enter Tryz.func128,Tryz.ntmps128
 go_wp2_with fail
 refine zg 31 [] none [(1,Spec.val (.bool true)),(8,Spec.val (iv (h.last+1))),(15,Spec.val (.bool true)),(21,Spec.val (.bool true)),(28,Spec.val (.bool true))] ?_
 simp only[zt]
 repeat ((first|refine zd ?_|refine zk ?_);simp only[zp])
 refine eF _ (by rfl) (by rfl) 208 _ (fun W hW=>by go_simp;try rfl) (fun W hE hF=>by have:=oP h (.slice ow h.bZ.length cw) (.slice ot h.turns.length ct) (.slice ox h.readings.length cx) W;rw[HN.o] at this;exact this) ?_
 simp only[zp]
 repeat ((first|refine zd ?_|refine zk ?_);simp only[zp])
 refine eF _ (by rfl) (by rfl) 93 _ (fun W hW=>by go_simp;try rfl) (fun W hE hF=>by exact rY h _ _ _ W hl0 hl) ?_
 simp only[zp]
 repeat ((first|refine zd ?_|refine zk ?_);simp only[zp])
 refine eF _ (by rfl) (by rfl) 129 _ (fun W hW=>by go_simp;try rfl) (fun W hE hF=>by have:=pg h (.slice ow h.bZ.length cw) (.slice ot h.turns.length ct) (.slice ox h.readings.length cx) (.slice ot h.turns.length ct) h.turns W ((HT.o.alloc _).ext hE (by simp)) hl0 hl;rw[H3.o] at this;exact this) ?_
 simp only[zp]
 repeat ((first|refine zd ?_|refine zk ?_);simp only[zp])
 refine eF _ (by rfl) (by rfl) 209 _ (fun W hW=>by go_simp;try rfl) (fun W hE hF=>by have:=MX h.bZ (.slice ow h.bZ.length cw) W ((HW.o.alloc _).ext hE (by simp));rw[H4.o] at this;exact this) ?_
 simp only[zp]
 repeat ((first|refine zd ?_|refine zk ?_);simp only[zp])
 refine eF _ (by rfl) (by rfl) 211 _ (fun W hW=>by go_simp;try rfl) (fun W hE hF=>by have:=BR h (.slice ow h.bZ.length cw) (.slice ot h.turns.length ct) (.slice ox h.readings.length cx) h.readings (.slice ox h.readings.length cx) W ((HX.o.alloc _).ext hE (by simp));rw[H5.o] at this;exact this) ?_
 simp only[zp]
 repeat ((first|refine zd ?_|refine zk ?_);simp only[zp])
 intro W hE hF
 obtain⟨hc,hf⟩:=bK hE.below
 have hzE:=hE.size
 (try simp only[bu] at hzE)
 go_wp2_with fail
 have hB0:Below w.heap.size w W:=ze
 refine(Rf h _ _ _ W (HW.o.below hB0 (ai _)) (by omega)).mono ?_
 rintro e w1 ⟨v,rfl,hv1,hb1⟩
 have hB1:Below w.heap.size w w1:=aY hB0 hb1
 clear hc hf hzE hE hF hb1 hB0
 obtain⟨ov,cv,rfl⟩:=hv1.open
 have HV:=ae hv1
 clear hv1
 go_wp2_with fail
 have hL:(h.start::h.bZ).length=h.bZ.length+1:=rfl
 have HL:=ae hL
 clear hL
 go_loopw [4,54] (fun m i wr=> ∃k:Nat,k<=h.bZ.length+1/\i= .int .i64 k/\m= .int .i64 (uQ (h.start::h.bZ) k)/\aN 2 wr (.slice ov (h.bZ.length+1) cv) (h.bZ.length+1) (aG (h.start::h.bZ))/\Below w.heap.size w wr)
  (fun _ i _=>h.bZ.length+1-(intOf i).toNat)
 case atStart=>exact⟨0,bQ _,rfl,rfl,HV.o,hB1⟩
 case round=>
  obtain⟨k,hk,rfl,rfl,hv,hB⟩:=hrel
  by_cases hlt:k<h.bZ.length+1
  ·obtain⟨b,off,rfl,hb,hc0,hc1⟩:=bT.cell hv (show k<(h.start::h.bZ).length from hlt)
   have hr:=jw.o _ (dh (show k<(h.start::h.bZ).length from hlt))
   have hs:=Ib (h.start::h.bZ) k hlt
   have hbd:=PZ (h.start::h.bZ) (fun r hr=>(jw.o r hr).2.2.2.1) k
   generalize (h.start::h.bZ)[k]=r at hc0 hc1 hr hs
   obtain⟨hr1,hr2,hr3,hr4,LZ⟩:=hr
   unfold rP at hs
   generalize uQ (h.start::h.bZ) k=c at hs hbd
   obtain⟨hb1,hb2⟩:=hbd
   have HS:=ae hs
   have HV:=ae hv
   have HB:=ae hB
   clear hs hv hB
   have hmul:0<=c*eu r/\c*eu r<=2001*501:=⟨Int.mul_nonneg (by omega) (by omega),Int.mul_le_mul hb2 LZ (by omega) (by omega)⟩
   obtain⟨hm1,hm2⟩:=hmul
   go_wp2_with fail
   refine(size_any r _ hr1 hr2 (by omega)).mono ?_
   rintro e w2 ⟨rfl,hb3⟩
   obtain⟨hc,hf⟩:=bK hb3
   go_wp2_with fail
   refine(Ej (c*eu r) 2001 _ _ _ ?_ ?_).mono ?_
   ·go_simp
   ·go_simp
   rintro e w3 ⟨rfl,hb4⟩
   go_wp2_with fail
   go_roundw
   case rel=>
    have hB3:Below w.heap.size w w3:=aY (aj (aY (aj HB.o _) hb3) _) hb4
    exact⟨k+1,by omega,by go_num,by rw[HS.o],HV.o.below (((aH wr.heap.size wr).alloc (ai _) _).trans ((hb3.mono (by simp)).trans (((aH _ _).alloc (by have:=hb3.size;simp at this;omega) _).trans (hb4.mono (by have:=hb3.size;simp at this⊢;omega))))) (ai _),hB3⟩
   case measure=>simp[intOf];omega
  ·have hkl:k=h.bZ.length+1:=by omega
   have hend:=Kz (h.start::h.bZ) (fun r hr=>(jw.o r hr).2.2.2.1)
   have hr:=hres.o
   rw[HL.o, <-hkl] at hend
   generalize uQ (h.start::h.bZ) k=c at hend
   by_cases hc:2000<c
   ·rw[aF (hend.1 hc)] at hr
    have HR:=ae hr
    clear hr hend hres
    go_wp2_with fail
    go_returns
    exact⟨by rw[HR.o];simp,hB⟩
   ·rw[ak (fun x=>hc (hend.2 x))] at hr
    have HR:=ae hr
    clear hr hend hres
    go_wp2_with fail
    go_returns
    exact⟨by rw[HR.o];simp,hB⟩
theorem vY (h:cZ) (wv tv uU:Value) (w:World) (hw:bT w wv h.bZ) (ht:aO w tv h.turns) (hx:bJ w uU h.readings):
 Calls Tryz.prog 128 #[hv h wv tv uU] w (PV (iv (vW h)) w):=by
 unfold vW
 by_cases hl:9<h.last∨5<h.readings.length
 ·rw[aF hl]
  exact PI h wv tv uU w hx (by omega)
 ·rw[ak hl]
  have h9:h.last<=9:=by omega
  have h5':(h.readings.length:Int)<=5:=by omega
  by_cases hv:valid h=false
  ·rw[aF hv]
   cases h1:fG h
   ·exact TK h wv tv uU w hw ht hx h9 h5' h1
   cases h2:((h.bZ.length:Int)==h.last+1)
   ·exact TJ h wv tv uU w hw ht hx h9 h5' h1 h2
   cases h3:og h.last h.turns
   ·exact TI h wv tv uU w hw ht hx h9 h5' h1 h2 h3
   cases h4:h.bZ.all (wz · 20)
   ·exact TG h wv tv uU w hw ht hx h9 h5' h1 h2 h3 h4
   cases h5:h.readings.all (Be h.last)
   ·exact TF h wv tv uU w hw ht hx h9 h5' h1 h2 h3 h4 h5
   exfalso
   have hd:decide ((h.bZ.length:Int)=h.last+1)=true:=by simpa using h2
   simp only[valid,h1,hd,h3,h4,h5] at hv
   simp at hv
  ·rw[ak hv]
   have hv':valid h=true:=by simpa using hv
   simp only[valid,eG] at hv'
   exact TC h wv tv uU w hw ht hx h9 h5' hv'.1.1.1.1 (by simpa using hv'.1.1.1.2) hv'.1.1.2 hv'.1.2 hv'.2 _ rfl
end Go.Proofs.YthllkbbbapgelaaGreatDoor.jI
namespace Go.Proofs.YthllkbbbapgelaaGreatDoor.jI
open Go.RowKit Go.RG Go.SL Go.Shelf jy
abbrev sv (n:Int) (t:Bool):Value:= .agg #[iv n,.bool t]
theorem acs (n m:Int) (t u:Bool) (w:World):(Op.equal 334 (sv n t) (sv m u)).run Tryz.prog w= .ok ((n==m)&&(t==u)) w:=by
 unfold Op.equal Op.maxDepth
 simp[go_sem]
 by_cases h1:n=m <;>by_cases h2:t=u <;>simp[h1,h2]
theorem Dx (b:Bool) (d:Nat) (n:Int) (w:World):(Instr.checkKey b (d+1) 3 (iv n)).run Tryz.prog w= .ok () w:=by
 unfold Instr.checkKey
 simp[go_sem]
theorem TD (b:Bool) (d:Nat) (t:Bool) (w:World):(Instr.checkKey b (d+1) 4 (.bool t)).run Tryz.prog w= .ok () w:=by
 unfold Instr.checkKey
 simp[go_sem]
theorem wW (b:Bool) (n:Int) (t:Bool) (w:World):(Instr.checkKey b 10000 334 (sv n t)).run Tryz.prog w= .ok () w:=by
 unfold Instr.checkKey
 simp[go_sem]
 rw[Dx,Result.andThen_ok,TD]
def Entry (aZ:Int) (e:MapEntry):Prop:= ∃n t,e.key=sv n t/\e.val=iv (mr aZ n t)
theorem WZ (aZ:Int) (n:Int) (t:Bool): ∀(es:List MapEntry) (i:Nat),(∀e∈es,Entry aZ e)->
 ∃r,(∀w,(Instr.findAsking 334 (sv n t) es i).run Tryz.prog w= .ok r w)/\(∀j v,r=some (j,v)->v=iv (mr aZ n t)/\i<=j/\j-i<es.length/\ ∃e,es[j-i]? =some e/\e.key=sv n t):=by
 intro es
 induction es with
 |nil=>intro i _;exact⟨none,fun _=>rfl,fun j v h=>by cases h⟩
 |cons e es ih=>
  intro i h
  obtain⟨m,u,hk,hv⟩:=h e (by simp)
  unfold Instr.findAsking
  simp only[Sem.run_bind,hk,acs,Result.andThen_ok]
  by_cases hc:((n==m)&&(t==u))=true
  ·refine⟨some (i,e.val),fun w=>by rw[aF hc];rfl,fun j v hj=>?_⟩
   simp only[Option.some.injEq,Prod.mk.injEq] at hj
   simp only[eG,beq_iff_eq] at hc
   refine⟨by rw[<-hj.2,hv,hc.1,hc.2],by omega,by simp;omega,e,?_,by rw[hk,hc.1,hc.2]⟩
   rw[<-hj.1];simp
  ·obtain⟨r,h1,h2⟩:=ih (i+1) (fun x hx=>h x (by simp[hx]))
   refine⟨r,fun w=>by rw[ak hc];exact h1 w,fun j v hj=>?_⟩
   obtain⟨h3,h4,h5,e',h6,h7⟩:=h2 j v hj
   refine⟨h3,by omega,by simp;omega,e',?_,h7⟩
   rw[show j-i=(j-(i+1))+1 from by omega,List.getElem?_cons_succ]
   exact h6
theorem OJ (aZ:Int) (n:Int) (t:Bool) (es:List MapEntry) (h: ∀e∈es,Entry aZ e):
 ∃r,(∀w,(Instr.findKey 334 (sv n t) es).run Tryz.prog w= .ok r w)/\(∀j v,r=some (j,v)->v=iv (mr aZ n t)/\j<es.length/\ ∃e,es[j]? =some e/\e.key=sv n t):=by
 unfold Instr.findKey
 simp only[Sem.run_bind,run_underlying Tryz.underlying334,Result.andThen_ok]
 cases es with
 |nil=>exact⟨none,fun _=>rfl,fun j v h=>by cases h⟩
 |cons e es=>
  simp only[Instr.findNow,Instr.sameNow]
  obtain⟨r,h1,h2⟩:=WZ aZ n t (e::es) 0 h
  exact⟨r,h1,fun j v hj=>by
   obtain⟨a,b,c,d⟩:=h2 j v hj
   exact⟨a,by simpa using c,by simpa using d⟩⟩
def Cache (W:World) (mb:Nat) (aZ:Int):Prop:= ∃es clock,W.heap[mb]? =some (.map es clock)/\ ∀e∈es.toList,Entry aZ e
theorem Cache.kept {W W':World} {mb:Nat} {aZ:Int} (h:Cache W mb aZ) (hk:W'.heap[mb]? =W.heap[mb]?):Cache W' mb aZ:=by
 obtain⟨es,c,h1,h2⟩:=h;exact⟨es,c,hk.trans h1,h2⟩
theorem Cache.lt {W:World} {mb:Nat} {aZ:Int} (h:Cache W mb aZ):mb<W.heap.size:=by
 obtain⟨es,c,h1,h2⟩:=h;exact(aS.1 h1).1
theorem We {W0:World} {mb:Nat} {aZ:Int} (h:Cache W0 mb aZ) (n:Int) (t:Bool):
 ∃x ok,(ok=true->x=mr aZ n t)/\ ∀W:World,W.heap[mb]? =W0.heap[mb]?->
  (Instr.lookup 268 (.map (some mb)) (sv n t) true).run Tryz.prog W= .ok (.tuple #[iv x,.bool ok]) W:=by
 obtain⟨es,c,h1,h2⟩:=h
 obtain⟨r,hr,hv⟩:=OJ aZ n t es.toList h2
 have Di: ∀W:World,W.heap[mb]? =W0.heap[mb]?->(getObj mb).run Tryz.prog W= .ok (.map es c) W:=fun W hW=>by
  simp[getObj,Sem.run,hW,h1]
 have hz: ∀W:World,(zeroValue 3).run Tryz.prog W= .ok (iv 0) W:=fun W=>by simp[go_sem]
 cases r with
 |none=>
  refine⟨0,false,(fun h=>by cases h),fun W hW=>?_⟩
  simp[Instr.lookup,run_underlying Tryz.underlying268,Di W hW,wW,hr,hz]
 |some p=>
  obtain⟨j,v⟩:=p
  obtain⟨rfl,_⟩:=hv j v rfl
  refine⟨mr aZ n t,true,fun _=>rfl,fun W hW=>?_⟩
  simp[Instr.lookup,run_underlying Tryz.underlying268,Di W hW,wW,hr]
theorem IX (n:Int) (t:Bool):Instr.sameBits 10000 (sv n t) (sv n t)=true:=by
 simp[Instr.sameBits]
theorem NF {W:World} {mb:Nat} {aZ:Int} (h:Cache W mb aZ) (n:Int) (t:Bool):
 ∃W',(Instr.mapUpdate 268 (.map (some mb)) (sv n t) (iv (mr aZ n t))).run Tryz.prog W= .ok () W'/\Cache W' mb aZ/\Ext [mb] W W':=by
 have hlt:=h.lt
 obtain⟨es,c,h1,h2⟩:=h
 obtain⟨r,hr,hv⟩:=OJ aZ n t es.toList h2
 have Di:(getObj mb).run Tryz.prog W= .ok (.map es c) W:=by simp[getObj,Sem.run,h1]
 have hset: ∀es' c',(setObj mb (.map es' c')).run Tryz.prog W= .ok () {W with heap:=W.heap.setIfInBounds mb (.map es' c')}:=fun es' c'=>by
  simp[setObj,Sem.run,h1]
 have Am: ∀o:Obj,Ext [mb] W {W with heap:=W.heap.setIfInBounds mb o}:=fun o=>
  ⟨rfl,rfl,rfl,by simp,fun k _ hm=>by simp only[Array.getElem?_setIfInBounds];rw[ak (by simp at hm;omega)]⟩
 have G6: ∀es' c',(∀e∈es'.toList,Entry aZ e)->Cache {W with heap:=W.heap.setIfInBounds mb (.map es' c')} mb aZ:=fun es' c' he=>
  ⟨es',c',by simp[hlt],he⟩
 cases r with
 |none=>
  refine⟨_,?_,G6 (es.push {key:=sv n t,val:=iv (mr aZ n t),born:=c}) (c+1) ?_,Am _⟩
  ·simp[Instr.mapUpdate,run_underlying Tryz.underlying268,Di,wW,hr,hset]
  ·intro e he
   simp only[Array.toList_push,iP,fD] at he
   rcases he with he|rfl
   ·exact h2 e he
   ·exact⟨n,t,rfl,rfl⟩
 |some p=>
  obtain⟨j,v⟩:=p
  obtain⟨rfl,hj,e0,he0,hk0⟩:=hv j v rfl
  have hje:es[j]? =some e0:=by simpa using he0
  refine⟨_,?_,G6 (es.modify j fun e=>{e with key:=sv n t,val:=iv (mr aZ n t)}) c ?_,Am _⟩
  ·simp[Instr.mapUpdate,run_underlying Tryz.underlying268,Di,wW,hr,hset,Instr.keyThatStays,hje,hk0,IX]
  ·intro e he
   obtain⟨i,hi,rfl⟩:=mF he
   simp only[Array.getElem_toList,Array.getElem_modify]
   split
   ·exact⟨n,t,rfl,rfl⟩
   ·exact h2 _ (by simp)
abbrev Yx (h:cZ) (a b c:Value) (mb:Nat):Array Value:=
 #[.int .i64 h.last,.int .i64 h.size,.int .i64 h.aZ,.int .i64 h.die,.int .i64 h.uF,.int .i64 h.start.1,.int .i64 h.start.2,a,b,c,.map (some mb)]
structure iY (W:World) (wb mb:Nat) (h:cZ) (a b c:Value):Prop where
 cells:W.heap[wb]? =some (.cells (Yx h a b c mb) 270 (0,0))
 cache:Cache W mb h.aZ
theorem iY.ne {W:World} {wb mb:Nat} {h:cZ} {a b c:Value} (hw:iY W wb mb h a b c):wb≠mb:=by
 intro e
 obtain⟨es,k,h1,_⟩:=hw.cache
 have:=hw.cells
 rw[e,h1] at this
 cases this
theorem iY.lt {W:World} {wb mb:Nat} {h:cZ} {a b c:Value} (hw:iY W wb mb h a b c):wb<W.heap.size:=(aS.1 hw.cells).1
theorem iY.kept {W W':World} {wb mb:Nat} {h:cZ} {a b c:Value} (hw:iY W wb mb h a b c) (h1:W'.heap[wb]? =W.heap[wb]?) (h2:W'.heap[mb]? =W.heap[mb]?):iY W' wb mb h a b c:=
 ⟨h1.trans hw.cells,hw.cache.kept h2⟩
theorem iY.below {W W':World} {wb mb:Nat} {h:cZ} {a b c:Value} (hw:iY W wb mb h a b c) {B:Nat} (hb:Below B W W') (hB:W.heap.size<=B):iY W' wb mb h a b c:=
 hw.kept (hb.block _ (by have:=hw.lt;omega)) (hb.block _ (by have:=hw.cache.lt;omega))
theorem iY.ext {W W':World} {wb mb:Nat} {h:cZ} {a b c:Value} (hw:iY W wb mb h a b c) (hE:Ext [mb] W W') (hc:Cache W' mb h.aZ):iY W' wb mb h a b c:=
 ⟨(hE.block wb hw.lt (by simpa using hw.ne)).trans hw.cells,hc⟩
theorem iY.cell {W:World} {wb mb:Nat} {h:cZ} {a b c:Value} (hw:iY W wb mb h a b c) (i:Nat):W.cell? ⟨wb,i,none⟩=(Yx h a b c mb)[i]? :=by
 simp[World.cell?,hw.cells]
def aaZ (w:World) (h:cZ) (a b c:Value) (e:Ending) (W:World):Prop:=
 ∃wb mb,e= .returned (.pointer (some ⟨wb,0,none⟩))/\w.heap.size<=wb/\w.heap.size<=mb/\iY W wb mb h a b c/\Below w.heap.size w W
theorem FU (h:cZ) (ow ot ox:Option Addr) (nw cw nt ct nx cx:Nat) (w:World):
 Calls Tryz.prog 130 #[hv h (.slice ow nw cw) (.slice ot nt ct) (.slice ox nx cx)] w (aaZ w h (.slice ow nw cw) (.slice ot nt ct) (.slice ox nx cx)):=by
 have hmm:= @run_makeMap Tryz.prog
 go_enter Tryz.func130,Tryz.ntmps130
 go_wp2
 go_returns
 refine⟨w.heap.size+2,w.heap.size+1,by simp,by omega,by omega,⟨iq _ _ _ _,#[],0,?_,by simp⟩,zl⟩
 exact(aV _ _ _ (by simp)).trans (dV _ _ _)
theorem aaE (h:cZ) (a b c:Value) (wb mb:Nat) (n:Int) (t:Bool) (w:World) (hw:iY w wb mb h a b c) (hn0:0<=n) (hn1:n<=100000) (hc0:0<=h.aZ) (hc1:h.aZ<=100):
 Calls Tryz.prog 216 #[.pointer (some ⟨wb,0,none⟩),sv n t] w (fun e w'=>e= .returned (iv (mr h.aZ n t))/\Cache w' mb h.aZ/\Ext [mb] w w'):=by
 have c2:=hw.cell 2
 have c10:=hw.cell 10
 have hlt:=hw.lt
 have hwc:=hw.cache
 obtain⟨x,ok,hx,hlook⟩:=We (hwc) n t
 simp at c2 c10
 have hm0:0<=n*h.aZ:=Int.mul_nonneg hn0 hc0
 have hm1:n*h.aZ<=100000*100:=Int.mul_le_mul hn1 hc1 hc0 (by omega)
 have HW:=ae hw
 have HC:=ae hwc
 have HX:=ae hx
 have HL:=ae hlook
 clear hw hwc hx hlook
 have hmb:=HC.o.lt
 have HU:=ae (fun(W2:World) (hc:Cache W2 mb h.aZ)=>NF hc n t)
 cases ok
 ·cases t
  all_goals
   go_enter Tryz.func216,Tryz.ntmps216
   go_wp2_with fail
   refine zg 11 [] none [] ?_
   simp only[zt]
   repeat (refine zd ?_;simp only[zp])
   refine iw (by rfl) _ (by rfl) (fun W hE _=>by have:=HL.o W ((hE.block mb (by simp;omega) (by simp)).trans (aV _ _ _ hmb));go_simp;try rfl) ?_
   simp only[zp]
   repeat (refine zd ?_;simp only[zp])
   intro W hE hF
   obtain⟨hc,hf⟩:=bK hE.below
   have hzE:=hE.size
   (try simp only[bu] at hzE)
   have hzw:wb<W.heap.size:=by omega
   have hz0:w.heap.size<W.heap.size:=by omega
   go_wp2_with fail
   refine zg 6 [] none [] ?_
   simp only[zt]
   repeat (refine zd ?_;simp only[zp])
   intro W2 hE2 hF2
   have hW2:Below w.heap.size w W2:=(aY (aY (aj (aH _ _) _) hE.below) hE2.below)
   clear hc hf hzE hF hF2
   obtain⟨W3,hrun,G6,Am⟩:=HU.o W2 (HC.o.kept (W':=W2) (hW2.block mb hmb))
   have HA:=ae G6
   have HE:=ae Am
   clear G6 Am
   first|(simp only[show mr h.aZ n false=n from rfl] at hrun)|(simp only[show mr h.aZ n true=n-n*h.aZ/100 from rfl] at hrun)
   go_wp2_with fail
   go_returns
   refine⟨by simp[mr],HA.o,?_⟩
   have Yg:Ext [mb] w W2:=⟨hW2.os,hW2.tape,hW2.output,hW2.size,fun k hk _=>hW2.block k hk⟩
   exact Yg.trans HE.o
 ·go_enter Tryz.func216,Tryz.ntmps216
  go_wp2_with fail
  refine zg 11 [] none [] ?_
  simp only[zt]
  repeat (refine zd ?_;simp only[zp])
  refine iw (by rfl) _ (by rfl) (fun W hE _=>by have:=HL.o W ((hE.block mb (by simp;omega) (by simp)).trans (aV _ _ _ hmb));go_simp;try rfl) ?_
  simp only[zp]
  repeat (refine zd ?_;simp only[zp])
  intro W hE hF
  obtain⟨hc,hf⟩:=bK hE.below
  have hzE:=hE.size
  (try simp only[bu] at hzE)
  have hW:Below w.heap.size w W:=aY (aj (aH _ _) _) hE.below
  go_wp2_with fail
  go_returns
  refine⟨by rw[<-HX.o (by trivial)];simp,HC.o.kept (hW.block mb hmb),Ext.aA hW⟩
end Go.Proofs.YthllkbbbapgelaaGreatDoor.jI
namespace Go.Proofs.YthllkbbbapgelaaGreatDoor.jI
open Go.RowKit Go.RG Go.SL Go.Shelf jy
abbrev lY (l:List Int):Value:= .agg (ah l).toArray
theorem Cache.mX {W:World} {mb:Nat} {aZ:Int} (h:Cache W mb aZ) (o:Nat):W.cell? ⟨mb,o,none⟩=none:=by
 obtain⟨es,c,h1,_⟩:=h
 simp[World.cell?,h1]
theorem x9 (h:cZ) (a b c:Value) (wb mb:Nat) (start:Int) (bZ turns:List Int) (ws ts:Value) (w:World) (hw:iY w wb mb h a b c) (hws:aO w ws bZ) (hts:aO w ts turns) (hlen:bZ.length<=10)
 (hs0:0<=h.size) (hs1:h.size<=20) (hc0:0<=h.aZ) (hc1:h.aZ<=100) (h0:0<=start) (h1:start<=500) (Sv: ∀x∈bZ,0<=x/\x<=20):
 Calls Tryz.prog 133 #[.pointer (some ⟨wb,0,none⟩),.agg #[iv start,ws],ts] w
  (fun e w'=>e= .returned (lY (lL h (start,bZ) turns))/\Cache w' mb h.aZ/\Ext [mb] w w'):=by
 have hbd:=J9 turns bZ hs0 hs1 hc0 hc1 h0 h1 Sv
 obtain⟨ow,cw,rfl⟩:=hws.open
 obtain⟨ot,ct,rfl⟩:=hts.open
 have HW:=ae hw
 have HS:=ae hws
 have HT:=ae hts
 have HB:=ae hbd
 have HX:=ae Sv
 have hlt:=hw.lt
 have hmb:=hw.cache.lt
 clear hw hws hts hbd Sv
 go_enter Tryz.func133,Tryz.ntmps133
 go_wp2_with fail
 go_loopw [7,15] (fun v7 i wr=> ∃k:Nat,k<=bZ.length/\i= .int .i64 k/\v7= .int .i64 (qU h.size h.aZ turns start bZ k)/\iY wr wb mb h a b c/\
  wr.heap[w.heap.size+1]? =some (.cells (ah (qF h.size h.aZ turns start bZ k)).toArray 178 (0,0))/\Ext [mb] w wr)
  (fun _ i _=>bZ.length-(intOf i).toNat)
 case atStart=>
  exact⟨0,bQ _,rfl,rfl,HW.o.below (aj (aj (aH _ _) _) _) (ai _),dV _ _ _,Ext.aA (aj (aj (aH _ _) _) _)⟩
 case round=>
  obtain⟨k,hk,rfl,rfl,hwk,hblk,hE0⟩:=hrel
  have GY: ∀x∈[mb], ∀o,w.cell? ⟨x,o,none⟩=none:=fun x hx o=>by
   have:x=mb:=by simpa using hx
   subst this
   exact HW.o.cache.mX o
  have hws:=HS.o.gu hE0 GY
  have hts:=HT.o.gu hE0 GY
  have hne:=hwk.ne
  have hlt2:=hwk.lt
  have hsz:=hE0.size
  have aor:=hwk.cache.lt
  have hb6:w.heap.size+1<wr.heap.size:=(aS.1 hblk).1
  have akG: ¬w.heap.size+1=mb:=by omega
  by_cases ael:k<bZ.length
  ·obtain⟨bb,off,rfl,hbb,hcx⟩:=aO.cell hws ael
   have hx:=HX.o _ (dh ael)
   have hn:=HB.o k
   have hnext:qU h.size h.aZ turns start bZ (k+1)=mr h.aZ (qU h.size h.aZ turns start bZ k) (turns.contains (k:Int))+h.size*bZ[k]/10:=by
    simp only[qU,YQ]
    rw[show bZ.getD k 0=bZ[k] from by simp[ael]]
   have hcd:=Ky hc0 hc1 hn.1 (turns.contains (k:Int))
   have hset:=L9 h.size h.aZ turns start bZ k (by omega)
   have akC:=hwk.cell 1
   simp at akC
   rw[hnext] at hset
   have Np:=ae hnext
   generalize qU h.size h.aZ turns start bZ k=n at hn hcd hset Np
   generalize bZ[k]=x at hcx hx hset Np
   obtain⟨hx0,hx1⟩:=hx
   obtain⟨hn0,hn1⟩:=hn
   obtain⟨hd0,hd1⟩:=hcd
   have hm0:0<=h.size*x:=Int.mul_nonneg hs0 hx0
   have hm1:h.size*x<=20*20:=Int.mul_le_mul hs1 hx1 hx0 (by omega)
   have hk10:(k:Int)<10:=by omega
   have afd:=ae hset
   have alT:=ae hblk
   have HE0:=ae hE0
   have FO:=ae hwk
   have HWS:=ae hws
   have HTS:=ae hts
   have apX:=ae GY
   clear hnext hset hblk hE0 hwk hws hts GY
   have HNC:Hid (∀x∈[mb], ∀o,wr.cell? ⟨x,o,none⟩=none):=fun x hx o=>by
    have:x=mb:=by simpa using hx
    subst this
    exact FO.o.cache.mX o
   generalize hcb:turns.contains (k:Int)=tb at hd0 hd1 afd Np
   have HCB:=ae hcb
   clear hcb
   generalize hcd:mr h.aZ n tb=cn at hd0 hd1 afd Np
   have HCD:=ae hcd
   clear hcd
   go_wp2_with fail
   refine zg 16 [mb] (some 6) [(4,Spec.val (.bool tb)),(6,⟨fun _ v=>v=iv cn,fun _ _ W=>Cache W mb h.aZ⟩)] ?_
   simp only[zt]
   repeat (refine zd ?_;simp only[zp])
   refine eF _ (by rfl) (by rfl) 147 _ (fun W hW=>by go_simp;try rfl) (fun W hE hF=>by have:=iJ turns (.slice ot turns.length ct) (k:Int) W (HTS.o.gu hE HNC.o);rw[HCB.o] at this;exact this) ?_
   simp only[zp]
   repeat (refine zd ?_;simp only[zp])
   refine bG _ (by rfl) (by rfl) ⟨_,rfl⟩ (fun W hE hF=>?_) (fun v W W' hc hE=>?_) (fun v hv=>?_)
   ·have hE':Ext [] wr W:=hE
    refine dE 216 #[.pointer (some ⟨wb,0,none⟩),sv n tb] (by go_simp;try rfl) ?_
    refine(aaE h a b c wb mb n tb W (FO.o.below hE'.below (ai _)) hn0 (by omega) hc0 hc1).mono ?_
    rintro e W' ⟨rfl,hcc,hE2⟩
    exact⟨_,rfl,by rw[HCD.o],hcc,hE2⟩
   ·have hE':Ext [] W W':=hE
    exact Cache.kept hc (hE'.block mb (Cache.lt hc) (by simp))
   obtain rfl:v=iv cn:=hv
   simp only[zp]
   repeat (refine zd ?_;simp only[zp])
   intro W hE hF
   have hCW:Cache W mb h.aZ:=hF _ (bF _)
   have UR:=(hE.block (w.heap.size+1) hb6 (by simpa using akG)).trans alT.o
   have hfr:=bn UR
   have hck:=gG UR (show k<(qF h.size h.aZ turns start bZ k).length by rw[lq];omega)
   have HCW:=ae hCW
   have XZ:=ae UR
   have HEW:=ae hE
   clear hF hCW UR hE
   go_wp2_with fail
   go_roundw
   case rel=>
    refine⟨k+1,by omega,by go_num,by rw[Np.o],?_,?_,?_⟩
    ·exact((FO.o.ext HEW.o HCW.o).kept (dH _ _ _ _ (by show wb≠w.heap.size+1;omega)) (dH _ _ _ _ (by show mb≠w.heap.size+1;omega)))
    ·rw[afd.o, <-sV]
     exact aI XZ.o _
    ·exact(HE0.o.trans HEW.o).set (by show w.heap.size<=w.heap.size+1;omega) _
   case measure=>simp[intOf];omega
  ·have hkl:k=bZ.length:=by omega
   obtain⟨y0,y1,y2,y3,y4,y5,y6,y7,y8,y9,hy⟩:=CS (lq h.size h.aZ turns start bZ k)
   have hres:lL h (start,bZ) turns=[y0,y1,y2,y3,y4,y5,y6,y7,y8,y9]:=by rw[<-hy,hkl];rfl
   rw[hy] at hblk
   have hfr:=bn hblk
   have hcs: ∀i,wr.cell? ⟨w.heap.size+1,i,none⟩=(#[iv y0,iv y1,iv y2,iv y3,iv y4,iv y5,iv y6,iv y7,iv y8,iv y9]:Array Value)[i]? :=fun i=>by
    simp only[World.cell?,hblk];rfl
   have XU:=ae hres
   have HE0:=ae hE0
   have FO:=ae hwk
   clear hres hy hblk hE0 hwk hws hts GY
   go_wp2_with fail
   (try simp only[Exit.inBlock,Exit.then])
   refine bodyPost_ret (v:= .agg #[iv y0,iv y1,iv y2,iv y3,iv y4,iv y5,iv y6,iv y7,iv y8,iv y9]) (by simp[results,Tryz.results133,go_sem,hcs]) rfl ⟨by rw[XU.o];rfl,?_,?_⟩
   ·refine FO.o.cache.kept ?_
    repeat rw[dH _ _ _ _ (by show mb≠w.heap.size+1;omega)]
   ·repeat (refine Ext.set ?_ (by show w.heap.size<=w.heap.size+1;omega) _)
    exact HE0.o
end Go.Proofs.YthllkbbbapgelaaGreatDoor.jI
namespace Go.Proofs.YthllkbbbapgelaaGreatDoor.jI
open Go.RowKit Go.RG Go.SL Go.Shelf jy
def Ff (t:TypeId) (size n:Nat) (xs:List Value) (w:World) (e:Ending) (w':World):Prop:= ∃v,e= .returned v/\w'.ownsRow w.heap.size t size v n xs/\Below w.heap.size w w'
theorem clone_any (l:List Int) (v:Value) (w:World) (hv:aO w v l) (hlen:l.length<=1000):
 Calls Tryz.prog 91 #[v] w (Ff 3 1 l.length (ah l) w):=by
 obtain⟨o,c,rfl⟩:=hv.open
 have HV:=ae hv
 have hnil:=fun(w:World) a n c=>Lib.run_eql_slice_nil (P:=Tryz.prog) w 52 3 a n c 0 0 Tryz.underlying52
 cases o with
 |none=>
  have hl0:l.length=0:=by
   obtain⟨_,o,c',h0,h1,h2,h3,h4⟩:=hv
   cases h0
   have:=h3 rfl
   omega
  have hc0:c=0:=by
   obtain⟨_,o,c',h0,h1,h2,h3,h4⟩:=hv
   cases h0
   exact h3 rfl
  have hl:l=[]:=kG hl0
  subst hl
  clear hv
  subst hc0
  go_enter Tryz.func91,Tryz.ntmps91
  go_wp2
  go_returns
  exact⟨.slice none 0 0,by simp,⟨by simp[ah],.inl ⟨rfl,rfl⟩⟩,aH _ _⟩
 |some a=>
  obtain⟨b,off,sp⟩:=a
  obtain rfl:sp=none:=by
   obtain⟨_,o,c',h0,h1,h2,h3,h4⟩:=hv
   cases h0
   exact(h4 _ rfl).1
  clear hv
  go_enter Tryz.func91,Tryz.ntmps91
  go_wp2_with (at_builtin;refine fV rfl _ _ sK rfl w.heap.size (.slice (some ⟨w.heap.size,0,none⟩) 0 0) 0 [] rfl ?_ (.slice (some ⟨b,off,none⟩) l.length c) l.length (ah l) rfl ?_ (jL _) (by omega) (by omega) (by simp) ?_)
  ·exact iM (cs:= #[]) (n:=0) (ay _ _) rfl (ai _) (by decide)
  ·exact HV.o.alloc _
  ·intro v' w1 hown hgrow
   have HO:=ae hown
   have HG:=ae hgrow
   clear hown hgrow
   go_wp2
   go_returns
   refine⟨v',by simp,?_,?_⟩
   ·exact HO.o
   ·exact Below.grown (aj (aH _ _) _) HG.o (by simp) (fun k e=>by cases e;exact ai _)
end Go.Proofs.YthllkbbbapgelaaGreatDoor.jI
namespace Go.Proofs.YthllkbbbapgelaaGreatDoor.jI
open Go.RowKit Go.RG Go.SL Go.Shelf jy
theorem Cache.Lu {W:World} {mb:Nat} {aZ:Int} (h:Cache W mb aZ) (cs:Array Value) (t:TypeId) (f:Nat×Nat):W.heap[mb]?≠some (Obj.cells cs t f):=by
 obtain⟨es,c,h1,_⟩:=h
 rw[h1];intro e;cases e
theorem L8 (h:cZ) (a b c:Value) (n:Nat) (w:World) (h0:0<=h.last) (h9:h.last<=9) (hn:h.last+1=n):Calls Tryz.prog 93 #[hv h a b c] w (PV (iv n) w):=by
 rw[<-hn];exact rY h a b c w h0 h9
end Go.Proofs.YthllkbbbapgelaaGreatDoor.jI
namespace Go.Proofs.YthllkbbbapgelaaGreatDoor.jI
open Go.RowKit Go.RG Go.SL Go.Shelf jy
end Go.Proofs.YthllkbbbapgelaaGreatDoor.jI
end
section
namespace Go.Proofs.YthllkbbbapgelaaGreatDoor.jI
open Go.RowKit Go.RG Go.SL Go.Shelf jy
attribute [local go_sem] Oper.semAt_some
structure D9 (W:World) (n bx jv bo bc ob l:Nat) (o:List Int):Prop where
 y:W.heap[jv]? =some (.cells #[.func (.yield l) #[] #[]] 163 (0,0))
 out:W.heap[bo]? =some (.cells #[.slice (some ⟨ob,0,none⟩) n n] 52 (0,0))
 ch:W.heap[bc]? =some (.cells #[.func (.func 234) #[] #[.pointer (some ⟨bx,0,none⟩),.pointer (some ⟨jv,0,none⟩),.pointer (some ⟨bo,0,none⟩),.pointer (some ⟨bc,0,none⟩)]] 274 (0,0))
 cells:W.heap[ob]? =some (.cells (ah o).toArray 3 (0,0))
theorem D9.kept {W W':World} {n bx jv bo bc ob l:Nat} {o:List Int} (h:D9 W n bx jv bo bc ob l o) (hk: ∀m∈[ob,jv,bo,bc],m<W.heap.size->W'.heap[m]? =W.heap[m]?):D9 W' n bx jv bo bc ob l o:=
 ⟨(hk _ (by simp) (aS.1 h.y).1).trans h.y,(hk _ (by simp) (aS.1 h.out).1).trans h.out,(hk _ (by simp) (aS.1 h.ch).1).trans h.ch,(hk _ (by simp) (aS.1 h.cells).1).trans h.cells⟩
theorem D9.below {W W':World} {n bx jv bo bc ob l:Nat} {o:List Int} (h:D9 W n bx jv bo bc ob l o) (hb:Below W.heap.size W W'):D9 W' n bx jv bo bc ob l o:=
 ⟨(hb.block _ (aS.1 h.y).1).trans h.y,(hb.block _ (aS.1 h.out).1).trans h.out,(hb.block _ (aS.1 h.ch).1).trans h.ch,(hb.block _ (aS.1 h.cells).1).trans h.cells⟩
theorem D9.set {W:World} {n bx jv bo bc ob l:Nat} {o:List Int} (h:D9 W n bx jv bo bc ob l o) (hd1:jv≠ob) (hd2:bo≠ob) (hd3:bc≠ob) (i:Nat) (x:Int):D9 (W.setCell ⟨ob,i,none⟩ (iv x)) n bx jv bo bc ob l (o.set i x):=
 ⟨(dH _ _ _ _ hd1).trans h.y,(dH _ _ _ _ hd2).trans h.out,(dH _ _ _ _ hd3).trans h.ch,by rw[<-sV];exact aI h.cells _⟩
def adC (Ms:List Nat) (x:List Int) (v:Value) (W:World):Prop:=
 ∃ob:Nat,v= .slice (some ⟨ob,0,none⟩) x.length x.length/\W.heap[ob]? =some (.cells (ah x).toArray 3 (0,0))/\ob∈Ms
def xh (bx:Nat) (v:Value) (R:List dR) (W:World):Prop:=W.heap[bx]? =some (.cells #[v] 51 (0,0))/\bT W v R
theorem TA (R:List dR) (hR: ∀r∈R,0<=r.1/\r.1<=r.2/\r.2<=500) (hn:R.length<=100) (bx jv bo bc ob l:Nat) (hd1:jv≠ob) (hd2:bo≠ob) (hd3:bc≠ob) (v:Value) (J:List Nat->Option Nat->World->Prop)
 (hInv: ∀Ms s W1,J Ms s W1->xh bx v R W1)
 (hstep: ∀Ms Ms' s W1 W2,J Ms s W1->Ext Ms W1 W2->(∀m∈Ms',m∈Ms∨(W1.heap.size<=m/\m<W2.heap.size))->True->J Ms' s W2)
 (hY: ∀Ms k v W1 (hk:k<(fB R).length),J Ms (some k) W1->adC Ms (fB R)[k] v W1->YieldAt Fence.wide 0 Tryz.prog l #[v] W1 fun e W'=>
   ((∀m∈Ms,m∉[]->m<W1.heap.size->W'.heap[m]? =W1.heap[m]?)/\W1.heap.size<=W'.heap.size)/\((e= .returned (.bool true)/\J Ms (some (k+1)) W')∨(e= .returned (.bool false)/\J Ms none W'))):
 ∀(m i k:Nat) (pre:List Int) (W:World) (o:List Int),i+m=R.length->pre.length=i->o.length=R.length->o.take i=pre->jJ R i k pre->D9 W R.length bx jv bo bc ob l o->J [ob,jv,bo,bc] (some k) W->
  CallsIn Fence.wide 0 Tryz.prog 234 #[iv i,.pointer (some ⟨bx,0,none⟩),.pointer (some ⟨jv,0,none⟩),.pointer (some ⟨bo,0,none⟩),.pointer (some ⟨bc,0,none⟩)] W
   (fun e W'=>(e= .returned (.bool true)/\J [ob,jv,bo,bc] (some (k+(fB (R.drop i)).length)) W'/\ ∃o',o'.length=R.length/\o'.take i=pre/\D9 W' R.length bx jv bo bc ob l o')∨
     (e= .returned (.bool false)/\J [ob,jv,bo,bc] none W')):=by
 intro m
 induction m with
 |zero=>
  intro i k pre W o him hpl hol hot hat hst hJ
  obtain rfl:i=R.length:=by omega
  obtain⟨hone,hk,hx⟩:=hat.last rfl
  rw[hone]
  obtain rfl:o=pre:=by rw[<-hot, <-hol,List.take_length]
  obtain⟨hbx,hsl⟩:=hInv _ _ _ hJ
  obtain⟨f1,t1,a1,b1,hy1,hR1⟩:=hY _ k (.slice (some ⟨ob,0,none⟩) R.length R.length) W hk hJ (by rw[hx];exact⟨ob,by rw[hol],hst.cells,by simp⟩)
  have c1:=aB hbx
  have c2:=aB hst.y
  have c3:=aB hst.out
  have hlen:=hsl.len
  obtain⟨so,sc,rfl⟩:=hsl.open
  have HR:=ae hR1
  have HS:=ae hst
  clear hInv hstep hY hR1 hst hJ hbx hsl hat
  refine callsIn_of_wp Tryz.func234 rfl trivial ?_
  simp only[Tryz.ntmps234,List.size_toArray,List.length_cons,List.length_nil,Nat.reduceAdd,Nat.reduceSub,Array.replicate_succ,Array.replicate_zero,kQ,kR,List.nil_append,List.cons_append]
  gi_wp2_with fail
  refine HR.out.mono ?_
  rintro e W' ⟨⟨hkeep,hsz⟩,⟨rfl,hJ⟩|⟨rfl,hJ⟩⟩
  ·have HJ:=ae hJ
   have HK:=ae hkeep
   clear hJ hkeep
   gi_wp2_with fail
   go_returns
   exact .inl ⟨by simp,HJ.out,o,hol,hot,HS.out.kept (fun m hm hml=>HK.out m hm (by simp) hml)⟩
  ·have HJ:=ae hJ
   have HK:=ae hkeep
   clear hJ hkeep
   gi_wp2_with fail
   go_returns
   exact .inr ⟨by simp,HJ.out⟩
 |succ m ih=>
  intro i k pre W o him hpl hol hot hat hst hJ
  have hi:i<R.length:=by omega
  have hcount:=jJ.count hi
  obtain⟨hr0,hr1,hr2⟩:=hR R[i] (dh hi)
  obtain⟨hbx,hsl⟩:=hInv _ _ _ hJ
  have c1:=aB hbx
  have c2:=aB hst.y
  have c3:=aB hst.out
  have c4:=aB hst.ch
  have hlen:=hsl.len
  obtain⟨so,sc,rfl⟩:=hsl.open
  obtain⟨b,off,rfl,hb,hc0,hc1⟩:=bT.cell hsl hi
  have HAT:=ae hat
  have HI:=ae hInv
  have HST:=ae hstep
  have HS:=ae hst
  have HJ:=ae hJ
  have HIH:=ae ih
  have HSL:=ae hsl
  have HBX:=ae hbx
  have hiI:(i:Int)<R.length:=by omega
  have hne:(i:Int)≠R.length:=by omega
  have hneb:((i:Int)==R.length)=false:=by simpa using hne
  have HN:Hid (jJ R i k pre/\i<R.length):=ae ⟨hat,hi⟩
  have KL:=ae (ag hol hot)
  have HCT:=ae hcount
  have hsize: ∃z:Nat,eu R[i]=z/\z<=501:=⟨(eu R[i]).toNat,by unfold eu;omega,by unfold eu;omega⟩
  obtain⟨z,hz,ama⟩:=hsize
  have Np:Hid (∀c:Nat,c<z->jJ R (i+1) (k+c*(fB (R.drop (i+1))).length) (pre++[R[i].1+(c:Int)])):=ae (fun c hc=>hat.next hi c (by omega))
  have HCZ:Hid ((fB (R.drop i)).length=z*(fB (R.drop (i+1))).length):=ae (by rw[hcount,hz];simp)
  clear hInv hstep hY hat hst hJ ih hsl hbx hcount hne hol hot hR
  generalize Et:R[i]=r at*
  have HRI:=ae Et
  clear Et
  have HZ:=ae hz
  clear hz HCT
  have hbs:=dI W _ c1
  have hys:=dI W _ c2
  have hos:=dI W _ c3
  have hcs:=dI W _ c4
  refine callsIn_of_wp Tryz.func234 rfl trivial ?_
  simp only[Tryz.ntmps234,List.size_toArray,List.length_cons,List.length_nil,Nat.reduceAdd,Nat.reduceSub,Array.replicate_succ,Array.replicate_zero,kQ,kR,List.nil_append,List.cons_append]
  gi_wp2_with fail
  refine((callsIn_wide.2 (size_any r W hr0 hr1 (by omega)))).mono ?_
  rintro e W1 ⟨rfl,hb1⟩
  rw[HZ.out]
  have HB1:=ae hb1
  obtain⟨hc,hf⟩:=bK hb1
  clear hb1
  gi_wp2_with fail
  have hst1:D9 W1 R.length bx jv bo bc ob l o:=HS.out.below HB1.out
  have hJ1:J [ob,jv,bo,bc] (some k) W1:=HST.out _ _ _ _ _ HJ.out (Ext.aA HB1.out) (fun m hm=> .inl hm) trivial
  have Nc:=ae hst1
  have HJ1:=ae hJ1
  clear hst1 hJ1 hc hf
  gi_loopw [7,20] (fun _ u wr=> ∃c:Nat,c<=z/\u= .int .i64 c/\ ∃o':List Int,o'.length=R.length/\o'.take i=pre/\D9 wr R.length bx jv bo bc ob l o'/\J [ob,jv,bo,bc] (some (k+c*(fB (R.drop (i+1))).length)) wr)
   (fun _ u _=>z-(intOf u).toNat)
  case atStart=>exact⟨0,bQ _,rfl,o,KL.out.1,KL.out.2,Nc.out,by simpa using HJ1.out⟩
  case round=>
   obtain⟨c,hcz,rfl,o',ho1,ho2,hst,hJ⟩:=hrel
   by_cases hlt:c<z
   ·obtain⟨hbx,hsl⟩:=HI.out _ _ _ hJ
    have d1:=aB hbx
    have d2:=aB hst.y
    have d3:=aB hst.out
    have d4:=aB hst.ch
    have aoY:=dI wr _ d1
    have aoX:=dI wr _ d2
    have aoW:=dI wr _ d3
    have aoV:=dI wr _ d4
    obtain⟨b',off',hbb,hb',e0,e1⟩:=bT.cell hsl HN.out.2
    cases hbb
    rw[HRI.out] at e0 e1
    have hio:i<o'.length:=by omega
    have d5:=gG hst.cells hio
    have aoU:=dI wr _ d5
    have hfr:=bn hst.cells
    have Ir:=ae hst
    have Ul:=ae hJ
    have HO:=ae (ag ho1 ho2)
    clear hst hJ hbx hsl ho1 ho2 c1 c2 c3 c4 hc0 hc1
    have Fb:(c:Int)<z:=by omega
    gi_wp2_with fail
    refine FT 10 [] none [] (by kernel_rfl) (by kernel_rfl) (by kernel_rfl) ?_
    simp only[zt]
    repeat (refine zn ?_;simp only[zp])
    intro W hE hF
    obtain⟨hc,hf⟩:=bK hE.below
    have hzE:=hE.size
    (try simp only[bu] at hzE)
    have HE:=ae hE.below
    clear hE hF
    gi_wp2_with fail
    have GV:=(Ir.out.below HE.out).set hd1 hd2 hd3 i (r.1+(c:Int))
    have hJS:J [ob,jv,bo,bc] (some (k+c*(fB (R.drop (i+1))).length)) (W.setCell ⟨ob,i,none⟩ (iv (r.1+(c:Int)))):=
     HST.out _ _ _ _ _ (HST.out _ _ _ _ _ Ul.out (Ext.aA HE.out) (fun m hm=> .inl hm) trivial) ((mJ W ⟨ob,i,none⟩ _).more (fun x hx=>by simp at hx;subst hx;simp)) (fun m hm=> .inl hm) trivial
    have hcall:=HIH.out (i+1) _ (pre++[r.1+(c:Int)]) _ (o'.set i (r.1+(c:Int))) (by omega) (by simp[hpl]) (by simp[HO.out.1]) (by
     rw[List.take_set]
     rw[qY,HO.out.2]
     have hio:i<o'.length:=by have:=HO.out.1;omega
     rw[dw hio]
     simp[qA,hpl]) (Np.out c hlt) GV hJS
    rw[show((i+1:Nat):Int)=(i:Int)+1 from by omega] at hcall
    have Cf:=ae hcall
    clear hcall GV hJS
    refine Cf.out.mono ?_
    rintro e W2 (⟨rfl,hJ2,o2,ho1,ho2,hst2⟩|⟨rfl,hJ2⟩)
    ·have HJ2:=ae hJ2
     have Uc:=ae hst2
     have Fh:=ae (ag ho1 ho2)
     clear hJ2 hst2 ho1 ho2 hc hf d1 d2 d3 d4 d5 hfr e0 e1
     gi_wp2_with fail
     go_roundw
     case rel=>
      refine⟨c+1,by omega,by go_num,o2,Fh.out.1,?_,Uc.out,?_⟩
      ·have:=congrArg (List.take i) Fh.out.2
       rw[List.take_take,Nat.min_eq_left (by omega)] at this
       rw[this,nK (by omega),kF (by omega)]
      ·rw[Nat.add_mul,Nat.one_mul, <-Nat.add_assoc];exact HJ2.out
     case measure=>simp[intOf];omega
    ·have HJ2:=ae hJ2
     clear hJ2 hc hf d1 d2 d3 d4 d5 hfr e0 e1
     gi_wp2_with fail
     go_returns
     exact .inr ⟨by simp,HJ2.out⟩
   ·have SG:c=z:=by omega
    subst SG
    have Ul:=ae hJ
    have Ir:=ae hst
    have HO:=ae (ag ho1 ho2)
    clear hJ hst ho1 ho2 c1 c2 c3 c4 hc0 hc1
    gi_wp2_with fail
    go_returns
    refine .inl ⟨by simp,?_,o',HO.out.1,HO.out.2,Ir.out⟩
    rw[HCZ.out];exact Ul.out
end Go.Proofs.YthllkbbbapgelaaGreatDoor.jI
namespace Go.Proofs.YthllkbbbapgelaaGreatDoor.jI
open Go.RowKit Go.RG Go.SL Go.Shelf jy
theorem vS (n:Nat) (hn:n<=1000) (W:World):
 (Instr.makeSlice 52 (iv n) (iv n)).run Tryz.prog W= .ok (.slice (some ⟨W.heap.size,0,none⟩) n n) (W.alloc (.cells (ah (List.replicate n 0)).toArray 3)):=by
 obtain⟨i,hi,hz,hs,hby⟩:=info_parts sK.info
 have:=run_make (P:=Tryz.prog) W 52 3 i (iv 0) sK.und hi hz .i64 .i64 n n (by omega) (Int.le_refl _) (by rw[hby];omega) (by omega)
 rw[this,hs]
 simp only[Int.toNat_natCast]
 congr 3
 apply Array.ext
 ·simp[madeCells,ah]
 ·intro j h1 h2
  simp[madeCells,ah,Value.cells]
  rw[Nat.mod_one]
  rfl
theorem mg (w:World) (A B C D:Obj):((((w.alloc A).alloc B).alloc C).alloc D).heap[w.heap.size+1+1+1]? =some D:=by
 have:=heap_alloc_new (((w.alloc A).alloc B).alloc C) D;rwa [bu,bu,bu] at this
theorem Wh (R:List dR) (hR: ∀r∈R,0<=r.1/\r.1<=r.2/\r.2<=500) (hn:R.length<=100) (bx:Nat) (v:Value):
 XM Tryz.prog 233 #[.pointer (some ⟨bx,0,none⟩)] (fB R) adC [] (fun _=>True) (xh bx v R):=by
 intro l J W hInv hstep hY h0
 obtain⟨hbx,hsl⟩:=hInv _ _ _ h0
 have hch:=fun jv bo bc ob hd1 hd2 hd3=>TA R hR hn bx jv bo bc ob l hd1 hd2 hd3 v J hInv hstep hY
 have c1:=aB hbx
 have hb1:=dI W _ c1
 have hlen:=hsl.len
 obtain⟨so,sc,rfl⟩:=hsl.open
 have HCH:=ae hch
 have HST:=ae hstep
 have HJ:=ae h0
 have hmk:=vS R.length (by omega)
 have hn3: ∀(A B C:Obj) (v:Value) (t:TypeId),((((W.alloc A).alloc B).alloc C).alloc (.cells #[v] t)).cell? ⟨W.heap.size+1+1+1,0,none⟩=some v:=fun A B C v t=>aB (mg W A B C _)
 have hf3: ∀(A B C:Obj) (v:Value) (t:TypeId),((((W.alloc A).alloc B).alloc C).alloc (.cells #[v] t)).frozen? ⟨W.heap.size+1+1+1,0,none⟩=false:=fun A B C v t=>bn (mg W A B C _) 0
 clear hInv hstep hY hch h0 hbx hsl hR
 go_enter Tryz.func233,Tryz.ntmps233
 go_wp2_with fail
 refine(callsIn_wide.1 (HCH.o W.heap.size (W.heap.size+1+1) (W.heap.size+1+1+1) (W.heap.size+1) (by omega) (by omega) (by omega) R.length 0 0 [] _ (List.replicate R.length 0) (by omega) rfl (by simp) (by simp) (jJ.zero R) ⟨?_,?_,?_,?_⟩
  (HST.o _ _ _ _ _ HJ.o (Ext.aA zl) (fun m hm=> .inr (by simp at hm;(first|omega|(simp;omega)))) trivial))).mono ?_
 ·exact((aV _ _ _ (by simp;omega)).trans ((aV _ _ _ (by simp;omega)).trans ((aV _ _ _ (by simp)).trans (ay _ _))))
 ·exact((aV _ _ _ (by simp)).trans (iq _ _ _ _))
 ·exact mg _ _ _ _ _
 ·exact((aV _ _ _ (by simp)).trans ((aV _ _ _ (by simp)).trans (dV _ _ _)))
 ·rintro e W2 (⟨rfl,hJ2,_⟩|⟨rfl,hJ2⟩)
  ·have HJ2:=ae hJ2
   clear hJ2 hn3 hf3 hmk
   go_wp2_with fail
   go_end0
   exact⟨⟨_,rfl⟩,_,.inl (by simpa using HJ2.o)⟩
  ·have HJ2:=ae hJ2
   clear hJ2 hn3 hf3 hmk
   go_wp2_with fail
   go_end0
   exact⟨⟨_,rfl⟩,_,.inr HJ2.o⟩
theorem Wi (o:Option Addr) (n c:Nat) (w:World):
 Calls Tryz.prog 145 #[.slice o n c] w (fun e w'=>e= .returned (.func (.func 233) #[] #[.pointer (some ⟨w.heap.size,0,none⟩)])/\w'=w.alloc (.cells #[.slice o n c] 51)):=by
 go_enter Tryz.func145,Tryz.ntmps145
 go_wp2
 go_returns
 exact⟨by simp,rfl⟩
end Go.Proofs.YthllkbbbapgelaaGreatDoor.jI
namespace Go.Proofs.YthllkbbbapgelaaGreatDoor.jI
open Go.RowKit Go.RG Go.SL Go.Shelf jy
attribute [local go_sem] Oper.semAt_some
theorem Q9 (h:cZ) (o:Option Addr) (cc:Nat) (b c:Value) (w:World) (hw:bT w (.slice o h.bZ.length cc) h.bZ) (hlen:h.bZ.length<=1000):
 Calls Tryz.prog 146 #[hv h (.slice o h.bZ.length cc) b c] w (Ff 50 2 (h.bZ.length+1) (aG (h.start::h.bZ)) w):=by
 have HW:=ae hw
 clear hw
 go_enter Tryz.func146,Tryz.ntmps146
 go_wp2_with (at_builtin;refine fV rfl _ _ KY rfl (w.heap.size+1) (.slice (some ⟨w.heap.size+1,0,none⟩) 1 1) 1 [iv h.start.1,iv h.start.2] rfl ?_ (.slice o h.bZ.length cc) h.bZ.length (aG h.bZ) rfl ?_ (oN _) (by omega) (by omega) (by simp) ?_)
 ·exact iM (dV _ _ _) rfl (ai _) (by decide)
 ·exact(HW.o.alloc _).alloc _
 ·intro v' w1 hown hgrow
  have HO:=ae hown
  have HG:=ae hgrow
  clear hown hgrow
  go_wp2
  go_returns
  refine⟨v',by simp,?_,?_⟩
  ·have:=HO.o
   rw[Nat.add_comm 1 h.bZ.length] at this
   exact⟨this.1,this.2.imp id (fun⟨g,cap,cur,h1,h2,h3⟩=>⟨g,cap,cur,h1,by omega,h3⟩)⟩
  ·exact Below.grown (aj (aj (aH _ _) _) _) HG.o (by simp;omega) (fun k e=>by cases e;show _<=w.heap.size+1;omega)
theorem QX (ob n:Nat) (hn:1<=n) (W:World):
 (Instr.slice 52 (.slice (some ⟨ob,0,none⟩) (n+1) (n+1)) (some (iv 1)) none none).run Tryz.prog W= .ok (.slice (some ⟨ob,1,none⟩) n n) W:=by
 have h0: ¬n+1=1:=by omega
 have h1:(1:Int)<=((n+1:Nat):Int):=by omega
 have:=run_slice_l (P:=Tryz.prog) W 52 (some ⟨ob,0,none⟩) (n+1) (n+1) (by kernel_rfl) .i64 1 (by omega) h1
 rw[this]
 have h2: ¬n=0:=by omega
 simp[go_sem,sliced,h2]
theorem xQ (P:Program) {w:World} {g:Nat} {t:TypeId} {cur:Array Value} (ys:List Int) (hg:w.heap[g]? =some (.cells cur t (0,0))) (hl:cur.size=ys.length):
 ∃w',(storeCells ⟨g,0,none⟩ (ah ys)).run P w= .ok () w'/\w'.heap[g]? =some (.cells (ah ys).toArray t (0,0))/\Ext [g] w w':=by
 have hil:(ah ys).length=ys.length:=by simp[ah]
 have h:=run_storeCells_at P g 0 t (ah ys) 0 cur w hg (by omega) (jL ys)
 refine⟨_,h,?_,rfl,rfl,rfl,by simp,fun k _ hm=>setRow_other _ _ _ _ (by simpa using hm)⟩
 rw[setRow_heap w g cur _ t _ hg]
 simp
 omega
structure XL (wb mb bw bo:Nat) (h:cZ) (a b c ov:Value) (out:List Int) (W:World):Prop where
 w:W.heap[bw]? =some (.cells #[.pointer (some ⟨wb,0,none⟩)] 170 (0,0))
 o:W.heap[bo]? =some (.cells #[ov] 52 (0,0))
 work:iY W wb mb h a b c
 bZ:bT W a h.bZ
 turns:aO W b h.turns
 readings:bJ W c h.readings
 out:aO W ov out
theorem XL.below {wb mb bw bo:Nat} {h:cZ} {a b c ov:Value} {out:List Int} {W W':World} (t:XL wb mb bw bo h a b c ov out W) (hb:Below W.heap.size W W'):XL wb mb bw bo h a b c ov out W':=
 ⟨(hb.block _ (aS.1 t.w).1).trans t.w,(hb.block _ (aS.1 t.o).1).trans t.o,t.work.below hb (ai _),t.bZ.below hb (ai _),t.turns.below hb (ai _),
   t.readings.below hb (ai _),t.out.below hb (ai _)⟩
theorem Dt {Ms:List Nat} {a b c:World} {x:Nat} (h:Ext Ms a b) (k:Ext [x] b c) (hx:a.heap.size<=x):Ext Ms a c:=
 ⟨k.os.trans h.os,k.tape.trans h.tape,k.output.trans h.output,iW h.size k.size,
   fun i hi hm=>(k.block i (fH hi h.size) (by simp;omega)).trans (h.block i hi hm)⟩
theorem ac2 {l n:Nat} {P:Program} {ops:Array Oper} {Q:Exit->Act->World->Prop} {a:Act} {w:World} {rest:List Oper} {o:Oper} (hw:Region.wanted o (yielded ops a.tmps)=false)
 (h:wpListIn (Fence.wide.inRound l) n P ops Q rest (a.put o.dst undef) w):wpListIn (Fence.wide.inRound l) n P ops Q (o::rest) a w:=by
 simp only[wpListIn,hw]
 exact⟨fun _ _=>trivial,h⟩
theorem mV (q:Nat) (f:Nat->Bool):(List.range (q+1)).all f=((List.range q).all f&&f q):=by
 rw[List.range_succ,List.all_append]
 simp
theorem CZ {W:World} {mb b:Nat} {aZ:Int} {cs:Array Value} {t:TypeId} {f:Nat×Nat} (hc:Cache W mb aZ) (h:W.heap[b]? =some (Obj.cells cs t f)): ¬b=mb:=by
 intro e;subst e;exact hc.Lu _ _ _ h
def aeY (mb:Nat) (Ms:List Nat) (t:Int×List Int) (v:Value) (W:World):Prop:=
 ∃ob:Nat,v= .agg #[iv t.1,.slice (some ⟨ob,1,none⟩) t.2.length t.2.length]/\aO W (.slice (some ⟨ob,1,none⟩) t.2.length t.2.length) t.2/\ob∈Ms/\ob≠mb
abbrev Qx (mb tb bx rb d:Nat):List Nat:=[mb,tb,bx,rb,d,d+1]
structure BX (l mb tb bx rb d cap:Nat) (R:List dR) (Ms:List Nat) (W:World):Prop where
 y:W.heap[tb]? =some (.cells #[.func (.yield l) #[] #[]] 288 (0,0))
 box:xh bx (.slice (some ⟨rb,0,none⟩) R.length cap) R W
 apart: ∀m∈Ms,m∉Qx mb tb bx rb d
 small: ∀p∈Qx mb tb bx rb d,p<W.heap.size
theorem xh.kept {bx rb cap:Nat} {R:List dR} {n:Nat} {W W':World} (h:xh bx (.slice (some ⟨rb,0,none⟩) n cap) R W) (h1:W'.heap[bx]? =W.heap[bx]?) (h2:W'.heap[rb]? =W.heap[rb]?):
 xh bx (.slice (some ⟨rb,0,none⟩) n cap) R W':=
 ⟨h1.trans h.1,h.2.kept fun b off n c hv _=>by cases hv;exact h2⟩
theorem BX.kept {l mb tb bx rb d cap:Nat} {R:List dR} {Ms Ms':List Nat} {W W':World} (h:BX l mb tb bx rb d cap R Ms W) (hs:W.heap.size<=W'.heap.size) (hk: ∀p∈[tb,bx,rb],W'.heap[p]? =W.heap[p]?)
 (hMs: ∀m∈Ms',m∈Ms∨(W.heap.size<=m/\m<W'.heap.size)):BX l mb tb bx rb d cap R Ms' W':=
 ⟨(hk _ (by simp)).trans h.y,h.box.kept (hk _ (by simp)) (hk _ (by simp)),fun m hm hp=>by
   rcases hMs m hm with h1|h1
   ·exact h.apart m h1 hp
   ·have:=h.small m hp;omega,fun p hp=>by have:=h.small p hp;omega⟩
theorem BX.ext {l mb tb bx rb d cap:Nat} {R:List dR} {Ms Ms':List Nat} {W W':World} (h:BX l mb tb bx rb d cap R Ms W) (hE:Ext Ms W W')
 (hMs: ∀m∈Ms',m∈Ms∨(W.heap.size<=m/\m<W'.heap.size)):BX l mb tb bx rb d cap R Ms' W':=
 h.kept hE.size (fun p hp=>hE.block p (h.small p (by simp at hp⊢;omega)) (fun hm=>h.apart p hm (by simp at hp⊢;omega))) hMs
section
variable {l mb tb bx rb d cap : Nat} {R : List dR} {wb bw bo : Nat} {h : cZ} {a b c ov : Value} {out : List Int} {J : List Nat → Option Nat → World → Prop}
  (hInv : ∀ Ms s W1, J Ms s W1 → XL wb mb bw bo h a b c ov out W1)
  (hstep : ∀ Ms Ms' s W1 W2, J Ms s W1 → Ext Ms W1 W2 → (∀ m ∈ Ms', m ∈ Ms ∨ (W1.heap.size ≤ m ∧ m < W2.heap.size)) → Cache W2 mb h.aZ → J Ms' s W2)
include hInv hstep
theorem U7 {Ms Ms':List Nat} {s:Option Nat} {W1 W2:World} (hp:BX l mb tb bx rb d cap R Ms W1) (hJ:J (Qx mb tb bx rb d++Ms) s W1) (hE:Ext Ms W1 W2) (hMs: ∀m∈Ms',m∈Ms∨(W1.heap.size<=m/\m<W2.heap.size)):
 J (Qx mb tb bx rb d++Ms') s W2:=by
 refine hstep _ _ _ _ _ hJ (hE.more fun x hx=>uk _ hx) ?_ ?_
 ·intro m hm
  rcases iP.1 hm with h1|h1
  ·exact .inl (oD _ h1)
  ·exact(hMs m h1).imp (fun h2=>uk _ h2) id
 ·have hc:=(hInv _ _ _ hJ).work.cache
  exact hc.kept (hE.block _ hc.lt (fun hm=>hp.apart _ hm (by simp)))
theorem Qo {Ms:List Nat} {s:Option Nat} {W:World} {r:Nat} (o:Obj) (hr:r∈Qx mb tb bx rb d) (hm:r≠mb) (hJ:J (Qx mb tb bx rb d++Ms) s W):J (Qx mb tb bx rb d++Ms) s (W.putObj r o):=by
 refine hstep _ _ _ _ _ hJ ((FN W r o).more fun x hx=>?_) (fun m hm=> .inl hm) ?_
 ·have:x=r:=by simpa using hx
  subst this
  exact oD _ hr
 ·exact(hInv _ _ _ hJ).work.cache.kept (World.putObj_heap_other (Ne.symm hm))
theorem acP {Ms:List Nat} {s:Option Nat} {W W':World} (hJ:J (Qx mb tb bx rb d++Ms) s W) (hE:Ext [mb] W W') (hc:Cache W' mb h.aZ):J (Qx mb tb bx rb d++Ms) s W':=
 hstep _ _ _ _ _ hJ (hE.more fun x hx=>by simp at hx;subst hx;simp) (fun m hm=> .inl hm) hc
end
theorem zX (h:cZ) (hS:Sound h) (a b c ov:Value) (out:List Int) (wb mb bw bo:Nat):
 XM Tryz.prog 144 #[.pointer (some ⟨bw,0,none⟩),.pointer (some ⟨bo,0,none⟩)] (dQ h out) (aeY mb) [mb] (fun W=>Cache W mb h.aZ) (XL wb mb bw bo h a b c ov out):=by
 intro l J W hInv hstep hY h0
 have hT:=hInv _ _ _ h0
 obtain⟨oa,ca,rfl⟩:=hT.bZ.open
 obtain⟨otn,cb,rfl⟩:=hT.turns.open
 obtain⟨oc,cc,rfl⟩:=hT.readings.open
 obtain⟨oo,co,rfl⟩:=hT.out.open
 have c1:=aB hT.w
 have hb1:=dI W _ c1
 have c2:=hT.work.cell
 have hb2:=hT.work.lt
 have HT:=ae hT
 have HI:=ae hInv
 have HST:=ae hstep
 have HY:=ae hY
 have HJ:=ae h0
 have oW:=ae hS
 have hwl:h.bZ.length<=10:=by have:=hS.FV;have:=hS.Bl;omega
 clear hInv hstep hY h0 hT hS
 refine(callsIn_wide (n:=0)).1 ?_
 refine callsIn_of_wp_marks Tryz.func144 rfl trivial ?_
 simp only[Tryz.ntmps144,List.size_toArray,List.length_cons,List.length_nil,Nat.reduceAdd,Nat.reduceSub,Array.replicate_succ,Array.replicate_zero,kQ,kR,List.nil_append,List.cons_append]
 gi_wp2_with fail
 refine(callsIn_wide.2 (Q9 h oa ca _ _ _ (HT.out.bZ.alloc _) (by omega))).mono ?_
 rintro e w1 ⟨v1,rfl,hown,hb⟩
 obtain⟨rb,cap,rfl,hrb,hrl⟩: ∃rb cap:Nat,v1= .slice (some ⟨rb,0,none⟩) (h.bZ.length+1) cap/\W.heap.size<rb/\bT w1 (.slice (some ⟨rb,0,none⟩) (h.bZ.length+1) cap) (h.start::h.bZ):=by
  have hsl:=aN.dU hown
  rcases hown.2 with⟨rfl,h0⟩|⟨g,cp,cur,rfl,hbg,hrest⟩
  ·omega
  ·exact⟨g,cp,rfl,by simp at hbg;omega,hsl⟩
 have HB1:=ae (show Below W.heap.size W w1 from aY (aj (aH _ _) _) hb)
 have HTB:=ae ((hb.block W.heap.size (by simp)).trans (ay _ _))
 have hsz1:=hb.size
 have HRL:=ae hrl
 clear hown hb hrl c1 c2
 gi_wp2_with fail
 refine(callsIn_wide.2 (Wi _ _ _ w1)).mono ?_
 rintro e w2 ⟨rfl,rfl⟩
 gi_wp2_with fail
 obtain⟨w2,hw2⟩: ∃w2,w1.alloc (.cells #[.slice (some ⟨rb,0,none⟩) (h.bZ.length+1) cap] 51)=w2:=⟨_,rfl⟩
 have hsz2:w2.heap.size=w1.heap.size+1:=by rw[<-hw2];simp
 have xA:Below w1.heap.size w1 w2:=by rw[<-hw2];exact aj (aH _ _) _
 have hbx2:w2.heap[w1.heap.size]? =some (.cells #[.slice (some ⟨rb,0,none⟩) (h.bZ.length+1) cap] 51 (0,0)):=by rw[<-hw2];exact ay _ _
 rw[hw2]
 have agu:=(xA.block _ (aS.1 HTB.out).1).trans HTB.out
 have hrl2:bT w2 (.slice (some ⟨rb,0,none⟩) (h.bZ.length+1) cap) (h.start::h.bZ):=HRL.out.below xA (ai _)
 have aoc:rb<w1.heap.size:=by
  obtain⟨b',off',hbb,hlt,_⟩:=bT.cell HRL.out (show 0<(h.start::h.bZ).length by simp)
  cases hbb;exact hlt
 have an4:W.heap.size<w1.heap.size:=(aS.1 HTB.out).1
 have hmb:mb<W.heap.size:=HT.out.work.cache.lt
 have hBW2:Below W.heap.size W w2:=aY HB1.out xA
 have HP0:Hid (∀o o',BX l mb W.heap.size w1.heap.size rb w2.heap.size cap (h.start::h.bZ) [] ((w2.alloc o).alloc o')):=ae (fun o o'=>
  ⟨(aV _ _ _ (by simp;omega)).trans ((aV _ _ _ (by omega)).trans agu),
    xh.kept (W:=w2) ⟨hbx2,hrl2⟩ ((aV _ _ _ (by simp;omega)).trans (aV _ _ _ (by omega))) ((aV _ _ _ (by simp;omega)).trans (aV _ _ _ (by omega))),by simp,
    fun p hp=>by simp at hp⊢;omega⟩)
 have HJ0:Hid (∀o o',J (Qx mb W.heap.size w1.heap.size rb w2.heap.size++[]) (some (cnt h out 0)) ((w2.alloc o).alloc o')):=ae (fun o o'=>by
  have hBW:Below W.heap.size W ((w2.alloc o).alloc o'):=aj (aj hBW2 _) _
  exact HST.out _ _ _ _ _ HJ.out (Ext.aA hBW) (fun m hm=>by simp at hm⊢;omega) (HT.out.work.cache.kept (hBW.block mb hmb)))
 clear hw2 hbx2 agu hrl2 xA
 refine mP (Wh (h.start::h.bZ) ?hR (by simp;omega) w1.heap.size (.slice (some ⟨rb,0,none⟩) (h.bZ.length+1) cap)) rfl (enters_of Tryz.func233 (by kernel_rfl) rfl) rfl (by simp)
  (fun Ms k W'=>BX l mb W.heap.size w1.heap.size rb w2.heap.size cap (h.start::h.bZ) Ms W'/\J (Qx mb W.heap.size w1.heap.size rb w2.heap.size++Ms) (some (cnt h out k)) W')
  (fun c Ms W'=>c= .ret/\BX l mb W.heap.size w1.heap.size rb w2.heap.size cap (h.start::h.bZ) Ms W'/\J (Qx mb W.heap.size w1.heap.size rb w2.heap.size++Ms) none W')
  ?hInv ?pK ?hI ?hIx ?Ja ?tX (fun o o'=>⟨HP0.out o o',HJ0.out o o'⟩)
  (fun a Ms k W1 a₁ W'=> ∃ob:Nat,a₁={tmps:=(a.tmps.setIfInBounds 16 (.slice (some ⟨ob,0,none⟩) (h.bZ.length+1) (h.bZ.length+1))).setIfInBounds 4 (.slice (some ⟨ob,0,none⟩) (h.bZ.length+1) (h.bZ.length+1)),defers:=[]}/\
    BX l mb W.heap.size w1.heap.size rb w2.heap.size cap (h.start::h.bZ) Ms W'/\J (Qx mb W.heap.size w1.heap.size rb w2.heap.size++Ms) (some (cnt h out k)) W'/\ob∈Ms/\W'.heap[ob]? =some (.cells (ah ((qX h).getD k [])).toArray 3 (0,0))/\
    (∀m∈Ms,W'.heap[m]? =W1.heap[m]?)/\W1.heap.size<=W'.heap.size)
  ?MB ?hassign ?hbody ?hdone ?hstop
 case hR=>
  intro r hr
  have hS:=oW.out
  rcases gZ.1 hr with rfl|hr
  ·exact⟨hS.YT,hS.YS,hS.YR⟩
  ·have:=hS.bZ r hr;omega
 case hInv=>rintro Ms k W' ⟨hp,_⟩;exact hp.box
 case pK=>rintro c Ms W' ⟨_,hp,_⟩;exact hp.box
 case hI=>rintro Ms Ms' k Wa Wb ⟨hp,hJ⟩ hE hMs _;exact⟨hp.ext hE hMs,U7 HI.out HST.out hp hJ hE hMs⟩
 case hIx=>rintro c Ms Ms' Wa Wb ⟨hc,hp,hJ⟩ hE hMs _;exact⟨hc,hp.ext hE hMs,U7 HI.out HST.out hp hJ hE hMs⟩
 case Ja=>
  rintro Ms k W' r o ⟨hp,hJ⟩ hr
  exact⟨hp.kept (by simp) (fun p hp'=>World.putObj_heap_other (by simp at hp';omega)) (fun m hm=> .inl hm),Qo HI.out HST.out o (by simp;omega) (by omega) hJ⟩
 case tX=>
  rintro c Ms W' r o ⟨hc,hp,hJ⟩ hr
  exact⟨hc,hp.kept (by simp) (fun p hp'=>World.putObj_heap_other (by simp at hp';omega)) (fun m hm=> .inl hm),Qo HI.out HST.out o (by simp;omega) (by omega) hJ⟩
 case MB=>
  rintro Ms k W1 a₁ W' o ⟨ob,ha,hp,hJ,hob,hcells,hk,hs⟩
  have hne: ∀m∈Ms,m≠w2.heap.size+1:=fun m hm e=>hp.apart m hm (by simp;omega)
  exact⟨ob,ha,hp.kept (by simp) (fun p hp'=>World.putObj_heap_other (by simp at hp';omega)) (fun m hm=> .inl hm),Qo HI.out HST.out o (by simp) (by omega) hJ,hob,
   (World.putObj_heap_other (hne _ hob)).trans hcells,fun m hm=>(World.putObj_heap_other (hne m hm)).trans (hk m hm),by simpa using hs⟩
 case hassign=>
  rintro Ms k v W' hk ⟨hp,hJ⟩ ⟨ob,rfl,hcells,hob⟩ hlt
  have hlen:((fB (h.start::h.bZ))[k]).length=h.bZ.length+1:=VJ _ _ (dh _)
  rw[hlen]
  gi_wp2
  refine⟨⟨ob,rfl,hp,hJ,hob,?_,fun m hm=>trivial,ai _⟩,trivial,trivial⟩
  have hk':k<(qX h).length:=hk
  rw[show(qX h).getD k []=(fB (h.start::h.bZ))[k] from by rw[gV,dw hk'];rfl]
  exact hcells
 case hdone=>
  rintro Ms W' ⟨hp,hJ⟩ hD hlt
  gi_wp2
  refine⟨by simp,.inl ⟨_,_,rfl,run_takeDeferred hD,?_⟩⟩
  refine⟨_,results_none rfl _ _ _,⟨_,rfl⟩,Qx mb W.heap.size w1.heap.size rb w2.heap.size++Ms,.inl ?_⟩
  have:=Qo HI.out HST.out (Obj.deferred none) (r:=w2.heap.size) (by simp) (by omega) hJ
  rw[<-acD]
  exact this
 case hstop=>
  rintro c Ms W' ⟨rfl,hp,hJ⟩ hD hlt
  gi_wp2
  refine⟨by simp,.inl ⟨_,_,rfl,run_takeDeferred hD,?_⟩⟩
  refine⟨_,results_none rfl _ _ _,⟨_,rfl⟩,Qx mb W.heap.size w1.heap.size rb w2.heap.size++Ms,.inr ?_⟩
  exact Qo HI.out HST.out (Obj.deferred none) (r:=w2.heap.size) (by simp) (by omega) hJ
 case hbody=>
  rintro Ms k W1 a₁ W' busy hk ⟨ob,rfl,hp,hJ,hob,hcells,hkeep,hsz⟩ hrec hD
  simp only[rf,List.set_cons_succ,List.set_cons_zero]
  have hTI:=HI.out _ _ _ hJ
  have hk':k<(qX h).length:=hk
  have hxm:(qX h).getD k []∈qX h:=by rw[gV,dw hk'];exact dh _
  have hxk:(qX h).getD k []=(qX h)[k]:=by rw[gV,dw hk'];rfl
  obtain⟨s0,rest,hx,hrl,hs0,hrest⟩:=GG oW.out hxm
  rw[hx] at hcells
  have hcell0:=gG hcells (k:=0) (by simp)
  simp only[List.getElem_cons_zero] at hcell0
  have aoh:=dI W' _ hcell0
  have agz:aO W' (.slice (some ⟨ob,1,none⟩) h.bZ.length h.bZ.length) rest:=by
   refine⟨by simp[ah],_,_,by rw[hrl],ai _,by simp[maxLen];omega,(fun h=>by cases h),fun a ha=>?_⟩
   cases ha
   refine⟨rfl,fun j u hj=>?_⟩
   simp only[World.cell?,hcells]
   rw[show(1+j)=j+1 from by omega]
   simpa [ah] using hj
  have hn1:1<=h.bZ.length:=by have:=oW.out.FV;have:=oW.out.J4;omega
  have hnI:(1:Int)<=((h.bZ.length+1:Nat):Int):=by omega
  have hne0: ¬h.bZ.length=0:=by omega
  have hwI:((h.bZ.length:Int)+1).toNat=h.bZ.length+1:=by omega
  have HX:Hid ((qX h)[k]=s0::rest):=ae (by rw[<-hxk];exact hx)
  have HTI:=ae hTI
  have HP:=ae hp
  have HJb:=ae hJ
  have HCL:=ae hcells
  have HRC:=ae (ag hrec hD)
  have HKP:=ae hkeep
  have HSR:=ae agz
  have Nh:=ae (ag hs0 hrest)
  have ajW:=QX ob h.bZ.length hn1
  clear hTI hxm hxk hx hcells hp hJ hrec hD hkeep agz hrest
  gi_wp2_with fail
  refine dP 7 [] none [(6,Spec.block W'.heap.size #[iv 0,.slice none 0 0] 208)] (by kernel_rfl) (by kernel_rfl) (by kernel_rfl) ?_
  simp only[zt]
  repeat (refine zd ?_;simp only[zp])
  refine jV W'.heap.size _ _ (by rfl) (ai _) (by rfl) (by simp) (by simp) (fun W hW=>by go_simp;try rfl) (fun b5=>?_)
  simp only[zp]
  intro W3 hE hF
  obtain⟨b',hb,hbB,hblk⟩:=hF _ (bF _)
  cases hb
  have hfr:=bn hblk
  have hb5:=(aS.1 hblk).1
  have hg: ∀i,W3.cell? ⟨b5,i,none⟩=(#[iv 0,.slice none 0 0]:Array Value)[i]? :=fun i=>by
   simp only[World.cell?,hblk];rfl
  have HE3:=ae hE.below
  have nD:=ae hblk
  clear hblk hF hE ajW hcell0
  gi_wp2_with fail
  obtain⟨W4,FK⟩: ∃W4,(W3.setCell ⟨b5,0,none⟩ (iv s0)).setCell ⟨b5,1,none⟩ (.slice (some ⟨ob,1,none⟩) h.bZ.length h.bZ.length)=W4:=⟨_,rfl⟩
  rw[FK]
  have hB4:Below W'.heap.size W' W4:=by rw[<-FK];exact iF (iF HE3.out hbB _) hbB _
  have hblk5:W4.heap[b5]? =some (.cells #[iv s0,.slice (some ⟨ob,1,none⟩) h.bZ.length h.bZ.length] 208 (0,0)):=by rw[<-FK];exact aI (aI nD.out _) _
  have hT4:=HTI.out.below hB4
  have c1:=aB hT4.w
  have hb1:=dI W4 _ c1
  have c2:=hT4.work.cell
  have hb2:=hT4.work.lt
  have akH:=(aS.1 hblk5).1
  have hg5: ∀i,W4.cell? ⟨b5,i,none⟩=(#[iv s0,.slice (some ⟨ob,1,none⟩) h.bZ.length h.bZ.length]:Array Value)[i]? :=fun i=>by
   simp only[World.cell?,hblk5];rfl
  have hn1':=CZ hT4.work.cache hT4.w
  have aoo:=CZ hT4.work.cache hT4.work.cells
  have akb:=CZ hT4.work.cache hblk5
  have agO:=hT4.work.cache.lt
  obtain⟨ys,hy⟩: ∃ys,lL h (s0,rest) h.turns=ys:=⟨_,rfl⟩
  have GR:ys.length=10:=by rw[<-hy];exact lq _ _ _ _ _ _
  have HYY:=ae hy
  have HT4:=ae hT4
  have HB4:=ae hB4
  have Yn:=ae hblk5
  clear hT4 hB4 hblk5 FK hy hfr hg hb5
  refine dP 9 [mb] (some 7) [(7,⟨fun _ v=>v= .agg (ah ys).toArray,fun _ _ W=>Cache W mb h.aZ⟩),(8,Spec.block W4.heap.size #[iv 0,iv 0,iv 0,iv 0,iv 0,iv 0,iv 0,iv 0,iv 0,iv 0] 178)] (by kernel_rfl) (by kernel_rfl) (by kernel_rfl) ?_
  simp only[zt]
  repeat (refine zd ?_;simp only[zp])
  refine bG _ (by rfl) (by rfl) ⟨_,rfl⟩ (fun W5 hE hF=>?_) (fun v Wa Wb hc hE=>?_) (fun v hv=>?_)
  ·have hE':Ext [] W4 W5:=hE
   refine dE 133 #[.pointer (some ⟨wb,0,none⟩),.agg #[iv s0,.slice (some ⟨ob,1,none⟩) h.bZ.length h.bZ.length],.slice otn h.turns.length cb] (by go_simp;try rfl) ?_
   have hT5:=HT4.out.below hE'.below
   refine(x9 h _ _ _ wb mb s0 rest h.turns _ _ W5 hT5.work (HSR.out.below (aY HB4.out hE'.below) (ai _)) hT5.turns (by omega) oW.out.NM oW.out.NL oW.out.Pv oW.out.Pq Nh.out.1.1 Nh.out.1.2 Nh.out.2).mono ?_
   rintro e W6 ⟨rfl,hcc,hE2⟩
   exact⟨_,rfl,by rw[HYY.out],hcc,hE2⟩
  ·have hE':Ext [] Wa Wb:=hE
   exact Cache.kept hc (hE'.block mb (Cache.lt hc) (by simp))
  obtain rfl:v= .agg (ah ys).toArray:=hv
  simp only[zp]
  refine jV W4.heap.size _ _ (by rfl) (ai _) (by rfl) (by simpa using agO) (by simp) (fun W hW=>by go_simp;try rfl) (fun b6=>?_)
  simp only[zp]
  intro W5 hE hF
  obtain⟨b',hb,ao2,hblk⟩:=hF _ (bF _)
  cases hb
  have hcc:Cache W5 mb h.aZ:=hF _ (nJ _ (bF _))
  obtain⟨W6,hst,hblk6,BC⟩:=xQ Tryz.prog ys hblk (by rw[GR];rfl)
  have hyl:(ah ys).length=10:=by simp[ah,GR]
  have aop:mb<W4.heap.size:=agO
  have aai:Ext [mb] W' W6:=Dt ((Ext.aA HB4.out).trans hE) BC (by have:=HB4.out.size;omega)
  have ahl:Cache W6 mb h.aZ:=hcc.kept (BC.block mb (Cache.lt hcc) (by simp;omega))
  have hJ6:=acP HI.out HST.out HJb.out aai ahl
  have hT6:=HI.out _ _ _ hJ6
  have Ye:BX l mb W.heap.size w1.heap.size rb w2.heap.size cap (h.start::h.bZ) Ms W6:=HP.out.kept aai.size (fun p hp=>aai.block p (HP.out.small p (by simp at hp⊢;omega)) (by simp at hp⊢;omega)) (fun m hm=> .inl hm)
  have hblk5:=(BC.block b5 (by have:=hE.size;omega) (by simp;omega)).trans ((hE.block b5 akH (by simpa using akb)).trans Yn.out)
  have c1:=aB hT6.w
  have c2:=hT6.work.cell
  have hs1:=dI W6 _ c1
  have hs2:=hT6.work.lt
  have HJ6:=ae hJ6
  have HT6:=ae hT6
  have HP6:=ae Ye
  have Yn:=ae hblk5
  have HE6:=ae aai
  have HK6:=ae hblk6
  clear hblk hF hE hcc hg5 hblk6 BC aai ahl hJ6 hT6 Ye hblk5
  gi_wp2_with fail
  clear c1 c2
  have ali:=ae GR
  gi_loopw [7,37] (fun r u wr=> ∃q:Nat,q<=h.readings.length/\u= .int .i64 q/\r= .bool ((List.range q).all (Rt h out (s0,rest)))/\Below W6.heap.size W6 wr)
   (fun _ u _=>h.readings.length-(intOf u).toNat)
  case atStart=>exact⟨0,bQ _,rfl,rfl,aH _ _⟩
  case round=>
   obtain⟨q,hq,rfl,rfl,Nl⟩:=hrel
   have hTq:=HT6.out.below Nl
   by_cases hlt:q<h.readings.length
   ·obtain⟨b',off',rfl,hb',e0,e1,e2⟩:=bJ.cell hTq.readings hlt
    have hxr:=oW.out.rdg _ (dh hlt)
    have hok:Rt h out (s0,rest) q=(out.contains (q:Int) ||CX h.readings[q] ys):=by
     unfold Rt
     rw[HYY.out,show h.readings.getD q (0,0,0)=h.readings[q] from by simp[hlt]]
    have hsucc:=mV q (Rt h out (s0,rest))
    rw[hok] at hsucc
    have aki:=oW.out.Bl
    have LZ:=oW.out.ajA
    have hbd6: ∀n∈ys,0<=n/\n<=100000:=by
     rw[<-HYY.out]
     intro n hn
     have:=OZ (h:=h) (t:=(s0,rest)) h.turns oW.out.NM oW.out.NL oW.out.Pv oW.out.Pq Nh.out.1.1 Nh.out.1.2 Nh.out.2 (by simp;omega) n hn
     omega
    have ab5:=(Nl.block b6 (aS.1 HK6.out).1).trans HK6.out
    have d1:=aB hTq.o
    have hd1:=dI wr _ d1
    have adq:=hTq.out
    generalize h.readings[q]=x at e0 e1 e2 hxr hok hsucc
    generalize (List.range q).all (Rt h out (s0,rest))=rq at hsucc
    obtain⟨y0,y1,y2,y3,y4,y5,y6,y7,y8,y9,hys⟩:=CS ali.out
    rw[hys] at hsucc hbd6 ab5
    have aov:=(aS.1 ab5).1
    have hg6: ∀i,wr.cell? ⟨b6,i,none⟩=(#[iv y0,iv y1,iv y2,iv y3,iv y4,iv y5,iv y6,iv y7,iv y8,iv y9]:Array Value)[i]? :=fun i=>by
     simp only[World.cell?,ab5];rfl
    have xw:=ae hsucc
    have HRT:=ae (fun W=>yU x y0 y1 y2 y3 y4 y5 y6 y7 y8 y9 W hxr.1.1 (by omega) hxr.2.1.1 hxr.2.1.2 hxr.2.2.1 hxr.2.2.2 hbd6)
    have HBQ:=ae Nl
    have HTQ:=ae hTq
    have hqI:(q:Int)<h.readings.length:=by omega
    generalize hrr:CX x [y0,y1,y2,y3,y4,y5,y6,y7,y8,y9]=rr at xw HRT
    have HCT:=ae (fun(W:World) (hb:Below wr.heap.size wr W)=>iJ out (.slice oo out.length co) (q:Int) W (adq.below hb (ai _)))
    generalize hcc:out.contains (q:Int)=cb at xw HCT
    clear hsucc hok hrr hcc hTq adq Nl ab5 hys hbd6 hxr hyl hst
    cases rq
    ·gi_wp2_with (refine ac2 (by rfl) ?_;simp only[zp])
     go_roundw
     case rel=>exact⟨.bool false,_,_,.int .i64 ((q:Int)+1),⟨q+1,by omega,by go_num,by rw[xw.out];rfl,aj HBQ.out _⟩,rfl,rfl,rfl,rfl⟩
     case measure=>simp[intOf];omega
    ·gi_wp2_with fail
     refine(CallsIn.inRound _ (callsIn_wide.2 (HCT.out _ zl))).mono ?_
     rintro e W7 ⟨rfl,hb7⟩
     obtain⟨hc7,hf7⟩:=bK hb7
     have zU:=ae hb7
     have hz7:=hb7.size
     simp only[bu] at hz7
     have hz8:wr.heap.size<W7.heap.size:=by omega
     clear hb7
     cases cb
     ·gi_wp2_with fail
      refine(CallsIn.inRound _ (callsIn_wide.2 (HRT.out _))).mono ?_
      rintro e W8 ⟨rfl,hb8⟩
      have oV:=ae hb8
      clear hb8
      gi_wp2_with fail
      go_roundw
      case rel=>exact⟨q+1,by omega,by go_num,by rw[xw.out];rfl,aY (aY (aj HBQ.out _) zU.out) oV.out⟩
      case measure=>simp[intOf];omega
     ·gi_wp2_with fail
      go_roundw
      case rel=>exact⟨q+1,by omega,by go_num,by rw[xw.out];rfl,aY (aj HBQ.out _) zU.out⟩
      case measure=>simp[intOf];omega
   ·have hql:q=h.readings.length:=by omega
    have aeh:(List.range q).all (Rt h out (s0,rest))=okT h out (Vo (qX h)[k]):=by rw[HX.out,hql];rfl
    rw[aeh]
    have hEr:Ext [mb] W' wr:=HE6.out.trans (Ext.aA Nl)
    have hJr:=HST.out _ _ _ _ _ HJ6.out (Ext.aA Nl) (fun m hm=> .inl hm) hTq.work.cache
    have hPr:BX l mb W.heap.size w1.heap.size rb w2.heap.size cap (h.start::h.bZ) Ms wr:=HP6.out.kept Nl.size (fun p hp=>Nl.block p (HP6.out.small p (by simp at hp⊢;omega))) (fun m hm=> .inl hm)
    have hrec:=(hEr.block _ (aS.1 HRC.out.1).1 (by simp;omega)).trans HRC.out.1
    have hdef:=(hEr.block _ (aS.1 HRC.out.2).1 (by simp;omega)).trans HRC.out.2
    have hkp: ∀m∈Ms,m∉([]:List Nat)->m<W1.heap.size->wr.heap[m]? =W1.heap[m]? :=fun m hm _ hml=>
     (hEr.block m (by omega) (by have:=HP.out.apart m hm;simp at this⊢;omega)).trans (HKP.out m hm)
    have ajT:W1.heap.size<=wr.heap.size:=by have:=hEr.size;omega
    have HJR:=ae hJr
    have HPR:=ae hPr
    have Iu:=ae (ag hrec (ag hdef (ag hkp ajT)))
    have HTQ:=ae hTq
    have HBQ:=ae Nl
    have HER:=ae hEr
    cases hpv:okT h out (Vo (qX h)[k])
    ·have HPV:=ae hpv
     clear hpv aeh hJr hPr hrec hdef hkp hTq Nl hEr hyl hst
     gi_wp2_with (refine ac2 (by rfl) ?_;simp only[zp])
     exact⟨Iu.out,HPR.out,by rw[aeP hk' HPV.out];exact HJR.out⟩
    ·obtain⟨hcn,hcx⟩:=QP hk' hpv
     have hcy:=acC hk' hpv
     have agy:aO wr (.slice (some ⟨ob,1,none⟩) h.bZ.length h.bZ.length) rest:=by
      refine HSR.out.kept fun b off n c hv hlt'=>hEr.block b hlt' ?_
      cases hv
      have:=HP.out.apart ob hob
      simp at this⊢;omega
     have aj8:ob≠mb:=by have:=HP.out.apart ob hob;simp at this;omega
     obtain⟨f1,t1,a1,bd1,hy1,hR1⟩:=HY.out (Qx mb W.heap.size w1.heap.size rb w2.heap.size++Ms) (cnt h out k) (.agg #[iv s0,.slice (some ⟨ob,1,none⟩) h.bZ.length h.bZ.length]) wr hcn HJR.out
      (by rw[hcx,HX.out];exact⟨ob,by simp[Vo,hrl],by simpa [Vo,hrl] using agy,uk _ hob,aj8⟩)
     have d0:=aB hPr.y
     have hd0:=dI wr _ d0
     have aep:=(Nl.block b5 (aS.1 Yn.out).1).trans Yn.out
     have hd5:=(aS.1 aep).1
     have aoM: ∀i,wr.cell? ⟨b5,i,none⟩=(#[iv s0,.slice (some ⟨ob,1,none⟩) h.bZ.length h.bZ.length]:Array Value)[i]? :=fun i=>by
      simp only[World.cell?,aep];rfl
     have HR1:=ae hR1
     have HCY:=ae hcy
     have ail:=ae (ag (aS.1 hrec).1 (aS.1 hdef).1)
     clear hpv aeh hJr hPr hrec hdef hkp hTq Nl hEr hyl hst agy hcx aep hR1 hcy
     gi_wp2_with fail
     refine HR1.out.mono ?_
     rintro e W8 ⟨⟨hkeep,ajU⟩,⟨rfl,hJ8⟩|⟨rfl,hJ8⟩⟩
     all_goals
      have HJ8:=ae hJ8
      have IJ:BX l mb W.heap.size w1.heap.size rb w2.heap.size cap (h.start::h.bZ) Ms W8:=HPR.out.kept ajU (fun p hp=>hkeep p (oD _ (by simp at hp⊢;omega)) (by simp at hp⊢;omega) (HPR.out.small p (by simp at hp⊢;omega))) (fun m hm=> .inl hm)
      have hq8:W8.heap[w2.heap.size+1]? =some (.loop busy)/\W8.heap[w2.heap.size]? =some (.deferred (some []))/\(∀m∈Ms,m∉([]:List Nat)->m<W1.heap.size->W8.heap[m]? =W1.heap[m]?)/\W1.heap.size<=W8.heap.size:=
       ⟨(hkeep _ (by simp) (by simp;omega) ail.out.1).trans Iu.out.1,(hkeep _ (by simp) (by simp;omega) ail.out.2).trans Iu.out.2.1,
         fun m hm h0 hml=>(hkeep m (uk _ hm) (by have:=HP.out.apart m hm;simp at this⊢;omega) (by omega)).trans (Iu.out.2.2.1 m hm h0 hml),by omega⟩
      have KJ:=ae IJ
      have HQ8:=ae hq8
      clear hJ8 IJ hq8 hkeep hy1
     ·gi_wp2_with fail
      exact⟨HQ8.out,KJ.out,by rw[HCY.out];exact HJ8.out⟩
     ·gi_wp2_with fail
      exact⟨HQ8.out,rfl,KJ.out,HJ8.out⟩
end Go.Proofs.YthllkbbbapgelaaGreatDoor.jI
namespace Go.Proofs.YthllkbbbapgelaaGreatDoor.jI
open Go.RowKit Go.RG Go.SL Go.Shelf jy
attribute [local go_sem] Oper.semAt_some
theorem zY (wb:Nat) (o:Option Addr) (n c:Nat) (w:World):
 Calls Tryz.prog 90 #[.pointer (some ⟨wb,0,none⟩),.slice o n c] w (fun e w'=>e= .returned (.func (.func 144) #[] #[.pointer (some ⟨w.heap.size,0,none⟩),.pointer (some ⟨w.heap.size+1,0,none⟩)])/\
  w'=(w.alloc (.cells #[.pointer (some ⟨wb,0,none⟩)] 170)).alloc (.cells #[.slice o n c] 52)):=by
 go_enter Tryz.func90,Tryz.ntmps90
 go_wp2
 go_returns
 exact⟨by simp,rfl⟩
structure Fr (w:World) (mb:Nat) (aZ:Int) (Os Ms:List Nat) (W:World):Prop where
 ext:Ext [mb] w W
 old: ∀m∈Ms,m=mb∨w.heap.size<=m
 bnd: ∀m∈Ms,m<W.heap.size
 apart: ∀b∈Os,b∉Ms/\b<W.heap.size
 cache:Cache W mb aZ
theorem Fr.iV {w:World} {mb:Nat} {aZ:Int} {Os Ms Ms':List Nat} {W1 W2:World} (h:Fr w mb aZ Os Ms W1) (hE:Ext Ms W1 W2) (hMs: ∀m∈Ms',m∈Ms∨(W1.heap.size<=m/\m<W2.heap.size)) (hc:Cache W2 mb aZ):
 Fr w mb aZ Os Ms' W2/\ ∀b∈Os,W2.heap[b]? =W1.heap[b]? :=by
 refine⟨⟨⟨hE.os.trans h.ext.os,hE.tape.trans h.ext.tape,hE.output.trans h.ext.output,iW h.ext.size hE.size,fun k hk hm=>?_⟩,fun m hm=>?_,fun m hm=>?_,fun b hb=>?_,hc⟩,fun b hb=>hE.block b (h.apart b hb).2 (h.apart b hb).1⟩
 ·refine(hE.block k (fH hk h.ext.size) (fun hk'=>?_)).trans (h.ext.block k hk hm)
  rcases h.old k hk' with h1|h1
  ·exact hm (by simp[h1])
  ·omega
 ·rcases hMs m hm with h1|h1
  ·exact h.old m h1
  ·exact .inr (iW h.ext.size h1.1)
 ·rcases hMs m hm with h1|h1
  ·exact fH (h.bnd m h1) hE.size
  ·exact h1.2
 ·refine⟨fun hb'=>?_,fH (h.apart b hb).2 hE.size⟩
  rcases hMs b hb' with h1|h1
  ·exact(h.apart b hb).1 h1
  ·have:=(h.apart b hb).2;omega
theorem Fr.own {w:World} {mb:Nat} {aZ:Int} {Os Ms:List Nat} {W1 W2:World} (h:Fr w mb aZ Os Ms W1) (hE:Ext [mb] w W2) (hs:W1.heap.size<=W2.heap.size) (hc:Cache W2 mb aZ):Fr w mb aZ Os Ms W2:=
 ⟨hE,h.old,fun m hm=>fH (h.bnd m hm) hs,fun b hb=>⟨(h.apart b hb).1,fH (h.apart b hb).2 hs⟩,hc⟩
theorem Fr.abx {w:World} {wb mb bw bo:Nat} {h:cZ} {a b c ov:Value} {out:List Int} {Os Ms:List Nat} {W:World} (hF:Fr w mb h.aZ Os Ms W)
 (hw:iY w wb mb h a b c) (h1:bT w a h.bZ) (h2:aO w b h.turns) (h3:bJ w c h.readings) (h4:aO w ov out)
 (hb1:W.heap[bw]? =some (.cells #[.pointer (some ⟨wb,0,none⟩)] 170 (0,0))) (hb2:W.heap[bo]? =some (.cells #[ov] 52 (0,0))):XL wb mb bw bo h a b c ov out W:=by
 have hm: ∀x∈[mb], ∀o,w.cell? ⟨x,o,none⟩=none:=fun x hx o=>by
  have:x=mb:=by simpa using hx
  subst this
  exact hw.cache.mX o
 exact⟨hb1,hb2,hw.ext hF.ext hF.cache,h1.gu hF.ext hm,h2.gu hF.ext hm,h3.gu hF.ext hm,h4.gu hF.ext hm⟩
theorem Fr.put {w:World} {mb:Nat} {aZ:Int} {Os Ms:List Nat} {W:World} (h:Fr w mb aZ Os Ms W) {r:Nat} (o:Obj) (hr:w.heap.size<=r) (hm:mb<w.heap.size):Fr w mb aZ Os Ms (W.putObj r o):=
 h.own ⟨h.ext.os,h.ext.tape,h.ext.output,by simpa using h.ext.size,fun k hk hn=>(World.putObj_heap_other (by omega)).trans (h.ext.block k hk hn)⟩ (by simp) (h.cache.kept (World.putObj_heap_other (by omega)))
structure Pos (w:World) (wb:Nat) (ov:Value) (r:Bool) (W:World):Prop where
 res:W.heap[w.heap.size]? =some (.cells #[.bool r] 4 (0,0))
 b1:W.heap[w.heap.size+1]? =some (.cells #[.pointer (some ⟨wb,0,none⟩)] 170 (0,0))
 b2:W.heap[w.heap.size+1+1]? =some (.cells #[ov] 52 (0,0))
theorem Pos.kept {w:World} {wb:Nat} {ov:Value} {r:Bool} {W W':World} (h:Pos w wb ov r W) (hk: ∀b∈[w.heap.size,w.heap.size+1,w.heap.size+1+1],W'.heap[b]? =W.heap[b]?):Pos w wb ov r W':=
 ⟨(hk _ (by simp)).trans h.res,(hk _ (by simp)).trans h.b1,(hk _ (by simp)).trans h.b2⟩
theorem pz (h:cZ) (hS:Sound h) (a b c ov:Value) (out:List Int) (wb mb:Nat) (w:World) (hw:iY w wb mb h a b c) (h1:bT w a h.bZ) (h2:aO w b h.turns) (h3:bJ w c h.readings) (h4:aO w ov out):
 Calls Tryz.prog 131 #[.pointer (some ⟨wb,0,none⟩),ov] w (fun e w'=>e= .returned (.bool (!(dQ h out).isEmpty))/\Cache w' mb h.aZ/\Ext [mb] w w'):=by
 obtain⟨oo,co,rfl⟩:=h4.open
 have HW:=ae hw
 have H1:=ae h1
 have H2:=ae h2
 have H3:=ae h3
 have H4:=ae h4
 have oW:=ae hS
 have hmb:=hw.cache.lt
 clear hw h1 h2 h3 h4 hS
 refine(callsIn_wide (n:=0)).1 ?_
 refine callsIn_of_wp_marks Tryz.func131 rfl trivial ?_
 simp only[Tryz.ntmps131,List.size_toArray,List.length_cons,List.length_nil,Nat.reduceAdd,Nat.reduceSub,Array.replicate_succ,Array.replicate_zero,kQ,kR,List.nil_append,List.cons_append]
 gi_wp2_with fail
 refine(callsIn_wide.2 (zY wb _ _ _ _)).mono ?_
 rintro e w1 ⟨rfl,rfl⟩
 gi_wp2_with fail
 obtain⟨w2,hw2⟩: ∃w2,(((w.alloc (.cells #[.bool false] 4)).alloc (.cells #[.pointer (some ⟨wb,0,none⟩)] 170)).alloc (.cells #[.slice oo out.length co] 52))=w2:=⟨_,rfl⟩
 have hB2:Below w.heap.size w w2:=by rw[<-hw2];exact zl
 have hsz2:w2.heap.size=w.heap.size+3:=by rw[<-hw2];simp
 have hP2:Pos w wb (.slice oo out.length co) false w2:=by
  rw[<-hw2]
  exact⟨(aV _ _ _ (by simp;omega)).trans ((aV _ _ _ (by simp)).trans (ay _ _)),(aV _ _ _ (by simp)).trans (dV _ _ _),iq _ _ _ _⟩
 rw[hw2]
 clear hw2
 refine mP (zX h oW.o a b c (.slice oo out.length co) out wb mb (w.heap.size+1) (w.heap.size+1+1)) rfl (enters_of Tryz.func144 (by kernel_rfl) rfl) rfl (by simp;omega)
  (fun Ms k W=>k=0/\Fr w mb h.aZ [w.heap.size,w.heap.size+1,w.heap.size+1+1,w2.heap.size,w2.heap.size+1] Ms W/\Pos w wb (.slice oo out.length co) false W)
  (fun cd Ms W=>(cd= .ret/\(dQ h out).isEmpty=false)/\Fr w mb h.aZ [w.heap.size,w.heap.size+1,w.heap.size+1+1,w2.heap.size,w2.heap.size+1] Ms W/\Pos w wb (.slice oo out.length co) true W)
  ?hInv ?pK ?hI ?hIx ?Ja ?tX ?h0
  (fun a Ms k W1 a₁ W=> ∃v,a₁={tmps:=a.tmps.setIfInBounds 8 v,defers:=[]}/\(Fr w mb h.aZ [w.heap.size,w.heap.size+1,w.heap.size+1+1,w2.heap.size,w2.heap.size+1] Ms W/\Pos w wb (.slice oo out.length co) false W)/\(∀m∈Ms,m∉[mb]->W.heap[m]? =W1.heap[m]?)/\W1.heap.size<=W.heap.size)
  ?MB ?hassign ?hbody ?hdone ?hstop
 case hInv=>rintro Ms k W ⟨_,hF,hP⟩;exact hF.abx HW.o H1.o H2.o H3.o H4.o hP.b1 hP.b2
 case pK=>rintro cd Ms W ⟨_,hF,hP⟩;exact hF.abx HW.o H1.o H2.o H3.o H4.o hP.b1 hP.b2
 case hI=>rintro Ms Ms' k Wa Wb ⟨h0,hF,hP⟩ hE hMs hc;exact⟨h0,(hF.iV hE hMs hc).1,hP.kept (fun b hb=>(hF.iV hE hMs hc).2 b (by simp at hb⊢;omega))⟩
 case hIx=>rintro cd Ms Ms' Wa Wb ⟨h0,hF,hP⟩ hE hMs hc;exact⟨h0,(hF.iV hE hMs hc).1,hP.kept (fun b hb=>(hF.iV hE hMs hc).2 b (by simp at hb⊢;omega))⟩
 case Ja=>rintro Ms k W r o ⟨h0,hF,hP⟩ hr;exact⟨h0,hF.put o (by omega) hmb,hP.kept (fun b hb=>World.putObj_heap_other (by simp at hb;omega))⟩
 case tX=>rintro cd Ms W r o ⟨h0,hF,hP⟩ hr;exact⟨h0,hF.put o (by omega) hmb,hP.kept (fun b hb=>World.putObj_heap_other (by simp at hb;omega))⟩
 case h0=>
  intro o o'
  have hB:Below w.heap.size w ((w2.alloc o).alloc o'):=aj (aj hB2 _) _
  exact⟨rfl,⟨Ext.aA hB,fun m hm=> .inl (by simpa using hm),fun m hm=>(by have:=hB.size;simp at hm;omega),fun b hb=>⟨by simp at hb⊢;omega,by simp at hb⊢;omega⟩,HW.o.cache.kept (hB.block mb hmb)⟩,
   hP2.kept (fun b hb=>(aV _ _ _ (by simp at hb⊢;omega)).trans (aV _ _ _ (by simp at hb;omega)))⟩
 case MB=>
  rintro Ms k W1 a₁ W o ⟨v,ha,⟨hF,hP⟩,hk,hs⟩
  refine⟨v,ha,⟨hF.put o (by omega) hmb,hP.kept (fun b hb=>World.putObj_heap_other (by simp at hb;omega))⟩,fun m hm h0=>?_,by simpa using hs⟩
  exact(World.putObj_heap_other (fun e:m=w2.heap.size+1=>(hF.apart (w2.heap.size+1) (by simp)).1 (by rw[<-e];exact hm))).trans (hk m hm h0)
 case hassign=>
  rintro Ms k v W hk ⟨h0,hF,hP⟩ hE hlt
  gi_wp2
  exact⟨⟨v,by simp,⟨hF,hP⟩,fun _ _ _=>trivial,ai _⟩,trivial,trivial⟩
 case hbody=>
  rintro Ms k W1 a₁ W busy hk ⟨v,rfl,⟨hF,hP⟩,hkeep,hsz⟩ hrec hD
  have hne:(dQ h out).isEmpty=false:=by
   cases hl:dQ h out with
   |nil=>rw[hl] at hk;simp at hk
   |cons x l=>rfl
  have hc:=aB hP.res
  have hf:=bn hP.res 0
  have HF:=ae hF
  have HP:=ae hP
  have HQ:=ae (ag hrec (ag hD (ag hkeep hsz)))
  clear hF hP hrec hD hkeep
  simp only[rf,List.set_cons_succ,List.set_cons_zero]
  gi_wp2_with fail
  refine⟨⟨(dH _ _ _ _ (by show w2.heap.size+1≠w.heap.size;omega)).trans HQ.o.1,(dH _ _ _ _ (by show w2.heap.size≠w.heap.size;omega)).trans HQ.o.2.1,fun m hm h0 _=>?_,by simpa [World.setCell] using hsz⟩,
   ⟨rfl,hne⟩,HF.o.own (HF.o.ext.set (ai _) _) (by simp[World.setCell]) (HF.o.cache.kept (dH _ _ _ _ (by show mb≠w.heap.size;omega))),
   ⟨aI HP.o.res _,(dH _ _ _ _ (by show w.heap.size+1≠w.heap.size;omega)).trans HP.o.b1,(dH _ _ _ _ (by show w.heap.size+1+1≠w.heap.size;omega)).trans HP.o.b2⟩⟩
  exact(dH _ _ _ _ (fun e:m=w.heap.size=>(HF.o.apart w.heap.size (by simp)).1 (by rw[<-e];exact hm))).trans (HQ.o.2.2.1 m hm h0)
 case hdone=>
  rintro Ms W ⟨h0,hF,hP⟩ hD hlt
  have hem:(dQ h out).isEmpty=true:=by
   cases hl:dQ h out with
   |nil=>rfl
   |cons x l=>rw[hl] at h0;simp at h0
  rw[hem]
  have hc:=aB hP.res
  have hf:=bn hP.res 0
  have HF:=ae hF
  have HP:=ae hP
  clear hF hP
  gi_wp2_with fail
  rw[hsz2] at hD
  have hD':(W.setCell ⟨w.heap.size,0,none⟩ (.bool false)).heap[w.heap.size+3]? =some (.deferred (some [])):=(dH _ _ _ _ (by show w.heap.size+3≠w.heap.size;omega)).trans hD
  have hcell:((W.setCell ⟨w.heap.size,0,none⟩ (.bool false)).putObj (w.heap.size+3) (.deferred none)).cell? ⟨w.heap.size,0,none⟩=some (.bool false):=
   aB ((World.putObj_heap_other (by omega)).trans (aI HP.o.res _))
  refine⟨by simp,.inl ⟨_,_,rfl,run_takeDeferred hD',?_⟩⟩
  refine⟨.bool false,by simp[results,Tryz.results131,go_sem,hcell],by rw[hem];rfl,?_,?_⟩
  ·exact HF.o.cache.kept ((World.putObj_heap_other (by omega)).trans (dH _ _ _ _ (by show mb≠w.heap.size;omega)))
  ·have:=(HF.o.own (HF.o.ext.set (p:=⟨w.heap.size,0,none⟩) (ai _) (.bool false)) (by simp[World.setCell]) (HF.o.cache.kept (dH _ _ _ _ (by show mb≠w.heap.size;omega)))).put (Obj.deferred none) (r:=w.heap.size+3) (by omega) hmb
   exact this.ext
 case hstop=>
  rintro cd Ms W ⟨⟨rfl,hne⟩,hF,hP⟩ hD hlt
  have HF:=ae hF
  have HP:=ae hP
  clear hF hP
  gi_wp2_with fail
  have hcell:(W.putObj (w2.heap.size) (.deferred none)).cell? ⟨w.heap.size,0,none⟩=some (.bool true):=
   aB ((World.putObj_heap_other (by omega)).trans HP.o.res)
  refine⟨by simp,.inl ⟨_,_,rfl,run_takeDeferred hD,?_⟩⟩
  refine⟨.bool true,by simp[results,Tryz.results131,go_sem,hcell],by rw[hne];rfl,?_,?_⟩
  ·exact HF.o.cache.kept (World.putObj_heap_other (by omega))
  ·exact(HF.o.put (Obj.deferred none) (r:=w2.heap.size) (by omega) hmb).ext
end Go.Proofs.YthllkbbbapgelaaGreatDoor.jI
namespace Go.Proofs.YthllkbbbapgelaaGreatDoor.jI
open Go.RowKit Go.RG Go.SL Go.Shelf jy
def jo (h:cZ) (turns:List Int):Int:=if vW h≠0 then vW h else if og h.last turns=false then 2 else if(dQ h []).isEmpty then 11 else 0
def acZ (h:cZ) (a b c:Value) (turns:List Int) (w:World) (e:Ending) (w':World):Prop:=
 Below w.heap.size w w'/\((jo h turns≠0/\e= .returned (.tuple #[.pointer none,.int .i64 (jo h turns)]))∨
  (jo h turns=0/\ ∃wb mb:Nat,e= .returned (.tuple #[.pointer (some ⟨wb,0,none⟩),.int .i64 0])/\w.heap.size<=wb/\w.heap.size<=mb/\iY w' wb mb h a b c))
theorem ik {w W W':World} {mb:Nat} (h:Below w.heap.size w W) (hE:Ext [mb] W W') (hm:w.heap.size<=mb):Below w.heap.size w W':=
 h.trans ⟨hE.os,hE.tape,hE.output,hE.size,fun k hk=>by
  by_cases hlt:k<W.heap.size
  ·exact hE.block k hlt (by simp;omega)
  ·have:=h.size;omega⟩
theorem wu (h:cZ) (wv tv uU NH:Value) (turns:List Int) (w:World) (hw:bT w wv h.bZ) (ht:aO w tv h.turns) (hx:bJ w uU h.readings) (htr:aO w NH turns):
 Calls Tryz.prog 75 #[hv h wv tv uU,NH] w (acZ h wv tv uU turns w):=by
 obtain⟨ow,cw,rfl⟩:=hw.open
 obtain⟨ot,ct,rfl⟩:=ht.open
 obtain⟨ox,cx,rfl⟩:=hx.open
 have HW:=ae hw
 have HT:=ae ht
 have HX:=ae hx
 clear hw ht hx
 obtain⟨oq,cq,rfl⟩:=htr.open
 have HQ:=ae htr
 clear htr
 by_cases hf0:vW h=0
 case neg=>
  have he:jo h turns=vW h:=by unfold jo;rw[aF hf0]
  have HE:Hid (jo h turns=vW h/\jo h turns≠0):=ae ⟨he,by rw[he];exact hf0⟩
  clear he
  generalize hff:vW h=f at*
  have HF:=ae hff
  clear hff
  go_enter Tryz.func75,Tryz.ntmps75
  go_wp2_with fail
  refine(vY h _ _ _ _ (HW.o.alloc _) (HT.o.alloc _) (HX.o.alloc _)).mono ?_
  rintro e w' ⟨rfl,hb⟩
  rw[HF.o]
  go_wp2_with fail
  go_returns
  exact⟨aY (aj (aH _ _) _) hb,.inl ⟨HE.o.2,by rw[HE.o.1];simp⟩⟩
 have hS:=F7 hf0
 obtain⟨hl0,hl9⟩:0<=h.last/\h.last<=9:=⟨hS.J4,hS.Bl⟩
 have HF:=ae hf0
 have oW:=ae hS
 clear hf0 hS
 have hask:jo h turns=if og h.last turns=false then 2 else if(dQ h []).isEmpty then 11 else 0:=by unfold jo;rw[ak (by rw[HF.o];simp)]
 have Un:=ae hask
 clear hask
 generalize htn:og h.last turns=tn at Un
 have HTN:=ae htn
 clear htn
 go_enter Tryz.func75,Tryz.ntmps75
 go_wp2_with fail
 refine(vY h _ _ _ _ (HW.o.alloc _) (HT.o.alloc _) (HX.o.alloc _)).mono ?_
 rintro e w' ⟨rfl,hb⟩
 rw[HF.o]
 obtain⟨hc,hf⟩:=bK hb
 have hz0:w.heap.size<w'.heap.size:=(by have:=hb.size;(try simp only[bu] at this);omega)
 have HB:=ae (show Below w.heap.size w w' from aY (aj (aH _ _) _) hb)
 clear hb
 go_wp2_with fail
 refine(pg h _ _ _ _ turns _ (HQ.o.below HB.o (ai _)) hl0 hl9).mono ?_
 rintro e w3 ⟨rfl,hb⟩
 rw[HTN.o]
 have HB3:=ae (aY HB.o hb)
 obtain⟨hc3,hf3⟩:=bK hb
 clear hb
 cases tn
 ·go_wp2_with fail
  go_returns
  exact⟨HB3.o,.inl ⟨by rw[Un.o];simp,by rw[Un.o];simp⟩⟩
 go_wp2_with fail
 refine(FU h ow ot ox _ _ _ _ _ _ w3).mono ?_
 rintro e w4 ⟨wb,mb,rfl,h1,h2,h3,h4⟩
 have hsz:=HB3.o.size
 have HW4:=ae h3
 have HB4:=ae (aY HB3.o h4)
 clear h3 h4 hc hf hc3 hf3
 go_wp2_with fail
 refine(pz h oW.o _ _ _ (.slice none 0 0) [] wb mb w4 HW4.o (HW.o.below HB4.o (ai _)) (HT.o.below HB4.o (ai _)) (HX.o.below HB4.o (ai _)) (aN.nil 1 w4)).mono ?_
 rintro e w5 ⟨rfl,hcc,hE⟩
 have nD:=ae (ik HB4.o hE (by omega))
 have HW5:=ae (HW4.o.ext hE hcc)
 clear hcc hE
 generalize htl:(dQ h []).isEmpty=em at Un
 cases em
 ·go_wp2_with fail
  go_returns
  exact⟨nD.o,.inr ⟨by rw[Un.o];simp,wb,mb,by simp,by omega,by omega,HW5.o⟩⟩
 ·go_wp2_with fail
  go_returns
  exact⟨nD.o,.inl ⟨by rw[Un.o];simp,by rw[Un.o];simp⟩⟩
end Go.Proofs.YthllkbbbapgelaaGreatDoor.jI
namespace Go.Proofs.YthllkbbbapgelaaGreatDoor.jI
open Go.RowKit Go.RG Go.SL Go.Shelf jy
theorem XC (l:List Int) (v:Value) (bg:Nat) (fst caps:Array Value) (q:Int->Bool) (w:World) (hv:aO w v l) (eg: ∀args w,(callFunc bg args).run Tryz.prog w= .ok (.enter bg args) w)
 (hcall: ∀x∈l, ∀W,Below w.heap.size w W->Calls Tryz.prog bg (fst.push (iv x)++caps) W (PV (.bool (q x)) W)):
 Calls Tryz.prog 135 #[v,.func (.func bg) fst caps] w (PV (.bool (l.all q)) w):=by
 refine(allI l v bg fst caps (fun k=>q (l.getD k 0)) (fun _ W=>Below w.heap.size w W) w eg (fun k W h=>hv.below h (ai _)) (fun k W o h=>aj h o) (fun k hk W _ h=>?_) (aH _ _)).mono ?_
 ·refine(hcall l[k] (dh _) W h).mono ?_
  rintro e W' ⟨rfl,hb⟩
  exact⟨by simp[hk],aY h hb,jq.aA hb⟩
 ·intro e W' hpost
  obtain⟨rfl,k,_,hI⟩:=hpost.all
  refine⟨?_,hI⟩
  rw[jH,jR]
def Oq (h:cZ) (n:Int):Bool:=decide (h.uF<n) ||decide (n<h.die)
def mG (h:cZ) (l:List Int):Bool:=(l.take (h.last+1).toNat).all fun n=>!Oq h n
theorem Ws (h:cZ) (a b c:Value) (n:Int) (bh:Nat) (w:World) (hb:w.heap[bh]? =some (.cells #[.int .i64 h.last,.int .i64 h.size,.int .i64 h.aZ,.int .i64 h.die,.int .i64 h.uF,.int .i64 h.start.1,.int .i64 h.start.2,a,b,c] 55 (0,0))):
 Calls Tryz.prog 136 #[iv n,.pointer (some ⟨bh,0,none⟩)] w (PV (.bool (!Oq h n)) w):=by
 have hc0: ∀i,w.cell? ⟨bh,i,none⟩=(#[.int .i64 h.last,.int .i64 h.size,.int .i64 h.aZ,.int .i64 h.die,.int .i64 h.uF,.int .i64 h.start.1,.int .i64 h.start.2,a,b,c]:Array Value)[i]? :=fun i=>by
  simp only[World.cell?,hb];rfl
 have hlt:=(aS.1 hb).1
 clear hb
 go_enter Tryz.func136,Tryz.ntmps136
 go_wp2_with fail
 refine(Zp h a b c n w).mono ?_
 rintro e w' ⟨rfl,hb⟩
 have HB:=ae hb
 clear hb
 generalize hl:(decide (h.uF<n) ||decide (n<h.die))=q
 have HL:Hid (Oq h n=q):=ae hl
 clear hl
 go_wp2_with fail
 go_returns
 exact⟨by rw[HL.o];simp,HB.o⟩
theorem OL (h:cZ) (ow ot ox:Option Addr) (nw cw nt ct nx cx:Nat) (l:List Int) (h10:l.length=10) (w:World) (h0:0<=h.last) (h9:h.last<=9):
 Calls Tryz.prog 79 #[hv h (.slice ow nw cw) (.slice ot nt ct) (.slice ox nx cx),lY l] w (PV (.bool (mG h l)) w):=by
 obtain⟨n,hn⟩: ∃n:Nat,h.last+1=n:=⟨(h.last+1).toNat,by omega⟩
 have WN:n<=10:=by omega
 have hk:mG h l=(l.take n).all fun n=>!Oq h n:=by unfold mG;rw[hn];rfl
 rw[hk]
 clear hk
 obtain⟨y0,y1,y2,y3,y4,y5,y6,y7,y8,y9,rfl⟩:=CS h10
 have hnI:(n:Int)<=10:=by omega
 have aom:(0:Int)<=n:=by omega
 have akk:([y0,y1,y2,y3,y4,y5,y6,y7,y8,y9].take n).length=n:=by simp;omega
 show Calls Tryz.prog 79 #[hv h (.slice ow nw cw) (.slice ot nt ct) (.slice ox nx cx),.agg #[iv y0,iv y1,iv y2,iv y3,iv y4,iv y5,iv y6,iv y7,iv y8,iv y9]] w _
 go_enter Tryz.func79,Tryz.ntmps79
 go_wp2_with fail
 refine(L8 h _ _ _ n _ h0 h9 hn).mono ?_
 rintro e w' ⟨rfl,hb⟩
 obtain⟨hc,hf⟩:=bK hb
 have hz0:w.heap.size<w'.heap.size:=(by have:=hb.size;(try simp only[bu] at this);omega)
 have hz1:w.heap.size+1<w'.heap.size:=(by have:=hb.size;(try simp only[bu] at this);omega)
 have HA:=ae ((hb.block w.heap.size (by simp;omega)).trans ((aV _ _ _ (by simp)).trans (ay _ _)))
 have HK:=ae ((hb.block (w.heap.size+1) (by simp)).trans (dV _ _ _))
 have HB:=ae (show Below w.heap.size w w' from zl)
 clear hb
 go_wp2_with fail
 have hsl:aO w' (.slice (some ⟨w.heap.size+1,0,none⟩) n 10) ([y0,y1,y2,y3,y4,y5,y6,y7,y8,y9].take n):=by
  have:=aN.VV n 10 HK.o (by simpa using WN) WN (by simp[maxLen])
  unfold aO ah
  rw[akk,List.map_take]
  exact this
 refine(XC _ (.slice (some ⟨w.heap.size+1,0,none⟩) n 10) 136 #[] #[.pointer (some ⟨w.heap.size,0,none⟩)] (fun n=>!Oq h n) w' hsl (enters_of Tryz.func136 (by kernel_rfl) rfl) ?_).mono ?_
 ·intro x _ W hW
  exact Ws h _ _ _ x w.heap.size W ((hW.block _ (aS.1 HA.o).1).trans HA.o)
 ·rintro e W2 ⟨rfl,hb⟩
  have HB2:=ae hb
  clear hb hsl
  go_wp2_with fail
  go_returns
  exact⟨by simp,aY HB.o HB2.o⟩
end Go.Proofs.YthllkbbbapgelaaGreatDoor.jI
end

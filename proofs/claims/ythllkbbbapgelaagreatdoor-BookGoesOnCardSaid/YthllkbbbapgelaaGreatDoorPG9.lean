/-
  Texts of this claim, packed by a program: WA WB.
-/
import Derived.WalkKit
import Derived.WalkLawsBesides
import Derived.WalkSpells
import Derived.Outline
import Derived.Handy
import Derived.KernelRfl
import Derived.Lib.Hide
import Derived.Test.YthllkbbbapgelaaGreatDoorProg
import Derived.Shelf.Abstract
import Derived.Laws.EntriesVeiled
import Derived.Test.YthllkbbbapgelaaGreatDoorPG3
set_option maxHeartbeats 8000000
set_option maxRecDepth 100000
set_option linter.all false
theorem _root_.zcm {P:Prop} (h:P:=by
 go_wp2;go_returns;exact⟨by simp,by go_grown⟩):P:=h
theorem _root_.zb3 {P:Prop} (h:P:=by
 exact Below.grown (ai (ai (aC _ _) _) _) HG.o ϗ (fun k e=>by cases e;show _<=w.heap.size+1;omega)):P:=h
theorem _root_.zaB {P:Prop} (h:P:=by
 simp only[zp];repeat ((first|refine zd ?_|refine zk ?_);simp only[zp])
 intro W hE hF;obtain⟨hc,hf⟩:=bA hE.below;have ic:=hE.size;(try simp only[bg] at ic)
 go_wp2;go_returns;exact⟨by simp,ze⟩):P:=h
theorem _root_.zbK {P:Prop} (h:P:=by
 have G8:Ext [] Wa Wb:=hE;exact Cache.kept hc (G8.block mb (Cache.lt hc) ϕ)):P:=h
section
namespace Go.Proofs.Z.iM
open Go.RowKit Go.RG Go.SL ig
abbrev iv (n:Int):Value:= .int .i64 n
abbrev rv (r:dF):Value:= .agg #[.int .i64 r.1,.int .i64 r.2]
abbrev xv (x:AV):Value:= .agg #[.int .i64 x.1,.int .i64 x.2.1,.int .i64 x.2.2]
abbrev hv (h:bN) (wv tv xv:Value):Value:= .agg #[.int .i64 h.last,.int .i64 h.size,.int .i64 h.aX,.int .i64 h.die,.int .i64 h.qW,.int .i64 h.start.1,.int .i64 h.start.2,wv,tv,xv]
theorem qf (n l h:Int) (w:World):Ϝ 215 #[iv n,iv l,iv h] w (PV (.bool (lT n l h)) w):=by
 by_cases h1:l<=n
 all_goals
  go_enter Tryz.func215,Tryz.ntmps215;exact zbS
theorem Ui (r:dF) (n:Int) (w:World):Ϝ 274 #[rv r,iv n] w (PV (.bool (sQ r n)) w):=by
 go_enter Tryz.func274,Tryz.ntmps274;exact zbW
theorem Jq (r:dF) (w:World) (h1:0<=r.1) (h2:r.1<=r.2) (h3:r.2<=100000):
 Ϝ 213 #[rv r] w (PV (iv (dP r)) w):=by
 go_enter Tryz.func213,Tryz.ntmps213;go_wp2;go_returns;exact⟨by simp[dP],by go_grown⟩
theorem GJ (r:dF) (w:World):Ϝ 210 #[rv r] w (PV (.bool (sQ r 20)) w):=by
 go_enter Tryz.func210,Tryz.ntmps210;go_wp2_with (go_at_call 274;refine(Ui _ _ _).mono ?_;rintro e w' ⟨rfl,hb⟩)
 exact za0
theorem vC (h:bN) (a b c:Value) (n:Int) (w:World):Ϝ 273 #[hv h a b c,iv n] w (PV (.bool (lT n 0 h.last)) w):=by
 go_enter Tryz.func273,Tryz.ntmps273;go_wp2_with (go_at_call 215;refine(qf _ _ _ _).mono ?_;rintro e w' ⟨rfl,hb⟩)
 exact za0
theorem pX (h:bN) (a b c:Value) (w:World) (h0:0<=h.last) (h9:h.last<=9):Ϝ 93 #[hv h a b c] w (PV (iv (h.last+1)) w):=by
 go_enter Tryz.func93,Tryz.ntmps93;exact zcm
theorem R4 (h:bN) (a b c:Value) (n:Int) (w:World):Ϝ 219 #[hv h a b c,iv n] w (PV (.bool (decide (h.qW<n))) w):=by
 go_enter Tryz.func219,Tryz.ntmps219;exact zcm
theorem VI (h:bN) (a b c:Value) (n:Int) (w:World):Ϝ 220 #[hv h a b c,iv n] w (PV (.bool (decide (n<h.die))) w):=by
 go_enter Tryz.func220,Tryz.ntmps220;exact zcm
theorem Ut (h:bN) (a b c:Value) (n:Int) (w:World):Ϝ 137 #[hv h a b c,iv n] w (PV (.bool (decide (h.qW<n) ||decide (n<h.die))) w):=by
 go_enter Tryz.func137,Tryz.ntmps137;go_wp2_with (first|(go_at_call 219;refine(R4 _ _ _ _ _ _).mono ?_;rintro e w' ⟨rfl,hb⟩;obtain⟨hc,hf⟩:=bA hb;have hz0:w.heap.size<w'.heap.size:=(by have:=hb.size;(try simp only[bg] at this);omega))|(go_at_call 220;refine(VI _ _ _ _ _ _).mono ?_;rintro e w' ⟨rfl,hb⟩;obtain⟨hc,hf⟩:=bA hb;have hz0:w.heap.size<w'.heap.size:=(by have:=hb.size;(try simp only[bg] at this);omega)))
 all_goals
  go_returns;exact⟨by simp[*],zl⟩
theorem mH (h:bN) (a b c:Value) (w:World):Ϝ 208 #[hv h a b c] w (PV (.bool (ek h)) w):=by
 go_enter Tryz.func208,Tryz.ntmps208;go_wp2_with (first|(go_at_call 215;refine(qf _ _ _ _).mono ?_;rintro e w' ⟨rfl,hb⟩;obtain⟨hc,hf⟩:=bA hb;have hz0:w.heap.size<w'.heap.size:=(by have:=hb.size;(try simp only[bg] at this);omega))|(go_at_call 274;refine(Ui (_,_) _ _).mono ?_;rintro e w' ⟨rfl,hb⟩;obtain⟨hc,hf⟩:=bA hb;have hz0:w.heap.size<w'.heap.size:=(by have:=hb.size;(try simp only[bg] at this);omega)))
 all_goals
  go_returns;exact⟨by simp only[ek];simp[*];try omega,zl⟩
end Go.Proofs.Z.iM
namespace Go.Proofs.Z.iM
open Go.RowKit Go.RG Go.SL Go.Shelf ig
theorem ag6 (l:List dF) (v:Value) (aY:Nat) (Mr aM:Array Value) (p:Nat->Bool) (I:Nat->World->Prop) (w:World) (eg: Ϛ Tryz.prog aY)
 (Nl: ∀k W,I k W->bF W v l)
 (pG: ∀k (hk:k<l.length) W,(∀j,j<k->p j=false)->I k W->Ϝ aY (Mr.push (rv l[k])++aM) W (fun e W'=>e= .returned (.bool (p k))/\I (k+1) W')) (h0:I 0 w):
 Ϝ 310 #[v,.func (.func aY) Mr aM] w (dM l.length p I (fun k=>iv k) (iv (-1))):=by
 have Ib:=(Nl 0 w h0).len;obtain⟨o,c,rfl⟩:=(Nl 0 w h0).open;have HC:=aa pG;have HS:=aa Nl;clear pG Nl;go_enter Tryz.func310,Tryz.ntmps310;exact zct
theorem aas (l:List Int) (v:Value) (aY:Nat) (Mr aM:Array Value) (p:Nat->Bool) (I:Nat->World->Prop) (w:World) (eg: Ϛ Tryz.prog aY)
 (Nl: ∀k W,I k W->aK W v l)
 (pG: ∀k (hk:k<l.length) W,(∀j,j<k->p j=false)->I k W->Ϝ aY (Mr.push (iv l[k])++aM) W (fun e W'=>e= .returned (.bool (p k))/\I (k+1) W')) (h0:I 0 w):
 Ϝ 279 #[v,.func (.func aY) Mr aM] w (dM l.length p I (fun k=>iv k) (iv (-1))):=by
 have Ib:=(Nl 0 w h0).len;exact zcr
theorem ag4 (l:List AV) (v:Value) (aY:Nat) (Mr aM:Array Value) (p:Nat->Bool) (I:Nat->World->Prop) (w:World) (eg: Ϛ Tryz.prog aY)
 (Nl: ∀k W,I k W->bB W v l)
 (pG: ∀k (hk:k<l.length) W,(∀j,j<k->p j=false)->I k W->Ϝ aY (Mr.push (xv l[k])++aM) W (fun e W'=>e= .returned (.bool (p k))/\I (k+1) W')) (h0:I 0 w):
 Ϝ 311 #[v,.func (.func aY) Mr aM] w (dM l.length p I (fun k=>iv k) (iv (-1))):=by
 have Ib:=(Nl 0 w h0).len;obtain⟨o,c,rfl⟩:=(Nl 0 w h0).open;have HC:=aa pG;have HS:=aa Nl;clear pG Nl;go_enter Tryz.func311,Tryz.ntmps311;exact zcs
theorem ae4 (l:List dF) (v:Value) (aY:Nat) (Mr aM:Array Value) (p:Nat->Bool) (I:Nat->World->Prop) (w:World) (eg: Ϛ Tryz.prog aY)
 (Nl: ∀k W,I k W->bF W v l)
 (pG: ∀k (hk:k<l.length) W,(∀j,j<k->p j=false)->I k W->Ϝ aY (Mr.push (rv l[k])++aM) W (fun e W'=>e= .returned (.bool (p k))/\I (k+1) W')) (h0:I 0 w):
 Ϝ 275 #[v,.func (.func aY) Mr aM] w (dM l.length p I (fun _=> .bool true) (.bool false)):=by
 have HI:=aa (ag6 l v aY Mr aM p I w eg Nl pG h0);have Ib:=(Nl 0 w h0).len;clear Nl pG h0 eg;go_enter Tryz.func275,Tryz.ntmps275;exact zad
theorem KW (l:List Int) (v:Value) (aY:Nat) (Mr aM:Array Value) (p:Nat->Bool) (I:Nat->World->Prop) (w:World) (eg: Ϛ Tryz.prog aY)
 (Nl: ∀k W,I k W->aK W v l)
 (pG: ∀k (hk:k<l.length) W,(∀j,j<k->p j=false)->I k W->Ϝ aY (Mr.push (iv l[k])++aM) W (fun e W'=>e= .returned (.bool (p k))/\I (k+1) W')) (h0:I 0 w):
 Ϝ 217 #[v,.func (.func aY) Mr aM] w (dM l.length p I (fun _=> .bool true) (.bool false)):=by
 have HI:=aa (aas l v aY Mr aM p I w eg Nl pG h0);exact zcM
theorem ae2 (l:List AV) (v:Value) (aY:Nat) (Mr aM:Array Value) (p:Nat->Bool) (I:Nat->World->Prop) (w:World) (eg: Ϛ Tryz.prog aY)
 (Nl: ∀k W,I k W->bB W v l)
 (pG: ∀k (hk:k<l.length) W,(∀j,j<k->p j=false)->I k W->Ϝ aY (Mr.push (xv l[k])++aM) W (fun e W'=>e= .returned (.bool (p k))/\I (k+1) W')) (h0:I 0 w):
 Ϝ 277 #[v,.func (.func aY) Mr aM] w (dM l.length p I (fun _=> .bool true) (.bool false)):=by
 have HI:=aa (ag4 l v aY Mr aM p I w eg Nl pG h0);have Ib:=(Nl 0 w h0).len;clear Nl pG h0 eg;go_enter Tryz.func277,Tryz.ntmps277;exact zad
theorem afc (x:dF) (bx aY:Nat) (Mr aM:Array Value) (b:Bool) (W:World) (R:World->Prop) (eg: Ϛ Tryz.prog aY)
 (hbx:W.cell? ⟨bx,0,none⟩=some (.func (.func aY) Mr aM))
 (pG:Ϝ aY (Mr.push (rv x)++aM) (W.alloc (.cells #[iv x.1,iv x.2] 50)) (fun e W'=>e= .returned (.bool b)/\R W')):
 Ϝ 276 #[rv x,.pointer (some ⟨bx,0,none⟩)] W (fun e W'=>e= .returned (.bool !b)/\R W'):=by
 have tX:=dn W _ hbx;have HC:=aa pG;clear pG;go_enter Tryz.func276,Tryz.ntmps276;exact zaq
theorem afe (x:Int) (bx aY:Nat) (Mr aM:Array Value) (b:Bool) (W:World) (R:World->Prop) (eg: Ϛ Tryz.prog aY)
 (hbx:W.cell? ⟨bx,0,none⟩=some (.func (.func aY) Mr aM))
 (pG:Ϝ aY (Mr.push (iv x)++aM) W (fun e W'=>e= .returned (.bool b)/\R W')):
 Ϝ 218 #[iv x,.pointer (some ⟨bx,0,none⟩)] W (fun e W'=>e= .returned (.bool !b)/\R W'):=by
 have tX:=dn W _ hbx;have HC:=aa pG;clear pG;go_enter Tryz.func218,Tryz.ntmps218;exact zaq
theorem afb (x:AV) (bx aY:Nat) (Mr aM:Array Value) (b:Bool) (W:World) (R:World->Prop) (eg: Ϛ Tryz.prog aY)
 (hbx:W.cell? ⟨bx,0,none⟩=some (.func (.func aY) Mr aM))
 (pG:Ϝ aY (Mr.push (xv x)++aM) (W.alloc (.cells #[iv x.1,iv x.2.1,iv x.2.2] 190)) (fun e W'=>e= .returned (.bool b)/\R W')):
 Ϝ 278 #[xv x,.pointer (some ⟨bx,0,none⟩)] W (fun e W'=>e= .returned (.bool !b)/\R W'):=by
 have tX:=dn W _ hbx;have HC:=aa pG;clear pG;go_enter Tryz.func278,Tryz.ntmps278;exact zaq
theorem aiH (l:List dF) (v:Value) (aY:Nat) (Mr aM:Array Value) (p:Nat->Bool) (I:Nat->World->Prop) (w:World) (eg: Ϛ Tryz.prog aY)
 (Nl: ∀k W,I k W->bF W v l) (hal: ∀k W o,I k W->I k (W.alloc o))
 (pG: ∀k (hk:k<l.length) W,(∀j,j<k->p j=true)->I k W->Ϝ aY (Mr.push (rv l[k])++aM) W (fun e W'=>e= .returned (.bool (p k))/\I (k+1) W'/\iy w.heap.size W W')) (h0:I 0 w):
 Ϝ 209 #[v,.func (.func aY) Mr aM] w (dM l.length (fun k=>!p k) I (fun _=> .bool false) (.bool true)):=by
 have HI:=aa (ae4 l v 276 #[] #[.pointer (some ⟨w.heap.size,0,none⟩)] (fun k=>!p k)
  (fun k W=>I k W/\W.heap[w.heap.size]? =some (.cells #[.func (.func aY) Mr aM] 330 (0,0))) (w.alloc (.cells #[.func (.func aY) Mr aM] 330))
  (enters_of Tryz.func276 ϰ rfl) (fun k W h=>Nl k W h.1)
  (fun k hk W GX h=>by
    have tX:w.heap.size<W.heap.size:=(aP.1 h.2).1;refine(afc l[k] w.heap.size aY Mr aM (p k) W (fun W'=>I (k+1) W'/\W'.heap[w.heap.size]? =some (.cells #[.func (.func aY) Mr aM] 330 (0,0))) eg (aA h.2) ?_);refine(pG k hk _ (fun j hj=>by simpa using GX j hj) (by first|exact hal _ _ _ h.1|exact h.1)).mono ?_;rintro e W' ⟨rfl,h1,h2⟩;refine⟨rfl,h1,(h2.block _ (ah _) (by first|exact tX|(simp;omega))).trans (by first|exact h.2|exact(aS _ _ _ tX).trans h.2)⟩)
  ⟨hal _ _ _ h0,heap_alloc_new w _⟩)
 have Ib:=(Nl 0 w h0).len;clear Nl pG h0 eg hal;go_enter Tryz.func209,Tryz.ntmps209;exact zaf
theorem allI (l:List Int) (v:Value) (aY:Nat) (Mr aM:Array Value) (p:Nat->Bool) (I:Nat->World->Prop) (w:World) (eg: Ϛ Tryz.prog aY)
 (Nl: ∀k W,I k W->aK W v l) (hal: ∀k W o,I k W->I k (W.alloc o))
 (pG: ∀k (hk:k<l.length) W,(∀j,j<k->p j=true)->I k W->Ϝ aY (Mr.push (iv l[k])++aM) W (fun e W'=>e= .returned (.bool (p k))/\I (k+1) W'/\iy w.heap.size W W')) (h0:I 0 w):
 Ϝ 135 #[v,.func (.func aY) Mr aM] w (dM l.length (fun k=>!p k) I (fun _=> .bool false) (.bool true)):=by
 have HI:=aa (KW l v 218 #[] #[.pointer (some ⟨w.heap.size,0,none⟩)] (fun k=>!p k)
  (fun k W=>I k W/\W.heap[w.heap.size]? =some (.cells #[.func (.func aY) Mr aM] 274 (0,0))) (w.alloc (.cells #[.func (.func aY) Mr aM] 274))
  (enters_of Tryz.func218 ϰ rfl) (fun k W h=>Nl k W h.1)
  (fun k hk W GX h=>by
    have tX:w.heap.size<W.heap.size:=(aP.1 h.2).1;refine(afe l[k] w.heap.size aY Mr aM (p k) W (fun W'=>I (k+1) W'/\W'.heap[w.heap.size]? =some (.cells #[.func (.func aY) Mr aM] 274 (0,0))) eg (aA h.2) ?_);refine(pG k hk _ (fun j hj=>by simpa using GX j hj) (by first|exact hal _ _ _ h.1|exact h.1)).mono ?_;rintro e W' ⟨rfl,h1,h2⟩;refine⟨rfl,h1,(h2.block _ (ah _) (by first|exact tX|(simp;omega))).trans (by first|exact h.2|exact(Below.heap_alloc _ _ _ tX).trans h.2)⟩)
  ⟨hal _ _ _ h0,heap_alloc_new w _⟩)
 have Ib:=(Nl 0 w h0).len;clear Nl pG h0 eg hal;go_enter Tryz.func135,Tryz.ntmps135;exact zaf
theorem aiG (l:List AV) (v:Value) (aY:Nat) (Mr aM:Array Value) (p:Nat->Bool) (I:Nat->World->Prop) (w:World) (eg: Ϛ Tryz.prog aY)
 (Nl: ∀k W,I k W->bB W v l) (hal: ∀k W o,I k W->I k (W.alloc o))
 (pG: ∀k (hk:k<l.length) W,(∀j,j<k->p j=true)->I k W->Ϝ aY (Mr.push (xv l[k])++aM) W (fun e W'=>e= .returned (.bool (p k))/\I (k+1) W'/\iy w.heap.size W W')) (h0:I 0 w):
 Ϝ 211 #[v,.func (.func aY) Mr aM] w (dM l.length (fun k=>!p k) I (fun _=> .bool false) (.bool true)):=by
 have HI:=aa (ae2 l v 278 #[] #[.pointer (some ⟨w.heap.size,0,none⟩)] (fun k=>!p k)
  (fun k W=>I k W/\W.heap[w.heap.size]? =some (.cells #[.func (.func aY) Mr aM] 328 (0,0))) (w.alloc (.cells #[.func (.func aY) Mr aM] 328))
  (enters_of Tryz.func278 ϰ rfl) (fun k W h=>Nl k W h.1)
  (fun k hk W GX h=>by
    have tX:w.heap.size<W.heap.size:=(aP.1 h.2).1;refine(afb l[k] w.heap.size aY Mr aM (p k) W (fun W'=>I (k+1) W'/\W'.heap[w.heap.size]? =some (.cells #[.func (.func aY) Mr aM] 328 (0,0))) eg (aA h.2) ?_);refine(pG k hk _ (fun j hj=>by simpa using GX j hj) (by first|exact hal _ _ _ h.1|exact h.1)).mono ?_;rintro e W' ⟨rfl,h1,h2⟩;refine⟨rfl,h1,(h2.block _ (ah _) (by first|exact tX|(simp;omega))).trans (by first|exact h.2|exact(aS _ _ _ tX).trans h.2)⟩)
  ⟨hal _ _ _ h0,heap_alloc_new w _⟩)
 have Ib:=(Nl 0 w h0).len;clear Nl pG h0 eg hal;go_enter Tryz.func211,Tryz.ntmps211;exact zaf
end Go.Proofs.Z.iM
namespace Go.Proofs.Z.iM
open Go.RowKit Go.RG Go.SL Go.Shelf ig
theorem JD (h:bN) (a b c:Value) (x:AV) (w:World):Ϝ 207 #[hv h a b c,xv x] w (PV (.bool (yc h.last x)) w):=by
 go_enter Tryz.func207,Tryz.ntmps207;go_wp2_with (first|(go_at_call 273;refine(vC h _ _ _ _ _).mono ?_;rintro e w' ⟨rfl,hb⟩;obtain⟨hc,hf⟩:=bA hb;have hz0:w.heap.size<w'.heap.size:=(by have:=hb.size;(try simp only[bg] at this);omega);have hz1:w.heap.size+1<w'.heap.size:=(by have:=hb.size;(try simp only[bg] at this);omega))|(go_at_call 215;refine(qf _ _ _ _).mono ?_;rintro e w' ⟨rfl,hb⟩;obtain⟨hc,hf⟩:=bA hb;have hz0:w.heap.size<w'.heap.size:=(by have:=hb.size;(try simp only[bg] at this);omega);have hz1:w.heap.size+1<w'.heap.size:=(by have:=hb.size;(try simp only[bg] at this);omega)))
 all_goals
  go_returns;exact⟨by simp[yc, *],zl⟩
theorem vZ (x:AV) (l0 l1 l2 l3 l4 l5 l6 l7 l8 l9:Int) (w:World) (h0:0<=x.1) (h9:x.1<=9) (hs0:0<=x.2.1) (hs1:x.2.1<=1000) (he0:0<=x.2.2) (he1:x.2.2<=50)
 (hl: ∀n∈[l0,l1,l2,l3,l4,l5,l6,l7,l8,l9],0<=n/\n<=100000):
 Ϝ 148 #[xv x,.agg #[iv l0,iv l1,iv l2,iv l3,iv l4,iv l5,iv l6,iv l7,iv l8,iv l9]] w (PV (.bool (zy x [l0,l1,l2,l3,l4,l5,l6,l7,l8,l9])) w):=by
 obtain⟨hh,xs,xe⟩:=x;simp only at h0 h9 hs0 hs1 he0 he1;obtain⟨k,rfl⟩:=Int.eq_ofNat_of_zero_le h0;have hk:k<10:=ϑ;have hlk:=hl ([l0,l1,l2,l3,l4,l5,l6,l7,l8,l9][k]'(by simpa using hk)) (bK _);generalize hm:[l0,l1,l2,l3,l4,l5,l6,l7,l8,l9][k]'(by simpa using hk)=m at hlk;have MR:(w.alloc (.cells #[iv k,iv xs,iv xe] 190) |>.alloc (.cells #[iv l0,iv l1,iv l2,iv l3,iv l4,iv l5,iv l6,iv l7,iv l8,iv l9] 178)).cell? ⟨w.heap.size+1,k,none⟩=some (iv m):=by
  have:([iv l0,iv l1,iv l2,iv l3,iv l4,iv l5,iv l6,iv l7,iv l8,iv l9]:List Value)[k]? =some (iv m):=by
   have:([l0,l1,l2,l3,l4,l5,l6,l7,l8,l9].map iv)[k]? =some (iv m):=by
    rw[nS,bZ (by simpa using hk),hm];rfl
   exact this
  simp only[World.cell?];rw[show(w.alloc (.cells #[iv k,iv xs,iv xe] 190) |>.alloc (.cells #[iv l0,iv l1,iv l2,iv l3,iv l4,iv l5,iv l6,iv l7,iv l8,iv l9] 178)).heap[w.heap.size+1]? =some (.cells #[iv l0,iv l1,iv l2,iv l3,iv l4,iv l5,iv l6,iv l7,iv l8,iv l9] 178) from by
   have:=heap_alloc_new (w.alloc (.cells #[iv k,iv xs,iv xe] 190)) (.cells #[iv l0,iv l1,iv l2,iv l3,iv l4,iv l5,iv l6,iv l7,iv l8,iv l9] 178);rwa [bg] at this]
  simpa using this
 have hr:zy ((k:Int),xs,xe) [l0,l1,l2,l3,l4,l5,l6,l7,l8,l9]=lT (m-xs) (-xe) xe:=by
  simp only[zy,Int.toNat_natCast,fJ];rw[bZ (by simpa using hk),hm];rfl
 have HR:=aa hr;clear hr hm hl;have Ρ:(k:Int)<10:=ϑ;go_enter Tryz.func148,Tryz.ntmps148;go_wp2_with fail
 refine zg 13 [] none [(12,Spec.val (.bool (lT (m-xs) (-xe) xe)))] ?_;simp only[zt];repeat (refine zn ?_;simp only[zp])
 refine zv 215 (h:=fun W hE hF=>by exact qf _ _ _ _) (t:=?_);simp only[zp];repeat (refine zd ?_;simp only[zp])
 intro W hE hF;obtain⟨hc,hf⟩:=bA hE.below;have ic:=hE.size;(try simp only[bg] at ic)
 go_wp2;go_returns;rw[HR.o];exact⟨by simp,(by repeat (first|exact aC _ _|assumption|refine aV ?_ hE.below|refine ai ?_ _|refine gL ?_))⟩
theorem yh (a b:Int) (g c:Nat) (w:World) (h0:w.cell? ⟨g,0,none⟩=some (iv a)) (h1:w.cell? ⟨g,1,none⟩=some (iv b)):
 Ϝ 198 #[.slice (some ⟨g,0,none⟩) 2 c] w (PV (iv (min a b)) w):=by
 go_enter Tryz.func198,Tryz.ntmps198;go_wp2;go_rounds 2
 all_goals
  go_returns;exact⟨by simp <;>omega,aC _ _⟩
theorem Aj (a b:Int) (g c:Nat) (w:World) (h0:w.cell? ⟨g,0,none⟩=some (iv a)) (h1:w.cell? ⟨g,1,none⟩=some (iv b)):
 Ϝ 212 #[.slice (some ⟨g,0,none⟩) 2 c] w (PV (iv (min a b)) w):=by
 have H:=aa (yh a b g c w h0 h1);go_enter Tryz.func212,Tryz.ntmps212;exact zcy
theorem E8 (r:dF) (n:Int) (w:World):Ϝ 132 #[rv r,iv n] w (PV (rv (min r.1 n,max r.2 n)) w):=by
 go_enter Tryz.func132,Tryz.ntmps132;go_wp2_with fail
 refine zg 10 [] none [(3,Spec.slice (w.heap.size+2) #[iv r.1,iv n] 3 2),(4,Spec.val (iv (min r.1 n)))] ?_;simp only[zt];repeat (refine zd ?_;simp only[zp])
 refine dI (w.heap.size+2) _ _ _ ϱ ϕ ϱ ϕ ϕ (fun W hW=>by go_simp;try rfl) (fun b=>?_);simp only[zp];refine dQ _ ϱ ϱ 212 _ (fun W hW=>by go_simp;try rfl) (fun W hE hF=>?_) ?_
 ·obtain⟨c,hcb,hB,hc⟩:=hF _ (bu _) ϰ;cases hcb;exact Aj r.1 n b 2 W (by simp[World.cell?,hc]) (by simp[World.cell?,hc])
 simp only[zp];repeat (refine zd ?_;simp only[zp])
 intro W hE hF;obtain⟨hc,hf⟩:=bA hE.below;have ic:=hE.size;(try simp only[bg] at ic)
 go_wp2;all_goals
  (try simp only[Exit.inBlock,Exit.then])
  refine bodyPost_ret (v:=rv (min r.1 n,max r.2 n)) (by simp[results,Tryz.results132,go_sem,hc];try omega) rfl ?_;exact⟨rfl,ze⟩
theorem gD (l:List Int) (v:Value) (n:Int) (w:World) (hv:aK w v l):Ϝ 147 #[v,iv n] w (PV (.bool (l.contains n)) w):=zap
theorem GV:gJ Tryz.prog 51 50 (rv (0,0)) 2 16:=⟨Tryz.underlying51,by kernel_rfl,rfl,by omega⟩
theorem pq:gJ Tryz.prog 52 3 (iv 0) 1 8:=⟨Tryz.underlying52,by kernel_rfl,rfl,by omega⟩
theorem MI (h:bN) (wv b c:Value) (w:World) (hw:bF w wv h.bM) (Ib:h.bM.length<=1000):
 Ϝ 146 #[hv h wv b c] w (PSl 2 (h.bM.length+1) (aD (h.start::h.bM)) w):=by
 obtain⟨o,cc,rfl⟩:=hw.open;have HW:=aa hw;clear hw;go_enter Tryz.func146,Tryz.ntmps146;go_wp2_with (at_builtin;refine eP rfl _ _ GV rfl (w.heap.size+1) (.slice (some ⟨w.heap.size+1,0,none⟩) 1 1) 1 [iv h.start.1,iv h.start.2] rfl ?_ (.slice o h.bM.length cc) h.bM.length (aD h.bM) rfl ?_ (mG _) ϑ ϑ ϕ ?_)
 ·exact gG (dG _ _ _) rfl (ah _) ϖ
 ·exact(HW.o.alloc _).alloc _
 ·intro v' w1 Fw Zg;have HO:=aa Fw;have HG:=aa Zg;clear Fw Zg;go_wp2;go_returns;refine⟨v',by simp,?_,?_⟩
  ·have:=aH.bV HO.o;rw[Nat.add_comm] at this;exact this
  ·exact zb3
theorem Qc (h:bN) (n p:Int) (lb hb:Nat) (w:World) (hl:w.heap[lb]? =some (.cells #[iv p] 3 (0,0))) (hh:w.cell? ⟨hb,0,none⟩=some (iv h.last))
 (hp0: -1<=p) (hp1:p<=1000):
 Ϝ 214 #[iv n,.pointer (some ⟨lb,0,none⟩),.pointer (some ⟨hb,0,none⟩)] w
  (fun e w'=>e= .returned (.bool (lT n (p+1) h.last))/\w'.heap[lb]? =some (.cells #[iv n] 3 (0,0))/\Ext [lb] w w'):=by
 have hc:=aA hl;have hf:w.frozen? ⟨lb,0,none⟩=false:=by simp[World.frozen?,hl]
 have tX:=dn w _ hc;have hlt2:=dn w _ hh;have HL:=aa hl;clear hl;go_enter Tryz.func214,Tryz.ntmps214;go_wp2_with (go_at_call 215;refine(qf _ _ _ _).mono ?_;rintro e w' ⟨rfl,hb⟩;obtain⟨hc,hf⟩:=bA hb)
 go_returns;refine⟨by simp,?_,?_⟩
 ·exact aG ((hb.block lb tX).trans HL.o) _
 ·exact(Ext.ay hb).trans (kH w' ⟨lb,0,none⟩ _)
end Go.Proofs.Z.iM
namespace Go.Proofs.Z.iM
open Go.RowKit Go.RG Go.SL Go.Shelf ig
theorem mR (h:bN) (a b c v:Value) (l:List Int) (w:World) (hv':aK w v l) (h0:0<=h.last) (h9:h.last<=9):
 Ϝ 129 #[hv h a b c,v] w (PV (.bool (ma h.last l)) w):=by
 have HA:=aa (allI l v 214 #[] #[.pointer (some ⟨w.heap.size+1,0,none⟩),.pointer (some ⟨w.heap.size,0,none⟩)] (VZ h.last (-1) l)
  (fun k W=>W.heap[w.heap.size+1]? =some (.cells #[iv (((-1:Int)::l).getD k 0)] 3 (0,0))/\W.cell? ⟨w.heap.size,0,none⟩=some (iv h.last)/\Ϙ w W)
  ((w.alloc (.cells #[iv h.last,iv h.size,iv h.aX,iv h.die,iv h.qW,iv h.start.1,iv h.start.2,a,b,c] 55)).alloc (.cells #[iv (-1)] 3))
  (enters_of Tryz.func214 ϰ rfl) (fun k W hI=>hv'.below hI.2.2 (ah _))
  (fun k W o hI=>⟨(aS _ _ _ (aP.1 hI.1).1).trans hI.1,by
    have:=dn W _ hI.2.1;rw[gW (w:=W) (aS _ _ _ this)];exact hI.2.1,ai hI.2.2 _⟩)
  (fun k hk W GX hI=>by
    have hp:=R9 h.last h0 l k GX ϑ;refine(Qc h l[k] (((-1:Int)::l).getD k 0) (w.heap.size+1) w.heap.size W hI.1 hI.2.1 hp.1 ϑ).mono ?_;rintro e W' ⟨rfl,h1,h2⟩;refine⟨?_,⟨?_,?_,?_⟩,?_⟩
    ·have e:l.getD k 0=l[k]:=by simp[hk]
     simp only[VZ,e]
    ·rw[List.getD_cons_succ,show l.getD k 0=l[k] from by simp[hk]];exact h1
    ·have tX:=dn W _ hI.2.1;rw[h2.cell _ _ tX ϕ];exact hI.2.1
    ·exact hI.2.2.trans ⟨h2.os,h2.tape,h2.output,h2.size,fun i hi=>h2.block i (by have:=hI.2.2.size;omega) ϗ⟩
    ·exact iy.sZ h2 ϕ)
  ⟨dG _ _ _,by
    rw[gW (w:=w.alloc (.cells #[iv h.last,iv h.size,iv h.aX,iv h.die,iv h.qW,iv h.start.1,iv h.start.2,a,b,c] 55)) (aS _ _ _ ϕ)];simp only[World.cell?,av];rfl,ai (ai (aC _ _) _) _⟩)
 clear hv';go_enter Tryz.func129,Tryz.ntmps129;go_wp2_with fail
 refine HA.o.mono ?_;rintro e W' ξ;obtain⟨rfl,k,hk,hI⟩:=ξ.all;have HI:=aa hI.2.2;clear hI ξ;go_wp2_with fail
 go_returns;refine⟨?_,HI.o⟩;rw[ma,Ec, <-iK];simp
theorem Sc (l:List dF) (v:Value) (aY:Nat) (Mr aM:Array Value) (q:dF->Bool) (w:World) (hv:bF w v l) (eg: Ϛ Tryz.prog aY)
 (pG: ∀x∈l, ∀W,Ϙ w W->Ϝ aY (Mr.push (rv x)++aM) W (PV (.bool (q x)) W)):
 Ϝ 209 #[v,.func (.func aY) Mr aM] w (PV (.bool (l.all q)) w):=by
 refine(aiH l v aY Mr aM (fun k=>q (l.getD k (0,0))) (fun _ W=>Ϙ w W) w eg (fun k W h=>hv.below h (ah _)) (fun k W o h=>ai h o) (fun k hk W _ h=>?_) (aC _ _)).mono ?_
 ·exact zaz
 ·exact zaJ
theorem Sb (l:List AV) (v:Value) (aY:Nat) (Mr aM:Array Value) (q:AV->Bool) (w:World) (hv:bB w v l) (eg: Ϛ Tryz.prog aY)
 (pG: ∀x∈l, ∀W,Ϙ w W->Ϝ aY (Mr.push (xv x)++aM) W (PV (.bool (q x)) W)):
 Ϝ 211 #[v,.func (.func aY) Mr aM] w (PV (.bool (l.all q)) w):=by
 refine(aiG l v aY Mr aM (fun k=>q (l.getD k (0,0,0))) (fun _ W=>Ϙ w W) w eg (fun k W h=>hv.below h (ah _)) (fun k W o h=>ai h o) (fun k hk W _ h=>?_) (aC _ _)).mono ?_
 ·exact zaz
 ·exact zaJ
theorem IU (l:List dF) (v:Value) (w:World) (hv:bF w v l):Ϝ 209 #[v,.func (.func 210) #[] #[]] w (PV (.bool (l.all (sQ · 20))) w):=
 Sc l v _ #[] #[] (sQ · 20) w hv (enters_of Tryz.func210 ϰ rfl) (fun x _ W _=>GJ x W)
theorem yQ (h:bN) (a b c:Value) (l:List AV) (v:Value) (w:World) (hv':bB w v l):
 Ϝ 211 #[v,.func (.func 207) #[hv h a b c] #[]] w (PV (.bool (l.all (yc h.last))) w):=
 Sb l v _ #[hv h a b c] #[] (yc h.last) w hv' (enters_of Tryz.func207 ϰ rfl) (fun x _ W _=>JD h a b c x W)
theorem Od (h:bN) (wv tv rE:Value) (w:World) (hw:bF w wv h.bM) (ht:aK w tv h.turns) (hx:bB w rE h.readings) (hl:h.last<=9) (hr:(h.readings.length:Int)<=5)
 (hn:ek h=false):Ϝ 128 #[hv h wv tv rE] w (PV (iv 1) w):=by
 obtain⟨ow,cw,rfl⟩:=hw.open;obtain⟨ot,ct,rfl⟩:=ht.open;obtain⟨ox,cx,rfl⟩:=hx.open;have HW:=aa hw;have HT:=aa ht;have HX:=aa hx;clear hw ht hx;have hl0:ek h=true->0<=h.last:=fun e=>by simp only[ek,dL,dR] at e;exact e.1.1.1.1.1
 have HN:=aa hn;rw[hn] at hl0;clear hn;(try replace hl0:=hl0 rfl)
 go_enter Tryz.func128,Tryz.ntmps128;go_wp2_with fail
 refine zg 31 [] none [(1,Spec.val (.bool false))] ?_;simp only[zt];repeat ((first|refine zd ?_|refine zk ?_);simp only[zp])
 refine dQ _ ϱ ϱ 208 _ (fun W hW=>by go_simp;try rfl) (fun W hE hF=>by have:=mH h (.slice ow h.bM.length cw) (.slice ot h.turns.length ct) (.slice ox h.readings.length cx) W;rw[HN.o] at this;exact this) ?_
 exact zaB
theorem Oc (h:bN) (wv tv rE:Value) (w:World) (hw:bF w wv h.bM) (ht:aK w tv h.turns) (hx:bB w rE h.readings) (hl:h.last<=9) (hr:(h.readings.length:Int)<=5)
 (hn:ek h=true) (h2:((h.bM.length:Int)==h.last+1)=false):Ϝ 128 #[hv h wv tv rE] w (PV (iv 1) w):=by
 obtain⟨ow,cw,rfl⟩:=hw.open;obtain⟨ot,ct,rfl⟩:=ht.open;obtain⟨ox,cx,rfl⟩:=hx.open;have HW:=aa hw;have HT:=aa ht;have HX:=aa hx;clear hw ht hx;have hl0:ek h=true->0<=h.last:=fun e=>by simp only[ek,dL,dR] at e;exact e.1.1.1.1.1
 have HN:=aa hn;rw[hn] at hl0;clear hn;(try replace hl0:=hl0 rfl)
 have h2':((h.bM.length:Int) !=h.last+1)=true:=by simp only[bne,h2];rfl
 go_enter Tryz.func128,Tryz.ntmps128;go_wp2_with fail
 refine zg 31 [] none [(1,Spec.val (.bool true)),(8,Spec.val (iv (h.last+1)))] ?_;simp only[zt];repeat ((first|refine zd ?_|refine zk ?_);simp only[zp])
 refine dQ _ ϱ ϱ 208 _ (fun W hW=>by go_simp;try rfl) (fun W hE hF=>by have:=mH h (.slice ow h.bM.length cw) (.slice ot h.turns.length ct) (.slice ox h.readings.length cx) W;rw[HN.o] at this;exact this) ?_
 simp only[zp];repeat ((first|refine zd ?_|refine zk ?_);simp only[zp])
 refine dQ _ ϱ ϱ 93 _ (fun W hW=>by go_simp;try rfl) (fun W hE hF=>by exact pX h _ _ _ W hl0 hl) ?_;exact zaB
theorem Ob (h:bN) (wv tv rE:Value) (w:World) (hw:bF w wv h.bM) (ht:aK w tv h.turns) (hx:bB w rE h.readings) (hl:h.last<=9) (hr:(h.readings.length:Int)<=5)
 (hn:ek h=true) (h2:((h.bM.length:Int)==h.last+1)=true) (h3:ma h.last h.turns=false):Ϝ 128 #[hv h wv tv rE] w (PV (iv 1) w):=by
 obtain⟨ow,cw,rfl⟩:=hw.open;obtain⟨ot,ct,rfl⟩:=ht.open;obtain⟨ox,cx,rfl⟩:=hx.open;have HW:=aa hw;have HT:=aa ht;have HX:=aa hx;clear hw ht hx;have hl0:ek h=true->0<=h.last:=fun e=>by simp only[ek,dL,dR] at e;exact e.1.1.1.1.1
 have HN:=aa hn;rw[hn] at hl0;clear hn;(try replace hl0:=hl0 rfl)
 have h2':((h.bM.length:Int) !=h.last+1)=false:=by simp only[bne,h2];rfl
 have H3:=aa h3;clear h3;go_enter Tryz.func128,Tryz.ntmps128;go_wp2_with fail
 refine zg 31 [] none [(1,Spec.val (.bool true)),(8,Spec.val (iv (h.last+1))),(15,Spec.val (.bool false))] ?_;simp only[zt];repeat ((first|refine zd ?_|refine zk ?_);simp only[zp])
 refine dQ _ ϱ ϱ 208 _ (fun W hW=>by go_simp;try rfl) (fun W hE hF=>by have:=mH h (.slice ow h.bM.length cw) (.slice ot h.turns.length ct) (.slice ox h.readings.length cx) W;rw[HN.o] at this;exact this) ?_
 simp only[zp];repeat ((first|refine zd ?_|refine zk ?_);simp only[zp])
 refine dQ _ ϱ ϱ 93 _ (fun W hW=>by go_simp;try rfl) (fun W hE hF=>by exact pX h _ _ _ W hl0 hl) ?_;simp only[zp];repeat ((first|refine zd ?_|refine zk ?_);simp only[zp])
 refine dQ _ ϱ ϱ 129 _ (fun W hW=>by go_simp;try rfl) (fun W hE hF=>by have:=mR h (.slice ow h.bM.length cw) (.slice ot h.turns.length ct) (.slice ox h.readings.length cx) (.slice ot h.turns.length ct) h.turns W ((HT.o.alloc _).ext hE ϕ) hl0 hl;rw[H3.o] at this;exact this) ?_
 exact zaB
theorem Oa (h:bN) (wv tv rE:Value) (w:World) (hw:bF w wv h.bM) (ht:aK w tv h.turns) (hx:bB w rE h.readings) (hl:h.last<=9) (hr:(h.readings.length:Int)<=5)
 (hn:ek h=true) (h2:((h.bM.length:Int)==h.last+1)=true) (h3:ma h.last h.turns=true) (h4:h.bM.all (sQ · 20)=false):Ϝ 128 #[hv h wv tv rE] w (PV (iv 1) w):=by
 obtain⟨ow,cw,rfl⟩:=hw.open;obtain⟨ot,ct,rfl⟩:=ht.open;obtain⟨ox,cx,rfl⟩:=hx.open;have HW:=aa hw;have HT:=aa ht;have HX:=aa hx;clear hw ht hx;have hl0:ek h=true->0<=h.last:=fun e=>by simp only[ek,dL,dR] at e;exact e.1.1.1.1.1
 have HN:=aa hn;rw[hn] at hl0;clear hn;(try replace hl0:=hl0 rfl)
 have h2':((h.bM.length:Int) !=h.last+1)=false:=by simp only[bne,h2];rfl
 have H3:=aa h3;have H4:=aa h4;clear h3 h4;go_enter Tryz.func128,Tryz.ntmps128;go_wp2_with fail
 refine zg 31 [] none [(1,Spec.val (.bool true)),(8,Spec.val (iv (h.last+1))),(15,Spec.val (.bool true)),(21,Spec.val (.bool false))] ?_;simp only[zt];repeat ((first|refine zd ?_|refine zk ?_);simp only[zp])
 refine dQ _ ϱ ϱ 208 _ (fun W hW=>by go_simp;try rfl) (fun W hE hF=>by have:=mH h (.slice ow h.bM.length cw) (.slice ot h.turns.length ct) (.slice ox h.readings.length cx) W;rw[HN.o] at this;exact this) ?_
 simp only[zp];repeat ((first|refine zd ?_|refine zk ?_);simp only[zp])
 refine dQ _ ϱ ϱ 93 _ (fun W hW=>by go_simp;try rfl) (fun W hE hF=>by exact pX h _ _ _ W hl0 hl) ?_;simp only[zp];repeat ((first|refine zd ?_|refine zk ?_);simp only[zp])
 refine dQ _ ϱ ϱ 129 _ (fun W hW=>by go_simp;try rfl) (fun W hE hF=>by have:=mR h (.slice ow h.bM.length cw) (.slice ot h.turns.length ct) (.slice ox h.readings.length cx) (.slice ot h.turns.length ct) h.turns W ((HT.o.alloc _).ext hE ϕ) hl0 hl;rw[H3.o] at this;exact this) ?_
 simp only[zp];repeat ((first|refine zd ?_|refine zk ?_);simp only[zp])
 refine dQ _ ϱ ϱ 209 _ (fun W hW=>by go_simp;try rfl) (fun W hE hF=>by have:=IU h.bM (.slice ow h.bM.length cw) W ((HW.o.alloc _).ext hE ϕ);rw[H4.o] at this;exact this) ?_
 exact zaB
theorem N9 (h:bN) (wv tv rE:Value) (w:World) (hw:bF w wv h.bM) (ht:aK w tv h.turns) (hx:bB w rE h.readings) (hl:h.last<=9) (hr:(h.readings.length:Int)<=5)
 (hn:ek h=true) (h2:((h.bM.length:Int)==h.last+1)=true) (h3:ma h.last h.turns=true) (h4:h.bM.all (sQ · 20)=true) (h5:h.readings.all (yc h.last)=false):Ϝ 128 #[hv h wv tv rE] w (PV (iv 1) w):=by
 obtain⟨ow,cw,rfl⟩:=hw.open;obtain⟨ot,ct,rfl⟩:=ht.open;obtain⟨ox,cx,rfl⟩:=hx.open;have HW:=aa hw;have HT:=aa ht;have HX:=aa hx;clear hw ht hx;have hl0:ek h=true->0<=h.last:=fun e=>by simp only[ek,dL,dR] at e;exact e.1.1.1.1.1
 have HN:=aa hn;rw[hn] at hl0;clear hn;(try replace hl0:=hl0 rfl)
 have h2':((h.bM.length:Int) !=h.last+1)=false:=by simp only[bne,h2];rfl
 have H3:=aa h3;have H4:=aa h4;have H5:=aa h5;clear h3 h4 h5;go_enter Tryz.func128,Tryz.ntmps128;go_wp2_with fail
 refine zg 31 [] none [(1,Spec.val (.bool true)),(8,Spec.val (iv (h.last+1))),(15,Spec.val (.bool true)),(21,Spec.val (.bool true)),(28,Spec.val (.bool false))] ?_;simp only[zt];repeat ((first|refine zd ?_|refine zk ?_);simp only[zp])
 refine dQ _ ϱ ϱ 208 _ (fun W hW=>by go_simp;try rfl) (fun W hE hF=>by have:=mH h (.slice ow h.bM.length cw) (.slice ot h.turns.length ct) (.slice ox h.readings.length cx) W;rw[HN.o] at this;exact this) ?_
 simp only[zp];repeat ((first|refine zd ?_|refine zk ?_);simp only[zp])
 refine dQ _ ϱ ϱ 93 _ (fun W hW=>by go_simp;try rfl) (fun W hE hF=>by exact pX h _ _ _ W hl0 hl) ?_;simp only[zp];repeat ((first|refine zd ?_|refine zk ?_);simp only[zp])
 refine dQ _ ϱ ϱ 129 _ (fun W hW=>by go_simp;try rfl) (fun W hE hF=>by have:=mR h (.slice ow h.bM.length cw) (.slice ot h.turns.length ct) (.slice ox h.readings.length cx) (.slice ot h.turns.length ct) h.turns W ((HT.o.alloc _).ext hE ϕ) hl0 hl;rw[H3.o] at this;exact this) ?_
 simp only[zp];repeat ((first|refine zd ?_|refine zk ?_);simp only[zp])
 refine dQ _ ϱ ϱ 209 _ (fun W hW=>by go_simp;try rfl) (fun W hE hF=>by have:=IU h.bM (.slice ow h.bM.length cw) W ((HW.o.alloc _).ext hE ϕ);rw[H4.o] at this;exact this) ?_
 simp only[zp];repeat ((first|refine zd ?_|refine zk ?_);simp only[zp])
 refine dQ _ ϱ ϱ 211 _ (fun W hW=>by go_simp;try rfl) (fun W hE hF=>by have:=yQ h (.slice ow h.bM.length cw) (.slice ot h.turns.length ct) (.slice ox h.readings.length cx) h.readings (.slice ox h.readings.length cx) W ((HX.o.alloc _).ext hE ϕ);rw[H5.o] at this;exact this) ?_
 exact zaB
end Go.Proofs.Z.iM
namespace Go.Proofs.Z.iM
open Go.RowKit Go.RG Go.SL Go.Shelf ig
theorem K4 (h:bN) (wv tv rE:Value) (w:World) (hx:bB w rE h.readings) (hl:9<h.last∨5<(h.readings.length:Int)):
 Ϝ 128 #[hv h wv tv rE] w (PV (iv 3) w):=by
 obtain⟨ox,cx,rfl⟩:=hx.open;clear hx;by_cases h9:9<h.last
 all_goals
  go_enter Tryz.func128,Tryz.ntmps128;go_wp2;go_returns;exact⟨by simp,zl⟩
theorem N7 (h:bN) (wv tv rE:Value) (w:World) (hw:bF w wv h.bM) (ht:aK w tv h.turns) (hx:bB w rE h.readings) (hl:h.last<=9) (hr:(h.readings.length:Int)<=5)
 (hn:ek h=true) (h2:((h.bM.length:Int)==h.last+1)=true) (h3:ma h.last h.turns=true) (h4:h.bM.all (sQ · 20)=true) (h5:h.readings.all (yc h.last)=true)
 (res:Int) (π:Hid (res=if 2000<qO (h.start::h.bM) then 3 else 0)):
 Ϝ 128 #[hv h wv tv rE] w (PV (iv res) w):=by
 have Ib:h.bM.length<=10:=by have:=of_decide_eq_true (p:=(h.bM.length:Int)=h.last+1) (by simpa using h2);omega
 have hok: ∀r∈h.start::h.bM,0<=r.1/\r.1<=r.2/\r.2<=500/\1<=dP r/\dP r<=501:=by
  intro r hr;rcases eB.1 hr with rfl|hr
  ·have:sQ h.start 500=true:=by simp only[ek,dL] at hn;exact hn.2
   exact uZ this
  ·have:=uZ (iR.1 h4 r hr);omega
 have iD:=aa hok;clear hok;obtain⟨ow,cw,rfl⟩:=hw.open;obtain⟨ot,ct,rfl⟩:=ht.open;obtain⟨ox,cx,rfl⟩:=hx.open;have HW:=aa hw;have HT:=aa ht;have HX:=aa hx;clear hw ht hx;have hl0:ek h=true->0<=h.last:=fun e=>by simp only[ek,dL,dR] at e;exact e.1.1.1.1.1
 have HN:=aa hn;rw[hn] at hl0;clear hn;(try replace hl0:=hl0 rfl)
 have h2':((h.bM.length:Int) !=h.last+1)=false:=by simp only[bne,h2];rfl
 have H3:=aa h3;have H4:=aa h4;have H5:=aa h5;clear h3 h4 h5;go_enter Tryz.func128,Tryz.ntmps128;go_wp2_with fail
 refine zg 31 [] none [(1,Spec.val (.bool true)),(8,Spec.val (iv (h.last+1))),(15,Spec.val (.bool true)),(21,Spec.val (.bool true)),(28,Spec.val (.bool true))] ?_;simp only[zt];repeat ((first|refine zd ?_|refine zk ?_);simp only[zp])
 refine dQ _ ϱ ϱ 208 _ (fun W hW=>by go_simp;try rfl) (fun W hE hF=>by have:=mH h (.slice ow h.bM.length cw) (.slice ot h.turns.length ct) (.slice ox h.readings.length cx) W;rw[HN.o] at this;exact this) ?_
 simp only[zp];repeat ((first|refine zd ?_|refine zk ?_);simp only[zp])
 refine dQ _ ϱ ϱ 93 _ (fun W hW=>by go_simp;try rfl) (fun W hE hF=>by exact pX h _ _ _ W hl0 hl) ?_;simp only[zp];repeat ((first|refine zd ?_|refine zk ?_);simp only[zp])
 refine dQ _ ϱ ϱ 129 _ (fun W hW=>by go_simp;try rfl) (fun W hE hF=>by have:=mR h (.slice ow h.bM.length cw) (.slice ot h.turns.length ct) (.slice ox h.readings.length cx) (.slice ot h.turns.length ct) h.turns W ((HT.o.alloc _).ext hE ϕ) hl0 hl;rw[H3.o] at this;exact this) ?_
 simp only[zp];repeat ((first|refine zd ?_|refine zk ?_);simp only[zp])
 refine dQ _ ϱ ϱ 209 _ (fun W hW=>by go_simp;try rfl) (fun W hE hF=>by have:=IU h.bM (.slice ow h.bM.length cw) W ((HW.o.alloc _).ext hE ϕ);rw[H4.o] at this;exact this) ?_
 simp only[zp];repeat ((first|refine zd ?_|refine zk ?_);simp only[zp])
 refine dQ _ ϱ ϱ 211 _ (fun W hW=>by go_simp;try rfl) (fun W hE hF=>by have:=yQ h (.slice ow h.bM.length cw) (.slice ot h.turns.length ct) (.slice ox h.readings.length cx) h.readings (.slice ox h.readings.length cx) W ((HX.o.alloc _).ext hE ϕ);rw[H5.o] at this;exact this) ?_
 simp only[zp];repeat ((first|refine zd ?_|refine zk ?_);simp only[zp])
 intro W hE hF;obtain⟨hc,hf⟩:=bA hE.below;have ic:=hE.size;(try simp only[bg] at ic)
 go_wp2_with fail
 have hB0:Ϙ w W:=ze;refine(MI h _ _ _ W (HW.o.below hB0 (ah _)) ϑ).mono ?_;rintro e w1 ⟨v,rfl,Β,ζ⟩;have hB1:Ϙ w w1:=aV hB0 ζ;clear hc hf ic hE hF ζ hB0;obtain⟨ov,cv,rfl⟩:=Β.open;have HV:=aa Β;clear Β;go_wp2_with fail
 have hL:(h.start::h.bM).length=h.bM.length+1:=rfl;have HL:=aa hL;clear hL;go_loopw [4,54] (fun m i wr=> ∃k:Nat,k<=h.bM.length+1/\i= .int .i64 k/\m= .int .i64 (rA (h.start::h.bM) k)/\aH 2 wr (.slice ov (h.bM.length+1) cv) (h.bM.length+1) (aD (h.start::h.bM))/\Ϙ w wr)
  (fun _ i _=>h.bM.length+1-(intOf i).toNat)
 case atStart=>exact⟨0,bD _,rfl,rfl,HV.o,hB1⟩
 case round=>
  obtain⟨k,hk,rfl,rfl,hv,hB⟩:=hrel;by_cases tX:k<h.bM.length+1
  ·obtain⟨b,off,rfl,hb,hc0,hc1⟩:=bF.cell hv (show k<(h.start::h.bM).length from tX);have hr:=iD.o _ (bK (show k<(h.start::h.bM).length from tX));have hs:=De (h.start::h.bM) k tX;have hbd:=Lh (h.start::h.bM) (fun r hr=>(iD.o r hr).2.2.2.1) k;generalize (h.start::h.bM)[k]=r at hc0 hc1 hr hs;obtain⟨hr1,hr2,hr3,hr4,Ii⟩:=hr;unfold pO at hs;generalize rA (h.start::h.bM) k=c at hs hbd;obtain⟨ζ,θ⟩:=hbd;have HS:=aa hs;have HV:=aa hv;have HB:=aa hB;clear hs hv hB;have hmul:0<=c*dP r/\c*dP r<=2001*501:=⟨Int.mul_nonneg ϑ ϑ,Int.mul_le_mul θ Ii ϑ ϑ⟩;obtain⟨Ν,hm2⟩:=hmul;go_wp2_with fail
   refine(Jq r _ hr1 hr2 ϑ).mono ?_;rintro e w2 ⟨rfl,Θ⟩;obtain⟨hc,hf⟩:=bA Θ;go_wp2_with fail
   refine(Aj (c*dP r) 2001 _ _ _ ?_ ?_).mono ?_
   ·go_simp
   ·go_simp
   rintro e w3 ⟨rfl,hb4⟩;go_wp2_with fail
   go_roundw
   case rel=>
    have hB3:Ϙ w w3:=aV (ai (aV (ai HB.o _) Θ) _) hb4;exact⟨k+1,by omega,by go_num,by rw[HS.o],HV.o.below (((aC wr.heap.size wr).alloc (ah _) _).trans ((Θ.mono ϕ).trans (((aC _ _).alloc (by have:=Θ.size;simp at this;omega) _).trans (hb4.mono (by have:=Θ.size;simp at this⊢;omega))))) (ah _),hB3⟩
   case measure=>simp[intOf];omega
  ·have XI:k=h.bM.length+1:=ϑ;have hend:=Gq (h.start::h.bM) (fun r hr=>(iD.o r hr).2.2.2.1);have hr:=π.o;rw[HL.o, <-XI] at hend;generalize rA (h.start::h.bM) k=c at hend;by_cases hc:2000<c
   ·rw[aB (hend.1 hc)] at hr;have HR:=aa hr;clear hr hend π;exact zbJ
   ·rw[aj (fun x=>hc (hend.2 x))] at hr;have HR:=aa hr;clear hr hend π;exact zbJ
theorem sN (h:bN) (wv tv rE:Value) (w:World) (hw:bF w wv h.bM) (ht:aK w tv h.turns) (hx:bB w rE h.readings):
 Ϝ 128 #[hv h wv tv rE] w (PV (iv (sK h)) w):=by
 unfold sK;by_cases hl:9<h.last∨5<h.readings.length
 ·rw[aB hl];exact K4 h wv tv rE w hx ϑ
 ·rw[aj hl];have h9:h.last<=9:=ϑ;have h5':(h.readings.length:Int)<=5:=ϑ;by_cases hv:valid h=false
  ·rw[aB hv];cases h1:ek h
   ·exact Od h wv tv rE w hw ht hx h9 h5' h1
   cases h2:((h.bM.length:Int)==h.last+1)
   ·exact Oc h wv tv rE w hw ht hx h9 h5' h1 h2
   cases h3:ma h.last h.turns
   ·exact Ob h wv tv rE w hw ht hx h9 h5' h1 h2 h3
   cases h4:h.bM.all (sQ · 20)
   ·exact Oa h wv tv rE w hw ht hx h9 h5' h1 h2 h3 h4
   cases h5:h.readings.all (yc h.last)
   ·exact N9 h wv tv rE w hw ht hx h9 h5' h1 h2 h3 h4 h5
   exfalso;have hd:decide ((h.bM.length:Int)=h.last+1)=true:=by simpa using h2
   simp only[valid,h1,hd,h3,h4,h5] at hv;simp at hv
  ·rw[aj hv];have hv':valid h=true:=by simpa using hv
   simp only[valid,dL] at hv';exact N7 h wv tv rE w hw ht hx h9 h5' hv'.1.1.1.1 (by simpa using hv'.1.1.1.2) hv'.1.1.2 hv'.1.2 hv'.2 _ rfl
end Go.Proofs.Z.iM
namespace Go.Proofs.Z.iM
open Go.RowKit Go.RG Go.SL Go.Shelf ig
abbrev sv (n:Int) (t:Bool):Value:= .agg #[iv n,.bool t]
theorem Yp (n m:Int) (t u:Bool) (w:World):(Op.equal 334 (sv n t) (sv m u)).run Tryz.prog w= .ok ((n==m)&&(t==u)) w:=by
 unfold Op.equal Op.maxDepth;simp[go_sem];by_cases h1:n=m <;>by_cases h2:t=u <;>simp[h1,h2]
theorem zS (b:Bool) (d:Nat) (n:Int) (w:World):(Instr.checkKey b (d+1) 3 (iv n)).run Tryz.prog w= .ok () w:=by
 unfold Instr.checkKey;simp[go_sem]
theorem N8 (b:Bool) (d:Nat) (t:Bool) (w:World):(Instr.checkKey b (d+1) 4 (.bool t)).run Tryz.prog w= .ok () w:=by
 unfold Instr.checkKey;simp[go_sem]
theorem tV (b:Bool) (n:Int) (t:Bool) (w:World):(Instr.checkKey b 10000 334 (sv n t)).run Tryz.prog w= .ok () w:=by
 unfold Instr.checkKey;simp[go_sem];rw[zS,Result.andThen_ok,N8]
def Entry (aX:Int) (e:MapEntry):Prop:= ∃n t,e.key=sv n t/\e.val=iv (kz aX n t)
theorem Rz (aX:Int) (n:Int) (t:Bool): ∀(es:List MapEntry) (i:Nat),(∀e∈es,Entry aX e)->
 ∃r,(∀w,(Instr.findAsking 334 (sv n t) es i).run Tryz.prog w= .ok r w)/\(∀j v,r=some (j,v)->v=iv (kz aX n t)/\i<=j/\j-i<es.length/\ ∃e,es[j-i]? =some e/\e.key=sv n t):=by
 intro es;induction es with
 |nil=>intro i _;exact⟨none,fun _=>rfl,fun j v h=>by cases h⟩
 |cons e es ih=>
  intro i h;obtain⟨m,u,hk,hv⟩:=h e ϕ;unfold Instr.findAsking;simp only[Sem.run_bind,hk,Yp,Result.andThen_ok];by_cases hc:((n==m)&&(t==u))=true
  ·refine⟨some (i,e.val),fun w=>by rw[aB hc];rfl,fun j v hj=>?_⟩;simp only[Option.some.injEq,Prod.mk.injEq] at hj;simp only[dL,beq_iff_eq] at hc;refine⟨by rw[<-hj.2,hv,hc.1,hc.2],by omega,by simp;omega,e,?_,by rw[hk,hc.1,hc.2]⟩;rw[<-hj.1];simp
  ·obtain⟨r,h1,h2⟩:=ih (i+1) (fun x hx=>h x (by simp[hx]));refine⟨r,fun w=>by rw[aj hc];exact h1 w,fun j v hj=>?_⟩;obtain⟨h3,h4,h5,e',h6,h7⟩:=h2 j v hj;refine⟨h3,by omega,by simp;omega,e',?_,h7⟩;rw[show j-i=(j-(i+1))+1 from ϑ,List.getElem?_cons_succ];exact h6
theorem Kk (aX:Int) (n:Int) (t:Bool) (es:List MapEntry) (h: ∀e∈es,Entry aX e):
 ∃r,(∀w,(Instr.findKey 334 (sv n t) es).run Tryz.prog w= .ok r w)/\(∀j v,r=some (j,v)->v=iv (kz aX n t)/\j<es.length/\ ∃e,es[j]? =some e/\e.key=sv n t):=by
 unfold Instr.findKey;simp only[Sem.run_bind,run_underlying Tryz.underlying334,Result.andThen_ok];cases es with
 |nil=>exact⟨none,fun _=>rfl,fun j v h=>by cases h⟩
 |cons e es=>
  simp only[Instr.findNow,Instr.sameNow];obtain⟨r,h1,h2⟩:=Rz aX n t (e::es) 0 h;exact⟨r,h1,fun j v hj=>by
   obtain⟨a,b,c,d⟩:=h2 j v hj;exact⟨a,by simpa using c,by simpa using d⟩⟩
def Cache (W:World) (mb:Nat) (aX:Int):Prop:= ∃es clock,W.heap[mb]? =some (.map es clock)/\ ∀e∈es.toList,Entry aX e
theorem Cache.kept {W W':World} {mb:Nat} {aX:Int} (h:Cache W mb aX) (hk:W'.heap[mb]? =W.heap[mb]?):Cache W' mb aX:=by
 obtain⟨es,c,h1,h2⟩:=h;exact⟨es,c,hk.trans h1,h2⟩
theorem Cache.lt {W:World} {mb:Nat} {aX:Int} (h:Cache W mb aX):mb<W.heap.size:=by
 obtain⟨es,c,h1,h2⟩:=h;exact(aP.1 h1).1
theorem QW {W0:World} {mb:Nat} {aX:Int} (h:Cache W0 mb aX) (n:Int) (t:Bool):
 ∃x ok,(ok=true->x=kz aX n t)/\ ∀W:World,W.heap[mb]? =W0.heap[mb]?->
  (Instr.lookup 268 (.map (some mb)) (sv n t) true).run Tryz.prog W= .ok (.tuple #[iv x,.bool ok]) W:=by
 obtain⟨es,c,h1,h2⟩:=h;obtain⟨r,hr,hv⟩:=Kk aX n t es.toList h2;have zI: ∀W:World,W.heap[mb]? =W0.heap[mb]?->(getObj mb).run Tryz.prog W= .ok (.map es c) W:=fun W hW=>by
  simp[getObj,Sem.run,hW,h1]
 have hz: ∀W:World,(zeroValue 3).run Tryz.prog W= .ok (iv 0) W:=fun W=>by simp[go_sem]
 cases r with
 |none=>
  refine⟨0,false,(fun h=>by cases h),fun W hW=>?_⟩;simp[Instr.lookup,run_underlying Tryz.underlying268,zI W hW,tV,hr,hz]
 |some p=>
  obtain⟨j,v⟩:=p;obtain⟨rfl,_⟩:=hv j v rfl;refine⟨kz aX n t,true,fun _=>rfl,fun W hW=>?_⟩;simp[Instr.lookup,run_underlying Tryz.underlying268,zI W hW,tV,hr]
theorem Ei (n:Int) (t:Bool):Instr.sameBits 10000 (sv n t) (sv n t)=true:=by
 simp[Instr.sameBits]
theorem Jk {W:World} {mb:Nat} {aX:Int} (h:Cache W mb aX) (n:Int) (t:Bool):
 ∃W',(Instr.mapUpdate 268 (.map (some mb)) (sv n t) (iv (kz aX n t))).run Tryz.prog W= .ok () W'/\Cache W' mb aX/\Ext [mb] W W':=by
 have tX:=h.lt;obtain⟨es,c,h1,h2⟩:=h;obtain⟨r,hr,hv⟩:=Kk aX n t es.toList h2;have zI:(getObj mb).run Tryz.prog W= .ok (.map es c) W:=by simp[getObj,Sem.run,h1]
 have Τ: ∀Ο c',(setObj mb (.map Ο c')).run Tryz.prog W= .ok () {W with heap:=W.heap.setIfInBounds mb (.map Ο c')}:=fun Ο c'=>by
  simp[setObj,Sem.run,h1]
 have xC: ∀o:Obj,Ext [mb] W {W with heap:=W.heap.setIfInBounds mb o}:=fun o=>
  ⟨rfl,rfl,rfl,by simp,fun k _ hm=>by simp only[Array.getElem?_setIfInBounds];rw[aj (by simp at hm;omega)]⟩
 have Cz: ∀Ο c',(∀e∈Ο.toList,Entry aX e)->Cache {W with heap:=W.heap.setIfInBounds mb (.map Ο c')} mb aX:=fun Ο c' he=>
  ⟨Ο,c',by simp[tX],he⟩
 cases r with
 |none=>
  refine⟨_,?_,Cz (es.push {key:=sv n t,val:=iv (kz aX n t),born:=c}) (c+1) ?_,xC _⟩
  ·simp[Instr.mapUpdate,run_underlying Tryz.underlying268,zI,tV,hr,Τ]
  ·intro e he;simp only[Array.toList_push,gz,dY] at he;rcases he with he|rfl
   ·exact h2 e he
   ·exact⟨n,t,rfl,rfl⟩
 |some p=>
  obtain⟨j,v⟩:=p;obtain⟨rfl,hj,e0,he0,hk0⟩:=hv j v rfl;have Zw:es[j]? =some e0:=by simpa using he0
  refine⟨_,?_,Cz (es.modify j fun e=>{e with key:=sv n t,val:=iv (kz aX n t)}) c ?_,xC _⟩
  ·simp[Instr.mapUpdate,run_underlying Tryz.underlying268,zI,tV,hr,Τ,Instr.keyThatStays,Zw,hk0,Ei]
  ·intro e he;obtain⟨i,hi,rfl⟩:=kD he;simp only[Array.getElem_toList,Array.getElem_modify];split
   ·exact⟨n,t,rfl,rfl⟩
   ·exact h2 _ ϕ
abbrev Ty (h:bN) (a b c:Value) (mb:Nat):Array Value:=
 #[.int .i64 h.last,.int .i64 h.size,.int .i64 h.aX,.int .i64 h.die,.int .i64 h.qW,.int .i64 h.start.1,.int .i64 h.start.2,a,b,c,.map (some mb)]
structure gN (W:World) (wb mb:Nat) (h:bN) (a b c:Value):Prop where
 cells:W.heap[wb]? =some (.cells (Ty h a b c mb) 270 (0,0))
 cache:Cache W mb h.aX
theorem gN.ne {W:World} {wb mb:Nat} {h:bN} {a b c:Value} (hw:gN W wb mb h a b c):wb≠mb:=by
 intro e;obtain⟨es,k,h1,_⟩:=hw.cache;have:=hw.cells;rw[e,h1] at this;cases this
theorem gN.lt {W:World} {wb mb:Nat} {h:bN} {a b c:Value} (hw:gN W wb mb h a b c):wb<W.heap.size:=(aP.1 hw.cells).1
theorem gN.kept {W W':World} {wb mb:Nat} {h:bN} {a b c:Value} (hw:gN W wb mb h a b c) (h1:W'.heap[wb]? =W.heap[wb]?) (h2:W'.heap[mb]? =W.heap[mb]?):gN W' wb mb h a b c:=
 ⟨h1.trans hw.cells,hw.cache.kept h2⟩
theorem gN.below {W W':World} {wb mb:Nat} {h:bN} {a b c:Value} (hw:gN W wb mb h a b c) {B:Nat} (hb:Below B W W') (hB:W.heap.size<=B):gN W' wb mb h a b c:=
 hw.kept (hb.block _ (by have:=hw.lt;omega)) (hb.block _ (by have:=hw.cache.lt;omega))
theorem gN.ext {W W':World} {wb mb:Nat} {h:bN} {a b c:Value} (hw:gN W wb mb h a b c) (hE:Ext [mb] W W') (hc:Cache W' mb h.aX):gN W' wb mb h a b c:=
 ⟨(hE.block wb hw.lt (by simpa using hw.ne)).trans hw.cells,hc⟩
theorem gN.cell {W:World} {wb mb:Nat} {h:bN} {a b c:Value} (hw:gN W wb mb h a b c) (i:Nat):W.cell? ⟨wb,i,none⟩=(Ty h a b c mb)[i]? :=by
 simp[World.cell?,hw.cells]
def Wl (w:World) (h:bN) (a b c:Value) (e:Ending) (W:World):Prop:=
 ∃wb mb,e= .returned (.pointer (some ⟨wb,0,none⟩))/\w.heap.size<=wb/\w.heap.size<=mb/\gN W wb mb h a b c/\Ϙ w W
theorem Bu (h:bN) (ow ot ox:Option Addr) (nw cw nt ct nx cx:Nat) (w:World):
 Ϝ 130 #[hv h (.slice ow nw cw) (.slice ot nt ct) (.slice ox nx cx)] w (Wl w h (.slice ow nw cw) (.slice ot nt ct) (.slice ox nx cx)):=by
 have hmm:= @run_makeMap Tryz.prog;go_enter Tryz.func130,Tryz.ntmps130;go_wp2;go_returns;refine⟨w.heap.size+2,w.heap.size+1,by simp,by omega,by omega,⟨fU _ _ _ _,#[],0,?_,by simp⟩,zl⟩;exact zbR
theorem VQ (h:bN) (a b c:Value) (wb mb:Nat) (n:Int) (t:Bool) (w:World) (hw:gN w wb mb h a b c) (hn0:0<=n) (hn1:n<=100000) (hc0:0<=h.aX) (hc1:h.aX<=100):
 Ϝ 216 #[.pointer (some ⟨wb,0,none⟩),sv n t] w (fun e w'=>e= .returned (iv (kz h.aX n t))/\Cache w' mb h.aX/\Ext [mb] w w'):=by
 have c2:=hw.cell 2;have c10:=hw.cell 10;have tX:=hw.lt;have hwc:=hw.cache;obtain⟨x,ok,hx,jR⟩:=QW (hwc) n t;simp at c2 c10;have hm0:0<=n*h.aX:=Int.mul_nonneg hn0 hc0;have Ν:n*h.aX<=100000*100:=Int.mul_le_mul hn1 hc1 hc0 ϑ;have HW:=aa hw;have HC:=aa hwc;have HX:=aa hx;have HL:=aa jR;clear hw hwc hx jR;have hmb:=HC.o.lt;have HU:=aa (fun(W2:World) (hc:Cache W2 mb h.aX)=>Jk hc n t);cases ok
 ·cases t;all_goals
   go_enter Tryz.func216,Tryz.ntmps216;go_wp2_with fail
   refine zg 11 [] none [] ?_;simp only[zt];repeat (refine zd ?_;simp only[zp])
   refine fM ϱ _ ϱ (fun W hE _=>by have:=HL.o W ((hE.block mb ϗ ϕ).trans (aS _ _ _ hmb));go_simp;try rfl) ?_
   simp only[zp];repeat (refine zd ?_;simp only[zp])
   intro W hE hF;obtain⟨hc,hf⟩:=bA hE.below;have ic:=hE.size;(try simp only[bg] at ic)
   have hzw:wb<W.heap.size:=ϑ;have hz0:w.heap.size<W.heap.size:=ϑ;go_wp2_with fail
   refine zg 6 [] none [] ?_;simp only[zt];repeat (refine zd ?_;simp only[zp])
   intro W2 Ι hF2;have hW2:Ϙ w W2:=(aV (aV (ai (aC _ _) _) hE.below) Ι.below);clear hc hf ic hF hF2;obtain⟨W3,hrun,Cz,xC⟩:=HU.o W2 (HC.o.kept (W':=W2) (hW2.block mb hmb));have HA:=aa Cz;have HE:=aa xC;clear Cz xC;first|(simp only[show kz h.aX n false=n from rfl] at hrun)|(simp only[show kz h.aX n true=n-n*h.aX/100 from rfl] at hrun)
   go_wp2_with fail
   go_returns;refine⟨by simp[kz],HA.o,?_⟩;have Td:Ext [mb] w W2:=⟨hW2.os,hW2.tape,hW2.output,hW2.size,fun k hk _=>hW2.block k hk⟩;exact Td.trans HE.o
 ·go_enter Tryz.func216,Tryz.ntmps216;go_wp2_with fail
  refine zg 11 [] none [] ?_;simp only[zt];repeat (refine zd ?_;simp only[zp])
  refine fM ϱ _ ϱ (fun W hE _=>by have:=HL.o W ((hE.block mb ϗ ϕ).trans (aS _ _ _ hmb));go_simp;try rfl) ?_
  simp only[zp];repeat (refine zd ?_;simp only[zp])
  intro W hE hF;obtain⟨hc,hf⟩:=bA hE.below;have ic:=hE.size;(try simp only[bg] at ic)
  have hW:Ϙ w W:=aV (ai (aC _ _) _) hE.below;go_wp2_with fail
  go_returns;refine⟨by rw[<-HX.o (by trivial)];simp,HC.o.kept (hW.block mb hmb),Ext.ay hW⟩
end Go.Proofs.Z.iM
namespace Go.Proofs.Z.iM
open Go.RowKit Go.RG Go.SL Go.Shelf ig
abbrev j6 (l:List Int):Value:= .agg (ag l).toArray
theorem Cache.kQ {W:World} {mb:Nat} {aX:Int} (h:Cache W mb aX) (o:Nat):W.cell? ⟨mb,o,none⟩=none:=by
 obtain⟨es,c,h1,_⟩:=h;simp[World.cell?,h1]
theorem si (h:bN) (a b c:Value) (wb mb:Nat) (start:Int) (bM turns:List Int) (ws ts:Value) (w:World) (hw:gN w wb mb h a b c) (hws:aK w ws bM) (hts:aK w ts turns) (Ib:bM.length<=10)
 (hs0:0<=h.size) (hs1:h.size<=20) (hc0:0<=h.aX) (hc1:h.aX<=100) (h0:0<=start) (h1:start<=500) (Nr: ∀x∈bM,0<=x/\x<=20):
 Ϝ 133 #[.pointer (some ⟨wb,0,none⟩),.agg #[iv start,ws],ts] w
  (fun e w'=>e= .returned (j6 (jS h (start,bM) turns))/\Cache w' mb h.aX/\Ext [mb] w w'):=by
 have hbd:=Gf turns bM hs0 hs1 hc0 hc1 h0 h1 Nr;obtain⟨ow,cw,rfl⟩:=hws.open;obtain⟨ot,ct,rfl⟩:=hts.open;have HW:=aa hw;have HS:=aa hws;have HT:=aa hts;have HB:=aa hbd;have HX:=aa Nr;have tX:=hw.lt;have hmb:=hw.cache.lt;clear hw hws hts hbd Nr;go_enter Tryz.func133,Tryz.ntmps133;go_wp2_with fail
 go_loopw [7,15] (fun v7 i wr=> ∃k:Nat,k<=bM.length/\i= .int .i64 k/\v7= .int .i64 (oL h.size h.aX turns start bM k)/\gN wr wb mb h a b c/\
  wr.heap[w.heap.size+1]? =some (.cells (ag (nX h.size h.aX turns start bM k)).toArray 178 (0,0))/\Ext [mb] w wr)
  (fun _ i _=>bM.length-(intOf i).toNat)
 case atStart=>
  exact⟨0,bD _,rfl,rfl,HW.o.below (ai (ai (aC _ _) _) _) (ah _),dG _ _ _,Ext.ay (ai (ai (aC _ _) _) _)⟩
 case round=>
  obtain⟨k,hk,rfl,rfl,hwk,υ,hE0⟩:=hrel;have Cw: ∀x∈[mb], ∀o,w.cell? ⟨x,o,none⟩=none:=fun x hx o=>by
   have:x=mb:=by simpa using hx
   subst this;exact HW.o.cache.kQ o
  have hws:=HS.o.eZ hE0 Cw;have hts:=HT.o.eZ hE0 Cw;have hne:=hwk.ne;have hlt2:=hwk.lt;have ν:=hE0.size;have amK:=hwk.cache.lt;have hb6:w.heap.size+1<wr.heap.size:=(aP.1 υ).1;have ah9: ¬w.heap.size+1=mb:=ϑ;by_cases aaJ:k<bM.length
  ·obtain⟨bb,off,rfl,hbb,hcx⟩:=aK.cell hws aaJ;have hx:=HX.o _ (bK aaJ);have hn:=HB.o k;have hnext:oL h.size h.aX turns start bM (k+1)=kz h.aX (oL h.size h.aX turns start bM k) (turns.contains (k:Int))+h.size*bM[k]/10:=by
    simp only[oL,TK];rw[show bM.getD k 0=bM[k] from by simp[aaJ]]
   have hcd:=Gp hc0 hc1 hn.1 (turns.contains (k:Int));have Τ:=Im h.size h.aX turns start bM k ϑ;have ah4:=hwk.cell 1;simp at ah4;rw[hnext] at Τ;have SK:=aa hnext;generalize oL h.size h.aX turns start bM k=n at hn hcd Τ SK;generalize bM[k]=x at hcx hx Τ SK;obtain⟨hx0,hx1⟩:=hx;obtain⟨hn0,hn1⟩:=hn;obtain⟨hd0,hd1⟩:=hcd;have hm0:0<=h.size*x:=Int.mul_nonneg hs0 hx0;have Ν:h.size*x<=20*20:=Int.mul_le_mul hs1 hx1 hx0 ϑ;have hk10:(k:Int)<10:=ϑ;have abS:=aa Τ;have ajE:=aa υ;have HE0:=aa hE0;have Bq:=aa hwk;have HWS:=aa hws;have HTS:=aa hts;have aoq:=aa Cw;clear hnext Τ υ hE0 hwk hws hts Cw;have HNC:Hid (∀x∈[mb], ∀o,wr.cell? ⟨x,o,none⟩=none):=fun x hx o=>by
    have:x=mb:=by simpa using hx
    subst this;exact Bq.o.cache.kQ o
   generalize hcb:turns.contains (k:Int)=tb at hd0 hd1 abS SK;have HCB:=aa hcb;clear hcb;generalize hcd:kz h.aX n tb=cn at hd0 hd1 abS SK;have HCD:=aa hcd;clear hcd;go_wp2_with fail
   refine zg 16 [mb] (some 6) [(4,Spec.val (.bool tb)),(6,⟨fun _ v=>v=iv cn,fun _ _ Wa=>Cache Wa mb h.aX⟩)] ?_;simp only[zt];repeat (refine zd ?_;simp only[zp])
   refine dQ _ ϱ ϱ 147 _ (fun Wa hW=>by go_simp;try rfl) (fun Wa hE hF=>by have:=gD turns (.slice ot turns.length ct) (k:Int) Wa (HTS.o.eZ hE HNC.o);rw[HCB.o] at this;exact this) ?_
   simp only[zp];repeat (refine zd ?_;simp only[zp])
   refine bn _ ϱ ϱ ⟨_,rfl⟩ (fun Wa hE hF=>?_) (fun v Wa Wb hc hE=>?_) (fun v hv=>?_)
   ·have G8:Ext [] wr Wa:=hE;refine bX 216 #[.pointer (some ⟨wb,0,none⟩),sv n tb] (by go_simp;try rfl) ?_;refine(VQ h a b c wb mb n tb Wa (Bq.o.below G8.below (ah _)) hn0 ϑ hc0 hc1).mono ?_;rintro e Wb ⟨rfl,μ,Ι⟩;exact⟨_,rfl,by rw[HCD.o],μ,Ι⟩
   ·exact zbK
   obtain rfl:v=iv cn:=hv;simp only[zp];repeat (refine zd ?_;simp only[zp])
   intro Wa hE hF;have hCW:Cache Wa mb h.aX:=hF _ (bu _);have Pq:=(hE.block (w.heap.size+1) hb6 (by simpa using ah9)).trans ajE.o;have hfr:=aZ Pq;have hck:=fB Pq (show k<(nX h.size h.aX turns start bM k).length by rw[jH];omega)
   have HCW:=aa hCW;have PX:=aa Pq;have HEW:=aa hE;clear hF hCW Pq hE;go_wp2_with fail
   go_roundw
   case rel=>
    refine⟨k+1,by omega,by go_num,by rw[SK.o],?_,?_,?_⟩
    ·exact((Bq.o.ext HEW.o HCW.o).kept (dm _ _ _ _ (by show wb≠w.heap.size+1;omega)) (dm _ _ _ _ (by show mb≠w.heap.size+1;omega)))
    ·rw[abS.o, <-qm];exact aG PX.o _
    ·exact(HE0.o.trans HEW.o).set (by show w.heap.size<=w.heap.size+1;omega) _
   case measure=>simp[intOf];omega
  ·have XI:k=bM.length:=ϑ;obtain⟨y0,y1,y2,y3,y4,y5,y6,y7,y8,y9,hy⟩:=zo (jH h.size h.aX turns start bM k);have π:jS h (start,bM) turns=[y0,y1,y2,y3,y4,y5,y6,y7,y8,y9]:=by rw[<-hy,XI];rfl
   rw[hy] at υ;have hfr:=aZ υ;have hcs: ∀i,wr.cell? ⟨w.heap.size+1,i,none⟩=(#[iv y0,iv y1,iv y2,iv y3,iv y4,iv y5,iv y6,iv y7,iv y8,iv y9]:Array Value)[i]? :=fun i=>by
    simp only[World.cell?,υ];rfl
   have SG:=aa π;have HE0:=aa hE0;have Bq:=aa hwk;clear π hy υ hE0 hwk hws hts Cw;go_wp2_with fail
   (try simp only[Exit.inBlock,Exit.then])
   refine bodyPost_ret (v:= .agg #[iv y0,iv y1,iv y2,iv y3,iv y4,iv y5,iv y6,iv y7,iv y8,iv y9]) (by simp[results,Tryz.results133,go_sem,hcs]) rfl ⟨by rw[SG.o];rfl,?_,?_⟩
   ·refine Bq.o.cache.kept ?_;repeat rw[dm _ _ _ _ (by show mb≠w.heap.size+1;omega)]
   ·repeat (refine Ext.set ?_ (by show w.heap.size<=w.heap.size+1;omega) _)
    exact HE0.o
end Go.Proofs.Z.iM
namespace Go.Proofs.Z.iM
open Go.RowKit Go.RG Go.SL Go.Shelf ig
def Bc (t:TypeId) (size n:Nat) (xs:List Value) (w:World) (e:Ending) (w':World):Prop:= ∃v,e= .returned v/\w'.ownsRow w.heap.size t size v n xs/\Ϙ w w'
theorem wG (l:List Int) (v:Value) (w:World) (hv:aK w v l) (Ib:l.length<=1000):
 Ϝ 91 #[v] w (Bc 3 1 l.length (ag l) w):=by
 obtain⟨o,c,rfl⟩:=hv.open;exact zcq
end Go.Proofs.Z.iM
namespace Go.Proofs.Z.iM
open Go.RowKit Go.RG Go.SL Go.Shelf ig
theorem Cache.Hq {W:World} {mb:Nat} {aX:Int} (h:Cache W mb aX) (cs:Array Value) (t:TypeId) (f:Nat×Nat):W.heap[mb]?≠some (Obj.cells cs t f):=by
 obtain⟨es,c,h1,_⟩:=h;rw[h1];intro e;cases e
theorem Ik (h:bN) (a b c:Value) (n:Nat) (w:World) (h0:0<=h.last) (h9:h.last<=9) (hn:h.last+1=n):Ϝ 93 #[hv h a b c] w (PV (iv n) w):=by
 rw[<-hn];exact pX h a b c w h0 h9
end Go.Proofs.Z.iM
namespace Go.Proofs.Z.iM
open Go.RowKit Go.RG Go.SL Go.Shelf ig
attribute [local go_sem] Oper.semAt_some
structure z8 (W:World) (n bx iB bo bc ob l:Nat) (o:List Int):Prop where
 y:W.heap[iB]? =some (.cells #[.func (.yield l) #[] #[]] 163 (0,0))
 out:W.heap[bo]? =some (.cells #[.slice (some ⟨ob,0,none⟩) n n] 52 (0,0))
 ch:W.heap[bc]? =some (.cells #[.func (.func 234) #[] #[.pointer (some ⟨bx,0,none⟩),.pointer (some ⟨iB,0,none⟩),.pointer (some ⟨bo,0,none⟩),.pointer (some ⟨bc,0,none⟩)]] 274 (0,0))
 cells:W.heap[ob]? =some (.cells (ag o).toArray 3 (0,0))
theorem z8.kept {W W':World} {n bx iB bo bc ob l:Nat} {o:List Int} (h:z8 W n bx iB bo bc ob l o) (hk: ∀m∈[ob,iB,bo,bc],m<W.heap.size->W'.heap[m]? =W.heap[m]?):z8 W' n bx iB bo bc ob l o:=
 ⟨(hk _ ϕ (aP.1 h.y).1).trans h.y,(hk _ ϕ (aP.1 h.out).1).trans h.out,(hk _ ϕ (aP.1 h.ch).1).trans h.ch,(hk _ ϕ (aP.1 h.cells).1).trans h.cells⟩
theorem z8.below {W W':World} {n bx iB bo bc ob l:Nat} {o:List Int} (h:z8 W n bx iB bo bc ob l o) (hb:Ϙ W W'):z8 W' n bx iB bo bc ob l o:=
 ⟨(hb.block _ (aP.1 h.y).1).trans h.y,(hb.block _ (aP.1 h.out).1).trans h.out,(hb.block _ (aP.1 h.ch).1).trans h.ch,(hb.block _ (aP.1 h.cells).1).trans h.cells⟩
theorem z8.set {W:World} {n bx iB bo bc ob l:Nat} {o:List Int} (h:z8 W n bx iB bo bc ob l o) (hd1:iB≠ob) (hd2:bo≠ob) (hd3:bc≠ob) (i:Nat) (x:Int):z8 (W.setCell ⟨ob,i,none⟩ (iv x)) n bx iB bo bc ob l (o.set i x):=
 ⟨(dm _ _ _ _ hd1).trans h.y,(dm _ _ _ _ hd2).trans h.out,(dm _ _ _ _ hd3).trans h.ch,by rw[<-qm];exact aG h.cells _⟩
def ZT (Ms:List Nat) (x:List Int) (v:Value) (W:World):Prop:=
 ∃ob:Nat,v= .slice (some ⟨ob,0,none⟩) x.length x.length/\W.heap[ob]? =some (.cells (ag x).toArray 3 (0,0))/\ob∈Ms
def uh (bx:Nat) (v:Value) (R:List dF) (W:World):Prop:=W.heap[bx]? =some (.cells #[v] 51 (0,0))/\bF W v R
theorem NZ (R:List dF) (hR: ∀r∈R,0<=r.1/\r.1<=r.2/\r.2<=500) (hn:R.length<=100) (bx iB bo bc ob l:Nat) (hd1:iB≠ob) (hd2:bo≠ob) (hd3:bc≠ob) (v:Value) (J:List Nat->Option Nat->World->Prop)
 (hInv: ∀Ms s W1,J Ms s W1->uh bx v R W1)
 (hstep: ∀Ms jc s W1 W2,J Ms s W1->Ext Ms W1 W2->(∀m∈jc,m∈Ms∨(W1.heap.size<=m/\m<W2.heap.size))->True->J jc s W2)
 (hY: ∀Ms k v W1 (hk:k<(dZ R).length),J Ms (some k) W1->ZT Ms (dZ R)[k] v W1->YieldAt Fence.wide 0 Tryz.prog l #[v] W1 fun e W'=>
   ((∀m∈Ms,m∉[]->m<W1.heap.size->W'.heap[m]? =W1.heap[m]?)/\W1.heap.size<=W'.heap.size)/\((e= .returned (.bool true)/\J Ms (some (k+1)) W')∨(e= .returned (.bool false)/\J Ms none W'))):
 ∀(m i k:Nat) (Κ:List Int) (W:World) (o:List Int),i+m=R.length->Κ.length=i->o.length=R.length->o.take i=Κ->iN R i k Κ->z8 W R.length bx iB bo bc ob l o->J [ob,iB,bo,bc] (some k) W->
  CallsIn Fence.wide 0 Tryz.prog 234 #[iv i,.pointer (some ⟨bx,0,none⟩),.pointer (some ⟨iB,0,none⟩),.pointer (some ⟨bo,0,none⟩),.pointer (some ⟨bc,0,none⟩)] W
   (fun e W'=>(e= .returned (.bool true)/\J [ob,iB,bo,bc] (some (k+(dZ (R.drop i)).length)) W'/\ ∃o',o'.length=R.length/\o'.take i=Κ/\z8 W' R.length bx iB bo bc ob l o')∨
     (e= .returned (.bool false)/\J [ob,iB,bo,bc] none W')):=by
 intro m;induction m with
 |zero=>
  intro i k Κ W o him hpl hol hot hat UC hJ;obtain rfl:i=R.length:=ϑ;obtain⟨hone,hk,hx⟩:=hat.last rfl;rw[hone];obtain rfl:o=Κ:=by rw[<-hot, <-hol,List.take_length]
  obtain⟨hbx,Nl⟩:=hInv _ _ _ hJ;obtain⟨f1,t1,a1,b1,hy1,Bl⟩:=hY _ k (.slice (some ⟨ob,0,none⟩) R.length R.length) W hk hJ (by rw[hx];exact⟨ob,by rw[hol],UC.cells,by simp⟩);have LY:=aA hbx;have Oe:=aA UC.y;have NY:=aA UC.out;have Ib:=Nl.len;obtain⟨so,sc,rfl⟩:=Nl.open;have HR:=aa Bl;have HS:=aa UC;clear hInv hstep hY Bl UC hJ hbx Nl hat;refine callsIn_of_wp Tryz.func234 rfl trivial ?_;simp only[Tryz.ntmps234,List.size_toArray,List.length_cons,List.length_nil,Nat.reduceAdd,Nat.reduceSub,Array.replicate_succ,Array.replicate_zero,jr,jv,List.nil_append,List.cons_append]
  gi_wp2_with fail
  refine HR.out.mono ?_;rintro e W' ⟨⟨XJ,ν⟩,⟨rfl,hJ⟩|⟨rfl,hJ⟩⟩
  ·have HJ:=aa hJ;have HK:=aa XJ;clear hJ XJ
   gi_wp2_with fail
   go_returns;exact .inl ⟨by simp,HJ.out,o,hol,hot,HS.out.kept (fun m hm lg=>HK.out m hm ϕ lg)⟩
  ·have HJ:=aa hJ;have HK:=aa XJ;clear hJ XJ
   gi_wp2_with fail
   go_returns;exact .inr ⟨by simp,HJ.out⟩
 |succ m ih=>
  intro i k Κ W o him hpl hol hot hat UC hJ;have hi:i<R.length:=ϑ;have τ:=iN.count hi;obtain⟨hr0,hr1,hr2⟩:=hR R[i] (bK hi);obtain⟨hbx,Nl⟩:=hInv _ _ _ hJ;have LY:=aA hbx;have Oe:=aA UC.y;have NY:=aA UC.out;have YL:=aA UC.ch;have Ib:=Nl.len;obtain⟨so,sc,rfl⟩:=Nl.open;obtain⟨b,off,rfl,hb,cf2,cl2⟩:=bF.cell Nl hi;have HAT:=aa hat;have HI:=aa hInv;have κ:=aa hstep;have HS:=aa UC;have HJ:=aa hJ;have Tp:=aa ih;have HSL:=aa Nl;have HBX:=aa hbx;have hiI:(i:Int)<R.length:=ϑ;have hne:(i:Int)≠R.length:=ϑ;have Cv:((i:Int)==R.length)=false:=by simpa using hne
  have HN:Hid (iN R i k Κ/\i<R.length):=aa ⟨hat,hi⟩;have GD:=aa (af hol hot);have HCT:=aa τ;have hsize: ∃z:Nat,dP R[i]=z/\z<=501:=⟨(dP R[i]).toNat,by unfold dP;omega,by unfold dP;omega⟩;obtain⟨z,hz,ajS⟩:=hsize;have SK:Hid (∀c:Nat,c<z->iN R (i+1) (k+c*(dZ (R.drop (i+1))).length) (Κ++[R[i].1+(c:Int)])):=aa (fun c hc=>hat.next hi c ϑ);have HCZ:Hid ((dZ (R.drop i)).length=z*(dZ (R.drop (i+1))).length):=aa (by rw[τ,hz];simp);clear hInv hstep hY hat UC hJ ih Nl hbx τ hne hol hot hR;generalize Ar:R[i]=r at*
  have HRI:=aa Ar;clear Ar;have HZ:=aa hz;clear hz HCT;have hbs:=dn W _ LY;have ω:=dn W _ Oe;have hos:=dn W _ NY;have hcs:=dn W _ YL;refine callsIn_of_wp Tryz.func234 rfl trivial ?_;simp only[Tryz.ntmps234,List.size_toArray,List.length_cons,List.length_nil,Nat.reduceAdd,Nat.reduceSub,Array.replicate_succ,Array.replicate_zero,jr,jv,List.nil_append,List.cons_append]
  gi_wp2_with fail
  refine((callsIn_wide.2 (Jq r W hr0 hr1 ϑ))).mono ?_;rintro e W1 ⟨rfl,ζ⟩;rw[HZ.out];have Qi:=aa ζ;obtain⟨hc,hf⟩:=bA ζ;clear ζ
  gi_wp2_with fail
  have adn:z8 W1 R.length bx iB bo bc ob l o:=HS.out.below Qi.out;have Bb:J [ob,iB,bo,bc] (some k) W1:=κ.out _ _ _ _ _ HJ.out (Ext.ay Qi.out) (fun m hm=> .inl hm) trivial;have IZ:=aa adn;have HJ1:=aa Bb;clear adn Bb hc hf
  gi_loopw [7,20] (fun _ u wr=> ∃c:Nat,c<=z/\u= .int .i64 c/\ ∃o':List Int,o'.length=R.length/\o'.take i=Κ/\z8 wr R.length bx iB bo bc ob l o'/\J [ob,iB,bo,bc] (some (k+c*(dZ (R.drop (i+1))).length)) wr)
   (fun _ u _=>z-(intOf u).toNat)
  case atStart=>exact⟨0,bD _,rfl,o,GD.out.1,GD.out.2,IZ.out,by simpa using HJ1.out⟩
  case round=>
   obtain⟨c,hcz,rfl,o',ho1,Ψ,UC,hJ⟩:=hrel;by_cases tX:c<z
   ·obtain⟨hbx,Nl⟩:=HI.out _ _ _ hJ;have d1:=aA hbx;have d2:=aA UC.y;have d3:=aA UC.out;have d4:=aA UC.ch;have anj:=dn wr _ d1;have ani:=dn wr _ d2;have anh:=dn wr _ d3;have ang:=dn wr _ d4;obtain⟨b',off',hbb,hb',e0,e1⟩:=bF.cell Nl HN.out.2;cases hbb;rw[HRI.out] at e0 e1;have XV:i<o'.length:=ϑ;have d5:=fB UC.cells XV;have anf:=dn wr _ d5;have hfr:=aZ UC.cells;have Dr:=aa UC;have OL:=aa hJ;have HO:=aa (af ho1 Ψ);clear UC hJ hbx Nl ho1 Ψ LY Oe NY YL cf2 cl2;have Ba:(c:Int)<z:=ϑ
    gi_wp2_with fail
    refine Bt 10 [] none [] ϰ ϰ ϰ ?_;simp only[zt];repeat (refine zn ?_;simp only[zp])
    intro W hE hF;obtain⟨hc,hf⟩:=bA hE.below;have ic:=hE.size;(try simp only[bg] at ic)
    have HE:=aa hE.below;clear hE hF
    gi_wp2_with fail
    have Cs:=(Dr.out.below HE.out).set hd1 hd2 hd3 i (r.1+(c:Int));have Vo:J [ob,iB,bo,bc] (some (k+c*(dZ (R.drop (i+1))).length)) (W.setCell ⟨ob,i,none⟩ (iv (r.1+(c:Int)))):=
     κ.out _ _ _ _ _ (κ.out _ _ _ _ _ OL.out (Ext.ay HE.out) (fun m hm=> .inl hm) trivial) ((kH W ⟨ob,i,none⟩ _).more (fun x hx=>by simp at hx;subst hx;simp)) (fun m hm=> .inl hm) trivial
    have pG:=Tp.out (i+1) _ (Κ++[r.1+(c:Int)]) _ (o'.set i (r.1+(c:Int))) ϑ (by simp[hpl]) (by simp[HO.out.1]) (by
     rw[List.take_set];rw[oQ,HO.out.2];have XV:i<o'.length:=by have:=HO.out.1;omega
     rw[bZ XV];simp[nT,hpl]) (SK.out c tX) Cs Vo
    rw[show((i+1:Nat):Int)=(i:Int)+1 from by omega] at pG;have yY:=aa pG;clear pG Cs Vo;refine yY.out.mono ?_;rintro e W2 (⟨rfl,hJ2,o2,ho1,Ψ,Ct⟩|⟨rfl,hJ2⟩)
    ·have HJ2:=aa hJ2;have Oz:=aa Ct;have xQ:=aa (af ho1 Ψ);clear hJ2 Ct ho1 Ψ hc hf d1 d2 d3 d4 d5 hfr e0 e1
     gi_wp2_with fail
     go_roundw
     case rel=>
      exact zbn
     case measure=>simp[intOf];omega
    ·have HJ2:=aa hJ2;clear hJ2 hc hf d1 d2 d3 d4 d5 hfr e0 e1
     gi_wp2_with fail
     go_returns;exact .inr ⟨by simp,HJ2.out⟩
   ·exact zbu
end Go.Proofs.Z.iM
namespace Go.Proofs.Z.iM
open Go.RowKit Go.RG Go.SL Go.Shelf ig
theorem sG (n:Nat) (hn:n<=1000) (W:World):
 (Instr.makeSlice 52 (iv n) (iv n)).run Tryz.prog W= .ok (.slice (some ⟨W.heap.size,0,none⟩) n n) (W.alloc (.cells (ag (List.replicate n 0)).toArray 3)):=by
 obtain⟨i,hi,hz,hs,hby⟩:=info_parts pq.info;have:=run_make (P:=Tryz.prog) W 52 3 i (iv 0) pq.und hi hz .i64 .i64 n n ϑ (Int.le_refl _) (by rw[hby];omega) ϑ;rw[this,hs];exact zbQ
theorem ku (w:World) (A B C D:Obj):((((w.alloc A).alloc B).alloc C).alloc D).heap[w.heap.size+1+1+1]? =some D:=by
 have:=heap_alloc_new (((w.alloc A).alloc B).alloc C) D;rwa [bg,bg,bg] at this
theorem QX (R:List dF) (hR: ∀r∈R,0<=r.1/\r.1<=r.2/\r.2<=500) (hn:R.length<=100) (bx:Nat) (v:Value):
 Sw Tryz.prog 233 #[.pointer (some ⟨bx,0,none⟩)] (dZ R) ZT [] (fun _=>True) (uh bx v R):=by
 intro l J W hInv hstep hY h0;obtain⟨hbx,Nl⟩:=hInv _ _ _ h0;have hch:=fun iB bo bc ob hd1 hd2 hd3=>NZ R hR hn bx iB bo bc ob l hd1 hd2 hd3 v J hInv hstep hY;have c1:=aA hbx;have ζ:=dn W _ c1;have Ib:=Nl.len;obtain⟨so,sc,rfl⟩:=Nl.open;have HCH:=aa hch;have κ:=aa hstep;have HJ:=aa h0;have hmk:=sG R.length ϑ;have Il: ∀(A B C:Obj) (v:Value) (t:TypeId),((((W.alloc A).alloc B).alloc C).alloc (.cells #[v] t)).cell? ⟨W.heap.size+1+1+1,0,none⟩=some v:=fun A B C v t=>aA (ku W A B C _);have hf3: ∀(A B C:Obj) (v:Value) (t:TypeId),((((W.alloc A).alloc B).alloc C).alloc (.cells #[v] t)).frozen? ⟨W.heap.size+1+1+1,0,none⟩=false:=fun A B C v t=>aZ (ku W A B C _) 0;clear hInv hstep hY hch h0 hbx Nl hR;go_enter Tryz.func233,Tryz.ntmps233;go_wp2_with fail
 refine(callsIn_wide.1 (HCH.o W.heap.size (W.heap.size+1+1) (W.heap.size+1+1+1) (W.heap.size+1) ϑ ϑ ϑ R.length 0 0 [] _ (List.replicate R.length 0) ϑ rfl ϕ ϕ (iN.zero R) ⟨?_,?_,?_,?_⟩
  (κ.o _ _ _ _ _ HJ.o (Ext.ay zl) (fun m hm=> .inr (by simp at hm;(first|omega|(simp;omega)))) trivial))).mono ?_
 ·exact zb0
 ·exact((aS _ _ _ ϕ).trans (fU _ _ _ _))
 ·exact ku _ _ _ _ _
 ·exact((aS _ _ _ ϕ).trans ((aS _ _ _ ϕ).trans (dG _ _ _)))
 ·rintro e W2 (⟨rfl,hJ2,_⟩|⟨rfl,hJ2⟩)
  ·have HJ2:=aa hJ2;clear hJ2 Il hf3 hmk;go_wp2_with fail
   go_end0
   exact⟨⟨_,rfl⟩,_,.inl (by simpa using HJ2.o)⟩
  ·have HJ2:=aa hJ2;clear hJ2 Il hf3 hmk;exact zbG
theorem QY (o:Option Addr) (n c:Nat) (w:World):
 Ϝ 145 #[.slice o n c] w (fun e w'=>e= .returned (.func (.func 233) #[] #[.pointer (some ⟨w.heap.size,0,none⟩)])/\w'=w.alloc (.cells #[.slice o n c] 51)):=by
 go_enter Tryz.func145,Tryz.ntmps145;exact zbA
end Go.Proofs.Z.iM
namespace Go.Proofs.Z.iM
open Go.RowKit Go.RG Go.SL Go.Shelf ig
attribute [local go_sem] Oper.semAt_some
theorem MH (h:bN) (o:Option Addr) (cc:Nat) (b c:Value) (w:World) (hw:bF w (.slice o h.bM.length cc) h.bM) (Ib:h.bM.length<=1000):
 Ϝ 146 #[hv h (.slice o h.bM.length cc) b c] w (Bc 50 2 (h.bM.length+1) (aD (h.start::h.bM)) w):=by
 have HW:=aa hw;clear hw;go_enter Tryz.func146,Tryz.ntmps146;go_wp2_with (at_builtin;refine eP rfl _ _ GV rfl (w.heap.size+1) (.slice (some ⟨w.heap.size+1,0,none⟩) 1 1) 1 [iv h.start.1,iv h.start.2] rfl ?_ (.slice o h.bM.length cc) h.bM.length (aD h.bM) rfl ?_ (mG _) ϑ ϑ ϕ ?_)
 ·exact gG (dG _ _ _) rfl (ah _) ϖ
 ·exact(HW.o.alloc _).alloc _
 ·intro v' w1 Fw Zg;have HO:=aa Fw;have HG:=aa Zg;clear Fw Zg;go_wp2;go_returns;refine⟨v',by simp,?_,?_⟩
  ·have:=HO.o;rw[Nat.add_comm 1 h.bM.length] at this;exact⟨this.1,this.2.imp id (fun⟨g,cap,cur,h1,h2,h3⟩=>⟨g,cap,cur,h1,by omega,h3⟩)⟩
  ·exact zb3
theorem Mt (ob n:Nat) (hn:1<=n) (W:World):
 (Instr.slice 52 (.slice (some ⟨ob,0,none⟩) (n+1) (n+1)) (some (iv 1)) none none).run Tryz.prog W= .ok (.slice (some ⟨ob,1,none⟩) n n) W:=by
 have h0: ¬n+1=1:=ϑ;have h1:(1:Int)<=((n+1:Nat):Int):=ϑ;have:=run_slice_l (P:=Tryz.prog) W 52 (some ⟨ob,0,none⟩) (n+1) (n+1) ϰ .i64 1 ϑ h1;rw[this];have h2: ¬n=0:=ϑ;simp[go_sem,sliced,h2]
theorem uS (P:Program) {w:World} {g:Nat} {t:TypeId} {cur:Array Value} (ys:List Int) (hg:w.heap[g]? =some (.cells cur t (0,0))) (hl:cur.size=ys.length):
 ∃w',(storeCells ⟨g,0,none⟩ (ag ys)).run P w= .ok () w'/\w'.heap[g]? =some (.cells (ag ys).toArray t (0,0))/\Ext [g] w w':=by
 have hil:(ag ys).length=ys.length:=by simp[ag]
 have h:=run_storeCells_at P g 0 t (ag ys) 0 cur w hg ϑ (iE ys);refine⟨_,h,?_,rfl,rfl,rfl,by simp,fun k _ hm=>setRow_other _ _ _ _ (by simpa using hm)⟩;rw[setRow_heap w g cur _ t _ hg];simp;omega
structure Su (wb mb bw bo:Nat) (h:bN) (a b c ov:Value) (out:List Int) (W:World):Prop where
 w:W.heap[bw]? =some (.cells #[.pointer (some ⟨wb,0,none⟩)] 170 (0,0))
 o:W.heap[bo]? =some (.cells #[ov] 52 (0,0))
 work:gN W wb mb h a b c
 bM:bF W a h.bM
 turns:aK W b h.turns
 readings:bB W c h.readings
 out:aK W ov out
theorem Su.below {wb mb bw bo:Nat} {h:bN} {a b c ov:Value} {out:List Int} {W W':World} (t:Su wb mb bw bo h a b c ov out W) (hb:Ϙ W W'):Su wb mb bw bo h a b c ov out W':=
 ⟨(hb.block _ (aP.1 t.w).1).trans t.w,(hb.block _ (aP.1 t.o).1).trans t.o,t.work.below hb (ah _),t.bM.below hb (ah _),t.turns.below hb (ah _),
   t.readings.below hb (ah _),t.out.below hb (ah _)⟩
theorem zO {Ms:List Nat} {a b c:World} {x:Nat} (h:Ext Ms a b) (k:Ext [x] b c) (hx:a.heap.size<=x):Ext Ms a c:=
 ⟨k.os.trans h.os,k.tape.trans h.tape,k.output.trans h.output,gI h.size k.size,
   fun i hi hm=>(k.block i (dU hi h.size) ϗ).trans (h.block i hi hm)⟩
theorem Ze {l n:Nat} {P:Program} {ops:Array Oper} {Q:Exit->Act->World->Prop} {a:Act} {w:World} {rest:List Oper} {o:Oper} (hw:Region.wanted o (yielded ops a.tmps)=false)
 (h:wpListIn (Fence.wide.inRound l) n P ops Q rest (a.put o.dst undef) w):wpListIn (Fence.wide.inRound l) n P ops Q (o::rest) a w:=by
 simp only[wpListIn,hw];exact⟨fun _ _=>trivial,h⟩
theorem kN (q:Nat) (f:Nat->Bool):(List.range (q+1)).all f=((List.range q).all f&&f q):=by
 rw[List.range_succ,List.all_append];simp
theorem zD {W:World} {mb b:Nat} {aX:Int} {cs:Array Value} {t:TypeId} {f:Nat×Nat} (hc:Cache W mb aX) (h:W.heap[b]? =some (Obj.cells cs t f)): ¬b=mb:=by
 intro e;subst e;exact hc.Hq _ _ _ h
def abF (mb:Nat) (Ms:List Nat) (t:Int×List Int) (v:Value) (W:World):Prop:=
 ∃ob:Nat,v= .agg #[iv t.1,.slice (some ⟨ob,1,none⟩) t.2.length t.2.length]/\aK W (.slice (some ⟨ob,1,none⟩) t.2.length t.2.length) t.2/\ob∈Ms/\ob≠mb
abbrev LV (mb tb bx rb d:Nat):List Nat:=[mb,tb,bx,rb,d,d+1]
structure yT (l mb tb bx rb d cap:Nat) (R:List dF) (Ms:List Nat) (W:World):Prop where
 y:W.heap[tb]? =some (.cells #[.func (.yield l) #[] #[]] 288 (0,0))
 box:uh bx (.slice (some ⟨rb,0,none⟩) R.length cap) R W
 apart: ∀m∈Ms,m∉LV mb tb bx rb d
 small: ∀p∈LV mb tb bx rb d,p<W.heap.size
theorem uh.kept {bx rb cap:Nat} {R:List dF} {n:Nat} {W W':World} (h:uh bx (.slice (some ⟨rb,0,none⟩) n cap) R W) (h1:W'.heap[bx]? =W.heap[bx]?) (h2:W'.heap[rb]? =W.heap[rb]?):
 uh bx (.slice (some ⟨rb,0,none⟩) n cap) R W':=
 ⟨h1.trans h.1,h.2.kept fun b off n c hv _=>by cases hv;exact h2⟩
theorem yT.kept {l mb tb bx rb d cap:Nat} {R:List dF} {Ms jc:List Nat} {W W':World} (h:yT l mb tb bx rb d cap R Ms W) (hs:W.heap.size<=W'.heap.size) (hk: ∀p∈[tb,bx,rb],W'.heap[p]? =W.heap[p]?)
 (γ: ∀m∈jc,m∈Ms∨(W.heap.size<=m/\m<W'.heap.size)):yT l mb tb bx rb d cap R jc W':=
 ⟨(hk _ ϕ).trans h.y,h.box.kept (hk _ ϕ) (hk _ ϕ),fun m hm hp=>by
   rcases γ m hm with h1|h1
   ·exact h.apart m h1 hp
   ·have:=h.small m hp;omega,fun p hp=>by have:=h.small p hp;omega⟩
theorem yT.ext {l mb tb bx rb d cap:Nat} {R:List dF} {Ms jc:List Nat} {W W':World} (h:yT l mb tb bx rb d cap R Ms W) (hE:Ext Ms W W')
 (γ: ∀m∈jc,m∈Ms∨(W.heap.size<=m/\m<W'.heap.size)):yT l mb tb bx rb d cap R jc W':=
 h.kept hE.size (fun p hp=>hE.block p (h.small p (by simp at hp⊢;omega)) (fun hm=>h.apart p hm (by simp at hp⊢;omega))) γ
section
variable {l mb tb bx rb d cap : Nat} {R : List dF} {wb bw bo : Nat} {h : bN} {a b c ov : Value} {out : List Int} {J : List Nat → Option Nat → World → Prop}
  (hInv : ∀ Ms s W1, J Ms s W1 → Su wb mb bw bo h a b c ov out W1)
  (hstep : ∀ Ms jc s W1 W2, J Ms s W1 → Ext Ms W1 W2 → (∀ m ∈ jc, m ∈ Ms ∨ (W1.heap.size ≤ m ∧ m < W2.heap.size)) → Cache W2 mb h.aX → J jc s W2)
include hInv hstep
theorem PQ {Ms jc:List Nat} {s:Option Nat} {W1 W2:World} (hp:yT l mb tb bx rb d cap R Ms W1) (hJ:J (LV mb tb bx rb d++Ms) s W1) (hE:Ext Ms W1 W2) (γ: ∀m∈jc,m∈Ms∨(W1.heap.size<=m/\m<W2.heap.size)):
 J (LV mb tb bx rb d++jc) s W2:=by
 refine hstep _ _ _ _ _ hJ (hE.more fun x hx=>qL _ hx) ?_ ?_
 ·intro m hm;rcases gz.1 hm with h1|h1
  ·exact .inl (mi _ h1)
  ·exact(γ m h1).imp (fun h2=>qL _ h2) id
 ·have hc:=(hInv _ _ _ hJ).work.cache;exact hc.kept (hE.block _ hc.lt (fun hm=>hp.apart _ hm ϕ))
theorem LF {Ms:List Nat} {s:Option Nat} {W:World} {r:Nat} (o:Obj) (hr:r∈LV mb tb bx rb d) (hm:r≠mb) (hJ:J (LV mb tb bx rb d++Ms) s W):J (LV mb tb bx rb d++Ms) s (W.putObj r o):=by
 refine hstep _ _ _ _ _ hJ ((Bo W r o).more fun x hx=>?_) (fun m hm=> .inl hm) ?_
 ·have:x=r:=by simpa using hx
  subst this;exact mi _ hr
 ·exact(hInv _ _ _ hJ).work.cache.kept (World.putObj_heap_other (Ne.symm hm))
theorem Y0 {Ms:List Nat} {s:Option Nat} {W W':World} (hJ:J (LV mb tb bx rb d++Ms) s W) (hE:Ext [mb] W W') (hc:Cache W' mb h.aX):J (LV mb tb bx rb d++Ms) s W':=
 hstep _ _ _ _ _ hJ (hE.more fun x hx=>by simp at hx;subst hx;simp) (fun m hm=> .inl hm) hc
end
theorem xg (h:bN) (hS:Sound h) (a b c ov:Value) (out:List Int) (wb mb bw bo:Nat):
 Sw Tryz.prog 144 #[.pointer (some ⟨bw,0,none⟩),.pointer (some ⟨bo,0,none⟩)] (dE h out) (abF mb) [mb] (fun W=>Cache W mb h.aX) (Su wb mb bw bo h a b c ov out):=by
 intro l J W hInv hstep hY h0;have hT:=hInv _ _ _ h0;obtain⟨oa,ca,rfl⟩:=hT.bM.open;obtain⟨otn,cb,rfl⟩:=hT.turns.open;obtain⟨oc,cc,rfl⟩:=hT.readings.open;obtain⟨oo,co,rfl⟩:=hT.out.open;have c1:=aA hT.w;have ζ:=dn W _ c1;have c2:=hT.work.cell;have θ:=hT.work.lt;have HT:=aa hT;have HI:=aa hInv;have κ:=aa hstep;have HY:=aa hY;have HJ:=aa h0;have mK:=aa hS;have hwl:h.bM.length<=10:=by have:=hS.Bz;have:=hS.yn;omega
 clear hInv hstep hY h0 hT hS;refine(callsIn_wide (n:=0)).1 ?_;refine callsIn_of_wp_marks Tryz.func144 rfl trivial ?_;simp only[Tryz.ntmps144,List.size_toArray,List.length_cons,List.length_nil,Nat.reduceAdd,Nat.reduceSub,Array.replicate_succ,Array.replicate_zero,jr,jv,List.nil_append,List.cons_append]
 gi_wp2_with fail
 refine(callsIn_wide.2 (MH h oa ca _ _ _ (HT.out.bM.alloc _) ϑ)).mono ?_;rintro e w1 ⟨v1,rfl,Fw,hb⟩;obtain⟨rb,cap,rfl,hrb,hrl⟩: ∃rb cap:Nat,v1= .slice (some ⟨rb,0,none⟩) (h.bM.length+1) cap/\W.heap.size<rb/\bF w1 (.slice (some ⟨rb,0,none⟩) (h.bM.length+1) cap) (h.start::h.bM):=by
  have Nl:=aH.bV Fw;rcases Fw.2 with⟨rfl,h0⟩|⟨g,cp,cur,rfl,hbg,hrest⟩
  ·omega
  ·exact⟨g,cp,rfl,by simp at hbg;omega,Nl⟩
 have Qi:=aa (show Ϙ W w1 from aV (ai (aC _ _) _) hb);have HTB:=aa ((hb.block W.heap.size ϕ).trans (av _ _));have hsz1:=hb.size;have HRL:=aa hrl;clear Fw hb hrl c1 c2
 gi_wp2_with fail
 refine(callsIn_wide.2 (QY _ _ _ w1)).mono ?_;rintro e w2 ⟨rfl,rfl⟩
 gi_wp2_with fail
 obtain⟨w2,hw2⟩: ∃w2,w1.alloc (.cells #[.slice (some ⟨rb,0,none⟩) (h.bM.length+1) cap] 51)=w2:=⟨_,rfl⟩;have hsz2:w2.heap.size=w1.heap.size+1:=by rw[<-hw2];simp
 have uE:Ϙ w1 w2:=by rw[<-hw2];exact ai (aC _ _) _
 have Rq:w2.heap[w1.heap.size]? =some (.cells #[.slice (some ⟨rb,0,none⟩) (h.bM.length+1) cap] 51 (0,0)):=by rw[<-hw2];exact av _ _
 rw[hw2];have adk:=(uE.block _ (aP.1 HTB.out).1).trans HTB.out;have hrl2:bF w2 (.slice (some ⟨rb,0,none⟩) (h.bM.length+1) cap) (h.start::h.bM):=HRL.out.below uE (ah _);have amu:rb<w1.heap.size:=by
  obtain⟨b',off',hbb,tX,_⟩:=bF.cell HRL.out (show 0<(h.start::h.bM).length by simp)
  cases hbb;exact tX
 have amj:W.heap.size<w1.heap.size:=(aP.1 HTB.out).1;have hmb:mb<W.heap.size:=HT.out.work.cache.lt;have ait:Ϙ W w2:=aV Qi.out uE;have HP0:Hid (∀o o',yT l mb W.heap.size w1.heap.size rb w2.heap.size cap (h.start::h.bM) [] ((w2.alloc o).alloc o')):=aa (fun o o'=>
  ⟨(aS _ _ _ ϗ).trans ((aS _ _ _ ϑ).trans adk),
    uh.kept (W:=w2) ⟨Rq,hrl2⟩ ((aS _ _ _ ϗ).trans (aS _ _ _ ϑ)) ((aS _ _ _ ϗ).trans (aS _ _ _ ϑ)),by simp,
    fun p hp=>by simp at hp⊢;omega⟩)
 have HJ0:Hid (∀o o',J (LV mb W.heap.size w1.heap.size rb w2.heap.size++[]) (some (cnt h out 0)) ((w2.alloc o).alloc o')):=aa (fun o o'=>by
  have hBW:Ϙ W ((w2.alloc o).alloc o'):=ai (ai ait _) _;exact κ.out _ _ _ _ _ HJ.out (Ext.ay hBW) (fun m hm=>by simp at hm⊢;omega) (HT.out.work.cache.kept (hBW.block mb hmb)))
 clear hw2 Rq adk hrl2 uE;refine kL (QX (h.start::h.bM) ?hR ϗ w1.heap.size (.slice (some ⟨rb,0,none⟩) (h.bM.length+1) cap)) rfl (enters_of Tryz.func233 ϰ rfl) rfl ϕ
  (fun Ms k W'=>yT l mb W.heap.size w1.heap.size rb w2.heap.size cap (h.start::h.bM) Ms W'/\J (LV mb W.heap.size w1.heap.size rb w2.heap.size++Ms) (some (cnt h out k)) W')
  (fun c Ms W'=>c= .ret/\yT l mb W.heap.size w1.heap.size rb w2.heap.size cap (h.start::h.bM) Ms W'/\J (LV mb W.heap.size w1.heap.size rb w2.heap.size++Ms) none W')
  ?hInv ?mZ ?hI ?hIx ?Et ?qE (fun o o'=>⟨HP0.out o o',HJ0.out o o'⟩)
  (fun a Ms k W1 a₁ W'=> ∃ob:Nat,a₁={tmps:=(a.tmps.setIfInBounds 16 (.slice (some ⟨ob,0,none⟩) (h.bM.length+1) (h.bM.length+1))).setIfInBounds 4 (.slice (some ⟨ob,0,none⟩) (h.bM.length+1) (h.bM.length+1)),defers:=[]}/\
    yT l mb W.heap.size w1.heap.size rb w2.heap.size cap (h.start::h.bM) Ms W'/\J (LV mb W.heap.size w1.heap.size rb w2.heap.size++Ms) (some (cnt h out k)) W'/\ob∈Ms/\W'.heap[ob]? =some (.cells (ag ((oP h).getD k [])).toArray 3 (0,0))/\
    (∀m∈Ms,W'.heap[m]? =W1.heap[m]?)/\W1.heap.size<=W'.heap.size)
  ?Iu ?hassign ?hbody ?hdone ?hstop
 case hR=>
  intro r hr;have hS:=mK.out;rcases eB.1 hr with rfl|hr
  ·exact⟨hS.TN,hS.TM,hS.TL⟩
  ·have:=hS.bM r hr;omega
 case hInv=>rintro Ms k W' ⟨hp,_⟩;exact hp.box
 case mZ=>rintro c Ms W' ⟨_,hp,_⟩;exact hp.box
 case hI=>rintro Ms jc k Wa Wb ⟨hp,hJ⟩ hE γ _;exact⟨hp.ext hE γ,PQ HI.out κ.out hp hJ hE γ⟩
 case hIx=>rintro c Ms jc Wa Wb ⟨hc,hp,hJ⟩ hE γ _;exact⟨hc,hp.ext hE γ,PQ HI.out κ.out hp hJ hE γ⟩
 case Et=>
  rintro Ms k W' r o ⟨hp,hJ⟩ hr;exact⟨hp.kept ϕ (fun p hp'=>World.putObj_heap_other (by simp at hp';omega)) (fun m hm=> .inl hm),LF HI.out κ.out o ϗ ϑ hJ⟩
 case qE=>
  rintro c Ms W' r o ⟨hc,hp,hJ⟩ hr;exact⟨hc,hp.kept ϕ (fun p hp'=>World.putObj_heap_other (by simp at hp';omega)) (fun m hm=> .inl hm),LF HI.out κ.out o ϗ ϑ hJ⟩
 case Iu=>
  rintro Ms k W1 a₁ W' o ⟨ob,ha,hp,hJ,wO,hcells,hk,hs⟩;have hne: ∀m∈Ms,m≠w2.heap.size+1:=fun m hm e=>hp.apart m hm ϗ;exact⟨ob,ha,hp.kept ϕ (fun p hp'=>World.putObj_heap_other (by simp at hp';omega)) (fun m hm=> .inl hm),LF HI.out κ.out o ϕ ϑ hJ,wO,
   (World.putObj_heap_other (hne _ wO)).trans hcells,fun m hm=>(World.putObj_heap_other (hne m hm)).trans (hk m hm),by simpa using hs⟩
 case hassign=>
  rintro Ms k v W' hk ⟨hp,hJ⟩ ⟨ob,rfl,hcells,wO⟩ tX;have Ib:((dZ (h.start::h.bM))[k]).length=h.bM.length+1:=QB _ _ (bK _);rw[Ib]
  gi_wp2
  refine⟨⟨ob,rfl,hp,hJ,wO,?_,fun m hm=>trivial,ah _⟩,trivial,trivial⟩;have Ρ:k<(oP h).length:=hk;rw[show(oP h).getD k []=(dZ (h.start::h.bM))[k] from by rw[fJ,bZ Ρ];rfl]
  exact hcells
 case hdone=>
  rintro Ms W' ⟨hp,hJ⟩ hD tX
  gi_wp2
  refine⟨by simp,.inl ⟨_,_,rfl,run_takeDeferred hD,?_⟩⟩;refine⟨_,results_none rfl _ _ _,⟨_,rfl⟩,LV mb W.heap.size w1.heap.size rb w2.heap.size++Ms,.inl ?_⟩;have:=LF HI.out κ.out (Obj.deferred none) (r:=w2.heap.size) ϕ ϑ hJ;rw[<-Yz];exact this
 case hstop=>
  rintro c Ms W' ⟨rfl,hp,hJ⟩ hD tX
  gi_wp2
  refine⟨by simp,.inl ⟨_,_,rfl,run_takeDeferred hD,?_⟩⟩;refine⟨_,results_none rfl _ _ _,⟨_,rfl⟩,LV mb W.heap.size w1.heap.size rb w2.heap.size++Ms,.inr ?_⟩;exact LF HI.out κ.out (Obj.deferred none) (r:=w2.heap.size) ϕ ϑ hJ
 case hbody=>
  rintro Ms k W1 a₁ W' busy hk ⟨ob,rfl,hp,hJ,wO,hcells,XJ,ν⟩ ε hD;simp only[oU,List.set_cons_succ,List.set_cons_zero];have hTI:=HI.out _ _ _ hJ;have Ρ:k<(oP h).length:=hk;have hxm:(oP h).getD k []∈oP h:=by rw[fJ,bZ Ρ];exact bK _
  have hxk:(oP h).getD k []=(oP h)[k]:=by rw[fJ,bZ Ρ];rfl
  obtain⟨s0,rest,hx,hrl,hs0,hrest⟩:=Ci mK.out hxm;rw[hx] at hcells;have hcell0:=fB hcells (k:=0) ϕ;simp only[List.getElem_cons_zero] at hcell0;have amA:=dn W' _ hcell0;have adq:aK W' (.slice (some ⟨ob,1,none⟩) h.bM.length h.bM.length) rest:=by
   refine⟨by simp[ag],_,_,by rw[hrl],ah _,by simp[maxLen];omega,(fun h=>by cases h),fun a ha=>?_⟩;cases ha;refine⟨rfl,fun j u hj=>?_⟩;simp only[World.cell?,hcells];rw[show(1+j)=j+1 from by omega];simpa [ag] using hj
  have hn1:1<=h.bM.length:=by have:=mK.out.Bz;have:=mK.out.F6;omega
  have hnI:(1:Int)<=((h.bM.length+1:Nat):Int):=ϑ;have hne0: ¬h.bM.length=0:=ϑ;have hwI:((h.bM.length:Int)+1).toNat=h.bM.length+1:=ϑ;have HX:Hid ((oP h)[k]=s0::rest):=aa (by rw[<-hxk];exact hx);have HTI:=aa hTI;have HP:=aa hp;have HJb:=aa hJ;have HCL:=aa hcells;have WW:=aa (af ε hD);have HKP:=aa XJ;have HSR:=aa adq;have I1:=aa (af hs0 hrest);have ahj:=Mt ob h.bM.length hn1;clear hTI hxm hxk hx hcells hp hJ ε hD XJ adq hrest
  gi_wp2_with fail
  refine dD 7 [] none [(6,Spec.block W'.heap.size #[iv 0,.slice none 0 0] 208)] ϰ ϰ ϰ ?_;simp only[zt];repeat (refine zd ?_;simp only[zp])
  refine iY W'.heap.size _ _ ϱ (ah _) ϱ ϕ ϕ (fun W hW=>by go_simp;try rfl) (fun b5=>?_);simp only[zp];intro W3 hE hF;obtain⟨b',hb,hbB,υ⟩:=hF _ (bu _);cases hb;have hfr:=aZ υ;have hb5:=(aP.1 υ).1;have hg: ∀i,W3.cell? ⟨b5,i,none⟩=(#[iv 0,.slice none 0 0]:Array Value)[i]? :=fun i=>by
   simp only[World.cell?,υ];rfl
  have WI:=aa hE.below;have mO:=aa υ;clear υ hF hE ahj hcell0
  gi_wp2_with fail
  obtain⟨W4,yB⟩: ∃W4,(W3.setCell ⟨b5,0,none⟩ (iv s0)).setCell ⟨b5,1,none⟩ (.slice (some ⟨ob,1,none⟩) h.bM.length h.bM.length)=W4:=⟨_,rfl⟩;rw[yB];have hB4:Ϙ W' W4:=by rw[<-yB];exact gu (gu WI.out hbB _) hbB _
  have hblk5:W4.heap[b5]? =some (.cells #[iv s0,.slice (some ⟨ob,1,none⟩) h.bM.length h.bM.length] 208 (0,0)):=by rw[<-yB];exact aG (aG mO.out _) _
  have Vl:=HTI.out.below hB4;have c1:=aA Vl.w;have ζ:=dn W4 _ c1;have c2:=Vl.work.cell;have θ:=Vl.work.lt;have aia:=(aP.1 hblk5).1;have hg5: ∀i,W4.cell? ⟨b5,i,none⟩=(#[iv s0,.slice (some ⟨ob,1,none⟩) h.bM.length h.bM.length]:Array Value)[i]? :=fun i=>by
   simp only[World.cell?,hblk5];rfl
  have hn1':=zD Vl.work.cache Vl.w;have amH:=zD Vl.work.cache Vl.work.cells;have ahx:=zD Vl.work.cache hblk5;have adH:=Vl.work.cache.lt;obtain⟨ys,hy⟩: ∃ys,jS h (s0,rest) h.turns=ys:=⟨_,rfl⟩;have Cq:ys.length=10:=by rw[<-hy];exact jH _ _ _ _ _ _
  have HYY:=aa hy;have HT4:=aa Vl;have fV:=aa hB4;have OJ:=aa hblk5;clear Vl hB4 hblk5 yB hy hfr hg hb5;refine dD 9 [mb] (some 7) [(7,⟨fun _ v=>v= .agg (ag ys).toArray,fun _ _ W=>Cache W mb h.aX⟩),(8,Spec.block W4.heap.size #[iv 0,iv 0,iv 0,iv 0,iv 0,iv 0,iv 0,iv 0,iv 0,iv 0] 178)] ϰ ϰ ϰ ?_;simp only[zt];repeat (refine zd ?_;simp only[zp])
  refine bn _ ϱ ϱ ⟨_,rfl⟩ (fun W5 hE hF=>?_) (fun v Wa Wb hc hE=>?_) (fun v hv=>?_)
  ·have G8:Ext [] W4 W5:=hE;refine bX 133 #[.pointer (some ⟨wb,0,none⟩),.agg #[iv s0,.slice (some ⟨ob,1,none⟩) h.bM.length h.bM.length],.slice otn h.turns.length cb] (by go_simp;try rfl) ?_;have hT5:=HT4.out.below G8.below;refine(si h _ _ _ wb mb s0 rest h.turns _ _ W5 hT5.work (HSR.out.below (aV fV.out G8.below) (ah _)) hT5.turns ϑ mK.out.Jt mK.out.Js mK.out.KV mK.out.KU I1.out.1.1 I1.out.1.2 I1.out.2).mono ?_;rintro e W6 ⟨rfl,μ,Ι⟩;exact⟨_,rfl,by rw[HYY.out],μ,Ι⟩
  ·exact zbK
  obtain rfl:v= .agg (ag ys).toArray:=hv;simp only[zp];refine iY W4.heap.size _ _ ϱ (ah _) ϱ (by simpa using adH) ϕ (fun W hW=>by go_simp;try rfl) (fun b6=>?_);simp only[zp];intro W5 hE hF;obtain⟨b',hb,ann,υ⟩:=hF _ (bu _);cases hb;have μ:Cache W5 mb h.aX:=hF _ (kW _ (bu _));obtain⟨W6,UC,hblk6,tL⟩:=uS Tryz.prog ys υ (by rw[Cq];rfl);have hyl:(ag ys).length=10:=by simp[ag,Cq]
  have amI:mb<W4.heap.size:=adH;have Vq:Ext [mb] W' W6:=zO ((Ext.ay fV.out).trans hE) tL (by have:=fV.out.size;omega);have aeg:Cache W6 mb h.aX:=μ.kept (tL.block mb (Cache.lt μ) ϗ);have hJ6:=Y0 HI.out κ.out HJb.out Vq aeg;have Yi:=HI.out _ _ _ hJ6;have Ta:yT l mb W.heap.size w1.heap.size rb w2.heap.size cap (h.start::h.bM) Ms W6:=HP.out.kept Vq.size (fun p hp=>Vq.block p (HP.out.small p (by simp at hp⊢;omega)) (by simp at hp⊢;omega)) (fun m hm=> .inl hm);have hblk5:=(tL.block b5 (by have:=hE.size;omega) ϗ).trans ((hE.block b5 aia (by simpa using ahx)).trans OJ.out);have c1:=aA Yi.w;have c2:=Yi.work.cell;have hs1:=dn W6 _ c1;have hs2:=Yi.work.lt;have HJ6:=aa hJ6;have HT6:=aa Yi;have HP6:=aa Ta;have OJ:=aa hblk5;have HE6:=aa Vq;have HK6:=aa hblk6;clear υ hF hE μ hg5 hblk6 tL Vq aeg hJ6 Yi Ta hblk5
  gi_wp2_with fail
  clear c1 c2;have aiT:=aa Cq
  gi_loopw [7,37] (fun r u wr=> ∃q:Nat,q<=h.readings.length/\u= .int .i64 q/\r= .bool ((List.range q).all (MS h out (s0,rest)))/\Ϙ W6 wr)
   (fun _ u _=>h.readings.length-(intOf u).toNat)
  case atStart=>exact⟨0,bD _,rfl,rfl,aC _ _⟩
  case round=>
   obtain⟨q,hq,rfl,rfl,I8⟩:=hrel;have Yh:=HT6.out.below I8;by_cases tX:q<h.readings.length
   ·obtain⟨b',off',rfl,hb',e0,e1,e2⟩:=bB.cell Yh.readings tX;have hxr:=mK.out.rdg _ (bK tX);have hok:MS h out (s0,rest) q=(out.contains (q:Int) ||zy h.readings[q] ys):=by
     unfold MS;rw[HYY.out,show h.readings.getD q (0,0,0)=h.readings[q] from by simp[tX]]
    have hsucc:=kN q (MS h out (s0,rest));rw[hok] at hsucc;have ahG:=mK.out.yn;have Ii:=mK.out.agX;have aaY: ∀n∈ys,0<=n/\n<=100000:=by
     rw[<-HYY.out];intro n hn;have:=Kz (h:=h) (t:=(s0,rest)) h.turns mK.out.Jt mK.out.Js mK.out.KV mK.out.KU I1.out.1.1 I1.out.1.2 I1.out.2 ϗ n hn;omega
    have XU:=(I8.block b6 (aP.1 HK6.out).1).trans HK6.out;have d1:=aA Yh.o;have hd1:=dn wr _ d1;have ZB:=Yh.out;generalize h.readings[q]=x at e0 e1 e2 hxr hok hsucc;generalize (List.range q).all (MS h out (s0,rest))=rq at hsucc;obtain⟨y0,y1,y2,y3,y4,y5,y6,y7,y8,y9,ω⟩:=zo aiT.out;rw[ω] at hsucc aaY XU;have amN:=(aP.1 XU).1;have hg6: ∀i,wr.cell? ⟨b6,i,none⟩=(#[iv y0,iv y1,iv y2,iv y3,iv y4,iv y5,iv y6,iv y7,iv y8,iv y9]:Array Value)[i]? :=fun i=>by
     simp only[World.cell?,XU];rfl
    have uq:=aa hsucc;have HRT:=aa (fun W=>vZ x y0 y1 y2 y3 y4 y5 y6 y7 y8 y9 W hxr.1.1 ϑ hxr.2.1.1 hxr.2.1.2 hxr.2.2.1 hxr.2.2.2 aaY);have WK:=aa I8;have HTQ:=aa Yh;have hqI:(q:Int)<h.readings.length:=ϑ;generalize hrr:zy x [y0,y1,y2,y3,y4,y5,y6,y7,y8,y9]=rr at uq HRT;have HCT:=aa (fun(W:World) (hb:Ϙ wr W)=>gD out (.slice oo out.length co) (q:Int) W (ZB.below hb (ah _)));generalize μ:out.contains (q:Int)=cb at uq HCT;clear hsucc hok hrr μ Yh ZB I8 XU ω aaY hxr hyl UC;cases rq
    ·gi_wp2_with (refine Ze ϱ ?_;simp only[zp])
     go_roundw
     case rel=>exact⟨.bool false,_,_,.int .i64 ((q:Int)+1),⟨q+1,by omega,by go_num,by rw[uq.out];rfl,ai WK.out _⟩,rfl,rfl,rfl,rfl⟩
     case measure=>simp[intOf];omega
    ·gi_wp2_with fail
     refine(CallsIn.inRound _ (callsIn_wide.2 (HCT.out _ zl))).mono ?_;rintro e W7 ⟨rfl,wz⟩;obtain⟨hc7,hf7⟩:=bA wz;have wK:=aa wz;have hz7:=wz.size;simp only[bg] at hz7;have hz8:wr.heap.size<W7.heap.size:=ϑ;clear wz;cases cb
     ·gi_wp2_with fail
      refine(CallsIn.inRound _ (callsIn_wide.2 (HRT.out _))).mono ?_;rintro e W8 ⟨rfl,yz⟩;have nH:=aa yz;clear yz
      gi_wp2_with fail
      go_roundw
      case rel=>exact⟨q+1,by omega,by go_num,by rw[uq.out];rfl,aV (aV (ai WK.out _) wK.out) nH.out⟩
      case measure=>simp[intOf];omega
     ·gi_wp2_with fail
      go_roundw
      case rel=>exact⟨q+1,by omega,by go_num,by rw[uq.out];rfl,aV (ai WK.out _) wK.out⟩
      case measure=>simp[intOf];omega
   ·have hql:q=h.readings.length:=ϑ;have aaE:(List.range q).all (MS h out (s0,rest))=Zf h out (Qd (oP h)[k]):=by rw[HX.out,hql];rfl
    rw[aaE];have hEr:Ext [mb] W' wr:=HE6.out.trans (Ext.ay I8);have hJr:=κ.out _ _ _ _ _ HJ6.out (Ext.ay I8) (fun m hm=> .inl hm) Yh.work.cache;have hPr:yT l mb W.heap.size w1.heap.size rb w2.heap.size cap (h.start::h.bM) Ms wr:=HP6.out.kept I8.size (fun p hp=>I8.block p (HP6.out.small p (by simp at hp⊢;omega))) (fun m hm=> .inl hm);have ε:=(hEr.block _ (aP.1 WW.out.1).1 ϗ).trans WW.out.1;have hdef:=(hEr.block _ (aP.1 WW.out.2).1 ϗ).trans WW.out.2;have hkp: ∀m∈Ms,m∉([]:List Nat)->m<W1.heap.size->wr.heap[m]? =W1.heap[m]? :=fun m hm _ lg=>
     (hEr.block m ϑ (by have:=HP.out.apart m hm;simp at this⊢;omega)).trans (HKP.out m hm)
    have ahg:W1.heap.size<=wr.heap.size:=by have:=hEr.size;omega
    have HJR:=aa hJr;have HPR:=aa hPr;have Y1:=aa (af ε (af hdef (af hkp ahg)));have HTQ:=aa Yh;have WK:=aa I8;have HER:=aa hEr;cases hpv:Zf h out (Qd (oP h)[k])
    ·have HPV:=aa hpv;clear hpv aaE hJr hPr ε hdef hkp Yh I8 hEr hyl UC
     gi_wp2_with (refine Ze ϱ ?_;simp only[zp])
     exact⟨Y1.out,HPR.out,by rw[abu Ρ HPV.out];exact HJR.out⟩
    ·obtain⟨hcn,hcx⟩:=Mi Ρ hpv;have hcy:=Yy Ρ hpv;have adp:aK wr (.slice (some ⟨ob,1,none⟩) h.bM.length h.bM.length) rest:=by
      refine HSR.out.kept fun b off n c hv hlt'=>hEr.block b hlt' ?_;cases hv;have:=HP.out.apart ob wO;simp at this⊢;omega
     have ahu:ob≠mb:=by have:=HP.out.apart ob wO;simp at this;omega
     obtain⟨f1,t1,a1,bd1,hy1,Bl⟩:=HY.out (LV mb W.heap.size w1.heap.size rb w2.heap.size++Ms) (cnt h out k) (.agg #[iv s0,.slice (some ⟨ob,1,none⟩) h.bM.length h.bM.length]) wr hcn HJR.out
      (by rw[hcx,HX.out];exact⟨ob,by simp[Qd,hrl],by simpa [Qd,hrl] using adp,qL _ wO,ahu⟩)
     have d0:=aA hPr.y;have hd0:=dn wr _ d0;have aaO:=(I8.block b5 (aP.1 OJ.out).1).trans OJ.out;have hd5:=(aP.1 aaO).1;have am6: ∀i,wr.cell? ⟨b5,i,none⟩=(#[iv s0,.slice (some ⟨ob,1,none⟩) h.bM.length h.bM.length]:Array Value)[i]? :=fun i=>by
      simp only[World.cell?,aaO];rfl
     have HR1:=aa Bl;have HCY:=aa hcy;have aft:=aa (af (aP.1 ε).1 (aP.1 hdef).1);clear hpv aaE hJr hPr ε hdef hkp Yh I8 hEr hyl UC adp hcx aaO Bl hcy
     gi_wp2_with fail
     refine HR1.out.mono ?_;rintro e W8 ⟨⟨XJ,ahh⟩,⟨rfl,hJ8⟩|⟨rfl,hJ8⟩⟩;all_goals
      have HJ8:=aa hJ8;have D7:yT l mb W.heap.size w1.heap.size rb w2.heap.size cap (h.start::h.bM) Ms W8:=HPR.out.kept ahh (fun p hp=>XJ p (mi _ (by simp at hp⊢;omega)) (by simp at hp⊢;omega) (HPR.out.small p (by simp at hp⊢;omega))) (fun m hm=> .inl hm);have hq8:W8.heap[w2.heap.size+1]? =some (.loop busy)/\W8.heap[w2.heap.size]? =some (.deferred (some []))/\(∀m∈Ms,m∉([]:List Nat)->m<W1.heap.size->W8.heap[m]? =W1.heap[m]?)/\W1.heap.size<=W8.heap.size:=
       ⟨(XJ _ ϕ ϗ aft.out.1).trans Y1.out.1,(XJ _ ϕ ϗ aft.out.2).trans Y1.out.2.1,
         fun m hm h0 lg=>(XJ m (qL _ hm) (by have:=HP.out.apart m hm;simp at this⊢;omega) ϑ).trans (Y1.out.2.2.1 m hm h0 lg),by omega⟩
      have GA:=aa D7;have HQ8:=aa hq8;clear hJ8 D7 hq8 XJ hy1
     ·gi_wp2_with fail
      exact⟨HQ8.out,GA.out,by rw[HCY.out];exact HJ8.out⟩
     ·gi_wp2_with fail
      exact⟨HQ8.out,rfl,GA.out,HJ8.out⟩
end Go.Proofs.Z.iM
namespace Go.Proofs.Z.iM
open Go.RowKit Go.RG Go.SL Go.Shelf ig
attribute [local go_sem] Oper.semAt_some
theorem xh (wb:Nat) (o:Option Addr) (n c:Nat) (w:World):
 Ϝ 90 #[.pointer (some ⟨wb,0,none⟩),.slice o n c] w (fun e w'=>e= .returned (.func (.func 144) #[] #[.pointer (some ⟨w.heap.size,0,none⟩),.pointer (some ⟨w.heap.size+1,0,none⟩)])/\
  w'=(w.alloc (.cells #[.pointer (some ⟨wb,0,none⟩)] 170)).alloc (.cells #[.slice o n c] 52)):=by
 go_enter Tryz.func90,Tryz.ntmps90;exact zbA
structure Fr (w:World) (mb:Nat) (aX:Int) (Os Ms:List Nat) (W:World):Prop where
 ext:Ext [mb] w W
 old: ∀m∈Ms,m=mb∨w.heap.size<=m
 bnd: ∀m∈Ms,m<W.heap.size
 apart: ∀b∈Os,b∉Ms/\b<W.heap.size
 cache:Cache W mb aX
theorem Fr.gM {w:World} {mb:Nat} {aX:Int} {Os Ms jc:List Nat} {W1 W2:World} (h:Fr w mb aX Os Ms W1) (hE:Ext Ms W1 W2) (γ: ∀m∈jc,m∈Ms∨(W1.heap.size<=m/\m<W2.heap.size)) (hc:Cache W2 mb aX):
 Fr w mb aX Os jc W2/\ ∀b∈Os,W2.heap[b]? =W1.heap[b]? :=by
 refine⟨⟨⟨hE.os.trans h.ext.os,hE.tape.trans h.ext.tape,hE.output.trans h.ext.output,gI h.ext.size hE.size,fun k hk hm=>?_⟩,fun m hm=>?_,fun m hm=>?_,fun b hb=>?_,hc⟩,fun b hb=>hE.block b (h.apart b hb).2 (h.apart b hb).1⟩
 ·refine(hE.block k (dU hk h.ext.size) (fun Ρ=>?_)).trans (h.ext.block k hk hm);rcases h.old k Ρ with h1|h1
  ·exact hm (by simp[h1])
  ·omega
 ·rcases γ m hm with h1|h1
  ·exact h.old m h1
  ·exact .inr (gI h.ext.size h1.1)
 ·rcases γ m hm with h1|h1
  ·exact dU (h.bnd m h1) hE.size
  ·exact h1.2
 ·exact zbV
theorem Fr.own {w:World} {mb:Nat} {aX:Int} {Os Ms:List Nat} {W1 W2:World} (h:Fr w mb aX Os Ms W1) (hE:Ext [mb] w W2) (hs:W1.heap.size<=W2.heap.size) (hc:Cache W2 mb aX):Fr w mb aX Os Ms W2:=
 ⟨hE,h.old,fun m hm=>dU (h.bnd m hm) hs,fun b hb=>⟨(h.apart b hb).1,dU (h.apart b hb).2 hs⟩,hc⟩
theorem Fr.Xf {w:World} {wb mb bw bo:Nat} {h:bN} {a b c ov:Value} {out:List Int} {Os Ms:List Nat} {W:World} (hF:Fr w mb h.aX Os Ms W)
 (hw:gN w wb mb h a b c) (h1:bF w a h.bM) (h2:aK w b h.turns) (h3:bB w c h.readings) (h4:aK w ov out)
 (ζ:W.heap[bw]? =some (.cells #[.pointer (some ⟨wb,0,none⟩)] 170 (0,0))) (θ:W.heap[bo]? =some (.cells #[ov] 52 (0,0))):Su wb mb bw bo h a b c ov out W:=by
 have hm: ∀x∈[mb], ∀o,w.cell? ⟨x,o,none⟩=none:=fun x hx o=>by
  have:x=mb:=by simpa using hx
  subst this;exact hw.cache.kQ o
 exact⟨ζ,θ,hw.ext hF.ext hF.cache,h1.eZ hF.ext hm,h2.eZ hF.ext hm,h3.eZ hF.ext hm,h4.eZ hF.ext hm⟩
theorem Fr.put {w:World} {mb:Nat} {aX:Int} {Os Ms:List Nat} {W:World} (h:Fr w mb aX Os Ms W) {r:Nat} (o:Obj) (hr:w.heap.size<=r) (hm:mb<w.heap.size):Fr w mb aX Os Ms (W.putObj r o):=
 h.own ⟨h.ext.os,h.ext.tape,h.ext.output,by simpa using h.ext.size,fun k hk hn=>(World.putObj_heap_other ϑ).trans (h.ext.block k hk hn)⟩ ϕ (h.cache.kept (World.putObj_heap_other ϑ))
structure Pos (w:World) (wb:Nat) (ov:Value) (r:Bool) (W:World):Prop where
 res:W.heap[w.heap.size]? =some (.cells #[.bool r] 4 (0,0))
 b1:W.heap[w.heap.size+1]? =some (.cells #[.pointer (some ⟨wb,0,none⟩)] 170 (0,0))
 b2:W.heap[w.heap.size+1+1]? =some (.cells #[ov] 52 (0,0))
theorem Pos.kept {w:World} {wb:Nat} {ov:Value} {r:Bool} {W W':World} (h:Pos w wb ov r W) (hk: ∀b∈[w.heap.size,w.heap.size+1,w.heap.size+1+1],W'.heap[b]? =W.heap[b]?):Pos w wb ov r W':=
 ⟨(hk _ ϕ).trans h.res,(hk _ ϕ).trans h.b1,(hk _ ϕ).trans h.b2⟩
theorem mV (h:bN) (hS:Sound h) (a b c ov:Value) (out:List Int) (wb mb:Nat) (w:World) (hw:gN w wb mb h a b c) (h1:bF w a h.bM) (h2:aK w b h.turns) (h3:bB w c h.readings) (h4:aK w ov out):
 Ϝ 131 #[.pointer (some ⟨wb,0,none⟩),ov] w (fun e w'=>e= .returned (.bool (!(dE h out).isEmpty))/\Cache w' mb h.aX/\Ext [mb] w w'):=by
 obtain⟨oo,co,rfl⟩:=h4.open;have HW:=aa hw;have H1:=aa h1;have H2:=aa h2;have H3:=aa h3;have H4:=aa h4;have mK:=aa hS;have hmb:=hw.cache.lt;clear hw h1 h2 h3 h4 hS;refine(callsIn_wide (n:=0)).1 ?_;refine callsIn_of_wp_marks Tryz.func131 rfl trivial ?_;simp only[Tryz.ntmps131,List.size_toArray,List.length_cons,List.length_nil,Nat.reduceAdd,Nat.reduceSub,Array.replicate_succ,Array.replicate_zero,jr,jv,List.nil_append,List.cons_append]
 gi_wp2_with fail
 refine(callsIn_wide.2 (xh wb _ _ _ _)).mono ?_;rintro e w1 ⟨rfl,rfl⟩
 gi_wp2_with fail
 obtain⟨w2,hw2⟩: ∃w2,(((w.alloc (.cells #[.bool false] 4)).alloc (.cells #[.pointer (some ⟨wb,0,none⟩)] 170)).alloc (.cells #[.slice oo out.length co] 52))=w2:=⟨_,rfl⟩;have hB2:Ϙ w w2:=by rw[<-hw2];exact zl
 have hsz2:w2.heap.size=w.heap.size+3:=by rw[<-hw2];simp
 have hP2:Pos w wb (.slice oo out.length co) false w2:=by
  rw[<-hw2];exact⟨(aS _ _ _ ϗ).trans ((aS _ _ _ ϕ).trans (av _ _)),(aS _ _ _ ϕ).trans (dG _ _ _),fU _ _ _ _⟩
 rw[hw2];clear hw2;refine kL (xg h mK.o a b c (.slice oo out.length co) out wb mb (w.heap.size+1) (w.heap.size+1+1)) rfl (enters_of Tryz.func144 ϰ rfl) rfl ϗ
  (fun Ms k W=>k=0/\Fr w mb h.aX [w.heap.size,w.heap.size+1,w.heap.size+1+1,w2.heap.size,w2.heap.size+1] Ms W/\Pos w wb (.slice oo out.length co) false W)
  (fun cd Ms W=>(cd= .ret/\(dE h out).isEmpty=false)/\Fr w mb h.aX [w.heap.size,w.heap.size+1,w.heap.size+1+1,w2.heap.size,w2.heap.size+1] Ms W/\Pos w wb (.slice oo out.length co) true W)
  ?hInv ?mZ ?hI ?hIx ?Et ?qE ?h0
  (fun a Ms k W1 a₁ W=> ∃v,a₁={tmps:=a.tmps.setIfInBounds 8 v,defers:=[]}/\(Fr w mb h.aX [w.heap.size,w.heap.size+1,w.heap.size+1+1,w2.heap.size,w2.heap.size+1] Ms W/\Pos w wb (.slice oo out.length co) false W)/\(∀m∈Ms,m∉[mb]->W.heap[m]? =W1.heap[m]?)/\W1.heap.size<=W.heap.size)
  ?Iu ?hassign ?hbody ?hdone ?hstop
 case hInv=>rintro Ms k W ⟨_,hF,hP⟩;exact hF.Xf HW.o H1.o H2.o H3.o H4.o hP.b1 hP.b2
 case mZ=>rintro cd Ms W ⟨_,hF,hP⟩;exact hF.Xf HW.o H1.o H2.o H3.o H4.o hP.b1 hP.b2
 case hI=>rintro Ms jc k Wa Wb ⟨h0,hF,hP⟩ hE γ hc;exact⟨h0,(hF.gM hE γ hc).1,hP.kept (fun b hb=>(hF.gM hE γ hc).2 b (by simp at hb⊢;omega))⟩
 case hIx=>rintro cd Ms jc Wa Wb ⟨h0,hF,hP⟩ hE γ hc;exact⟨h0,(hF.gM hE γ hc).1,hP.kept (fun b hb=>(hF.gM hE γ hc).2 b (by simp at hb⊢;omega))⟩
 case Et=>rintro Ms k W r o ⟨h0,hF,hP⟩ hr;exact⟨h0,hF.put o ϑ hmb,hP.kept (fun b hb=>World.putObj_heap_other (by simp at hb;omega))⟩
 case qE=>rintro cd Ms W r o ⟨h0,hF,hP⟩ hr;exact⟨h0,hF.put o ϑ hmb,hP.kept (fun b hb=>World.putObj_heap_other (by simp at hb;omega))⟩
 case h0=>
  intro o o';have hB:Ϙ w ((w2.alloc o).alloc o'):=ai (ai hB2 _) _;exact⟨rfl,⟨Ext.ay hB,fun m hm=> .inl (by simpa using hm),fun m hm=>(by have:=hB.size;simp at hm;omega),fun b hb=>⟨by simp at hb⊢;omega,by simp at hb⊢;omega⟩,HW.o.cache.kept (hB.block mb hmb)⟩,
   hP2.kept (fun b hb=>(aS _ _ _ (by simp at hb⊢;omega)).trans (aS _ _ _ (by simp at hb;omega)))⟩
 case Iu=>
  rintro Ms k W1 a₁ W o ⟨v,ha,⟨hF,hP⟩,hk,hs⟩;refine⟨v,ha,⟨hF.put o ϑ hmb,hP.kept (fun b hb=>World.putObj_heap_other (by simp at hb;omega))⟩,fun m hm h0=>?_,by simpa using hs⟩;exact(World.putObj_heap_other (fun e:m=w2.heap.size+1=>(hF.apart (w2.heap.size+1) ϕ).1 (by rw[<-e];exact hm))).trans (hk m hm h0)
 case hassign=>
  rintro Ms k v W hk ⟨h0,hF,hP⟩ hE tX
  gi_wp2
  exact⟨⟨v,by simp,⟨hF,hP⟩,fun _ _ _=>trivial,ah _⟩,trivial,trivial⟩
 case hbody=>
  rintro Ms k W1 a₁ W busy hk ⟨v,rfl,⟨hF,hP⟩,XJ,ν⟩ ε hD;have hne:(dE h out).isEmpty=false:=by
   cases hl:dE h out with
   |nil=>rw[hl] at hk;simp at hk
   |cons x l=>rfl
  have hc:=aA hP.res;have hf:=aZ hP.res 0;have HF:=aa hF;have HP:=aa hP;have HQ:=aa (af ε (af hD (af XJ ν)));clear hF hP ε hD XJ;simp only[oU,List.set_cons_succ,List.set_cons_zero]
  gi_wp2_with fail
  refine⟨⟨(dm _ _ _ _ (by show w2.heap.size+1≠w.heap.size;omega)).trans HQ.o.1,(dm _ _ _ _ (by show w2.heap.size≠w.heap.size;omega)).trans HQ.o.2.1,fun m hm h0 _=>?_,by simpa [World.setCell] using ν⟩,
   ⟨rfl,hne⟩,HF.o.own (HF.o.ext.set (ah _) _) (by simp[World.setCell]) (HF.o.cache.kept (dm _ _ _ _ (by show mb≠w.heap.size;omega))),
   ⟨aG HP.o.res _,(dm _ _ _ _ (by show w.heap.size+1≠w.heap.size;omega)).trans HP.o.b1,(dm _ _ _ _ (by show w.heap.size+1+1≠w.heap.size;omega)).trans HP.o.b2⟩⟩
  exact(dm _ _ _ _ (fun e:m=w.heap.size=>(HF.o.apart w.heap.size ϕ).1 (by rw[<-e];exact hm))).trans (HQ.o.2.2.1 m hm h0)
 case hdone=>
  rintro Ms W ⟨h0,hF,hP⟩ hD tX;have hem:(dE h out).isEmpty=true:=by
   cases hl:dE h out with
   |nil=>rfl
   |cons x l=>rw[hl] at h0;simp at h0
  rw[hem];have hc:=aA hP.res;have hf:=aZ hP.res 0;have HF:=aa hF;have HP:=aa hP;clear hF hP
  gi_wp2_with fail
  rw[hsz2] at hD;have hD':(W.setCell ⟨w.heap.size,0,none⟩ (.bool false)).heap[w.heap.size+3]? =some (.deferred (some [])):=(dm _ _ _ _ (by show w.heap.size+3≠w.heap.size;omega)).trans hD;have MR:((W.setCell ⟨w.heap.size,0,none⟩ (.bool false)).putObj (w.heap.size+3) (.deferred none)).cell? ⟨w.heap.size,0,none⟩=some (.bool false):=
   aA ((World.putObj_heap_other ϑ).trans (aG HP.o.res _))
  refine⟨by simp,.inl ⟨_,_,rfl,run_takeDeferred hD',?_⟩⟩;refine⟨.bool false,by simp[results,Tryz.results131,go_sem,MR],by rw[hem];rfl,?_,?_⟩
  ·exact HF.o.cache.kept ((World.putObj_heap_other ϑ).trans (dm _ _ _ _ (by show mb≠w.heap.size;omega)))
  ·have:=(HF.o.own (HF.o.ext.set (p:=⟨w.heap.size,0,none⟩) (ah _) (.bool false)) (by simp[World.setCell]) (HF.o.cache.kept (dm _ _ _ _ (by show mb≠w.heap.size;omega)))).put (Obj.deferred none) (r:=w.heap.size+3) ϑ hmb;exact this.ext
 case hstop=>
  rintro cd Ms W ⟨⟨rfl,hne⟩,hF,hP⟩ hD tX;have HF:=aa hF;have HP:=aa hP;clear hF hP
  gi_wp2_with fail
  have MR:(W.putObj (w2.heap.size) (.deferred none)).cell? ⟨w.heap.size,0,none⟩=some (.bool true):=
   aA ((World.putObj_heap_other ϑ).trans HP.o.res)
  refine⟨by simp,.inl ⟨_,_,rfl,run_takeDeferred hD,?_⟩⟩;refine⟨.bool true,by simp[results,Tryz.results131,go_sem,MR],by rw[hne];rfl,?_,?_⟩
  ·exact HF.o.cache.kept (World.putObj_heap_other ϑ)
  ·exact(HF.o.put (Obj.deferred none) (r:=w2.heap.size) ϑ hmb).ext
end Go.Proofs.Z.iM
namespace Go.Proofs.Z.iM
open Go.RowKit Go.RG Go.SL Go.Shelf ig
def iw (h:bN) (turns:List Int):Int:=if sK h≠0 then sK h else if ma h.last turns=false then 2 else if(dE h []).isEmpty then 11 else 0
def Zb (h:bN) (a b c:Value) (turns:List Int) (w:World) (e:Ending) (w':World):Prop:=
 Ϙ w w'/\((iw h turns≠0/\e= .returned (.tuple #[.pointer none,.int .i64 (iw h turns)]))∨
  (iw h turns=0/\ ∃wb mb:Nat,e= .returned (.tuple #[.pointer (some ⟨wb,0,none⟩),.int .i64 0])/\w.heap.size<=wb/\w.heap.size<=mb/\gN w' wb mb h a b c))
theorem fT {w W W':World} {mb:Nat} (h:Ϙ w W) (hE:Ext [mb] W W') (hm:w.heap.size<=mb):Ϙ w W':=
 h.trans ⟨hE.os,hE.tape,hE.output,hE.size,fun k hk=>by
  by_cases tX:k<W.heap.size
  ·exact hE.block k tX ϗ
  ·have:=h.size;omega⟩
theorem sP (h:bN) (wv tv rE Jm:Value) (turns:List Int) (w:World) (hw:bF w wv h.bM) (ht:aK w tv h.turns) (hx:bB w rE h.readings) (htr:aK w Jm turns):
 Ϝ 75 #[hv h wv tv rE,Jm] w (Zb h wv tv rE turns w):=by
 obtain⟨ow,cw,rfl⟩:=hw.open;obtain⟨ot,ct,rfl⟩:=ht.open;obtain⟨ox,cx,rfl⟩:=hx.open;have HW:=aa hw;have HT:=aa ht;have HX:=aa hx;clear hw ht hx;obtain⟨oq,cq,rfl⟩:=htr.open;have HQ:=aa htr;clear htr;by_cases hf0:sK h=0
 case neg=>
  have he:iw h turns=sK h:=by unfold iw;rw[aB hf0]
  have δ:Hid (iw h turns=sK h/\iw h turns≠0):=aa ⟨he,by rw[he];exact hf0⟩;clear he;generalize hff:sK h=f at*
  have HF:=aa hff;clear hff;go_enter Tryz.func75,Tryz.ntmps75;go_wp2_with fail
  refine(sN h _ _ _ _ (HW.o.alloc _) (HT.o.alloc _) (HX.o.alloc _)).mono ?_;rintro e w' ⟨rfl,hb⟩;rw[HF.o];go_wp2_with fail
  go_returns;exact⟨aV (ai (aC _ _) _) hb,.inl ⟨δ.o.2,by rw[δ.o.1];simp⟩⟩
 have hS:=BI hf0;obtain⟨hl0,XR⟩:0<=h.last/\h.last<=9:=⟨hS.F6,hS.yn⟩;have HF:=aa hf0;have mK:=aa hS;clear hf0 hS;have aev:iw h turns=if ma h.last turns=false then 2 else if(dE h []).isEmpty then 11 else 0:=by unfold iw;rw[aj (by rw[HF.o];simp)]
 have HE:=aa aev;clear aev;generalize htn:ma h.last turns=tn at HE;have HTN:=aa htn;clear htn;go_enter Tryz.func75,Tryz.ntmps75;go_wp2_with fail
 refine(sN h _ _ _ _ (HW.o.alloc _) (HT.o.alloc _) (HX.o.alloc _)).mono ?_;rintro e w' ⟨rfl,hb⟩;rw[HF.o];obtain⟨hc,hf⟩:=bA hb;have hz0:w.heap.size<w'.heap.size:=(by have:=hb.size;(try simp only[bg] at this);omega)
 have HB:=aa (show Ϙ w w' from aV (ai (aC _ _) _) hb);clear hb;go_wp2_with fail
 refine(mR h _ _ _ _ turns _ (HQ.o.below HB.o (ah _)) hl0 XR).mono ?_;rintro e w3 ⟨rfl,hb⟩;rw[HTN.o];have Ra:=aa (aV HB.o hb);obtain⟨hc3,hf3⟩:=bA hb;clear hb;cases tn
 ·exact za8
 go_wp2_with fail
 refine(Bu h ow ot ox _ _ _ _ _ _ w3).mono ?_;rintro e w4 ⟨wb,mb,rfl,h1,h2,h3,h4⟩;have ν:=Ra.o.size;have HW4:=aa h3;have fV:=aa (aV Ra.o h4);clear h3 h4 hc hf hc3 hf3;go_wp2_with fail
 refine(mV h mK.o _ _ _ (.slice none 0 0) [] wb mb w4 HW4.o (HW.o.below fV.o (ah _)) (HT.o.below fV.o (ah _)) (HX.o.below fV.o (ah _)) (aH.nil 1 w4)).mono ?_;rintro e w5 ⟨rfl,μ,hE⟩;have mO:=aa (fT fV.o hE ϑ);have HW5:=aa (HW4.o.ext hE μ);clear μ hE;generalize htl:(dE h []).isEmpty=em at HE;cases em
 ·go_wp2_with fail
  go_returns;exact⟨mO.o,.inr ⟨by rw[HE.o];simp,wb,mb,by simp,by omega,by omega,HW5.o⟩⟩
 ·go_wp2_with fail
  go_returns;exact⟨mO.o,.inl ⟨by rw[HE.o];simp,by rw[HE.o];simp⟩⟩
end Go.Proofs.Z.iM
namespace Go.Proofs.Z.iM
open Go.RowKit Go.RG Go.SL Go.Shelf ig
theorem Sg (l:List Int) (v:Value) (aY:Nat) (Mr aM:Array Value) (q:Int->Bool) (w:World) (hv:aK w v l) (eg: Ϛ Tryz.prog aY)
 (pG: ∀x∈l, ∀W,Ϙ w W->Ϝ aY (Mr.push (iv x)++aM) W (PV (.bool (q x)) W)):
 Ϝ 135 #[v,.func (.func aY) Mr aM] w (PV (.bool (l.all q)) w):=by
 refine(allI l v aY Mr aM (fun k=>q (l.getD k 0)) (fun _ W=>Ϙ w W) w eg (fun k W h=>hv.below h (ah _)) (fun k W o h=>ai h o) (fun k hk W _ h=>?_) (aC _ _)).mono ?_
 ·exact zaz
 ·exact zaJ
def J3 (h:bN) (n:Int):Bool:=decide (h.qW<n) ||decide (n<h.die)
def kG (h:bN) (l:List Int):Bool:=(l.take (h.last+1).toNat).all fun n=>!J3 h n
theorem Q6 (h:bN) (a b c:Value) (n:Int) (bh:Nat) (w:World) (hb:w.heap[bh]? =some (.cells #[.int .i64 h.last,.int .i64 h.size,.int .i64 h.aX,.int .i64 h.die,.int .i64 h.qW,.int .i64 h.start.1,.int .i64 h.start.2,a,b,c] 55 (0,0))):
 Ϝ 136 #[iv n,.pointer (some ⟨bh,0,none⟩)] w (PV (.bool (!J3 h n)) w):=by
 have hc0: ∀i,w.cell? ⟨bh,i,none⟩=(#[.int .i64 h.last,.int .i64 h.size,.int .i64 h.aX,.int .i64 h.die,.int .i64 h.qW,.int .i64 h.start.1,.int .i64 h.start.2,a,b,c]:Array Value)[i]? :=fun i=>by
  simp only[World.cell?,hb];rfl
 have tX:=(aP.1 hb).1;clear hb;go_enter Tryz.func136,Tryz.ntmps136;go_wp2_with fail
 refine(Ut h a b c n w).mono ?_;rintro e w' ⟨rfl,hb⟩;have Ra:=aa hb;clear hb;generalize hl:(decide (h.qW<n) ||decide (n<h.die))=q
 have GH:Hid (J3 h n=q):=aa hl;clear hl;exact za9
theorem Kl (h:bN) (ow ot ox:Option Addr) (nw cw nt ct nx cx:Nat) (l:List Int) (h10:l.length=10) (w:World) (h0:0<=h.last) (h9:h.last<=9):
 Ϝ 79 #[hv h (.slice ow nw cw) (.slice ot nt ct) (.slice ox nx cx),j6 l] w (PV (.bool (kG h l)) w):=by
 obtain⟨n,hn⟩: ∃n:Nat,h.last+1=n:=⟨(h.last+1).toNat,by omega⟩;have Rj:n<=10:=ϑ;have hk:kG h l=(l.take n).all fun n=>!J3 h n:=by unfold kG;rw[hn];rfl
 rw[hk];clear hk;obtain⟨y0,y1,y2,y3,y4,y5,y6,y7,y8,y9,rfl⟩:=zo h10;have hnI:(n:Int)<=10:=ϑ;have amF:(0:Int)<=n:=ϑ;have ahI:([y0,y1,y2,y3,y4,y5,y6,y7,y8,y9].take n).length=n:=by simp;omega
 show Ϝ 79 #[hv h (.slice ow nw cw) (.slice ot nt ct) (.slice ox nx cx),.agg #[iv y0,iv y1,iv y2,iv y3,iv y4,iv y5,iv y6,iv y7,iv y8,iv y9]] w _;go_enter Tryz.func79,Tryz.ntmps79;go_wp2_with fail
 refine(Ik h _ _ _ n _ h0 h9 hn).mono ?_;rintro e w' ⟨rfl,hb⟩;obtain⟨hc,hf⟩:=bA hb;have hz0:w.heap.size<w'.heap.size:=(by have:=hb.size;(try simp only[bg] at this);omega)
 have hz1:w.heap.size+1<w'.heap.size:=(by have:=hb.size;(try simp only[bg] at this);omega)
 have HA:=aa ((hb.block w.heap.size ϗ).trans ((aS _ _ _ ϕ).trans (av _ _)));have HK:=aa ((hb.block (w.heap.size+1) ϕ).trans (dG _ _ _));have HB:=aa (show Ϙ w w' from zl);clear hb;go_wp2_with fail
 have Nl:aK w' (.slice (some ⟨w.heap.size+1,0,none⟩) n 10) ([y0,y1,y2,y3,y4,y5,y6,y7,y8,y9].take n):=by
  have:=aH.QM n 10 HK.o (by simpa using Rj) Rj (by simp[maxLen]);unfold aK ag;rw[ahI,List.map_take];exact this
 refine(Sg _ (.slice (some ⟨w.heap.size+1,0,none⟩) n 10) 136 #[] #[.pointer (some ⟨w.heap.size,0,none⟩)] (fun n=>!J3 h n) w' Nl (enters_of Tryz.func136 ϰ rfl) ?_).mono ?_
 ·intro x _ W hW;exact Q6 h _ _ _ x w.heap.size W ((hW.block _ (aP.1 HA.o).1).trans HA.o)
 ·rintro e W2 ⟨rfl,hb⟩;have Ra:=aa hb;clear hb Nl;go_wp2_with fail
  go_returns;exact⟨by simp,aV HB.o Ra.o⟩
end Go.Proofs.Z.iM
end

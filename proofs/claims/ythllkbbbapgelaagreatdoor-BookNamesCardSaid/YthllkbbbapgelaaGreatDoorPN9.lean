/-
  Texts of this claim, packed by a program: WA WB.
-/
import Derived.WalkKit
import Derived.WalkLawsBesides
import Derived.WalkSpells
import Derived.Outline
import Derived.Handy
import Derived.KernelRfl
import Derived.Lib.Hide
import Derived.Test.YthllkbbbapgelaaGreatDoorProg
import Derived.Shelf.Abstract
import Derived.Laws.EntriesVeiled
import Derived.Test.YthllkbbbapgelaaGreatDoorPN3
set_option maxHeartbeats 8000000
set_option maxRecDepth 100000
set_option linter.all false
theorem _root_.zcr {P:Prop} (h:P:=by
 go_wp2;go_returns;exact⟨by simp,by go_grown⟩):P:=h
theorem _root_.zb6 {P:Prop} (h:P:=by
 exact Below.grown (ai (ai (aF _ _) _) _) HG.o ϗ (fun k e=>by cases e;show _<=w.heap.size+1;omega)):P:=h
theorem _root_.zaC {P:Prop} (h:P:=by
 simp only[zp];repeat ((first|refine zd ?_|refine zk ?_);simp only[zp])
 intro W hE hF;obtain⟨hc,hf⟩:=bH hE.below;have ig:=hE.size;(try simp only[bA] at ig)
 go_wp2;go_returns;exact⟨by simp,ze⟩):P:=h
theorem _root_.zbO {P:Prop} (h:P:=by
 have Iq:Ext [] Wa Wb:=hE;exact Cache.kept hc (Iq.block mb (Cache.lt hc) ϕ)):P:=h
theorem _root_.zbZ {P:Prop} (h:P:=by
 refine⟨_,h,?_,rfl,rfl,rfl,by simp,fun k _ hm=>setRow_other _ _ _ _ (by simpa using hm)⟩;rw[setRow_heap w g cur _ t _ hg];simp;omega):P:=h
section
namespace Go.Proofs.Z.gZ
open Go.RowKit Go.RG Go.SL gK
abbrev iv (n:Int):Value:= .int .i64 n
abbrev rv (r:dF):Value:= .agg #[.int .i64 r.1,.int .i64 r.2]
abbrev xv (x:zW):Value:= .agg #[.int .i64 x.1,.int .i64 x.2.1,.int .i64 x.2.2]
abbrev hv (h:bS) (wv tv xv:Value):Value:= .agg #[.int .i64 h.last,.int .i64 h.size,.int .i64 h.aZ,.int .i64 h.die,.int .i64 h.ny,.int .i64 h.start.1,.int .i64 h.start.2,wv,tv,xv]
theorem qp (n l h:Int) (w:World):Ϝ 215 #[iv n,iv l,iv h] w (PV (.bool (lV n l h)) w):=by
 by_cases h1:l<=n
 all_goals
  go_enter Tryz.func215,Tryz.ntmps215;exact zbV
theorem Vf (r:dF) (n:Int) (w:World):Ϝ 274 #[rv r,iv n] w (PV (.bool (tZ r n)) w):=by
 go_enter Tryz.func274,Tryz.ntmps274;exact zb0
theorem J2 (r:dF) (w:World) (h1:0<=r.1) (h2:r.1<=r.2) (h3:r.2<=100000):
 Ϝ 213 #[rv r] w (PV (iv (dQ r)) w):=by
 go_enter Tryz.func213,Tryz.ntmps213;go_wp2;go_returns;exact⟨by simp[dQ],by go_grown⟩
theorem Ij (r:dF) (w:World):Ϝ 210 #[rv r] w (PV (.bool (tZ r 20)) w):=by
 go_enter Tryz.func210,Tryz.ntmps210;go_wp2_with (go_at_call 274;refine(Vf _ _ _).mono ?_;rintro e w' ⟨rfl,hb⟩)
 exact za0
theorem wz (h:bS) (a b c:Value) (n:Int) (w:World):Ϝ 273 #[hv h a b c,iv n] w (PV (.bool (lV n 0 h.last)) w):=by
 go_enter Tryz.func273,Tryz.ntmps273;go_wp2_with (go_at_call 215;refine(qp _ _ _ _).mono ?_;rintro e w' ⟨rfl,hb⟩)
 exact za0
theorem qg (h:bS) (a b c:Value) (w:World) (h0:0<=h.last) (h9:h.last<=9):Ϝ 93 #[hv h a b c] w (PV (iv (h.last+1)) w):=by
 go_enter Tryz.func93,Tryz.ntmps93;exact zcr
theorem Tj (h:bS) (a b c:Value) (n:Int) (w:World):Ϝ 219 #[hv h a b c,iv n] w (PV (.bool (decide (h.ny<n))) w):=by
 go_enter Tryz.func219,Tryz.ntmps219;exact zcr
theorem Xc (h:bS) (a b c:Value) (n:Int) (w:World):Ϝ 220 #[hv h a b c,iv n] w (PV (.bool (decide (n<h.die))) w):=by
 go_enter Tryz.func220,Tryz.ntmps220;exact zcr
theorem Vr (h:bS) (a b c:Value) (n:Int) (w:World):Ϝ 137 #[hv h a b c,iv n] w (PV (.bool (decide (h.ny<n) ||decide (n<h.die))) w):=by
 go_enter Tryz.func137,Tryz.ntmps137;go_wp2_with (first|(go_at_call 219;refine(Tj _ _ _ _ _ _).mono ?_;rintro e w' ⟨rfl,hb⟩;obtain⟨hc,hf⟩:=bH hb;have hz0:w.heap.size<w'.heap.size:=(by have:=hb.size;(try simp only[bA] at this);omega))|(go_at_call 220;refine(Xc _ _ _ _ _ _).mono ?_;rintro e w' ⟨rfl,hb⟩;obtain⟨hc,hf⟩:=bH hb;have hz0:w.heap.size<w'.heap.size:=(by have:=hb.size;(try simp only[bA] at this);omega)))
 all_goals
  go_returns;exact⟨by simp[*],zl⟩
theorem mK (h:bS) (a b c:Value) (w:World):Ϝ 208 #[hv h a b c] w (PV (.bool (eu h)) w):=by
 go_enter Tryz.func208,Tryz.ntmps208;go_wp2_with (first|(go_at_call 215;refine(qp _ _ _ _).mono ?_;rintro e w' ⟨rfl,hb⟩;obtain⟨hc,hf⟩:=bH hb;have hz0:w.heap.size<w'.heap.size:=(by have:=hb.size;(try simp only[bA] at this);omega))|(go_at_call 274;refine(Vf (_,_) _ _).mono ?_;rintro e w' ⟨rfl,hb⟩;obtain⟨hc,hf⟩:=bH hb;have hz0:w.heap.size<w'.heap.size:=(by have:=hb.size;(try simp only[bA] at this);omega)))
 all_goals
  go_returns;exact⟨by simp only[eu];simp[*];try omega,zl⟩
end Go.Proofs.Z.gZ
namespace Go.Proofs.Z.gZ
open Go.RowKit Go.RG Go.SL Go.Shelf gK
theorem aiK (l:List dF) (v:Value) (bg:Nat) (Nf aP:Array Value) (p:Nat->Bool) (I:Nat->World->Prop) (w:World) (eg: Ϛ Tryz.prog bg)
 (Y5: ∀k W,I k W->bD W v l)
 (qY: ∀k (hk:k<l.length) W,(∀j,j<k->p j=false)->I k W->Ϝ bg (Nf.push (rv l[k])++aP) W (fun e W'=>e= .returned (.bool (p k))/\I (k+1) W')) (h0:I 0 w):
 Ϝ 310 #[v,.func (.func bg) Nf aP] w (dN l.length p I (fun k=>iv k) (iv (-1))):=by
 have IY:=(Y5 0 w h0).len;obtain⟨o,c,rfl⟩:=(Y5 0 w h0).open;have HC:=aa qY;have HS:=aa Y5;clear qY Y5;go_enter Tryz.func310,Tryz.ntmps310;exact zcz
theorem abI (l:List Int) (v:Value) (bg:Nat) (Nf aP:Array Value) (p:Nat->Bool) (I:Nat->World->Prop) (w:World) (eg: Ϛ Tryz.prog bg)
 (Y5: ∀k W,I k W->aL W v l)
 (qY: ∀k (hk:k<l.length) W,(∀j,j<k->p j=false)->I k W->Ϝ bg (Nf.push (iv l[k])++aP) W (fun e W'=>e= .returned (.bool (p k))/\I (k+1) W')) (h0:I 0 w):
 Ϝ 279 #[v,.func (.func bg) Nf aP] w (dN l.length p I (fun k=>iv k) (iv (-1))):=by
 have IY:=(Y5 0 w h0).len;exact zcx
theorem aiI (l:List zW) (v:Value) (bg:Nat) (Nf aP:Array Value) (p:Nat->Bool) (I:Nat->World->Prop) (w:World) (eg: Ϛ Tryz.prog bg)
 (Y5: ∀k W,I k W->aU W v l)
 (qY: ∀k (hk:k<l.length) W,(∀j,j<k->p j=false)->I k W->Ϝ bg (Nf.push (xv l[k])++aP) W (fun e W'=>e= .returned (.bool (p k))/\I (k+1) W')) (h0:I 0 w):
 Ϝ 311 #[v,.func (.func bg) Nf aP] w (dN l.length p I (fun k=>iv k) (iv (-1))):=by
 have IY:=(Y5 0 w h0).len;obtain⟨o,c,rfl⟩:=(Y5 0 w h0).open;have HC:=aa qY;have HS:=aa Y5;clear qY Y5;go_enter Tryz.func311,Tryz.ntmps311;exact zcy
theorem agF (l:List dF) (v:Value) (bg:Nat) (Nf aP:Array Value) (p:Nat->Bool) (I:Nat->World->Prop) (w:World) (eg: Ϛ Tryz.prog bg)
 (Y5: ∀k W,I k W->bD W v l)
 (qY: ∀k (hk:k<l.length) W,(∀j,j<k->p j=false)->I k W->Ϝ bg (Nf.push (rv l[k])++aP) W (fun e W'=>e= .returned (.bool (p k))/\I (k+1) W')) (h0:I 0 w):
 Ϝ 275 #[v,.func (.func bg) Nf aP] w (dN l.length p I (fun _=> .bool true) (.bool false)):=by
 have HI:=aa (aiK l v bg Nf aP p I w eg Y5 qY h0);have IY:=(Y5 0 w h0).len;clear Y5 qY h0 eg;go_enter Tryz.func275,Tryz.ntmps275;exact zac
theorem LD (l:List Int) (v:Value) (bg:Nat) (Nf aP:Array Value) (p:Nat->Bool) (I:Nat->World->Prop) (w:World) (eg: Ϛ Tryz.prog bg)
 (Y5: ∀k W,I k W->aL W v l)
 (qY: ∀k (hk:k<l.length) W,(∀j,j<k->p j=false)->I k W->Ϝ bg (Nf.push (iv l[k])++aP) W (fun e W'=>e= .returned (.bool (p k))/\I (k+1) W')) (h0:I 0 w):
 Ϝ 217 #[v,.func (.func bg) Nf aP] w (dN l.length p I (fun _=> .bool true) (.bool false)):=by
 have HI:=aa (abI l v bg Nf aP p I w eg Y5 qY h0);exact zcS
theorem agD (l:List zW) (v:Value) (bg:Nat) (Nf aP:Array Value) (p:Nat->Bool) (I:Nat->World->Prop) (w:World) (eg: Ϛ Tryz.prog bg)
 (Y5: ∀k W,I k W->aU W v l)
 (qY: ∀k (hk:k<l.length) W,(∀j,j<k->p j=false)->I k W->Ϝ bg (Nf.push (xv l[k])++aP) W (fun e W'=>e= .returned (.bool (p k))/\I (k+1) W')) (h0:I 0 w):
 Ϝ 277 #[v,.func (.func bg) Nf aP] w (dN l.length p I (fun _=> .bool true) (.bool false)):=by
 have HI:=aa (aiI l v bg Nf aP p I w eg Y5 qY h0);have IY:=(Y5 0 w h0).len;clear Y5 qY h0 eg;go_enter Tryz.func277,Tryz.ntmps277;exact zac
theorem agN (x:dF) (bx bg:Nat) (Nf aP:Array Value) (b:Bool) (W:World) (R:World->Prop) (eg: Ϛ Tryz.prog bg)
 (hbx:W.cell? ⟨bx,0,none⟩=some (.func (.func bg) Nf aP))
 (qY:Ϝ bg (Nf.push (rv x)++aP) (W.alloc (.cells #[iv x.1,iv x.2] 50)) (fun e W'=>e= .returned (.bool b)/\R W')):
 Ϝ 276 #[rv x,.pointer (some ⟨bx,0,none⟩)] W (fun e W'=>e= .returned (.bool !b)/\R W'):=by
 have uM:=dB W _ hbx;have HC:=aa qY;clear qY;go_enter Tryz.func276,Tryz.ntmps276;exact zao
theorem agP (x:Int) (bx bg:Nat) (Nf aP:Array Value) (b:Bool) (W:World) (R:World->Prop) (eg: Ϛ Tryz.prog bg)
 (hbx:W.cell? ⟨bx,0,none⟩=some (.func (.func bg) Nf aP))
 (qY:Ϝ bg (Nf.push (iv x)++aP) W (fun e W'=>e= .returned (.bool b)/\R W')):
 Ϝ 218 #[iv x,.pointer (some ⟨bx,0,none⟩)] W (fun e W'=>e= .returned (.bool !b)/\R W'):=by
 have uM:=dB W _ hbx;have HC:=aa qY;clear qY;go_enter Tryz.func218,Tryz.ntmps218;exact zao
theorem agM (x:zW) (bx bg:Nat) (Nf aP:Array Value) (b:Bool) (W:World) (R:World->Prop) (eg: Ϛ Tryz.prog bg)
 (hbx:W.cell? ⟨bx,0,none⟩=some (.func (.func bg) Nf aP))
 (qY:Ϝ bg (Nf.push (xv x)++aP) (W.alloc (.cells #[iv x.1,iv x.2.1,iv x.2.2] 190)) (fun e W'=>e= .returned (.bool b)/\R W')):
 Ϝ 278 #[xv x,.pointer (some ⟨bx,0,none⟩)] W (fun e W'=>e= .returned (.bool !b)/\R W'):=by
 have uM:=dB W _ hbx;have HC:=aa qY;clear qY;go_enter Tryz.func278,Tryz.ntmps278;exact zao
theorem akm (l:List dF) (v:Value) (bg:Nat) (Nf aP:Array Value) (p:Nat->Bool) (I:Nat->World->Prop) (w:World) (eg: Ϛ Tryz.prog bg)
 (Y5: ∀k W,I k W->bD W v l) (hal: ∀k W o,I k W->I k (W.alloc o))
 (qY: ∀k (hk:k<l.length) W,(∀j,j<k->p j=true)->I k W->Ϝ bg (Nf.push (rv l[k])++aP) W (fun e W'=>e= .returned (.bool (p k))/\I (k+1) W'/\iA w.heap.size W W')) (h0:I 0 w):
 Ϝ 209 #[v,.func (.func bg) Nf aP] w (dN l.length (fun k=>!p k) I (fun _=> .bool false) (.bool true)):=by
 have HI:=aa (agF l v 276 #[] #[.pointer (some ⟨w.heap.size,0,none⟩)] (fun k=>!p k)
  (fun k W=>I k W/\W.heap[w.heap.size]? =some (.cells #[.func (.func bg) Nf aP] 330 (0,0))) (w.alloc (.cells #[.func (.func bg) Nf aP] 330))
  (enters_of Tryz.func276 ϰ rfl) (fun k W h=>Y5 k W h.1)
  (fun k hk W IB h=>by
    have uM:w.heap.size<W.heap.size:=(aN.1 h.2).1;refine(agN l[k] w.heap.size bg Nf aP (p k) W (fun W'=>I (k+1) W'/\W'.heap[w.heap.size]? =some (.cells #[.func (.func bg) Nf aP] 330 (0,0))) eg (aD h.2) ?_);refine(qY k hk _ (fun j hj=>by simpa using IB j hj) (by first|exact hal _ _ _ h.1|exact h.1)).mono ?_;rintro e W' ⟨rfl,h1,h2⟩;refine⟨rfl,h1,(h2.block _ (ah _) (by first|exact uM|(simp;omega))).trans (by first|exact h.2|exact(aT _ _ _ uM).trans h.2)⟩)
  ⟨hal _ _ _ h0,heap_alloc_new w _⟩)
 have IY:=(Y5 0 w h0).len;clear Y5 qY h0 eg hal;go_enter Tryz.func209,Tryz.ntmps209;exact zae
theorem allI (l:List Int) (v:Value) (bg:Nat) (Nf aP:Array Value) (p:Nat->Bool) (I:Nat->World->Prop) (w:World) (eg: Ϛ Tryz.prog bg)
 (Y5: ∀k W,I k W->aL W v l) (hal: ∀k W o,I k W->I k (W.alloc o))
 (qY: ∀k (hk:k<l.length) W,(∀j,j<k->p j=true)->I k W->Ϝ bg (Nf.push (iv l[k])++aP) W (fun e W'=>e= .returned (.bool (p k))/\I (k+1) W'/\iA w.heap.size W W')) (h0:I 0 w):
 Ϝ 135 #[v,.func (.func bg) Nf aP] w (dN l.length (fun k=>!p k) I (fun _=> .bool false) (.bool true)):=by
 have HI:=aa (LD l v 218 #[] #[.pointer (some ⟨w.heap.size,0,none⟩)] (fun k=>!p k)
  (fun k W=>I k W/\W.heap[w.heap.size]? =some (.cells #[.func (.func bg) Nf aP] 274 (0,0))) (w.alloc (.cells #[.func (.func bg) Nf aP] 274))
  (enters_of Tryz.func218 ϰ rfl) (fun k W h=>Y5 k W h.1)
  (fun k hk W IB h=>by
    have uM:w.heap.size<W.heap.size:=(aN.1 h.2).1;refine(agP l[k] w.heap.size bg Nf aP (p k) W (fun W'=>I (k+1) W'/\W'.heap[w.heap.size]? =some (.cells #[.func (.func bg) Nf aP] 274 (0,0))) eg (aD h.2) ?_);refine(qY k hk _ (fun j hj=>by simpa using IB j hj) (by first|exact hal _ _ _ h.1|exact h.1)).mono ?_;rintro e W' ⟨rfl,h1,h2⟩;refine⟨rfl,h1,(h2.block _ (ah _) (by first|exact uM|(simp;omega))).trans (by first|exact h.2|exact(Below.heap_alloc _ _ _ uM).trans h.2)⟩)
  ⟨hal _ _ _ h0,heap_alloc_new w _⟩)
 have IY:=(Y5 0 w h0).len;clear Y5 qY h0 eg hal;go_enter Tryz.func135,Tryz.ntmps135;exact zae
theorem akl (l:List zW) (v:Value) (bg:Nat) (Nf aP:Array Value) (p:Nat->Bool) (I:Nat->World->Prop) (w:World) (eg: Ϛ Tryz.prog bg)
 (Y5: ∀k W,I k W->aU W v l) (hal: ∀k W o,I k W->I k (W.alloc o))
 (qY: ∀k (hk:k<l.length) W,(∀j,j<k->p j=true)->I k W->Ϝ bg (Nf.push (xv l[k])++aP) W (fun e W'=>e= .returned (.bool (p k))/\I (k+1) W'/\iA w.heap.size W W')) (h0:I 0 w):
 Ϝ 211 #[v,.func (.func bg) Nf aP] w (dN l.length (fun k=>!p k) I (fun _=> .bool false) (.bool true)):=by
 have HI:=aa (agD l v 278 #[] #[.pointer (some ⟨w.heap.size,0,none⟩)] (fun k=>!p k)
  (fun k W=>I k W/\W.heap[w.heap.size]? =some (.cells #[.func (.func bg) Nf aP] 328 (0,0))) (w.alloc (.cells #[.func (.func bg) Nf aP] 328))
  (enters_of Tryz.func278 ϰ rfl) (fun k W h=>Y5 k W h.1)
  (fun k hk W IB h=>by
    have uM:w.heap.size<W.heap.size:=(aN.1 h.2).1;refine(agM l[k] w.heap.size bg Nf aP (p k) W (fun W'=>I (k+1) W'/\W'.heap[w.heap.size]? =some (.cells #[.func (.func bg) Nf aP] 328 (0,0))) eg (aD h.2) ?_);refine(qY k hk _ (fun j hj=>by simpa using IB j hj) (by first|exact hal _ _ _ h.1|exact h.1)).mono ?_;rintro e W' ⟨rfl,h1,h2⟩;refine⟨rfl,h1,(h2.block _ (ah _) (by first|exact uM|(simp;omega))).trans (by first|exact h.2|exact(aT _ _ _ uM).trans h.2)⟩)
  ⟨hal _ _ _ h0,heap_alloc_new w _⟩)
 have IY:=(Y5 0 w h0).len;clear Y5 qY h0 eg hal;go_enter Tryz.func211,Tryz.ntmps211;exact zae
end Go.Proofs.Z.gZ
namespace Go.Proofs.Z.gZ
open Go.RowKit Go.RG Go.SL Go.Shelf gK
theorem Kh (h:bS) (a b c:Value) (x:zW) (w:World):Ϝ 207 #[hv h a b c,xv x] w (PV (.bool (yT h.last x)) w):=by
 go_enter Tryz.func207,Tryz.ntmps207;go_wp2_with (first|(go_at_call 273;refine(wz h _ _ _ _ _).mono ?_;rintro e w' ⟨rfl,hb⟩;obtain⟨hc,hf⟩:=bH hb;have hz0:w.heap.size<w'.heap.size:=(by have:=hb.size;(try simp only[bA] at this);omega);have hz1:w.heap.size+1<w'.heap.size:=(by have:=hb.size;(try simp only[bA] at this);omega))|(go_at_call 215;refine(qp _ _ _ _).mono ?_;rintro e w' ⟨rfl,hb⟩;obtain⟨hc,hf⟩:=bH hb;have hz0:w.heap.size<w'.heap.size:=(by have:=hb.size;(try simp only[bA] at this);omega);have hz1:w.heap.size+1<w'.heap.size:=(by have:=hb.size;(try simp only[bA] at this);omega)))
 all_goals
  go_returns;exact⟨by simp[yT, *],zl⟩
theorem wT (x:zW) (l0 l1 l2 l3 l4 l5 l6 l7 l8 l9:Int) (w:World) (h0:0<=x.1) (h9:x.1<=9) (hs0:0<=x.2.1) (hs1:x.2.1<=1000) (he0:0<=x.2.2) (he1:x.2.2<=50)
 (hl: ∀n∈[l0,l1,l2,l3,l4,l5,l6,l7,l8,l9],0<=n/\n<=100000):
 Ϝ 148 #[xv x,.agg #[iv l0,iv l1,iv l2,iv l3,iv l4,iv l5,iv l6,iv l7,iv l8,iv l9]] w (PV (.bool (Aj x [l0,l1,l2,l3,l4,l5,l6,l7,l8,l9])) w):=by
 obtain⟨hh,xs,xe⟩:=x;simp only at h0 h9 hs0 hs1 he0 he1;obtain⟨k,rfl⟩:=Int.eq_ofNat_of_zero_le h0;have hk:k<10:=ϑ;have Ξ:=hl ([l0,l1,l2,l3,l4,l5,l6,l7,l8,l9][k]'(by simpa using hk)) (bZ _);generalize hm:[l0,l1,l2,l3,l4,l5,l6,l7,l8,l9][k]'(by simpa using hk)=m at Ξ;have Q7:(w.alloc (.cells #[iv k,iv xs,iv xe] 190) |>.alloc (.cells #[iv l0,iv l1,iv l2,iv l3,iv l4,iv l5,iv l6,iv l7,iv l8,iv l9] 178)).cell? ⟨w.heap.size+1,k,none⟩=some (iv m):=by
  have:([iv l0,iv l1,iv l2,iv l3,iv l4,iv l5,iv l6,iv l7,iv l8,iv l9]:List Value)[k]? =some (iv m):=by
   have:([l0,l1,l2,l3,l4,l5,l6,l7,l8,l9].map iv)[k]? =some (iv m):=by
    rw[nX,dn (by simpa using hk),hm];rfl
   exact this
  simp only[World.cell?];rw[show(w.alloc (.cells #[iv k,iv xs,iv xe] 190) |>.alloc (.cells #[iv l0,iv l1,iv l2,iv l3,iv l4,iv l5,iv l6,iv l7,iv l8,iv l9] 178)).heap[w.heap.size+1]? =some (.cells #[iv l0,iv l1,iv l2,iv l3,iv l4,iv l5,iv l6,iv l7,iv l8,iv l9] 178) from by
   have:=heap_alloc_new (w.alloc (.cells #[iv k,iv xs,iv xe] 190)) (.cells #[iv l0,iv l1,iv l2,iv l3,iv l4,iv l5,iv l6,iv l7,iv l8,iv l9] 178);rwa [bA] at this]
  simpa using this
 have hr:Aj ((k:Int),xs,xe) [l0,l1,l2,l3,l4,l5,l6,l7,l8,l9]=lV (m-xs) (-xe) xe:=by
  simp only[Aj,Int.toNat_natCast,fK];rw[dn (by simpa using hk),hm];rfl
 have HR:=aa hr;clear hr hm hl;have Χ:(k:Int)<10:=ϑ;go_enter Tryz.func148,Tryz.ntmps148;go_wp2_with fail
 refine zg 13 [] none [(12,Spec.val (.bool (lV (m-xs) (-xe) xe)))] ?_;simp only[zt];repeat (refine zn ?_;simp only[zp])
 refine zv 215 (h:=fun W hE hF=>by exact qp _ _ _ _) (t:=?_);simp only[zp];repeat (refine zd ?_;simp only[zp])
 intro W hE hF;obtain⟨hc,hf⟩:=bH hE.below;have ig:=hE.size;(try simp only[bA] at ig)
 go_wp2;go_returns;rw[HR.o];exact⟨by simp,(by repeat (first|exact aF _ _|assumption|refine aV ?_ hE.below|refine ai ?_ _|refine jE ?_))⟩
theorem yX (a b:Int) (g c:Nat) (w:World) (h0:w.cell? ⟨g,0,none⟩=some (iv a)) (h1:w.cell? ⟨g,1,none⟩=some (iv b)):
 Ϝ 198 #[.slice (some ⟨g,0,none⟩) 2 c] w (PV (iv (min a b)) w):=by
 go_enter Tryz.func198,Tryz.ntmps198;go_wp2;go_rounds 2
 all_goals
  go_returns;exact⟨by simp <;>omega,aF _ _⟩
theorem Bq (a b:Int) (g c:Nat) (w:World) (h0:w.cell? ⟨g,0,none⟩=some (iv a)) (h1:w.cell? ⟨g,1,none⟩=some (iv b)):
 Ϝ 212 #[.slice (some ⟨g,0,none⟩) 2 c] w (PV (iv (min a b)) w):=by
 have H:=aa (yX a b g c w h0 h1);go_enter Tryz.func212,Tryz.ntmps212;exact zbc
theorem F8 (r:dF) (n:Int) (w:World):Ϝ 132 #[rv r,iv n] w (PV (rv (min r.1 n,max r.2 n)) w):=by
 go_enter Tryz.func132,Tryz.ntmps132;go_wp2_with fail
 refine zg 10 [] none [(3,Spec.slice (w.heap.size+2) #[iv r.1,iv n] 3 2),(4,Spec.val (iv (min r.1 n)))] ?_;simp only[zt];repeat (refine zd ?_;simp only[zp])
 refine cB (w.heap.size+2) _ _ _ ϱ ϕ ϱ ϕ ϕ (fun W hW=>by go_simp;try rfl) (fun b=>?_);simp only[zp];refine dL _ ϱ ϱ 212 _ (fun W hW=>by go_simp;try rfl) (fun W hE hF=>?_) ?_
 ·obtain⟨c,hcb,hB,hc⟩:=hF _ (aW _) ϰ;cases hcb;exact Bq r.1 n b 2 W (by simp[World.cell?,hc]) (by simp[World.cell?,hc])
 simp only[zp];repeat (refine zd ?_;simp only[zp])
 intro W hE hF;obtain⟨hc,hf⟩:=bH hE.below;have ig:=hE.size;(try simp only[bA] at ig)
 go_wp2;all_goals
  (try simp only[Exit.inBlock,Exit.then])
  refine bodyPost_ret (v:=rv (min r.1 n,max r.2 n)) (by simp[results,Tryz.results132,go_sem,hc];try omega) rfl ?_;exact⟨rfl,ze⟩
theorem gz (l:List Int) (v:Value) (n:Int) (w:World) (hv:aL w v l):Ϝ 147 #[v,iv n] w (PV (.bool (l.contains n)) w):=zan
theorem CJ:fU Tryz.prog 51 50 (rv (0,0)) 2 16:=⟨Tryz.underlying51,by kernel_rfl,rfl,by omega⟩
theorem oF:fU Tryz.prog 52 3 (iv 0) 1 8:=⟨Tryz.underlying52,by kernel_rfl,rfl,by omega⟩
theorem UE:fU Tryz.prog 53 190 (xv (0,0,0)) 3 24:=⟨Tryz.underlying53,by kernel_rfl,rfl,by omega⟩
theorem Nr (h:bS) (wv b c:Value) (w:World) (hw:bD w wv h.bJ) (IY:h.bJ.length<=1000):
 Ϝ 146 #[hv h wv b c] w (PSl 2 (h.bJ.length+1) (aB (h.start::h.bJ)) w):=by
 obtain⟨o,cc,rfl⟩:=hw.open;have HW:=aa hw;clear hw;go_enter Tryz.func146,Tryz.ntmps146;go_wp2_with (at_builtin;refine ek rfl _ _ CJ rfl (w.heap.size+1) (.slice (some ⟨w.heap.size+1,0,none⟩) 1 1) 1 [iv h.start.1,iv h.start.2] rfl ?_ (.slice o h.bJ.length cc) h.bJ.length (aB h.bJ) rfl ?_ (kF _) ϑ ϑ ϕ ?_)
 ·exact gF (dm _ _ _) rfl (ah _) ϖ
 ·exact(HW.o.alloc _).alloc _
 ·intro v' w1 Gm ε;have HO:=aa Gm;have HG:=aa ε;clear Gm ε;go_wp2;go_returns;refine⟨v',by simp,?_,?_⟩
  ·have:=aH.bY HO.o;rw[Nat.add_comm] at this;exact this
  ·exact zb6
theorem QX (h:bS) (n p:Int) (lb hb:Nat) (w:World) (hl:w.heap[lb]? =some (.cells #[iv p] 3 (0,0))) (hh:w.cell? ⟨hb,0,none⟩=some (iv h.last))
 (hp0: -1<=p) (hp1:p<=1000):
 Ϝ 214 #[iv n,.pointer (some ⟨lb,0,none⟩),.pointer (some ⟨hb,0,none⟩)] w
  (fun e w'=>e= .returned (.bool (lV n (p+1) h.last))/\w'.heap[lb]? =some (.cells #[iv n] 3 (0,0))/\Ext [lb] w w'):=by
 have hc:=aD hl;have hf:w.frozen? ⟨lb,0,none⟩=false:=by simp[World.frozen?,hl]
 have uM:=dB w _ hc;have hlt2:=dB w _ hh;have HL:=aa hl;clear hl;go_enter Tryz.func214,Tryz.ntmps214;go_wp2_with (go_at_call 215;refine(qp _ _ _ _).mono ?_;rintro e w' ⟨rfl,hb⟩;obtain⟨hc,hf⟩:=bH hb)
 go_returns;refine⟨by simp,?_,?_⟩
 ·exact aA ((hb.block lb uM).trans HL.o) _
 ·exact(Ext.ax hb).trans (jo w' ⟨lb,0,none⟩ _)
end Go.Proofs.Z.gZ
namespace Go.Proofs.Z.gZ
open Go.RowKit Go.RG Go.SL Go.Shelf gK
theorem mW (h:bS) (a b c v:Value) (l:List Int) (w:World) (hv':aL w v l) (h0:0<=h.last) (h9:h.last<=9):
 Ϝ 129 #[hv h a b c,v] w (PV (.bool (mf h.last l)) w):=by
 have HA:=aa (allI l v 214 #[] #[.pointer (some ⟨w.heap.size+1,0,none⟩),.pointer (some ⟨w.heap.size,0,none⟩)] (Xr h.last (-1) l)
  (fun k W=>W.heap[w.heap.size+1]? =some (.cells #[iv (((-1:Int)::l).getD k 0)] 3 (0,0))/\W.cell? ⟨w.heap.size,0,none⟩=some (iv h.last)/\Ϙ w W)
  ((w.alloc (.cells #[iv h.last,iv h.size,iv h.aZ,iv h.die,iv h.ny,iv h.start.1,iv h.start.2,a,b,c] 55)).alloc (.cells #[iv (-1)] 3))
  (enters_of Tryz.func214 ϰ rfl) (fun k W hI=>hv'.below hI.2.2 (ah _))
  (fun k W o hI=>⟨(aT _ _ _ (aN.1 hI.1).1).trans hI.1,by
    have:=dB W _ hI.2.1;rw[gX (w:=W) (aT _ _ _ this)];exact hI.2.1,ai hI.2.2 _⟩)
  (fun k hk W IB hI=>by
    have hp:=Tp h.last h0 l k IB ϑ;refine(QX h l[k] (((-1:Int)::l).getD k 0) (w.heap.size+1) w.heap.size W hI.1 hI.2.1 hp.1 ϑ).mono ?_;rintro e W' ⟨rfl,h1,h2⟩;refine⟨?_,⟨?_,?_,?_⟩,?_⟩
    ·have e:l.getD k 0=l[k]:=by simp[hk]
     simp only[Xr,e]
    ·rw[List.getD_cons_succ,show l.getD k 0=l[k] from by simp[hk]];exact h1
    ·have uM:=dB W _ hI.2.1;rw[h2.cell _ _ uM ϕ];exact hI.2.1
    ·exact hI.2.2.trans ⟨h2.os,h2.tape,h2.output,h2.size,fun i hi=>h2.block i (by have:=hI.2.2.size;omega) ϗ⟩
    ·exact iA.uy h2 ϕ)
  ⟨dm _ _ _,by
    rw[gX (w:=w.alloc (.cells #[iv h.last,iv h.size,iv h.aZ,iv h.die,iv h.ny,iv h.start.1,iv h.start.2,a,b,c] 55)) (aT _ _ _ ϕ)];simp only[World.cell?,av];rfl,ai (ai (aF _ _) _) _⟩)
 clear hv';go_enter Tryz.func129,Tryz.ntmps129;go_wp2_with fail
 refine HA.o.mono ?_;rintro e W' υ;obtain⟨rfl,k,hk,hI⟩:=υ.all;have HI:=aa hI.2.2;clear hI υ;go_wp2_with fail
 go_returns;refine⟨?_,HI.o⟩;rw[mf,Fq, <-iM];simp
theorem Tu (l:List dF) (v:Value) (bg:Nat) (Nf aP:Array Value) (q:dF->Bool) (w:World) (hv:bD w v l) (eg: Ϛ Tryz.prog bg)
 (qY: ∀x∈l, ∀W,Ϙ w W->Ϝ bg (Nf.push (rv x)++aP) W (PV (.bool (q x)) W)):
 Ϝ 209 #[v,.func (.func bg) Nf aP] w (PV (.bool (l.all q)) w):=by
 refine(akm l v bg Nf aP (fun k=>q (l.getD k (0,0))) (fun _ W=>Ϙ w W) w eg (fun k W h=>hv.below h (ah _)) (fun k W o h=>ai h o) (fun k hk W _ h=>?_) (aF _ _)).mono ?_
 ·exact zaB
 ·exact zaJ
theorem Tt (l:List zW) (v:Value) (bg:Nat) (Nf aP:Array Value) (q:zW->Bool) (w:World) (hv:aU w v l) (eg: Ϛ Tryz.prog bg)
 (qY: ∀x∈l, ∀W,Ϙ w W->Ϝ bg (Nf.push (xv x)++aP) W (PV (.bool (q x)) W)):
 Ϝ 211 #[v,.func (.func bg) Nf aP] w (PV (.bool (l.all q)) w):=by
 refine(akl l v bg Nf aP (fun k=>q (l.getD k (0,0,0))) (fun _ W=>Ϙ w W) w eg (fun k W h=>hv.below h (ah _)) (fun k W o h=>ai h o) (fun k hk W _ h=>?_) (aF _ _)).mono ?_
 ·exact zaB
 ·exact zaJ
theorem Jv (l:List dF) (v:Value) (w:World) (hv:bD w v l):Ϝ 209 #[v,.func (.func 210) #[] #[]] w (PV (.bool (l.all (tZ · 20))) w):=
 Tu l v _ #[] #[] (tZ · 20) w hv (enters_of Tryz.func210 ϰ rfl) (fun x _ W _=>Ij x W)
theorem zM (h:bS) (a b c:Value) (l:List zW) (v:Value) (w:World) (hv':aU w v l):
 Ϝ 211 #[v,.func (.func 207) #[hv h a b c] #[]] w (PV (.bool (l.all (yT h.last))) w):=
 Tt l v _ #[hv h a b c] #[] (yT h.last) w hv' (enters_of Tryz.func207 ϰ rfl) (fun x _ W _=>Kh h a b c x W)
theorem O3 (h:bS) (wv tv ru:Value) (w:World) (hw:bD w wv h.bJ) (ht:aL w tv h.turns) (hx:aU w ru h.readings) (hl:h.last<=9) (hr:(h.readings.length:Int)<=5)
 (hn:eu h=false):Ϝ 128 #[hv h wv tv ru] w (PV (iv 1) w):=by
 obtain⟨ow,cw,rfl⟩:=hw.open;obtain⟨ot,ct,rfl⟩:=ht.open;obtain⟨ox,cx,rfl⟩:=hx.open;have HW:=aa hw;have HT:=aa ht;have HX:=aa hx;clear hw ht hx;have hl0:eu h=true->0<=h.last:=fun e=>by simp only[eu,dU,dZ] at e;exact e.1.1.1.1.1
 have HN:=aa hn;rw[hn] at hl0;clear hn;(try replace hl0:=hl0 rfl)
 go_enter Tryz.func128,Tryz.ntmps128;go_wp2_with fail
 refine zg 31 [] none [(1,Spec.val (.bool false))] ?_;simp only[zt];repeat ((first|refine zd ?_|refine zk ?_);simp only[zp])
 refine dL _ ϱ ϱ 208 _ (fun W hW=>by go_simp;try rfl) (fun W hE hF=>by have:=mK h (.slice ow h.bJ.length cw) (.slice ot h.turns.length ct) (.slice ox h.readings.length cx) W;rw[HN.o] at this;exact this) ?_
 exact zaC
theorem O1 (h:bS) (wv tv ru:Value) (w:World) (hw:bD w wv h.bJ) (ht:aL w tv h.turns) (hx:aU w ru h.readings) (hl:h.last<=9) (hr:(h.readings.length:Int)<=5)
 (hn:eu h=true) (h2:((h.bJ.length:Int)==h.last+1)=false):Ϝ 128 #[hv h wv tv ru] w (PV (iv 1) w):=by
 obtain⟨ow,cw,rfl⟩:=hw.open;obtain⟨ot,ct,rfl⟩:=ht.open;obtain⟨ox,cx,rfl⟩:=hx.open;have HW:=aa hw;have HT:=aa ht;have HX:=aa hx;clear hw ht hx;have hl0:eu h=true->0<=h.last:=fun e=>by simp only[eu,dU,dZ] at e;exact e.1.1.1.1.1
 have HN:=aa hn;rw[hn] at hl0;clear hn;(try replace hl0:=hl0 rfl)
 have h2':((h.bJ.length:Int) !=h.last+1)=true:=by simp only[bne,h2];rfl
 go_enter Tryz.func128,Tryz.ntmps128;go_wp2_with fail
 refine zg 31 [] none [(1,Spec.val (.bool true)),(8,Spec.val (iv (h.last+1)))] ?_;simp only[zt];repeat ((first|refine zd ?_|refine zk ?_);simp only[zp])
 refine dL _ ϱ ϱ 208 _ (fun W hW=>by go_simp;try rfl) (fun W hE hF=>by have:=mK h (.slice ow h.bJ.length cw) (.slice ot h.turns.length ct) (.slice ox h.readings.length cx) W;rw[HN.o] at this;exact this) ?_
 simp only[zp];repeat ((first|refine zd ?_|refine zk ?_);simp only[zp])
 refine dL _ ϱ ϱ 93 _ (fun W hW=>by go_simp;try rfl) (fun W hE hF=>by exact qg h _ _ _ W hl0 hl) ?_;exact zaC
theorem O0 (h:bS) (wv tv ru:Value) (w:World) (hw:bD w wv h.bJ) (ht:aL w tv h.turns) (hx:aU w ru h.readings) (hl:h.last<=9) (hr:(h.readings.length:Int)<=5)
 (hn:eu h=true) (h2:((h.bJ.length:Int)==h.last+1)=true) (h3:mf h.last h.turns=false):Ϝ 128 #[hv h wv tv ru] w (PV (iv 1) w):=by
 obtain⟨ow,cw,rfl⟩:=hw.open;obtain⟨ot,ct,rfl⟩:=ht.open;obtain⟨ox,cx,rfl⟩:=hx.open;have HW:=aa hw;have HT:=aa ht;have HX:=aa hx;clear hw ht hx;have hl0:eu h=true->0<=h.last:=fun e=>by simp only[eu,dU,dZ] at e;exact e.1.1.1.1.1
 have HN:=aa hn;rw[hn] at hl0;clear hn;(try replace hl0:=hl0 rfl)
 have h2':((h.bJ.length:Int) !=h.last+1)=false:=by simp only[bne,h2];rfl
 have H3:=aa h3;clear h3;go_enter Tryz.func128,Tryz.ntmps128;go_wp2_with fail
 refine zg 31 [] none [(1,Spec.val (.bool true)),(8,Spec.val (iv (h.last+1))),(15,Spec.val (.bool false))] ?_;simp only[zt];repeat ((first|refine zd ?_|refine zk ?_);simp only[zp])
 refine dL _ ϱ ϱ 208 _ (fun W hW=>by go_simp;try rfl) (fun W hE hF=>by have:=mK h (.slice ow h.bJ.length cw) (.slice ot h.turns.length ct) (.slice ox h.readings.length cx) W;rw[HN.o] at this;exact this) ?_
 simp only[zp];repeat ((first|refine zd ?_|refine zk ?_);simp only[zp])
 refine dL _ ϱ ϱ 93 _ (fun W hW=>by go_simp;try rfl) (fun W hE hF=>by exact qg h _ _ _ W hl0 hl) ?_;simp only[zp];repeat ((first|refine zd ?_|refine zk ?_);simp only[zp])
 refine dL _ ϱ ϱ 129 _ (fun W hW=>by go_simp;try rfl) (fun W hE hF=>by have:=mW h (.slice ow h.bJ.length cw) (.slice ot h.turns.length ct) (.slice ox h.readings.length cx) (.slice ot h.turns.length ct) h.turns W ((HT.o.alloc _).ext hE ϕ) hl0 hl;rw[H3.o] at this;exact this) ?_
 exact zaC
theorem OZ (h:bS) (wv tv ru:Value) (w:World) (hw:bD w wv h.bJ) (ht:aL w tv h.turns) (hx:aU w ru h.readings) (hl:h.last<=9) (hr:(h.readings.length:Int)<=5)
 (hn:eu h=true) (h2:((h.bJ.length:Int)==h.last+1)=true) (h3:mf h.last h.turns=true) (h4:h.bJ.all (tZ · 20)=false):Ϝ 128 #[hv h wv tv ru] w (PV (iv 1) w):=by
 obtain⟨ow,cw,rfl⟩:=hw.open;obtain⟨ot,ct,rfl⟩:=ht.open;obtain⟨ox,cx,rfl⟩:=hx.open;have HW:=aa hw;have HT:=aa ht;have HX:=aa hx;clear hw ht hx;have hl0:eu h=true->0<=h.last:=fun e=>by simp only[eu,dU,dZ] at e;exact e.1.1.1.1.1
 have HN:=aa hn;rw[hn] at hl0;clear hn;(try replace hl0:=hl0 rfl)
 have h2':((h.bJ.length:Int) !=h.last+1)=false:=by simp only[bne,h2];rfl
 have H3:=aa h3;have H4:=aa h4;clear h3 h4;go_enter Tryz.func128,Tryz.ntmps128;go_wp2_with fail
 refine zg 31 [] none [(1,Spec.val (.bool true)),(8,Spec.val (iv (h.last+1))),(15,Spec.val (.bool true)),(21,Spec.val (.bool false))] ?_;simp only[zt];repeat ((first|refine zd ?_|refine zk ?_);simp only[zp])
 refine dL _ ϱ ϱ 208 _ (fun W hW=>by go_simp;try rfl) (fun W hE hF=>by have:=mK h (.slice ow h.bJ.length cw) (.slice ot h.turns.length ct) (.slice ox h.readings.length cx) W;rw[HN.o] at this;exact this) ?_
 simp only[zp];repeat ((first|refine zd ?_|refine zk ?_);simp only[zp])
 refine dL _ ϱ ϱ 93 _ (fun W hW=>by go_simp;try rfl) (fun W hE hF=>by exact qg h _ _ _ W hl0 hl) ?_;simp only[zp];repeat ((first|refine zd ?_|refine zk ?_);simp only[zp])
 refine dL _ ϱ ϱ 129 _ (fun W hW=>by go_simp;try rfl) (fun W hE hF=>by have:=mW h (.slice ow h.bJ.length cw) (.slice ot h.turns.length ct) (.slice ox h.readings.length cx) (.slice ot h.turns.length ct) h.turns W ((HT.o.alloc _).ext hE ϕ) hl0 hl;rw[H3.o] at this;exact this) ?_
 simp only[zp];repeat ((first|refine zd ?_|refine zk ?_);simp only[zp])
 refine dL _ ϱ ϱ 209 _ (fun W hW=>by go_simp;try rfl) (fun W hE hF=>by have:=Jv h.bJ (.slice ow h.bJ.length cw) W ((HW.o.alloc _).ext hE ϕ);rw[H4.o] at this;exact this) ?_
 exact zaC
theorem OY (h:bS) (wv tv ru:Value) (w:World) (hw:bD w wv h.bJ) (ht:aL w tv h.turns) (hx:aU w ru h.readings) (hl:h.last<=9) (hr:(h.readings.length:Int)<=5)
 (hn:eu h=true) (h2:((h.bJ.length:Int)==h.last+1)=true) (h3:mf h.last h.turns=true) (h4:h.bJ.all (tZ · 20)=true) (h5:h.readings.all (yT h.last)=false):Ϝ 128 #[hv h wv tv ru] w (PV (iv 1) w):=by
 obtain⟨ow,cw,rfl⟩:=hw.open;obtain⟨ot,ct,rfl⟩:=ht.open;obtain⟨ox,cx,rfl⟩:=hx.open;have HW:=aa hw;have HT:=aa ht;have HX:=aa hx;clear hw ht hx;have hl0:eu h=true->0<=h.last:=fun e=>by simp only[eu,dU,dZ] at e;exact e.1.1.1.1.1
 have HN:=aa hn;rw[hn] at hl0;clear hn;(try replace hl0:=hl0 rfl)
 have h2':((h.bJ.length:Int) !=h.last+1)=false:=by simp only[bne,h2];rfl
 have H3:=aa h3;have H4:=aa h4;have H5:=aa h5;clear h3 h4 h5;go_enter Tryz.func128,Tryz.ntmps128;go_wp2_with fail
 refine zg 31 [] none [(1,Spec.val (.bool true)),(8,Spec.val (iv (h.last+1))),(15,Spec.val (.bool true)),(21,Spec.val (.bool true)),(28,Spec.val (.bool false))] ?_;simp only[zt];repeat ((first|refine zd ?_|refine zk ?_);simp only[zp])
 refine dL _ ϱ ϱ 208 _ (fun W hW=>by go_simp;try rfl) (fun W hE hF=>by have:=mK h (.slice ow h.bJ.length cw) (.slice ot h.turns.length ct) (.slice ox h.readings.length cx) W;rw[HN.o] at this;exact this) ?_
 simp only[zp];repeat ((first|refine zd ?_|refine zk ?_);simp only[zp])
 refine dL _ ϱ ϱ 93 _ (fun W hW=>by go_simp;try rfl) (fun W hE hF=>by exact qg h _ _ _ W hl0 hl) ?_;simp only[zp];repeat ((first|refine zd ?_|refine zk ?_);simp only[zp])
 refine dL _ ϱ ϱ 129 _ (fun W hW=>by go_simp;try rfl) (fun W hE hF=>by have:=mW h (.slice ow h.bJ.length cw) (.slice ot h.turns.length ct) (.slice ox h.readings.length cx) (.slice ot h.turns.length ct) h.turns W ((HT.o.alloc _).ext hE ϕ) hl0 hl;rw[H3.o] at this;exact this) ?_
 simp only[zp];repeat ((first|refine zd ?_|refine zk ?_);simp only[zp])
 refine dL _ ϱ ϱ 209 _ (fun W hW=>by go_simp;try rfl) (fun W hE hF=>by have:=Jv h.bJ (.slice ow h.bJ.length cw) W ((HW.o.alloc _).ext hE ϕ);rw[H4.o] at this;exact this) ?_
 simp only[zp];repeat ((first|refine zd ?_|refine zk ?_);simp only[zp])
 refine dL _ ϱ ϱ 211 _ (fun W hW=>by go_simp;try rfl) (fun W hE hF=>by have:=zM h (.slice ow h.bJ.length cw) (.slice ot h.turns.length ct) (.slice ox h.readings.length cx) h.readings (.slice ox h.readings.length cx) W ((HX.o.alloc _).ext hE ϕ);rw[H5.o] at this;exact this) ?_
 exact zaC
end Go.Proofs.Z.gZ
namespace Go.Proofs.Z.gZ
open Go.RowKit Go.RG Go.SL Go.Shelf gK
theorem LK (h:bS) (wv tv ru:Value) (w:World) (hx:aU w ru h.readings) (hl:9<h.last∨5<(h.readings.length:Int)):
 Ϝ 128 #[hv h wv tv ru] w (PV (iv 3) w):=by
 obtain⟨ox,cx,rfl⟩:=hx.open;clear hx;by_cases h9:9<h.last
 all_goals
  go_enter Tryz.func128,Tryz.ntmps128;exact zbl
theorem OW (h:bS) (wv tv ru:Value) (w:World) (hw:bD w wv h.bJ) (ht:aL w tv h.turns) (hx:aU w ru h.readings) (hl:h.last<=9) (hr:(h.readings.length:Int)<=5)
 (hn:eu h=true) (h2:((h.bJ.length:Int)==h.last+1)=true) (h3:mf h.last h.turns=true) (h4:h.bJ.all (tZ · 20)=true) (h5:h.readings.all (yT h.last)=true)
 (res:Int) (μ:Hid (res=if 2000<rz (h.start::h.bJ) then 3 else 0)):
 Ϝ 128 #[hv h wv tv ru] w (PV (iv res) w):=by
 have IY:h.bJ.length<=10:=by have:=of_decide_eq_true (p:=(h.bJ.length:Int)=h.last+1) (by simpa using h2);omega
 have hok: ∀r∈h.start::h.bJ,0<=r.1/\r.1<=r.2/\r.2<=500/\1<=dQ r/\dQ r<=501:=by
  intro r hr;rcases eQ.1 hr with rfl|hr
  ·have:tZ h.start 500=true:=by simp only[eu,dU] at hn;exact hn.2
   exact vV this
  ·have:=vV (jh.1 h4 r hr);omega
 have iF:=aa hok;clear hok;obtain⟨ow,cw,rfl⟩:=hw.open;obtain⟨ot,ct,rfl⟩:=ht.open;obtain⟨ox,cx,rfl⟩:=hx.open;have HW:=aa hw;have HT:=aa ht;have HX:=aa hx;clear hw ht hx;have hl0:eu h=true->0<=h.last:=fun e=>by simp only[eu,dU,dZ] at e;exact e.1.1.1.1.1
 have HN:=aa hn;rw[hn] at hl0;clear hn;(try replace hl0:=hl0 rfl)
 have h2':((h.bJ.length:Int) !=h.last+1)=false:=by simp only[bne,h2];rfl
 have H3:=aa h3;have H4:=aa h4;have H5:=aa h5;clear h3 h4 h5;go_enter Tryz.func128,Tryz.ntmps128;go_wp2_with fail
 refine zg 31 [] none [(1,Spec.val (.bool true)),(8,Spec.val (iv (h.last+1))),(15,Spec.val (.bool true)),(21,Spec.val (.bool true)),(28,Spec.val (.bool true))] ?_;simp only[zt];repeat ((first|refine zd ?_|refine zk ?_);simp only[zp])
 refine dL _ ϱ ϱ 208 _ (fun W hW=>by go_simp;try rfl) (fun W hE hF=>by have:=mK h (.slice ow h.bJ.length cw) (.slice ot h.turns.length ct) (.slice ox h.readings.length cx) W;rw[HN.o] at this;exact this) ?_
 simp only[zp];repeat ((first|refine zd ?_|refine zk ?_);simp only[zp])
 refine dL _ ϱ ϱ 93 _ (fun W hW=>by go_simp;try rfl) (fun W hE hF=>by exact qg h _ _ _ W hl0 hl) ?_;simp only[zp];repeat ((first|refine zd ?_|refine zk ?_);simp only[zp])
 refine dL _ ϱ ϱ 129 _ (fun W hW=>by go_simp;try rfl) (fun W hE hF=>by have:=mW h (.slice ow h.bJ.length cw) (.slice ot h.turns.length ct) (.slice ox h.readings.length cx) (.slice ot h.turns.length ct) h.turns W ((HT.o.alloc _).ext hE ϕ) hl0 hl;rw[H3.o] at this;exact this) ?_
 simp only[zp];repeat ((first|refine zd ?_|refine zk ?_);simp only[zp])
 refine dL _ ϱ ϱ 209 _ (fun W hW=>by go_simp;try rfl) (fun W hE hF=>by have:=Jv h.bJ (.slice ow h.bJ.length cw) W ((HW.o.alloc _).ext hE ϕ);rw[H4.o] at this;exact this) ?_
 simp only[zp];repeat ((first|refine zd ?_|refine zk ?_);simp only[zp])
 refine dL _ ϱ ϱ 211 _ (fun W hW=>by go_simp;try rfl) (fun W hE hF=>by have:=zM h (.slice ow h.bJ.length cw) (.slice ot h.turns.length ct) (.slice ox h.readings.length cx) h.readings (.slice ox h.readings.length cx) W ((HX.o.alloc _).ext hE ϕ);rw[H5.o] at this;exact this) ?_
 simp only[zp];repeat ((first|refine zd ?_|refine zk ?_);simp only[zp])
 intro W hE hF;obtain⟨hc,hf⟩:=bH hE.below;have ig:=hE.size;(try simp only[bA] at ig)
 go_wp2_with fail
 have hB0:Ϙ w W:=ze;refine(Nr h _ _ _ W (HW.o.below hB0 (ah _)) ϑ).mono ?_;rintro e w1 ⟨v,rfl,Η,δ⟩;have hB1:Ϙ w w1:=aV hB0 δ;clear hc hf ig hE hF δ hB0;obtain⟨ov,cv,rfl⟩:=Η.open;have HV:=aa Η;clear Η;go_wp2_with fail
 have hL:(h.start::h.bJ).length=h.bJ.length+1:=rfl;have HL:=aa hL;clear hL;go_loopw [4,54] (fun m i wr=> ∃k:Nat,k<=h.bJ.length+1/\i= .int .i64 k/\m= .int .i64 (rU (h.start::h.bJ) k)/\aH 2 wr (.slice ov (h.bJ.length+1) cv) (h.bJ.length+1) (aB (h.start::h.bJ))/\Ϙ w wr)
  (fun _ i _=>h.bJ.length+1-(intOf i).toNat)
 case atStart=>exact⟨0,bE _,rfl,rfl,HV.o,hB1⟩
 case round=>
  obtain⟨k,hk,rfl,rfl,hv,hB⟩:=hrel;by_cases uM:k<h.bJ.length+1
  ·obtain⟨b,off,rfl,hb,hc0,hc1⟩:=bD.cell hv (show k<(h.start::h.bJ).length from uM);have hr:=iF.o _ (bZ (show k<(h.start::h.bJ).length from uM));have hs:=Ez (h.start::h.bJ) k uM;have hbd:=Md (h.start::h.bJ) (fun r hr=>(iF.o r hr).2.2.2.1) k;generalize (h.start::h.bJ)[k]=r at hc0 hc1 hr hs;obtain⟨hr1,hr2,hr3,hr4,I4⟩:=hr;unfold pX at hs;generalize rU (h.start::h.bJ) k=c at hs hbd;obtain⟨δ,κ⟩:=hbd;have HS:=aa hs;have HV:=aa hv;have HB:=aa hB;clear hs hv hB;have hmul:0<=c*dQ r/\c*dQ r<=2001*501:=⟨Int.mul_nonneg ϑ ϑ,Int.mul_le_mul κ I4 ϑ ϑ⟩;obtain⟨Υ,hm2⟩:=hmul;go_wp2_with fail
   refine(J2 r _ hr1 hr2 ϑ).mono ?_;rintro e w2 ⟨rfl,Γ⟩;obtain⟨hc,hf⟩:=bH Γ;go_wp2_with fail
   refine(Bq (c*dQ r) 2001 _ _ _ ?_ ?_).mono ?_
   ·go_simp
   ·go_simp
   rintro e w3 ⟨rfl,Ω⟩;go_wp2_with fail
   go_roundw
   case rel=>
    have hB3:Ϙ w w3:=aV (ai (aV (ai HB.o _) Γ) _) Ω;exact⟨k+1,by omega,by go_num,by rw[HS.o],HV.o.below (((aF wr.heap.size wr).alloc (ah _) _).trans ((Γ.mono ϕ).trans (((aF _ _).alloc (by have:=Γ.size;simp at this;omega) _).trans (Ω.mono (by have:=Γ.size;simp at this⊢;omega))))) (ah _),hB3⟩
   case measure=>simp[intOf];omega
  ·have Y9:k=h.bJ.length+1:=ϑ;have hend:=Hm (h.start::h.bJ) (fun r hr=>(iF.o r hr).2.2.2.1);have hr:=μ.o;rw[HL.o, <-Y9] at hend;generalize rU (h.start::h.bJ) k=c at hend;by_cases hc:2000<c
   ·rw[aG (hend.1 hc)] at hr;have HR:=aa hr;clear hr hend μ;exact zbN
   ·rw[ak (fun x=>hc (hend.2 x))] at hr;have HR:=aa hr;clear hr hend μ;exact zbN
theorem tV (h:bS) (wv tv ru:Value) (w:World) (hw:bD w wv h.bJ) (ht:aL w tv h.turns) (hx:aU w ru h.readings):
 Ϝ 128 #[hv h wv tv ru] w (PV (iv (tQ h)) w):=by
 unfold tQ;by_cases hl:9<h.last∨5<h.readings.length
 ·rw[aG hl];exact LK h wv tv ru w hx ϑ
 ·rw[ak hl];have h9:h.last<=9:=ϑ;have h5':(h.readings.length:Int)<=5:=ϑ;by_cases hv:valid h=false
  ·rw[aG hv];cases h1:eu h
   ·exact O3 h wv tv ru w hw ht hx h9 h5' h1
   cases h2:((h.bJ.length:Int)==h.last+1)
   ·exact O1 h wv tv ru w hw ht hx h9 h5' h1 h2
   cases h3:mf h.last h.turns
   ·exact O0 h wv tv ru w hw ht hx h9 h5' h1 h2 h3
   cases h4:h.bJ.all (tZ · 20)
   ·exact OZ h wv tv ru w hw ht hx h9 h5' h1 h2 h3 h4
   cases h5:h.readings.all (yT h.last)
   ·exact OY h wv tv ru w hw ht hx h9 h5' h1 h2 h3 h4 h5
   exfalso;have hd:decide ((h.bJ.length:Int)=h.last+1)=true:=by simpa using h2
   simp only[valid,h1,hd,h3,h4,h5] at hv;simp at hv
  ·rw[ak hv];have hv':valid h=true:=by simpa using hv
   simp only[valid,dU] at hv';exact OW h wv tv ru w hw ht hx h9 h5' hv'.1.1.1.1 (by simpa using hv'.1.1.1.2) hv'.1.1.2 hv'.1.2 hv'.2 _ rfl
end Go.Proofs.Z.gZ
namespace Go.Proofs.Z.gZ
open Go.RowKit Go.RG Go.SL Go.Shelf gK
abbrev sv (n:Int) (t:Bool):Value:= .agg #[iv n,.bool t]
theorem ZK (n m:Int) (t u:Bool) (w:World):(Op.equal 334 (sv n t) (sv m u)).run Tryz.prog w= .ok ((n==m)&&(t==u)) w:=by
 unfold Op.equal Op.maxDepth;simp[go_sem];by_cases h1:n=m <;>by_cases h2:t=u <;>simp[h1,h2]
theorem AV (b:Bool) (d:Nat) (n:Int) (w:World):(Instr.checkKey b (d+1) 3 (iv n)).run Tryz.prog w= .ok () w:=by
 unfold Instr.checkKey;simp[go_sem]
theorem OX (b:Bool) (d:Nat) (t:Bool) (w:World):(Instr.checkKey b (d+1) 4 (.bool t)).run Tryz.prog w= .ok () w:=by
 unfold Instr.checkKey;simp[go_sem]
theorem uL (b:Bool) (n:Int) (t:Bool) (w:World):(Instr.checkKey b 10000 334 (sv n t)).run Tryz.prog w= .ok () w:=by
 unfold Instr.checkKey;simp[go_sem];rw[AV,Result.andThen_ok,OX]
def Entry (aZ:Int) (e:MapEntry):Prop:= ∃n t,e.key=sv n t/\e.val=iv (kH aZ n t)
theorem SE (aZ:Int) (n:Int) (t:Bool): ∀(es:List MapEntry) (i:Nat),(∀e∈es,Entry aZ e)->
 ∃r,(∀w,(Instr.findAsking 334 (sv n t) es i).run Tryz.prog w= .ok r w)/\(∀j v,r=some (j,v)->v=iv (kH aZ n t)/\i<=j/\j-i<es.length/\ ∃e,es[j-i]? =some e/\e.key=sv n t):=by
 intro es;induction es with
 |nil=>intro i _;exact⟨none,fun _=>rfl,fun j v h=>by cases h⟩
 |cons e es ih=>
  intro i h;obtain⟨m,u,hk,hv⟩:=h e ϕ;unfold Instr.findAsking;simp only[Sem.run_bind,hk,ZK,Result.andThen_ok];by_cases hc:((n==m)&&(t==u))=true
  ·refine⟨some (i,e.val),fun w=>by rw[aG hc];rfl,fun j v hj=>?_⟩;simp only[Option.some.injEq,Prod.mk.injEq] at hj;simp only[dU,beq_iff_eq] at hc;refine⟨by rw[<-hj.2,hv,hc.1,hc.2],by omega,by simp;omega,e,?_,by rw[hk,hc.1,hc.2]⟩;rw[<-hj.1];simp
  ·obtain⟨r,h1,h2⟩:=ih (i+1) (fun x hx=>h x (by simp[hx]));refine⟨r,fun w=>by rw[ak hc];exact h1 w,fun j v hj=>?_⟩;obtain⟨h3,h4,h5,e',h6,h7⟩:=h2 j v hj;refine⟨h3,by omega,by simp;omega,e',?_,h7⟩;rw[show j-i=(j-(i+1))+1 from ϑ,List.getElem?_cons_succ];exact h6
theorem KT (aZ:Int) (n:Int) (t:Bool) (es:List MapEntry) (h: ∀e∈es,Entry aZ e):
 ∃r,(∀w,(Instr.findKey 334 (sv n t) es).run Tryz.prog w= .ok r w)/\(∀j v,r=some (j,v)->v=iv (kH aZ n t)/\j<es.length/\ ∃e,es[j]? =some e/\e.key=sv n t):=by
 unfold Instr.findKey;simp only[Sem.run_bind,run_underlying Tryz.underlying334,Result.andThen_ok];cases es with
 |nil=>exact⟨none,fun _=>rfl,fun j v h=>by cases h⟩
 |cons e es=>
  simp only[Instr.findNow,Instr.sameNow];obtain⟨r,h1,h2⟩:=SE aZ n t (e::es) 0 h;exact⟨r,h1,fun j v hj=>by
   obtain⟨a,b,c,d⟩:=h2 j v hj;exact⟨a,by simpa using c,by simpa using d⟩⟩
def Cache (W:World) (mb:Nat) (aZ:Int):Prop:= ∃es clock,W.heap[mb]? =some (.map es clock)/\ ∀e∈es.toList,Entry aZ e
theorem Cache.kept {W W':World} {mb:Nat} {aZ:Int} (h:Cache W mb aZ) (hk:W'.heap[mb]? =W.heap[mb]?):Cache W' mb aZ:=by
 obtain⟨es,c,h1,h2⟩:=h;exact⟨es,c,hk.trans h1,h2⟩
theorem Cache.lt {W:World} {mb:Nat} {aZ:Int} (h:Cache W mb aZ):mb<W.heap.size:=by
 obtain⟨es,c,h1,h2⟩:=h;exact(aN.1 h1).1
theorem RQ {W0:World} {mb:Nat} {aZ:Int} (h:Cache W0 mb aZ) (n:Int) (t:Bool):
 ∃x ok,(ok=true->x=kH aZ n t)/\ ∀W:World,W.heap[mb]? =W0.heap[mb]?->
  (Instr.lookup 268 (.map (some mb)) (sv n t) true).run Tryz.prog W= .ok (.tuple #[iv x,.bool ok]) W:=by
 obtain⟨es,c,h1,h2⟩:=h;obtain⟨r,hr,hv⟩:=KT aZ n t es.toList h2;have Av: ∀W:World,W.heap[mb]? =W0.heap[mb]?->(getObj mb).run Tryz.prog W= .ok (.map es c) W:=fun W hW=>by
  simp[getObj,Sem.run,hW,h1]
 have hz: ∀W:World,(zeroValue 3).run Tryz.prog W= .ok (iv 0) W:=fun W=>by simp[go_sem]
 cases r with
 |none=>
  refine⟨0,false,(fun h=>by cases h),fun W hW=>?_⟩;simp[Instr.lookup,run_underlying Tryz.underlying268,Av W hW,uL,hr,hz]
 |some p=>
  obtain⟨j,v⟩:=p;obtain⟨rfl,_⟩:=hv j v rfl;refine⟨kH aZ n t,true,fun _=>rfl,fun W hW=>?_⟩;simp[Instr.lookup,run_underlying Tryz.underlying268,Av W hW,uL,hr]
theorem FH (n:Int) (t:Bool):Instr.sameBits 10000 (sv n t) (sv n t)=true:=by
 simp[Instr.sameBits]
theorem JS {W:World} {mb:Nat} {aZ:Int} (h:Cache W mb aZ) (n:Int) (t:Bool):
 ∃W',(Instr.mapUpdate 268 (.map (some mb)) (sv n t) (iv (kH aZ n t))).run Tryz.prog W= .ok () W'/\Cache W' mb aZ/\Ext [mb] W W':=by
 have uM:=h.lt;obtain⟨es,c,h1,h2⟩:=h;obtain⟨r,hr,hv⟩:=KT aZ n t es.toList h2;have Av:(getObj mb).run Tryz.prog W= .ok (.map es c) W:=by simp[getObj,Sem.run,h1]
 have Β: ∀Ο c',(setObj mb (.map Ο c')).run Tryz.prog W= .ok () {W with heap:=W.heap.setIfInBounds mb (.map Ο c')}:=fun Ο c'=>by
  simp[setObj,Sem.run,h1]
 have yt: ∀o:Obj,Ext [mb] W {W with heap:=W.heap.setIfInBounds mb o}:=fun o=>
  ⟨rfl,rfl,rfl,by simp,fun k _ hm=>by simp only[Array.getElem?_setIfInBounds];rw[ak (by simp at hm;omega)]⟩
 have D9: ∀Ο c',(∀e∈Ο.toList,Entry aZ e)->Cache {W with heap:=W.heap.setIfInBounds mb (.map Ο c')} mb aZ:=fun Ο c' he=>
  ⟨Ο,c',by simp[uM],he⟩
 cases r with
 |none=>
  refine⟨_,?_,D9 (es.push {key:=sv n t,val:=iv (kH aZ n t),born:=c}) (c+1) ?_,yt _⟩
  ·simp[Instr.mapUpdate,run_underlying Tryz.underlying268,Av,uL,hr,Β]
  ·intro e he;simp only[Array.toList_push,gq,dX] at he;rcases he with he|rfl
   ·exact h2 e he
   ·exact⟨n,t,rfl,rfl⟩
 |some p=>
  obtain⟨j,v⟩:=p;obtain⟨rfl,hj,e0,he0,hk0⟩:=hv j v rfl;have hje:es[j]? =some e0:=by simpa using he0
  refine⟨_,?_,D9 (es.modify j fun e=>{e with key:=sv n t,val:=iv (kH aZ n t)}) c ?_,yt _⟩
  ·simp[Instr.mapUpdate,run_underlying Tryz.underlying268,Av,uL,hr,Β,Instr.keyThatStays,hje,hk0,FH]
  ·intro e he;obtain⟨i,hi,rfl⟩:=lK he;simp only[Array.getElem_toList,Array.getElem_modify];split
   ·exact⟨n,t,rfl,rfl⟩
   ·exact h2 _ ϕ
abbrev Ut (h:bS) (a b c:Value) (mb:Nat):Array Value:=
 #[.int .i64 h.last,.int .i64 h.size,.int .i64 h.aZ,.int .i64 h.die,.int .i64 h.ny,.int .i64 h.start.1,.int .i64 h.start.2,a,b,c,.map (some mb)]
structure gN (W:World) (wb mb:Nat) (h:bS) (a b c:Value):Prop where
 cells:W.heap[wb]? =some (.cells (Ut h a b c mb) 270 (0,0))
 cache:Cache W mb h.aZ
theorem gN.ne {W:World} {wb mb:Nat} {h:bS} {a b c:Value} (hw:gN W wb mb h a b c):wb≠mb:=by
 intro e;obtain⟨es,k,h1,_⟩:=hw.cache;have:=hw.cells;rw[e,h1] at this;cases this
theorem gN.lt {W:World} {wb mb:Nat} {h:bS} {a b c:Value} (hw:gN W wb mb h a b c):wb<W.heap.size:=(aN.1 hw.cells).1
theorem gN.kept {W W':World} {wb mb:Nat} {h:bS} {a b c:Value} (hw:gN W wb mb h a b c) (h1:W'.heap[wb]? =W.heap[wb]?) (h2:W'.heap[mb]? =W.heap[mb]?):gN W' wb mb h a b c:=
 ⟨h1.trans hw.cells,hw.cache.kept h2⟩
theorem gN.below {W W':World} {wb mb:Nat} {h:bS} {a b c:Value} (hw:gN W wb mb h a b c) {B:Nat} (hb:Below B W W') (hB:W.heap.size<=B):gN W' wb mb h a b c:=
 hw.kept (hb.block _ (by have:=hw.lt;omega)) (hb.block _ (by have:=hw.cache.lt;omega))
theorem gN.ext {W W':World} {wb mb:Nat} {h:bS} {a b c:Value} (hw:gN W wb mb h a b c) (hE:Ext [mb] W W') (hc:Cache W' mb h.aZ):gN W' wb mb h a b c:=
 ⟨(hE.block wb hw.lt (by simpa using hw.ne)).trans hw.cells,hc⟩
theorem gN.cell {W:World} {wb mb:Nat} {h:bS} {a b c:Value} (hw:gN W wb mb h a b c) (i:Nat):W.cell? ⟨wb,i,none⟩=(Ut h a b c mb)[i]? :=by
 simp[World.cell?,hw.cells]
def XC (w:World) (h:bS) (a b c:Value) (e:Ending) (W:World):Prop:=
 ∃wb mb,e= .returned (.pointer (some ⟨wb,0,none⟩))/\w.heap.size<=wb/\w.heap.size<=mb/\gN W wb mb h a b c/\Ϙ w W
theorem Cu (h:bS) (ow ot ox:Option Addr) (nw cw nt ct nx cx:Nat) (w:World):
 Ϝ 130 #[hv h (.slice ow nw cw) (.slice ot nt ct) (.slice ox nx cx)] w (XC w h (.slice ow nw cw) (.slice ot nt ct) (.slice ox nx cx)):=by
 have hmm:= @run_makeMap Tryz.prog;go_enter Tryz.func130,Tryz.ntmps130;go_wp2;go_returns;refine⟨w.heap.size+2,w.heap.size+1,by simp,by omega,by omega,⟨fM _ _ _ _,#[],0,?_,by simp⟩,zl⟩;exact zbU
theorem Xh (h:bS) (a b c:Value) (wb mb:Nat) (n:Int) (t:Bool) (w:World) (hw:gN w wb mb h a b c) (hn0:0<=n) (hn1:n<=100000) (hc0:0<=h.aZ) (hc1:h.aZ<=100):
 Ϝ 216 #[.pointer (some ⟨wb,0,none⟩),sv n t] w (fun e w'=>e= .returned (iv (kH h.aZ n t))/\Cache w' mb h.aZ/\Ext [mb] w w'):=by
 have c2:=hw.cell 2;have c10:=hw.cell 10;have uM:=hw.lt;have hwc:=hw.cache;obtain⟨x,ok,hx,jY⟩:=RQ (hwc) n t;simp at c2 c10;have hm0:0<=n*h.aZ:=Int.mul_nonneg hn0 hc0;have Υ:n*h.aZ<=100000*100:=Int.mul_le_mul hn1 hc1 hc0 ϑ;have HW:=aa hw;have HC:=aa hwc;have HX:=aa hx;have HL:=aa jY;clear hw hwc hx jY;have hmb:=HC.o.lt;have HU:=aa (fun(W2:World) (hc:Cache W2 mb h.aZ)=>JS hc n t);cases ok
 ·cases t;all_goals
   go_enter Tryz.func216,Tryz.ntmps216;go_wp2_with fail
   refine zg 11 [] none [] ?_;simp only[zt];repeat (refine zd ?_;simp only[zp])
   refine eX ϱ _ ϱ (fun W hE _=>by have:=HL.o W ((hE.block mb ϗ ϕ).trans (aT _ _ _ hmb));go_simp;try rfl) ?_
   simp only[zp];repeat (refine zd ?_;simp only[zp])
   intro W hE hF;obtain⟨hc,hf⟩:=bH hE.below;have ig:=hE.size;(try simp only[bA] at ig)
   have hzw:wb<W.heap.size:=ϑ;have hz0:w.heap.size<W.heap.size:=ϑ;go_wp2_with fail
   refine zg 6 [] none [] ?_;simp only[zt];repeat (refine zd ?_;simp only[zp])
   intro W2 Ι hF2;have hW2:Ϙ w W2:=(aV (aV (ai (aF _ _) _) hE.below) Ι.below);clear hc hf ig hF hF2;obtain⟨W3,hrun,D9,yt⟩:=HU.o W2 (HC.o.kept (W':=W2) (hW2.block mb hmb));have HA:=aa D9;have HE:=aa yt;clear D9 yt;first|(simp only[show kH h.aZ n false=n from rfl] at hrun)|(simp only[show kH h.aZ n true=n-n*h.aZ/100 from rfl] at hrun)
   go_wp2_with fail
   go_returns;refine⟨by simp[kH],HA.o,?_⟩;have Ud:Ext [mb] w W2:=⟨hW2.os,hW2.tape,hW2.output,hW2.size,fun k hk _=>hW2.block k hk⟩;exact Ud.trans HE.o
 ·go_enter Tryz.func216,Tryz.ntmps216;go_wp2_with fail
  refine zg 11 [] none [] ?_;simp only[zt];repeat (refine zd ?_;simp only[zp])
  refine eX ϱ _ ϱ (fun W hE _=>by have:=HL.o W ((hE.block mb ϗ ϕ).trans (aT _ _ _ hmb));go_simp;try rfl) ?_
  simp only[zp];repeat (refine zd ?_;simp only[zp])
  intro W hE hF;obtain⟨hc,hf⟩:=bH hE.below;have ig:=hE.size;(try simp only[bA] at ig)
  have hW:Ϙ w W:=aV (ai (aF _ _) _) hE.below;go_wp2_with fail
  go_returns;refine⟨by rw[<-HX.o (by trivial)];simp,HC.o.kept (hW.block mb hmb),Ext.ax hW⟩
end Go.Proofs.Z.gZ
namespace Go.Proofs.Z.gZ
open Go.RowKit Go.RG Go.SL Go.Shelf gK
abbrev kz (l:List Int):Value:= .agg (ag l).toArray
theorem Cache.kV {W:World} {mb:Nat} {aZ:Int} (h:Cache W mb aZ) (o:Nat):W.cell? ⟨mb,o,none⟩=none:=by
 obtain⟨es,c,h1,_⟩:=h;simp[World.cell?,h1]
theorem sS (h:bS) (a b c:Value) (wb mb:Nat) (start:Int) (bJ turns:List Int) (ws ts:Value) (w:World) (hw:gN w wb mb h a b c) (hws:aL w ws bJ) (hts:aL w ts turns) (IY:bJ.length<=10)
 (hs0:0<=h.size) (hs1:h.size<=20) (hc0:0<=h.aZ) (hc1:h.aZ<=100) (h0:0<=start) (h1:start<=500) (Od: ∀x∈bJ,0<=x/\x<=20):
 Ϝ 133 #[.pointer (some ⟨wb,0,none⟩),.agg #[iv start,ws],ts] w
  (fun e w'=>e= .returned (kz (jZ h (start,bJ) turns))/\Cache w' mb h.aZ/\Ext [mb] w w'):=by
 have hbd:=GZ turns bJ hs0 hs1 hc0 hc1 h0 h1 Od;obtain⟨ow,cw,rfl⟩:=hws.open;obtain⟨ot,ct,rfl⟩:=hts.open;have HW:=aa hw;have HS:=aa hws;have HT:=aa hts;have HB:=aa hbd;have HX:=aa Od;have uM:=hw.lt;have hmb:=hw.cache.lt;clear hw hws hts hbd Od;go_enter Tryz.func133,Tryz.ntmps133;go_wp2_with fail
 go_loopw [7,15] (fun v7 i wr=> ∃k:Nat,k<=bJ.length/\i= .int .i64 k/\v7= .int .i64 (oZ h.size h.aZ turns start bJ k)/\gN wr wb mb h a b c/\
  wr.heap[w.heap.size+1]? =some (.cells (ag (oz h.size h.aZ turns start bJ k)).toArray 178 (0,0))/\Ext [mb] w wr)
  (fun _ i _=>bJ.length-(intOf i).toNat)
 case atStart=>
  exact⟨0,bE _,rfl,rfl,HW.o.below (ai (ai (aF _ _) _) _) (ah _),dm _ _ _,Ext.ax (ai (ai (aF _ _) _) _)⟩
 case round=>
  obtain⟨k,hk,rfl,rfl,hwk,ZX,hE0⟩:=hrel;have D6: ∀x∈[mb], ∀o,w.cell? ⟨x,o,none⟩=none:=fun x hx o=>by
   have:x=mb:=by simpa using hx
   subst this;exact HW.o.cache.kV o
  have hws:=HS.o.fq hE0 D6;have hts:=HT.o.fq hE0 D6;have hne:=hwk.ne;have hlt2:=hwk.lt;have τ:=hE0.size;have aoy:=hwk.cache.lt;have hb6:w.heap.size+1<wr.heap.size:=(aN.1 ZX).1;have ajP: ¬w.heap.size+1=mb:=ϑ;by_cases abZ:k<bJ.length
  ·obtain⟨bb,off,rfl,hbb,hcx⟩:=aL.cell hws abZ;have hx:=HX.o _ (bZ abZ);have hn:=HB.o k;have hnext:oZ h.size h.aZ turns start bJ (k+1)=kH h.aZ (oZ h.size h.aZ turns start bJ k) (turns.contains (k:Int))+h.size*bJ[k]/10:=by
    simp only[oZ,UJ];rw[show bJ.getD k 0=bJ[k] from by simp[abZ]]
   have hcd:=Hf hc0 hc1 hn.1 (turns.contains (k:Int));have Β:=Ja h.size h.aZ turns start bJ k ϑ;have ajK:=hwk.cell 1;simp at ajK;rw[hnext] at Β;have TS:=aa hnext;generalize oZ h.size h.aZ turns start bJ k=n at hn hcd Β TS;generalize bJ[k]=x at hcx hx Β TS;obtain⟨hx0,hx1⟩:=hx;obtain⟨hn0,hn1⟩:=hn;obtain⟨hd0,hd1⟩:=hcd;have hm0:0<=h.size*x:=Int.mul_nonneg hs0 hx0;have Υ:h.size*x<=20*20:=Int.mul_le_mul hs1 hx1 hx0 ϑ;have hk10:(k:Int)<10:=ϑ;have ac9:=aa Β;have alb:=aa ZX;have HE0:=aa hE0;have Co:=aa hwk;have HWS:=aa hws;have HTS:=aa hts;have aqg:=aa D6;clear hnext Β ZX hE0 hwk hws hts D6;have HNC:Hid (∀x∈[mb], ∀o,wr.cell? ⟨x,o,none⟩=none):=fun x hx o=>by
    have:x=mb:=by simpa using hx
    subst this;exact Co.o.cache.kV o
   generalize hcb:turns.contains (k:Int)=tb at hd0 hd1 ac9 TS;have HCB:=aa hcb;clear hcb;generalize hcd:kH h.aZ n tb=cn at hd0 hd1 ac9 TS;have HCD:=aa hcd;clear hcd;go_wp2_with fail
   refine zg 16 [mb] (some 6) [(4,Spec.val (.bool tb)),(6,⟨fun _ v=>v=iv cn,fun _ _ Wa=>Cache Wa mb h.aZ⟩)] ?_;simp only[zt];repeat (refine zd ?_;simp only[zp])
   refine dL _ ϱ ϱ 147 _ (fun Wa hW=>by go_simp;try rfl) (fun Wa hE hF=>by have:=gz turns (.slice ot turns.length ct) (k:Int) Wa (HTS.o.fq hE HNC.o);rw[HCB.o] at this;exact this) ?_
   simp only[zp];repeat (refine zd ?_;simp only[zp])
   refine aY _ ϱ ϱ ⟨_,rfl⟩ (fun Wa hE hF=>?_) (fun v Wa Wb hc hE=>?_) (fun v hv=>?_)
   ·have Iq:Ext [] wr Wa:=hE;refine bM 216 #[.pointer (some ⟨wb,0,none⟩),sv n tb] (by go_simp;try rfl) ?_;refine(Xh h a b c wb mb n tb Wa (Co.o.below Iq.below (ah _)) hn0 ϑ hc0 hc1).mono ?_;rintro e Wb ⟨rfl,ο,Ι⟩;exact⟨_,rfl,by rw[HCD.o],ο,Ι⟩
   ·exact zbO
   obtain rfl:v=iv cn:=hv;simp only[zp];repeat (refine zd ?_;simp only[zp])
   intro Wa hE hF;have hCW:Cache Wa mb h.aZ:=hF _ (aW _);have Qp:=(hE.block (w.heap.size+1) hb6 (by simpa using ajP)).trans alb.o;have hfr:=bn Qp;have hck:=fD Qp (show k<(oz h.size h.aZ turns start bJ k).length by rw[jK];omega)
   have HCW:=aa hCW;have MP:=aa Qp;have HEW:=aa hE;clear hF hCW Qp hE;go_wp2_with fail
   go_roundw
   case rel=>
    refine⟨k+1,by omega,by go_num,by rw[TS.o],?_,?_,?_⟩
    ·exact((Co.o.ext HEW.o HCW.o).kept (bV _ _ _ _ (by show wb≠w.heap.size+1;omega)) (bV _ _ _ _ (by show mb≠w.heap.size+1;omega)))
    ·rw[ac9.o, <-qC];exact aA MP.o _
    ·exact(HE0.o.trans HEW.o).set (by show w.heap.size<=w.heap.size+1;omega) _
   case measure=>simp[intOf];omega
  ·have Y9:k=bJ.length:=ϑ;obtain⟨y0,y1,y2,y3,y4,y5,y6,y7,y8,y9,hy⟩:=Af (jK h.size h.aZ turns start bJ k);have μ:jZ h (start,bJ) turns=[y0,y1,y2,y3,y4,y5,y6,y7,y8,y9]:=by rw[<-hy,Y9];rfl
   rw[hy] at ZX;have hfr:=bn ZX;have hcs: ∀i,wr.cell? ⟨w.heap.size+1,i,none⟩=(#[iv y0,iv y1,iv y2,iv y3,iv y4,iv y5,iv y6,iv y7,iv y8,iv y9]:Array Value)[i]? :=fun i=>by
    simp only[World.cell?,ZX];rfl
   have zR:=aa μ;have HE0:=aa hE0;have Co:=aa hwk;clear μ hy ZX hE0 hwk hws hts D6;go_wp2_with fail
   (try simp only[Exit.inBlock,Exit.then])
   refine bodyPost_ret (v:= .agg #[iv y0,iv y1,iv y2,iv y3,iv y4,iv y5,iv y6,iv y7,iv y8,iv y9]) (by simp[results,Tryz.results133,go_sem,hcs]) rfl ⟨by rw[zR.o];rfl,?_,?_⟩
   ·refine Co.o.cache.kept ?_;repeat rw[bV _ _ _ _ (by show mb≠w.heap.size+1;omega)]
   ·repeat (refine Ext.set ?_ (by show w.heap.size<=w.heap.size+1;omega) _)
    exact HE0.o
end Go.Proofs.Z.gZ
namespace Go.Proofs.Z.gZ
open Go.RowKit Go.RG Go.SL Go.Shelf gK
def A8 (t:TypeId) (size n:Nat) (xs:List Value) (w:World) (e:Ending) (w':World):Prop:= ∃v,e= .returned v/\w'.ownsRow w.heap.size t size v n xs/\Ϙ w w'
theorem w9 (l:List Int) (v:Value) (w:World) (hv:aL w v l) (IY:l.length<=1000):
 Ϝ 91 #[v] w (A8 3 1 l.length (ag l) w):=by
 obtain⟨o,c,rfl⟩:=hv.open;exact zcw
end Go.Proofs.Z.gZ
namespace Go.Proofs.Z.gZ
open Go.RowKit Go.RG Go.SL Go.Shelf gK
theorem Cache.IL {W:World} {mb:Nat} {aZ:Int} (h:Cache W mb aZ) (cs:Array Value) (t:TypeId) (f:Nat×Nat):W.heap[mb]?≠some (Obj.cells cs t f):=by
 obtain⟨es,c,h1,_⟩:=h;rw[h1];intro e;cases e
theorem YH {w:World} {b:Nat} {t:TypeId} {fr:Nat×Nat} {a0 a1 a2 a3 a4 a5 a6 a7 a8 a9:Value} (h:w.heap[b]? =some (.cells #[a0,a1,a2,a3,a4,a5,a6,a7,a8,a9] t fr)) (y0 y1 y2 y3 y4 y5 y6 y7 y8 y9:Value):
 ((((((((((w.setCell ⟨b,0,none⟩ y0).setCell ⟨b,1,none⟩ y1).setCell ⟨b,2,none⟩ y2).setCell ⟨b,3,none⟩ y3).setCell ⟨b,4,none⟩ y4).setCell ⟨b,5,none⟩ y5).setCell ⟨b,6,none⟩ y6).setCell ⟨b,7,none⟩ y7).setCell ⟨b,8,none⟩ y8).setCell ⟨b,9,none⟩ y9).heap[b]? =some (.cells #[y0,y1,y2,y3,y4,y5,y6,y7,y8,y9] t fr):=by
 have:=(aA (o:=9) (aA (o:=8) (aA (o:=7) (aA (o:=6) (aA (o:=5) (aA (o:=4) (aA (o:=3) (aA (o:=2) (aA (o:=1) (aA (o:=0) h y0) y1) y2) y3) y4) y5) y6) y7) y8) y9);simpa using this
theorem I6 (h:bS) (a b c:Value) (n:Nat) (w:World) (h0:0<=h.last) (h9:h.last<=9) (hn:h.last+1=n):Ϝ 93 #[hv h a b c] w (PV (iv n) w):=by
 rw[<-hn];exact qg h a b c w h0 h9
end Go.Proofs.Z.gZ
namespace Go.Proofs.Z.gZ
open Go.RowKit Go.RG Go.SL Go.Shelf gK
attribute [local go_sem] Oper.semAt_some
structure Bd (W:World) (n bx iD bo bc ob l:Nat) (o:List Int):Prop where
 y:W.heap[iD]? =some (.cells #[.func (.yield l) #[] #[]] 163 (0,0))
 out:W.heap[bo]? =some (.cells #[.slice (some ⟨ob,0,none⟩) n n] 52 (0,0))
 ch:W.heap[bc]? =some (.cells #[.func (.func 234) #[] #[.pointer (some ⟨bx,0,none⟩),.pointer (some ⟨iD,0,none⟩),.pointer (some ⟨bo,0,none⟩),.pointer (some ⟨bc,0,none⟩)]] 274 (0,0))
 cells:W.heap[ob]? =some (.cells (ag o).toArray 3 (0,0))
theorem Bd.kept {W W':World} {n bx iD bo bc ob l:Nat} {o:List Int} (h:Bd W n bx iD bo bc ob l o) (hk: ∀m∈[ob,iD,bo,bc],m<W.heap.size->W'.heap[m]? =W.heap[m]?):Bd W' n bx iD bo bc ob l o:=
 ⟨(hk _ ϕ (aN.1 h.y).1).trans h.y,(hk _ ϕ (aN.1 h.out).1).trans h.out,(hk _ ϕ (aN.1 h.ch).1).trans h.ch,(hk _ ϕ (aN.1 h.cells).1).trans h.cells⟩
theorem Bd.below {W W':World} {n bx iD bo bc ob l:Nat} {o:List Int} (h:Bd W n bx iD bo bc ob l o) (hb:Ϙ W W'):Bd W' n bx iD bo bc ob l o:=
 ⟨(hb.block _ (aN.1 h.y).1).trans h.y,(hb.block _ (aN.1 h.out).1).trans h.out,(hb.block _ (aN.1 h.ch).1).trans h.ch,(hb.block _ (aN.1 h.cells).1).trans h.cells⟩
theorem Bd.set {W:World} {n bx iD bo bc ob l:Nat} {o:List Int} (h:Bd W n bx iD bo bc ob l o) (hd1:iD≠ob) (hd2:bo≠ob) (hd3:bc≠ob) (i:Nat) (x:Int):Bd (W.setCell ⟨ob,i,none⟩ (iv x)) n bx iD bo bc ob l (o.set i x):=
 ⟨(bV _ _ _ _ hd1).trans h.y,(bV _ _ _ _ hd2).trans h.out,(bV _ _ _ _ hd3).trans h.ch,by rw[<-qC];exact aA h.cells _⟩
def aa1 (Ms:List Nat) (x:List Int) (v:Value) (W:World):Prop:=
 ∃ob:Nat,v= .slice (some ⟨ob,0,none⟩) x.length x.length/\W.heap[ob]? =some (.cells (ag x).toArray 3 (0,0))/\ob∈Ms
def uS (bx:Nat) (v:Value) (R:List dF) (W:World):Prop:=W.heap[bx]? =some (.cells #[v] 51 (0,0))/\bD W v R
theorem OV (R:List dF) (hR: ∀r∈R,0<=r.1/\r.1<=r.2/\r.2<=500) (hn:R.length<=100) (bx iD bo bc ob l:Nat) (hd1:iD≠ob) (hd2:bo≠ob) (hd3:bc≠ob) (v:Value) (J:List Nat->Option Nat->World->Prop)
 (hInv: ∀Ms s W1,J Ms s W1->uS bx v R W1)
 (hstep: ∀Ms jc s W1 W2,J Ms s W1->Ext Ms W1 W2->(∀m∈jc,m∈Ms∨(W1.heap.size<=m/\m<W2.heap.size))->True->J jc s W2)
 (hY: ∀Ms k v W1 (hk:k<(ed R).length),J Ms (some k) W1->aa1 Ms (ed R)[k] v W1->YieldAt Fence.wide 0 Tryz.prog l #[v] W1 fun e W'=>
   ((∀m∈Ms,m∉[]->m<W1.heap.size->W'.heap[m]? =W1.heap[m]?)/\W1.heap.size<=W'.heap.size)/\((e= .returned (.bool true)/\J Ms (some (k+1)) W')∨(e= .returned (.bool false)/\J Ms none W'))):
 ∀(m i k:Nat) (Ρ:List Int) (W:World) (o:List Int),i+m=R.length->Ρ.length=i->o.length=R.length->o.take i=Ρ->iO R i k Ρ->Bd W R.length bx iD bo bc ob l o->J [ob,iD,bo,bc] (some k) W->
  CallsIn Fence.wide 0 Tryz.prog 234 #[iv i,.pointer (some ⟨bx,0,none⟩),.pointer (some ⟨iD,0,none⟩),.pointer (some ⟨bo,0,none⟩),.pointer (some ⟨bc,0,none⟩)] W
   (fun e W'=>(e= .returned (.bool true)/\J [ob,iD,bo,bc] (some (k+(ed (R.drop i)).length)) W'/\ ∃o',o'.length=R.length/\o'.take i=Ρ/\Bd W' R.length bx iD bo bc ob l o')∨
     (e= .returned (.bool false)/\J [ob,iD,bo,bc] none W')):=by
 intro m;induction m with
 |zero=>
  intro i k Ρ W o him hpl hol hot hat Y6 hJ;obtain rfl:i=R.length:=ϑ;obtain⟨hone,hk,hx⟩:=hat.last rfl;rw[hone];obtain rfl:o=Ρ:=by rw[<-hot, <-hol,List.take_length]
  obtain⟨hbx,Y5⟩:=hInv _ _ _ hJ;obtain⟨f1,t1,a1,b1,hy1,Ec⟩:=hY _ k (.slice (some ⟨ob,0,none⟩) R.length R.length) W hk hJ (by rw[hx];exact⟨ob,by rw[hol],Y6.cells,by simp⟩);have MM:=aD hbx;have O4:=aD Y6.y;have OU:=aD Y6.out;have IY:=Y5.len;obtain⟨so,sc,rfl⟩:=Y5.open;have HR:=aa Ec;have HS:=aa Y6;clear hInv hstep hY Ec Y6 hJ hbx Y5 hat;refine callsIn_of_wp Tryz.func234 rfl trivial ?_;simp only[Tryz.ntmps234,List.size_toArray,List.length_cons,List.length_nil,Nat.reduceAdd,Nat.reduceSub,Array.replicate_succ,Array.replicate_zero,jy,jA,List.nil_append,List.cons_append]
  gi_wp2_with fail
  refine HR.out.mono ?_;rintro e W' ⟨⟨Oa,τ⟩,⟨rfl,hJ⟩|⟨rfl,hJ⟩⟩
  ·have HJ:=aa hJ;have HK:=aa Oa;clear hJ Oa
   gi_wp2_with fail
   go_returns;exact .inl ⟨by simp,HJ.out,o,hol,hot,HS.out.kept (fun m hm mP=>HK.out m hm ϕ mP)⟩
  ·have HJ:=aa hJ;have HK:=aa Oa;clear hJ Oa
   gi_wp2_with fail
   go_returns;exact .inr ⟨by simp,HJ.out⟩
 |succ m ih=>
  intro i k Ρ W o him hpl hol hot hat Y6 hJ;have hi:i<R.length:=ϑ;have ψ:=iO.count hi;obtain⟨hr0,hr1,hr2⟩:=hR R[i] (bZ hi);obtain⟨hbx,Y5⟩:=hInv _ _ _ hJ;have MM:=aD hbx;have O4:=aD Y6.y;have OU:=aD Y6.out;have ZW:=aD Y6.ch;have IY:=Y5.len;obtain⟨so,sc,rfl⟩:=Y5.open;obtain⟨b,off,rfl,hb,cf2,cl2⟩:=bD.cell Y5 hi;have HAT:=aa hat;have HI:=aa hInv;have π:=aa hstep;have HS:=aa Y6;have HJ:=aa hJ;have Uk:=aa ih;have HSL:=aa Y5;have HBX:=aa hbx;have hiI:(i:Int)<R.length:=ϑ;have hne:(i:Int)≠R.length:=ϑ;have D5:((i:Int)==R.length)=false:=by simpa using hne
  have HN:Hid (iO R i k Ρ/\i<R.length):=aa ⟨hat,hi⟩;have Ic:=aa (af hol hot);have HCT:=aa ψ;have hsize: ∃z:Nat,dQ R[i]=z/\z<=501:=⟨(dQ R[i]).toNat,by unfold dQ;omega,by unfold dQ;omega⟩;obtain⟨z,hz,aly⟩:=hsize;have TS:Hid (∀c:Nat,c<z->iO R (i+1) (k+c*(ed (R.drop (i+1))).length) (Ρ++[R[i].1+(c:Int)])):=aa (fun c hc=>hat.next hi c ϑ);have HCZ:Hid ((ed (R.drop i)).length=z*(ed (R.drop (i+1))).length):=aa (by rw[ψ,hz];simp);clear hInv hstep hY hat Y6 hJ ih Y5 hbx ψ hne hol hot hR;generalize BA:R[i]=r at*
  have HRI:=aa BA;clear BA;have HZ:=aa hz;clear hz HCT;have hbs:=dB W _ MM;have Ε:=dB W _ O4;have hos:=dB W _ OU;have hcs:=dB W _ ZW;refine callsIn_of_wp Tryz.func234 rfl trivial ?_;simp only[Tryz.ntmps234,List.size_toArray,List.length_cons,List.length_nil,Nat.reduceAdd,Nat.reduceSub,Array.replicate_succ,Array.replicate_zero,jy,jA,List.nil_append,List.cons_append]
  gi_wp2_with fail
  refine((callsIn_wide.2 (J2 r W hr0 hr1 ϑ))).mono ?_;rintro e W1 ⟨rfl,δ⟩;rw[HZ.out];have R9:=aa δ;obtain⟨hc,hf⟩:=bH δ;clear δ
  gi_wp2_with fail
  have aeL:Bd W1 R.length bx iD bo bc ob l o:=HS.out.below R9.out;have BZ:J [ob,iD,bo,bc] (some k) W1:=π.out _ _ _ _ _ HJ.out (Ext.ax R9.out) (fun m hm=> .inl hm) trivial;have Jz:=aa aeL;have HJ1:=aa BZ;clear aeL BZ hc hf
  gi_loopw [7,20] (fun _ u wr=> ∃c:Nat,c<=z/\u= .int .i64 c/\ ∃o':List Int,o'.length=R.length/\o'.take i=Ρ/\Bd wr R.length bx iD bo bc ob l o'/\J [ob,iD,bo,bc] (some (k+c*(ed (R.drop (i+1))).length)) wr)
   (fun _ u _=>z-(intOf u).toNat)
  case atStart=>exact⟨0,bE _,rfl,o,Ic.out.1,Ic.out.2,Jz.out,by simpa using HJ1.out⟩
  case round=>
   obtain⟨c,hcz,rfl,o',ho1,ho2,Y6,hJ⟩:=hrel;by_cases uM:c<z
   ·obtain⟨hbx,Y5⟩:=HI.out _ _ _ hJ;have d1:=aD hbx;have d2:=aD Y6.y;have d3:=aD Y6.out;have d4:=aD Y6.ch;have ao5:=dB wr _ d1;have ao4:=dB wr _ d2;have ao3:=dB wr _ d3;have ao2:=dB wr _ d4;obtain⟨b',off',hbb,hb',e0,e1⟩:=bD.cell Y5 HN.out.2;cases hbb;rw[HRI.out] at e0 e1;have Zm:i<o'.length:=ϑ;have d5:=fD Y6.cells Zm;have ao1:=dB wr _ d5;have hfr:=bn Y6.cells;have EY:=aa Y6;have PI:=aa hJ;have HO:=aa (af ho1 ho2);clear Y6 hJ hbx Y5 ho1 ho2 MM O4 OU ZW cf2 cl2;have oK:(c:Int)<z:=ϑ
    gi_wp2_with fail
    refine Ct 10 [] none [] ϰ ϰ ϰ ?_;simp only[zt];repeat (refine zn ?_;simp only[zp])
    intro W hE hF;obtain⟨hc,hf⟩:=bH hE.below;have ig:=hE.size;(try simp only[bA] at ig)
    have HE:=aa hE.below;clear hE hF
    gi_wp2_with fail
    have Dw:=(EY.out.below HE.out).set hd1 hd2 hd3 i (r.1+(c:Int));have WL:J [ob,iD,bo,bc] (some (k+c*(ed (R.drop (i+1))).length)) (W.setCell ⟨ob,i,none⟩ (iv (r.1+(c:Int)))):=
     π.out _ _ _ _ _ (π.out _ _ _ _ _ PI.out (Ext.ax HE.out) (fun m hm=> .inl hm) trivial) ((jo W ⟨ob,i,none⟩ _).more (fun x hx=>by simp at hx;subst hx;simp)) (fun m hm=> .inl hm) trivial
    have qY:=Uk.out (i+1) _ (Ρ++[r.1+(c:Int)]) _ (o'.set i (r.1+(c:Int))) ϑ (by simp[hpl]) (by simp[HO.out.1]) (by
     rw[List.take_set];rw[pE,HO.out.2];have Zm:i<o'.length:=by have:=HO.out.1;omega
     rw[dn Zm];simp[nZ,hpl]) (TS.out c uM) Dw WL
    rw[show((i+1:Nat):Int)=(i:Int)+1 from by omega] at qY;have zS:=aa qY;clear qY Dw WL;refine zS.out.mono ?_;rintro e W2 (⟨rfl,hJ2,o2,ho1,ho2,Dx⟩|⟨rfl,hJ2⟩)
    ·have HJ2:=aa hJ2;have Pp:=aa Dx;have zX:=aa (af ho1 ho2);clear hJ2 Dx ho1 ho2 hc hf d1 d2 d3 d4 d5 hfr e0 e1
     gi_wp2_with fail
     go_roundw
     case rel=>
      exact zbr
     case measure=>simp[intOf];omega
    ·have HJ2:=aa hJ2;clear hJ2 hc hf d1 d2 d3 d4 d5 hfr e0 e1
     gi_wp2_with fail
     go_returns;exact .inr ⟨by simp,HJ2.out⟩
   ·exact zby
end Go.Proofs.Z.gZ
namespace Go.Proofs.Z.gZ
open Go.RowKit Go.RG Go.SL Go.Shelf gK
theorem tF (n:Nat) (hn:n<=1000) (W:World):
 (Instr.makeSlice 52 (iv n) (iv n)).run Tryz.prog W= .ok (.slice (some ⟨W.heap.size,0,none⟩) n n) (W.alloc (.cells (ag (List.replicate n 0)).toArray 3)):=by
 obtain⟨i,hi,hz,hs,hby⟩:=info_parts oF.info;have:=run_make (P:=Tryz.prog) W 52 3 i (iv 0) oF.und hi hz .i64 .i64 n n ϑ (Int.le_refl _) (by rw[hby];omega) ϑ;rw[this,hs];exact zbT
theorem kG (w:World) (A B C D:Obj):((((w.alloc A).alloc B).alloc C).alloc D).heap[w.heap.size+1+1+1]? =some D:=by
 have:=heap_alloc_new (((w.alloc A).alloc B).alloc C) D;rwa [bA,bA,bA] at this
theorem RU (R:List dF) (hR: ∀r∈R,0<=r.1/\r.1<=r.2/\r.2<=500) (hn:R.length<=100) (bx:Nat) (v:Value):
 TI Tryz.prog 233 #[.pointer (some ⟨bx,0,none⟩)] (ed R) aa1 [] (fun _=>True) (uS bx v R):=by
 intro l J W hInv hstep hY h0;obtain⟨hbx,Y5⟩:=hInv _ _ _ h0;have hch:=fun iD bo bc ob hd1 hd2 hd3=>OV R hR hn bx iD bo bc ob l hd1 hd2 hd3 v J hInv hstep hY;have c1:=aD hbx;have δ:=dB W _ c1;have IY:=Y5.len;obtain⟨so,sc,rfl⟩:=Y5.open;have HCH:=aa hch;have π:=aa hstep;have HJ:=aa h0;have hmk:=tF R.length ϑ;have I7: ∀(A B C:Obj) (v:Value) (t:TypeId),((((W.alloc A).alloc B).alloc C).alloc (.cells #[v] t)).cell? ⟨W.heap.size+1+1+1,0,none⟩=some v:=fun A B C v t=>aD (kG W A B C _);have hf3: ∀(A B C:Obj) (v:Value) (t:TypeId),((((W.alloc A).alloc B).alloc C).alloc (.cells #[v] t)).frozen? ⟨W.heap.size+1+1+1,0,none⟩=false:=fun A B C v t=>bn (kG W A B C _) 0;clear hInv hstep hY hch h0 hbx Y5 hR;go_enter Tryz.func233,Tryz.ntmps233;go_wp2_with fail
 refine(callsIn_wide.1 (HCH.o W.heap.size (W.heap.size+1+1) (W.heap.size+1+1+1) (W.heap.size+1) ϑ ϑ ϑ R.length 0 0 [] _ (List.replicate R.length 0) ϑ rfl ϕ ϕ (iO.zero R) ⟨?_,?_,?_,?_⟩
  (π.o _ _ _ _ _ HJ.o (Ext.ax zl) (fun m hm=> .inr (by simp at hm;(first|omega|(simp;omega)))) trivial))).mono ?_
 ·exact zb3
 ·exact((aT _ _ _ ϕ).trans (fM _ _ _ _))
 ·exact kG _ _ _ _ _
 ·exact((aT _ _ _ ϕ).trans ((aT _ _ _ ϕ).trans (dm _ _ _)))
 ·rintro e W2 (⟨rfl,hJ2,_⟩|⟨rfl,hJ2⟩)
  ·have HJ2:=aa hJ2;clear hJ2 I7 hf3 hmk;go_wp2_with fail
   go_end0
   exact⟨⟨_,rfl⟩,_,.inl (by simpa using HJ2.o)⟩
  ·have HJ2:=aa hJ2;clear hJ2 I7 hf3 hmk;exact zbK
theorem RV (o:Option Addr) (n c:Nat) (w:World):
 Ϝ 145 #[.slice o n c] w (fun e w'=>e= .returned (.func (.func 233) #[] #[.pointer (some ⟨w.heap.size,0,none⟩)])/\w'=w.alloc (.cells #[.slice o n c] 51)):=by
 go_enter Tryz.func145,Tryz.ntmps145;exact zbE
end Go.Proofs.Z.gZ
namespace Go.Proofs.Z.gZ
open Go.RowKit Go.RG Go.SL Go.Shelf gK
attribute [local go_sem] Oper.semAt_some
theorem Nq (h:bS) (o:Option Addr) (cc:Nat) (b c:Value) (w:World) (hw:bD w (.slice o h.bJ.length cc) h.bJ) (IY:h.bJ.length<=1000):
 Ϝ 146 #[hv h (.slice o h.bJ.length cc) b c] w (A8 50 2 (h.bJ.length+1) (aB (h.start::h.bJ)) w):=by
 have HW:=aa hw;clear hw;go_enter Tryz.func146,Tryz.ntmps146;go_wp2_with (at_builtin;refine ek rfl _ _ CJ rfl (w.heap.size+1) (.slice (some ⟨w.heap.size+1,0,none⟩) 1 1) 1 [iv h.start.1,iv h.start.2] rfl ?_ (.slice o h.bJ.length cc) h.bJ.length (aB h.bJ) rfl ?_ (kF _) ϑ ϑ ϕ ?_)
 ·exact gF (dm _ _ _) rfl (ah _) ϖ
 ·exact(HW.o.alloc _).alloc _
 ·intro v' w1 Gm ε;have HO:=aa Gm;have HG:=aa ε;clear Gm ε;go_wp2;go_returns;refine⟨v',by simp,?_,?_⟩
  ·have:=HO.o;rw[Nat.add_comm 1 h.bJ.length] at this;exact⟨this.1,this.2.imp id (fun⟨g,cap,cur,h1,h2,h3⟩=>⟨g,cap,cur,h1,by omega,h3⟩)⟩
  ·exact zb6
theorem Ng (ob n:Nat) (hn:1<=n) (W:World):
 (Instr.slice 52 (.slice (some ⟨ob,0,none⟩) (n+1) (n+1)) (some (iv 1)) none none).run Tryz.prog W= .ok (.slice (some ⟨ob,1,none⟩) n n) W:=by
 have h0: ¬n+1=1:=ϑ;have h1:(1:Int)<=((n+1:Nat):Int):=ϑ;have:=run_slice_l (P:=Tryz.prog) W 52 (some ⟨ob,0,none⟩) (n+1) (n+1) ϰ .i64 1 ϑ h1;rw[this];have h2: ¬n=0:=ϑ;simp[go_sem,sliced,h2]
theorem vN (P:Program) {w:World} {g:Nat} {t:TypeId} {cur:Array Value} (ys:List Int) (hg:w.heap[g]? =some (.cells cur t (0,0))) (hl:cur.size=ys.length):
 ∃w',(storeCells ⟨g,0,none⟩ (ag ys)).run P w= .ok () w'/\w'.heap[g]? =some (.cells (ag ys).toArray t (0,0))/\Ext [g] w w':=by
 have hil:(ag ys).length=ys.length:=by simp[ag]
 have h:=run_storeCells_at P g 0 t (ag ys) 0 cur w hg ϑ (ic ys);exact zbZ
structure TG (wb mb bw bo:Nat) (h:bS) (a b c ov:Value) (out:List Int) (W:World):Prop where
 w:W.heap[bw]? =some (.cells #[.pointer (some ⟨wb,0,none⟩)] 170 (0,0))
 o:W.heap[bo]? =some (.cells #[ov] 52 (0,0))
 work:gN W wb mb h a b c
 bJ:bD W a h.bJ
 turns:aL W b h.turns
 readings:aU W c h.readings
 out:aL W ov out
theorem TG.below {wb mb bw bo:Nat} {h:bS} {a b c ov:Value} {out:List Int} {W W':World} (t:TG wb mb bw bo h a b c ov out W) (hb:Ϙ W W'):TG wb mb bw bo h a b c ov out W':=
 ⟨(hb.block _ (aN.1 t.w).1).trans t.w,(hb.block _ (aN.1 t.o).1).trans t.o,t.work.below hb (ah _),t.bJ.below hb (ah _),t.turns.below hb (ah _),
   t.readings.below hb (ah _),t.out.below hb (ah _)⟩
theorem AP {Ms:List Nat} {a b c:World} {x:Nat} (h:Ext Ms a b) (k:Ext [x] b c) (hx:a.heap.size<=x):Ext Ms a c:=
 ⟨k.os.trans h.os,k.tape.trans h.tape,k.output.trans h.output,eU h.size k.size,
   fun i hi hm=>(k.block i (eF hi h.size) ϗ).trans (h.block i hi hm)⟩
theorem aar {l n:Nat} {P:Program} {ops:Array Oper} {Q:Exit->Act->World->Prop} {a:Act} {w:World} {rest:List Oper} {o:Oper} (hw:Region.wanted o (yielded ops a.tmps)=false)
 (h:wpListIn (Fence.wide.inRound l) n P ops Q rest (a.put o.dst undef) w):wpListIn (Fence.wide.inRound l) n P ops Q (o::rest) a w:=by
 simp only[wpListIn,hw];exact⟨fun _ _=>trivial,h⟩
theorem kT (q:Nat) (f:Nat->Bool):(List.range (q+1)).all f=((List.range q).all f&&f q):=by
 rw[List.range_succ,List.all_append];simp
theorem Ap {W:World} {mb b:Nat} {aZ:Int} {cs:Array Value} {t:TypeId} {f:Nat×Nat} (hc:Cache W mb aZ) (h:W.heap[b]? =some (Obj.cells cs t f)): ¬b=mb:=by
 intro e;subst e;exact hc.IL _ _ _ h
def acV (mb:Nat) (Ms:List Nat) (t:Int×List Int) (v:Value) (W:World):Prop:=
 ∃ob:Nat,v= .agg #[iv t.1,.slice (some ⟨ob,1,none⟩) t.2.length t.2.length]/\aL W (.slice (some ⟨ob,1,none⟩) t.2.length t.2.length) t.2/\ob∈Ms/\ob≠mb
abbrev MJ (mb tb bx rb d:Nat):List Nat:=[mb,tb,bx,rb,d,d+1]
structure zO (l mb tb bx rb d cap:Nat) (R:List dF) (Ms:List Nat) (W:World):Prop where
 y:W.heap[tb]? =some (.cells #[.func (.yield l) #[] #[]] 288 (0,0))
 box:uS bx (.slice (some ⟨rb,0,none⟩) R.length cap) R W
 apart: ∀m∈Ms,m∉MJ mb tb bx rb d
 small: ∀p∈MJ mb tb bx rb d,p<W.heap.size
theorem uS.kept {bx rb cap:Nat} {R:List dF} {n:Nat} {W W':World} (h:uS bx (.slice (some ⟨rb,0,none⟩) n cap) R W) (h1:W'.heap[bx]? =W.heap[bx]?) (h2:W'.heap[rb]? =W.heap[rb]?):
 uS bx (.slice (some ⟨rb,0,none⟩) n cap) R W':=
 ⟨h1.trans h.1,h.2.kept fun b off n c hv _=>by cases hv;exact h2⟩
theorem zO.kept {l mb tb bx rb d cap:Nat} {R:List dF} {Ms jc:List Nat} {W W':World} (h:zO l mb tb bx rb d cap R Ms W) (hs:W.heap.size<=W'.heap.size) (hk: ∀p∈[tb,bx,rb],W'.heap[p]? =W.heap[p]?)
 (η: ∀m∈jc,m∈Ms∨(W.heap.size<=m/\m<W'.heap.size)):zO l mb tb bx rb d cap R jc W':=
 ⟨(hk _ ϕ).trans h.y,h.box.kept (hk _ ϕ) (hk _ ϕ),fun m hm hp=>by
   rcases η m hm with h1|h1
   ·exact h.apart m h1 hp
   ·have:=h.small m hp;omega,fun p hp=>by have:=h.small p hp;omega⟩
theorem zO.ext {l mb tb bx rb d cap:Nat} {R:List dF} {Ms jc:List Nat} {W W':World} (h:zO l mb tb bx rb d cap R Ms W) (hE:Ext Ms W W')
 (η: ∀m∈jc,m∈Ms∨(W.heap.size<=m/\m<W'.heap.size)):zO l mb tb bx rb d cap R jc W':=
 h.kept hE.size (fun p hp=>hE.block p (h.small p (by simp at hp⊢;omega)) (fun hm=>h.apart p hm (by simp at hp⊢;omega))) η
section
variable {l mb tb bx rb d cap : Nat} {R : List dF} {wb bw bo : Nat} {h : bS} {a b c ov : Value} {out : List Int} {J : List Nat → Option Nat → World → Prop}
  (hInv : ∀ Ms s W1, J Ms s W1 → TG wb mb bw bo h a b c ov out W1)
  (hstep : ∀ Ms jc s W1 W2, J Ms s W1 → Ext Ms W1 W2 → (∀ m ∈ jc, m ∈ Ms ∨ (W1.heap.size ≤ m ∧ m < W2.heap.size)) → Cache W2 mb h.aZ → J jc s W2)
include hInv hstep
theorem QL {Ms jc:List Nat} {s:Option Nat} {W1 W2:World} (hp:zO l mb tb bx rb d cap R Ms W1) (hJ:J (MJ mb tb bx rb d++Ms) s W1) (hE:Ext Ms W1 W2) (η: ∀m∈jc,m∈Ms∨(W1.heap.size<=m/\m<W2.heap.size)):
 J (MJ mb tb bx rb d++jc) s W2:=by
 refine hstep _ _ _ _ _ hJ (hE.more fun x hx=>qX _ hx) ?_ ?_
 ·intro m hm;rcases gq.1 hm with h1|h1
  ·exact .inl (mq _ h1)
  ·exact(η m h1).imp (fun h2=>qX _ h2) id
 ·have hc:=(hInv _ _ _ hJ).work.cache;exact hc.kept (hE.block _ hc.lt (fun hm=>hp.apart _ hm ϕ))
theorem Mx {Ms:List Nat} {s:Option Nat} {W:World} {r:Nat} (o:Obj) (hr:r∈MJ mb tb bx rb d) (hm:r≠mb) (hJ:J (MJ mb tb bx rb d++Ms) s W):J (MJ mb tb bx rb d++Ms) s (W.putObj r o):=by
 refine hstep _ _ _ _ _ hJ ((Cm W r o).more fun x hx=>?_) (fun m hm=> .inl hm) ?_
 ·have:x=r:=by simpa using hx
  subst this;exact mq _ hr
 ·exact(hInv _ _ _ hJ).work.cache.kept (World.putObj_heap_other (Ne.symm hm))
theorem aac {Ms:List Nat} {s:Option Nat} {W W':World} (hJ:J (MJ mb tb bx rb d++Ms) s W) (hE:Ext [mb] W W') (hc:Cache W' mb h.aZ):J (MJ mb tb bx rb d++Ms) s W':=
 hstep _ _ _ _ _ hJ (hE.more fun x hx=>by simp at hx;subst hx;simp) (fun m hm=> .inl hm) hc
end
theorem xP (h:bS) (hS:Sound h) (a b c ov:Value) (out:List Int) (wb mb bw bo:Nat):
 TI Tryz.prog 144 #[.pointer (some ⟨bw,0,none⟩),.pointer (some ⟨bo,0,none⟩)] (dH h out) (acV mb) [mb] (fun W=>Cache W mb h.aZ) (TG wb mb bw bo h a b c ov out):=by
 intro l J W hInv hstep hY h0;have hT:=hInv _ _ _ h0;obtain⟨oa,ca,rfl⟩:=hT.bJ.open;obtain⟨otn,cb,rfl⟩:=hT.turns.open;obtain⟨oc,cc,rfl⟩:=hT.readings.open;obtain⟨oo,co,rfl⟩:=hT.out.open;have c1:=aD hT.w;have δ:=dB W _ c1;have c2:=hT.work.cell;have κ:=hT.work.lt;have HT:=aa hT;have HI:=aa hInv;have π:=aa hstep;have HY:=aa hY;have HJ:=aa h0;have mR:=aa hS;have hwl:h.bJ.length<=10:=by have:=hS.Cv;have:=hS.zb;omega
 clear hInv hstep hY h0 hT hS;refine(callsIn_wide (n:=0)).1 ?_;refine callsIn_of_wp_marks Tryz.func144 rfl trivial ?_;simp only[Tryz.ntmps144,List.size_toArray,List.length_cons,List.length_nil,Nat.reduceAdd,Nat.reduceSub,Array.replicate_succ,Array.replicate_zero,jy,jA,List.nil_append,List.cons_append]
 gi_wp2_with fail
 refine(callsIn_wide.2 (Nq h oa ca _ _ _ (HT.out.bJ.alloc _) ϑ)).mono ?_;rintro e w1 ⟨v1,rfl,Gm,hb⟩;obtain⟨rb,cap,rfl,hrb,hrl⟩: ∃rb cap:Nat,v1= .slice (some ⟨rb,0,none⟩) (h.bJ.length+1) cap/\W.heap.size<rb/\bD w1 (.slice (some ⟨rb,0,none⟩) (h.bJ.length+1) cap) (h.start::h.bJ):=by
  have Y5:=aH.bY Gm;rcases Gm.2 with⟨rfl,h0⟩|⟨g,cp,cur,rfl,hbg,hrest⟩
  ·omega
  ·exact⟨g,cp,rfl,by simp at hbg;omega,Y5⟩
 have R9:=aa (show Ϙ W w1 from aV (ai (aF _ _) _) hb);have HTB:=aa ((hb.block W.heap.size ϕ).trans (av _ _));have hsz1:=hb.size;have HRL:=aa hrl;clear Gm hb hrl c1 c2
 gi_wp2_with fail
 refine(callsIn_wide.2 (RV _ _ _ w1)).mono ?_;rintro e w2 ⟨rfl,rfl⟩
 gi_wp2_with fail
 obtain⟨w2,hw2⟩: ∃w2,w1.alloc (.cells #[.slice (some ⟨rb,0,none⟩) (h.bJ.length+1) cap] 51)=w2:=⟨_,rfl⟩;have hsz2:w2.heap.size=w1.heap.size+1:=by rw[<-hw2];simp
 have vC:Ϙ w1 w2:=by rw[<-hw2];exact ai (aF _ _) _
 have Sr:w2.heap[w1.heap.size]? =some (.cells #[.slice (some ⟨rb,0,none⟩) (h.bJ.length+1) cap] 51 (0,0)):=by rw[<-hw2];exact av _ _
 rw[hw2];have aeI:=(vC.block _ (aN.1 HTB.out).1).trans HTB.out;have hrl2:bD w2 (.slice (some ⟨rb,0,none⟩) (h.bJ.length+1) cap) (h.start::h.bJ):=HRL.out.below vC (ah _);have aoi:rb<w1.heap.size:=by
  obtain⟨b',off',hbb,uM,_⟩:=bD.cell HRL.out (show 0<(h.start::h.bJ).length by simp)
  cases hbb;exact uM
 have an6:W.heap.size<w1.heap.size:=(aN.1 HTB.out).1;have hmb:mb<W.heap.size:=HT.out.work.cache.lt;have aj9:Ϙ W w2:=aV R9.out vC;have HP0:Hid (∀o o',zO l mb W.heap.size w1.heap.size rb w2.heap.size cap (h.start::h.bJ) [] ((w2.alloc o).alloc o')):=aa (fun o o'=>
  ⟨(aT _ _ _ ϗ).trans ((aT _ _ _ ϑ).trans aeI),
    uS.kept (W:=w2) ⟨Sr,hrl2⟩ ((aT _ _ _ ϗ).trans (aT _ _ _ ϑ)) ((aT _ _ _ ϗ).trans (aT _ _ _ ϑ)),by simp,
    fun p hp=>by simp at hp⊢;omega⟩)
 have HJ0:Hid (∀o o',J (MJ mb W.heap.size w1.heap.size rb w2.heap.size++[]) (some (cnt h out 0)) ((w2.alloc o).alloc o')):=aa (fun o o'=>by
  have hBW:Ϙ W ((w2.alloc o).alloc o'):=ai (ai aj9 _) _;exact π.out _ _ _ _ _ HJ.out (Ext.ax hBW) (fun m hm=>by simp at hm⊢;omega) (HT.out.work.cache.kept (hBW.block mb hmb)))
 clear hw2 Sr aeI hrl2 vC;refine kQ (RU (h.start::h.bJ) ?hR ϗ w1.heap.size (.slice (some ⟨rb,0,none⟩) (h.bJ.length+1) cap)) rfl (enters_of Tryz.func233 ϰ rfl) rfl ϕ
  (fun Ms k W'=>zO l mb W.heap.size w1.heap.size rb w2.heap.size cap (h.start::h.bJ) Ms W'/\J (MJ mb W.heap.size w1.heap.size rb w2.heap.size++Ms) (some (cnt h out k)) W')
  (fun c Ms W'=>c= .ret/\zO l mb W.heap.size w1.heap.size rb w2.heap.size cap (h.start::h.bJ) Ms W'/\J (MJ mb W.heap.size w1.heap.size rb w2.heap.size++Ms) none W')
  ?hInv ?nk ?hI ?hIx ?FP ?qN (fun o o'=>⟨HP0.out o o',HJ0.out o o'⟩)
  (fun a Ms k W1 a₁ W'=> ∃ob:Nat,a₁={tmps:=(a.tmps.setIfInBounds 16 (.slice (some ⟨ob,0,none⟩) (h.bJ.length+1) (h.bJ.length+1))).setIfInBounds 4 (.slice (some ⟨ob,0,none⟩) (h.bJ.length+1) (h.bJ.length+1)),defers:=[]}/\
    zO l mb W.heap.size w1.heap.size rb w2.heap.size cap (h.start::h.bJ) Ms W'/\J (MJ mb W.heap.size w1.heap.size rb w2.heap.size++Ms) (some (cnt h out k)) W'/\ob∈Ms/\W'.heap[ob]? =some (.cells (ag ((pz h).getD k [])).toArray 3 (0,0))/\
    (∀m∈Ms,W'.heap[m]? =W1.heap[m]?)/\W1.heap.size<=W'.heap.size)
  ?Jd ?hassign ?hbody ?hdone ?hstop
 case hR=>
  intro r hr;have hS:=mR.out;rcases eQ.1 hr with rfl|hr
  ·exact⟨hS.UN,hS.UM,hS.UK⟩
  ·have:=hS.bJ r hr;omega
 case hInv=>rintro Ms k W' ⟨hp,_⟩;exact hp.box
 case nk=>rintro c Ms W' ⟨_,hp,_⟩;exact hp.box
 case hI=>rintro Ms jc k Wa Wb ⟨hp,hJ⟩ hE η _;exact⟨hp.ext hE η,QL HI.out π.out hp hJ hE η⟩
 case hIx=>rintro c Ms jc Wa Wb ⟨hc,hp,hJ⟩ hE η _;exact⟨hc,hp.ext hE η,QL HI.out π.out hp hJ hE η⟩
 case FP=>
  rintro Ms k W' r o ⟨hp,hJ⟩ hr;exact⟨hp.kept ϕ (fun p hp'=>World.putObj_heap_other (by simp at hp';omega)) (fun m hm=> .inl hm),Mx HI.out π.out o ϗ ϑ hJ⟩
 case qN=>
  rintro c Ms W' r o ⟨hc,hp,hJ⟩ hr;exact⟨hc,hp.kept ϕ (fun p hp'=>World.putObj_heap_other (by simp at hp';omega)) (fun m hm=> .inl hm),Mx HI.out π.out o ϗ ϑ hJ⟩
 case Jd=>
  rintro Ms k W1 a₁ W' o ⟨ob,ha,hp,hJ,xu,hcells,hk,hs⟩;have hne: ∀m∈Ms,m≠w2.heap.size+1:=fun m hm e=>hp.apart m hm ϗ;exact⟨ob,ha,hp.kept ϕ (fun p hp'=>World.putObj_heap_other (by simp at hp';omega)) (fun m hm=> .inl hm),Mx HI.out π.out o ϕ ϑ hJ,xu,
   (World.putObj_heap_other (hne _ xu)).trans hcells,fun m hm=>(World.putObj_heap_other (hne m hm)).trans (hk m hm),by simpa using hs⟩
 case hassign=>
  rintro Ms k v W' hk ⟨hp,hJ⟩ ⟨ob,rfl,hcells,xu⟩ uM;have IY:((ed (h.start::h.bJ))[k]).length=h.bJ.length+1:=Rp _ _ (bZ _);rw[IY]
  gi_wp2
  refine⟨⟨ob,rfl,hp,hJ,xu,?_,fun m hm=>trivial,ah _⟩,trivial,trivial⟩;have Χ:k<(pz h).length:=hk;rw[show(pz h).getD k []=(ed (h.start::h.bJ))[k] from by rw[fK,dn Χ];rfl]
  exact hcells
 case hdone=>
  rintro Ms W' ⟨hp,hJ⟩ hD uM
  gi_wp2
  refine⟨by simp,.inl ⟨_,_,rfl,run_takeDeferred hD,?_⟩⟩;refine⟨_,results_none rfl _ _ _,⟨_,rfl⟩,MJ mb W.heap.size w1.heap.size rb w2.heap.size++Ms,.inl ?_⟩;have:=Mx HI.out π.out (Obj.deferred none) (r:=w2.heap.size) ϕ ϑ hJ;rw[<-ZT];exact this
 case hstop=>
  rintro c Ms W' ⟨rfl,hp,hJ⟩ hD uM
  gi_wp2
  refine⟨by simp,.inl ⟨_,_,rfl,run_takeDeferred hD,?_⟩⟩;refine⟨_,results_none rfl _ _ _,⟨_,rfl⟩,MJ mb W.heap.size w1.heap.size rb w2.heap.size++Ms,.inr ?_⟩;exact Mx HI.out π.out (Obj.deferred none) (r:=w2.heap.size) ϕ ϑ hJ
 case hbody=>
  rintro Ms k W1 a₁ W' busy hk ⟨ob,rfl,hp,hJ,xu,hcells,Oa,τ⟩ ι hD;simp only[nC,List.set_cons_succ,List.set_cons_zero];have hTI:=HI.out _ _ _ hJ;have Χ:k<(pz h).length:=hk;have hxm:(pz h).getD k []∈pz h:=by rw[fK,dn Χ];exact bZ _
  have hxk:(pz h).getD k []=(pz h)[k]:=by rw[fK,dn Χ];rfl
  obtain⟨s0,rest,hx,hrl,hs0,hrest⟩:=Dm mR.out hxm;rw[hx] at hcells;have hcell0:=fD hcells (k:=0) ϕ;simp only[List.getElem_cons_zero] at hcell0;have aoo:=dB W' _ hcell0;have aeO:aL W' (.slice (some ⟨ob,1,none⟩) h.bJ.length h.bJ.length) rest:=by
   refine⟨by simp[ag],_,_,by rw[hrl],ah _,by simp[maxLen];omega,(fun h=>by cases h),fun a ha=>?_⟩;cases ha;refine⟨rfl,fun j u hj=>?_⟩;simp only[World.cell?,hcells];rw[show(1+j)=j+1 from by omega];simpa [ag] using hj
  have hn1:1<=h.bJ.length:=by have:=mR.out.Cv;have:=mR.out.GN;omega
  have hnI:(1:Int)<=((h.bJ.length+1:Nat):Int):=ϑ;have hne0: ¬h.bJ.length=0:=ϑ;have hwI:((h.bJ.length:Int)+1).toNat=h.bJ.length+1:=ϑ;have HX:Hid ((pz h)[k]=s0::rest):=aa (by rw[<-hxk];exact hx);have HTI:=aa hTI;have HP:=aa hp;have HJb:=aa hJ;have HCL:=aa hcells;have HRC:=aa (af ι hD);have HKP:=aa Oa;have HSR:=aa aeO;have JA:=aa (af hs0 hrest);have aiW:=Ng ob h.bJ.length hn1;clear hTI hxm hxk hx hcells hp hJ ι hD Oa aeO hrest
  gi_wp2_with fail
  refine dG 7 [] none [(6,Spec.block W'.heap.size #[iv 0,.slice none 0 0] 208)] ϰ ϰ ϰ ?_;simp only[zt];repeat (refine zd ?_;simp only[zp])
  refine gQ W'.heap.size _ _ ϱ (ah _) ϱ ϕ ϕ (fun W hW=>by go_simp;try rfl) (fun b5=>?_);simp only[zp];intro W3 hE hF;obtain⟨b',hb,hbB,ZX⟩:=hF _ (aW _);cases hb;have hfr:=bn ZX;have hb5:=(aN.1 ZX).1;have hg: ∀i,W3.cell? ⟨b5,i,none⟩=(#[iv 0,.slice none 0 0]:Array Value)[i]? :=fun i=>by
   simp only[World.cell?,ZX];rfl
  have XQ:=aa hE.below;have lM:=aa ZX;clear ZX hF hE aiW hcell0
  gi_wp2_with fail
  obtain⟨W4,zu⟩: ∃W4,(W3.setCell ⟨b5,0,none⟩ (iv s0)).setCell ⟨b5,1,none⟩ (.slice (some ⟨ob,1,none⟩) h.bJ.length h.bJ.length)=W4:=⟨_,rfl⟩;rw[zu];have hB4:Ϙ W' W4:=by rw[<-zu];exact dP (dP XQ.out hbB _) hbB _
  have hblk5:W4.heap[b5]? =some (.cells #[iv s0,.slice (some ⟨ob,1,none⟩) h.bJ.length h.bJ.length] 208 (0,0)):=by rw[<-zu];exact aA (aA lM.out _) _
  have WI:=HTI.out.below hB4;have c1:=aD WI.w;have δ:=dB W4 _ c1;have c2:=WI.work.cell;have κ:=WI.work.lt;have ajQ:=(aN.1 hblk5).1;have hg5: ∀i,W4.cell? ⟨b5,i,none⟩=(#[iv s0,.slice (some ⟨ob,1,none⟩) h.bJ.length h.bJ.length]:Array Value)[i]? :=fun i=>by
   simp only[World.cell?,hblk5];rfl
  have hn1':=Ap WI.work.cache WI.w;have aov:=Ap WI.work.cache WI.work.cells;have ajc:=Ap WI.work.cache hblk5;have ae8:=WI.work.cache.lt;obtain⟨ys,hy⟩: ∃ys,jZ h (s0,rest) h.turns=ys:=⟨_,rfl⟩;have Du:ys.length=10:=by rw[<-hy];exact jK _ _ _ _ _ _
  have HYY:=aa hy;have HT4:=aa WI;have gJ:=aa hB4;have MC:=aa hblk5;clear WI hB4 hblk5 zu hy hfr hg hb5;refine dG 9 [mb] (some 7) [(7,⟨fun _ v=>v= .agg (ag ys).toArray,fun _ _ W=>Cache W mb h.aZ⟩),(8,Spec.block W4.heap.size #[iv 0,iv 0,iv 0,iv 0,iv 0,iv 0,iv 0,iv 0,iv 0,iv 0] 178)] ϰ ϰ ϰ ?_;simp only[zt];repeat (refine zd ?_;simp only[zp])
  refine aY _ ϱ ϱ ⟨_,rfl⟩ (fun W5 hE hF=>?_) (fun v Wa Wb hc hE=>?_) (fun v hv=>?_)
  ·have Iq:Ext [] W4 W5:=hE;refine bM 133 #[.pointer (some ⟨wb,0,none⟩),.agg #[iv s0,.slice (some ⟨ob,1,none⟩) h.bJ.length h.bJ.length],.slice otn h.turns.length cb] (by go_simp;try rfl) ?_;have hT5:=HT4.out.below Iq.below;refine(sS h _ _ _ wb mb s0 rest h.turns _ _ W5 hT5.work (HSR.out.below (aV gJ.out Iq.below) (ah _)) hT5.turns ϑ mR.out.J5 mR.out.J4 mR.out.LC mR.out.LB JA.out.1.1 JA.out.1.2 JA.out.2).mono ?_;rintro e W6 ⟨rfl,ο,Ι⟩;exact⟨_,rfl,by rw[HYY.out],ο,Ι⟩
  ·exact zbO
  obtain rfl:v= .agg (ag ys).toArray:=hv;simp only[zp];refine gQ W4.heap.size _ _ ϱ (ah _) ϱ (by simpa using ae8) ϕ (fun W hW=>by go_simp;try rfl) (fun b6=>?_);simp only[zp];intro W5 hE hF;obtain⟨b',hb,ao8,ZX⟩:=hF _ (aW _);cases hb;have ο:Cache W5 mb h.aZ:=hF _ (jf _ (aW _));obtain⟨W6,Y6,hblk6,ry⟩:=vN Tryz.prog ys ZX (by rw[Du];rfl);have hyl:(ag ys).length=10:=by simp[ag,Du]
  have aow:mb<W4.heap.size:=ae8;have AB:Ext [mb] W' W6:=AP ((Ext.ax gJ.out).trans hE) ry (by have:=gJ.out.size;omega);have afN:Cache W6 mb h.aZ:=ο.kept (ry.block mb (Cache.lt ο) ϗ);have hJ6:=aac HI.out π.out HJb.out AB afN;have ZA:=HI.out _ _ _ hJ6;have Ub:zO l mb W.heap.size w1.heap.size rb w2.heap.size cap (h.start::h.bJ) Ms W6:=HP.out.kept AB.size (fun p hp=>AB.block p (HP.out.small p (by simp at hp⊢;omega)) (by simp at hp⊢;omega)) (fun m hm=> .inl hm);have hblk5:=(ry.block b5 (by have:=hE.size;omega) ϗ).trans ((hE.block b5 ajQ (by simpa using ajc)).trans MC.out);have c1:=aD ZA.w;have c2:=ZA.work.cell;have hs1:=dB W6 _ c1;have hs2:=ZA.work.lt;have HJ6:=aa hJ6;have HT6:=aa ZA;have HP6:=aa Ub;have MC:=aa hblk5;have HE6:=aa AB;have HK6:=aa hblk6;clear ZX hF hE ο hg5 hblk6 ry AB afN hJ6 ZA Ub hblk5
  gi_wp2_with fail
  clear c1 c2;have aky:=aa Du
  gi_loopw [7,37] (fun r u wr=> ∃q:Nat,q<=h.readings.length/\u= .int .i64 q/\r= .bool ((List.range q).all (ND h out (s0,rest)))/\Ϙ W6 wr)
   (fun _ u _=>h.readings.length-(intOf u).toNat)
  case atStart=>exact⟨0,bE _,rfl,rfl,aF _ _⟩
  case round=>
   obtain⟨q,hq,rfl,rfl,JG⟩:=hrel;have Zz:=HT6.out.below JG;by_cases uM:q<h.readings.length
   ·obtain⟨b',off',rfl,hb',e0,e1,e2⟩:=aU.cell Zz.readings uM;have hxr:=mR.out.rdg _ (bZ uM);have hok:ND h out (s0,rest) q=(out.contains (q:Int) ||Aj h.readings[q] ys):=by
     unfold ND;rw[HYY.out,show h.readings.getD q (0,0,0)=h.readings[q] from by simp[uM]]
    have hsucc:=kT q (ND h out (s0,rest));rw[hok] at hsucc;have ajk:=mR.out.zb;have I4:=mR.out.aiB;have aci: ∀n∈ys,0<=n/\n<=100000:=by
     rw[<-HYY.out];intro n hn;have:=K9 (h:=h) (t:=(s0,rest)) h.turns mR.out.J5 mR.out.J4 mR.out.LC mR.out.LB JA.out.1.1 JA.out.1.2 JA.out.2 ϗ n hn;omega
    have Zl:=(JG.block b6 (aN.1 HK6.out).1).trans HK6.out;have d1:=aD Zz.o;have hd1:=dB wr _ d1;have aaO:=Zz.out;generalize h.readings[q]=x at e0 e1 e2 hxr hok hsucc;generalize (List.range q).all (ND h out (s0,rest))=rq at hsucc;obtain⟨y0,y1,y2,y3,y4,y5,y6,y7,y8,y9,Ε⟩:=Af aky.out;rw[Ε] at hsucc aci Zl;have aoC:=(aN.1 Zl).1;have hg6: ∀i,wr.cell? ⟨b6,i,none⟩=(#[iv y0,iv y1,iv y2,iv y3,iv y4,iv y5,iv y6,iv y7,iv y8,iv y9]:Array Value)[i]? :=fun i=>by
     simp only[World.cell?,Zl];rfl
    have uZ:=aa hsucc;have HRT:=aa (fun W=>wT x y0 y1 y2 y3 y4 y5 y6 y7 y8 y9 W hxr.1.1 ϑ hxr.2.1.1 hxr.2.1.2 hxr.2.2.1 hxr.2.2.2 aci);have XT:=aa JG;have HTQ:=aa Zz;have hqI:(q:Int)<h.readings.length:=ϑ;generalize hrr:Aj x [y0,y1,y2,y3,y4,y5,y6,y7,y8,y9]=rr at uZ HRT;have HCT:=aa (fun(W:World) (hb:Ϙ wr W)=>gz out (.slice oo out.length co) (q:Int) W (aaO.below hb (ah _)));generalize ο:out.contains (q:Int)=cb at uZ HCT;clear hsucc hok hrr ο Zz aaO JG Zl Ε aci hxr hyl Y6;cases rq
    ·gi_wp2_with (refine aar ϱ ?_;simp only[zp])
     go_roundw
     case rel=>exact⟨.bool false,_,_,.int .i64 ((q:Int)+1),⟨q+1,by omega,by go_num,by rw[uZ.out];rfl,ai XT.out _⟩,rfl,rfl,rfl,rfl⟩
     case measure=>simp[intOf];omega
    ·gi_wp2_with fail
     refine(CallsIn.inRound _ (callsIn_wide.2 (HCT.out _ zl))).mono ?_;rintro e W7 ⟨rfl,uY⟩;obtain⟨hc7,hf7⟩:=bH uY;have xM:=aa uY;have hz7:=uY.size;simp only[bA] at hz7;have hz8:wr.heap.size<W7.heap.size:=ϑ;clear uY;cases cb
     ·gi_wp2_with fail
      refine(CallsIn.inRound _ (callsIn_wide.2 (HRT.out _))).mono ?_;rintro e W8 ⟨rfl,tN⟩;have nG:=aa tN;clear tN
      gi_wp2_with fail
      go_roundw
      case rel=>exact⟨q+1,by omega,by go_num,by rw[uZ.out];rfl,aV (aV (ai XT.out _) xM.out) nG.out⟩
      case measure=>simp[intOf];omega
     ·gi_wp2_with fail
      go_roundw
      case rel=>exact⟨q+1,by omega,by go_num,by rw[uZ.out];rfl,aV (ai XT.out _) xM.out⟩
      case measure=>simp[intOf];omega
   ·have hql:q=h.readings.length:=ϑ;have abV:(List.range q).all (ND h out (s0,rest))=okT h out (QY (pz h)[k]):=by rw[HX.out,hql];rfl
    rw[abV];have hEr:Ext [mb] W' wr:=HE6.out.trans (Ext.ax JG);have hJr:=π.out _ _ _ _ _ HJ6.out (Ext.ax JG) (fun m hm=> .inl hm) Zz.work.cache;have hPr:zO l mb W.heap.size w1.heap.size rb w2.heap.size cap (h.start::h.bJ) Ms wr:=HP6.out.kept JG.size (fun p hp=>JG.block p (HP6.out.small p (by simp at hp⊢;omega))) (fun m hm=> .inl hm);have ι:=(hEr.block _ (aN.1 HRC.out.1).1 ϗ).trans HRC.out.1;have hdef:=(hEr.block _ (aN.1 HRC.out.2).1 ϗ).trans HRC.out.2;have hkp: ∀m∈Ms,m∉([]:List Nat)->m<W1.heap.size->wr.heap[m]? =W1.heap[m]? :=fun m hm _ mP=>
     (hEr.block m ϑ (by have:=HP.out.apart m hm;simp at this⊢;omega)).trans (HKP.out m hm)
    have aiS:W1.heap.size<=wr.heap.size:=by have:=hEr.size;omega
    have HJR:=aa hJr;have HPR:=aa hPr;have aad:=aa (af ι (af hdef (af hkp aiS)));have HTQ:=aa Zz;have XT:=aa JG;have HER:=aa hEr;cases hpv:okT h out (QY (pz h)[k])
    ·have HPV:=aa hpv;clear hpv abV hJr hPr ι hdef hkp Zz JG hEr hyl Y6
     gi_wp2_with (refine aar ϱ ?_;simp only[zp])
     exact⟨aad.out,HPR.out,by rw[acL Χ HPV.out];exact HJR.out⟩
    ·obtain⟨hcn,hcx⟩:=M5 Χ hpv;have hcy:=ZR Χ hpv;have aeN:aL wr (.slice (some ⟨ob,1,none⟩) h.bJ.length h.bJ.length) rest:=by
      refine HSR.out.kept fun b off n c hv hlt'=>hEr.block b hlt' ?_;cases hv;have:=HP.out.apart ob xu;simp at this⊢;omega
     have ai9:ob≠mb:=by have:=HP.out.apart ob xu;simp at this;omega
     obtain⟨f1,t1,a1,bd1,hy1,Ec⟩:=HY.out (MJ mb W.heap.size w1.heap.size rb w2.heap.size++Ms) (cnt h out k) (.agg #[iv s0,.slice (some ⟨ob,1,none⟩) h.bJ.length h.bJ.length]) wr hcn HJR.out
      (by rw[hcx,HX.out];exact⟨ob,by simp[QY,hrl],by simpa [QY,hrl] using aeN,qX _ xu,ai9⟩)
     have d0:=aD hPr.y;have hd0:=dB wr _ d0;have ab4:=(JG.block b5 (aN.1 MC.out).1).trans MC.out;have hd5:=(aN.1 ab4).1;have aoT: ∀i,wr.cell? ⟨b5,i,none⟩=(#[iv s0,.slice (some ⟨ob,1,none⟩) h.bJ.length h.bJ.length]:Array Value)[i]? :=fun i=>by
      simp only[World.cell?,ab4];rfl
     have HR1:=aa Ec;have HCY:=aa hcy;have ag6:=aa (af (aN.1 ι).1 (aN.1 hdef).1);clear hpv abV hJr hPr ι hdef hkp Zz JG hEr hyl Y6 aeN hcx ab4 Ec hcy
     gi_wp2_with fail
     refine HR1.out.mono ?_;rintro e W8 ⟨⟨Oa,aiT⟩,⟨rfl,hJ8⟩|⟨rfl,hJ8⟩⟩;all_goals
      have HJ8:=aa hJ8;have Fg:zO l mb W.heap.size w1.heap.size rb w2.heap.size cap (h.start::h.bJ) Ms W8:=HPR.out.kept aiT (fun p hp=>Oa p (mq _ (by simp at hp⊢;omega)) (by simp at hp⊢;omega) (HPR.out.small p (by simp at hp⊢;omega))) (fun m hm=> .inl hm);have hq8:W8.heap[w2.heap.size+1]? =some (.loop busy)/\W8.heap[w2.heap.size]? =some (.deferred (some []))/\(∀m∈Ms,m∉([]:List Nat)->m<W1.heap.size->W8.heap[m]? =W1.heap[m]?)/\W1.heap.size<=W8.heap.size:=
       ⟨(Oa _ ϕ ϗ ag6.out.1).trans aad.out.1,(Oa _ ϕ ϗ ag6.out.2).trans aad.out.2.1,
         fun m hm h0 mP=>(Oa m (qX _ hm) (by have:=HP.out.apart m hm;simp at this⊢;omega) ϑ).trans (aad.out.2.2.1 m hm h0 mP),by omega⟩
      have Ib:=aa Fg;have HQ8:=aa hq8;clear hJ8 Fg hq8 Oa hy1
     ·gi_wp2_with fail
      exact⟨HQ8.out,Ib.out,by rw[HCY.out];exact HJ8.out⟩
     ·gi_wp2_with fail
      exact⟨HQ8.out,rfl,Ib.out,HJ8.out⟩
end Go.Proofs.Z.gZ
namespace Go.Proofs.Z.gZ
open Go.RowKit Go.RG Go.SL Go.Shelf gK
attribute [local go_sem] Oper.semAt_some
theorem xQ (wb:Nat) (o:Option Addr) (n c:Nat) (w:World):
 Ϝ 90 #[.pointer (some ⟨wb,0,none⟩),.slice o n c] w (fun e w'=>e= .returned (.func (.func 144) #[] #[.pointer (some ⟨w.heap.size,0,none⟩),.pointer (some ⟨w.heap.size+1,0,none⟩)])/\
  w'=(w.alloc (.cells #[.pointer (some ⟨wb,0,none⟩)] 170)).alloc (.cells #[.slice o n c] 52)):=by
 go_enter Tryz.func90,Tryz.ntmps90;exact zbE
structure Fr (w:World) (mb:Nat) (aZ:Int) (Os Ms:List Nat) (W:World):Prop where
 ext:Ext [mb] w W
 old: ∀m∈Ms,m=mb∨w.heap.size<=m
 bnd: ∀m∈Ms,m<W.heap.size
 apart: ∀b∈Os,b∉Ms/\b<W.heap.size
 cache:Cache W mb aZ
theorem Fr.gL {w:World} {mb:Nat} {aZ:Int} {Os Ms jc:List Nat} {W1 W2:World} (h:Fr w mb aZ Os Ms W1) (hE:Ext Ms W1 W2) (η: ∀m∈jc,m∈Ms∨(W1.heap.size<=m/\m<W2.heap.size)) (hc:Cache W2 mb aZ):
 Fr w mb aZ Os jc W2/\ ∀b∈Os,W2.heap[b]? =W1.heap[b]? :=by
 refine⟨⟨⟨hE.os.trans h.ext.os,hE.tape.trans h.ext.tape,hE.output.trans h.ext.output,eU h.ext.size hE.size,fun k hk hm=>?_⟩,fun m hm=>?_,fun m hm=>?_,fun b hb=>?_,hc⟩,fun b hb=>hE.block b (h.apart b hb).2 (h.apart b hb).1⟩
 ·refine(hE.block k (eF hk h.ext.size) (fun Χ=>?_)).trans (h.ext.block k hk hm);rcases h.old k Χ with h1|h1
  ·exact hm (by simp[h1])
  ·omega
 ·rcases η m hm with h1|h1
  ·exact h.old m h1
  ·exact .inr (eU h.ext.size h1.1)
 ·rcases η m hm with h1|h1
  ·exact eF (h.bnd m h1) hE.size
  ·exact h1.2
 ·exact zbY
theorem Fr.own {w:World} {mb:Nat} {aZ:Int} {Os Ms:List Nat} {W1 W2:World} (h:Fr w mb aZ Os Ms W1) (hE:Ext [mb] w W2) (hs:W1.heap.size<=W2.heap.size) (hc:Cache W2 mb aZ):Fr w mb aZ Os Ms W2:=
 ⟨hE,h.old,fun m hm=>eF (h.bnd m hm) hs,fun b hb=>⟨(h.apart b hb).1,eF (h.apart b hb).2 hs⟩,hc⟩
theorem Fr.Yn {w:World} {wb mb bw bo:Nat} {h:bS} {a b c ov:Value} {out:List Int} {Os Ms:List Nat} {W:World} (hF:Fr w mb h.aZ Os Ms W)
 (hw:gN w wb mb h a b c) (h1:bD w a h.bJ) (h2:aL w b h.turns) (h3:aU w c h.readings) (h4:aL w ov out)
 (δ:W.heap[bw]? =some (.cells #[.pointer (some ⟨wb,0,none⟩)] 170 (0,0))) (κ:W.heap[bo]? =some (.cells #[ov] 52 (0,0))):TG wb mb bw bo h a b c ov out W:=by
 have hm: ∀x∈[mb], ∀o,w.cell? ⟨x,o,none⟩=none:=fun x hx o=>by
  have:x=mb:=by simpa using hx
  subst this;exact hw.cache.kV o
 exact⟨δ,κ,hw.ext hF.ext hF.cache,h1.fq hF.ext hm,h2.fq hF.ext hm,h3.fq hF.ext hm,h4.fq hF.ext hm⟩
theorem Fr.put {w:World} {mb:Nat} {aZ:Int} {Os Ms:List Nat} {W:World} (h:Fr w mb aZ Os Ms W) {r:Nat} (o:Obj) (hr:w.heap.size<=r) (hm:mb<w.heap.size):Fr w mb aZ Os Ms (W.putObj r o):=
 h.own ⟨h.ext.os,h.ext.tape,h.ext.output,by simpa using h.ext.size,fun k hk hn=>(World.putObj_heap_other ϑ).trans (h.ext.block k hk hn)⟩ ϕ (h.cache.kept (World.putObj_heap_other ϑ))
structure Pos (w:World) (wb:Nat) (ov:Value) (r:Bool) (W:World):Prop where
 res:W.heap[w.heap.size]? =some (.cells #[.bool r] 4 (0,0))
 b1:W.heap[w.heap.size+1]? =some (.cells #[.pointer (some ⟨wb,0,none⟩)] 170 (0,0))
 b2:W.heap[w.heap.size+1+1]? =some (.cells #[ov] 52 (0,0))
theorem Pos.kept {w:World} {wb:Nat} {ov:Value} {r:Bool} {W W':World} (h:Pos w wb ov r W) (hk: ∀b∈[w.heap.size,w.heap.size+1,w.heap.size+1+1],W'.heap[b]? =W.heap[b]?):Pos w wb ov r W':=
 ⟨(hk _ ϕ).trans h.res,(hk _ ϕ).trans h.b1,(hk _ ϕ).trans h.b2⟩
theorem mY (h:bS) (hS:Sound h) (a b c ov:Value) (out:List Int) (wb mb:Nat) (w:World) (hw:gN w wb mb h a b c) (h1:bD w a h.bJ) (h2:aL w b h.turns) (h3:aU w c h.readings) (h4:aL w ov out):
 Ϝ 131 #[.pointer (some ⟨wb,0,none⟩),ov] w (fun e w'=>e= .returned (.bool (!(dH h out).isEmpty))/\Cache w' mb h.aZ/\Ext [mb] w w'):=by
 obtain⟨oo,co,rfl⟩:=h4.open;have HW:=aa hw;have H1:=aa h1;have H2:=aa h2;have H3:=aa h3;have H4:=aa h4;have mR:=aa hS;have hmb:=hw.cache.lt;clear hw h1 h2 h3 h4 hS;refine(callsIn_wide (n:=0)).1 ?_;refine callsIn_of_wp_marks Tryz.func131 rfl trivial ?_;simp only[Tryz.ntmps131,List.size_toArray,List.length_cons,List.length_nil,Nat.reduceAdd,Nat.reduceSub,Array.replicate_succ,Array.replicate_zero,jy,jA,List.nil_append,List.cons_append]
 gi_wp2_with fail
 refine(callsIn_wide.2 (xQ wb _ _ _ _)).mono ?_;rintro e w1 ⟨rfl,rfl⟩
 gi_wp2_with fail
 obtain⟨w2,hw2⟩: ∃w2,(((w.alloc (.cells #[.bool false] 4)).alloc (.cells #[.pointer (some ⟨wb,0,none⟩)] 170)).alloc (.cells #[.slice oo out.length co] 52))=w2:=⟨_,rfl⟩;have hB2:Ϙ w w2:=by rw[<-hw2];exact zl
 have hsz2:w2.heap.size=w.heap.size+3:=by rw[<-hw2];simp
 have hP2:Pos w wb (.slice oo out.length co) false w2:=by
  rw[<-hw2];exact⟨(aT _ _ _ ϗ).trans ((aT _ _ _ ϕ).trans (av _ _)),(aT _ _ _ ϕ).trans (dm _ _ _),fM _ _ _ _⟩
 rw[hw2];clear hw2;refine kQ (xP h mR.o a b c (.slice oo out.length co) out wb mb (w.heap.size+1) (w.heap.size+1+1)) rfl (enters_of Tryz.func144 ϰ rfl) rfl ϗ
  (fun Ms k W=>k=0/\Fr w mb h.aZ [w.heap.size,w.heap.size+1,w.heap.size+1+1,w2.heap.size,w2.heap.size+1] Ms W/\Pos w wb (.slice oo out.length co) false W)
  (fun cd Ms W=>(cd= .ret/\(dH h out).isEmpty=false)/\Fr w mb h.aZ [w.heap.size,w.heap.size+1,w.heap.size+1+1,w2.heap.size,w2.heap.size+1] Ms W/\Pos w wb (.slice oo out.length co) true W)
  ?hInv ?nk ?hI ?hIx ?FP ?qN ?h0
  (fun a Ms k W1 a₁ W=> ∃v,a₁={tmps:=a.tmps.setIfInBounds 8 v,defers:=[]}/\(Fr w mb h.aZ [w.heap.size,w.heap.size+1,w.heap.size+1+1,w2.heap.size,w2.heap.size+1] Ms W/\Pos w wb (.slice oo out.length co) false W)/\(∀m∈Ms,m∉[mb]->W.heap[m]? =W1.heap[m]?)/\W1.heap.size<=W.heap.size)
  ?Jd ?hassign ?hbody ?hdone ?hstop
 case hInv=>rintro Ms k W ⟨_,hF,hP⟩;exact hF.Yn HW.o H1.o H2.o H3.o H4.o hP.b1 hP.b2
 case nk=>rintro cd Ms W ⟨_,hF,hP⟩;exact hF.Yn HW.o H1.o H2.o H3.o H4.o hP.b1 hP.b2
 case hI=>rintro Ms jc k Wa Wb ⟨h0,hF,hP⟩ hE η hc;exact⟨h0,(hF.gL hE η hc).1,hP.kept (fun b hb=>(hF.gL hE η hc).2 b (by simp at hb⊢;omega))⟩
 case hIx=>rintro cd Ms jc Wa Wb ⟨h0,hF,hP⟩ hE η hc;exact⟨h0,(hF.gL hE η hc).1,hP.kept (fun b hb=>(hF.gL hE η hc).2 b (by simp at hb⊢;omega))⟩
 case FP=>rintro Ms k W r o ⟨h0,hF,hP⟩ hr;exact⟨h0,hF.put o ϑ hmb,hP.kept (fun b hb=>World.putObj_heap_other (by simp at hb;omega))⟩
 case qN=>rintro cd Ms W r o ⟨h0,hF,hP⟩ hr;exact⟨h0,hF.put o ϑ hmb,hP.kept (fun b hb=>World.putObj_heap_other (by simp at hb;omega))⟩
 case h0=>
  intro o o';have hB:Ϙ w ((w2.alloc o).alloc o'):=ai (ai hB2 _) _;exact⟨rfl,⟨Ext.ax hB,fun m hm=> .inl (by simpa using hm),fun m hm=>(by have:=hB.size;simp at hm;omega),fun b hb=>⟨by simp at hb⊢;omega,by simp at hb⊢;omega⟩,HW.o.cache.kept (hB.block mb hmb)⟩,
   hP2.kept (fun b hb=>(aT _ _ _ (by simp at hb⊢;omega)).trans (aT _ _ _ (by simp at hb;omega)))⟩
 case Jd=>
  rintro Ms k W1 a₁ W o ⟨v,ha,⟨hF,hP⟩,hk,hs⟩;refine⟨v,ha,⟨hF.put o ϑ hmb,hP.kept (fun b hb=>World.putObj_heap_other (by simp at hb;omega))⟩,fun m hm h0=>?_,by simpa using hs⟩;exact(World.putObj_heap_other (fun e:m=w2.heap.size+1=>(hF.apart (w2.heap.size+1) ϕ).1 (by rw[<-e];exact hm))).trans (hk m hm h0)
 case hassign=>
  rintro Ms k v W hk ⟨h0,hF,hP⟩ hE uM
  gi_wp2
  exact⟨⟨v,by simp,⟨hF,hP⟩,fun _ _ _=>trivial,ah _⟩,trivial,trivial⟩
 case hbody=>
  rintro Ms k W1 a₁ W busy hk ⟨v,rfl,⟨hF,hP⟩,Oa,τ⟩ ι hD;have hne:(dH h out).isEmpty=false:=by
   cases hl:dH h out with
   |nil=>rw[hl] at hk;simp at hk
   |cons x l=>rfl
  have hc:=aD hP.res;have hf:=bn hP.res 0;have HF:=aa hF;have HP:=aa hP;have HQ:=aa (af ι (af hD (af Oa τ)));clear hF hP ι hD Oa;simp only[nC,List.set_cons_succ,List.set_cons_zero]
  gi_wp2_with fail
  refine⟨⟨(bV _ _ _ _ (by show w2.heap.size+1≠w.heap.size;omega)).trans HQ.o.1,(bV _ _ _ _ (by show w2.heap.size≠w.heap.size;omega)).trans HQ.o.2.1,fun m hm h0 _=>?_,by simpa [World.setCell] using τ⟩,
   ⟨rfl,hne⟩,HF.o.own (HF.o.ext.set (ah _) _) (by simp[World.setCell]) (HF.o.cache.kept (bV _ _ _ _ (by show mb≠w.heap.size;omega))),
   ⟨aA HP.o.res _,(bV _ _ _ _ (by show w.heap.size+1≠w.heap.size;omega)).trans HP.o.b1,(bV _ _ _ _ (by show w.heap.size+1+1≠w.heap.size;omega)).trans HP.o.b2⟩⟩
  exact(bV _ _ _ _ (fun e:m=w.heap.size=>(HF.o.apart w.heap.size ϕ).1 (by rw[<-e];exact hm))).trans (HQ.o.2.2.1 m hm h0)
 case hdone=>
  rintro Ms W ⟨h0,hF,hP⟩ hD uM;have hem:(dH h out).isEmpty=true:=by
   cases hl:dH h out with
   |nil=>rfl
   |cons x l=>rw[hl] at h0;simp at h0
  rw[hem];have hc:=aD hP.res;have hf:=bn hP.res 0;have HF:=aa hF;have HP:=aa hP;clear hF hP
  gi_wp2_with fail
  rw[hsz2] at hD;have hD':(W.setCell ⟨w.heap.size,0,none⟩ (.bool false)).heap[w.heap.size+3]? =some (.deferred (some [])):=(bV _ _ _ _ (by show w.heap.size+3≠w.heap.size;omega)).trans hD;have Q7:((W.setCell ⟨w.heap.size,0,none⟩ (.bool false)).putObj (w.heap.size+3) (.deferred none)).cell? ⟨w.heap.size,0,none⟩=some (.bool false):=
   aD ((World.putObj_heap_other ϑ).trans (aA HP.o.res _))
  refine⟨by simp,.inl ⟨_,_,rfl,run_takeDeferred hD',?_⟩⟩;refine⟨.bool false,by simp[results,Tryz.results131,go_sem,Q7],by rw[hem];rfl,?_,?_⟩
  ·exact HF.o.cache.kept ((World.putObj_heap_other ϑ).trans (bV _ _ _ _ (by show mb≠w.heap.size;omega)))
  ·have:=(HF.o.own (HF.o.ext.set (p:=⟨w.heap.size,0,none⟩) (ah _) (.bool false)) (by simp[World.setCell]) (HF.o.cache.kept (bV _ _ _ _ (by show mb≠w.heap.size;omega)))).put (Obj.deferred none) (r:=w.heap.size+3) ϑ hmb;exact this.ext
 case hstop=>
  rintro cd Ms W ⟨⟨rfl,hne⟩,hF,hP⟩ hD uM;have HF:=aa hF;have HP:=aa hP;clear hF hP
  gi_wp2_with fail
  have Q7:(W.putObj (w2.heap.size) (.deferred none)).cell? ⟨w.heap.size,0,none⟩=some (.bool true):=
   aD ((World.putObj_heap_other ϑ).trans HP.o.res)
  refine⟨by simp,.inl ⟨_,_,rfl,run_takeDeferred hD,?_⟩⟩;refine⟨.bool true,by simp[results,Tryz.results131,go_sem,Q7],by rw[hne];rfl,?_,?_⟩
  ·exact HF.o.cache.kept (World.putObj_heap_other ϑ)
  ·exact(HF.o.put (Obj.deferred none) (r:=w2.heap.size) ϑ hmb).ext
end Go.Proofs.Z.gZ
namespace Go.Proofs.Z.gZ
open Go.RowKit Go.RG Go.SL Go.Shelf gK
def iw (h:bS) (turns:List Int):Int:=if tQ h≠0 then tQ h else if mf h.last turns=false then 2 else if(dH h []).isEmpty then 11 else 0
def aao (h:bS) (a b c:Value) (turns:List Int) (w:World) (e:Ending) (w':World):Prop:=
 Ϙ w w'/\((iw h turns≠0/\e= .returned (.tuple #[.pointer none,.int .i64 (iw h turns)]))∨
  (iw h turns=0/\ ∃wb mb:Nat,e= .returned (.tuple #[.pointer (some ⟨wb,0,none⟩),.int .i64 0])/\w.heap.size<=wb/\w.heap.size<=mb/\gN w' wb mb h a b c))
theorem dM {w W W':World} {mb:Nat} (h:Ϙ w W) (hE:Ext [mb] W W') (hm:w.heap.size<=mb):Ϙ w W':=
 h.trans ⟨hE.os,hE.tape,hE.output,hE.size,fun k hk=>by
  by_cases uM:k<W.heap.size
  ·exact hE.block k uM ϗ
  ·have:=h.size;omega⟩
theorem tY (h:bS) (wv tv ru JF:Value) (turns:List Int) (w:World) (hw:bD w wv h.bJ) (ht:aL w tv h.turns) (hx:aU w ru h.readings) (htr:aL w JF turns):
 Ϝ 75 #[hv h wv tv ru,JF] w (aao h wv tv ru turns w):=by
 obtain⟨ow,cw,rfl⟩:=hw.open;obtain⟨ot,ct,rfl⟩:=ht.open;obtain⟨ox,cx,rfl⟩:=hx.open;have HW:=aa hw;have HT:=aa ht;have HX:=aa hx;clear hw ht hx;obtain⟨oq,cq,rfl⟩:=htr.open;have HQ:=aa htr;clear htr;by_cases hf0:tQ h=0
 case neg=>
  have he:iw h turns=tQ h:=by unfold iw;rw[aG hf0]
  have ζ:Hid (iw h turns=tQ h/\iw h turns≠0):=aa ⟨he,by rw[he];exact hf0⟩;clear he;generalize hff:tQ h=f at*
  have HF:=aa hff;clear hff;go_enter Tryz.func75,Tryz.ntmps75;go_wp2_with fail
  refine(tV h _ _ _ _ (HW.o.alloc _) (HT.o.alloc _) (HX.o.alloc _)).mono ?_;rintro e w' ⟨rfl,hb⟩;rw[HF.o];go_wp2_with fail
  go_returns;exact⟨aV (ai (aF _ _) _) hb,.inl ⟨ζ.o.2,by rw[ζ.o.1];simp⟩⟩
 have hS:=CO hf0;obtain⟨hl0,Zj⟩:0<=h.last/\h.last<=9:=⟨hS.GN,hS.zb⟩;have HF:=aa hf0;have mR:=aa hS;clear hf0 hS;have af3:iw h turns=if mf h.last turns=false then 2 else if(dH h []).isEmpty then 11 else 0:=by unfold iw;rw[ak (by rw[HF.o];simp)]
 have HE:=aa af3;clear af3;generalize htn:mf h.last turns=tn at HE;have HTN:=aa htn;clear htn;go_enter Tryz.func75,Tryz.ntmps75;go_wp2_with fail
 refine(tV h _ _ _ _ (HW.o.alloc _) (HT.o.alloc _) (HX.o.alloc _)).mono ?_;rintro e w' ⟨rfl,hb⟩;rw[HF.o];obtain⟨hc,hf⟩:=bH hb;have hz0:w.heap.size<w'.heap.size:=(by have:=hb.size;(try simp only[bA] at this);omega)
 have HB:=aa (show Ϙ w w' from aV (ai (aF _ _) _) hb);clear hb;go_wp2_with fail
 refine(mW h _ _ _ _ turns _ (HQ.o.below HB.o (ah _)) hl0 Zj).mono ?_;rintro e w3 ⟨rfl,hb⟩;rw[HTN.o];have Uy:=aa (aV HB.o hb);obtain⟨hc3,hf3⟩:=bH hb;clear hb;cases tn
 ·exact za9
 go_wp2_with fail
 refine(Cu h ow ot ox _ _ _ _ _ _ w3).mono ?_;rintro e w4 ⟨wb,mb,rfl,h1,h2,h3,h4⟩;have τ:=Uy.o.size;have HW4:=aa h3;have gJ:=aa (aV Uy.o h4);clear h3 h4 hc hf hc3 hf3;go_wp2_with fail
 refine(mY h mR.o _ _ _ (.slice none 0 0) [] wb mb w4 HW4.o (HW.o.below gJ.o (ah _)) (HT.o.below gJ.o (ah _)) (HX.o.below gJ.o (ah _)) (aH.nil 1 w4)).mono ?_;rintro e w5 ⟨rfl,ο,hE⟩;have lM:=aa (dM gJ.o hE ϑ);have HW5:=aa (HW4.o.ext hE ο);clear ο hE;generalize htl:(dH h []).isEmpty=em at HE;cases em
 ·go_wp2_with fail
  go_returns;exact⟨lM.o,.inr ⟨by rw[HE.o];simp,wb,mb,by simp,by omega,by omega,HW5.o⟩⟩
 ·go_wp2_with fail
  go_returns;exact⟨lM.o,.inl ⟨by rw[HE.o];simp,by rw[HE.o];simp⟩⟩
end Go.Proofs.Z.gZ
namespace Go.Proofs.Z.gZ
open Go.RowKit Go.RG Go.SL Go.Shelf gK
theorem Tw (l:List Int) (v:Value) (bg:Nat) (Nf aP:Array Value) (q:Int->Bool) (w:World) (hv:aL w v l) (eg: Ϛ Tryz.prog bg)
 (qY: ∀x∈l, ∀W,Ϙ w W->Ϝ bg (Nf.push (iv x)++aP) W (PV (.bool (q x)) W)):
 Ϝ 135 #[v,.func (.func bg) Nf aP] w (PV (.bool (l.all q)) w):=by
 refine(allI l v bg Nf aP (fun k=>q (l.getD k 0)) (fun _ W=>Ϙ w W) w eg (fun k W h=>hv.below h (ah _)) (fun k W o h=>ai h o) (fun k hk W _ h=>?_) (aF _ _)).mono ?_
 ·exact zaB
 ·exact zaJ
def KC (h:bS) (n:Int):Bool:=decide (h.ny<n) ||decide (n<h.die)
def kK (h:bS) (l:List Int):Bool:=(l.take (h.last+1).toNat).all fun n=>!KC h n
theorem R5 (h:bS) (a b c:Value) (n:Int) (bh:Nat) (w:World) (hb:w.heap[bh]? =some (.cells #[.int .i64 h.last,.int .i64 h.size,.int .i64 h.aZ,.int .i64 h.die,.int .i64 h.ny,.int .i64 h.start.1,.int .i64 h.start.2,a,b,c] 55 (0,0))):
 Ϝ 136 #[iv n,.pointer (some ⟨bh,0,none⟩)] w (PV (.bool (!KC h n)) w):=by
 have hc0: ∀i,w.cell? ⟨bh,i,none⟩=(#[.int .i64 h.last,.int .i64 h.size,.int .i64 h.aZ,.int .i64 h.die,.int .i64 h.ny,.int .i64 h.start.1,.int .i64 h.start.2,a,b,c]:Array Value)[i]? :=fun i=>by
  simp only[World.cell?,hb];rfl
 have uM:=(aN.1 hb).1;clear hb;go_enter Tryz.func136,Tryz.ntmps136;go_wp2_with fail
 refine(Vr h a b c n w).mono ?_;rintro e w' ⟨rfl,hb⟩;have HB:=aa hb;clear hb;generalize hl:(decide (h.ny<n) ||decide (n<h.die))=q
 have HE:Hid (KC h n=q):=aa hl;clear hl;exact zbb
theorem KU (h:bS) (ow ot ox:Option Addr) (nw cw nt ct nx cx:Nat) (l:List Int) (h10:l.length=10) (w:World) (h0:0<=h.last) (h9:h.last<=9):
 Ϝ 79 #[hv h (.slice ow nw cw) (.slice ot nt ct) (.slice ox nx cx),kz l] w (PV (.bool (kK h l)) w):=by
 obtain⟨n,hn⟩: ∃n:Nat,h.last+1=n:=⟨(h.last+1).toNat,by omega⟩;have Sj:n<=10:=ϑ;have hk:kK h l=(l.take n).all fun n=>!KC h n:=by unfold kK;rw[hn];rfl
 rw[hk];clear hk;obtain⟨y0,y1,y2,y3,y4,y5,y6,y7,y8,y9,rfl⟩:=Af h10;have hnI:(n:Int)<=10:=ϑ;have aot:(0:Int)<=n:=ϑ;have ajm:([y0,y1,y2,y3,y4,y5,y6,y7,y8,y9].take n).length=n:=by simp;omega
 show Ϝ 79 #[hv h (.slice ow nw cw) (.slice ot nt ct) (.slice ox nx cx),.agg #[iv y0,iv y1,iv y2,iv y3,iv y4,iv y5,iv y6,iv y7,iv y8,iv y9]] w _;go_enter Tryz.func79,Tryz.ntmps79;go_wp2_with fail
 refine(I6 h _ _ _ n _ h0 h9 hn).mono ?_;rintro e w' ⟨rfl,hb⟩;obtain⟨hc,hf⟩:=bH hb;have hz0:w.heap.size<w'.heap.size:=(by have:=hb.size;(try simp only[bA] at this);omega)
 have hz1:w.heap.size+1<w'.heap.size:=(by have:=hb.size;(try simp only[bA] at this);omega)
 have HA:=aa ((hb.block w.heap.size ϗ).trans ((aT _ _ _ ϕ).trans (av _ _)));have HK:=aa ((hb.block (w.heap.size+1) ϕ).trans (dm _ _ _));have HB:=aa (show Ϙ w w' from zl);clear hb;go_wp2_with fail
 have Y5:aL w' (.slice (some ⟨w.heap.size+1,0,none⟩) n 10) ([y0,y1,y2,y3,y4,y5,y6,y7,y8,y9].take n):=by
  have:=aH.Rx n 10 HK.o (by simpa using Sj) Sj (by simp[maxLen]);unfold aL ag;rw[ajm,List.map_take];exact this
 refine(Tw _ (.slice (some ⟨w.heap.size+1,0,none⟩) n 10) 136 #[] #[.pointer (some ⟨w.heap.size,0,none⟩)] (fun n=>!KC h n) w' Y5 (enters_of Tryz.func136 ϰ rfl) ?_).mono ?_
 ·intro x _ W hW;exact R5 h _ _ _ x w.heap.size W ((hW.block _ (aN.1 HA.o).1).trans HA.o)
 ·rintro e W2 ⟨rfl,hb⟩;have Uy:=aa hb;clear hb Y5;go_wp2_with fail
  go_returns;exact⟨by simp,aV HB.o Uy.o⟩
end Go.Proofs.Z.gZ
end

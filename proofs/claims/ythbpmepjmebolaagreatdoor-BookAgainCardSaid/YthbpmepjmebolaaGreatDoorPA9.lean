/-
  Texts of this claim, packed by a program: WA WB.
-/
import Derived.WalkKit
import Derived.WalkLawsBesides
import Derived.WalkSpells
import Derived.Outline
import Derived.Handy
import Derived.KernelRfl
import Derived.Lib.Hide
import Derived.Test.YthbpmepjmebolaaGreatDoorProg
import Derived.Shelf.Abstract
import Derived.Laws.EntriesVeiled
import Derived.Test.YthbpmepjmebolaaGreatDoorPA3
set_option maxHeartbeats 8000000
set_option maxRecDepth 100000
set_option linter.all false
section
namespace Go.Proofs.YthbpmepjmebolaaGreatDoor.jJ
open Go.RowKit Go.RG Go.SL jC
abbrev iv (n:Int):Value:= .int .i64 n
abbrev rv (r:dY):Value:= .agg #[.int .i64 r.1,.int .i64 r.2]
abbrev xv (x:Ff):Value:= .agg #[.int .i64 x.1,.int .i64 x.2.1,.int .i64 x.2.2]
abbrev hv (h:dn) (wv tv xv:Value):Value:= .agg #[.int .i64 h.last,.int .i64 h.size,.int .i64 h.bn,.int .i64 h.die,.int .i64 h.uT,.int .i64 h.start.1,.int .i64 h.start.2,wv,tv,xv]
theorem sS (n l h:Int) (w:World):Calls Tryz.prog 132 #[iv n,iv l,iv h] w (PV (.bool (nZ n l h)) w):=by
 by_cases h1:l<=n
 all_goals
  go_enter Tryz.func132,Tryz.ntmps132
  go_wp2
  go_returns
  exact⟨by simp[nZ];omega,aG _ _⟩
theorem ZN (r:dY) (n:Int) (w:World):Calls Tryz.prog 212 #[rv r,iv n] w (PV (.bool (wP r n)) w):=by
 go_enter Tryz.func212,Tryz.ntmps212
 go_wp2
 all_goals
  go_returns
  exact⟨by simp[wP];omega,by go_grown⟩
theorem size_any (r:dY) (w:World) (h1:0<=r.1) (h2:r.1<=r.2) (h3:r.2<=100000):
 Calls Tryz.prog 130 #[rv r] w (PV (iv (eQ r)) w):=by
 go_enter Tryz.func130,Tryz.ntmps130
 go_wp2
 go_returns
 exact⟨by simp[eQ],by go_grown⟩
theorem Lt (r:dY) (w:World):Calls Tryz.prog 126 #[rv r] w (PV (.bool (wP r 20)) w):=by
 go_enter Tryz.func126,Tryz.ntmps126
 go_wp2_with (go_at_call 212;refine(ZN _ _ _).mono ?_;rintro e w' ⟨rfl,hb⟩)
 go_returns
 exact⟨by simp,(aG _ _).alloc (ai _) _ |>.trans (hb.mono (by simp))⟩
theorem yH (h:dn) (a b c:Value) (n:Int) (w:World):Calls Tryz.prog 211 #[hv h a b c,iv n] w (PV (.bool (nZ n 0 h.last)) w):=by
 go_enter Tryz.func211,Tryz.ntmps211
 go_wp2_with (go_at_call 132;refine(sS _ _ _ _).mono ?_;rintro e w' ⟨rfl,hb⟩)
 go_returns
 exact⟨by simp,(aG _ _).alloc (ai _) _ |>.trans (hb.mono (by simp))⟩
theorem sJ (h:dn) (a b c:Value) (w:World) (h0:0<=h.last) (h9:h.last<=9):Calls Tryz.prog 80 #[hv h a b c] w (PV (iv (h.last+1)) w):=by
 go_enter Tryz.func80,Tryz.ntmps80
 go_wp2
 go_returns
 exact⟨by simp,by go_grown⟩
theorem XY (h:dn) (a b c:Value) (n:Int) (w:World):Calls Tryz.prog 140 #[hv h a b c,iv n] w (PV (.bool (decide (h.uT<n))) w):=by
 go_enter Tryz.func140,Tryz.ntmps140
 go_wp2
 go_returns
 exact⟨by simp,by go_grown⟩
theorem dies_any (h:dn) (a b c:Value) (n:Int) (w:World):Calls Tryz.prog 141 #[hv h a b c,iv n] w (PV (.bool (decide (n<h.die))) w):=by
 go_enter Tryz.func141,Tryz.ntmps141
 go_wp2
 go_returns
 exact⟨by simp,by go_grown⟩
theorem ZZ (h:dn) (a b c:Value) (n:Int) (w:World):Calls Tryz.prog 82 #[hv h a b c,iv n] w (PV (.bool (decide (h.uT<n) ||decide (n<h.die))) w):=by
 go_enter Tryz.func82,Tryz.ntmps82
 go_wp2_with (first|(go_at_call 140;refine(XY _ _ _ _ _ _).mono ?_;rintro e w' ⟨rfl,hb⟩;obtain⟨hc,hf⟩:=bV hb;have hz0:w.heap.size<w'.heap.size:=(by have:=hb.size;(try simp only[bI] at this);omega))|(go_at_call 141;refine(dies_any _ _ _ _ _ _).mono ?_;rintro e w' ⟨rfl,hb⟩;obtain⟨hc,hf⟩:=bV hb;have hz0:w.heap.size<w'.heap.size:=(by have:=hb.size;(try simp only[bI] at this);omega)))
 all_goals
  go_returns
  exact⟨by simp[*],zl⟩
theorem pF (h:dn) (a b c:Value) (w:World):Calls Tryz.prog 124 #[hv h a b c] w (PV (.bool (fO h)) w):=by
 go_enter Tryz.func124,Tryz.ntmps124
 go_wp2_with (first|(go_at_call 132;refine(sS _ _ _ _).mono ?_;rintro e w' ⟨rfl,hb⟩;obtain⟨hc,hf⟩:=bV hb;have hz0:w.heap.size<w'.heap.size:=(by have:=hb.size;(try simp only[bI] at this);omega))|(go_at_call 212;refine(ZN (_,_) _ _).mono ?_;rintro e w' ⟨rfl,hb⟩;obtain⟨hc,hf⟩:=bV hb;have hz0:w.heap.size<w'.heap.size:=(by have:=hb.size;(try simp only[bI] at this);omega)))
 all_goals
  go_returns
  exact⟨by simp only[fO];simp[*];try omega,zl⟩
end Go.Proofs.YthbpmepjmebolaaGreatDoor.jJ
namespace Go.Proofs.YthbpmepjmebolaaGreatDoor.jJ
open Go.RowKit Go.RG Go.SL Go.Shelf jC
theorem aku (l:List dY) (v:Value) (bz:Nat) (fst caps:Array Value) (p:Nat->Bool) (I:Nat->World->Prop) (w:World) (eg: ∀args w,(callFunc bz args).run Tryz.prog w= .ok (.enter bz args) w)
 (hsl: ∀k W,I k W->bM W v l)
 (hcall: ∀k (hk:k<l.length) W,(∀j,j<k->p j=false)->I k W->Calls Tryz.prog bz (fst.push (rv l[k])++caps) W (fun e W'=>e= .returned (.bool (p k))/\I (k+1) W')) (h0:I 0 w):
 Calls Tryz.prog 268 #[v,.func (.func bz) fst caps] w (eP l.length p I (fun k=>iv k) (iv (-1))):=by
 have hlen:=(hsl 0 w h0).len
 obtain⟨o,c,rfl⟩:=(hsl 0 w h0).open
 have HC:=ae hcall
 have HS:=ae hsl
 clear hcall hsl
 go_enter Tryz.func268,Tryz.ntmps268
 go_wp2
 go_loopw [4,5,8] (fun _ _ i wr=> ∃k:Nat,k<=l.length/\i= .int .i64 k/\(∀j,j<k->p j=false)/\I k wr) (fun _ _ i _=>l.length-(intOf i).toNat)
 case atStart=>exact⟨0,bW _,rfl,fun j hj=>by omega,h0⟩
 case round=>
  obtain⟨k,hk,rfl,hno,hI⟩:=hrel
  by_cases hlt:k<l.length
  ·obtain⟨b,off,rfl,hb,hc0,hc1⟩:=bM.cell (HS.o k wr hI) hlt
   have hC:=HC.o k hlt wr hno hI
   have HN:=ae hno
   clear hno
   go_wp2_with fail
   refine hC.mono ?_
   rintro e W1 ⟨rfl,hI1⟩
   have HI:=ae hI1
   clear hI1 hI hC
   cases hp:p k
   ·go_wp2_with fail
    go_roundw
    case rel=>exact⟨k+1,by omega,by go_num,fun j hj=>(by by_cases e:j=k;(subst e;exact hp);exact HN.o j (by omega)),HI.o⟩
    case measure=>simp[intOf];omega
   ·go_wp2_with fail
    go_returns
    exact⟨k,by omega,HN.o,.inl ⟨hlt,hp,by simp,HI.o⟩⟩
  ·have hkl:k=l.length:=by omega
   have HN:=ae hno
   clear hno
   go_wp2_with fail
   go_returns
   exact⟨k,by omega,HN.o,.inr ⟨hkl,by simp,by subst hkl;exact hI⟩⟩
theorem aeJ (l:List Int) (v:Value) (bz:Nat) (fst caps:Array Value) (p:Nat->Bool) (I:Nat->World->Prop) (w:World) (eg: ∀args w,(callFunc bz args).run Tryz.prog w= .ok (.enter bz args) w)
 (hsl: ∀k W,I k W->aP W v l)
 (hcall: ∀k (hk:k<l.length) W,(∀j,j<k->p j=false)->I k W->Calls Tryz.prog bz (fst.push (iv l[k])++caps) W (fun e W'=>e= .returned (.bool (p k))/\I (k+1) W')) (h0:I 0 w):
 Calls Tryz.prog 220 #[v,.func (.func bz) fst caps] w (eP l.length p I (fun k=>iv k) (iv (-1))):=by
 have hlen:=(hsl 0 w h0).len
 obtain⟨o,c,rfl⟩:=(hsl 0 w h0).open
 have HC:=ae hcall
 have HS:=ae hsl
 clear hcall hsl
 go_enter Tryz.func220,Tryz.ntmps220
 go_wp2
 go_loopw [4,5,8] (fun _ _ i wr=> ∃k:Nat,k<=l.length/\i= .int .i64 k/\(∀j,j<k->p j=false)/\I k wr) (fun _ _ i _=>l.length-(intOf i).toNat)
 case atStart=>exact⟨0,bW _,rfl,fun j hj=>by omega,h0⟩
 case round=>
  obtain⟨k,hk,rfl,hno,hI⟩:=hrel
  by_cases hlt:k<l.length
  ·obtain⟨b,off,rfl,hb,hc0⟩:=aP.cell (HS.o k wr hI) hlt
   have hC:=HC.o k hlt wr hno hI
   have HN:=ae hno
   clear hno
   go_wp2_with fail
   refine hC.mono ?_
   rintro e W1 ⟨rfl,hI1⟩
   have HI:=ae hI1
   clear hI1 hI hC
   cases hp:p k
   ·go_wp2_with fail
    go_roundw
    case rel=>exact⟨k+1,by omega,by go_num,fun j hj=>(by by_cases e:j=k;(subst e;exact hp);exact HN.o j (by omega)),HI.o⟩
    case measure=>simp[intOf];omega
   ·go_wp2_with fail
    go_returns
    exact⟨k,by omega,HN.o,.inl ⟨hlt,hp,by simp,HI.o⟩⟩
  ·have hkl:k=l.length:=by omega
   have HN:=ae hno
   clear hno
   go_wp2_with fail
   go_returns
   exact⟨k,by omega,HN.o,.inr ⟨hkl,by simp,by subst hkl;exact hI⟩⟩
theorem aks (l:List Ff) (v:Value) (bz:Nat) (fst caps:Array Value) (p:Nat->Bool) (I:Nat->World->Prop) (w:World) (eg: ∀args w,(callFunc bz args).run Tryz.prog w= .ok (.enter bz args) w)
 (hsl: ∀k W,I k W->bD W v l)
 (hcall: ∀k (hk:k<l.length) W,(∀j,j<k->p j=false)->I k W->Calls Tryz.prog bz (fst.push (xv l[k])++caps) W (fun e W'=>e= .returned (.bool (p k))/\I (k+1) W')) (h0:I 0 w):
 Calls Tryz.prog 269 #[v,.func (.func bz) fst caps] w (eP l.length p I (fun k=>iv k) (iv (-1))):=by
 have hlen:=(hsl 0 w h0).len
 obtain⟨o,c,rfl⟩:=(hsl 0 w h0).open
 have HC:=ae hcall
 have HS:=ae hsl
 clear hcall hsl
 go_enter Tryz.func269,Tryz.ntmps269
 go_wp2
 go_loopw [4,5,8] (fun _ _ i wr=> ∃k:Nat,k<=l.length/\i= .int .i64 k/\(∀j,j<k->p j=false)/\I k wr) (fun _ _ i _=>l.length-(intOf i).toNat)
 case atStart=>exact⟨0,bW _,rfl,fun j hj=>by omega,h0⟩
 case round=>
  obtain⟨k,hk,rfl,hno,hI⟩:=hrel
  by_cases hlt:k<l.length
  ·obtain⟨b,off,rfl,hb,hc0,hc1,hc2⟩:=bD.cell (HS.o k wr hI) hlt
   have hC:=HC.o k hlt wr hno hI
   have HN:=ae hno
   clear hno
   go_wp2_with fail
   refine hC.mono ?_
   rintro e W1 ⟨rfl,hI1⟩
   have HI:=ae hI1
   clear hI1 hI hC
   cases hp:p k
   ·go_wp2_with fail
    go_roundw
    case rel=>exact⟨k+1,by omega,by go_num,fun j hj=>(by by_cases e:j=k;(subst e;exact hp);exact HN.o j (by omega)),HI.o⟩
    case measure=>simp[intOf];omega
   ·go_wp2_with fail
    go_returns
    exact⟨k,by omega,HN.o,.inl ⟨hlt,hp,by simp,HI.o⟩⟩
  ·have hkl:k=l.length:=by omega
   have HN:=ae hno
   clear hno
   go_wp2_with fail
   go_returns
   exact⟨k,by omega,HN.o,.inr ⟨hkl,by simp,by subst hkl;exact hI⟩⟩
theorem aiL (l:List dY) (v:Value) (bz:Nat) (fst caps:Array Value) (p:Nat->Bool) (I:Nat->World->Prop) (w:World) (eg: ∀args w,(callFunc bz args).run Tryz.prog w= .ok (.enter bz args) w)
 (hsl: ∀k W,I k W->bM W v l)
 (hcall: ∀k (hk:k<l.length) W,(∀j,j<k->p j=false)->I k W->Calls Tryz.prog bz (fst.push (rv l[k])++caps) W (fun e W'=>e= .returned (.bool (p k))/\I (k+1) W')) (h0:I 0 w):
 Calls Tryz.prog 213 #[v,.func (.func bz) fst caps] w (eP l.length p I (fun _=> .bool true) (.bool false)):=by
 have HI:=ae (aku l v bz fst caps p I w eg hsl hcall h0)
 have hlen:=(hsl 0 w h0).len
 clear hsl hcall h0 eg
 go_enter Tryz.func213,Tryz.ntmps213
 go_wp2_with fail
 refine HI.o.mono ?_
 clear HI
 rintro e W' ⟨k,hk,hno,⟨hlt,hp,rfl,hI⟩|⟨hkl,rfl,hI⟩⟩
 ·have HN:=ae (ag hno (ag hp hI))
  clear hno hp hI
  go_wp2_with fail
  go_returns
  exact⟨k,hk,HN.o.1,.inl ⟨hlt,HN.o.2.1,by simp,HN.o.2.2⟩⟩
 ·have HN:=ae (ag hno (ag hkl hI))
  clear hno hkl hI
  go_wp2_with fail
  go_returns
  exact⟨k,hk,HN.o.1,.inr ⟨HN.o.2.1,by simp,HN.o.2.1▸HN.o.2.2⟩⟩
theorem P8 (l:List Int) (v:Value) (bz:Nat) (fst caps:Array Value) (p:Nat->Bool) (I:Nat->World->Prop) (w:World) (eg: ∀args w,(callFunc bz args).run Tryz.prog w= .ok (.enter bz args) w)
 (hsl: ∀k W,I k W->aP W v l)
 (hcall: ∀k (hk:k<l.length) W,(∀j,j<k->p j=false)->I k W->Calls Tryz.prog bz (fst.push (iv l[k])++caps) W (fun e W'=>e= .returned (.bool (p k))/\I (k+1) W')) (h0:I 0 w):
 Calls Tryz.prog 138 #[v,.func (.func bz) fst caps] w (eP l.length p I (fun _=> .bool true) (.bool false)):=by
 have HI:=ae (aeJ l v bz fst caps p I w eg hsl hcall h0)
 have hlen:=(hsl 0 w h0).len
 clear hsl hcall h0 eg
 go_enter Tryz.func138,Tryz.ntmps138
 go_wp2_with fail
 refine HI.o.mono ?_
 clear HI
 rintro e W' ⟨k,hk,hno,⟨hlt,hp,rfl,hI⟩|⟨hkl,rfl,hI⟩⟩
 ·have HN:=ae (ag hno (ag hp hI))
  clear hno hp hI
  go_wp2_with fail
  go_returns
  exact⟨k,hk,HN.o.1,.inl ⟨hlt,HN.o.2.1,by simp,HN.o.2.2⟩⟩
 ·have HN:=ae (ag hno (ag hkl hI))
  clear hno hkl hI
  go_wp2_with fail
  go_returns
  exact⟨k,hk,HN.o.1,.inr ⟨HN.o.2.1,by simp,HN.o.2.1▸HN.o.2.2⟩⟩
theorem aiJ (l:List Ff) (v:Value) (bz:Nat) (fst caps:Array Value) (p:Nat->Bool) (I:Nat->World->Prop) (w:World) (eg: ∀args w,(callFunc bz args).run Tryz.prog w= .ok (.enter bz args) w)
 (hsl: ∀k W,I k W->bD W v l)
 (hcall: ∀k (hk:k<l.length) W,(∀j,j<k->p j=false)->I k W->Calls Tryz.prog bz (fst.push (xv l[k])++caps) W (fun e W'=>e= .returned (.bool (p k))/\I (k+1) W')) (h0:I 0 w):
 Calls Tryz.prog 215 #[v,.func (.func bz) fst caps] w (eP l.length p I (fun _=> .bool true) (.bool false)):=by
 have HI:=ae (aks l v bz fst caps p I w eg hsl hcall h0)
 have hlen:=(hsl 0 w h0).len
 clear hsl hcall h0 eg
 go_enter Tryz.func215,Tryz.ntmps215
 go_wp2_with fail
 refine HI.o.mono ?_
 clear HI
 rintro e W' ⟨k,hk,hno,⟨hlt,hp,rfl,hI⟩|⟨hkl,rfl,hI⟩⟩
 ·have HN:=ae (ag hno (ag hp hI))
  clear hno hp hI
  go_wp2_with fail
  go_returns
  exact⟨k,hk,HN.o.1,.inl ⟨hlt,HN.o.2.1,by simp,HN.o.2.2⟩⟩
 ·have HN:=ae (ag hno (ag hkl hI))
  clear hno hkl hI
  go_wp2_with fail
  go_returns
  exact⟨k,hk,HN.o.1,.inr ⟨HN.o.2.1,by simp,HN.o.2.1▸HN.o.2.2⟩⟩
theorem aiT (x:dY) (bx bz:Nat) (fst caps:Array Value) (b:Bool) (W:World) (R:World->Prop) (eg: ∀args w,(callFunc bz args).run Tryz.prog w= .ok (.enter bz args) w)
 (hbx:W.cell? ⟨bx,0,none⟩=some (.func (.func bz) fst caps))
 (hcall:Calls Tryz.prog bz (fst.push (rv x)++caps) (W.alloc (.cells #[iv x.1,iv x.2] 34)) (fun e W'=>e= .returned (.bool b)/\R W')):
 Calls Tryz.prog 214 #[rv x,.pointer (some ⟨bx,0,none⟩)] W (fun e W'=>e= .returned (.bool !b)/\R W'):=by
 have hlt:=dP W _ hbx
 have HC:=ae hcall
 clear hcall
 go_enter Tryz.func214,Tryz.ntmps214
 go_wp2_with fail
 refine HC.o.mono ?_
 rintro e W' ⟨rfl,hR⟩
 have HR:=ae hR
 clear hR
 go_wp2_with fail
 go_returns
 exact⟨by simp,HR.o⟩
theorem aiV (x:Int) (bx bz:Nat) (fst caps:Array Value) (b:Bool) (W:World) (R:World->Prop) (eg: ∀args w,(callFunc bz args).run Tryz.prog w= .ok (.enter bz args) w)
 (hbx:W.cell? ⟨bx,0,none⟩=some (.func (.func bz) fst caps))
 (hcall:Calls Tryz.prog bz (fst.push (iv x)++caps) W (fun e W'=>e= .returned (.bool b)/\R W')):
 Calls Tryz.prog 139 #[iv x,.pointer (some ⟨bx,0,none⟩)] W (fun e W'=>e= .returned (.bool !b)/\R W'):=by
 have hlt:=dP W _ hbx
 have HC:=ae hcall
 clear hcall
 go_enter Tryz.func139,Tryz.ntmps139
 go_wp2_with fail
 refine HC.o.mono ?_
 rintro e W' ⟨rfl,hR⟩
 have HR:=ae hR
 clear hR
 go_wp2_with fail
 go_returns
 exact⟨by simp,HR.o⟩
theorem aiS (x:Ff) (bx bz:Nat) (fst caps:Array Value) (b:Bool) (W:World) (R:World->Prop) (eg: ∀args w,(callFunc bz args).run Tryz.prog w= .ok (.enter bz args) w)
 (hbx:W.cell? ⟨bx,0,none⟩=some (.func (.func bz) fst caps))
 (hcall:Calls Tryz.prog bz (fst.push (xv x)++caps) (W.alloc (.cells #[iv x.1,iv x.2.1,iv x.2.2] 122)) (fun e W'=>e= .returned (.bool b)/\R W')):
 Calls Tryz.prog 216 #[xv x,.pointer (some ⟨bx,0,none⟩)] W (fun e W'=>e= .returned (.bool !b)/\R W'):=by
 have hlt:=dP W _ hbx
 have HC:=ae hcall
 clear hcall
 go_enter Tryz.func216,Tryz.ntmps216
 go_wp2_with fail
 refine HC.o.mono ?_
 rintro e W' ⟨rfl,hR⟩
 have HR:=ae hR
 clear hR
 go_wp2_with fail
 go_returns
 exact⟨by simp,HR.o⟩
theorem al6 (l:List dY) (v:Value) (bz:Nat) (fst caps:Array Value) (p:Nat->Bool) (I:Nat->World->Prop) (w:World) (eg: ∀args w,(callFunc bz args).run Tryz.prog w= .ok (.enter bz args) w)
 (hsl: ∀k W,I k W->bM W v l) (hal: ∀k W o,I k W->I k (W.alloc o))
 (hcall: ∀k (hk:k<l.length) W,(∀j,j<k->p j=true)->I k W->Calls Tryz.prog bz (fst.push (rv l[k])++caps) W (fun e W'=>e= .returned (.bool (p k))/\I (k+1) W'/\jr w.heap.size W W')) (h0:I 0 w):
 Calls Tryz.prog 125 #[v,.func (.func bz) fst caps] w (eP l.length (fun k=>!p k) I (fun _=> .bool false) (.bool true)):=by
 have HI:=ae (aiL l v 214 #[] #[.pointer (some ⟨w.heap.size,0,none⟩)] (fun k=>!p k)
  (fun k W=>I k W/\W.heap[w.heap.size]? =some (.cells #[.func (.func bz) fst caps] 221 (0,0))) (w.alloc (.cells #[.func (.func bz) fst caps] 221))
  (enters_of Tryz.func214 (by kernel_rfl) rfl) (fun k W h=>hsl k W h.1)
  (fun k hk W hno h=>by
    have hlt:w.heap.size<W.heap.size:=(aV.1 h.2).1
    refine(aiT l[k] w.heap.size bz fst caps (p k) W (fun W'=>I (k+1) W'/\W'.heap[w.heap.size]? =some (.cells #[.func (.func bz) fst caps] 221 (0,0))) eg (aB h.2) ?_)
    refine(hcall k hk _ (fun j hj=>by simpa using hno j hj) (by first|exact hal _ _ _ h.1|exact h.1)).mono ?_
    rintro e W' ⟨rfl,h1,h2⟩
    refine⟨rfl,h1,(h2.block _ (ai _) (by first|exact hlt|(simp;omega))).trans (by first|exact h.2|exact(aW _ _ _ hlt).trans h.2)⟩)
  ⟨hal _ _ _ h0,heap_alloc_new w _⟩)
 have hlen:=(hsl 0 w h0).len
 clear hsl hcall h0 eg hal
 go_enter Tryz.func125,Tryz.ntmps125
 go_wp2_with fail
 refine HI.o.mono ?_
 clear HI
 rintro e W' ⟨k,hk,hno,⟨hlt,hp,rfl,hI,_⟩|⟨hkl,rfl,hI,_⟩⟩
 ·have HN:=ae (ag hno (ag hp hI))
  clear hno hp hI
  go_wp2_with fail
  go_returns
  exact⟨k,hk,HN.o.1,.inl ⟨hlt,HN.o.2.1,by simp,HN.o.2.2⟩⟩
 ·have HN:=ae (ag hno (ag hkl hI))
  clear hno hkl hI
  go_wp2_with fail
  go_returns
  exact⟨k,hk,HN.o.1,.inr ⟨HN.o.2.1,by simp,HN.o.2.1▸HN.o.2.2⟩⟩
theorem allI (l:List Int) (v:Value) (bz:Nat) (fst caps:Array Value) (p:Nat->Bool) (I:Nat->World->Prop) (w:World) (eg: ∀args w,(callFunc bz args).run Tryz.prog w= .ok (.enter bz args) w)
 (hsl: ∀k W,I k W->aP W v l) (hal: ∀k W o,I k W->I k (W.alloc o))
 (hcall: ∀k (hk:k<l.length) W,(∀j,j<k->p j=true)->I k W->Calls Tryz.prog bz (fst.push (iv l[k])++caps) W (fun e W'=>e= .returned (.bool (p k))/\I (k+1) W'/\jr w.heap.size W W')) (h0:I 0 w):
 Calls Tryz.prog 79 #[v,.func (.func bz) fst caps] w (eP l.length (fun k=>!p k) I (fun _=> .bool false) (.bool true)):=by
 have HI:=ae (P8 l v 139 #[] #[.pointer (some ⟨w.heap.size,0,none⟩)] (fun k=>!p k)
  (fun k W=>I k W/\W.heap[w.heap.size]? =some (.cells #[.func (.func bz) fst caps] 167 (0,0))) (w.alloc (.cells #[.func (.func bz) fst caps] 167))
  (enters_of Tryz.func139 (by kernel_rfl) rfl) (fun k W h=>hsl k W h.1)
  (fun k hk W hno h=>by
    have hlt:w.heap.size<W.heap.size:=(aV.1 h.2).1
    refine(aiV l[k] w.heap.size bz fst caps (p k) W (fun W'=>I (k+1) W'/\W'.heap[w.heap.size]? =some (.cells #[.func (.func bz) fst caps] 167 (0,0))) eg (aB h.2) ?_)
    refine(hcall k hk _ (fun j hj=>by simpa using hno j hj) (by first|exact hal _ _ _ h.1|exact h.1)).mono ?_
    rintro e W' ⟨rfl,h1,h2⟩
    refine⟨rfl,h1,(h2.block _ (ai _) (by first|exact hlt|(simp;omega))).trans (by first|exact h.2|exact(Below.heap_alloc _ _ _ hlt).trans h.2)⟩)
  ⟨hal _ _ _ h0,heap_alloc_new w _⟩)
 have hlen:=(hsl 0 w h0).len
 clear hsl hcall h0 eg hal
 go_enter Tryz.func79,Tryz.ntmps79
 go_wp2_with fail
 refine HI.o.mono ?_
 clear HI
 rintro e W' ⟨k,hk,hno,⟨hlt,hp,rfl,hI,_⟩|⟨hkl,rfl,hI,_⟩⟩
 ·have HN:=ae (ag hno (ag hp hI))
  clear hno hp hI
  go_wp2_with fail
  go_returns
  exact⟨k,hk,HN.o.1,.inl ⟨hlt,HN.o.2.1,by simp,HN.o.2.2⟩⟩
 ·have HN:=ae (ag hno (ag hkl hI))
  clear hno hkl hI
  go_wp2_with fail
  go_returns
  exact⟨k,hk,HN.o.1,.inr ⟨HN.o.2.1,by simp,HN.o.2.1▸HN.o.2.2⟩⟩
theorem al5 (l:List Ff) (v:Value) (bz:Nat) (fst caps:Array Value) (p:Nat->Bool) (I:Nat->World->Prop) (w:World) (eg: ∀args w,(callFunc bz args).run Tryz.prog w= .ok (.enter bz args) w)
 (hsl: ∀k W,I k W->bD W v l) (hal: ∀k W o,I k W->I k (W.alloc o))
 (hcall: ∀k (hk:k<l.length) W,(∀j,j<k->p j=true)->I k W->Calls Tryz.prog bz (fst.push (xv l[k])++caps) W (fun e W'=>e= .returned (.bool (p k))/\I (k+1) W'/\jr w.heap.size W W')) (h0:I 0 w):
 Calls Tryz.prog 127 #[v,.func (.func bz) fst caps] w (eP l.length (fun k=>!p k) I (fun _=> .bool false) (.bool true)):=by
 have HI:=ae (aiJ l v 216 #[] #[.pointer (some ⟨w.heap.size,0,none⟩)] (fun k=>!p k)
  (fun k W=>I k W/\W.heap[w.heap.size]? =some (.cells #[.func (.func bz) fst caps] 219 (0,0))) (w.alloc (.cells #[.func (.func bz) fst caps] 219))
  (enters_of Tryz.func216 (by kernel_rfl) rfl) (fun k W h=>hsl k W h.1)
  (fun k hk W hno h=>by
    have hlt:w.heap.size<W.heap.size:=(aV.1 h.2).1
    refine(aiS l[k] w.heap.size bz fst caps (p k) W (fun W'=>I (k+1) W'/\W'.heap[w.heap.size]? =some (.cells #[.func (.func bz) fst caps] 219 (0,0))) eg (aB h.2) ?_)
    refine(hcall k hk _ (fun j hj=>by simpa using hno j hj) (by first|exact hal _ _ _ h.1|exact h.1)).mono ?_
    rintro e W' ⟨rfl,h1,h2⟩
    refine⟨rfl,h1,(h2.block _ (ai _) (by first|exact hlt|(simp;omega))).trans (by first|exact h.2|exact(aW _ _ _ hlt).trans h.2)⟩)
  ⟨hal _ _ _ h0,heap_alloc_new w _⟩)
 have hlen:=(hsl 0 w h0).len
 clear hsl hcall h0 eg hal
 go_enter Tryz.func127,Tryz.ntmps127
 go_wp2_with fail
 refine HI.o.mono ?_
 clear HI
 rintro e W' ⟨k,hk,hno,⟨hlt,hp,rfl,hI,_⟩|⟨hkl,rfl,hI,_⟩⟩
 ·have HN:=ae (ag hno (ag hp hI))
  clear hno hp hI
  go_wp2_with fail
  go_returns
  exact⟨k,hk,HN.o.1,.inl ⟨hlt,HN.o.2.1,by simp,HN.o.2.2⟩⟩
 ·have HN:=ae (ag hno (ag hkl hI))
  clear hno hkl hI
  go_wp2_with fail
  go_returns
  exact⟨k,hk,HN.o.1,.inr ⟨HN.o.2.1,by simp,HN.o.2.1▸HN.o.2.2⟩⟩
end Go.Proofs.YthbpmepjmebolaaGreatDoor.jJ
namespace Go.Proofs.YthbpmepjmebolaaGreatDoor.jJ
open Go.RowKit Go.RG Go.SL Go.Shelf jC
theorem Oq (h:dn) (a b c:Value) (x:Ff) (w:World):Calls Tryz.prog 123 #[hv h a b c,xv x] w (PV (.bool (BA h.last x)) w):=by
 go_enter Tryz.func123,Tryz.ntmps123
 go_wp2_with (first|(go_at_call 211;refine(yH h _ _ _ _ _).mono ?_;rintro e w' ⟨rfl,hb⟩;obtain⟨hc,hf⟩:=bV hb;have hz0:w.heap.size<w'.heap.size:=(by have:=hb.size;(try simp only[bI] at this);omega);have hz1:w.heap.size+1<w'.heap.size:=(by have:=hb.size;(try simp only[bI] at this);omega))|(go_at_call 132;refine(sS _ _ _ _).mono ?_;rintro e w' ⟨rfl,hb⟩;obtain⟨hc,hf⟩:=bV hb;have hz0:w.heap.size<w'.heap.size:=(by have:=hb.size;(try simp only[bI] at this);omega);have hz1:w.heap.size+1<w'.heap.size:=(by have:=hb.size;(try simp only[bI] at this);omega)))
 all_goals
  go_returns
  exact⟨by simp[BA, *],zl⟩
theorem zx (x:Ff) (l0 l1 l2 l3 l4 l5 l6 l7 l8 l9:Int) (w:World) (h0:0<=x.1) (h9:x.1<=9) (hs0:0<=x.2.1) (hs1:x.2.1<=1000) (he0:0<=x.2.2) (he1:x.2.2<=50)
 (hl: ∀n∈[l0,l1,l2,l3,l4,l5,l6,l7,l8,l9],0<=n/\n<=100000):
 Calls Tryz.prog 136 #[xv x,.agg #[iv l0,iv l1,iv l2,iv l3,iv l4,iv l5,iv l6,iv l7,iv l8,iv l9]] w (PV (.bool (Dj x [l0,l1,l2,l3,l4,l5,l6,l7,l8,l9])) w):=by
 obtain⟨hh,xs,xe⟩:=x
 simp only at h0 h9 hs0 hs1 he0 he1
 obtain⟨k,rfl⟩:=Int.eq_ofNat_of_zero_le h0
 have hk:k<10:=by omega
 have hlk:=hl ([l0,l1,l2,l3,l4,l5,l6,l7,l8,l9][k]'(by simpa using hk)) (bT _)
 generalize hm:[l0,l1,l2,l3,l4,l5,l6,l7,l8,l9][k]'(by simpa using hk)=m at hlk
 have hcell:(w.alloc (.cells #[iv k,iv xs,iv xe] 122) |>.alloc (.cells #[iv l0,iv l1,iv l2,iv l3,iv l4,iv l5,iv l6,iv l7,iv l8,iv l9] 107)).cell? ⟨w.heap.size+1,k,none⟩=some (iv m):=by
  have:([iv l0,iv l1,iv l2,iv l3,iv l4,iv l5,iv l6,iv l7,iv l8,iv l9]:List Value)[k]? =some (iv m):=by
   have:([l0,l1,l2,l3,l4,l5,l6,l7,l8,l9].map iv)[k]? =some (iv m):=by
    rw[qJ,dA (by simpa using hk),hm];rfl
   exact this
  simp only[World.cell?]
  rw[show(w.alloc (.cells #[iv k,iv xs,iv xe] 122) |>.alloc (.cells #[iv l0,iv l1,iv l2,iv l3,iv l4,iv l5,iv l6,iv l7,iv l8,iv l9] 107)).heap[w.heap.size+1]? =some (.cells #[iv l0,iv l1,iv l2,iv l3,iv l4,iv l5,iv l6,iv l7,iv l8,iv l9] 107) from by
   have:=heap_alloc_new (w.alloc (.cells #[iv k,iv xs,iv xe] 122)) (.cells #[iv l0,iv l1,iv l2,iv l3,iv l4,iv l5,iv l6,iv l7,iv l8,iv l9] 107)
   rwa [bI] at this]
  simpa using this
 have hr:Dj ((k:Int),xs,xe) [l0,l1,l2,l3,l4,l5,l6,l7,l8,l9]=nZ (m-xs) (-xe) xe:=by
  simp only[Dj,Int.toNat_natCast,eY]
  rw[dA (by simpa using hk),hm];rfl
 have HR:=ae hr
 clear hr hm hl
 have hk':(k:Int)<10:=by omega
 go_enter Tryz.func136,Tryz.ntmps136
 go_wp2_with fail
 refine zg 13 [] none [(12,Spec.val (.bool (nZ (m-xs) (-xe) xe)))] ?_
 simp only[zt]
 repeat (refine zn ?_;simp only[zp])
 refine zv 132 (h:=fun W hE hF=>by exact sS _ _ _ _) (t:=?_)
 simp only[zp]
 repeat (refine zd ?_;simp only[zp])
 intro W hE hF
 obtain⟨hc,hf⟩:=bV hE.below
 have hzE:=hE.size
 (try simp only[bI] at hzE)
 go_wp2
 go_returns
 rw[HR.o]
 exact⟨by simp,(by repeat (first|exact aG _ _|assumption|refine aX ?_ hE.below|refine ak ?_ _|refine iq ?_))⟩
theorem BD (a b:Int) (g c:Nat) (w:World) (h0:w.cell? ⟨g,0,none⟩=some (iv a)) (h1:w.cell? ⟨g,1,none⟩=some (iv b)):
 Calls Tryz.prog 122 #[.slice (some ⟨g,0,none⟩) 2 c] w (PV (iv (min a b)) w):=by
 go_enter Tryz.func122,Tryz.ntmps122
 go_wp2
 go_rounds 2
 all_goals
  go_returns
  exact⟨by simp <;>omega,aG _ _⟩
theorem Es (a b:Int) (g c:Nat) (w:World) (h0:w.cell? ⟨g,0,none⟩=some (iv a)) (h1:w.cell? ⟨g,1,none⟩=some (iv b)):
 Calls Tryz.prog 129 #[.slice (some ⟨g,0,none⟩) 2 c] w (PV (iv (min a b)) w):=by
 have H:=ae (BD a b g c w h0 h1)
 go_enter Tryz.func129,Tryz.ntmps129
 go_wp2_with fail
 refine H.o.mono ?_
 rintro e w' ⟨rfl,hb⟩
 go_wp2_with fail
 go_returns
 exact⟨by simp,hb⟩
theorem JH (r:dY) (n:Int) (w:World):Calls Tryz.prog 171 #[rv r,iv n] w (PV (rv (min r.1 n,max r.2 n)) w):=by
 go_enter Tryz.func171,Tryz.ntmps171
 go_wp2_with fail
 refine zg 10 [] none [(3,Spec.slice (w.heap.size+2) #[iv r.1,iv n] 3 2),(4,Spec.val (iv (min r.1 n)))] ?_
 simp only[zt]
 repeat (refine zd ?_;simp only[zp])
 refine cu (w.heap.size+2) _ _ _ (by rfl) (by simp) (by rfl) (by simp) (by simp) (fun W hW=>by go_simp;try rfl) (fun b=>?_)
 simp only[zp]
 refine dK _ (by rfl) (by rfl) 129 _ (fun W hW=>by go_simp;try rfl) (fun W hE hF=>?_) ?_
 ·obtain⟨c,hcb,hB,hc⟩:=hF _ (bg _) (by kernel_rfl)
  cases hcb
  exact Es r.1 n b 2 W (by simp[World.cell?,hc]) (by simp[World.cell?,hc])
 simp only[zp]
 repeat (refine zd ?_;simp only[zp])
 intro W hE hF
 obtain⟨hc,hf⟩:=bV hE.below
 have hzE:=hE.size
 (try simp only[bI] at hzE)
 go_wp2
 all_goals
  (try simp only[Exit.inBlock,Exit.then])
  refine bodyPost_ret (v:=rv (min r.1 n,max r.2 n)) (by simp[results,Tryz.results171,go_sem,hc];try omega) rfl ?_
  exact⟨rfl,ze⟩
theorem iL (l:List Int) (v:Value) (n:Int) (w:World) (hv:aP w v l):Calls Tryz.prog 135 #[v,iv n] w (PV (.bool (l.contains n)) w):=by
 have hidx:Calls Tryz.prog 219 #[v,iv n] w (fun e w'=>w=w'/\((l.contains n=true/\ ∃k:Nat,k<l.length/\e= .returned (iv k))∨(l.contains n=false/\e= .returned (iv (-1))))):=by
  have hlen:=hv.len
  obtain⟨o,c,rfl⟩:=hv.open
  have HV:=ae hv
  clear hv
  go_enter Tryz.func219,Tryz.ntmps219
  go_wp2
  go_loop [4,5,8] (fun _ _ i=> ∃k:Nat,k<=l.length/\i= .int .i64 k/\(∀j (hj:j<l.length),j<k->l[j]≠n)) (fun _ _ i=>l.length-(intOf i).toNat)
  case atStart=>exact⟨0,bW _,rfl,fun j _ hj=>by omega⟩
  case round=>
   obtain⟨k,hk,rfl,hno⟩:=hrel
   have HN:=ae hno
   clear hno
   by_cases hlt:k<l.length
   ·obtain⟨b,off,rfl,hb,hc0⟩:=aP.cell HV.o hlt
    by_cases he:l[k]=n
    ·have he':(n==l[k])=true:=by simp[he]
     have HE:=ae he
     clear he
     go_wp2
     go_returns
     exact⟨rfl,.inl ⟨by rw[<-HE.o];exact bT _,k,hlt,by simp⟩⟩
    ·have he':(n==l[k])=false:=by simp;omega
     have HE:=ae he
     clear he
     go_wp2
     go_round
     case rel=>exact⟨k+1,by omega,by go_num,fun j hj hjk=>(by by_cases e:j=k;(subst e;exact HE.o);exact HN.o j hj (by omega))⟩
     case measure=>simp[intOf];omega
   ·have hkl:k=l.length:=by omega
    go_wp2
    go_returns
    refine⟨rfl,.inr ⟨?_,by simp⟩⟩
    intro hm
    obtain⟨j,hj,e⟩:=mF hm
    exact HN.o j hj (by omega) e
 have HI:=ae hidx
 clear hidx
 go_enter Tryz.func135,Tryz.ntmps135
 go_wp2_with fail
 refine HI.o.mono ?_
 rintro e w' ⟨rfl,⟨hc,k,hk,rfl⟩|⟨hc,rfl⟩⟩
 ·have HC:=ae hc
  clear hc
  go_wp2_with fail
  go_returns
  exact⟨by rw[HC.o];simp,aG _ _⟩
 ·have HC:=ae hc
  clear hc
  go_wp2_with fail
  go_returns
  exact⟨by rw[HC.o];simp,aG _ _⟩
theorem LK:iR Tryz.prog 35 34 (rv (0,0)) 2 16:=⟨Tryz.underlying35,by kernel_rfl,rfl,by omega⟩
theorem rO:iR Tryz.prog 36 3 (iv 0) 1 8:=⟨Tryz.underlying36,by kernel_rfl,rfl,by omega⟩
theorem RZ (h:dn) (wv b c:Value) (w:World) (hw:bM w wv h.bQ) (hlen:h.bQ.length<=1000):
 Calls Tryz.prog 128 #[hv h wv b c] w (PSl 2 (h.bQ.length+1) (aH (h.start::h.bQ)) w):=by
 obtain⟨o,cc,rfl⟩:=hw.open
 have HW:=ae hw
 clear hw
 go_enter Tryz.func128,Tryz.ntmps128
 go_wp2_with (at_builtin;refine gm rfl _ _ LK rfl (w.heap.size+1) (.slice (some ⟨w.heap.size+1,0,none⟩) 1 1) 1 [iv h.start.1,iv h.start.2] rfl ?_ (.slice o h.bQ.length cc) h.bQ.length (aH h.bQ) rfl ?_ (pz _) (by omega) (by omega) (by simp) ?_)
 ·exact iF (ed _ _ _) rfl (ai _) (by decide)
 ·exact(HW.o.alloc _).alloc _
 ·intro v' w1 hown hgrow
  have HO:=ae hown
  have HG:=ae hgrow
  clear hown hgrow
  go_wp2
  go_returns
  refine⟨v',by simp,?_,?_⟩
  ·have:=aK.dR HO.o
   rw[Nat.add_comm] at this
   exact this
  ·exact Below.grown (ak (ak (aG _ _) _) _) HG.o (by simp;omega) (fun k e=>by cases e;show _<=w.heap.size+1;omega)
theorem V3 (h:dn) (n p:Int) (lb hb:Nat) (w:World) (hl:w.heap[lb]? =some (.cells #[iv p] 3 (0,0))) (hh:w.cell? ⟨hb,0,none⟩=some (iv h.last))
 (hp0: -1<=p) (hp1:p<=1000):
 Calls Tryz.prog 131 #[iv n,.pointer (some ⟨lb,0,none⟩),.pointer (some ⟨hb,0,none⟩)] w
  (fun e w'=>e= .returned (.bool (nZ n (p+1) h.last))/\w'.heap[lb]? =some (.cells #[iv n] 3 (0,0))/\Ext [lb] w w'):=by
 have hc:=aB hl
 have hf:w.frozen? ⟨lb,0,none⟩=false:=by simp[World.frozen?,hl]
 have hlt:=dP w _ hc
 have hlt2:=dP w _ hh
 have HL:=ae hl
 clear hl
 go_enter Tryz.func131,Tryz.ntmps131
 go_wp2_with (go_at_call 132;refine(sS _ _ _ _).mono ?_;rintro e w' ⟨rfl,hb⟩;obtain⟨hc,hf⟩:=bV hb)
 go_returns
 refine⟨by simp,?_,?_⟩
 ·exact aI ((hb.block lb hlt).trans HL.o) _
 ·exact(Ext.az hb).trans (mO w' ⟨lb,0,none⟩ _)
end Go.Proofs.YthbpmepjmebolaaGreatDoor.jJ
namespace Go.Proofs.YthbpmepjmebolaaGreatDoor.jJ
open Go.RowKit Go.RG Go.SL Go.Shelf jC
theorem pU (h:dn) (a b c v:Value) (l:List Int) (w:World) (hv':aP w v l) (h0:0<=h.last) (h9:h.last<=9):
 Calls Tryz.prog 73 #[hv h a b c,v] w (PV (.bool (oI h.last l)) w):=by
 have HA:=ae (allI l v 131 #[] #[.pointer (some ⟨w.heap.size+1,0,none⟩),.pointer (some ⟨w.heap.size,0,none⟩)] (abj h.last (-1) l)
  (fun k W=>W.heap[w.heap.size+1]? =some (.cells #[iv (((-1:Int)::l).getD k 0)] 3 (0,0))/\W.cell? ⟨w.heap.size,0,none⟩=some (iv h.last)/\Below w.heap.size w W)
  ((w.alloc (.cells #[iv h.last,iv h.size,iv h.bn,iv h.die,iv h.uT,iv h.start.1,iv h.start.2,a,b,c] 39)).alloc (.cells #[iv (-1)] 3))
  (enters_of Tryz.func131 (by kernel_rfl) rfl) (fun k W hI=>hv'.below hI.2.2 (ai _))
  (fun k W o hI=>⟨(aW _ _ _ (aV.1 hI.1).1).trans hI.1,by
    have:=dP W _ hI.2.1
    rw[jd (w:=W) (aW _ _ _ this)];exact hI.2.1,ak hI.2.2 _⟩)
  (fun k hk W hno hI=>by
    have hp:=Yc h.last h0 l k hno (by omega)
    refine(V3 h l[k] (((-1:Int)::l).getD k 0) (w.heap.size+1) w.heap.size W hI.1 hI.2.1 hp.1 (by omega)).mono ?_
    rintro e W' ⟨rfl,h1,h2⟩
    refine⟨?_,⟨?_,?_,?_⟩,?_⟩
    ·have e:l.getD k 0=l[k]:=by simp[hk]
     simp only[abj,e]
    ·rw[List.getD_cons_succ,show l.getD k 0=l[k] from by simp[hk]];exact h1
    ·have hlt:=dP W _ hI.2.1
     rw[h2.cell _ _ hlt (by simp)];exact hI.2.1
    ·exact hI.2.2.trans ⟨h2.os,h2.tape,h2.output,h2.size,fun i hi=>h2.block i (by have:=hI.2.2.size;omega) (by simp;omega)⟩
    ·exact jr.wW h2 (by simp))
  ⟨ed _ _ _,by
    rw[jd (w:=w.alloc (.cells #[iv h.last,iv h.size,iv h.bn,iv h.die,iv h.uT,iv h.start.1,iv h.start.2,a,b,c] 39)) (aW _ _ _ (by simp))]
    simp only[World.cell?,ay];rfl,ak (ak (aG _ _) _) _⟩)
 clear hv'
 go_enter Tryz.func73,Tryz.ntmps73
 go_wp2_with fail
 refine HA.o.mono ?_
 rintro e W' hpost
 obtain⟨rfl,k,hk,hI⟩:=hpost.all
 have HI:=ae hI.2.2
 clear hI hpost
 go_wp2_with fail
 go_returns
 refine⟨?_,HI.o⟩
 rw[oI,Jc, <-jL]
 simp
theorem Yf (l:List dY) (v:Value) (bz:Nat) (fst caps:Array Value) (q:dY->Bool) (w:World) (hv:bM w v l) (eg: ∀args w,(callFunc bz args).run Tryz.prog w= .ok (.enter bz args) w)
 (hcall: ∀x∈l, ∀W,Below w.heap.size w W->Calls Tryz.prog bz (fst.push (rv x)++caps) W (PV (.bool (q x)) W)):
 Calls Tryz.prog 125 #[v,.func (.func bz) fst caps] w (PV (.bool (l.all q)) w):=by
 refine(al6 l v bz fst caps (fun k=>q (l.getD k (0,0))) (fun _ W=>Below w.heap.size w W) w eg (fun k W h=>hv.below h (ai _)) (fun k W o h=>ak h o) (fun k hk W _ h=>?_) (aG _ _)).mono ?_
 ·refine(hcall l[k] (bT _) W h).mono ?_
  rintro e W' ⟨rfl,hb⟩
  exact⟨by simp[hk],aX h hb,jr.az hb⟩
 ·intro e W' hpost
  obtain⟨rfl,k,_,hI⟩:=hpost.all
  refine⟨?_,hI⟩
  rw[jL,jV]
theorem Ye (l:List Ff) (v:Value) (bz:Nat) (fst caps:Array Value) (q:Ff->Bool) (w:World) (hv:bD w v l) (eg: ∀args w,(callFunc bz args).run Tryz.prog w= .ok (.enter bz args) w)
 (hcall: ∀x∈l, ∀W,Below w.heap.size w W->Calls Tryz.prog bz (fst.push (xv x)++caps) W (PV (.bool (q x)) W)):
 Calls Tryz.prog 127 #[v,.func (.func bz) fst caps] w (PV (.bool (l.all q)) w):=by
 refine(al5 l v bz fst caps (fun k=>q (l.getD k (0,0,0))) (fun _ W=>Below w.heap.size w W) w eg (fun k W h=>hv.below h (ai _)) (fun k W o h=>ak h o) (fun k hk W _ h=>?_) (aG _ _)).mono ?_
 ·refine(hcall l[k] (bT _) W h).mono ?_
  rintro e W' ⟨rfl,hb⟩
  exact⟨by simp[hk],aX h hb,jr.az hb⟩
 ·intro e W' hpost
  obtain⟨rfl,k,_,hI⟩:=hpost.all
  refine⟨?_,hI⟩
  rw[jL,jV]
theorem Ny (l:List dY) (v:Value) (w:World) (hv:bM w v l):Calls Tryz.prog 125 #[v,.func (.func 126) #[] #[]] w (PV (.bool (l.all (wP · 20))) w):=
 Yf l v _ #[] #[] (wP · 20) w hv (enters_of Tryz.func126 (by kernel_rfl) rfl) (fun x _ W _=>Lt x W)
theorem Cj (h:dn) (a b c:Value) (l:List Ff) (v:Value) (w:World) (hv':bD w v l):
 Calls Tryz.prog 127 #[v,.func (.func 123) #[hv h a b c] #[]] w (PV (.bool (l.all (BA h.last))) w):=
 Ye l v _ #[hv h a b c] #[] (BA h.last) w hv' (enters_of Tryz.func123 (by kernel_rfl) rfl) (fun x _ W _=>Oq h a b c x W)
theorem Ux (h:dn) (wv tv vJ:Value) (w:World) (hw:bM w wv h.bQ) (ht:aP w tv h.turns) (hx:bD w vJ h.readings) (hl:h.last<=9) (hr:(h.readings.length:Int)<=5)
 (hn:fO h=false):Calls Tryz.prog 72 #[hv h wv tv vJ] w (PV (iv 1) w):=by
 obtain⟨ow,cw,rfl⟩:=hw.open
 obtain⟨ot,ct,rfl⟩:=ht.open
 obtain⟨ox,cx,rfl⟩:=hx.open
 have HW:=ae hw
 have HT:=ae ht
 have HX:=ae hx
 clear hw ht hx
 have hl0:fO h=true->0<=h.last:=fun e=>by simp only[fO,fG,eX] at e;exact e.1.1.1.1.1
 have HN:=ae hn
 rw[hn] at hl0
 clear hn
 (try replace hl0:=hl0 rfl)
 go_enter Tryz.func72,Tryz.ntmps72
 go_wp2_with fail
 refine zg 31 [] none [(1,Spec.val (.bool false))] ?_
 simp only[zt]
 repeat ((first|refine zd ?_|refine zk ?_);simp only[zp])
 refine dK _ (by rfl) (by rfl) 124 _ (fun W hW=>by go_simp;try rfl) (fun W hE hF=>by have:=pF h (.slice ow h.bQ.length cw) (.slice ot h.turns.length ct) (.slice ox h.readings.length cx) W;rw[HN.o] at this;exact this) ?_
 simp only[zp]
 repeat ((first|refine zd ?_|refine zk ?_);simp only[zp])
 intro W hE hF
 obtain⟨hc,hf⟩:=bV hE.below
 have hzE:=hE.size
 (try simp only[bI] at hzE)
 go_wp2
 go_returns
 exact⟨by simp,ze⟩
theorem Uw (h:dn) (wv tv vJ:Value) (w:World) (hw:bM w wv h.bQ) (ht:aP w tv h.turns) (hx:bD w vJ h.readings) (hl:h.last<=9) (hr:(h.readings.length:Int)<=5)
 (hn:fO h=true) (h2:((h.bQ.length:Int)==h.last+1)=false):Calls Tryz.prog 72 #[hv h wv tv vJ] w (PV (iv 1) w):=by
 obtain⟨ow,cw,rfl⟩:=hw.open
 obtain⟨ot,ct,rfl⟩:=ht.open
 obtain⟨ox,cx,rfl⟩:=hx.open
 have HW:=ae hw
 have HT:=ae ht
 have HX:=ae hx
 clear hw ht hx
 have hl0:fO h=true->0<=h.last:=fun e=>by simp only[fO,fG,eX] at e;exact e.1.1.1.1.1
 have HN:=ae hn
 rw[hn] at hl0
 clear hn
 (try replace hl0:=hl0 rfl)
 have h2':((h.bQ.length:Int) !=h.last+1)=true:=by simp only[bne,h2];rfl
 go_enter Tryz.func72,Tryz.ntmps72
 go_wp2_with fail
 refine zg 31 [] none [(1,Spec.val (.bool true)),(8,Spec.val (iv (h.last+1)))] ?_
 simp only[zt]
 repeat ((first|refine zd ?_|refine zk ?_);simp only[zp])
 refine dK _ (by rfl) (by rfl) 124 _ (fun W hW=>by go_simp;try rfl) (fun W hE hF=>by have:=pF h (.slice ow h.bQ.length cw) (.slice ot h.turns.length ct) (.slice ox h.readings.length cx) W;rw[HN.o] at this;exact this) ?_
 simp only[zp]
 repeat ((first|refine zd ?_|refine zk ?_);simp only[zp])
 refine dK _ (by rfl) (by rfl) 80 _ (fun W hW=>by go_simp;try rfl) (fun W hE hF=>by exact sJ h _ _ _ W hl0 hl) ?_
 simp only[zp]
 repeat ((first|refine zd ?_|refine zk ?_);simp only[zp])
 intro W hE hF
 obtain⟨hc,hf⟩:=bV hE.below
 have hzE:=hE.size
 (try simp only[bI] at hzE)
 go_wp2
 go_returns
 exact⟨by simp,ze⟩
theorem Uu (h:dn) (wv tv vJ:Value) (w:World) (hw:bM w wv h.bQ) (ht:aP w tv h.turns) (hx:bD w vJ h.readings) (hl:h.last<=9) (hr:(h.readings.length:Int)<=5)
 (hn:fO h=true) (h2:((h.bQ.length:Int)==h.last+1)=true) (h3:oI h.last h.turns=false):Calls Tryz.prog 72 #[hv h wv tv vJ] w (PV (iv 1) w):=by
 obtain⟨ow,cw,rfl⟩:=hw.open
 obtain⟨ot,ct,rfl⟩:=ht.open
 obtain⟨ox,cx,rfl⟩:=hx.open
 have HW:=ae hw
 have HT:=ae ht
 have HX:=ae hx
 clear hw ht hx
 have hl0:fO h=true->0<=h.last:=fun e=>by simp only[fO,fG,eX] at e;exact e.1.1.1.1.1
 have HN:=ae hn
 rw[hn] at hl0
 clear hn
 (try replace hl0:=hl0 rfl)
 have h2':((h.bQ.length:Int) !=h.last+1)=false:=by simp only[bne,h2];rfl
 have H3:=ae h3
 clear h3
 go_enter Tryz.func72,Tryz.ntmps72
 go_wp2_with fail
 refine zg 31 [] none [(1,Spec.val (.bool true)),(8,Spec.val (iv (h.last+1))),(15,Spec.val (.bool false))] ?_
 simp only[zt]
 repeat ((first|refine zd ?_|refine zk ?_);simp only[zp])
 refine dK _ (by rfl) (by rfl) 124 _ (fun W hW=>by go_simp;try rfl) (fun W hE hF=>by have:=pF h (.slice ow h.bQ.length cw) (.slice ot h.turns.length ct) (.slice ox h.readings.length cx) W;rw[HN.o] at this;exact this) ?_
 simp only[zp]
 repeat ((first|refine zd ?_|refine zk ?_);simp only[zp])
 refine dK _ (by rfl) (by rfl) 80 _ (fun W hW=>by go_simp;try rfl) (fun W hE hF=>by exact sJ h _ _ _ W hl0 hl) ?_
 simp only[zp]
 repeat ((first|refine zd ?_|refine zk ?_);simp only[zp])
 refine dK _ (by rfl) (by rfl) 73 _ (fun W hW=>by go_simp;try rfl) (fun W hE hF=>by have:=pU h (.slice ow h.bQ.length cw) (.slice ot h.turns.length ct) (.slice ox h.readings.length cx) (.slice ot h.turns.length ct) h.turns W ((HT.o.alloc _).ext hE (by simp)) hl0 hl;rw[H3.o] at this;exact this) ?_
 simp only[zp]
 repeat ((first|refine zd ?_|refine zk ?_);simp only[zp])
 intro W hE hF
 obtain⟨hc,hf⟩:=bV hE.below
 have hzE:=hE.size
 (try simp only[bI] at hzE)
 go_wp2
 go_returns
 exact⟨by simp,ze⟩
theorem Ut (h:dn) (wv tv vJ:Value) (w:World) (hw:bM w wv h.bQ) (ht:aP w tv h.turns) (hx:bD w vJ h.readings) (hl:h.last<=9) (hr:(h.readings.length:Int)<=5)
 (hn:fO h=true) (h2:((h.bQ.length:Int)==h.last+1)=true) (h3:oI h.last h.turns=true) (h4:h.bQ.all (wP · 20)=false):Calls Tryz.prog 72 #[hv h wv tv vJ] w (PV (iv 1) w):=by
 obtain⟨ow,cw,rfl⟩:=hw.open
 obtain⟨ot,ct,rfl⟩:=ht.open
 obtain⟨ox,cx,rfl⟩:=hx.open
 have HW:=ae hw
 have HT:=ae ht
 have HX:=ae hx
 clear hw ht hx
 have hl0:fO h=true->0<=h.last:=fun e=>by simp only[fO,fG,eX] at e;exact e.1.1.1.1.1
 have HN:=ae hn
 rw[hn] at hl0
 clear hn
 (try replace hl0:=hl0 rfl)
 have h2':((h.bQ.length:Int) !=h.last+1)=false:=by simp only[bne,h2];rfl
 have H3:=ae h3
 have H4:=ae h4
 clear h3 h4
 go_enter Tryz.func72,Tryz.ntmps72
 go_wp2_with fail
 refine zg 31 [] none [(1,Spec.val (.bool true)),(8,Spec.val (iv (h.last+1))),(15,Spec.val (.bool true)),(21,Spec.val (.bool false))] ?_
 simp only[zt]
 repeat ((first|refine zd ?_|refine zk ?_);simp only[zp])
 refine dK _ (by rfl) (by rfl) 124 _ (fun W hW=>by go_simp;try rfl) (fun W hE hF=>by have:=pF h (.slice ow h.bQ.length cw) (.slice ot h.turns.length ct) (.slice ox h.readings.length cx) W;rw[HN.o] at this;exact this) ?_
 simp only[zp]
 repeat ((first|refine zd ?_|refine zk ?_);simp only[zp])
 refine dK _ (by rfl) (by rfl) 80 _ (fun W hW=>by go_simp;try rfl) (fun W hE hF=>by exact sJ h _ _ _ W hl0 hl) ?_
 simp only[zp]
 repeat ((first|refine zd ?_|refine zk ?_);simp only[zp])
 refine dK _ (by rfl) (by rfl) 73 _ (fun W hW=>by go_simp;try rfl) (fun W hE hF=>by have:=pU h (.slice ow h.bQ.length cw) (.slice ot h.turns.length ct) (.slice ox h.readings.length cx) (.slice ot h.turns.length ct) h.turns W ((HT.o.alloc _).ext hE (by simp)) hl0 hl;rw[H3.o] at this;exact this) ?_
 simp only[zp]
 repeat ((first|refine zd ?_|refine zk ?_);simp only[zp])
 refine dK _ (by rfl) (by rfl) 125 _ (fun W hW=>by go_simp;try rfl) (fun W hE hF=>by have:=Ny h.bQ (.slice ow h.bQ.length cw) W ((HW.o.alloc _).ext hE (by simp));rw[H4.o] at this;exact this) ?_
 simp only[zp]
 repeat ((first|refine zd ?_|refine zk ?_);simp only[zp])
 intro W hE hF
 obtain⟨hc,hf⟩:=bV hE.below
 have hzE:=hE.size
 (try simp only[bI] at hzE)
 go_wp2
 go_returns
 exact⟨by simp,ze⟩
theorem Us (h:dn) (wv tv vJ:Value) (w:World) (hw:bM w wv h.bQ) (ht:aP w tv h.turns) (hx:bD w vJ h.readings) (hl:h.last<=9) (hr:(h.readings.length:Int)<=5)
 (hn:fO h=true) (h2:((h.bQ.length:Int)==h.last+1)=true) (h3:oI h.last h.turns=true) (h4:h.bQ.all (wP · 20)=true) (h5:h.readings.all (BA h.last)=false):Calls Tryz.prog 72 #[hv h wv tv vJ] w (PV (iv 1) w):=by
 obtain⟨ow,cw,rfl⟩:=hw.open
 obtain⟨ot,ct,rfl⟩:=ht.open
 obtain⟨ox,cx,rfl⟩:=hx.open
 have HW:=ae hw
 have HT:=ae ht
 have HX:=ae hx
 clear hw ht hx
 have hl0:fO h=true->0<=h.last:=fun e=>by simp only[fO,fG,eX] at e;exact e.1.1.1.1.1
 have HN:=ae hn
 rw[hn] at hl0
 clear hn
 (try replace hl0:=hl0 rfl)
 have h2':((h.bQ.length:Int) !=h.last+1)=false:=by simp only[bne,h2];rfl
 have H3:=ae h3
 have H4:=ae h4
 have H5:=ae h5
 clear h3 h4 h5
 go_enter Tryz.func72,Tryz.ntmps72
 go_wp2_with fail
 refine zg 31 [] none [(1,Spec.val (.bool true)),(8,Spec.val (iv (h.last+1))),(15,Spec.val (.bool true)),(21,Spec.val (.bool true)),(28,Spec.val (.bool false))] ?_
 simp only[zt]
 repeat ((first|refine zd ?_|refine zk ?_);simp only[zp])
 refine dK _ (by rfl) (by rfl) 124 _ (fun W hW=>by go_simp;try rfl) (fun W hE hF=>by have:=pF h (.slice ow h.bQ.length cw) (.slice ot h.turns.length ct) (.slice ox h.readings.length cx) W;rw[HN.o] at this;exact this) ?_
 simp only[zp]
 repeat ((first|refine zd ?_|refine zk ?_);simp only[zp])
 refine dK _ (by rfl) (by rfl) 80 _ (fun W hW=>by go_simp;try rfl) (fun W hE hF=>by exact sJ h _ _ _ W hl0 hl) ?_
 simp only[zp]
 repeat ((first|refine zd ?_|refine zk ?_);simp only[zp])
 refine dK _ (by rfl) (by rfl) 73 _ (fun W hW=>by go_simp;try rfl) (fun W hE hF=>by have:=pU h (.slice ow h.bQ.length cw) (.slice ot h.turns.length ct) (.slice ox h.readings.length cx) (.slice ot h.turns.length ct) h.turns W ((HT.o.alloc _).ext hE (by simp)) hl0 hl;rw[H3.o] at this;exact this) ?_
 simp only[zp]
 repeat ((first|refine zd ?_|refine zk ?_);simp only[zp])
 refine dK _ (by rfl) (by rfl) 125 _ (fun W hW=>by go_simp;try rfl) (fun W hE hF=>by have:=Ny h.bQ (.slice ow h.bQ.length cw) W ((HW.o.alloc _).ext hE (by simp));rw[H4.o] at this;exact this) ?_
 simp only[zp]
 repeat ((first|refine zd ?_|refine zk ?_);simp only[zp])
 refine dK _ (by rfl) (by rfl) 127 _ (fun W hW=>by go_simp;try rfl) (fun W hE hF=>by have:=Cj h (.slice ow h.bQ.length cw) (.slice ot h.turns.length ct) (.slice ox h.readings.length cx) h.readings (.slice ox h.readings.length cx) W ((HX.o.alloc _).ext hE (by simp));rw[H5.o] at this;exact this) ?_
 simp only[zp]
 repeat ((first|refine zd ?_|refine zk ?_);simp only[zp])
 intro W hE hF
 obtain⟨hc,hf⟩:=bV hE.below
 have hzE:=hE.size
 (try simp only[bI] at hzE)
 go_wp2
 go_returns
 exact⟨by simp,ze⟩
end Go.Proofs.YthbpmepjmebolaaGreatDoor.jJ
namespace Go.Proofs.YthbpmepjmebolaaGreatDoor.jJ
open Go.RowKit Go.RG Go.SL Go.Shelf jC
theorem Qd (h:dn) (wv tv vJ:Value) (w:World) (hx:bD w vJ h.readings) (hl:9<h.last∨5<(h.readings.length:Int)):
 Calls Tryz.prog 72 #[hv h wv tv vJ] w (PV (iv 3) w):=by
 obtain⟨ox,cx,rfl⟩:=hx.open
 clear hx
 by_cases h9:9<h.last
 all_goals
  go_enter Tryz.func72,Tryz.ntmps72
  go_wp2
  go_returns
  exact⟨by simp,zl⟩
theorem Uo (h:dn) (wv tv vJ:Value) (w:World) (hw:bM w wv h.bQ) (ht:aP w tv h.turns) (hx:bD w vJ h.readings) (hl:h.last<=9) (hr:(h.readings.length:Int)<=5)
 (hn:fO h=true) (h2:((h.bQ.length:Int)==h.last+1)=true) (h3:oI h.last h.turns=true) (h4:h.bQ.all (wP · 20)=true) (h5:h.readings.all (BA h.last)=true)
 (res:Int) (hres:Hid (res=if 2000<uM (h.start::h.bQ) then 3 else 0)):
 Calls Tryz.prog 72 #[hv h wv tv vJ] w (PV (iv res) w):=by
 have hlen:h.bQ.length<=10:=by have:=of_decide_eq_true (p:=(h.bQ.length:Int)=h.last+1) (by simpa using h2);omega
 have hok: ∀r∈h.start::h.bQ,0<=r.1/\r.1<=r.2/\r.2<=500/\1<=eQ r/\eQ r<=501:=by
  intro r hr
  rcases gK.1 hr with rfl|hr
  ·have:wP h.start 500=true:=by simp only[fO,fG] at hn;exact hn.2
   exact yB this
  ·have:=yB (jS.1 h4 r hr)
   omega
 have jB:=ae hok
 clear hok
 obtain⟨ow,cw,rfl⟩:=hw.open
 obtain⟨ot,ct,rfl⟩:=ht.open
 obtain⟨ox,cx,rfl⟩:=hx.open
 have HW:=ae hw
 have HT:=ae ht
 have HX:=ae hx
 clear hw ht hx
 have hl0:fO h=true->0<=h.last:=fun e=>by simp only[fO,fG,eX] at e;exact e.1.1.1.1.1
 have HN:=ae hn
 rw[hn] at hl0
 clear hn
 (try replace hl0:=hl0 rfl)
 have h2':((h.bQ.length:Int) !=h.last+1)=false:=by simp only[bne,h2];rfl
 have H3:=ae h3
 have H4:=ae h4
 have H5:=ae h5
 clear h3 h4 h5
 go_enter Tryz.func72,Tryz.ntmps72
 go_wp2_with fail
 refine zg 31 [] none [(1,Spec.val (.bool true)),(8,Spec.val (iv (h.last+1))),(15,Spec.val (.bool true)),(21,Spec.val (.bool true)),(28,Spec.val (.bool true))] ?_
 simp only[zt]
 repeat ((first|refine zd ?_|refine zk ?_);simp only[zp])
 refine dK _ (by rfl) (by rfl) 124 _ (fun W hW=>by go_simp;try rfl) (fun W hE hF=>by have:=pF h (.slice ow h.bQ.length cw) (.slice ot h.turns.length ct) (.slice ox h.readings.length cx) W;rw[HN.o] at this;exact this) ?_
 simp only[zp]
 repeat ((first|refine zd ?_|refine zk ?_);simp only[zp])
 refine dK _ (by rfl) (by rfl) 80 _ (fun W hW=>by go_simp;try rfl) (fun W hE hF=>by exact sJ h _ _ _ W hl0 hl) ?_
 simp only[zp]
 repeat ((first|refine zd ?_|refine zk ?_);simp only[zp])
 refine dK _ (by rfl) (by rfl) 73 _ (fun W hW=>by go_simp;try rfl) (fun W hE hF=>by have:=pU h (.slice ow h.bQ.length cw) (.slice ot h.turns.length ct) (.slice ox h.readings.length cx) (.slice ot h.turns.length ct) h.turns W ((HT.o.alloc _).ext hE (by simp)) hl0 hl;rw[H3.o] at this;exact this) ?_
 simp only[zp]
 repeat ((first|refine zd ?_|refine zk ?_);simp only[zp])
 refine dK _ (by rfl) (by rfl) 125 _ (fun W hW=>by go_simp;try rfl) (fun W hE hF=>by have:=Ny h.bQ (.slice ow h.bQ.length cw) W ((HW.o.alloc _).ext hE (by simp));rw[H4.o] at this;exact this) ?_
 simp only[zp]
 repeat ((first|refine zd ?_|refine zk ?_);simp only[zp])
 refine dK _ (by rfl) (by rfl) 127 _ (fun W hW=>by go_simp;try rfl) (fun W hE hF=>by have:=Cj h (.slice ow h.bQ.length cw) (.slice ot h.turns.length ct) (.slice ox h.readings.length cx) h.readings (.slice ox h.readings.length cx) W ((HX.o.alloc _).ext hE (by simp));rw[H5.o] at this;exact this) ?_
 simp only[zp]
 repeat ((first|refine zd ?_|refine zk ?_);simp only[zp])
 intro W hE hF
 obtain⟨hc,hf⟩:=bV hE.below
 have hzE:=hE.size
 (try simp only[bI] at hzE)
 go_wp2_with fail
 have hB0:Below w.heap.size w W:=ze
 refine(RZ h _ _ _ W (HW.o.below hB0 (ai _)) (by omega)).mono ?_
 rintro e w1 ⟨v,rfl,hv1,hb1⟩
 have hB1:Below w.heap.size w w1:=aX hB0 hb1
 clear hc hf hzE hE hF hb1 hB0
 obtain⟨ov,cv,rfl⟩:=hv1.open
 have HV:=ae hv1
 clear hv1
 go_wp2_with fail
 have hL:(h.start::h.bQ).length=h.bQ.length+1:=rfl
 have HL:=ae hL
 clear hL
 go_loopw [4,54] (fun m i wr=> ∃k:Nat,k<=h.bQ.length+1/\i= .int .i64 k/\m= .int .i64 (vF (h.start::h.bQ) k)/\aK 2 wr (.slice ov (h.bQ.length+1) cv) (h.bQ.length+1) (aH (h.start::h.bQ))/\Below w.heap.size w wr)
  (fun _ i _=>h.bQ.length+1-(intOf i).toNat)
 case atStart=>exact⟨0,bW _,rfl,rfl,HV.o,hB1⟩
 case round=>
  obtain⟨k,hk,rfl,rfl,hv,hB⟩:=hrel
  by_cases hlt:k<h.bQ.length+1
  ·obtain⟨b,off,rfl,hb,hc0,hc1⟩:=bM.cell hv (show k<(h.start::h.bQ).length from hlt)
   have hr:=jB.o _ (bT (show k<(h.start::h.bQ).length from hlt))
   have hs:=IB (h.start::h.bQ) k hlt
   have hbd:=Qv (h.start::h.bQ) (fun r hr=>(jB.o r hr).2.2.2.1) k
   generalize (h.start::h.bQ)[k]=r at hc0 hc1 hr hs
   obtain⟨hr1,hr2,hr3,hr4,MO⟩:=hr
   unfold rY at hs
   generalize vF (h.start::h.bQ) k=c at hs hbd
   obtain⟨hb1,hb2⟩:=hbd
   have HS:=ae hs
   have HV:=ae hv
   have HB:=ae hB
   clear hs hv hB
   have hmul:0<=c*eQ r/\c*eQ r<=2001*501:=⟨Int.mul_nonneg (by omega) (by omega),Int.mul_le_mul hb2 MO (by omega) (by omega)⟩
   obtain⟨hm1,hm2⟩:=hmul
   go_wp2_with fail
   refine(size_any r _ hr1 hr2 (by omega)).mono ?_
   rintro e w2 ⟨rfl,hb3⟩
   obtain⟨hc,hf⟩:=bV hb3
   go_wp2_with fail
   refine(Es (c*eQ r) 2001 _ _ _ ?_ ?_).mono ?_
   ·go_simp
   ·go_simp
   rintro e w3 ⟨rfl,hb4⟩
   go_wp2_with fail
   go_roundw
   case rel=>
    have hB3:Below w.heap.size w w3:=aX (ak (aX (ak HB.o _) hb3) _) hb4
    exact⟨k+1,by omega,by go_num,by rw[HS.o],HV.o.below (((aG wr.heap.size wr).alloc (ai _) _).trans ((hb3.mono (by simp)).trans (((aG _ _).alloc (by have:=hb3.size;simp at this;omega) _).trans (hb4.mono (by have:=hb3.size;simp at this⊢;omega))))) (ai _),hB3⟩
   case measure=>simp[intOf];omega
  ·have hkl:k=h.bQ.length+1:=by omega
   have hend:=KX (h.start::h.bQ) (fun r hr=>(jB.o r hr).2.2.2.1)
   have hr:=hres.o
   rw[HL.o, <-hkl] at hend
   generalize vF (h.start::h.bQ) k=c at hend
   by_cases hc:2000<c
   ·rw[aC (hend.1 hc)] at hr
    have HR:=ae hr
    clear hr hend hres
    go_wp2_with fail
    go_returns
    exact⟨by rw[HR.o];simp,hB⟩
   ·rw[aj (fun x=>hc (hend.2 x))] at hr
    have HR:=ae hr
    clear hr hend hres
    go_wp2_with fail
    go_returns
    exact⟨by rw[HR.o];simp,hB⟩
theorem wK (h:dn) (wv tv vJ:Value) (w:World) (hw:bM w wv h.bQ) (ht:aP w tv h.turns) (hx:bD w vJ h.readings):
 Calls Tryz.prog 72 #[hv h wv tv vJ] w (PV (iv (wH h)) w):=by
 unfold wH
 by_cases hl:9<h.last∨5<h.readings.length
 ·rw[aC hl]
  exact Qd h wv tv vJ w hx (by omega)
 ·rw[aj hl]
  have h9:h.last<=9:=by omega
  have h5':(h.readings.length:Int)<=5:=by omega
  by_cases hv:valid h=false
  ·rw[aC hv]
   cases h1:fO h
   ·exact Ux h wv tv vJ w hw ht hx h9 h5' h1
   cases h2:((h.bQ.length:Int)==h.last+1)
   ·exact Uw h wv tv vJ w hw ht hx h9 h5' h1 h2
   cases h3:oI h.last h.turns
   ·exact Uu h wv tv vJ w hw ht hx h9 h5' h1 h2 h3
   cases h4:h.bQ.all (wP · 20)
   ·exact Ut h wv tv vJ w hw ht hx h9 h5' h1 h2 h3 h4
   cases h5:h.readings.all (BA h.last)
   ·exact Us h wv tv vJ w hw ht hx h9 h5' h1 h2 h3 h4 h5
   exfalso
   have hd:decide ((h.bQ.length:Int)=h.last+1)=true:=by simpa using h2
   simp only[valid,h1,hd,h3,h4,h5] at hv
   simp at hv
  ·rw[aj hv]
   have hv':valid h=true:=by simpa using hv
   simp only[valid,fG] at hv'
   exact Uo h wv tv vJ w hw ht hx h9 h5' hv'.1.1.1.1 (by simpa using hv'.1.1.1.2) hv'.1.1.2 hv'.1.2 hv'.2 _ rfl
end Go.Proofs.YthbpmepjmebolaaGreatDoor.jJ
namespace Go.Proofs.YthbpmepjmebolaaGreatDoor.jJ
open Go.RowKit Go.RG Go.SL Go.Shelf jC
abbrev sv (n:Int) (t:Bool):Value:= .agg #[iv n,.bool t]
theorem ac8 (n m:Int) (t u:Bool) (w:World):(Op.equal 234 (sv n t) (sv m u)).run Tryz.prog w= .ok ((n==m)&&(t==u)) w:=by
 unfold Op.equal Op.maxDepth
 simp[go_sem]
 by_cases h1:n=m <;>by_cases h2:t=u <;>simp[h1,h2]
theorem D8 (b:Bool) (d:Nat) (n:Int) (w:World):(Instr.checkKey b (d+1) 3 (iv n)).run Tryz.prog w= .ok () w:=by
 unfold Instr.checkKey
 simp[go_sem]
theorem Ur (b:Bool) (d:Nat) (t:Bool) (w:World):(Instr.checkKey b (d+1) 4 (.bool t)).run Tryz.prog w= .ok () w:=by
 unfold Instr.checkKey
 simp[go_sem]
theorem xw (b:Bool) (n:Int) (t:Bool) (w:World):(Instr.checkKey b 10000 234 (sv n t)).run Tryz.prog w= .ok () w:=by
 unfold Instr.checkKey
 simp[go_sem]
 rw[D8,Result.andThen_ok,Ur]
def Entry (bn:Int) (e:MapEntry):Prop:= ∃n t,e.key=sv n t/\e.val=iv (mi bn n t)
theorem XD (bn:Int) (n:Int) (t:Bool): ∀(es:List MapEntry) (i:Nat),(∀e∈es,Entry bn e)->
 ∃r,(∀w,(Instr.findAsking 234 (sv n t) es i).run Tryz.prog w= .ok r w)/\(∀j v,r=some (j,v)->v=iv (mi bn n t)/\i<=j/\j-i<es.length/\ ∃e,es[j-i]? =some e/\e.key=sv n t):=by
 intro es
 induction es with
 |nil=>intro i _;exact⟨none,fun _=>rfl,fun j v h=>by cases h⟩
 |cons e es ih=>
  intro i h
  obtain⟨m,u,hk,hv⟩:=h e (by simp)
  unfold Instr.findAsking
  simp only[Sem.run_bind,hk,ac8,Result.andThen_ok]
  by_cases hc:((n==m)&&(t==u))=true
  ·refine⟨some (i,e.val),fun w=>by rw[aC hc];rfl,fun j v hj=>?_⟩
   simp only[Option.some.injEq,Prod.mk.injEq] at hj
   simp only[fG,beq_iff_eq] at hc
   refine⟨by rw[<-hj.2,hv,hc.1,hc.2],by omega,by simp;omega,e,?_,by rw[hk,hc.1,hc.2]⟩
   rw[<-hj.1];simp
  ·obtain⟨r,h1,h2⟩:=ih (i+1) (fun x hx=>h x (by simp[hx]))
   refine⟨r,fun w=>by rw[aj hc];exact h1 w,fun j v hj=>?_⟩
   obtain⟨h3,h4,h5,e',h6,h7⟩:=h2 j v hj
   refine⟨h3,by omega,by simp;omega,e',?_,h7⟩
   rw[show j-i=(j-(i+1))+1 from by omega,List.getElem?_cons_succ]
   exact h6
theorem O9 (bn:Int) (n:Int) (t:Bool) (es:List MapEntry) (h: ∀e∈es,Entry bn e):
 ∃r,(∀w,(Instr.findKey 234 (sv n t) es).run Tryz.prog w= .ok r w)/\(∀j v,r=some (j,v)->v=iv (mi bn n t)/\j<es.length/\ ∃e,es[j]? =some e/\e.key=sv n t):=by
 unfold Instr.findKey
 simp only[Sem.run_bind,run_underlying Tryz.underlying234,Result.andThen_ok]
 cases es with
 |nil=>exact⟨none,fun _=>rfl,fun j v h=>by cases h⟩
 |cons e es=>
  simp only[Instr.findNow,Instr.sameNow]
  obtain⟨r,h1,h2⟩:=XD bn n t (e::es) 0 h
  exact⟨r,h1,fun j v hj=>by
   obtain⟨a,b,c,d⟩:=h2 j v hj
   exact⟨a,by simpa using c,by simpa using d⟩⟩
def Cache (W:World) (mb:Nat) (bn:Int):Prop:= ∃es clock,W.heap[mb]? =some (.map es clock)/\ ∀e∈es.toList,Entry bn e
theorem Cache.kept {W W':World} {mb:Nat} {bn:Int} (h:Cache W mb bn) (hk:W'.heap[mb]? =W.heap[mb]?):Cache W' mb bn:=by
 obtain⟨es,c,h1,h2⟩:=h;exact⟨es,c,hk.trans h1,h2⟩
theorem Cache.lt {W:World} {mb:Nat} {bn:Int} (h:Cache W mb bn):mb<W.heap.size:=by
 obtain⟨es,c,h1,h2⟩:=h;exact(aV.1 h1).1
theorem WY {W0:World} {mb:Nat} {bn:Int} (h:Cache W0 mb bn) (n:Int) (t:Bool):
 ∃x ok,(ok=true->x=mi bn n t)/\ ∀W:World,W.heap[mb]? =W0.heap[mb]?->
  (Instr.lookup 224 (.map (some mb)) (sv n t) true).run Tryz.prog W= .ok (.tuple #[iv x,.bool ok]) W:=by
 obtain⟨es,c,h1,h2⟩:=h
 obtain⟨r,hr,hv⟩:=O9 bn n t es.toList h2
 have Dt: ∀W:World,W.heap[mb]? =W0.heap[mb]?->(getObj mb).run Tryz.prog W= .ok (.map es c) W:=fun W hW=>by
  simp[getObj,Sem.run,hW,h1]
 have hz: ∀W:World,(zeroValue 3).run Tryz.prog W= .ok (iv 0) W:=fun W=>by simp[go_sem]
 cases r with
 |none=>
  refine⟨0,false,(fun h=>by cases h),fun W hW=>?_⟩
  simp[Instr.lookup,run_underlying Tryz.underlying224,Dt W hW,xw,hr,hz]
 |some p=>
  obtain⟨j,v⟩:=p
  obtain⟨rfl,_⟩:=hv j v rfl
  refine⟨mi bn n t,true,fun _=>rfl,fun W hW=>?_⟩
  simp[Instr.lookup,run_underlying Tryz.underlying224,Dt W hW,xw,hr]
theorem Jh (n:Int) (t:Bool):Instr.sameBits 10000 (sv n t) (sv n t)=true:=by
 simp[Instr.sameBits]
theorem N7 {W:World} {mb:Nat} {bn:Int} (h:Cache W mb bn) (n:Int) (t:Bool):
 ∃W',(Instr.mapUpdate 224 (.map (some mb)) (sv n t) (iv (mi bn n t))).run Tryz.prog W= .ok () W'/\Cache W' mb bn/\Ext [mb] W W':=by
 have hlt:=h.lt
 obtain⟨es,c,h1,h2⟩:=h
 obtain⟨r,hr,hv⟩:=O9 bn n t es.toList h2
 have Dt:(getObj mb).run Tryz.prog W= .ok (.map es c) W:=by simp[getObj,Sem.run,h1]
 have hset: ∀es' c',(setObj mb (.map es' c')).run Tryz.prog W= .ok () {W with heap:=W.heap.setIfInBounds mb (.map es' c')}:=fun es' c'=>by
  simp[setObj,Sem.run,h1]
 have AB: ∀o:Obj,Ext [mb] W {W with heap:=W.heap.setIfInBounds mb o}:=fun o=>
  ⟨rfl,rfl,rfl,by simp,fun k _ hm=>by simp only[Array.getElem?_setIfInBounds];rw[aj (by simp at hm;omega)]⟩
 have Hu: ∀es' c',(∀e∈es'.toList,Entry bn e)->Cache {W with heap:=W.heap.setIfInBounds mb (.map es' c')} mb bn:=fun es' c' he=>
  ⟨es',c',by simp[hlt],he⟩
 cases r with
 |none=>
  refine⟨_,?_,Hu (es.push {key:=sv n t,val:=iv (mi bn n t),born:=c}) (c+1) ?_,AB _⟩
  ·simp[Instr.mapUpdate,run_underlying Tryz.underlying224,Dt,xw,hr,hset]
  ·intro e he
   simp only[Array.toList_push,iE,dZ] at he
   rcases he with he|rfl
   ·exact h2 e he
   ·exact⟨n,t,rfl,rfl⟩
 |some p=>
  obtain⟨j,v⟩:=p
  obtain⟨rfl,hj,e0,he0,hk0⟩:=hv j v rfl
  have hje:es[j]? =some e0:=by simpa using he0
  refine⟨_,?_,Hu (es.modify j fun e=>{e with key:=sv n t,val:=iv (mi bn n t)}) c ?_,AB _⟩
  ·simp[Instr.mapUpdate,run_underlying Tryz.underlying224,Dt,xw,hr,hset,Instr.keyThatStays,hje,hk0,Jh]
  ·intro e he
   obtain⟨i,hi,rfl⟩:=mF he
   simp only[Array.getElem_toList,Array.getElem_modify]
   split
   ·exact⟨n,t,rfl,rfl⟩
   ·exact h2 _ (by simp)
abbrev Ze (h:dn) (a b c:Value) (mb:Nat):Array Value:=
 #[.int .i64 h.last,.int .i64 h.size,.int .i64 h.bn,.int .i64 h.die,.int .i64 h.uT,.int .i64 h.start.1,.int .i64 h.start.2,a,b,c,.map (some mb)]
structure iW (W:World) (wb mb:Nat) (h:dn) (a b c:Value):Prop where
 cells:W.heap[wb]? =some (.cells (Ze h a b c mb) 226 (0,0))
 cache:Cache W mb h.bn
theorem iW.ne {W:World} {wb mb:Nat} {h:dn} {a b c:Value} (hw:iW W wb mb h a b c):wb≠mb:=by
 intro e
 obtain⟨es,k,h1,_⟩:=hw.cache
 have:=hw.cells
 rw[e,h1] at this
 cases this
theorem iW.lt {W:World} {wb mb:Nat} {h:dn} {a b c:Value} (hw:iW W wb mb h a b c):wb<W.heap.size:=(aV.1 hw.cells).1
theorem iW.kept {W W':World} {wb mb:Nat} {h:dn} {a b c:Value} (hw:iW W wb mb h a b c) (h1:W'.heap[wb]? =W.heap[wb]?) (h2:W'.heap[mb]? =W.heap[mb]?):iW W' wb mb h a b c:=
 ⟨h1.trans hw.cells,hw.cache.kept h2⟩
theorem iW.below {W W':World} {wb mb:Nat} {h:dn} {a b c:Value} (hw:iW W wb mb h a b c) {B:Nat} (hb:Below B W W') (hB:W.heap.size<=B):iW W' wb mb h a b c:=
 hw.kept (hb.block _ (by have:=hw.lt;omega)) (hb.block _ (by have:=hw.cache.lt;omega))
theorem iW.ext {W W':World} {wb mb:Nat} {h:dn} {a b c:Value} (hw:iW W wb mb h a b c) (hE:Ext [mb] W W') (hc:Cache W' mb h.bn):iW W' wb mb h a b c:=
 ⟨(hE.block wb hw.lt (by simpa using hw.ne)).trans hw.cells,hc⟩
theorem iW.cell {W:World} {wb mb:Nat} {h:dn} {a b c:Value} (hw:iW W wb mb h a b c) (i:Nat):W.cell? ⟨wb,i,none⟩=(Ze h a b c mb)[i]? :=by
 simp[World.cell?,hw.cells]
def abu (w:World) (h:dn) (a b c:Value) (e:Ending) (W:World):Prop:=
 ∃wb mb,e= .returned (.pointer (some ⟨wb,0,none⟩))/\w.heap.size<=wb/\w.heap.size<=mb/\iW W wb mb h a b c/\Below w.heap.size w W
theorem F8 (h:dn) (ow ot ox:Option Addr) (nw cw nt ct nx cx:Nat) (w:World):
 Calls Tryz.prog 74 #[hv h (.slice ow nw cw) (.slice ot nt ct) (.slice ox nx cx)] w (abu w h (.slice ow nw cw) (.slice ot nt ct) (.slice ox nx cx)):=by
 have hmm:= @run_makeMap Tryz.prog
 go_enter Tryz.func74,Tryz.ntmps74
 go_wp2
 go_returns
 refine⟨w.heap.size+2,w.heap.size+1,by simp,by omega,by omega,⟨iD _ _ _ _,#[],0,?_,by simp⟩,zl⟩
 exact(aW _ _ _ (by simp)).trans (ed _ _ _)
theorem aa8 (h:dn) (a b c:Value) (wb mb:Nat) (n:Int) (t:Bool) (w:World) (hw:iW w wb mb h a b c) (hn0:0<=n) (hn1:n<=100000) (hc0:0<=h.bn) (hc1:h.bn<=100):
 Calls Tryz.prog 137 #[.pointer (some ⟨wb,0,none⟩),sv n t] w (fun e w'=>e= .returned (iv (mi h.bn n t))/\Cache w' mb h.bn/\Ext [mb] w w'):=by
 have c2:=hw.cell 2
 have c10:=hw.cell 10
 have hlt:=hw.lt
 have hwc:=hw.cache
 obtain⟨x,ok,hx,hlook⟩:=WY (hwc) n t
 simp at c2 c10
 have hm0:0<=n*h.bn:=Int.mul_nonneg hn0 hc0
 have hm1:n*h.bn<=100000*100:=Int.mul_le_mul hn1 hc1 hc0 (by omega)
 have HW:=ae hw
 have HC:=ae hwc
 have HX:=ae hx
 have HL:=ae hlook
 clear hw hwc hx hlook
 have hmb:=HC.o.lt
 have HU:=ae (fun(W2:World) (hc:Cache W2 mb h.bn)=>N7 hc n t)
 cases ok
 ·cases t
  all_goals
   go_enter Tryz.func137,Tryz.ntmps137
   go_wp2_with fail
   refine zg 11 [] none [] ?_
   simp only[zt]
   repeat (refine zd ?_;simp only[zp])
   refine iH (by rfl) _ (by rfl) (fun W hE _=>by have:=HL.o W ((hE.block mb (by simp;omega) (by simp)).trans (aW _ _ _ hmb));go_simp;try rfl) ?_
   simp only[zp]
   repeat (refine zd ?_;simp only[zp])
   intro W hE hF
   obtain⟨hc,hf⟩:=bV hE.below
   have hzE:=hE.size
   (try simp only[bI] at hzE)
   have hzw:wb<W.heap.size:=by omega
   have hz0:w.heap.size<W.heap.size:=by omega
   go_wp2_with fail
   refine zg 6 [] none [] ?_
   simp only[zt]
   repeat (refine zd ?_;simp only[zp])
   intro W2 hE2 hF2
   have hW2:Below w.heap.size w W2:=(aX (aX (ak (aG _ _) _) hE.below) hE2.below)
   clear hc hf hzE hF hF2
   obtain⟨W3,hrun,Hu,AB⟩:=HU.o W2 (HC.o.kept (W':=W2) (hW2.block mb hmb))
   have HA:=ae Hu
   have HE:=ae AB
   clear Hu AB
   first|(simp only[show mi h.bn n false=n from rfl] at hrun)|(simp only[show mi h.bn n true=n-n*h.bn/100 from rfl] at hrun)
   go_wp2_with fail
   go_returns
   refine⟨by simp[mi],HA.o,?_⟩
   have YY:Ext [mb] w W2:=⟨hW2.os,hW2.tape,hW2.output,hW2.size,fun k hk _=>hW2.block k hk⟩
   exact YY.trans HE.o
 ·go_enter Tryz.func137,Tryz.ntmps137
  go_wp2_with fail
  refine zg 11 [] none [] ?_
  simp only[zt]
  repeat (refine zd ?_;simp only[zp])
  refine iH (by rfl) _ (by rfl) (fun W hE _=>by have:=HL.o W ((hE.block mb (by simp;omega) (by simp)).trans (aW _ _ _ hmb));go_simp;try rfl) ?_
  simp only[zp]
  repeat (refine zd ?_;simp only[zp])
  intro W hE hF
  obtain⟨hc,hf⟩:=bV hE.below
  have hzE:=hE.size
  (try simp only[bI] at hzE)
  have hW:Below w.heap.size w W:=aX (ak (aG _ _) _) hE.below
  go_wp2_with fail
  go_returns
  refine⟨by rw[<-HX.o (by trivial)];simp,HC.o.kept (hW.block mb hmb),Ext.az hW⟩
end Go.Proofs.YthbpmepjmebolaaGreatDoor.jJ
namespace Go.Proofs.YthbpmepjmebolaaGreatDoor.jJ
open Go.RowKit Go.RG Go.SL Go.Shelf jC
abbrev lY (l:List Int):Value:= .agg (ah l).toArray
theorem Cache.ni {W:World} {mb:Nat} {bn:Int} (h:Cache W mb bn) (o:Nat):W.cell? ⟨mb,o,none⟩=none:=by
 obtain⟨es,c,h1,_⟩:=h
 simp[World.cell?,h1]
theorem yz (h:dn) (a b c:Value) (wb mb:Nat) (start:Int) (bQ turns:List Int) (ws ts:Value) (w:World) (hw:iW w wb mb h a b c) (hws:aP w ws bQ) (hts:aP w ts turns) (hlen:bQ.length<=10)
 (hs0:0<=h.size) (hs1:h.size<=20) (hc0:0<=h.bn) (hc1:h.bn<=100) (h0:0<=start) (h1:start<=500) (TD: ∀x∈bQ,0<=x/\x<=20):
 Calls Tryz.prog 77 #[.pointer (some ⟨wb,0,none⟩),.agg #[iv start,ws],ts] w
  (fun e w'=>e= .returned (lY (lH h (start,bQ) turns))/\Cache w' mb h.bn/\Ext [mb] w w'):=by
 have hbd:=KI turns bQ hs0 hs1 hc0 hc1 h0 h1 TD
 obtain⟨ow,cw,rfl⟩:=hws.open
 obtain⟨ot,ct,rfl⟩:=hts.open
 have HW:=ae hw
 have HS:=ae hws
 have HT:=ae hts
 have HB:=ae hbd
 have HX:=ae TD
 have hlt:=hw.lt
 have hmb:=hw.cache.lt
 clear hw hws hts hbd TD
 go_enter Tryz.func77,Tryz.ntmps77
 go_wp2_with fail
 go_loopw [7,15] (fun v7 i wr=> ∃k:Nat,k<=bQ.length/\i= .int .i64 k/\v7= .int .i64 (ru h.size h.bn turns start bQ k)/\iW wr wb mb h a b c/\
  wr.heap[w.heap.size+1]? =some (.cells (ah (qN h.size h.bn turns start bQ k)).toArray 107 (0,0))/\Ext [mb] w wr)
  (fun _ i _=>bQ.length-(intOf i).toNat)
 case atStart=>
  exact⟨0,bW _,rfl,rfl,HW.o.below (ak (ak (aG _ _) _) _) (ai _),ed _ _ _,Ext.az (ak (ak (aG _ _) _) _)⟩
 case round=>
  obtain⟨k,hk,rfl,rfl,hwk,hblk,hE0⟩:=hrel
  have Ho: ∀x∈[mb], ∀o,w.cell? ⟨x,o,none⟩=none:=fun x hx o=>by
   have:x=mb:=by simpa using hx
   subst this
   exact HW.o.cache.ni o
  have hws:=HS.o.gB hE0 Ho
  have hts:=HT.o.gB hE0 Ho
  have hne:=hwk.ne
  have hlt2:=hwk.lt
  have hsz:=hE0.size
  have apD:=hwk.cache.lt
  have hb6:w.heap.size+1<wr.heap.size:=(aV.1 hblk).1
  have als: ¬w.heap.size+1=mb:=by omega
  by_cases aeX:k<bQ.length
  ·obtain⟨bb,off,rfl,hbb,hcx⟩:=aP.cell hws aeX
   have hx:=HX.o _ (bT aeX)
   have hn:=HB.o k
   have hnext:ru h.size h.bn turns start bQ (k+1)=mi h.bn (ru h.size h.bn turns start bQ k) (turns.contains (k:Int))+h.size*bQ[k]/10:=by
    simp only[ru,Zo]
    rw[show bQ.getD k 0=bQ[k] from by simp[aeX]]
   have hcd:=KW hc0 hc1 hn.1 (turns.contains (k:Int))
   have hset:=MR h.size h.bn turns start bQ k (by omega)
   have alo:=hwk.cell 1
   simp at alo
   rw[hnext] at hset
   have YO:=ae hnext
   generalize ru h.size h.bn turns start bQ k=n at hn hcd hset YO
   generalize bQ[k]=x at hcx hx hset YO
   obtain⟨hx0,hx1⟩:=hx
   obtain⟨hn0,hn1⟩:=hn
   obtain⟨hd0,hd1⟩:=hcd
   have hm0:0<=h.size*x:=Int.mul_nonneg hs0 hx0
   have hm1:h.size*x<=20*20:=Int.mul_le_mul hs1 hx1 hx0 (by omega)
   have hk10:(k:Int)<10:=by omega
   have afQ:=ae hset
   have amX:=ae hblk
   have HE0:=ae hE0
   have FZ:=ae hwk
   have HWS:=ae hws
   have HTS:=ae hts
   have ard:=ae Ho
   clear hnext hset hblk hE0 hwk hws hts Ho
   have HNC:Hid (∀x∈[mb], ∀o,wr.cell? ⟨x,o,none⟩=none):=fun x hx o=>by
    have:x=mb:=by simpa using hx
    subst this
    exact FZ.o.cache.ni o
   generalize hcb:turns.contains (k:Int)=tb at hd0 hd1 afQ YO
   have HCB:=ae hcb
   clear hcb
   generalize hcd:mi h.bn n tb=cn at hd0 hd1 afQ YO
   have HCD:=ae hcd
   clear hcd
   go_wp2_with fail
   refine zg 16 [mb] (some 6) [(4,Spec.val (.bool tb)),(6,⟨fun _ v=>v=iv cn,fun _ _ W=>Cache W mb h.bn⟩)] ?_
   simp only[zt]
   repeat (refine zd ?_;simp only[zp])
   refine dK _ (by rfl) (by rfl) 135 _ (fun W hW=>by go_simp;try rfl) (fun W hE hF=>by have:=iL turns (.slice ot turns.length ct) (k:Int) W (HTS.o.gB hE HNC.o);rw[HCB.o] at this;exact this) ?_
   simp only[zp]
   repeat (refine zd ?_;simp only[zp])
   refine bJ _ (by rfl) (by rfl) ⟨_,rfl⟩ (fun W hE hF=>?_) (fun v W W' hc hE=>?_) (fun v hv=>?_)
   ·have hE':Ext [] wr W:=hE
    refine dG 137 #[.pointer (some ⟨wb,0,none⟩),sv n tb] (by go_simp;try rfl) ?_
    refine(aa8 h a b c wb mb n tb W (FZ.o.below hE'.below (ai _)) hn0 (by omega) hc0 hc1).mono ?_
    rintro e W' ⟨rfl,hcc,hE2⟩
    exact⟨_,rfl,by rw[HCD.o],hcc,hE2⟩
   ·have hE':Ext [] W W':=hE
    exact Cache.kept hc (hE'.block mb (Cache.lt hc) (by simp))
   obtain rfl:v=iv cn:=hv
   simp only[zp]
   repeat (refine zd ?_;simp only[zp])
   intro W hE hF
   have hCW:Cache W mb h.bn:=hF _ (bg _)
   have Vu:=(hE.block (w.heap.size+1) hb6 (by simpa using als)).trans amX.o
   have hfr:=bF Vu
   have hck:=gJ Vu (show k<(qN h.size h.bn turns start bQ k).length by rw[kX];omega)
   have HCW:=ae hCW
   have Y8:=ae Vu
   have HEW:=ae hE
   clear hF hCW Vu hE
   go_wp2_with fail
   go_roundw
   case rel=>
    refine⟨k+1,by omega,by go_num,by rw[YO.o],?_,?_,?_⟩
    ·exact((FZ.o.ext HEW.o HCW.o).kept (dL _ _ _ _ (by show wb≠w.heap.size+1;omega)) (dL _ _ _ _ (by show mb≠w.heap.size+1;omega)))
    ·rw[afQ.o, <-tH]
     exact aI Y8.o _
    ·exact(HE0.o.trans HEW.o).set (by show w.heap.size<=w.heap.size+1;omega) _
   case measure=>simp[intOf];omega
  ·have hkl:k=bQ.length:=by omega
   obtain⟨y0,y1,y2,y3,y4,y5,y6,y7,y8,y9,hy⟩:=Dc (kX h.size h.bn turns start bQ k)
   have hres:lH h (start,bQ) turns=[y0,y1,y2,y3,y4,y5,y6,y7,y8,y9]:=by rw[<-hy,hkl];rfl
   rw[hy] at hblk
   have hfr:=bF hblk
   have hcs: ∀i,wr.cell? ⟨w.heap.size+1,i,none⟩=(#[iv y0,iv y1,iv y2,iv y3,iv y4,iv y5,iv y6,iv y7,iv y8,iv y9]:Array Value)[i]? :=fun i=>by
    simp only[World.cell?,hblk];rfl
   have YL:=ae hres
   have HE0:=ae hE0
   have FZ:=ae hwk
   clear hres hy hblk hE0 hwk hws hts Ho
   go_wp2_with fail
   (try simp only[Exit.inBlock,Exit.then])
   refine bodyPost_ret (v:= .agg #[iv y0,iv y1,iv y2,iv y3,iv y4,iv y5,iv y6,iv y7,iv y8,iv y9]) (by simp[results,Tryz.results77,go_sem,hcs]) rfl ⟨by rw[YL.o];rfl,?_,?_⟩
   ·refine FZ.o.cache.kept ?_
    repeat rw[dL _ _ _ _ (by show mb≠w.heap.size+1;omega)]
   ·repeat (refine Ext.set ?_ (by show w.heap.size<=w.heap.size+1;omega) _)
    exact HE0.o
end Go.Proofs.YthbpmepjmebolaaGreatDoor.jJ
namespace Go.Proofs.YthbpmepjmebolaaGreatDoor.jJ
open Go.RowKit Go.RG Go.SL Go.Shelf jC
def FM (t:TypeId) (size n:Nat) (xs:List Value) (w:World) (e:Ending) (w':World):Prop:= ∃v,e= .returned v/\w'.ownsRow w.heap.size t size v n xs/\Below w.heap.size w w'
theorem clone_any (l:List Int) (v:Value) (w:World) (hv:aP w v l) (hlen:l.length<=1000):
 Calls Tryz.prog 98 #[v] w (FM 3 1 l.length (ah l) w):=by
 obtain⟨o,c,rfl⟩:=hv.open
 have HV:=ae hv
 have hnil:=fun(w:World) a n c=>Lib.run_eql_slice_nil (P:=Tryz.prog) w 36 3 a n c 0 0 Tryz.underlying36
 cases o with
 |none=>
  have hl0:l.length=0:=by
   obtain⟨_,o,c',h0,h1,h2,h3,h4⟩:=hv
   cases h0
   have:=h3 rfl
   omega
  have hc0:c=0:=by
   obtain⟨_,o,c',h0,h1,h2,h3,h4⟩:=hv
   cases h0
   exact h3 rfl
  have hl:l=[]:=kF hl0
  subst hl
  clear hv
  subst hc0
  go_enter Tryz.func98,Tryz.ntmps98
  go_wp2
  go_returns
  exact⟨.slice none 0 0,by simp,⟨by simp[ah],.inl ⟨rfl,rfl⟩⟩,aG _ _⟩
 |some a=>
  obtain⟨b,off,sp⟩:=a
  obtain rfl:sp=none:=by
   obtain⟨_,o,c',h0,h1,h2,h3,h4⟩:=hv
   cases h0
   exact(h4 _ rfl).1
  clear hv
  go_enter Tryz.func98,Tryz.ntmps98
  go_wp2_with (at_builtin;refine gm rfl _ _ rO rfl w.heap.size (.slice (some ⟨w.heap.size,0,none⟩) 0 0) 0 [] rfl ?_ (.slice (some ⟨b,off,none⟩) l.length c) l.length (ah l) rfl ?_ (jD _) (by omega) (by omega) (by simp) ?_)
  ·exact iF (cs:= #[]) (n:=0) (ay _ _) rfl (ai _) (by decide)
  ·exact HV.o.alloc _
  ·intro v' w1 hown hgrow
   have HO:=ae hown
   have HG:=ae hgrow
   clear hown hgrow
   go_wp2
   go_returns
   refine⟨v',by simp,?_,?_⟩
   ·exact HO.o
   ·exact Below.grown (ak (aG _ _) _) HG.o (by simp) (fun k e=>by cases e;exact ai _)
end Go.Proofs.YthbpmepjmebolaaGreatDoor.jJ
namespace Go.Proofs.YthbpmepjmebolaaGreatDoor.jJ
open Go.RowKit Go.RG Go.SL Go.Shelf jC
theorem Cache.MB {W:World} {mb:Nat} {bn:Int} (h:Cache W mb bn) (cs:Array Value) (t:TypeId) (f:Nat×Nat):W.heap[mb]?≠some (Obj.cells cs t f):=by
 obtain⟨es,c,h1,_⟩:=h
 rw[h1];intro e;cases e
theorem MQ (h:dn) (a b c:Value) (n:Nat) (w:World) (h0:0<=h.last) (h9:h.last<=9) (hn:h.last+1=n):Calls Tryz.prog 80 #[hv h a b c] w (PV (iv n) w):=by
 rw[<-hn];exact sJ h a b c w h0 h9
end Go.Proofs.YthbpmepjmebolaaGreatDoor.jJ
namespace Go.Proofs.YthbpmepjmebolaaGreatDoor.jJ
open Go.RowKit Go.RG Go.SL Go.Shelf jC
end Go.Proofs.YthbpmepjmebolaaGreatDoor.jJ
end
section
namespace Go.Proofs.YthbpmepjmebolaaGreatDoor.jJ
open Go.RowKit Go.RG Go.SL Go.Shelf jC
attribute [local go_sem] Oper.semAt_some
structure Ee (W:World) (n bx jy bo bc ob l:Nat) (o:List Int):Prop where
 y:W.heap[jy]? =some (.cells #[.func (.yield l) #[] #[]] 157 (0,0))
 out:W.heap[bo]? =some (.cells #[.slice (some ⟨ob,0,none⟩) n n] 36 (0,0))
 ch:W.heap[bc]? =some (.cells #[.func (.func 218) #[] #[.pointer (some ⟨bx,0,none⟩),.pointer (some ⟨jy,0,none⟩),.pointer (some ⟨bo,0,none⟩),.pointer (some ⟨bc,0,none⟩)]] 167 (0,0))
 cells:W.heap[ob]? =some (.cells (ah o).toArray 3 (0,0))
theorem Ee.kept {W W':World} {n bx jy bo bc ob l:Nat} {o:List Int} (h:Ee W n bx jy bo bc ob l o) (hk: ∀m∈[ob,jy,bo,bc],m<W.heap.size->W'.heap[m]? =W.heap[m]?):Ee W' n bx jy bo bc ob l o:=
 ⟨(hk _ (by simp) (aV.1 h.y).1).trans h.y,(hk _ (by simp) (aV.1 h.out).1).trans h.out,(hk _ (by simp) (aV.1 h.ch).1).trans h.ch,(hk _ (by simp) (aV.1 h.cells).1).trans h.cells⟩
theorem Ee.below {W W':World} {n bx jy bo bc ob l:Nat} {o:List Int} (h:Ee W n bx jy bo bc ob l o) (hb:Below W.heap.size W W'):Ee W' n bx jy bo bc ob l o:=
 ⟨(hb.block _ (aV.1 h.y).1).trans h.y,(hb.block _ (aV.1 h.out).1).trans h.out,(hb.block _ (aV.1 h.ch).1).trans h.ch,(hb.block _ (aV.1 h.cells).1).trans h.cells⟩
theorem Ee.set {W:World} {n bx jy bo bc ob l:Nat} {o:List Int} (h:Ee W n bx jy bo bc ob l o) (hd1:jy≠ob) (hd2:bo≠ob) (hd3:bc≠ob) (i:Nat) (x:Int):Ee (W.setCell ⟨ob,i,none⟩ (iv x)) n bx jy bo bc ob l (o.set i x):=
 ⟨(dL _ _ _ _ hd1).trans h.y,(dL _ _ _ _ hd2).trans h.out,(dL _ _ _ _ hd3).trans h.ch,by rw[<-tH];exact aI h.cells _⟩
def aeg (Ms:List Nat) (x:List Int) (v:Value) (W:World):Prop:=
 ∃ob:Nat,v= .slice (some ⟨ob,0,none⟩) x.length x.length/\W.heap[ob]? =some (.cells (ah x).toArray 3 (0,0))/\ob∈Ms
def xE (bx:Nat) (v:Value) (R:List dY) (W:World):Prop:=W.heap[bx]? =some (.cells #[v] 35 (0,0))/\bM W v R
theorem Un (R:List dY) (hR: ∀r∈R,0<=r.1/\r.1<=r.2/\r.2<=500) (hn:R.length<=100) (bx jy bo bc ob l:Nat) (hd1:jy≠ob) (hd2:bo≠ob) (hd3:bc≠ob) (v:Value) (J:List Nat->Option Nat->World->Prop)
 (hInv: ∀Ms s W1,J Ms s W1->xE bx v R W1)
 (hstep: ∀Ms Ms' s W1 W2,J Ms s W1->Ext Ms W1 W2->(∀m∈Ms',m∈Ms∨(W1.heap.size<=m/\m<W2.heap.size))->True->J Ms' s W2)
 (hY: ∀Ms k v W1 (hk:k<(fJ R).length),J Ms (some k) W1->aeg Ms (fJ R)[k] v W1->YieldAt Fence.wide 0 Tryz.prog l #[v] W1 fun e W'=>
   ((∀m∈Ms,m∉[]->m<W1.heap.size->W'.heap[m]? =W1.heap[m]?)/\W1.heap.size<=W'.heap.size)/\((e= .returned (.bool true)/\J Ms (some (k+1)) W')∨(e= .returned (.bool false)/\J Ms none W'))):
 ∀(m i k:Nat) (pre:List Int) (W:World) (o:List Int),i+m=R.length->pre.length=i->o.length=R.length->o.take i=pre->jM R i k pre->Ee W R.length bx jy bo bc ob l o->J [ob,jy,bo,bc] (some k) W->
  CallsIn Fence.wide 0 Tryz.prog 218 #[iv i,.pointer (some ⟨bx,0,none⟩),.pointer (some ⟨jy,0,none⟩),.pointer (some ⟨bo,0,none⟩),.pointer (some ⟨bc,0,none⟩)] W
   (fun e W'=>(e= .returned (.bool true)/\J [ob,jy,bo,bc] (some (k+(fJ (R.drop i)).length)) W'/\ ∃o',o'.length=R.length/\o'.take i=pre/\Ee W' R.length bx jy bo bc ob l o')∨
     (e= .returned (.bool false)/\J [ob,jy,bo,bc] none W')):=by
 intro m
 induction m with
 |zero=>
  intro i k pre W o him hpl hol hot hat hst hJ
  obtain rfl:i=R.length:=by omega
  obtain⟨hone,hk,hx⟩:=hat.last rfl
  rw[hone]
  obtain rfl:o=pre:=by rw[<-hot, <-hol,List.take_length]
  obtain⟨hbx,hsl⟩:=hInv _ _ _ hJ
  obtain⟨f1,t1,a1,b1,hy1,hR1⟩:=hY _ k (.slice (some ⟨ob,0,none⟩) R.length R.length) W hk hJ (by rw[hx];exact⟨ob,by rw[hol],hst.cells,by simp⟩)
  have c1:=aB hbx
  have c2:=aB hst.y
  have c3:=aB hst.out
  have hlen:=hsl.len
  obtain⟨so,sc,rfl⟩:=hsl.open
  have HR:=ae hR1
  have HS:=ae hst
  clear hInv hstep hY hR1 hst hJ hbx hsl hat
  refine callsIn_of_wp Tryz.func218 rfl trivial ?_
  simp only[Tryz.ntmps218,List.size_toArray,List.length_cons,List.length_nil,Nat.reduceAdd,Nat.reduceSub,Array.replicate_succ,Array.replicate_zero,lL,lM,List.nil_append,List.cons_append]
  gi_wp2_with fail
  refine HR.out.mono ?_
  rintro e W' ⟨⟨hkeep,hsz⟩,⟨rfl,hJ⟩|⟨rfl,hJ⟩⟩
  ·have HJ:=ae hJ
   have HK:=ae hkeep
   clear hJ hkeep
   gi_wp2_with fail
   go_returns
   exact .inl ⟨by simp,HJ.out,o,hol,hot,HS.out.kept (fun m hm hml=>HK.out m hm (by simp) hml)⟩
  ·have HJ:=ae hJ
   have HK:=ae hkeep
   clear hJ hkeep
   gi_wp2_with fail
   go_returns
   exact .inr ⟨by simp,HJ.out⟩
 |succ m ih=>
  intro i k pre W o him hpl hol hot hat hst hJ
  have hi:i<R.length:=by omega
  have hcount:=jM.count hi
  obtain⟨hr0,hr1,hr2⟩:=hR R[i] (bT hi)
  obtain⟨hbx,hsl⟩:=hInv _ _ _ hJ
  have c1:=aB hbx
  have c2:=aB hst.y
  have c3:=aB hst.out
  have c4:=aB hst.ch
  have hlen:=hsl.len
  obtain⟨so,sc,rfl⟩:=hsl.open
  obtain⟨b,off,rfl,hb,hc0,hc1⟩:=bM.cell hsl hi
  have HAT:=ae hat
  have HI:=ae hInv
  have HST:=ae hstep
  have HS:=ae hst
  have HJ:=ae hJ
  have HIH:=ae ih
  have HSL:=ae hsl
  have HBX:=ae hbx
  have hiI:(i:Int)<R.length:=by omega
  have hne:(i:Int)≠R.length:=by omega
  have hneb:((i:Int)==R.length)=false:=by simpa using hne
  have HN:Hid (jM R i k pre/\i<R.length):=ae ⟨hat,hi⟩
  have Ll:=ae (ag hol hot)
  have HCT:=ae hcount
  have hsize: ∃z:Nat,eQ R[i]=z/\z<=501:=⟨(eQ R[i]).toNat,by unfold eQ;omega,by unfold eQ;omega⟩
  obtain⟨z,hz,anc⟩:=hsize
  have YO:Hid (∀c:Nat,c<z->jM R (i+1) (k+c*(fJ (R.drop (i+1))).length) (pre++[R[i].1+(c:Int)])):=ae (fun c hc=>hat.next hi c (by omega))
  have HCZ:Hid ((fJ (R.drop i)).length=z*(fJ (R.drop (i+1))).length):=ae (by rw[hcount,hz];simp)
  clear hInv hstep hY hat hst hJ ih hsl hbx hcount hne hol hot hR
  generalize EF:R[i]=r at*
  have HRI:=ae EF
  clear EF
  have HZ:=ae hz
  clear hz HCT
  have hbs:=dP W _ c1
  have hys:=dP W _ c2
  have hos:=dP W _ c3
  have hcs:=dP W _ c4
  refine callsIn_of_wp Tryz.func218 rfl trivial ?_
  simp only[Tryz.ntmps218,List.size_toArray,List.length_cons,List.length_nil,Nat.reduceAdd,Nat.reduceSub,Array.replicate_succ,Array.replicate_zero,lL,lM,List.nil_append,List.cons_append]
  gi_wp2_with fail
  refine((callsIn_wide.2 (size_any r W hr0 hr1 (by omega)))).mono ?_
  rintro e W1 ⟨rfl,hb1⟩
  rw[HZ.out]
  have HB1:=ae hb1
  obtain⟨hc,hf⟩:=bV hb1
  clear hb1
  gi_wp2_with fail
  have hst1:Ee W1 R.length bx jy bo bc ob l o:=HS.out.below HB1.out
  have hJ1:J [ob,jy,bo,bc] (some k) W1:=HST.out _ _ _ _ _ HJ.out (Ext.az HB1.out) (fun m hm=> .inl hm) trivial
  have NF:=ae hst1
  have HJ1:=ae hJ1
  clear hst1 hJ1 hc hf
  gi_loopw [7,20] (fun _ u wr=> ∃c:Nat,c<=z/\u= .int .i64 c/\ ∃o':List Int,o'.length=R.length/\o'.take i=pre/\Ee wr R.length bx jy bo bc ob l o'/\J [ob,jy,bo,bc] (some (k+c*(fJ (R.drop (i+1))).length)) wr)
   (fun _ u _=>z-(intOf u).toNat)
  case atStart=>exact⟨0,bW _,rfl,o,Ll.out.1,Ll.out.2,NF.out,by simpa using HJ1.out⟩
  case round=>
   obtain⟨c,hcz,rfl,o',ho1,ho2,hst,hJ⟩:=hrel
   by_cases hlt:c<z
   ·obtain⟨hbx,hsl⟩:=HI.out _ _ _ hJ
    have d1:=aB hbx
    have d2:=aB hst.y
    have d3:=aB hst.out
    have d4:=aB hst.ch
    have aqc:=dP wr _ d1
    have aqb:=dP wr _ d2
    have aqa:=dP wr _ d3
    have ap9:=dP wr _ d4
    obtain⟨b',off',hbb,hb',e0,e1⟩:=bM.cell hsl HN.out.2
    cases hbb
    rw[HRI.out] at e0 e1
    have hio:i<o'.length:=by omega
    have d5:=gJ hst.cells hio
    have ap8:=dP wr _ d5
    have hfr:=bF hst.cells
    have IU:=ae hst
    have U0:=ae hJ
    have HO:=ae (ag ho1 ho2)
    clear hst hJ hbx hsl ho1 ho2 c1 c2 c3 c4 hc0 hc1
    have xR:(c:Int)<z:=by omega
    gi_wp2_with fail
    refine F7 10 [] none [] (by kernel_rfl) (by kernel_rfl) (by kernel_rfl) ?_
    simp only[zt]
    repeat (refine zn ?_;simp only[zp])
    intro W hE hF
    obtain⟨hc,hf⟩:=bV hE.below
    have hzE:=hE.size
    (try simp only[bI] at hzE)
    have HE:=ae hE.below
    clear hE hF
    gi_wp2_with fail
    have Hl:=(IU.out.below HE.out).set hd1 hd2 hd3 i (r.1+(c:Int))
    have hJS:J [ob,jy,bo,bc] (some (k+c*(fJ (R.drop (i+1))).length)) (W.setCell ⟨ob,i,none⟩ (iv (r.1+(c:Int)))):=
     HST.out _ _ _ _ _ (HST.out _ _ _ _ _ U0.out (Ext.az HE.out) (fun m hm=> .inl hm) trivial) ((mO W ⟨ob,i,none⟩ _).more (fun x hx=>by simp at hx;subst hx;simp)) (fun m hm=> .inl hm) trivial
    have hcall:=HIH.out (i+1) _ (pre++[r.1+(c:Int)]) _ (o'.set i (r.1+(c:Int))) (by omega) (by simp[hpl]) (by simp[HO.out.1]) (by
     rw[List.take_set]
     rw[rF,HO.out.2]
     have hio:i<o'.length:=by have:=HO.out.1;omega
     rw[dA hio]
     simp[qK,hpl]) (YO.out c hlt) Hl hJS
    rw[show((i+1:Nat):Int)=(i:Int)+1 from by omega] at hcall
    have CS:=ae hcall
    clear hcall Hl hJS
    refine CS.out.mono ?_
    rintro e W2 (⟨rfl,hJ2,o2,ho1,ho2,hst2⟩|⟨rfl,hJ2⟩)
    ·have HJ2:=ae hJ2
     have UN:=ae hst2
     have Bd:=ae (ag ho1 ho2)
     clear hJ2 hst2 ho1 ho2 hc hf d1 d2 d3 d4 d5 hfr e0 e1
     gi_wp2_with fail
     go_roundw
     case rel=>
      refine⟨c+1,by omega,by go_num,o2,Bd.out.1,?_,UN.out,?_⟩
      ·have:=congrArg (List.take i) Bd.out.2
       rw[List.take_take,Nat.min_eq_left (by omega)] at this
       rw[this,uG (by omega),kK (by omega)]
      ·rw[Nat.add_mul,Nat.one_mul, <-Nat.add_assoc];exact HJ2.out
     case measure=>simp[intOf];omega
    ·have HJ2:=ae hJ2
     clear hJ2 hc hf d1 d2 d3 d4 d5 hfr e0 e1
     gi_wp2_with fail
     go_returns
     exact .inr ⟨by simp,HJ2.out⟩
   ·have TL:c=z:=by omega
    subst TL
    have U0:=ae hJ
    have IU:=ae hst
    have HO:=ae (ag ho1 ho2)
    clear hJ hst ho1 ho2 c1 c2 c3 c4 hc0 hc1
    gi_wp2_with fail
    go_returns
    refine .inl ⟨by simp,?_,o',HO.out.1,HO.out.2,IU.out⟩
    rw[HCZ.out];exact U0.out
end Go.Proofs.YthbpmepjmebolaaGreatDoor.jJ
namespace Go.Proofs.YthbpmepjmebolaaGreatDoor.jJ
open Go.RowKit Go.RG Go.SL Go.Shelf jC
theorem wE (n:Nat) (hn:n<=1000) (W:World):
 (Instr.makeSlice 36 (iv n) (iv n)).run Tryz.prog W= .ok (.slice (some ⟨W.heap.size,0,none⟩) n n) (W.alloc (.cells (ah (List.replicate n 0)).toArray 3)):=by
 obtain⟨i,hi,hz,hs,hby⟩:=info_parts rO.info
 have:=run_make (P:=Tryz.prog) W 36 3 i (iv 0) rO.und hi hz .i64 .i64 n n (by omega) (Int.le_refl _) (by rw[hby];omega) (by omega)
 rw[this,hs]
 simp only[Int.toNat_natCast]
 congr 3
 apply Array.ext
 ·simp[madeCells,ah]
 ·intro j h1 h2
  simp[madeCells,ah,Value.cells]
  rw[Nat.mod_one]
  rfl
theorem mg (w:World) (A B C D:Obj):((((w.alloc A).alloc B).alloc C).alloc D).heap[w.heap.size+1+1+1]? =some D:=by
 have:=heap_alloc_new (((w.alloc A).alloc B).alloc C) D;rwa [bI,bI,bI] at this
theorem WZ (R:List dY) (hR: ∀r∈R,0<=r.1/\r.1<=r.2/\r.2<=500) (hn:R.length<=100) (bx:Nat) (v:Value):
 Yw Tryz.prog 217 #[.pointer (some ⟨bx,0,none⟩)] (fJ R) aeg [] (fun _=>True) (xE bx v R):=by
 intro l J W hInv hstep hY h0
 obtain⟨hbx,hsl⟩:=hInv _ _ _ h0
 have hch:=fun jy bo bc ob hd1 hd2 hd3=>Un R hR hn bx jy bo bc ob l hd1 hd2 hd3 v J hInv hstep hY
 have c1:=aB hbx
 have hb1:=dP W _ c1
 have hlen:=hsl.len
 obtain⟨so,sc,rfl⟩:=hsl.open
 have HCH:=ae hch
 have HST:=ae hstep
 have HJ:=ae h0
 have hmk:=wE R.length (by omega)
 have hn3: ∀(A B C:Obj) (v:Value) (t:TypeId),((((W.alloc A).alloc B).alloc C).alloc (.cells #[v] t)).cell? ⟨W.heap.size+1+1+1,0,none⟩=some v:=fun A B C v t=>aB (mg W A B C _)
 have hf3: ∀(A B C:Obj) (v:Value) (t:TypeId),((((W.alloc A).alloc B).alloc C).alloc (.cells #[v] t)).frozen? ⟨W.heap.size+1+1+1,0,none⟩=false:=fun A B C v t=>bF (mg W A B C _) 0
 clear hInv hstep hY hch h0 hbx hsl hR
 go_enter Tryz.func217,Tryz.ntmps217
 go_wp2_with fail
 refine(callsIn_wide.1 (HCH.o W.heap.size (W.heap.size+1+1) (W.heap.size+1+1+1) (W.heap.size+1) (by omega) (by omega) (by omega) R.length 0 0 [] _ (List.replicate R.length 0) (by omega) rfl (by simp) (by simp) (jM.zero R) ⟨?_,?_,?_,?_⟩
  (HST.o _ _ _ _ _ HJ.o (Ext.az zl) (fun m hm=> .inr (by simp at hm;(first|omega|(simp;omega)))) trivial))).mono ?_
 ·exact((aW _ _ _ (by simp;omega)).trans ((aW _ _ _ (by simp;omega)).trans ((aW _ _ _ (by simp)).trans (ay _ _))))
 ·exact((aW _ _ _ (by simp)).trans (iD _ _ _ _))
 ·exact mg _ _ _ _ _
 ·exact((aW _ _ _ (by simp)).trans ((aW _ _ _ (by simp)).trans (ed _ _ _)))
 ·rintro e W2 (⟨rfl,hJ2,_⟩|⟨rfl,hJ2⟩)
  ·have HJ2:=ae hJ2
   clear hJ2 hn3 hf3 hmk
   go_wp2_with fail
   go_end0
   exact⟨⟨_,rfl⟩,_,.inl (by simpa using HJ2.o)⟩
  ·have HJ2:=ae hJ2
   clear hJ2 hn3 hf3 hmk
   go_wp2_with fail
   go_end0
   exact⟨⟨_,rfl⟩,_,.inr HJ2.o⟩
theorem Xa (o:Option Addr) (n c:Nat) (w:World):
 Calls Tryz.prog 134 #[.slice o n c] w (fun e w'=>e= .returned (.func (.func 217) #[] #[.pointer (some ⟨w.heap.size,0,none⟩)])/\w'=w.alloc (.cells #[.slice o n c] 35)):=by
 go_enter Tryz.func134,Tryz.ntmps134
 go_wp2
 go_returns
 exact⟨by simp,rfl⟩
end Go.Proofs.YthbpmepjmebolaaGreatDoor.jJ
namespace Go.Proofs.YthbpmepjmebolaaGreatDoor.jJ
open Go.RowKit Go.RG Go.SL Go.Shelf jC
attribute [local go_sem] Oper.semAt_some
theorem RY (h:dn) (o:Option Addr) (cc:Nat) (b c:Value) (w:World) (hw:bM w (.slice o h.bQ.length cc) h.bQ) (hlen:h.bQ.length<=1000):
 Calls Tryz.prog 128 #[hv h (.slice o h.bQ.length cc) b c] w (FM 34 2 (h.bQ.length+1) (aH (h.start::h.bQ)) w):=by
 have HW:=ae hw
 clear hw
 go_enter Tryz.func128,Tryz.ntmps128
 go_wp2_with (at_builtin;refine gm rfl _ _ LK rfl (w.heap.size+1) (.slice (some ⟨w.heap.size+1,0,none⟩) 1 1) 1 [iv h.start.1,iv h.start.2] rfl ?_ (.slice o h.bQ.length cc) h.bQ.length (aH h.bQ) rfl ?_ (pz _) (by omega) (by omega) (by simp) ?_)
 ·exact iF (ed _ _ _) rfl (ai _) (by decide)
 ·exact(HW.o.alloc _).alloc _
 ·intro v' w1 hown hgrow
  have HO:=ae hown
  have HG:=ae hgrow
  clear hown hgrow
  go_wp2
  go_returns
  refine⟨v',by simp,?_,?_⟩
  ·have:=HO.o
   rw[Nat.add_comm 1 h.bQ.length] at this
   exact⟨this.1,this.2.imp id (fun⟨g,cap,cur,h1,h2,h3⟩=>⟨g,cap,cur,h1,by omega,h3⟩)⟩
  ·exact Below.grown (ak (ak (aG _ _) _) _) HG.o (by simp;omega) (fun k e=>by cases e;show _<=w.heap.size+1;omega)
theorem RH (ob n:Nat) (hn:1<=n) (W:World):
 (Instr.slice 36 (.slice (some ⟨ob,0,none⟩) (n+1) (n+1)) (some (iv 1)) none none).run Tryz.prog W= .ok (.slice (some ⟨ob,1,none⟩) n n) W:=by
 have h0: ¬n+1=1:=by omega
 have h1:(1:Int)<=((n+1:Nat):Int):=by omega
 have:=run_slice_l (P:=Tryz.prog) W 36 (some ⟨ob,0,none⟩) (n+1) (n+1) (by kernel_rfl) .i64 1 (by omega) h1
 rw[this]
 have h2: ¬n=0:=by omega
 simp[go_sem,sliced,h2]
theorem yl (P:Program) {w:World} {g:Nat} {t:TypeId} {cur:Array Value} (ys:List Int) (hg:w.heap[g]? =some (.cells cur t (0,0))) (hl:cur.size=ys.length):
 ∃w',(storeCells ⟨g,0,none⟩ (ah ys)).run P w= .ok () w'/\w'.heap[g]? =some (.cells (ah ys).toArray t (0,0))/\Ext [g] w w':=by
 have hil:(ah ys).length=ys.length:=by simp[ah]
 have h:=run_storeCells_at P g 0 t (ah ys) 0 cur w hg (by omega) (jD ys)
 refine⟨_,h,?_,rfl,rfl,rfl,by simp,fun k _ hm=>setRow_other _ _ _ _ (by simpa using hm)⟩
 rw[setRow_heap w g cur _ t _ hg]
 simp
 omega
structure Yu (wb mb bw bo:Nat) (h:dn) (a b c ov:Value) (out:List Int) (W:World):Prop where
 w:W.heap[bw]? =some (.cells #[.pointer (some ⟨wb,0,none⟩)] 100 (0,0))
 o:W.heap[bo]? =some (.cells #[ov] 36 (0,0))
 work:iW W wb mb h a b c
 bQ:bM W a h.bQ
 turns:aP W b h.turns
 readings:bD W c h.readings
 out:aP W ov out
theorem Yu.below {wb mb bw bo:Nat} {h:dn} {a b c ov:Value} {out:List Int} {W W':World} (t:Yu wb mb bw bo h a b c ov out W) (hb:Below W.heap.size W W'):Yu wb mb bw bo h a b c ov out W':=
 ⟨(hb.block _ (aV.1 t.w).1).trans t.w,(hb.block _ (aV.1 t.o).1).trans t.o,t.work.below hb (ai _),t.bQ.below hb (ai _),t.turns.below hb (ai _),
   t.readings.below hb (ai _),t.out.below hb (ai _)⟩
theorem Dz {Ms:List Nat} {a b c:World} {x:Nat} (h:Ext Ms a b) (k:Ext [x] b c) (hx:a.heap.size<=x):Ext Ms a c:=
 ⟨k.os.trans h.os,k.tape.trans h.tape,k.output.trans h.output,jo h.size k.size,
   fun i hi hm=>(k.block i (fP hi h.size) (by simp;omega)).trans (h.block i hi hm)⟩
theorem adK {l n:Nat} {P:Program} {ops:Array Oper} {Q:Exit->Act->World->Prop} {a:Act} {w:World} {rest:List Oper} {o:Oper} (hw:Region.wanted o (yielded ops a.tmps)=false)
 (h:wpListIn (Fence.wide.inRound l) n P ops Q rest (a.put o.dst undef) w):wpListIn (Fence.wide.inRound l) n P ops Q (o::rest) a w:=by
 simp only[wpListIn,hw]
 exact⟨fun _ _=>trivial,h⟩
theorem mZ (q:Nat) (f:Nat->Bool):(List.range (q+1)).all f=((List.range q).all f&&f q):=by
 rw[List.range_succ,List.all_append]
 simp
theorem Dn {W:World} {mb b:Nat} {bn:Int} {cs:Array Value} {t:TypeId} {f:Nat×Nat} (hc:Cache W mb bn) (h:W.heap[b]? =some (Obj.cells cs t f)): ¬b=mb:=by
 intro e;subst e;exact hc.MB _ _ _ h
def afI (mb:Nat) (Ms:List Nat) (t:Int×List Int) (v:Value) (W:World):Prop:=
 ∃ob:Nat,v= .agg #[iv t.1,.slice (some ⟨ob,1,none⟩) t.2.length t.2.length]/\aP W (.slice (some ⟨ob,1,none⟩) t.2.length t.2.length) t.2/\ob∈Ms/\ob≠mb
abbrev QV (mb tb bx rb d:Nat):List Nat:=[mb,tb,bx,rb,d,d+1]
structure CJ (l mb tb bx rb d cap:Nat) (R:List dY) (Ms:List Nat) (W:World):Prop where
 y:W.heap[tb]? =some (.cells #[.func (.yield l) #[] #[]] 227 (0,0))
 box:xE bx (.slice (some ⟨rb,0,none⟩) R.length cap) R W
 apart: ∀m∈Ms,m∉QV mb tb bx rb d
 small: ∀p∈QV mb tb bx rb d,p<W.heap.size
theorem xE.kept {bx rb cap:Nat} {R:List dY} {n:Nat} {W W':World} (h:xE bx (.slice (some ⟨rb,0,none⟩) n cap) R W) (h1:W'.heap[bx]? =W.heap[bx]?) (h2:W'.heap[rb]? =W.heap[rb]?):
 xE bx (.slice (some ⟨rb,0,none⟩) n cap) R W':=
 ⟨h1.trans h.1,h.2.kept fun b off n c hv _=>by cases hv;exact h2⟩
theorem CJ.kept {l mb tb bx rb d cap:Nat} {R:List dY} {Ms Ms':List Nat} {W W':World} (h:CJ l mb tb bx rb d cap R Ms W) (hs:W.heap.size<=W'.heap.size) (hk: ∀p∈[tb,bx,rb],W'.heap[p]? =W.heap[p]?)
 (hMs: ∀m∈Ms',m∈Ms∨(W.heap.size<=m/\m<W'.heap.size)):CJ l mb tb bx rb d cap R Ms' W':=
 ⟨(hk _ (by simp)).trans h.y,h.box.kept (hk _ (by simp)) (hk _ (by simp)),fun m hm hp=>by
   rcases hMs m hm with h1|h1
   ·exact h.apart m h1 hp
   ·have:=h.small m hp;omega,fun p hp=>by have:=h.small p hp;omega⟩
theorem CJ.ext {l mb tb bx rb d cap:Nat} {R:List dY} {Ms Ms':List Nat} {W W':World} (h:CJ l mb tb bx rb d cap R Ms W) (hE:Ext Ms W W')
 (hMs: ∀m∈Ms',m∈Ms∨(W.heap.size<=m/\m<W'.heap.size)):CJ l mb tb bx rb d cap R Ms' W':=
 h.kept hE.size (fun p hp=>hE.block p (h.small p (by simp at hp⊢;omega)) (fun hm=>h.apart p hm (by simp at hp⊢;omega))) hMs
section
variable {l mb tb bx rb d cap : Nat} {R : List dY} {wb bw bo : Nat} {h : dn} {a b c ov : Value} {out : List Int} {J : List Nat → Option Nat → World → Prop}
  (hInv : ∀ Ms s W1, J Ms s W1 → Yu wb mb bw bo h a b c ov out W1)
  (hstep : ∀ Ms Ms' s W1 W2, J Ms s W1 → Ext Ms W1 W2 → (∀ m ∈ Ms', m ∈ Ms ∨ (W1.heap.size ≤ m ∧ m < W2.heap.size)) → Cache W2 mb h.bn → J Ms' s W2)
include hInv hstep
theorem VP {Ms Ms':List Nat} {s:Option Nat} {W1 W2:World} (hp:CJ l mb tb bx rb d cap R Ms W1) (hJ:J (QV mb tb bx rb d++Ms) s W1) (hE:Ext Ms W1 W2) (hMs: ∀m∈Ms',m∈Ms∨(W1.heap.size<=m/\m<W2.heap.size)):
 J (QV mb tb bx rb d++Ms') s W2:=by
 refine hstep _ _ _ _ _ hJ (hE.more fun x hx=>uF _ hx) ?_ ?_
 ·intro m hm
  rcases iE.1 hm with h1|h1
  ·exact .inl (oN _ h1)
  ·exact(hMs m h1).imp (fun h2=>uF _ h2) id
 ·have hc:=(hInv _ _ _ hJ).work.cache
  exact hc.kept (hE.block _ hc.lt (fun hm=>hp.apart _ hm (by simp)))
theorem QO {Ms:List Nat} {s:Option Nat} {W:World} {r:Nat} (o:Obj) (hr:r∈QV mb tb bx rb d) (hm:r≠mb) (hJ:J (QV mb tb bx rb d++Ms) s W):J (QV mb tb bx rb d++Ms) s (W.putObj r o):=by
 refine hstep _ _ _ _ _ hJ ((FY W r o).more fun x hx=>?_) (fun m hm=> .inl hm) ?_
 ·have:x=r:=by simpa using hx
  subst this
  exact oN _ hr
 ·exact(hInv _ _ _ hJ).work.cache.kept (World.putObj_heap_other (Ne.symm hm))
theorem adv {Ms:List Nat} {s:Option Nat} {W W':World} (hJ:J (QV mb tb bx rb d++Ms) s W) (hE:Ext [mb] W W') (hc:Cache W' mb h.bn):J (QV mb tb bx rb d++Ms) s W':=
 hstep _ _ _ _ _ hJ (hE.more fun x hx=>by simp at hx;subst hx;simp) (fun m hm=> .inl hm) hc
end
theorem Ae (h:dn) (hS:Sound h) (a b c ov:Value) (out:List Int) (wb mb bw bo:Nat):
 Yw Tryz.prog 133 #[.pointer (some ⟨bw,0,none⟩),.pointer (some ⟨bo,0,none⟩)] (dX h out) (afI mb) [mb] (fun W=>Cache W mb h.bn) (Yu wb mb bw bo h a b c ov out):=by
 intro l J W hInv hstep hY h0
 have hT:=hInv _ _ _ h0
 obtain⟨oa,ca,rfl⟩:=hT.bQ.open
 obtain⟨otn,cb,rfl⟩:=hT.turns.open
 obtain⟨oc,cc,rfl⟩:=hT.readings.open
 obtain⟨oo,co,rfl⟩:=hT.out.open
 have c1:=aB hT.w
 have hb1:=dP W _ c1
 have c2:=hT.work.cell
 have hb2:=hT.work.lt
 have HT:=ae hT
 have HI:=ae hInv
 have HST:=ae hstep
 have HY:=ae hY
 have HJ:=ae h0
 have oJ:=ae hS
 have hwl:h.bQ.length<=10:=by have:=hS.Gg;have:=hS.BI;omega
 clear hInv hstep hY h0 hT hS
 refine(callsIn_wide (n:=0)).1 ?_
 refine callsIn_of_wp_marks Tryz.func133 rfl trivial ?_
 simp only[Tryz.ntmps133,List.size_toArray,List.length_cons,List.length_nil,Nat.reduceAdd,Nat.reduceSub,Array.replicate_succ,Array.replicate_zero,lL,lM,List.nil_append,List.cons_append]
 gi_wp2_with fail
 refine(callsIn_wide.2 (RY h oa ca _ _ _ (HT.out.bQ.alloc _) (by omega))).mono ?_
 rintro e w1 ⟨v1,rfl,hown,hb⟩
 obtain⟨rb,cap,rfl,hrb,hrl⟩: ∃rb cap:Nat,v1= .slice (some ⟨rb,0,none⟩) (h.bQ.length+1) cap/\W.heap.size<rb/\bM w1 (.slice (some ⟨rb,0,none⟩) (h.bQ.length+1) cap) (h.start::h.bQ):=by
  have hsl:=aK.dR hown
  rcases hown.2 with⟨rfl,h0⟩|⟨g,cp,cur,rfl,hbg,hrest⟩
  ·omega
  ·exact⟨g,cp,rfl,by simp at hbg;omega,hsl⟩
 have HB1:=ae (show Below W.heap.size W w1 from aX (ak (aG _ _) _) hb)
 have HTB:=ae ((hb.block W.heap.size (by simp)).trans (ay _ _))
 have hsz1:=hb.size
 have HRL:=ae hrl
 clear hown hb hrl c1 c2
 gi_wp2_with fail
 refine(callsIn_wide.2 (Xa _ _ _ w1)).mono ?_
 rintro e w2 ⟨rfl,rfl⟩
 gi_wp2_with fail
 obtain⟨w2,hw2⟩: ∃w2,w1.alloc (.cells #[.slice (some ⟨rb,0,none⟩) (h.bQ.length+1) cap] 35)=w2:=⟨_,rfl⟩
 have hsz2:w2.heap.size=w1.heap.size+1:=by rw[<-hw2];simp
 have xU:Below w1.heap.size w1 w2:=by rw[<-hw2];exact ak (aG _ _) _
 have hbx2:w2.heap[w1.heap.size]? =some (.cells #[.slice (some ⟨rb,0,none⟩) (h.bQ.length+1) cap] 35 (0,0)):=by rw[<-hw2];exact ay _ _
 rw[hw2]
 have ahb:=(xU.block _ (aV.1 HTB.out).1).trans HTB.out
 have hrl2:bM w2 (.slice (some ⟨rb,0,none⟩) (h.bQ.length+1) cap) (h.start::h.bQ):=HRL.out.below xU (ai _)
 have apq:rb<w1.heap.size:=by
  obtain⟨b',off',hbb,hlt,_⟩:=bM.cell HRL.out (show 0<(h.start::h.bQ).length by simp)
  cases hbb;exact hlt
 have aph:W.heap.size<w1.heap.size:=(aV.1 HTB.out).1
 have hmb:mb<W.heap.size:=HT.out.work.cache.lt
 have hBW2:Below W.heap.size W w2:=aX HB1.out xU
 have HP0:Hid (∀o o',CJ l mb W.heap.size w1.heap.size rb w2.heap.size cap (h.start::h.bQ) [] ((w2.alloc o).alloc o')):=ae (fun o o'=>
  ⟨(aW _ _ _ (by simp;omega)).trans ((aW _ _ _ (by omega)).trans ahb),
    xE.kept (W:=w2) ⟨hbx2,hrl2⟩ ((aW _ _ _ (by simp;omega)).trans (aW _ _ _ (by omega))) ((aW _ _ _ (by simp;omega)).trans (aW _ _ _ (by omega))),by simp,
    fun p hp=>by simp at hp⊢;omega⟩)
 have HJ0:Hid (∀o o',J (QV mb W.heap.size w1.heap.size rb w2.heap.size++[]) (some (cnt h out 0)) ((w2.alloc o).alloc o')):=ae (fun o o'=>by
  have hBW:Below W.heap.size W ((w2.alloc o).alloc o'):=ak (ak hBW2 _) _
  exact HST.out _ _ _ _ _ HJ.out (Ext.az hBW) (fun m hm=>by simp at hm⊢;omega) (HT.out.work.cache.kept (hBW.block mb hmb)))
 clear hw2 hbx2 ahb hrl2 xU
 refine mX (WZ (h.start::h.bQ) ?hR (by simp;omega) w1.heap.size (.slice (some ⟨rb,0,none⟩) (h.bQ.length+1) cap)) rfl (enters_of Tryz.func217 (by kernel_rfl) rfl) rfl (by simp)
  (fun Ms k W'=>CJ l mb W.heap.size w1.heap.size rb w2.heap.size cap (h.start::h.bQ) Ms W'/\J (QV mb W.heap.size w1.heap.size rb w2.heap.size++Ms) (some (cnt h out k)) W')
  (fun c Ms W'=>c= .ret/\CJ l mb W.heap.size w1.heap.size rb w2.heap.size cap (h.start::h.bQ) Ms W'/\J (QV mb W.heap.size w1.heap.size rb w2.heap.size++Ms) none W')
  ?hInv ?um ?hI ?hIx ?Q3 ?yJ (fun o o'=>⟨HP0.out o o',HJ0.out o o'⟩)
  (fun a Ms k W1 a₁ W'=> ∃ob:Nat,a₁={tmps:=(a.tmps.setIfInBounds 16 (.slice (some ⟨ob,0,none⟩) (h.bQ.length+1) (h.bQ.length+1))).setIfInBounds 4 (.slice (some ⟨ob,0,none⟩) (h.bQ.length+1) (h.bQ.length+1)),defers:=[]}/\
    CJ l mb W.heap.size w1.heap.size rb w2.heap.size cap (h.start::h.bQ) Ms W'/\J (QV mb W.heap.size w1.heap.size rb w2.heap.size++Ms) (some (cnt h out k)) W'/\ob∈Ms/\W'.heap[ob]? =some (.cells (ah ((rE h).getD k [])).toArray 3 (0,0))/\
    (∀m∈Ms,W'.heap[m]? =W1.heap[m]?)/\W1.heap.size<=W'.heap.size)
  ?TQ ?hassign ?hbody ?hdone ?hstop
 case hR=>
  intro r hr
  have hS:=oJ.out
  rcases gK.1 hr with rfl|hr
  ·exact⟨hS.Zr,hS.Zq,hS.Zp⟩
  ·have:=hS.bQ r hr;omega
 case hInv=>rintro Ms k W' ⟨hp,_⟩;exact hp.box
 case um=>rintro c Ms W' ⟨_,hp,_⟩;exact hp.box
 case hI=>rintro Ms Ms' k Wa Wb ⟨hp,hJ⟩ hE hMs _;exact⟨hp.ext hE hMs,VP HI.out HST.out hp hJ hE hMs⟩
 case hIx=>rintro c Ms Ms' Wa Wb ⟨hc,hp,hJ⟩ hE hMs _;exact⟨hc,hp.ext hE hMs,VP HI.out HST.out hp hJ hE hMs⟩
 case Q3=>
  rintro Ms k W' r o ⟨hp,hJ⟩ hr
  exact⟨hp.kept (by simp) (fun p hp'=>World.putObj_heap_other (by simp at hp';omega)) (fun m hm=> .inl hm),QO HI.out HST.out o (by simp;omega) (by omega) hJ⟩
 case yJ=>
  rintro c Ms W' r o ⟨hc,hp,hJ⟩ hr
  exact⟨hc,hp.kept (by simp) (fun p hp'=>World.putObj_heap_other (by simp at hp';omega)) (fun m hm=> .inl hm),QO HI.out HST.out o (by simp;omega) (by omega) hJ⟩
 case TQ=>
  rintro Ms k W1 a₁ W' o ⟨ob,ha,hp,hJ,hob,hcells,hk,hs⟩
  have hne: ∀m∈Ms,m≠w2.heap.size+1:=fun m hm e=>hp.apart m hm (by simp;omega)
  exact⟨ob,ha,hp.kept (by simp) (fun p hp'=>World.putObj_heap_other (by simp at hp';omega)) (fun m hm=> .inl hm),QO HI.out HST.out o (by simp) (by omega) hJ,hob,
   (World.putObj_heap_other (hne _ hob)).trans hcells,fun m hm=>(World.putObj_heap_other (hne m hm)).trans (hk m hm),by simpa using hs⟩
 case hassign=>
  rintro Ms k v W' hk ⟨hp,hJ⟩ ⟨ob,rfl,hcells,hob⟩ hlt
  have hlen:((fJ (h.start::h.bQ))[k]).length=h.bQ.length+1:=WG _ _ (bT _)
  rw[hlen]
  gi_wp2
  refine⟨⟨ob,rfl,hp,hJ,hob,?_,fun m hm=>trivial,ai _⟩,trivial,trivial⟩
  have hk':k<(rE h).length:=hk
  rw[show(rE h).getD k []=(fJ (h.start::h.bQ))[k] from by rw[eY,dA hk'];rfl]
  exact hcells
 case hdone=>
  rintro Ms W' ⟨hp,hJ⟩ hD hlt
  gi_wp2
  refine⟨by simp,.inl ⟨_,_,rfl,run_takeDeferred hD,?_⟩⟩
  refine⟨_,results_none rfl _ _ _,⟨_,rfl⟩,QV mb W.heap.size w1.heap.size rb w2.heap.size++Ms,.inl ?_⟩
  have:=QO HI.out HST.out (Obj.deferred none) (r:=w2.heap.size) (by simp) (by omega) hJ
  rw[<-adg]
  exact this
 case hstop=>
  rintro c Ms W' ⟨rfl,hp,hJ⟩ hD hlt
  gi_wp2
  refine⟨by simp,.inl ⟨_,_,rfl,run_takeDeferred hD,?_⟩⟩
  refine⟨_,results_none rfl _ _ _,⟨_,rfl⟩,QV mb W.heap.size w1.heap.size rb w2.heap.size++Ms,.inr ?_⟩
  exact QO HI.out HST.out (Obj.deferred none) (r:=w2.heap.size) (by simp) (by omega) hJ
 case hbody=>
  rintro Ms k W1 a₁ W' busy hk ⟨ob,rfl,hp,hJ,hob,hcells,hkeep,hsz⟩ hrec hD
  simp only[uD,List.set_cons_succ,List.set_cons_zero]
  have hTI:=HI.out _ _ _ hJ
  have hk':k<(rE h).length:=hk
  have hxm:(rE h).getD k []∈rE h:=by rw[eY,dA hk'];exact bT _
  have hxk:(rE h).getD k []=(rE h)[k]:=by rw[eY,dA hk'];rfl
  obtain⟨s0,rest,hx,hrl,hs0,hrest⟩:=G8 oJ.out hxm
  rw[hx] at hcells
  have hcell0:=gJ hcells (k:=0) (by simp)
  simp only[List.getElem_cons_zero] at hcell0
  have apv:=dP W' _ hcell0
  have ahg:aP W' (.slice (some ⟨ob,1,none⟩) h.bQ.length h.bQ.length) rest:=by
   refine⟨by simp[ah],_,_,by rw[hrl],ai _,by simp[maxLen];omega,(fun h=>by cases h),fun a ha=>?_⟩
   cases ha
   refine⟨rfl,fun j u hj=>?_⟩
   simp only[World.cell?,hcells]
   rw[show(1+j)=j+1 from by omega]
   simpa [ah] using hj
  have hn1:1<=h.bQ.length:=by have:=oJ.out.Gg;have:=oJ.out.KA;omega
  have hnI:(1:Int)<=((h.bQ.length+1:Nat):Int):=by omega
  have hne0: ¬h.bQ.length=0:=by omega
  have hwI:((h.bQ.length:Int)+1).toNat=h.bQ.length+1:=by omega
  have HX:Hid ((rE h)[k]=s0::rest):=ae (by rw[<-hxk];exact hx)
  have HTI:=ae hTI
  have HP:=ae hp
  have HJb:=ae hJ
  have HCL:=ae hcells
  have HRC:=ae (ag hrec hD)
  have HKP:=ae hkeep
  have HSR:=ae ahg
  have NG:=ae (ag hs0 hrest)
  have akH:=RH ob h.bQ.length hn1
  clear hTI hxm hxk hx hcells hp hJ hrec hD hkeep ahg hrest
  gi_wp2_with fail
  refine dW 7 [] none [(6,Spec.block W'.heap.size #[iv 0,.slice none 0 0] 163)] (by kernel_rfl) (by kernel_rfl) (by kernel_rfl) ?_
  simp only[zt]
  repeat (refine zd ?_;simp only[zp])
  refine jZ W'.heap.size _ _ (by rfl) (ai _) (by rfl) (by simp) (by simp) (fun W hW=>by go_simp;try rfl) (fun b5=>?_)
  simp only[zp]
  intro W3 hE hF
  obtain⟨b',hb,hbB,hblk⟩:=hF _ (bg _)
  cases hb
  have hfr:=bF hblk
  have hb5:=(aV.1 hblk).1
  have hg: ∀i,W3.cell? ⟨b5,i,none⟩=(#[iv 0,.slice none 0 0]:Array Value)[i]? :=fun i=>by
   simp only[World.cell?,hblk];rfl
  have HE3:=ae hE.below
  have nM:=ae hblk
  clear hblk hF hE akH hcell0
  gi_wp2_with fail
  obtain⟨W4,FW⟩: ∃W4,(W3.setCell ⟨b5,0,none⟩ (iv s0)).setCell ⟨b5,1,none⟩ (.slice (some ⟨ob,1,none⟩) h.bQ.length h.bQ.length)=W4:=⟨_,rfl⟩
  rw[FW]
  have hB4:Below W'.heap.size W' W4:=by rw[<-FW];exact iG (iG HE3.out hbB _) hbB _
  have hblk5:W4.heap[b5]? =some (.cells #[iv s0,.slice (some ⟨ob,1,none⟩) h.bQ.length h.bQ.length] 163 (0,0)):=by rw[<-FW];exact aI (aI nM.out _) _
  have hT4:=HTI.out.below hB4
  have c1:=aB hT4.w
  have hb1:=dP W4 _ c1
  have c2:=hT4.work.cell
  have hb2:=hT4.work.lt
  have alu:=(aV.1 hblk5).1
  have hg5: ∀i,W4.cell? ⟨b5,i,none⟩=(#[iv s0,.slice (some ⟨ob,1,none⟩) h.bQ.length h.bQ.length]:Array Value)[i]? :=fun i=>by
   simp only[World.cell?,hblk5];rfl
  have hn1':=Dn hT4.work.cache hT4.w
  have apA:=Dn hT4.work.cache hT4.work.cells
  have ahs:=Dn hT4.work.cache hblk5
  have ahu:=hT4.work.cache.lt
  obtain⟨ys,hy⟩: ∃ys,lH h (s0,rest) h.turns=ys:=⟨_,rfl⟩
  have Hf:ys.length=10:=by rw[<-hy];exact kX _ _ _ _ _ _
  have HYY:=ae hy
  have HT4:=ae hT4
  have HB4:=ae hB4
  have NI:=ae hblk5
  clear hT4 hB4 hblk5 FW hy hfr hg hb5
  refine dW 9 [mb] (some 7) [(7,⟨fun _ v=>v= .agg (ah ys).toArray,fun _ _ W=>Cache W mb h.bn⟩),(8,Spec.block W4.heap.size #[iv 0,iv 0,iv 0,iv 0,iv 0,iv 0,iv 0,iv 0,iv 0,iv 0] 107)] (by kernel_rfl) (by kernel_rfl) (by kernel_rfl) ?_
  simp only[zt]
  repeat (refine zd ?_;simp only[zp])
  refine bJ _ (by rfl) (by rfl) ⟨_,rfl⟩ (fun W5 hE hF=>?_) (fun v Wa Wb hc hE=>?_) (fun v hv=>?_)
  ·have hE':Ext [] W4 W5:=hE
   refine dG 77 #[.pointer (some ⟨wb,0,none⟩),.agg #[iv s0,.slice (some ⟨ob,1,none⟩) h.bQ.length h.bQ.length],.slice otn h.turns.length cb] (by go_simp;try rfl) ?_
   have hT5:=HT4.out.below hE'.below
   refine(yz h _ _ _ wb mb s0 rest h.turns _ _ W5 hT5.work (HSR.out.below (aX HB4.out hE'.below) (ai _)) hT5.turns (by omega) oJ.out.Og oJ.out.Oe oJ.out.PZ oJ.out.PY NG.out.1.1 NG.out.1.2 NG.out.2).mono ?_
   rintro e W6 ⟨rfl,hcc,hE2⟩
   exact⟨_,rfl,by rw[HYY.out],hcc,hE2⟩
  ·have hE':Ext [] Wa Wb:=hE
   exact Cache.kept hc (hE'.block mb (Cache.lt hc) (by simp))
  obtain rfl:v= .agg (ah ys).toArray:=hv
  simp only[zp]
  refine jZ W4.heap.size _ _ (by rfl) (ai _) (by rfl) (by simpa using ahu) (by simp) (fun W hW=>by go_simp;try rfl) (fun b6=>?_)
  simp only[zp]
  intro W5 hE hF
  obtain⟨b',hb,aqg,hblk⟩:=hF _ (bg _)
  cases hb
  have hcc:Cache W5 mb h.bn:=hF _ (nC _ (bg _))
  obtain⟨W6,hst,hblk6,zZ⟩:=yl Tryz.prog ys hblk (by rw[Hf];rfl)
  have hyl:(ah ys).length=10:=by simp[ah,Hf]
  have apB:mb<W4.heap.size:=ahu
  have Na:Ext [mb] W' W6:=Dz ((Ext.az HB4.out).trans hE) zZ (by have:=HB4.out.size;omega)
  have ah0:Cache W6 mb h.bn:=hcc.kept (zZ.block mb (Cache.lt hcc) (by simp;omega))
  have hJ6:=adv HI.out HST.out HJb.out Na ah0
  have hT6:=HI.out _ _ _ hJ6
  have YW:CJ l mb W.heap.size w1.heap.size rb w2.heap.size cap (h.start::h.bQ) Ms W6:=HP.out.kept Na.size (fun p hp=>Na.block p (HP.out.small p (by simp at hp⊢;omega)) (by simp at hp⊢;omega)) (fun m hm=> .inl hm)
  have hblk5:=(zZ.block b5 (by have:=hE.size;omega) (by simp;omega)).trans ((hE.block b5 alu (by simpa using ahs)).trans NI.out)
  have c1:=aB hT6.w
  have c2:=hT6.work.cell
  have hs1:=dP W6 _ c1
  have hs2:=hT6.work.lt
  have HJ6:=ae hJ6
  have HT6:=ae hT6
  have HP6:=ae YW
  have NI:=ae hblk5
  have HE6:=ae Na
  have HK6:=ae hblk6
  clear hblk hF hE hcc hg5 hblk6 zZ Na ah0 hJ6 hT6 YW hblk5
  gi_wp2_with fail
  clear c1 c2
  have ami:=ae Hf
  gi_loopw [7,37] (fun r u wr=> ∃q:Nat,q<=h.readings.length/\u= .int .i64 q/\r= .bool ((List.range q).all (SC h out (s0,rest)))/\Below W6.heap.size W6 wr)
   (fun _ u _=>h.readings.length-(intOf u).toNat)
  case atStart=>exact⟨0,bW _,rfl,rfl,aG _ _⟩
  case round=>
   obtain⟨q,hq,rfl,rfl,NL⟩:=hrel
   have hTq:=HT6.out.below NL
   by_cases hlt:q<h.readings.length
   ·obtain⟨b',off',rfl,hb',e0,e1,e2⟩:=bD.cell hTq.readings hlt
    have hxr:=oJ.out.rdg _ (bT hlt)
    have hok:SC h out (s0,rest) q=(out.contains (q:Int) ||Dj h.readings[q] ys):=by
     unfold SC
     rw[HYY.out,show h.readings.getD q (0,0,0)=h.readings[q] from by simp[hlt]]
    have hsucc:=mZ q (SC h out (s0,rest))
    rw[hok] at hsucc
    have ak0:=oJ.out.BI
    have MO:=oJ.out.akl
    have hbd6: ∀n∈ys,0<=n/\n<=100000:=by
     rw[<-HYY.out]
     intro n hn
     have:=Py (h:=h) (t:=(s0,rest)) h.turns oJ.out.Og oJ.out.Oe oJ.out.PZ oJ.out.PY NG.out.1.1 NG.out.1.2 NG.out.2 (by simp;omega) n hn
     omega
    have acQ:=(NL.block b6 (aV.1 HK6.out).1).trans HK6.out
    have d1:=aB hTq.o
    have hd1:=dP wr _ d1
    have ad3:=hTq.out
    generalize h.readings[q]=x at e0 e1 e2 hxr hok hsucc
    generalize (List.range q).all (SC h out (s0,rest))=rq at hsucc
    obtain⟨y0,y1,y2,y3,y4,y5,y6,y7,y8,y9,hys⟩:=Dc ami.out
    rw[hys] at hsucc hbd6 acQ
    have apG:=(aV.1 acQ).1
    have hg6: ∀i,wr.cell? ⟨b6,i,none⟩=(#[iv y0,iv y1,iv y2,iv y3,iv y4,iv y5,iv y6,iv y7,iv y8,iv y9]:Array Value)[i]? :=fun i=>by
     simp only[World.cell?,acQ];rfl
    have xK:=ae hsucc
    have HRT:=ae (fun W=>zx x y0 y1 y2 y3 y4 y5 y6 y7 y8 y9 W hxr.1.1 (by omega) hxr.2.1.1 hxr.2.1.2 hxr.2.2.1 hxr.2.2.2 hbd6)
    have HBQ:=ae NL
    have HTQ:=ae hTq
    have hqI:(q:Int)<h.readings.length:=by omega
    generalize hrr:Dj x [y0,y1,y2,y3,y4,y5,y6,y7,y8,y9]=rr at xK HRT
    have HCT:=ae (fun(W:World) (hb:Below wr.heap.size wr W)=>iL out (.slice oo out.length co) (q:Int) W (ad3.below hb (ai _)))
    generalize hcc:out.contains (q:Int)=cb at xK HCT
    clear hsucc hok hrr hcc hTq ad3 NL acQ hys hbd6 hxr hyl hst
    cases rq
    ·gi_wp2_with (refine adK (by rfl) ?_;simp only[zp])
     go_roundw
     case rel=>exact⟨.bool false,_,_,.int .i64 ((q:Int)+1),⟨q+1,by omega,by go_num,by rw[xK.out];rfl,ak HBQ.out _⟩,rfl,rfl,rfl,rfl⟩
     case measure=>simp[intOf];omega
    ·gi_wp2_with fail
     refine(CallsIn.inRound _ (callsIn_wide.2 (HCT.out _ zl))).mono ?_
     rintro e W7 ⟨rfl,hb7⟩
     obtain⟨hc7,hf7⟩:=bV hb7
     have xN:=ae hb7
     have hz7:=hb7.size
     simp only[bI] at hz7
     have hz8:wr.heap.size<W7.heap.size:=by omega
     clear hb7
     cases cb
     ·gi_wp2_with fail
      refine(CallsIn.inRound _ (callsIn_wide.2 (HRT.out _))).mono ?_
      rintro e W8 ⟨rfl,hb8⟩
      have pO:=ae hb8
      clear hb8
      gi_wp2_with fail
      go_roundw
      case rel=>exact⟨q+1,by omega,by go_num,by rw[xK.out];rfl,aX (aX (ak HBQ.out _) xN.out) pO.out⟩
      case measure=>simp[intOf];omega
     ·gi_wp2_with fail
      go_roundw
      case rel=>exact⟨q+1,by omega,by go_num,by rw[xK.out];rfl,aX (ak HBQ.out _) xN.out⟩
      case measure=>simp[intOf];omega
   ·have hql:q=h.readings.length:=by omega
    have aeT:(List.range q).all (SC h out (s0,rest))=okT h out (V5 (rE h)[k]):=by rw[HX.out,hql];rfl
    rw[aeT]
    have hEr:Ext [mb] W' wr:=HE6.out.trans (Ext.az NL)
    have hJr:=HST.out _ _ _ _ _ HJ6.out (Ext.az NL) (fun m hm=> .inl hm) hTq.work.cache
    have hPr:CJ l mb W.heap.size w1.heap.size rb w2.heap.size cap (h.start::h.bQ) Ms wr:=HP6.out.kept NL.size (fun p hp=>NL.block p (HP6.out.small p (by simp at hp⊢;omega))) (fun m hm=> .inl hm)
    have hrec:=(hEr.block _ (aV.1 HRC.out.1).1 (by simp;omega)).trans HRC.out.1
    have hdef:=(hEr.block _ (aV.1 HRC.out.2).1 (by simp;omega)).trans HRC.out.2
    have hkp: ∀m∈Ms,m∉([]:List Nat)->m<W1.heap.size->wr.heap[m]? =W1.heap[m]? :=fun m hm _ hml=>
     (hEr.block m (by omega) (by have:=HP.out.apart m hm;simp at this⊢;omega)).trans (HKP.out m hm)
    have akE:W1.heap.size<=wr.heap.size:=by have:=hEr.size;omega
    have HJR:=ae hJr
    have HPR:=ae hPr
    have adw:=ae (ag hrec (ag hdef (ag hkp akE)))
    have HTQ:=ae hTq
    have HBQ:=ae NL
    have HER:=ae hEr
    cases hpv:okT h out (V5 (rE h)[k])
    ·have HPV:=ae hpv
     clear hpv aeT hJr hPr hrec hdef hkp hTq NL hEr hyl hst
     gi_wp2_with (refine adK (by rfl) ?_;simp only[zp])
     exact⟨adw.out,HPR.out,by rw[afu hk' HPV.out];exact HJR.out⟩
    ·obtain⟨hcn,hcx⟩:=Ro hk' hpv
     have hcy:=adf hk' hpv
     have ahf:aP wr (.slice (some ⟨ob,1,none⟩) h.bQ.length h.bQ.length) rest:=by
      refine HSR.out.kept fun b off n c hv hlt'=>hEr.block b hlt' ?_
      cases hv
      have:=HP.out.apart ob hob
      simp at this⊢;omega
     have akQ:ob≠mb:=by have:=HP.out.apart ob hob;simp at this;omega
     obtain⟨f1,t1,a1,bd1,hy1,hR1⟩:=HY.out (QV mb W.heap.size w1.heap.size rb w2.heap.size++Ms) (cnt h out k) (.agg #[iv s0,.slice (some ⟨ob,1,none⟩) h.bQ.length h.bQ.length]) wr hcn HJR.out
      (by rw[hcx,HX.out];exact⟨ob,by simp[V5,hrl],by simpa [V5,hrl] using ahf,uF _ hob,akQ⟩)
     have d0:=aB hPr.y
     have hd0:=dP wr _ d0
     have ae2:=(NL.block b5 (aV.1 NI.out).1).trans NI.out
     have hd5:=(aV.1 ae2).1
     have apW: ∀i,wr.cell? ⟨b5,i,none⟩=(#[iv s0,.slice (some ⟨ob,1,none⟩) h.bQ.length h.bQ.length]:Array Value)[i]? :=fun i=>by
      simp only[World.cell?,ae2];rfl
     have HR1:=ae hR1
     have HCY:=ae hcy
     have ai5:=ae (ag (aV.1 hrec).1 (aV.1 hdef).1)
     clear hpv aeT hJr hPr hrec hdef hkp hTq NL hEr hyl hst ahf hcx ae2 hR1 hcy
     gi_wp2_with fail
     refine HR1.out.mono ?_
     rintro e W8 ⟨⟨hkeep,akF⟩,⟨rfl,hJ8⟩|⟨rfl,hJ8⟩⟩
     all_goals
      have HJ8:=ae hJ8
      have I8:CJ l mb W.heap.size w1.heap.size rb w2.heap.size cap (h.start::h.bQ) Ms W8:=HPR.out.kept akF (fun p hp=>hkeep p (oN _ (by simp at hp⊢;omega)) (by simp at hp⊢;omega) (HPR.out.small p (by simp at hp⊢;omega))) (fun m hm=> .inl hm)
      have hq8:W8.heap[w2.heap.size+1]? =some (.loop busy)/\W8.heap[w2.heap.size]? =some (.deferred (some []))/\(∀m∈Ms,m∉([]:List Nat)->m<W1.heap.size->W8.heap[m]? =W1.heap[m]?)/\W1.heap.size<=W8.heap.size:=
       ⟨(hkeep _ (by simp) (by simp;omega) ai5.out.1).trans adw.out.1,(hkeep _ (by simp) (by simp;omega) ai5.out.2).trans adw.out.2.1,
         fun m hm h0 hml=>(hkeep m (uF _ hm) (by have:=HP.out.apart m hm;simp at this⊢;omega) (by omega)).trans (adw.out.2.2.1 m hm h0 hml),by omega⟩
      have Lj:=ae I8
      have HQ8:=ae hq8
      clear hJ8 I8 hq8 hkeep hy1
     ·gi_wp2_with fail
      exact⟨HQ8.out,Lj.out,by rw[HCY.out];exact HJ8.out⟩
     ·gi_wp2_with fail
      exact⟨HQ8.out,rfl,Lj.out,HJ8.out⟩
end Go.Proofs.YthbpmepjmebolaaGreatDoor.jJ
namespace Go.Proofs.YthbpmepjmebolaaGreatDoor.jJ
open Go.RowKit Go.RG Go.SL Go.Shelf jC
attribute [local go_sem] Oper.semAt_some
theorem Af (wb:Nat) (o:Option Addr) (n c:Nat) (w:World):
 Calls Tryz.prog 76 #[.pointer (some ⟨wb,0,none⟩),.slice o n c] w (fun e w'=>e= .returned (.func (.func 133) #[] #[.pointer (some ⟨w.heap.size,0,none⟩),.pointer (some ⟨w.heap.size+1,0,none⟩)])/\
  w'=(w.alloc (.cells #[.pointer (some ⟨wb,0,none⟩)] 100)).alloc (.cells #[.slice o n c] 36)):=by
 go_enter Tryz.func76,Tryz.ntmps76
 go_wp2
 go_returns
 exact⟨by simp,rfl⟩
structure Fr (w:World) (mb:Nat) (bn:Int) (Os Ms:List Nat) (W:World):Prop where
 ext:Ext [mb] w W
 old: ∀m∈Ms,m=mb∨w.heap.size<=m
 bnd: ∀m∈Ms,m<W.heap.size
 apart: ∀b∈Os,b∉Ms/\b<W.heap.size
 cache:Cache W mb bn
theorem Fr.ja {w:World} {mb:Nat} {bn:Int} {Os Ms Ms':List Nat} {W1 W2:World} (h:Fr w mb bn Os Ms W1) (hE:Ext Ms W1 W2) (hMs: ∀m∈Ms',m∈Ms∨(W1.heap.size<=m/\m<W2.heap.size)) (hc:Cache W2 mb bn):
 Fr w mb bn Os Ms' W2/\ ∀b∈Os,W2.heap[b]? =W1.heap[b]? :=by
 refine⟨⟨⟨hE.os.trans h.ext.os,hE.tape.trans h.ext.tape,hE.output.trans h.ext.output,jo h.ext.size hE.size,fun k hk hm=>?_⟩,fun m hm=>?_,fun m hm=>?_,fun b hb=>?_,hc⟩,fun b hb=>hE.block b (h.apart b hb).2 (h.apart b hb).1⟩
 ·refine(hE.block k (fP hk h.ext.size) (fun hk'=>?_)).trans (h.ext.block k hk hm)
  rcases h.old k hk' with h1|h1
  ·exact hm (by simp[h1])
  ·omega
 ·rcases hMs m hm with h1|h1
  ·exact h.old m h1
  ·exact .inr (jo h.ext.size h1.1)
 ·rcases hMs m hm with h1|h1
  ·exact fP (h.bnd m h1) hE.size
  ·exact h1.2
 ·refine⟨fun hb'=>?_,fP (h.apart b hb).2 hE.size⟩
  rcases hMs b hb' with h1|h1
  ·exact(h.apart b hb).1 h1
  ·have:=(h.apart b hb).2;omega
theorem Fr.own {w:World} {mb:Nat} {bn:Int} {Os Ms:List Nat} {W1 W2:World} (h:Fr w mb bn Os Ms W1) (hE:Ext [mb] w W2) (hs:W1.heap.size<=W2.heap.size) (hc:Cache W2 mb bn):Fr w mb bn Os Ms W2:=
 ⟨hE,h.old,fun m hm=>fP (h.bnd m hm) hs,fun b hb=>⟨(h.apart b hb).1,fP (h.apart b hb).2 hs⟩,hc⟩
theorem Fr.ab8 {w:World} {wb mb bw bo:Nat} {h:dn} {a b c ov:Value} {out:List Int} {Os Ms:List Nat} {W:World} (hF:Fr w mb h.bn Os Ms W)
 (hw:iW w wb mb h a b c) (h1:bM w a h.bQ) (h2:aP w b h.turns) (h3:bD w c h.readings) (h4:aP w ov out)
 (hb1:W.heap[bw]? =some (.cells #[.pointer (some ⟨wb,0,none⟩)] 100 (0,0))) (hb2:W.heap[bo]? =some (.cells #[ov] 36 (0,0))):Yu wb mb bw bo h a b c ov out W:=by
 have hm: ∀x∈[mb], ∀o,w.cell? ⟨x,o,none⟩=none:=fun x hx o=>by
  have:x=mb:=by simpa using hx
  subst this
  exact hw.cache.ni o
 exact⟨hb1,hb2,hw.ext hF.ext hF.cache,h1.gB hF.ext hm,h2.gB hF.ext hm,h3.gB hF.ext hm,h4.gB hF.ext hm⟩
theorem Fr.put {w:World} {mb:Nat} {bn:Int} {Os Ms:List Nat} {W:World} (h:Fr w mb bn Os Ms W) {r:Nat} (o:Obj) (hr:w.heap.size<=r) (hm:mb<w.heap.size):Fr w mb bn Os Ms (W.putObj r o):=
 h.own ⟨h.ext.os,h.ext.tape,h.ext.output,by simpa using h.ext.size,fun k hk hn=>(World.putObj_heap_other (by omega)).trans (h.ext.block k hk hn)⟩ (by simp) (h.cache.kept (World.putObj_heap_other (by omega)))
structure Pos (w:World) (wb:Nat) (ov:Value) (r:Bool) (W:World):Prop where
 res:W.heap[w.heap.size]? =some (.cells #[.bool r] 4 (0,0))
 b1:W.heap[w.heap.size+1]? =some (.cells #[.pointer (some ⟨wb,0,none⟩)] 100 (0,0))
 b2:W.heap[w.heap.size+1+1]? =some (.cells #[ov] 36 (0,0))
theorem Pos.kept {w:World} {wb:Nat} {ov:Value} {r:Bool} {W W':World} (h:Pos w wb ov r W) (hk: ∀b∈[w.heap.size,w.heap.size+1,w.heap.size+1+1],W'.heap[b]? =W.heap[b]?):Pos w wb ov r W':=
 ⟨(hk _ (by simp)).trans h.res,(hk _ (by simp)).trans h.b1,(hk _ (by simp)).trans h.b2⟩
theorem pW (h:dn) (hS:Sound h) (a b c ov:Value) (out:List Int) (wb mb:Nat) (w:World) (hw:iW w wb mb h a b c) (h1:bM w a h.bQ) (h2:aP w b h.turns) (h3:bD w c h.readings) (h4:aP w ov out):
 Calls Tryz.prog 75 #[.pointer (some ⟨wb,0,none⟩),ov] w (fun e w'=>e= .returned (.bool (!(dX h out).isEmpty))/\Cache w' mb h.bn/\Ext [mb] w w'):=by
 obtain⟨oo,co,rfl⟩:=h4.open
 have HW:=ae hw
 have H1:=ae h1
 have H2:=ae h2
 have H3:=ae h3
 have H4:=ae h4
 have oJ:=ae hS
 have hmb:=hw.cache.lt
 clear hw h1 h2 h3 h4 hS
 refine(callsIn_wide (n:=0)).1 ?_
 refine callsIn_of_wp_marks Tryz.func75 rfl trivial ?_
 simp only[Tryz.ntmps75,List.size_toArray,List.length_cons,List.length_nil,Nat.reduceAdd,Nat.reduceSub,Array.replicate_succ,Array.replicate_zero,lL,lM,List.nil_append,List.cons_append]
 gi_wp2_with fail
 refine(callsIn_wide.2 (Af wb _ _ _ _)).mono ?_
 rintro e w1 ⟨rfl,rfl⟩
 gi_wp2_with fail
 obtain⟨w2,hw2⟩: ∃w2,(((w.alloc (.cells #[.bool false] 4)).alloc (.cells #[.pointer (some ⟨wb,0,none⟩)] 100)).alloc (.cells #[.slice oo out.length co] 36))=w2:=⟨_,rfl⟩
 have hB2:Below w.heap.size w w2:=by rw[<-hw2];exact zl
 have hsz2:w2.heap.size=w.heap.size+3:=by rw[<-hw2];simp
 have hP2:Pos w wb (.slice oo out.length co) false w2:=by
  rw[<-hw2]
  exact⟨(aW _ _ _ (by simp;omega)).trans ((aW _ _ _ (by simp)).trans (ay _ _)),(aW _ _ _ (by simp)).trans (ed _ _ _),iD _ _ _ _⟩
 rw[hw2]
 clear hw2
 refine mX (Ae h oJ.o a b c (.slice oo out.length co) out wb mb (w.heap.size+1) (w.heap.size+1+1)) rfl (enters_of Tryz.func133 (by kernel_rfl) rfl) rfl (by simp;omega)
  (fun Ms k W=>k=0/\Fr w mb h.bn [w.heap.size,w.heap.size+1,w.heap.size+1+1,w2.heap.size,w2.heap.size+1] Ms W/\Pos w wb (.slice oo out.length co) false W)
  (fun cd Ms W=>(cd= .ret/\(dX h out).isEmpty=false)/\Fr w mb h.bn [w.heap.size,w.heap.size+1,w.heap.size+1+1,w2.heap.size,w2.heap.size+1] Ms W/\Pos w wb (.slice oo out.length co) true W)
  ?hInv ?um ?hI ?hIx ?Q3 ?yJ ?h0
  (fun a Ms k W1 a₁ W=> ∃v,a₁={tmps:=a.tmps.setIfInBounds 8 v,defers:=[]}/\(Fr w mb h.bn [w.heap.size,w.heap.size+1,w.heap.size+1+1,w2.heap.size,w2.heap.size+1] Ms W/\Pos w wb (.slice oo out.length co) false W)/\(∀m∈Ms,m∉[mb]->W.heap[m]? =W1.heap[m]?)/\W1.heap.size<=W.heap.size)
  ?TQ ?hassign ?hbody ?hdone ?hstop
 case hInv=>rintro Ms k W ⟨_,hF,hP⟩;exact hF.ab8 HW.o H1.o H2.o H3.o H4.o hP.b1 hP.b2
 case um=>rintro cd Ms W ⟨_,hF,hP⟩;exact hF.ab8 HW.o H1.o H2.o H3.o H4.o hP.b1 hP.b2
 case hI=>rintro Ms Ms' k Wa Wb ⟨h0,hF,hP⟩ hE hMs hc;exact⟨h0,(hF.ja hE hMs hc).1,hP.kept (fun b hb=>(hF.ja hE hMs hc).2 b (by simp at hb⊢;omega))⟩
 case hIx=>rintro cd Ms Ms' Wa Wb ⟨h0,hF,hP⟩ hE hMs hc;exact⟨h0,(hF.ja hE hMs hc).1,hP.kept (fun b hb=>(hF.ja hE hMs hc).2 b (by simp at hb⊢;omega))⟩
 case Q3=>rintro Ms k W r o ⟨h0,hF,hP⟩ hr;exact⟨h0,hF.put o (by omega) hmb,hP.kept (fun b hb=>World.putObj_heap_other (by simp at hb;omega))⟩
 case yJ=>rintro cd Ms W r o ⟨h0,hF,hP⟩ hr;exact⟨h0,hF.put o (by omega) hmb,hP.kept (fun b hb=>World.putObj_heap_other (by simp at hb;omega))⟩
 case h0=>
  intro o o'
  have hB:Below w.heap.size w ((w2.alloc o).alloc o'):=ak (ak hB2 _) _
  exact⟨rfl,⟨Ext.az hB,fun m hm=> .inl (by simpa using hm),fun m hm=>(by have:=hB.size;simp at hm;omega),fun b hb=>⟨by simp at hb⊢;omega,by simp at hb⊢;omega⟩,HW.o.cache.kept (hB.block mb hmb)⟩,
   hP2.kept (fun b hb=>(aW _ _ _ (by simp at hb⊢;omega)).trans (aW _ _ _ (by simp at hb;omega)))⟩
 case TQ=>
  rintro Ms k W1 a₁ W o ⟨v,ha,⟨hF,hP⟩,hk,hs⟩
  refine⟨v,ha,⟨hF.put o (by omega) hmb,hP.kept (fun b hb=>World.putObj_heap_other (by simp at hb;omega))⟩,fun m hm h0=>?_,by simpa using hs⟩
  exact(World.putObj_heap_other (fun e:m=w2.heap.size+1=>(hF.apart (w2.heap.size+1) (by simp)).1 (by rw[<-e];exact hm))).trans (hk m hm h0)
 case hassign=>
  rintro Ms k v W hk ⟨h0,hF,hP⟩ hE hlt
  gi_wp2
  exact⟨⟨v,by simp,⟨hF,hP⟩,fun _ _ _=>trivial,ai _⟩,trivial,trivial⟩
 case hbody=>
  rintro Ms k W1 a₁ W busy hk ⟨v,rfl,⟨hF,hP⟩,hkeep,hsz⟩ hrec hD
  have hne:(dX h out).isEmpty=false:=by
   cases hl:dX h out with
   |nil=>rw[hl] at hk;simp at hk
   |cons x l=>rfl
  have hc:=aB hP.res
  have hf:=bF hP.res 0
  have HF:=ae hF
  have HP:=ae hP
  have HQ:=ae (ag hrec (ag hD (ag hkeep hsz)))
  clear hF hP hrec hD hkeep
  simp only[uD,List.set_cons_succ,List.set_cons_zero]
  gi_wp2_with fail
  refine⟨⟨(dL _ _ _ _ (by show w2.heap.size+1≠w.heap.size;omega)).trans HQ.o.1,(dL _ _ _ _ (by show w2.heap.size≠w.heap.size;omega)).trans HQ.o.2.1,fun m hm h0 _=>?_,by simpa [World.setCell] using hsz⟩,
   ⟨rfl,hne⟩,HF.o.own (HF.o.ext.set (ai _) _) (by simp[World.setCell]) (HF.o.cache.kept (dL _ _ _ _ (by show mb≠w.heap.size;omega))),
   ⟨aI HP.o.res _,(dL _ _ _ _ (by show w.heap.size+1≠w.heap.size;omega)).trans HP.o.b1,(dL _ _ _ _ (by show w.heap.size+1+1≠w.heap.size;omega)).trans HP.o.b2⟩⟩
  exact(dL _ _ _ _ (fun e:m=w.heap.size=>(HF.o.apart w.heap.size (by simp)).1 (by rw[<-e];exact hm))).trans (HQ.o.2.2.1 m hm h0)
 case hdone=>
  rintro Ms W ⟨h0,hF,hP⟩ hD hlt
  have hem:(dX h out).isEmpty=true:=by
   cases hl:dX h out with
   |nil=>rfl
   |cons x l=>rw[hl] at h0;simp at h0
  rw[hem]
  have hc:=aB hP.res
  have hf:=bF hP.res 0
  have HF:=ae hF
  have HP:=ae hP
  clear hF hP
  gi_wp2_with fail
  rw[hsz2] at hD
  have hD':(W.setCell ⟨w.heap.size,0,none⟩ (.bool false)).heap[w.heap.size+3]? =some (.deferred (some [])):=(dL _ _ _ _ (by show w.heap.size+3≠w.heap.size;omega)).trans hD
  have hcell:((W.setCell ⟨w.heap.size,0,none⟩ (.bool false)).putObj (w.heap.size+3) (.deferred none)).cell? ⟨w.heap.size,0,none⟩=some (.bool false):=
   aB ((World.putObj_heap_other (by omega)).trans (aI HP.o.res _))
  refine⟨by simp,.inl ⟨_,_,rfl,run_takeDeferred hD',?_⟩⟩
  refine⟨.bool false,by simp[results,Tryz.results75,go_sem,hcell],by rw[hem];rfl,?_,?_⟩
  ·exact HF.o.cache.kept ((World.putObj_heap_other (by omega)).trans (dL _ _ _ _ (by show mb≠w.heap.size;omega)))
  ·have:=(HF.o.own (HF.o.ext.set (p:=⟨w.heap.size,0,none⟩) (ai _) (.bool false)) (by simp[World.setCell]) (HF.o.cache.kept (dL _ _ _ _ (by show mb≠w.heap.size;omega)))).put (Obj.deferred none) (r:=w.heap.size+3) (by omega) hmb
   exact this.ext
 case hstop=>
  rintro cd Ms W ⟨⟨rfl,hne⟩,hF,hP⟩ hD hlt
  have HF:=ae hF
  have HP:=ae hP
  clear hF hP
  gi_wp2_with fail
  have hcell:(W.putObj (w2.heap.size) (.deferred none)).cell? ⟨w.heap.size,0,none⟩=some (.bool true):=
   aB ((World.putObj_heap_other (by omega)).trans HP.o.res)
  refine⟨by simp,.inl ⟨_,_,rfl,run_takeDeferred hD,?_⟩⟩
  refine⟨.bool true,by simp[results,Tryz.results75,go_sem,hcell],by rw[hne];rfl,?_,?_⟩
  ·exact HF.o.cache.kept (World.putObj_heap_other (by omega))
  ·exact(HF.o.put (Obj.deferred none) (r:=w2.heap.size) (by omega) hmb).ext
end Go.Proofs.YthbpmepjmebolaaGreatDoor.jJ
namespace Go.Proofs.YthbpmepjmebolaaGreatDoor.jJ
open Go.RowKit Go.RG Go.SL Go.Shelf jC
def jm (h:dn) (turns:List Int):Int:=if wH h≠0 then wH h else if oI h.last turns=false then 2 else if(dX h []).isEmpty then 11 else 0
def adH (h:dn) (a b c:Value) (turns:List Int) (w:World) (e:Ending) (w':World):Prop:=
 Below w.heap.size w w'/\((jm h turns≠0/\e= .returned (.tuple #[.pointer none,.int .i64 (jm h turns)]))∨
  (jm h turns=0/\ ∃wb mb:Nat,e= .returned (.tuple #[.pointer (some ⟨wb,0,none⟩),.int .i64 0])/\w.heap.size<=wb/\w.heap.size<=mb/\iW w' wb mb h a b c))
theorem iw {w W W':World} {mb:Nat} (h:Below w.heap.size w W) (hE:Ext [mb] W W') (hm:w.heap.size<=mb):Below w.heap.size w W':=
 h.trans ⟨hE.os,hE.tape,hE.output,hE.size,fun k hk=>by
  by_cases hlt:k<W.heap.size
  ·exact hE.block k hlt (by simp;omega)
  ·have:=h.size;omega⟩
theorem wM (h:dn) (wv tv vJ N9:Value) (turns:List Int) (w:World) (hw:bM w wv h.bQ) (ht:aP w tv h.turns) (hx:bD w vJ h.readings) (htr:aP w N9 turns):
 Calls Tryz.prog 43 #[hv h wv tv vJ,N9] w (adH h wv tv vJ turns w):=by
 obtain⟨ow,cw,rfl⟩:=hw.open
 obtain⟨ot,ct,rfl⟩:=ht.open
 obtain⟨ox,cx,rfl⟩:=hx.open
 have HW:=ae hw
 have HT:=ae ht
 have HX:=ae hx
 clear hw ht hx
 obtain⟨oq,cq,rfl⟩:=htr.open
 have HQ:=ae htr
 clear htr
 by_cases hf0:wH h=0
 case neg=>
  have he:jm h turns=wH h:=by unfold jm;rw[aC hf0]
  have HE:Hid (jm h turns=wH h/\jm h turns≠0):=ae ⟨he,by rw[he];exact hf0⟩
  clear he
  generalize hff:wH h=f at*
  have HF:=ae hff
  clear hff
  go_enter Tryz.func43,Tryz.ntmps43
  go_wp2_with fail
  refine(wK h _ _ _ _ (HW.o.alloc _) (HT.o.alloc _) (HX.o.alloc _)).mono ?_
  rintro e w' ⟨rfl,hb⟩
  rw[HF.o]
  go_wp2_with fail
  go_returns
  exact⟨aX (ak (aG _ _) _) hb,.inl ⟨HE.o.2,by rw[HE.o.1];simp⟩⟩
 have hS:=Gn hf0
 obtain⟨hl0,hl9⟩:0<=h.last/\h.last<=9:=⟨hS.KA,hS.BI⟩
 have HF:=ae hf0
 have oJ:=ae hS
 clear hf0 hS
 have hask:jm h turns=if oI h.last turns=false then 2 else if(dX h []).isEmpty then 11 else 0:=by unfold jm;rw[aj (by rw[HF.o];simp)]
 have U1:=ae hask
 clear hask
 generalize htn:oI h.last turns=tn at U1
 have HTN:=ae htn
 clear htn
 go_enter Tryz.func43,Tryz.ntmps43
 go_wp2_with fail
 refine(wK h _ _ _ _ (HW.o.alloc _) (HT.o.alloc _) (HX.o.alloc _)).mono ?_
 rintro e w' ⟨rfl,hb⟩
 rw[HF.o]
 obtain⟨hc,hf⟩:=bV hb
 have hz0:w.heap.size<w'.heap.size:=(by have:=hb.size;(try simp only[bI] at this);omega)
 have HB:=ae (show Below w.heap.size w w' from aX (ak (aG _ _) _) hb)
 clear hb
 go_wp2_with fail
 refine(pU h _ _ _ _ turns _ (HQ.o.below HB.o (ai _)) hl0 hl9).mono ?_
 rintro e w3 ⟨rfl,hb⟩
 rw[HTN.o]
 have HB3:=ae (aX HB.o hb)
 obtain⟨hc3,hf3⟩:=bV hb
 clear hb
 cases tn
 ·go_wp2_with fail
  go_returns
  exact⟨HB3.o,.inl ⟨by rw[U1.o];simp,by rw[U1.o];simp⟩⟩
 go_wp2_with fail
 refine(F8 h ow ot ox _ _ _ _ _ _ w3).mono ?_
 rintro e w4 ⟨wb,mb,rfl,h1,h2,h3,h4⟩
 have hsz:=HB3.o.size
 have HW4:=ae h3
 have HB4:=ae (aX HB3.o h4)
 clear h3 h4 hc hf hc3 hf3
 go_wp2_with fail
 refine(pW h oJ.o _ _ _ (.slice none 0 0) [] wb mb w4 HW4.o (HW.o.below HB4.o (ai _)) (HT.o.below HB4.o (ai _)) (HX.o.below HB4.o (ai _)) (aK.nil 1 w4)).mono ?_
 rintro e w5 ⟨rfl,hcc,hE⟩
 have nM:=ae (iw HB4.o hE (by omega))
 have HW5:=ae (HW4.o.ext hE hcc)
 clear hcc hE
 generalize htl:(dX h []).isEmpty=em at U1
 cases em
 ·go_wp2_with fail
  go_returns
  exact⟨nM.o,.inr ⟨by rw[U1.o];simp,wb,mb,by simp,by omega,by omega,HW5.o⟩⟩
 ·go_wp2_with fail
  go_returns
  exact⟨nM.o,.inl ⟨by rw[U1.o];simp,by rw[U1.o];simp⟩⟩
end Go.Proofs.YthbpmepjmebolaaGreatDoor.jJ
namespace Go.Proofs.YthbpmepjmebolaaGreatDoor.jJ
open Go.RowKit Go.RG Go.SL Go.Shelf jC
theorem Yh (l:List Int) (v:Value) (bz:Nat) (fst caps:Array Value) (q:Int->Bool) (w:World) (hv:aP w v l) (eg: ∀args w,(callFunc bz args).run Tryz.prog w= .ok (.enter bz args) w)
 (hcall: ∀x∈l, ∀W,Below w.heap.size w W->Calls Tryz.prog bz (fst.push (iv x)++caps) W (PV (.bool (q x)) W)):
 Calls Tryz.prog 79 #[v,.func (.func bz) fst caps] w (PV (.bool (l.all q)) w):=by
 refine(allI l v bz fst caps (fun k=>q (l.getD k 0)) (fun _ W=>Below w.heap.size w W) w eg (fun k W h=>hv.below h (ai _)) (fun k W o h=>ak h o) (fun k hk W _ h=>?_) (aG _ _)).mono ?_
 ·refine(hcall l[k] (bT _) W h).mono ?_
  rintro e W' ⟨rfl,hb⟩
  exact⟨by simp[hk],aX h hb,jr.az hb⟩
 ·intro e W' hpost
  obtain⟨rfl,k,_,hI⟩:=hpost.all
  refine⟨?_,hI⟩
  rw[jL,jV]
def OV (h:dn) (n:Int):Bool:=decide (h.uT<n) ||decide (n<h.die)
def mM (h:dn) (l:List Int):Bool:=(l.take (h.last+1).toNat).all fun n=>!OV h n
theorem Xf (h:dn) (a b c:Value) (n:Int) (bh:Nat) (w:World) (hb:w.heap[bh]? =some (.cells #[.int .i64 h.last,.int .i64 h.size,.int .i64 h.bn,.int .i64 h.die,.int .i64 h.uT,.int .i64 h.start.1,.int .i64 h.start.2,a,b,c] 39 (0,0))):
 Calls Tryz.prog 81 #[iv n,.pointer (some ⟨bh,0,none⟩)] w (PV (.bool (!OV h n)) w):=by
 have hc0: ∀i,w.cell? ⟨bh,i,none⟩=(#[.int .i64 h.last,.int .i64 h.size,.int .i64 h.bn,.int .i64 h.die,.int .i64 h.uT,.int .i64 h.start.1,.int .i64 h.start.2,a,b,c]:Array Value)[i]? :=fun i=>by
  simp only[World.cell?,hb];rfl
 have hlt:=(aV.1 hb).1
 clear hb
 go_enter Tryz.func81,Tryz.ntmps81
 go_wp2_with fail
 refine(ZZ h a b c n w).mono ?_
 rintro e w' ⟨rfl,hb⟩
 have HB:=ae hb
 clear hb
 generalize hl:(decide (h.uT<n) ||decide (n<h.die))=q
 have HL:Hid (OV h n=q):=ae hl
 clear hl
 go_wp2_with fail
 go_returns
 exact⟨by rw[HL.o];simp,HB.o⟩
theorem Pg (h:dn) (ow ot ox:Option Addr) (nw cw nt ct nx cx:Nat) (l:List Int) (h10:l.length=10) (w:World) (h0:0<=h.last) (h9:h.last<=9):
 Calls Tryz.prog 46 #[hv h (.slice ow nw cw) (.slice ot nt ct) (.slice ox nx cx),lY l] w (PV (.bool (mM h l)) w):=by
 obtain⟨n,hn⟩: ∃n:Nat,h.last+1=n:=⟨(h.last+1).toNat,by omega⟩
 have Xq:n<=10:=by omega
 have hk:mM h l=(l.take n).all fun n=>!OV h n:=by unfold mM;rw[hn];rfl
 rw[hk]
 clear hk
 obtain⟨y0,y1,y2,y3,y4,y5,y6,y7,y8,y9,rfl⟩:=Dc h10
 have hnI:(n:Int)<=10:=by omega
 have apz:(0:Int)<=n:=by omega
 have ak2:([y0,y1,y2,y3,y4,y5,y6,y7,y8,y9].take n).length=n:=by simp;omega
 show Calls Tryz.prog 46 #[hv h (.slice ow nw cw) (.slice ot nt ct) (.slice ox nx cx),.agg #[iv y0,iv y1,iv y2,iv y3,iv y4,iv y5,iv y6,iv y7,iv y8,iv y9]] w _
 go_enter Tryz.func46,Tryz.ntmps46
 go_wp2_with fail
 refine(MQ h _ _ _ n _ h0 h9 hn).mono ?_
 rintro e w' ⟨rfl,hb⟩
 obtain⟨hc,hf⟩:=bV hb
 have hz0:w.heap.size<w'.heap.size:=(by have:=hb.size;(try simp only[bI] at this);omega)
 have hz1:w.heap.size+1<w'.heap.size:=(by have:=hb.size;(try simp only[bI] at this);omega)
 have HA:=ae ((hb.block w.heap.size (by simp;omega)).trans ((aW _ _ _ (by simp)).trans (ay _ _)))
 have HK:=ae ((hb.block (w.heap.size+1) (by simp)).trans (ed _ _ _))
 have HB:=ae (show Below w.heap.size w w' from zl)
 clear hb
 go_wp2_with fail
 have hsl:aP w' (.slice (some ⟨w.heap.size+1,0,none⟩) n 10) ([y0,y1,y2,y3,y4,y5,y6,y7,y8,y9].take n):=by
  have:=aK.WQ n 10 HK.o (by simpa using Xq) Xq (by simp[maxLen])
  unfold aP ah
  rw[ak2,List.map_take]
  exact this
 refine(Yh _ (.slice (some ⟨w.heap.size+1,0,none⟩) n 10) 81 #[] #[.pointer (some ⟨w.heap.size,0,none⟩)] (fun n=>!OV h n) w' hsl (enters_of Tryz.func81 (by kernel_rfl) rfl) ?_).mono ?_
 ·intro x _ W hW
  exact Xf h _ _ _ x w.heap.size W ((hW.block _ (aV.1 HA.o).1).trans HA.o)
 ·rintro e W2 ⟨rfl,hb⟩
  have HB2:=ae hb
  clear hb hsl
  go_wp2_with fail
  go_returns
  exact⟨by simp,aX HB.o HB2.o⟩
end Go.Proofs.YthbpmepjmebolaaGreatDoor.jJ
end

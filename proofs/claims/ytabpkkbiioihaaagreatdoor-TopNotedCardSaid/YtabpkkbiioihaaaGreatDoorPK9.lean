/-
  Texts of this claim, packed by a program: WA WB.
-/
import Derived.WalkKit
import Derived.WalkLawsBesides
import Derived.WalkSpells
import Derived.Outline
import Derived.Handy
import Derived.KernelRfl
import Derived.Lib.Hide
import Derived.Test.YtabpkkbiioihaaaGreatDoorProg
import Derived.Shelf.Abstract
import Derived.Laws.EntriesVeiled
import Derived.Test.YtabpkkbiioihaaaGreatDoorPK3
set_option maxHeartbeats 8000000
set_option maxRecDepth 100000
set_option linter.all false
section
namespace Go.Proofs.YtabpkkbiioihaaaGreatDoor.kK
open Go.RowKit Go.RG Go.SL gZ
abbrev iv (n:Int):Value:= .int .i64 n
abbrev rv (r:bK):Value:= .agg #[.int .i64 r.1,.int .i64 r.2]
abbrev xv (x:wP):Value:= .agg #[.int .i64 x.1,.int .i64 x.2.1,.int .i64 x.2.2]
abbrev hv (h:bF) (wv tv xv:Value):Value:= .agg #[.int .i64 h.last,.int .i64 h.size,.int .i64 h.aY,.int .i64 h.die,.int .i64 h.pI,.int .i64 h.start.1,.int .i64 h.start.2,wv,tv,xv]
theorem mQ (n l h:Int) (w:World):Calls Tryz.prog 186 #[iv n,iv l,iv h] w (PV (.bool (inB n l h)) w):=by
 by_cases h1:l<=n
 all_goals
  go_enter Tryz.func186,Tryz.ntmps186
  go_wp2
  go_returns
  exact⟨by simp[inB];omega,Below.refl _ _⟩
theorem RD (r:bK) (n:Int) (w:World):Calls Tryz.prog 187 #[rv r,iv n] w (PV (.bool (okR r n)) w):=by
 go_enter Tryz.func187,Tryz.ntmps187
 go_wp2
 all_goals
  go_returns
  exact⟨by simp[okR];omega,by go_grown⟩
theorem size_any (r:bK) (w:World) (h1:0<=r.1) (h2:r.1<=r.2) (h3:r.2<=100000):
 Calls Tryz.prog 146 #[rv r] w (PV (iv (df r)) w):=by
 go_enter Tryz.func146,Tryz.ntmps146
 go_wp2
 go_returns
 exact⟨by simp[df],by go_grown⟩
theorem Dw (r:bK) (w:World):Calls Tryz.prog 142 #[rv r] w (PV (.bool (okR r 20)) w):=by
 go_enter Tryz.func142,Tryz.ntmps142
 go_wp2_with (go_at_call 187;refine(RD _ _ _).mono ?_;rintro e w' ⟨rfl,hb⟩)
 go_returns
 exact⟨by simp,(Below.refl _ _).alloc (Nat.le_refl _) _ |>.trans (hb.mono (by simp))⟩
theorem rC (h:bF) (a b c:Value) (n:Int) (w:World):Calls Tryz.prog 185 #[hv h a b c,iv n] w (PV (.bool (inB n 0 h.last)) w):=by
 go_enter Tryz.func185,Tryz.ntmps185
 go_wp2_with (go_at_call 186;refine(mQ _ _ _ _).mono ?_;rintro e w' ⟨rfl,hb⟩)
 go_returns
 exact⟨by simp,(Below.refl _ _).alloc (Nat.le_refl _) _ |>.trans (hb.mono (by simp))⟩
theorem mM (h:bF) (a b c:Value) (w:World) (h0:0<=h.last) (h9:h.last<=9):Calls Tryz.prog 139 #[hv h a b c] w (PV (iv (h.last+1)) w):=by
 go_enter Tryz.func139,Tryz.ntmps139
 go_wp2
 go_returns
 exact⟨by simp,by go_grown⟩
theorem PL (h:bF) (a b c:Value) (n:Int) (w:World):Calls Tryz.prog 248 #[hv h a b c,iv n] w (PV (.bool (decide (h.pI<n))) w):=by
 go_enter Tryz.func248,Tryz.ntmps248
 go_wp2
 go_returns
 exact⟨by simp,by go_grown⟩
theorem dies_any (h:bF) (a b c:Value) (n:Int) (w:World):Calls Tryz.prog 249 #[hv h a b c,iv n] w (PV (.bool (decide (n<h.die))) w):=by
 go_enter Tryz.func249,Tryz.ntmps249
 go_wp2
 go_returns
 exact⟨by simp,by go_grown⟩
theorem RZ (h:bF) (a b c:Value) (n:Int) (w:World):Calls Tryz.prog 200 #[hv h a b c,iv n] w (PV (.bool (decide (h.pI<n) ||decide (n<h.die))) w):=by
 go_enter Tryz.func200,Tryz.ntmps200
 go_wp2_with (first|(go_at_call 248;refine(PL _ _ _ _ _ _).mono ?_;rintro e w' ⟨rfl,hb⟩;obtain⟨hc,hf⟩:=aW hb;have hz0:w.heap.size<w'.heap.size:=(by have:=hb.size;(try simp only[World.size_alloc] at this);omega))|(go_at_call 249;refine(dies_any _ _ _ _ _ _).mono ?_;rintro e w' ⟨rfl,hb⟩;obtain⟨hc,hf⟩:=aW hb;have hz0:w.heap.size<w'.heap.size:=(by have:=hb.size;(try simp only[World.size_alloc] at this);omega)))
 all_goals
  go_returns
  exact⟨by simp[*],zl⟩
theorem jW (h:bF) (a b c:Value) (w:World):Calls Tryz.prog 138 #[hv h a b c] w (PV (.bool (dG h)) w):=by
 go_enter Tryz.func138,Tryz.ntmps138
 go_wp2_with (first|(go_at_call 186;refine(mQ _ _ _ _).mono ?_;rintro e w' ⟨rfl,hb⟩;obtain⟨hc,hf⟩:=aW hb;have hz0:w.heap.size<w'.heap.size:=(by have:=hb.size;(try simp only[World.size_alloc] at this);omega))|(go_at_call 187;refine(RD (_,_) _ _).mono ?_;rintro e w' ⟨rfl,hb⟩;obtain⟨hc,hf⟩:=aW hb;have hz0:w.heap.size<w'.heap.size:=(by have:=hb.size;(try simp only[World.size_alloc] at this);omega)))
 all_goals
  go_returns
  exact⟨by simp only[dG];simp[*];try omega,zl⟩
end Go.Proofs.YtabpkkbiioihaaaGreatDoor.kK
namespace Go.Proofs.YtabpkkbiioihaaaGreatDoor.kK
open Go.RowKit Go.RG Go.SL Go.Shelf gZ
theorem ad2 (l:List bK) (v:Value) (aI:Nat) (fst caps:Array Value) (p:Nat->Bool) (I:Nat->World->Prop) (w:World) (eg: ∀args w,(callFunc aI args).run Tryz.prog w= .ok (.enter aI args) w)
 (hsl: ∀k W,I k W->bn W v l)
 (hcall: ∀k (hk:k<l.length) W,(∀j,j<k->p j=false)->I k W->Calls Tryz.prog aI (fst.push (rv l[k])++caps) W (fun e W'=>e= .returned (.bool (p k))/\I (k+1) W')) (h0:I 0 w):
 Calls Tryz.prog 242 #[v,.func (.func aI) fst caps] w (dA l.length p I (fun k=>iv k) (iv (-1))):=by
 have hlen:=(hsl 0 w h0).len
 obtain⟨o,c,rfl⟩:=(hsl 0 w h0).open
 have HC:=Lib.hid hcall
 have HS:=Lib.hid hsl
 clear hcall hsl
 go_enter Tryz.func242,Tryz.ntmps242
 go_wp2
 go_loopw [4,5,8] (fun _ _ i wr=> ∃k:Nat,k<=l.length/\i= .int .i64 k/\(∀j,j<k->p j=false)/\I k wr) (fun _ _ i _=>l.length-(intOf i).toNat)
 case atStart=>exact⟨0,Nat.zero_le _,rfl,fun j hj=>by omega,h0⟩
 case round=>
  obtain⟨k,hk,rfl,hno,hI⟩:=hrel
  by_cases hlt:k<l.length
  ·obtain⟨b,off,rfl,hb,hc0,hc1⟩:=bn.cell (HS.out k wr hI) hlt
   have hC:=HC.out k hlt wr hno hI
   have HN:=Lib.hid hno
   clear hno
   go_wp2_with fail
   refine hC.mono ?_
   rintro e W1 ⟨rfl,hI1⟩
   have HI:=Lib.hid hI1
   clear hI1 hI hC
   cases hp:p k
   ·go_wp2_with fail
    go_roundw
    case rel=>exact⟨k+1,by omega,by go_num,fun j hj=>(by by_cases e:j=k;(subst e;exact hp);exact HN.out j (by omega)),HI.out⟩
    case measure=>simp[intOf];omega
   ·go_wp2_with fail
    go_returns
    exact⟨k,by omega,HN.out,.inl ⟨hlt,hp,by simp,HI.out⟩⟩
  ·have hkl:k=l.length:=by omega
   have HN:=Lib.hid hno
   clear hno
   go_wp2_with fail
   go_returns
   exact⟨k,by omega,HN.out,.inr ⟨hkl,by simp,by subst hkl;exact hI⟩⟩
theorem Yo (l:List Int) (v:Value) (aI:Nat) (fst caps:Array Value) (p:Nat->Bool) (I:Nat->World->Prop) (w:World) (eg: ∀args w,(callFunc aI args).run Tryz.prog w= .ok (.enter aI args) w)
 (hsl: ∀k W,I k W->aN W v l)
 (hcall: ∀k (hk:k<l.length) W,(∀j,j<k->p j=false)->I k W->Calls Tryz.prog aI (fst.push (iv l[k])++caps) W (fun e W'=>e= .returned (.bool (p k))/\I (k+1) W')) (h0:I 0 w):
 Calls Tryz.prog 178 #[v,.func (.func aI) fst caps] w (dA l.length p I (fun k=>iv k) (iv (-1))):=by
 have hlen:=(hsl 0 w h0).len
 obtain⟨o,c,rfl⟩:=(hsl 0 w h0).open
 have HC:=Lib.hid hcall
 have HS:=Lib.hid hsl
 clear hcall hsl
 go_enter Tryz.func178,Tryz.ntmps178
 go_wp2
 go_loopw [4,5,8] (fun _ _ i wr=> ∃k:Nat,k<=l.length/\i= .int .i64 k/\(∀j,j<k->p j=false)/\I k wr) (fun _ _ i _=>l.length-(intOf i).toNat)
 case atStart=>exact⟨0,Nat.zero_le _,rfl,fun j hj=>by omega,h0⟩
 case round=>
  obtain⟨k,hk,rfl,hno,hI⟩:=hrel
  by_cases hlt:k<l.length
  ·obtain⟨b,off,rfl,hb,hc0⟩:=aN.cell (HS.out k wr hI) hlt
   have hC:=HC.out k hlt wr hno hI
   have HN:=Lib.hid hno
   clear hno
   go_wp2_with fail
   refine hC.mono ?_
   rintro e W1 ⟨rfl,hI1⟩
   have HI:=Lib.hid hI1
   clear hI1 hI hC
   cases hp:p k
   ·go_wp2_with fail
    go_roundw
    case rel=>exact⟨k+1,by omega,by go_num,fun j hj=>(by by_cases e:j=k;(subst e;exact hp);exact HN.out j (by omega)),HI.out⟩
    case measure=>simp[intOf];omega
   ·go_wp2_with fail
    go_returns
    exact⟨k,by omega,HN.out,.inl ⟨hlt,hp,by simp,HI.out⟩⟩
  ·have hkl:k=l.length:=by omega
   have HN:=Lib.hid hno
   clear hno
   go_wp2_with fail
   go_returns
   exact⟨k,by omega,HN.out,.inr ⟨hkl,by simp,by subst hkl;exact hI⟩⟩
theorem adY (l:List wP) (v:Value) (aI:Nat) (fst caps:Array Value) (p:Nat->Bool) (I:Nat->World->Prop) (w:World) (eg: ∀args w,(callFunc aI args).run Tryz.prog w= .ok (.enter aI args) w)
 (hsl: ∀k W,I k W->aT W v l)
 (hcall: ∀k (hk:k<l.length) W,(∀j,j<k->p j=false)->I k W->Calls Tryz.prog aI (fst.push (xv l[k])++caps) W (fun e W'=>e= .returned (.bool (p k))/\I (k+1) W')) (h0:I 0 w):
 Calls Tryz.prog 243 #[v,.func (.func aI) fst caps] w (dA l.length p I (fun k=>iv k) (iv (-1))):=by
 have hlen:=(hsl 0 w h0).len
 obtain⟨o,c,rfl⟩:=(hsl 0 w h0).open
 have HC:=Lib.hid hcall
 have HS:=Lib.hid hsl
 clear hcall hsl
 go_enter Tryz.func243,Tryz.ntmps243
 go_wp2
 go_loopw [4,5,8] (fun _ _ i wr=> ∃k:Nat,k<=l.length/\i= .int .i64 k/\(∀j,j<k->p j=false)/\I k wr) (fun _ _ i _=>l.length-(intOf i).toNat)
 case atStart=>exact⟨0,Nat.zero_le _,rfl,fun j hj=>by omega,h0⟩
 case round=>
  obtain⟨k,hk,rfl,hno,hI⟩:=hrel
  by_cases hlt:k<l.length
  ·obtain⟨b,off,rfl,hb,hc0,hc1,hc2⟩:=aT.cell (HS.out k wr hI) hlt
   have hC:=HC.out k hlt wr hno hI
   have HN:=Lib.hid hno
   clear hno
   go_wp2_with fail
   refine hC.mono ?_
   rintro e W1 ⟨rfl,hI1⟩
   have HI:=Lib.hid hI1
   clear hI1 hI hC
   cases hp:p k
   ·go_wp2_with fail
    go_roundw
    case rel=>exact⟨k+1,by omega,by go_num,fun j hj=>(by by_cases e:j=k;(subst e;exact hp);exact HN.out j (by omega)),HI.out⟩
    case measure=>simp[intOf];omega
   ·go_wp2_with fail
    go_returns
    exact⟨k,by omega,HN.out,.inl ⟨hlt,hp,by simp,HI.out⟩⟩
  ·have hkl:k=l.length:=by omega
   have HN:=Lib.hid hno
   clear hno
   go_wp2_with fail
   go_returns
   exact⟨k,by omega,HN.out,.inr ⟨hkl,by simp,by subst hkl;exact hI⟩⟩
theorem acg (l:List bK) (v:Value) (aI:Nat) (fst caps:Array Value) (p:Nat->Bool) (I:Nat->World->Prop) (w:World) (eg: ∀args w,(callFunc aI args).run Tryz.prog w= .ok (.enter aI args) w)
 (hsl: ∀k W,I k W->bn W v l)
 (hcall: ∀k (hk:k<l.length) W,(∀j,j<k->p j=false)->I k W->Calls Tryz.prog aI (fst.push (rv l[k])++caps) W (fun e W'=>e= .returned (.bool (p k))/\I (k+1) W')) (h0:I 0 w):
 Calls Tryz.prog 190 #[v,.func (.func aI) fst caps] w (dA l.length p I (fun _=> .bool true) (.bool false)):=by
 have HI:=Lib.hid (ad2 l v aI fst caps p I w eg hsl hcall h0)
 have hlen:=(hsl 0 w h0).len
 clear hsl hcall h0 eg
 go_enter Tryz.func190,Tryz.ntmps190
 go_wp2_with fail
 refine HI.out.mono ?_
 clear HI
 rintro e W' ⟨k,hk,hno,⟨hlt,hp,rfl,hI⟩|⟨hkl,rfl,hI⟩⟩
 ·have HN:=Lib.hid (And.intro hno (And.intro hp hI))
  clear hno hp hI
  go_wp2_with fail
  go_returns
  exact⟨k,hk,HN.out.1,.inl ⟨hlt,HN.out.2.1,by simp,HN.out.2.2⟩⟩
 ·have HN:=Lib.hid (And.intro hno (And.intro hkl hI))
  clear hno hkl hI
  go_wp2_with fail
  go_returns
  exact⟨k,hk,HN.out.1,.inr ⟨HN.out.2.1,by simp,HN.out.2.1▸HN.out.2.2⟩⟩
theorem Iy (l:List Int) (v:Value) (aI:Nat) (fst caps:Array Value) (p:Nat->Bool) (I:Nat->World->Prop) (w:World) (eg: ∀args w,(callFunc aI args).run Tryz.prog w= .ok (.enter aI args) w)
 (hsl: ∀k W,I k W->aN W v l)
 (hcall: ∀k (hk:k<l.length) W,(∀j,j<k->p j=false)->I k W->Calls Tryz.prog aI (fst.push (iv l[k])++caps) W (fun e W'=>e= .returned (.bool (p k))/\I (k+1) W')) (h0:I 0 w):
 Calls Tryz.prog 130 #[v,.func (.func aI) fst caps] w (dA l.length p I (fun _=> .bool true) (.bool false)):=by
 have HI:=Lib.hid (Yo l v aI fst caps p I w eg hsl hcall h0)
 have hlen:=(hsl 0 w h0).len
 clear hsl hcall h0 eg
 go_enter Tryz.func130,Tryz.ntmps130
 go_wp2_with fail
 refine HI.out.mono ?_
 clear HI
 rintro e W' ⟨k,hk,hno,⟨hlt,hp,rfl,hI⟩|⟨hkl,rfl,hI⟩⟩
 ·have HN:=Lib.hid (And.intro hno (And.intro hp hI))
  clear hno hp hI
  go_wp2_with fail
  go_returns
  exact⟨k,hk,HN.out.1,.inl ⟨hlt,HN.out.2.1,by simp,HN.out.2.2⟩⟩
 ·have HN:=Lib.hid (And.intro hno (And.intro hkl hI))
  clear hno hkl hI
  go_wp2_with fail
  go_returns
  exact⟨k,hk,HN.out.1,.inr ⟨HN.out.2.1,by simp,HN.out.2.1▸HN.out.2.2⟩⟩
theorem acd (l:List wP) (v:Value) (aI:Nat) (fst caps:Array Value) (p:Nat->Bool) (I:Nat->World->Prop) (w:World) (eg: ∀args w,(callFunc aI args).run Tryz.prog w= .ok (.enter aI args) w)
 (hsl: ∀k W,I k W->aT W v l)
 (hcall: ∀k (hk:k<l.length) W,(∀j,j<k->p j=false)->I k W->Calls Tryz.prog aI (fst.push (xv l[k])++caps) W (fun e W'=>e= .returned (.bool (p k))/\I (k+1) W')) (h0:I 0 w):
 Calls Tryz.prog 192 #[v,.func (.func aI) fst caps] w (dA l.length p I (fun _=> .bool true) (.bool false)):=by
 have HI:=Lib.hid (adY l v aI fst caps p I w eg hsl hcall h0)
 have hlen:=(hsl 0 w h0).len
 clear hsl hcall h0 eg
 go_enter Tryz.func192,Tryz.ntmps192
 go_wp2_with fail
 refine HI.out.mono ?_
 clear HI
 rintro e W' ⟨k,hk,hno,⟨hlt,hp,rfl,hI⟩|⟨hkl,rfl,hI⟩⟩
 ·have HN:=Lib.hid (And.intro hno (And.intro hp hI))
  clear hno hp hI
  go_wp2_with fail
  go_returns
  exact⟨k,hk,HN.out.1,.inl ⟨hlt,HN.out.2.1,by simp,HN.out.2.2⟩⟩
 ·have HN:=Lib.hid (And.intro hno (And.intro hkl hI))
  clear hno hkl hI
  go_wp2_with fail
  go_returns
  exact⟨k,hk,HN.out.1,.inr ⟨HN.out.2.1,by simp,HN.out.2.1▸HN.out.2.2⟩⟩
theorem acu (x:bK) (bx aI:Nat) (fst caps:Array Value) (b:Bool) (W:World) (R:World->Prop) (eg: ∀args w,(callFunc aI args).run Tryz.prog w= .ok (.enter aI args) w)
 (hbx:W.cell? ⟨bx,0,none⟩=some (.func (.func aI) fst caps))
 (hcall:Calls Tryz.prog aI (fst.push (rv x)++caps) (W.alloc (.cells #[iv x.1,iv x.2] 34)) (fun e W'=>e= .returned (.bool b)/\R W')):
 Calls Tryz.prog 191 #[rv x,.pointer (some ⟨bx,0,none⟩)] W (fun e W'=>e= .returned (.bool !b)/\R W'):=by
 have hlt:=World.block_lt_of_cell? W _ hbx
 have HC:=Lib.hid hcall
 clear hcall
 go_enter Tryz.func191,Tryz.ntmps191
 go_wp2_with fail
 refine HC.out.mono ?_
 rintro e W' ⟨rfl,hR⟩
 have HR:=Lib.hid hR
 clear hR
 go_wp2_with fail
 go_returns
 exact⟨by simp,HR.out⟩
theorem acx (x:Int) (bx aI:Nat) (fst caps:Array Value) (b:Bool) (W:World) (R:World->Prop) (eg: ∀args w,(callFunc aI args).run Tryz.prog w= .ok (.enter aI args) w)
 (hbx:W.cell? ⟨bx,0,none⟩=some (.func (.func aI) fst caps))
 (hcall:Calls Tryz.prog aI (fst.push (iv x)++caps) W (fun e W'=>e= .returned (.bool b)/\R W')):
 Calls Tryz.prog 241 #[iv x,.pointer (some ⟨bx,0,none⟩)] W (fun e W'=>e= .returned (.bool !b)/\R W'):=by
 have hlt:=World.block_lt_of_cell? W _ hbx
 have HC:=Lib.hid hcall
 clear hcall
 go_enter Tryz.func241,Tryz.ntmps241
 go_wp2_with fail
 refine HC.out.mono ?_
 rintro e W' ⟨rfl,hR⟩
 have HR:=Lib.hid hR
 clear hR
 go_wp2_with fail
 go_returns
 exact⟨by simp,HR.out⟩
theorem acr (x:wP) (bx aI:Nat) (fst caps:Array Value) (b:Bool) (W:World) (R:World->Prop) (eg: ∀args w,(callFunc aI args).run Tryz.prog w= .ok (.enter aI args) w)
 (hbx:W.cell? ⟨bx,0,none⟩=some (.func (.func aI) fst caps))
 (hcall:Calls Tryz.prog aI (fst.push (xv x)++caps) (W.alloc (.cells #[iv x.1,iv x.2.1,iv x.2.2] 156)) (fun e W'=>e= .returned (.bool b)/\R W')):
 Calls Tryz.prog 193 #[xv x,.pointer (some ⟨bx,0,none⟩)] W (fun e W'=>e= .returned (.bool !b)/\R W'):=by
 have hlt:=World.block_lt_of_cell? W _ hbx
 have HC:=Lib.hid hcall
 clear hcall
 go_enter Tryz.func193,Tryz.ntmps193
 go_wp2_with fail
 refine HC.out.mono ?_
 rintro e W' ⟨rfl,hR⟩
 have HR:=Lib.hid hR
 clear hR
 go_wp2_with fail
 go_returns
 exact⟨by simp,HR.out⟩
theorem afo (l:List bK) (v:Value) (aI:Nat) (fst caps:Array Value) (p:Nat->Bool) (I:Nat->World->Prop) (w:World) (eg: ∀args w,(callFunc aI args).run Tryz.prog w= .ok (.enter aI args) w)
 (hsl: ∀k W,I k W->bn W v l) (hal: ∀k W o,I k W->I k (W.alloc o))
 (hcall: ∀k (hk:k<l.length) W,(∀j,j<k->p j=true)->I k W->Calls Tryz.prog aI (fst.push (rv l[k])++caps) W (fun e W'=>e= .returned (.bool (p k))/\I (k+1) W'/\gu w.heap.size W W')) (h0:I 0 w):
 Calls Tryz.prog 141 #[v,.func (.func aI) fst caps] w (dA l.length (fun k=>!p k) I (fun _=> .bool false) (.bool true)):=by
 have HI:=Lib.hid (acg l v 191 #[] #[.pointer (some ⟨w.heap.size,0,none⟩)] (fun k=>!p k)
  (fun k W=>I k W/\W.heap[w.heap.size]? =some (.cells #[.func (.func aI) fst caps] 202 (0,0))) (w.alloc (.cells #[.func (.func aI) fst caps] 202))
  (enters_of Tryz.func191 (by kernel_rfl) rfl) (fun k W h=>hsl k W h.1)
  (fun k hk W hno h=>by
    have hlt:w.heap.size<W.heap.size:=(Array.getElem?_eq_some_iff.1 h.2).1
    refine(acu l[k] w.heap.size aI fst caps (p k) W (fun W'=>I (k+1) W'/\W'.heap[w.heap.size]? =some (.cells #[.func (.func aI) fst caps] 202 (0,0))) eg (ay h.2) ?_)
    refine(hcall k hk _ (fun j hj=>by simpa using hno j hj) (by first|exact hal _ _ _ h.1|exact h.1)).mono ?_
    rintro e W' ⟨rfl,h1,h2⟩
    refine⟨rfl,h1,(h2.block _ (Nat.le_refl _) (by first|exact hlt|(simp;omega))).trans (by first|exact h.2|exact(Below.heap_alloc _ _ _ hlt).trans h.2)⟩)
  ⟨hal _ _ _ h0,heap_alloc_new w _⟩)
 have hlen:=(hsl 0 w h0).len
 clear hsl hcall h0 eg hal
 go_enter Tryz.func141,Tryz.ntmps141
 go_wp2_with fail
 refine HI.out.mono ?_
 clear HI
 rintro e W' ⟨k,hk,hno,⟨hlt,hp,rfl,hI,_⟩|⟨hkl,rfl,hI,_⟩⟩
 ·have HN:=Lib.hid (And.intro hno (And.intro hp hI))
  clear hno hp hI
  go_wp2_with fail
  go_returns
  exact⟨k,hk,HN.out.1,.inl ⟨hlt,HN.out.2.1,by simp,HN.out.2.2⟩⟩
 ·have HN:=Lib.hid (And.intro hno (And.intro hkl hI))
  clear hno hkl hI
  go_wp2_with fail
  go_returns
  exact⟨k,hk,HN.out.1,.inr ⟨HN.out.2.1,by simp,HN.out.2.1▸HN.out.2.2⟩⟩
theorem allI (l:List Int) (v:Value) (aI:Nat) (fst caps:Array Value) (p:Nat->Bool) (I:Nat->World->Prop) (w:World) (eg: ∀args w,(callFunc aI args).run Tryz.prog w= .ok (.enter aI args) w)
 (hsl: ∀k W,I k W->aN W v l) (hal: ∀k W o,I k W->I k (W.alloc o))
 (hcall: ∀k (hk:k<l.length) W,(∀j,j<k->p j=true)->I k W->Calls Tryz.prog aI (fst.push (iv l[k])++caps) W (fun e W'=>e= .returned (.bool (p k))/\I (k+1) W'/\gu w.heap.size W W')) (h0:I 0 w):
 Calls Tryz.prog 188 #[v,.func (.func aI) fst caps] w (dA l.length (fun k=>!p k) I (fun _=> .bool false) (.bool true)):=by
 have HI:=Lib.hid (Iy l v 241 #[] #[.pointer (some ⟨w.heap.size,0,none⟩)] (fun k=>!p k)
  (fun k W=>I k W/\W.heap[w.heap.size]? =some (.cells #[.func (.func aI) fst caps] 124 (0,0))) (w.alloc (.cells #[.func (.func aI) fst caps] 124))
  (enters_of Tryz.func241 (by kernel_rfl) rfl) (fun k W h=>hsl k W h.1)
  (fun k hk W hno h=>by
    have hlt:w.heap.size<W.heap.size:=(Array.getElem?_eq_some_iff.1 h.2).1
    refine(acx l[k] w.heap.size aI fst caps (p k) W (fun W'=>I (k+1) W'/\W'.heap[w.heap.size]? =some (.cells #[.func (.func aI) fst caps] 124 (0,0))) eg (ay h.2) ?_)
    refine(hcall k hk _ (fun j hj=>by simpa using hno j hj) (by first|exact hal _ _ _ h.1|exact h.1)).mono ?_
    rintro e W' ⟨rfl,h1,h2⟩
    refine⟨rfl,h1,(h2.block _ (Nat.le_refl _) (by first|exact hlt|(simp;omega))).trans (by first|exact h.2|exact(Below.heap_alloc _ _ _ hlt).trans h.2)⟩)
  ⟨hal _ _ _ h0,heap_alloc_new w _⟩)
 have hlen:=(hsl 0 w h0).len
 clear hsl hcall h0 eg hal
 go_enter Tryz.func188,Tryz.ntmps188
 go_wp2_with fail
 refine HI.out.mono ?_
 clear HI
 rintro e W' ⟨k,hk,hno,⟨hlt,hp,rfl,hI,_⟩|⟨hkl,rfl,hI,_⟩⟩
 ·have HN:=Lib.hid (And.intro hno (And.intro hp hI))
  clear hno hp hI
  go_wp2_with fail
  go_returns
  exact⟨k,hk,HN.out.1,.inl ⟨hlt,HN.out.2.1,by simp,HN.out.2.2⟩⟩
 ·have HN:=Lib.hid (And.intro hno (And.intro hkl hI))
  clear hno hkl hI
  go_wp2_with fail
  go_returns
  exact⟨k,hk,HN.out.1,.inr ⟨HN.out.2.1,by simp,HN.out.2.1▸HN.out.2.2⟩⟩
theorem afn (l:List wP) (v:Value) (aI:Nat) (fst caps:Array Value) (p:Nat->Bool) (I:Nat->World->Prop) (w:World) (eg: ∀args w,(callFunc aI args).run Tryz.prog w= .ok (.enter aI args) w)
 (hsl: ∀k W,I k W->aT W v l) (hal: ∀k W o,I k W->I k (W.alloc o))
 (hcall: ∀k (hk:k<l.length) W,(∀j,j<k->p j=true)->I k W->Calls Tryz.prog aI (fst.push (xv l[k])++caps) W (fun e W'=>e= .returned (.bool (p k))/\I (k+1) W'/\gu w.heap.size W W')) (h0:I 0 w):
 Calls Tryz.prog 143 #[v,.func (.func aI) fst caps] w (dA l.length (fun k=>!p k) I (fun _=> .bool false) (.bool true)):=by
 have HI:=Lib.hid (acd l v 193 #[] #[.pointer (some ⟨w.heap.size,0,none⟩)] (fun k=>!p k)
  (fun k W=>I k W/\W.heap[w.heap.size]? =some (.cells #[.func (.func aI) fst caps] 199 (0,0))) (w.alloc (.cells #[.func (.func aI) fst caps] 199))
  (enters_of Tryz.func193 (by kernel_rfl) rfl) (fun k W h=>hsl k W h.1)
  (fun k hk W hno h=>by
    have hlt:w.heap.size<W.heap.size:=(Array.getElem?_eq_some_iff.1 h.2).1
    refine(acr l[k] w.heap.size aI fst caps (p k) W (fun W'=>I (k+1) W'/\W'.heap[w.heap.size]? =some (.cells #[.func (.func aI) fst caps] 199 (0,0))) eg (ay h.2) ?_)
    refine(hcall k hk _ (fun j hj=>by simpa using hno j hj) (by first|exact hal _ _ _ h.1|exact h.1)).mono ?_
    rintro e W' ⟨rfl,h1,h2⟩
    refine⟨rfl,h1,(h2.block _ (Nat.le_refl _) (by first|exact hlt|(simp;omega))).trans (by first|exact h.2|exact(Below.heap_alloc _ _ _ hlt).trans h.2)⟩)
  ⟨hal _ _ _ h0,heap_alloc_new w _⟩)
 have hlen:=(hsl 0 w h0).len
 clear hsl hcall h0 eg hal
 go_enter Tryz.func143,Tryz.ntmps143
 go_wp2_with fail
 refine HI.out.mono ?_
 clear HI
 rintro e W' ⟨k,hk,hno,⟨hlt,hp,rfl,hI,_⟩|⟨hkl,rfl,hI,_⟩⟩
 ·have HN:=Lib.hid (And.intro hno (And.intro hp hI))
  clear hno hp hI
  go_wp2_with fail
  go_returns
  exact⟨k,hk,HN.out.1,.inl ⟨hlt,HN.out.2.1,by simp,HN.out.2.2⟩⟩
 ·have HN:=Lib.hid (And.intro hno (And.intro hkl hI))
  clear hno hkl hI
  go_wp2_with fail
  go_returns
  exact⟨k,hk,HN.out.1,.inr ⟨HN.out.2.1,by simp,HN.out.2.1▸HN.out.2.2⟩⟩
end Go.Proofs.YtabpkkbiioihaaaGreatDoor.kK
namespace Go.Proofs.YtabpkkbiioihaaaGreatDoor.kK
open Go.RowKit Go.RG Go.SL Go.Shelf gZ
theorem F6 (h:bF) (a b c:Value) (x:wP) (w:World):Calls Tryz.prog 137 #[hv h a b c,xv x] w (PV (.bool (vI h.last x)) w):=by
 go_enter Tryz.func137,Tryz.ntmps137
 go_wp2_with (first|(go_at_call 185;refine(rC h _ _ _ _ _).mono ?_;rintro e w' ⟨rfl,hb⟩;obtain⟨hc,hf⟩:=aW hb;have hz0:w.heap.size<w'.heap.size:=(by have:=hb.size;(try simp only[World.size_alloc] at this);omega);have hz1:w.heap.size+1<w'.heap.size:=(by have:=hb.size;(try simp only[World.size_alloc] at this);omega))|(go_at_call 186;refine(mQ _ _ _ _).mono ?_;rintro e w' ⟨rfl,hb⟩;obtain⟨hc,hf⟩:=aW hb;have hz0:w.heap.size<w'.heap.size:=(by have:=hb.size;(try simp only[World.size_alloc] at this);omega);have hz1:w.heap.size+1<w'.heap.size:=(by have:=hb.size;(try simp only[World.size_alloc] at this);omega)))
 all_goals
  go_returns
  exact⟨by simp[vI, *],zl⟩
theorem sO (x:wP) (l0 l1 l2 l3 l4 l5 l6 l7 l8 l9:Int) (w:World) (h0:0<=x.1) (h9:x.1<=9) (hs0:0<=x.2.1) (hs1:x.2.1<=1000) (he0:0<=x.2.2) (he1:x.2.2<=50)
 (hl: ∀n∈[l0,l1,l2,l3,l4,l5,l6,l7,l8,l9],0<=n/\n<=100000):
 Calls Tryz.prog 246 #[xv x,.agg #[iv l0,iv l1,iv l2,iv l3,iv l4,iv l5,iv l6,iv l7,iv l8,iv l9]] w (PV (.bool (wX x [l0,l1,l2,l3,l4,l5,l6,l7,l8,l9])) w):=by
 obtain⟨hh,xs,xe⟩:=x
 simp only at h0 h9 hs0 hs1 he0 he1
 obtain⟨k,rfl⟩:=Int.eq_ofNat_of_zero_le h0
 have hk:k<10:=by omega
 have hlk:=hl ([l0,l1,l2,l3,l4,l5,l6,l7,l8,l9][k]'(by simpa using hk)) (List.getElem_mem _)
 generalize hm:[l0,l1,l2,l3,l4,l5,l6,l7,l8,l9][k]'(by simpa using hk)=m at hlk
 have hcell:(w.alloc (.cells #[iv k,iv xs,iv xe] 156) |>.alloc (.cells #[iv l0,iv l1,iv l2,iv l3,iv l4,iv l5,iv l6,iv l7,iv l8,iv l9] 212)).cell? ⟨w.heap.size+1,k,none⟩=some (iv m):=by
  have:([iv l0,iv l1,iv l2,iv l3,iv l4,iv l5,iv l6,iv l7,iv l8,iv l9]:List Value)[k]? =some (iv m):=by
   have:([l0,l1,l2,l3,l4,l5,l6,l7,l8,l9].map iv)[k]? =some (iv m):=by
    rw[List.getElem?_map,List.getElem?_eq_getElem (by simpa using hk),hm];rfl
   exact this
  simp only[World.cell?]
  rw[show(w.alloc (.cells #[iv k,iv xs,iv xe] 156) |>.alloc (.cells #[iv l0,iv l1,iv l2,iv l3,iv l4,iv l5,iv l6,iv l7,iv l8,iv l9] 212)).heap[w.heap.size+1]? =some (.cells #[iv l0,iv l1,iv l2,iv l3,iv l4,iv l5,iv l6,iv l7,iv l8,iv l9] 212) from by
   have:=heap_alloc_new (w.alloc (.cells #[iv k,iv xs,iv xe] 156)) (.cells #[iv l0,iv l1,iv l2,iv l3,iv l4,iv l5,iv l6,iv l7,iv l8,iv l9] 212)
   rwa [World.size_alloc] at this]
  simpa using this
 have hr:wX ((k:Int),xs,xe) [l0,l1,l2,l3,l4,l5,l6,l7,l8,l9]=inB (m-xs) (-xe) xe:=by
  simp only[wX,Int.toNat_natCast,List.getD_eq_getElem?_getD]
  rw[List.getElem?_eq_getElem (by simpa using hk),hm];rfl
 have HR:=Lib.hid hr
 clear hr hm hl
 have hk':(k:Int)<10:=by omega
 go_enter Tryz.func246,Tryz.ntmps246
 go_wp2_with fail
 refine zg 13 [] none [(12,Spec.val (.bool (inB (m-xs) (-xe) xe)))] ?_
 simp only[zt]
 repeat (refine zn ?_;simp only[zp])
 refine zv 186 (h:=fun W hE hF=>by exact mQ _ _ _ _) (t:=?_)
 simp only[zp]
 repeat (refine zd ?_;simp only[zp])
 intro W hE hF
 obtain⟨hc,hf⟩:=aW hE.below
 have hzE:=hE.size
 (try simp only[World.size_alloc] at hzE)
 go_wp2
 go_returns
 rw[HR.out]
 exact⟨by simp,(by repeat (first|exact Below.refl _ _|assumption|refine aH ?_ hE.below|refine af ?_ _|refine gG ?_))⟩
theorem vK (a b:Int) (g c:Nat) (w:World) (h0:w.cell? ⟨g,0,none⟩=some (iv a)) (h1:w.cell? ⟨g,1,none⟩=some (iv b)):
 Calls Tryz.prog 54 #[.slice (some ⟨g,0,none⟩) 2 c] w (PV (iv (min a b)) w):=by
 go_enter Tryz.func54,Tryz.ntmps54
 go_wp2
 go_rounds 2
 all_goals
  go_returns
  exact⟨by simp <;>omega,Below.refl _ _⟩
theorem GG (a b:Int) (g c:Nat) (w:World) (h0:w.cell? ⟨g,0,none⟩=some (iv a)) (h1:w.cell? ⟨g,1,none⟩=some (iv b)):
 Calls Tryz.prog 145 #[.slice (some ⟨g,0,none⟩) 2 c] w (PV (iv (min a b)) w):=by
 have H:=Lib.hid (vK a b g c w h0 h1)
 go_enter Tryz.func145,Tryz.ntmps145
 go_wp2_with fail
 refine H.out.mono ?_
 rintro e w' ⟨rfl,hb⟩
 go_wp2_with fail
 go_returns
 exact⟨by simp,hb⟩
theorem eP (l:List Int) (v:Value) (n:Int) (w:World) (hv:aN w v l):Calls Tryz.prog 102 #[v,iv n] w (PV (.bool (l.contains n)) w):=by
 have hidx:Calls Tryz.prog 126 #[v,iv n] w (fun e w'=>w=w'/\((l.contains n=true/\ ∃k:Nat,k<l.length/\e= .returned (iv k))∨(l.contains n=false/\e= .returned (iv (-1))))):=by
  have hlen:=hv.len
  obtain⟨o,c,rfl⟩:=hv.open
  have HV:=Lib.hid hv
  clear hv
  go_enter Tryz.func126,Tryz.ntmps126
  go_wp2
  go_loop [4,5,8] (fun _ _ i=> ∃k:Nat,k<=l.length/\i= .int .i64 k/\(∀j (hj:j<l.length),j<k->l[j]≠n)) (fun _ _ i=>l.length-(intOf i).toNat)
  case atStart=>exact⟨0,Nat.zero_le _,rfl,fun j _ hj=>by omega⟩
  case round=>
   obtain⟨k,hk,rfl,hno⟩:=hrel
   have HN:=Lib.hid hno
   clear hno
   by_cases hlt:k<l.length
   ·obtain⟨b,off,rfl,hb,hc0⟩:=aN.cell HV.out hlt
    by_cases he:l[k]=n
    ·have he':(n==l[k])=true:=by simp[he]
     have HE:=Lib.hid he
     clear he
     go_wp2
     go_returns
     exact⟨rfl,.inl ⟨by rw[<-HE.out];exact List.getElem_mem _,k,hlt,by simp⟩⟩
    ·have he':(n==l[k])=false:=by simp;omega
     have HE:=Lib.hid he
     clear he
     go_wp2
     go_round
     case rel=>exact⟨k+1,by omega,by go_num,fun j hj hjk=>(by by_cases e:j=k;(subst e;exact HE.out);exact HN.out j hj (by omega))⟩
     case measure=>simp[intOf];omega
   ·have hkl:k=l.length:=by omega
    go_wp2
    go_returns
    refine⟨rfl,.inr ⟨?_,by simp⟩⟩
    intro hm
    obtain⟨j,hj,e⟩:=List.getElem_of_mem hm
    exact HN.out j hj (by omega) e
 have HI:=Lib.hid hidx
 clear hidx
 go_enter Tryz.func102,Tryz.ntmps102
 go_wp2_with fail
 refine HI.out.mono ?_
 rintro e w' ⟨rfl,⟨hc,k,hk,rfl⟩|⟨hc,rfl⟩⟩
 ·have HC:=Lib.hid hc
  clear hc
  go_wp2_with fail
  go_returns
  exact⟨by rw[HC.out];simp,Below.refl _ _⟩
 ·have HC:=Lib.hid hc
  clear hc
  go_wp2_with fail
  go_returns
  exact⟨by rw[HC.out];simp,Below.refl _ _⟩
theorem JI:fD Tryz.prog 35 34 (rv (0,0)) 2 16:=⟨Tryz.underlying35,by kernel_rfl,rfl,by omega⟩
theorem qo:fD Tryz.prog 36 3 (iv 0) 1 8:=⟨Tryz.underlying36,by kernel_rfl,rfl,by omega⟩
theorem JU (h:bF) (wv b c:Value) (w:World) (hw:bn w wv h.bg) (hlen:h.bg.length<=1000):
 Calls Tryz.prog 144 #[hv h wv b c] w (PSl 2 (h.bg.length+1) (aj (h.start::h.bg)) w):=by
 obtain⟨o,cc,rfl⟩:=hw.open
 have HW:=Lib.hid hw
 clear hw
 go_enter Tryz.func144,Tryz.ntmps144
 go_wp2_with (at_builtin;refine dY rfl _ _ JI rfl (w.heap.size+1) (.slice (some ⟨w.heap.size+1,0,none⟩) 1 1) 1 [iv h.start.1,iv h.start.2] rfl ?_ (.slice o h.bg.length cc) h.bg.length (aj h.bg) rfl ?_ (kT _) (by omega) (by omega) (by simp) ?_)
 ·exact owns_block (dL _ _ _) rfl (Nat.le_refl _) (by decide)
 ·exact(HW.out.alloc _).alloc _
 ·intro v' w1 hown hgrow
  have HO:=Lib.hid hown
  have HG:=Lib.hid hgrow
  clear hown hgrow
  go_wp2
  go_returns
  refine⟨v',by simp,?_,?_⟩
  ·have:=aB.dn HO.out
   rw[Nat.add_comm] at this
   exact this
  ·exact Below.grown (af (af (Below.refl _ _) _) _) HG.out (by simp;omega) (fun k e=>by cases e;show _<=w.heap.size+1;omega)
theorem NH (h:bF) (n p:Int) (lb hb:Nat) (w:World) (hl:w.heap[lb]? =some (.cells #[iv p] 3 (0,0))) (hh:w.cell? ⟨hb,0,none⟩=some (iv h.last))
 (hp0: -1<=p) (hp1:p<=1000):
 Calls Tryz.prog 189 #[iv n,.pointer (some ⟨lb,0,none⟩),.pointer (some ⟨hb,0,none⟩)] w
  (fun e w'=>e= .returned (.bool (inB n (p+1) h.last))/\w'.heap[lb]? =some (.cells #[iv n] 3 (0,0))/\Ext [lb] w w'):=by
 have hc:=ay hl
 have hf:w.frozen? ⟨lb,0,none⟩=false:=by simp[World.frozen?,hl]
 have hlt:=World.block_lt_of_cell? w _ hc
 have hlt2:=World.block_lt_of_cell? w _ hh
 have HL:=Lib.hid hl
 clear hl
 go_enter Tryz.func189,Tryz.ntmps189
 go_wp2_with (go_at_call 186;refine(mQ _ _ _ _).mono ?_;rintro e w' ⟨rfl,hb⟩;obtain⟨hc,hf⟩:=aW hb)
 go_returns
 refine⟨by simp,?_,?_⟩
 ·exact ak ((hb.block lb hlt).trans HL.out) _
 ·exact(Ext.of_below hb).trans (og w' ⟨lb,0,none⟩ _)
end Go.Proofs.YtabpkkbiioihaaaGreatDoor.kK
namespace Go.Proofs.YtabpkkbiioihaaaGreatDoor.kK
open Go.RowKit Go.RG Go.SL Go.Shelf gZ
theorem kC (h:bF) (a b c v:Value) (l:List Int) (w:World) (hv':aN w v l) (h0:0<=h.last) (h9:h.last<=9):
 Calls Tryz.prog 140 #[hv h a b c,v] w (PV (.bool (jP h.last l)) w):=by
 have HA:=Lib.hid (allI l v 189 #[] #[.pointer (some ⟨w.heap.size+1,0,none⟩),.pointer (some ⟨w.heap.size,0,none⟩)] (Ut h.last (-1) l)
  (fun k W=>W.heap[w.heap.size+1]? =some (.cells #[iv (((-1:Int)::l).getD k 0)] 3 (0,0))/\W.cell? ⟨w.heap.size,0,none⟩=some (iv h.last)/\Below w.heap.size w W)
  ((w.alloc (.cells #[iv h.last,iv h.size,iv h.aY,iv h.die,iv h.pI,iv h.start.1,iv h.start.2,a,b,c] 39)).alloc (.cells #[iv (-1)] 3))
  (enters_of Tryz.func189 (by kernel_rfl) rfl) (fun k W hI=>hv'.below hI.2.2 (Nat.le_refl _))
  (fun k W o hI=>⟨(Below.heap_alloc _ _ _ (Array.getElem?_eq_some_iff.1 hI.1).1).trans hI.1,by
    have:=World.block_lt_of_cell? W _ hI.2.1
    rw[World.cell?_of_block (w:=W) (Below.heap_alloc _ _ _ this)];exact hI.2.1,af hI.2.2 _⟩)
  (fun k hk W hno hI=>by
    have hp:=PR h.last h0 l k hno (by omega)
    refine(NH h l[k] (((-1:Int)::l).getD k 0) (w.heap.size+1) w.heap.size W hI.1 hI.2.1 hp.1 (by omega)).mono ?_
    rintro e W' ⟨rfl,h1,h2⟩
    refine⟨?_,⟨?_,?_,?_⟩,?_⟩
    ·have e:l.getD k 0=l[k]:=by simp[hk]
     simp only[Ut,e]
    ·rw[List.getD_cons_succ,show l.getD k 0=l[k] from by simp[hk]];exact h1
    ·have hlt:=World.block_lt_of_cell? W _ hI.2.1
     rw[h2.cell _ _ hlt (by simp)];exact hI.2.1
    ·exact hI.2.2.trans ⟨h2.os,h2.tape,h2.output,h2.size,fun i hi=>h2.block i (by have:=hI.2.2.size;omega) (by simp;omega)⟩
    ·exact gu.qX h2 (by simp))
  ⟨dL _ _ _,by
    rw[World.cell?_of_block (w:=w.alloc (.cells #[iv h.last,iv h.size,iv h.aY,iv h.die,iv h.pI,iv h.start.1,iv h.start.2,a,b,c] 39)) (Below.heap_alloc _ _ _ (by simp))]
    simp only[World.cell?,ag];rfl,af (af (Below.refl _ _) _) _⟩)
 clear hv'
 go_enter Tryz.func140,Tryz.ntmps140
 go_wp2_with fail
 refine HA.out.mono ?_
 rintro e W' hpost
 obtain⟨rfl,k,hk,hI⟩:=hpost.all
 have HI:=Lib.hid hI.2.2
 clear hI hpost
 go_wp2_with fail
 go_returns
 refine⟨?_,HI.out⟩
 rw[jP,AY, <-gY]
 simp
theorem PU (l:List bK) (v:Value) (aI:Nat) (fst caps:Array Value) (q:bK->Bool) (w:World) (hv:bn w v l) (eg: ∀args w,(callFunc aI args).run Tryz.prog w= .ok (.enter aI args) w)
 (hcall: ∀x∈l, ∀W,Below w.heap.size w W->Calls Tryz.prog aI (fst.push (rv x)++caps) W (PV (.bool (q x)) W)):
 Calls Tryz.prog 141 #[v,.func (.func aI) fst caps] w (PV (.bool (l.all q)) w):=by
 refine(afo l v aI fst caps (fun k=>q (l.getD k (0,0))) (fun _ W=>Below w.heap.size w W) w eg (fun k W h=>hv.below h (Nat.le_refl _)) (fun k W o h=>af h o) (fun k hk W _ h=>?_) (Below.refl _ _)).mono ?_
 ·refine(hcall l[k] (List.getElem_mem _) W h).mono ?_
  rintro e W' ⟨rfl,hb⟩
  exact⟨by simp[hk],aH h hb,gu.of_below hb⟩
 ·intro e W' hpost
  obtain⟨rfl,k,_,hI⟩:=hpost.all
  refine⟨?_,hI⟩
  rw[gY,iC]
theorem PT (l:List wP) (v:Value) (aI:Nat) (fst caps:Array Value) (q:wP->Bool) (w:World) (hv:aT w v l) (eg: ∀args w,(callFunc aI args).run Tryz.prog w= .ok (.enter aI args) w)
 (hcall: ∀x∈l, ∀W,Below w.heap.size w W->Calls Tryz.prog aI (fst.push (xv x)++caps) W (PV (.bool (q x)) W)):
 Calls Tryz.prog 143 #[v,.func (.func aI) fst caps] w (PV (.bool (l.all q)) w):=by
 refine(afn l v aI fst caps (fun k=>q (l.getD k (0,0,0))) (fun _ W=>Below w.heap.size w W) w eg (fun k W h=>hv.below h (Nat.le_refl _)) (fun k W o h=>af h o) (fun k hk W _ h=>?_) (Below.refl _ _)).mono ?_
 ·refine(hcall l[k] (List.getElem_mem _) W h).mono ?_
  rintro e W' ⟨rfl,hb⟩
  exact⟨by simp[hk],aH h hb,gu.of_below hb⟩
 ·intro e W' hpost
  obtain⟨rfl,k,_,hI⟩:=hpost.all
  refine⟨?_,hI⟩
  rw[gY,iC]
theorem Fe (l:List bK) (v:Value) (w:World) (hv:bn w v l):Calls Tryz.prog 141 #[v,.func (.func 142) #[] #[]] w (PV (.bool (l.all (okR · 20))) w):=
 PU l v _ #[] #[] (okR · 20) w hv (enters_of Tryz.func142 (by kernel_rfl) rfl) (fun x _ W _=>Dw x W)
theorem wG (h:bF) (a b c:Value) (l:List wP) (v:Value) (w:World) (hv':aT w v l):
 Calls Tryz.prog 143 #[v,.func (.func 137) #[hv h a b c] #[]] w (PV (.bool (l.all (vI h.last))) w):=
 PT l v _ #[hv h a b c] #[] (vI h.last) w hv' (enters_of Tryz.func137 (by kernel_rfl) rfl) (fun x _ W _=>F6 h a b c x W)
theorem LJ (h:bF) (wv tv qC:Value) (w:World) (hw:bn w wv h.bg) (ht:aN w tv h.turns) (hx:aT w qC h.readings) (hl:h.last<=9) (hr:(h.readings.length:Int)<=5)
 (hn:dG h=false):Calls Tryz.prog 94 #[hv h wv tv qC] w (PV (iv 1) w):=by
 obtain⟨ow,cw,rfl⟩:=hw.open
 obtain⟨ot,ct,rfl⟩:=ht.open
 obtain⟨ox,cx,rfl⟩:=hx.open
 have HW:=Lib.hid hw
 have HT:=Lib.hid ht
 have HX:=Lib.hid hx
 clear hw ht hx
 have hl0:dG h=true->0<=h.last:=fun e=>by simp only[dG,Bool.and_eq_true,decide_eq_true_eq] at e;exact e.1.1.1.1.1
 have HN:=Lib.hid hn
 rw[hn] at hl0
 clear hn
 (try replace hl0:=hl0 rfl)
 go_enter Tryz.func94,Tryz.ntmps94
 go_wp2_with fail
 refine zg 31 [] none [(1,Spec.val (.bool false))] ?_
 simp only[zt]
 repeat ((first|refine zd ?_|refine zk ?_);simp only[zp])
 refine dh _ (by rfl) (by rfl) 138 _ (fun W hW=>by go_simp;try rfl) (fun W hE hF=>by have:=jW h (.slice ow h.bg.length cw) (.slice ot h.turns.length ct) (.slice ox h.readings.length cx) W;rw[HN.out] at this;exact this) ?_
 simp only[zp]
 repeat ((first|refine zd ?_|refine zk ?_);simp only[zp])
 intro W hE hF
 obtain⟨hc,hf⟩:=aW hE.below
 have hzE:=hE.size
 (try simp only[World.size_alloc] at hzE)
 go_wp2
 go_returns
 exact⟨by simp,ze⟩
theorem LH (h:bF) (wv tv qC:Value) (w:World) (hw:bn w wv h.bg) (ht:aN w tv h.turns) (hx:aT w qC h.readings) (hl:h.last<=9) (hr:(h.readings.length:Int)<=5)
 (hn:dG h=true) (h2:((h.bg.length:Int)==h.last+1)=false):Calls Tryz.prog 94 #[hv h wv tv qC] w (PV (iv 1) w):=by
 obtain⟨ow,cw,rfl⟩:=hw.open
 obtain⟨ot,ct,rfl⟩:=ht.open
 obtain⟨ox,cx,rfl⟩:=hx.open
 have HW:=Lib.hid hw
 have HT:=Lib.hid ht
 have HX:=Lib.hid hx
 clear hw ht hx
 have hl0:dG h=true->0<=h.last:=fun e=>by simp only[dG,Bool.and_eq_true,decide_eq_true_eq] at e;exact e.1.1.1.1.1
 have HN:=Lib.hid hn
 rw[hn] at hl0
 clear hn
 (try replace hl0:=hl0 rfl)
 have h2':((h.bg.length:Int) !=h.last+1)=true:=by simp only[bne,h2];rfl
 go_enter Tryz.func94,Tryz.ntmps94
 go_wp2_with fail
 refine zg 31 [] none [(1,Spec.val (.bool true)),(8,Spec.val (iv (h.last+1)))] ?_
 simp only[zt]
 repeat ((first|refine zd ?_|refine zk ?_);simp only[zp])
 refine dh _ (by rfl) (by rfl) 138 _ (fun W hW=>by go_simp;try rfl) (fun W hE hF=>by have:=jW h (.slice ow h.bg.length cw) (.slice ot h.turns.length ct) (.slice ox h.readings.length cx) W;rw[HN.out] at this;exact this) ?_
 simp only[zp]
 repeat ((first|refine zd ?_|refine zk ?_);simp only[zp])
 refine dh _ (by rfl) (by rfl) 139 _ (fun W hW=>by go_simp;try rfl) (fun W hE hF=>by exact mM h _ _ _ W hl0 hl) ?_
 simp only[zp]
 repeat ((first|refine zd ?_|refine zk ?_);simp only[zp])
 intro W hE hF
 obtain⟨hc,hf⟩:=aW hE.below
 have hzE:=hE.size
 (try simp only[World.size_alloc] at hzE)
 go_wp2
 go_returns
 exact⟨by simp,ze⟩
theorem LG (h:bF) (wv tv qC:Value) (w:World) (hw:bn w wv h.bg) (ht:aN w tv h.turns) (hx:aT w qC h.readings) (hl:h.last<=9) (hr:(h.readings.length:Int)<=5)
 (hn:dG h=true) (h2:((h.bg.length:Int)==h.last+1)=true) (h3:jP h.last h.turns=false):Calls Tryz.prog 94 #[hv h wv tv qC] w (PV (iv 1) w):=by
 obtain⟨ow,cw,rfl⟩:=hw.open
 obtain⟨ot,ct,rfl⟩:=ht.open
 obtain⟨ox,cx,rfl⟩:=hx.open
 have HW:=Lib.hid hw
 have HT:=Lib.hid ht
 have HX:=Lib.hid hx
 clear hw ht hx
 have hl0:dG h=true->0<=h.last:=fun e=>by simp only[dG,Bool.and_eq_true,decide_eq_true_eq] at e;exact e.1.1.1.1.1
 have HN:=Lib.hid hn
 rw[hn] at hl0
 clear hn
 (try replace hl0:=hl0 rfl)
 have h2':((h.bg.length:Int) !=h.last+1)=false:=by simp only[bne,h2];rfl
 have H3:=Lib.hid h3
 clear h3
 go_enter Tryz.func94,Tryz.ntmps94
 go_wp2_with fail
 refine zg 31 [] none [(1,Spec.val (.bool true)),(8,Spec.val (iv (h.last+1))),(15,Spec.val (.bool false))] ?_
 simp only[zt]
 repeat ((first|refine zd ?_|refine zk ?_);simp only[zp])
 refine dh _ (by rfl) (by rfl) 138 _ (fun W hW=>by go_simp;try rfl) (fun W hE hF=>by have:=jW h (.slice ow h.bg.length cw) (.slice ot h.turns.length ct) (.slice ox h.readings.length cx) W;rw[HN.out] at this;exact this) ?_
 simp only[zp]
 repeat ((first|refine zd ?_|refine zk ?_);simp only[zp])
 refine dh _ (by rfl) (by rfl) 139 _ (fun W hW=>by go_simp;try rfl) (fun W hE hF=>by exact mM h _ _ _ W hl0 hl) ?_
 simp only[zp]
 repeat ((first|refine zd ?_|refine zk ?_);simp only[zp])
 refine dh _ (by rfl) (by rfl) 140 _ (fun W hW=>by go_simp;try rfl) (fun W hE hF=>by have:=kC h (.slice ow h.bg.length cw) (.slice ot h.turns.length ct) (.slice ox h.readings.length cx) (.slice ot h.turns.length ct) h.turns W ((HT.out.alloc _).ext hE (by simp)) hl0 hl;rw[H3.out] at this;exact this) ?_
 simp only[zp]
 repeat ((first|refine zd ?_|refine zk ?_);simp only[zp])
 intro W hE hF
 obtain⟨hc,hf⟩:=aW hE.below
 have hzE:=hE.size
 (try simp only[World.size_alloc] at hzE)
 go_wp2
 go_returns
 exact⟨by simp,ze⟩
theorem LD (h:bF) (wv tv qC:Value) (w:World) (hw:bn w wv h.bg) (ht:aN w tv h.turns) (hx:aT w qC h.readings) (hl:h.last<=9) (hr:(h.readings.length:Int)<=5)
 (hn:dG h=true) (h2:((h.bg.length:Int)==h.last+1)=true) (h3:jP h.last h.turns=true) (h4:h.bg.all (okR · 20)=false):Calls Tryz.prog 94 #[hv h wv tv qC] w (PV (iv 1) w):=by
 obtain⟨ow,cw,rfl⟩:=hw.open
 obtain⟨ot,ct,rfl⟩:=ht.open
 obtain⟨ox,cx,rfl⟩:=hx.open
 have HW:=Lib.hid hw
 have HT:=Lib.hid ht
 have HX:=Lib.hid hx
 clear hw ht hx
 have hl0:dG h=true->0<=h.last:=fun e=>by simp only[dG,Bool.and_eq_true,decide_eq_true_eq] at e;exact e.1.1.1.1.1
 have HN:=Lib.hid hn
 rw[hn] at hl0
 clear hn
 (try replace hl0:=hl0 rfl)
 have h2':((h.bg.length:Int) !=h.last+1)=false:=by simp only[bne,h2];rfl
 have H3:=Lib.hid h3
 have H4:=Lib.hid h4
 clear h3 h4
 go_enter Tryz.func94,Tryz.ntmps94
 go_wp2_with fail
 refine zg 31 [] none [(1,Spec.val (.bool true)),(8,Spec.val (iv (h.last+1))),(15,Spec.val (.bool true)),(21,Spec.val (.bool false))] ?_
 simp only[zt]
 repeat ((first|refine zd ?_|refine zk ?_);simp only[zp])
 refine dh _ (by rfl) (by rfl) 138 _ (fun W hW=>by go_simp;try rfl) (fun W hE hF=>by have:=jW h (.slice ow h.bg.length cw) (.slice ot h.turns.length ct) (.slice ox h.readings.length cx) W;rw[HN.out] at this;exact this) ?_
 simp only[zp]
 repeat ((first|refine zd ?_|refine zk ?_);simp only[zp])
 refine dh _ (by rfl) (by rfl) 139 _ (fun W hW=>by go_simp;try rfl) (fun W hE hF=>by exact mM h _ _ _ W hl0 hl) ?_
 simp only[zp]
 repeat ((first|refine zd ?_|refine zk ?_);simp only[zp])
 refine dh _ (by rfl) (by rfl) 140 _ (fun W hW=>by go_simp;try rfl) (fun W hE hF=>by have:=kC h (.slice ow h.bg.length cw) (.slice ot h.turns.length ct) (.slice ox h.readings.length cx) (.slice ot h.turns.length ct) h.turns W ((HT.out.alloc _).ext hE (by simp)) hl0 hl;rw[H3.out] at this;exact this) ?_
 simp only[zp]
 repeat ((first|refine zd ?_|refine zk ?_);simp only[zp])
 refine dh _ (by rfl) (by rfl) 141 _ (fun W hW=>by go_simp;try rfl) (fun W hE hF=>by have:=Fe h.bg (.slice ow h.bg.length cw) W ((HW.out.alloc _).ext hE (by simp));rw[H4.out] at this;exact this) ?_
 simp only[zp]
 repeat ((first|refine zd ?_|refine zk ?_);simp only[zp])
 intro W hE hF
 obtain⟨hc,hf⟩:=aW hE.below
 have hzE:=hE.size
 (try simp only[World.size_alloc] at hzE)
 go_wp2
 go_returns
 exact⟨by simp,ze⟩
theorem LC (h:bF) (wv tv qC:Value) (w:World) (hw:bn w wv h.bg) (ht:aN w tv h.turns) (hx:aT w qC h.readings) (hl:h.last<=9) (hr:(h.readings.length:Int)<=5)
 (hn:dG h=true) (h2:((h.bg.length:Int)==h.last+1)=true) (h3:jP h.last h.turns=true) (h4:h.bg.all (okR · 20)=true) (h5:h.readings.all (vI h.last)=false):Calls Tryz.prog 94 #[hv h wv tv qC] w (PV (iv 1) w):=by
 obtain⟨ow,cw,rfl⟩:=hw.open
 obtain⟨ot,ct,rfl⟩:=ht.open
 obtain⟨ox,cx,rfl⟩:=hx.open
 have HW:=Lib.hid hw
 have HT:=Lib.hid ht
 have HX:=Lib.hid hx
 clear hw ht hx
 have hl0:dG h=true->0<=h.last:=fun e=>by simp only[dG,Bool.and_eq_true,decide_eq_true_eq] at e;exact e.1.1.1.1.1
 have HN:=Lib.hid hn
 rw[hn] at hl0
 clear hn
 (try replace hl0:=hl0 rfl)
 have h2':((h.bg.length:Int) !=h.last+1)=false:=by simp only[bne,h2];rfl
 have H3:=Lib.hid h3
 have H4:=Lib.hid h4
 have H5:=Lib.hid h5
 clear h3 h4 h5
 go_enter Tryz.func94,Tryz.ntmps94
 go_wp2_with fail
 refine zg 31 [] none [(1,Spec.val (.bool true)),(8,Spec.val (iv (h.last+1))),(15,Spec.val (.bool true)),(21,Spec.val (.bool true)),(28,Spec.val (.bool false))] ?_
 simp only[zt]
 repeat ((first|refine zd ?_|refine zk ?_);simp only[zp])
 refine dh _ (by rfl) (by rfl) 138 _ (fun W hW=>by go_simp;try rfl) (fun W hE hF=>by have:=jW h (.slice ow h.bg.length cw) (.slice ot h.turns.length ct) (.slice ox h.readings.length cx) W;rw[HN.out] at this;exact this) ?_
 simp only[zp]
 repeat ((first|refine zd ?_|refine zk ?_);simp only[zp])
 refine dh _ (by rfl) (by rfl) 139 _ (fun W hW=>by go_simp;try rfl) (fun W hE hF=>by exact mM h _ _ _ W hl0 hl) ?_
 simp only[zp]
 repeat ((first|refine zd ?_|refine zk ?_);simp only[zp])
 refine dh _ (by rfl) (by rfl) 140 _ (fun W hW=>by go_simp;try rfl) (fun W hE hF=>by have:=kC h (.slice ow h.bg.length cw) (.slice ot h.turns.length ct) (.slice ox h.readings.length cx) (.slice ot h.turns.length ct) h.turns W ((HT.out.alloc _).ext hE (by simp)) hl0 hl;rw[H3.out] at this;exact this) ?_
 simp only[zp]
 repeat ((first|refine zd ?_|refine zk ?_);simp only[zp])
 refine dh _ (by rfl) (by rfl) 141 _ (fun W hW=>by go_simp;try rfl) (fun W hE hF=>by have:=Fe h.bg (.slice ow h.bg.length cw) W ((HW.out.alloc _).ext hE (by simp));rw[H4.out] at this;exact this) ?_
 simp only[zp]
 repeat ((first|refine zd ?_|refine zk ?_);simp only[zp])
 refine dh _ (by rfl) (by rfl) 143 _ (fun W hW=>by go_simp;try rfl) (fun W hE hF=>by have:=wG h (.slice ow h.bg.length cw) (.slice ot h.turns.length ct) (.slice ox h.readings.length cx) h.readings (.slice ox h.readings.length cx) W ((HX.out.alloc _).ext hE (by simp));rw[H5.out] at this;exact this) ?_
 simp only[zp]
 repeat ((first|refine zd ?_|refine zk ?_);simp only[zp])
 intro W hE hF
 obtain⟨hc,hf⟩:=aW hE.below
 have hzE:=hE.size
 (try simp only[World.size_alloc] at hzE)
 go_wp2
 go_returns
 exact⟨by simp,ze⟩
end Go.Proofs.YtabpkkbiioihaaaGreatDoor.kK
namespace Go.Proofs.YtabpkkbiioihaaaGreatDoor.kK
open Go.RowKit Go.RG Go.SL Go.Shelf gZ
theorem IE (h:bF) (wv tv qC:Value) (w:World) (hx:aT w qC h.readings) (hl:9<h.last∨5<(h.readings.length:Int)):
 Calls Tryz.prog 94 #[hv h wv tv qC] w (PV (iv 3) w):=by
 obtain⟨ox,cx,rfl⟩:=hx.open
 clear hx
 by_cases h9:9<h.last
 all_goals
  go_enter Tryz.func94,Tryz.ntmps94
  go_wp2
  go_returns
  exact⟨by simp,zl⟩
theorem Lt (h:bF) (wv tv qC:Value) (w:World) (hw:bn w wv h.bg) (ht:aN w tv h.turns) (hx:aT w qC h.readings) (hl:h.last<=9) (hr:(h.readings.length:Int)<=5)
 (hn:dG h=true) (h2:((h.bg.length:Int)==h.last+1)=true) (h3:jP h.last h.turns=true) (h4:h.bg.all (okR · 20)=true) (h5:h.readings.all (vI h.last)=true)
 (res:Int) (hres:Hid (res=if 2000<prod (h.start::h.bg) then 3 else 0)):
 Calls Tryz.prog 94 #[hv h wv tv qC] w (PV (iv res) w):=by
 have hlen:h.bg.length<=10:=by have:=of_decide_eq_true (p:=(h.bg.length:Int)=h.last+1) (by simpa using h2);omega
 have hok: ∀r∈h.start::h.bg,0<=r.1/\r.1<=r.2/\r.2<=500/\1<=df r/\df r<=501:=by
  intro r hr
  rcases List.mem_cons.1 hr with rfl|hr
  ·have:okR h.start 500=true:=by simp only[dG,Bool.and_eq_true] at hn;exact hn.2
   exact qW this
  ·have:=qW (List.all_eq_true.1 h4 r hr)
   omega
 have iM:=Lib.hid hok
 clear hok
 obtain⟨ow,cw,rfl⟩:=hw.open
 obtain⟨ot,ct,rfl⟩:=ht.open
 obtain⟨ox,cx,rfl⟩:=hx.open
 have HW:=Lib.hid hw
 have HT:=Lib.hid ht
 have HX:=Lib.hid hx
 clear hw ht hx
 have hl0:dG h=true->0<=h.last:=fun e=>by simp only[dG,Bool.and_eq_true,decide_eq_true_eq] at e;exact e.1.1.1.1.1
 have HN:=Lib.hid hn
 rw[hn] at hl0
 clear hn
 (try replace hl0:=hl0 rfl)
 have h2':((h.bg.length:Int) !=h.last+1)=false:=by simp only[bne,h2];rfl
 have H3:=Lib.hid h3
 have H4:=Lib.hid h4
 have H5:=Lib.hid h5
 clear h3 h4 h5
 go_enter Tryz.func94,Tryz.ntmps94
 go_wp2_with fail
 refine zg 31 [] none [(1,Spec.val (.bool true)),(8,Spec.val (iv (h.last+1))),(15,Spec.val (.bool true)),(21,Spec.val (.bool true)),(28,Spec.val (.bool true))] ?_
 simp only[zt]
 repeat ((first|refine zd ?_|refine zk ?_);simp only[zp])
 refine dh _ (by rfl) (by rfl) 138 _ (fun W hW=>by go_simp;try rfl) (fun W hE hF=>by have:=jW h (.slice ow h.bg.length cw) (.slice ot h.turns.length ct) (.slice ox h.readings.length cx) W;rw[HN.out] at this;exact this) ?_
 simp only[zp]
 repeat ((first|refine zd ?_|refine zk ?_);simp only[zp])
 refine dh _ (by rfl) (by rfl) 139 _ (fun W hW=>by go_simp;try rfl) (fun W hE hF=>by exact mM h _ _ _ W hl0 hl) ?_
 simp only[zp]
 repeat ((first|refine zd ?_|refine zk ?_);simp only[zp])
 refine dh _ (by rfl) (by rfl) 140 _ (fun W hW=>by go_simp;try rfl) (fun W hE hF=>by have:=kC h (.slice ow h.bg.length cw) (.slice ot h.turns.length ct) (.slice ox h.readings.length cx) (.slice ot h.turns.length ct) h.turns W ((HT.out.alloc _).ext hE (by simp)) hl0 hl;rw[H3.out] at this;exact this) ?_
 simp only[zp]
 repeat ((first|refine zd ?_|refine zk ?_);simp only[zp])
 refine dh _ (by rfl) (by rfl) 141 _ (fun W hW=>by go_simp;try rfl) (fun W hE hF=>by have:=Fe h.bg (.slice ow h.bg.length cw) W ((HW.out.alloc _).ext hE (by simp));rw[H4.out] at this;exact this) ?_
 simp only[zp]
 repeat ((first|refine zd ?_|refine zk ?_);simp only[zp])
 refine dh _ (by rfl) (by rfl) 143 _ (fun W hW=>by go_simp;try rfl) (fun W hE hF=>by have:=wG h (.slice ow h.bg.length cw) (.slice ot h.turns.length ct) (.slice ox h.readings.length cx) h.readings (.slice ox h.readings.length cx) W ((HX.out.alloc _).ext hE (by simp));rw[H5.out] at this;exact this) ?_
 simp only[zp]
 repeat ((first|refine zd ?_|refine zk ?_);simp only[zp])
 intro W hE hF
 obtain⟨hc,hf⟩:=aW hE.below
 have hzE:=hE.size
 (try simp only[World.size_alloc] at hzE)
 go_wp2_with fail
 have hB0:Below w.heap.size w W:=ze
 refine(JU h _ _ _ W (HW.out.below hB0 (Nat.le_refl _)) (by omega)).mono ?_
 rintro e w1 ⟨v,rfl,hv1,hb1⟩
 have hB1:Below w.heap.size w w1:=aH hB0 hb1
 clear hc hf hzE hE hF hb1 hB0
 obtain⟨ov,cv,rfl⟩:=hv1.open
 have HV:=Lib.hid hv1
 clear hv1
 go_wp2_with fail
 have hL:(h.start::h.bg).length=h.bg.length+1:=rfl
 have HL:=Lib.hid hL
 clear hL
 go_loopw [4,54] (fun m i wr=> ∃k:Nat,k<=h.bg.length+1/\i= .int .i64 k/\m= .int .i64 (oz (h.start::h.bg) k)/\aB 2 wr (.slice ov (h.bg.length+1) cv) (h.bg.length+1) (aj (h.start::h.bg))/\Below w.heap.size w wr)
  (fun _ i _=>h.bg.length+1-(intOf i).toNat)
 case atStart=>exact⟨0,Nat.zero_le _,rfl,rfl,HV.out,hB1⟩
 case round=>
  obtain⟨k,hk,rfl,rfl,hv,hB⟩:=hrel
  by_cases hlt:k<h.bg.length+1
  ·obtain⟨b,off,rfl,hb,hc0,hc1⟩:=bn.cell hv (show k<(h.start::h.bg).length from hlt)
   have hr:=iM.out _ (List.getElem_mem (show k<(h.start::h.bg).length from hlt))
   have hs:=Ad (h.start::h.bg) k hlt
   have hbd:=IY (h.start::h.bg) (fun r hr=>(iM.out r hr).2.2.2.1) k
   generalize (h.start::h.bg)[k]=r at hc0 hc1 hr hs
   obtain⟨hr1,hr2,hr3,hr4,EF⟩:=hr
   unfold mr at hs
   generalize oz (h.start::h.bg) k=c at hs hbd
   obtain⟨hb1,hb2⟩:=hbd
   have HS:=Lib.hid hs
   have HV:=Lib.hid hv
   have HB:=Lib.hid hB
   clear hs hv hB
   have hmul:0<=c*df r/\c*df r<=2001*501:=⟨Int.mul_nonneg (by omega) (by omega),Int.mul_le_mul hb2 EF (by omega) (by omega)⟩
   obtain⟨hm1,hm2⟩:=hmul
   go_wp2_with fail
   refine(size_any r _ hr1 hr2 (by omega)).mono ?_
   rintro e w2 ⟨rfl,hb3⟩
   obtain⟨hc,hf⟩:=aW hb3
   go_wp2_with fail
   refine(GG (c*df r) 2001 _ _ _ ?_ ?_).mono ?_
   ·go_simp
   ·go_simp
   rintro e w3 ⟨rfl,hb4⟩
   go_wp2_with fail
   go_roundw
   case rel=>
    have hB3:Below w.heap.size w w3:=aH (af (aH (af HB.out _) hb3) _) hb4
    exact⟨k+1,by omega,by go_num,by rw[HS.out],HV.out.below (((Below.refl wr.heap.size wr).alloc (Nat.le_refl _) _).trans ((hb3.mono (by simp)).trans (((Below.refl _ _).alloc (by have:=hb3.size;simp at this;omega) _).trans (hb4.mono (by have:=hb3.size;simp at this⊢;omega))))) (Nat.le_refl _),hB3⟩
   case measure=>simp[intOf];omega
  ·have hkl:k=h.bg.length+1:=by omega
   have hend:=Dh (h.start::h.bg) (fun r hr=>(iM.out r hr).2.2.2.1)
   have hr:=hres.out
   rw[HL.out, <-hkl] at hend
   generalize oz (h.start::h.bg) k=c at hend
   by_cases hc:2000<c
   ·rw[if_pos (hend.1 hc)] at hr
    have HR:=Lib.hid hr
    clear hr hend hres
    go_wp2_with fail
    go_returns
    exact⟨by rw[HR.out];simp,hB⟩
   ·rw[if_neg (fun x=>hc (hend.2 x))] at hr
    have HR:=Lib.hid hr
    clear hr hend hres
    go_wp2_with fail
    go_returns
    exact⟨by rw[HR.out];simp,hB⟩
theorem check_any (h:bF) (wv tv qC:Value) (w:World) (hw:bn w wv h.bg) (ht:aN w tv h.turns) (hx:aT w qC h.readings):
 Calls Tryz.prog 94 #[hv h wv tv qC] w (PV (iv (fault h)) w):=by
 unfold fault
 by_cases hl:9<h.last∨5<h.readings.length
 ·rw[if_pos hl]
  exact IE h wv tv qC w hx (by omega)
 ·rw[if_neg hl]
  have h9:h.last<=9:=by omega
  have h5':(h.readings.length:Int)<=5:=by omega
  by_cases hv:valid h=false
  ·rw[if_pos hv]
   cases h1:dG h
   ·exact LJ h wv tv qC w hw ht hx h9 h5' h1
   cases h2:((h.bg.length:Int)==h.last+1)
   ·exact LH h wv tv qC w hw ht hx h9 h5' h1 h2
   cases h3:jP h.last h.turns
   ·exact LG h wv tv qC w hw ht hx h9 h5' h1 h2 h3
   cases h4:h.bg.all (okR · 20)
   ·exact LD h wv tv qC w hw ht hx h9 h5' h1 h2 h3 h4
   cases h5:h.readings.all (vI h.last)
   ·exact LC h wv tv qC w hw ht hx h9 h5' h1 h2 h3 h4 h5
   exfalso
   have hd:decide ((h.bg.length:Int)=h.last+1)=true:=by simpa using h2
   simp only[valid,h1,hd,h3,h4,h5] at hv
   simp at hv
  ·rw[if_neg hv]
   have hv':valid h=true:=by simpa using hv
   simp only[valid,Bool.and_eq_true] at hv'
   exact Lt h wv tv qC w hw ht hx h9 h5' hv'.1.1.1.1 (by simpa using hv'.1.1.1.2) hv'.1.1.2 hv'.1.2 hv'.2 _ rfl
end Go.Proofs.YtabpkkbiioihaaaGreatDoor.kK
namespace Go.Proofs.YtabpkkbiioihaaaGreatDoor.kK
open Go.RowKit Go.RG Go.SL Go.Shelf gZ
abbrev sv (n:Int) (t:Bool):Value:= .agg #[iv n,.bool t]
theorem Wl (n m:Int) (t u:Bool) (w:World):(Op.equal 295 (sv n t) (sv m u)).run Tryz.prog w= .ok ((n==m)&&(t==u)) w:=by
 unfold Op.equal Op.maxDepth
 simp[go_sem]
 by_cases h1:n=m <;>by_cases h2:t=u <;>simp[h1,h2]
theorem xB (b:Bool) (d:Nat) (n:Int) (w:World):(Instr.checkKey b (d+1) 3 (iv n)).run Tryz.prog w= .ok () w:=by
 unfold Instr.checkKey
 simp[go_sem]
theorem Lu (b:Bool) (d:Nat) (t:Bool) (w:World):(Instr.checkKey b (d+1) 4 (.bool t)).run Tryz.prog w= .ok () w:=by
 unfold Instr.checkKey
 simp[go_sem]
theorem qh (b:Bool) (n:Int) (t:Bool) (w:World):(Instr.checkKey b 10000 295 (sv n t)).run Tryz.prog w= .ok () w:=by
 unfold Instr.checkKey
 simp[go_sem]
 rw[xB,Result.andThen_ok,Lu]
def Entry (aY:Int) (e:MapEntry):Prop:= ∃n t,e.key=sv n t/\e.val=iv (jr aY n t)
theorem O8 (aY:Int) (n:Int) (t:Bool): ∀(es:List MapEntry) (i:Nat),(∀e∈es,Entry aY e)->
 ∃r,(∀w,(Instr.findAsking 295 (sv n t) es i).run Tryz.prog w= .ok r w)/\(∀j v,r=some (j,v)->v=iv (jr aY n t)/\i<=j/\j-i<es.length/\ ∃e,es[j-i]? =some e/\e.key=sv n t):=by
 intro es
 induction es with
 |nil=>intro i _;exact⟨none,fun _=>rfl,fun j v h=>by cases h⟩
 |cons e es ih=>
  intro i h
  obtain⟨m,u,hk,hv⟩:=h e (by simp)
  unfold Instr.findAsking
  simp only[Sem.run_bind,hk,Wl,Result.andThen_ok]
  by_cases hc:((n==m)&&(t==u))=true
  ·refine⟨some (i,e.val),fun w=>by rw[if_pos hc];rfl,fun j v hj=>?_⟩
   simp only[Option.some.injEq,Prod.mk.injEq] at hj
   simp only[Bool.and_eq_true,beq_iff_eq] at hc
   refine⟨by rw[<-hj.2,hv,hc.1,hc.2],by omega,by simp;omega,e,?_,by rw[hk,hc.1,hc.2]⟩
   rw[<-hj.1];simp
  ·obtain⟨r,h1,h2⟩:=ih (i+1) (fun x hx=>h x (by simp[hx]))
   refine⟨r,fun w=>by rw[if_neg hc];exact h1 w,fun j v hj=>?_⟩
   obtain⟨h3,h4,h5,e',h6,h7⟩:=h2 j v hj
   refine⟨h3,by omega,by simp;omega,e',?_,h7⟩
   rw[show j-i=(j-(i+1))+1 from by omega,List.getElem?_cons_succ]
   exact h6
theorem G7 (aY:Int) (n:Int) (t:Bool) (es:List MapEntry) (h: ∀e∈es,Entry aY e):
 ∃r,(∀w,(Instr.findKey 295 (sv n t) es).run Tryz.prog w= .ok r w)/\(∀j v,r=some (j,v)->v=iv (jr aY n t)/\j<es.length/\ ∃e,es[j]? =some e/\e.key=sv n t):=by
 unfold Instr.findKey
 simp only[Sem.run_bind,run_underlying Tryz.underlying295,Result.andThen_ok]
 cases es with
 |nil=>exact⟨none,fun _=>rfl,fun j v h=>by cases h⟩
 |cons e es=>
  simp only[Instr.findNow,Instr.sameNow]
  obtain⟨r,h1,h2⟩:=O8 aY n t (e::es) 0 h
  exact⟨r,h1,fun j v hj=>by
   obtain⟨a,b,c,d⟩:=h2 j v hj
   exact⟨a,by simpa using c,by simpa using d⟩⟩
def Cache (W:World) (mb:Nat) (aY:Int):Prop:= ∃es clock,W.heap[mb]? =some (.map es clock)/\ ∀e∈es.toList,Entry aY e
theorem Cache.kept {W W':World} {mb:Nat} {aY:Int} (h:Cache W mb aY) (hk:W'.heap[mb]? =W.heap[mb]?):Cache W' mb aY:=by
 obtain⟨es,c,h1,h2⟩:=h;exact⟨es,c,hk.trans h1,h2⟩
theorem Cache.lt {W:World} {mb:Nat} {aY:Int} (h:Cache W mb aY):mb<W.heap.size:=by
 obtain⟨es,c,h1,h2⟩:=h;exact(Array.getElem?_eq_some_iff.1 h1).1
theorem Ox {W0:World} {mb:Nat} {aY:Int} (h:Cache W0 mb aY) (n:Int) (t:Bool):
 ∃x ok,(ok=true->x=jr aY n t)/\ ∀W:World,W.heap[mb]? =W0.heap[mb]?->
  (Instr.lookup 288 (.map (some mb)) (sv n t) true).run Tryz.prog W= .ok (.tuple #[iv x,.bool ok]) W:=by
 obtain⟨es,c,h1,h2⟩:=h
 obtain⟨r,hr,hv⟩:=G7 aY n t es.toList h2
 have xm: ∀W:World,W.heap[mb]? =W0.heap[mb]?->(getObj mb).run Tryz.prog W= .ok (.map es c) W:=fun W hW=>by
  simp[getObj,Sem.run,hW,h1]
 have hz: ∀W:World,(zeroValue 3).run Tryz.prog W= .ok (iv 0) W:=fun W=>by simp[go_sem]
 cases r with
 |none=>
  refine⟨0,false,(fun h=>by cases h),fun W hW=>?_⟩
  simp[Instr.lookup,run_underlying Tryz.underlying288,xm W hW,qh,hr,hz]
 |some p=>
  obtain⟨j,v⟩:=p
  obtain⟨rfl,_⟩:=hv j v rfl
  refine⟨jr aY n t,true,fun _=>rfl,fun W hW=>?_⟩
  simp[Instr.lookup,run_underlying Tryz.underlying288,xm W hW,qh,hr]
theorem A8 (n:Int) (t:Bool):Instr.sameBits 10000 (sv n t) (sv n t)=true:=by
 simp[Instr.sameBits]
theorem FT {W:World} {mb:Nat} {aY:Int} (h:Cache W mb aY) (n:Int) (t:Bool):
 ∃W',(Instr.mapUpdate 288 (.map (some mb)) (sv n t) (iv (jr aY n t))).run Tryz.prog W= .ok () W'/\Cache W' mb aY/\Ext [mb] W W':=by
 have hlt:=h.lt
 obtain⟨es,c,h1,h2⟩:=h
 obtain⟨r,hr,hv⟩:=G7 aY n t es.toList h2
 have xm:(getObj mb).run Tryz.prog W= .ok (.map es c) W:=by simp[getObj,Sem.run,h1]
 have hset: ∀es' c',(setObj mb (.map es' c')).run Tryz.prog W= .ok () {W with heap:=W.heap.setIfInBounds mb (.map es' c')}:=fun es' c'=>by
  simp[setObj,Sem.run,h1]
 have uI: ∀o:Obj,Ext [mb] W {W with heap:=W.heap.setIfInBounds mb o}:=fun o=>
  ⟨rfl,rfl,rfl,by simp,fun k _ hm=>by simp only[Array.getElem?_setIfInBounds];rw[if_neg (by simp at hm;omega)]⟩
 have zQ: ∀es' c',(∀e∈es'.toList,Entry aY e)->Cache {W with heap:=W.heap.setIfInBounds mb (.map es' c')} mb aY:=fun es' c' he=>
  ⟨es',c',by simp[hlt],he⟩
 cases r with
 |none=>
  refine⟨_,?_,zQ (es.push {key:=sv n t,val:=iv (jr aY n t),born:=c}) (c+1) ?_,uI _⟩
  ·simp[Instr.mapUpdate,run_underlying Tryz.underlying288,xm,qh,hr,hset]
  ·intro e he
   simp only[Array.toList_push,List.mem_append,List.mem_singleton] at he
   rcases he with he|rfl
   ·exact h2 e he
   ·exact⟨n,t,rfl,rfl⟩
 |some p=>
  obtain⟨j,v⟩:=p
  obtain⟨rfl,hj,e0,he0,hk0⟩:=hv j v rfl
  have hje:es[j]? =some e0:=by simpa using he0
  refine⟨_,?_,zQ (es.modify j fun e=>{e with key:=sv n t,val:=iv (jr aY n t)}) c ?_,uI _⟩
  ·simp[Instr.mapUpdate,run_underlying Tryz.underlying288,xm,qh,hr,hset,Instr.keyThatStays,hje,hk0,A8]
  ·intro e he
   obtain⟨i,hi,rfl⟩:=List.getElem_of_mem he
   simp only[Array.getElem_toList,Array.getElem_modify]
   split
   ·exact⟨n,t,rfl,rfl⟩
   ·exact h2 _ (by simp)
abbrev QM (h:bF) (a b c:Value) (mb:Nat):Array Value:=
 #[.int .i64 h.last,.int .i64 h.size,.int .i64 h.aY,.int .i64 h.die,.int .i64 h.pI,.int .i64 h.start.1,.int .i64 h.start.2,a,b,c,.map (some mb)]
structure gq (W:World) (wb mb:Nat) (h:bF) (a b c:Value):Prop where
 cells:W.heap[wb]? =some (.cells (QM h a b c mb) 290 (0,0))
 cache:Cache W mb h.aY
theorem gq.ne {W:World} {wb mb:Nat} {h:bF} {a b c:Value} (hw:gq W wb mb h a b c):wb≠mb:=by
 intro e
 obtain⟨es,k,h1,_⟩:=hw.cache
 have:=hw.cells
 rw[e,h1] at this
 cases this
theorem gq.lt {W:World} {wb mb:Nat} {h:bF} {a b c:Value} (hw:gq W wb mb h a b c):wb<W.heap.size:=(Array.getElem?_eq_some_iff.1 hw.cells).1
theorem gq.kept {W W':World} {wb mb:Nat} {h:bF} {a b c:Value} (hw:gq W wb mb h a b c) (h1:W'.heap[wb]? =W.heap[wb]?) (h2:W'.heap[mb]? =W.heap[mb]?):gq W' wb mb h a b c:=
 ⟨h1.trans hw.cells,hw.cache.kept h2⟩
theorem gq.below {W W':World} {wb mb:Nat} {h:bF} {a b c:Value} (hw:gq W wb mb h a b c) {B:Nat} (hb:Below B W W') (hB:W.heap.size<=B):gq W' wb mb h a b c:=
 hw.kept (hb.block _ (by have:=hw.lt;omega)) (hb.block _ (by have:=hw.cache.lt;omega))
theorem gq.ext {W W':World} {wb mb:Nat} {h:bF} {a b c:Value} (hw:gq W wb mb h a b c) (hE:Ext [mb] W W') (hc:Cache W' mb h.aY):gq W' wb mb h a b c:=
 ⟨(hE.block wb hw.lt (by simpa using hw.ne)).trans hw.cells,hc⟩
theorem gq.cell {W:World} {wb mb:Nat} {h:bF} {a b c:Value} (hw:gq W wb mb h a b c) (i:Nat):W.cell? ⟨wb,i,none⟩=(QM h a b c mb)[i]? :=by
 simp[World.cell?,hw.cells]
def UC (w:World) (h:bF) (a b c:Value) (e:Ending) (W:World):Prop:=
 ∃wb mb,e= .returned (.pointer (some ⟨wb,0,none⟩))/\w.heap.size<=wb/\w.heap.size<=mb/\gq W wb mb h a b c/\Below w.heap.size w W
theorem yN (h:bF) (ow ot ox:Option Addr) (nw cw nt ct nx cx:Nat) (w:World):
 Calls Tryz.prog 194 #[hv h (.slice ow nw cw) (.slice ot nt ct) (.slice ox nx cx)] w (UC w h (.slice ow nw cw) (.slice ot nt ct) (.slice ox nx cx)):=by
 have hmm:= @run_makeMap Tryz.prog
 go_enter Tryz.func194,Tryz.ntmps194
 go_wp2
 go_returns
 refine⟨w.heap.size+2,w.heap.size+1,by simp,by omega,by omega,⟨fJ _ _ _ _,#[],0,?_,by simp⟩,zl⟩
 exact(Below.heap_alloc _ _ _ (by simp)).trans (dL _ _ _)
theorem Uh (h:bF) (a b c:Value) (wb mb:Nat) (n:Int) (t:Bool) (w:World) (hw:gq w wb mb h a b c) (hn0:0<=n) (hn1:n<=100000) (hc0:0<=h.aY) (hc1:h.aY<=100):
 Calls Tryz.prog 247 #[.pointer (some ⟨wb,0,none⟩),sv n t] w (fun e w'=>e= .returned (iv (jr h.aY n t))/\Cache w' mb h.aY/\Ext [mb] w w'):=by
 have c2:=hw.cell 2
 have c10:=hw.cell 10
 have hlt:=hw.lt
 have hwc:=hw.cache
 obtain⟨x,ok,hx,hlook⟩:=Ox (hwc) n t
 simp at c2 c10
 have hm0:0<=n*h.aY:=Int.mul_nonneg hn0 hc0
 have hm1:n*h.aY<=100000*100:=Int.mul_le_mul hn1 hc1 hc0 (by omega)
 have HW:=Lib.hid hw
 have HC:=Lib.hid hwc
 have HX:=Lib.hid hx
 have HL:=Lib.hid hlook
 clear hw hwc hx hlook
 have hmb:=HC.out.lt
 have HU:=Lib.hid (fun(W2:World) (hc:Cache W2 mb h.aY)=>FT hc n t)
 cases ok
 ·cases t
  all_goals
   go_enter Tryz.func247,Tryz.ntmps247
   go_wp2_with fail
   refine zg 11 [] none [] ?_
   simp only[zt]
   repeat (refine zd ?_;simp only[zp])
   refine eG (by rfl) _ (by rfl) (fun W hE _=>by have:=HL.out W ((hE.block mb (by simp;omega) (by simp)).trans (Below.heap_alloc _ _ _ hmb));go_simp;try rfl) ?_
   simp only[zp]
   repeat (refine zd ?_;simp only[zp])
   intro W hE hF
   obtain⟨hc,hf⟩:=aW hE.below
   have hzE:=hE.size
   (try simp only[World.size_alloc] at hzE)
   have hzw:wb<W.heap.size:=by omega
   have hz0:w.heap.size<W.heap.size:=by omega
   go_wp2_with fail
   refine zg 6 [] none [] ?_
   simp only[zt]
   repeat (refine zd ?_;simp only[zp])
   intro W2 hE2 hF2
   have hW2:Below w.heap.size w W2:=(aH (aH (af (Below.refl _ _) _) hE.below) hE2.below)
   clear hc hf hzE hF hF2
   obtain⟨W3,hrun,zQ,uI⟩:=HU.out W2 (HC.out.kept (W':=W2) (hW2.block mb hmb))
   have HA:=Lib.hid zQ
   have HE:=Lib.hid uI
   clear zQ uI
   first|(simp only[show jr h.aY n false=n from rfl] at hrun)|(simp only[show jr h.aY n true=n-n*h.aY/100 from rfl] at hrun)
   go_wp2_with fail
   go_returns
   refine⟨by simp[jr],HA.out,?_⟩
   have Y5:Ext [mb] w W2:=⟨hW2.os,hW2.tape,hW2.output,hW2.size,fun k hk _=>hW2.block k hk⟩
   exact Y5.trans HE.out
 ·go_enter Tryz.func247,Tryz.ntmps247
  go_wp2_with fail
  refine zg 11 [] none [] ?_
  simp only[zt]
  repeat (refine zd ?_;simp only[zp])
  refine eG (by rfl) _ (by rfl) (fun W hE _=>by have:=HL.out W ((hE.block mb (by simp;omega) (by simp)).trans (Below.heap_alloc _ _ _ hmb));go_simp;try rfl) ?_
  simp only[zp]
  repeat (refine zd ?_;simp only[zp])
  intro W hE hF
  obtain⟨hc,hf⟩:=aW hE.below
  have hzE:=hE.size
  (try simp only[World.size_alloc] at hzE)
  have hW:Below w.heap.size w W:=aH (af (Below.refl _ _) _) hE.below
  go_wp2_with fail
  go_returns
  refine⟨by rw[<-HX.out (by trivial)];simp,HC.out.kept (hW.block mb hmb),Ext.of_below hW⟩
end Go.Proofs.YtabpkkbiioihaaaGreatDoor.kK
namespace Go.Proofs.YtabpkkbiioihaaaGreatDoor.kK
open Go.RowKit Go.RG Go.SL Go.Shelf gZ
abbrev jk (l:List Int):Value:= .agg (intCells l).toArray
theorem Cache.noCell {W:World} {mb:Nat} {aY:Int} (h:Cache W mb aY) (o:Nat):W.cell? ⟨mb,o,none⟩=none:=by
 obtain⟨es,c,h1,_⟩:=h
 simp[World.cell?,h1]
theorem vH (h:bF) (a b c:Value) (wb mb:Nat) (start:Int) (bg turns:List Int) (ws ts:Value) (w:World) (hw:gq w wb mb h a b c) (hws:aN w ws bg) (hts:aN w ts turns) (hlen:bg.length<=10)
 (hs0:0<=h.size) (hs1:h.size<=20) (hc0:0<=h.aY) (hc1:h.aY<=100) (h0:0<=start) (h1:start<=500) (Yr: ∀x∈bg,0<=x/\x<=20):
 Calls Tryz.prog 197 #[.pointer (some ⟨wb,0,none⟩),.agg #[iv start,ws],ts] w
  (fun e w'=>e= .returned (jk (rD h (start,bg) turns))/\Cache w' mb h.aY/\Ext [mb] w w'):=by
 have hbd:=CU turns bg hs0 hs1 hc0 hc1 h0 h1 Yr
 obtain⟨ow,cw,rfl⟩:=hws.open
 obtain⟨ot,ct,rfl⟩:=hts.open
 have HW:=Lib.hid hw
 have HS:=Lib.hid hws
 have HT:=Lib.hid hts
 have HB:=Lib.hid hbd
 have HX:=Lib.hid Yr
 have hlt:=hw.lt
 have hmb:=hw.cache.lt
 clear hw hws hts hbd Yr
 go_enter Tryz.func197,Tryz.ntmps197
 go_wp2_with fail
 go_loopw [7,15] (fun v7 i wr=> ∃k:Nat,k<=bg.length/\i= .int .i64 k/\v7= .int .i64 (lI h.size h.aY turns start bg k)/\gq wr wb mb h a b c/\
  wr.heap[w.heap.size+1]? =some (.cells (intCells (kX h.size h.aY turns start bg k)).toArray 212 (0,0))/\Ext [mb] w wr)
  (fun _ i _=>bg.length-(intOf i).toNat)
 case atStart=>
  exact⟨0,Nat.zero_le _,rfl,rfl,HW.out.below (af (af (Below.refl _ _) _) _) (Nat.le_refl _),dL _ _ _,Ext.of_below (af (af (Below.refl _ _) _) _)⟩
 case round=>
  obtain⟨k,hk,rfl,rfl,hwk,hblk,hE0⟩:=hrel
  have OV: ∀x∈[mb], ∀o,w.cell? ⟨x,o,none⟩=none:=fun x hx o=>by
   have:x=mb:=by simpa using hx
   subst this
   exact HW.out.cache.noCell o
  have hws:=HS.out.gQ hE0 OV
  have hts:=HT.out.gQ hE0 OV
  have hne:=hwk.ne
  have hlt2:=hwk.lt
  have hsz:=hE0.size
  have ait:=hwk.cache.lt
  have hb6:w.heap.size+1<wr.heap.size:=(Array.getElem?_eq_some_iff.1 hblk).1
  have aeT: ¬w.heap.size+1=mb:=by omega
  by_cases YH:k<bg.length
  ·obtain⟨bb,off,rfl,hbb,hcx⟩:=aN.cell hws YH
   have hx:=HX.out _ (List.getElem_mem YH)
   have hn:=HB.out k
   have hnext:lI h.size h.aY turns start bg (k+1)=jr h.aY (lI h.size h.aY turns start bg k) (turns.contains (k:Int))+h.size*bg[k]/10:=by
    simp only[lI,QV]
    rw[show bg.getD k 0=bg[k] from by simp[YH]]
   have hcd:=Df hc0 hc1 hn.1 (turns.contains (k:Int))
   have hset:=EH h.size h.aY turns start bg k (by omega)
   have aeQ:=hwk.cell 1
   simp at aeQ
   rw[hnext] at hset
   have Qm:=Lib.hid hnext
   generalize lI h.size h.aY turns start bg k=n at hn hcd hset Qm
   generalize bg[k]=x at hcx hx hset Qm
   obtain⟨hx0,hx1⟩:=hx
   obtain⟨hn0,hn1⟩:=hn
   obtain⟨hd0,hd1⟩:=hcd
   have hm0:0<=h.size*x:=Int.mul_nonneg hs0 hx0
   have hm1:h.size*x<=20*20:=Int.mul_le_mul hs1 hx1 hx0 (by omega)
   have hk10:(k:Int)<10:=by omega
   have Zz:=Lib.hid hset
   have af5:=Lib.hid hblk
   have ZL:=Lib.hid hE0
   have Fj:=Lib.hid hwk
   have HWS:=Lib.hid hws
   have HTS:=Lib.hid hts
   have ajR:=Lib.hid OV
   clear hnext hset hblk hE0 hwk hws hts OV
   have HNC:Hid (∀x∈[mb], ∀o,wr.cell? ⟨x,o,none⟩=none):=fun x hx o=>by
    have:x=mb:=by simpa using hx
    subst this
    exact Fj.out.cache.noCell o
   generalize hcb:turns.contains (k:Int)=tb at hd0 hd1 Zz Qm
   have HCB:=Lib.hid hcb
   clear hcb
   generalize hcd:jr h.aY n tb=cn at hd0 hd1 Zz Qm
   have HCD:=Lib.hid hcd
   clear hcd
   go_wp2_with fail
   refine zg 16 [mb] (some 6) [(4,Spec.val (.bool tb)),(6,⟨fun _ v=>v=iv cn,fun _ _ W=>Cache W mb h.aY⟩)] ?_
   simp only[zt]
   repeat (refine zd ?_;simp only[zp])
   refine dh _ (by rfl) (by rfl) 102 _ (fun W hW=>by go_simp;try rfl) (fun W hE hF=>by have:=eP turns (.slice ot turns.length ct) (k:Int) W (HTS.out.gQ hE HNC.out);rw[HCB.out] at this;exact this) ?_
   simp only[zp]
   repeat (refine zd ?_;simp only[zp])
   refine aP _ (by rfl) (by rfl) ⟨_,rfl⟩ (fun W hE hF=>?_) (fun v W W' hc hE=>?_) (fun v hv=>?_)
   ·have hE':Ext [] wr W:=hE
    refine bU 247 #[.pointer (some ⟨wb,0,none⟩),sv n tb] (by go_simp;try rfl) ?_
    refine(Uh h a b c wb mb n tb W (Fj.out.below hE'.below (Nat.le_refl _)) hn0 (by omega) hc0 hc1).mono ?_
    rintro e W' ⟨rfl,hcc,hE2⟩
    exact⟨_,rfl,by rw[HCD.out],hcc,hE2⟩
   ·have hE':Ext [] W W':=hE
    exact Cache.kept hc (hE'.block mb (Cache.lt hc) (by simp))
   obtain rfl:v=iv cn:=hv
   simp only[zp]
   repeat (refine zd ?_;simp only[zp])
   intro W hE hF
   have hCW:Cache W mb h.aY:=hF _ (List.Mem.head _)
   have Nk:=(hE.block (w.heap.size+1) hb6 (by simpa using aeT)).trans af5.out
   have hfr:=aX Nk
   have hck:=ed Nk (show k<(kX h.size h.aY turns start bg k).length by rw[jF];omega)
   have HCW:=Lib.hid hCW
   have HBW:=Lib.hid Nk
   have HEW:=Lib.hid hE
   clear hF hCW Nk hE
   go_wp2_with fail
   go_roundw
   case rel=>
    refine⟨k+1,by omega,by go_num,by rw[Qm.out],?_,?_,?_⟩
    ·exact((Fj.out.ext HEW.out HCW.out).kept (Below.heap_setCell _ _ _ _ (by show wb≠w.heap.size+1;omega)) (Below.heap_setCell _ _ _ _ (by show mb≠w.heap.size+1;omega)))
    ·rw[Zz.out, <-ni]
     exact ak HBW.out _
    ·exact(ZL.out.trans HEW.out).set (by show w.heap.size<=w.heap.size+1;omega) _
   case measure=>simp[intOf];omega
  ·have hkl:k=bg.length:=by omega
   obtain⟨y0,y1,y2,y3,y4,y5,y6,y7,y8,y9,hy⟩:=wS (jF h.size h.aY turns start bg k)
   have hres:rD h (start,bg) turns=[y0,y1,y2,y3,y4,y5,y6,y7,y8,y9]:=by rw[<-hy,hkl];rfl
   rw[hy] at hblk
   have hfr:=aX hblk
   have hcs: ∀i,wr.cell? ⟨w.heap.size+1,i,none⟩=(#[iv y0,iv y1,iv y2,iv y3,iv y4,iv y5,iv y6,iv y7,iv y8,iv y9]:Array Value)[i]? :=fun i=>by
    simp only[World.cell?,hblk];rfl
   have Qk:=Lib.hid hres
   have ZL:=Lib.hid hE0
   have Fj:=Lib.hid hwk
   clear hres hy hblk hE0 hwk hws hts OV
   go_wp2_with fail
   (try simp only[Exit.inBlock,Exit.then])
   refine bodyPost_ret (v:= .agg #[iv y0,iv y1,iv y2,iv y3,iv y4,iv y5,iv y6,iv y7,iv y8,iv y9]) (by simp[results,Tryz.results197,go_sem,hcs]) rfl ⟨by rw[Qk.out];rfl,?_,?_⟩
   ·refine Fj.out.cache.kept ?_
    repeat rw[Below.heap_setCell _ _ _ _ (by show mb≠w.heap.size+1;omega)]
   ·repeat (refine Ext.set ?_ (by show w.heap.size<=w.heap.size+1;omega) _)
    exact ZL.out
end Go.Proofs.YtabpkkbiioihaaaGreatDoor.kK
namespace Go.Proofs.YtabpkkbiioihaaaGreatDoor.kK
open Go.RowKit Go.RG Go.SL Go.Shelf gZ
def BD (t:TypeId) (size n:Nat) (xs:List Value) (w:World) (e:Ending) (w':World):Prop:= ∃v,e= .returned v/\w'.ownsRow w.heap.size t size v n xs/\Below w.heap.size w w'
end Go.Proofs.YtabpkkbiioihaaaGreatDoor.kK
namespace Go.Proofs.YtabpkkbiioihaaaGreatDoor.kK
open Go.RowKit Go.RG Go.SL Go.Shelf gZ
theorem Cache.Ej {W:World} {mb:Nat} {aY:Int} (h:Cache W mb aY) (cs:Array Value) (t:TypeId) (f:Nat×Nat):W.heap[mb]?≠some (Obj.cells cs t f):=by
 obtain⟨es,c,h1,_⟩:=h
 rw[h1];intro e;cases e
theorem VQ (h:bF) (a b c:Value) (n:Nat) (w:World) (h0:0<=h.last) (h9:h.last<=9) (hn:h.last+1=n):Calls Tryz.prog 139 #[hv h a b c] w (PV (iv n) w):=by
 rw[<-hn];exact mM h a b c w h0 h9
end Go.Proofs.YtabpkkbiioihaaaGreatDoor.kK
namespace Go.Proofs.YtabpkkbiioihaaaGreatDoor.kK
open Go.RowKit Go.RG Go.SL Go.Shelf gZ
end Go.Proofs.YtabpkkbiioihaaaGreatDoor.kK
end
section
namespace Go.Proofs.YtabpkkbiioihaaaGreatDoor.kK
open Go.RowKit Go.RG Go.SL Go.Shelf gZ
attribute [local go_sem] Oper.semAt_some
structure xI (W:World) (n bx fU bo bc ob l:Nat) (o:List Int):Prop where
 y:W.heap[fU]? =some (.cells #[.func (.yield l) #[] #[]] 128 (0,0))
 out:W.heap[bo]? =some (.cells #[.slice (some ⟨ob,0,none⟩) n n] 36 (0,0))
 ch:W.heap[bc]? =some (.cells #[.func (.func 276) #[] #[.pointer (some ⟨bx,0,none⟩),.pointer (some ⟨fU,0,none⟩),.pointer (some ⟨bo,0,none⟩),.pointer (some ⟨bc,0,none⟩)]] 124 (0,0))
 cells:W.heap[ob]? =some (.cells (intCells o).toArray 3 (0,0))
theorem xI.kept {W W':World} {n bx fU bo bc ob l:Nat} {o:List Int} (h:xI W n bx fU bo bc ob l o) (hk: ∀m∈[ob,fU,bo,bc],m<W.heap.size->W'.heap[m]? =W.heap[m]?):xI W' n bx fU bo bc ob l o:=
 ⟨(hk _ (by simp) (Array.getElem?_eq_some_iff.1 h.y).1).trans h.y,(hk _ (by simp) (Array.getElem?_eq_some_iff.1 h.out).1).trans h.out,(hk _ (by simp) (Array.getElem?_eq_some_iff.1 h.ch).1).trans h.ch,(hk _ (by simp) (Array.getElem?_eq_some_iff.1 h.cells).1).trans h.cells⟩
theorem xI.below {W W':World} {n bx fU bo bc ob l:Nat} {o:List Int} (h:xI W n bx fU bo bc ob l o) (hb:Below W.heap.size W W'):xI W' n bx fU bo bc ob l o:=
 ⟨(hb.block _ (Array.getElem?_eq_some_iff.1 h.y).1).trans h.y,(hb.block _ (Array.getElem?_eq_some_iff.1 h.out).1).trans h.out,(hb.block _ (Array.getElem?_eq_some_iff.1 h.ch).1).trans h.ch,(hb.block _ (Array.getElem?_eq_some_iff.1 h.cells).1).trans h.cells⟩
theorem xI.set {W:World} {n bx fU bo bc ob l:Nat} {o:List Int} (h:xI W n bx fU bo bc ob l o) (hd1:fU≠ob) (hd2:bo≠ob) (hd3:bc≠ob) (i:Nat) (x:Int):xI (W.setCell ⟨ob,i,none⟩ (iv x)) n bx fU bo bc ob l (o.set i x):=
 ⟨(Below.heap_setCell _ _ _ _ hd1).trans h.y,(Below.heap_setCell _ _ _ _ hd2).trans h.out,(Below.heap_setCell _ _ _ _ hd3).trans h.ch,by rw[<-ni];exact ak h.cells _⟩
def XM (Ms:List Nat) (x:List Int) (v:Value) (W:World):Prop:=
 ∃ob:Nat,v= .slice (some ⟨ob,0,none⟩) x.length x.length/\W.heap[ob]? =some (.cells (intCells x).toArray 3 (0,0))/\ob∈Ms
def ql (bx:Nat) (v:Value) (R:List bK) (W:World):Prop:=W.heap[bx]? =some (.cells #[v] 35 (0,0))/\bn W v R
theorem Ls (R:List bK) (hR: ∀r∈R,0<=r.1/\r.1<=r.2/\r.2<=500) (hn:R.length<=100) (bx fU bo bc ob l:Nat) (hd1:fU≠ob) (hd2:bo≠ob) (hd3:bc≠ob) (v:Value) (J:List Nat->Option Nat->World->Prop)
 (hInv: ∀Ms s W1,J Ms s W1->ql bx v R W1)
 (hstep: ∀Ms Ms' s W1 W2,J Ms s W1->Ext Ms W1 W2->(∀m∈Ms',m∈Ms∨(W1.heap.size<=m/\m<W2.heap.size))->True->J Ms' s W2)
 (hY: ∀Ms k v W1 (hk:k<(dC R).length),J Ms (some k) W1->XM Ms (dC R)[k] v W1->YieldAt Fence.wide 0 Tryz.prog l #[v] W1 fun e W'=>
   ((∀m∈Ms,m∉[]->m<W1.heap.size->W'.heap[m]? =W1.heap[m]?)/\W1.heap.size<=W'.heap.size)/\((e= .returned (.bool true)/\J Ms (some (k+1)) W')∨(e= .returned (.bool false)/\J Ms none W'))):
 ∀(m i k:Nat) (pre:List Int) (W:World) (o:List Int),i+m=R.length->pre.length=i->o.length=R.length->o.take i=pre->gy R i k pre->xI W R.length bx fU bo bc ob l o->J [ob,fU,bo,bc] (some k) W->
  CallsIn Fence.wide 0 Tryz.prog 276 #[iv i,.pointer (some ⟨bx,0,none⟩),.pointer (some ⟨fU,0,none⟩),.pointer (some ⟨bo,0,none⟩),.pointer (some ⟨bc,0,none⟩)] W
   (fun e W'=>(e= .returned (.bool true)/\J [ob,fU,bo,bc] (some (k+(dC (R.drop i)).length)) W'/\ ∃o',o'.length=R.length/\o'.take i=pre/\xI W' R.length bx fU bo bc ob l o')∨
     (e= .returned (.bool false)/\J [ob,fU,bo,bc] none W')):=by
 intro m
 induction m with
 |zero=>
  intro i k pre W o him hpl hol hot hat hst hJ
  obtain rfl:i=R.length:=by omega
  obtain⟨hone,hk,hx⟩:=hat.last rfl
  rw[hone]
  obtain rfl:o=pre:=by rw[<-hot, <-hol,List.take_length]
  obtain⟨hbx,hsl⟩:=hInv _ _ _ hJ
  obtain⟨f1,t1,a1,b1,hy1,hR1⟩:=hY _ k (.slice (some ⟨ob,0,none⟩) R.length R.length) W hk hJ (by rw[hx];exact⟨ob,by rw[hol],hst.cells,by simp⟩)
  have c1:=ay hbx
  have c2:=ay hst.y
  have c3:=ay hst.out
  have hlen:=hsl.len
  obtain⟨so,sc,rfl⟩:=hsl.open
  have HR:=Lib.hid hR1
  have HS:=Lib.hid hst
  clear hInv hstep hY hR1 hst hJ hbx hsl hat
  refine callsIn_of_wp Tryz.func276 rfl trivial ?_
  simp only[Tryz.ntmps276,List.size_toArray,List.length_cons,List.length_nil,Nat.reduceAdd,Nat.reduceSub,Array.replicate_succ,Array.replicate_zero,List.push_toArray,List.append_toArray,List.nil_append,List.cons_append]
  gi_wp2_with fail
  refine HR.out.mono ?_
  rintro e W' ⟨⟨hkeep,hsz⟩,⟨rfl,hJ⟩|⟨rfl,hJ⟩⟩
  ·have HJ:=Lib.hid hJ
   have HK:=Lib.hid hkeep
   clear hJ hkeep
   gi_wp2_with fail
   go_returns
   exact .inl ⟨by simp,HJ.out,o,hol,hot,HS.out.kept (fun m hm hml=>HK.out m hm (by simp) hml)⟩
  ·have HJ:=Lib.hid hJ
   have HK:=Lib.hid hkeep
   clear hJ hkeep
   gi_wp2_with fail
   go_returns
   exact .inr ⟨by simp,HJ.out⟩
 |succ m ih=>
  intro i k pre W o him hpl hol hot hat hst hJ
  have hi:i<R.length:=by omega
  have hcount:=gy.count hi
  obtain⟨hr0,hr1,hr2⟩:=hR R[i] (List.getElem_mem hi)
  obtain⟨hbx,hsl⟩:=hInv _ _ _ hJ
  have c1:=ay hbx
  have c2:=ay hst.y
  have c3:=ay hst.out
  have c4:=ay hst.ch
  have hlen:=hsl.len
  obtain⟨so,sc,rfl⟩:=hsl.open
  obtain⟨b,off,rfl,hb,hc0,hc1⟩:=bn.cell hsl hi
  have HAT:=Lib.hid hat
  have HI:=Lib.hid hInv
  have HST:=Lib.hid hstep
  have HS:=Lib.hid hst
  have HJ:=Lib.hid hJ
  have HIH:=Lib.hid ih
  have HSL:=Lib.hid hsl
  have HBX:=Lib.hid hbx
  have hiI:(i:Int)<R.length:=by omega
  have hne:(i:Int)≠R.length:=by omega
  have hneb:((i:Int)==R.length)=false:=by simpa using hne
  have HN:Hid (gy R i k pre/\i<R.length):=Lib.hid ⟨hat,hi⟩
  have BG:=Lib.hid (And.intro hol hot)
  have HCT:=Lib.hid hcount
  have hsize: ∃z:Nat,df R[i]=z/\z<=501:=⟨(df R[i]).toNat,by unfold df;omega,by unfold df;omega⟩
  obtain⟨z,hz,agj⟩:=hsize
  have Qm:Hid (∀c:Nat,c<z->gy R (i+1) (k+c*(dC (R.drop (i+1))).length) (pre++[R[i].1+(c:Int)])):=Lib.hid (fun c hc=>hat.next hi c (by omega))
  have ZN:Hid ((dC (R.drop i)).length=z*(dC (R.drop (i+1))).length):=Lib.hid (by rw[hcount,hz];simp)
  clear hInv hstep hY hat hst hJ ih hsl hbx hcount hne hol hot hR
  generalize AP:R[i]=r at*
  have ZB:=Lib.hid AP
  clear AP
  have HZ:=Lib.hid hz
  clear hz HCT
  have hbs:=World.block_lt_of_cell? W _ c1
  have hys:=World.block_lt_of_cell? W _ c2
  have hos:=World.block_lt_of_cell? W _ c3
  have hcs:=World.block_lt_of_cell? W _ c4
  refine callsIn_of_wp Tryz.func276 rfl trivial ?_
  simp only[Tryz.ntmps276,List.size_toArray,List.length_cons,List.length_nil,Nat.reduceAdd,Nat.reduceSub,Array.replicate_succ,Array.replicate_zero,List.push_toArray,List.append_toArray,List.nil_append,List.cons_append]
  gi_wp2_with fail
  refine((callsIn_wide.2 (size_any r W hr0 hr1 (by omega)))).mono ?_
  rintro e W1 ⟨rfl,hb1⟩
  rw[HZ.out]
  have HB1:=Lib.hid hb1
  obtain⟨hc,hf⟩:=aW hb1
  clear hb1
  gi_wp2_with fail
  have hst1:xI W1 R.length bx fU bo bc ob l o:=HS.out.below HB1.out
  have hJ1:J [ob,fU,bo,bc] (some k) W1:=HST.out _ _ _ _ _ HJ.out (Ext.of_below HB1.out) (fun m hm=> .inl hm) trivial
  have UL:=Lib.hid hst1
  have HJ1:=Lib.hid hJ1
  clear hst1 hJ1 hc hf
  gi_loopw [7,20] (fun _ u wr=> ∃c:Nat,c<=z/\u= .int .i64 c/\ ∃o':List Int,o'.length=R.length/\o'.take i=pre/\xI wr R.length bx fU bo bc ob l o'/\J [ob,fU,bo,bc] (some (k+c*(dC (R.drop (i+1))).length)) wr)
   (fun _ u _=>z-(intOf u).toNat)
  case atStart=>exact⟨0,Nat.zero_le _,rfl,o,BG.out.1,BG.out.2,UL.out,by simpa using HJ1.out⟩
  case round=>
   obtain⟨c,hcz,rfl,o',ho1,ho2,hst,hJ⟩:=hrel
   by_cases hlt:c<z
   ·obtain⟨hbx,hsl⟩:=HI.out _ _ _ hJ
    have d1:=ay hbx
    have d2:=ay hst.y
    have d3:=ay hst.out
    have d4:=ay hst.ch
    have aiT:=World.block_lt_of_cell? wr _ d1
    have aiS:=World.block_lt_of_cell? wr _ d2
    have aiR:=World.block_lt_of_cell? wr _ d3
    have aiQ:=World.block_lt_of_cell? wr _ d4
    obtain⟨b',off',hbb,hb',e0,e1⟩:=bn.cell hsl HN.out.2
    cases hbb
    rw[ZB.out] at e0 e1
    have VV:i<o'.length:=by omega
    have d5:=ed hst.cells VV
    have aiP:=World.block_lt_of_cell? wr _ d5
    have hfr:=aX hst.cells
    have Au:=Lib.hid hst
    have MG:=Lib.hid hJ
    have HO:=Lib.hid (And.intro ho1 ho2)
    clear hst hJ hbx hsl ho1 ho2 c1 c2 c3 c4 hc0 hc1
    have KO:(c:Int)<z:=by omega
    gi_wp2_with fail
    refine yM 10 [] none [] (by kernel_rfl) (by kernel_rfl) (by kernel_rfl) ?_
    simp only[zt]
    repeat (refine zn ?_;simp only[zp])
    intro W hE hF
    obtain⟨hc,hf⟩:=aW hE.below
    have hzE:=hE.size
    (try simp only[World.size_alloc] at hzE)
    have HE:=Lib.hid hE.below
    clear hE hF
    gi_wp2_with fail
    have zN:=(Au.out.below HE.out).set hd1 hd2 hd3 i (r.1+(c:Int))
    have TQ:J [ob,fU,bo,bc] (some (k+c*(dC (R.drop (i+1))).length)) (W.setCell ⟨ob,i,none⟩ (iv (r.1+(c:Int)))):=
     HST.out _ _ _ _ _ (HST.out _ _ _ _ _ MG.out (Ext.of_below HE.out) (fun m hm=> .inl hm) trivial) ((og W ⟨ob,i,none⟩ _).more (fun x hx=>by simp at hx;subst hx;simp)) (fun m hm=> .inl hm) trivial
    have hcall:=HIH.out (i+1) _ (pre++[r.1+(c:Int)]) _ (o'.set i (r.1+(c:Int))) (by omega) (by simp[hpl]) (by simp[HO.out.1]) (by
     rw[List.take_set]
     rw[List.take_add_one,HO.out.2]
     have VV:i<o'.length:=by have:=HO.out.1;omega
     rw[List.getElem?_eq_getElem VV]
     simp[List.set_append_right,hpl]) (Qm.out c hlt) zN TQ
    rw[show((i+1:Nat):Int)=(i:Int)+1 from by omega] at hcall
    have AB:=Lib.hid hcall
    clear hcall zN TQ
    refine AB.out.mono ?_
    rintro e W2 (⟨rfl,hJ2,o2,ho1,ho2,hst2⟩|⟨rfl,hJ2⟩)
    ·have HJ2:=Lib.hid hJ2
     have Fq:=Lib.hid hst2
     have wQ:=Lib.hid (And.intro ho1 ho2)
     clear hJ2 hst2 ho1 ho2 hc hf d1 d2 d3 d4 d5 hfr e0 e1
     gi_wp2_with fail
     go_roundw
     case rel=>
      refine⟨c+1,by omega,by go_num,o2,wQ.out.1,?_,Fq.out,?_⟩
      ·have:=congrArg (List.take i) wQ.out.2
       rw[List.take_take,Nat.min_eq_left (by omega)] at this
       rw[this,List.take_append_of_le_length (by omega),List.take_of_length_le (by omega)]
      ·rw[Nat.add_mul,Nat.one_mul, <-Nat.add_assoc];exact HJ2.out
     case measure=>simp[intOf];omega
    ·have HJ2:=Lib.hid hJ2
     clear hJ2 hc hf d1 d2 d3 d4 d5 hfr e0 e1
     gi_wp2_with fail
     go_returns
     exact .inr ⟨by simp,HJ2.out⟩
   ·have KR:c=z:=by omega
    subst KR
    have MG:=Lib.hid hJ
    have Au:=Lib.hid hst
    have HO:=Lib.hid (And.intro ho1 ho2)
    clear hJ hst ho1 ho2 c1 c2 c3 c4 hc0 hc1
    gi_wp2_with fail
    go_returns
    refine .inl ⟨by simp,?_,o',HO.out.1,HO.out.2,Au.out⟩
    rw[ZN.out];exact MG.out
end Go.Proofs.YtabpkkbiioihaaaGreatDoor.kK
namespace Go.Proofs.YtabpkkbiioihaaaGreatDoor.kK
open Go.RowKit Go.RG Go.SL Go.Shelf gZ
theorem pg (n:Nat) (hn:n<=1000) (W:World):
 (Instr.makeSlice 36 (iv n) (iv n)).run Tryz.prog W= .ok (.slice (some ⟨W.heap.size,0,none⟩) n n) (W.alloc (.cells (intCells (List.replicate n 0)).toArray 3)):=by
 obtain⟨i,hi,hz,hs,hby⟩:=info_parts qo.info
 have:=run_make (P:=Tryz.prog) W 36 3 i (iv 0) qo.und hi hz .i64 .i64 n n (by omega) (Int.le_refl _) (by rw[hby];omega) (by omega)
 rw[this,hs]
 simp only[Int.toNat_natCast]
 congr 3
 apply Array.ext
 ·simp[madeCells,intCells]
 ·intro j h1 h2
  simp[madeCells,intCells,Value.cells]
  rw[Nat.mod_one]
  rfl
theorem jq (w:World) (A B C D:Obj):((((w.alloc A).alloc B).alloc C).alloc D).heap[w.heap.size+1+1+1]? =some D:=by
 have:=heap_alloc_new (((w.alloc A).alloc B).alloc C) D;rwa [World.size_alloc,World.size_alloc,World.size_alloc] at this
theorem Oy (R:List bK) (hR: ∀r∈R,0<=r.1/\r.1<=r.2/\r.2<=500) (hn:R.length<=100) (bx:Nat) (v:Value):
 Qd Tryz.prog 275 #[.pointer (some ⟨bx,0,none⟩)] (dC R) XM [] (fun _=>True) (ql bx v R):=by
 intro l J W hInv hstep hY h0
 obtain⟨hbx,hsl⟩:=hInv _ _ _ h0
 have hch:=fun fU bo bc ob hd1 hd2 hd3=>Ls R hR hn bx fU bo bc ob l hd1 hd2 hd3 v J hInv hstep hY
 have c1:=ay hbx
 have hb1:=World.block_lt_of_cell? W _ c1
 have hlen:=hsl.len
 obtain⟨so,sc,rfl⟩:=hsl.open
 have ZO:=Lib.hid hch
 have HST:=Lib.hid hstep
 have HJ:=Lib.hid h0
 have hmk:=pg R.length (by omega)
 have hn3: ∀(A B C:Obj) (v:Value) (t:TypeId),((((W.alloc A).alloc B).alloc C).alloc (.cells #[v] t)).cell? ⟨W.heap.size+1+1+1,0,none⟩=some v:=fun A B C v t=>ay (jq W A B C _)
 have hf3: ∀(A B C:Obj) (v:Value) (t:TypeId),((((W.alloc A).alloc B).alloc C).alloc (.cells #[v] t)).frozen? ⟨W.heap.size+1+1+1,0,none⟩=false:=fun A B C v t=>aX (jq W A B C _) 0
 clear hInv hstep hY hch h0 hbx hsl hR
 go_enter Tryz.func275,Tryz.ntmps275
 go_wp2_with fail
 refine(callsIn_wide.1 (ZO.out W.heap.size (W.heap.size+1+1) (W.heap.size+1+1+1) (W.heap.size+1) (by omega) (by omega) (by omega) R.length 0 0 [] _ (List.replicate R.length 0) (by omega) rfl (by simp) (by simp) (gy.zero R) ⟨?_,?_,?_,?_⟩
  (HST.out _ _ _ _ _ HJ.out (Ext.of_below zl) (fun m hm=> .inr (by simp at hm;(first|omega|(simp;omega)))) trivial))).mono ?_
 ·exact((Below.heap_alloc _ _ _ (by simp;omega)).trans ((Below.heap_alloc _ _ _ (by simp;omega)).trans ((Below.heap_alloc _ _ _ (by simp)).trans (ag _ _))))
 ·exact((Below.heap_alloc _ _ _ (by simp)).trans (fJ _ _ _ _))
 ·exact jq _ _ _ _ _
 ·exact((Below.heap_alloc _ _ _ (by simp)).trans ((Below.heap_alloc _ _ _ (by simp)).trans (dL _ _ _)))
 ·rintro e W2 (⟨rfl,hJ2,_⟩|⟨rfl,hJ2⟩)
  ·have HJ2:=Lib.hid hJ2
   clear hJ2 hn3 hf3 hmk
   go_wp2_with fail
   go_end0
   exact⟨⟨_,rfl⟩,_,.inl (by simpa using HJ2.out)⟩
  ·have HJ2:=Lib.hid hJ2
   clear hJ2 hn3 hf3 hmk
   go_wp2_with fail
   go_end0
   exact⟨⟨_,rfl⟩,_,.inr HJ2.out⟩
theorem Oz (o:Option Addr) (n c:Nat) (w:World):
 Calls Tryz.prog 245 #[.slice o n c] w (fun e w'=>e= .returned (.func (.func 275) #[] #[.pointer (some ⟨w.heap.size,0,none⟩)])/\w'=w.alloc (.cells #[.slice o n c] 35)):=by
 go_enter Tryz.func245,Tryz.ntmps245
 go_wp2
 go_returns
 exact⟨by simp,rfl⟩
end Go.Proofs.YtabpkkbiioihaaaGreatDoor.kK
namespace Go.Proofs.YtabpkkbiioihaaaGreatDoor.kK
open Go.RowKit Go.RG Go.SL Go.Shelf gZ
attribute [local go_sem] Oper.semAt_some
theorem JS (h:bF) (o:Option Addr) (cc:Nat) (b c:Value) (w:World) (hw:bn w (.slice o h.bg.length cc) h.bg) (hlen:h.bg.length<=1000):
 Calls Tryz.prog 144 #[hv h (.slice o h.bg.length cc) b c] w (BD 34 2 (h.bg.length+1) (aj (h.start::h.bg)) w):=by
 have HW:=Lib.hid hw
 clear hw
 go_enter Tryz.func144,Tryz.ntmps144
 go_wp2_with (at_builtin;refine dY rfl _ _ JI rfl (w.heap.size+1) (.slice (some ⟨w.heap.size+1,0,none⟩) 1 1) 1 [iv h.start.1,iv h.start.2] rfl ?_ (.slice o h.bg.length cc) h.bg.length (aj h.bg) rfl ?_ (kT _) (by omega) (by omega) (by simp) ?_)
 ·exact owns_block (dL _ _ _) rfl (Nat.le_refl _) (by decide)
 ·exact(HW.out.alloc _).alloc _
 ·intro v' w1 hown hgrow
  have HO:=Lib.hid hown
  have HG:=Lib.hid hgrow
  clear hown hgrow
  go_wp2
  go_returns
  refine⟨v',by simp,?_,?_⟩
  ·have:=HO.out
   rw[Nat.add_comm 1 h.bg.length] at this
   exact⟨this.1,this.2.imp id (fun⟨g,cap,cur,h1,h2,h3⟩=>⟨g,cap,cur,h1,by omega,h3⟩)⟩
  ·exact Below.grown (af (af (Below.refl _ _) _) _) HG.out (by simp;omega) (fun k e=>by cases e;show _<=w.heap.size+1;omega)
theorem JL (ob n:Nat) (hn:1<=n) (W:World):
 (Instr.slice 36 (.slice (some ⟨ob,0,none⟩) (n+1) (n+1)) (some (iv 1)) none none).run Tryz.prog W= .ok (.slice (some ⟨ob,1,none⟩) n n) W:=by
 have h0: ¬n+1=1:=by omega
 have h1:(1:Int)<=((n+1:Nat):Int):=by omega
 have:=run_slice_l (P:=Tryz.prog) W 36 (some ⟨ob,0,none⟩) (n+1) (n+1) (by kernel_rfl) .i64 1 (by omega) h1
 rw[this]
 have h2: ¬n=0:=by omega
 simp[go_sem,sliced,h2]
theorem xM (P:Program) {w:World} {g:Nat} {t:TypeId} {cur:Array Value} (ys:List Int) (hg:w.heap[g]? =some (.cells cur t (0,0))) (hl:cur.size=ys.length):
 ∃w',(storeCells ⟨g,0,none⟩ (intCells ys)).run P w= .ok () w'/\w'.heap[g]? =some (.cells (intCells ys).toArray t (0,0))/\Ext [g] w w':=by
 have hil:(intCells ys).length=ys.length:=by simp[intCells]
 have h:=run_storeCells_at P g 0 t (intCells ys) 0 cur w hg (by omega) (iT ys)
 refine⟨_,h,?_,rfl,rfl,rfl,by simp,fun k _ hm=>setRow_other _ _ _ _ (by simpa using hm)⟩
 rw[setRow_heap w g cur _ t _ hg]
 simp
 omega
structure Qb (wb mb bw bo:Nat) (h:bF) (a b c ov:Value) (out:List Int) (W:World):Prop where
 w:W.heap[bw]? =some (.cells #[.pointer (some ⟨wb,0,none⟩)] 205 (0,0))
 o:W.heap[bo]? =some (.cells #[ov] 36 (0,0))
 work:gq W wb mb h a b c
 bg:bn W a h.bg
 turns:aN W b h.turns
 readings:aT W c h.readings
 out:aN W ov out
theorem Qb.below {wb mb bw bo:Nat} {h:bF} {a b c ov:Value} {out:List Int} {W W':World} (t:Qb wb mb bw bo h a b c ov out W) (hb:Below W.heap.size W W'):Qb wb mb bw bo h a b c ov out W':=
 ⟨(hb.block _ (Array.getElem?_eq_some_iff.1 t.w).1).trans t.w,(hb.block _ (Array.getElem?_eq_some_iff.1 t.o).1).trans t.o,t.work.below hb (Nat.le_refl _),t.bg.below hb (Nat.le_refl _),t.turns.below hb (Nat.le_refl _),
   t.readings.below hb (Nat.le_refl _),t.out.below hb (Nat.le_refl _)⟩
theorem CY {Ms:List Nat} {a b c:World} {x:Nat} (h:Ext Ms a b) (k:Ext [x] b c) (hx:a.heap.size<=x):Ext Ms a c:=
 ⟨k.os.trans h.os,k.tape.trans h.tape,k.output.trans h.output,Nat.le_trans h.size k.size,
   fun i hi hm=>(k.block i (Nat.lt_of_lt_of_le hi h.size) (by simp;omega)).trans (h.block i hi hm)⟩
theorem Xi {l n:Nat} {P:Program} {ops:Array Oper} {Q:Exit->Act->World->Prop} {a:Act} {w:World} {rest:List Oper} {o:Oper} (hw:Region.wanted o (yielded ops a.tmps)=false)
 (h:wpListIn (Fence.wide.inRound l) n P ops Q rest (a.put o.dst undef) w):wpListIn (Fence.wide.inRound l) n P ops Q (o::rest) a w:=by
 simp only[wpListIn,hw]
 exact⟨fun _ _=>trivial,h⟩
theorem jD (q:Nat) (f:Nat->Bool):(List.range (q+1)).all f=((List.range q).all f&&f q):=by
 rw[List.range_succ,List.all_append]
 simp
theorem J8 {W:World} {mb b:Nat} {aY:Int} {cs:Array Value} {t:TypeId} {f:Nat×Nat} (hc:Cache W mb aY) (h:W.heap[b]? =some (Obj.cells cs t f)): ¬b=mb:=by
 intro e;subst e;exact hc.Ej _ _ _ h
def Zr (mb:Nat) (Ms:List Nat) (t:Int×List Int) (v:Value) (W:World):Prop:=
 ∃ob:Nat,v= .agg #[iv t.1,.slice (some ⟨ob,1,none⟩) t.2.length t.2.length]/\aN W (.slice (some ⟨ob,1,none⟩) t.2.length t.2.length) t.2/\ob∈Ms/\ob≠mb
abbrev Jm (mb tb bx rb d:Nat):List Nat:=[mb,tb,bx,rb,d,d+1]
structure wJ (l mb tb bx rb d cap:Nat) (R:List bK) (Ms:List Nat) (W:World):Prop where
 y:W.heap[tb]? =some (.cells #[.func (.yield l) #[] #[]] 291 (0,0))
 box:ql bx (.slice (some ⟨rb,0,none⟩) R.length cap) R W
 apart: ∀m∈Ms,m∉Jm mb tb bx rb d
 small: ∀p∈Jm mb tb bx rb d,p<W.heap.size
theorem ql.kept {bx rb cap:Nat} {R:List bK} {n:Nat} {W W':World} (h:ql bx (.slice (some ⟨rb,0,none⟩) n cap) R W) (h1:W'.heap[bx]? =W.heap[bx]?) (h2:W'.heap[rb]? =W.heap[rb]?):
 ql bx (.slice (some ⟨rb,0,none⟩) n cap) R W':=
 ⟨h1.trans h.1,h.2.kept fun b off n c hv _=>by cases hv;exact h2⟩
theorem wJ.kept {l mb tb bx rb d cap:Nat} {R:List bK} {Ms Ms':List Nat} {W W':World} (h:wJ l mb tb bx rb d cap R Ms W) (hs:W.heap.size<=W'.heap.size) (hk: ∀p∈[tb,bx,rb],W'.heap[p]? =W.heap[p]?)
 (hMs: ∀m∈Ms',m∈Ms∨(W.heap.size<=m/\m<W'.heap.size)):wJ l mb tb bx rb d cap R Ms' W':=
 ⟨(hk _ (by simp)).trans h.y,h.box.kept (hk _ (by simp)) (hk _ (by simp)),fun m hm hp=>by
   rcases hMs m hm with h1|h1
   ·exact h.apart m h1 hp
   ·have:=h.small m hp;omega,fun p hp=>by have:=h.small p hp;omega⟩
theorem wJ.ext {l mb tb bx rb d cap:Nat} {R:List bK} {Ms Ms':List Nat} {W W':World} (h:wJ l mb tb bx rb d cap R Ms W) (hE:Ext Ms W W')
 (hMs: ∀m∈Ms',m∈Ms∨(W.heap.size<=m/\m<W'.heap.size)):wJ l mb tb bx rb d cap R Ms' W':=
 h.kept hE.size (fun p hp=>hE.block p (h.small p (by simp at hp⊢;omega)) (fun hm=>h.apart p hm (by simp at hp⊢;omega))) hMs
section
variable {l mb tb bx rb d cap : Nat} {R : List bK} {wb bw bo : Nat} {h : bF} {a b c ov : Value} {out : List Int} {J : List Nat → Option Nat → World → Prop}
  (hInv : ∀ Ms s W1, J Ms s W1 → Qb wb mb bw bo h a b c ov out W1)
  (hstep : ∀ Ms Ms' s W1 W2, J Ms s W1 → Ext Ms W1 W2 → (∀ m ∈ Ms', m ∈ Ms ∨ (W1.heap.size ≤ m ∧ m < W2.heap.size)) → Cache W2 mb h.aY → J Ms' s W2)
include hInv hstep
theorem Nw {Ms Ms':List Nat} {s:Option Nat} {W1 W2:World} (hp:wJ l mb tb bx rb d cap R Ms W1) (hJ:J (Jm mb tb bx rb d++Ms) s W1) (hE:Ext Ms W1 W2) (hMs: ∀m∈Ms',m∈Ms∨(W1.heap.size<=m/\m<W2.heap.size)):
 J (Jm mb tb bx rb d++Ms') s W2:=by
 refine hstep _ _ _ _ _ hJ (hE.more fun x hx=>List.mem_append_right _ hx) ?_ ?_
 ·intro m hm
  rcases List.mem_append.1 hm with h1|h1
  ·exact .inl (List.mem_append_left _ h1)
  ·exact(hMs m h1).imp (fun h2=>List.mem_append_right _ h2) id
 ·have hc:=(hInv _ _ _ hJ).work.cache
  exact hc.kept (hE.block _ hc.lt (fun hm=>hp.apart _ hm (by simp)))
theorem Je {Ms:List Nat} {s:Option Nat} {W:World} {r:Nat} (o:Obj) (hr:r∈Jm mb tb bx rb d) (hm:r≠mb) (hJ:J (Jm mb tb bx rb d++Ms) s W):J (Jm mb tb bx rb d++Ms) s (W.putObj r o):=by
 refine hstep _ _ _ _ _ hJ ((Wj W r o).more fun x hx=>?_) (fun m hm=> .inl hm) ?_
 ·have:x=r:=by simpa using hx
  subst this
  exact List.mem_append_left _ hr
 ·exact(hInv _ _ _ hJ).work.cache.kept (World.putObj_heap_other (Ne.symm hm))
theorem WU {Ms:List Nat} {s:Option Nat} {W W':World} (hJ:J (Jm mb tb bx rb d++Ms) s W) (hE:Ext [mb] W W') (hc:Cache W' mb h.aY):J (Jm mb tb bx rb d++Ms) s W':=
 hstep _ _ _ _ _ hJ (hE.more fun x hx=>by simp at hx;subst hx;simp) (fun m hm=> .inl hm) hc
end
theorem yQ (h:bF) (hS:Sound h) (a b c ov:Value) (out:List Int) (wb mb bw bo:Nat):
 Qd Tryz.prog 244 #[.pointer (some ⟨bw,0,none⟩),.pointer (some ⟨bo,0,none⟩)] (dN h out) (Zr mb) [mb] (fun W=>Cache W mb h.aY) (Qb wb mb bw bo h a b c ov out):=by
 intro l J W hInv hstep hY h0
 have hT:=hInv _ _ _ h0
 obtain⟨oa,ca,rfl⟩:=hT.bg.open
 obtain⟨otn,cb,rfl⟩:=hT.turns.open
 obtain⟨oc,cc,rfl⟩:=hT.readings.open
 obtain⟨oo,co,rfl⟩:=hT.out.open
 have c1:=ay hT.w
 have hb1:=World.block_lt_of_cell? W _ c1
 have c2:=hT.work.cell
 have hb2:=hT.work.lt
 have HT:=Lib.hid hT
 have HI:=Lib.hid hInv
 have HST:=Lib.hid hstep
 have HY:=Lib.hid hY
 have HJ:=Lib.hid h0
 have mG:=Lib.hid hS
 have hwl:h.bg.length<=10:=by have:=hS.Jt;have:=hS.GR;omega
 clear hInv hstep hY h0 hT hS
 refine(callsIn_wide (n:=0)).1 ?_
 refine callsIn_of_wp_marks Tryz.func244 rfl trivial ?_
 simp only[Tryz.ntmps244,List.size_toArray,List.length_cons,List.length_nil,Nat.reduceAdd,Nat.reduceSub,Array.replicate_succ,Array.replicate_zero,List.push_toArray,List.append_toArray,List.nil_append,List.cons_append]
 gi_wp2_with fail
 refine(callsIn_wide.2 (JS h oa ca _ _ _ (HT.out.bg.alloc _) (by omega))).mono ?_
 rintro e w1 ⟨v1,rfl,hown,hb⟩
 obtain⟨rb,cap,rfl,hrb,hrl⟩: ∃rb cap:Nat,v1= .slice (some ⟨rb,0,none⟩) (h.bg.length+1) cap/\W.heap.size<rb/\bn w1 (.slice (some ⟨rb,0,none⟩) (h.bg.length+1) cap) (h.start::h.bg):=by
  have hsl:=aB.dn hown
  rcases hown.2 with⟨rfl,h0⟩|⟨g,cp,cur,rfl,hbg,hrest⟩
  ·omega
  ·exact⟨g,cp,rfl,by simp at hbg;omega,hsl⟩
 have HB1:=Lib.hid (show Below W.heap.size W w1 from aH (af (Below.refl _ _) _) hb)
 have HTB:=Lib.hid ((hb.block W.heap.size (by simp)).trans (ag _ _))
 have hsz1:=hb.size
 have HRL:=Lib.hid hrl
 clear hown hb hrl c1 c2
 gi_wp2_with fail
 refine(callsIn_wide.2 (Oz _ _ _ w1)).mono ?_
 rintro e w2 ⟨rfl,rfl⟩
 gi_wp2_with fail
 obtain⟨w2,hw2⟩: ∃w2,w1.alloc (.cells #[.slice (some ⟨rb,0,none⟩) (h.bg.length+1) cap] 35)=w2:=⟨_,rfl⟩
 have hsz2:w2.heap.size=w1.heap.size+1:=by rw[<-hw2];simp
 have nU:Below w1.heap.size w1 w2:=by rw[<-hw2];exact af (Below.refl _ _) _
 have hbx2:w2.heap[w1.heap.size]? =some (.cells #[.slice (some ⟨rb,0,none⟩) (h.bg.length+1) cap] 35 (0,0)):=by rw[<-hw2];exact ag _ _
 rw[hw2]
 have aaP:=(nU.block _ (Array.getElem?_eq_some_iff.1 HTB.out).1).trans HTB.out
 have hrl2:bn w2 (.slice (some ⟨rb,0,none⟩) (h.bg.length+1) cap) (h.start::h.bg):=HRL.out.below nU (Nat.le_refl _)
 have aie:rb<w1.heap.size:=by
  obtain⟨b',off',hbb,hlt,_⟩:=bn.cell HRL.out (show 0<(h.start::h.bg).length by simp)
  cases hbb;exact hlt
 have ah7:W.heap.size<w1.heap.size:=(Array.getElem?_eq_some_iff.1 HTB.out).1
 have hmb:mb<W.heap.size:=HT.out.work.cache.lt
 have hBW2:Below W.heap.size W w2:=aH HB1.out nU
 have HP0:Hid (∀o o',wJ l mb W.heap.size w1.heap.size rb w2.heap.size cap (h.start::h.bg) [] ((w2.alloc o).alloc o')):=Lib.hid (fun o o'=>
  ⟨(Below.heap_alloc _ _ _ (by simp;omega)).trans ((Below.heap_alloc _ _ _ (by omega)).trans aaP),
    ql.kept (W:=w2) ⟨hbx2,hrl2⟩ ((Below.heap_alloc _ _ _ (by simp;omega)).trans (Below.heap_alloc _ _ _ (by omega))) ((Below.heap_alloc _ _ _ (by simp;omega)).trans (Below.heap_alloc _ _ _ (by omega))),by simp,
    fun p hp=>by simp at hp⊢;omega⟩)
 have HJ0:Hid (∀o o',J (Jm mb W.heap.size w1.heap.size rb w2.heap.size++[]) (some (cnt h out 0)) ((w2.alloc o).alloc o')):=Lib.hid (fun o o'=>by
  have hBW:Below W.heap.size W ((w2.alloc o).alloc o'):=af (af hBW2 _) _
  exact HST.out _ _ _ _ _ HJ.out (Ext.of_below hBW) (fun m hm=>by simp at hm⊢;omega) (HT.out.work.cache.kept (hBW.block mb hmb)))
 clear hw2 hbx2 aaP hrl2 nU
 refine jT (Oy (h.start::h.bg) ?hR (by simp;omega) w1.heap.size (.slice (some ⟨rb,0,none⟩) (h.bg.length+1) cap)) rfl (enters_of Tryz.func275 (by kernel_rfl) rfl) rfl (by simp)
  (fun Ms k W'=>wJ l mb W.heap.size w1.heap.size rb w2.heap.size cap (h.start::h.bg) Ms W'/\J (Jm mb W.heap.size w1.heap.size rb w2.heap.size++Ms) (some (cnt h out k)) W')
  (fun c Ms W'=>c= .ret/\wJ l mb W.heap.size w1.heap.size rb w2.heap.size cap (h.start::h.bg) Ms W'/\J (Jm mb W.heap.size w1.heap.size rb w2.heap.size++Ms) none W')
  ?hInv ?pz ?hI ?hIx ?Nl ?uK (fun o o'=>⟨HP0.out o o',HJ0.out o o'⟩)
  (fun a Ms k W1 a₁ W'=> ∃ob:Nat,a₁={tmps:=(a.tmps.setIfInBounds 16 (.slice (some ⟨ob,0,none⟩) (h.bg.length+1) (h.bg.length+1))).setIfInBounds 4 (.slice (some ⟨ob,0,none⟩) (h.bg.length+1) (h.bg.length+1)),defers:=[]}/\
    wJ l mb W.heap.size w1.heap.size rb w2.heap.size cap (h.start::h.bg) Ms W'/\J (Jm mb W.heap.size w1.heap.size rb w2.heap.size++Ms) (some (cnt h out k)) W'/\ob∈Ms/\W'.heap[ob]? =some (.cells (intCells ((allL h).getD k [])).toArray 3 (0,0))/\
    (∀m∈Ms,W'.heap[m]? =W1.heap[m]?)/\W1.heap.size<=W'.heap.size)
  ?O4 ?hassign ?hbody ?hdone ?hstop
 case hR=>
  intro r hr
  have hS:=mG.out
  rcases List.mem_cons.1 hr with rfl|hr
  ·exact⟨hS.QY,hS.QX,hS.QW⟩
  ·have:=hS.bg r hr;omega
 case hInv=>rintro Ms k W' ⟨hp,_⟩;exact hp.box
 case pz=>rintro c Ms W' ⟨_,hp,_⟩;exact hp.box
 case hI=>rintro Ms Ms' k Wa Wb ⟨hp,hJ⟩ hE hMs _;exact⟨hp.ext hE hMs,Nw HI.out HST.out hp hJ hE hMs⟩
 case hIx=>rintro c Ms Ms' Wa Wb ⟨hc,hp,hJ⟩ hE hMs _;exact⟨hc,hp.ext hE hMs,Nw HI.out HST.out hp hJ hE hMs⟩
 case Nl=>
  rintro Ms k W' r o ⟨hp,hJ⟩ hr
  exact⟨hp.kept (by simp) (fun p hp'=>World.putObj_heap_other (by simp at hp';omega)) (fun m hm=> .inl hm),Je HI.out HST.out o (by simp;omega) (by omega) hJ⟩
 case uK=>
  rintro c Ms W' r o ⟨hc,hp,hJ⟩ hr
  exact⟨hc,hp.kept (by simp) (fun p hp'=>World.putObj_heap_other (by simp at hp';omega)) (fun m hm=> .inl hm),Je HI.out HST.out o (by simp;omega) (by omega) hJ⟩
 case O4=>
  rintro Ms k W1 a₁ W' o ⟨ob,ha,hp,hJ,hob,hcells,hk,hs⟩
  have hne: ∀m∈Ms,m≠w2.heap.size+1:=fun m hm e=>hp.apart m hm (by simp;omega)
  exact⟨ob,ha,hp.kept (by simp) (fun p hp'=>World.putObj_heap_other (by simp at hp';omega)) (fun m hm=> .inl hm),Je HI.out HST.out o (by simp) (by omega) hJ,hob,
   (World.putObj_heap_other (hne _ hob)).trans hcells,fun m hm=>(World.putObj_heap_other (hne m hm)).trans (hk m hm),by simpa using hs⟩
 case hassign=>
  rintro Ms k v W' hk ⟨hp,hJ⟩ ⟨ob,rfl,hcells,hob⟩ hlt
  have hlen:((dC (h.start::h.bg))[k]).length=h.bg.length+1:=N8 _ _ (List.getElem_mem _)
  rw[hlen]
  gi_wp2
  refine⟨⟨ob,rfl,hp,hJ,hob,?_,fun m hm=>trivial,Nat.le_refl _⟩,trivial,trivial⟩
  have hk':k<(allL h).length:=hk
  rw[show(allL h).getD k []=(dC (h.start::h.bg))[k] from by rw[List.getD_eq_getElem?_getD,List.getElem?_eq_getElem hk'];rfl]
  exact hcells
 case hdone=>
  rintro Ms W' ⟨hp,hJ⟩ hD hlt
  gi_wp2
  refine⟨by simp,.inl ⟨_,_,rfl,run_takeDeferred hD,?_⟩⟩
  refine⟨_,results_none rfl _ _ _,⟨_,rfl⟩,Jm mb W.heap.size w1.heap.size rb w2.heap.size++Ms,.inl ?_⟩
  have:=Je HI.out HST.out (Obj.deferred none) (r:=w2.heap.size) (by simp) (by omega) hJ
  rw[<-WG]
  exact this
 case hstop=>
  rintro c Ms W' ⟨rfl,hp,hJ⟩ hD hlt
  gi_wp2
  refine⟨by simp,.inl ⟨_,_,rfl,run_takeDeferred hD,?_⟩⟩
  refine⟨_,results_none rfl _ _ _,⟨_,rfl⟩,Jm mb W.heap.size w1.heap.size rb w2.heap.size++Ms,.inr ?_⟩
  exact Je HI.out HST.out (Obj.deferred none) (r:=w2.heap.size) (by simp) (by omega) hJ
 case hbody=>
  rintro Ms k W1 a₁ W' busy hk ⟨ob,rfl,hp,hJ,hob,hcells,hkeep,hsz⟩ hrec hD
  simp only[List.setIfInBounds_toArray,List.set_cons_succ,List.set_cons_zero]
  have hTI:=HI.out _ _ _ hJ
  have hk':k<(allL h).length:=hk
  have hxm:(allL h).getD k []∈allL h:=by rw[List.getD_eq_getElem?_getD,List.getElem?_eq_getElem hk'];exact List.getElem_mem _
  have hxk:(allL h).getD k []=(allL h)[k]:=by rw[List.getD_eq_getElem?_getD,List.getElem?_eq_getElem hk'];rfl
  obtain⟨s0,rest,hx,hrl,hs0,hrest⟩:=zI mG.out hxm
  rw[hx] at hcells
  have hcell0:=ed hcells (k:=0) (by simp)
  simp only[List.getElem_cons_zero] at hcell0
  have aij:=World.block_lt_of_cell? W' _ hcell0
  have aaV:aN W' (.slice (some ⟨ob,1,none⟩) h.bg.length h.bg.length) rest:=by
   refine⟨by simp[intCells],_,_,by rw[hrl],Nat.le_refl _,by simp[maxLen];omega,(fun h=>by cases h),fun a ha=>?_⟩
   cases ha
   refine⟨rfl,fun j u hj=>?_⟩
   simp only[World.cell?,hcells]
   rw[show(1+j)=j+1 from by omega]
   simpa [intCells] using hj
  have hn1:1<=h.bg.length:=by have:=mG.out.Jt;have:=mG.out.Sr;omega
  have hnI:(1:Int)<=((h.bg.length+1:Nat):Int):=by omega
  have hne0: ¬h.bg.length=0:=by omega
  have hwI:((h.bg.length:Int)+1).toNat=h.bg.length+1:=by omega
  have HX:Hid ((allL h)[k]=s0::rest):=Lib.hid (by rw[<-hxk];exact hx)
  have HTI:=Lib.hid hTI
  have HP:=Lib.hid hp
  have HJb:=Lib.hid hJ
  have HCL:=Lib.hid hcells
  have HRC:=Lib.hid (And.intro hrec hD)
  have HKP:=Lib.hid hkeep
  have HSR:=Lib.hid aaV
  have Jp:=Lib.hid (And.intro hs0 hrest)
  have aef:=JL ob h.bg.length hn1
  clear hTI hxm hxk hx hcells hp hJ hrec hD hkeep aaV hrest
  gi_wp2_with fail
  refine bY 7 [] none [(6,Spec.block W'.heap.size #[iv 0,.slice none 0 0] 250)] (by kernel_rfl) (by kernel_rfl) (by kernel_rfl) ?_
  simp only[zt]
  repeat (refine zd ?_;simp only[zp])
  refine gW W'.heap.size _ _ (by rfl) (Nat.le_refl _) (by rfl) (by simp) (by simp) (fun W hW=>by go_simp;try rfl) (fun b5=>?_)
  simp only[zp]
  intro W3 hE hF
  obtain⟨b',hb,hbB,hblk⟩:=hF _ (List.Mem.head _)
  cases hb
  have hfr:=aX hblk
  have hb5:=(Array.getElem?_eq_some_iff.1 hblk).1
  have hg: ∀i,W3.cell? ⟨b5,i,none⟩=(#[iv 0,.slice none 0 0]:Array Value)[i]? :=fun i=>by
   simp only[World.cell?,hblk];rfl
  have UQ:=Lib.hid hE.below
  have lD:=Lib.hid hblk
  clear hblk hF hE aef hcell0
  gi_wp2_with fail
  obtain⟨W4,O3⟩: ∃W4,(W3.setCell ⟨b5,0,none⟩ (iv s0)).setCell ⟨b5,1,none⟩ (.slice (some ⟨ob,1,none⟩) h.bg.length h.bg.length)=W4:=⟨_,rfl⟩
  rw[O3]
  have hB4:Below W'.heap.size W' W4:=by rw[<-O3];exact gm (gm UQ.out hbB _) hbB _
  have hblk5:W4.heap[b5]? =some (.cells #[iv s0,.slice (some ⟨ob,1,none⟩) h.bg.length h.bg.length] 250 (0,0)):=by rw[<-O3];exact ak (ak lD.out _) _
  have TN:=HTI.out.below hB4
  have c1:=ay TN.w
  have hb1:=World.block_lt_of_cell? W4 _ c1
  have c2:=TN.work.cell
  have hb2:=TN.work.lt
  have aeU:=(Array.getElem?_eq_some_iff.1 hblk5).1
  have hg5: ∀i,W4.cell? ⟨b5,i,none⟩=(#[iv s0,.slice (some ⟨ob,1,none⟩) h.bg.length h.bg.length]:Array Value)[i]? :=fun i=>by
   simp only[World.cell?,hblk5];rfl
  have hn1':=J8 TN.work.cache TN.w
  have aiq:=J8 TN.work.cache TN.work.cells
  have aep:=J8 TN.work.cache hblk5
  have aa9:=TN.work.cache.lt
  obtain⟨ys,hy⟩: ∃ys,rD h (s0,rest) h.turns=ys:=⟨_,rfl⟩
  have ED:ys.length=10:=by rw[<-hy];exact jF _ _ _ _ _ _
  have HYY:=Lib.hid hy
  have HT4:=Lib.hid TN
  have HB4:=Lib.hid hB4
  have WY:=Lib.hid hblk5
  clear TN hB4 hblk5 O3 hy hfr hg hb5
  refine bY 9 [mb] (some 7) [(7,⟨fun _ v=>v= .agg (intCells ys).toArray,fun _ _ W=>Cache W mb h.aY⟩),(8,Spec.block W4.heap.size #[iv 0,iv 0,iv 0,iv 0,iv 0,iv 0,iv 0,iv 0,iv 0,iv 0] 212)] (by kernel_rfl) (by kernel_rfl) (by kernel_rfl) ?_
  simp only[zt]
  repeat (refine zd ?_;simp only[zp])
  refine aP _ (by rfl) (by rfl) ⟨_,rfl⟩ (fun W5 hE hF=>?_) (fun v Wa Wb hc hE=>?_) (fun v hv=>?_)
  ·have hE':Ext [] W4 W5:=hE
   refine bU 197 #[.pointer (some ⟨wb,0,none⟩),.agg #[iv s0,.slice (some ⟨ob,1,none⟩) h.bg.length h.bg.length],.slice otn h.turns.length cb] (by go_simp;try rfl) ?_
   have hT5:=HT4.out.below hE'.below
   refine(vH h _ _ _ wb mb s0 rest h.turns _ _ W5 hT5.work (HSR.out.below (aH HB4.out hE'.below) (Nat.le_refl _)) hT5.turns (by omega) mG.out.Q4 mG.out.Q3 mG.out.Uj mG.out.Ui Jp.out.1.1 Jp.out.1.2 Jp.out.2).mono ?_
   rintro e W6 ⟨rfl,hcc,hE2⟩
   exact⟨_,rfl,by rw[HYY.out],hcc,hE2⟩
  ·have hE':Ext [] Wa Wb:=hE
   exact Cache.kept hc (hE'.block mb (Cache.lt hc) (by simp))
  obtain rfl:v= .agg (intCells ys).toArray:=hv
  simp only[zp]
  refine gW W4.heap.size _ _ (by rfl) (Nat.le_refl _) (by rfl) (by simpa using aa9) (by simp) (fun W hW=>by go_simp;try rfl) (fun b6=>?_)
  simp only[zp]
  intro W5 hE hF
  obtain⟨b',hb,aiW,hblk⟩:=hF _ (List.Mem.head _)
  cases hb
  have hcc:Cache W5 mb h.aY:=hF _ (List.Mem.tail _ (List.Mem.head _))
  obtain⟨W6,hst,hblk6,yA⟩:=xM Tryz.prog ys hblk (by rw[ED];rfl)
  have hyl:(intCells ys).length=10:=by simp[intCells,ED]
  have air:mb<W4.heap.size:=aa9
  have TR:Ext [mb] W' W6:=CY ((Ext.of_below HB4.out).trans hE) yA (by have:=HB4.out.size;omega)
  have abC:Cache W6 mb h.aY:=hcc.kept (yA.block mb (Cache.lt hcc) (by simp;omega))
  have hJ6:=WU HI.out HST.out HJb.out TR abC
  have V7:=HI.out _ _ _ hJ6
  have hP6:wJ l mb W.heap.size w1.heap.size rb w2.heap.size cap (h.start::h.bg) Ms W6:=HP.out.kept TR.size (fun p hp=>TR.block p (HP.out.small p (by simp at hp⊢;omega)) (by simp at hp⊢;omega)) (fun m hm=> .inl hm)
  have hblk5:=(yA.block b5 (by have:=hE.size;omega) (by simp;omega)).trans ((hE.block b5 aeU (by simpa using aep)).trans WY.out)
  have c1:=ay V7.w
  have c2:=V7.work.cell
  have hs1:=World.block_lt_of_cell? W6 _ c1
  have hs2:=V7.work.lt
  have HJ6:=Lib.hid hJ6
  have Z8:=Lib.hid V7
  have HP6:=Lib.hid hP6
  have WY:=Lib.hid hblk5
  have HE6:=Lib.hid TR
  have HK6:=Lib.hid hblk6
  clear hblk hF hE hcc hg5 hblk6 yA TR abC hJ6 V7 hP6 hblk5
  gi_wp2_with fail
  clear c1 c2
  have afw:=Lib.hid ED
  gi_loopw [7,37] (fun r u wr=> ∃q:Nat,q<=h.readings.length/\u= .int .i64 q/\r= .bool ((List.range q).all (J3 h out (s0,rest)))/\Below W6.heap.size W6 wr)
   (fun _ u _=>h.readings.length-(intOf u).toNat)
  case atStart=>exact⟨0,Nat.zero_le _,rfl,rfl,Below.refl _ _⟩
  case round=>
   obtain⟨q,hq,rfl,rfl,FB⟩:=hrel
   have V6:=Z8.out.below FB
   by_cases hlt:q<h.readings.length
   ·obtain⟨b',off',rfl,hb',e0,e1,e2⟩:=aT.cell V6.readings hlt
    have hxr:=mG.out.rdg _ (List.getElem_mem hlt)
    have hok:J3 h out (s0,rest) q=(out.contains (q:Int) ||wX h.readings[q] ys):=by
     unfold J3
     rw[HYY.out,show h.readings.getD q (0,0,0)=h.readings[q] from by simp[hlt]]
    have hsucc:=jD q (J3 h out (s0,rest))
    rw[hok] at hsucc
    have aev:=mG.out.GR
    have EF:=mG.out.adQ
    have hbd6: ∀n∈ys,0<=n/\n<=100000:=by
     rw[<-HYY.out]
     intro n hn
     have:=TF (h:=h) (t:=(s0,rest)) h.turns mG.out.Q4 mG.out.Q3 mG.out.Uj mG.out.Ui Jp.out.1.1 Jp.out.1.2 Jp.out.2 (by simp;omega) n hn
     omega
    have VT:=(FB.block b6 (Array.getElem?_eq_some_iff.1 HK6.out).1).trans HK6.out
    have d1:=ay V6.o
    have hd1:=World.block_lt_of_cell? wr _ d1
    have Xz:=V6.out
    generalize h.readings[q]=x at e0 e1 e2 hxr hok hsucc
    generalize (List.range q).all (J3 h out (s0,rest))=rq at hsucc
    obtain⟨y0,y1,y2,y3,y4,y5,y6,y7,y8,y9,hys⟩:=wS afw.out
    rw[hys] at hsucc hbd6 VT
    have aiw:=(Array.getElem?_eq_some_iff.1 VT).1
    have hg6: ∀i,wr.cell? ⟨b6,i,none⟩=(#[iv y0,iv y1,iv y2,iv y3,iv y4,iv y5,iv y6,iv y7,iv y8,iv y9]:Array Value)[i]? :=fun i=>by
     simp only[World.cell?,VT];rfl
    have qA:=Lib.hid hsucc
    have HRT:=Lib.hid (fun W=>sO x y0 y1 y2 y3 y4 y5 y6 y7 y8 y9 W hxr.1.1 (by omega) hxr.2.1.1 hxr.2.1.2 hxr.2.2.1 hxr.2.2.2 hbd6)
    have HBQ:=Lib.hid FB
    have HTQ:=Lib.hid V6
    have hqI:(q:Int)<h.readings.length:=by omega
    generalize hrr:wX x [y0,y1,y2,y3,y4,y5,y6,y7,y8,y9]=rr at qA HRT
    have HCT:=Lib.hid (fun(W:World) (hb:Below wr.heap.size wr W)=>eP out (.slice oo out.length co) (q:Int) W (Xz.below hb (Nat.le_refl _)))
    generalize hcc:out.contains (q:Int)=cb at qA HCT
    clear hsucc hok hrr hcc V6 Xz FB VT hys hbd6 hxr hyl hst
    cases rq
    ·gi_wp2_with (refine Xi (by rfl) ?_;simp only[zp])
     go_roundw
     case rel=>exact⟨.bool false,_,_,.int .i64 ((q:Int)+1),⟨q+1,by omega,by go_num,by rw[qA.out];rfl,af HBQ.out _⟩,rfl,rfl,rfl,rfl⟩
     case measure=>simp[intOf];omega
    ·gi_wp2_with fail
     refine(CallsIn.inRound _ (callsIn_wide.2 (HCT.out _ zl))).mono ?_
     rintro e W7 ⟨rfl,hb7⟩
     obtain⟨hc7,hf7⟩:=aW hb7
     have yC:=Lib.hid hb7
     have hz7:=hb7.size
     simp only[World.size_alloc] at hz7
     have hz8:wr.heap.size<W7.heap.size:=by omega
     clear hb7
     cases cb
     ·gi_wp2_with fail
      refine(CallsIn.inRound _ (callsIn_wide.2 (HRT.out _))).mono ?_
      rintro e W8 ⟨rfl,hb8⟩
      have lQ:=Lib.hid hb8
      clear hb8
      gi_wp2_with fail
      go_roundw
      case rel=>exact⟨q+1,by omega,by go_num,by rw[qA.out];rfl,aH (aH (af HBQ.out _) yC.out) lQ.out⟩
      case measure=>simp[intOf];omega
     ·gi_wp2_with fail
      go_roundw
      case rel=>exact⟨q+1,by omega,by go_num,by rw[qA.out];rfl,aH (af HBQ.out _) yC.out⟩
      case measure=>simp[intOf];omega
   ·have hql:q=h.readings.length:=by omega
    have Yz:(List.range q).all (J3 h out (s0,rest))=Xj h out (NI (allL h)[k]):=by rw[HX.out,hql];rfl
    rw[Yz]
    have hEr:Ext [mb] W' wr:=HE6.out.trans (Ext.of_below FB)
    have hJr:=HST.out _ _ _ _ _ HJ6.out (Ext.of_below FB) (fun m hm=> .inl hm) V6.work.cache
    have hPr:wJ l mb W.heap.size w1.heap.size rb w2.heap.size cap (h.start::h.bg) Ms wr:=HP6.out.kept FB.size (fun p hp=>FB.block p (HP6.out.small p (by simp at hp⊢;omega))) (fun m hm=> .inl hm)
    have hrec:=(hEr.block _ (Array.getElem?_eq_some_iff.1 HRC.out.1).1 (by simp;omega)).trans HRC.out.1
    have hdef:=(hEr.block _ (Array.getElem?_eq_some_iff.1 HRC.out.2).1 (by simp;omega)).trans HRC.out.2
    have hkp: ∀m∈Ms,m∉([]:List Nat)->m<W1.heap.size->wr.heap[m]? =W1.heap[m]? :=fun m hm _ hml=>
     (hEr.block m (by omega) (by have:=HP.out.apart m hm;simp at this⊢;omega)).trans (HKP.out m hm)
    have aec:W1.heap.size<=wr.heap.size:=by have:=hEr.size;omega
    have HJR:=Lib.hid hJr
    have HPR:=Lib.hid hPr
    have WW:=Lib.hid (And.intro hrec (And.intro hdef (And.intro hkp aec)))
    have HTQ:=Lib.hid V6
    have HBQ:=Lib.hid FB
    have HER:=Lib.hid hEr
    cases hpv:Xj h out (NI (allL h)[k])
    ·have HPV:=Lib.hid hpv
     clear hpv Yz hJr hPr hrec hdef hkp V6 FB hEr hyl hst
     gi_wp2_with (refine Xi (by rfl) ?_;simp only[zp])
     exact⟨WW.out,HPR.out,by rw[Zh hk' HPV.out];exact HJR.out⟩
    ·obtain⟨hcn,hcx⟩:=JB hk' hpv
     have hcy:=Wy hk' hpv
     have aaU:aN wr (.slice (some ⟨ob,1,none⟩) h.bg.length h.bg.length) rest:=by
      refine HSR.out.kept fun b off n c hv hlt'=>hEr.block b hlt' ?_
      cases hv
      have:=HP.out.apart ob hob
      simp at this⊢;omega
     have aem:ob≠mb:=by have:=HP.out.apart ob hob;simp at this;omega
     obtain⟨f1,t1,a1,bd1,hy1,hR1⟩:=HY.out (Jm mb W.heap.size w1.heap.size rb w2.heap.size++Ms) (cnt h out k) (.agg #[iv s0,.slice (some ⟨ob,1,none⟩) h.bg.length h.bg.length]) wr hcn HJR.out
      (by rw[hcx,HX.out];exact⟨ob,by simp[NI,hrl],by simpa [NI,hrl] using aaU,List.mem_append_right _ hob,aem⟩)
     have d0:=ay hPr.y
     have hd0:=World.block_lt_of_cell? wr _ d0
     have YM:=(FB.block b5 (Array.getElem?_eq_some_iff.1 WY.out).1).trans WY.out
     have hd5:=(Array.getElem?_eq_some_iff.1 YM).1
     have aiI: ∀i,wr.cell? ⟨b5,i,none⟩=(#[iv s0,.slice (some ⟨ob,1,none⟩) h.bg.length h.bg.length]:Array Value)[i]? :=fun i=>by
      simp only[World.cell?,YM];rfl
     have HR1:=Lib.hid hR1
     have HCY:=Lib.hid hcy
     have acL:=Lib.hid (And.intro (Array.getElem?_eq_some_iff.1 hrec).1 (Array.getElem?_eq_some_iff.1 hdef).1)
     clear hpv Yz hJr hPr hrec hdef hkp V6 FB hEr hyl hst aaU hcx YM hR1 hcy
     gi_wp2_with fail
     refine HR1.out.mono ?_
     rintro e W8 ⟨⟨hkeep,aed⟩,⟨rfl,hJ8⟩|⟨rfl,hJ8⟩⟩
     all_goals
      have HJ8:=Lib.hid hJ8
      have AQ:wJ l mb W.heap.size w1.heap.size rb w2.heap.size cap (h.start::h.bg) Ms W8:=HPR.out.kept aed (fun p hp=>hkeep p (List.mem_append_left _ (by simp at hp⊢;omega)) (by simp at hp⊢;omega) (HPR.out.small p (by simp at hp⊢;omega))) (fun m hm=> .inl hm)
      have hq8:W8.heap[w2.heap.size+1]? =some (.loop busy)/\W8.heap[w2.heap.size]? =some (.deferred (some []))/\(∀m∈Ms,m∉([]:List Nat)->m<W1.heap.size->W8.heap[m]? =W1.heap[m]?)/\W1.heap.size<=W8.heap.size:=
       ⟨(hkeep _ (by simp) (by simp;omega) acL.out.1).trans WW.out.1,(hkeep _ (by simp) (by simp;omega) acL.out.2).trans WW.out.2.1,
         fun m hm h0 hml=>(hkeep m (List.mem_append_right _ hm) (by have:=HP.out.apart m hm;simp at this⊢;omega) (by omega)).trans (WW.out.2.2.1 m hm h0 hml),by omega⟩
      have Dq:=Lib.hid AQ
      have HQ8:=Lib.hid hq8
      clear hJ8 AQ hq8 hkeep hy1
     ·gi_wp2_with fail
      exact⟨HQ8.out,Dq.out,by rw[HCY.out];exact HJ8.out⟩
     ·gi_wp2_with fail
      exact⟨HQ8.out,rfl,Dq.out,HJ8.out⟩
end Go.Proofs.YtabpkkbiioihaaaGreatDoor.kK
namespace Go.Proofs.YtabpkkbiioihaaaGreatDoor.kK
open Go.RowKit Go.RG Go.SL Go.Shelf gZ
attribute [local go_sem] Oper.semAt_some
theorem yR (wb:Nat) (o:Option Addr) (n c:Nat) (w:World):
 Calls Tryz.prog 196 #[.pointer (some ⟨wb,0,none⟩),.slice o n c] w (fun e w'=>e= .returned (.func (.func 244) #[] #[.pointer (some ⟨w.heap.size,0,none⟩),.pointer (some ⟨w.heap.size+1,0,none⟩)])/\
  w'=(w.alloc (.cells #[.pointer (some ⟨wb,0,none⟩)] 205)).alloc (.cells #[.slice o n c] 36)):=by
 go_enter Tryz.func196,Tryz.ntmps196
 go_wp2
 go_returns
 exact⟨by simp,rfl⟩
structure Fr (w:World) (mb:Nat) (aY:Int) (Os Ms:List Nat) (W:World):Prop where
 ext:Ext [mb] w W
 old: ∀m∈Ms,m=mb∨w.heap.size<=m
 bnd: ∀m∈Ms,m<W.heap.size
 apart: ∀b∈Os,b∉Ms/\b<W.heap.size
 cache:Cache W mb aY
theorem Fr.step {w:World} {mb:Nat} {aY:Int} {Os Ms Ms':List Nat} {W1 W2:World} (h:Fr w mb aY Os Ms W1) (hE:Ext Ms W1 W2) (hMs: ∀m∈Ms',m∈Ms∨(W1.heap.size<=m/\m<W2.heap.size)) (hc:Cache W2 mb aY):
 Fr w mb aY Os Ms' W2/\ ∀b∈Os,W2.heap[b]? =W1.heap[b]? :=by
 refine⟨⟨⟨hE.os.trans h.ext.os,hE.tape.trans h.ext.tape,hE.output.trans h.ext.output,Nat.le_trans h.ext.size hE.size,fun k hk hm=>?_⟩,fun m hm=>?_,fun m hm=>?_,fun b hb=>?_,hc⟩,fun b hb=>hE.block b (h.apart b hb).2 (h.apart b hb).1⟩
 ·refine(hE.block k (Nat.lt_of_lt_of_le hk h.ext.size) (fun hk'=>?_)).trans (h.ext.block k hk hm)
  rcases h.old k hk' with h1|h1
  ·exact hm (by simp[h1])
  ·omega
 ·rcases hMs m hm with h1|h1
  ·exact h.old m h1
  ·exact .inr (Nat.le_trans h.ext.size h1.1)
 ·rcases hMs m hm with h1|h1
  ·exact Nat.lt_of_lt_of_le (h.bnd m h1) hE.size
  ·exact h1.2
 ·refine⟨fun hb'=>?_,Nat.lt_of_lt_of_le (h.apart b hb).2 hE.size⟩
  rcases hMs b hb' with h1|h1
  ·exact(h.apart b hb).1 h1
  ·have:=(h.apart b hb).2;omega
theorem Fr.own {w:World} {mb:Nat} {aY:Int} {Os Ms:List Nat} {W1 W2:World} (h:Fr w mb aY Os Ms W1) (hE:Ext [mb] w W2) (hs:W1.heap.size<=W2.heap.size) (hc:Cache W2 mb aY):Fr w mb aY Os Ms W2:=
 ⟨hE,h.old,fun m hm=>Nat.lt_of_lt_of_le (h.bnd m hm) hs,fun b hb=>⟨(h.apart b hb).1,Nat.lt_of_lt_of_le (h.apart b hb).2 hs⟩,hc⟩
theorem Fr.XY {w:World} {wb mb bw bo:Nat} {h:bF} {a b c ov:Value} {out:List Int} {Os Ms:List Nat} {W:World} (hF:Fr w mb h.aY Os Ms W)
 (hw:gq w wb mb h a b c) (h1:bn w a h.bg) (h2:aN w b h.turns) (h3:aT w c h.readings) (h4:aN w ov out)
 (hb1:W.heap[bw]? =some (.cells #[.pointer (some ⟨wb,0,none⟩)] 205 (0,0))) (hb2:W.heap[bo]? =some (.cells #[ov] 36 (0,0))):Qb wb mb bw bo h a b c ov out W:=by
 have hm: ∀x∈[mb], ∀o,w.cell? ⟨x,o,none⟩=none:=fun x hx o=>by
  have:x=mb:=by simpa using hx
  subst this
  exact hw.cache.noCell o
 exact⟨hb1,hb2,hw.ext hF.ext hF.cache,h1.gQ hF.ext hm,h2.gQ hF.ext hm,h3.gQ hF.ext hm,h4.gQ hF.ext hm⟩
theorem Fr.put {w:World} {mb:Nat} {aY:Int} {Os Ms:List Nat} {W:World} (h:Fr w mb aY Os Ms W) {r:Nat} (o:Obj) (hr:w.heap.size<=r) (hm:mb<w.heap.size):Fr w mb aY Os Ms (W.putObj r o):=
 h.own ⟨h.ext.os,h.ext.tape,h.ext.output,by simpa using h.ext.size,fun k hk hn=>(World.putObj_heap_other (by omega)).trans (h.ext.block k hk hn)⟩ (by simp) (h.cache.kept (World.putObj_heap_other (by omega)))
structure Pos (w:World) (wb:Nat) (ov:Value) (r:Bool) (W:World):Prop where
 res:W.heap[w.heap.size]? =some (.cells #[.bool r] 4 (0,0))
 b1:W.heap[w.heap.size+1]? =some (.cells #[.pointer (some ⟨wb,0,none⟩)] 205 (0,0))
 b2:W.heap[w.heap.size+1+1]? =some (.cells #[ov] 36 (0,0))
theorem Pos.kept {w:World} {wb:Nat} {ov:Value} {r:Bool} {W W':World} (h:Pos w wb ov r W) (hk: ∀b∈[w.heap.size,w.heap.size+1,w.heap.size+1+1],W'.heap[b]? =W.heap[b]?):Pos w wb ov r W':=
 ⟨(hk _ (by simp)).trans h.res,(hk _ (by simp)).trans h.b1,(hk _ (by simp)).trans h.b2⟩
theorem mf (h:bF) (hS:Sound h) (a b c ov:Value) (out:List Int) (wb mb:Nat) (w:World) (hw:gq w wb mb h a b c) (h1:bn w a h.bg) (h2:aN w b h.turns) (h3:aT w c h.readings) (h4:aN w ov out):
 Calls Tryz.prog 195 #[.pointer (some ⟨wb,0,none⟩),ov] w (fun e w'=>e= .returned (.bool (!(dN h out).isEmpty))/\Cache w' mb h.aY/\Ext [mb] w w'):=by
 obtain⟨oo,co,rfl⟩:=h4.open
 have HW:=Lib.hid hw
 have H1:=Lib.hid h1
 have H2:=Lib.hid h2
 have H3:=Lib.hid h3
 have H4:=Lib.hid h4
 have mG:=Lib.hid hS
 have hmb:=hw.cache.lt
 clear hw h1 h2 h3 h4 hS
 refine(callsIn_wide (n:=0)).1 ?_
 refine callsIn_of_wp_marks Tryz.func195 rfl trivial ?_
 simp only[Tryz.ntmps195,List.size_toArray,List.length_cons,List.length_nil,Nat.reduceAdd,Nat.reduceSub,Array.replicate_succ,Array.replicate_zero,List.push_toArray,List.append_toArray,List.nil_append,List.cons_append]
 gi_wp2_with fail
 refine(callsIn_wide.2 (yR wb _ _ _ _)).mono ?_
 rintro e w1 ⟨rfl,rfl⟩
 gi_wp2_with fail
 obtain⟨w2,hw2⟩: ∃w2,(((w.alloc (.cells #[.bool false] 4)).alloc (.cells #[.pointer (some ⟨wb,0,none⟩)] 205)).alloc (.cells #[.slice oo out.length co] 36))=w2:=⟨_,rfl⟩
 have hB2:Below w.heap.size w w2:=by rw[<-hw2];exact zl
 have hsz2:w2.heap.size=w.heap.size+3:=by rw[<-hw2];simp
 have hP2:Pos w wb (.slice oo out.length co) false w2:=by
  rw[<-hw2]
  exact⟨(Below.heap_alloc _ _ _ (by simp;omega)).trans ((Below.heap_alloc _ _ _ (by simp)).trans (ag _ _)),(Below.heap_alloc _ _ _ (by simp)).trans (dL _ _ _),fJ _ _ _ _⟩
 rw[hw2]
 clear hw2
 refine jT (yQ h mG.out a b c (.slice oo out.length co) out wb mb (w.heap.size+1) (w.heap.size+1+1)) rfl (enters_of Tryz.func244 (by kernel_rfl) rfl) rfl (by simp;omega)
  (fun Ms k W=>k=0/\Fr w mb h.aY [w.heap.size,w.heap.size+1,w.heap.size+1+1,w2.heap.size,w2.heap.size+1] Ms W/\Pos w wb (.slice oo out.length co) false W)
  (fun cd Ms W=>(cd= .ret/\(dN h out).isEmpty=false)/\Fr w mb h.aY [w.heap.size,w.heap.size+1,w.heap.size+1+1,w2.heap.size,w2.heap.size+1] Ms W/\Pos w wb (.slice oo out.length co) true W)
  ?hInv ?pz ?hI ?hIx ?Nl ?uK ?h0
  (fun a Ms k W1 a₁ W=> ∃v,a₁={tmps:=a.tmps.setIfInBounds 8 v,defers:=[]}/\(Fr w mb h.aY [w.heap.size,w.heap.size+1,w.heap.size+1+1,w2.heap.size,w2.heap.size+1] Ms W/\Pos w wb (.slice oo out.length co) false W)/\(∀m∈Ms,m∉[mb]->W.heap[m]? =W1.heap[m]?)/\W1.heap.size<=W.heap.size)
  ?O4 ?hassign ?hbody ?hdone ?hstop
 case hInv=>rintro Ms k W ⟨_,hF,hP⟩;exact hF.XY HW.out H1.out H2.out H3.out H4.out hP.b1 hP.b2
 case pz=>rintro cd Ms W ⟨_,hF,hP⟩;exact hF.XY HW.out H1.out H2.out H3.out H4.out hP.b1 hP.b2
 case hI=>rintro Ms Ms' k Wa Wb ⟨h0,hF,hP⟩ hE hMs hc;exact⟨h0,(hF.step hE hMs hc).1,hP.kept (fun b hb=>(hF.step hE hMs hc).2 b (by simp at hb⊢;omega))⟩
 case hIx=>rintro cd Ms Ms' Wa Wb ⟨h0,hF,hP⟩ hE hMs hc;exact⟨h0,(hF.step hE hMs hc).1,hP.kept (fun b hb=>(hF.step hE hMs hc).2 b (by simp at hb⊢;omega))⟩
 case Nl=>rintro Ms k W r o ⟨h0,hF,hP⟩ hr;exact⟨h0,hF.put o (by omega) hmb,hP.kept (fun b hb=>World.putObj_heap_other (by simp at hb;omega))⟩
 case uK=>rintro cd Ms W r o ⟨h0,hF,hP⟩ hr;exact⟨h0,hF.put o (by omega) hmb,hP.kept (fun b hb=>World.putObj_heap_other (by simp at hb;omega))⟩
 case h0=>
  intro o o'
  have hB:Below w.heap.size w ((w2.alloc o).alloc o'):=af (af hB2 _) _
  exact⟨rfl,⟨Ext.of_below hB,fun m hm=> .inl (by simpa using hm),fun m hm=>(by have:=hB.size;simp at hm;omega),fun b hb=>⟨by simp at hb⊢;omega,by simp at hb⊢;omega⟩,HW.out.cache.kept (hB.block mb hmb)⟩,
   hP2.kept (fun b hb=>(Below.heap_alloc _ _ _ (by simp at hb⊢;omega)).trans (Below.heap_alloc _ _ _ (by simp at hb;omega)))⟩
 case O4=>
  rintro Ms k W1 a₁ W o ⟨v,ha,⟨hF,hP⟩,hk,hs⟩
  refine⟨v,ha,⟨hF.put o (by omega) hmb,hP.kept (fun b hb=>World.putObj_heap_other (by simp at hb;omega))⟩,fun m hm h0=>?_,by simpa using hs⟩
  exact(World.putObj_heap_other (fun e:m=w2.heap.size+1=>(hF.apart (w2.heap.size+1) (by simp)).1 (by rw[<-e];exact hm))).trans (hk m hm h0)
 case hassign=>
  rintro Ms k v W hk ⟨h0,hF,hP⟩ hE hlt
  gi_wp2
  exact⟨⟨v,by simp,⟨hF,hP⟩,fun _ _ _=>trivial,Nat.le_refl _⟩,trivial,trivial⟩
 case hbody=>
  rintro Ms k W1 a₁ W busy hk ⟨v,rfl,⟨hF,hP⟩,hkeep,hsz⟩ hrec hD
  have hne:(dN h out).isEmpty=false:=by
   cases hl:dN h out with
   |nil=>rw[hl] at hk;simp at hk
   |cons x l=>rfl
  have hc:=ay hP.res
  have hf:=aX hP.res 0
  have HF:=Lib.hid hF
  have HP:=Lib.hid hP
  have HQ:=Lib.hid (And.intro hrec (And.intro hD (And.intro hkeep hsz)))
  clear hF hP hrec hD hkeep
  simp only[List.setIfInBounds_toArray,List.set_cons_succ,List.set_cons_zero]
  gi_wp2_with fail
  refine⟨⟨(Below.heap_setCell _ _ _ _ (by show w2.heap.size+1≠w.heap.size;omega)).trans HQ.out.1,(Below.heap_setCell _ _ _ _ (by show w2.heap.size≠w.heap.size;omega)).trans HQ.out.2.1,fun m hm h0 _=>?_,by simpa [World.setCell] using hsz⟩,
   ⟨rfl,hne⟩,HF.out.own (HF.out.ext.set (Nat.le_refl _) _) (by simp[World.setCell]) (HF.out.cache.kept (Below.heap_setCell _ _ _ _ (by show mb≠w.heap.size;omega))),
   ⟨ak HP.out.res _,(Below.heap_setCell _ _ _ _ (by show w.heap.size+1≠w.heap.size;omega)).trans HP.out.b1,(Below.heap_setCell _ _ _ _ (by show w.heap.size+1+1≠w.heap.size;omega)).trans HP.out.b2⟩⟩
  exact(Below.heap_setCell _ _ _ _ (fun e:m=w.heap.size=>(HF.out.apart w.heap.size (by simp)).1 (by rw[<-e];exact hm))).trans (HQ.out.2.2.1 m hm h0)
 case hdone=>
  rintro Ms W ⟨h0,hF,hP⟩ hD hlt
  have hem:(dN h out).isEmpty=true:=by
   cases hl:dN h out with
   |nil=>rfl
   |cons x l=>rw[hl] at h0;simp at h0
  rw[hem]
  have hc:=ay hP.res
  have hf:=aX hP.res 0
  have HF:=Lib.hid hF
  have HP:=Lib.hid hP
  clear hF hP
  gi_wp2_with fail
  rw[hsz2] at hD
  have hD':(W.setCell ⟨w.heap.size,0,none⟩ (.bool false)).heap[w.heap.size+3]? =some (.deferred (some [])):=(Below.heap_setCell _ _ _ _ (by show w.heap.size+3≠w.heap.size;omega)).trans hD
  have hcell:((W.setCell ⟨w.heap.size,0,none⟩ (.bool false)).putObj (w.heap.size+3) (.deferred none)).cell? ⟨w.heap.size,0,none⟩=some (.bool false):=
   ay ((World.putObj_heap_other (by omega)).trans (ak HP.out.res _))
  refine⟨by simp,.inl ⟨_,_,rfl,run_takeDeferred hD',?_⟩⟩
  refine⟨.bool false,by simp[results,Tryz.results195,go_sem,hcell],by rw[hem];rfl,?_,?_⟩
  ·exact HF.out.cache.kept ((World.putObj_heap_other (by omega)).trans (Below.heap_setCell _ _ _ _ (by show mb≠w.heap.size;omega)))
  ·have:=(HF.out.own (HF.out.ext.set (p:=⟨w.heap.size,0,none⟩) (Nat.le_refl _) (.bool false)) (by simp[World.setCell]) (HF.out.cache.kept (Below.heap_setCell _ _ _ _ (by show mb≠w.heap.size;omega)))).put (Obj.deferred none) (r:=w.heap.size+3) (by omega) hmb
   exact this.ext
 case hstop=>
  rintro cd Ms W ⟨⟨rfl,hne⟩,hF,hP⟩ hD hlt
  have HF:=Lib.hid hF
  have HP:=Lib.hid hP
  clear hF hP
  gi_wp2_with fail
  have hcell:(W.putObj (w2.heap.size) (.deferred none)).cell? ⟨w.heap.size,0,none⟩=some (.bool true):=
   ay ((World.putObj_heap_other (by omega)).trans HP.out.res)
  refine⟨by simp,.inl ⟨_,_,rfl,run_takeDeferred hD,?_⟩⟩
  refine⟨.bool true,by simp[results,Tryz.results195,go_sem,hcell],by rw[hne];rfl,?_,?_⟩
  ·exact HF.out.cache.kept (World.putObj_heap_other (by omega))
  ·exact(HF.out.put (Obj.deferred none) (r:=w2.heap.size) (by omega) hmb).ext
end Go.Proofs.YtabpkkbiioihaaaGreatDoor.kK
namespace Go.Proofs.YtabpkkbiioihaaaGreatDoor.kK
open Go.RowKit Go.RG Go.SL Go.Shelf gZ
def jv (h:bF) (turns:List Int):Int:=if fault h≠0 then fault h else if jP h.last turns=false then 2 else if(dN h []).isEmpty then 11 else 0
def Xg (h:bF) (a b c:Value) (turns:List Int) (w:World) (e:Ending) (w':World):Prop:=
 Below w.heap.size w w'/\((jv h turns≠0/\e= .returned (.tuple #[.pointer none,.int .i64 (jv h turns)]))∨
  (jv h turns=0/\ ∃wb mb:Nat,e= .returned (.tuple #[.pointer (some ⟨wb,0,none⟩),.int .i64 0])/\w.heap.size<=wb/\w.heap.size<=mb/\gq w' wb mb h a b c))
theorem iF {w W W':World} {mb:Nat} (h:Below w.heap.size w W) (hE:Ext [mb] W W') (hm:w.heap.size<=mb):Below w.heap.size w W':=
 h.trans ⟨hE.os,hE.tape,hE.output,hE.size,fun k hk=>by
  by_cases hlt:k<W.heap.size
  ·exact hE.block k hlt (by simp;omega)
  ·have:=h.size;omega⟩
theorem xC (h:bF) (wv tv qC MI:Value) (turns:List Int) (w:World) (hw:bn w wv h.bg) (ht:aN w tv h.turns) (hx:aT w qC h.readings) (htr:aN w MI turns):
 Calls Tryz.prog 147 #[hv h wv tv qC,MI] w (Xg h wv tv qC turns w):=by
 obtain⟨ow,cw,rfl⟩:=hw.open
 obtain⟨ot,ct,rfl⟩:=ht.open
 obtain⟨ox,cx,rfl⟩:=hx.open
 have HW:=Lib.hid hw
 have HT:=Lib.hid ht
 have HX:=Lib.hid hx
 clear hw ht hx
 obtain⟨oq,cq,rfl⟩:=htr.open
 have HQ:=Lib.hid htr
 clear htr
 by_cases hf0:fault h=0
 case neg=>
  have he:jv h turns=fault h:=by unfold jv;rw[if_pos hf0]
  have HE:Hid (jv h turns=fault h/\jv h turns≠0):=Lib.hid ⟨he,by rw[he];exact hf0⟩
  clear he
  generalize ZY:fault h=f at*
  have HF:=Lib.hid ZY
  clear ZY
  go_enter Tryz.func147,Tryz.ntmps147
  go_wp2_with fail
  refine(check_any h _ _ _ _ (HW.out.alloc _) (HT.out.alloc _) (HX.out.alloc _)).mono ?_
  rintro e w' ⟨rfl,hb⟩
  rw[HF.out]
  go_wp2_with fail
  go_returns
  exact⟨aH (af (Below.refl _ _) _) hb,.inl ⟨HE.out.2,by rw[HE.out.1];simp⟩⟩
 have hS:=FY hf0
 obtain⟨hl0,hl9⟩:0<=h.last/\h.last<=9:=⟨hS.Sr,hS.GR⟩
 have HF:=Lib.hid hf0
 have mG:=Lib.hid hS
 clear hf0 hS
 have hask:jv h turns=if jP h.last turns=false then 2 else if(dN h []).isEmpty then 11 else 0:=by unfold jv;rw[if_neg (by rw[HF.out];simp)]
 have MH:=Lib.hid hask
 clear hask
 generalize htn:jP h.last turns=tn at MH
 have HTN:=Lib.hid htn
 clear htn
 go_enter Tryz.func147,Tryz.ntmps147
 go_wp2_with fail
 refine(check_any h _ _ _ _ (HW.out.alloc _) (HT.out.alloc _) (HX.out.alloc _)).mono ?_
 rintro e w' ⟨rfl,hb⟩
 rw[HF.out]
 obtain⟨hc,hf⟩:=aW hb
 have hz0:w.heap.size<w'.heap.size:=(by have:=hb.size;(try simp only[World.size_alloc] at this);omega)
 have HB:=Lib.hid (show Below w.heap.size w w' from aH (af (Below.refl _ _) _) hb)
 clear hb
 go_wp2_with fail
 refine(kC h _ _ _ _ turns _ (HQ.out.below HB.out (Nat.le_refl _)) hl0 hl9).mono ?_
 rintro e w3 ⟨rfl,hb⟩
 rw[HTN.out]
 have HB3:=Lib.hid (aH HB.out hb)
 obtain⟨hc3,hf3⟩:=aW hb
 clear hb
 cases tn
 ·go_wp2_with fail
  go_returns
  exact⟨HB3.out,.inl ⟨by rw[MH.out];simp,by rw[MH.out];simp⟩⟩
 go_wp2_with fail
 refine(yN h ow ot ox _ _ _ _ _ _ w3).mono ?_
 rintro e w4 ⟨wb,mb,rfl,h1,h2,h3,h4⟩
 have hsz:=HB3.out.size
 have HW4:=Lib.hid h3
 have HB4:=Lib.hid (aH HB3.out h4)
 clear h3 h4 hc hf hc3 hf3
 go_wp2_with fail
 refine(mf h mG.out _ _ _ (.slice none 0 0) [] wb mb w4 HW4.out (HW.out.below HB4.out (Nat.le_refl _)) (HT.out.below HB4.out (Nat.le_refl _)) (HX.out.below HB4.out (Nat.le_refl _)) (aB.nil 1 w4)).mono ?_
 rintro e w5 ⟨rfl,hcc,hE⟩
 have lD:=Lib.hid (iF HB4.out hE (by omega))
 have HW5:=Lib.hid (HW4.out.ext hE hcc)
 clear hcc hE
 generalize htl:(dN h []).isEmpty=em at MH
 cases em
 ·go_wp2_with fail
  go_returns
  exact⟨lD.out,.inr ⟨by rw[MH.out];simp,wb,mb,by simp,by omega,by omega,HW5.out⟩⟩
 ·go_wp2_with fail
  go_returns
  exact⟨lD.out,.inl ⟨by rw[MH.out];simp,by rw[MH.out];simp⟩⟩
end Go.Proofs.YtabpkkbiioihaaaGreatDoor.kK
namespace Go.Proofs.YtabpkkbiioihaaaGreatDoor.kK
open Go.RowKit Go.RG Go.SL Go.Shelf gZ
theorem PX (l:List Int) (v:Value) (aI:Nat) (fst caps:Array Value) (q:Int->Bool) (w:World) (hv:aN w v l) (eg: ∀args w,(callFunc aI args).run Tryz.prog w= .ok (.enter aI args) w)
 (hcall: ∀x∈l, ∀W,Below w.heap.size w W->Calls Tryz.prog aI (fst.push (iv x)++caps) W (PV (.bool (q x)) W)):
 Calls Tryz.prog 188 #[v,.func (.func aI) fst caps] w (PV (.bool (l.all q)) w):=by
 refine(allI l v aI fst caps (fun k=>q (l.getD k 0)) (fun _ W=>Below w.heap.size w W) w eg (fun k W h=>hv.below h (Nat.le_refl _)) (fun k W o h=>af h o) (fun k hk W _ h=>?_) (Below.refl _ _)).mono ?_
 ·refine(hcall l[k] (List.getElem_mem _) W h).mono ?_
  rintro e W' ⟨rfl,hb⟩
  exact⟨by simp[hk],aH h hb,gu.of_below hb⟩
 ·intro e W' hpost
  obtain⟨rfl,k,_,hI⟩:=hpost.all
  refine⟨?_,hI⟩
  rw[gY,iC]
def GI (h:bF) (n:Int):Bool:=decide (h.pI<n) ||decide (n<h.die)
def qx (h:bF) (l:List Int):Bool:=(l.take (h.last+1).toNat).all fun n=>!GI h n
theorem OE (h:bF) (a b c:Value) (n:Int) (bh:Nat) (w:World) (hb:w.heap[bh]? =some (.cells #[.int .i64 h.last,.int .i64 h.size,.int .i64 h.aY,.int .i64 h.die,.int .i64 h.pI,.int .i64 h.start.1,.int .i64 h.start.2,a,b,c] 39 (0,0))):
 Calls Tryz.prog 199 #[iv n,.pointer (some ⟨bh,0,none⟩)] w (PV (.bool (!GI h n)) w):=by
 have hc0: ∀i,w.cell? ⟨bh,i,none⟩=(#[.int .i64 h.last,.int .i64 h.size,.int .i64 h.aY,.int .i64 h.die,.int .i64 h.pI,.int .i64 h.start.1,.int .i64 h.start.2,a,b,c]:Array Value)[i]? :=fun i=>by
  simp only[World.cell?,hb];rfl
 have hlt:=(Array.getElem?_eq_some_iff.1 hb).1
 clear hb
 go_enter Tryz.func199,Tryz.ntmps199
 go_wp2_with fail
 refine(RZ h a b c n w).mono ?_
 rintro e w' ⟨rfl,hb⟩
 have HB:=Lib.hid hb
 clear hb
 generalize hl:(decide (h.pI<n) ||decide (n<h.die))=q
 have HL:Hid (GI h n=q):=Lib.hid hl
 clear hl
 go_wp2_with fail
 go_returns
 exact⟨by rw[HL.out];simp,HB.out⟩
theorem Sv (h:bF) (ow ot ox:Option Addr) (nw cw nt ct nx cx:Nat) (l:List Int) (h10:l.length=10) (w:World) (h0:0<=h.last) (h9:h.last<=9):
 Calls Tryz.prog 150 #[hv h (.slice ow nw cw) (.slice ot nt ct) (.slice ox nx cx),jk l] w (PV (.bool (qx h l)) w):=by
 obtain⟨n,hn⟩: ∃n:Nat,h.last+1=n:=⟨(h.last+1).toNat,by omega⟩
 have Tu:n<=10:=by omega
 have hk:qx h l=(l.take n).all fun n=>!GI h n:=by unfold qx;rw[hn];rfl
 rw[hk]
 clear hk
 obtain⟨y0,y1,y2,y3,y4,y5,y6,y7,y8,y9,rfl⟩:=wS h10
 have hnI:(n:Int)<=10:=by omega
 have aio:(0:Int)<=n:=by omega
 have aey:([y0,y1,y2,y3,y4,y5,y6,y7,y8,y9].take n).length=n:=by simp;omega
 show Calls Tryz.prog 150 #[hv h (.slice ow nw cw) (.slice ot nt ct) (.slice ox nx cx),.agg #[iv y0,iv y1,iv y2,iv y3,iv y4,iv y5,iv y6,iv y7,iv y8,iv y9]] w _
 go_enter Tryz.func150,Tryz.ntmps150
 go_wp2_with fail
 refine(VQ h _ _ _ n _ h0 h9 hn).mono ?_
 rintro e w' ⟨rfl,hb⟩
 obtain⟨hc,hf⟩:=aW hb
 have hz0:w.heap.size<w'.heap.size:=(by have:=hb.size;(try simp only[World.size_alloc] at this);omega)
 have hz1:w.heap.size+1<w'.heap.size:=(by have:=hb.size;(try simp only[World.size_alloc] at this);omega)
 have HA:=Lib.hid ((hb.block w.heap.size (by simp;omega)).trans ((Below.heap_alloc _ _ _ (by simp)).trans (ag _ _)))
 have HK:=Lib.hid ((hb.block (w.heap.size+1) (by simp)).trans (dL _ _ _))
 have HB:=Lib.hid (show Below w.heap.size w w' from zl)
 clear hb
 go_wp2_with fail
 have hsl:aN w' (.slice (some ⟨w.heap.size+1,0,none⟩) n 10) ([y0,y1,y2,y3,y4,y5,y6,y7,y8,y9].take n):=by
  have:=aB.Oe n 10 HK.out (by simpa using Tu) Tu (by simp[maxLen])
  unfold aN intCells
  rw[aey,List.map_take]
  exact this
 refine(PX _ (.slice (some ⟨w.heap.size+1,0,none⟩) n 10) 199 #[] #[.pointer (some ⟨w.heap.size,0,none⟩)] (fun n=>!GI h n) w' hsl (enters_of Tryz.func199 (by kernel_rfl) rfl) ?_).mono ?_
 ·intro x _ W hW
  exact OE h _ _ _ x w.heap.size W ((hW.block _ (Array.getElem?_eq_some_iff.1 HA.out).1).trans HA.out)
 ·rintro e W2 ⟨rfl,hb⟩
  have HB2:=Lib.hid hb
  clear hb hsl
  go_wp2_with fail
  go_returns
  exact⟨by simp,aH HB.out HB2.out⟩
end Go.Proofs.YtabpkkbiioihaaaGreatDoor.kK
end

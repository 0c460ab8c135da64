/-
  Texts of this claim, packed by a program: PA PE PH.
-/
import Derived.WalkKit
import Derived.WalkLawsBesides
import Derived.WalkSpells
import Derived.Outline
import Derived.Handy
import Derived.KernelRfl
import Derived.Lib.Hide
import Derived.Deep.Cut
import Derived.Laws.CopyRow
import Derived.Test.YtabpkkbiioihaaaGreatDoorPK4
set_option maxHeartbeats 8000000
set_option maxRecDepth 100000
set_option linter.all false
section
namespace Go.Proofs.YtabpkkbiioihaaaGreatDoor
open Go.RowKit Go.RG Go.SL Go.Shelf gZ Go.TB
abbrev JF (t:yB):Value:= .agg #[iv t.1,iv t.2.1,iv t.2.2.1,iv t.2.2.2.1,iv t.2.2.2.2]
abbrev fv (f:aO) (tv:Value):Value:= .agg #[iv f.rows,iv f.ai,iv f.left.1,iv f.left.2,tv]
def bM (l:List yB):List Value:=l.flatMap fun t=>[iv t.1,iv t.2.1,iv t.2.2.1,iv t.2.2.2.1,iv t.2.2.2.2]
abbrev bW (w:World) (v:Value) (l:List yB):Prop:=aB 5 w v l.length (bM l)
theorem xU (l:List yB): ∀u∈bM l,u.oneCell'=true:=by
 intro u hu
 obtain⟨r,_,h⟩:=List.mem_flatMap.1 hu
 simp only[List.mem_cons,List.not_mem_nil,or_false] at h
 rcases h with rfl|rfl|rfl|rfl|rfl <;>rfl
theorem bW.cell {w:World} {o:Option Addr} {n c:Nat} {l:List yB} (h:aB 5 w (.slice o n c) n (bM l)) {k:Nat} (hk:k<l.length):
 ∃b off,o=some ⟨b,off,none⟩/\b<w.heap.size/\w.cell? ⟨b,off+k*5,none⟩=some (iv l[k].1)/\w.cell? ⟨b,off+k*5+1,none⟩=some (iv l[k].2.1)/\w.cell? ⟨b,off+k*5+2,none⟩=some (iv l[k].2.2.1)/\
  w.cell? ⟨b,off+k*5+3,none⟩=some (iv l[k].2.2.2.1)/\w.cell? ⟨b,off+k*5+4,none⟩=some (iv l[k].2.2.2.2):=by
 obtain⟨hl,o',c',hv,h1,h2,h3,h4⟩:=h
 cases hv
 have hlen:(bM l).length=l.length*5:=by simp[bM,List.length_flatMap,List.map_const',List.sum_replicate_nat]
 have hn:n=l.length:=by omega
 cases o with
 |none=>have:=h3 rfl;omega
 |some a=>
  obtain⟨b,off,sp⟩:=a
  obtain⟨hs,hc⟩:=h4 _ rfl
  simp only at hs hc
  subst hs
  have g: ∀j,j<5->(bM l)[k*5+j]? =[iv l[k].1,iv l[k].2.1,iv l[k].2.2.1,iv l[k].2.2.2.1,iv l[k].2.2.2.2][j]? :=fun j hj=>by
   unfold bM;rw[flat_get _ 5 (fun _=>rfl) l k j hk hj]
  have h0:=hc (k*5+0) (iv l[k].1) (by rw[g 0 (by omega)];rfl)
  have h1:=hc (k*5+1) (iv l[k].2.1) (by rw[g 1 (by omega)];rfl)
  have h2:=hc (k*5+2) (iv l[k].2.2.1) (by rw[g 2 (by omega)];rfl)
  have h3:=hc (k*5+3) (iv l[k].2.2.2.1) (by rw[g 3 (by omega)];rfl)
  have h4:=hc (k*5+4) (iv l[k].2.2.2.2) (by rw[g 4 (by omega)];rfl)
  rw[Nat.add_zero] at h0
  rw[<-Nat.add_assoc] at h1 h2 h3 h4
  exact⟨b,off,rfl,World.block_lt_of_cell? w _ h0,h0,h1,h2,h3,h4⟩
theorem qJ (n l h:Int) (w:World):Calls Tryz.prog 163 #[iv n,iv l,iv h] w (PV (.bool (inB n l h)) w):=by
 by_cases h1:l<=n
 all_goals
  go_enter Tryz.func163,Tryz.ntmps163
  go_wp2
  go_returns
  exact⟨by simp[inB];omega,Below.refl _ _⟩
theorem qL (r:bK) (n:Int) (w:World):Calls Tryz.prog 103 #[rv r,iv n] w (PV (.bool (inB n r.1 r.2)) w):=by
 go_enter Tryz.func103,Tryz.ntmps103
 go_wp2_with (go_at_call 163;refine(qJ _ _ _ _).mono ?_;rintro e w' ⟨rfl,hb⟩)
 go_returns
 exact⟨by simp,(Below.refl _ _).alloc (Nat.le_refl _) _ |>.trans (hb.mono (by simp))⟩
theorem sW (f:aO) (tv:Value) (r:bK) (w:World):Calls Tryz.prog 49 #[fv f tv,rv r] w (PV (.bool (okR r f.rows)) w):=by
 go_enter Tryz.func49,Tryz.ntmps49
 go_wp2
 all_goals
  go_returns
  exact⟨by simp[okR];omega,by go_grown⟩
theorem OM (f:aO) (tv:Value) (n:Int) (w:World) (h0: -1000<=f.rows) (h1:f.rows<=1000):Calls Tryz.prog 99 #[fv f tv,iv n] w (PV (.bool (inB n 0 (f.rows-1))) w):=by
 go_enter Tryz.func99,Tryz.ntmps99
 go_wp2_with (go_at_call 163;refine(qJ _ _ _ _).mono ?_;rintro e w' ⟨rfl,hb⟩)
 go_returns
 exact⟨by simp,(Below.refl _ _).alloc (Nat.le_refl _) _ |>.trans (hb.mono (by simp))⟩
theorem vO (f:aO) (tv:Value) (n:Int) (w:World) (h0: -1000<=f.ai) (h1:f.ai<=1000):Calls Tryz.prog 98 #[fv f tv,iv n] w (PV (.bool (inB n 0 (f.ai-1))) w):=by
 go_enter Tryz.func98,Tryz.ntmps98
 go_wp2_with (go_at_call 163;refine(qJ _ _ _ _).mono ?_;rintro e w' ⟨rfl,hb⟩)
 go_returns
 exact⟨by simp,(Below.refl _ _).alloc (Nat.le_refl _) _ |>.trans (hb.mono (by simp))⟩
theorem sH (f:aO) (tv:Value) (t:yB) (w:World) (h0:0<=f.rows) (h1:f.rows<=1000) (h2:0<=f.ai) (h3:f.ai<=1000):
 Calls Tryz.prog 48 #[fv f tv,JF t] w (PV (.bool (iE f t)) w):=by
 go_enter Tryz.func48,Tryz.ntmps48
 go_wp2_with (first|(go_at_call 98;refine(vO f _ _ _ (by omega) (by omega)).mono ?_;rintro e w' ⟨rfl,hb⟩;obtain⟨hc,hf⟩:=aW hb;have hz0:w.heap.size<w'.heap.size:=(by have:=hb.size;(try simp only[World.size_alloc] at this);omega);have hz1:w.heap.size+1<w'.heap.size:=(by have:=hb.size;(try simp only[World.size_alloc] at this);omega))|(go_at_call 99;refine(OM f _ _ _ (by omega) (by omega)).mono ?_;rintro e w' ⟨rfl,hb⟩;obtain⟨hc,hf⟩:=aW hb;have hz0:w.heap.size<w'.heap.size:=(by have:=hb.size;(try simp only[World.size_alloc] at this);omega);have hz1:w.heap.size+1<w'.heap.size:=(by have:=hb.size;(try simp only[World.size_alloc] at this);omega))|(go_at_call 49;refine(sW f _ (_,_) _).mono ?_;rintro e w' ⟨rfl,hb⟩;obtain⟨hc,hf⟩:=aW hb;have hz0:w.heap.size<w'.heap.size:=(by have:=hb.size;(try simp only[World.size_alloc] at this);omega);have hz1:w.heap.size+1<w'.heap.size:=(by have:=hb.size;(try simp only[World.size_alloc] at this);omega)))
 all_goals
  go_returns
  exact⟨by simp[iE, *] <;>(intros;omega),zl⟩
end Go.Proofs.YtabpkkbiioihaaaGreatDoor
namespace Go.Proofs.YtabpkkbiioihaaaGreatDoor
open Go.RowKit Go.RG Go.SL Go.Shelf gZ Go.TB
theorem adZ (l:List yB) (v:Value) (aI:Nat) (fst caps:Array Value) (p:Nat->Bool) (I:Nat->World->Prop) (w:World) (eg: ∀args w,(callFunc aI args).run Tryz.prog w= .ok (.enter aI args) w)
 (hsl: ∀k W,I k W->bW W v l)
 (hcall: ∀k (hk:k<l.length) W,(∀j,j<k->p j=false)->I k W->Calls Tryz.prog aI (fst.push (JF l[k])++caps) W (fun e W'=>e= .returned (.bool (p k))/\I (k+1) W')) (h0:I 0 w):
 Calls Tryz.prog 164 #[v,.func (.func aI) fst caps] w (dA l.length p I (fun k=>iv k) (iv (-1))):=by
 have hlen:=(hsl 0 w h0).len
 obtain⟨o,c,rfl⟩:=(hsl 0 w h0).open
 have HC:=Lib.hid hcall
 have HS:=Lib.hid hsl
 clear hcall hsl
 go_enter Tryz.func164,Tryz.ntmps164
 go_wp2
 go_loopw [4,5,8] (fun _ _ i wr=> ∃k:Nat,k<=l.length/\i= .int .i64 k/\(∀j,j<k->p j=false)/\I k wr) (fun _ _ i _=>l.length-(intOf i).toNat)
 case atStart=>exact⟨0,Nat.zero_le _,rfl,fun j hj=>by omega,h0⟩
 case round=>
  obtain⟨k,hk,rfl,hno,hI⟩:=hrel
  by_cases hlt:k<l.length
  ·obtain⟨b,off,rfl,hb,hc0,hc1,hc2,hc3,hc4⟩:=bW.cell (HS.out k wr hI) hlt
   have hC:=HC.out k hlt wr hno hI
   have HN:=Lib.hid hno
   clear hno
   go_wp2_with fail
   refine hC.mono ?_
   rintro e W1 ⟨rfl,hI1⟩
   have HI:=Lib.hid hI1
   clear hI1 hI hC
   cases hp:p k
   ·go_wp2_with fail
    go_roundw
    case rel=>exact⟨k+1,by omega,by go_num,fun j hj=>(by by_cases e:j=k;(subst e;exact hp);exact HN.out j (by omega)),HI.out⟩
    case measure=>simp[intOf];omega
   ·go_wp2_with fail
    go_returns
    exact⟨k,by omega,HN.out,.inl ⟨hlt,hp,by simp,HI.out⟩⟩
  ·have hkl:k=l.length:=by omega
   have HN:=Lib.hid hno
   clear hno
   go_wp2_with fail
   go_returns
   exact⟨k,by omega,HN.out,.inr ⟨hkl,by simp,by subst hkl;exact hI⟩⟩
theorem ace (l:List yB) (v:Value) (aI:Nat) (fst caps:Array Value) (p:Nat->Bool) (I:Nat->World->Prop) (w:World) (eg: ∀args w,(callFunc aI args).run Tryz.prog w= .ok (.enter aI args) w)
 (hsl: ∀k W,I k W->bW W v l)
 (hcall: ∀k (hk:k<l.length) W,(∀j,j<k->p j=false)->I k W->Calls Tryz.prog aI (fst.push (JF l[k])++caps) W (fun e W'=>e= .returned (.bool (p k))/\I (k+1) W')) (h0:I 0 w):
 Calls Tryz.prog 100 #[v,.func (.func aI) fst caps] w (dA l.length p I (fun _=> .bool true) (.bool false)):=by
 have HI:=Lib.hid (adZ l v aI fst caps p I w eg hsl hcall h0)
 have hlen:=(hsl 0 w h0).len
 clear hsl hcall h0 eg
 go_enter Tryz.func100,Tryz.ntmps100
 go_wp2_with fail
 refine HI.out.mono ?_
 clear HI
 rintro e W' ⟨k,hk,hno,⟨hlt,hp,rfl,hI⟩|⟨hkl,rfl,hI⟩⟩
 ·have HN:=Lib.hid (And.intro hno (And.intro hp hI))
  clear hno hp hI
  go_wp2_with fail
  go_returns
  exact⟨k,hk,HN.out.1,.inl ⟨hlt,HN.out.2.1,by simp,HN.out.2.2⟩⟩
 ·have HN:=Lib.hid (And.intro hno (And.intro hkl hI))
  clear hno hkl hI
  go_wp2_with fail
  go_returns
  exact⟨k,hk,HN.out.1,.inr ⟨HN.out.2.1,by simp,HN.out.2.1▸HN.out.2.2⟩⟩
theorem acs (x:yB) (bx aI:Nat) (fst caps:Array Value) (b:Bool) (W:World) (R:World->Prop) (eg: ∀args w,(callFunc aI args).run Tryz.prog w= .ok (.enter aI args) w)
 (hbx:W.cell? ⟨bx,0,none⟩=some (.func (.func aI) fst caps))
 (hcall:Calls Tryz.prog aI (fst.push (JF x)++caps) (W.alloc (.cells #[iv x.1,iv x.2.1,iv x.2.2.1,iv x.2.2.2.1,iv x.2.2.2.2] 122)) (fun e W'=>e= .returned (.bool b)/\R W')):
 Calls Tryz.prog 101 #[JF x,.pointer (some ⟨bx,0,none⟩)] W (fun e W'=>e= .returned (.bool !b)/\R W'):=by
 have hlt:=World.block_lt_of_cell? W _ hbx
 have HC:=Lib.hid hcall
 clear hcall
 go_enter Tryz.func101,Tryz.ntmps101
 go_wp2_with fail
 refine HC.out.mono ?_
 rintro e W' ⟨rfl,hR⟩
 have HR:=Lib.hid hR
 clear hR
 go_wp2_with fail
 go_returns
 exact⟨by simp,HR.out⟩
theorem XV (x:Int) (bx aI:Nat) (fst caps:Array Value) (b:Bool) (W:World) (R:World->Prop) (eg: ∀args w,(callFunc aI args).run Tryz.prog w= .ok (.enter aI args) w)
 (hbx:W.cell? ⟨bx,0,none⟩=some (.func (.func aI) fst caps))
 (hcall:Calls Tryz.prog aI (fst.push (iv x)++caps) W (fun e W'=>e= .returned (.bool b)/\R W')):
 Calls Tryz.prog 280 #[iv x,.pointer (some ⟨bx,0,none⟩)] W (fun e W'=>e= .returned (.bool !b)/\R W'):=by
 have hlt:=World.block_lt_of_cell? W _ hbx
 have HC:=Lib.hid hcall
 clear hcall
 go_enter Tryz.func280,Tryz.ntmps280
 go_wp2_with fail
 refine HC.out.mono ?_
 rintro e W' ⟨rfl,hR⟩
 have HR:=Lib.hid hR
 clear hR
 go_wp2_with fail
 go_returns
 exact⟨by simp,HR.out⟩
theorem allT (l:List yB) (v:Value) (aI:Nat) (fst caps:Array Value) (p:Nat->Bool) (I:Nat->World->Prop) (w:World) (eg: ∀args w,(callFunc aI args).run Tryz.prog w= .ok (.enter aI args) w)
 (hsl: ∀k W,I k W->bW W v l) (hal: ∀k W o,I k W->I k (W.alloc o))
 (hcall: ∀k (hk:k<l.length) W,(∀j,j<k->p j=true)->I k W->Calls Tryz.prog aI (fst.push (JF l[k])++caps) W (fun e W'=>e= .returned (.bool (p k))/\I (k+1) W'/\gu w.heap.size W W')) (h0:I 0 w):
 Calls Tryz.prog 50 #[v,.func (.func aI) fst caps] w (dA l.length (fun k=>!p k) I (fun _=> .bool false) (.bool true)):=by
 have HI:=Lib.hid (ace l v 101 #[] #[.pointer (some ⟨w.heap.size,0,none⟩)] (fun k=>!p k)
  (fun k W=>I k W/\W.heap[w.heap.size]? =some (.cells #[.func (.func aI) fst caps] 118 (0,0))) (w.alloc (.cells #[.func (.func aI) fst caps] 118))
  (enters_of Tryz.func101 (by kernel_rfl) rfl) (fun k W h=>hsl k W h.1)
  (fun k hk W hno h=>by
    have hlt:w.heap.size<W.heap.size:=(Array.getElem?_eq_some_iff.1 h.2).1
    refine(acs l[k] w.heap.size aI fst caps (p k) W (fun W'=>I (k+1) W'/\W'.heap[w.heap.size]? =some (.cells #[.func (.func aI) fst caps] 118 (0,0))) eg (ay h.2) ?_)
    refine(hcall k hk _ (fun j hj=>by simpa using hno j hj) (by first|exact hal _ _ _ h.1|exact h.1)).mono ?_
    rintro e W' ⟨rfl,h1,h2⟩
    refine⟨rfl,h1,(h2.block _ (Nat.le_refl _) (by first|exact hlt|(simp;omega))).trans (by first|exact h.2|exact(Below.heap_alloc _ _ _ hlt).trans h.2)⟩)
  ⟨hal _ _ _ h0,heap_alloc_new w _⟩)
 have hlen:=(hsl 0 w h0).len
 clear hsl hcall h0 eg hal
 go_enter Tryz.func50,Tryz.ntmps50
 go_wp2_with fail
 refine HI.out.mono ?_
 clear HI
 rintro e W' ⟨k,hk,hno,⟨hlt,hp,rfl,hI,_⟩|⟨hkl,rfl,hI,_⟩⟩
 ·have HN:=Lib.hid (And.intro hno (And.intro hp hI))
  clear hno hp hI
  go_wp2_with fail
  go_returns
  exact⟨k,hk,HN.out.1,.inl ⟨hlt,HN.out.2.1,by simp,HN.out.2.2⟩⟩
 ·have HN:=Lib.hid (And.intro hno (And.intro hkl hI))
  clear hno hkl hI
  go_wp2_with fail
  go_returns
  exact⟨k,hk,HN.out.1,.inr ⟨HN.out.2.1,by simp,HN.out.2.1▸HN.out.2.2⟩⟩
theorem aan (l:List Int) (v:Value) (aI:Nat) (fst caps:Array Value) (p:Nat->Bool) (I:Nat->World->Prop) (w:World) (eg: ∀args w,(callFunc aI args).run Tryz.prog w= .ok (.enter aI args) w)
 (hsl: ∀k W,I k W->aN W v l) (hal: ∀k W o,I k W->I k (W.alloc o))
 (hcall: ∀k (hk:k<l.length) W,(∀j,j<k->p j=true)->I k W->Calls Tryz.prog aI (fst.push (iv l[k])++caps) W (fun e W'=>e= .returned (.bool (p k))/\I (k+1) W'/\gu w.heap.size W W')) (h0:I 0 w):
 Calls Tryz.prog 259 #[v,.func (.func aI) fst caps] w (dA l.length (fun k=>!p k) I (fun _=> .bool false) (.bool true)):=by
 have HI:=Lib.hid (Iy l v 280 #[] #[.pointer (some ⟨w.heap.size,0,none⟩)] (fun k=>!p k)
  (fun k W=>I k W/\W.heap[w.heap.size]? =some (.cells #[.func (.func aI) fst caps] 124 (0,0))) (w.alloc (.cells #[.func (.func aI) fst caps] 124))
  (enters_of Tryz.func280 (by kernel_rfl) rfl) (fun k W h=>hsl k W h.1)
  (fun k hk W hno h=>by
    have hlt:w.heap.size<W.heap.size:=(Array.getElem?_eq_some_iff.1 h.2).1
    refine(XV l[k] w.heap.size aI fst caps (p k) W (fun W'=>I (k+1) W'/\W'.heap[w.heap.size]? =some (.cells #[.func (.func aI) fst caps] 124 (0,0))) eg (ay h.2) ?_)
    refine(hcall k hk _ (fun j hj=>by simpa using hno j hj) (by first|exact hal _ _ _ h.1|exact h.1)).mono ?_
    rintro e W' ⟨rfl,h1,h2⟩
    refine⟨rfl,h1,(h2.block _ (Nat.le_refl _) (by first|exact hlt|(simp;omega))).trans (by first|exact h.2|exact(Below.heap_alloc _ _ _ hlt).trans h.2)⟩)
  ⟨hal _ _ _ h0,heap_alloc_new w _⟩)
 have hlen:=(hsl 0 w h0).len
 clear hsl hcall h0 eg hal
 go_enter Tryz.func259,Tryz.ntmps259
 go_wp2_with fail
 refine HI.out.mono ?_
 clear HI
 rintro e W' ⟨k,hk,hno,⟨hlt,hp,rfl,hI,_⟩|⟨hkl,rfl,hI,_⟩⟩
 ·have HN:=Lib.hid (And.intro hno (And.intro hp hI))
  clear hno hp hI
  go_wp2_with fail
  go_returns
  exact⟨k,hk,HN.out.1,.inl ⟨hlt,HN.out.2.1,by simp,HN.out.2.2⟩⟩
 ·have HN:=Lib.hid (And.intro hno (And.intro hkl hI))
  clear hno hkl hI
  go_wp2_with fail
  go_returns
  exact⟨k,hk,HN.out.1,.inr ⟨HN.out.2.1,by simp,HN.out.2.1▸HN.out.2.2⟩⟩
theorem Dn (l:List yB) (v:Value) (aI:Nat) (fst caps:Array Value) (q:yB->Bool) (w:World) (hv:bW w v l) (eg: ∀args w,(callFunc aI args).run Tryz.prog w= .ok (.enter aI args) w)
 (hcall: ∀x∈l, ∀W,Below w.heap.size w W->Calls Tryz.prog aI (fst.push (JF x)++caps) W (PV (.bool (q x)) W)):
 Calls Tryz.prog 50 #[v,.func (.func aI) fst caps] w (PV (.bool (l.all q)) w):=by
 refine(allT l v aI fst caps (fun k=>q (l.getD k (0,0,0,(0,0)))) (fun _ W=>Below w.heap.size w W) w eg (fun k W h=>hv.below h (Nat.le_refl _)) (fun k W o h=>af h o) (fun k hk W _ h=>?_) (Below.refl _ _)).mono ?_
 ·refine(hcall l[k] (List.getElem_mem _) W h).mono ?_
  rintro e W' ⟨rfl,hb⟩
  exact⟨by simp[hk],aH h hb,gu.of_below hb⟩
 ·intro e W' hpost
  obtain⟨rfl,k,_,hI⟩:=hpost.all
  refine⟨?_,hI⟩
  rw[gY,iC]
theorem Jw (l:List Int) (v:Value) (aI:Nat) (fst caps:Array Value) (q:Int->Bool) (w:World) (hv:aN w v l) (eg: ∀args w,(callFunc aI args).run Tryz.prog w= .ok (.enter aI args) w)
 (hcall: ∀x∈l, ∀W,Below w.heap.size w W->Calls Tryz.prog aI (fst.push (iv x)++caps) W (PV (.bool (q x)) W)):
 Calls Tryz.prog 259 #[v,.func (.func aI) fst caps] w (PV (.bool (l.all q)) w):=by
 refine(aan l v aI fst caps (fun k=>q (l.getD k 0)) (fun _ W=>Below w.heap.size w W) w eg (fun k W h=>hv.below h (Nat.le_refl _)) (fun k W o h=>af h o) (fun k hk W _ h=>?_) (Below.refl _ _)).mono ?_
 ·refine(hcall l[k] (List.getElem_mem _) W h).mono ?_
  rintro e W' ⟨rfl,hb⟩
  exact⟨by simp[hk],aH h hb,gu.of_below hb⟩
 ·intro e W' hpost
  obtain⟨rfl,k,_,hI⟩:=hpost.all
  refine⟨?_,hI⟩
  rw[gY,iC]
end Go.Proofs.YtabpkkbiioihaaaGreatDoor
namespace Go.Proofs.YtabpkkbiioihaaaGreatDoor
open Go.RowKit Go.RG Go.SL Go.Shelf gZ Go.TB
theorem Vs {b:Int} (h1:1<=b) (h4:b<=4): ∀k:Nat,k<=7->1<=b^k/\b^k<=4^k:=by
 intro k
 induction k with
 |zero=>intro _;simp
 |succ k ih=>
  intro hk
  obtain⟨i1,i2⟩:=ih (by omega)
  rw[Int.pow_succ,Int.pow_succ]
  constructor
  ·have:=Int.mul_le_mul i1 h1 (by omega) (by omega);omega
  ·exact Int.mul_le_mul i2 h4 (by omega) (by omega)
theorem Rl {b:Int} (h1:1<=b) (h4:b<=4) (k:Nat) (hk:k<=7):1<=b^k/\b^k<=16384:=by
 obtain⟨a,c⟩:=Vs h1 h4 k hk
 refine⟨a,Int.le_trans c ?_⟩
 have: ∀k:Nat,k<=7->(4:Int)^k<=16384:=by decide
 exact this k hk
theorem IJ (f:aO) (o:Option Addr) (n c:Nat) (w:World) (a1:7<f.rows):Calls Tryz.prog 31 #[fv f (.slice o n c)] w (PV (iv 3) w):=by
 go_enter Tryz.func31,Tryz.ntmps31
 go_wp2
 go_returns
 exact⟨by simp,zl⟩
theorem II (f:aO) (o:Option Addr) (n c:Nat) (w:World) (a1: ¬7<f.rows) (a2:3<f.ai):Calls Tryz.prog 31 #[fv f (.slice o n c)] w (PV (iv 3) w):=by
 go_enter Tryz.func31,Tryz.ntmps31
 go_wp2
 go_returns
 exact⟨by simp,zl⟩
theorem IG (f:aO) (o:Option Addr) (n c:Nat) (w:World) (a1: ¬7<f.rows) (a2: ¬3<f.ai) (a3:(5:Int)<n):Calls Tryz.prog 31 #[fv f (.slice o n c)] w (PV (iv 3) w):=by
 go_enter Tryz.func31,Tryz.ntmps31
 go_wp2
 go_returns
 exact⟨by simp,zl⟩
theorem IQ (f:aO) (o:Option Addr) (n c:Nat) (w:World) (a1: ¬7<f.rows) (a2: ¬3<f.ai) (a3: ¬(5:Int)<n) (b1:f.rows<1):Calls Tryz.prog 31 #[fv f (.slice o n c)] w (PV (iv 1) w):=by
 go_enter Tryz.func31,Tryz.ntmps31
 go_wp2
 go_returns
 exact⟨by simp,zl⟩
theorem IP (f:aO) (o:Option Addr) (n c:Nat) (w:World) (a1: ¬7<f.rows) (a2: ¬3<f.ai) (a3: ¬(5:Int)<n) (b1: ¬f.rows<1) (b2:f.ai<1):Calls Tryz.prog 31 #[fv f (.slice o n c)] w (PV (iv 1) w):=by
 go_enter Tryz.func31,Tryz.ntmps31
 go_wp2
 go_returns
 exact⟨by simp,zl⟩
theorem IM (f:aO) (o:Option Addr) (n c:Nat) (w:World) (a1: ¬7<f.rows) (a2: ¬3<f.ai) (a3: ¬(5:Int)<n) (b1: ¬f.rows<1) (b2: ¬f.ai<1) (b3:okR f.left f.rows=false):
 Calls Tryz.prog 31 #[fv f (.slice o n c)] w (PV (iv 1) w):=by
 go_enter Tryz.func31,Tryz.ntmps31
 go_wp2_with fail
 refine(sW f _ (_,_) _).mono ?_
 rintro e w' ⟨rfl,hb⟩
 obtain⟨hc,hf⟩:=aW hb
 have hz0:w.heap.size<w'.heap.size:=(by have:=hb.size;(try simp only[World.size_alloc] at this);omega)
 rw[show okR (f.left.1,f.left.2) f.rows=false from b3]
 go_wp2_with fail
 go_returns
 exact⟨by simp,zl⟩
theorem IL (f:aO) (o:Option Addr) (c:Nat) (w:World) (hx:bW w (.slice o f.ae.length c) f.ae) (a1: ¬7<f.rows) (a2: ¬3<f.ai) (a3: ¬(5:Int)<f.ae.length) (b1: ¬f.rows<1) (b2: ¬f.ai<1) (b3:okR f.left f.rows=true)
 (b4:f.ae.all (iE f)=false):
 Calls Tryz.prog 31 #[fv f (.slice o f.ae.length c)] w (PV (iv 1) w):=by
 have HX:=Lib.hid hx
 have HB4:=Lib.hid b4
 clear hx b4
 go_enter Tryz.func31,Tryz.ntmps31
 go_wp2_with fail
 refine(sW f _ (_,_) _).mono ?_
 rintro e w' ⟨rfl,hb⟩
 obtain⟨hc,hf⟩:=aW hb
 have hz0:w.heap.size<w'.heap.size:=(by have:=hb.size;(try simp only[World.size_alloc] at this);omega)
 have HB:=Lib.hid (show Below w.heap.size w w' from zl)
 clear hb
 rw[show okR (f.left.1,f.left.2) f.rows=true from b3]
 go_wp2_with fail
 refine(Dn f.ae (.slice o f.ae.length c) 48 #[fv f (.slice o f.ae.length c)] #[] (iE f) w' (HX.out.below HB.out (Nat.le_refl _)) (enters_of Tryz.func48 (by kernel_rfl) rfl) (fun x _ W _=>sH f _ x W (by omega) (by omega) (by omega) (by omega))).mono ?_
 rw[HB4.out]
 rintro e w2 ⟨rfl,hb⟩
 obtain⟨hc2,hf2⟩:=aW hb
 have hz2:w.heap.size<w2.heap.size:=by have:=hb.size;omega
 have HB2:=Lib.hid (aH HB.out hb)
 clear hb
 go_wp2_with fail
 go_returns
 exact⟨by simp,HB2.out⟩
theorem IK (f:aO) (o:Option Addr) (c:Nat) (w:World) (hx:bW w (.slice o f.ae.length c) f.ae) (a1: ¬7<f.rows) (a2: ¬3<f.ai) (a3: ¬(5:Int)<f.ae.length) (b1: ¬f.rows<1) (b2: ¬f.ai<1) (b3:okR f.left f.rows=true)
 (b4:f.ae.all (iE f)=true) (r:Int) (hr:r=if 2500<(f.ai+1)^f.rows.toNat then 3 else 0):
 Calls Tryz.prog 31 #[fv f (.slice o f.ae.length c)] w (PV (iv r) w):=by
 have HX:=Lib.hid hx
 have HB4:=Lib.hid b4
 have hbase:1<=f.ai+1/\f.ai+1<=4:=by omega
 have HP:=Lib.hid (fun(k:Nat) (hk:k<=7)=>Rl hbase.1 hbase.2 k hk)
 obtain⟨n,hn⟩: ∃n:Nat,f.rows=n:=⟨f.rows.toNat,by omega⟩
 have hn7:n<=7:=by omega
 have HR:Hid (r=if 2500<(f.ai+1)^n then 3 else 0):=Lib.hid (by rw[hr,hn];rfl)
 have HN:=Lib.hid hn
 clear hx b4 hbase hr hn
 go_enter Tryz.func31,Tryz.ntmps31
 go_wp2_with fail
 refine(sW f _ (_,_) _).mono ?_
 rintro e w' ⟨rfl,hb⟩
 obtain⟨hc,hf⟩:=aW hb
 have hz0:w.heap.size<w'.heap.size:=(by have:=hb.size;(try simp only[World.size_alloc] at this);omega)
 have HB:=Lib.hid (show Below w.heap.size w w' from zl)
 clear hb
 rw[show okR (f.left.1,f.left.2) f.rows=true from b3]
 go_wp2_with fail
 refine(Dn f.ae (.slice o f.ae.length c) 48 #[fv f (.slice o f.ae.length c)] #[] (iE f) w' (HX.out.below HB.out (Nat.le_refl _)) (enters_of Tryz.func48 (by kernel_rfl) rfl) (fun x _ W _=>sH f _ x W (by omega) (by omega) (by omega) (by omega))).mono ?_
 rw[HB4.out]
 rintro e w2 ⟨rfl,hb⟩
 obtain⟨hc2,hf2⟩:=aW hb
 have hz2:w.heap.size<w2.heap.size:=by have:=hb.size;omega
 have HB2:=Lib.hid (aH HB.out hb)
 clear hb
 go_wp2_with fail
 go_loop [4,47] (fun m i=> ∃k:Nat,k<=n/\i= .int .i64 k/\m= .int .i64 ((f.ai+1)^k)) (fun _ i=>n-(intOf i).toNat)
 case atStart=>exact⟨0,Nat.zero_le _,rfl,by simp⟩
 case round=>
  obtain⟨k,hk,rfl,rfl⟩:=hrel
  obtain⟨p1,p2⟩:=HP.out k (by omega)
  by_cases hlt:k<n
  ·have hkI:(k:Int)<f.rows:=by have:=HN.out;omega
   obtain⟨q1,q2⟩:=HP.out (k+1) (by omega)
   have HE:=Lib.hid (Int.pow_succ (f.ai+1) k)
   rw[Int.pow_succ] at q1 q2
   generalize (f.ai+1)^k=m at p1 p2 q1 q2 HE⊢
   go_wp2
   go_round
   case rel=>exact⟨k+1,by omega,by go_num,by rw[HE.out]⟩
   case measure=>simp[intOf];omega
  ·have hkn:k=n:=by omega
   subst hkn
   have hkI: ¬(k:Int)<f.rows:=by have:=HN.out;omega
   generalize (f.ai+1)^k=m at p1 p2 HR⊢
   by_cases hm:2500<m
   ·go_wp2
    go_returns
    exact⟨by rw[HR.out,if_pos hm];simp,HB2.out⟩
   ·go_wp2
    go_returns
    exact⟨by rw[HR.out,if_neg (by omega)];simp,HB2.out⟩
theorem uP (f:aO) (tv:Value) (w:World) (hx:bW w tv f.ae):
 Calls Tryz.prog 31 #[fv f tv] w (PV (iv (fC f)) w):=by
 obtain⟨o,c,rfl⟩:=hx.open
 by_cases ha:7<f.rows∨3<f.ai∨5<f.ae.length
 ·rw[show fC f=3 from by unfold fC;rw[if_pos ha]]
  by_cases a1:7<f.rows
  ·exact IJ f o _ c w a1
  by_cases a2:3<f.ai
  ·exact II f o _ c w a1 a2
  exact IG f o _ c w a1 a2 (by omega)
 obtain⟨a1,a2,a3⟩: ¬7<f.rows/\ ¬3<f.ai/\ ¬(5:Int)<f.ae.length:=by omega
 rw[show fC f=if f.rows<1∨f.ai<1∨okR f.left f.rows=false∨f.ae.all (iE f)=false then 1 else if 2500<(f.ai+1)^f.rows.toNat then 3 else 0 from by
  unfold fC;rw[if_neg ha]]
 by_cases b1:f.rows<1
 ·rw[if_pos (.inl b1)]
  exact IQ f o _ c w a1 a2 a3 b1
 by_cases b2:f.ai<1
 ·rw[if_pos (.inr (.inl b2))]
  exact IP f o _ c w a1 a2 a3 b1 b2
 by_cases b3:okR f.left f.rows=false
 ·rw[if_pos (.inr (.inr (.inl b3)))]
  exact IM f o _ c w a1 a2 a3 b1 b2 b3
 by_cases b4:f.ae.all (iE f)=false
 ·rw[if_pos (.inr (.inr (.inr b4)))]
  exact IL f o c w hx a1 a2 a3 b1 b2 (by simpa using b3) b4
 exact IK f o c w hx a1 a2 a3 b1 b2 (by simpa using b3) (by simpa using b4) _ (by rw[if_neg (by simp only[not_or];exact⟨b1,b2,b3,b4⟩)])
end Go.Proofs.YtabpkkbiioihaaaGreatDoor
namespace Go.Proofs.YtabpkkbiioihaaaGreatDoor
open Go.RowKit Go.RG Go.SL Go.Shelf gZ Go.TB
theorem Py (l:List Int) (who:Int) (a k:Nat):rO l who a (k+1)=rO l who a k+(if l.getD (a+k) 0=who then 1 else 0):=by
 unfold rO
 rw[List.range'_concat,List.countP_append,List.countP_singleton]
 by_cases h:l.getD (a+k) 0=who
 ·simp only[Nat.one_mul,h,beq_self_eq_true,if_true];omega
 ·simp only[Nat.one_mul,if_neg h,show(l.getD (a+k) 0==who)=false from by simpa using h,Bool.false_eq_true,if_false];omega
theorem EK (l:List Int) (who:Int) (a k:Nat):0<=rO l who a k/\rO l who a k<=k:=by
 unfold rO
 have:=List.countP_le_length (l:=List.range' a k) (p:=fun i=>l.getD i 0==who)
 simp only[List.length_range'] at this
 omega
theorem A7 (g a n:Nat) (b:Int) (hb:b+1=(a:Int)+n) (hn:1<=n) (h7:a+n<=7) (W:World):
 (Instr.sliceAt 71 (.pointer (some ⟨g,0,none⟩)) (some (iv (a:Int))) (some (iv (b+1))) none).run Tryz.prog W= .ok (.slice (some ⟨g,a,none⟩) n (7-a)) W:=by
 have hl:Tryz.prog.arrayLen 71=7:=by kernel_rfl
 have h:=run_sliceAt_array_lh (P:=Tryz.prog) W 71 ⟨g,0,none⟩ (by kernel_rfl) .i64 .i64 (a:Int) (b+1) (by omega) (by omega) (by rw[hl];omega)
 have hs:(sizeOf (Tryz.prog.elem 71)).run Tryz.prog W= .ok 1 W:=by kernel_rfl
 rw[h,hs,hl]
 have e1:(b+1).toNat=a+n:=by omega
 have e2: ¬7=a:=by omega
 simp[slicedAt,e1,e2,Addr.add]
 omega
theorem count_any (xs:List Int) (hx:xs.length=7) (who:Int) (a n:Nat) (b:Int) (hb:b+1=(a:Int)+n) (hn:1<=n) (h7:a+n<=7) (w:World):
 Calls Tryz.prog 33 #[jk xs,iv who,iv a,iv b] w (PV (iv (rO xs who a n)) w):=by
 have hN:=ag w (.cells (intCells xs).toArray 71)
 have HX:=Lib.hid hx
 have hsl:=A7 w.heap.size a n b hb hn h7
 rw[hb] at hsl
 have hb0: -1<=b:=by omega
 have hb6:b<=6:=by omega
 clear hx
 go_enter Tryz.func33,Tryz.ntmps33
 go_wp2
 have HN:=Lib.hid hN
 clear hN hsl
 go_loop [8,16] (fun m i=> ∃k:Nat,k<=n/\i= .int .i64 k/\m= .int .i64 (rO xs who a k)) (fun _ i=>n-(intOf i).toNat)
 case atStart=>exact⟨0,Nat.zero_le _,rfl,by simp[rO]⟩
 case round=>
  obtain⟨k,hk,rfl,rfl⟩:=hrel
  have hbd:=EK xs who a k
  have hsu:=Py xs who a k
  by_cases hlt:k<n
  ·have hcell:=ed HN.out (show a+k<xs.length by rw[HX.out];omega)
   have hg:xs.getD (a+k) 0=xs[a+k]'(by rw[HX.out];omega):=by simp[List.getD,HX.out,show a+k<7 by omega]
   rw[hg] at hsu
   have qA:=Lib.hid hsu
   clear hg hsu
   generalize xs[a+k]'(by rw[HX.out];omega)=y at*
   generalize rO xs who a k=d at*
   by_cases hy:y=who
   ·subst hy
    go_wp2
    go_round
    case rel=>exact⟨k+1,by omega,by go_num,by rw[qA.out,if_pos rfl]⟩
    case measure=>simp[intOf];omega
   ·have hyb:(y==who)=false:=by simpa using hy
    have HY:=Lib.hid hy
    clear hy
    go_wp2
    go_round
    case rel=>exact⟨k+1,by omega,by go_num,by rw[qA.out,if_neg HY.out];simp⟩
    case measure=>simp[intOf];omega
  ·have hkn:k=n:=by omega
   subst hkn
   clear hsu
   generalize rO xs who a k=d at*
   go_wp2
   go_returns
   exact⟨by simp,zl⟩
theorem ng {l:List Int} (h:l.length=7): ∃a b c d e f g,l=[a,b,c,d,e,f,g]:=by
 match l,h with
 |[a,b,c,d,e,f,g],_=>exact⟨a,b,c,d,e,f,g,rfl⟩
theorem Ij (f:aO) (tv:Value) (xs:List Int) (hx:xs.length=7) (who:Int) (w:World) (h0:1<=f.rows) (h7:f.rows<=7):
 Calls Tryz.prog 19 #[fv f tv,jk xs,iv who] w (PV (iv (fK f xs who)) w):=by
 have hcount:=count_any xs hx who 0 f.rows.toNat (f.rows-1) (by omega) (by omega) (by omega)
 have hd:rO xs who 0 f.rows.toNat=fK f xs who:=by
  unfold fK xA
  simp
 rw[hd] at hcount
 generalize fK f xs who=d at*
 obtain⟨a,b,c,d,e,g,k,rfl⟩:=ng hx
 have HC:=Lib.hid hcount
 clear hcount hx hd
 show Calls _ _ #[fv f tv,.agg #[iv a,iv b,iv c,iv d,iv e,iv g,iv k],iv who] _ _
 go_enter Tryz.func19,Tryz.ntmps19
 go_wp2_with fail
 refine(HC.out _).mono ?_
 rintro e w' ⟨rfl,hb⟩
 go_wp2_with fail
 go_returns
 exact⟨by simp,zl⟩
end Go.Proofs.YtabpkkbiioihaaaGreatDoor
namespace Go.SL
open Go.RowKit Go.RG
theorem iJ {P:Program} {o:Oper} {ρ:Operand->Value} {W:World} (t:TypeId) (x:Operand) (ho:o.op= .load t x) (b off:Nat) (hx:ρ x= .pointer (some ⟨b,off,none⟩)) (cs:List Value) (d:TypeDesc)
 (hc:W.rangeAt b off cs) (hu:P.underlying t=some d) (hd:d.isRow=true) (hi:(P.info? t).map (·.size)=some cs.length):(execOp ρ o).run P W= .ok (.value (.agg cs.toArray)) W:=by
 unfold execOp
 simp only[ho,hx,Instr.loadAt,Instr.sureAddr,Sem.run_bind,Sem.run_pure,Result.andThen_ok,run_loadVar_mid W b off t cs d hc hu hd hi]
theorem rY: ∀(xs ys:List Int),xs.length=ys.length->((List.range xs.length).all fun i=>xs.getD i 0==ys.getD i 0)=(xs==ys)
 |[],[],_=>rfl
 |x::xs,y::ys,h=>by
  have ih:=rY xs ys (by simpa using h)
  rw[List.length_cons,List.range_succ_eq_map,List.all_cons,List.all_map]
  simp only[List.getD_cons_zero,Function.comp_def,List.getD_cons_succ,ih]
  simp[List.cons_beq_cons]
 |[],_::_,h=>by simp at h
 |_::_,[],h=>by simp at h
theorem wU {P:Program} (w:World) (d:Nat) (t e:TypeId) (n:Nat) (ht:P.underlying t=some (.array n e)) (he:P.underlying e=some (.int .i64)) (hsz: ∀w,(sizeOf e).run P w= .ok 1 w)
 (xs ys:List Int) (hx:xs.length=n) (hy:ys.length=n):
 (Op.equalIn (d+2) t (.agg (intCells xs).toArray) (.agg (intCells ys).toArray)).run P w= .ok (xs==ys) w:=by
 rw[<-rY xs ys (hx.trans hy.symm),hx,List.range_eq_range',Op.equalIn]
 simp only[Sem.run_bind,run_underlying ht,Result.andThen_ok,hsz,Std.Legacy.Range.forIn_eq_forIn_range',Std.Legacy.Range.size,Nat.sub_zero,Nat.add_sub_cancel,Nat.div_one]
 have hl: ∀i∈List.range' 0 n 1,i<n:=fun i hi=>by simpa using(List.mem_range'_1.1 hi).2
 generalize List.range' 0 n 1=l at hl⊢
 induction l with
 |nil=>simp
 |cons i l ih=>
  have hi:i<n:=hl i (by simp)
  have px:(part e (intCells xs).toArray (i*1)).run P w= .ok (.int .i64 (xs.getD i 0)) w:=by
   simp[part,isAgg,run_underlying he,intCells,List.getD,List.getElem?_eq_getElem (show i<xs.length by omega)]
  have py:(part e (intCells ys).toArray (i*1)).run P w= .ok (.int .i64 (ys.getD i 0)) w:=by
   simp[part,isAgg,run_underlying he,intCells,List.getD,List.getElem?_eq_getElem (show i<ys.length by omega)]
  have pe:(Op.equalIn (d+1) e (.int .i64 (xs.getD i 0)) (.int .i64 (ys.getD i 0))).run P w= .ok (xs.getD i 0==ys.getD i 0) w:=run_equalIn_int w d e .i64 .i64 _ _ he
  simp only[List.forIn_cons,Sem.run_bind,px,py,pe,Result.andThen_ok,List.all_cons]
  cases hb:(xs.getD i 0==ys.getD i 0)
  ·simp
  ·simp only[Bool.not_true,Bool.false_eq_true,if_false,Sem.run_pure,Result.andThen_ok,Bool.true_and]
   exact ih fun j hj=>hl j (by simp[hj])
theorem D9 {P:Program} (w:World) (t e:TypeId) (n:Nat) (ht:P.underlying t=some (.array n e)) (he:P.underlying e=some (.int .i64)) (hsz: ∀w,(sizeOf e).run P w= .ok 1 w)
 (xs ys:List Int) (hx:xs.length=n) (hy:ys.length=n):
 (binOp .neq t (.agg (intCells xs).toArray) (.agg (intCells ys).toArray)).run P w= .ok (.bool (!(xs==ys))) w:=by
 rw[run_neq_struct,wU w 9998 t e n ht he hsz xs ys hx hy]
 rfl
theorem jL {P:Program} {o:Oper} {ρ:Operand->Value} {W:World} (t e tb:TypeId) (n:Nat) (x y:Operand) (ho:o.op= .binOp .neq t x y tb) (ht:P.underlying t=some (.array n e)) (he:P.underlying e=some (.int .i64)) (hsz: ∀w,(sizeOf e).run P w= .ok 1 w)
 (hm:P.eqGuardType P.depth t=false) (xs ys:List Int) (hx:ρ x= .agg (intCells xs).toArray) (hy:ρ y= .agg (intCells ys).toArray) (hxl:xs.length=n) (hyl:ys.length=n):
 (execOp ρ o).run P W= .ok (.value (.bool (!(xs==ys)))) W:=by
 unfold execOp
 simp only[ho,hx,hy,Sem.run_bind,run_eqGuard_agg W .neq t x y _ _ hm,Result.andThen_ok,D9 W t e n ht he hsz xs ys hxl hyl,Sem.run_pure]
theorem wY {w:World} {base:Nat} {e:TypeId} {k:Nat} {v:Value} {A:List (List Int)} {z:List Int} (h:w.ownsRow base e k v (A.length+1) ((A++[z]).flatMap intCells)) (hA: ∀x∈A,x.length=k) (hz:z.length=k):
 ∃g c,v= .slice (some ⟨g,0,none⟩) (A.length+1) c/\base<=g/\g<w.heap.size/\w.rangeAt g (A.length*k) (intCells z):=by
 obtain⟨h1,⟨hv,h2⟩|⟨g,c,cs,hv,hb,hc,hn,hm,hs,hx⟩⟩:=h
 ·exact absurd h2 (by simp)
 ·refine⟨g,c,hv,hb,(Array.getElem?_eq_some_iff.1 hc).1,fun j u hj=>?_⟩
  have hj':j<k:=by have:=(List.getElem?_eq_some_iff.1 hj).1;simpa [intCells,hz] using this
  have e1:((A++[z]).flatMap intCells)[A.length*k+j]? =some u:=by
   rw[List.flatMap_append,List.getElem?_append_right (by rw[GK A k hA];omega),GK A k hA,Nat.add_sub_cancel_left]
   simpa using hj
  rw[<-hx,List.getElem?_take] at e1
  split at e1
  ·simp only[World.cell?,hc];simpa using e1
  ·cases e1
end Go.SL
namespace Go.Proofs.YtabpkkbiioihaaaGreatDoor
open Go.RowKit Go.RG Go.SL Go.Shelf gZ Go.TB
theorem Ac (b:Bool) (n:Int) (w:World):(Instr.checkKey b 9999 3 (iv n)).run Tryz.prog w= .ok () w:=xB b 9998 n w
abbrev Str:=Int×Int×Int
abbrev Ya (k:Str):Value:= .agg #[iv k.1,iv k.2.1,iv k.2.2]
theorem Et:Qh Tryz.prog 171 Ya (fun _=>True) where
 find w x es:=run_findKey_eq w (by kernel_rfl) x es
 check b a w _:=by
  unfold Instr.checkKey
  simp[go_sem]
  simp only[Ac,Result.andThen_ok]
 eq a b w _ _:=by
  unfold Op.equal Op.maxDepth
  simp[go_sem]
  obtain⟨a1,a2,a3⟩:=a
  obtain⟨b1,b2,b3⟩:=b
  by_cases h1:a1=b1 <;>by_cases h2:a2=b2 <;>by_cases h3:a3=b3 <;>simp[h1,h2,h3]
 bits a _:=by simp[Instr.sameBits]
end Go.Proofs.YtabpkkbiioihaaaGreatDoor
namespace Go.Proofs.YtabpkkbiioihaaaGreatDoor
open Go.RowKit Go.RG Go.SL Go.Shelf gZ Go.TB
abbrev qg (f:aO) (tv:Value):Array Value:= #[iv f.rows,iv f.ai,iv f.left.1,iv f.left.2,tv]
structure LZ (w:World) (f:aO) (tv:Value) (xs:List Int) (W:World):Prop where
 b0:W.heap[w.heap.size]? =some (.cells (qg f tv) 29 (0,0))
 b1:W.heap[w.heap.size+1]? =some (.cells (intCells xs).toArray 71 (0,0))
 tab: ∃T:List (Str×Int),TabAt Ya iv (fun _=>True) W (w.heap.size+2) T/\ ∀k n,TB.look k T=some n->n=xA xs k.1 k.2.1 k.2.2
 below:Below w.heap.size w W
theorem LZ.next {w:World} {f:aO} {tv:Value} {xs:List Int} {W W':World} (h:LZ w f tv xs W) (hb:Below W.heap.size W W'):LZ w f tv xs W':=by
 obtain⟨T,h1,h2⟩:=h.tab
 exact⟨(hb.block _ (Array.getElem?_eq_some_iff.1 h.b0).1).trans h.b0,(hb.block _ (Array.getElem?_eq_some_iff.1 h.b1).1).trans h.b1,⟨T,h1.below hb (Nat.le_refl _),h2⟩,
  h.below.trans (hb.mono h.below.size)⟩
def Gt (f:aO) (out xs:List Int) (k:Nat):Bool:=(List.range k).all fun i=>out.contains (i:Int) ||kD xs (f.ae.getD i (0,0,0,(0,0)))
theorem Lm (xs:List Int) (hx:xs.length=7) (who a b:Int) (h0:0<=a) (h1:a<=b) (h2:b<7) (w:World):
 Calls Tryz.prog 33 #[jk xs,iv who,iv a,iv b] w (PV (iv (xA xs who a b)) w):=by
 have:=count_any xs hx who a.toNat (b+1-a).toNat b (by omega) (by omega) (by omega) w
 rw[show((a.toNat:Nat):Int)=a from by omega] at this
 exact this
theorem sO (f:aO) (hS:lK f) (o:Option Addr) (c:Nat) (xs:List Int) (hx:xs.length=7) (ov:Value) (out:List Int) (w:World) (ht:bW w (.slice o f.ae.length c) f.ae) (ho:aN w ov out):
 Calls Tryz.prog 53 #[fv f (.slice o f.ae.length c),jk xs,ov] w (PV (.bool (eF f out xs)) w):=by
 obtain⟨oo,oc,rfl⟩:=ho.open
 have hmm:= @run_makeMap Tryz.prog
 obtain⟨x0,x1,x2,x3,x4,x5,x6,hxs⟩:=ng hx
 have hag:jk xs= .agg #[iv x0,iv x1,iv x2,iv x3,iv x4,iv x5,iv x6]:=by rw[hxs];rfl
 have hce:(intCells xs).toArray= #[iv x0,iv x1,iv x2,iv x3,iv x4,iv x5,iv x6]:=by rw[hxs];rfl
 have U8:=Lib.hid (fun who a b h0 h1 h2 w=>hag▸Lm xs hx who a b h0 h1 h2 w)
 rw[hag]
 have hlen:f.ae.length<=5:=hS.yz
 have HS:=Lib.hid hS
 have HT:=Lib.hid ht
 have HO:=Lib.hid ho
 have HX:=Lib.hid (And.intro hx hce)
 clear hS ht ho hx hxs hag hce
 go_enter Tryz.func53,Tryz.ntmps53
 go_upto_region 2 with(fail)
 refine dD fun W1 hW1=>?_
 have hst:LZ w f (.slice o f.ae.length c) xs W1:=by
  rw[hW1]
  refine⟨(Below.heap_alloc _ _ _ (by simp;omega)).trans ((Below.heap_alloc _ _ _ (by simp)).trans (ag _ _)),?_,⟨[],Em (fJ _ _ _ _),fun k n h=>by cases h⟩,zl⟩
  rw[HX.out.2]
  exact(Below.heap_alloc _ _ _ (by simp)).trans (dL _ _ _)
 clear hW1 hmm
 have c0:=cells_of_block hst.b0
 obtain⟨cc0,cf0,cl0⟩:=c0
 have HST:=Lib.hid hst
 clear hst
 go_wp2_with fail
 go_loopw [17] (fun i wr=> ∃k:Nat,k<=f.ae.length/\i= .int .i64 k/\Gt f out xs k=true/\LZ w f (.slice o f.ae.length c) xs wr) (fun i _=>f.ae.length-(intOf i).toNat)
 case atStart=>exact⟨0,Nat.zero_le _,rfl,rfl,HST.out⟩
 case round=>
  obtain⟨k,hk,rfl,hok,hst⟩:=hrel
  obtain⟨Jo,cf1,Lr⟩:=cells_of_block hst.b0
  have hb1:=hst.b1
  rw[HX.out.2] at hb1
  obtain⟨WJ,Zk,Zi⟩:=cells_of_block hb1
  have Au:=Lib.hid hst
  have iM:=Lib.hid hok
  clear hok hb1 cc0 cf0 cl0
  by_cases hlt:k<f.ae.length
  ·have htl:=HT.out.below hst.below (Nat.le_refl _)
   obtain⟨b,off,hv,hb,d0,d1,d2,d3,d4⟩:=bW.cell htl hlt
   clear hst htl
   have ad9:=HS.out.pM _ (List.getElem_mem hlt)
   generalize htk:f.ae[k]=t at*
   obtain⟨tw,ta,tb,Dy,Dz⟩:=t
   obtain⟨⟨q1,q2⟩,⟨q3,q4,q5⟩,⟨q6,q7,q8⟩⟩:=ad9
   cases hv
   simp only at d0 d1 d2 d3 d4 q1 q2 q3 q4 q5 q6 q7 q8
   have Jf:=Lib.hid htk
   have MZ:=HS.out.lU
   obtain⟨D,hD⟩: ∃D,xA xs tw ta tb=D:=⟨_,rfl⟩
   have HC1:=Lib.hid (U8.out tw ta tb q3 q4 (by omega))
   rw[hD] at HC1
   have hDb:0<=D/\D<=7:=by
    rw[<-hD]
    have:=EK xs tw ta.toNat (tb+1-ta).toNat
    unfold xA
    omega
   have HD:=Lib.hid hD
   clear htk hD
   go_upto_region 6 with(fail)
   refine dD fun W6 Hu=>?_
   have KN:LZ w f (.slice (some ⟨b,off,none⟩) f.ae.length c) xs W6:=Au.out.next (by rw[Hu];exact zl)
   have hk9:W6.heap[wr.heap.size]? =some (.cells #[iv tw,iv ta,iv tb,iv Dy,iv Dz] 122 (0,0)):=by rw[Hu];exact(Below.heap_alloc _ _ _ (by simp)).trans (ag _ _)
   have hk10:W6.heap[wr.heap.size+1]? =some (.cells #[iv tw,iv ta,iv tb] 171 (0,0)):=by rw[Hu];exact dL _ _ _
   obtain⟨T,hT,hTv⟩:=KN.tab
   have hlook:=fun cm=>pq Et (mt:=169) (e:=3) (by kernel_rfl) (z:=iv 0) (fun W=>by simp[go_sem]) hT (tw,ta,tb) trivial cm W6 rfl
   have ajC:=Lib.hid (show W6.heap.size=wr.heap.size+2 by rw[Hu];simp)
   clear Hu Jo cf1 Lr WJ Zk Zi d0 d1 d2 d3 d4 hb
   cases hl:TB.look (tw,ta,tb) T with
   |some n=>
    have hnD:n=D:=by rw[<-HD.out];exact hTv _ _ hl
    rw[hnD] at hl
    clear hnD
    rw[hl] at hlook
    simp only[Option.map_some,Option.getD_some,Option.isSome_some] at hlook
    have hlk:=hlook true
    simp only[if_true] at hlk
    have Fz:=Lib.hid (fun W hW=>pq Et (mt:=169) (e:=3) (by kernel_rfl) (z:=iv 0) (fun W=>by simp[go_sem]) hT (tw,ta,tb) trivial false W hW)
    rw[hl] at Fz
    simp only[Option.map_some,Option.getD_some,Option.isSome_some,Bool.false_eq_true,if_false] at Fz
    have Jg:=Lib.hid KN
    obtain⟨cc9,cf9,cl9⟩:=cells_of_block hk9
    obtain⟨Zm,Zl,WI⟩:=cells_of_block hk10
    clear hlook hl hTv hT KN
    go_upto_region 9 with(fail)
    have SS:Gt f out xs (k+1)=(out.contains (k:Int) ||inB D Dy Dz):=by
     unfold Gt at*
     have h1:=iM.out
     rw[jD,h1,Bool.true_and,show f.ae.getD k (0,0,0,(0,0))=(tw,ta,tb,(Dy,Dz)) from by simp[List.getD,hlt,Jf.out]]
     unfold kD
     simp only
     rw[HD.out]
    have MF:=Lib.hid SS
    clear SS
    by_cases hoc:out.contains (k:Int)=true
    ·have tY:=Lib.hid hoc
     clear hoc
     refine zg 13 [] none [(2,Spec.val (.bool true))] ?_
     simp only[zt]
     repeat ((first|refine zn ?_|refine zk ?_);simp only[zp])
     refine zw 102 (h:=fun W hE hF=>by exact(by have:=eP out (.slice oo out.length oc) (k:Int) W (HO.out.below (Jg.out.next hE.below).below (Nat.le_refl _));rw[tY.out] at this;exact this)) (t:=?_)
     simp only[zp]
     repeat ((first|refine zn ?_|refine zk ?_);simp only[zp])
     intro W hE hF
     obtain⟨hc,hf⟩:=aW hE.below
     have hzE:=hE.size
     (try simp only[World.size_alloc] at hzE)
     have Qj:=Lib.hid (Jg.out.next hE.below)
     clear hE hF
     go_wp2_with fail
     go_roundw
     case rel=>exact⟨k+1,by omega,by go_num,by rw[MF.out,tY.out];rfl,Qj.out⟩
     case measure=>simp[intOf];omega
    ·have SX:out.contains (k:Int)=false:=by simpa using hoc
     have tY:=Lib.hid SX
     clear hoc SX
     obtain⟨q,hq⟩: ∃q,inB D Dy Dz=q:=⟨_,rfl⟩
     have HQ:=Lib.hid hq
     clear hq
     cases q
     ·skip
      refine zg 13 [] none [(2,Spec.val (.bool false)),(10,Spec.val (.bool false))] ?_
      simp only[zt]
      repeat ((first|refine zn ?_|refine zk ?_);simp only[zp])
      refine zw 102 (h:=fun W hE hF=>by exact(by have:=eP out (.slice oo out.length oc) (k:Int) W (HO.out.below (Jg.out.next hE.below).below (Nat.le_refl _));rw[tY.out] at this;exact this)) (t:=?_)
      simp only[zp]
      repeat ((first|refine zn ?_|refine zk ?_);simp only[zp])
      refine eG (by rfl) _ (by rfl) (fun W hE _=>by have:=Fz.out W (hE.block _ Jg.out.tab.choose_spec.1.lt (by simp));go_simp;try rfl) ?_
      simp only[zp]
      refine zw 103 (h:=fun W hE hF=>by exact(by have:=qL (Dy,Dz) D W;rw[HQ.out] at this;exact this)) (t:=?_)
      simp only[zp]
      repeat ((first|refine zn ?_|refine zk ?_);simp only[zp])
      intro W hE hF
      obtain⟨hc,hf⟩:=aW hE.below
      have hzE:=hE.size
      (try simp only[World.size_alloc] at hzE)
      have Qj:=Lib.hid (Jg.out.next hE.below)
      clear hE hF
      go_wp2_with fail
      go_returns
      refine⟨?_,Qj.out.below⟩
      have:eF f out xs=false:=by
       have h1:=MF.out
       rw[tY.out,HQ.out] at h1
       cases hr:eF f out xs
       ·rfl
       ·unfold eF at hr
        rw[Bool.and_eq_true,List.all_eq_true] at hr
        unfold Gt at h1
        have:((List.range (k+1)).all fun i=>out.contains (i:Int) ||kD xs (f.ae.getD i (0,0,0,(0,0))))=true:=by
         rw[List.all_eq_true]
         exact fun i hi=>hr.1 i (List.mem_range.2 (by have:=List.mem_range.1 hi;omega))
        rw[this] at h1
        cases h1
      rw[this]
      simp
     ·skip
      refine zg 13 [] none [(2,Spec.val (.bool false)),(10,Spec.val (.bool true))] ?_
      simp only[zt]
      repeat ((first|refine zn ?_|refine zk ?_);simp only[zp])
      refine zw 102 (h:=fun W hE hF=>by exact(by have:=eP out (.slice oo out.length oc) (k:Int) W (HO.out.below (Jg.out.next hE.below).below (Nat.le_refl _));rw[tY.out] at this;exact this)) (t:=?_)
      simp only[zp]
      repeat ((first|refine zn ?_|refine zk ?_);simp only[zp])
      refine eG (by rfl) _ (by rfl) (fun W hE _=>by have:=Fz.out W (hE.block _ Jg.out.tab.choose_spec.1.lt (by simp));go_simp;try rfl) ?_
      simp only[zp]
      refine zw 103 (h:=fun W hE hF=>by exact(by have:=qL (Dy,Dz) D W;rw[HQ.out] at this;exact this)) (t:=?_)
      simp only[zp]
      repeat ((first|refine zn ?_|refine zk ?_);simp only[zp])
      intro W hE hF
      obtain⟨hc,hf⟩:=aW hE.below
      have hzE:=hE.size
      (try simp only[World.size_alloc] at hzE)
      have Qj:=Lib.hid (Jg.out.next hE.below)
      clear hE hF
      go_wp2_with fail
      go_roundw
      case rel=>exact⟨k+1,by omega,by go_num,by rw[MF.out,tY.out,HQ.out];rfl,Qj.out⟩
      case measure=>simp[intOf];omega
   |none=>
    rw[hl] at hlook
    simp only[Option.map_none,Option.getD_none,Option.isSome_none] at hlook
    have hlk:=hlook true
    simp only[if_true] at hlk
    obtain⟨cc0,cf0,cl0⟩:=cells_of_block KN.b0
    have hb1:=KN.b1
    rw[HX.out.2] at hb1
    obtain⟨Jo,cf1,Lr⟩:=cells_of_block hb1
    obtain⟨cc9,cf9,cl9⟩:=cells_of_block hk9
    obtain⟨Zm,Zl,WI⟩:=cells_of_block hk10
    have HS6:=Lib.hid KN
    have WV:=Lib.hid (And.intro hT hTv)
    clear hlook hl hTv hT KN hb1
    go_upto_region 8 with(fail)
    refine zg 10 [] none [(9,Spec.val (iv D))] ?_
    simp only[zt]
    repeat ((first|refine zn ?_|refine zk ?_);simp only[zp])
    refine zw 33 (h:=fun W hE hF=>by exact HC1.out W) (t:=?_)
    simp only[zp]
    intro W hE hF
    obtain⟨hc,hf⟩:=aW hE.below
    have hzE:=hE.size
    (try simp only[World.size_alloc] at hzE)
    have hTW:TabAt Ya iv (fun _=>True) W (w.heap.size+2) T:=WV.out.1.below hE.below (Nat.le_refl _)
    obtain⟨W8,hrun,hT8,dZ⟩:=dK Et (mt:=169) (e:=3) (by kernel_rfl) hTW (tw,ta,tb) trivial D
    have OT:=HS6.out.next hE.below
    have aaS:LZ w f (.slice (some ⟨b,off,none⟩) f.ae.length c) xs W8:=by
     refine⟨(dZ.block _ (Array.getElem?_eq_some_iff.1 OT.b0).1 (by simp)).trans OT.b0,(dZ.block _ (Array.getElem?_eq_some_iff.1 OT.b1).1 (by simp)).trans OT.b1,⟨_,hT8,fun k n h=>?_⟩,iF OT.below dZ (by omega)⟩
     rw[pW] at h
     split at h
     ·rename_i he
      subst he
      cases h
      exact HD.out.symm
     ·exact WV.out.2 _ _ h
    have aeC:W8.heap[wr.heap.size]? =some (.cells #[iv tw,iv ta,iv tb,iv Dy,iv Dz] 122 (0,0)):=
     (dZ.block _ (by have:=hE.size;omega) (by have:=Au.out.tab.choose_spec.1.lt;simp;omega)).trans ((hE.block _ cl9 (by simp)).trans hk9)
    have hk10':W8.heap[wr.heap.size+1]? =some (.cells #[iv tw,iv ta,iv tb] 171 (0,0)):=
     (dZ.block _ (by have:=hE.size;omega) (by have:=Au.out.tab.choose_spec.1.lt;simp;omega)).trans ((hE.block _ WI (by simp)).trans hk10)
    have Fz:=Lib.hid (fun W hW=>pq Et (mt:=169) (e:=3) (by kernel_rfl) (z:=iv 0) (fun W=>by simp[go_sem]) hT8 (tw,ta,tb) trivial false W hW)
    rw[pW,if_pos rfl] at Fz
    simp only[Option.map_some,Option.getD_some,Option.isSome_some,Bool.false_eq_true,if_false] at Fz
    have Jg:=Lib.hid aaS
    clear hT8 dZ OT aaS hTW hE hF cc0 cf0 cl0 Jo cf1 Lr cc9 cf9 cl9 Zm Zl WI hc hf hlk
    go_upto_region 9 with(fail)
    clear hrun
    obtain⟨cc9,cf9,cl9⟩:=cells_of_block aeC
    obtain⟨Zm,Zl,WI⟩:=cells_of_block hk10'
    have SS:Gt f out xs (k+1)=(out.contains (k:Int) ||inB D Dy Dz):=by
     unfold Gt at*
     have h1:=iM.out
     rw[jD,h1,Bool.true_and,show f.ae.getD k (0,0,0,(0,0))=(tw,ta,tb,(Dy,Dz)) from by simp[List.getD,hlt,Jf.out]]
     unfold kD
     simp only
     rw[HD.out]
    have MF:=Lib.hid SS
    clear SS
    by_cases hoc:out.contains (k:Int)=true
    ·have tY:=Lib.hid hoc
     clear hoc
     refine zg 13 [] none [(2,Spec.val (.bool true))] ?_
     simp only[zt]
     repeat ((first|refine zn ?_|refine zk ?_);simp only[zp])
     refine zw 102 (h:=fun W hE hF=>by exact(by have:=eP out (.slice oo out.length oc) (k:Int) W (HO.out.below (Jg.out.next hE.below).below (Nat.le_refl _));rw[tY.out] at this;exact this)) (t:=?_)
     simp only[zp]
     repeat ((first|refine zn ?_|refine zk ?_);simp only[zp])
     intro W hE hF
     obtain⟨hc,hf⟩:=aW hE.below
     have hzE:=hE.size
     (try simp only[World.size_alloc] at hzE)
     have Qj:=Lib.hid (Jg.out.next hE.below)
     clear hE hF
     go_wp2_with fail
     go_roundw
     case rel=>exact⟨k+1,by omega,by go_num,by rw[MF.out,tY.out];rfl,Qj.out⟩
     case measure=>simp[intOf];omega
    ·have SX:out.contains (k:Int)=false:=by simpa using hoc
     have tY:=Lib.hid SX
     clear hoc SX
     obtain⟨q,hq⟩: ∃q,inB D Dy Dz=q:=⟨_,rfl⟩
     have HQ:=Lib.hid hq
     clear hq
     cases q
     ·skip
      refine zg 13 [] none [(2,Spec.val (.bool false)),(10,Spec.val (.bool false))] ?_
      simp only[zt]
      repeat ((first|refine zn ?_|refine zk ?_);simp only[zp])
      refine zw 102 (h:=fun W hE hF=>by exact(by have:=eP out (.slice oo out.length oc) (k:Int) W (HO.out.below (Jg.out.next hE.below).below (Nat.le_refl _));rw[tY.out] at this;exact this)) (t:=?_)
      simp only[zp]
      repeat ((first|refine zn ?_|refine zk ?_);simp only[zp])
      refine eG (by rfl) _ (by rfl) (fun W hE _=>by have:=Fz.out W (hE.block _ Jg.out.tab.choose_spec.1.lt (by simp));go_simp;try rfl) ?_
      simp only[zp]
      refine zw 103 (h:=fun W hE hF=>by exact(by have:=qL (Dy,Dz) D W;rw[HQ.out] at this;exact this)) (t:=?_)
      simp only[zp]
      repeat ((first|refine zn ?_|refine zk ?_);simp only[zp])
      intro W hE hF
      obtain⟨hc,hf⟩:=aW hE.below
      have hzE:=hE.size
      (try simp only[World.size_alloc] at hzE)
      have Qj:=Lib.hid (Jg.out.next hE.below)
      clear hE hF
      go_wp2_with fail
      go_returns
      refine⟨?_,Qj.out.below⟩
      have:eF f out xs=false:=by
       have h1:=MF.out
       rw[tY.out,HQ.out] at h1
       cases hr:eF f out xs
       ·rfl
       ·unfold eF at hr
        rw[Bool.and_eq_true,List.all_eq_true] at hr
        unfold Gt at h1
        have:((List.range (k+1)).all fun i=>out.contains (i:Int) ||kD xs (f.ae.getD i (0,0,0,(0,0))))=true:=by
         rw[List.all_eq_true]
         exact fun i hi=>hr.1 i (List.mem_range.2 (by have:=List.mem_range.1 hi;omega))
        rw[this] at h1
        cases h1
      rw[this]
      simp
     ·skip
      refine zg 13 [] none [(2,Spec.val (.bool false)),(10,Spec.val (.bool true))] ?_
      simp only[zt]
      repeat ((first|refine zn ?_|refine zk ?_);simp only[zp])
      refine zw 102 (h:=fun W hE hF=>by exact(by have:=eP out (.slice oo out.length oc) (k:Int) W (HO.out.below (Jg.out.next hE.below).below (Nat.le_refl _));rw[tY.out] at this;exact this)) (t:=?_)
      simp only[zp]
      repeat ((first|refine zn ?_|refine zk ?_);simp only[zp])
      refine eG (by rfl) _ (by rfl) (fun W hE _=>by have:=Fz.out W (hE.block _ Jg.out.tab.choose_spec.1.lt (by simp));go_simp;try rfl) ?_
      simp only[zp]
      refine zw 103 (h:=fun W hE hF=>by exact(by have:=qL (Dy,Dz) D W;rw[HQ.out] at this;exact this)) (t:=?_)
      simp only[zp]
      repeat ((first|refine zn ?_|refine zk ?_);simp only[zp])
      intro W hE hF
      obtain⟨hc,hf⟩:=aW hE.below
      have hzE:=hE.size
      (try simp only[World.size_alloc] at hzE)
      have Qj:=Lib.hid (Jg.out.next hE.below)
      clear hE hF
      go_wp2_with fail
      go_roundw
      case rel=>exact⟨k+1,by omega,by go_num,by rw[MF.out,tY.out,HQ.out];rfl,Qj.out⟩
      case measure=>simp[intOf];omega
  ·have hkl:k=f.ae.length:=by omega
   subst hkl
   have aaG:jk xs= .agg #[iv x0,iv x1,iv x2,iv x3,iv x4,iv x5,iv x6]:=congrArg Value.agg HX.out.2
   have HL:=Lib.hid (fun W=>aaG▸Ij f (.slice o f.ae.length c) xs HX.out.1 (-1) W HS.out.ug HS.out.lU)
   obtain⟨d,hd⟩: ∃d,fK f xs (-1)=d:=⟨_,rfl⟩
   obtain⟨q,hq⟩: ∃q,inB d f.left.1 f.left.2=q:=⟨_,rfl⟩
   have HR:Hid (eF f out xs=q):=Lib.hid (by
    rw[<-hq, <-hd]
    have h1:=iM.out
    unfold Gt at h1
    unfold eF
    rw[h1,Bool.true_and]
    rfl)
   have HD:=Lib.hid (And.intro hd hq)
   rw[hd] at HL
   clear hd hq aaG hst
   go_upto_region 12 with(fail)
   refine zg 7 [] none [(4,Spec.val (iv d)),(5,Spec.val (.bool q))] ?_
   simp only[zt]
   repeat ((first|refine zn ?_|refine zk ?_);simp only[zp])
   refine zw 19 (h:=fun W hE hF=>by exact HL.out W) (t:=?_)
   simp only[zp]
   refine zw 103 (h:=fun W hE hF=>by exact(by have:=qL f.left d W;rw[HD.out.2] at this;exact this)) (t:=?_)
   simp only[zp]
   repeat ((first|refine zn ?_|refine zk ?_);simp only[zp])
   intro W hE hF
   obtain⟨hc,hf⟩:=aW hE.below
   have hzE:=hE.size
   (try simp only[World.size_alloc] at hzE)
   have Qj:=Lib.hid (Au.out.next hE.below)
   clear hE hF
   go_wp2_with fail
   go_returns
   exact⟨by rw[HR.out];simp,Qj.out.below⟩
end Go.Proofs.YtabpkkbiioihaaaGreatDoor
end
section
namespace Go.Proofs.YtabpkkbiioihaaaGreatDoor
open Go.RowKit Go.RG Go.SL Go.Shelf gZ Go.TB
attribute [local go_sem] Oper.semAt_some
def cntF (f:aO) (out:List Int) (k:Nat):Nat:=(((kH f).take k).filter (eF f out)).length
theorem IA (f:aO) (out:List Int):cntF f out (kH f).length=(aG f out).length:=by
 unfold cntF aG
 rw[List.take_length]
theorem Nu {f:aO} {out:List Int} {k:Nat} (hk:k<(kH f).length) (hp:eF f out (kH f)[k]=false):cntF f out (k+1)=cntF f out k:=by
 unfold cntF
 rw[List.take_succ_eq_append_getElem hk,List.filter_append,List.length_append]
 simp[hp]
theorem Iz {f:aO} {out:List Int} {k:Nat} (hk:k<(kH f).length) (hp:eF f out (kH f)[k]=true):cntF f out (k+1)=cntF f out k+1:=by
 unfold cntF
 rw[List.take_succ_eq_append_getElem hk,List.filter_append,List.length_append]
 simp[hp]
theorem yS {f:aO} {out:List Int} {k:Nat} (hk:k<(kH f).length) (hp:eF f out (kH f)[k]=true):
 ∃hc:cntF f out k<(aG f out).length,(aG f out)[cntF f out k]=(kH f)[k]:=by
 have:=xx (eF f out) id (kH f) k hk hp
 rw[List.map_id] at this
 obtain⟨hc,hx⟩:=List.getElem?_eq_some_iff.1 this
 exact⟨hc,hx⟩
def lG (x:List Int):List Int:=x++List.replicate (7-x.length) 0
theorem oU {x:List Int} (h:x.length<=7):(lG x).length=7:=by simp[lG];omega
theorem Ru (x:List Int) (i:Nat):(lG x).getD i 0=x.getD i 0:=by
 unfold lG
 by_cases h:i<x.length
 ·rw[List.getD_eq_getElem?_getD,List.getElem?_append_left h, <-List.getD_eq_getElem?_getD]
 ·rw[List.getD_eq_getElem?_getD,List.getElem?_append_right (by omega),List.getElem?_replicate]
  have:x.getD i 0=0:=by rw[List.getD_eq_getElem?_getD,List.getElem?_eq_none (by omega)];rfl
  rw[this]
  split <;>rfl
theorem Io (x:List Int) (who:Int) (a n:Nat):rO (lG x) who a n=rO x who a n:=by
 unfold rO
 simp only[Ru]
theorem BR (f:aO) (out x:List Int):eF f out (lG x)=eF f out x:=by
 unfold eF kD xA
 simp only[Io]
theorem Uf (f:aO) (x:List Int) (who:Int):fK f (lG x) who=fK f x who:=by
 unfold fK xA
 rw[Io]
structure QI (W:World) (bf bo fU ab bc l:Nat) (o:List Int):Prop where
 y:W.heap[fU]? =some (.cells #[.func (.yield l) #[] #[]] 123 (0,0))
 ch:W.heap[bc]? =some (.cells #[.func (.func 52) #[] #[.pointer (some ⟨bf,0,none⟩),.pointer (some ⟨ab,0,none⟩),.pointer (some ⟨bo,0,none⟩),.pointer (some ⟨fU,0,none⟩),.pointer (some ⟨bc,0,none⟩)]] 124 (0,0))
 cells:W.heap[ab]? =some (.cells (intCells o).toArray 71 (0,0))
theorem QI.kept {W W':World} {bf bo fU ab bc l:Nat} {o:List Int} (h:QI W bf bo fU ab bc l o) (hk: ∀m∈[ab,fU,bc],m<W.heap.size->W'.heap[m]? =W.heap[m]?):QI W' bf bo fU ab bc l o:=
 ⟨(hk _ (by simp) (Array.getElem?_eq_some_iff.1 h.y).1).trans h.y,(hk _ (by simp) (Array.getElem?_eq_some_iff.1 h.ch).1).trans h.ch,(hk _ (by simp) (Array.getElem?_eq_some_iff.1 h.cells).1).trans h.cells⟩
theorem QI.below {W W':World} {bf bo fU ab bc l:Nat} {o:List Int} (h:QI W bf bo fU ab bc l o) (hb:Below W.heap.size W W'):QI W' bf bo fU ab bc l o:=
 h.kept fun m _ hm=>hb.block m hm
theorem QI.set {W:World} {bf bo fU ab bc l:Nat} {o:List Int} (h:QI W bf bo fU ab bc l o) (hd1:fU≠ab) (hd3:bc≠ab) (i:Nat) (x:Int):QI (W.setCell ⟨ab,i,none⟩ (iv x)) bf bo fU ab bc l (o.set i x):=
 ⟨(Below.heap_setCell _ _ _ _ hd1).trans h.y,(Below.heap_setCell _ _ _ _ hd3).trans h.ch,by rw[<-ni];exact ak h.cells _⟩
def ac4 (_:List Nat) (x:List Int) (v:Value) (_:World):Prop:=v=jk (lG x)
structure XJ (bf bo:Nat) (f:aO) (tv ov:Value) (out:List Int) (W:World):Prop where
 fb:W.heap[bf]? =some (.cells (qg f tv) 29 (0,0))
 ob:W.heap[bo]? =some (.cells #[ov] 36 (0,0))
 pM:bW W tv f.ae
 out:aN W ov out
theorem FQ (f:aO) (hS:lK f) (tv ov:Value) (out:List Int) (bf bo fU ab bc l:Nat) (hd1:fU≠ab) (hd3:bc≠ab) (J:List Nat->Option Nat->World->Prop)
 (hInv: ∀Ms s W1,J Ms s W1->XJ bf bo f tv ov out W1)
 (hstep: ∀Ms Ms' s W1 W2,J Ms s W1->Ext Ms W1 W2->(∀m∈Ms',m∈Ms∨(W1.heap.size<=m/\m<W2.heap.size))->True->J Ms' s W2)
 (hY: ∀Ms k v W1 (hk:k<(aG f out).length),J Ms (some k) W1->ac4 Ms (aG f out)[k] v W1->YieldAt Fence.wide 0 Tryz.prog l #[v] W1 fun e W'=>
   ((∀m∈Ms,m∉[]->m<W1.heap.size->W'.heap[m]? =W1.heap[m]?)/\W1.heap.size<=W'.heap.size)/\((e= .returned (.bool true)/\J Ms (some (k+1)) W')∨(e= .returned (.bool false)/\J Ms none W'))):
 ∀(m i k:Nat) (pre:List Int) (W:World) (o:List Int),i+m=f.rows.toNat->pre.length=i->o.length=7->o.take i=pre->o.drop f.rows.toNat=List.replicate (7-f.rows.toNat) 0->gy (dB f) i k pre->QI W bf bo fU ab bc l o->J [ab,fU,bc] (some (cntF f out k)) W->
  CallsIn Fence.wide 0 Tryz.prog 52 #[iv i,.pointer (some ⟨bf,0,none⟩),.pointer (some ⟨ab,0,none⟩),.pointer (some ⟨bo,0,none⟩),.pointer (some ⟨fU,0,none⟩),.pointer (some ⟨bc,0,none⟩)] W
   (fun e W'=>(e= .returned (.bool true)/\J [ab,fU,bc] (some (cntF f out (k+(dC ((dB f).drop i)).length))) W'/\ ∃o',o'.length=7/\o'.take i=pre/\o'.drop f.rows.toNat=List.replicate (7-f.rows.toNat) 0/\QI W' bf bo fU ab bc l o')∨
     (e= .returned (.bool false)/\J [ab,fU,bc] none W')):=by
 have hRl:(dB f).length=f.rows.toNat:=by simp[dB]
 intro m
 induction m with
 |zero=>
  intro i k pre W o him hpl hol hot hod hat hst hJ
  have hrow:(i:Int)=f.rows:=by have:=hS.ug;omega
  obtain⟨hone,hk,hx⟩:=hat.last (by omega)
  rw[hone]
  have hop:o=lG pre:=by
   rw[<-List.take_append_drop f.rows.toNat o,hod]
   rw[show f.rows.toNat=i from by omega,hot]
   unfold lG
   rw[hpl]
  have hk':k<(kH f).length:=hk
  have hxx:(kH f)[k]=pre:=hx
  obtain⟨hbf,O1,htl,hov⟩:=hInv _ _ _ hJ
  obtain⟨ot,ct,rfl⟩:=htl.open
  obtain⟨oo,oc,rfl⟩:=hov.open
  have hright:=sO f hS ot ct o hol _ out W htl hov
  rw[show eF f out o=eF f out pre from by rw[hop,BR]] at hright
  obtain⟨Jo,cf1,Lr⟩:=cells_of_block hbf
  obtain⟨WJ,Zk,Zi⟩:=cells_of_block O1
  obtain⟨cc3,cf3,cl3⟩:=cells_of_block hst.y
  obtain⟨x0,x1,x2,x3,x4,x5,x6,hxs⟩:=ng hol
  have hag:jk o= .agg #[iv x0,iv x1,iv x2,iv x3,iv x4,iv x5,iv x6]:=by rw[hxs];rfl
  have hcb:=hst.cells
  rw[show(intCells o).toArray= #[iv x0,iv x1,iv x2,iv x3,iv x4,iv x5,iv x6] from by rw[hxs];rfl] at hcb
  obtain⟨cc4,cf4,cl4⟩:=cells_of_block hcb
  rw[hag] at hright
  have HR:=Lib.hid hright
  have HS:=Lib.hid hst
  have HJ:=Lib.hid hJ
  have HI:=Lib.hid hInv
  have HST:=Lib.hid hstep
  have HY:=Lib.hid hY
  have HK:=Lib.hid (show ∃h:k<(kH f).length,(kH f)[k]=pre from⟨hk',hxx⟩)
  have HO:=Lib.hid (And.intro hol (And.intro hot (And.intro hod (And.intro hop hag))))
  have heq:((i:Int)==f.rows)=true:=by simpa using hrow
  clear hright hInv hstep hY hst hJ hbf O1 htl hov hat hcb hop hag hxs hx hxx hk hk' hone hrow hot hod
  obtain⟨q,hq⟩: ∃q,eF f out pre=q:=⟨_,rfl⟩
  have HQ:=Lib.hid hq
  rw[hq] at HR
  clear hq
  cases q
  ·skip
   refine callsIn_of_wp Tryz.func52 rfl trivial ?_
   simp only[Tryz.ntmps52,List.size_toArray,List.length_cons,List.length_nil,Nat.reduceAdd,Nat.reduceSub,Array.replicate_succ,Array.replicate_zero,List.push_toArray,List.append_toArray,List.nil_append,List.cons_append]
   gi_wp2_with fail
   refine(callsIn_wide.2 HR.out).mono ?_
   rintro e W1 ⟨rfl,hb1⟩
   have HB1:=Lib.hid hb1
   clear hb1
   gi_wp2_with fail
   go_returns
   have hJ1:=HST.out _ _ _ _ _ HJ.out (Ext.of_below HB1.out) (fun m hm=> .inl hm) trivial
   obtain⟨hk',hxx⟩:=HK.out
   rw[<-Nu hk' (by rw[hxx];exact HQ.out)] at hJ1
   exact .inl ⟨by simp,hJ1,o,HO.out.1,HO.out.2.1,HO.out.2.2.1,HS.out.below HB1.out⟩
  ·skip
   refine callsIn_of_wp Tryz.func52 rfl trivial ?_
   simp only[Tryz.ntmps52,List.size_toArray,List.length_cons,List.length_nil,Nat.reduceAdd,Nat.reduceSub,Array.replicate_succ,Array.replicate_zero,List.push_toArray,List.append_toArray,List.nil_append,List.cons_append]
   gi_wp2_with fail
   refine(callsIn_wide.2 HR.out).mono ?_
   rintro e W1 ⟨rfl,hb1⟩
   obtain⟨hc1,hf1⟩:=aW hb1
   have hs1:=hb1.size
   have HB1:=Lib.hid hb1
   have hJ1:=HST.out _ _ _ _ _ HJ.out (Ext.of_below hb1) (fun m hm=> .inl hm) trivial
   obtain⟨hk',hxx⟩:=HK.out
   obtain⟨hc,hx⟩:=yS hk' (by rw[hxx];exact HQ.out)
   obtain⟨g1,t1,a1,b1,hy1,hR1⟩:=HY.out _ _ (.agg #[iv x0,iv x1,iv x2,iv x3,iv x4,iv x5,iv x6]) W1 hc hJ1 (by
    show _=jk (lG _)
    rw[hx,hxx, <-HO.out.2.2.2.1,HO.out.2.2.2.2])
   have hcn:cntF f out (k+1)=cntF f out k+1:=Iz hk' (by rw[hxx];exact HQ.out)
   have HR1:=Lib.hid hR1
   have U8:=Lib.hid hcn
   clear hR1 hJ1 hk' hxx hc hx hcn hb1
   gi_wp2_with fail
   refine HR1.out.mono ?_
   rintro e W' ⟨⟨hkeep,hsz⟩,⟨rfl,hJ⟩|⟨rfl,hJ⟩⟩
   ·have UO:=Lib.hid hJ
    have HK':=Lib.hid hkeep
    clear hJ hkeep
    gi_wp2_with fail
    go_returns
    refine .inl ⟨by simp,by rw[U8.out];exact UO.out,o,HO.out.1,HO.out.2.1,HO.out.2.2.1,(HS.out.below HB1.out).kept (fun m hm hml=>HK'.out m hm (by simp) hml)⟩
   ·have UO:=Lib.hid hJ
    clear hJ hkeep
    gi_wp2_with fail
    go_returns
    exact .inr ⟨by simp,UO.out⟩
 |succ m ih=>
  intro i k pre W o him hpl hol hot hod hat hst hJ
  have hi:i<(dB f).length:=by omega
  have hcount:=gy.count hi
  have hw0:=hS.uf
  have hw1:=hS.qM
  have MZ:=hS.lU
  have hr0:=hS.ug
  have AP:(dB f)[i]=(-1,f.ai-1):=by simp[dB]
  obtain⟨z,hz,hz4⟩: ∃z:Nat,(z:Int)=f.ai+1/\z<=4:=⟨(f.ai+1).toNat,by omega,by omega⟩
  have hsz:(df (dB f)[i]).toNat=z:=by rw[AP];unfold df;simp only;omega
  rw[hsz] at hcount
  obtain⟨hbf,O1,htl,hov⟩:=hInv _ _ _ hJ
  obtain⟨Jo,cf1,Lr⟩:=cells_of_block hbf
  have hne:(i:Int)≠f.rows:=by omega
  have hneb:((i:Int)==f.rows)=false:=by simpa using hne
  have Qm:Hid (∀c:Nat,c<z->gy (dB f) (i+1) (k+c*(dC ((dB f).drop (i+1))).length) (pre++[(c:Int)-1])):=Lib.hid (fun c hc=>by
   have:=hat.next hi c (by rw[hsz];exact hc)
   rw[AP] at this
   rw[show(c:Int)-1= -1+(c:Int) from by omega]
   exact this)
  have HI:=Lib.hid hInv
  have HST:=Lib.hid hstep
  have HS:=Lib.hid hst
  have HJ:=Lib.hid hJ
  have HIH:=Lib.hid ih
  have BG:=Lib.hid (And.intro hol (And.intro hot hod))
  have ZN:=Lib.hid hcount
  have HZ:=Lib.hid hz
  have ZX:i<7:=by omega
  have hiR:i<f.rows.toNat:=by omega
  clear hInv hstep hY hat hst hJ ih hcount hne hbf O1 htl hov AP hsz hi hol hot hod hRl hz
  refine callsIn_of_wp Tryz.func52 rfl trivial ?_
  simp only[Tryz.ntmps52,List.size_toArray,List.length_cons,List.length_nil,Nat.reduceAdd,Nat.reduceSub,Array.replicate_succ,Array.replicate_zero,List.push_toArray,List.append_toArray,List.nil_append,List.cons_append]
  gi_wp2_with fail
  rw[<-HZ.out]
  gi_loopw [26] (fun u wr=> ∃c:Nat,c<=z/\u= .int .i64 c/\ ∃o':List Int,o'.length=7/\o'.take i=pre/\o'.drop f.rows.toNat=List.replicate (7-f.rows.toNat) 0/\QI wr bf bo fU ab bc l o'/\J [ab,fU,bc] (some (cntF f out (k+c*(dC ((dB f).drop (i+1))).length))) wr)
   (fun u _=>z-(intOf u).toNat)
  case atStart=>exact⟨0,Nat.zero_le _,rfl,o,BG.out.1,BG.out.2.1,BG.out.2.2,HS.out,by simpa using HJ.out⟩
  case round=>
   obtain⟨c,hcz,rfl,o',ho1,ho2,ho3,hst,hJ⟩:=hrel
   by_cases hlt:c<z
   ·obtain⟨hbf,O1,htl,hov⟩:=HI.out _ _ _ hJ
    obtain⟨XH,IV,IC⟩:=cells_of_block hbf
    obtain⟨XG,IU,IB⟩:=cells_of_block hst.ch
    obtain⟨y,hcell⟩: ∃y,wr.cell? ⟨ab,i,none⟩=some (iv y):=⟨_,ed hst.cells (show i<o'.length by omega)⟩
    have hab:=World.block_lt_of_cell? wr _ hcell
    have hfr:=aX hst.cells i
    have Au:=Lib.hid hst
    have MG:=Lib.hid hJ
    have HO:=Lib.hid (And.intro ho1 (And.intro ho2 ho3))
    have KO:(c:Int)<z:=by omega
    clear hst hJ hbf O1 htl hov ho1 ho2 ho3 Jo cf1 Lr
    have zN:=Au.out.set hd1 hd3 i ((c:Int)-1)
    have TQ:J [ab,fU,bc] (some (cntF f out (k+c*(dC ((dB f).drop (i+1))).length))) (wr.setCell ⟨ab,i,none⟩ (iv ((c:Int)-1))):=
     HST.out _ _ _ _ _ MG.out ((og wr ⟨ab,i,none⟩ _).more (fun x hx=>by simp at hx;subst hx;simp)) (fun m hm=> .inl hm) trivial
    have hcall:=HIH.out (i+1) _ (pre++[(c:Int)-1]) _ (o'.set i ((c:Int)-1)) (by omega) (by simp[hpl]) (by simp[HO.out.1]) (by
     rw[List.take_set]
     rw[List.take_add_one,HO.out.2.1]
     have VV:i<o'.length:=by have:=HO.out.1;omega
     rw[List.getElem?_eq_getElem VV]
     simp[List.set_append_right,hpl]) (by
     rw[List.drop_set,if_pos hiR];exact HO.out.2.2) (Qm.out c hlt) zN TQ
    rw[show((i+1:Nat):Int)=(i:Int)+1 from by omega] at hcall
    have AB:=Lib.hid hcall
    clear hcall zN TQ
    gi_wp2_with fail
    refine AB.out.mono ?_
    rintro e W2 (⟨rfl,hJ2,o2,ho1,ho2,ho3,hst2⟩|⟨rfl,hJ2⟩)
    ·have HJ2:=Lib.hid hJ2
     have Fq:=Lib.hid hst2
     have wQ:=Lib.hid (And.intro ho1 (And.intro ho2 ho3))
     clear hJ2 hst2 ho1 ho2 ho3 XH IV IC XG IU IB hcell hab hfr
     gi_wp2_with fail
     go_roundw
     case rel=>
      refine⟨c+1,by omega,by go_num,o2,wQ.out.1,?_,wQ.out.2.2,Fq.out,?_⟩
      ·have:=congrArg (List.take i) wQ.out.2.1
       rw[List.take_take,Nat.min_eq_left (by omega)] at this
       rw[this,List.take_append_of_le_length (by omega),List.take_of_length_le (by omega)]
      ·rw[Nat.add_mul,Nat.one_mul, <-Nat.add_assoc];exact HJ2.out
     case measure=>simp[intOf];omega
    ·have HJ2:=Lib.hid hJ2
     clear hJ2 XH IV IC XG IU IB hcell hab hfr
     gi_wp2_with fail
     go_returns
     exact .inr ⟨by simp,HJ2.out⟩
   ·have KR:c=z:=by omega
    subst KR
    have MG:=Lib.hid hJ
    have Au:=Lib.hid hst
    have HO:=Lib.hid (And.intro ho1 (And.intro ho2 ho3))
    clear hJ hst ho1 ho2 ho3 Jo cf1 Lr
    gi_wp2_with fail
    go_returns
    refine .inl ⟨by simp,?_,o',HO.out.1,HO.out.2.1,HO.out.2.2,Au.out⟩
    rw[ZN.out];exact MG.out
theorem FH (f:aO) (hS:lK f) (tv ov:Value) (out:List Int) (bf bo:Nat):
 Qd Tryz.prog 51 #[.pointer (some ⟨bf,0,none⟩),.pointer (some ⟨bo,0,none⟩)] (aG f out) ac4 [] (fun _=>True) (XJ bf bo f tv ov out):=by
 intro l J W hInv hstep hY h0
 have hch:=fun fU ab bc hd1 hd3=>FQ f hS tv ov out bf bo fU ab bc l hd1 hd3 J hInv hstep hY
 have MZ:=hS.lU
 have hRl:(dB f).length=f.rows.toNat:=by simp[dB]
 have ZO:=Lib.hid hch
 have HST:=Lib.hid hstep
 have HJ:=Lib.hid h0
 have hn2: ∀(A B:Obj) (v:Value) (t:TypeId),(((W.alloc A).alloc B).alloc (.cells #[v] t)).cell? ⟨W.heap.size+1+1,0,none⟩=some v:=fun A B v t=>ay (fJ W A B _)
 have hf2: ∀(A B:Obj) (v:Value) (t:TypeId),(((W.alloc A).alloc B).alloc (.cells #[v] t)).frozen? ⟨W.heap.size+1+1,0,none⟩=false:=fun A B v t=>aX (fJ W A B _) 0
 clear hInv hstep hY hch h0 hS
 go_enter Tryz.func51,Tryz.ntmps51
 go_wp2_with fail
 refine(callsIn_wide.1 (ZO.out W.heap.size (W.heap.size+1) (W.heap.size+1+1) (by omega) (by omega) f.rows.toNat 0 0 [] _ (List.replicate 7 0) (by omega) rfl (by simp) (by simp) (by rw[List.drop_replicate]) (gy.zero _) ⟨?_,?_,?_⟩
  (HST.out _ _ _ _ _ HJ.out (Ext.of_below zl) (fun m hm=> .inr (by simp at hm;(first|omega|(simp;omega)))) trivial))).mono ?_
 ·exact(Below.heap_alloc _ _ _ (by simp;omega)).trans ((Below.heap_alloc _ _ _ (by simp)).trans (ag _ _))
 ·exact fJ _ _ _ _
 ·exact(Below.heap_alloc _ _ _ (by simp)).trans (dL _ _ _)
 ·rintro e W2 (⟨rfl,hJ2,_⟩|⟨rfl,hJ2⟩)
  ·have HJ2:=Lib.hid hJ2
   clear hJ2 hn2 hf2
   go_wp2_with fail
   go_end0
   refine⟨⟨_,rfl⟩,[W.heap.size+1,W.heap.size,W.heap.size+1+1],.inl ?_⟩
   have:=HJ2.out
   rw[<-IA]
   simpa [kH] using this
  ·have HJ2:=Lib.hid hJ2
   clear hJ2 hn2 hf2
   go_wp2_with fail
   go_end0
   exact⟨⟨_,rfl⟩,_,.inr HJ2.out⟩
theorem FI (f:aO) (tv:Value) (o:Option Addr) (n c:Nat) (w:World):
 Calls Tryz.prog 32 #[fv f tv,.slice o n c] w (fun e w'=>e= .returned (.func (.func 51) #[] #[.pointer (some ⟨w.heap.size,0,none⟩),.pointer (some ⟨w.heap.size+1,0,none⟩)])/\
  w'=(w.alloc (.cells (qg f tv) 29)).alloc (.cells #[.slice o n c] 36)):=by
 go_enter Tryz.func32,Tryz.ntmps32
 go_wp2
 go_returns
 exact⟨by simp,rfl⟩
end Go.Proofs.YtabpkkbiioihaaaGreatDoor
namespace Go.Proofs.YtabpkkbiioihaaaGreatDoor
open Go.RowKit Go.RG Go.SL Go.Shelf gZ Go.TB
attribute [local go_sem] Oper.semAt_some
theorem adL:fD Tryz.prog 66 71 (.agg #[iv 0,iv 0,iv 0,iv 0,iv 0,iv 0,iv 0]) 7 56:=⟨Tryz.underlying66,by kernel_rfl,rfl,by omega⟩
structure Du (w:World) (Os Ms:List Nat) (W:World):Prop where
 ext:Below w.heap.size w W
 old: ∀m∈Ms,w.heap.size<=m
 bnd: ∀m∈Ms,m<W.heap.size
 apart: ∀b∈Os,b∉Ms/\b<W.heap.size
theorem Du.step {w:World} {Os Ms Ms':List Nat} {W1 W2:World} (h:Du w Os Ms W1) (hE:Ext Ms W1 W2) (hMs: ∀m∈Ms',m∈Ms∨(W1.heap.size<=m/\m<W2.heap.size)):
 Du w Os Ms' W2/\ ∀b∈Os,W2.heap[b]? =W1.heap[b]? :=by
 have hsz:=h.ext.size
 refine⟨⟨h.ext.trans ⟨hE.os,hE.tape,hE.output,hE.size,fun k hk=>?_⟩,fun m hm=>?_,fun m hm=>?_,fun b hb=>?_⟩,fun b hb=>hE.block b (h.apart b hb).2 (h.apart b hb).1⟩
 ·exact hE.block k (by omega) (fun hk'=>by have:=h.old k hk';omega)
 ·rcases hMs m hm with h1|h1
  ·exact h.old m h1
  ·omega
 ·rcases hMs m hm with h1|h1
  ·exact Nat.lt_of_lt_of_le (h.bnd m h1) hE.size
  ·exact h1.2
 ·refine⟨fun hb'=>?_,Nat.lt_of_lt_of_le (h.apart b hb).2 hE.size⟩
  rcases hMs b hb' with h1|h1
  ·exact(h.apart b hb).1 h1
  ·have:=(h.apart b hb).2;omega
theorem Du.own {w:World} {Os Ms:List Nat} {W1 W2:World} (h:Du w Os Ms W1) (hE:Below w.heap.size w W2) (hs:W1.heap.size<=W2.heap.size):Du w Os Ms W2:=
 ⟨hE,h.old,fun m hm=>Nat.lt_of_lt_of_le (h.bnd m hm) hs,fun b hb=>⟨(h.apart b hb).1,Nat.lt_of_lt_of_le (h.apart b hb).2 hs⟩⟩
theorem Du.put {w:World} {Os Ms:List Nat} {W:World} (h:Du w Os Ms W) {r:Nat} (o:Obj) (hr:w.heap.size<=r):Du w Os Ms (W.putObj r o):=
 h.own (h.ext.trans ⟨rfl,rfl,rfl,by simp,fun k hk=>World.putObj_heap_other (by omega)⟩) (by simp)
def lC (ls:List (List Int)):List Value:=ls.flatMap fun x=>intCells (lG x)
abbrev yE (f:aO) (tv v:Value):Array Value:= #[iv f.rows,iv f.ai,iv f.left.1,iv f.left.2,tv,v]
theorem jm {f:aO} (hS:lK f) (out:List Int):(aG f out).length<=2500:=by
 have h1:=qR (dB f) (JV hS)
 rw[Ee] at h1
 have h2:=hS.many
 have h3:(aG f out).length<=(kH f).length:=List.length_filter_le _ _
 unfold kH at h3
 omega
structure Qv (B:Nat) (f:aO) (tv:Value) (ls:List (List Int)) (Ms:List Nat) (W:World):Prop where
 work: ∃v,W.heap[B]? =some (.cells (yE f tv v) 68 (0,0))/\W.ownsRow (B+6) 71 7 v ls.length (lC ls)/\ ∀g,v.ownBlock=some g->g∉Ms/\g<W.heap.size
 ptr:W.heap[B+1]? =some (.cells #[.pointer (some ⟨B,0,none⟩)] 63 (0,0))
 b2:W.heap[B+2]? =some (.cells (qg f tv) 29 (0,0))
 b3:W.heap[B+3]? =some (.cells #[.slice none 0 0] 36 (0,0))
theorem Qv.kept {B:Nat} {f:aO} {tv:Value} {ls:List (List Int)} {Ms Ms':List Nat} {W W':World} (h:Qv B f tv ls Ms W) (hs:W.heap.size<=W'.heap.size) (hk: ∀b,B<=b->b<B+4->W'.heap[b]? =W.heap[b]?)
 (ho: ∀g,B+6<=g->g<W.heap.size->g∉Ms->W'.heap[g]? =W.heap[g]?) (hM: ∀m∈Ms',m∈Ms∨(W.heap.size<=m/\m<W'.heap.size)):Qv B f tv ls Ms' W':=by
 obtain⟨v,h1,h2,h3⟩:=h.work
 refine⟨⟨v,(hk _ (by omega) (by omega)).trans h1,cZ h2 fun g hg=>ho g (aZ h2 g hg).1 (aZ h2 g hg).2 (h3 g hg).1,fun g hg=>⟨fun hm=>?_,by have:=(h3 g hg).2;omega⟩⟩,
  (hk _ (by omega) (by omega)).trans h.ptr,(hk _ (by omega) (by omega)).trans h.b2,(hk _ (by omega) (by omega)).trans h.b3⟩
 rcases hM g hm with h4|h4
 ·exact(h3 g hg).1 h4
 ·have:=(h3 g hg).2;omega
structure P9 (W:World) (wb:Nat) (f:aO) (tv v:Value) (ls:List (List Int)):Prop where
 cells:W.heap[wb]? =some (.cells (yE f tv v) 68 (0,0))
 pM:bW W tv f.ae
 truth:aB 7 W v ls.length (lC ls)
theorem P9.lt {W:World} {wb:Nat} {f:aO} {tv v:Value} {ls:List (List Int)} (h:P9 W wb f tv v ls):wb<W.heap.size:=(Array.getElem?_eq_some_iff.1 h.cells).1
theorem P9.below {W W':World} {wb:Nat} {f:aO} {tv v:Value} {ls:List (List Int)} (h:P9 W wb f tv v ls) {B:Nat} (hb:Below B W W') (hB:W.heap.size<=B):P9 W' wb f tv v ls:=
 ⟨(hb.block _ (by have:=h.lt;omega)).trans h.cells,h.pM.below hb hB,h.truth.below hb hB⟩
def cO (f:aO) (fine:Bool):Int:=if fC f≠0 then fC f else if fine=false then 2 else if(aG f []).isEmpty then 11 else 0
def UX (f:aO) (tv:Value) (fine:Bool) (w:World) (e:Ending) (w':World):Prop:=
 Below w.heap.size w w'/\((cO f fine≠0/\e= .returned (.tuple #[.pointer none,.int .i64 (cO f fine)]))∨
  (cO f fine=0/\ ∃(wb:Nat) (v:Value),e= .returned (.tuple #[.pointer (some ⟨wb,0,none⟩),.int .i64 0])/\w.heap.size<=wb/\P9 w' wb f tv v (aG f [])))
theorem Jv (f:aO) (tv:Value) (g:Nat) (caps:Array Value) (fine:Bool) (w:World) (ht:bW w tv f.ae) (eg: ∀args w,(callFunc g args).run Tryz.prog w= .ok (.enter g args) w)
 (Hr: ∀W,Below w.heap.size w W->Calls Tryz.prog g caps W (PV (.bool fine) W)):
 Calls Tryz.prog 17 #[fv f tv,.func (.func g) #[] caps] w (UX f tv fine w):=by
 obtain⟨o,c,rfl⟩:=ht.open
 have HT:=Lib.hid ht
 have HF:=Lib.hid Hr
 clear ht Hr
 by_cases hf0:fC f=0
 case neg=>
  have HE:Hid (cO f fine=fC f/\cO f fine≠0):=Lib.hid (by unfold cO;rw[if_pos hf0];exact⟨rfl,hf0⟩)
  have HC:=Lib.hid (uP f (.slice o f.ae.length c))
  generalize ZY:fC f=e at*
  clear ZY
  go_enter Tryz.func17,Tryz.ntmps17
  go_wp2_with fail
  refine(HC.out _ (HT.out.alloc _)).mono ?_
  rintro e w' ⟨rfl,hb⟩
  go_wp2_with fail
  go_returns
  exact⟨zl,.inl ⟨HE.out.2,by rw[HE.out.1];simp⟩⟩
 have HC:=Lib.hid (fun w=>hf0▸uP f (.slice o f.ae.length c) w)
 have mG:=Lib.hid (fH hf0)
 have Qo:=Lib.hid hf0
 clear hf0
 cases fine
 ·have HE:Hid (cO f false=2):=Lib.hid (by unfold cO;rw[if_neg (by rw[Qo.out];simp),if_pos rfl])
  go_enter Tryz.func17,Tryz.ntmps17
  go_wp2_with fail
  refine(HC.out _ (HT.out.alloc _)).mono ?_
  rintro e w' ⟨rfl,hb⟩
  have HB1:=Lib.hid (show Below w.heap.size w w' from zl)
  clear hb
  go_wp2_with fail
  refine(HF.out _ HB1.out).mono ?_
  rintro e w2 ⟨rfl,hb⟩
  have HB2:=Lib.hid (aH HB1.out hb)
  clear hb
  go_wp2_with fail
  go_returns
  exact⟨HB2.out,.inl ⟨by rw[HE.out];simp,by rw[HE.out];simp⟩⟩
 have HE:Hid (cO f true=if(aG f []).isEmpty then 11 else 0):=Lib.hid (by unfold cO;rw[if_neg (by rw[Qo.out];simp),if_neg (by simp)])
 refine(callsIn_wide (n:=0)).1 ?_
 refine callsIn_of_wp_marks Tryz.func17 rfl trivial ?_
 simp only[Tryz.ntmps17,List.size_toArray,List.length_cons,List.length_nil,Nat.reduceAdd,Nat.reduceSub,Array.replicate_succ,Array.replicate_zero,List.push_toArray,List.append_toArray,List.nil_append,List.cons_append]
 gi_wp2_with fail
 refine(callsIn_wide.2 (HC.out _ (HT.out.alloc _))).mono ?_
 rintro e w1 ⟨rfl,hb⟩
 obtain⟨hc1,hf1⟩:=aW hb
 have hz1:w.heap.size<w1.heap.size:=by have:=hb.size;simp at this;omega
 have HB1:=Lib.hid (show Below w.heap.size w w1 from zl)
 clear hb
 gi_wp2_with fail
 refine(callsIn_wide.2 (HF.out _ HB1.out)).mono ?_
 rintro e w2 ⟨rfl,hb⟩
 obtain⟨hc2,hf2⟩:=aW hb
 have hz2:w.heap.size<w2.heap.size:=by have:=hb.size;omega
 have HB2:=Lib.hid (aH HB1.out hb)
 clear hb
 gi_wp2_with fail
 refine(callsIn_wide.2 (FI f _ none 0 0 _)).mono ?_
 rintro e w3 ⟨rfl,rfl⟩
 gi_wp2_with fail
 obtain⟨B,kR⟩: ∃B,w2.heap.size=B:=⟨_,rfl⟩
 rw[kR]
 obtain⟨w4,hw4⟩: ∃w4,((((w2.alloc (.cells #[iv f.rows,iv f.ai,iv f.left.1,iv f.left.2,.slice o f.ae.length c,.slice none 0 0] 68)).alloc (.cells #[.pointer (some ⟨B,0,none⟩)] 63)).alloc (.cells (qg f (.slice o f.ae.length c)) 29)).alloc (.cells #[.slice none 0 0] 36))=w4:=⟨_,rfl⟩
 have Yw:w4.heap.size=B+4:=by rw[<-hw4];simp;omega
 have hwB:w.heap.size<B:=by omega
 have HB4:Hid (Below w.heap.size w w4):=Lib.hid (by rw[<-hw4];exact af (af (af (af HB2.out _) _) _) _)
 have HA4:Hid (Qv B f (.slice o f.ae.length c) [] [] w4):=Lib.hid (by
  rw[<-hw4]
  refine⟨⟨.slice none 0 0,?_,⟨rfl,.inl ⟨rfl,rfl⟩⟩,fun g hg=>by cases hg⟩,?_,?_,?_⟩
  ·rw[<-kR];exact(Below.heap_alloc _ _ _ (by simp;omega)).trans ((Below.heap_alloc _ _ _ (by simp;omega)).trans ((Below.heap_alloc _ _ _ (by simp)).trans (ag _ _)))
  ·rw[<-kR];exact(Below.heap_alloc _ _ _ (by simp)).trans ((Below.heap_alloc _ _ _ (by simp)).trans (dL _ _ _))
  ·rw[<-kR];exact(Below.heap_alloc _ _ _ (by simp)).trans (fJ _ _ _ _)
  ·rw[<-kR];exact jq _ _ _ _ _)
 rw[hw4]
 clear hw4 hc1 hf1 hz1 hc2 hf2
 have CV: ∀b,b∈[w.heap.size,B,B+1,B+2,B+3,B+4,B+5]↔b=w.heap.size∨(B<=b/\b<B+6):=fun b=>by simp;omega
 obtain⟨Os,Hw⟩: ∃Os,[w.heap.size,B,B+1,B+2,B+3,B+4,B+5]=Os:=⟨_,rfl⟩
 rw[Hw] at CV
 clear Hw
 have Z9:Hid (∀W,Below w.heap.size w W->bW W (.slice o f.ae.length c) f.ae):=Lib.hid (fun W hb=>HT.out.below hb (Nat.le_refl _))
 refine jT (FH f mG.out (.slice o f.ae.length c) (.slice none 0 0) [] (B+1+1) (B+1+1+1)) rfl (enters_of Tryz.func51 (by kernel_rfl) rfl) rfl (by simp)
  (fun Ms k W=>Du w Os Ms W/\Qv B f (.slice o f.ae.length c) ((aG f []).take k) Ms W)
  (fun _ _ _=>False)
  ?hInv ?pz ?hI ?hIx ?Nl ?uK ?h0
  (fun a Ms k W1 a₁ W=> ∃(x:List Int) (bt:Nat),(aG f [])[k]? =some x/\a₁={tmps:=(a.tmps.setIfInBounds 24 (jk (lG x))).setIfInBounds 8 (.pointer (some ⟨bt,0,none⟩)),defers:=[]}/\
    (Du w Os Ms W/\Qv B f (.slice o f.ae.length c) ((aG f []).take k) Ms W)/\(W.heap[bt]? =some (.cells (intCells (lG x)).toArray 71 (0,0))/\B+6<=bt/\bt∉Ms/\(∀v,W.heap[B]? =some (.cells (yE f (.slice o f.ae.length c) v) 68 (0,0))->v.ownBlock≠some bt))/\
    (∀m∈Ms,m∉([]:List Nat)->m<W1.heap.size->W.heap[m]? =W1.heap[m]?)/\W1.heap.size<=W.heap.size)
  ?O4 ?hassign ?hbody ?hdone ?hstop
 case hInv=>
  rintro Ms k W ⟨hF,hP⟩
  exact⟨hP.b2,hP.b3,Z9.out W hF.ext,aB.nil 1 W⟩
 case pz=>rintro cd Ms W h;exact h.elim
 case hI=>
  rintro Ms Ms' k Wa Wb ⟨hF,hP⟩ hE hMs _
  exact⟨(hF.step hE hMs).1,hP.kept hE.size (fun b h1 h2=>(hF.step hE hMs).2 b ((CV b).2 (by omega))) (fun g h1 h2 h3=>hE.block g h2 h3) hMs⟩
 case hIx=>rintro cd Ms Ms' Wa Wb h;exact h.elim
 case Nl=>
  rintro Ms k W r ob ⟨hF,hP⟩ hr
  exact⟨hF.put ob (by omega),hP.kept (by simp) (fun b h1 h2=>World.putObj_heap_other (by omega)) (fun g h1 h2 h3=>World.putObj_heap_other (by omega)) (fun m hm=> .inl hm)⟩
 case uK=>rintro cd Ms W r ob h;exact h.elim
 case h0=>
  intro o1 o2
  refine⟨⟨af (af HB4.out _) _,by simp,by simp,fun b hb=>⟨by simp,by have:=(CV b).1 hb;simp;omega⟩⟩,?_⟩
  rw[List.take_zero]
  exact HA4.out.kept (by simp;omega) (fun b h1 h2=>(Below.heap_alloc _ _ _ (by simp;omega)).trans (Below.heap_alloc _ _ _ (by omega))) (fun g h1 h2 h3=>by omega) (fun m hm=> .inl hm)
 case O4=>
  rintro Ms k W1 a₁ W ob ⟨x,bt,hx,ha,⟨hF,hP⟩,⟨hbt,hb6,hbM,hbv⟩,hk,hs⟩
  have hap:=(hF.apart (B+5) ((CV _).2 (by omega))).1
  refine⟨x,bt,hx,ha,⟨hF.put ob (by omega),hP.kept (by simp) (fun b h1 h2=>World.putObj_heap_other (by omega)) (fun g h1 h2 h3=>World.putObj_heap_other (by omega)) (fun m hm=> .inl hm)⟩,
   ⟨(World.putObj_heap_other (by omega)).trans hbt,hb6,hbM,fun v hv=>hbv v ((World.putObj_heap_other (by omega)).symm.trans hv)⟩,
   fun m hm h0 hml=>(World.putObj_heap_other (fun e=>hap (by rw[show B+5=m by omega];exact hm))).trans (hk m hm h0 hml),by simpa using hs⟩
 case hassign=>
  rintro Ms k v W hk ⟨hF,hP⟩ hE hlt
  obtain rfl:v=jk (lG (aG f [])[k]):=hE
  have hxk:(aG f [])[k]? =some (aG f [])[k]:=List.getElem?_eq_getElem hk
  have hxl:=kY (List.getElem_mem hk)
  generalize (aG f [])[k]=x at*
  have MZ:=mG.out.lU
  obtain⟨y0,y1,y2,y3,y4,y5,y6,hys⟩:=ng (oU (x:=x) (by omega))
  have hYS:=Lib.hid hys
  rw[hys]
  rw[show jk [y0,y1,y2,y3,y4,y5,y6]= .agg #[iv y0,iv y1,iv y2,iv y3,iv y4,iv y5,iv y6] from rfl]
  gi_wp2
  have hB':Below W.heap.size W (W.alloc (.cells #[iv y0,iv y1,iv y2,iv y3,iv y4,iv y5,iv y6] 71)):=af (Below.refl _ _) _
  refine⟨⟨x,W.heap.size,hxk,?_,⟨(hF.step (Ext.of_below hB') (fun m hm=> .inl hm)).1,hP.kept (by simp) (fun b h1 h2=>Below.heap_alloc _ _ _ (by omega)) (fun g h1 h2 h3=>Below.heap_alloc _ _ _ (by omega)) (fun m hm=> .inl hm)⟩,
   ⟨?_,by omega,fun hm=>by have:=hF.bnd _ hm;omega,fun v hv e=>?_⟩,fun m hm h0 hml=>Below.heap_alloc _ _ _ (by omega),by simp⟩,Below.heap_alloc _ _ _ (by omega),Below.heap_alloc _ _ _ (by omega)⟩
  ·rw[hYS.out];rfl
  ·rw[hYS.out];exact ag _ _
  ·obtain⟨v0,h1,h2,h3⟩:=hP.work
   have h4:=(Below.heap_alloc _ _ _ (by omega)).symm.trans hv
   rw[h1] at h4
   simp only[Option.some.injEq,Obj.cells.injEq,and_true,Array.mk.injEq,List.cons.injEq,true_and] at h4
   subst h4
   have:=(h3 _ e).2
   omega
 case hbody=>
  rintro Ms k W1 a₁ W busy hk ⟨x,bt,hx,rfl,⟨hF,hP⟩,⟨hbt,hb6,hbM,hbv⟩,hkeep,hsz⟩ hrec hD
  simp only[List.setIfInBounds_toArray,List.set_cons_succ,List.set_cons_zero]
  obtain⟨v,hv1,hv2,hv3⟩:=hP.work
  obtain⟨vo,vc,rfl⟩:=aK hv2
  have TK:=hbv _ hv1
  obtain⟨c1,f1,l1⟩:=cells_of_block hP.ptr
  obtain⟨c2,f2,l2⟩:=cells_of_block hv1
  have hxl:=kY (List.mem_of_getElem? hx)
  have MZ:=mG.out.lU
  obtain⟨y0,y1,y2,y3,y4,y5,y6,hys⟩:=ng (oU (x:=x) (by omega))
  have zT:=hbt
  rw[hys] at zT
  obtain⟨c3,f3,l3⟩:=cells_of_block (show W.heap[bt]? =some (.cells #[iv y0,iv y1,iv y2,iv y3,iv y4,iv y5,iv y6] 71 (0,0)) from zT)
  have hw:=(hF.apart w.heap.size ((CV _).2 (.inl rfl)))
  obtain⟨gx,hgx,VX,hgx2,vU,VW,aiG⟩: ∃gx,(∀g,(Value.slice vo ((aG f []).take k).length vc).ownBlock=some g->g=gx)/\(gx=w.heap.size∨B+6<=gx)/\gx<W.heap.size/\gx∉Ms/\gx≠bt/\w.heap.size<=gx:=by
   cases hob:(Value.slice vo ((aG f []).take k).length vc).ownBlock with
   |none=>exact⟨w.heap.size,(fun g hg=>by cases hg),.inl rfl,hw.2,hw.1,by omega,by omega⟩
   |some g=>
    have h1:=aZ hv2 g hob
    have h2:=hv3 g hob
    exact⟨g,(fun g' hg=>by cases hg;rfl),.inr h1.1,h1.2,h2.1,fun e=>TK (by rw[hob,e]),by omega⟩
  have hkl:((aG f []).take k).length=k:=by rw[List.length_take];omega
  rw[hkl] at hv1 hv2 hgx c2 hv3
  have YN:k<=2500:=by have:=jm mG.out [];omega
  have HF:=Lib.hid hF
  have HP:=Lib.hid hP
  have HV:=Lib.hid (And.intro hv1 (And.intro hv2 hv3))
  have HX:=Lib.hid (And.intro hx (And.intro hys hxl))
  have HK:=Lib.hid (And.intro hkeep (And.intro hrec hD))
  have HG:=Lib.hid hgx
  have XQ:=Lib.hid zT
  clear hF hP hv1 hv2 hv3 hx hys hxl hkeep hrec hD hgx hbt zT hbv TK hw
  have q1:gx≠B:=by omega
  have q2:gx≠B+1:=by omega
  have q1':B≠gx:=by omega
  have q2':B+1≠gx:=by omega
  have q3':bt≠gx:=by omega
  gi_wp2_with fail
  refine bY 8 [gx] (some 7) [(6,Spec.slice W.heap.size #[iv y0,iv y1,iv y2,iv y3,iv y4,iv y5,iv y6] 71 1),(7,⟨fun _ v=> ∃o c,v= .slice o (k+1) c,fun _ v Wx=>Wx.ownsRow (B+6) 71 7 v (k+1) (lC ((aG f []).take (k+1)))/\(∀g,v.ownBlock=some g->g=gx∨W.heap.size<=g)⟩)] (by kernel_rfl) (by kernel_rfl) (by kernel_rfl) ?_
  simp only[zt]
  repeat ((first|refine zn ?_|refine zk ?_);simp only[zp])
  refine bZ W.heap.size _ _ 1 (by rfl) (Nat.le_refl _) (by rfl) (by simpa using hgx2) (by simp) (fun W hW=>by go_simp;try rfl) (fun b6=>?_)
  simp only[zp]
  refine aP _ (by rfl) (by rfl) (by exact⟨.slice none (k+1) 0,none,0,rfl⟩) (fun W6 hE hF=>?_) (fun v Wa Wb ho hE=>?_) (fun v hv=>?_)
  ·have hE':Ext [] W W6:=hE
   obtain⟨b',hb',hge,hcc⟩:=hF _ (List.Mem.head _) (by kernel_rfl)
   cases hb'
   have hown6:=ah (Ms:=[]) HV.out.2.1 hE' (by simp)
   have hsrc:aB 7 W6 (.slice (some ⟨b6,0,none⟩) 1 1) 1 (intCells (lG x)):=by
    rw[HX.out.2.1]
    exact aB.of_block 7 1 hcc rfl (by decide)
   refine Does.mono (bP adL (by rfl) (by rfl) hown6 (by rfl) hsrc (iT _) (by omega) (by omega) (by have:=hE'.size;omega)) ?_
   rintro v' W7 ⟨ho,hgr,hcase⟩
   refine⟨aK ho,⟨?_,fun g hg=>?_⟩,⟨hgr.os,hgr.tape,hgr.output,hgr.size,fun b hb hn=>hgr.block b hb (fun e=>hn (by rw[HG.out b e.symm];simp))⟩⟩
   ·have hl:(aG f []).take (k+1)=(aG f []).take k++[x]:=by
     rw[List.take_add_one,HX.out.1];rfl
    rw[hl]
    unfold lC
    rw[List.flatMap_append]
    simpa [lC] using ho
   ·rcases hcase with h1|h1
    ·exact .inl (HG.out g (by rw[<-h1,hg]))
    ·rw[hg] at h1;injection h1 with h1;exact .inr (by have:=hE'.size;omega)
  ·exact⟨ah (Ms:=[]) ho.1 hE (by simp),ho.2⟩
  obtain⟨o7,c7,rfl⟩:=hv
  simp only[zp]
  intro W8 hE hF
  have hE':Ext [gx] W W8:=hE
  obtain⟨lH,uH⟩:=hF _ (List.Mem.head _)
  have Yq:W8.heap[B]? =some (.cells (yE f (.slice o f.ae.length c) (.slice vo k vc)) 68 (0,0)):=(hE'.block _ l2 (by simpa using q1')).trans HV.out.1
  obtain⟨c8,f8,l8⟩:=cells_of_block Yq
  have fV:=Lib.hid hE'
  have HO8:=Lib.hid (And.intro lH (And.intro uH Yq))
  clear hE hF hE' lH uH c1 f1 l1 c2 f2 c3 f3 l3 Yq
  gi_wp2_with fail
  have aeB:k+1=((aG f []).take (k+1)).length:=by rw[List.length_take];omega
  obtain⟨v',hv'⟩: ∃v',Value.slice o7 (k+1) c7=v':=⟨_,rfl⟩
  rw[hv'] at HO8⊢
  have OQ:(W8.setCell ⟨B,5,none⟩ v').heap.size=W8.heap.size:=by simp[World.setCell]
  have hs8:=fV.out.size
  have hks: ∀b,b<W.heap.size->b≠gx->b≠B->(W8.setCell ⟨B,5,none⟩ v').heap[b]? =W.heap[b]? :=fun b hb h1 h2=>
   (Below.heap_setCell _ _ _ _ h2).trans (fV.out.block b hb (by simpa using h1))
  have hap: ∀b∈Os,b∉Ms/\b<W.heap.size:=HF.out.apart
  have hin: ∀b,B<=b->b<B+6->b∈Os:=fun b h1 h2=>(CV b).2 (by omega)
  have V8:Du w Os Ms (W8.setCell ⟨B,5,none⟩ v'):=HF.out.own (HF.out.ext.trans ⟨fV.out.os,fV.out.tape,fV.out.output,by rw[OQ];exact hs8,fun b hb=>(Below.heap_setCell _ _ _ _ (by show b≠B;omega)).trans (fV.out.block b (by have:=HF.out.ext.size;omega) (by simp;omega))⟩) (by rw[OQ];exact hs8)
  refine⟨⟨?_,?_,fun m hm h0 hml=>?_,by rw[OQ];omega⟩,V8,⟨v',ak HO8.out.2.2 _,aeB▸cZ HO8.out.1 fun g hg=>Below.heap_setCell _ _ _ _ (by have:=(aZ HO8.out.1 g hg).1;show g≠B;omega),fun g hg=>⟨fun hm=>?_,by rw[OQ];exact(aZ HO8.out.1 g hg).2⟩⟩,?_,?_,?_⟩
  ·exact(hks _ (hap _ (hin (w4.heap.size+1) (by omega) (by omega))).2 (by omega) (by omega)).trans HK.out.2.1
  ·exact(hks _ (hap _ (hin w4.heap.size (by omega) (by omega))).2 (by omega) (by omega)).trans HK.out.2.2
  ·exact(hks m (HF.out.bnd m hm) (fun e=>vU (e▸hm)) (fun e=>(hap B (hin B (by omega) (by omega))).1 (e▸hm))).trans (HK.out.1 m hm h0 hml)
  ·rcases HO8.out.2.1 g hg with h1|h1
   ·exact vU (h1▸hm)
   ·have:=HF.out.bnd g hm;omega
  ·exact(hks _ (hap _ (hin (B+1) (by omega) (by omega))).2 (by omega) (by omega)).trans HP.out.ptr
  ·exact(hks _ (hap _ (hin (B+2) (by omega) (by omega))).2 (by omega) (by omega)).trans HP.out.b2
  ·exact(hks _ (hap _ (hin (B+3) (by omega) (by omega))).2 (by omega) (by omega)).trans HP.out.b3
 case hdone=>
  rintro Ms W ⟨hF,hP⟩ hD hlt
  rw[List.take_length] at hP
  obtain⟨v,hv1,hv2,hv3⟩:=hP.work
  obtain⟨vo,vc,rfl⟩:=aK hv2
  obtain⟨c1,f1,l1⟩:=cells_of_block hP.ptr
  obtain⟨c2,f2,l2⟩:=cells_of_block hv1
  have Dt:=Lib.hid hF
  have HV:=Lib.hid (And.intro hv1 hv2)
  have HL:=Lib.hid (jm mG.out [])
  clear hF hP hv1 hv2 hv3
  by_cases hn:(aG f []).length=0
  ·have hn':((((aG f []).length:Nat):Int)==0)=true:=by simpa using hn
   have ab3:cO f true=11:=by rw[HE.out,if_pos (by simpa using hn)]
   have UR:=Lib.hid ab3
   clear ab3 hn
   gi_wp2_with fail
   refine⟨by simp,.inl ⟨_,_,rfl,run_takeDeferred hD,?_⟩⟩
   exact⟨.tuple #[.pointer none,.int .i64 11],by simp[results,Tryz.results17,go_sem],(Dt.out.put (Obj.deferred none) (by omega)).ext,.inl ⟨by rw[UR.out];simp,by rw[UR.out]⟩⟩
  ·have hn':((((aG f []).length:Nat):Int)==0)=false:=by simpa using hn
   have hE0:cO f true=0:=by rw[HE.out,if_neg (by simpa using hn)]
   have ZL:=Lib.hid hE0
   clear hE0 hn
   gi_wp2_with fail
   refine⟨by simp,.inl ⟨_,_,rfl,run_takeDeferred hD,?_⟩⟩
   refine⟨.tuple #[.pointer (some ⟨B,0,none⟩),.int .i64 0],by simp[results,Tryz.results17,go_sem],(Dt.out.put (Obj.deferred none) (by omega)).ext,.inr ⟨ZL.out,B,.slice vo (aG f []).length vc,rfl,by omega,?_,Z9.out _ (Dt.out.put (Obj.deferred none) (by omega)).ext,?_⟩⟩
   ·exact(World.putObj_heap_other (by omega)).trans HV.out.1
   ·exact aB.dn (cZ HV.out.2 fun g hg=>World.putObj_heap_other (by have:=(aZ HV.out.2 g hg).1;omega))
 case hstop=>rintro cd Ms W h;exact h.elim
end Go.Proofs.YtabpkkbiioihaaaGreatDoor
namespace Go.Proofs.YtabpkkbiioihaaaGreatDoor
open Go.RowKit Go.RG Go.SL Go.Shelf gZ Go.TB
theorem Dv (a b:Int) (g c:Nat) (w:World) (h0:w.cell? ⟨g,0,none⟩=some (iv a)) (h1:w.cell? ⟨g,1,none⟩=some (iv b)):
 Calls Tryz.prog 34 #[.slice (some ⟨g,0,none⟩) 2 c] w (PV (iv (min a b)) w):=by
 have H:=Lib.hid (vK a b g c w h0 h1)
 go_enter Tryz.func34,Tryz.ntmps34
 go_wp2_with fail
 refine H.out.mono ?_
 rintro e w' ⟨rfl,hb⟩
 go_wp2_with fail
 go_returns
 exact⟨by simp,hb⟩
theorem Jr (r:bK) (n:Int) (w:World):Calls Tryz.prog 20 #[rv r,iv n] w (PV (rv (wid r n)) w):=by
 go_enter Tryz.func20,Tryz.ntmps20
 go_wp2_with fail
 refine zg 10 [] none [(3,Spec.slice (w.heap.size+2) #[iv r.1,iv n] 3 2),(4,Spec.val (iv (min r.1 n)))] ?_
 simp only[zt]
 repeat (refine zd ?_;simp only[zp])
 refine bZ (w.heap.size+2) _ _ _ (by rfl) (by simp) (by rfl) (by simp) (by simp) (fun W hW=>by go_simp;try rfl) (fun b=>?_)
 simp only[zp]
 refine dh _ (by rfl) (by rfl) 34 _ (fun W hW=>by go_simp;try rfl) (fun W hE hF=>?_) ?_
 ·obtain⟨c,hcb,hB,hc⟩:=hF _ (List.Mem.head _) (by kernel_rfl)
  cases hcb
  exact Dv r.1 n b 2 W (by simp[World.cell?,hc]) (by simp[World.cell?,hc])
 simp only[zp]
 repeat (refine zd ?_;simp only[zp])
 intro W hE hF
 obtain⟨hc,hf⟩:=aW hE.below
 have hzE:=hE.size
 (try simp only[World.size_alloc] at hzE)
 go_wp2
 all_goals
  (try simp only[Exit.inBlock,Exit.then])
  refine bodyPost_ret (v:=rv (min r.1 n,max r.2 n)) (by simp[results,Tryz.results20,go_sem,hc];try omega) rfl ?_
  exact⟨rfl,ze⟩
theorem I8 {w:World} {o:Option Addr} {n c:Nat} {ls:List (List Int)} (h:aB 7 w (.slice o n c) ls.length (lC ls)) (h7: ∀x∈ls,x.length<=7) {k:Nat} (hk:k<ls.length):
 ∃b off y0 y1 y2 y3 y4 y5 y6,o=some ⟨b,off,none⟩/\b<w.heap.size/\lG ls[k]=[y0,y1,y2,y3,y4,y5,y6]/\w.cell? ⟨b,off+k*7,none⟩=some (iv y0)/\w.cell? ⟨b,off+k*7+1,none⟩=some (iv y1)/\
  w.cell? ⟨b,off+k*7+2,none⟩=some (iv y2)/\w.cell? ⟨b,off+k*7+3,none⟩=some (iv y3)/\w.cell? ⟨b,off+k*7+4,none⟩=some (iv y4)/\w.cell? ⟨b,off+k*7+5,none⟩=some (iv y5)/\w.cell? ⟨b,off+k*7+6,none⟩=some (iv y6):=by
 obtain⟨hl,o',c',hv,h1,h2,h3,h4⟩:=h
 cases hv
 obtain⟨y0,y1,y2,y3,y4,y5,y6,hys⟩:=ng (oU (h7 _ (List.getElem_mem hk)))
 cases o with
 |none=>have:=h3 rfl;omega
 |some a=>
  obtain⟨b,off,sp⟩:=a
  obtain⟨hs,hc⟩:=h4 _ rfl
  simp only at hs hc
  subst hs
  have g: ∀j (hj:j<7),(lC ls)[k*7+j]? =[iv y0,iv y1,iv y2,iv y3,iv y4,iv y5,iv y6][j]? :=fun j hj=>by
   unfold lC
   have: ∀(ls:List (List Int)) (k:Nat) (hk:k<ls.length),(∀x∈ls,x.length<=7)->(ls.flatMap fun x=>intCells (lG x))[k*7+j]? =(intCells (lG ls[k]))[j]? :=by
    intro ls
    induction ls with
    |nil=>intro k hk;simp at hk
    |cons x ls ih=>
     intro k hk h7
     have hx:(intCells (lG x)).length=7:=by simp[intCells,oU (h7 x (by simp))]
     rw[List.flatMap_cons]
     cases k with
     |zero=>simp only[Nat.zero_mul,Nat.zero_add,List.getElem_cons_zero];rw[List.getElem?_append_left (by omega)]
     |succ k=>
      rw[List.getElem?_append_right (by omega),hx,show(k+1)*7+j-7=k*7+j from by omega]
      simpa using ih k (by simpa using hk) (fun y hy=>h7 y (by simp[hy]))
   rw[this ls k hk h7,hys]
   rfl
  have r0:=hc (k*7+0) (iv y0) (by rw[g 0 (by omega)];rfl)
  have r1:=hc (k*7+1) (iv y1) (by rw[g 1 (by omega)];rfl)
  have r2:=hc (k*7+2) (iv y2) (by rw[g 2 (by omega)];rfl)
  have r3:=hc (k*7+3) (iv y3) (by rw[g 3 (by omega)];rfl)
  have r4:=hc (k*7+4) (iv y4) (by rw[g 4 (by omega)];rfl)
  have r5:=hc (k*7+5) (iv y5) (by rw[g 5 (by omega)];rfl)
  have r6:=hc (k*7+6) (iv y6) (by rw[g 6 (by omega)];rfl)
  rw[Nat.add_zero] at r0
  rw[<-Nat.add_assoc] at r1 r2 r3 r4 r5 r6
  exact⟨b,off,y0,y1,y2,y3,y4,y5,y6,rfl,World.block_lt_of_cell? w _ r0,hys,r0,r1,r2,r3,r4,r5,r6⟩
theorem Pv (caps:Array Value) (hc:caps= #[]) (w:World):Calls Tryz.prog 18 caps w (PV (.bool true) w):=by
 subst hc
 go_enter Tryz.func18,Tryz.ntmps18
 go_wp2
 go_returns
 exact⟨by simp,Below.refl _ _⟩
def oI (f:aO) (ls:List (List Int)) (i:Int) (k:Nat):bK:=(ls.take k).foldl (fun r a=>wid r (fK f a i)) (fK f (ls.getD 0 []) i,fK f (ls.getD 0 []) i)
theorem sN {f:aO} {ls:List (List Int)} {i:Int} {k:Nat} (hk:k<ls.length):oI f ls i (k+1)=wid (oI f ls i k) (fK f ls[k] i):=by
 unfold oI
 rw[List.take_succ_eq_append_getElem hk,List.foldl_append]
 rfl
theorem wB {f:aO} (hS:lK f) (a:List Int) (i:Int):0<=fK f a i/\fK f a i<=7:=by
 unfold fK xA
 have:=EK a i (0:Int).toNat (f.rows-1+1-0).toNat
 have:=hS.lU
 have:=hS.ug
 omega
theorem ML {f:aO} (hS:lK f) (ls:List (List Int)) (i:Int): ∀k,k<=ls.length->(0<=(oI f ls i k).1/\(oI f ls i k).1<=7)/\(0<=(oI f ls i k).2/\(oI f ls i k).2<=7):=by
 intro k
 induction k with
 |zero=>intro _;have:=wB hS (ls.getD 0 []) i;simp only[oI,List.take_zero,List.foldl_nil];omega
 |succ k ih=>
  intro hk
  rw[sN (by omega)]
  have:=ih (by omega)
  have:=wB hS ls[k] i
  unfold wid
  simp only
  omega
def lu (f:aO):List bK:=(List.range f.ai.toNat).map fun(i:Nat)=>oI f (aG f []) (i:Int) (aG f []).length
def UW (f:aO) (w:World) (e:Ending) (w':World):Prop:=
 Below w.heap.size w w'/\((cO f true≠0/\e= .returned (.tuple #[.slice none 0 0,iv (cO f true)]))∨(cO f true=0/\ ∃v,e= .returned (.tuple #[v,iv 0])/\bn w' v (lu f)))
theorem C9 (f:aO) (tv:Value) (x:List Int) (y0 y1 y2 y3 y4 y5 y6:Int) (hys:lG x=[y0,y1,y2,y3,y4,y5,y6]) (who:Int) (hS:lK f) (W:World):
 Calls Tryz.prog 19 #[fv f tv,.agg #[iv y0,iv y1,iv y2,iv y3,iv y4,iv y5,iv y6],iv who] W (PV (iv (fK f x who)) W):=by
 have:=Ij f tv (lG x) (by rw[hys];rfl) who W hS.ug hS.lU
 rw[Uf,hys] at this
 exact this
theorem Vj:fD Tryz.prog 54 26 (rv (0,0)) 2 16:=⟨Tryz.underlying54,by kernel_rfl,rfl,by omega⟩
theorem tH {f:aO} {b:Bool} (h:cO f b=0):lK f/\0<(aG f []).length/\b=true:=by
 unfold cO at h
 split at h
 ·omega
 ·rename_i h1
  split at h
  ·omega
  ·rename_i h2
   split at h
   ·omega
   ·rename_i h3
    refine⟨fH (by omega),?_,by simpa using h2⟩
    cases hl:aG f [] with
    |nil=>rw[hl] at h3;simp at h3
    |cons x l=>simp
theorem oO (f:aO) (tv:Value) (w:World) (ht:bW w tv f.ae):Calls Tryz.prog 8 #[fv f tv] w (UW f w):=by
 obtain⟨o,c,rfl⟩:=ht.open
 have HA:=Lib.hid (Jv f (.slice o f.ae.length c) 18 #[] true (w.alloc (.cells (qg f (.slice o f.ae.length c)) 29)) (ht.alloc _) (enters_of Tryz.func18 (by kernel_rfl) rfl) (fun W _=>Pv #[] rfl W))
 clear ht
 go_enter Tryz.func8,Tryz.ntmps8
 go_wp2_with fail
 refine HA.out.mono ?_
 rintro e w1 ⟨hb,⟨hne,rfl⟩|⟨h0,wb,v,rfl,hwb,hwk⟩⟩
 ·have HB:=Lib.hid (show Below w.heap.size w w1 from zl)
  obtain⟨q,hq⟩: ∃q,cO f true=q:=⟨_,rfl⟩
  rw[hq] at hne⊢
  have HN:=Lib.hid (And.intro hq hne)
  have hneb:(q==0)=false:=by simpa using hne
  clear hb hne hq
  go_wp2_with fail
  go_returns
  exact⟨HB.out,.inl ⟨by rw[HN.out.1];exact HN.out.2,by rw[HN.out.1];simp⟩⟩
 have HB:=Lib.hid (show Below w.heap.size w w1 from zl)
 clear hb
 obtain⟨hS,hpos,_⟩:=tH h0
 have Xu: ∀x∈aG f [],x.length<=7:=fun x hx=>by have:=kY hx;have:=hS.lU;omega
 have hcnt:=jm hS []
 obtain⟨vo,vc,rfl⟩:=hwk.truth.open
 have HS:=Lib.hid hS
 have Fj:=Lib.hid hwk
 obtain⟨dl,YS⟩: ∃dl,lu f=dl:=⟨_,rfl⟩
 have HDE:=Lib.hid YS
 have HDL:Hid (dl=(List.range f.ai.toNat).map fun(i:Nat)=>oI f (aG f []) (i:Int) (aG f []).length):=Lib.hid (by rw[<-YS];rfl)
 clear YS
 have hw3:=hS.qM
 have hw0:=hS.uf
 have H0:=Lib.hid h0
 generalize aG f []=ls at*
 obtain⟨n,hn⟩: ∃n:Nat,f.ai=n:=⟨f.ai.toNat,by omega⟩
 have HN:=Lib.hid hn
 obtain⟨c1,f1,l1⟩:=cells_of_block hwk.cells
 have hn3:n<=3:=by omega
 rw[hn,Int.toNat_natCast] at HDL
 clear hwk hS h0 hn
 go_wp2_with fail
 rw[HN.out]
 have HL:=Lib.hid (And.intro hpos (And.intro Xu hcnt))
 clear hpos Xu hcnt hw3 hw0
 go_loopw [6,25] (fun ov u wr=> ∃i:Nat,i<=n/\u= .int .i64 i/\(∃oo oc,ov= .slice oo i oc/\wr.ownsRow w1.heap.size 26 2 (.slice oo i oc) i (aj (dl.take i)))/\Below w1.heap.size w1 wr) (fun _ u _=>n-(intOf u).toNat)
 case atStart=>exact⟨0,Nat.zero_le _,rfl,⟨none,0,rfl,⟨rfl,.inl ⟨rfl,rfl⟩⟩⟩,Below.refl _ _⟩
 case round=>
  obtain⟨i,hi,rfl,⟨oo,oc,rfl,how⟩,hB⟩:=hrel
  by_cases hlt:i<n
  ·have hwr:=Fj.out.below hB (Nat.le_refl _)
   obtain⟨d1,g1,m1⟩:=cells_of_block hwr.cells
   obtain⟨b,off,y0,y1,y2,y3,y4,y5,y6,hvv,hb,hys,r0,r1,r2,r3,r4,r5,r6⟩:=I8 hwr.truth HL.out.2.1 HL.out.1
   subst hvv
   have hD:=C9 f (.slice o f.ae.length c) _ y0 y1 y2 y3 y4 y5 y6 hys (i:Int) HS.out
   have hr0:oI f ls (i:Int) 0=(fK f (ls[0]'HL.out.1) i,fK f (ls[0]'HL.out.1) i):=by
    unfold oI
    rw[show ls.getD 0 []=ls[0]'HL.out.1 from by simp[List.getD,HL.out.1]]
    rfl
   have Xy:=wB HS.out (ls[0]'HL.out.1) (i:Int)
   generalize fK f (ls[0]'HL.out.1) (i:Int)=d at*
   have HD:=Lib.hid hD
   have HR0:=Lib.hid hr0
   have HB':=Lib.hid hB
   have HOW:=Lib.hid how
   clear hys hD hr0 hB how
   simp only[Nat.zero_mul,Nat.add_zero] at r0 r1 r2 r3 r4 r5 r6
   have hpos0:0<ls.length:=HL.out.1
   have aix:ls.length<=2500:=HL.out.2.2
   go_upto_region 8 with(fail)
   refine zg 12 [] none [(11,Spec.val (iv d))] ?_
   simp only[zt]
   repeat ((first|refine zn ?_|refine zk ?_);simp only[zp])
   refine zw 19 (h:=fun W hE hF=>by exact HD.out W) (t:=?_)
   simp only[zp]
   intro W hE hF
   obtain⟨hc,hf⟩:=aW hE.below
   have hzE:=hE.size
   (try simp only[World.size_alloc] at hzE)
   have HBW:=Lib.hid (show Below w1.heap.size w1 W from aH HB'.out hE.below)
   have hoW:=ah (Ms:=[]) HOW.out hE (by simp)
   have hwW:=Fj.out.below HBW.out (Nat.le_refl _)
   have UN:=Lib.hid hoW
   clear hE hF hc hf r0 r1 r2 r3 r4 r5 r6 hb d1 g1 m1 hoW hzE
   obtain⟨d1,g1,m1⟩:=cells_of_block hwW.cells
   have hsW:=HBW.out.size
   go_upto_region 10 with(fail)
   refine dD fun W9 YZ=>?_
   have O6:Below W.heap.size W W9:=by rw[YZ];exact zl
   have hk9:W9.heap[W.heap.size]? =some (.cells #[iv d,iv d] 26 (0,0)):=by rw[YZ];exact ag _ _
   have uk:=aH HBW.out O6
   have Na:=ah (Ms:=[]) UN.out (Ext.of_below O6) (by simp)
   have KQ: ∀g,(Value.slice oo i oc).ownBlock=some g->g≠W.heap.size:=fun g hg=>by have:=(aZ UN.out g hg).2;omega
   have hw9:=Fj.out.below uk (Nat.le_refl _)
   clear YZ d1 g1 m1 hwW
   obtain⟨d1,g1,m1⟩:=cells_of_block hw9.cells
   have ZK:=Lib.hid KQ
   have HH9:=Lib.hid (And.intro uk (And.intro hk9 (And.intro Na hw9)))
   have hbW:w1.heap.size<=W.heap.size:=hsW
   obtain⟨b9,YW⟩: ∃b9,W.heap.size=b9:=⟨_,rfl⟩
   rw[YW] at ZK HH9 hbW
   rw[YW]
   clear KQ uk hk9 Na hw9 O6 hsW HBW UN YW
   go_wp2_with fail
   go_loopw [48] (fun u wq=> ∃k:Nat,k<=ls.length/\u= .int .i64 k/\wq.heap[b9]? =some (.cells #[iv (oI f ls i k).1,iv (oI f ls i k).2] 26 (0,0))/\wq.ownsRow w1.heap.size 26 2 (.slice oo i oc) i (aj (dl.take i))/\Below w1.heap.size w1 wq) (fun u _=>ls.length-(intOf u).toNat)
   case atStart=>exact⟨0,Nat.zero_le _,rfl,by rw[HR0.out];exact HH9.out.2.1,HH9.out.2.2.1,HH9.out.1⟩
   case round=>
    obtain⟨k,hk,rfl,hcell,how,hB⟩:=hrel
    by_cases hlk:k<ls.length
    ·have hwr:=Fj.out.below hB (Nat.le_refl _)
     obtain⟨q1,q2,q3⟩:=cells_of_block hwr.cells
     obtain⟨e1,e2,e3⟩:=cells_of_block hcell
     obtain⟨b',off',z0,z1,z2,z3,z4,z5,z6,hvv,hb',hzs,s0,s1,s2,s3,s4,s5,s6⟩:=I8 hwr.truth HL.out.2.1 hlk
     cases hvv
     have hD2:=C9 f (.slice o f.ae.length c) _ z0 z1 z2 z3 z4 z5 z6 hzs (i:Int) HS.out
     have hsu:=sN (f:=f) (i:=(i:Int)) hlk
     have aeN:=wB HS.out ls[k] (i:Int)
     have hrb:=ML HS.out ls (i:Int) k hk
     generalize fK f ls[k] (i:Int)=d2 at*
     generalize hrk:oI f ls (i:Int) k=r at*
     have HD2:=Lib.hid hD2
     have qA:=Lib.hid hsu
     have HQ:=Lib.hid (And.intro hcell (And.intro how hB))
     clear hzs hD2 hsu hcell how hB hwr d1 g1 m1
     have abd:(k:Int)<ls.length:=by omega
     go_upto_region 13 with(fail)
     refine dD fun W5 xu=>?_
     have sV:Below wr.heap.size wr W5:=by rw[xu];exact zl
     have hk5:W5.heap[wr.heap.size]? =some (.cells #[iv z0,iv z1,iv z2,iv z3,iv z4,iv z5,iv z6] 71 (0,0)):=by rw[xu];exact ag _ _
     have hc5:=(sV.block _ e3).trans HQ.out.1
     have hw5:=Fj.out.below (aH HQ.out.2.2 sV) (Nat.le_refl _)
     have QH:=Lib.hid (And.intro (aH HQ.out.2.2 sV) (And.intro (ah (Ms:=[]) HQ.out.2.1 (Ext.of_below sV) (by simp)) hc5))
     clear xu sV q1 q2 q3 e1 e2 s0 s1 s2 s3 s4 s5 s6 hb'
     obtain⟨q1,q2,q3⟩:=cells_of_block hw5.cells
     obtain⟨e1,e2,e4⟩:=cells_of_block hc5
     obtain⟨p1,p2,p3⟩:=cells_of_block hk5
     clear hw5 hc5 hk5
     refine zg 9 [] none [(7,Spec.val (iv d2)),(8,Spec.val (rv (wid r d2)))] ?_
     simp only[zt]
     repeat ((first|refine zn ?_|refine zk ?_);simp only[zp])
     refine zw 19 (h:=fun W hE hF=>by exact HD2.out W) (t:=?_)
     simp only[zp]
     refine zw 20 (h:=fun W hE hF=>by exact Jr r d2 W) (t:=?_)
     simp only[zp]
     intro W hE hF
     obtain⟨hc,hf⟩:=aW hE.below
     have hzE:=hE.size
     (try simp only[World.size_alloc] at hzE)
     have HE:=Lib.hid hE
     clear hF hzE
     go_wp2_with fail
     go_roundw
     case rel=>
      refine⟨k+1,by omega,by go_num,?_,?_,?_⟩
      ·rw[qA.out]
       exact ak (ak ((HE.out.block _ e4 (by simp)).trans QH.out.2.2) _) _
      ·have h1:=ah (Ms:=[]) QH.out.2.1 HE.out (by simp)
       have h2:=cZ (w':=W.setCell ⟨b9,0,none⟩ (iv (wid r d2).1)) h1 fun g hg=>Below.heap_setCell _ _ _ _ (ZK.out g hg)
       exact cZ h2 fun g hg=>Below.heap_setCell _ _ _ _ (ZK.out g hg)
      ·exact gm (gm (aH QH.out.1 HE.out.below) hbW _) hbW _
     case measure=>simp[intOf];omega
    ·have hkl:k=ls.length:=by omega
     subst hkl
     have hdl:dl.take (i+1)=dl.take i++[oI f ls i ls.length]:=by
      rw[List.take_add_one]
      congr 1
      rw[HDL.out]
      simp[hlt]
     have af0:=Lib.hid hdl
     have hrb:=ML HS.out ls (i:Int) _ (Nat.le_refl _)
     generalize oI f ls (i:Int) ls.length=r at*
     obtain⟨e1,e2,e3⟩:=cells_of_block hcell
     have HQ:=Lib.hid (And.intro how hB)
     clear hcell how hB hdl d1 g1 m1
     go_upto_region 15 with(fail)
     go_wp2_with (at_builtin;refine dY rfl _ _ Vj rfl w1.heap.size (.slice oo i oc) i (aj (dl.take i)) rfl ?_ (.slice (some ⟨wr.heap.size,0,none⟩) 1 1) 1 [iv r.1,iv r.2] rfl ?_ (by simp[Value.oneCell']) (by omega) (by omega) (by have:=HQ.out.2.size;simp;omega) ?_)
     ·exact ah (Ms:=[]) HQ.out.1 (Ext.of_below ((Below.refl _ _).alloc (Nat.le_refl _) _)) (by simp)
     ·exact aB.of_block 2 1 (ag _ _) rfl (by decide)
     ·intro v' W7 hown hgr
      obtain⟨o7,c7,rfl⟩:=aK hown
      have HO7:=Lib.hid hown
      have HG7:=Lib.hid hgr
      clear hown hgr
      go_wp2_with fail
      go_roundw
      case rel=>
       refine⟨i+1,by omega,by go_num,⟨o7,c7,rfl,?_⟩,?_⟩
       ·rw[af0.out,kG]
        exact HO7.out
       ·refine Below.grown (af HQ.out.2 _) HG7.out (by have:=HQ.out.2.size;simp;omega) (fun k e=>(aZ HQ.out.1 k e).1)
      case measure=>simp[intOf];omega
  ·have hin:i=n:=by omega
   subst hin
   have HOW:=Lib.hid (And.intro how hB)
   clear how hB
   go_wp2_with fail
   go_returns
   refine⟨aH HB.out HOW.out.2,.inr ⟨H0.out,_,by simp;rfl,?_⟩⟩
   have h1:=aB.dn HOW.out.1
   have hdl:dl.length=i:=by rw[HDL.out];simp
   rw[List.take_of_length_le (by omega)] at h1
   rw[HDE.out]
   show aB 2 _ _ dl.length (aj dl)
   rw[hdl]
   exact h1
end Go.Proofs.YtabpkkbiioihaaaGreatDoor
end
section
namespace Go.Proofs.YtabpkkbiioihaaaGreatDoor
open Go.RowKit Go.RG Go.SL Go.Shelf gZ Go.TB
end Go.Proofs.YtabpkkbiioihaaaGreatDoor
namespace Go.Proofs.YtabpkkbiioihaaaGreatDoor
open Go.RowKit Go.RG Go.SL Go.Shelf gZ Go.TB
end Go.Proofs.YtabpkkbiioihaaaGreatDoor
namespace Go.Proofs.YtabpkkbiioihaaaGreatDoor
open Go.RowKit Go.RG Go.SL Go.Shelf gZ Go.TB
def vz (f:aO) (n:Int):Bool:=n== -1 ||inB n 0 (f.ai-1)
def jV (f:aO) (l:List Int):Bool:=decide (fC f=0)&&(decide ((l.length:Int)=f.rows)&&(l.all (vz f)&&eF f [] l))
theorem Gf (f:aO) (tv:Value) (n:Int) (bf:Nat) (w:World) (hf:w.heap[bf]? =some (.cells (qg f tv) 29 (0,0))) (h0: -1000<=f.ai) (h1:f.ai<=1000):
 Calls Tryz.prog 260 #[iv n,.pointer (some ⟨bf,0,none⟩)] w (PV (.bool (vz f n)) w):=by
 have HW:=Lib.hid (vO f tv n w h0 h1)
 obtain⟨c1,f1,l1⟩:=cells_of_block hf
 clear hf
 by_cases hn:n= -1
 ·subst hn
  go_enter Tryz.func260,Tryz.ntmps260
  go_wp2
  go_returns
  exact⟨by simp[vz],Below.refl _ _⟩
 ·have hnb:(n== -1)=false:=by simpa using hn
  go_enter Tryz.func260,Tryz.ntmps260
  go_wp2_with fail
  refine HW.out.mono ?_
  rintro e w' ⟨rfl,hb⟩
  go_wp2_with fail
  go_returns
  exact⟨by simp[vz,hnb],hb⟩
theorem PG (ty:TypeId) {W:World} {g:Nat} {so:Option Addr} {c:Nat} {l:List Int} (hs:aN W (.slice so l.length c) l) (h1:1<=l.length) (h7:l.length<=7) (hg:W.heap[g]? =some (.cells #[iv 0,iv 0,iv 0,iv 0,iv 0,iv 0,iv 0] 71 (0,0))):
 ∃W',(Builtin.copy_ #[36,36] ty #[.slice (some ⟨g,0,none⟩) 7 7,.slice so l.length c]).run Tryz.prog W= .ok (iv l.length) W'/\W'.heap[g]? =some (.cells (intCells (lG l)).toArray 71 (0,0))/\Ext [g] W W':=by
 obtain⟨so',c',hv,hl,hn,hc⟩:=hs.news
 cases hv
 cases so with
 |none=>have:=(hn rfl).2;omega
 |some a=>
  have hil:(intCells l).length=l.length:=by simp[intCells]
  have h:=run_copy_row (P:=Tryz.prog) W 36 36 ty 3 g 0 7 7 a l.length c _ 71 (intCells l) (by kernel_rfl) (by kernel_rfl) hg (by rw[hil];exact(Nat.min_eq_left h7).symm) (hc a rfl) (by rw[hil];simpa using h7) (iT l)
  rw[hil] at h
  refine⟨_,h,?_,⟨rfl,rfl,rfl,by simp,fun k _ hm=>setRow_other _ _ _ _ (by simpa using hm)⟩⟩
  rw[setRow_heap W g _ _ _ _ hg]
  congr 3
  have e:(#[iv 0,iv 0,iv 0,iv 0,iv 0,iv 0,iv 0]:Array Value).toList=List.replicate 7 (iv 0):=rfl
  rw[e,List.drop_replicate,List.take_zero,List.nil_append,Nat.zero_add]
  unfold lG intCells
  rw[List.map_append,List.map_replicate]
theorem yx (f:aO) (tv rvv:Value) (l:List Int) (w:World) (ht:bW w tv f.ae) (hr:aN w rvv l):
 Calls Tryz.prog 217 #[fv f tv,rvv] w (PV (.bool (jV f l)) w):=by
 obtain⟨o,c,rfl⟩:=ht.open
 obtain⟨ro,rc,rfl⟩:=hr.open
 have hrl:=hr.len
 have HC:=Lib.hid (uP f (.slice o f.ae.length c))
 have HT:=Lib.hid ht
 have HR:=Lib.hid hr
 clear ht hr
 obtain⟨q,hq⟩: ∃q,fC f=q:=⟨_,rfl⟩
 rw[hq] at HC
 obtain⟨r,hrr⟩: ∃r,jV f l=r:=⟨_,rfl⟩
 rw[hrr]
 have HRR:=Lib.hid hrr
 clear hrr
 by_cases hq0:q=0
 case neg=>
  have hneb:(q !=0)=true:=by simpa using hq0
  have hF:r=false:=by rw[<-HRR.out];unfold jV;rw[hq,decide_eq_false hq0];rfl
  have HF:=Lib.hid hF
  clear hF hq hq0
  go_enter Tryz.func217,Tryz.ntmps217
  go_wp2_with fail
  refine(HC.out _ (HT.out.alloc _)).mono ?_
  rintro e w' ⟨rfl,hb⟩
  go_wp2_with fail
  go_returns
  exact⟨by rw[HF.out];simp,zl⟩
 subst hq0
 have hS:=fH hq
 have hr0:=hS.ug
 have MZ:=hS.lU
 have HS:=Lib.hid hS
 have hF:r=(decide ((l.length:Int)=f.rows)&&(l.all (vz f)&&eF f [] l)):=by rw[<-HRR.out];unfold jV;rw[hq];rfl
 clear hq hS
 by_cases hlen:(l.length:Int)=f.rows
 case neg=>
  have hneb:((l.length:Int) !=f.rows)=true:=by simpa using hlen
  have hF:r=false:=by rw[hF,decide_eq_false hlen];rfl
  have HF:=Lib.hid hF
  clear hF hlen
  go_enter Tryz.func217,Tryz.ntmps217
  go_wp2_with fail
  refine(HC.out _ (HT.out.alloc _)).mono ?_
  rintro e w' ⟨rfl,hb⟩
  obtain⟨hc,hf⟩:=aW hb
  have hz0:w.heap.size<w'.heap.size:=(by have:=hb.size;(try simp only[World.size_alloc] at this);omega)
  go_wp2_with fail
  go_returns
  exact⟨by rw[HF.out];simp,zl⟩
 have hneb:((l.length:Int) !=f.rows)=false:=by simpa using hlen
 have hl1:1<=l.length:=by omega
 have hl7:l.length<=7:=by omega
 rw[decide_eq_true hlen,Bool.true_and] at hF
 have HLEN:=Lib.hid hlen
 have hw0:=HS.out.uf
 have hw1:=HS.out.qM
 obtain⟨q,hq⟩: ∃q,l.all (vz f)=q:=⟨_,rfl⟩
 rw[hq] at hF
 have HF:=Lib.hid hF
 have af9:=Lib.hid (fun(w':World) (hB:Below w.heap.size w w') (hk:w'.heap[w.heap.size]? =some (.cells (qg f (.slice o f.ae.length c)) 29 (0,0)))=>
  hq▸Jw l (.slice ro l.length rc) 260 #[] #[.pointer (some ⟨w.heap.size,0,none⟩)] (vz f) w' (HR.out.below hB (Nat.le_refl _)) (enters_of Tryz.func260 (by kernel_rfl) rfl)
   (fun x _ W hW=>Gf f (.slice o f.ae.length c) x w.heap.size W ((hW.block _ (Array.getElem?_eq_some_iff.1 hk).1).trans hk) (by omega) (by omega)))
 clear hF hlen hq
 go_enter Tryz.func217,Tryz.ntmps217
 go_wp2_with fail
 refine(HC.out _ (HT.out.alloc _)).mono ?_
 rintro e w' ⟨rfl,hb⟩
 obtain⟨hc,hf⟩:=aW hb
 have hz0:w.heap.size<w'.heap.size:=(by have:=hb.size;(try simp only[World.size_alloc] at this);omega)
 have HB:=Lib.hid (show Below w.heap.size w w' from zl)
 have HK:=Lib.hid ((hb.block _ (by simp)).trans (ag w (.cells (qg f (.slice o f.ae.length c)) 29)))
 clear hb
 go_wp2_with fail
 refine(af9.out w' HB.out HK.out).mono ?_
 rintro e w2 ⟨rfl,hb⟩
 have HB2:=Lib.hid (aH HB.out hb)
 have hk2:=(hb.block _ hz0).trans HK.out
 clear hb hc hf hz0
 cases q
 ·have hF:r=false:=by rw[HF.out];rfl
  have Dt:=Lib.hid hF
  clear hF
  go_wp2_with fail
  go_returns
  exact⟨by rw[Dt.out];simp,HB2.out⟩
 have hF:r=eF f [] l:=by rw[HF.out];rfl
 have Dt:=Lib.hid hF
 clear hF
 go_upto_region 4 with(fail)
 refine dD fun W3 hW3=>?_
 have hB3:Below w2.heap.size w2 W3:=by rw[hW3];exact zl
 have hk3:W3.heap[w2.heap.size]? =some (.cells #[iv 0,iv 0,iv 0,iv 0,iv 0,iv 0,iv 0] 71 (0,0)):=by rw[hW3];exact ag _ _
 obtain⟨W4,hcp,hk4,XB⟩:=PG 3 (HR.out.below (aH HB2.out hB3) (Nat.le_refl _)) hl1 hl7 hk3
 clear hW3
 have hs3:=hB3.size
 have hw2:w.heap.size<w2.heap.size:=(Array.getElem?_eq_some_iff.1 hk2).1
 have hB4:Below w.heap.size w W4:=iF (aH HB2.out hB3) XB (by omega)
 have abG:=(XB.block w.heap.size (by omega) (by simp;omega)).trans ((hB3.block _ hw2).trans hk2)
 obtain⟨y0,y1,y2,y3,y4,y5,y6,hys⟩:=ng (oU hl7)
 have hright:=sO f HS.out o c (lG l) (oU hl7) (.slice none 0 0) [] W4 (HT.out.below hB4 (Nat.le_refl _)) (He W4)
 rw[BR, <-Dt.out,hys] at hright
 have MX:Calls Tryz.prog 53 #[fv f (.slice o f.ae.length c),.agg #[iv y0,iv y1,iv y2,iv y3,iv y4,iv y5,iv y6],.slice none 0 0] W4 (PV (.bool r) W4):=hright
 rw[hys] at hk4
 have abq:W4.heap[w2.heap.size]? =some (.cells #[iv y0,iv y1,iv y2,iv y3,iv y4,iv y5,iv y6] 71 (0,0)):=hk4
 obtain⟨c1,f1,l1⟩:=cells_of_block abG
 obtain⟨c2,f2,l2⟩:=cells_of_block abq
 have HX:=Lib.hid (And.intro hB4 MX)
 clear hB4 hright MX hk4 abq abG hys XB hB3 hk3
 go_wp2_with fail
 refine HX.out.2.mono ?_
 rintro e w5 ⟨rfl,hb⟩
 go_wp2_with fail
 go_returns
 exact⟨by simp,aH HX.out.1 hb⟩
end Go.Proofs.YtabpkkbiioihaaaGreatDoor
end

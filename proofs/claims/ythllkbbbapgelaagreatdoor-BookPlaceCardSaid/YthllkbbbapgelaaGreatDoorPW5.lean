/-
  Texts of this claim, packed by a program: PA PE PH.
-/
import Derived.WalkKit
import Derived.WalkLawsBesides
import Derived.WalkSpells
import Derived.Outline
import Derived.Handy
import Derived.KernelRfl
import Derived.Lib.Hide
import Derived.Deep.Cut
import Derived.Laws.CopyRow
import Derived.Test.YthllkbbbapgelaaGreatDoorPW4
set_option maxHeartbeats 8000000
set_option maxRecDepth 100000
set_option linter.all false
section
namespace Go.Proofs.YthllkbbbapgelaaGreatDoor
open Go.RowKit Go.RG Go.SL Go.Shelf jy Go.TB
abbrev QT (t:Nb):Value:= .agg #[iv t.1,iv t.2.1,iv t.2.2.1,iv t.2.2.2.1,iv t.2.2.2.2]
abbrev fv (f:bU) (tv:Value):Value:= .agg #[iv f.rows,iv f.aK,iv f.left.1,iv f.left.2,tv]
def dL (l:List Nb):List Value:=l.flatMap fun t=>[iv t.1,iv t.2.1,iv t.2.2.1,iv t.2.2.2.1,iv t.2.2.2.2]
abbrev dW (w:World) (v:Value) (l:List Nb):Prop:=aN 5 w v l.length (dL l)
theorem Eg (l:List Nb): ∀u∈dL l,u.oneCell'=true:=by
 intro u hu
 obtain⟨r,_,h⟩:=qx.1 hu
 simp only[gZ,List.not_mem_nil,or_false] at h
 rcases h with rfl|rfl|rfl|rfl|rfl <;>rfl
theorem dW.cell {w:World} {o:Option Addr} {n c:Nat} {l:List Nb} (h:aN 5 w (.slice o n c) n (dL l)) {k:Nat} (hk:k<l.length):
 ∃b off,o=some ⟨b,off,none⟩/\b<w.heap.size/\w.cell? ⟨b,off+k*5,none⟩=some (iv l[k].1)/\w.cell? ⟨b,off+k*5+1,none⟩=some (iv l[k].2.1)/\w.cell? ⟨b,off+k*5+2,none⟩=some (iv l[k].2.2.1)/\
  w.cell? ⟨b,off+k*5+3,none⟩=some (iv l[k].2.2.2.1)/\w.cell? ⟨b,off+k*5+4,none⟩=some (iv l[k].2.2.2.2):=by
 obtain⟨hl,o',c',hv,h1,h2,h3,h4⟩:=h
 cases hv
 have hlen:(dL l).length=l.length*5:=by simp[dL,List.length_flatMap,List.map_const',List.sum_replicate_nat]
 have hn:n=l.length:=by omega
 cases o with
 |none=>have:=h3 rfl;omega
 |some a=>
  obtain⟨b,off,sp⟩:=a
  obtain⟨hs,hc⟩:=h4 _ rfl
  simp only at hs hc
  subst hs
  have g: ∀j,j<5->(dL l)[k*5+j]? =[iv l[k].1,iv l[k].2.1,iv l[k].2.2.1,iv l[k].2.2.2.1,iv l[k].2.2.2.2][j]? :=fun j hj=>by
   unfold dL;rw[jA _ 5 (fun _=>rfl) l k j hk hj]
  have h0:=hc (k*5+0) (iv l[k].1) (by rw[g 0 (by omega)];rfl)
  have h1:=hc (k*5+1) (iv l[k].2.1) (by rw[g 1 (by omega)];rfl)
  have h2:=hc (k*5+2) (iv l[k].2.2.1) (by rw[g 2 (by omega)];rfl)
  have h3:=hc (k*5+3) (iv l[k].2.2.2.1) (by rw[g 3 (by omega)];rfl)
  have h4:=hc (k*5+4) (iv l[k].2.2.2.2) (by rw[g 4 (by omega)];rfl)
  rw[Nat.add_zero] at h0
  rw[<-Nat.add_assoc] at h1 h2 h3 h4
  exact⟨b,off,rfl,dI w _ h0,h0,h1,h2,h3,h4⟩
theorem xJ (n l h:Int) (w:World):Calls Tryz.prog 306 #[iv n,iv l,iv h] w (PV (.bool (nS n l h)) w):=by
 by_cases h1:l<=n
 all_goals
  go_enter Tryz.func306,Tryz.ntmps306
  go_wp2
  go_returns
  exact⟨by simp[nS];omega,aH _ _⟩
theorem xM (r:dR) (n:Int) (w:World):Calls Tryz.prog 267 #[rv r,iv n] w (PV (.bool (nS n r.1 r.2)) w):=by
 go_enter Tryz.func267,Tryz.ntmps267
 go_wp2_with (go_at_call 306;refine(xJ _ _ _ _).mono ?_;rintro e w' ⟨rfl,hb⟩)
 go_returns
 exact⟨by simp,(aH _ _).alloc (ai _) _ |>.trans (hb.mono (by simp))⟩
theorem yZ (f:bU) (tv:Value) (r:dR) (w:World):Calls Tryz.prog 193 #[fv f tv,rv r] w (PV (.bool (wz r f.rows)) w):=by
 go_enter Tryz.func193,Tryz.ntmps193
 go_wp2
 all_goals
  go_returns
  exact⟨by simp[wz];omega,by go_grown⟩
theorem WG (f:bU) (tv:Value) (n:Int) (w:World) (h0: -1000<=f.rows) (h1:f.rows<=1000):Calls Tryz.prog 264 #[fv f tv,iv n] w (PV (.bool (nS n 0 (f.rows-1))) w):=by
 go_enter Tryz.func264,Tryz.ntmps264
 go_wp2_with (go_at_call 306;refine(xJ _ _ _ _).mono ?_;rintro e w' ⟨rfl,hb⟩)
 go_returns
 exact⟨by simp,(aH _ _).alloc (ai _) _ |>.trans (hb.mono (by simp))⟩
theorem Bz (f:bU) (tv:Value) (n:Int) (w:World) (h0: -1000<=f.aK) (h1:f.aK<=1000):Calls Tryz.prog 263 #[fv f tv,iv n] w (PV (.bool (nS n 0 (f.aK-1))) w):=by
 go_enter Tryz.func263,Tryz.ntmps263
 go_wp2_with (go_at_call 306;refine(xJ _ _ _ _).mono ?_;rintro e w' ⟨rfl,hb⟩)
 go_returns
 exact⟨by simp,(aH _ _).alloc (ai _) _ |>.trans (hb.mono (by simp))⟩
theorem yR (f:bU) (tv:Value) (t:Nb) (w:World) (h0:0<=f.rows) (h1:f.rows<=1000) (h2:0<=f.aK) (h3:f.aK<=1000):
 Calls Tryz.prog 192 #[fv f tv,QT t] w (PV (.bool (pG f t)) w):=by
 go_enter Tryz.func192,Tryz.ntmps192
 go_wp2_with (first|(go_at_call 263;refine(Bz f _ _ _ (by omega) (by omega)).mono ?_;rintro e w' ⟨rfl,hb⟩;obtain⟨hc,hf⟩:=bK hb;have hz0:w.heap.size<w'.heap.size:=(by have:=hb.size;(try simp only[bu] at this);omega);have hz1:w.heap.size+1<w'.heap.size:=(by have:=hb.size;(try simp only[bu] at this);omega))|(go_at_call 264;refine(WG f _ _ _ (by omega) (by omega)).mono ?_;rintro e w' ⟨rfl,hb⟩;obtain⟨hc,hf⟩:=bK hb;have hz0:w.heap.size<w'.heap.size:=(by have:=hb.size;(try simp only[bu] at this);omega);have hz1:w.heap.size+1<w'.heap.size:=(by have:=hb.size;(try simp only[bu] at this);omega))|(go_at_call 193;refine(yZ f _ (_,_) _).mono ?_;rintro e w' ⟨rfl,hb⟩;obtain⟨hc,hf⟩:=bK hb;have hz0:w.heap.size<w'.heap.size:=(by have:=hb.size;(try simp only[bu] at this);omega);have hz1:w.heap.size+1<w'.heap.size:=(by have:=hb.size;(try simp only[bu] at this);omega)))
 all_goals
  go_returns
  exact⟨by simp[pG, *] <;>(intros;omega),zl⟩
end Go.Proofs.YthllkbbbapgelaaGreatDoor
namespace Go.Proofs.YthllkbbbapgelaaGreatDoor
open Go.RowKit Go.RG Go.SL Go.Shelf jy Go.TB
theorem ad7 (l:List Nb) (v:Value) (bg:Nat) (fst caps:Array Value) (p:Nat->Bool) (I:Nat->World->Prop) (w:World) (eg: ∀args w,(callFunc bg args).run Tryz.prog w= .ok (.enter bg args) w)
 (hsl: ∀k W,I k W->dW W v l)
 (hcall: ∀k (hk:k<l.length) W,(∀j,j<k->p j=false)->I k W->Calls Tryz.prog bg (fst.push (QT l[k])++caps) W (fun e W'=>e= .returned (.bool (p k))/\I (k+1) W')) (h0:I 0 w):
 Calls Tryz.prog 307 #[v,.func (.func bg) fst caps] w (ed l.length p I (fun k=>iv k) (iv (-1))):=by
 have hlen:=(hsl 0 w h0).len
 obtain⟨o,c,rfl⟩:=(hsl 0 w h0).open
 have HC:=ae hcall
 have HS:=ae hsl
 clear hcall hsl
 go_enter Tryz.func307,Tryz.ntmps307
 go_wp2
 go_loopw [4,5,8] (fun _ _ i wr=> ∃k:Nat,k<=l.length/\i= .int .i64 k/\(∀j,j<k->p j=false)/\I k wr) (fun _ _ i _=>l.length-(intOf i).toNat)
 case atStart=>exact⟨0,bQ _,rfl,fun j hj=>by omega,h0⟩
 case round=>
  obtain⟨k,hk,rfl,hno,hI⟩:=hrel
  by_cases hlt:k<l.length
  ·obtain⟨b,off,rfl,hb,hc0,hc1,hc2,hc3,hc4⟩:=dW.cell (HS.o k wr hI) hlt
   have hC:=HC.o k hlt wr hno hI
   have HN:=ae hno
   clear hno
   go_wp2_with fail
   refine hC.mono ?_
   rintro e W1 ⟨rfl,hI1⟩
   have HI:=ae hI1
   clear hI1 hI hC
   cases hp:p k
   ·go_wp2_with fail
    go_roundw
    case rel=>exact⟨k+1,by omega,by go_num,fun j hj=>(by by_cases e:j=k;(subst e;exact hp);exact HN.o j (by omega)),HI.o⟩
    case measure=>simp[intOf];omega
   ·go_wp2_with fail
    go_returns
    exact⟨k,by omega,HN.o,.inl ⟨hlt,hp,by simp,HI.o⟩⟩
  ·have hkl:k=l.length:=by omega
   have HN:=ae hno
   clear hno
   go_wp2_with fail
   go_returns
   exact⟨k,by omega,HN.o,.inr ⟨hkl,by simp,by subst hkl;exact hI⟩⟩
theorem aaF (l:List Nb) (v:Value) (bg:Nat) (fst caps:Array Value) (p:Nat->Bool) (I:Nat->World->Prop) (w:World) (eg: ∀args w,(callFunc bg args).run Tryz.prog w= .ok (.enter bg args) w)
 (hsl: ∀k W,I k W->dW W v l)
 (hcall: ∀k (hk:k<l.length) W,(∀j,j<k->p j=false)->I k W->Calls Tryz.prog bg (fst.push (QT l[k])++caps) W (fun e W'=>e= .returned (.bool (p k))/\I (k+1) W')) (h0:I 0 w):
 Calls Tryz.prog 265 #[v,.func (.func bg) fst caps] w (ed l.length p I (fun _=> .bool true) (.bool false)):=by
 have HI:=ae (ad7 l v bg fst caps p I w eg hsl hcall h0)
 have hlen:=(hsl 0 w h0).len
 clear hsl hcall h0 eg
 go_enter Tryz.func265,Tryz.ntmps265
 go_wp2_with fail
 refine HI.o.mono ?_
 clear HI
 rintro e W' ⟨k,hk,hno,⟨hlt,hp,rfl,hI⟩|⟨hkl,rfl,hI⟩⟩
 ·have HN:=ae (ag hno (ag hp hI))
  clear hno hp hI
  go_wp2_with fail
  go_returns
  exact⟨k,hk,HN.o.1,.inl ⟨hlt,HN.o.2.1,by simp,HN.o.2.2⟩⟩
 ·have HN:=ae (ag hno (ag hkl hI))
  clear hno hkl hI
  go_wp2_with fail
  go_returns
  exact⟨k,hk,HN.o.1,.inr ⟨HN.o.2.1,by simp,HN.o.2.1▸HN.o.2.2⟩⟩
theorem aaU (x:Nb) (bx bg:Nat) (fst caps:Array Value) (b:Bool) (W:World) (R:World->Prop) (eg: ∀args w,(callFunc bg args).run Tryz.prog w= .ok (.enter bg args) w)
 (hbx:W.cell? ⟨bx,0,none⟩=some (.func (.func bg) fst caps))
 (hcall:Calls Tryz.prog bg (fst.push (QT x)++caps) (W.alloc (.cells #[iv x.1,iv x.2.1,iv x.2.2.1,iv x.2.2.2.1,iv x.2.2.2.2] 186)) (fun e W'=>e= .returned (.bool b)/\R W')):
 Calls Tryz.prog 266 #[QT x,.pointer (some ⟨bx,0,none⟩)] W (fun e W'=>e= .returned (.bool !b)/\R W'):=by
 have hlt:=dI W _ hbx
 have HC:=ae hcall
 clear hcall
 go_enter Tryz.func266,Tryz.ntmps266
 go_wp2_with fail
 refine HC.o.mono ?_
 rintro e W' ⟨rfl,hR⟩
 have HR:=ae hR
 clear hR
 go_wp2_with fail
 go_returns
 exact⟨by simp,HR.o⟩
theorem adL (x:Int) (bx bg:Nat) (fst caps:Array Value) (b:Bool) (W:World) (R:World->Prop) (eg: ∀args w,(callFunc bg args).run Tryz.prog w= .ok (.enter bg args) w)
 (hbx:W.cell? ⟨bx,0,none⟩=some (.func (.func bg) fst caps))
 (hcall:Calls Tryz.prog bg (fst.push (iv x)++caps) W (fun e W'=>e= .returned (.bool b)/\R W')):
 Calls Tryz.prog 335 #[iv x,.pointer (some ⟨bx,0,none⟩)] W (fun e W'=>e= .returned (.bool !b)/\R W'):=by
 have hlt:=dI W _ hbx
 have HC:=ae hcall
 clear hcall
 go_enter Tryz.func335,Tryz.ntmps335
 go_wp2_with fail
 refine HC.o.mono ?_
 rintro e W' ⟨rfl,hR⟩
 have HR:=ae hR
 clear hR
 go_wp2_with fail
 go_returns
 exact⟨by simp,HR.o⟩
theorem allT (l:List Nb) (v:Value) (bg:Nat) (fst caps:Array Value) (p:Nat->Bool) (I:Nat->World->Prop) (w:World) (eg: ∀args w,(callFunc bg args).run Tryz.prog w= .ok (.enter bg args) w)
 (hsl: ∀k W,I k W->dW W v l) (hal: ∀k W o,I k W->I k (W.alloc o))
 (hcall: ∀k (hk:k<l.length) W,(∀j,j<k->p j=true)->I k W->Calls Tryz.prog bg (fst.push (QT l[k])++caps) W (fun e W'=>e= .returned (.bool (p k))/\I (k+1) W'/\jq w.heap.size W W')) (h0:I 0 w):
 Calls Tryz.prog 194 #[v,.func (.func bg) fst caps] w (ed l.length (fun k=>!p k) I (fun _=> .bool false) (.bool true)):=by
 have HI:=ae (aaF l v 266 #[] #[.pointer (some ⟨w.heap.size,0,none⟩)] (fun k=>!p k)
  (fun k W=>I k W/\W.heap[w.heap.size]? =some (.cells #[.func (.func bg) fst caps] 315 (0,0))) (w.alloc (.cells #[.func (.func bg) fst caps] 315))
  (enters_of Tryz.func266 (by kernel_rfl) rfl) (fun k W h=>hsl k W h.1)
  (fun k hk W hno h=>by
    have hlt:w.heap.size<W.heap.size:=(aS.1 h.2).1
    refine(aaU l[k] w.heap.size bg fst caps (p k) W (fun W'=>I (k+1) W'/\W'.heap[w.heap.size]? =some (.cells #[.func (.func bg) fst caps] 315 (0,0))) eg (aB h.2) ?_)
    refine(hcall k hk _ (fun j hj=>by simpa using hno j hj) (by first|exact hal _ _ _ h.1|exact h.1)).mono ?_
    rintro e W' ⟨rfl,h1,h2⟩
    refine⟨rfl,h1,(h2.block _ (ai _) (by first|exact hlt|(simp;omega))).trans (by first|exact h.2|exact(aV _ _ _ hlt).trans h.2)⟩)
  ⟨hal _ _ _ h0,heap_alloc_new w _⟩)
 have hlen:=(hsl 0 w h0).len
 clear hsl hcall h0 eg hal
 go_enter Tryz.func194,Tryz.ntmps194
 go_wp2_with fail
 refine HI.o.mono ?_
 clear HI
 rintro e W' ⟨k,hk,hno,⟨hlt,hp,rfl,hI,_⟩|⟨hkl,rfl,hI,_⟩⟩
 ·have HN:=ae (ag hno (ag hp hI))
  clear hno hp hI
  go_wp2_with fail
  go_returns
  exact⟨k,hk,HN.o.1,.inl ⟨hlt,HN.o.2.1,by simp,HN.o.2.2⟩⟩
 ·have HN:=ae (ag hno (ag hkl hI))
  clear hno hkl hI
  go_wp2_with fail
  go_returns
  exact⟨k,hk,HN.o.1,.inr ⟨HN.o.2.1,by simp,HN.o.2.1▸HN.o.2.2⟩⟩
theorem afW (l:List Int) (v:Value) (bg:Nat) (fst caps:Array Value) (p:Nat->Bool) (I:Nat->World->Prop) (w:World) (eg: ∀args w,(callFunc bg args).run Tryz.prog w= .ok (.enter bg args) w)
 (hsl: ∀k W,I k W->aO W v l) (hal: ∀k W o,I k W->I k (W.alloc o))
 (hcall: ∀k (hk:k<l.length) W,(∀j,j<k->p j=true)->I k W->Calls Tryz.prog bg (fst.push (iv l[k])++caps) W (fun e W'=>e= .returned (.bool (p k))/\I (k+1) W'/\jq w.heap.size W W')) (h0:I 0 w):
 Calls Tryz.prog 308 #[v,.func (.func bg) fst caps] w (ed l.length (fun k=>!p k) I (fun _=> .bool false) (.bool true)):=by
 have HI:=ae (Px l v 335 #[] #[.pointer (some ⟨w.heap.size,0,none⟩)] (fun k=>!p k)
  (fun k W=>I k W/\W.heap[w.heap.size]? =some (.cells #[.func (.func bg) fst caps] 274 (0,0))) (w.alloc (.cells #[.func (.func bg) fst caps] 274))
  (enters_of Tryz.func335 (by kernel_rfl) rfl) (fun k W h=>hsl k W h.1)
  (fun k hk W hno h=>by
    have hlt:w.heap.size<W.heap.size:=(aS.1 h.2).1
    refine(adL l[k] w.heap.size bg fst caps (p k) W (fun W'=>I (k+1) W'/\W'.heap[w.heap.size]? =some (.cells #[.func (.func bg) fst caps] 274 (0,0))) eg (aB h.2) ?_)
    refine(hcall k hk _ (fun j hj=>by simpa using hno j hj) (by first|exact hal _ _ _ h.1|exact h.1)).mono ?_
    rintro e W' ⟨rfl,h1,h2⟩
    refine⟨rfl,h1,(h2.block _ (ai _) (by first|exact hlt|(simp;omega))).trans (by first|exact h.2|exact(Below.heap_alloc _ _ _ hlt).trans h.2)⟩)
  ⟨hal _ _ _ h0,heap_alloc_new w _⟩)
 have hlen:=(hsl 0 w h0).len
 clear hsl hcall h0 eg hal
 go_enter Tryz.func308,Tryz.ntmps308
 go_wp2_with fail
 refine HI.o.mono ?_
 clear HI
 rintro e W' ⟨k,hk,hno,⟨hlt,hp,rfl,hI,_⟩|⟨hkl,rfl,hI,_⟩⟩
 ·have HN:=ae (ag hno (ag hp hI))
  clear hno hp hI
  go_wp2_with fail
  go_returns
  exact⟨k,hk,HN.o.1,.inl ⟨hlt,HN.o.2.1,by simp,HN.o.2.2⟩⟩
 ·have HN:=ae (ag hno (ag hkl hI))
  clear hno hkl hI
  go_wp2_with fail
  go_returns
  exact⟨k,hk,HN.o.1,.inr ⟨HN.o.2.1,by simp,HN.o.2.1▸HN.o.2.2⟩⟩
theorem KG (l:List Nb) (v:Value) (bg:Nat) (fst caps:Array Value) (q:Nb->Bool) (w:World) (hv:dW w v l) (eg: ∀args w,(callFunc bg args).run Tryz.prog w= .ok (.enter bg args) w)
 (hcall: ∀x∈l, ∀W,Below w.heap.size w W->Calls Tryz.prog bg (fst.push (QT x)++caps) W (PV (.bool (q x)) W)):
 Calls Tryz.prog 194 #[v,.func (.func bg) fst caps] w (PV (.bool (l.all q)) w):=by
 refine(allT l v bg fst caps (fun k=>q (l.getD k (0,0,0,(0,0)))) (fun _ W=>Below w.heap.size w W) w eg (fun k W h=>hv.below h (ai _)) (fun k W o h=>aj h o) (fun k hk W _ h=>?_) (aH _ _)).mono ?_
 ·refine(hcall l[k] (dh _) W h).mono ?_
  rintro e W' ⟨rfl,hb⟩
  exact⟨by simp[hk],aY h hb,jq.aA hb⟩
 ·intro e W' hpost
  obtain⟨rfl,k,_,hI⟩:=hpost.all
  refine⟨?_,hI⟩
  rw[jH,jR]
theorem QL (l:List Int) (v:Value) (bg:Nat) (fst caps:Array Value) (q:Int->Bool) (w:World) (hv:aO w v l) (eg: ∀args w,(callFunc bg args).run Tryz.prog w= .ok (.enter bg args) w)
 (hcall: ∀x∈l, ∀W,Below w.heap.size w W->Calls Tryz.prog bg (fst.push (iv x)++caps) W (PV (.bool (q x)) W)):
 Calls Tryz.prog 308 #[v,.func (.func bg) fst caps] w (PV (.bool (l.all q)) w):=by
 refine(afW l v bg fst caps (fun k=>q (l.getD k 0)) (fun _ W=>Below w.heap.size w W) w eg (fun k W h=>hv.below h (ai _)) (fun k W o h=>aj h o) (fun k hk W _ h=>?_) (aH _ _)).mono ?_
 ·refine(hcall l[k] (dh _) W h).mono ?_
  rintro e W' ⟨rfl,hb⟩
  exact⟨by simp[hk],aY h hb,jq.aA hb⟩
 ·intro e W' hpost
  obtain⟨rfl,k,_,hI⟩:=hpost.all
  refine⟨?_,hI⟩
  rw[jH,jR]
end Go.Proofs.YthllkbbbapgelaaGreatDoor
namespace Go.Proofs.YthllkbbbapgelaaGreatDoor
open Go.RowKit Go.RG Go.SL Go.Shelf jy Go.TB
theorem abM {b:Int} (h1:1<=b) (h4:b<=4): ∀k:Nat,k<=7->1<=b^k/\b^k<=4^k:=by
 intro k
 induction k with
 |zero=>intro _;simp
 |succ k ih=>
  intro hk
  obtain⟨i1,i2⟩:=ih (by omega)
  rw[Int.pow_succ,Int.pow_succ]
  constructor
  ·have:=Int.mul_le_mul i1 h1 (by omega) (by omega);omega
  ·exact Int.mul_le_mul i2 h4 (by omega) (by omega)
theorem Y4 {b:Int} (h1:1<=b) (h4:b<=4) (k:Nat) (hk:k<=7):1<=b^k/\b^k<=16384:=by
 obtain⟨a,c⟩:=abM h1 h4 k hk
 refine⟨a,Int.le_trans c ?_⟩
 have: ∀k:Nat,k<=7->(4:Int)^k<=16384:=by decide
 exact this k hk
theorem PN (f:bU) (o:Option Addr) (n c:Nat) (w:World) (a1:7<f.rows):Calls Tryz.prog 112 #[fv f (.slice o n c)] w (PV (iv 3) w):=by
 go_enter Tryz.func112,Tryz.ntmps112
 go_wp2
 go_returns
 exact⟨by simp,zl⟩
theorem PM (f:bU) (o:Option Addr) (n c:Nat) (w:World) (a1: ¬7<f.rows) (a2:3<f.aK):Calls Tryz.prog 112 #[fv f (.slice o n c)] w (PV (iv 3) w):=by
 go_enter Tryz.func112,Tryz.ntmps112
 go_wp2
 go_returns
 exact⟨by simp,zl⟩
theorem PL (f:bU) (o:Option Addr) (n c:Nat) (w:World) (a1: ¬7<f.rows) (a2: ¬3<f.aK) (a3:(5:Int)<n):Calls Tryz.prog 112 #[fv f (.slice o n c)] w (PV (iv 3) w):=by
 go_enter Tryz.func112,Tryz.ntmps112
 go_wp2
 go_returns
 exact⟨by simp,zl⟩
theorem PT (f:bU) (o:Option Addr) (n c:Nat) (w:World) (a1: ¬7<f.rows) (a2: ¬3<f.aK) (a3: ¬(5:Int)<n) (b1:f.rows<1):Calls Tryz.prog 112 #[fv f (.slice o n c)] w (PV (iv 1) w):=by
 go_enter Tryz.func112,Tryz.ntmps112
 go_wp2
 go_returns
 exact⟨by simp,zl⟩
theorem PS (f:bU) (o:Option Addr) (n c:Nat) (w:World) (a1: ¬7<f.rows) (a2: ¬3<f.aK) (a3: ¬(5:Int)<n) (b1: ¬f.rows<1) (b2:f.aK<1):Calls Tryz.prog 112 #[fv f (.slice o n c)] w (PV (iv 1) w):=by
 go_enter Tryz.func112,Tryz.ntmps112
 go_wp2
 go_returns
 exact⟨by simp,zl⟩
theorem PR (f:bU) (o:Option Addr) (n c:Nat) (w:World) (a1: ¬7<f.rows) (a2: ¬3<f.aK) (a3: ¬(5:Int)<n) (b1: ¬f.rows<1) (b2: ¬f.aK<1) (b3:wz f.left f.rows=false):
 Calls Tryz.prog 112 #[fv f (.slice o n c)] w (PV (iv 1) w):=by
 go_enter Tryz.func112,Tryz.ntmps112
 go_wp2_with fail
 refine(yZ f _ (_,_) _).mono ?_
 rintro e w' ⟨rfl,hb⟩
 obtain⟨hc,hf⟩:=bK hb
 have hz0:w.heap.size<w'.heap.size:=(by have:=hb.size;(try simp only[bu] at this);omega)
 rw[show wz (f.left.1,f.left.2) f.rows=false from b3]
 go_wp2_with fail
 go_returns
 exact⟨by simp,zl⟩
theorem PQ (f:bU) (o:Option Addr) (c:Nat) (w:World) (hx:dW w (.slice o f.ax.length c) f.ax) (a1: ¬7<f.rows) (a2: ¬3<f.aK) (a3: ¬(5:Int)<f.ax.length) (b1: ¬f.rows<1) (b2: ¬f.aK<1) (b3:wz f.left f.rows=true)
 (b4:f.ax.all (pG f)=false):
 Calls Tryz.prog 112 #[fv f (.slice o f.ax.length c)] w (PV (iv 1) w):=by
 have HX:=ae hx
 have HB4:=ae b4
 clear hx b4
 go_enter Tryz.func112,Tryz.ntmps112
 go_wp2_with fail
 refine(yZ f _ (_,_) _).mono ?_
 rintro e w' ⟨rfl,hb⟩
 obtain⟨hc,hf⟩:=bK hb
 have hz0:w.heap.size<w'.heap.size:=(by have:=hb.size;(try simp only[bu] at this);omega)
 have HB:=ae (show Below w.heap.size w w' from zl)
 clear hb
 rw[show wz (f.left.1,f.left.2) f.rows=true from b3]
 go_wp2_with fail
 refine(KG f.ax (.slice o f.ax.length c) 192 #[fv f (.slice o f.ax.length c)] #[] (pG f) w' (HX.o.below HB.o (ai _)) (enters_of Tryz.func192 (by kernel_rfl) rfl) (fun x _ W _=>yR f _ x W (by omega) (by omega) (by omega) (by omega))).mono ?_
 rw[HB4.o]
 rintro e w2 ⟨rfl,hb⟩
 obtain⟨hc2,hf2⟩:=bK hb
 have hz2:w.heap.size<w2.heap.size:=by have:=hb.size;omega
 have HB2:=ae (aY HB.o hb)
 clear hb
 go_wp2_with fail
 go_returns
 exact⟨by simp,HB2.o⟩
theorem PO (f:bU) (o:Option Addr) (c:Nat) (w:World) (hx:dW w (.slice o f.ax.length c) f.ax) (a1: ¬7<f.rows) (a2: ¬3<f.aK) (a3: ¬(5:Int)<f.ax.length) (b1: ¬f.rows<1) (b2: ¬f.aK<1) (b3:wz f.left f.rows=true)
 (b4:f.ax.all (pG f)=true) (r:Int) (hr:r=if 2500<(f.aK+1)^f.rows.toNat then 3 else 0):
 Calls Tryz.prog 112 #[fv f (.slice o f.ax.length c)] w (PV (iv r) w):=by
 have HX:=ae hx
 have HB4:=ae b4
 have hbase:1<=f.aK+1/\f.aK+1<=4:=by omega
 have HP:=ae (fun(k:Nat) (hk:k<=7)=>Y4 hbase.1 hbase.2 k hk)
 obtain⟨n,hn⟩: ∃n:Nat,f.rows=n:=⟨f.rows.toNat,by omega⟩
 have hn7:n<=7:=by omega
 have HR:Hid (r=if 2500<(f.aK+1)^n then 3 else 0):=ae (by rw[hr,hn];rfl)
 have HN:=ae hn
 clear hx b4 hbase hr hn
 go_enter Tryz.func112,Tryz.ntmps112
 go_wp2_with fail
 refine(yZ f _ (_,_) _).mono ?_
 rintro e w' ⟨rfl,hb⟩
 obtain⟨hc,hf⟩:=bK hb
 have hz0:w.heap.size<w'.heap.size:=(by have:=hb.size;(try simp only[bu] at this);omega)
 have HB:=ae (show Below w.heap.size w w' from zl)
 clear hb
 rw[show wz (f.left.1,f.left.2) f.rows=true from b3]
 go_wp2_with fail
 refine(KG f.ax (.slice o f.ax.length c) 192 #[fv f (.slice o f.ax.length c)] #[] (pG f) w' (HX.o.below HB.o (ai _)) (enters_of Tryz.func192 (by kernel_rfl) rfl) (fun x _ W _=>yR f _ x W (by omega) (by omega) (by omega) (by omega))).mono ?_
 rw[HB4.o]
 rintro e w2 ⟨rfl,hb⟩
 obtain⟨hc2,hf2⟩:=bK hb
 have hz2:w.heap.size<w2.heap.size:=by have:=hb.size;omega
 have HB2:=ae (aY HB.o hb)
 clear hb
 go_wp2_with fail
 go_loop [4,47] (fun m i=> ∃k:Nat,k<=n/\i= .int .i64 k/\m= .int .i64 ((f.aK+1)^k)) (fun _ i=>n-(intOf i).toNat)
 case atStart=>exact⟨0,bQ _,rfl,by simp⟩
 case round=>
  obtain⟨k,hk,rfl,rfl⟩:=hrel
  obtain⟨p1,p2⟩:=HP.o k (by omega)
  by_cases hlt:k<n
  ·have hkI:(k:Int)<f.rows:=by have:=HN.o;omega
   obtain⟨q1,q2⟩:=HP.o (k+1) (by omega)
   have HE:=ae (Int.pow_succ (f.aK+1) k)
   rw[Int.pow_succ] at q1 q2
   generalize (f.aK+1)^k=m at p1 p2 q1 q2 HE⊢
   go_wp2
   go_round
   case rel=>exact⟨k+1,by omega,by go_num,by rw[HE.o]⟩
   case measure=>simp[intOf];omega
  ·have hkn:k=n:=by omega
   subst hkn
   have hkI: ¬(k:Int)<f.rows:=by have:=HN.o;omega
   generalize (f.aK+1)^k=m at p1 p2 HR⊢
   by_cases hm:2500<m
   ·go_wp2
    go_returns
    exact⟨by rw[HR.o,aF hm];simp,HB2.o⟩
   ·go_wp2
    go_returns
    exact⟨by rw[HR.o,ak (by omega)];simp,HB2.o⟩
theorem Az (f:bU) (tv:Value) (w:World) (hx:dW w tv f.ax):
 Calls Tryz.prog 112 #[fv f tv] w (PV (iv (jX f)) w):=by
 obtain⟨o,c,rfl⟩:=hx.open
 by_cases ha:7<f.rows∨3<f.aK∨5<f.ax.length
 ·rw[show jX f=3 from by unfold jX;rw[aF ha]]
  by_cases a1:7<f.rows
  ·exact PN f o _ c w a1
  by_cases a2:3<f.aK
  ·exact PM f o _ c w a1 a2
  exact PL f o _ c w a1 a2 (by omega)
 obtain⟨a1,a2,a3⟩: ¬7<f.rows/\ ¬3<f.aK/\ ¬(5:Int)<f.ax.length:=by omega
 rw[show jX f=if f.rows<1∨f.aK<1∨wz f.left f.rows=false∨f.ax.all (pG f)=false then 1 else if 2500<(f.aK+1)^f.rows.toNat then 3 else 0 from by
  unfold jX;rw[ak ha]]
 by_cases b1:f.rows<1
 ·rw[aF (.inl b1)]
  exact PT f o _ c w a1 a2 a3 b1
 by_cases b2:f.aK<1
 ·rw[aF (.inr (.inl b2))]
  exact PS f o _ c w a1 a2 a3 b1 b2
 by_cases b3:wz f.left f.rows=false
 ·rw[aF (.inr (.inr (.inl b3)))]
  exact PR f o _ c w a1 a2 a3 b1 b2 b3
 by_cases b4:f.ax.all (pG f)=false
 ·rw[aF (.inr (.inr (.inr b4)))]
  exact PQ f o c w hx a1 a2 a3 b1 b2 (by simpa using b3) b4
 exact PO f o c w hx a1 a2 a3 b1 b2 (by simpa using b3) (by simpa using b4) _ (by rw[ak (by simp only[not_or];exact⟨b1,b2,b3,b4⟩)])
end Go.Proofs.YthllkbbbapgelaaGreatDoor
namespace Go.Proofs.YthllkbbbapgelaaGreatDoor
open Go.RowKit Go.RG Go.SL Go.Shelf jy Go.TB
theorem Xk (l:List Int) (who:Int) (a k:Nat):zG l who a (k+1)=zG l who a k+(if l.getD (a+k) 0=who then 1 else 0):=by
 unfold zG
 rw[List.range'_concat,List.countP_append,List.countP_singleton]
 by_cases h:l.getD (a+k) 0=who
 ·simp only[Nat.one_mul,h,beq_self_eq_true,if_true];omega
 ·simp only[Nat.one_mul,ak h,show(l.getD (a+k) 0==who)=false from by simpa using h,Bool.false_eq_true,if_false];omega
theorem MI (l:List Int) (who:Int) (a k:Nat):0<=zG l who a k/\zG l who a k<=k:=by
 unfold zG
 have:=List.countP_le_length (l:=List.range' a k) (p:=fun i=>l.getD i 0==who)
 simp only[List.length_range'] at this
 omega
theorem IU (g a n:Nat) (b:Int) (hb:b+1=(a:Int)+n) (hn:1<=n) (h7:a+n<=7) (W:World):
 (Instr.sliceAt 157 (.pointer (some ⟨g,0,none⟩)) (some (iv (a:Int))) (some (iv (b+1))) none).run Tryz.prog W= .ok (.slice (some ⟨g,a,none⟩) n (7-a)) W:=by
 have hl:Tryz.prog.arrayLen 157=7:=by kernel_rfl
 have h:=run_sliceAt_array_lh (P:=Tryz.prog) W 157 ⟨g,0,none⟩ (by kernel_rfl) .i64 .i64 (a:Int) (b+1) (by omega) (by omega) (by rw[hl];omega)
 have hs:(sizeOf (Tryz.prog.elem 157)).run Tryz.prog W= .ok 1 W:=by kernel_rfl
 rw[h,hs,hl]
 have e1:(b+1).toNat=a+n:=by omega
 have e2: ¬7=a:=by omega
 simp[slicedAt,e1,e2,Addr.add]
 omega
theorem count_any (xs:List Int) (hx:xs.length=7) (who:Int) (a n:Nat) (b:Int) (hb:b+1=(a:Int)+n) (hn:1<=n) (h7:a+n<=7) (w:World):
 Calls Tryz.prog 114 #[lY xs,iv who,iv a,iv b] w (PV (iv (zG xs who a n)) w):=by
 have hN:=ay w (.cells (ah xs).toArray 157)
 have HX:=ae hx
 have hsl:=IU w.heap.size a n b hb hn h7
 rw[hb] at hsl
 have hb0: -1<=b:=by omega
 have hb6:b<=6:=by omega
 clear hx
 go_enter Tryz.func114,Tryz.ntmps114
 go_wp2
 have HN:=ae hN
 clear hN hsl
 go_loop [8,16] (fun m i=> ∃k:Nat,k<=n/\i= .int .i64 k/\m= .int .i64 (zG xs who a k)) (fun _ i=>n-(intOf i).toNat)
 case atStart=>exact⟨0,bQ _,rfl,by simp[zG]⟩
 case round=>
  obtain⟨k,hk,rfl,rfl⟩:=hrel
  have hbd:=MI xs who a k
  have hsu:=Xk xs who a k
  by_cases hlt:k<n
  ·have hcell:=gG HN.o (show a+k<xs.length by rw[HX.o];omega)
   have hg:xs.getD (a+k) 0=xs[a+k]'(by rw[HX.o];omega):=by simp[List.getD,HX.o,show a+k<7 by omega]
   rw[hg] at hsu
   have xw:=ae hsu
   clear hg hsu
   generalize xs[a+k]'(by rw[HX.o];omega)=y at*
   generalize zG xs who a k=d at*
   by_cases hy:y=who
   ·subst hy
    go_wp2
    go_round
    case rel=>exact⟨k+1,by omega,by go_num,by rw[xw.o,aF rfl]⟩
    case measure=>simp[intOf];omega
   ·have hyb:(y==who)=false:=by simpa using hy
    have HY:=ae hy
    clear hy
    go_wp2
    go_round
    case rel=>exact⟨k+1,by omega,by go_num,by rw[xw.o,ak HY.o];simp⟩
    case measure=>simp[intOf];omega
  ·have hkn:k=n:=by omega
   subst hkn
   clear hsu
   generalize zG xs who a k=d at*
   go_wp2
   go_returns
   exact⟨by simp,zl⟩
theorem sU {l:List Int} (h:l.length=7): ∃a b c d e f g,l=[a,b,c,d,e,f,g]:=by
 match l,h with
 |[a,b,c,d,e,f,g],_=>exact⟨a,b,c,d,e,f,g,rfl⟩
theorem O9 (f:bU) (tv:Value) (xs:List Int) (hx:xs.length=7) (who:Int) (w:World) (h0:1<=f.rows) (h7:f.rows<=7):
 Calls Tryz.prog 68 #[fv f tv,lY xs,iv who] w (PV (iv (mM f xs who)) w):=by
 have hcount:=count_any xs hx who 0 f.rows.toNat (f.rows-1) (by omega) (by omega) (by omega)
 have hd:zG xs who 0 f.rows.toNat=mM f xs who:=by
  unfold mM Hu
  simp
 rw[hd] at hcount
 generalize mM f xs who=d at*
 obtain⟨a,b,c,d,e,g,k,rfl⟩:=sU hx
 have HC:=ae hcount
 clear hcount hx hd
 show Calls _ _ #[fv f tv,.agg #[iv a,iv b,iv c,iv d,iv e,iv g,iv k],iv who] _ _
 go_enter Tryz.func68,Tryz.ntmps68
 go_wp2_with fail
 refine(HC.o _).mono ?_
 rintro e w' ⟨rfl,hb⟩
 go_wp2_with fail
 go_returns
 exact⟨by simp,zl⟩
end Go.Proofs.YthllkbbbapgelaaGreatDoor
namespace Go.SL
open Go.RowKit Go.RG
theorem kN {P:Program} {o:Oper} {ρ:Operand->Value} {W:World} (t:TypeId) (x:Operand) (ho:o.op= .load t x) (b off:Nat) (hx:ρ x= .pointer (some ⟨b,off,none⟩)) (cs:List Value) (d:TypeDesc)
 (hc:W.rangeAt b off cs) (hu:P.underlying t=some d) (hd:d.isRow=true) (hi:(P.info? t).map (·.size)=some cs.length):(execOp ρ o).run P W= .ok (.value (.agg cs.toArray)) W:=by
 unfold execOp
 simp only[ho,hx,Instr.loadAt,Instr.sureAddr,Sem.run_bind,Sem.run_pure,Result.andThen_ok,run_loadVar_mid W b off t cs d hc hu hd hi]
theorem ui: ∀(xs ys:List Int),xs.length=ys.length->((List.range xs.length).all fun i=>xs.getD i 0==ys.getD i 0)=(xs==ys)
 |[],[],_=>rfl
 |x::xs,y::ys,h=>by
  have ih:=ui xs ys (by simpa using h)
  rw[List.length_cons,List.range_succ_eq_map,List.all_cons,List.all_map]
  simp only[List.getD_cons_zero,Function.comp_def,List.getD_cons_succ,ih]
  simp[List.cons_beq_cons]
 |[],_::_,h=>by simp at h
 |_::_,[],h=>by simp at h
theorem CV {P:Program} (w:World) (d:Nat) (t e:TypeId) (n:Nat) (ht:P.underlying t=some (.array n e)) (he:P.underlying e=some (.int .i64)) (hsz: ∀w,(sizeOf e).run P w= .ok 1 w)
 (xs ys:List Int) (hx:xs.length=n) (hy:ys.length=n):
 (Op.equalIn (d+2) t (.agg (ah xs).toArray) (.agg (ah ys).toArray)).run P w= .ok (xs==ys) w:=by
 rw[<-ui xs ys (hx.trans hy.symm),hx,List.range_eq_range',Op.equalIn]
 simp only[Sem.run_bind,run_underlying ht,Result.andThen_ok,hsz,Std.Legacy.Range.forIn_eq_forIn_range',Std.Legacy.Range.size,Nat.sub_zero,Nat.add_sub_cancel,Nat.div_one]
 have hl: ∀i∈List.range' 0 n 1,i<n:=fun i hi=>by simpa using(List.mem_range'_1.1 hi).2
 generalize List.range' 0 n 1=l at hl⊢
 induction l with
 |nil=>simp
 |cons i l ih=>
  have hi:i<n:=hl i (by simp)
  have px:(part e (ah xs).toArray (i*1)).run P w= .ok (.int .i64 (xs.getD i 0)) w:=by
   simp[part,isAgg,run_underlying he,ah,List.getD,dw (show i<xs.length by omega)]
  have py:(part e (ah ys).toArray (i*1)).run P w= .ok (.int .i64 (ys.getD i 0)) w:=by
   simp[part,isAgg,run_underlying he,ah,List.getD,dw (show i<ys.length by omega)]
  have pe:(Op.equalIn (d+1) e (.int .i64 (xs.getD i 0)) (.int .i64 (ys.getD i 0))).run P w= .ok (xs.getD i 0==ys.getD i 0) w:=run_equalIn_int w d e .i64 .i64 _ _ he
  simp only[List.forIn_cons,Sem.run_bind,px,py,pe,Result.andThen_ok,List.all_cons]
  cases hb:(xs.getD i 0==ys.getD i 0)
  ·simp
  ·simp only[Bool.not_true,Bool.false_eq_true,if_false,Sem.run_pure,Result.andThen_ok,Bool.true_and]
   exact ih fun j hj=>hl j (by simp[hj])
theorem Lc {P:Program} (w:World) (t e:TypeId) (n:Nat) (ht:P.underlying t=some (.array n e)) (he:P.underlying e=some (.int .i64)) (hsz: ∀w,(sizeOf e).run P w= .ok 1 w)
 (xs ys:List Int) (hx:xs.length=n) (hy:ys.length=n):
 (binOp .neq t (.agg (ah xs).toArray) (.agg (ah ys).toArray)).run P w= .ok (.bool (!(xs==ys))) w:=by
 rw[run_neq_struct,CV w 9998 t e n ht he hsz xs ys hx hy]
 rfl
theorem nT {P:Program} {o:Oper} {ρ:Operand->Value} {W:World} (t e tb:TypeId) (n:Nat) (x y:Operand) (ho:o.op= .binOp .neq t x y tb) (ht:P.underlying t=some (.array n e)) (he:P.underlying e=some (.int .i64)) (hsz: ∀w,(sizeOf e).run P w= .ok 1 w)
 (hm:P.eqGuardType P.depth t=false) (xs ys:List Int) (hx:ρ x= .agg (ah xs).toArray) (hy:ρ y= .agg (ah ys).toArray) (hxl:xs.length=n) (hyl:ys.length=n):
 (execOp ρ o).run P W= .ok (.value (.bool (!(xs==ys)))) W:=by
 unfold execOp
 simp only[ho,hx,hy,Sem.run_bind,run_eqGuard_agg W .neq t x y _ _ hm,Result.andThen_ok,Lc W t e n ht he hsz xs ys hxl hyl,Sem.run_pure]
theorem CY {w:World} {base:Nat} {e:TypeId} {k:Nat} {v:Value} {A:List (List Int)} {z:List Int} (h:w.ownsRow base e k v (A.length+1) ((A++[z]).flatMap ah)) (hA: ∀x∈A,x.length=k) (hz:z.length=k):
 ∃g c,v= .slice (some ⟨g,0,none⟩) (A.length+1) c/\base<=g/\g<w.heap.size/\w.rangeAt g (A.length*k) (ah z):=by
 obtain⟨h1,⟨hv,h2⟩|⟨g,c,cs,hv,hb,hc,hn,hm,hs,hx⟩⟩:=h
 ·exact absurd h2 (by simp)
 ·refine⟨g,c,hv,hb,(aS.1 hc).1,fun j u hj=>?_⟩
  have hj':j<k:=by have:=(je.1 hj).1;simpa [ah,hz] using this
  have e1:((A++[z]).flatMap ah)[A.length*k+j]? =some u:=by
   rw[uZ,oG (by rw[Ou A k hA];omega),Ou A k hA,Nat.add_sub_cancel_left]
   simpa using hj
  rw[<-hx,List.getElem?_take] at e1
  split at e1
  ·simp only[World.cell?,hc];simpa using e1
  ·cases e1
end Go.SL
namespace Go.Proofs.YthllkbbbapgelaaGreatDoor
open Go.RowKit Go.RG Go.SL Go.Shelf jy Go.TB
theorem Hz (b:Bool) (n:Int) (w:World):(Instr.checkKey b 9999 3 (iv n)).run Tryz.prog w= .ok () w:=Dx b 9998 n w
abbrev Str:=Int×Int×Int
abbrev adP (k:Str):Value:= .agg #[iv k.1,iv k.2.1,iv k.2.2]
theorem LJ:XR Tryz.prog 368 adP (fun _=>True) where
 find w x es:=run_findKey_eq w (by kernel_rfl) x es
 check b a w _:=by
  unfold Instr.checkKey
  simp[go_sem]
  simp only[Hz,Result.andThen_ok]
 eq a b w _ _:=by
  unfold Op.equal Op.maxDepth
  simp[go_sem]
  obtain⟨a1,a2,a3⟩:=a
  obtain⟨b1,b2,b3⟩:=b
  by_cases h1:a1=b1 <;>by_cases h2:a2=b2 <;>by_cases h3:a3=b3 <;>simp[h1,h2,h3]
 bits a _:=by simp[Instr.sameBits]
end Go.Proofs.YthllkbbbapgelaaGreatDoor
namespace Go.Proofs.YthllkbbbapgelaaGreatDoor
open Go.RowKit Go.RG Go.SL Go.Shelf jy Go.TB
abbrev wS (f:bU) (tv:Value):Array Value:= #[iv f.rows,iv f.aK,iv f.left.1,iv f.left.2,tv]
structure TV (w:World) (f:bU) (tv:Value) (xs:List Int) (W:World):Prop where
 b0:W.heap[w.heap.size]? =some (.cells (wS f tv) 45 (0,0))
 b1:W.heap[w.heap.size+1]? =some (.cells (ah xs).toArray 157 (0,0))
 tab: ∃T:List (Str×Int),TabAt adP iv (fun _=>True) W (w.heap.size+2) T/\ ∀k n,TB.look k T=some n->n=Hu xs k.1 k.2.1 k.2.2
 below:Below w.heap.size w W
theorem TV.next {w:World} {f:bU} {tv:Value} {xs:List Int} {W W':World} (h:TV w f tv xs W) (hb:Below W.heap.size W W'):TV w f tv xs W':=by
 obtain⟨T,h1,h2⟩:=h.tab
 exact⟨(hb.block _ (aS.1 h.b0).1).trans h.b0,(hb.block _ (aS.1 h.b1).1).trans h.b1,⟨T,h1.below hb (ai _),h2⟩,
  h.below.trans (hb.mono h.below.size)⟩
def Oj (f:bU) (out xs:List Int) (k:Nat):Bool:=(List.range k).all fun i=>out.contains (i:Int) ||Aa xs (f.ax.getD i (0,0,0,(0,0)))
theorem Tt (xs:List Int) (hx:xs.length=7) (who a b:Int) (h0:0<=a) (h1:a<=b) (h2:b<7) (w:World):
 Calls Tryz.prog 114 #[lY xs,iv who,iv a,iv b] w (PV (iv (Hu xs who a b)) w):=by
 have:=count_any xs hx who a.toNat (b+1-a).toNat b (by omega) (by omega) (by omega) w
 rw[show((a.toNat:Nat):Int)=a from by omega] at this
 exact this
theorem yU (f:bU) (hS:ru f) (o:Option Addr) (c:Nat) (xs:List Int) (hx:xs.length=7) (ov:Value) (out:List Int) (w:World) (ht:dW w (.slice o f.ax.length c) f.ax) (ho:aO w ov out):
 Calls Tryz.prog 197 #[fv f (.slice o f.ax.length c),lY xs,ov] w (PV (.bool (jk f out xs)) w):=by
 obtain⟨oo,oc,rfl⟩:=ho.open
 have hmm:= @run_makeMap Tryz.prog
 obtain⟨x0,x1,x2,x3,x4,x5,x6,hxs⟩:=sU hx
 have hag:lY xs= .agg #[iv x0,iv x1,iv x2,iv x3,iv x4,iv x5,iv x6]:=by rw[hxs];rfl
 have hce:(ah xs).toArray= #[iv x0,iv x1,iv x2,iv x3,iv x4,iv x5,iv x6]:=by rw[hxs];rfl
 have HCN:=ae (fun who a b h0 h1 h2 w=>hag▸Tt xs hx who a b h0 h1 h2 w)
 rw[hag]
 have hlen:f.ax.length<=5:=hS.E5
 have HS:=ae hS
 have HT:=ae ht
 have HO:=ae ho
 have HX:=ae (ag hx hce)
 clear hS ht ho hx hxs hag hce
 go_enter Tryz.func197,Tryz.ntmps197
 go_upto_region 2 with(fail)
 refine dN fun W1 hW1=>?_
 have hst:TV w f (.slice o f.ax.length c) xs W1:=by
  rw[hW1]
  refine⟨(aV _ _ _ (by simp;omega)).trans ((aV _ _ _ (by simp)).trans (ay _ _)),?_,⟨[],LC (iq _ _ _ _),fun k n h=>by cases h⟩,zl⟩
  rw[HX.o.2]
  exact(aV _ _ _ (by simp)).trans (dV _ _ _)
 clear hW1 hmm
 have c0:=af hst.b0
 obtain⟨cc0,cf0,cl0⟩:=c0
 have HST:=ae hst
 clear hst
 go_wp2_with fail
 go_loopw [17] (fun i wr=> ∃k:Nat,k<=f.ax.length/\i= .int .i64 k/\Oj f out xs k=true/\TV w f (.slice o f.ax.length c) xs wr) (fun i _=>f.ax.length-(intOf i).toNat)
 case atStart=>exact⟨0,bQ _,rfl,rfl,HST.o⟩
 case round=>
  obtain⟨k,hk,rfl,hok,hst⟩:=hrel
  obtain⟨QC,cf1,Tz⟩:=af hst.b0
  have hb1:=hst.b1
  rw[HX.o.2] at hb1
  obtain⟨cc2,cf2,cl2⟩:=af hb1
  have Ir:=ae hst
  have jw:=ae hok
  clear hok hb1 cc0 cf0 cl0
  by_cases hlt:k<f.ax.length
  ·have htl:=HT.o.below hst.below (ai _)
   obtain⟨b,off,hv,hb,d0,d1,d2,d3,d4⟩:=dW.cell htl hlt
   clear hst htl
   have ajR:=HS.o.xE _ (dh hlt)
   generalize htk:f.ax[k]=t at*
   obtain⟨tw,ta,tb,KT,KU⟩:=t
   obtain⟨⟨q1,q2⟩,⟨q3,q4,q5⟩,⟨q6,q7,q8⟩⟩:=ajR
   cases hv
   simp only at d0 d1 d2 d3 d4 q1 q2 q3 q4 q5 q6 q7 q8
   have HTK:=ae htk
   have UM:=HS.o.qH
   obtain⟨D,hD⟩: ∃D,Hu xs tw ta tb=D:=⟨_,rfl⟩
   have HC1:=ae (HCN.o tw ta tb q3 q4 (by omega))
   rw[hD] at HC1
   have hDb:0<=D/\D<=7:=by
    rw[<-hD]
    have:=MI xs tw ta.toNat (tb+1-ta).toNat
    unfold Hu
    omega
   have HD:=ae hD
   clear htk hD
   go_upto_region 6 with(fail)
   refine dN fun W6 Dl=>?_
   have SA:TV w f (.slice (some ⟨b,off,none⟩) f.ax.length c) xs W6:=Ir.o.next (by rw[Dl];exact zl)
   have hk9:W6.heap[wr.heap.size]? =some (.cells #[iv tw,iv ta,iv tb,iv KT,iv KU] 186 (0,0)):=by rw[Dl];exact(aV _ _ _ (by simp)).trans (ay _ _)
   have hk10:W6.heap[wr.heap.size+1]? =some (.cells #[iv tw,iv ta,iv tb] 368 (0,0)):=by rw[Dl];exact dV _ _ _
   obtain⟨T,hT,hTv⟩:=SA.tab
   have hlook:=fun cm=>vT LJ (mt:=366) (e:=3) (by kernel_rfl) (z:=iv 0) (fun W=>by simp[go_sem]) hT (tw,ta,tb) trivial cm W6 rfl
   have apG:=ae (show W6.heap.size=wr.heap.size+2 by rw[Dl];simp)
   clear Dl QC cf1 Tz cc2 cf2 cl2 d0 d1 d2 d3 d4 hb
   cases hl:TB.look (tw,ta,tb) T with
   |some n=>
    have hnD:n=D:=by rw[<-HD.o];exact hTv _ _ hl
    rw[hnD] at hl
    clear hnD
    rw[hl] at hlook
    simp only[Option.map_some,Option.getD_some,Option.isSome_some] at hlook
    have hlk:=hlook true
    simp only[if_true] at hlk
    have Nj:=ae (fun W hW=>vT LJ (mt:=366) (e:=3) (by kernel_rfl) (z:=iv 0) (fun W=>by simp[go_sem]) hT (tw,ta,tb) trivial false W hW)
    rw[hl] at Nj
    simp only[Option.map_some,Option.getD_some,Option.isSome_some,Bool.false_eq_true,if_false] at Nj
    have Qp:=ae SA
    obtain⟨cc9,cf9,cl9⟩:=af hk9
    obtain⟨aeU,aeT,acF⟩:=af hk10
    clear hlook hl hTv hT SA
    go_upto_region 9 with(fail)
    have ZH:Oj f out xs (k+1)=(out.contains (k:Int) ||nS D KT KU):=by
     unfold Oj at*
     have h1:=jw.o
     rw[mV,h1,Bool.true_and,show f.ax.getD k (0,0,0,(0,0))=(tw,ta,tb,(KT,KU)) from by simp[List.getD,hlt,HTK.o]]
     unfold Aa
     simp only
     rw[HD.o]
    have Uj:=ae ZH
    clear ZH
    by_cases hoc:out.contains (k:Int)=true
    ·have zJ:=ae hoc
     clear hoc
     refine zg 13 [] none [(2,Spec.val (.bool true))] ?_
     simp only[zt]
     repeat ((first|refine zn ?_|refine zk ?_);simp only[zp])
     refine zw 147 (h:=fun W hE hF=>by exact(by have:=iJ out (.slice oo out.length oc) (k:Int) W (HO.o.below (Qp.o.next hE.below).below (ai _));rw[zJ.o] at this;exact this)) (t:=?_)
     simp only[zp]
     repeat ((first|refine zn ?_|refine zk ?_);simp only[zp])
     intro W hE hF
     obtain⟨hc,hf⟩:=bK hE.below
     have hzE:=hE.size
     (try simp only[bu] at hzE)
     have XT:=ae (Qp.o.next hE.below)
     clear hE hF
     go_wp2_with fail
     go_roundw
     case rel=>exact⟨k+1,by omega,by go_num,by rw[Uj.o,zJ.o];rfl,XT.o⟩
     case measure=>simp[intOf];omega
    ·have ZI:out.contains (k:Int)=false:=by simpa using hoc
     have zJ:=ae ZI
     clear hoc ZI
     obtain⟨q,hq⟩: ∃q,nS D KT KU=q:=⟨_,rfl⟩
     have HQ:=ae hq
     clear hq
     cases q
     ·skip
      refine zg 13 [] none [(2,Spec.val (.bool false)),(10,Spec.val (.bool false))] ?_
      simp only[zt]
      repeat ((first|refine zn ?_|refine zk ?_);simp only[zp])
      refine zw 147 (h:=fun W hE hF=>by exact(by have:=iJ out (.slice oo out.length oc) (k:Int) W (HO.o.below (Qp.o.next hE.below).below (ai _));rw[zJ.o] at this;exact this)) (t:=?_)
      simp only[zp]
      repeat ((first|refine zn ?_|refine zk ?_);simp only[zp])
      refine iw (by rfl) _ (by rfl) (fun W hE _=>by have:=Nj.o W (hE.block _ Qp.o.tab.choose_spec.1.lt (by simp));go_simp;try rfl) ?_
      simp only[zp]
      refine zw 267 (h:=fun W hE hF=>by exact(by have:=xM (KT,KU) D W;rw[HQ.o] at this;exact this)) (t:=?_)
      simp only[zp]
      repeat ((first|refine zn ?_|refine zk ?_);simp only[zp])
      intro W hE hF
      obtain⟨hc,hf⟩:=bK hE.below
      have hzE:=hE.size
      (try simp only[bu] at hzE)
      have XT:=ae (Qp.o.next hE.below)
      clear hE hF
      go_wp2_with fail
      go_returns
      refine⟨?_,XT.o.below⟩
      have:jk f out xs=false:=by
       have h1:=Uj.o
       rw[zJ.o,HQ.o] at h1
       cases hr:jk f out xs
       ·rfl
       ·unfold jk at hr
        rw[eG,ku] at hr
        unfold Oj at h1
        have:((List.range (k+1)).all fun i=>out.contains (i:Int) ||Aa xs (f.ax.getD i (0,0,0,(0,0))))=true:=by
         rw[ku]
         exact fun i hi=>hr.1 i (kD.2 (by have:=kD.1 hi;omega))
        rw[this] at h1
        cases h1
      rw[this]
      simp
     ·skip
      refine zg 13 [] none [(2,Spec.val (.bool false)),(10,Spec.val (.bool true))] ?_
      simp only[zt]
      repeat ((first|refine zn ?_|refine zk ?_);simp only[zp])
      refine zw 147 (h:=fun W hE hF=>by exact(by have:=iJ out (.slice oo out.length oc) (k:Int) W (HO.o.below (Qp.o.next hE.below).below (ai _));rw[zJ.o] at this;exact this)) (t:=?_)
      simp only[zp]
      repeat ((first|refine zn ?_|refine zk ?_);simp only[zp])
      refine iw (by rfl) _ (by rfl) (fun W hE _=>by have:=Nj.o W (hE.block _ Qp.o.tab.choose_spec.1.lt (by simp));go_simp;try rfl) ?_
      simp only[zp]
      refine zw 267 (h:=fun W hE hF=>by exact(by have:=xM (KT,KU) D W;rw[HQ.o] at this;exact this)) (t:=?_)
      simp only[zp]
      repeat ((first|refine zn ?_|refine zk ?_);simp only[zp])
      intro W hE hF
      obtain⟨hc,hf⟩:=bK hE.below
      have hzE:=hE.size
      (try simp only[bu] at hzE)
      have XT:=ae (Qp.o.next hE.below)
      clear hE hF
      go_wp2_with fail
      go_roundw
      case rel=>exact⟨k+1,by omega,by go_num,by rw[Uj.o,zJ.o,HQ.o];rfl,XT.o⟩
      case measure=>simp[intOf];omega
   |none=>
    rw[hl] at hlook
    simp only[Option.map_none,Option.getD_none,Option.isSome_none] at hlook
    have hlk:=hlook true
    simp only[if_true] at hlk
    obtain⟨cc0,cf0,cl0⟩:=af SA.b0
    have hb1:=SA.b1
    rw[HX.o.2] at hb1
    obtain⟨QC,cf1,Tz⟩:=af hb1
    obtain⟨cc9,cf9,cl9⟩:=af hk9
    obtain⟨aeU,aeT,acF⟩:=af hk10
    have HS6:=ae SA
    have HTT:=ae (ag hT hTv)
    clear hlook hl hTv hT SA hb1
    go_upto_region 8 with(fail)
    refine zg 10 [] none [(9,Spec.val (iv D))] ?_
    simp only[zt]
    repeat ((first|refine zn ?_|refine zk ?_);simp only[zp])
    refine zw 114 (h:=fun W hE hF=>by exact HC1.o W) (t:=?_)
    simp only[zp]
    intro W hE hF
    obtain⟨hc,hf⟩:=bK hE.below
    have hzE:=hE.size
    (try simp only[bu] at hzE)
    have hTW:TabAt adP iv (fun _=>True) W (w.heap.size+2) T:=HTT.o.1.below hE.below (ai _)
    obtain⟨W8,hrun,hT8,gY⟩:=fU LJ (mt:=366) (e:=3) (by kernel_rfl) hTW (tw,ta,tb) trivial D
    have WJ:=HS6.o.next hE.below
    have WL:TV w f (.slice (some ⟨b,off,none⟩) f.ax.length c) xs W8:=by
     refine⟨(gY.block _ (aS.1 WJ.b0).1 (by simp)).trans WJ.b0,(gY.block _ (aS.1 WJ.b1).1 (by simp)).trans WJ.b1,⟨_,hT8,fun k n h=>?_⟩,ik WJ.below gY (by omega)⟩
     rw[wK] at h
     split at h
     ·rename_i he
      subst he
      cases h
      exact HD.o.symm
     ·exact HTT.o.2 _ _ h
    have akn:W8.heap[wr.heap.size]? =some (.cells #[iv tw,iv ta,iv tb,iv KT,iv KU] 186 (0,0)):=
     (gY.block _ (by have:=hE.size;omega) (by have:=Ir.o.tab.choose_spec.1.lt;simp;omega)).trans ((hE.block _ cl9 (by simp)).trans hk9)
    have hk10':W8.heap[wr.heap.size+1]? =some (.cells #[iv tw,iv ta,iv tb] 368 (0,0)):=
     (gY.block _ (by have:=hE.size;omega) (by have:=Ir.o.tab.choose_spec.1.lt;simp;omega)).trans ((hE.block _ acF (by simp)).trans hk10)
    have Nj:=ae (fun W hW=>vT LJ (mt:=366) (e:=3) (by kernel_rfl) (z:=iv 0) (fun W=>by simp[go_sem]) hT8 (tw,ta,tb) trivial false W hW)
    rw[wK,aF rfl] at Nj
    simp only[Option.map_some,Option.getD_some,Option.isSome_some,Bool.false_eq_true,if_false] at Nj
    have Qp:=ae WL
    clear hT8 gY WJ WL hTW hE hF cc0 cf0 cl0 QC cf1 Tz cc9 cf9 cl9 aeU aeT acF hc hf hlk
    go_upto_region 9 with(fail)
    clear hrun
    obtain⟨cc9,cf9,cl9⟩:=af akn
    obtain⟨aeU,aeT,acF⟩:=af hk10'
    have ZH:Oj f out xs (k+1)=(out.contains (k:Int) ||nS D KT KU):=by
     unfold Oj at*
     have h1:=jw.o
     rw[mV,h1,Bool.true_and,show f.ax.getD k (0,0,0,(0,0))=(tw,ta,tb,(KT,KU)) from by simp[List.getD,hlt,HTK.o]]
     unfold Aa
     simp only
     rw[HD.o]
    have Uj:=ae ZH
    clear ZH
    by_cases hoc:out.contains (k:Int)=true
    ·have zJ:=ae hoc
     clear hoc
     refine zg 13 [] none [(2,Spec.val (.bool true))] ?_
     simp only[zt]
     repeat ((first|refine zn ?_|refine zk ?_);simp only[zp])
     refine zw 147 (h:=fun W hE hF=>by exact(by have:=iJ out (.slice oo out.length oc) (k:Int) W (HO.o.below (Qp.o.next hE.below).below (ai _));rw[zJ.o] at this;exact this)) (t:=?_)
     simp only[zp]
     repeat ((first|refine zn ?_|refine zk ?_);simp only[zp])
     intro W hE hF
     obtain⟨hc,hf⟩:=bK hE.below
     have hzE:=hE.size
     (try simp only[bu] at hzE)
     have XT:=ae (Qp.o.next hE.below)
     clear hE hF
     go_wp2_with fail
     go_roundw
     case rel=>exact⟨k+1,by omega,by go_num,by rw[Uj.o,zJ.o];rfl,XT.o⟩
     case measure=>simp[intOf];omega
    ·have ZI:out.contains (k:Int)=false:=by simpa using hoc
     have zJ:=ae ZI
     clear hoc ZI
     obtain⟨q,hq⟩: ∃q,nS D KT KU=q:=⟨_,rfl⟩
     have HQ:=ae hq
     clear hq
     cases q
     ·skip
      refine zg 13 [] none [(2,Spec.val (.bool false)),(10,Spec.val (.bool false))] ?_
      simp only[zt]
      repeat ((first|refine zn ?_|refine zk ?_);simp only[zp])
      refine zw 147 (h:=fun W hE hF=>by exact(by have:=iJ out (.slice oo out.length oc) (k:Int) W (HO.o.below (Qp.o.next hE.below).below (ai _));rw[zJ.o] at this;exact this)) (t:=?_)
      simp only[zp]
      repeat ((first|refine zn ?_|refine zk ?_);simp only[zp])
      refine iw (by rfl) _ (by rfl) (fun W hE _=>by have:=Nj.o W (hE.block _ Qp.o.tab.choose_spec.1.lt (by simp));go_simp;try rfl) ?_
      simp only[zp]
      refine zw 267 (h:=fun W hE hF=>by exact(by have:=xM (KT,KU) D W;rw[HQ.o] at this;exact this)) (t:=?_)
      simp only[zp]
      repeat ((first|refine zn ?_|refine zk ?_);simp only[zp])
      intro W hE hF
      obtain⟨hc,hf⟩:=bK hE.below
      have hzE:=hE.size
      (try simp only[bu] at hzE)
      have XT:=ae (Qp.o.next hE.below)
      clear hE hF
      go_wp2_with fail
      go_returns
      refine⟨?_,XT.o.below⟩
      have:jk f out xs=false:=by
       have h1:=Uj.o
       rw[zJ.o,HQ.o] at h1
       cases hr:jk f out xs
       ·rfl
       ·unfold jk at hr
        rw[eG,ku] at hr
        unfold Oj at h1
        have:((List.range (k+1)).all fun i=>out.contains (i:Int) ||Aa xs (f.ax.getD i (0,0,0,(0,0))))=true:=by
         rw[ku]
         exact fun i hi=>hr.1 i (kD.2 (by have:=kD.1 hi;omega))
        rw[this] at h1
        cases h1
      rw[this]
      simp
     ·skip
      refine zg 13 [] none [(2,Spec.val (.bool false)),(10,Spec.val (.bool true))] ?_
      simp only[zt]
      repeat ((first|refine zn ?_|refine zk ?_);simp only[zp])
      refine zw 147 (h:=fun W hE hF=>by exact(by have:=iJ out (.slice oo out.length oc) (k:Int) W (HO.o.below (Qp.o.next hE.below).below (ai _));rw[zJ.o] at this;exact this)) (t:=?_)
      simp only[zp]
      repeat ((first|refine zn ?_|refine zk ?_);simp only[zp])
      refine iw (by rfl) _ (by rfl) (fun W hE _=>by have:=Nj.o W (hE.block _ Qp.o.tab.choose_spec.1.lt (by simp));go_simp;try rfl) ?_
      simp only[zp]
      refine zw 267 (h:=fun W hE hF=>by exact(by have:=xM (KT,KU) D W;rw[HQ.o] at this;exact this)) (t:=?_)
      simp only[zp]
      repeat ((first|refine zn ?_|refine zk ?_);simp only[zp])
      intro W hE hF
      obtain⟨hc,hf⟩:=bK hE.below
      have hzE:=hE.size
      (try simp only[bu] at hzE)
      have XT:=ae (Qp.o.next hE.below)
      clear hE hF
      go_wp2_with fail
      go_roundw
      case rel=>exact⟨k+1,by omega,by go_num,by rw[Uj.o,zJ.o,HQ.o];rfl,XT.o⟩
      case measure=>simp[intOf];omega
  ·have hkl:k=f.ax.length:=by omega
   subst hkl
   have agh:lY xs= .agg #[iv x0,iv x1,iv x2,iv x3,iv x4,iv x5,iv x6]:=congrArg Value.agg HX.o.2
   have HL:=ae (fun W=>agh▸O9 f (.slice o f.ax.length c) xs HX.o.1 (-1) W HS.o.zM HS.o.qH)
   obtain⟨d,hd⟩: ∃d,mM f xs (-1)=d:=⟨_,rfl⟩
   obtain⟨q,hq⟩: ∃q,nS d f.left.1 f.left.2=q:=⟨_,rfl⟩
   have HR:Hid (jk f out xs=q):=ae (by
    rw[<-hq, <-hd]
    have h1:=jw.o
    unfold Oj at h1
    unfold jk
    rw[h1,Bool.true_and]
    rfl)
   have HD:=ae (ag hd hq)
   rw[hd] at HL
   clear hd hq agh hst
   go_upto_region 12 with(fail)
   refine zg 7 [] none [(4,Spec.val (iv d)),(5,Spec.val (.bool q))] ?_
   simp only[zt]
   repeat ((first|refine zn ?_|refine zk ?_);simp only[zp])
   refine zw 68 (h:=fun W hE hF=>by exact HL.o W) (t:=?_)
   simp only[zp]
   refine zw 267 (h:=fun W hE hF=>by exact(by have:=xM f.left d W;rw[HD.o.2] at this;exact this)) (t:=?_)
   simp only[zp]
   repeat ((first|refine zn ?_|refine zk ?_);simp only[zp])
   intro W hE hF
   obtain⟨hc,hf⟩:=bK hE.below
   have hzE:=hE.size
   (try simp only[bu] at hzE)
   have XT:=ae (Ir.o.next hE.below)
   clear hE hF
   go_wp2_with fail
   go_returns
   exact⟨by rw[HR.o];simp,XT.o.below⟩
end Go.Proofs.YthllkbbbapgelaaGreatDoor
end
section
namespace Go.Proofs.YthllkbbbapgelaaGreatDoor
open Go.RowKit Go.RG Go.SL Go.Shelf jy Go.TB
attribute [local go_sem] Oper.semAt_some
def uD (f:bU) (out:List Int) (k:Nat):Nat:=(((qp f).take k).filter (jk f out)).length
theorem Pz (f:bU) (out:List Int):uD f out (qp f).length=(bV f out).length:=by
 unfold uD bV
 rw[List.take_length]
theorem U1 {f:bU} {out:List Int} {k:Nat} (hk:k<(qp f).length) (hp:jk f out (qp f)[k]=false):uD f out (k+1)=uD f out k:=by
 unfold uD
 rw[iC hk,List.filter_append,dm]
 simp[hp]
theorem Py {f:bU} {out:List Int} {k:Nat} (hk:k<(qp f).length) (hp:jk f out (qp f)[k]=true):uD f out (k+1)=uD f out k+1:=by
 unfold uD
 rw[iC hk,List.filter_append,dm]
 simp[hp]
theorem FW {f:bU} {out:List Int} {k:Nat} (hk:k<(qp f).length) (hp:jk f out (qp f)[k]=true):
 ∃hc:uD f out k<(bV f out).length,(bV f out)[uD f out k]=(qp f)[k]:=by
 have:=Dp (jk f out) id (qp f) k hk hp
 rw[List.map_id] at this
 obtain⟨hc,hx⟩:=je.1 this
 exact⟨hc,hx⟩
def qR (x:List Int):List Int:=x++List.replicate (7-x.length) 0
theorem vN {x:List Int} (h:x.length<=7):(qR x).length=7:=by simp[qR];omega
theorem Za (x:List Int) (i:Nat):(qR x).getD i 0=x.getD i 0:=by
 unfold qR
 by_cases h:i<x.length
 ·rw[List.getD_eq_getElem?_getD,ve h, <-List.getD_eq_getElem?_getD]
 ·rw[List.getD_eq_getElem?_getD,oG (by omega),List.getElem?_replicate]
  have:x.getD i 0=0:=by rw[List.getD_eq_getElem?_getD,List.getElem?_eq_none (by omega)];rfl
  rw[this]
  split <;>rfl
theorem Pm (x:List Int) (who:Int) (a n:Nat):zG (qR x) who a n=zG x who a n:=by
 unfold zG
 simp only[Za]
theorem JH (f:bU) (out x:List Int):jk f out (qR x)=jk f out x:=by
 unfold jk Aa Hu
 simp only[Pm]
theorem aay (f:bU) (x:List Int) (who:Int):mM f (qR x) who=mM f x who:=by
 unfold mM Hu
 rw[Pm]
structure Yp (W:World) (bf bo jv ab bc l:Nat) (o:List Int):Prop where
 y:W.heap[jv]? =some (.cells #[.func (.yield l) #[] #[]] 318 (0,0))
 ch:W.heap[bc]? =some (.cells #[.func (.func 196) #[] #[.pointer (some ⟨bf,0,none⟩),.pointer (some ⟨ab,0,none⟩),.pointer (some ⟨bo,0,none⟩),.pointer (some ⟨jv,0,none⟩),.pointer (some ⟨bc,0,none⟩)]] 274 (0,0))
 cells:W.heap[ab]? =some (.cells (ah o).toArray 157 (0,0))
theorem Yp.kept {W W':World} {bf bo jv ab bc l:Nat} {o:List Int} (h:Yp W bf bo jv ab bc l o) (hk: ∀m∈[ab,jv,bc],m<W.heap.size->W'.heap[m]? =W.heap[m]?):Yp W' bf bo jv ab bc l o:=
 ⟨(hk _ (by simp) (aS.1 h.y).1).trans h.y,(hk _ (by simp) (aS.1 h.ch).1).trans h.ch,(hk _ (by simp) (aS.1 h.cells).1).trans h.cells⟩
theorem Yp.below {W W':World} {bf bo jv ab bc l:Nat} {o:List Int} (h:Yp W bf bo jv ab bc l o) (hb:Below W.heap.size W W'):Yp W' bf bo jv ab bc l o:=
 h.kept fun m _ hm=>hb.block m hm
theorem Yp.set {W:World} {bf bo jv ab bc l:Nat} {o:List Int} (h:Yp W bf bo jv ab bc l o) (hd1:jv≠ab) (hd3:bc≠ab) (i:Nat) (x:Int):Yp (W.setCell ⟨ab,i,none⟩ (iv x)) bf bo jv ab bc l (o.set i x):=
 ⟨(dH _ _ _ _ hd1).trans h.y,(dH _ _ _ _ hd3).trans h.ch,by rw[<-sV];exact aI h.cells _⟩
def aiF (_:List Nat) (x:List Int) (v:Value) (_:World):Prop:=v=lY (qR x)
structure adz (bf bo:Nat) (f:bU) (tv ov:Value) (out:List Int) (W:World):Prop where
 fb:W.heap[bf]? =some (.cells (wS f tv) 45 (0,0))
 ob:W.heap[bo]? =some (.cells #[ov] 52 (0,0))
 xE:dW W tv f.ax
 out:aO W ov out
theorem ND (f:bU) (hS:ru f) (tv ov:Value) (out:List Int) (bf bo jv ab bc l:Nat) (hd1:jv≠ab) (hd3:bc≠ab) (J:List Nat->Option Nat->World->Prop)
 (hInv: ∀Ms s W1,J Ms s W1->adz bf bo f tv ov out W1)
 (hstep: ∀Ms Ms' s W1 W2,J Ms s W1->Ext Ms W1 W2->(∀m∈Ms',m∈Ms∨(W1.heap.size<=m/\m<W2.heap.size))->True->J Ms' s W2)
 (hY: ∀Ms k v W1 (hk:k<(bV f out).length),J Ms (some k) W1->aiF Ms (bV f out)[k] v W1->YieldAt Fence.wide 0 Tryz.prog l #[v] W1 fun e W'=>
   ((∀m∈Ms,m∉[]->m<W1.heap.size->W'.heap[m]? =W1.heap[m]?)/\W1.heap.size<=W'.heap.size)/\((e= .returned (.bool true)/\J Ms (some (k+1)) W')∨(e= .returned (.bool false)/\J Ms none W'))):
 ∀(m i k:Nat) (pre:List Int) (W:World) (o:List Int),i+m=f.rows.toNat->pre.length=i->o.length=7->o.take i=pre->o.drop f.rows.toNat=List.replicate (7-f.rows.toNat) 0->jJ (eY f) i k pre->Yp W bf bo jv ab bc l o->J [ab,jv,bc] (some (uD f out k)) W->
  CallsIn Fence.wide 0 Tryz.prog 196 #[iv i,.pointer (some ⟨bf,0,none⟩),.pointer (some ⟨ab,0,none⟩),.pointer (some ⟨bo,0,none⟩),.pointer (some ⟨jv,0,none⟩),.pointer (some ⟨bc,0,none⟩)] W
   (fun e W'=>(e= .returned (.bool true)/\J [ab,jv,bc] (some (uD f out (k+(fB ((eY f).drop i)).length))) W'/\ ∃o',o'.length=7/\o'.take i=pre/\o'.drop f.rows.toNat=List.replicate (7-f.rows.toNat) 0/\Yp W' bf bo jv ab bc l o')∨
     (e= .returned (.bool false)/\J [ab,jv,bc] none W')):=by
 have hRl:(eY f).length=f.rows.toNat:=by simp[eY]
 intro m
 induction m with
 |zero=>
  intro i k pre W o him hpl hol hot hod hat hst hJ
  have hrow:(i:Int)=f.rows:=by have:=hS.zM;omega
  obtain⟨hone,hk,hx⟩:=hat.last (by omega)
  rw[hone]
  have hop:o=qR pre:=by
   rw[<-List.take_append_drop f.rows.toNat o,hod]
   rw[show f.rows.toNat=i from by omega,hot]
   unfold qR
   rw[hpl]
  have hk':k<(qp f).length:=hk
  have hxx:(qp f)[k]=pre:=hx
  obtain⟨hbf,WT,htl,hov⟩:=hInv _ _ _ hJ
  obtain⟨ot,ct,rfl⟩:=htl.open
  obtain⟨oo,oc,rfl⟩:=hov.open
  have hright:=yU f hS ot ct o hol _ out W htl hov
  rw[show jk f out o=jk f out pre from by rw[hop,JH]] at hright
  obtain⟨QC,cf1,Tz⟩:=af hbf
  obtain⟨cc2,cf2,cl2⟩:=af WT
  obtain⟨cc3,cf3,cl3⟩:=af hst.y
  obtain⟨x0,x1,x2,x3,x4,x5,x6,hxs⟩:=sU hol
  have hag:lY o= .agg #[iv x0,iv x1,iv x2,iv x3,iv x4,iv x5,iv x6]:=by rw[hxs];rfl
  have hcb:=hst.cells
  rw[show(ah o).toArray= #[iv x0,iv x1,iv x2,iv x3,iv x4,iv x5,iv x6] from by rw[hxs];rfl] at hcb
  obtain⟨cc4,cf4,cl4⟩:=af hcb
  rw[hag] at hright
  have HR:=ae hright
  have HS:=ae hst
  have HJ:=ae hJ
  have HI:=ae hInv
  have HST:=ae hstep
  have HY:=ae hY
  have HK:=ae (show ∃h:k<(qp f).length,(qp f)[k]=pre from⟨hk',hxx⟩)
  have HO:=ae (ag hol (ag hot (ag hod (ag hop hag))))
  have heq:((i:Int)==f.rows)=true:=by simpa using hrow
  clear hright hInv hstep hY hst hJ hbf WT htl hov hat hcb hop hag hxs hx hxx hk hk' hone hrow hot hod
  obtain⟨q,hq⟩: ∃q,jk f out pre=q:=⟨_,rfl⟩
  have HQ:=ae hq
  rw[hq] at HR
  clear hq
  cases q
  ·skip
   refine callsIn_of_wp Tryz.func196 rfl trivial ?_
   simp only[Tryz.ntmps196,List.size_toArray,List.length_cons,List.length_nil,Nat.reduceAdd,Nat.reduceSub,Array.replicate_succ,Array.replicate_zero,kQ,kR,List.nil_append,List.cons_append]
   gi_wp2_with fail
   refine(callsIn_wide.2 HR.o).mono ?_
   rintro e W1 ⟨rfl,hb1⟩
   have HB1:=ae hb1
   clear hb1
   gi_wp2_with fail
   go_returns
   have hJ1:=HST.o _ _ _ _ _ HJ.o (Ext.aA HB1.o) (fun m hm=> .inl hm) trivial
   obtain⟨hk',hxx⟩:=HK.o
   rw[<-U1 hk' (by rw[hxx];exact HQ.o)] at hJ1
   exact .inl ⟨by simp,hJ1,o,HO.o.1,HO.o.2.1,HO.o.2.2.1,HS.o.below HB1.o⟩
  ·skip
   refine callsIn_of_wp Tryz.func196 rfl trivial ?_
   simp only[Tryz.ntmps196,List.size_toArray,List.length_cons,List.length_nil,Nat.reduceAdd,Nat.reduceSub,Array.replicate_succ,Array.replicate_zero,kQ,kR,List.nil_append,List.cons_append]
   gi_wp2_with fail
   refine(callsIn_wide.2 HR.o).mono ?_
   rintro e W1 ⟨rfl,hb1⟩
   obtain⟨hc1,hf1⟩:=bK hb1
   have hs1:=hb1.size
   have HB1:=ae hb1
   have hJ1:=HST.o _ _ _ _ _ HJ.o (Ext.aA hb1) (fun m hm=> .inl hm) trivial
   obtain⟨hk',hxx⟩:=HK.o
   obtain⟨hc,hx⟩:=FW hk' (by rw[hxx];exact HQ.o)
   obtain⟨g1,t1,a1,b1,hy1,hR1⟩:=HY.o _ _ (.agg #[iv x0,iv x1,iv x2,iv x3,iv x4,iv x5,iv x6]) W1 hc hJ1 (by
    show _=lY (qR _)
    rw[hx,hxx, <-HO.o.2.2.2.1,HO.o.2.2.2.2])
   have hcn:uD f out (k+1)=uD f out k+1:=Py hk' (by rw[hxx];exact HQ.o)
   have HR1:=ae hR1
   have HCN:=ae hcn
   clear hR1 hJ1 hk' hxx hc hx hcn hb1
   gi_wp2_with fail
   refine HR1.o.mono ?_
   rintro e W' ⟨⟨hkeep,hsz⟩,⟨rfl,hJ⟩|⟨rfl,hJ⟩⟩
   ·have HJ':=ae hJ
    have HK':=ae hkeep
    clear hJ hkeep
    gi_wp2_with fail
    go_returns
    refine .inl ⟨by simp,by rw[HCN.o];exact HJ'.o,o,HO.o.1,HO.o.2.1,HO.o.2.2.1,(HS.o.below HB1.o).kept (fun m hm hml=>HK'.o m hm (by simp) hml)⟩
   ·have HJ':=ae hJ
    clear hJ hkeep
    gi_wp2_with fail
    go_returns
    exact .inr ⟨by simp,HJ'.o⟩
 |succ m ih=>
  intro i k pre W o him hpl hol hot hod hat hst hJ
  have hi:i<(eY f).length:=by omega
  have hcount:=jJ.count hi
  have hw0:=hS.zK
  have hw1:=hS.xm
  have UM:=hS.qH
  have hr0:=hS.zM
  have Et:(eY f)[i]=(-1,f.aK-1):=by simp[eY]
  obtain⟨z,hz,hz4⟩: ∃z:Nat,(z:Int)=f.aK+1/\z<=4:=⟨(f.aK+1).toNat,by omega,by omega⟩
  have hsz:(eu (eY f)[i]).toNat=z:=by rw[Et];unfold eu;simp only;omega
  rw[hsz] at hcount
  obtain⟨hbf,WT,htl,hov⟩:=hInv _ _ _ hJ
  obtain⟨QC,cf1,Tz⟩:=af hbf
  have hne:(i:Int)≠f.rows:=by omega
  have hneb:((i:Int)==f.rows)=false:=by simpa using hne
  have Np:Hid (∀c:Nat,c<z->jJ (eY f) (i+1) (k+c*(fB ((eY f).drop (i+1))).length) (pre++[(c:Int)-1])):=ae (fun c hc=>by
   have:=hat.next hi c (by rw[hsz];exact hc)
   rw[Et] at this
   rw[show(c:Int)-1= -1+(c:Int) from by omega]
   exact this)
  have HI:=ae hInv
  have HST:=ae hstep
  have HS:=ae hst
  have HJ:=ae hJ
  have HIH:=ae ih
  have KL:=ae (ag hol (ag hot hod))
  have HCZ:=ae hcount
  have HZ:=ae hz
  have hi7:i<7:=by omega
  have hiR:i<f.rows.toNat:=by omega
  clear hInv hstep hY hat hst hJ ih hcount hne hbf WT htl hov Et hsz hi hol hot hod hRl hz
  refine callsIn_of_wp Tryz.func196 rfl trivial ?_
  simp only[Tryz.ntmps196,List.size_toArray,List.length_cons,List.length_nil,Nat.reduceAdd,Nat.reduceSub,Array.replicate_succ,Array.replicate_zero,kQ,kR,List.nil_append,List.cons_append]
  gi_wp2_with fail
  rw[<-HZ.o]
  gi_loopw [26] (fun u wr=> ∃c:Nat,c<=z/\u= .int .i64 c/\ ∃o':List Int,o'.length=7/\o'.take i=pre/\o'.drop f.rows.toNat=List.replicate (7-f.rows.toNat) 0/\Yp wr bf bo jv ab bc l o'/\J [ab,jv,bc] (some (uD f out (k+c*(fB ((eY f).drop (i+1))).length))) wr)
   (fun u _=>z-(intOf u).toNat)
  case atStart=>exact⟨0,bQ _,rfl,o,KL.o.1,KL.o.2.1,KL.o.2.2,HS.o,by simpa using HJ.o⟩
  case round=>
   obtain⟨c,hcz,rfl,o',ho1,ho2,ho3,hst,hJ⟩:=hrel
   by_cases hlt:c<z
   ·obtain⟨hbf,WT,htl,hov⟩:=HI.o _ _ _ hJ
    obtain⟨cd1,PW,PG⟩:=af hbf
    obtain⟨cd3,PU,PD⟩:=af hst.ch
    obtain⟨y,hcell⟩: ∃y,wr.cell? ⟨ab,i,none⟩=some (iv y):=⟨_,gG hst.cells (show i<o'.length by omega)⟩
    have hab:=dI wr _ hcell
    have hfr:=bn hst.cells i
    have Ir:=ae hst
    have Ul:=ae hJ
    have HO:=ae (ag ho1 (ag ho2 ho3))
    have Fb:(c:Int)<z:=by omega
    clear hst hJ hbf WT htl hov ho1 ho2 ho3 QC cf1 Tz
    have GV:=Ir.o.set hd1 hd3 i ((c:Int)-1)
    have hJS:J [ab,jv,bc] (some (uD f out (k+c*(fB ((eY f).drop (i+1))).length))) (wr.setCell ⟨ab,i,none⟩ (iv ((c:Int)-1))):=
     HST.o _ _ _ _ _ Ul.o ((mJ wr ⟨ab,i,none⟩ _).more (fun x hx=>by simp at hx;subst hx;simp)) (fun m hm=> .inl hm) trivial
    have hcall:=HIH.o (i+1) _ (pre++[(c:Int)-1]) _ (o'.set i ((c:Int)-1)) (by omega) (by simp[hpl]) (by simp[HO.o.1]) (by
     rw[List.take_set]
     rw[qY,HO.o.2.1]
     have hio:i<o'.length:=by have:=HO.o.1;omega
     rw[dw hio]
     simp[qA,hpl]) (by
     rw[List.drop_set,aF hiR];exact HO.o.2.2) (Np.o c hlt) GV hJS
    rw[show((i+1:Nat):Int)=(i:Int)+1 from by omega] at hcall
    have Cf:=ae hcall
    clear hcall GV hJS
    gi_wp2_with fail
    refine Cf.o.mono ?_
    rintro e W2 (⟨rfl,hJ2,o2,ho1,ho2,ho3,hst2⟩|⟨rfl,hJ2⟩)
    ·have HJ2:=ae hJ2
     have Uc:=ae hst2
     have Fh:=ae (ag ho1 (ag ho2 ho3))
     clear hJ2 hst2 ho1 ho2 ho3 cd1 PW PG cd3 PU PD hcell hab hfr
     gi_wp2_with fail
     go_roundw
     case rel=>
      refine⟨c+1,by omega,by go_num,o2,Fh.o.1,?_,Fh.o.2.2,Uc.o,?_⟩
      ·have:=congrArg (List.take i) Fh.o.2.1
       rw[List.take_take,Nat.min_eq_left (by omega)] at this
       rw[this,nK (by omega),kF (by omega)]
      ·rw[Nat.add_mul,Nat.one_mul, <-Nat.add_assoc];exact HJ2.o
     case measure=>simp[intOf];omega
    ·have HJ2:=ae hJ2
     clear hJ2 cd1 PW PG cd3 PU PD hcell hab hfr
     gi_wp2_with fail
     go_returns
     exact .inr ⟨by simp,HJ2.o⟩
   ·have SG:c=z:=by omega
    subst SG
    have Ul:=ae hJ
    have Ir:=ae hst
    have HO:=ae (ag ho1 (ag ho2 ho3))
    clear hJ hst ho1 ho2 ho3 QC cf1 Tz
    gi_wp2_with fail
    go_returns
    refine .inl ⟨by simp,?_,o',HO.o.1,HO.o.2.1,HO.o.2.2,Ir.o⟩
    rw[HCZ.o];exact Ul.o
theorem Ns (f:bU) (hS:ru f) (tv ov:Value) (out:List Int) (bf bo:Nat):
 XM Tryz.prog 195 #[.pointer (some ⟨bf,0,none⟩),.pointer (some ⟨bo,0,none⟩)] (bV f out) aiF [] (fun _=>True) (adz bf bo f tv ov out):=by
 intro l J W hInv hstep hY h0
 have hch:=fun jv ab bc hd1 hd3=>ND f hS tv ov out bf bo jv ab bc l hd1 hd3 J hInv hstep hY
 have UM:=hS.qH
 have hRl:(eY f).length=f.rows.toNat:=by simp[eY]
 have HCH:=ae hch
 have HST:=ae hstep
 have HJ:=ae h0
 have hn2: ∀(A B:Obj) (v:Value) (t:TypeId),(((W.alloc A).alloc B).alloc (.cells #[v] t)).cell? ⟨W.heap.size+1+1,0,none⟩=some v:=fun A B v t=>aB (iq W A B _)
 have hf2: ∀(A B:Obj) (v:Value) (t:TypeId),(((W.alloc A).alloc B).alloc (.cells #[v] t)).frozen? ⟨W.heap.size+1+1,0,none⟩=false:=fun A B v t=>bn (iq W A B _) 0
 clear hInv hstep hY hch h0 hS
 go_enter Tryz.func195,Tryz.ntmps195
 go_wp2_with fail
 refine(callsIn_wide.1 (HCH.o W.heap.size (W.heap.size+1) (W.heap.size+1+1) (by omega) (by omega) f.rows.toNat 0 0 [] _ (List.replicate 7 0) (by omega) rfl (by simp) (by simp) (by rw[List.drop_replicate]) (jJ.zero _) ⟨?_,?_,?_⟩
  (HST.o _ _ _ _ _ HJ.o (Ext.aA zl) (fun m hm=> .inr (by simp at hm;(first|omega|(simp;omega)))) trivial))).mono ?_
 ·exact(aV _ _ _ (by simp;omega)).trans ((aV _ _ _ (by simp)).trans (ay _ _))
 ·exact iq _ _ _ _
 ·exact(aV _ _ _ (by simp)).trans (dV _ _ _)
 ·rintro e W2 (⟨rfl,hJ2,_⟩|⟨rfl,hJ2⟩)
  ·have HJ2:=ae hJ2
   clear hJ2 hn2 hf2
   go_wp2_with fail
   go_end0
   refine⟨⟨_,rfl⟩,[W.heap.size+1,W.heap.size,W.heap.size+1+1],.inl ?_⟩
   have:=HJ2.o
   rw[<-Pz]
   simpa [qp] using this
  ·have HJ2:=ae hJ2
   clear hJ2 hn2 hf2
   go_wp2_with fail
   go_end0
   exact⟨⟨_,rfl⟩,_,.inr HJ2.o⟩
theorem Nu (f:bU) (tv:Value) (o:Option Addr) (n c:Nat) (w:World):
 Calls Tryz.prog 113 #[fv f tv,.slice o n c] w (fun e w'=>e= .returned (.func (.func 195) #[] #[.pointer (some ⟨w.heap.size,0,none⟩),.pointer (some ⟨w.heap.size+1,0,none⟩)])/\
  w'=(w.alloc (.cells (wS f tv) 45)).alloc (.cells #[.slice o n c] 52)):=by
 go_enter Tryz.func113,Tryz.ntmps113
 go_wp2
 go_returns
 exact⟨by simp,rfl⟩
end Go.Proofs.YthllkbbbapgelaaGreatDoor
namespace Go.Proofs.YthllkbbbapgelaaGreatDoor
open Go.RowKit Go.RG Go.SL Go.Shelf jy Go.TB
attribute [local go_sem] Oper.semAt_some
theorem ajt:iQ Tryz.prog 152 157 (.agg #[iv 0,iv 0,iv 0,iv 0,iv 0,iv 0,iv 0]) 7 56:=⟨Tryz.underlying152,by kernel_rfl,rfl,by omega⟩
structure IB (w:World) (Os Ms:List Nat) (W:World):Prop where
 ext:Below w.heap.size w W
 old: ∀m∈Ms,w.heap.size<=m
 bnd: ∀m∈Ms,m<W.heap.size
 apart: ∀b∈Os,b∉Ms/\b<W.heap.size
theorem IB.iV {w:World} {Os Ms Ms':List Nat} {W1 W2:World} (h:IB w Os Ms W1) (hE:Ext Ms W1 W2) (hMs: ∀m∈Ms',m∈Ms∨(W1.heap.size<=m/\m<W2.heap.size)):
 IB w Os Ms' W2/\ ∀b∈Os,W2.heap[b]? =W1.heap[b]? :=by
 have hsz:=h.ext.size
 refine⟨⟨h.ext.trans ⟨hE.os,hE.tape,hE.output,hE.size,fun k hk=>?_⟩,fun m hm=>?_,fun m hm=>?_,fun b hb=>?_⟩,fun b hb=>hE.block b (h.apart b hb).2 (h.apart b hb).1⟩
 ·exact hE.block k (by omega) (fun hk'=>by have:=h.old k hk';omega)
 ·rcases hMs m hm with h1|h1
  ·exact h.old m h1
  ·omega
 ·rcases hMs m hm with h1|h1
  ·exact fH (h.bnd m h1) hE.size
  ·exact h1.2
 ·refine⟨fun hb'=>?_,fH (h.apart b hb).2 hE.size⟩
  rcases hMs b hb' with h1|h1
  ·exact(h.apart b hb).1 h1
  ·have:=(h.apart b hb).2;omega
theorem IB.own {w:World} {Os Ms:List Nat} {W1 W2:World} (h:IB w Os Ms W1) (hE:Below w.heap.size w W2) (hs:W1.heap.size<=W2.heap.size):IB w Os Ms W2:=
 ⟨hE,h.old,fun m hm=>fH (h.bnd m hm) hs,fun b hb=>⟨(h.apart b hb).1,fH (h.apart b hb).2 hs⟩⟩
theorem IB.put {w:World} {Os Ms:List Nat} {W:World} (h:IB w Os Ms W) {r:Nat} (o:Obj) (hr:w.heap.size<=r):IB w Os Ms (W.putObj r o):=
 h.own (h.ext.trans ⟨rfl,rfl,rfl,by simp,fun k hk=>World.putObj_heap_other (by omega)⟩) (by simp)
def qP (ls:List (List Int)):List Value:=ls.flatMap fun x=>ah (qR x)
abbrev Fp (f:bU) (tv v:Value):Array Value:= #[iv f.rows,iv f.aK,iv f.left.1,iv f.left.2,tv,v]
theorem lZ {f:bU} (hS:ru f) (out:List Int):(bV f out).length<=2500:=by
 have h1:=xZ (eY f) (Rh hS)
 rw[Lm] at h1
 have h2:=hS.many
 have h3:(bV f out).length<=(qp f).length:=List.length_filter_le _ _
 unfold qp at h3
 omega
structure Yb (B:Nat) (f:bU) (tv:Value) (ls:List (List Int)) (Ms:List Nat) (W:World):Prop where
 work: ∃v,W.heap[B]? =some (.cells (Fp f tv v) 154 (0,0))/\W.ownsRow (B+6) 157 7 v ls.length (qP ls)/\ ∀g,v.ownBlock=some g->g∉Ms/\g<W.heap.size
 ptr:W.heap[B+1]? =some (.cells #[.pointer (some ⟨B,0,none⟩)] 149 (0,0))
 b2:W.heap[B+2]? =some (.cells (wS f tv) 45 (0,0))
 b3:W.heap[B+3]? =some (.cells #[.slice none 0 0] 52 (0,0))
theorem Yb.kept {B:Nat} {f:bU} {tv:Value} {ls:List (List Int)} {Ms Ms':List Nat} {W W':World} (h:Yb B f tv ls Ms W) (hs:W.heap.size<=W'.heap.size) (hk: ∀b,B<=b->b<B+4->W'.heap[b]? =W.heap[b]?)
 (ho: ∀g,B+6<=g->g<W.heap.size->g∉Ms->W'.heap[g]? =W.heap[g]?) (hM: ∀m∈Ms',m∈Ms∨(W.heap.size<=m/\m<W'.heap.size)):Yb B f tv ls Ms' W':=by
 obtain⟨v,h1,h2,h3⟩:=h.work
 refine⟨⟨v,(hk _ (by omega) (by omega)).trans h1,dn h2 fun g hg=>ho g (bD h2 g hg).1 (bD h2 g hg).2 (h3 g hg).1,fun g hg=>⟨fun hm=>?_,by have:=(h3 g hg).2;omega⟩⟩,
  (hk _ (by omega) (by omega)).trans h.ptr,(hk _ (by omega) (by omega)).trans h.b2,(hk _ (by omega) (by omega)).trans h.b3⟩
 rcases hM g hm with h4|h4
 ·exact(h3 g hg).1 h4
 ·have:=(h3 g hg).2;omega
structure XJ (W:World) (wb:Nat) (f:bU) (tv v:Value) (ls:List (List Int)):Prop where
 cells:W.heap[wb]? =some (.cells (Fp f tv v) 154 (0,0))
 xE:dW W tv f.ax
 truth:aN 7 W v ls.length (qP ls)
theorem XJ.lt {W:World} {wb:Nat} {f:bU} {tv v:Value} {ls:List (List Int)} (h:XJ W wb f tv v ls):wb<W.heap.size:=(aS.1 h.cells).1
theorem XJ.below {W W':World} {wb:Nat} {f:bU} {tv v:Value} {ls:List (List Int)} (h:XJ W wb f tv v ls) {B:Nat} (hb:Below B W W') (hB:W.heap.size<=B):XJ W' wb f tv v ls:=
 ⟨(hb.block _ (by have:=h.lt;omega)).trans h.cells,h.xE.below hb hB,h.truth.below hb hB⟩
def fM (f:bU) (fine:Bool):Int:=if jX f≠0 then jX f else if fine=false then 2 else if(bV f []).isEmpty then 11 else 0
def abj (f:bU) (tv:Value) (fine:Bool) (w:World) (e:Ending) (w':World):Prop:=
 Below w.heap.size w w'/\((fM f fine≠0/\e= .returned (.tuple #[.pointer none,.int .i64 (fM f fine)]))∨
  (fM f fine=0/\ ∃(wb:Nat) (v:Value),e= .returned (.tuple #[.pointer (some ⟨wb,0,none⟩),.int .i64 0])/\w.heap.size<=wb/\XJ w' wb f tv v (bV f [])))
theorem QK (f:bU) (tv:Value) (g:Nat) (caps:Array Value) (fine:Bool) (w:World) (ht:dW w tv f.ax) (eg: ∀args w,(callFunc g args).run Tryz.prog w= .ok (.enter g args) w)
 (OY: ∀W,Below w.heap.size w W->Calls Tryz.prog g caps W (PV (.bool fine) W)):
 Calls Tryz.prog 66 #[fv f tv,.func (.func g) #[] caps] w (abj f tv fine w):=by
 obtain⟨o,c,rfl⟩:=ht.open
 have HT:=ae ht
 have HF:=ae OY
 clear ht OY
 by_cases hf0:jX f=0
 case neg=>
  have HE:Hid (fM f fine=jX f/\fM f fine≠0):=ae (by unfold fM;rw[aF hf0];exact⟨rfl,hf0⟩)
  have HC:=ae (Az f (.slice o f.ax.length c))
  generalize hff:jX f=e at*
  clear hff
  go_enter Tryz.func66,Tryz.ntmps66
  go_wp2_with fail
  refine(HC.o _ (HT.o.alloc _)).mono ?_
  rintro e w' ⟨rfl,hb⟩
  go_wp2_with fail
  go_returns
  exact⟨zl,.inl ⟨HE.o.2,by rw[HE.o.1];simp⟩⟩
 have HC:=ae (fun w=>hf0▸Az f (.slice o f.ax.length c) w)
 have oW:=ae (iH hf0)
 have HF0:=ae hf0
 clear hf0
 cases fine
 ·have HE:Hid (fM f false=2):=ae (by unfold fM;rw[ak (by rw[HF0.o];simp),aF rfl])
  go_enter Tryz.func66,Tryz.ntmps66
  go_wp2_with fail
  refine(HC.o _ (HT.o.alloc _)).mono ?_
  rintro e w' ⟨rfl,hb⟩
  have HB1:=ae (show Below w.heap.size w w' from zl)
  clear hb
  go_wp2_with fail
  refine(HF.o _ HB1.o).mono ?_
  rintro e w2 ⟨rfl,hb⟩
  have HB2:=ae (aY HB1.o hb)
  clear hb
  go_wp2_with fail
  go_returns
  exact⟨HB2.o,.inl ⟨by rw[HE.o];simp,by rw[HE.o];simp⟩⟩
 have HE:Hid (fM f true=if(bV f []).isEmpty then 11 else 0):=ae (by unfold fM;rw[ak (by rw[HF0.o];simp),ak (by simp)])
 refine(callsIn_wide (n:=0)).1 ?_
 refine callsIn_of_wp_marks Tryz.func66 rfl trivial ?_
 simp only[Tryz.ntmps66,List.size_toArray,List.length_cons,List.length_nil,Nat.reduceAdd,Nat.reduceSub,Array.replicate_succ,Array.replicate_zero,kQ,kR,List.nil_append,List.cons_append]
 gi_wp2_with fail
 refine(callsIn_wide.2 (HC.o _ (HT.o.alloc _))).mono ?_
 rintro e w1 ⟨rfl,hb⟩
 obtain⟨hc1,hf1⟩:=bK hb
 have hz1:w.heap.size<w1.heap.size:=by have:=hb.size;simp at this;omega
 have HB1:=ae (show Below w.heap.size w w1 from zl)
 clear hb
 gi_wp2_with fail
 refine(callsIn_wide.2 (HF.o _ HB1.o)).mono ?_
 rintro e w2 ⟨rfl,hb⟩
 obtain⟨hc2,hf2⟩:=bK hb
 have hz2:w.heap.size<w2.heap.size:=by have:=hb.size;omega
 have HB2:=ae (aY HB1.o hb)
 clear hb
 gi_wp2_with fail
 refine(callsIn_wide.2 (Nu f _ none 0 0 _)).mono ?_
 rintro e w3 ⟨rfl,rfl⟩
 gi_wp2_with fail
 obtain⟨B,mZ⟩: ∃B,w2.heap.size=B:=⟨_,rfl⟩
 rw[mZ]
 obtain⟨w4,hw4⟩: ∃w4,((((w2.alloc (.cells #[iv f.rows,iv f.aK,iv f.left.1,iv f.left.2,.slice o f.ax.length c,.slice none 0 0] 154)).alloc (.cells #[.pointer (some ⟨B,0,none⟩)] 149)).alloc (.cells (wS f (.slice o f.ax.length c)) 45)).alloc (.cells #[.slice none 0 0] 52))=w4:=⟨_,rfl⟩
 have aef:w4.heap.size=B+4:=by rw[<-hw4];simp;omega
 have hwB:w.heap.size<B:=by omega
 have HB4:Hid (Below w.heap.size w w4):=ae (by rw[<-hw4];exact aj (aj (aj (aj HB2.o _) _) _) _)
 have HA4:Hid (Yb B f (.slice o f.ax.length c) [] [] w4):=ae (by
  rw[<-hw4]
  refine⟨⟨.slice none 0 0,?_,⟨rfl,.inl ⟨rfl,rfl⟩⟩,fun g hg=>by cases hg⟩,?_,?_,?_⟩
  ·rw[<-mZ];exact(aV _ _ _ (by simp;omega)).trans ((aV _ _ _ (by simp;omega)).trans ((aV _ _ _ (by simp)).trans (ay _ _)))
  ·rw[<-mZ];exact(aV _ _ _ (by simp)).trans ((aV _ _ _ (by simp)).trans (dV _ _ _))
  ·rw[<-mZ];exact(aV _ _ _ (by simp)).trans (iq _ _ _ _)
  ·rw[<-mZ];exact mg _ _ _ _ _)
 rw[hw4]
 clear hw4 hc1 hf1 hz1 hc2 hf2
 have Ey: ∀b,b∈[w.heap.size,B,B+1,B+2,B+3,B+4,B+5]↔b=w.heap.size∨(B<=b/\b<B+6):=fun b=>by simp;omega
 obtain⟨Os,G9⟩: ∃Os,[w.heap.size,B,B+1,B+2,B+3,B+4,B+5]=Os:=⟨_,rfl⟩
 rw[G9] at Ey
 clear G9
 have HT':Hid (∀W,Below w.heap.size w W->dW W (.slice o f.ax.length c) f.ax):=ae (fun W hb=>HT.o.below hb (ai _))
 refine mP (Ns f oW.o (.slice o f.ax.length c) (.slice none 0 0) [] (B+1+1) (B+1+1+1)) rfl (enters_of Tryz.func195 (by kernel_rfl) rfl) rfl (by simp)
  (fun Ms k W=>IB w Os Ms W/\Yb B f (.slice o f.ax.length c) ((bV f []).take k) Ms W)
  (fun _ _ _=>False)
  ?hInv ?pK ?hI ?hIx ?Ja ?tX ?h0
  (fun a Ms k W1 a₁ W=> ∃(x:List Int) (bt:Nat),(bV f [])[k]? =some x/\a₁={tmps:=(a.tmps.setIfInBounds 24 (lY (qR x))).setIfInBounds 8 (.pointer (some ⟨bt,0,none⟩)),defers:=[]}/\
    (IB w Os Ms W/\Yb B f (.slice o f.ax.length c) ((bV f []).take k) Ms W)/\(W.heap[bt]? =some (.cells (ah (qR x)).toArray 157 (0,0))/\B+6<=bt/\bt∉Ms/\(∀v,W.heap[B]? =some (.cells (Fp f (.slice o f.ax.length c) v) 154 (0,0))->v.ownBlock≠some bt))/\
    (∀m∈Ms,m∉([]:List Nat)->m<W1.heap.size->W.heap[m]? =W1.heap[m]?)/\W1.heap.size<=W.heap.size)
  ?MB ?hassign ?hbody ?hdone ?hstop
 case hInv=>
  rintro Ms k W ⟨hF,hP⟩
  exact⟨hP.b2,hP.b3,HT'.o W hF.ext,aN.nil 1 W⟩
 case pK=>rintro cd Ms W h;exact h.elim
 case hI=>
  rintro Ms Ms' k Wa Wb ⟨hF,hP⟩ hE hMs _
  exact⟨(hF.iV hE hMs).1,hP.kept hE.size (fun b h1 h2=>(hF.iV hE hMs).2 b ((Ey b).2 (by omega))) (fun g h1 h2 h3=>hE.block g h2 h3) hMs⟩
 case hIx=>rintro cd Ms Ms' Wa Wb h;exact h.elim
 case Ja=>
  rintro Ms k W r ob ⟨hF,hP⟩ hr
  exact⟨hF.put ob (by omega),hP.kept (by simp) (fun b h1 h2=>World.putObj_heap_other (by omega)) (fun g h1 h2 h3=>World.putObj_heap_other (by omega)) (fun m hm=> .inl hm)⟩
 case tX=>rintro cd Ms W r ob h;exact h.elim
 case h0=>
  intro o1 o2
  refine⟨⟨aj (aj HB4.o _) _,by simp,by simp,fun b hb=>⟨by simp,by have:=(Ey b).1 hb;simp;omega⟩⟩,?_⟩
  rw[List.take_zero]
  exact HA4.o.kept (by simp;omega) (fun b h1 h2=>(aV _ _ _ (by simp;omega)).trans (aV _ _ _ (by omega))) (fun g h1 h2 h3=>by omega) (fun m hm=> .inl hm)
 case MB=>
  rintro Ms k W1 a₁ W ob ⟨x,bt,hx,ha,⟨hF,hP⟩,⟨hbt,hb6,hbM,hbv⟩,hk,hs⟩
  have hap:=(hF.apart (B+5) ((Ey _).2 (by omega))).1
  refine⟨x,bt,hx,ha,⟨hF.put ob (by omega),hP.kept (by simp) (fun b h1 h2=>World.putObj_heap_other (by omega)) (fun g h1 h2 h3=>World.putObj_heap_other (by omega)) (fun m hm=> .inl hm)⟩,
   ⟨(World.putObj_heap_other (by omega)).trans hbt,hb6,hbM,fun v hv=>hbv v ((World.putObj_heap_other (by omega)).symm.trans hv)⟩,
   fun m hm h0 hml=>(World.putObj_heap_other (fun e=>hap (by rw[show B+5=m by omega];exact hm))).trans (hk m hm h0 hml),by simpa using hs⟩
 case hassign=>
  rintro Ms k v W hk ⟨hF,hP⟩ hE hlt
  obtain rfl:v=lY (qR (bV f [])[k]):=hE
  have hxk:(bV f [])[k]? =some (bV f [])[k]:=dw hk
  have hxl:=oJ (dh hk)
  generalize (bV f [])[k]=x at*
  have UM:=oW.o.qH
  obtain⟨y0,y1,y2,y3,y4,y5,y6,hys⟩:=sU (vN (x:=x) (by omega))
  have hYS:=ae hys
  rw[hys]
  rw[show lY [y0,y1,y2,y3,y4,y5,y6]= .agg #[iv y0,iv y1,iv y2,iv y3,iv y4,iv y5,iv y6] from rfl]
  gi_wp2
  have hB':Below W.heap.size W (W.alloc (.cells #[iv y0,iv y1,iv y2,iv y3,iv y4,iv y5,iv y6] 157)):=aj (aH _ _) _
  refine⟨⟨x,W.heap.size,hxk,?_,⟨(hF.iV (Ext.aA hB') (fun m hm=> .inl hm)).1,hP.kept (by simp) (fun b h1 h2=>aV _ _ _ (by omega)) (fun g h1 h2 h3=>aV _ _ _ (by omega)) (fun m hm=> .inl hm)⟩,
   ⟨?_,by omega,fun hm=>by have:=hF.bnd _ hm;omega,fun v hv e=>?_⟩,fun m hm h0 hml=>aV _ _ _ (by omega),by simp⟩,aV _ _ _ (by omega),aV _ _ _ (by omega)⟩
  ·rw[hYS.o];rfl
  ·rw[hYS.o];exact ay _ _
  ·obtain⟨v0,h1,h2,h3⟩:=hP.work
   have h4:=(aV _ _ _ (by omega)).symm.trans hv
   rw[h1] at h4
   simp only[Option.some.injEq,Obj.cells.injEq,and_true,Array.mk.injEq,List.cons.injEq,true_and] at h4
   subst h4
   have:=(h3 _ e).2
   omega
 case hbody=>
  rintro Ms k W1 a₁ W busy hk ⟨x,bt,hx,rfl,⟨hF,hP⟩,⟨hbt,hb6,hbM,hbv⟩,hkeep,hsz⟩ hrec hD
  simp only[rf,List.set_cons_succ,List.set_cons_zero]
  obtain⟨v,hv1,hv2,hv3⟩:=hP.work
  obtain⟨vo,vc,rfl⟩:=aW hv2
  have Z8:=hbv _ hv1
  obtain⟨c1,f1,l1⟩:=af hP.ptr
  obtain⟨c2,f2,l2⟩:=af hv1
  have hxl:=oJ (ni hx)
  have UM:=oW.o.qH
  obtain⟨y0,y1,y2,y3,y4,y5,y6,hys⟩:=sU (vN (x:=x) (by omega))
  have G8:=hbt
  rw[hys] at G8
  obtain⟨c3,f3,l3⟩:=af (show W.heap[bt]? =some (.cells #[iv y0,iv y1,iv y2,iv y3,iv y4,iv y5,iv y6] 157 (0,0)) from G8)
  have hw:=(hF.apart w.heap.size ((Ey _).2 (.inl rfl)))
  obtain⟨gx,hgx,aca,hgx2,BA,ab9,aoJ⟩: ∃gx,(∀g,(Value.slice vo ((bV f []).take k).length vc).ownBlock=some g->g=gx)/\(gx=w.heap.size∨B+6<=gx)/\gx<W.heap.size/\gx∉Ms/\gx≠bt/\w.heap.size<=gx:=by
   cases hob:(Value.slice vo ((bV f []).take k).length vc).ownBlock with
   |none=>exact⟨w.heap.size,(fun g hg=>by cases hg),.inl rfl,hw.2,hw.1,by omega,by omega⟩
   |some g=>
    have h1:=bD hv2 g hob
    have h2:=hv3 g hob
    exact⟨g,(fun g' hg=>by cases hg;rfl),.inr h1.1,h1.2,h2.1,fun e=>Z8 (by rw[hob,e]),by omega⟩
  have hkl:((bV f []).take k).length=k:=by rw[gU];omega
  rw[hkl] at hv1 hv2 hgx c2 hv3
  have aeq:k<=2500:=by have:=lZ oW.o [];omega
  have HF:=ae hF
  have HP:=ae hP
  have HV:=ae (ag hv1 (ag hv2 hv3))
  have HX:=ae (ag hx (ag hys hxl))
  have HK:=ae (ag hkeep (ag hrec hD))
  have HG:=ae hgx
  have HBT:=ae G8
  clear hF hP hv1 hv2 hv3 hx hys hxl hkeep hrec hD hgx hbt G8 hbv Z8 hw
  have q1:gx≠B:=by omega
  have q2:gx≠B+1:=by omega
  have q1':B≠gx:=by omega
  have q2':B+1≠gx:=by omega
  have q3':bt≠gx:=by omega
  gi_wp2_with fail
  refine dP 8 [gx] (some 7) [(6,Spec.slice W.heap.size #[iv y0,iv y1,iv y2,iv y3,iv y4,iv y5,iv y6] 157 1),(7,⟨fun _ v=> ∃o c,v= .slice o (k+1) c,fun _ v Wx=>Wx.ownsRow (B+6) 157 7 v (k+1) (qP ((bV f []).take (k+1)))/\(∀g,v.ownBlock=some g->g=gx∨W.heap.size<=g)⟩)] (by kernel_rfl) (by kernel_rfl) (by kernel_rfl) ?_
  simp only[zt]
  repeat ((first|refine zn ?_|refine zk ?_);simp only[zp])
  refine dY W.heap.size _ _ 1 (by rfl) (ai _) (by rfl) (by simpa using hgx2) (by simp) (fun W hW=>by go_simp;try rfl) (fun b6=>?_)
  simp only[zp]
  refine bG _ (by rfl) (by rfl) (by exact⟨.slice none (k+1) 0,none,0,rfl⟩) (fun W6 hE hF=>?_) (fun v Wa Wb ho hE=>?_) (fun v hv=>?_)
  ·have hE':Ext [] W W6:=hE
   obtain⟨b',hb',hge,hcc⟩:=hF _ (bF _) (by kernel_rfl)
   cases hb'
   have hown6:=aC (Ms:=[]) HV.o.2.1 hE' (by simp)
   have hsrc:aN 7 W6 (.slice (some ⟨b6,0,none⟩) 1 1) 1 (ah (qR x)):=by
    rw[HX.o.2.1]
    exact aN.dB 7 1 hcc rfl (by decide)
   refine Does.mono (dM ajt (by rfl) (by rfl) hown6 (by rfl) hsrc (jL _) (by omega) (by omega) (by have:=hE'.size;omega)) ?_
   rintro v' W7 ⟨ho,hgr,hcase⟩
   refine⟨aW ho,⟨?_,fun g hg=>?_⟩,⟨hgr.os,hgr.tape,hgr.output,hgr.size,fun b hb hn=>hgr.block b hb (fun e=>hn (by rw[HG.o b e.symm];simp))⟩⟩
   ·have hl:(bV f []).take (k+1)=(bV f []).take k++[x]:=by
     rw[qY,HX.o.1];rfl
    rw[hl]
    unfold qP
    rw[uZ]
    simpa [qP] using ho
   ·rcases hcase with h1|h1
    ·exact .inl (HG.o g (by rw[<-h1,hg]))
    ·rw[hg] at h1;injection h1 with h1;exact .inr (by have:=hE'.size;omega)
  ·exact⟨aC (Ms:=[]) ho.1 hE (by simp),ho.2⟩
  obtain⟨o7,c7,rfl⟩:=hv
  simp only[zp]
  intro W8 hE hF
  have hE':Ext [gx] W W8:=hE
  obtain⟨qE,Ak⟩:=hF _ (bF _)
  have aeb:W8.heap[B]? =some (.cells (Fp f (.slice o f.ax.length c) (.slice vo k vc)) 154 (0,0)):=(hE'.block _ l2 (by simpa using q1')).trans HV.o.1
  obtain⟨c8,f8,l8⟩:=af aeb
  have ja:=ae hE'
  have HO8:=ae (ag qE (ag Ak aeb))
  clear hE hF hE' qE Ak c1 f1 l1 c2 f2 c3 f3 l3 aeb
  gi_wp2_with fail
  have akm:k+1=((bV f []).take (k+1)).length:=by rw[gU];omega
  obtain⟨v',hv'⟩: ∃v',Value.slice o7 (k+1) c7=v':=⟨_,rfl⟩
  rw[hv'] at HO8⊢
  have Sz:(W8.setCell ⟨B,5,none⟩ v').heap.size=W8.heap.size:=by simp[World.setCell]
  have hs8:=ja.o.size
  have hks: ∀b,b<W.heap.size->b≠gx->b≠B->(W8.setCell ⟨B,5,none⟩ v').heap[b]? =W.heap[b]? :=fun b hb h1 h2=>
   (dH _ _ _ _ h2).trans (ja.o.block b hb (by simpa using h1))
  have hap: ∀b∈Os,b∉Ms/\b<W.heap.size:=HF.o.apart
  have hin: ∀b,B<=b->b<B+6->b∈Os:=fun b h1 h2=>(Ey b).2 (by omega)
  have hFB:IB w Os Ms (W8.setCell ⟨B,5,none⟩ v'):=HF.o.own (HF.o.ext.trans ⟨ja.o.os,ja.o.tape,ja.o.output,by rw[Sz];exact hs8,fun b hb=>(dH _ _ _ _ (by show b≠B;omega)).trans (ja.o.block b (by have:=HF.o.ext.size;omega) (by simp;omega))⟩) (by rw[Sz];exact hs8)
  refine⟨⟨?_,?_,fun m hm h0 hml=>?_,by rw[Sz];omega⟩,hFB,⟨v',aI HO8.o.2.2 _,akm▸dn HO8.o.1 fun g hg=>dH _ _ _ _ (by have:=(bD HO8.o.1 g hg).1;show g≠B;omega),fun g hg=>⟨fun hm=>?_,by rw[Sz];exact(bD HO8.o.1 g hg).2⟩⟩,?_,?_,?_⟩
  ·exact(hks _ (hap _ (hin (w4.heap.size+1) (by omega) (by omega))).2 (by omega) (by omega)).trans HK.o.2.1
  ·exact(hks _ (hap _ (hin w4.heap.size (by omega) (by omega))).2 (by omega) (by omega)).trans HK.o.2.2
  ·exact(hks m (HF.o.bnd m hm) (fun e=>BA (e▸hm)) (fun e=>(hap B (hin B (by omega) (by omega))).1 (e▸hm))).trans (HK.o.1 m hm h0 hml)
  ·rcases HO8.o.2.1 g hg with h1|h1
   ·exact BA (h1▸hm)
   ·have:=HF.o.bnd g hm;omega
  ·exact(hks _ (hap _ (hin (B+1) (by omega) (by omega))).2 (by omega) (by omega)).trans HP.o.ptr
  ·exact(hks _ (hap _ (hin (B+2) (by omega) (by omega))).2 (by omega) (by omega)).trans HP.o.b2
  ·exact(hks _ (hap _ (hin (B+3) (by omega) (by omega))).2 (by omega) (by omega)).trans HP.o.b3
 case hdone=>
  rintro Ms W ⟨hF,hP⟩ hD hlt
  rw[List.take_length] at hP
  obtain⟨v,hv1,hv2,hv3⟩:=hP.work
  obtain⟨vo,vc,rfl⟩:=aW hv2
  obtain⟨c1,f1,l1⟩:=af hP.ptr
  obtain⟨c2,f2,l2⟩:=af hv1
  have KO:=ae hF
  have HV:=ae (ag hv1 hv2)
  have HL:=ae (lZ oW.o [])
  clear hF hP hv1 hv2 hv3
  by_cases hn:(bV f []).length=0
  ·have hn':((((bV f []).length:Nat):Int)==0)=true:=by simpa using hn
   have ahN:fM f true=11:=by rw[HE.o,aF (by simpa using hn)]
   have abd:=ae ahN
   clear ahN hn
   gi_wp2_with fail
   refine⟨by simp,.inl ⟨_,_,rfl,run_takeDeferred hD,?_⟩⟩
   exact⟨.tuple #[.pointer none,.int .i64 11],by simp[results,Tryz.results66,go_sem],(KO.o.put (Obj.deferred none) (by omega)).ext,.inl ⟨by rw[abd.o];simp,by rw[abd.o]⟩⟩
  ·have hn':((((bV f []).length:Nat):Int)==0)=false:=by simpa using hn
   have hE0:fM f true=0:=by rw[HE.o,ak (by simpa using hn)]
   have HE0:=ae hE0
   clear hE0 hn
   gi_wp2_with fail
   refine⟨by simp,.inl ⟨_,_,rfl,run_takeDeferred hD,?_⟩⟩
   refine⟨.tuple #[.pointer (some ⟨B,0,none⟩),.int .i64 0],by simp[results,Tryz.results66,go_sem],(KO.o.put (Obj.deferred none) (by omega)).ext,.inr ⟨HE0.o,B,.slice vo (bV f []).length vc,rfl,by omega,?_,HT'.o _ (KO.o.put (Obj.deferred none) (by omega)).ext,?_⟩⟩
   ·exact(World.putObj_heap_other (by omega)).trans HV.o.1
   ·exact aN.dU (dn HV.o.2 fun g hg=>World.putObj_heap_other (by have:=(bD HV.o.2 g hg).1;omega))
 case hstop=>rintro cd Ms W h;exact h.elim
end Go.Proofs.YthllkbbbapgelaaGreatDoor
namespace Go.Proofs.YthllkbbbapgelaaGreatDoor
open Go.RowKit Go.RG Go.SL Go.Shelf jy Go.TB
theorem KP (a b:Int) (g c:Nat) (w:World) (h0:w.cell? ⟨g,0,none⟩=some (iv a)) (h1:w.cell? ⟨g,1,none⟩=some (iv b)):
 Calls Tryz.prog 115 #[.slice (some ⟨g,0,none⟩) 2 c] w (PV (iv (min a b)) w):=by
 have H:=ae (Bg a b g c w h0 h1)
 go_enter Tryz.func115,Tryz.ntmps115
 go_wp2_with fail
 refine H.o.mono ?_
 rintro e w' ⟨rfl,hb⟩
 go_wp2_with fail
 go_returns
 exact⟨by simp,hb⟩
theorem QH (r:dR) (n:Int) (w:World):Calls Tryz.prog 69 #[rv r,iv n] w (PV (rv (wid r n)) w):=by
 go_enter Tryz.func69,Tryz.ntmps69
 go_wp2_with fail
 refine zg 10 [] none [(3,Spec.slice (w.heap.size+2) #[iv r.1,iv n] 3 2),(4,Spec.val (iv (min r.1 n)))] ?_
 simp only[zt]
 repeat (refine zd ?_;simp only[zp])
 refine dY (w.heap.size+2) _ _ _ (by rfl) (by simp) (by rfl) (by simp) (by simp) (fun W hW=>by go_simp;try rfl) (fun b=>?_)
 simp only[zp]
 refine eF _ (by rfl) (by rfl) 115 _ (fun W hW=>by go_simp;try rfl) (fun W hE hF=>?_) ?_
 ·obtain⟨c,hcb,hB,hc⟩:=hF _ (bF _) (by kernel_rfl)
  cases hcb
  exact KP r.1 n b 2 W (by simp[World.cell?,hc]) (by simp[World.cell?,hc])
 simp only[zp]
 repeat (refine zd ?_;simp only[zp])
 intro W hE hF
 obtain⟨hc,hf⟩:=bK hE.below
 have hzE:=hE.size
 (try simp only[bu] at hzE)
 go_wp2
 all_goals
  (try simp only[Exit.inBlock,Exit.then])
  refine bodyPost_ret (v:=rv (min r.1 n,max r.2 n)) (by simp[results,Tryz.results69,go_sem,hc];try omega) rfl ?_
  exact⟨rfl,ze⟩
theorem Qg {w:World} {o:Option Addr} {n c:Nat} {ls:List (List Int)} (h:aN 7 w (.slice o n c) ls.length (qP ls)) (h7: ∀x∈ls,x.length<=7) {k:Nat} (hk:k<ls.length):
 ∃b off y0 y1 y2 y3 y4 y5 y6,o=some ⟨b,off,none⟩/\b<w.heap.size/\qR ls[k]=[y0,y1,y2,y3,y4,y5,y6]/\w.cell? ⟨b,off+k*7,none⟩=some (iv y0)/\w.cell? ⟨b,off+k*7+1,none⟩=some (iv y1)/\
  w.cell? ⟨b,off+k*7+2,none⟩=some (iv y2)/\w.cell? ⟨b,off+k*7+3,none⟩=some (iv y3)/\w.cell? ⟨b,off+k*7+4,none⟩=some (iv y4)/\w.cell? ⟨b,off+k*7+5,none⟩=some (iv y5)/\w.cell? ⟨b,off+k*7+6,none⟩=some (iv y6):=by
 obtain⟨hl,o',c',hv,h1,h2,h3,h4⟩:=h
 cases hv
 obtain⟨y0,y1,y2,y3,y4,y5,y6,hys⟩:=sU (vN (h7 _ (dh hk)))
 cases o with
 |none=>have:=h3 rfl;omega
 |some a=>
  obtain⟨b,off,sp⟩:=a
  obtain⟨hs,hc⟩:=h4 _ rfl
  simp only at hs hc
  subst hs
  have g: ∀j (hj:j<7),(qP ls)[k*7+j]? =[iv y0,iv y1,iv y2,iv y3,iv y4,iv y5,iv y6][j]? :=fun j hj=>by
   unfold qP
   have: ∀(ls:List (List Int)) (k:Nat) (hk:k<ls.length),(∀x∈ls,x.length<=7)->(ls.flatMap fun x=>ah (qR x))[k*7+j]? =(ah (qR ls[k]))[j]? :=by
    intro ls
    induction ls with
    |nil=>intro k hk;simp at hk
    |cons x ls ih=>
     intro k hk h7
     have hx:(ah (qR x)).length=7:=by simp[ah,vN (h7 x (by simp))]
     rw[List.flatMap_cons]
     cases k with
     |zero=>simp only[Nat.zero_mul,Nat.zero_add,List.getElem_cons_zero];rw[ve (by omega)]
     |succ k=>
      rw[oG (by omega),hx,show(k+1)*7+j-7=k*7+j from by omega]
      simpa using ih k (by simpa using hk) (fun y hy=>h7 y (by simp[hy]))
   rw[this ls k hk h7,hys]
   rfl
  have r0:=hc (k*7+0) (iv y0) (by rw[g 0 (by omega)];rfl)
  have r1:=hc (k*7+1) (iv y1) (by rw[g 1 (by omega)];rfl)
  have r2:=hc (k*7+2) (iv y2) (by rw[g 2 (by omega)];rfl)
  have r3:=hc (k*7+3) (iv y3) (by rw[g 3 (by omega)];rfl)
  have r4:=hc (k*7+4) (iv y4) (by rw[g 4 (by omega)];rfl)
  have r5:=hc (k*7+5) (iv y5) (by rw[g 5 (by omega)];rfl)
  have r6:=hc (k*7+6) (iv y6) (by rw[g 6 (by omega)];rfl)
  rw[Nat.add_zero] at r0
  rw[<-Nat.add_assoc] at r1 r2 r3 r4 r5 r6
  exact⟨b,off,y0,y1,y2,y3,y4,y5,y6,rfl,dI w _ r0,hys,r0,r1,r2,r3,r4,r5,r6⟩
theorem Xi (caps:Array Value) (hc:caps= #[]) (w:World):Calls Tryz.prog 67 caps w (PV (.bool true) w):=by
 subst hc
 go_enter Tryz.func67,Tryz.ntmps67
 go_wp2
 go_returns
 exact⟨by simp,aH _ _⟩
def xR (f:bU) (ls:List (List Int)) (i:Int) (k:Nat):dR:=(ls.take k).foldl (fun r a=>wid r (mM f a i)) (mM f (ls.getD 0 []) i,mM f (ls.getD 0 []) i)
theorem JF {f:bU} {ls:List (List Int)} {i:Int} {k:Nat} (hk:k<ls.length):xR f ls i (k+1)=wid (xR f ls i k) (mM f ls[k] i):=by
 unfold xR
 rw[iC hk,List.foldl_append]
 rfl
theorem BK {f:bU} (hS:ru f) (a:List Int) (i:Int):0<=mM f a i/\mM f a i<=7:=by
 unfold mM Hu
 have:=MI a i (0:Int).toNat (f.rows-1+1-0).toNat
 have:=hS.qH
 have:=hS.zM
 omega
theorem Ld {f:bU} (hS:ru f) (ls:List (List Int)) (i:Int): ∀k,k<=ls.length->(0<=(xR f ls i k).1/\(xR f ls i k).1<=7)/\(0<=(xR f ls i k).2/\(xR f ls i k).2<=7):=by
 intro k
 induction k with
 |zero=>intro _;have:=BK hS (ls.getD 0 []) i;simp only[xR,List.take_zero,List.foldl_nil];omega
 |succ k ih=>
  intro hk
  rw[JF (by omega)]
  have:=ih (by omega)
  have:=BK hS ls[k] i
  unfold wid
  simp only
  omega
def BJ (f:bU):List dR:=(List.range f.aK.toNat).map fun(i:Nat)=>xR f (bV f []) (i:Int) (bV f []).length
def abh (f:bU) (w:World) (e:Ending) (w':World):Prop:=
 Below w.heap.size w w'/\((fM f true≠0/\e= .returned (.tuple #[.slice none 0 0,iv (fM f true)]))∨(fM f true=0/\ ∃v,e= .returned (.tuple #[v,iv 0])/\bT w' v (BJ f)))
theorem Kv (f:bU) (tv:Value) (x:List Int) (y0 y1 y2 y3 y4 y5 y6:Int) (hys:qR x=[y0,y1,y2,y3,y4,y5,y6]) (who:Int) (hS:ru f) (W:World):
 Calls Tryz.prog 68 #[fv f tv,.agg #[iv y0,iv y1,iv y2,iv y3,iv y4,iv y5,iv y6],iv who] W (PV (iv (mM f x who)) W):=by
 have:=O9 f tv (qR x) (by rw[hys];rfl) who W hS.zM hS.qH
 rw[aay,hys] at this
 exact this
theorem abB:iQ Tryz.prog 118 42 (rv (0,0)) 2 16:=⟨Tryz.underlying118,by kernel_rfl,rfl,by omega⟩
theorem sD {f:bU} {b:Bool} (h:fM f b=0):ru f/\0<(bV f []).length/\b=true:=by
 unfold fM at h
 split at h
 ·omega
 ·rename_i h1
  split at h
  ·omega
  ·rename_i h2
   split at h
   ·omega
   ·rename_i h3
    refine⟨iH (by omega),?_,by simpa using h2⟩
    cases hl:bV f [] with
    |nil=>rw[hl] at h3;simp at h3
    |cons x l=>simp
theorem CO (f:bU) (tv:Value) (w:World) (ht:dW w tv f.ax):Calls Tryz.prog 40 #[fv f tv] w (abh f w):=by
 obtain⟨o,c,rfl⟩:=ht.open
 have HA:=ae (QK f (.slice o f.ax.length c) 67 #[] true (w.alloc (.cells (wS f (.slice o f.ax.length c)) 45)) (ht.alloc _) (enters_of Tryz.func67 (by kernel_rfl) rfl) (fun W _=>Xi #[] rfl W))
 clear ht
 go_enter Tryz.func40,Tryz.ntmps40
 go_wp2_with fail
 refine HA.o.mono ?_
 rintro e w1 ⟨hb,⟨hne,rfl⟩|⟨h0,wb,v,rfl,hwb,hwk⟩⟩
 ·have HB:=ae (show Below w.heap.size w w1 from zl)
  obtain⟨q,hq⟩: ∃q,fM f true=q:=⟨_,rfl⟩
  rw[hq] at hne⊢
  have HN:=ae (ag hq hne)
  have hneb:(q==0)=false:=by simpa using hne
  clear hb hne hq
  go_wp2_with fail
  go_returns
  exact⟨HB.o,.inl ⟨by rw[HN.o.1];exact HN.o.2,by rw[HN.o.1];simp⟩⟩
 have HB:=ae (show Below w.heap.size w w1 from zl)
 clear hb
 obtain⟨hS,hpos,_⟩:=sD h0
 have adl: ∀x∈bV f [],x.length<=7:=fun x hx=>by have:=oJ hx;have:=hS.qH;omega
 have hcnt:=lZ hS []
 obtain⟨vo,vc,rfl⟩:=hwk.truth.open
 have HS:=ae hS
 have FO:=ae hwk
 obtain⟨dl,aeu⟩: ∃dl,BJ f=dl:=⟨_,rfl⟩
 have HDE:=ae aeu
 have HDL:Hid (dl=(List.range f.aK.toNat).map fun(i:Nat)=>xR f (bV f []) (i:Int) (bV f []).length):=ae (by rw[<-aeu];rfl)
 clear aeu
 have hw3:=hS.xm
 have hw0:=hS.zK
 have H0:=ae h0
 generalize bV f []=ls at*
 obtain⟨n,hn⟩: ∃n:Nat,f.aK=n:=⟨f.aK.toNat,by omega⟩
 have HN:=ae hn
 obtain⟨c1,f1,l1⟩:=af hwk.cells
 have hn3:n<=3:=by omega
 rw[hn,Int.toNat_natCast] at HDL
 clear hwk hS h0 hn
 go_wp2_with fail
 rw[HN.o]
 have HL:=ae (ag hpos (ag adl hcnt))
 clear hpos adl hcnt hw3 hw0
 go_loopw [6,25] (fun ov u wr=> ∃i:Nat,i<=n/\u= .int .i64 i/\(∃oo oc,ov= .slice oo i oc/\wr.ownsRow w1.heap.size 42 2 (.slice oo i oc) i (aG (dl.take i)))/\Below w1.heap.size w1 wr) (fun _ u _=>n-(intOf u).toNat)
 case atStart=>exact⟨0,bQ _,rfl,⟨none,0,rfl,⟨rfl,.inl ⟨rfl,rfl⟩⟩⟩,aH _ _⟩
 case round=>
  obtain⟨i,hi,rfl,⟨oo,oc,rfl,how⟩,hB⟩:=hrel
  by_cases hlt:i<n
  ·have hwr:=FO.o.below hB (ai _)
   obtain⟨d1,g1,m1⟩:=af hwr.cells
   obtain⟨b,off,y0,y1,y2,y3,y4,y5,y6,hvv,hb,hys,r0,r1,r2,r3,r4,r5,r6⟩:=Qg hwr.truth HL.o.2.1 HL.o.1
   subst hvv
   have hD:=Kv f (.slice o f.ax.length c) _ y0 y1 y2 y3 y4 y5 y6 hys (i:Int) HS.o
   have hr0:xR f ls (i:Int) 0=(mM f (ls[0]'HL.o.1) i,mM f (ls[0]'HL.o.1) i):=by
    unfold xR
    rw[show ls.getD 0 []=ls[0]'HL.o.1 from by simp[List.getD,HL.o.1]]
    rfl
   have hdb:=BK HS.o (ls[0]'HL.o.1) (i:Int)
   generalize mM f (ls[0]'HL.o.1) (i:Int)=d at*
   have HD:=ae hD
   have HR0:=ae hr0
   have HB':=ae hB
   have HOW:=ae how
   clear hys hD hr0 hB how
   simp only[Nat.zero_mul,Nat.add_zero] at r0 r1 r2 r3 r4 r5 r6
   have hpos0:0<ls.length:=HL.o.1
   have aox:ls.length<=2500:=HL.o.2.2
   go_upto_region 8 with(fail)
   refine zg 12 [] none [(11,Spec.val (iv d))] ?_
   simp only[zt]
   repeat ((first|refine zn ?_|refine zk ?_);simp only[zp])
   refine zw 68 (h:=fun W hE hF=>by exact HD.o W) (t:=?_)
   simp only[zp]
   intro W hE hF
   obtain⟨hc,hf⟩:=bK hE.below
   have hzE:=hE.size
   (try simp only[bu] at hzE)
   have XZ:=ae (show Below w1.heap.size w1 W from aY HB'.o hE.below)
   have hoW:=aC (Ms:=[]) HOW.o hE (by simp)
   have hwW:=FO.o.below XZ.o (ai _)
   have afi:=ae hoW
   clear hE hF hc hf r0 r1 r2 r3 r4 r5 r6 hb d1 g1 m1 hoW hzE
   obtain⟨d1,g1,m1⟩:=af hwW.cells
   have hsW:=XZ.o.size
   go_upto_region 10 with(fail)
   refine dN fun W9 Md=>?_
   have hB9:Below W.heap.size W W9:=by rw[Md];exact zl
   have hk9:W9.heap[W.heap.size]? =some (.cells #[iv d,iv d] 42 (0,0)):=by rw[Md];exact ay _ _
   have wP:=aY XZ.o hB9
   have UN:=aC (Ms:=[]) afi.o (Ext.aA hB9) (by simp)
   have I8: ∀g,(Value.slice oo i oc).ownBlock=some g->g≠W.heap.size:=fun g hg=>by have:=(bD afi.o g hg).2;omega
   have hw9:=FO.o.below wP (ai _)
   clear Md d1 g1 m1 hwW
   obtain⟨d1,g1,m1⟩:=af hw9.cells
   have HG9:=ae I8
   have HH9:=ae (ag wP (ag hk9 (ag UN hw9)))
   have hbW:w1.heap.size<=W.heap.size:=hsW
   obtain⟨b9,aey⟩: ∃b9,W.heap.size=b9:=⟨_,rfl⟩
   rw[aey] at HG9 HH9 hbW
   rw[aey]
   clear I8 wP hk9 UN hw9 hB9 hsW XZ afi aey
   go_wp2_with fail
   go_loopw [48] (fun u wq=> ∃k:Nat,k<=ls.length/\u= .int .i64 k/\wq.heap[b9]? =some (.cells #[iv (xR f ls i k).1,iv (xR f ls i k).2] 42 (0,0))/\wq.ownsRow w1.heap.size 42 2 (.slice oo i oc) i (aG (dl.take i))/\Below w1.heap.size w1 wq) (fun u _=>ls.length-(intOf u).toNat)
   case atStart=>exact⟨0,bQ _,rfl,by rw[HR0.o];exact HH9.o.2.1,HH9.o.2.2.1,HH9.o.1⟩
   case round=>
    obtain⟨k,hk,rfl,hcell,how,hB⟩:=hrel
    by_cases hlk:k<ls.length
    ·have hwr:=FO.o.below hB (ai _)
     obtain⟨q1,q2,q3⟩:=af hwr.cells
     obtain⟨e1,e2,e3⟩:=af hcell
     obtain⟨b',off',z0,z1,z2,z3,z4,z5,z6,hvv,hb',hzs,s0,s1,s2,s3,s4,s5,s6⟩:=Qg hwr.truth HL.o.2.1 hlk
     cases hvv
     have hD2:=Kv f (.slice o f.ax.length c) _ z0 z1 z2 z3 z4 z5 z6 hzs (i:Int) HS.o
     have hsu:=JF (f:=f) (i:=(i:Int)) hlk
     have aky:=BK HS.o ls[k] (i:Int)
     have hrb:=Ld HS.o ls (i:Int) k hk
     generalize mM f ls[k] (i:Int)=d2 at*
     generalize hrk:xR f ls (i:Int) k=r at*
     have HD2:=ae hD2
     have xw:=ae hsu
     have HQ:=ae (ag hcell (ag how hB))
     clear hzs hD2 hsu hcell how hB hwr d1 g1 m1
     have agT:(k:Int)<ls.length:=by omega
     go_upto_region 13 with(fail)
     refine dN fun W5 yx=>?_
     have vV:Below wr.heap.size wr W5:=by rw[yx];exact zl
     have hk5:W5.heap[wr.heap.size]? =some (.cells #[iv z0,iv z1,iv z2,iv z3,iv z4,iv z5,iv z6] 157 (0,0)):=by rw[yx];exact ay _ _
     have hc5:=(vV.block _ e3).trans HQ.o.1
     have hw5:=FO.o.below (aY HQ.o.2.2 vV) (ai _)
     have HBB:=ae (ag (aY HQ.o.2.2 vV) (ag (aC (Ms:=[]) HQ.o.2.1 (Ext.aA vV) (by simp)) hc5))
     clear yx vV q1 q2 q3 e1 e2 s0 s1 s2 s3 s4 s5 s6 hb'
     obtain⟨q1,q2,q3⟩:=af hw5.cells
     obtain⟨e1,e2,e4⟩:=af hc5
     obtain⟨p1,p2,p3⟩:=af hk5
     clear hw5 hc5 hk5
     refine zg 9 [] none [(7,Spec.val (iv d2)),(8,Spec.val (rv (wid r d2)))] ?_
     simp only[zt]
     repeat ((first|refine zn ?_|refine zk ?_);simp only[zp])
     refine zw 68 (h:=fun W hE hF=>by exact HD2.o W) (t:=?_)
     simp only[zp]
     refine zw 69 (h:=fun W hE hF=>by exact QH r d2 W) (t:=?_)
     simp only[zp]
     intro W hE hF
     obtain⟨hc,hf⟩:=bK hE.below
     have hzE:=hE.size
     (try simp only[bu] at hzE)
     have HE:=ae hE
     clear hF hzE
     go_wp2_with fail
     go_roundw
     case rel=>
      refine⟨k+1,by omega,by go_num,?_,?_,?_⟩
      ·rw[xw.o]
       exact aI (aI ((HE.o.block _ e4 (by simp)).trans HBB.o.2.2) _) _
      ·have h1:=aC (Ms:=[]) HBB.o.2.1 HE.o (by simp)
       have h2:=dn (w':=W.setCell ⟨b9,0,none⟩ (iv (wid r d2).1)) h1 fun g hg=>dH _ _ _ _ (HG9.o g hg)
       exact dn h2 fun g hg=>dH _ _ _ _ (HG9.o g hg)
      ·exact iF (iF (aY HBB.o.1 HE.o.below) hbW _) hbW _
     case measure=>simp[intOf];omega
    ·have hkl:k=ls.length:=by omega
     subst hkl
     have hdl:dl.take (i+1)=dl.take i++[xR f ls i ls.length]:=by
      rw[qY]
      congr 1
      rw[HDL.o]
      simp[hlt]
     have alN:=ae hdl
     have hrb:=Ld HS.o ls (i:Int) _ (ai _)
     generalize xR f ls (i:Int) ls.length=r at*
     obtain⟨e1,e2,e3⟩:=af hcell
     have HQ:=ae (ag how hB)
     clear hcell how hB hdl d1 g1 m1
     go_upto_region 15 with(fail)
     go_wp2_with (at_builtin;refine fV rfl _ _ abB rfl w1.heap.size (.slice oo i oc) i (aG (dl.take i)) rfl ?_ (.slice (some ⟨wr.heap.size,0,none⟩) 1 1) 1 [iv r.1,iv r.2] rfl ?_ (by simp[Value.oneCell']) (by omega) (by omega) (by have:=HQ.o.2.size;simp;omega) ?_)
     ·exact aC (Ms:=[]) HQ.o.1 (Ext.aA ((aH _ _).alloc (ai _) _)) (by simp)
     ·exact aN.dB 2 1 (ay _ _) rfl (by decide)
     ·intro v' W7 hown hgr
      obtain⟨o7,c7,rfl⟩:=aW hown
      have HO7:=ae hown
      have HG7:=ae hgr
      clear hown hgr
      go_wp2_with fail
      go_roundw
      case rel=>
       refine⟨i+1,by omega,by go_num,⟨o7,c7,rfl,?_⟩,?_⟩
       ·rw[alN.o,pF]
        exact HO7.o
       ·refine Below.grown (aj HQ.o.2 _) HG7.o (by have:=HQ.o.2.size;simp;omega) (fun k e=>(bD HQ.o.1 k e).1)
      case measure=>simp[intOf];omega
  ·have hin:i=n:=by omega
   subst hin
   have HOW:=ae (ag how hB)
   clear how hB
   go_wp2_with fail
   go_returns
   refine⟨aY HB.o HOW.o.2,.inr ⟨H0.o,_,by simp;rfl,?_⟩⟩
   have h1:=aN.dU HOW.o.1
   have hdl:dl.length=i:=by rw[HDL.o];simp
   rw[kF (by omega)] at h1
   rw[HDE.o]
   show aN 2 _ _ dl.length (aG dl)
   rw[hdl]
   exact h1
end Go.Proofs.YthllkbbbapgelaaGreatDoor
end
section
namespace Go.Proofs.YthllkbbbapgelaaGreatDoor
open Go.RowKit Go.RG Go.SL Go.Shelf jy Go.TB
end Go.Proofs.YthllkbbbapgelaaGreatDoor
namespace Go.Proofs.YthllkbbbapgelaaGreatDoor
open Go.RowKit Go.RG Go.SL Go.Shelf jy Go.TB
def af1 (B n:Nat) (xs:List Int) (x:Int):uH:=fun i _ v W=>
 match i with
 |2=>W.ownsRow B 3 1 v n (ah xs)
 |4=> ∃b:Nat,v= .slice (some ⟨b,0,none⟩) 1 1/\W.heap[b]? =some (.cells #[iv x] 3 (0,0))
 |_=>True
structure abf (Ms:List Nat) (fO:World->Prop):Prop where
 kept: ∀a b:World,fO a->(∀m∈Ms,b.heap[m]? =a.heap[m]?)->fO b
 none: ∀W:World,fO W-> ∀m∈Ms, ∀o,W.cell? ⟨m,o,.none⟩= .none
end Go.Proofs.YthllkbbbapgelaaGreatDoor
namespace Go.Proofs.YthllkbbbapgelaaGreatDoor
open Go.RowKit Go.RG Go.SL Go.Shelf jy Go.TB
def AZ (f:bU) (n:Int):Bool:=n== -1 ||nS n 0 (f.aK-1)
def oK (f:bU) (l:List Int):Bool:=decide (jX f=0)&&(decide ((l.length:Int)=f.rows)&&(l.all (AZ f)&&jk f [] l))
theorem N8 (f:bU) (tv:Value) (n:Int) (bf:Nat) (w:World) (hf:w.heap[bf]? =some (.cells (wS f tv) 45 (0,0))) (h0: -1000<=f.aK) (h1:f.aK<=1000):
 Calls Tryz.prog 309 #[iv n,.pointer (some ⟨bf,0,none⟩)] w (PV (.bool (AZ f n)) w):=by
 have HW:=ae (Bz f tv n w h0 h1)
 obtain⟨c1,f1,l1⟩:=af hf
 clear hf
 by_cases hn:n= -1
 ·subst hn
  go_enter Tryz.func309,Tryz.ntmps309
  go_wp2
  go_returns
  exact⟨by simp[AZ],aH _ _⟩
 ·have hnb:(n== -1)=false:=by simpa using hn
  go_enter Tryz.func309,Tryz.ntmps309
  go_wp2_with fail
  refine HW.o.mono ?_
  rintro e w' ⟨rfl,hb⟩
  go_wp2_with fail
  go_returns
  exact⟨by simp[AZ,hnb],hb⟩
theorem Xm (ty:TypeId) {W:World} {g:Nat} {so:Option Addr} {c:Nat} {l:List Int} (hs:aO W (.slice so l.length c) l) (h1:1<=l.length) (h7:l.length<=7) (hg:W.heap[g]? =some (.cells #[iv 0,iv 0,iv 0,iv 0,iv 0,iv 0,iv 0] 157 (0,0))):
 ∃W',(Builtin.copy_ #[52,52] ty #[.slice (some ⟨g,0,none⟩) 7 7,.slice so l.length c]).run Tryz.prog W= .ok (iv l.length) W'/\W'.heap[g]? =some (.cells (ah (qR l)).toArray 157 (0,0))/\Ext [g] W W':=by
 obtain⟨so',c',hv,hl,hn,hc⟩:=hs.mY
 cases hv
 cases so with
 |none=>have:=(hn rfl).2;omega
 |some a=>
  have hil:(ah l).length=l.length:=by simp[ah]
  have h:=run_copy_row (P:=Tryz.prog) W 52 52 ty 3 g 0 7 7 a l.length c _ 157 (ah l) (by kernel_rfl) (by kernel_rfl) hg (by rw[hil];exact(Nat.min_eq_left h7).symm) (hc a rfl) (by rw[hil];simpa using h7) (jL l)
  rw[hil] at h
  refine⟨_,h,?_,⟨rfl,rfl,rfl,by simp,fun k _ hm=>setRow_other _ _ _ _ (by simpa using hm)⟩⟩
  rw[setRow_heap W g _ _ _ _ hg]
  congr 3
  have e:(#[iv 0,iv 0,iv 0,iv 0,iv 0,iv 0,iv 0]:Array Value).toList=List.replicate 7 (iv 0):=rfl
  rw[e,List.drop_replicate,List.take_zero,List.nil_append,Nat.zero_add]
  unfold qR ah
  rw[List.map_append,List.map_replicate]
theorem EZ (f:bU) (tv rvv:Value) (l:List Int) (w:World) (ht:dW w tv f.ax) (hr:aO w rvv l):
 Calls Tryz.prog 271 #[fv f tv,rvv] w (PV (.bool (oK f l)) w):=by
 obtain⟨o,c,rfl⟩:=ht.open
 obtain⟨ro,rc,rfl⟩:=hr.open
 have hrl:=hr.len
 have HC:=ae (Az f (.slice o f.ax.length c))
 have HT:=ae ht
 have HR:=ae hr
 clear ht hr
 obtain⟨q,hq⟩: ∃q,jX f=q:=⟨_,rfl⟩
 rw[hq] at HC
 obtain⟨r,hrr⟩: ∃r,oK f l=r:=⟨_,rfl⟩
 rw[hrr]
 have HRR:=ae hrr
 clear hrr
 by_cases hq0:q=0
 case neg=>
  have hneb:(q !=0)=true:=by simpa using hq0
  have hF:r=false:=by rw[<-HRR.o];unfold oK;rw[hq,decide_eq_false hq0];rfl
  have HF:=ae hF
  clear hF hq hq0
  go_enter Tryz.func271,Tryz.ntmps271
  go_wp2_with fail
  refine(HC.o _ (HT.o.alloc _)).mono ?_
  rintro e w' ⟨rfl,hb⟩
  go_wp2_with fail
  go_returns
  exact⟨by rw[HF.o];simp,zl⟩
 subst hq0
 have hS:=iH hq
 have hr0:=hS.zM
 have UM:=hS.qH
 have HS:=ae hS
 have hF:r=(decide ((l.length:Int)=f.rows)&&(l.all (AZ f)&&jk f [] l)):=by rw[<-HRR.o];unfold oK;rw[hq];rfl
 clear hq hS
 by_cases hlen:(l.length:Int)=f.rows
 case neg=>
  have hneb:((l.length:Int) !=f.rows)=true:=by simpa using hlen
  have hF:r=false:=by rw[hF,decide_eq_false hlen];rfl
  have HF:=ae hF
  clear hF hlen
  go_enter Tryz.func271,Tryz.ntmps271
  go_wp2_with fail
  refine(HC.o _ (HT.o.alloc _)).mono ?_
  rintro e w' ⟨rfl,hb⟩
  obtain⟨hc,hf⟩:=bK hb
  have hz0:w.heap.size<w'.heap.size:=(by have:=hb.size;(try simp only[bu] at this);omega)
  go_wp2_with fail
  go_returns
  exact⟨by rw[HF.o];simp,zl⟩
 have hneb:((l.length:Int) !=f.rows)=false:=by simpa using hlen
 have hl1:1<=l.length:=by omega
 have hl7:l.length<=7:=by omega
 rw[decide_eq_true hlen,Bool.true_and] at hF
 have HLEN:=ae hlen
 have hw0:=HS.o.zK
 have hw1:=HS.o.xm
 obtain⟨q,hq⟩: ∃q,l.all (AZ f)=q:=⟨_,rfl⟩
 rw[hq] at hF
 have HF:=ae hF
 have afy:=ae (fun(w':World) (hB:Below w.heap.size w w') (hk:w'.heap[w.heap.size]? =some (.cells (wS f (.slice o f.ax.length c)) 45 (0,0)))=>
  hq▸QL l (.slice ro l.length rc) 309 #[] #[.pointer (some ⟨w.heap.size,0,none⟩)] (AZ f) w' (HR.o.below hB (ai _)) (enters_of Tryz.func309 (by kernel_rfl) rfl)
   (fun x _ W hW=>N8 f (.slice o f.ax.length c) x w.heap.size W ((hW.block _ (aS.1 hk).1).trans hk) (by omega) (by omega)))
 clear hF hlen hq
 go_enter Tryz.func271,Tryz.ntmps271
 go_wp2_with fail
 refine(HC.o _ (HT.o.alloc _)).mono ?_
 rintro e w' ⟨rfl,hb⟩
 obtain⟨hc,hf⟩:=bK hb
 have hz0:w.heap.size<w'.heap.size:=(by have:=hb.size;(try simp only[bu] at this);omega)
 have HB:=ae (show Below w.heap.size w w' from zl)
 have HK:=ae ((hb.block _ (by simp)).trans (ay w (.cells (wS f (.slice o f.ax.length c)) 45)))
 clear hb
 go_wp2_with fail
 refine(afy.o w' HB.o HK.o).mono ?_
 rintro e w2 ⟨rfl,hb⟩
 have HB2:=ae (aY HB.o hb)
 have hk2:=(hb.block _ hz0).trans HK.o
 clear hb hc hf hz0
 cases q
 ·have hF:r=false:=by rw[HF.o];rfl
  have KO:=ae hF
  clear hF
  go_wp2_with fail
  go_returns
  exact⟨by rw[KO.o];simp,HB2.o⟩
 have hF:r=jk f [] l:=by rw[HF.o];rfl
 have KO:=ae hF
 clear hF
 go_upto_region 4 with(fail)
 refine dN fun W3 hW3=>?_
 have hB3:Below w2.heap.size w2 W3:=by rw[hW3];exact zl
 have hk3:W3.heap[w2.heap.size]? =some (.cells #[iv 0,iv 0,iv 0,iv 0,iv 0,iv 0,iv 0] 157 (0,0)):=by rw[hW3];exact ay _ _
 obtain⟨W4,hcp,hk4,O1⟩:=Xm 3 (HR.o.below (aY HB2.o hB3) (ai _)) hl1 hl7 hk3
 clear hW3
 have hs3:=hB3.size
 have hw2:w.heap.size<w2.heap.size:=(aS.1 hk2).1
 have hB4:Below w.heap.size w W4:=ik (aY HB2.o hB3) O1 (by omega)
 have aho:=(O1.block w.heap.size (by omega) (by simp;omega)).trans ((hB3.block _ hw2).trans hk2)
 obtain⟨y0,y1,y2,y3,y4,y5,y6,hys⟩:=sU (vN hl7)
 have hright:=yU f HS.o o c (qR l) (vN hl7) (.slice none 0 0) [] W4 (HT.o.below hB4 (ai _)) (qK W4)
 rw[JH, <-KO.o,hys] at hright
 have UL:Calls Tryz.prog 197 #[fv f (.slice o f.ax.length c),.agg #[iv y0,iv y1,iv y2,iv y3,iv y4,iv y5,iv y6],.slice none 0 0] W4 (PV (.bool r) W4):=hright
 rw[hys] at hk4
 have ag8:W4.heap[w2.heap.size]? =some (.cells #[iv y0,iv y1,iv y2,iv y3,iv y4,iv y5,iv y6] 157 (0,0)):=hk4
 obtain⟨c1,f1,l1⟩:=af aho
 obtain⟨c2,f2,l2⟩:=af ag8
 have HX:=ae (ag hB4 UL)
 clear hB4 hright UL hk4 ag8 aho hys O1 hB3 hk3
 go_wp2_with fail
 refine HX.o.2.mono ?_
 rintro e w5 ⟨rfl,hb⟩
 go_wp2_with fail
 go_returns
 exact⟨by simp,aY HX.o.1 hb⟩
end Go.Proofs.YthllkbbbapgelaaGreatDoor
end

/-
  Texts of this claim, packed by a program: PA PE PH.
-/
import Derived.WalkKit
import Derived.WalkLawsBesides
import Derived.WalkSpells
import Derived.Outline
import Derived.Handy
import Derived.KernelRfl
import Derived.Lib.Hide
import Derived.Deep.Cut
import Derived.Laws.CopyRow
import Derived.Test.YthbpmepjmebolaaGreatDoorPA4
set_option maxHeartbeats 8000000
set_option maxRecDepth 100000
set_option linter.all false
section
namespace Go.Proofs.YthbpmepjmebolaaGreatDoor
open Go.RowKit Go.RG Go.SL Go.Shelf jC Go.TB
abbrev Rw (t:ND):Value:= .agg #[iv t.1,iv t.2.1,iv t.2.2.1,iv t.2.2.2.1,iv t.2.2.2.2]
abbrev fv (f:cZ) (tv:Value):Value:= .agg #[iv f.rows,iv f.aO,iv f.left.1,iv f.left.2,tv]
def dS (l:List ND):List Value:=l.flatMap fun t=>[iv t.1,iv t.2.1,iv t.2.2.1,iv t.2.2.2.1,iv t.2.2.2.2]
abbrev dJ (w:World) (v:Value) (l:List ND):Prop:=aK 5 w v l.length (dS l)
theorem En (l:List ND): ∀u∈dS l,u.oneCell'=true:=by
 intro u hu
 obtain⟨r,_,h⟩:=qI.1 hu
 simp only[gK,List.not_mem_nil,or_false] at h
 rcases h with rfl|rfl|rfl|rfl|rfl <;>rfl
theorem dJ.cell {w:World} {o:Option Addr} {n c:Nat} {l:List ND} (h:aK 5 w (.slice o n c) n (dS l)) {k:Nat} (hk:k<l.length):
 ∃b off,o=some ⟨b,off,none⟩/\b<w.heap.size/\w.cell? ⟨b,off+k*5,none⟩=some (iv l[k].1)/\w.cell? ⟨b,off+k*5+1,none⟩=some (iv l[k].2.1)/\w.cell? ⟨b,off+k*5+2,none⟩=some (iv l[k].2.2.1)/\
  w.cell? ⟨b,off+k*5+3,none⟩=some (iv l[k].2.2.2.1)/\w.cell? ⟨b,off+k*5+4,none⟩=some (iv l[k].2.2.2.2):=by
 obtain⟨hl,o',c',hv,h1,h2,h3,h4⟩:=h
 cases hv
 have hlen:(dS l).length=l.length*5:=by simp[dS,List.length_flatMap,List.map_const',List.sum_replicate_nat]
 have hn:n=l.length:=by omega
 cases o with
 |none=>have:=h3 rfl;omega
 |some a=>
  obtain⟨b,off,sp⟩:=a
  obtain⟨hs,hc⟩:=h4 _ rfl
  simp only at hs hc
  subst hs
  have g: ∀j,j<5->(dS l)[k*5+j]? =[iv l[k].1,iv l[k].2.1,iv l[k].2.2.1,iv l[k].2.2.2.1,iv l[k].2.2.2.2][j]? :=fun j hj=>by
   unfold dS;rw[jE _ 5 (fun _=>rfl) l k j hk hj]
  have h0:=hc (k*5+0) (iv l[k].1) (by rw[g 0 (by omega)];rfl)
  have h1:=hc (k*5+1) (iv l[k].2.1) (by rw[g 1 (by omega)];rfl)
  have h2:=hc (k*5+2) (iv l[k].2.2.1) (by rw[g 2 (by omega)];rfl)
  have h3:=hc (k*5+3) (iv l[k].2.2.2.1) (by rw[g 3 (by omega)];rfl)
  have h4:=hc (k*5+4) (iv l[k].2.2.2.2) (by rw[g 4 (by omega)];rfl)
  rw[Nat.add_zero] at h0
  rw[<-Nat.add_assoc] at h1 h2 h3 h4
  exact⟨b,off,rfl,dP w _ h0,h0,h1,h2,h3,h4⟩
theorem xZ (n l h:Int) (w:World):Calls Tryz.prog 266 #[iv n,iv l,iv h] w (PV (.bool (nZ n l h)) w):=by
 by_cases h1:l<=n
 all_goals
  go_enter Tryz.func266,Tryz.ntmps266
  go_wp2
  go_returns
  exact⟨by simp[nZ];omega,aG _ _⟩
theorem yg (r:dY) (n:Int) (w:World):Calls Tryz.prog 210 #[rv r,iv n] w (PV (.bool (nZ n r.1 r.2)) w):=by
 go_enter Tryz.func210,Tryz.ntmps210
 go_wp2_with (go_at_call 266;refine(xZ _ _ _ _).mono ?_;rintro e w' ⟨rfl,hb⟩)
 go_returns
 exact⟨by simp,(aG _ _).alloc (ai _) _ |>.trans (hb.mono (by simp))⟩
theorem zB (f:cZ) (tv:Value) (r:dY) (w:World):Calls Tryz.prog 117 #[fv f tv,rv r] w (PV (.bool (wP r f.rows)) w):=by
 go_enter Tryz.func117,Tryz.ntmps117
 go_wp2
 all_goals
  go_returns
  exact⟨by simp[wP];omega,by go_grown⟩
theorem Xk (f:cZ) (tv:Value) (n:Int) (w:World) (h0: -1000<=f.rows) (h1:f.rows<=1000):Calls Tryz.prog 207 #[fv f tv,iv n] w (PV (.bool (nZ n 0 (f.rows-1))) w):=by
 go_enter Tryz.func207,Tryz.ntmps207
 go_wp2_with (go_at_call 266;refine(xZ _ _ _ _).mono ?_;rintro e w' ⟨rfl,hb⟩)
 go_returns
 exact⟨by simp,(aG _ _).alloc (ai _) _ |>.trans (hb.mono (by simp))⟩
theorem BL (f:cZ) (tv:Value) (n:Int) (w:World) (h0: -1000<=f.aO) (h1:f.aO<=1000):Calls Tryz.prog 206 #[fv f tv,iv n] w (PV (.bool (nZ n 0 (f.aO-1))) w):=by
 go_enter Tryz.func206,Tryz.ntmps206
 go_wp2_with (go_at_call 266;refine(xZ _ _ _ _).mono ?_;rintro e w' ⟨rfl,hb⟩)
 go_returns
 exact⟨by simp,(aG _ _).alloc (ai _) _ |>.trans (hb.mono (by simp))⟩
theorem zo (f:cZ) (tv:Value) (t:ND) (w:World) (h0:0<=f.rows) (h1:f.rows<=1000) (h2:0<=f.aO) (h3:f.aO<=1000):
 Calls Tryz.prog 116 #[fv f tv,Rw t] w (PV (.bool (pY f t)) w):=by
 go_enter Tryz.func116,Tryz.ntmps116
 go_wp2_with (first|(go_at_call 206;refine(BL f _ _ _ (by omega) (by omega)).mono ?_;rintro e w' ⟨rfl,hb⟩;obtain⟨hc,hf⟩:=bV hb;have hz0:w.heap.size<w'.heap.size:=(by have:=hb.size;(try simp only[bI] at this);omega);have hz1:w.heap.size+1<w'.heap.size:=(by have:=hb.size;(try simp only[bI] at this);omega))|(go_at_call 207;refine(Xk f _ _ _ (by omega) (by omega)).mono ?_;rintro e w' ⟨rfl,hb⟩;obtain⟨hc,hf⟩:=bV hb;have hz0:w.heap.size<w'.heap.size:=(by have:=hb.size;(try simp only[bI] at this);omega);have hz1:w.heap.size+1<w'.heap.size:=(by have:=hb.size;(try simp only[bI] at this);omega))|(go_at_call 117;refine(zB f _ (_,_) _).mono ?_;rintro e w' ⟨rfl,hb⟩;obtain⟨hc,hf⟩:=bV hb;have hz0:w.heap.size<w'.heap.size:=(by have:=hb.size;(try simp only[bI] at this);omega);have hz1:w.heap.size+1<w'.heap.size:=(by have:=hb.size;(try simp only[bI] at this);omega)))
 all_goals
  go_returns
  exact⟨by simp[pY, *] <;>(intros;omega),zl⟩
end Go.Proofs.YthbpmepjmebolaaGreatDoor
namespace Go.Proofs.YthbpmepjmebolaaGreatDoor
open Go.RowKit Go.RG Go.SL Go.Shelf jC Go.TB
theorem aeI (l:List ND) (v:Value) (bz:Nat) (fst caps:Array Value) (p:Nat->Bool) (I:Nat->World->Prop) (w:World) (eg: ∀args w,(callFunc bz args).run Tryz.prog w= .ok (.enter bz args) w)
 (hsl: ∀k W,I k W->dJ W v l)
 (hcall: ∀k (hk:k<l.length) W,(∀j,j<k->p j=false)->I k W->Calls Tryz.prog bz (fst.push (Rw l[k])++caps) W (fun e W'=>e= .returned (.bool (p k))/\I (k+1) W')) (h0:I 0 w):
 Calls Tryz.prog 267 #[v,.func (.func bz) fst caps] w (eP l.length p I (fun k=>iv k) (iv (-1))):=by
 have hlen:=(hsl 0 w h0).len
 obtain⟨o,c,rfl⟩:=(hsl 0 w h0).open
 have HC:=ae hcall
 have HS:=ae hsl
 clear hcall hsl
 go_enter Tryz.func267,Tryz.ntmps267
 go_wp2
 go_loopw [4,5,8] (fun _ _ i wr=> ∃k:Nat,k<=l.length/\i= .int .i64 k/\(∀j,j<k->p j=false)/\I k wr) (fun _ _ i _=>l.length-(intOf i).toNat)
 case atStart=>exact⟨0,bW _,rfl,fun j hj=>by omega,h0⟩
 case round=>
  obtain⟨k,hk,rfl,hno,hI⟩:=hrel
  by_cases hlt:k<l.length
  ·obtain⟨b,off,rfl,hb,hc0,hc1,hc2,hc3,hc4⟩:=dJ.cell (HS.o k wr hI) hlt
   have hC:=HC.o k hlt wr hno hI
   have HN:=ae hno
   clear hno
   go_wp2_with fail
   refine hC.mono ?_
   rintro e W1 ⟨rfl,hI1⟩
   have HI:=ae hI1
   clear hI1 hI hC
   cases hp:p k
   ·go_wp2_with fail
    go_roundw
    case rel=>exact⟨k+1,by omega,by go_num,fun j hj=>(by by_cases e:j=k;(subst e;exact hp);exact HN.o j (by omega)),HI.o⟩
    case measure=>simp[intOf];omega
   ·go_wp2_with fail
    go_returns
    exact⟨k,by omega,HN.o,.inl ⟨hlt,hp,by simp,HI.o⟩⟩
  ·have hkl:k=l.length:=by omega
   have HN:=ae hno
   clear hno
   go_wp2_with fail
   go_returns
   exact⟨k,by omega,HN.o,.inr ⟨hkl,by simp,by subst hkl;exact hI⟩⟩
theorem aa9 (l:List ND) (v:Value) (bz:Nat) (fst caps:Array Value) (p:Nat->Bool) (I:Nat->World->Prop) (w:World) (eg: ∀args w,(callFunc bz args).run Tryz.prog w= .ok (.enter bz args) w)
 (hsl: ∀k W,I k W->dJ W v l)
 (hcall: ∀k (hk:k<l.length) W,(∀j,j<k->p j=false)->I k W->Calls Tryz.prog bz (fst.push (Rw l[k])++caps) W (fun e W'=>e= .returned (.bool (p k))/\I (k+1) W')) (h0:I 0 w):
 Calls Tryz.prog 208 #[v,.func (.func bz) fst caps] w (eP l.length p I (fun _=> .bool true) (.bool false)):=by
 have HI:=ae (aeI l v bz fst caps p I w eg hsl hcall h0)
 have hlen:=(hsl 0 w h0).len
 clear hsl hcall h0 eg
 go_enter Tryz.func208,Tryz.ntmps208
 go_wp2_with fail
 refine HI.o.mono ?_
 clear HI
 rintro e W' ⟨k,hk,hno,⟨hlt,hp,rfl,hI⟩|⟨hkl,rfl,hI⟩⟩
 ·have HN:=ae (ag hno (ag hp hI))
  clear hno hp hI
  go_wp2_with fail
  go_returns
  exact⟨k,hk,HN.o.1,.inl ⟨hlt,HN.o.2.1,by simp,HN.o.2.2⟩⟩
 ·have HN:=ae (ag hno (ag hkl hI))
  clear hno hkl hI
  go_wp2_with fail
  go_returns
  exact⟨k,hk,HN.o.1,.inr ⟨HN.o.2.1,by simp,HN.o.2.1▸HN.o.2.2⟩⟩
theorem abo (x:ND) (bx bz:Nat) (fst caps:Array Value) (b:Bool) (W:World) (R:World->Prop) (eg: ∀args w,(callFunc bz args).run Tryz.prog w= .ok (.enter bz args) w)
 (hbx:W.cell? ⟨bx,0,none⟩=some (.func (.func bz) fst caps))
 (hcall:Calls Tryz.prog bz (fst.push (Rw x)++caps) (W.alloc (.cells #[iv x.1,iv x.2.1,iv x.2.2.1,iv x.2.2.2.1,iv x.2.2.2.2] 118)) (fun e W'=>e= .returned (.bool b)/\R W')):
 Calls Tryz.prog 209 #[Rw x,.pointer (some ⟨bx,0,none⟩)] W (fun e W'=>e= .returned (.bool !b)/\R W'):=by
 have hlt:=dP W _ hbx
 have HC:=ae hcall
 clear hcall
 go_enter Tryz.func209,Tryz.ntmps209
 go_wp2_with fail
 refine HC.o.mono ?_
 rintro e W' ⟨rfl,hR⟩
 have HR:=ae hR
 clear hR
 go_wp2_with fail
 go_returns
 exact⟨by simp,HR.o⟩
theorem aeo (x:Int) (bx bz:Nat) (fst caps:Array Value) (b:Bool) (W:World) (R:World->Prop) (eg: ∀args w,(callFunc bz args).run Tryz.prog w= .ok (.enter bz args) w)
 (hbx:W.cell? ⟨bx,0,none⟩=some (.func (.func bz) fst caps))
 (hcall:Calls Tryz.prog bz (fst.push (iv x)++caps) W (fun e W'=>e= .returned (.bool b)/\R W')):
 Calls Tryz.prog 297 #[iv x,.pointer (some ⟨bx,0,none⟩)] W (fun e W'=>e= .returned (.bool !b)/\R W'):=by
 have hlt:=dP W _ hbx
 have HC:=ae hcall
 clear hcall
 go_enter Tryz.func297,Tryz.ntmps297
 go_wp2_with fail
 refine HC.o.mono ?_
 rintro e W' ⟨rfl,hR⟩
 have HR:=ae hR
 clear hR
 go_wp2_with fail
 go_returns
 exact⟨by simp,HR.o⟩
theorem allT (l:List ND) (v:Value) (bz:Nat) (fst caps:Array Value) (p:Nat->Bool) (I:Nat->World->Prop) (w:World) (eg: ∀args w,(callFunc bz args).run Tryz.prog w= .ok (.enter bz args) w)
 (hsl: ∀k W,I k W->dJ W v l) (hal: ∀k W o,I k W->I k (W.alloc o))
 (hcall: ∀k (hk:k<l.length) W,(∀j,j<k->p j=true)->I k W->Calls Tryz.prog bz (fst.push (Rw l[k])++caps) W (fun e W'=>e= .returned (.bool (p k))/\I (k+1) W'/\jr w.heap.size W W')) (h0:I 0 w):
 Calls Tryz.prog 118 #[v,.func (.func bz) fst caps] w (eP l.length (fun k=>!p k) I (fun _=> .bool false) (.bool true)):=by
 have HI:=ae (aa9 l v 209 #[] #[.pointer (some ⟨w.heap.size,0,none⟩)] (fun k=>!p k)
  (fun k W=>I k W/\W.heap[w.heap.size]? =some (.cells #[.func (.func bz) fst caps] 213 (0,0))) (w.alloc (.cells #[.func (.func bz) fst caps] 213))
  (enters_of Tryz.func209 (by kernel_rfl) rfl) (fun k W h=>hsl k W h.1)
  (fun k hk W hno h=>by
    have hlt:w.heap.size<W.heap.size:=(aV.1 h.2).1
    refine(abo l[k] w.heap.size bz fst caps (p k) W (fun W'=>I (k+1) W'/\W'.heap[w.heap.size]? =some (.cells #[.func (.func bz) fst caps] 213 (0,0))) eg (aB h.2) ?_)
    refine(hcall k hk _ (fun j hj=>by simpa using hno j hj) (by first|exact hal _ _ _ h.1|exact h.1)).mono ?_
    rintro e W' ⟨rfl,h1,h2⟩
    refine⟨rfl,h1,(h2.block _ (ai _) (by first|exact hlt|(simp;omega))).trans (by first|exact h.2|exact(aW _ _ _ hlt).trans h.2)⟩)
  ⟨hal _ _ _ h0,heap_alloc_new w _⟩)
 have hlen:=(hsl 0 w h0).len
 clear hsl hcall h0 eg hal
 go_enter Tryz.func118,Tryz.ntmps118
 go_wp2_with fail
 refine HI.o.mono ?_
 clear HI
 rintro e W' ⟨k,hk,hno,⟨hlt,hp,rfl,hI,_⟩|⟨hkl,rfl,hI,_⟩⟩
 ·have HN:=ae (ag hno (ag hp hI))
  clear hno hp hI
  go_wp2_with fail
  go_returns
  exact⟨k,hk,HN.o.1,.inl ⟨hlt,HN.o.2.1,by simp,HN.o.2.2⟩⟩
 ·have HN:=ae (ag hno (ag hkl hI))
  clear hno hkl hI
  go_wp2_with fail
  go_returns
  exact⟨k,hk,HN.o.1,.inr ⟨HN.o.2.1,by simp,HN.o.2.1▸HN.o.2.2⟩⟩
theorem agE (l:List Int) (v:Value) (bz:Nat) (fst caps:Array Value) (p:Nat->Bool) (I:Nat->World->Prop) (w:World) (eg: ∀args w,(callFunc bz args).run Tryz.prog w= .ok (.enter bz args) w)
 (hsl: ∀k W,I k W->aP W v l) (hal: ∀k W o,I k W->I k (W.alloc o))
 (hcall: ∀k (hk:k<l.length) W,(∀j,j<k->p j=true)->I k W->Calls Tryz.prog bz (fst.push (iv l[k])++caps) W (fun e W'=>e= .returned (.bool (p k))/\I (k+1) W'/\jr w.heap.size W W')) (h0:I 0 w):
 Calls Tryz.prog 275 #[v,.func (.func bz) fst caps] w (eP l.length (fun k=>!p k) I (fun _=> .bool false) (.bool true)):=by
 have HI:=ae (P8 l v 297 #[] #[.pointer (some ⟨w.heap.size,0,none⟩)] (fun k=>!p k)
  (fun k W=>I k W/\W.heap[w.heap.size]? =some (.cells #[.func (.func bz) fst caps] 167 (0,0))) (w.alloc (.cells #[.func (.func bz) fst caps] 167))
  (enters_of Tryz.func297 (by kernel_rfl) rfl) (fun k W h=>hsl k W h.1)
  (fun k hk W hno h=>by
    have hlt:w.heap.size<W.heap.size:=(aV.1 h.2).1
    refine(aeo l[k] w.heap.size bz fst caps (p k) W (fun W'=>I (k+1) W'/\W'.heap[w.heap.size]? =some (.cells #[.func (.func bz) fst caps] 167 (0,0))) eg (aB h.2) ?_)
    refine(hcall k hk _ (fun j hj=>by simpa using hno j hj) (by first|exact hal _ _ _ h.1|exact h.1)).mono ?_
    rintro e W' ⟨rfl,h1,h2⟩
    refine⟨rfl,h1,(h2.block _ (ai _) (by first|exact hlt|(simp;omega))).trans (by first|exact h.2|exact(Below.heap_alloc _ _ _ hlt).trans h.2)⟩)
  ⟨hal _ _ _ h0,heap_alloc_new w _⟩)
 have hlen:=(hsl 0 w h0).len
 clear hsl hcall h0 eg hal
 go_enter Tryz.func275,Tryz.ntmps275
 go_wp2_with fail
 refine HI.o.mono ?_
 clear HI
 rintro e W' ⟨k,hk,hno,⟨hlt,hp,rfl,hI,_⟩|⟨hkl,rfl,hI,_⟩⟩
 ·have HN:=ae (ag hno (ag hp hI))
  clear hno hp hI
  go_wp2_with fail
  go_returns
  exact⟨k,hk,HN.o.1,.inl ⟨hlt,HN.o.2.1,by simp,HN.o.2.2⟩⟩
 ·have HN:=ae (ag hno (ag hkl hI))
  clear hno hkl hI
  go_wp2_with fail
  go_returns
  exact⟨k,hk,HN.o.1,.inr ⟨HN.o.2.1,by simp,HN.o.2.1▸HN.o.2.2⟩⟩
theorem Ld (l:List ND) (v:Value) (bz:Nat) (fst caps:Array Value) (q:ND->Bool) (w:World) (hv:dJ w v l) (eg: ∀args w,(callFunc bz args).run Tryz.prog w= .ok (.enter bz args) w)
 (hcall: ∀x∈l, ∀W,Below w.heap.size w W->Calls Tryz.prog bz (fst.push (Rw x)++caps) W (PV (.bool (q x)) W)):
 Calls Tryz.prog 118 #[v,.func (.func bz) fst caps] w (PV (.bool (l.all q)) w):=by
 refine(allT l v bz fst caps (fun k=>q (l.getD k (0,0,0,(0,0)))) (fun _ W=>Below w.heap.size w W) w eg (fun k W h=>hv.below h (ai _)) (fun k W o h=>ak h o) (fun k hk W _ h=>?_) (aG _ _)).mono ?_
 ·refine(hcall l[k] (bT _) W h).mono ?_
  rintro e W' ⟨rfl,hb⟩
  exact⟨by simp[hk],aX h hb,jr.az hb⟩
 ·intro e W' hpost
  obtain⟨rfl,k,_,hI⟩:=hpost.all
  refine⟨?_,hI⟩
  rw[jL,jV]
theorem Ri (l:List Int) (v:Value) (bz:Nat) (fst caps:Array Value) (q:Int->Bool) (w:World) (hv:aP w v l) (eg: ∀args w,(callFunc bz args).run Tryz.prog w= .ok (.enter bz args) w)
 (hcall: ∀x∈l, ∀W,Below w.heap.size w W->Calls Tryz.prog bz (fst.push (iv x)++caps) W (PV (.bool (q x)) W)):
 Calls Tryz.prog 275 #[v,.func (.func bz) fst caps] w (PV (.bool (l.all q)) w):=by
 refine(agE l v bz fst caps (fun k=>q (l.getD k 0)) (fun _ W=>Below w.heap.size w W) w eg (fun k W h=>hv.below h (ai _)) (fun k W o h=>ak h o) (fun k hk W _ h=>?_) (aG _ _)).mono ?_
 ·refine(hcall l[k] (bT _) W h).mono ?_
  rintro e W' ⟨rfl,hb⟩
  exact⟨by simp[hk],aX h hb,jr.az hb⟩
 ·intro e W' hpost
  obtain⟨rfl,k,_,hI⟩:=hpost.all
  refine⟨?_,hI⟩
  rw[jL,jV]
end Go.Proofs.YthbpmepjmebolaaGreatDoor
namespace Go.Proofs.YthbpmepjmebolaaGreatDoor
open Go.RowKit Go.RG Go.SL Go.Shelf jC Go.TB
theorem aco {b:Int} (h1:1<=b) (h4:b<=4): ∀k:Nat,k<=7->1<=b^k/\b^k<=4^k:=by
 intro k
 induction k with
 |zero=>intro _;simp
 |succ k ih=>
  intro hk
  obtain⟨i1,i2⟩:=ih (by omega)
  rw[Int.pow_succ,Int.pow_succ]
  constructor
  ·have:=Int.mul_le_mul i1 h1 (by omega) (by omega);omega
  ·exact Int.mul_le_mul i2 h4 (by omega) (by omega)
theorem ZE {b:Int} (h1:1<=b) (h4:b<=4) (k:Nat) (hk:k<=7):1<=b^k/\b^k<=16384:=by
 obtain⟨a,c⟩:=aco h1 h4 k hk
 refine⟨a,Int.le_trans c ?_⟩
 have: ∀k:Nat,k<=7->(4:Int)^k<=16384:=by decide
 exact this k hk
theorem Qh (f:cZ) (o:Option Addr) (n c:Nat) (w:World) (a1:7<f.rows):Calls Tryz.prog 68 #[fv f (.slice o n c)] w (PV (iv 3) w):=by
 go_enter Tryz.func68,Tryz.ntmps68
 go_wp2
 go_returns
 exact⟨by simp,zl⟩
theorem Qg (f:cZ) (o:Option Addr) (n c:Nat) (w:World) (a1: ¬7<f.rows) (a2:3<f.aO):Calls Tryz.prog 68 #[fv f (.slice o n c)] w (PV (iv 3) w):=by
 go_enter Tryz.func68,Tryz.ntmps68
 go_wp2
 go_returns
 exact⟨by simp,zl⟩
theorem Qe (f:cZ) (o:Option Addr) (n c:Nat) (w:World) (a1: ¬7<f.rows) (a2: ¬3<f.aO) (a3:(5:Int)<n):Calls Tryz.prog 68 #[fv f (.slice o n c)] w (PV (iv 3) w):=by
 go_enter Tryz.func68,Tryz.ntmps68
 go_wp2
 go_returns
 exact⟨by simp,zl⟩
theorem Qm (f:cZ) (o:Option Addr) (n c:Nat) (w:World) (a1: ¬7<f.rows) (a2: ¬3<f.aO) (a3: ¬(5:Int)<n) (b1:f.rows<1):Calls Tryz.prog 68 #[fv f (.slice o n c)] w (PV (iv 1) w):=by
 go_enter Tryz.func68,Tryz.ntmps68
 go_wp2
 go_returns
 exact⟨by simp,zl⟩
theorem Ql (f:cZ) (o:Option Addr) (n c:Nat) (w:World) (a1: ¬7<f.rows) (a2: ¬3<f.aO) (a3: ¬(5:Int)<n) (b1: ¬f.rows<1) (b2:f.aO<1):Calls Tryz.prog 68 #[fv f (.slice o n c)] w (PV (iv 1) w):=by
 go_enter Tryz.func68,Tryz.ntmps68
 go_wp2
 go_returns
 exact⟨by simp,zl⟩
theorem Qk (f:cZ) (o:Option Addr) (n c:Nat) (w:World) (a1: ¬7<f.rows) (a2: ¬3<f.aO) (a3: ¬(5:Int)<n) (b1: ¬f.rows<1) (b2: ¬f.aO<1) (b3:wP f.left f.rows=false):
 Calls Tryz.prog 68 #[fv f (.slice o n c)] w (PV (iv 1) w):=by
 go_enter Tryz.func68,Tryz.ntmps68
 go_wp2_with fail
 refine(zB f _ (_,_) _).mono ?_
 rintro e w' ⟨rfl,hb⟩
 obtain⟨hc,hf⟩:=bV hb
 have hz0:w.heap.size<w'.heap.size:=(by have:=hb.size;(try simp only[bI] at this);omega)
 rw[show wP (f.left.1,f.left.2) f.rows=false from b3]
 go_wp2_with fail
 go_returns
 exact⟨by simp,zl⟩
theorem Qj (f:cZ) (o:Option Addr) (c:Nat) (w:World) (hx:dJ w (.slice o f.au.length c) f.au) (a1: ¬7<f.rows) (a2: ¬3<f.aO) (a3: ¬(5:Int)<f.au.length) (b1: ¬f.rows<1) (b2: ¬f.aO<1) (b3:wP f.left f.rows=true)
 (b4:f.au.all (pY f)=false):
 Calls Tryz.prog 68 #[fv f (.slice o f.au.length c)] w (PV (iv 1) w):=by
 have HX:=ae hx
 have HB4:=ae b4
 clear hx b4
 go_enter Tryz.func68,Tryz.ntmps68
 go_wp2_with fail
 refine(zB f _ (_,_) _).mono ?_
 rintro e w' ⟨rfl,hb⟩
 obtain⟨hc,hf⟩:=bV hb
 have hz0:w.heap.size<w'.heap.size:=(by have:=hb.size;(try simp only[bI] at this);omega)
 have HB:=ae (show Below w.heap.size w w' from zl)
 clear hb
 rw[show wP (f.left.1,f.left.2) f.rows=true from b3]
 go_wp2_with fail
 refine(Ld f.au (.slice o f.au.length c) 116 #[fv f (.slice o f.au.length c)] #[] (pY f) w' (HX.o.below HB.o (ai _)) (enters_of Tryz.func116 (by kernel_rfl) rfl) (fun x _ W _=>zo f _ x W (by omega) (by omega) (by omega) (by omega))).mono ?_
 rw[HB4.o]
 rintro e w2 ⟨rfl,hb⟩
 obtain⟨hc2,hf2⟩:=bV hb
 have hz2:w.heap.size<w2.heap.size:=by have:=hb.size;omega
 have HB2:=ae (aX HB.o hb)
 clear hb
 go_wp2_with fail
 go_returns
 exact⟨by simp,HB2.o⟩
theorem Qi (f:cZ) (o:Option Addr) (c:Nat) (w:World) (hx:dJ w (.slice o f.au.length c) f.au) (a1: ¬7<f.rows) (a2: ¬3<f.aO) (a3: ¬(5:Int)<f.au.length) (b1: ¬f.rows<1) (b2: ¬f.aO<1) (b3:wP f.left f.rows=true)
 (b4:f.au.all (pY f)=true) (r:Int) (hr:r=if 2500<(f.aO+1)^f.rows.toNat then 3 else 0):
 Calls Tryz.prog 68 #[fv f (.slice o f.au.length c)] w (PV (iv r) w):=by
 have HX:=ae hx
 have HB4:=ae b4
 have hbase:1<=f.aO+1/\f.aO+1<=4:=by omega
 have HP:=ae (fun(k:Nat) (hk:k<=7)=>ZE hbase.1 hbase.2 k hk)
 obtain⟨n,hn⟩: ∃n:Nat,f.rows=n:=⟨f.rows.toNat,by omega⟩
 have hn7:n<=7:=by omega
 have HR:Hid (r=if 2500<(f.aO+1)^n then 3 else 0):=ae (by rw[hr,hn];rfl)
 have HN:=ae hn
 clear hx b4 hbase hr hn
 go_enter Tryz.func68,Tryz.ntmps68
 go_wp2_with fail
 refine(zB f _ (_,_) _).mono ?_
 rintro e w' ⟨rfl,hb⟩
 obtain⟨hc,hf⟩:=bV hb
 have hz0:w.heap.size<w'.heap.size:=(by have:=hb.size;(try simp only[bI] at this);omega)
 have HB:=ae (show Below w.heap.size w w' from zl)
 clear hb
 rw[show wP (f.left.1,f.left.2) f.rows=true from b3]
 go_wp2_with fail
 refine(Ld f.au (.slice o f.au.length c) 116 #[fv f (.slice o f.au.length c)] #[] (pY f) w' (HX.o.below HB.o (ai _)) (enters_of Tryz.func116 (by kernel_rfl) rfl) (fun x _ W _=>zo f _ x W (by omega) (by omega) (by omega) (by omega))).mono ?_
 rw[HB4.o]
 rintro e w2 ⟨rfl,hb⟩
 obtain⟨hc2,hf2⟩:=bV hb
 have hz2:w.heap.size<w2.heap.size:=by have:=hb.size;omega
 have HB2:=ae (aX HB.o hb)
 clear hb
 go_wp2_with fail
 go_loop [4,47] (fun m i=> ∃k:Nat,k<=n/\i= .int .i64 k/\m= .int .i64 ((f.aO+1)^k)) (fun _ i=>n-(intOf i).toNat)
 case atStart=>exact⟨0,bW _,rfl,by simp⟩
 case round=>
  obtain⟨k,hk,rfl,rfl⟩:=hrel
  obtain⟨p1,p2⟩:=HP.o k (by omega)
  by_cases hlt:k<n
  ·have hkI:(k:Int)<f.rows:=by have:=HN.o;omega
   obtain⟨q1,q2⟩:=HP.o (k+1) (by omega)
   have HE:=ae (Int.pow_succ (f.aO+1) k)
   rw[Int.pow_succ] at q1 q2
   generalize (f.aO+1)^k=m at p1 p2 q1 q2 HE⊢
   go_wp2
   go_round
   case rel=>exact⟨k+1,by omega,by go_num,by rw[HE.o]⟩
   case measure=>simp[intOf];omega
  ·have hkn:k=n:=by omega
   subst hkn
   have hkI: ¬(k:Int)<f.rows:=by have:=HN.o;omega
   generalize (f.aO+1)^k=m at p1 p2 HR⊢
   by_cases hm:2500<m
   ·go_wp2
    go_returns
    exact⟨by rw[HR.o,aC hm];simp,HB2.o⟩
   ·go_wp2
    go_returns
    exact⟨by rw[HR.o,aj (by omega)];simp,HB2.o⟩
theorem AX (f:cZ) (tv:Value) (w:World) (hx:dJ w tv f.au):
 Calls Tryz.prog 68 #[fv f tv] w (PV (iv (kz f)) w):=by
 obtain⟨o,c,rfl⟩:=hx.open
 by_cases ha:7<f.rows∨3<f.aO∨5<f.au.length
 ·rw[show kz f=3 from by unfold kz;rw[aC ha]]
  by_cases a1:7<f.rows
  ·exact Qh f o _ c w a1
  by_cases a2:3<f.aO
  ·exact Qg f o _ c w a1 a2
  exact Qe f o _ c w a1 a2 (by omega)
 obtain⟨a1,a2,a3⟩: ¬7<f.rows/\ ¬3<f.aO/\ ¬(5:Int)<f.au.length:=by omega
 rw[show kz f=if f.rows<1∨f.aO<1∨wP f.left f.rows=false∨f.au.all (pY f)=false then 1 else if 2500<(f.aO+1)^f.rows.toNat then 3 else 0 from by
  unfold kz;rw[aj ha]]
 by_cases b1:f.rows<1
 ·rw[aC (.inl b1)]
  exact Qm f o _ c w a1 a2 a3 b1
 by_cases b2:f.aO<1
 ·rw[aC (.inr (.inl b2))]
  exact Ql f o _ c w a1 a2 a3 b1 b2
 by_cases b3:wP f.left f.rows=false
 ·rw[aC (.inr (.inr (.inl b3)))]
  exact Qk f o _ c w a1 a2 a3 b1 b2 b3
 by_cases b4:f.au.all (pY f)=false
 ·rw[aC (.inr (.inr (.inr b4)))]
  exact Qj f o c w hx a1 a2 a3 b1 b2 (by simpa using b3) b4
 exact Qi f o c w hx a1 a2 a3 b1 b2 (by simpa using b3) (by simpa using b4) _ (by rw[aj (by simp only[not_or];exact⟨b1,b2,b3,b4⟩)])
end Go.Proofs.YthbpmepjmebolaaGreatDoor
namespace Go.Proofs.YthbpmepjmebolaaGreatDoor
open Go.RowKit Go.RG Go.SL Go.Shelf jC Go.TB
theorem XO (l:List Int) (who:Int) (a k:Nat):zQ l who a (k+1)=zQ l who a k+(if l.getD (a+k) 0=who then 1 else 0):=by
 unfold zQ
 rw[List.range'_concat,List.countP_append,List.countP_singleton]
 by_cases h:l.getD (a+k) 0=who
 ·simp only[Nat.one_mul,h,beq_self_eq_true,if_true];omega
 ·simp only[Nat.one_mul,aj h,show(l.getD (a+k) 0==who)=false from by simpa using h,Bool.false_eq_true,if_false];omega
theorem Nh (l:List Int) (who:Int) (a k:Nat):0<=zQ l who a k/\zQ l who a k<=k:=by
 unfold zQ
 have:=List.countP_le_length (l:=List.range' a k) (p:=fun i=>l.getD i 0==who)
 simp only[List.length_range'] at this
 omega
theorem Je (g a n:Nat) (b:Int) (hb:b+1=(a:Int)+n) (hn:1<=n) (h7:a+n<=7) (W:World):
 (Instr.sliceAt 98 (.pointer (some ⟨g,0,none⟩)) (some (iv (a:Int))) (some (iv (b+1))) none).run Tryz.prog W= .ok (.slice (some ⟨g,a,none⟩) n (7-a)) W:=by
 have hl:Tryz.prog.arrayLen 98=7:=by kernel_rfl
 have h:=run_sliceAt_array_lh (P:=Tryz.prog) W 98 ⟨g,0,none⟩ (by kernel_rfl) .i64 .i64 (a:Int) (b+1) (by omega) (by omega) (by rw[hl];omega)
 have hs:(sizeOf (Tryz.prog.elem 98)).run Tryz.prog W= .ok 1 W:=by kernel_rfl
 rw[h,hs,hl]
 have e1:(b+1).toNat=a+n:=by omega
 have e2: ¬7=a:=by omega
 simp[slicedAt,e1,e2,Addr.add]
 omega
theorem count_any (xs:List Int) (hx:xs.length=7) (who:Int) (a n:Nat) (b:Int) (hb:b+1=(a:Int)+n) (hn:1<=n) (h7:a+n<=7) (w:World):
 Calls Tryz.prog 70 #[lY xs,iv who,iv a,iv b] w (PV (iv (zQ xs who a n)) w):=by
 have hN:=ay w (.cells (ah xs).toArray 98)
 have HX:=ae hx
 have hsl:=Je w.heap.size a n b hb hn h7
 rw[hb] at hsl
 have hb0: -1<=b:=by omega
 have hb6:b<=6:=by omega
 clear hx
 go_enter Tryz.func70,Tryz.ntmps70
 go_wp2
 have HN:=ae hN
 clear hN hsl
 go_loop [8,16] (fun m i=> ∃k:Nat,k<=n/\i= .int .i64 k/\m= .int .i64 (zQ xs who a k)) (fun _ i=>n-(intOf i).toNat)
 case atStart=>exact⟨0,bW _,rfl,by simp[zQ]⟩
 case round=>
  obtain⟨k,hk,rfl,rfl⟩:=hrel
  have hbd:=Nh xs who a k
  have hsu:=XO xs who a k
  by_cases hlt:k<n
  ·have hcell:=gJ HN.o (show a+k<xs.length by rw[HX.o];omega)
   have hg:xs.getD (a+k) 0=xs[a+k]'(by rw[HX.o];omega):=by simp[List.getD,HX.o,show a+k<7 by omega]
   rw[hg] at hsu
   have xK:=ae hsu
   clear hg hsu
   generalize xs[a+k]'(by rw[HX.o];omega)=y at*
   generalize zQ xs who a k=d at*
   by_cases hy:y=who
   ·subst hy
    go_wp2
    go_round
    case rel=>exact⟨k+1,by omega,by go_num,by rw[xK.o,aC rfl]⟩
    case measure=>simp[intOf];omega
   ·have hyb:(y==who)=false:=by simpa using hy
    have HY:=ae hy
    clear hy
    go_wp2
    go_round
    case rel=>exact⟨k+1,by omega,by go_num,by rw[xK.o,aj HY.o];simp⟩
    case measure=>simp[intOf];omega
  ·have hkn:k=n:=by omega
   subst hkn
   clear hsu
   generalize zQ xs who a k=d at*
   go_wp2
   go_returns
   exact⟨by simp,zl⟩
theorem tC {l:List Int} (h:l.length=7): ∃a b c d e f g,l=[a,b,c,d,e,f,g]:=by
 match l,h with
 |[a,b,c,d,e,f,g],_=>exact⟨a,b,c,d,e,f,g,rfl⟩
theorem PO (f:cZ) (tv:Value) (xs:List Int) (hx:xs.length=7) (who:Int) (w:World) (h0:1<=f.rows) (h7:f.rows<=7):
 Calls Tryz.prog 41 #[fv f tv,lY xs,iv who] w (PV (iv (mP f xs who)) w):=by
 have hcount:=count_any xs hx who 0 f.rows.toNat (f.rows-1) (by omega) (by omega) (by omega)
 have hd:zQ xs who 0 f.rows.toNat=mP f xs who:=by
  unfold mP Iq
  simp
 rw[hd] at hcount
 generalize mP f xs who=d at*
 obtain⟨a,b,c,d,e,g,k,rfl⟩:=tC hx
 have HC:=ae hcount
 clear hcount hx hd
 show Calls _ _ #[fv f tv,.agg #[iv a,iv b,iv c,iv d,iv e,iv g,iv k],iv who] _ _
 go_enter Tryz.func41,Tryz.ntmps41
 go_wp2_with fail
 refine(HC.o _).mono ?_
 rintro e w' ⟨rfl,hb⟩
 go_wp2_with fail
 go_returns
 exact⟨by simp,zl⟩
end Go.Proofs.YthbpmepjmebolaaGreatDoor
namespace Go.SL
open Go.RowKit Go.RG
theorem jU {P:Program} {o:Oper} {ρ:Operand->Value} {W:World} (t:TypeId) (x:Operand) (ho:o.op= .load t x) (b off:Nat) (hx:ρ x= .pointer (some ⟨b,off,none⟩)) (cs:List Value) (d:TypeDesc)
 (hc:W.rangeAt b off cs) (hu:P.underlying t=some d) (hd:d.isRow=true) (hi:(P.info? t).map (·.size)=some cs.length):(execOp ρ o).run P W= .ok (.value (.agg cs.toArray)) W:=by
 unfold execOp
 simp only[ho,hx,Instr.loadAt,Instr.sureAddr,Sem.run_bind,Sem.run_pure,Result.andThen_ok,run_loadVar_mid W b off t cs d hc hu hd hi]
theorem yY: ∀(xs ys:List Int),xs.length=ys.length->((List.range xs.length).all fun i=>xs.getD i 0==ys.getD i 0)=(xs==ys)
 |[],[],_=>rfl
 |x::xs,y::ys,h=>by
  have ih:=yY xs ys (by simpa using h)
  rw[List.length_cons,List.range_succ_eq_map,List.all_cons,List.all_map]
  simp only[List.getD_cons_zero,Function.comp_def,List.getD_cons_succ,ih]
  simp[List.cons_beq_cons]
 |[],_::_,h=>by simp at h
 |_::_,[],h=>by simp at h
theorem Dh {P:Program} (w:World) (d:Nat) (t e:TypeId) (n:Nat) (ht:P.underlying t=some (.array n e)) (he:P.underlying e=some (.int .i64)) (hsz: ∀w,(sizeOf e).run P w= .ok 1 w)
 (xs ys:List Int) (hx:xs.length=n) (hy:ys.length=n):
 (Op.equalIn (d+2) t (.agg (ah xs).toArray) (.agg (ah ys).toArray)).run P w= .ok (xs==ys) w:=by
 rw[<-yY xs ys (hx.trans hy.symm),hx,List.range_eq_range',Op.equalIn]
 simp only[Sem.run_bind,run_underlying ht,Result.andThen_ok,hsz,Std.Legacy.Range.forIn_eq_forIn_range',Std.Legacy.Range.size,Nat.sub_zero,Nat.add_sub_cancel,Nat.div_one]
 have hl: ∀i∈List.range' 0 n 1,i<n:=fun i hi=>by simpa using(List.mem_range'_1.1 hi).2
 generalize List.range' 0 n 1=l at hl⊢
 induction l with
 |nil=>simp
 |cons i l ih=>
  have hi:i<n:=hl i (by simp)
  have px:(part e (ah xs).toArray (i*1)).run P w= .ok (.int .i64 (xs.getD i 0)) w:=by
   simp[part,isAgg,run_underlying he,ah,List.getD,dA (show i<xs.length by omega)]
  have py:(part e (ah ys).toArray (i*1)).run P w= .ok (.int .i64 (ys.getD i 0)) w:=by
   simp[part,isAgg,run_underlying he,ah,List.getD,dA (show i<ys.length by omega)]
  have pe:(Op.equalIn (d+1) e (.int .i64 (xs.getD i 0)) (.int .i64 (ys.getD i 0))).run P w= .ok (xs.getD i 0==ys.getD i 0) w:=run_equalIn_int w d e .i64 .i64 _ _ he
  simp only[List.forIn_cons,Sem.run_bind,px,py,pe,Result.andThen_ok,List.all_cons]
  cases hb:(xs.getD i 0==ys.getD i 0)
  ·simp
  ·simp only[Bool.not_true,Bool.false_eq_true,if_false,Sem.run_pure,Result.andThen_ok,Bool.true_and]
   exact ih fun j hj=>hl j (by simp[hj])
theorem LU {P:Program} (w:World) (t e:TypeId) (n:Nat) (ht:P.underlying t=some (.array n e)) (he:P.underlying e=some (.int .i64)) (hsz: ∀w,(sizeOf e).run P w= .ok 1 w)
 (xs ys:List Int) (hx:xs.length=n) (hy:ys.length=n):
 (binOp .neq t (.agg (ah xs).toArray) (.agg (ah ys).toArray)).run P w= .ok (.bool (!(xs==ys))) w:=by
 rw[run_neq_struct,Dh w 9998 t e n ht he hsz xs ys hx hy]
 rfl
theorem ou {P:Program} {o:Oper} {ρ:Operand->Value} {W:World} (t e tb:TypeId) (n:Nat) (x y:Operand) (ho:o.op= .binOp .neq t x y tb) (ht:P.underlying t=some (.array n e)) (he:P.underlying e=some (.int .i64)) (hsz: ∀w,(sizeOf e).run P w= .ok 1 w)
 (hm:P.eqGuardType P.depth t=false) (xs ys:List Int) (hx:ρ x= .agg (ah xs).toArray) (hy:ρ y= .agg (ah ys).toArray) (hxl:xs.length=n) (hyl:ys.length=n):
 (execOp ρ o).run P W= .ok (.value (.bool (!(xs==ys)))) W:=by
 unfold execOp
 simp only[ho,hx,hy,Sem.run_bind,run_eqGuard_agg W .neq t x y _ _ hm,Result.andThen_ok,LU W t e n ht he hsz xs ys hxl hyl,Sem.run_pure]
theorem Dk {w:World} {base:Nat} {e:TypeId} {k:Nat} {v:Value} {A:List (List Int)} {z:List Int} (h:w.ownsRow base e k v (A.length+1) ((A++[z]).flatMap ah)) (hA: ∀x∈A,x.length=k) (hz:z.length=k):
 ∃g c,v= .slice (some ⟨g,0,none⟩) (A.length+1) c/\base<=g/\g<w.heap.size/\w.rangeAt g (A.length*k) (ah z):=by
 obtain⟨h1,⟨hv,h2⟩|⟨g,c,cs,hv,hb,hc,hn,hm,hs,hx⟩⟩:=h
 ·exact absurd h2 (by simp)
 ·refine⟨g,c,hv,hb,(aV.1 hc).1,fun j u hj=>?_⟩
  have hj':j<k:=by have:=(jq.1 hj).1;simpa [ah,hz] using this
  have e1:((A++[z]).flatMap ah)[A.length*k+j]? =some u:=by
   rw[vO,nT (by rw[OW A k hA];omega),OW A k hA,Nat.add_sub_cancel_left]
   simpa using hj
  rw[<-hx,List.getElem?_take] at e1
  split at e1
  ·simp only[World.cell?,hc];simpa using e1
  ·cases e1
end Go.SL
namespace Go.Proofs.YthbpmepjmebolaaGreatDoor
open Go.RowKit Go.RG Go.SL Go.Shelf jC Go.TB
theorem Iz (b:Bool) (n:Int) (w:World):(Instr.checkKey b 9999 3 (iv n)).run Tryz.prog w= .ok () w:=D8 b 9998 n w
abbrev Str:=Int×Int×Int
abbrev aes (k:Str):Value:= .agg #[iv k.1,iv k.2.1,iv k.2.2]
theorem MI:YH Tryz.prog 283 aes (fun _=>True) where
 find w x es:=run_findKey_eq w (by kernel_rfl) x es
 check b a w _:=by
  unfold Instr.checkKey
  simp[go_sem]
  simp only[Iz,Result.andThen_ok]
 eq a b w _ _:=by
  unfold Op.equal Op.maxDepth
  simp[go_sem]
  obtain⟨a1,a2,a3⟩:=a
  obtain⟨b1,b2,b3⟩:=b
  by_cases h1:a1=b1 <;>by_cases h2:a2=b2 <;>by_cases h3:a3=b3 <;>simp[h1,h2,h3]
 bits a _:=by simp[Instr.sameBits]
end Go.Proofs.YthbpmepjmebolaaGreatDoor
namespace Go.Proofs.YthbpmepjmebolaaGreatDoor
open Go.RowKit Go.RG Go.SL Go.Shelf jC Go.TB
abbrev xn (f:cZ) (tv:Value):Array Value:= #[iv f.rows,iv f.aO,iv f.left.1,iv f.left.2,tv]
structure UG (w:World) (f:cZ) (tv:Value) (xs:List Int) (W:World):Prop where
 b0:W.heap[w.heap.size]? =some (.cells (xn f tv) 29 (0,0))
 b1:W.heap[w.heap.size+1]? =some (.cells (ah xs).toArray 98 (0,0))
 tab: ∃T:List (Str×Int),TabAt aes iv (fun _=>True) W (w.heap.size+2) T/\ ∀k n,TB.look k T=some n->n=Iq xs k.1 k.2.1 k.2.2
 below:Below w.heap.size w W
theorem UG.next {w:World} {f:cZ} {tv:Value} {xs:List Int} {W W':World} (h:UG w f tv xs W) (hb:Below W.heap.size W W'):UG w f tv xs W':=by
 obtain⟨T,h1,h2⟩:=h.tab
 exact⟨(hb.block _ (aV.1 h.b0).1).trans h.b0,(hb.block _ (aV.1 h.b1).1).trans h.b1,⟨T,h1.below hb (ai _),h2⟩,
  h.below.trans (hb.mono h.below.size)⟩
def OJ (f:cZ) (out xs:List Int) (k:Nat):Bool:=(List.range k).all fun i=>out.contains (i:Int) ||Ai xs (f.au.getD i (0,0,0,(0,0)))
theorem Uj (xs:List Int) (hx:xs.length=7) (who a b:Int) (h0:0<=a) (h1:a<=b) (h2:b<7) (w:World):
 Calls Tryz.prog 70 #[lY xs,iv who,iv a,iv b] w (PV (iv (Iq xs who a b)) w):=by
 have:=count_any xs hx who a.toNat (b+1-a).toNat b (by omega) (by omega) (by omega) w
 rw[show((a.toNat:Nat):Int)=a from by omega] at this
 exact this
theorem zx (f:cZ) (hS:rG f) (o:Option Addr) (c:Nat) (xs:List Int) (hx:xs.length=7) (ov:Value) (out:List Int) (w:World) (ht:dJ w (.slice o f.au.length c) f.au) (ho:aP w ov out):
 Calls Tryz.prog 121 #[fv f (.slice o f.au.length c),lY xs,ov] w (PV (.bool (jg f out xs)) w):=by
 obtain⟨oo,oc,rfl⟩:=ho.open
 have hmm:= @run_makeMap Tryz.prog
 obtain⟨x0,x1,x2,x3,x4,x5,x6,hxs⟩:=tC hx
 have hag:lY xs= .agg #[iv x0,iv x1,iv x2,iv x3,iv x4,iv x5,iv x6]:=by rw[hxs];rfl
 have hce:(ah xs).toArray= #[iv x0,iv x1,iv x2,iv x3,iv x4,iv x5,iv x6]:=by rw[hxs];rfl
 have HCN:=ae (fun who a b h0 h1 h2 w=>hag▸Uj xs hx who a b h0 h1 h2 w)
 rw[hag]
 have hlen:f.au.length<=5:=hS.Ah
 have HS:=ae hS
 have HT:=ae ht
 have HO:=ae ho
 have HX:=ae (ag hx hce)
 clear hS ht ho hx hxs hag hce
 go_enter Tryz.func121,Tryz.ntmps121
 go_upto_region 2 with(fail)
 refine dH fun W1 hW1=>?_
 have hst:UG w f (.slice o f.au.length c) xs W1:=by
  rw[hW1]
  refine⟨(aW _ _ _ (by simp;omega)).trans ((aW _ _ _ (by simp)).trans (ay _ _)),?_,⟨[],MC (iD _ _ _ _),fun k n h=>by cases h⟩,zl⟩
  rw[HX.o.2]
  exact(aW _ _ _ (by simp)).trans (ed _ _ _)
 clear hW1 hmm
 have c0:=af hst.b0
 obtain⟨cc0,cf0,cl0⟩:=c0
 have HST:=ae hst
 clear hst
 go_wp2_with fail
 go_loopw [17] (fun i wr=> ∃k:Nat,k<=f.au.length/\i= .int .i64 k/\OJ f out xs k=true/\UG w f (.slice o f.au.length c) xs wr) (fun i _=>f.au.length-(intOf i).toNat)
 case atStart=>exact⟨0,bW _,rfl,rfl,HST.o⟩
 case round=>
  obtain⟨k,hk,rfl,hok,hst⟩:=hrel
  obtain⟨Q4,cf1,Um⟩:=af hst.b0
  have hb1:=hst.b1
  rw[HX.o.2] at hb1
  obtain⟨cc2,cf2,cl2⟩:=af hb1
  have IU:=ae hst
  have jB:=ae hok
  clear hok hb1 cc0 cf0 cl0
  by_cases hlt:k<f.au.length
  ·have htl:=HT.o.below hst.below (ai _)
   obtain⟨b,off,hv,hb,d0,d1,d2,d3,d4⟩:=dJ.cell htl hlt
   clear hst htl
   have akC:=HS.o.uK _ (bT hlt)
   generalize htk:f.au[k]=t at*
   obtain⟨tw,ta,tb,LD,LG⟩:=t
   obtain⟨⟨q1,q2⟩,⟨q3,q4,q5⟩,⟨q6,q7,q8⟩⟩:=akC
   cases hv
   simp only at d0 d1 d2 d3 d4 q1 q2 q3 q4 q5 q6 q7 q8
   have QP:=ae htk
   have Vp:=HS.o.qP
   obtain⟨D,hD⟩: ∃D,Iq xs tw ta tb=D:=⟨_,rfl⟩
   have HC1:=ae (HCN.o tw ta tb q3 q4 (by omega))
   rw[hD] at HC1
   have hDb:0<=D/\D<=7:=by
    rw[<-hD]
    have:=Nh xs tw ta.toNat (tb+1-ta).toNat
    unfold Iq
    omega
   have HD:=ae hD
   clear htk hD
   go_upto_region 6 with(fail)
   refine dH fun W6 KJ=>?_
   have TG:UG w f (.slice (some ⟨b,off,none⟩) f.au.length c) xs W6:=IU.o.next (by rw[KJ];exact zl)
   have hk9:W6.heap[wr.heap.size]? =some (.cells #[iv tw,iv ta,iv tb,iv LD,iv LG] 118 (0,0)):=by rw[KJ];exact(aW _ _ _ (by simp)).trans (ay _ _)
   have hk10:W6.heap[wr.heap.size+1]? =some (.cells #[iv tw,iv ta,iv tb] 283 (0,0)):=by rw[KJ];exact ed _ _ _
   obtain⟨T,hT,hTv⟩:=TG.tab
   have hlook:=fun cm=>wF MI (mt:=281) (e:=3) (by kernel_rfl) (z:=iv 0) (fun W=>by simp[go_sem]) hT (tw,ta,tb) trivial cm W6 rfl
   have aqW:=ae (show W6.heap.size=wr.heap.size+2 by rw[KJ];simp)
   clear KJ Q4 cf1 Um cc2 cf2 cl2 d0 d1 d2 d3 d4 hb
   cases hl:TB.look (tw,ta,tb) T with
   |some n=>
    have hnD:n=D:=by rw[<-HD.o];exact hTv _ _ hl
    rw[hnD] at hl
    clear hnD
    rw[hl] at hlook
    simp only[Option.map_some,Option.getD_some,Option.isSome_some] at hlook
    have hlk:=hlook true
    simp only[if_true] at hlk
    have NH:=ae (fun W hW=>wF MI (mt:=281) (e:=3) (by kernel_rfl) (z:=iv 0) (fun W=>by simp[go_sem]) hT (tw,ta,tb) trivial false W hW)
    rw[hl] at NH
    simp only[Option.map_some,Option.getD_some,Option.isSome_some,Bool.false_eq_true,if_false] at NH
    have QQ:=ae TG
    obtain⟨cc9,cf9,cl9⟩:=af hk9
    obtain⟨afB,afA,adi⟩:=af hk10
    clear hlook hl hTv hT TG
    go_upto_region 9 with(fail)
    have aal:OJ f out xs (k+1)=(out.contains (k:Int) ||nZ D LD LG):=by
     unfold OJ at*
     have h1:=jB.o
     rw[mZ,h1,Bool.true_and,show f.au.getD k (0,0,0,(0,0))=(tw,ta,tb,(LD,LG)) from by simp[List.getD,hlt,QP.o]]
     unfold Ai
     simp only
     rw[HD.o]
    have UX:=ae aal
    clear aal
    by_cases hoc:out.contains (k:Int)=true
    ·have zT:=ae hoc
     clear hoc
     refine zg 13 [] none [(2,Spec.val (.bool true))] ?_
     simp only[zt]
     repeat ((first|refine zn ?_|refine zk ?_);simp only[zp])
     refine zw 135 (h:=fun W hE hF=>by exact(by have:=iL out (.slice oo out.length oc) (k:Int) W (HO.o.below (QQ.o.next hE.below).below (ai _));rw[zT.o] at this;exact this)) (t:=?_)
     simp only[zp]
     repeat ((first|refine zn ?_|refine zk ?_);simp only[zp])
     intro W hE hF
     obtain⟨hc,hf⟩:=bV hE.below
     have hzE:=hE.size
     (try simp only[bI] at hzE)
     have YJ:=ae (QQ.o.next hE.below)
     clear hE hF
     go_wp2_with fail
     go_roundw
     case rel=>exact⟨k+1,by omega,by go_num,by rw[UX.o,zT.o];rfl,YJ.o⟩
     case measure=>simp[intOf];omega
    ·have aam:out.contains (k:Int)=false:=by simpa using hoc
     have zT:=ae aam
     clear hoc aam
     obtain⟨q,hq⟩: ∃q,nZ D LD LG=q:=⟨_,rfl⟩
     have HQ:=ae hq
     clear hq
     cases q
     ·skip
      refine zg 13 [] none [(2,Spec.val (.bool false)),(10,Spec.val (.bool false))] ?_
      simp only[zt]
      repeat ((first|refine zn ?_|refine zk ?_);simp only[zp])
      refine zw 135 (h:=fun W hE hF=>by exact(by have:=iL out (.slice oo out.length oc) (k:Int) W (HO.o.below (QQ.o.next hE.below).below (ai _));rw[zT.o] at this;exact this)) (t:=?_)
      simp only[zp]
      repeat ((first|refine zn ?_|refine zk ?_);simp only[zp])
      refine iH (by rfl) _ (by rfl) (fun W hE _=>by have:=NH.o W (hE.block _ QQ.o.tab.choose_spec.1.lt (by simp));go_simp;try rfl) ?_
      simp only[zp]
      refine zw 210 (h:=fun W hE hF=>by exact(by have:=yg (LD,LG) D W;rw[HQ.o] at this;exact this)) (t:=?_)
      simp only[zp]
      repeat ((first|refine zn ?_|refine zk ?_);simp only[zp])
      intro W hE hF
      obtain⟨hc,hf⟩:=bV hE.below
      have hzE:=hE.size
      (try simp only[bI] at hzE)
      have YJ:=ae (QQ.o.next hE.below)
      clear hE hF
      go_wp2_with fail
      go_returns
      refine⟨?_,YJ.o.below⟩
      have:jg f out xs=false:=by
       have h1:=UX.o
       rw[zT.o,HQ.o] at h1
       cases hr:jg f out xs
       ·rfl
       ·unfold jg at hr
        rw[fG,jS] at hr
        unfold OJ at h1
        have:((List.range (k+1)).all fun i=>out.contains (i:Int) ||Ai xs (f.au.getD i (0,0,0,(0,0))))=true:=by
         rw[jS]
         exact fun i hi=>hr.1 i (mD.2 (by have:=mD.1 hi;omega))
        rw[this] at h1
        cases h1
      rw[this]
      simp
     ·skip
      refine zg 13 [] none [(2,Spec.val (.bool false)),(10,Spec.val (.bool true))] ?_
      simp only[zt]
      repeat ((first|refine zn ?_|refine zk ?_);simp only[zp])
      refine zw 135 (h:=fun W hE hF=>by exact(by have:=iL out (.slice oo out.length oc) (k:Int) W (HO.o.below (QQ.o.next hE.below).below (ai _));rw[zT.o] at this;exact this)) (t:=?_)
      simp only[zp]
      repeat ((first|refine zn ?_|refine zk ?_);simp only[zp])
      refine iH (by rfl) _ (by rfl) (fun W hE _=>by have:=NH.o W (hE.block _ QQ.o.tab.choose_spec.1.lt (by simp));go_simp;try rfl) ?_
      simp only[zp]
      refine zw 210 (h:=fun W hE hF=>by exact(by have:=yg (LD,LG) D W;rw[HQ.o] at this;exact this)) (t:=?_)
      simp only[zp]
      repeat ((first|refine zn ?_|refine zk ?_);simp only[zp])
      intro W hE hF
      obtain⟨hc,hf⟩:=bV hE.below
      have hzE:=hE.size
      (try simp only[bI] at hzE)
      have YJ:=ae (QQ.o.next hE.below)
      clear hE hF
      go_wp2_with fail
      go_roundw
      case rel=>exact⟨k+1,by omega,by go_num,by rw[UX.o,zT.o,HQ.o];rfl,YJ.o⟩
      case measure=>simp[intOf];omega
   |none=>
    rw[hl] at hlook
    simp only[Option.map_none,Option.getD_none,Option.isSome_none] at hlook
    have hlk:=hlook true
    simp only[if_true] at hlk
    obtain⟨cc0,cf0,cl0⟩:=af TG.b0
    have hb1:=TG.b1
    rw[HX.o.2] at hb1
    obtain⟨Q4,cf1,Um⟩:=af hb1
    obtain⟨cc9,cf9,cl9⟩:=af hk9
    obtain⟨afB,afA,adi⟩:=af hk10
    have HS6:=ae TG
    have HTT:=ae (ag hT hTv)
    clear hlook hl hTv hT TG hb1
    go_upto_region 8 with(fail)
    refine zg 10 [] none [(9,Spec.val (iv D))] ?_
    simp only[zt]
    repeat ((first|refine zn ?_|refine zk ?_);simp only[zp])
    refine zw 70 (h:=fun W hE hF=>by exact HC1.o W) (t:=?_)
    simp only[zp]
    intro W hE hF
    obtain⟨hc,hf⟩:=bV hE.below
    have hzE:=hE.size
    (try simp only[bI] at hzE)
    have hTW:TabAt aes iv (fun _=>True) W (w.heap.size+2) T:=HTT.o.1.below hE.below (ai _)
    obtain⟨W8,hrun,hT8,ig⟩:=fV MI (mt:=281) (e:=3) (by kernel_rfl) hTW (tw,ta,tb) trivial D
    have Xn:=HS6.o.next hE.below
    have Xo:UG w f (.slice (some ⟨b,off,none⟩) f.au.length c) xs W8:=by
     refine⟨(ig.block _ (aV.1 Xn.b0).1 (by simp)).trans Xn.b0,(ig.block _ (aV.1 Xn.b1).1 (by simp)).trans Xn.b1,⟨_,hT8,fun k n h=>?_⟩,iw Xn.below ig (by omega)⟩
     rw[wZ] at h
     split at h
     ·rename_i he
      subst he
      cases h
      exact HD.o.symm
     ·exact HTT.o.2 _ _ h
    have ak6:W8.heap[wr.heap.size]? =some (.cells #[iv tw,iv ta,iv tb,iv LD,iv LG] 118 (0,0)):=
     (ig.block _ (by have:=hE.size;omega) (by have:=IU.o.tab.choose_spec.1.lt;simp;omega)).trans ((hE.block _ cl9 (by simp)).trans hk9)
    have hk10':W8.heap[wr.heap.size+1]? =some (.cells #[iv tw,iv ta,iv tb] 283 (0,0)):=
     (ig.block _ (by have:=hE.size;omega) (by have:=IU.o.tab.choose_spec.1.lt;simp;omega)).trans ((hE.block _ adi (by simp)).trans hk10)
    have NH:=ae (fun W hW=>wF MI (mt:=281) (e:=3) (by kernel_rfl) (z:=iv 0) (fun W=>by simp[go_sem]) hT8 (tw,ta,tb) trivial false W hW)
    rw[wZ,aC rfl] at NH
    simp only[Option.map_some,Option.getD_some,Option.isSome_some,Bool.false_eq_true,if_false] at NH
    have QQ:=ae Xo
    clear hT8 ig Xn Xo hTW hE hF cc0 cf0 cl0 Q4 cf1 Um cc9 cf9 cl9 afB afA adi hc hf hlk
    go_upto_region 9 with(fail)
    clear hrun
    obtain⟨cc9,cf9,cl9⟩:=af ak6
    obtain⟨afB,afA,adi⟩:=af hk10'
    have aal:OJ f out xs (k+1)=(out.contains (k:Int) ||nZ D LD LG):=by
     unfold OJ at*
     have h1:=jB.o
     rw[mZ,h1,Bool.true_and,show f.au.getD k (0,0,0,(0,0))=(tw,ta,tb,(LD,LG)) from by simp[List.getD,hlt,QP.o]]
     unfold Ai
     simp only
     rw[HD.o]
    have UX:=ae aal
    clear aal
    by_cases hoc:out.contains (k:Int)=true
    ·have zT:=ae hoc
     clear hoc
     refine zg 13 [] none [(2,Spec.val (.bool true))] ?_
     simp only[zt]
     repeat ((first|refine zn ?_|refine zk ?_);simp only[zp])
     refine zw 135 (h:=fun W hE hF=>by exact(by have:=iL out (.slice oo out.length oc) (k:Int) W (HO.o.below (QQ.o.next hE.below).below (ai _));rw[zT.o] at this;exact this)) (t:=?_)
     simp only[zp]
     repeat ((first|refine zn ?_|refine zk ?_);simp only[zp])
     intro W hE hF
     obtain⟨hc,hf⟩:=bV hE.below
     have hzE:=hE.size
     (try simp only[bI] at hzE)
     have YJ:=ae (QQ.o.next hE.below)
     clear hE hF
     go_wp2_with fail
     go_roundw
     case rel=>exact⟨k+1,by omega,by go_num,by rw[UX.o,zT.o];rfl,YJ.o⟩
     case measure=>simp[intOf];omega
    ·have aam:out.contains (k:Int)=false:=by simpa using hoc
     have zT:=ae aam
     clear hoc aam
     obtain⟨q,hq⟩: ∃q,nZ D LD LG=q:=⟨_,rfl⟩
     have HQ:=ae hq
     clear hq
     cases q
     ·skip
      refine zg 13 [] none [(2,Spec.val (.bool false)),(10,Spec.val (.bool false))] ?_
      simp only[zt]
      repeat ((first|refine zn ?_|refine zk ?_);simp only[zp])
      refine zw 135 (h:=fun W hE hF=>by exact(by have:=iL out (.slice oo out.length oc) (k:Int) W (HO.o.below (QQ.o.next hE.below).below (ai _));rw[zT.o] at this;exact this)) (t:=?_)
      simp only[zp]
      repeat ((first|refine zn ?_|refine zk ?_);simp only[zp])
      refine iH (by rfl) _ (by rfl) (fun W hE _=>by have:=NH.o W (hE.block _ QQ.o.tab.choose_spec.1.lt (by simp));go_simp;try rfl) ?_
      simp only[zp]
      refine zw 210 (h:=fun W hE hF=>by exact(by have:=yg (LD,LG) D W;rw[HQ.o] at this;exact this)) (t:=?_)
      simp only[zp]
      repeat ((first|refine zn ?_|refine zk ?_);simp only[zp])
      intro W hE hF
      obtain⟨hc,hf⟩:=bV hE.below
      have hzE:=hE.size
      (try simp only[bI] at hzE)
      have YJ:=ae (QQ.o.next hE.below)
      clear hE hF
      go_wp2_with fail
      go_returns
      refine⟨?_,YJ.o.below⟩
      have:jg f out xs=false:=by
       have h1:=UX.o
       rw[zT.o,HQ.o] at h1
       cases hr:jg f out xs
       ·rfl
       ·unfold jg at hr
        rw[fG,jS] at hr
        unfold OJ at h1
        have:((List.range (k+1)).all fun i=>out.contains (i:Int) ||Ai xs (f.au.getD i (0,0,0,(0,0))))=true:=by
         rw[jS]
         exact fun i hi=>hr.1 i (mD.2 (by have:=mD.1 hi;omega))
        rw[this] at h1
        cases h1
      rw[this]
      simp
     ·skip
      refine zg 13 [] none [(2,Spec.val (.bool false)),(10,Spec.val (.bool true))] ?_
      simp only[zt]
      repeat ((first|refine zn ?_|refine zk ?_);simp only[zp])
      refine zw 135 (h:=fun W hE hF=>by exact(by have:=iL out (.slice oo out.length oc) (k:Int) W (HO.o.below (QQ.o.next hE.below).below (ai _));rw[zT.o] at this;exact this)) (t:=?_)
      simp only[zp]
      repeat ((first|refine zn ?_|refine zk ?_);simp only[zp])
      refine iH (by rfl) _ (by rfl) (fun W hE _=>by have:=NH.o W (hE.block _ QQ.o.tab.choose_spec.1.lt (by simp));go_simp;try rfl) ?_
      simp only[zp]
      refine zw 210 (h:=fun W hE hF=>by exact(by have:=yg (LD,LG) D W;rw[HQ.o] at this;exact this)) (t:=?_)
      simp only[zp]
      repeat ((first|refine zn ?_|refine zk ?_);simp only[zp])
      intro W hE hF
      obtain⟨hc,hf⟩:=bV hE.below
      have hzE:=hE.size
      (try simp only[bI] at hzE)
      have YJ:=ae (QQ.o.next hE.below)
      clear hE hF
      go_wp2_with fail
      go_roundw
      case rel=>exact⟨k+1,by omega,by go_num,by rw[UX.o,zT.o,HQ.o];rfl,YJ.o⟩
      case measure=>simp[intOf];omega
  ·have hkl:k=f.au.length:=by omega
   subst hkl
   have agZ:lY xs= .agg #[iv x0,iv x1,iv x2,iv x3,iv x4,iv x5,iv x6]:=congrArg Value.agg HX.o.2
   have HL:=ae (fun W=>agZ▸PO f (.slice o f.au.length c) xs HX.o.1 (-1) W HS.o.zW HS.o.qP)
   obtain⟨d,hd⟩: ∃d,mP f xs (-1)=d:=⟨_,rfl⟩
   obtain⟨q,hq⟩: ∃q,nZ d f.left.1 f.left.2=q:=⟨_,rfl⟩
   have HR:Hid (jg f out xs=q):=ae (by
    rw[<-hq, <-hd]
    have h1:=jB.o
    unfold OJ at h1
    unfold jg
    rw[h1,Bool.true_and]
    rfl)
   have HD:=ae (ag hd hq)
   rw[hd] at HL
   clear hd hq agZ hst
   go_upto_region 12 with(fail)
   refine zg 7 [] none [(4,Spec.val (iv d)),(5,Spec.val (.bool q))] ?_
   simp only[zt]
   repeat ((first|refine zn ?_|refine zk ?_);simp only[zp])
   refine zw 41 (h:=fun W hE hF=>by exact HL.o W) (t:=?_)
   simp only[zp]
   refine zw 210 (h:=fun W hE hF=>by exact(by have:=yg f.left d W;rw[HD.o.2] at this;exact this)) (t:=?_)
   simp only[zp]
   repeat ((first|refine zn ?_|refine zk ?_);simp only[zp])
   intro W hE hF
   obtain⟨hc,hf⟩:=bV hE.below
   have hzE:=hE.size
   (try simp only[bI] at hzE)
   have YJ:=ae (IU.o.next hE.below)
   clear hE hF
   go_wp2_with fail
   go_returns
   exact⟨by rw[HR.o];simp,YJ.o.below⟩
end Go.Proofs.YthbpmepjmebolaaGreatDoor
end
section
namespace Go.Proofs.YthbpmepjmebolaaGreatDoor
open Go.RowKit Go.RG Go.SL Go.Shelf jC Go.TB
attribute [local go_sem] Oper.semAt_some
def uS (f:cZ) (out:List Int) (k:Nat):Nat:=(((qG f).take k).filter (jg f out)).length
theorem Qa (f:cZ) (out:List Int):uS f out (qG f).length=(df f out).length:=by
 unfold uS df
 rw[List.take_length]
theorem VF {f:cZ} {out:List Int} {k:Nat} (hk:k<(qG f).length) (hp:jg f out (qG f)[k]=false):uS f out (k+1)=uS f out k:=by
 unfold uS
 rw[iy hk,List.filter_append,dE]
 simp[hp]
theorem P9 {f:cZ} {out:List Int} {k:Nat} (hk:k<(qG f).length) (hp:jg f out (qG f)[k]=true):uS f out (k+1)=uS f out k+1:=by
 unfold uS
 rw[iy hk,List.filter_append,dE]
 simp[hp]
theorem Gi {f:cZ} {out:List Int} {k:Nat} (hk:k<(qG f).length) (hp:jg f out (qG f)[k]=true):
 ∃hc:uS f out k<(df f out).length,(df f out)[uS f out k]=(qG f)[k]:=by
 have:=Dy (jg f out) id (qG f) k hk hp
 rw[List.map_id] at this
 obtain⟨hc,hx⟩:=jq.1 this
 exact⟨hc,hx⟩
def rf (x:List Int):List Int:=x++List.replicate (7-x.length) 0
theorem wz {x:List Int} (h:x.length<=7):(rf x).length=7:=by simp[rf];omega
theorem ZI (x:List Int) (i:Nat):(rf x).getD i 0=x.getD i 0:=by
 unfold rf
 by_cases h:i<x.length
 ·rw[List.getD_eq_getElem?_getD,vP h, <-List.getD_eq_getElem?_getD]
 ·rw[List.getD_eq_getElem?_getD,nT (by omega),List.getElem?_replicate]
  have:x.getD i 0=0:=by rw[List.getD_eq_getElem?_getD,List.getElem?_eq_none (by omega)];rfl
  rw[this]
  split <;>rfl
theorem PS (x:List Int) (who:Int) (a n:Nat):zQ (rf x) who a n=zQ x who a n:=by
 unfold zQ
 simp only[ZI]
theorem JY (f:cZ) (out x:List Int):jg f out (rf x)=jg f out x:=by
 unfold jg Ai Iq
 simp only[PS]
theorem aa5 (f:cZ) (x:List Int) (who:Int):mP f (rf x) who=mP f x who:=by
 unfold mP Iq
 rw[PS]
structure Y9 (W:World) (bf bo jy ab bc l:Nat) (o:List Int):Prop where
 y:W.heap[jy]? =some (.cells #[.func (.yield l) #[] #[]] 216 (0,0))
 ch:W.heap[bc]? =some (.cells #[.func (.func 120) #[] #[.pointer (some ⟨bf,0,none⟩),.pointer (some ⟨ab,0,none⟩),.pointer (some ⟨bo,0,none⟩),.pointer (some ⟨jy,0,none⟩),.pointer (some ⟨bc,0,none⟩)]] 167 (0,0))
 cells:W.heap[ab]? =some (.cells (ah o).toArray 98 (0,0))
theorem Y9.kept {W W':World} {bf bo jy ab bc l:Nat} {o:List Int} (h:Y9 W bf bo jy ab bc l o) (hk: ∀m∈[ab,jy,bc],m<W.heap.size->W'.heap[m]? =W.heap[m]?):Y9 W' bf bo jy ab bc l o:=
 ⟨(hk _ (by simp) (aV.1 h.y).1).trans h.y,(hk _ (by simp) (aV.1 h.ch).1).trans h.ch,(hk _ (by simp) (aV.1 h.cells).1).trans h.cells⟩
theorem Y9.below {W W':World} {bf bo jy ab bc l:Nat} {o:List Int} (h:Y9 W bf bo jy ab bc l o) (hb:Below W.heap.size W W'):Y9 W' bf bo jy ab bc l o:=
 h.kept fun m _ hm=>hb.block m hm
theorem Y9.set {W:World} {bf bo jy ab bc l:Nat} {o:List Int} (h:Y9 W bf bo jy ab bc l o) (hd1:jy≠ab) (hd3:bc≠ab) (i:Nat) (x:Int):Y9 (W.setCell ⟨ab,i,none⟩ (iv x)) bf bo jy ab bc l (o.set i x):=
 ⟨(dL _ _ _ _ hd1).trans h.y,(dL _ _ _ _ hd3).trans h.ch,by rw[<-tH];exact aI h.cells _⟩
def ajq (_:List Nat) (x:List Int) (v:Value) (_:World):Prop:=v=lY (rf x)
structure aec (bf bo:Nat) (f:cZ) (tv ov:Value) (out:List Int) (W:World):Prop where
 fb:W.heap[bf]? =some (.cells (xn f tv) 29 (0,0))
 ob:W.heap[bo]? =some (.cells #[ov] 36 (0,0))
 uK:dJ W tv f.au
 out:aP W ov out
theorem NZ (f:cZ) (hS:rG f) (tv ov:Value) (out:List Int) (bf bo jy ab bc l:Nat) (hd1:jy≠ab) (hd3:bc≠ab) (J:List Nat->Option Nat->World->Prop)
 (hInv: ∀Ms s W1,J Ms s W1->aec bf bo f tv ov out W1)
 (hstep: ∀Ms Ms' s W1 W2,J Ms s W1->Ext Ms W1 W2->(∀m∈Ms',m∈Ms∨(W1.heap.size<=m/\m<W2.heap.size))->True->J Ms' s W2)
 (hY: ∀Ms k v W1 (hk:k<(df f out).length),J Ms (some k) W1->ajq Ms (df f out)[k] v W1->YieldAt Fence.wide 0 Tryz.prog l #[v] W1 fun e W'=>
   ((∀m∈Ms,m∉[]->m<W1.heap.size->W'.heap[m]? =W1.heap[m]?)/\W1.heap.size<=W'.heap.size)/\((e= .returned (.bool true)/\J Ms (some (k+1)) W')∨(e= .returned (.bool false)/\J Ms none W'))):
 ∀(m i k:Nat) (pre:List Int) (W:World) (o:List Int),i+m=f.rows.toNat->pre.length=i->o.length=7->o.take i=pre->o.drop f.rows.toNat=List.replicate (7-f.rows.toNat) 0->jM (fH f) i k pre->Y9 W bf bo jy ab bc l o->J [ab,jy,bc] (some (uS f out k)) W->
  CallsIn Fence.wide 0 Tryz.prog 120 #[iv i,.pointer (some ⟨bf,0,none⟩),.pointer (some ⟨ab,0,none⟩),.pointer (some ⟨bo,0,none⟩),.pointer (some ⟨jy,0,none⟩),.pointer (some ⟨bc,0,none⟩)] W
   (fun e W'=>(e= .returned (.bool true)/\J [ab,jy,bc] (some (uS f out (k+(fJ ((fH f).drop i)).length))) W'/\ ∃o',o'.length=7/\o'.take i=pre/\o'.drop f.rows.toNat=List.replicate (7-f.rows.toNat) 0/\Y9 W' bf bo jy ab bc l o')∨
     (e= .returned (.bool false)/\J [ab,jy,bc] none W')):=by
 have hRl:(fH f).length=f.rows.toNat:=by simp[fH]
 intro m
 induction m with
 |zero=>
  intro i k pre W o him hpl hol hot hod hat hst hJ
  have hrow:(i:Int)=f.rows:=by have:=hS.zW;omega
  obtain⟨hone,hk,hx⟩:=hat.last (by omega)
  rw[hone]
  have hop:o=rf pre:=by
   rw[<-List.take_append_drop f.rows.toNat o,hod]
   rw[show f.rows.toNat=i from by omega,hot]
   unfold rf
   rw[hpl]
  have hk':k<(qG f).length:=hk
  have hxx:(qG f)[k]=pre:=hx
  obtain⟨hbf,Xx,htl,hov⟩:=hInv _ _ _ hJ
  obtain⟨ot,ct,rfl⟩:=htl.open
  obtain⟨oo,oc,rfl⟩:=hov.open
  have hright:=zx f hS ot ct o hol _ out W htl hov
  rw[show jg f out o=jg f out pre from by rw[hop,JY]] at hright
  obtain⟨Q4,cf1,Um⟩:=af hbf
  obtain⟨cc2,cf2,cl2⟩:=af Xx
  obtain⟨cc3,cf3,cl3⟩:=af hst.y
  obtain⟨x0,x1,x2,x3,x4,x5,x6,hxs⟩:=tC hol
  have hag:lY o= .agg #[iv x0,iv x1,iv x2,iv x3,iv x4,iv x5,iv x6]:=by rw[hxs];rfl
  have hcb:=hst.cells
  rw[show(ah o).toArray= #[iv x0,iv x1,iv x2,iv x3,iv x4,iv x5,iv x6] from by rw[hxs];rfl] at hcb
  obtain⟨cc4,cf4,cl4⟩:=af hcb
  rw[hag] at hright
  have HR:=ae hright
  have HS:=ae hst
  have HJ:=ae hJ
  have HI:=ae hInv
  have HST:=ae hstep
  have HY:=ae hY
  have HK:=ae (show ∃h:k<(qG f).length,(qG f)[k]=pre from⟨hk',hxx⟩)
  have HO:=ae (ag hol (ag hot (ag hod (ag hop hag))))
  have heq:((i:Int)==f.rows)=true:=by simpa using hrow
  clear hright hInv hstep hY hst hJ hbf Xx htl hov hat hcb hop hag hxs hx hxx hk hk' hone hrow hot hod
  obtain⟨q,hq⟩: ∃q,jg f out pre=q:=⟨_,rfl⟩
  have HQ:=ae hq
  rw[hq] at HR
  clear hq
  cases q
  ·skip
   refine callsIn_of_wp Tryz.func120 rfl trivial ?_
   simp only[Tryz.ntmps120,List.size_toArray,List.length_cons,List.length_nil,Nat.reduceAdd,Nat.reduceSub,Array.replicate_succ,Array.replicate_zero,lL,lM,List.nil_append,List.cons_append]
   gi_wp2_with fail
   refine(callsIn_wide.2 HR.o).mono ?_
   rintro e W1 ⟨rfl,hb1⟩
   have HB1:=ae hb1
   clear hb1
   gi_wp2_with fail
   go_returns
   have hJ1:=HST.o _ _ _ _ _ HJ.o (Ext.az HB1.o) (fun m hm=> .inl hm) trivial
   obtain⟨hk',hxx⟩:=HK.o
   rw[<-VF hk' (by rw[hxx];exact HQ.o)] at hJ1
   exact .inl ⟨by simp,hJ1,o,HO.o.1,HO.o.2.1,HO.o.2.2.1,HS.o.below HB1.o⟩
  ·skip
   refine callsIn_of_wp Tryz.func120 rfl trivial ?_
   simp only[Tryz.ntmps120,List.size_toArray,List.length_cons,List.length_nil,Nat.reduceAdd,Nat.reduceSub,Array.replicate_succ,Array.replicate_zero,lL,lM,List.nil_append,List.cons_append]
   gi_wp2_with fail
   refine(callsIn_wide.2 HR.o).mono ?_
   rintro e W1 ⟨rfl,hb1⟩
   obtain⟨hc1,hf1⟩:=bV hb1
   have hs1:=hb1.size
   have HB1:=ae hb1
   have hJ1:=HST.o _ _ _ _ _ HJ.o (Ext.az hb1) (fun m hm=> .inl hm) trivial
   obtain⟨hk',hxx⟩:=HK.o
   obtain⟨hc,hx⟩:=Gi hk' (by rw[hxx];exact HQ.o)
   obtain⟨g1,t1,a1,b1,hy1,hR1⟩:=HY.o _ _ (.agg #[iv x0,iv x1,iv x2,iv x3,iv x4,iv x5,iv x6]) W1 hc hJ1 (by
    show _=lY (rf _)
    rw[hx,hxx, <-HO.o.2.2.2.1,HO.o.2.2.2.2])
   have hcn:uS f out (k+1)=uS f out k+1:=P9 hk' (by rw[hxx];exact HQ.o)
   have HR1:=ae hR1
   have HCN:=ae hcn
   clear hR1 hJ1 hk' hxx hc hx hcn hb1
   gi_wp2_with fail
   refine HR1.o.mono ?_
   rintro e W' ⟨⟨hkeep,hsz⟩,⟨rfl,hJ⟩|⟨rfl,hJ⟩⟩
   ·have HJ':=ae hJ
    have HK':=ae hkeep
    clear hJ hkeep
    gi_wp2_with fail
    go_returns
    refine .inl ⟨by simp,by rw[HCN.o];exact HJ'.o,o,HO.o.1,HO.o.2.1,HO.o.2.2.1,(HS.o.below HB1.o).kept (fun m hm hml=>HK'.o m hm (by simp) hml)⟩
   ·have HJ':=ae hJ
    clear hJ hkeep
    gi_wp2_with fail
    go_returns
    exact .inr ⟨by simp,HJ'.o⟩
 |succ m ih=>
  intro i k pre W o him hpl hol hot hod hat hst hJ
  have hi:i<(fH f).length:=by omega
  have hcount:=jM.count hi
  have hw0:=hS.zV
  have hw1:=hS.xH
  have Vp:=hS.qP
  have hr0:=hS.zW
  have EF:(fH f)[i]=(-1,f.aO-1):=by simp[fH]
  obtain⟨z,hz,hz4⟩: ∃z:Nat,(z:Int)=f.aO+1/\z<=4:=⟨(f.aO+1).toNat,by omega,by omega⟩
  have hsz:(eQ (fH f)[i]).toNat=z:=by rw[EF];unfold eQ;simp only;omega
  rw[hsz] at hcount
  obtain⟨hbf,Xx,htl,hov⟩:=hInv _ _ _ hJ
  obtain⟨Q4,cf1,Um⟩:=af hbf
  have hne:(i:Int)≠f.rows:=by omega
  have hneb:((i:Int)==f.rows)=false:=by simpa using hne
  have YO:Hid (∀c:Nat,c<z->jM (fH f) (i+1) (k+c*(fJ ((fH f).drop (i+1))).length) (pre++[(c:Int)-1])):=ae (fun c hc=>by
   have:=hat.next hi c (by rw[hsz];exact hc)
   rw[EF] at this
   rw[show(c:Int)-1= -1+(c:Int) from by omega]
   exact this)
  have HI:=ae hInv
  have HST:=ae hstep
  have HS:=ae hst
  have HJ:=ae hJ
  have HIH:=ae ih
  have Ll:=ae (ag hol (ag hot hod))
  have HCZ:=ae hcount
  have HZ:=ae hz
  have hi7:i<7:=by omega
  have hiR:i<f.rows.toNat:=by omega
  clear hInv hstep hY hat hst hJ ih hcount hne hbf Xx htl hov EF hsz hi hol hot hod hRl hz
  refine callsIn_of_wp Tryz.func120 rfl trivial ?_
  simp only[Tryz.ntmps120,List.size_toArray,List.length_cons,List.length_nil,Nat.reduceAdd,Nat.reduceSub,Array.replicate_succ,Array.replicate_zero,lL,lM,List.nil_append,List.cons_append]
  gi_wp2_with fail
  rw[<-HZ.o]
  gi_loopw [26] (fun u wr=> ∃c:Nat,c<=z/\u= .int .i64 c/\ ∃o':List Int,o'.length=7/\o'.take i=pre/\o'.drop f.rows.toNat=List.replicate (7-f.rows.toNat) 0/\Y9 wr bf bo jy ab bc l o'/\J [ab,jy,bc] (some (uS f out (k+c*(fJ ((fH f).drop (i+1))).length))) wr)
   (fun u _=>z-(intOf u).toNat)
  case atStart=>exact⟨0,bW _,rfl,o,Ll.o.1,Ll.o.2.1,Ll.o.2.2,HS.o,by simpa using HJ.o⟩
  case round=>
   obtain⟨c,hcz,rfl,o',ho1,ho2,ho3,hst,hJ⟩:=hrel
   by_cases hlt:c<z
   ·obtain⟨hbf,Xx,htl,hov⟩:=HI.o _ _ _ hJ
    obtain⟨cd1,Qp,Qc⟩:=af hbf
    obtain⟨cd3,Qo,Qb⟩:=af hst.ch
    obtain⟨y,hcell⟩: ∃y,wr.cell? ⟨ab,i,none⟩=some (iv y):=⟨_,gJ hst.cells (show i<o'.length by omega)⟩
    have hab:=dP wr _ hcell
    have hfr:=bF hst.cells i
    have IU:=ae hst
    have U0:=ae hJ
    have HO:=ae (ag ho1 (ag ho2 ho3))
    have xR:(c:Int)<z:=by omega
    clear hst hJ hbf Xx htl hov ho1 ho2 ho3 Q4 cf1 Um
    have Hl:=IU.o.set hd1 hd3 i ((c:Int)-1)
    have hJS:J [ab,jy,bc] (some (uS f out (k+c*(fJ ((fH f).drop (i+1))).length))) (wr.setCell ⟨ab,i,none⟩ (iv ((c:Int)-1))):=
     HST.o _ _ _ _ _ U0.o ((mO wr ⟨ab,i,none⟩ _).more (fun x hx=>by simp at hx;subst hx;simp)) (fun m hm=> .inl hm) trivial
    have hcall:=HIH.o (i+1) _ (pre++[(c:Int)-1]) _ (o'.set i ((c:Int)-1)) (by omega) (by simp[hpl]) (by simp[HO.o.1]) (by
     rw[List.take_set]
     rw[rF,HO.o.2.1]
     have hio:i<o'.length:=by have:=HO.o.1;omega
     rw[dA hio]
     simp[qK,hpl]) (by
     rw[List.drop_set,aC hiR];exact HO.o.2.2) (YO.o c hlt) Hl hJS
    rw[show((i+1:Nat):Int)=(i:Int)+1 from by omega] at hcall
    have CS:=ae hcall
    clear hcall Hl hJS
    gi_wp2_with fail
    refine CS.o.mono ?_
    rintro e W2 (⟨rfl,hJ2,o2,ho1,ho2,ho3,hst2⟩|⟨rfl,hJ2⟩)
    ·have HJ2:=ae hJ2
     have UN:=ae hst2
     have Bd:=ae (ag ho1 (ag ho2 ho3))
     clear hJ2 hst2 ho1 ho2 ho3 cd1 Qp Qc cd3 Qo Qb hcell hab hfr
     gi_wp2_with fail
     go_roundw
     case rel=>
      refine⟨c+1,by omega,by go_num,o2,Bd.o.1,?_,Bd.o.2.2,UN.o,?_⟩
      ·have:=congrArg (List.take i) Bd.o.2.1
       rw[List.take_take,Nat.min_eq_left (by omega)] at this
       rw[this,uG (by omega),kK (by omega)]
      ·rw[Nat.add_mul,Nat.one_mul, <-Nat.add_assoc];exact HJ2.o
     case measure=>simp[intOf];omega
    ·have HJ2:=ae hJ2
     clear hJ2 cd1 Qp Qc cd3 Qo Qb hcell hab hfr
     gi_wp2_with fail
     go_returns
     exact .inr ⟨by simp,HJ2.o⟩
   ·have TL:c=z:=by omega
    subst TL
    have U0:=ae hJ
    have IU:=ae hst
    have HO:=ae (ag ho1 (ag ho2 ho3))
    clear hJ hst ho1 ho2 ho3 Q4 cf1 Um
    gi_wp2_with fail
    go_returns
    refine .inl ⟨by simp,?_,o',HO.o.1,HO.o.2.1,HO.o.2.2,IU.o⟩
    rw[HCZ.o];exact U0.o
theorem NR (f:cZ) (hS:rG f) (tv ov:Value) (out:List Int) (bf bo:Nat):
 Yw Tryz.prog 119 #[.pointer (some ⟨bf,0,none⟩),.pointer (some ⟨bo,0,none⟩)] (df f out) ajq [] (fun _=>True) (aec bf bo f tv ov out):=by
 intro l J W hInv hstep hY h0
 have hch:=fun jy ab bc hd1 hd3=>NZ f hS tv ov out bf bo jy ab bc l hd1 hd3 J hInv hstep hY
 have Vp:=hS.qP
 have hRl:(fH f).length=f.rows.toNat:=by simp[fH]
 have HCH:=ae hch
 have HST:=ae hstep
 have HJ:=ae h0
 have hn2: ∀(A B:Obj) (v:Value) (t:TypeId),(((W.alloc A).alloc B).alloc (.cells #[v] t)).cell? ⟨W.heap.size+1+1,0,none⟩=some v:=fun A B v t=>aB (iD W A B _)
 have hf2: ∀(A B:Obj) (v:Value) (t:TypeId),(((W.alloc A).alloc B).alloc (.cells #[v] t)).frozen? ⟨W.heap.size+1+1,0,none⟩=false:=fun A B v t=>bF (iD W A B _) 0
 clear hInv hstep hY hch h0 hS
 go_enter Tryz.func119,Tryz.ntmps119
 go_wp2_with fail
 refine(callsIn_wide.1 (HCH.o W.heap.size (W.heap.size+1) (W.heap.size+1+1) (by omega) (by omega) f.rows.toNat 0 0 [] _ (List.replicate 7 0) (by omega) rfl (by simp) (by simp) (by rw[List.drop_replicate]) (jM.zero _) ⟨?_,?_,?_⟩
  (HST.o _ _ _ _ _ HJ.o (Ext.az zl) (fun m hm=> .inr (by simp at hm;(first|omega|(simp;omega)))) trivial))).mono ?_
 ·exact(aW _ _ _ (by simp;omega)).trans ((aW _ _ _ (by simp)).trans (ay _ _))
 ·exact iD _ _ _ _
 ·exact(aW _ _ _ (by simp)).trans (ed _ _ _)
 ·rintro e W2 (⟨rfl,hJ2,_⟩|⟨rfl,hJ2⟩)
  ·have HJ2:=ae hJ2
   clear hJ2 hn2 hf2
   go_wp2_with fail
   go_end0
   refine⟨⟨_,rfl⟩,[W.heap.size+1,W.heap.size,W.heap.size+1+1],.inl ?_⟩
   have:=HJ2.o
   rw[<-Qa]
   simpa [qG] using this
  ·have HJ2:=ae hJ2
   clear hJ2 hn2 hf2
   go_wp2_with fail
   go_end0
   exact⟨⟨_,rfl⟩,_,.inr HJ2.o⟩
theorem NS (f:cZ) (tv:Value) (o:Option Addr) (n c:Nat) (w:World):
 Calls Tryz.prog 69 #[fv f tv,.slice o n c] w (fun e w'=>e= .returned (.func (.func 119) #[] #[.pointer (some ⟨w.heap.size,0,none⟩),.pointer (some ⟨w.heap.size+1,0,none⟩)])/\
  w'=(w.alloc (.cells (xn f tv) 29)).alloc (.cells #[.slice o n c] 36)):=by
 go_enter Tryz.func69,Tryz.ntmps69
 go_wp2
 go_returns
 exact⟨by simp,rfl⟩
end Go.Proofs.YthbpmepjmebolaaGreatDoor
namespace Go.Proofs.YthbpmepjmebolaaGreatDoor
open Go.RowKit Go.RG Go.SL Go.Shelf jC Go.TB
attribute [local go_sem] Oper.semAt_some
theorem akf:iR Tryz.prog 93 98 (.agg #[iv 0,iv 0,iv 0,iv 0,iv 0,iv 0,iv 0]) 7 56:=⟨Tryz.underlying93,by kernel_rfl,rfl,by omega⟩
structure Lr (w:World) (Os Ms:List Nat) (W:World):Prop where
 ext:Below w.heap.size w W
 old: ∀m∈Ms,w.heap.size<=m
 bnd: ∀m∈Ms,m<W.heap.size
 apart: ∀b∈Os,b∉Ms/\b<W.heap.size
theorem Lr.ja {w:World} {Os Ms Ms':List Nat} {W1 W2:World} (h:Lr w Os Ms W1) (hE:Ext Ms W1 W2) (hMs: ∀m∈Ms',m∈Ms∨(W1.heap.size<=m/\m<W2.heap.size)):
 Lr w Os Ms' W2/\ ∀b∈Os,W2.heap[b]? =W1.heap[b]? :=by
 have hsz:=h.ext.size
 refine⟨⟨h.ext.trans ⟨hE.os,hE.tape,hE.output,hE.size,fun k hk=>?_⟩,fun m hm=>?_,fun m hm=>?_,fun b hb=>?_⟩,fun b hb=>hE.block b (h.apart b hb).2 (h.apart b hb).1⟩
 ·exact hE.block k (by omega) (fun hk'=>by have:=h.old k hk';omega)
 ·rcases hMs m hm with h1|h1
  ·exact h.old m h1
  ·omega
 ·rcases hMs m hm with h1|h1
  ·exact fP (h.bnd m h1) hE.size
  ·exact h1.2
 ·refine⟨fun hb'=>?_,fP (h.apart b hb).2 hE.size⟩
  rcases hMs b hb' with h1|h1
  ·exact(h.apart b hb).1 h1
  ·have:=(h.apart b hb).2;omega
theorem Lr.own {w:World} {Os Ms:List Nat} {W1 W2:World} (h:Lr w Os Ms W1) (hE:Below w.heap.size w W2) (hs:W1.heap.size<=W2.heap.size):Lr w Os Ms W2:=
 ⟨hE,h.old,fun m hm=>fP (h.bnd m hm) hs,fun b hb=>⟨(h.apart b hb).1,fP (h.apart b hb).2 hs⟩⟩
theorem Lr.put {w:World} {Os Ms:List Nat} {W:World} (h:Lr w Os Ms W) {r:Nat} (o:Obj) (hr:w.heap.size<=r):Lr w Os Ms (W.putObj r o):=
 h.own (h.ext.trans ⟨rfl,rfl,rfl,by simp,fun k hk=>World.putObj_heap_other (by omega)⟩) (by simp)
def qY (ls:List (List Int)):List Value:=ls.flatMap fun x=>ah (rf x)
abbrev FP (f:cZ) (tv v:Value):Array Value:= #[iv f.rows,iv f.aO,iv f.left.1,iv f.left.2,tv,v]
theorem lZ {f:cZ} (hS:rG f) (out:List Int):(df f out).length<=2500:=by
 have h1:=yx (fH f) (Si hS)
 rw[L9] at h1
 have h2:=hS.many
 have h3:(df f out).length<=(qG f).length:=List.length_filter_le _ _
 unfold qG at h3
 omega
structure YT (B:Nat) (f:cZ) (tv:Value) (ls:List (List Int)) (Ms:List Nat) (W:World):Prop where
 work: ∃v,W.heap[B]? =some (.cells (FP f tv v) 95 (0,0))/\W.ownsRow (B+6) 98 7 v ls.length (qY ls)/\ ∀g,v.ownBlock=some g->g∉Ms/\g<W.heap.size
 ptr:W.heap[B+1]? =some (.cells #[.pointer (some ⟨B,0,none⟩)] 90 (0,0))
 b2:W.heap[B+2]? =some (.cells (xn f tv) 29 (0,0))
 b3:W.heap[B+3]? =some (.cells #[.slice none 0 0] 36 (0,0))
theorem YT.kept {B:Nat} {f:cZ} {tv:Value} {ls:List (List Int)} {Ms Ms':List Nat} {W W':World} (h:YT B f tv ls Ms W) (hs:W.heap.size<=W'.heap.size) (hk: ∀b,B<=b->b<B+4->W'.heap[b]? =W.heap[b]?)
 (ho: ∀g,B+6<=g->g<W.heap.size->g∉Ms->W'.heap[g]? =W.heap[g]?) (hM: ∀m∈Ms',m∈Ms∨(W.heap.size<=m/\m<W'.heap.size)):YT B f tv ls Ms' W':=by
 obtain⟨v,h1,h2,h3⟩:=h.work
 refine⟨⟨v,(hk _ (by omega) (by omega)).trans h1,dQ h2 fun g hg=>ho g (bH h2 g hg).1 (bH h2 g hg).2 (h3 g hg).1,fun g hg=>⟨fun hm=>?_,by have:=(h3 g hg).2;omega⟩⟩,
  (hk _ (by omega) (by omega)).trans h.ptr,(hk _ (by omega) (by omega)).trans h.b2,(hk _ (by omega) (by omega)).trans h.b3⟩
 rcases hM g hm with h4|h4
 ·exact(h3 g hg).1 h4
 ·have:=(h3 g hg).2;omega
structure Yr (W:World) (wb:Nat) (f:cZ) (tv v:Value) (ls:List (List Int)):Prop where
 cells:W.heap[wb]? =some (.cells (FP f tv v) 95 (0,0))
 uK:dJ W tv f.au
 truth:aK 7 W v ls.length (qY ls)
theorem Yr.lt {W:World} {wb:Nat} {f:cZ} {tv v:Value} {ls:List (List Int)} (h:Yr W wb f tv v ls):wb<W.heap.size:=(aV.1 h.cells).1
theorem Yr.below {W W':World} {wb:Nat} {f:cZ} {tv v:Value} {ls:List (List Int)} (h:Yr W wb f tv v ls) {B:Nat} (hb:Below B W W') (hB:W.heap.size<=B):Yr W' wb f tv v ls:=
 ⟨(hb.block _ (by have:=h.lt;omega)).trans h.cells,h.uK.below hb hB,h.truth.below hb hB⟩
def fU (f:cZ) (fine:Bool):Int:=if kz f≠0 then kz f else if fine=false then 2 else if(df f []).isEmpty then 11 else 0
def abR (f:cZ) (tv:Value) (fine:Bool) (w:World) (e:Ending) (w':World):Prop:=
 Below w.heap.size w w'/\((fU f fine≠0/\e= .returned (.tuple #[.pointer none,.int .i64 (fU f fine)]))∨
  (fU f fine=0/\ ∃(wb:Nat) (v:Value),e= .returned (.tuple #[.pointer (some ⟨wb,0,none⟩),.int .i64 0])/\w.heap.size<=wb/\Yr w' wb f tv v (df f [])))
theorem Rh (f:cZ) (tv:Value) (g:Nat) (caps:Array Value) (fine:Bool) (w:World) (ht:dJ w tv f.au) (eg: ∀args w,(callFunc g args).run Tryz.prog w= .ok (.enter g args) w)
 (Px: ∀W,Below w.heap.size w W->Calls Tryz.prog g caps W (PV (.bool fine) W)):
 Calls Tryz.prog 39 #[fv f tv,.func (.func g) #[] caps] w (abR f tv fine w):=by
 obtain⟨o,c,rfl⟩:=ht.open
 have HT:=ae ht
 have HF:=ae Px
 clear ht Px
 by_cases hf0:kz f=0
 case neg=>
  have HE:Hid (fU f fine=kz f/\fU f fine≠0):=ae (by unfold fU;rw[aC hf0];exact⟨rfl,hf0⟩)
  have HC:=ae (AX f (.slice o f.au.length c))
  generalize hff:kz f=e at*
  clear hff
  go_enter Tryz.func39,Tryz.ntmps39
  go_wp2_with fail
  refine(HC.o _ (HT.o.alloc _)).mono ?_
  rintro e w' ⟨rfl,hb⟩
  go_wp2_with fail
  go_returns
  exact⟨zl,.inl ⟨HE.o.2,by rw[HE.o.1];simp⟩⟩
 have HC:=ae (fun w=>hf0▸AX f (.slice o f.au.length c) w)
 have oJ:=ae (iI hf0)
 have HF0:=ae hf0
 clear hf0
 cases fine
 ·have HE:Hid (fU f false=2):=ae (by unfold fU;rw[aj (by rw[HF0.o];simp),aC rfl])
  go_enter Tryz.func39,Tryz.ntmps39
  go_wp2_with fail
  refine(HC.o _ (HT.o.alloc _)).mono ?_
  rintro e w' ⟨rfl,hb⟩
  have HB1:=ae (show Below w.heap.size w w' from zl)
  clear hb
  go_wp2_with fail
  refine(HF.o _ HB1.o).mono ?_
  rintro e w2 ⟨rfl,hb⟩
  have HB2:=ae (aX HB1.o hb)
  clear hb
  go_wp2_with fail
  go_returns
  exact⟨HB2.o,.inl ⟨by rw[HE.o];simp,by rw[HE.o];simp⟩⟩
 have HE:Hid (fU f true=if(df f []).isEmpty then 11 else 0):=ae (by unfold fU;rw[aj (by rw[HF0.o];simp),aj (by simp)])
 refine(callsIn_wide (n:=0)).1 ?_
 refine callsIn_of_wp_marks Tryz.func39 rfl trivial ?_
 simp only[Tryz.ntmps39,List.size_toArray,List.length_cons,List.length_nil,Nat.reduceAdd,Nat.reduceSub,Array.replicate_succ,Array.replicate_zero,lL,lM,List.nil_append,List.cons_append]
 gi_wp2_with fail
 refine(callsIn_wide.2 (HC.o _ (HT.o.alloc _))).mono ?_
 rintro e w1 ⟨rfl,hb⟩
 obtain⟨hc1,hf1⟩:=bV hb
 have hz1:w.heap.size<w1.heap.size:=by have:=hb.size;simp at this;omega
 have HB1:=ae (show Below w.heap.size w w1 from zl)
 clear hb
 gi_wp2_with fail
 refine(callsIn_wide.2 (HF.o _ HB1.o)).mono ?_
 rintro e w2 ⟨rfl,hb⟩
 obtain⟨hc2,hf2⟩:=bV hb
 have hz2:w.heap.size<w2.heap.size:=by have:=hb.size;omega
 have HB2:=ae (aX HB1.o hb)
 clear hb
 gi_wp2_with fail
 refine(callsIn_wide.2 (NS f _ none 0 0 _)).mono ?_
 rintro e w3 ⟨rfl,rfl⟩
 gi_wp2_with fail
 obtain⟨B,qx⟩: ∃B,w2.heap.size=B:=⟨_,rfl⟩
 rw[qx]
 obtain⟨w4,hw4⟩: ∃w4,((((w2.alloc (.cells #[iv f.rows,iv f.aO,iv f.left.1,iv f.left.2,.slice o f.au.length c,.slice none 0 0] 95)).alloc (.cells #[.pointer (some ⟨B,0,none⟩)] 90)).alloc (.cells (xn f (.slice o f.au.length c)) 29)).alloc (.cells #[.slice none 0 0] 36))=w4:=⟨_,rfl⟩
 have aeQ:w4.heap.size=B+4:=by rw[<-hw4];simp;omega
 have hwB:w.heap.size<B:=by omega
 have HB4:Hid (Below w.heap.size w w4):=ae (by rw[<-hw4];exact ak (ak (ak (ak HB2.o _) _) _) _)
 have HA4:Hid (YT B f (.slice o f.au.length c) [] [] w4):=ae (by
  rw[<-hw4]
  refine⟨⟨.slice none 0 0,?_,⟨rfl,.inl ⟨rfl,rfl⟩⟩,fun g hg=>by cases hg⟩,?_,?_,?_⟩
  ·rw[<-qx];exact(aW _ _ _ (by simp;omega)).trans ((aW _ _ _ (by simp;omega)).trans ((aW _ _ _ (by simp)).trans (ay _ _)))
  ·rw[<-qx];exact(aW _ _ _ (by simp)).trans ((aW _ _ _ (by simp)).trans (ed _ _ _))
  ·rw[<-qx];exact(aW _ _ _ (by simp)).trans (iD _ _ _ _)
  ·rw[<-qx];exact mg _ _ _ _ _)
 rw[hw4]
 clear hw4 hc1 hf1 hz1 hc2 hf2
 have KL: ∀b,b∈[w.heap.size,B,B+1,B+2,B+3,B+4,B+5]↔b=w.heap.size∨(B<=b/\b<B+6):=fun b=>by simp;omega
 obtain⟨Os,PD⟩: ∃Os,[w.heap.size,B,B+1,B+2,B+3,B+4,B+5]=Os:=⟨_,rfl⟩
 rw[PD] at KL
 clear PD
 have HT':Hid (∀W,Below w.heap.size w W->dJ W (.slice o f.au.length c) f.au):=ae (fun W hb=>HT.o.below hb (ai _))
 refine mX (NR f oJ.o (.slice o f.au.length c) (.slice none 0 0) [] (B+1+1) (B+1+1+1)) rfl (enters_of Tryz.func119 (by kernel_rfl) rfl) rfl (by simp)
  (fun Ms k W=>Lr w Os Ms W/\YT B f (.slice o f.au.length c) ((df f []).take k) Ms W)
  (fun _ _ _=>False)
  ?hInv ?um ?hI ?hIx ?Q3 ?yJ ?h0
  (fun a Ms k W1 a₁ W=> ∃(x:List Int) (bt:Nat),(df f [])[k]? =some x/\a₁={tmps:=(a.tmps.setIfInBounds 24 (lY (rf x))).setIfInBounds 8 (.pointer (some ⟨bt,0,none⟩)),defers:=[]}/\
    (Lr w Os Ms W/\YT B f (.slice o f.au.length c) ((df f []).take k) Ms W)/\(W.heap[bt]? =some (.cells (ah (rf x)).toArray 98 (0,0))/\B+6<=bt/\bt∉Ms/\(∀v,W.heap[B]? =some (.cells (FP f (.slice o f.au.length c) v) 95 (0,0))->v.ownBlock≠some bt))/\
    (∀m∈Ms,m∉([]:List Nat)->m<W1.heap.size->W.heap[m]? =W1.heap[m]?)/\W1.heap.size<=W.heap.size)
  ?TQ ?hassign ?hbody ?hdone ?hstop
 case hInv=>
  rintro Ms k W ⟨hF,hP⟩
  exact⟨hP.b2,hP.b3,HT'.o W hF.ext,aK.nil 1 W⟩
 case um=>rintro cd Ms W h;exact h.elim
 case hI=>
  rintro Ms Ms' k Wa Wb ⟨hF,hP⟩ hE hMs _
  exact⟨(hF.ja hE hMs).1,hP.kept hE.size (fun b h1 h2=>(hF.ja hE hMs).2 b ((KL b).2 (by omega))) (fun g h1 h2 h3=>hE.block g h2 h3) hMs⟩
 case hIx=>rintro cd Ms Ms' Wa Wb h;exact h.elim
 case Q3=>
  rintro Ms k W r ob ⟨hF,hP⟩ hr
  exact⟨hF.put ob (by omega),hP.kept (by simp) (fun b h1 h2=>World.putObj_heap_other (by omega)) (fun g h1 h2 h3=>World.putObj_heap_other (by omega)) (fun m hm=> .inl hm)⟩
 case yJ=>rintro cd Ms W r ob h;exact h.elim
 case h0=>
  intro o1 o2
  refine⟨⟨ak (ak HB4.o _) _,by simp,by simp,fun b hb=>⟨by simp,by have:=(KL b).1 hb;simp;omega⟩⟩,?_⟩
  rw[List.take_zero]
  exact HA4.o.kept (by simp;omega) (fun b h1 h2=>(aW _ _ _ (by simp;omega)).trans (aW _ _ _ (by omega))) (fun g h1 h2 h3=>by omega) (fun m hm=> .inl hm)
 case TQ=>
  rintro Ms k W1 a₁ W ob ⟨x,bt,hx,ha,⟨hF,hP⟩,⟨hbt,hb6,hbM,hbv⟩,hk,hs⟩
  have hap:=(hF.apart (B+5) ((KL _).2 (by omega))).1
  refine⟨x,bt,hx,ha,⟨hF.put ob (by omega),hP.kept (by simp) (fun b h1 h2=>World.putObj_heap_other (by omega)) (fun g h1 h2 h3=>World.putObj_heap_other (by omega)) (fun m hm=> .inl hm)⟩,
   ⟨(World.putObj_heap_other (by omega)).trans hbt,hb6,hbM,fun v hv=>hbv v ((World.putObj_heap_other (by omega)).symm.trans hv)⟩,
   fun m hm h0 hml=>(World.putObj_heap_other (fun e=>hap (by rw[show B+5=m by omega];exact hm))).trans (hk m hm h0 hml),by simpa using hs⟩
 case hassign=>
  rintro Ms k v W hk ⟨hF,hP⟩ hE hlt
  obtain rfl:v=lY (rf (df f [])[k]):=hE
  have hxk:(df f [])[k]? =some (df f [])[k]:=dA hk
  have hxl:=oQ (bT hk)
  generalize (df f [])[k]=x at*
  have Vp:=oJ.o.qP
  obtain⟨y0,y1,y2,y3,y4,y5,y6,hys⟩:=tC (wz (x:=x) (by omega))
  have hYS:=ae hys
  rw[hys]
  rw[show lY [y0,y1,y2,y3,y4,y5,y6]= .agg #[iv y0,iv y1,iv y2,iv y3,iv y4,iv y5,iv y6] from rfl]
  gi_wp2
  have hB':Below W.heap.size W (W.alloc (.cells #[iv y0,iv y1,iv y2,iv y3,iv y4,iv y5,iv y6] 98)):=ak (aG _ _) _
  refine⟨⟨x,W.heap.size,hxk,?_,⟨(hF.ja (Ext.az hB') (fun m hm=> .inl hm)).1,hP.kept (by simp) (fun b h1 h2=>aW _ _ _ (by omega)) (fun g h1 h2 h3=>aW _ _ _ (by omega)) (fun m hm=> .inl hm)⟩,
   ⟨?_,by omega,fun hm=>by have:=hF.bnd _ hm;omega,fun v hv e=>?_⟩,fun m hm h0 hml=>aW _ _ _ (by omega),by simp⟩,aW _ _ _ (by omega),aW _ _ _ (by omega)⟩
  ·rw[hYS.o];rfl
  ·rw[hYS.o];exact ay _ _
  ·obtain⟨v0,h1,h2,h3⟩:=hP.work
   have h4:=(aW _ _ _ (by omega)).symm.trans hv
   rw[h1] at h4
   simp only[Option.some.injEq,Obj.cells.injEq,and_true,Array.mk.injEq,List.cons.injEq,true_and] at h4
   subst h4
   have:=(h3 _ e).2
   omega
 case hbody=>
  rintro Ms k W1 a₁ W busy hk ⟨x,bt,hx,rfl,⟨hF,hP⟩,⟨hbt,hb6,hbM,hbv⟩,hkeep,hsz⟩ hrec hD
  simp only[uD,List.set_cons_succ,List.set_cons_zero]
  obtain⟨v,hv1,hv2,hv3⟩:=hP.work
  obtain⟨vo,vc,rfl⟩:=aT hv2
  have aaI:=hbv _ hv1
  obtain⟨c1,f1,l1⟩:=af hP.ptr
  obtain⟨c2,f2,l2⟩:=af hv1
  have hxl:=oQ (mG hx)
  have Vp:=oJ.o.qP
  obtain⟨y0,y1,y2,y3,y4,y5,y6,hys⟩:=tC (wz (x:=x) (by omega))
  have Hy:=hbt
  rw[hys] at Hy
  obtain⟨c3,f3,l3⟩:=af (show W.heap[bt]? =some (.cells #[iv y0,iv y1,iv y2,iv y3,iv y4,iv y5,iv y6] 98 (0,0)) from Hy)
  have hw:=(hF.apart w.heap.size ((KL _).2 (.inl rfl)))
  obtain⟨gx,hgx,acV,hgx2,BN,acU,apT⟩: ∃gx,(∀g,(Value.slice vo ((df f []).take k).length vc).ownBlock=some g->g=gx)/\(gx=w.heap.size∨B+6<=gx)/\gx<W.heap.size/\gx∉Ms/\gx≠bt/\w.heap.size<=gx:=by
   cases hob:(Value.slice vo ((df f []).take k).length vc).ownBlock with
   |none=>exact⟨w.heap.size,(fun g hg=>by cases hg),.inl rfl,hw.2,hw.1,by omega,by omega⟩
   |some g=>
    have h1:=bH hv2 g hob
    have h2:=hv3 g hob
    exact⟨g,(fun g' hg=>by cases hg;rfl),.inr h1.1,h1.2,h2.1,fun e=>aaI (by rw[hob,e]),by omega⟩
  have hkl:((df f []).take k).length=k:=by rw[gX];omega
  rw[hkl] at hv1 hv2 hgx c2 hv3
  have ae3:k<=2500:=by have:=lZ oJ.o [];omega
  have HF:=ae hF
  have HP:=ae hP
  have HV:=ae (ag hv1 (ag hv2 hv3))
  have HX:=ae (ag hx (ag hys hxl))
  have HK:=ae (ag hkeep (ag hrec hD))
  have HG:=ae hgx
  have HBT:=ae Hy
  clear hF hP hv1 hv2 hv3 hx hys hxl hkeep hrec hD hgx hbt Hy hbv aaI hw
  have q1:gx≠B:=by omega
  have q2:gx≠B+1:=by omega
  have q1':B≠gx:=by omega
  have q2':B+1≠gx:=by omega
  have q3':bt≠gx:=by omega
  gi_wp2_with fail
  refine dW 8 [gx] (some 7) [(6,Spec.slice W.heap.size #[iv y0,iv y1,iv y2,iv y3,iv y4,iv y5,iv y6] 98 1),(7,⟨fun _ v=> ∃o c,v= .slice o (k+1) c,fun _ v Wx=>Wx.ownsRow (B+6) 98 7 v (k+1) (qY ((df f []).take (k+1)))/\(∀g,v.ownBlock=some g->g=gx∨W.heap.size<=g)⟩)] (by kernel_rfl) (by kernel_rfl) (by kernel_rfl) ?_
  simp only[zt]
  repeat ((first|refine zn ?_|refine zk ?_);simp only[zp])
  refine cu W.heap.size _ _ 1 (by rfl) (ai _) (by rfl) (by simpa using hgx2) (by simp) (fun W hW=>by go_simp;try rfl) (fun b6=>?_)
  simp only[zp]
  refine bJ _ (by rfl) (by rfl) (by exact⟨.slice none (k+1) 0,none,0,rfl⟩) (fun W6 hE hF=>?_) (fun v Wa Wb ho hE=>?_) (fun v hv=>?_)
  ·have hE':Ext [] W W6:=hE
   obtain⟨b',hb',hge,hcc⟩:=hF _ (bg _) (by kernel_rfl)
   cases hb'
   have hown6:=aA (Ms:=[]) HV.o.2.1 hE' (by simp)
   have hsrc:aK 7 W6 (.slice (some ⟨b6,0,none⟩) 1 1) 1 (ah (rf x)):=by
    rw[HX.o.2.1]
    exact aK.dw 7 1 hcc rfl (by decide)
   refine Does.mono (dU akf (by rfl) (by rfl) hown6 (by rfl) hsrc (jD _) (by omega) (by omega) (by have:=hE'.size;omega)) ?_
   rintro v' W7 ⟨ho,hgr,hcase⟩
   refine⟨aT ho,⟨?_,fun g hg=>?_⟩,⟨hgr.os,hgr.tape,hgr.output,hgr.size,fun b hb hn=>hgr.block b hb (fun e=>hn (by rw[HG.o b e.symm];simp))⟩⟩
   ·have hl:(df f []).take (k+1)=(df f []).take k++[x]:=by
     rw[rF,HX.o.1];rfl
    rw[hl]
    unfold qY
    rw[vO]
    simpa [qY] using ho
   ·rcases hcase with h1|h1
    ·exact .inl (HG.o g (by rw[<-h1,hg]))
    ·rw[hg] at h1;injection h1 with h1;exact .inr (by have:=hE'.size;omega)
  ·exact⟨aA (Ms:=[]) ho.1 hE (by simp),ho.2⟩
  obtain⟨o7,c7,rfl⟩:=hv
  simp only[zp]
  intro W8 hE hF
  have hE':Ext [gx] W W8:=hE
  obtain⟨qM,AA⟩:=hF _ (bg _)
  have aeM:W8.heap[B]? =some (.cells (FP f (.slice o f.au.length c) (.slice vo k vc)) 95 (0,0)):=(hE'.block _ l2 (by simpa using q1')).trans HV.o.1
  obtain⟨c8,f8,l8⟩:=af aeM
  have iZ:=ae hE'
  have HO8:=ae (ag qM (ag AA aeM))
  clear hE hF hE' qM AA c1 f1 l1 c2 f2 c3 f3 l3 aeM
  gi_wp2_with fail
  have ak5:k+1=((df f []).take (k+1)).length:=by rw[gX];omega
  obtain⟨v',hv'⟩: ∃v',Value.slice o7 (k+1) c7=v':=⟨_,rfl⟩
  rw[hv'] at HO8⊢
  have TF:(W8.setCell ⟨B,5,none⟩ v').heap.size=W8.heap.size:=by simp[World.setCell]
  have hs8:=iZ.o.size
  have hks: ∀b,b<W.heap.size->b≠gx->b≠B->(W8.setCell ⟨B,5,none⟩ v').heap[b]? =W.heap[b]? :=fun b hb h1 h2=>
   (dL _ _ _ _ h2).trans (iZ.o.block b hb (by simpa using h1))
  have hap: ∀b∈Os,b∉Ms/\b<W.heap.size:=HF.o.apart
  have hin: ∀b,B<=b->b<B+6->b∈Os:=fun b h1 h2=>(KL b).2 (by omega)
  have hFB:Lr w Os Ms (W8.setCell ⟨B,5,none⟩ v'):=HF.o.own (HF.o.ext.trans ⟨iZ.o.os,iZ.o.tape,iZ.o.output,by rw[TF];exact hs8,fun b hb=>(dL _ _ _ _ (by show b≠B;omega)).trans (iZ.o.block b (by have:=HF.o.ext.size;omega) (by simp;omega))⟩) (by rw[TF];exact hs8)
  refine⟨⟨?_,?_,fun m hm h0 hml=>?_,by rw[TF];omega⟩,hFB,⟨v',aI HO8.o.2.2 _,ak5▸dQ HO8.o.1 fun g hg=>dL _ _ _ _ (by have:=(bH HO8.o.1 g hg).1;show g≠B;omega),fun g hg=>⟨fun hm=>?_,by rw[TF];exact(bH HO8.o.1 g hg).2⟩⟩,?_,?_,?_⟩
  ·exact(hks _ (hap _ (hin (w4.heap.size+1) (by omega) (by omega))).2 (by omega) (by omega)).trans HK.o.2.1
  ·exact(hks _ (hap _ (hin w4.heap.size (by omega) (by omega))).2 (by omega) (by omega)).trans HK.o.2.2
  ·exact(hks m (HF.o.bnd m hm) (fun e=>BN (e▸hm)) (fun e=>(hap B (hin B (by omega) (by omega))).1 (e▸hm))).trans (HK.o.1 m hm h0 hml)
  ·rcases HO8.o.2.1 g hg with h1|h1
   ·exact BN (h1▸hm)
   ·have:=HF.o.bnd g hm;omega
  ·exact(hks _ (hap _ (hin (B+1) (by omega) (by omega))).2 (by omega) (by omega)).trans HP.o.ptr
  ·exact(hks _ (hap _ (hin (B+2) (by omega) (by omega))).2 (by omega) (by omega)).trans HP.o.b2
  ·exact(hks _ (hap _ (hin (B+3) (by omega) (by omega))).2 (by omega) (by omega)).trans HP.o.b3
 case hdone=>
  rintro Ms W ⟨hF,hP⟩ hD hlt
  rw[List.take_length] at hP
  obtain⟨v,hv1,hv2,hv3⟩:=hP.work
  obtain⟨vo,vc,rfl⟩:=aT hv2
  obtain⟨c1,f1,l1⟩:=af hP.ptr
  obtain⟨c2,f2,l2⟩:=af hv1
  have Lp:=ae hF
  have HV:=ae (ag hv1 hv2)
  have HL:=ae (lZ oJ.o [])
  clear hF hP hv1 hv2 hv3
  by_cases hn:(df f []).length=0
  ·have hn':((((df f []).length:Nat):Int)==0)=true:=by simpa using hn
   have aix:fU f true=11:=by rw[HE.o,aC (by simpa using hn)]
   have abM:=ae aix
   clear aix hn
   gi_wp2_with fail
   refine⟨by simp,.inl ⟨_,_,rfl,run_takeDeferred hD,?_⟩⟩
   exact⟨.tuple #[.pointer none,.int .i64 11],by simp[results,Tryz.results39,go_sem],(Lp.o.put (Obj.deferred none) (by omega)).ext,.inl ⟨by rw[abM.o];simp,by rw[abM.o]⟩⟩
  ·have hn':((((df f []).length:Nat):Int)==0)=false:=by simpa using hn
   have hE0:fU f true=0:=by rw[HE.o,aj (by simpa using hn)]
   have HE0:=ae hE0
   clear hE0 hn
   gi_wp2_with fail
   refine⟨by simp,.inl ⟨_,_,rfl,run_takeDeferred hD,?_⟩⟩
   refine⟨.tuple #[.pointer (some ⟨B,0,none⟩),.int .i64 0],by simp[results,Tryz.results39,go_sem],(Lp.o.put (Obj.deferred none) (by omega)).ext,.inr ⟨HE0.o,B,.slice vo (df f []).length vc,rfl,by omega,?_,HT'.o _ (Lp.o.put (Obj.deferred none) (by omega)).ext,?_⟩⟩
   ·exact(World.putObj_heap_other (by omega)).trans HV.o.1
   ·exact aK.dR (dQ HV.o.2 fun g hg=>World.putObj_heap_other (by have:=(bH HV.o.2 g hg).1;omega))
 case hstop=>rintro cd Ms W h;exact h.elim
end Go.Proofs.YthbpmepjmebolaaGreatDoor
namespace Go.Proofs.YthbpmepjmebolaaGreatDoor
open Go.RowKit Go.RG Go.SL Go.Shelf jC Go.TB
theorem Ls (a b:Int) (g c:Nat) (w:World) (h0:w.cell? ⟨g,0,none⟩=some (iv a)) (h1:w.cell? ⟨g,1,none⟩=some (iv b)):
 Calls Tryz.prog 71 #[.slice (some ⟨g,0,none⟩) 2 c] w (PV (iv (min a b)) w):=by
 have H:=ae (BD a b g c w h0 h1)
 go_enter Tryz.func71,Tryz.ntmps71
 go_wp2_with fail
 refine H.o.mono ?_
 rintro e w' ⟨rfl,hb⟩
 go_wp2_with fail
 go_returns
 exact⟨by simp,hb⟩
theorem Q8 (r:dY) (n:Int) (w:World):Calls Tryz.prog 42 #[rv r,iv n] w (PV (rv (wid r n)) w):=by
 go_enter Tryz.func42,Tryz.ntmps42
 go_wp2_with fail
 refine zg 10 [] none [(3,Spec.slice (w.heap.size+2) #[iv r.1,iv n] 3 2),(4,Spec.val (iv (min r.1 n)))] ?_
 simp only[zt]
 repeat (refine zd ?_;simp only[zp])
 refine cu (w.heap.size+2) _ _ _ (by rfl) (by simp) (by rfl) (by simp) (by simp) (fun W hW=>by go_simp;try rfl) (fun b=>?_)
 simp only[zp]
 refine dK _ (by rfl) (by rfl) 71 _ (fun W hW=>by go_simp;try rfl) (fun W hE hF=>?_) ?_
 ·obtain⟨c,hcb,hB,hc⟩:=hF _ (bg _) (by kernel_rfl)
  cases hcb
  exact Ls r.1 n b 2 W (by simp[World.cell?,hc]) (by simp[World.cell?,hc])
 simp only[zp]
 repeat (refine zd ?_;simp only[zp])
 intro W hE hF
 obtain⟨hc,hf⟩:=bV hE.below
 have hzE:=hE.size
 (try simp only[bI] at hzE)
 go_wp2
 all_goals
  (try simp only[Exit.inBlock,Exit.then])
  refine bodyPost_ret (v:=rv (min r.1 n,max r.2 n)) (by simp[results,Tryz.results42,go_sem,hc];try omega) rfl ?_
  exact⟨rfl,ze⟩
theorem QG {w:World} {o:Option Addr} {n c:Nat} {ls:List (List Int)} (h:aK 7 w (.slice o n c) ls.length (qY ls)) (h7: ∀x∈ls,x.length<=7) {k:Nat} (hk:k<ls.length):
 ∃b off y0 y1 y2 y3 y4 y5 y6,o=some ⟨b,off,none⟩/\b<w.heap.size/\rf ls[k]=[y0,y1,y2,y3,y4,y5,y6]/\w.cell? ⟨b,off+k*7,none⟩=some (iv y0)/\w.cell? ⟨b,off+k*7+1,none⟩=some (iv y1)/\
  w.cell? ⟨b,off+k*7+2,none⟩=some (iv y2)/\w.cell? ⟨b,off+k*7+3,none⟩=some (iv y3)/\w.cell? ⟨b,off+k*7+4,none⟩=some (iv y4)/\w.cell? ⟨b,off+k*7+5,none⟩=some (iv y5)/\w.cell? ⟨b,off+k*7+6,none⟩=some (iv y6):=by
 obtain⟨hl,o',c',hv,h1,h2,h3,h4⟩:=h
 cases hv
 obtain⟨y0,y1,y2,y3,y4,y5,y6,hys⟩:=tC (wz (h7 _ (bT hk)))
 cases o with
 |none=>have:=h3 rfl;omega
 |some a=>
  obtain⟨b,off,sp⟩:=a
  obtain⟨hs,hc⟩:=h4 _ rfl
  simp only at hs hc
  subst hs
  have g: ∀j (hj:j<7),(qY ls)[k*7+j]? =[iv y0,iv y1,iv y2,iv y3,iv y4,iv y5,iv y6][j]? :=fun j hj=>by
   unfold qY
   have: ∀(ls:List (List Int)) (k:Nat) (hk:k<ls.length),(∀x∈ls,x.length<=7)->(ls.flatMap fun x=>ah (rf x))[k*7+j]? =(ah (rf ls[k]))[j]? :=by
    intro ls
    induction ls with
    |nil=>intro k hk;simp at hk
    |cons x ls ih=>
     intro k hk h7
     have hx:(ah (rf x)).length=7:=by simp[ah,wz (h7 x (by simp))]
     rw[List.flatMap_cons]
     cases k with
     |zero=>simp only[Nat.zero_mul,Nat.zero_add,List.getElem_cons_zero];rw[vP (by omega)]
     |succ k=>
      rw[nT (by omega),hx,show(k+1)*7+j-7=k*7+j from by omega]
      simpa using ih k (by simpa using hk) (fun y hy=>h7 y (by simp[hy]))
   rw[this ls k hk h7,hys]
   rfl
  have r0:=hc (k*7+0) (iv y0) (by rw[g 0 (by omega)];rfl)
  have r1:=hc (k*7+1) (iv y1) (by rw[g 1 (by omega)];rfl)
  have r2:=hc (k*7+2) (iv y2) (by rw[g 2 (by omega)];rfl)
  have r3:=hc (k*7+3) (iv y3) (by rw[g 3 (by omega)];rfl)
  have r4:=hc (k*7+4) (iv y4) (by rw[g 4 (by omega)];rfl)
  have r5:=hc (k*7+5) (iv y5) (by rw[g 5 (by omega)];rfl)
  have r6:=hc (k*7+6) (iv y6) (by rw[g 6 (by omega)];rfl)
  rw[Nat.add_zero] at r0
  rw[<-Nat.add_assoc] at r1 r2 r3 r4 r5 r6
  exact⟨b,off,y0,y1,y2,y3,y4,y5,y6,rfl,dP w _ r0,hys,r0,r1,r2,r3,r4,r5,r6⟩
theorem XM (caps:Array Value) (hc:caps= #[]) (w:World):Calls Tryz.prog 40 caps w (PV (.bool true) w):=by
 subst hc
 go_enter Tryz.func40,Tryz.ntmps40
 go_wp2
 go_returns
 exact⟨by simp,aG _ _⟩
def yu (f:cZ) (ls:List (List Int)) (i:Int) (k:Nat):dY:=(ls.take k).foldl (fun r a=>wid r (mP f a i)) (mP f (ls.getD 0 []) i,mP f (ls.getD 0 []) i)
theorem JW {f:cZ} {ls:List (List Int)} {i:Int} {k:Nat} (hk:k<ls.length):yu f ls i (k+1)=wid (yu f ls i k) (mP f ls[k] i):=by
 unfold yu
 rw[iy hk,List.foldl_append]
 rfl
theorem BZ {f:cZ} (hS:rG f) (a:List Int) (i:Int):0<=mP f a i/\mP f a i<=7:=by
 unfold mP Iq
 have:=Nh a i (0:Int).toNat (f.rows-1+1-0).toNat
 have:=hS.qP
 have:=hS.zW
 omega
theorem LV {f:cZ} (hS:rG f) (ls:List (List Int)) (i:Int): ∀k,k<=ls.length->(0<=(yu f ls i k).1/\(yu f ls i k).1<=7)/\(0<=(yu f ls i k).2/\(yu f ls i k).2<=7):=by
 intro k
 induction k with
 |zero=>intro _;have:=BZ hS (ls.getD 0 []) i;simp only[yu,List.take_zero,List.foldl_nil];omega
 |succ k ih=>
  intro hk
  rw[JW (by omega)]
  have:=ih (by omega)
  have:=BZ hS ls[k] i
  unfold wid
  simp only
  omega
def BX (f:cZ):List dY:=(List.range f.aO.toNat).map fun(i:Nat)=>yu f (df f []) (i:Int) (df f []).length
def abQ (f:cZ) (w:World) (e:Ending) (w':World):Prop:=
 Below w.heap.size w w'/\((fU f true≠0/\e= .returned (.tuple #[.slice none 0 0,iv (fU f true)]))∨(fU f true=0/\ ∃v,e= .returned (.tuple #[v,iv 0])/\bM w' v (BX f)))
theorem KT (f:cZ) (tv:Value) (x:List Int) (y0 y1 y2 y3 y4 y5 y6:Int) (hys:rf x=[y0,y1,y2,y3,y4,y5,y6]) (who:Int) (hS:rG f) (W:World):
 Calls Tryz.prog 41 #[fv f tv,.agg #[iv y0,iv y1,iv y2,iv y3,iv y4,iv y5,iv y6],iv who] W (PV (iv (mP f x who)) W):=by
 have:=PO f tv (rf x) (by rw[hys];rfl) who W hS.zW hS.qP
 rw[aa5,hys] at this
 exact this
theorem acd:iR Tryz.prog 56 26 (rv (0,0)) 2 16:=⟨Tryz.underlying56,by kernel_rfl,rfl,by omega⟩
theorem sO {f:cZ} {b:Bool} (h:fU f b=0):rG f/\0<(df f []).length/\b=true:=by
 unfold fU at h
 split at h
 ·omega
 ·rename_i h1
  split at h
  ·omega
  ·rename_i h2
   split at h
   ·omega
   ·rename_i h3
    refine⟨iI (by omega),?_,by simpa using h2⟩
    cases hl:df f [] with
    |nil=>rw[hl] at h3;simp at h3
    |cons x l=>simp
theorem CZ (f:cZ) (tv:Value) (w:World) (ht:dJ w tv f.au):Calls Tryz.prog 15 #[fv f tv] w (abQ f w):=by
 obtain⟨o,c,rfl⟩:=ht.open
 have HA:=ae (Rh f (.slice o f.au.length c) 40 #[] true (w.alloc (.cells (xn f (.slice o f.au.length c)) 29)) (ht.alloc _) (enters_of Tryz.func40 (by kernel_rfl) rfl) (fun W _=>XM #[] rfl W))
 clear ht
 go_enter Tryz.func15,Tryz.ntmps15
 go_wp2_with fail
 refine HA.o.mono ?_
 rintro e w1 ⟨hb,⟨hne,rfl⟩|⟨h0,wb,v,rfl,hwb,hwk⟩⟩
 ·have HB:=ae (show Below w.heap.size w w1 from zl)
  obtain⟨q,hq⟩: ∃q,fU f true=q:=⟨_,rfl⟩
  rw[hq] at hne⊢
  have HN:=ae (ag hq hne)
  have hneb:(q==0)=false:=by simpa using hne
  clear hb hne hq
  go_wp2_with fail
  go_returns
  exact⟨HB.o,.inl ⟨by rw[HN.o.1];exact HN.o.2,by rw[HN.o.1];simp⟩⟩
 have HB:=ae (show Below w.heap.size w w1 from zl)
 clear hb
 obtain⟨hS,hpos,_⟩:=sO h0
 have adX: ∀x∈df f [],x.length<=7:=fun x hx=>by have:=oQ hx;have:=hS.qP;omega
 have hcnt:=lZ hS []
 obtain⟨vo,vc,rfl⟩:=hwk.truth.open
 have HS:=ae hS
 have FZ:=ae hwk
 obtain⟨dl,ae9⟩: ∃dl,BX f=dl:=⟨_,rfl⟩
 have HDE:=ae ae9
 have HDL:Hid (dl=(List.range f.aO.toNat).map fun(i:Nat)=>yu f (df f []) (i:Int) (df f []).length):=ae (by rw[<-ae9];rfl)
 clear ae9
 have hw3:=hS.xH
 have hw0:=hS.zV
 have H0:=ae h0
 generalize df f []=ls at*
 obtain⟨n,hn⟩: ∃n:Nat,f.aO=n:=⟨f.aO.toNat,by omega⟩
 have HN:=ae hn
 obtain⟨c1,f1,l1⟩:=af hwk.cells
 have hn3:n<=3:=by omega
 rw[hn,Int.toNat_natCast] at HDL
 clear hwk hS h0 hn
 go_wp2_with fail
 rw[HN.o]
 have HL:=ae (ag hpos (ag adX hcnt))
 clear hpos adX hcnt hw3 hw0
 go_loopw [6,25] (fun ov u wr=> ∃i:Nat,i<=n/\u= .int .i64 i/\(∃oo oc,ov= .slice oo i oc/\wr.ownsRow w1.heap.size 26 2 (.slice oo i oc) i (aH (dl.take i)))/\Below w1.heap.size w1 wr) (fun _ u _=>n-(intOf u).toNat)
 case atStart=>exact⟨0,bW _,rfl,⟨none,0,rfl,⟨rfl,.inl ⟨rfl,rfl⟩⟩⟩,aG _ _⟩
 case round=>
  obtain⟨i,hi,rfl,⟨oo,oc,rfl,how⟩,hB⟩:=hrel
  by_cases hlt:i<n
  ·have hwr:=FZ.o.below hB (ai _)
   obtain⟨d1,g1,m1⟩:=af hwr.cells
   obtain⟨b,off,y0,y1,y2,y3,y4,y5,y6,hvv,hb,hys,r0,r1,r2,r3,r4,r5,r6⟩:=QG hwr.truth HL.o.2.1 HL.o.1
   subst hvv
   have hD:=KT f (.slice o f.au.length c) _ y0 y1 y2 y3 y4 y5 y6 hys (i:Int) HS.o
   have hr0:yu f ls (i:Int) 0=(mP f (ls[0]'HL.o.1) i,mP f (ls[0]'HL.o.1) i):=by
    unfold yu
    rw[show ls.getD 0 []=ls[0]'HL.o.1 from by simp[List.getD,HL.o.1]]
    rfl
   have hdb:=BZ HS.o (ls[0]'HL.o.1) (i:Int)
   generalize mP f (ls[0]'HL.o.1) (i:Int)=d at*
   have HD:=ae hD
   have HR0:=ae hr0
   have HB':=ae hB
   have HOW:=ae how
   clear hys hD hr0 hB how
   simp only[Nat.zero_mul,Nat.add_zero] at r0 r1 r2 r3 r4 r5 r6
   have hpos0:0<ls.length:=HL.o.1
   have apH:ls.length<=2500:=HL.o.2.2
   go_upto_region 8 with(fail)
   refine zg 12 [] none [(11,Spec.val (iv d))] ?_
   simp only[zt]
   repeat ((first|refine zn ?_|refine zk ?_);simp only[zp])
   refine zw 41 (h:=fun W hE hF=>by exact HD.o W) (t:=?_)
   simp only[zp]
   intro W hE hF
   obtain⟨hc,hf⟩:=bV hE.below
   have hzE:=hE.size
   (try simp only[bI] at hzE)
   have Y8:=ae (show Below w1.heap.size w1 W from aX HB'.o hE.below)
   have hoW:=aA (Ms:=[]) HOW.o hE (by simp)
   have hwW:=FZ.o.below Y8.o (ai _)
   have afW:=ae hoW
   clear hE hF hc hf r0 r1 r2 r3 r4 r5 r6 hb d1 g1 m1 hoW hzE
   obtain⟨d1,g1,m1⟩:=af hwW.cells
   have hsW:=Y8.o.size
   go_upto_region 10 with(fail)
   refine dH fun W9 MV=>?_
   have hB9:Below W.heap.size W W9:=by rw[MV];exact zl
   have hk9:W9.heap[W.heap.size]? =some (.cells #[iv d,iv d] 26 (0,0)):=by rw[MV];exact ay _ _
   have rW:=aX Y8.o hB9
   have Vq:=aA (Ms:=[]) afW.o (Ext.az hB9) (by simp)
   have Jo: ∀g,(Value.slice oo i oc).ownBlock=some g->g≠W.heap.size:=fun g hg=>by have:=(bH afW.o g hg).2;omega
   have hw9:=FZ.o.below rW (ai _)
   clear MV d1 g1 m1 hwW
   obtain⟨d1,g1,m1⟩:=af hw9.cells
   have HG9:=ae Jo
   have HH9:=ae (ag rW (ag hk9 (ag Vq hw9)))
   have hbW:w1.heap.size<=W.heap.size:=hsW
   obtain⟨b9,aff⟩: ∃b9,W.heap.size=b9:=⟨_,rfl⟩
   rw[aff] at HG9 HH9 hbW
   rw[aff]
   clear Jo rW hk9 Vq hw9 hB9 hsW Y8 afW aff
   go_wp2_with fail
   go_loopw [48] (fun u wq=> ∃k:Nat,k<=ls.length/\u= .int .i64 k/\wq.heap[b9]? =some (.cells #[iv (yu f ls i k).1,iv (yu f ls i k).2] 26 (0,0))/\wq.ownsRow w1.heap.size 26 2 (.slice oo i oc) i (aH (dl.take i))/\Below w1.heap.size w1 wq) (fun u _=>ls.length-(intOf u).toNat)
   case atStart=>exact⟨0,bW _,rfl,by rw[HR0.o];exact HH9.o.2.1,HH9.o.2.2.1,HH9.o.1⟩
   case round=>
    obtain⟨k,hk,rfl,hcell,how,hB⟩:=hrel
    by_cases hlk:k<ls.length
    ·have hwr:=FZ.o.below hB (ai _)
     obtain⟨q1,q2,q3⟩:=af hwr.cells
     obtain⟨e1,e2,e3⟩:=af hcell
     obtain⟨b',off',z0,z1,z2,z3,z4,z5,z6,hvv,hb',hzs,s0,s1,s2,s3,s4,s5,s6⟩:=QG hwr.truth HL.o.2.1 hlk
     cases hvv
     have hD2:=KT f (.slice o f.au.length c) _ z0 z1 z2 z3 z4 z5 z6 hzs (i:Int) HS.o
     have hsu:=JW (f:=f) (i:=(i:Int)) hlk
     have alj:=BZ HS.o ls[k] (i:Int)
     have hrb:=LV HS.o ls (i:Int) k hk
     generalize mP f ls[k] (i:Int)=d2 at*
     generalize hrk:yu f ls (i:Int) k=r at*
     have HD2:=ae hD2
     have xK:=ae hsu
     have HQ:=ae (ag hcell (ag how hB))
     clear hzs hD2 hsu hcell how hB hwr d1 g1 m1
     have ahy:(k:Int)<ls.length:=by omega
     go_upto_region 13 with(fail)
     refine dH fun W5 yI=>?_
     have zM:Below wr.heap.size wr W5:=by rw[yI];exact zl
     have hk5:W5.heap[wr.heap.size]? =some (.cells #[iv z0,iv z1,iv z2,iv z3,iv z4,iv z5,iv z6] 98 (0,0)):=by rw[yI];exact ay _ _
     have hc5:=(zM.block _ e3).trans HQ.o.1
     have hw5:=FZ.o.below (aX HQ.o.2.2 zM) (ai _)
     have HBB:=ae (ag (aX HQ.o.2.2 zM) (ag (aA (Ms:=[]) HQ.o.2.1 (Ext.az zM) (by simp)) hc5))
     clear yI zM q1 q2 q3 e1 e2 s0 s1 s2 s3 s4 s5 s6 hb'
     obtain⟨q1,q2,q3⟩:=af hw5.cells
     obtain⟨e1,e2,e4⟩:=af hc5
     obtain⟨p1,p2,p3⟩:=af hk5
     clear hw5 hc5 hk5
     refine zg 9 [] none [(7,Spec.val (iv d2)),(8,Spec.val (rv (wid r d2)))] ?_
     simp only[zt]
     repeat ((first|refine zn ?_|refine zk ?_);simp only[zp])
     refine zw 41 (h:=fun W hE hF=>by exact HD2.o W) (t:=?_)
     simp only[zp]
     refine zw 42 (h:=fun W hE hF=>by exact Q8 r d2 W) (t:=?_)
     simp only[zp]
     intro W hE hF
     obtain⟨hc,hf⟩:=bV hE.below
     have hzE:=hE.size
     (try simp only[bI] at hzE)
     have HE:=ae hE
     clear hF hzE
     go_wp2_with fail
     go_roundw
     case rel=>
      refine⟨k+1,by omega,by go_num,?_,?_,?_⟩
      ·rw[xK.o]
       exact aI (aI ((HE.o.block _ e4 (by simp)).trans HBB.o.2.2) _) _
      ·have h1:=aA (Ms:=[]) HBB.o.2.1 HE.o (by simp)
       have h2:=dQ (w':=W.setCell ⟨b9,0,none⟩ (iv (wid r d2).1)) h1 fun g hg=>dL _ _ _ _ (HG9.o g hg)
       exact dQ h2 fun g hg=>dL _ _ _ _ (HG9.o g hg)
      ·exact iG (iG (aX HBB.o.1 HE.o.below) hbW _) hbW _
     case measure=>simp[intOf];omega
    ·have hkl:k=ls.length:=by omega
     subst hkl
     have hdl:dl.take (i+1)=dl.take i++[yu f ls i ls.length]:=by
      rw[rF]
      congr 1
      rw[HDL.o]
      simp[hlt]
     have amR:=ae hdl
     have hrb:=LV HS.o ls (i:Int) _ (ai _)
     generalize yu f ls (i:Int) ls.length=r at*
     obtain⟨e1,e2,e3⟩:=af hcell
     have HQ:=ae (ag how hB)
     clear hcell how hB hdl d1 g1 m1
     go_upto_region 15 with(fail)
     go_wp2_with (at_builtin;refine gm rfl _ _ acd rfl w1.heap.size (.slice oo i oc) i (aH (dl.take i)) rfl ?_ (.slice (some ⟨wr.heap.size,0,none⟩) 1 1) 1 [iv r.1,iv r.2] rfl ?_ (by simp[Value.oneCell']) (by omega) (by omega) (by have:=HQ.o.2.size;simp;omega) ?_)
     ·exact aA (Ms:=[]) HQ.o.1 (Ext.az ((aG _ _).alloc (ai _) _)) (by simp)
     ·exact aK.dw 2 1 (ay _ _) rfl (by decide)
     ·intro v' W7 hown hgr
      obtain⟨o7,c7,rfl⟩:=aT hown
      have HO7:=ae hown
      have HG7:=ae hgr
      clear hown hgr
      go_wp2_with fail
      go_roundw
      case rel=>
       refine⟨i+1,by omega,by go_num,⟨o7,c7,rfl,?_⟩,?_⟩
       ·rw[amR.o,pX]
        exact HO7.o
       ·refine Below.grown (ak HQ.o.2 _) HG7.o (by have:=HQ.o.2.size;simp;omega) (fun k e=>(bH HQ.o.1 k e).1)
      case measure=>simp[intOf];omega
  ·have hin:i=n:=by omega
   subst hin
   have HOW:=ae (ag how hB)
   clear how hB
   go_wp2_with fail
   go_returns
   refine⟨aX HB.o HOW.o.2,.inr ⟨H0.o,_,by simp;rfl,?_⟩⟩
   have h1:=aK.dR HOW.o.1
   have hdl:dl.length=i:=by rw[HDL.o];simp
   rw[kK (by omega)] at h1
   rw[HDE.o]
   show aK 2 _ _ dl.length (aH dl)
   rw[hdl]
   exact h1
end Go.Proofs.YthbpmepjmebolaaGreatDoor
end
section
namespace Go.Proofs.YthbpmepjmebolaaGreatDoor
open Go.RowKit Go.RG Go.SL Go.Shelf jC Go.TB
end Go.Proofs.YthbpmepjmebolaaGreatDoor
namespace Go.Proofs.YthbpmepjmebolaaGreatDoor
open Go.RowKit Go.RG Go.SL Go.Shelf jC Go.TB
def agK (B n:Nat) (xs:List Int) (x:Int):uV:=fun i _ v W=>
 match i with
 |2=>W.ownsRow B 3 1 v n (ah xs)
 |4=> ∃b:Nat,v= .slice (some ⟨b,0,none⟩) 1 1/\W.heap[b]? =some (.cells #[iv x] 3 (0,0))
 |_=>True
structure abO (Ms:List Nat) (fZ:World->Prop):Prop where
 kept: ∀a b:World,fZ a->(∀m∈Ms,b.heap[m]? =a.heap[m]?)->fZ b
 none: ∀W:World,fZ W-> ∀m∈Ms, ∀o,W.cell? ⟨m,o,.none⟩= .none
end Go.Proofs.YthbpmepjmebolaaGreatDoor
namespace Go.Proofs.YthbpmepjmebolaaGreatDoor
open Go.RowKit Go.RG Go.SL Go.Shelf jC Go.TB
def Bl (f:cZ) (n:Int):Bool:=n== -1 ||nZ n 0 (f.aO-1)
def oV (f:cZ) (l:List Int):Bool:=decide (kz f=0)&&(decide ((l.length:Int)=f.rows)&&(l.all (Bl f)&&jg f [] l))
theorem Ox (f:cZ) (tv:Value) (n:Int) (bf:Nat) (w:World) (hf:w.heap[bf]? =some (.cells (xn f tv) 29 (0,0))) (h0: -1000<=f.aO) (h1:f.aO<=1000):
 Calls Tryz.prog 276 #[iv n,.pointer (some ⟨bf,0,none⟩)] w (PV (.bool (Bl f n)) w):=by
 have HW:=ae (BL f tv n w h0 h1)
 obtain⟨c1,f1,l1⟩:=af hf
 clear hf
 by_cases hn:n= -1
 ·subst hn
  go_enter Tryz.func276,Tryz.ntmps276
  go_wp2
  go_returns
  exact⟨by simp[Bl],aG _ _⟩
 ·have hnb:(n== -1)=false:=by simpa using hn
  go_enter Tryz.func276,Tryz.ntmps276
  go_wp2_with fail
  refine HW.o.mono ?_
  rintro e w' ⟨rfl,hb⟩
  go_wp2_with fail
  go_returns
  exact⟨by simp[Bl,hnb],hb⟩
theorem XR (ty:TypeId) {W:World} {g:Nat} {so:Option Addr} {c:Nat} {l:List Int} (hs:aP W (.slice so l.length c) l) (h1:1<=l.length) (h7:l.length<=7) (hg:W.heap[g]? =some (.cells #[iv 0,iv 0,iv 0,iv 0,iv 0,iv 0,iv 0] 98 (0,0))):
 ∃W',(Builtin.copy_ #[36,36] ty #[.slice (some ⟨g,0,none⟩) 7 7,.slice so l.length c]).run Tryz.prog W= .ok (iv l.length) W'/\W'.heap[g]? =some (.cells (ah (rf l)).toArray 98 (0,0))/\Ext [g] W W':=by
 obtain⟨so',c',hv,hl,hn,hc⟩:=hs.ny
 cases hv
 cases so with
 |none=>have:=(hn rfl).2;omega
 |some a=>
  have hil:(ah l).length=l.length:=by simp[ah]
  have h:=run_copy_row (P:=Tryz.prog) W 36 36 ty 3 g 0 7 7 a l.length c _ 98 (ah l) (by kernel_rfl) (by kernel_rfl) hg (by rw[hil];exact(Nat.min_eq_left h7).symm) (hc a rfl) (by rw[hil];simpa using h7) (jD l)
  rw[hil] at h
  refine⟨_,h,?_,⟨rfl,rfl,rfl,by simp,fun k _ hm=>setRow_other _ _ _ _ (by simpa using hm)⟩⟩
  rw[setRow_heap W g _ _ _ _ hg]
  congr 3
  have e:(#[iv 0,iv 0,iv 0,iv 0,iv 0,iv 0,iv 0]:Array Value).toList=List.replicate 7 (iv 0):=rfl
  rw[e,List.drop_replicate,List.take_zero,List.nil_append,Nat.zero_add]
  unfold rf ah
  rw[List.map_append,List.map_replicate]
theorem Fh (f:cZ) (tv rvv:Value) (l:List Int) (w:World) (ht:dJ w tv f.au) (hr:aP w rvv l):
 Calls Tryz.prog 235 #[fv f tv,rvv] w (PV (.bool (oV f l)) w):=by
 obtain⟨o,c,rfl⟩:=ht.open
 obtain⟨ro,rc,rfl⟩:=hr.open
 have hrl:=hr.len
 have HC:=ae (AX f (.slice o f.au.length c))
 have HT:=ae ht
 have HR:=ae hr
 clear ht hr
 obtain⟨q,hq⟩: ∃q,kz f=q:=⟨_,rfl⟩
 rw[hq] at HC
 obtain⟨r,hrr⟩: ∃r,oV f l=r:=⟨_,rfl⟩
 rw[hrr]
 have HRR:=ae hrr
 clear hrr
 by_cases hq0:q=0
 case neg=>
  have hneb:(q !=0)=true:=by simpa using hq0
  have hF:r=false:=by rw[<-HRR.o];unfold oV;rw[hq,decide_eq_false hq0];rfl
  have HF:=ae hF
  clear hF hq hq0
  go_enter Tryz.func235,Tryz.ntmps235
  go_wp2_with fail
  refine(HC.o _ (HT.o.alloc _)).mono ?_
  rintro e w' ⟨rfl,hb⟩
  go_wp2_with fail
  go_returns
  exact⟨by rw[HF.o];simp,zl⟩
 subst hq0
 have hS:=iI hq
 have hr0:=hS.zW
 have Vp:=hS.qP
 have HS:=ae hS
 have hF:r=(decide ((l.length:Int)=f.rows)&&(l.all (Bl f)&&jg f [] l)):=by rw[<-HRR.o];unfold oV;rw[hq];rfl
 clear hq hS
 by_cases hlen:(l.length:Int)=f.rows
 case neg=>
  have hneb:((l.length:Int) !=f.rows)=true:=by simpa using hlen
  have hF:r=false:=by rw[hF,decide_eq_false hlen];rfl
  have HF:=ae hF
  clear hF hlen
  go_enter Tryz.func235,Tryz.ntmps235
  go_wp2_with fail
  refine(HC.o _ (HT.o.alloc _)).mono ?_
  rintro e w' ⟨rfl,hb⟩
  obtain⟨hc,hf⟩:=bV hb
  have hz0:w.heap.size<w'.heap.size:=(by have:=hb.size;(try simp only[bI] at this);omega)
  go_wp2_with fail
  go_returns
  exact⟨by rw[HF.o];simp,zl⟩
 have hneb:((l.length:Int) !=f.rows)=false:=by simpa using hlen
 have hl1:1<=l.length:=by omega
 have hl7:l.length<=7:=by omega
 rw[decide_eq_true hlen,Bool.true_and] at hF
 have HLEN:=ae hlen
 have hw0:=HS.o.zV
 have hw1:=HS.o.xH
 obtain⟨q,hq⟩: ∃q,l.all (Bl f)=q:=⟨_,rfl⟩
 rw[hq] at hF
 have HF:=ae hF
 have age:=ae (fun(w':World) (hB:Below w.heap.size w w') (hk:w'.heap[w.heap.size]? =some (.cells (xn f (.slice o f.au.length c)) 29 (0,0)))=>
  hq▸Ri l (.slice ro l.length rc) 276 #[] #[.pointer (some ⟨w.heap.size,0,none⟩)] (Bl f) w' (HR.o.below hB (ai _)) (enters_of Tryz.func276 (by kernel_rfl) rfl)
   (fun x _ W hW=>Ox f (.slice o f.au.length c) x w.heap.size W ((hW.block _ (aV.1 hk).1).trans hk) (by omega) (by omega)))
 clear hF hlen hq
 go_enter Tryz.func235,Tryz.ntmps235
 go_wp2_with fail
 refine(HC.o _ (HT.o.alloc _)).mono ?_
 rintro e w' ⟨rfl,hb⟩
 obtain⟨hc,hf⟩:=bV hb
 have hz0:w.heap.size<w'.heap.size:=(by have:=hb.size;(try simp only[bI] at this);omega)
 have HB:=ae (show Below w.heap.size w w' from zl)
 have HK:=ae ((hb.block _ (by simp)).trans (ay w (.cells (xn f (.slice o f.au.length c)) 29)))
 clear hb
 go_wp2_with fail
 refine(age.o w' HB.o HK.o).mono ?_
 rintro e w2 ⟨rfl,hb⟩
 have HB2:=ae (aX HB.o hb)
 have hk2:=(hb.block _ hz0).trans HK.o
 clear hb hc hf hz0
 cases q
 ·have hF:r=false:=by rw[HF.o];rfl
  have Lp:=ae hF
  clear hF
  go_wp2_with fail
  go_returns
  exact⟨by rw[Lp.o];simp,HB2.o⟩
 have hF:r=jg f [] l:=by rw[HF.o];rfl
 have Lp:=ae hF
 clear hF
 go_upto_region 4 with(fail)
 refine dH fun W3 hW3=>?_
 have hB3:Below w2.heap.size w2 W3:=by rw[hW3];exact zl
 have hk3:W3.heap[w2.heap.size]? =some (.cells #[iv 0,iv 0,iv 0,iv 0,iv 0,iv 0,iv 0] 98 (0,0)):=by rw[hW3];exact ay _ _
 obtain⟨W4,hcp,hk4,Vz⟩:=XR 3 (HR.o.below (aX HB2.o hB3) (ai _)) hl1 hl7 hk3
 clear hW3
 have hs3:=hB3.size
 have hw2:w.heap.size<w2.heap.size:=(aV.1 hk2).1
 have hB4:Below w.heap.size w W4:=iw (aX HB2.o hB3) Vz (by omega)
 have ah3:=(Vz.block w.heap.size (by omega) (by simp;omega)).trans ((hB3.block _ hw2).trans hk2)
 obtain⟨y0,y1,y2,y3,y4,y5,y6,hys⟩:=tC (wz hl7)
 have hright:=zx f HS.o o c (rf l) (wz hl7) (.slice none 0 0) [] W4 (HT.o.below hB4 (ai _)) (qW W4)
 rw[JY, <-Lp.o,hys] at hright
 have Vo:Calls Tryz.prog 121 #[fv f (.slice o f.au.length c),.agg #[iv y0,iv y1,iv y2,iv y3,iv y4,iv y5,iv y6],.slice none 0 0] W4 (PV (.bool r) W4):=hright
 rw[hys] at hk4
 have ahN:W4.heap[w2.heap.size]? =some (.cells #[iv y0,iv y1,iv y2,iv y3,iv y4,iv y5,iv y6] 98 (0,0)):=hk4
 obtain⟨c1,f1,l1⟩:=af ah3
 obtain⟨c2,f2,l2⟩:=af ahN
 have HX:=ae (ag hB4 Vo)
 clear hB4 hright Vo hk4 ahN ah3 hys Vz hB3 hk3
 go_wp2_with fail
 refine HX.o.2.mono ?_
 rintro e w5 ⟨rfl,hb⟩
 go_wp2_with fail
 go_returns
 exact⟨by simp,aX HX.o.1 hb⟩
end Go.Proofs.YthbpmepjmebolaaGreatDoor
end

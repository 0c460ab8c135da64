/-
  Texts of this claim, packed by a program: G TB.
-/
import Derived.WalkKit
import Derived.WalkLawsBesides
import Derived.WalkSpells
import Derived.Outline
import Derived.Handy
import Derived.KernelRfl
import Derived.Lib.Hide
import Derived.Laws.EntriesVeiled
import Derived.Deep.MidRow
import Derived.Laws.StructEq
import Derived.Maps.AppendAt
import Derived.WalkMore
import Derived.Deep.LoopGhost
import Derived.OwnWalkIn
import Derived.Laws.BitsLemmas
import Derived.Shelf.Abstract
import Derived.Test.YthllkbbbapgelaaGreatDoorProg
import Derived.WideKeyRuns
import Derived.Test.YthllkbbbapgelaaGreatDoorPW3
set_option maxHeartbeats 8000000
set_option maxRecDepth 100000
set_option linter.all false
section
namespace Go.SL
open Go.RowKit Go.RG
theorem IY {P:Program} {w:World} {t e:TypeId} {z:Value} {size bytes:Nat} (hT:iQ P t e z size bytes) (ty:TypeId) {base:Nat} {v:Value} {n:Nat} {xs:List Value} (hown:w.ownsRow base e size v n xs)
 {src:Value} {k:Nat} {mY:List Value} (hsrc:aN size w src k mY) (h1: ∀u∈mY,u.oneCell'=true) (hb:(n+k)*bytes<=140737488355328) (h63:n+k<=9223372036854775807) (hbase:base<=w.heap.size):
 ∃v' w',(Builtin.append_ #[t,t] ty #[v,src]).run P w= .ok v' w'/\w'.ownsRow base e size v' (n+k) (xs++mY)/\w.grownBy w' v.ownBlock/\(v'.ownBlock=v.ownBlock∨v'.ownBlock=some w.heap.size):=by
 obtain⟨i,hi,hz,hs,hby⟩:=info_parts hT.info
 obtain⟨o,c,rfl,hl,hn,hc⟩:=hsrc.mY
 cases o with
 |none=>
  obtain⟨rfl,rfl⟩:=hn rfl
  have:mY=[]:=kG (by simpa using hl)
  subst this
  have hrun:=run_append_owned_none (P:=P) w base t ty e i size hT.und hi v n xs hown
  exact⟨v,w,hrun,by simpa using hown,World.grownBy.refl _ _,.inl rfl⟩
 |some a=>
  obtain⟨v',w',h,h2,h3,_,h4⟩:=run_append_own_at (P:=P) w base t ty e i z size bytes hT.und hi hz hs hby hT.cells hT.pos v n xs hown a k c mY hl (hc a rfl) h1 (by simp only[maxLen];omega) hb hbase
  exact⟨v',w',h,h2,h3,h4⟩
theorem dM {P:Program} {w:World} {t e:TypeId} {z:Value} {size bytes:Nat} (hT:iQ P t e z size bytes) {o:Oper} {ρ:Operand->Value} {s x:Operand}
 (hop:o.op=Op.call {callee:=Callee.builtin Builtin.append,args:= #[s,x],argTypes:= #[t,t]}) {base:Nat} {v:Value} {n:Nat} {xs:List Value} (hs:ρ s=v) (hown:w.ownsRow base e size v n xs)
 {src:Value} {k:Nat} {mY:List Value} (hx:ρ x=src) (hsrc:aN size w src k mY) (h1: ∀u∈mY,u.oneCell'=true) (hb:(n+k)*bytes<=140737488355328) (h63:n+k<=9223372036854775807) (hbase:base<=w.heap.size):
 Does P o ρ w (fun v' w'=>w'.ownsRow base e size v' (n+k) (xs++mY)/\w.grownBy w' v.ownBlock/\(v'.ownBlock=v.ownBlock∨v'.ownBlock=some w.heap.size)):=by
 obtain⟨v',w',hrun,h2,h3,h4⟩:=IY (P:=P) hT o.type hown hsrc h1 hb h63 hbase
 refine jm (W':=w') v' ?_ ⟨h2,h3,h4⟩
 simp[execOp,hop,resolve,invoke,builtin,hs,hx,hrun,Result.andThen]
theorem nV {F:Fence} {n:Nat} (hF: ∀f,F.fn f) (hd:F.depth=none) {P:Program} (hcall: ∀f args w R,Calls P f args w R->CallsIn F (n-1) P f args w R)
 {w:World} {ops:Array Oper} {rest:List Oper} {o:Oper} {a:Act} {Q:Exit->Act->World->Prop} (hg:o.guard=none) (s x:Operand) {t e:TypeId} {z:Value} {size bytes:Nat} (hT:iQ P t e z size bytes)
 (hop:o.op=Op.call {callee:=Callee.builtin Builtin.append,args:= #[s,x],argTypes:= #[t,t]}) (base:Nat) (v:Value) (m:Nat) (xs:List Value) (hs:a.eval s=v) (hown:w.ownsRow base e size v m xs)
 (src:Value) (k:Nat) (mY:List Value) (hx:a.eval x=src) (hsrc:aN size w src k mY) (h1: ∀u∈mY,u.oneCell'=true) (hb:(m+k)*bytes<=140737488355328) (h63:m+k<=9223372036854775807) (hbase:base<=w.heap.size)
 (hK: ∀v' w',w'.ownsRow base e size v' (m+k) (xs++mY)->w.grownBy w' v.ownBlock->(v'.ownBlock=v.ownBlock∨v'.ownBlock=some w.heap.size)->wpListIn F n P ops Q rest (a.put o.dst v') w'):wpListIn F n P ops Q (o::rest) a w:=by
 refine wpListIn_plain hg fun K hK'=>?_
 exact Kw hF hd (fun c h=>by rw[hop] at h;cases h) hcall (dM (P:=P) hT hop hs hown hx hsrc h1 hb h63 hbase) fun v' w' ⟨h2,h3,h4⟩=>hK' _ _ (hK v' w' h2 h3 h4)
theorem Ou (ls:List (List Int)) (k:Nat) (h: ∀x∈ls,x.length=k):(ls.flatMap ah).length=ls.length*k:=by
 induction ls with
 |nil=>simp
 |cons x ls ih=>
  rw[List.flatMap_cons,dm,ih (fun y hy=>h y (by simp[hy])),List.length_cons,Nat.add_mul]
  have:=h x (by simp)
  simp[ah,this];omega
theorem xX {w:World} {g:Nat} {cs:Array Value} {t:TypeId} {fr:Nat×Nat} (h:w.heap[g]? =some (.cells cs t fr)):w.rangeAt g 0 cs.toList:=fun j u hj=>by
 simp only[World.cell?,h,Nat.zero_add];simpa using hj
end Go.SL
namespace Go.Proofs.YthllkbbbapgelaaGreatDoor
open Go.RowKit Go.RG Go.SL Go.Shelf jy
abbrev iv (n:Int):Value:= .int .i64 n
abbrev rv (r:dR):Value:= .agg #[.int .i64 r.1,.int .i64 r.2]
abbrev lY (l:List Int):Value:= .agg (ah l).toArray
theorem ad8 (l:List Int) (v:Value) (bg:Nat) (fst caps:Array Value) (p:Nat->Bool) (I:Nat->World->Prop) (w:World) (eg: ∀args w,(callFunc bg args).run Tryz.prog w= .ok (.enter bg args) w)
 (hsl: ∀k W,I k W->aO W v l)
 (hcall: ∀k (hk:k<l.length) W,(∀j,j<k->p j=false)->I k W->Calls Tryz.prog bg (fst.push (iv l[k])++caps) W (fun e W'=>e= .returned (.bool (p k))/\I (k+1) W')) (h0:I 0 w):
 Calls Tryz.prog 279 #[v,.func (.func bg) fst caps] w (ed l.length p I (fun k=>iv k) (iv (-1))):=by
 have hlen:=(hsl 0 w h0).len
 obtain⟨o,c,rfl⟩:=(hsl 0 w h0).open
 have HC:=ae hcall
 have HS:=ae hsl
 clear hcall hsl
 go_enter Tryz.func279,Tryz.ntmps279
 go_wp2
 go_loopw [4,5,8] (fun _ _ i wr=> ∃k:Nat,k<=l.length/\i= .int .i64 k/\(∀j,j<k->p j=false)/\I k wr) (fun _ _ i _=>l.length-(intOf i).toNat)
 case atStart=>exact⟨0,bQ _,rfl,fun j hj=>by omega,h0⟩
 case round=>
  obtain⟨k,hk,rfl,hno,hI⟩:=hrel
  by_cases hlt:k<l.length
  ·obtain⟨b,off,rfl,hb,hc0⟩:=aO.cell (HS.o k wr hI) hlt
   have hC:=HC.o k hlt wr hno hI
   have HN:=ae hno
   clear hno
   go_wp2_with fail
   refine hC.mono ?_
   rintro e W1 ⟨rfl,hI1⟩
   have HI:=ae hI1
   clear hI1 hI hC
   cases hp:p k
   ·go_wp2_with fail
    go_roundw
    case rel=>exact⟨k+1,by omega,by go_num,fun j hj=>(by by_cases e:j=k;(subst e;exact hp);exact HN.o j (by omega)),HI.o⟩
    case measure=>simp[intOf];omega
   ·go_wp2_with fail
    go_returns
    exact⟨k,by omega,HN.o,.inl ⟨hlt,hp,by simp,HI.o⟩⟩
  ·have hkl:k=l.length:=by omega
   have HN:=ae hno
   clear hno
   go_wp2_with fail
   go_returns
   exact⟨k,by omega,HN.o,.inr ⟨hkl,by simp,by subst hkl;exact hI⟩⟩
theorem Px (l:List Int) (v:Value) (bg:Nat) (fst caps:Array Value) (p:Nat->Bool) (I:Nat->World->Prop) (w:World) (eg: ∀args w,(callFunc bg args).run Tryz.prog w= .ok (.enter bg args) w)
 (hsl: ∀k W,I k W->aO W v l)
 (hcall: ∀k (hk:k<l.length) W,(∀j,j<k->p j=false)->I k W->Calls Tryz.prog bg (fst.push (iv l[k])++caps) W (fun e W'=>e= .returned (.bool (p k))/\I (k+1) W')) (h0:I 0 w):
 Calls Tryz.prog 217 #[v,.func (.func bg) fst caps] w (ed l.length p I (fun _=> .bool true) (.bool false)):=by
 have HI:=ae (ad8 l v bg fst caps p I w eg hsl hcall h0)
 have hlen:=(hsl 0 w h0).len
 clear hsl hcall h0 eg
 go_enter Tryz.func217,Tryz.ntmps217
 go_wp2_with fail
 refine HI.o.mono ?_
 clear HI
 rintro e W' ⟨k,hk,hno,⟨hlt,hp,rfl,hI⟩|⟨hkl,rfl,hI⟩⟩
 ·have HN:=ae (ag hno (ag hp hI))
  clear hno hp hI
  go_wp2_with fail
  go_returns
  exact⟨k,hk,HN.o.1,.inl ⟨hlt,HN.o.2.1,by simp,HN.o.2.2⟩⟩
 ·have HN:=ae (ag hno (ag hkl hI))
  clear hno hkl hI
  go_wp2_with fail
  go_returns
  exact⟨k,hk,HN.o.1,.inr ⟨HN.o.2.1,by simp,HN.o.2.1▸HN.o.2.2⟩⟩
theorem Bg (a b:Int) (g c:Nat) (w:World) (h0:w.cell? ⟨g,0,none⟩=some (iv a)) (h1:w.cell? ⟨g,1,none⟩=some (iv b)):
 Calls Tryz.prog 198 #[.slice (some ⟨g,0,none⟩) 2 c] w (PV (iv (min a b)) w):=by
 go_enter Tryz.func198,Tryz.ntmps198
 go_wp2
 go_rounds 2
 all_goals
  go_returns
  exact⟨by simp;omega,aH _ _⟩
theorem iJ (l:List Int) (v:Value) (n:Int) (w:World) (hv:aO w v l):Calls Tryz.prog 147 #[v,iv n] w (PV (.bool (l.contains n)) w):=by
 have hidx:Calls Tryz.prog 235 #[v,iv n] w (fun e w'=>w=w'/\((l.contains n=true/\ ∃k:Nat,k<l.length/\e= .returned (iv k))∨(l.contains n=false/\e= .returned (iv (-1))))):=by
  have hlen:=hv.len
  obtain⟨o,c,rfl⟩:=hv.open
  have HV:=ae hv
  clear hv
  go_enter Tryz.func235,Tryz.ntmps235
  go_wp2
  go_loop [4,5,8] (fun _ _ i=> ∃k:Nat,k<=l.length/\i= .int .i64 k/\(∀j (hj:j<l.length),j<k->l[j]≠n)) (fun _ _ i=>l.length-(intOf i).toNat)
  case atStart=>exact⟨0,bQ _,rfl,fun j _ hj=>by omega⟩
  case round=>
   obtain⟨k,hk,rfl,hno⟩:=hrel
   have HN:=ae hno
   clear hno
   by_cases hlt:k<l.length
   ·obtain⟨b,off,rfl,hb,hc0⟩:=aO.cell HV.o hlt
    by_cases he:l[k]=n
    ·have he':(n==l[k])=true:=by simp[he]
     have HE:=ae he
     clear he
     go_wp2
     go_returns
     exact⟨rfl,.inl ⟨by rw[<-HE.o];exact dh _,k,hlt,by simp⟩⟩
    ·have he':(n==l[k])=false:=by simp;omega
     have HE:=ae he
     clear he
     go_wp2
     go_round
     case rel=>exact⟨k+1,by omega,by go_num,fun j hj hjk=>(by by_cases e:j=k;(subst e;exact HE.o);exact HN.o j hj (by omega))⟩
     case measure=>simp[intOf];omega
   ·have hkl:k=l.length:=by omega
    go_wp2
    go_returns
    refine⟨rfl,.inr ⟨?_,by simp⟩⟩
    intro hm
    obtain⟨j,hj,e⟩:=mF hm
    exact HN.o j hj (by omega) e
 have HI:=ae hidx
 clear hidx
 go_enter Tryz.func147,Tryz.ntmps147
 go_wp2_with fail
 refine HI.o.mono ?_
 rintro e w' ⟨rfl,⟨hc,k,hk,rfl⟩|⟨hc,rfl⟩⟩
 ·have HC:=ae hc
  clear hc
  go_wp2_with fail
  go_returns
  exact⟨by rw[HC.o];simp,aH _ _⟩
 ·have HC:=ae hc
  clear hc
  go_wp2_with fail
  go_returns
  exact⟨by rw[HC.o];simp,aH _ _⟩
theorem sK:iQ Tryz.prog 52 3 (iv 0) 1 8:=⟨Tryz.underlying52,by kernel_rfl,rfl,by omega⟩
theorem Dx (b:Bool) (d:Nat) (n:Int) (w:World):(Instr.checkKey b (d+1) 3 (iv n)).run Tryz.prog w= .ok () w:=by
 unfold Instr.checkKey
 simp[go_sem]
def Ff (t:TypeId) (size n:Nat) (xs:List Value) (w:World) (e:Ending) (w':World):Prop:= ∃v,e= .returned v/\w'.ownsRow w.heap.size t size v n xs/\Below w.heap.size w w'
theorem clone_any (l:List Int) (v:Value) (w:World) (hv:aO w v l) (hlen:l.length<=1000):
 Calls Tryz.prog 91 #[v] w (Ff 3 1 l.length (ah l) w):=by
 obtain⟨o,c,rfl⟩:=hv.open
 have HV:=ae hv
 have hnil:=fun(w:World) a n c=>Lib.run_eql_slice_nil (P:=Tryz.prog) w 52 3 a n c 0 0 Tryz.underlying52
 cases o with
 |none=>
  have hl0:l.length=0:=by
   obtain⟨_,o,c',h0,h1,h2,h3,h4⟩:=hv
   cases h0
   have:=h3 rfl
   omega
  have hc0:c=0:=by
   obtain⟨_,o,c',h0,h1,h2,h3,h4⟩:=hv
   cases h0
   exact h3 rfl
  have hl:l=[]:=kG hl0
  subst hl
  clear hv
  subst hc0
  go_enter Tryz.func91,Tryz.ntmps91
  go_wp2
  go_returns
  exact⟨.slice none 0 0,by simp,⟨by simp[ah],.inl ⟨rfl,rfl⟩⟩,aH _ _⟩
 |some a=>
  obtain⟨b,off,sp⟩:=a
  obtain rfl:sp=none:=by
   obtain⟨_,o,c',h0,h1,h2,h3,h4⟩:=hv
   cases h0
   exact(h4 _ rfl).1
  clear hv
  go_enter Tryz.func91,Tryz.ntmps91
  go_wp2_with (at_builtin;refine fV rfl _ _ sK rfl w.heap.size (.slice (some ⟨w.heap.size,0,none⟩) 0 0) 0 [] rfl ?_ (.slice (some ⟨b,off,none⟩) l.length c) l.length (ah l) rfl ?_ (jL _) (by omega) (by omega) (by simp) ?_)
  ·exact iM (cs:= #[]) (n:=0) (ay _ _) rfl (ai _) (by decide)
  ·exact HV.o.alloc _
  ·intro v' w1 hown hgrow
   have HO:=ae hown
   have HG:=ae hgrow
   clear hown hgrow
   go_wp2
   go_returns
   refine⟨v',by simp,?_,?_⟩
   ·exact HO.o
   ·exact Below.grown (aj (aH _ _) _) HG.o (by simp) (fun k e=>by cases e;exact ai _)
theorem vS (n:Nat) (hn:n<=1000) (W:World):
 (Instr.makeSlice 52 (iv n) (iv n)).run Tryz.prog W= .ok (.slice (some ⟨W.heap.size,0,none⟩) n n) (W.alloc (.cells (ah (List.replicate n 0)).toArray 3)):=by
 obtain⟨i,hi,hz,hs,hby⟩:=info_parts sK.info
 have:=run_make (P:=Tryz.prog) W 52 3 i (iv 0) sK.und hi hz .i64 .i64 n n (by omega) (Int.le_refl _) (by rw[hby];omega) (by omega)
 rw[this,hs]
 simp only[Int.toNat_natCast]
 congr 3
 apply Array.ext
 ·simp[madeCells,ah]
 ·intro j h1 h2
  simp[madeCells,ah,Value.cells]
  rw[Nat.mod_one]
  rfl
theorem mg (w:World) (A B C D:Obj):((((w.alloc A).alloc B).alloc C).alloc D).heap[w.heap.size+1+1+1]? =some D:=by
 have:=heap_alloc_new (((w.alloc A).alloc B).alloc C) D;rwa [bu,bu,bu] at this
theorem mV (q:Nat) (f:Nat->Bool):(List.range (q+1)).all f=((List.range q).all f&&f q):=by
 rw[List.range_succ,List.all_append]
 simp
theorem ik {w W W':World} {mb:Nat} (h:Below w.heap.size w W) (hE:Ext [mb] W W') (hm:w.heap.size<=mb):Below w.heap.size w W':=
 h.trans ⟨hE.os,hE.tape,hE.output,hE.size,fun k hk=>by
  by_cases hlt:k<W.heap.size
  ·exact hE.block k hlt (by simp;omega)
  ·have:=h.size;omega⟩
theorem aO.uN {w w':World} {v:Value} {l:List Int} (h:aO w v l) {Ms:List Nat} (hE:Ext Ms w w') (hM: ∀x∈Ms, ∀o n,w.cell? ⟨x,o,none⟩≠some (.int .i64 n)):aO w' v l:=by
 obtain⟨hl,o,c,rfl,h1,h2,h3,h4⟩:=h
 refine⟨hl,o,c,rfl,h1,h2,h3,fun a ha=>?_⟩
 obtain⟨hs,hc⟩:=h4 a ha
 obtain⟨b,off,sp⟩:=a
 simp only at hs hc
 subst hs
 refine⟨rfl,fun j u hj=>?_⟩
 have hcell:=hc j u hj
 have hlt:=dI w _ hcell
 rw[hE.cell b _ hlt (fun hm=>by
  obtain⟨n,_,rfl⟩:=jc.1 (ni hj)
  exact hM b hm _ _ hcell)]
 exact hcell
theorem aC {w w':World} {base:Nat} {e:TypeId} {size:Nat} {v:Value} {n:Nat} {xs:List Value} (h:w.ownsRow base e size v n xs) {Ms:List Nat} (hE:Ext Ms w w') (hM: ∀x∈Ms,x<base):w'.ownsRow base e size v n xs:=by
 obtain⟨h1,h2|⟨g,c,cs,hv,hb,hc,h3⟩⟩:=h
 ·exact⟨h1,.inl h2⟩
 ·exact⟨h1,.inr ⟨g,c,cs,hv,hb,(hE.block g (aS.1 hc).1 (fun hm=>by have:=hM g hm;omega)).trans hc,h3⟩⟩
theorem aW {w:World} {base:Nat} {e:TypeId} {size:Nat} {v:Value} {n:Nat} {xs:List Value} (h:w.ownsRow base e size v n xs): ∃o c,v= .slice o n c:=by
 obtain⟨h1,⟨rfl,rfl⟩|⟨g,c,cs,rfl,hb,hc,h3⟩⟩:=h
 ·exact⟨none,0,rfl⟩
 ·exact⟨_,_,rfl⟩
theorem qo {w w':World} {B:Nat} (h:uI B [] w w') (hB:w.heap.size<=B):Below w.heap.size w w':=⟨h.os,h.tape,h.output,h.size,fun k hk=>h.block k hk (by omega) (by simp)⟩
theorem Hm {w w':World} {B:Nat} {e:TypeId} {size:Nat} {v:Value} {n:Nat} {xs:List Value} (h:w.ownsRow B e size v n xs) (hg:w.grownBy w' v.ownBlock):uI B [] w w':=
 ⟨hg.os,hg.tape,hg.output,hg.size,fun k hk hb _=>hg.block k hk (fun e1=>by
   obtain⟨h1,⟨rfl,rfl⟩|⟨g,c,cs,rfl,hb',hc,h3⟩⟩:=h
   ·cases e1
   ·have:k=g:=by simpa [Value.ownBlock] using e1
    omega)⟩
theorem df {w:World} {base base':Nat} {e:TypeId} {size:Nat} {v:Value} {n:Nat} {xs:List Value} (h:w.ownsRow base' e size v n xs) (hB:base<=base'):w.ownsRow base e size v n xs:=by
 obtain⟨h1,h2|⟨g,c,cs,hv,hb,h3⟩⟩:=h
 ·exact⟨h1,.inl h2⟩
 ·exact⟨h1,.inr ⟨g,c,cs,hv,iW hB hb,h3⟩⟩
theorem _root_.Go.RG.Does.mono {P:Program} {o:Oper} {ρ:Operand->Value} {W:World} {R R':Value->World->Prop} (h:Does P o ρ W R) (hR: ∀v W',R v W'->R' v W'):Does P o ρ W R':=by
 unfold Does at h⊢
 split at h
 ·exact hR _ _ h
 ·exact hR _ _ h
 ·exact h.mono fun e w' ⟨v,h1,h2⟩=>⟨v,h1,hR _ _ h2⟩
 ·exact h.elim
theorem uY (l:List Int) (x:Int):ah (l++[x])=ah l++ah [x]:=by simp[ah]
theorem qK (w:World):aO w (.slice none 0 0) []:=⟨rfl,none,0,rfl,ai _,by decide,fun _=>rfl,fun a h=>by cases h⟩
theorem JD {below k:Nat} {p:List Int->Bool} {c:List Int} (hk:k<=below) (h1: ∀j,j<k->(jM below j 0).find? p=none) (h2:(jM below k 0).find? p=some c):nG below p=some c:=by
 unfold nG
 refine qW p _ _ k (by simp;omega) c (fun j hj=>?_) ?_
 ·simp only[List.getElem_range];exact h1 j hj
 ·simp only[List.getElem_range];exact h2
theorem JC {below:Nat} {p:List Int->Bool} (h1: ∀j,j<below+1->(jM below j 0).find? p=none):nG below p=none:=by
 unfold nG
 refine tY p _ _ fun j hj=>?_
 simp only[List.length_range] at hj
 simp only[List.getElem_range];exact h1 j hj
theorem dn {w w':World} {base:Nat} {e:TypeId} {size:Nat} {v:Value} {n:Nat} {xs:List Value} (h:w.ownsRow base e size v n xs) (hk: ∀g,v.ownBlock=some g->w'.heap[g]? =w.heap[g]?):w'.ownsRow base e size v n xs:=by
 obtain⟨h1,h2|⟨g,c,cs,rfl,hb,hc,h3⟩⟩:=h
 ·exact⟨h1,.inl h2⟩
 ·exact⟨h1,.inr ⟨g,c,cs,rfl,hb,(hk g rfl).trans hc,h3⟩⟩
theorem bD {w:World} {base:Nat} {e:TypeId} {size:Nat} {v:Value} {n:Nat} {xs:List Value} (h:w.ownsRow base e size v n xs): ∀g,v.ownBlock=some g->base<=g/\g<w.heap.size:=by
 intro g hg
 obtain⟨h1,⟨rfl,rfl⟩|⟨g',c,cs,rfl,hb,hc,h3⟩⟩:=h
 ·cases hg
 ·have:g=g':=by simpa [Value.ownBlock] using hg.symm
  subst this
  exact⟨hb,(aS.1 hc).1⟩
theorem Hg {α:Type} (f:α->List Value) (sz:Nat): ∀(l:List α),(∀x∈l,(f x).length=sz)-> ∀(k j:Nat) (hk:k<l.length),j<sz->(l.flatMap f)[k*sz+j]? =(f l[k])[j]? :=by
 intro l
 induction l with
 |nil=>intro _ k j hk;simp at hk
 |cons x l ih=>
  intro hf k j hk hj
  have hx:=hf x (by simp)
  cases k with
  |zero=>simp[List.flatMap_cons,ve (show j<(f x).length by rw[hx];exact hj)]
  |succ k=>
   have e:(k+1)*sz+j=(f x).length+(k*sz+j):=by rw[hx,Nat.add_mul];omega
   rw[List.flatMap_cons,e,oG (by omega),Nat.add_sub_cancel_left,ih (fun y hy=>hf y (by simp[hy])) k j (by simpa using hk) hj]
   rfl
theorem abO {w:World} {base:Nat} {e:TypeId} {q:Nat} {v:Value} {ls:List (List Int)} (h:w.ownsRow base e q v ls.length (ls.flatMap ah)) (hl: ∀x∈ls,x.length=q) {k:Nat} (hk:k<ls.length):
 ∃g c,v= .slice (some ⟨g,0,none⟩) ls.length c/\g<w.heap.size/\w.rangeAt g (k*q) (ah ls[k]):=by
 obtain⟨h1,⟨hv,h2⟩|⟨g,c,cs,hv,hb,hc,hn,hm,hs,hx⟩⟩:=h
 ·omega
 ·refine⟨g,c,hv,(aS.1 hc).1,fun j u hj=>?_⟩
  have hj':j<q:=by have:=(je.1 hj).1;simpa [ah,hl _ (dh hk)] using this
  have e1:(ls.flatMap ah)[k*q+j]? =some u:=by
   rw[Hg ah q ls (fun x hx=>by simp[ah,hl x hx]) k j hk hj'];exact hj
  rw[<-hx,List.getElem?_take] at e1
  split at e1
  ·simp only[World.cell?,hc];simpa using e1
  ·cases e1
theorem I4: ∀(R:List dR) (i:Nat) (r:dR),i<R.length->aG (R.set i r)=((aG R).set (i*2) (iv r.1)).set (i*2+1) (iv r.2):=by
 intro R
 induction R with
 |nil=>intro i r hi;simp at hi
 |cons x R ih=>
  intro i r hi
  cases i with
  |zero=>simp[aG]
  |succ i=>
   have:=ih i r (by simpa using hi)
   simp only[aG,List.set_cons_succ,List.flatMap_cons] at this⊢
   rw[show(i+1)*2=i*2+1+1 by omega]
   simp only[List.cons_append,List.nil_append,List.set_cons_succ]
   rw[this]
theorem lU {w:World} {base:Nat} {e:TypeId} {size n:Nat} {g c:Nat} {xs:List Value} (h:w.ownsRow base e size (.slice (some ⟨g,0,none⟩) n c) n xs) (j:Nat) (_hj:j<n*size) (u:Value):
 (w.setCell ⟨g,j,none⟩ u).ownsRow base e size (.slice (some ⟨g,0,none⟩) n c) n (xs.set j u):=by
 obtain⟨h1,⟨hv,h2⟩|⟨g',c',cs,hv,hb,hc,hn,hm,hs,hx⟩⟩:=h
 ·cases hv
 ·cases hv
  refine⟨by simpa using h1,.inr ⟨g,c,cs.setIfInBounds j u,rfl,hb,aI hc _,hn,hm,by simpa using hs,?_⟩⟩
  rw[<-hx,Array.toList_setIfInBounds,List.take_set]
theorem nP {w:World} {base:Nat} {e:TypeId} {g c:Nat} {R:List dR} (h:w.ownsRow base e 2 (.slice (some ⟨g,0,none⟩) R.length c) R.length (aG R)) {i:Nat} (hi:i<R.length) (r:dR):
 ((w.setCell ⟨g,i*2,none⟩ (iv r.1)).setCell ⟨g,i*2+1,none⟩ (iv r.2)).ownsRow base e 2 (.slice (some ⟨g,0,none⟩) R.length c) R.length (aG (R.set i r)):=by
 rw[I4 R i r hi]
 exact lU (lU h (i*2) (by omega) (iv r.1)) (i*2+1) (by omega) (iv r.2)
theorem oM {w:World} {base:Nat} {e:TypeId} {v:Value} {R:List dR} (h:w.ownsRow base e 2 v R.length (aG R)) {i:Nat} (hi:i<R.length):
 ∃g c,v= .slice (some ⟨g,0,none⟩) R.length c/\base<=g/\g<w.heap.size/\(w.cell? ⟨g,i*2,none⟩=some (iv R[i].1)/\w.cell? ⟨g,i*2+1,none⟩=some (iv R[i].2))/\ ∀j,w.frozen? ⟨g,j,none⟩=false:=by
 obtain⟨h1,⟨hv,h2⟩|⟨g,c,cs,hv,hb,hc,hn,hm,hs,hx⟩⟩:=h
 ·omega
 ·have k0:(aG R)[i*2+0]? =some (iv R[i].1):=by unfold aG;rw[jA _ 2 (fun _=>rfl) R i 0 hi (by omega)];rfl
  have k1:(aG R)[i*2+1]? =some (iv R[i].2):=by unfold aG;rw[jA _ 2 (fun _=>rfl) R i 1 hi (by omega)];rfl
  refine⟨g,c,hv,hb,(aS.1 hc).1,⟨?_,?_⟩,fun j=>bn hc j⟩
  ·rw[<-hx,List.getElem?_take] at k0
   split at k0
   ·simp only[World.cell?,hc];simpa using k0
   ·cases k0
  ·rw[<-hx,List.getElem?_take] at k1
   split at k1
   ·simp only[World.cell?,hc];simpa using k1
   ·cases k1
theorem fQ {P:Program} {w:World} {ops:Array Oper} {rest:List Oper} {o:Oper} {a:Act} {Q:Exit->Act->World->Prop} (hg:o.guard=none) (s x:Operand) {t e:TypeId} {z:Value} {size bytes:Nat} (hT:iQ P t e z size bytes)
 (hop:o.op=Op.call {callee:=Callee.builtin Builtin.append,args:= #[s,x],argTypes:= #[t,t]}) (base:Nat) (v:Value) (n:Nat) (xs:List Value) (hs:a.eval s=v) (hown:w.ownsRow base e size v n xs)
 (src:Value) (k:Nat) (mY:List Value) (hx:a.eval x=src) (hsrc:aN size w src k mY) (h1: ∀u∈mY,u.oneCell'=true) (hb:(n+k)*bytes<=140737488355328) (h63:n+k<=9223372036854775807) (hbase:base<=w.heap.size)
 (hK: ∀v' w',w'.ownsRow base e size v' (n+k) (xs++mY)->w.grownBy w' v.ownBlock->(v'.ownBlock=v.ownBlock∨v'.ownBlock=some w.heap.size)->wpList P ops Q rest (a.put o.dst v') w'):wpList P ops Q (o::rest) a w:=by
 refine wpList_plain hg fun K hK'=>?_
 exact zi (dM (P:=P) hT hop hs hown hx hsrc h1 hb h63 hbase) fun v' w' ⟨h2,h3,h4⟩=>hK' _ _ (hK v' w' h2 h3 h4)
theorem pairs_nil (w:World):bT w (.slice none 0 0) []:=⟨rfl,none,0,rfl,ai _,by decide,fun _=>rfl,fun a h=>by cases h⟩
theorem jF {w W W':World} {mb:Nat} (h:Below w.heap.size w W) (hE:Ext [mb] W W') (hm:w.heap.size<=mb):Below w.heap.size w W':=ik h hE hm
theorem dN {P:Program} {c:Code} {Q:Exit->Act->World->Prop} {a:Act} {W:World} (h: ∀W',W'=W->Code.wp P c Q a W'):Code.wp P c Q a W:=h W rfl
theorem yJ {w W W5 W6:World} {base size n n':Nat} {e:TypeId} {v v':Value} {xs xs':List Value} (hB:Below w.heap.size w W) (hown:W.ownsRow base e size v n xs) (hE:Ext [] W W5)
 (_hown6:W6.ownsRow base e size v' n' xs') (hgr:W5.grownBy W6 v.ownBlock) (hbase:w.heap.size<=base) (hsz:base<=W.heap.size):
 Below w.heap.size w W6/\base<=W6.heap.size/\ ∀c,c<base->W6.heap[c]? =W.heap[c]? :=by
 have hk: ∀c,c<base->W6.heap[c]? =W.heap[c]? :=fun c hc=>by
  have h5:=hE.size
  refine(hgr.block c (by omega) (fun e1=>?_)).trans (hE.block c (by omega) (by simp))
  have:=(bD hown c e1.symm).1
  omega
 have h5:=hE.size
 have h6:=hgr.size
 refine⟨⟨?_,?_,?_,?_,fun c hc=>?_⟩,by omega,hk⟩
 ·exact hgr.os.trans (hE.os.trans hB.os)
 ·exact hgr.tape.trans (hE.tape.trans hB.tape)
 ·exact hgr.output.trans (hE.output.trans hB.output)
 ·have:=hB.size;omega
 ·exact(hk c (by omega)).trans (hB.block c hc)
theorem acJ {w W W5 W6:World} {base size n n' b i:Nat} {e t:TypeId} {v v' u:Value} {xs xs':List Value} {cs:Array Value} (hB:Below w.heap.size w W) (hown:W.ownsRow base e size v n xs) (hE:Ext [] W W5)
 (hown6:W6.ownsRow base e size v' n' xs') (hgr:W5.grownBy W6 v.ownBlock) (hsz:base<=W.heap.size) (hbb:b<base) (hwb:w.heap.size<=b) (hblk:W.heap[b]? =some (.cells cs t (0,0))):
 Below w.heap.size w (W6.setCell ⟨b,i,none⟩ u)/\base<=(W6.setCell ⟨b,i,none⟩ u).heap.size/\(W6.setCell ⟨b,i,none⟩ u).ownsRow base e size v' n' xs'/\
  (W6.setCell ⟨b,i,none⟩ u).heap[b]? =some (.cells (cs.setIfInBounds i u) t (0,0))/\ ∀c,c<base->c≠b->(W6.setCell ⟨b,i,none⟩ u).heap[c]? =W.heap[c]? :=by
 obtain⟨h1,h2,h3⟩:=yJ hB hown hE hown6 hgr (by omega) hsz
 refine⟨h1.setCell hwb u,by simpa [World.setCell] using h2,aC (Ms:=[b]) hown6 (mJ W6 ⟨b,i,none⟩ u) (by simpa using hbb),aI ((h3 b hbb).trans hblk) u,fun c hc hne=>?_⟩
 exact(dH _ _ _ _ hne).trans (h3 c hc)
theorem af {W:World} {b:Nat} {cs:Array Value} {t:TypeId} (h:W.heap[b]? =some (.cells cs t (0,0))):(∀i,W.cell? ⟨b,i,none⟩=cs[i]?)/\(∀i,W.frozen? ⟨b,i,none⟩=false)/\b<W.heap.size:=
 ⟨fun i=>by simp[World.cell?,h],fun i=>bn h i,(aS.1 h).1⟩
theorem pF (R:List dR) (r:dR):aG (R++[r])=aG R++aG [r]:=by simp[aG]
end Go.Proofs.YthllkbbbapgelaaGreatDoor
end
section
set_option linter.unusedSectionVars false
namespace Go.TB
open Go.RowKit Go.RG Go.SL
section
variable {α β : Type} [DecidableEq α] {P : Program}
structure XR (P:Program) (k:TypeId) (kv:α->Value) (ok:α->Prop):Prop where
 find: ∀(w:World) (x:Value) (es:List MapEntry),(Instr.findKey k x es).run P w=(Instr.findAsking k x es).run P w
 check: ∀(b:Bool) (a:α) (w:World),ok a->(Instr.checkKey b 10000 k (kv a)).run P w= .ok () w
 eq: ∀(a b:α) (w:World),ok a->ok b->(Op.equal k (kv a) (kv b)).run P w= .ok (decide (a=b)) w
 bits: ∀a,ok a->Instr.sameBits 10000 (kv a) (kv a)=true
def look (a:α):List (α×β)->Option β
 |[]=>none
 |x::T=>if a=x.1 then some x.2 else look a T
def store (a:α) (v:β):List (α×β)->List (α×β)
 |[]=>[(a,v)]
 |x::T=>if a=x.1 then(a,v)::T else x::store a v T
theorem wK (a:α) (v:β) (b:α): ∀T:List (α×β),look b (store a v T)=if b=a then some v else look b T:=by
 intro T
 induction T with
 |nil=>simp only[store,look]
 |cons x T ih=>
  simp only[store]
  by_cases h:a=x.1
  ·rw[aF h]
   simp only[look]
   by_cases hb:b=a
   ·rw[aF hb];simp[hb]
   ·rw[ak hb];simp[hb,show ¬b=x.1 from fun e=>hb (by rw[e,h])]
  ·rw[ak h]
   simp only[look]
   by_cases hx:b=x.1
   ·rw[aF hx,aF hx,ak (by rw[hx];exact fun e=>h e.symm)]
   ·rw[ak hx,ak hx,ih]
theorem V5 {a:α} {v:β} {x:α×β}: ∀{T:List (α×β)},x∈store a v T->x=(a,v)∨x∈T:=by
 intro T
 induction T with
 |nil=>intro h;simpa [store] using h
 |cons y T ih=>
  intro h
  simp only[store] at h
  split at h
  ·rcases gZ.1 h with h|h
   ·exact .inl h
   ·exact .inr (by simp[h])
  ·rcases gZ.1 h with h|h
   ·exact .inr (by simp[h])
   ·exact(ih h).imp id (fun h=>by simp[h])
def TabAt (kv:α->Value) (vv:β->Value) (ok:α->Prop) (W:World) (mb:Nat) (T:List (α×β)):Prop:=
 (∀x∈T,ok x.1)/\ ∃es clock,W.heap[mb]? =some (.map es clock)/\es.toList.map (fun e=>(e.key,e.val))=T.map fun x=>(kv x.1,vv x.2)
variable {kv : α → Value} {vv : β → Value} {ok : α → Prop}
theorem TabAt.kept {W W':World} {mb:Nat} {T:List (α×β)} (h:TabAt kv vv ok W mb T) (hk:W'.heap[mb]? =W.heap[mb]?):TabAt kv vv ok W' mb T:=by
 obtain⟨h0,es,c,h1,h2⟩:=h;exact⟨h0,es,c,hk.trans h1,h2⟩
theorem TabAt.lt {W:World} {mb:Nat} {T:List (α×β)} (h:TabAt kv vv ok W mb T):mb<W.heap.size:=by
 obtain⟨_,es,c,h1,h2⟩:=h;exact(aS.1 h1).1
theorem TabAt.below {W W':World} {mb:Nat} {T:List (α×β)} (h:TabAt kv vv ok W mb T) {B:Nat} (hb:Below B W W') (hB:W.heap.size<=B):TabAt kv vv ok W' mb T:=
 h.kept (hb.block _ (by have:=h.lt;omega))
theorem TabAt.ext {W W':World} {mb:Nat} {T:List (α×β)} (h:TabAt kv vv ok W mb T) {Ms:List Nat} (hE:Ext Ms W W') (hm:mb∉Ms):TabAt kv vv ok W' mb T:=
 h.kept (hE.block _ h.lt hm)
theorem TabAt.mX {W:World} {mb:Nat} {T:List (α×β)} (h:TabAt kv vv ok W mb T) (o:Nat):W.cell? ⟨mb,o,none⟩=none:=by
 obtain⟨_,es,c,h1,_⟩:=h
 simp[World.cell?,h1]
theorem TabAt.Lu {W:World} {mb:Nat} {T:List (α×β)} (h:TabAt kv vv ok W mb T) (cs:Array Value) (t:TypeId) (f:Nat×Nat):W.heap[mb]?≠some (.cells cs t f):=by
 obtain⟨_,es,c,h1,_⟩:=h
 rw[h1];intro e;cases e
theorem TabAt.ne {W:World} {mb b:Nat} {T:List (α×β)} (h:TabAt kv vv ok W mb T) {cs:Array Value} {t:TypeId} {f:Nat×Nat} (hb:W.heap[b]? =some (.cells cs t f)):b≠mb:=by
 intro e;subst e;exact h.Lu _ _ _ hb
theorem Hl {k:TypeId} (K:XR P k kv ok) (a:α) (ha:ok a) (v:β): ∀(T:List (α×β)) (es:List MapEntry) (i:Nat),(∀x∈T,ok x.1)->es.map (fun e=>(e.key,e.val))=T.map (fun x=>(kv x.1,vv x.2))->
 (look a T=none/\store a v T=T++[(a,v)]/\ ∀w,(Instr.findAsking k (kv a) es i).run P w= .ok none w)∨
 (∃j b,look a T=some b/\store a v T=T.set j (a,v)/\j<T.length/\(∃e,es[j]? =some e/\e.key=kv a)/\ ∀w,(Instr.findAsking k (kv a) es i).run P w= .ok (some (i+j,vv b)) w):=by
 intro T
 induction T with
 |nil=>
  intro es i _ he
  have:es=[]:=by simpa using he
  subst this
  exact .inl ⟨rfl,rfl,fun _=>rfl⟩
 |cons x T ih=>
  intro es i hok he
  cases es with
  |nil=>simp at he
  |cons e es=>
   simp only[List.map_cons,List.cons.injEq,Prod.mk.injEq] at he
   obtain⟨⟨hk,hv⟩,hr⟩:=he
   have hrun: ∀w,(Instr.findAsking k (kv a) (e::es) i).run P w=if a=x.1 then .ok (some (i,e.val)) w else(Instr.findAsking k (kv a) es (i+1)).run P w:=fun w=>by
    conv=>lhs;unfold Instr.findAsking
    simp only[Sem.run_bind,hk,K.eq a x.1 w ha (hok x (by simp)),Result.andThen_ok]
    by_cases h:a=x.1
    ·simp[h]
    ·simp[h]
   by_cases h:a=x.1
   ·refine .inr ⟨0,x.2,by simp[look,h],by simp[store,h],by simp,⟨e,by simp,by rw[hk,h]⟩,fun w=>?_⟩
    rw[hrun,aF h,hv];rfl
   ·rcases ih es (i+1) (fun y hy=>hok y (by simp[hy])) hr with⟨h1,h2,h3⟩|⟨j,b,h1,h2,h3,⟨e',h4,h4'⟩,h5⟩
    ·refine .inl ⟨by simp[look,h,h1],by simp[store,h,h2],fun w=>?_⟩
     rw[hrun,ak h];exact h3 w
    ·refine .inr ⟨j+1,b,by simp[look,h,h1],by simp[store,h,h2],by simpa using h3,⟨e',by simpa using h4,h4'⟩,fun w=>?_⟩
     rw[hrun,ak h,h5 w]
     rw[show i+1+j=i+(j+1) from by omega]
theorem vT {k e mt:TypeId} (K:XR P k kv ok) (hm:P.underlying mt=some (.map k e)) {z:Value} (hz: ∀w,(zeroValue e).run P w= .ok z w) {W0:World} {mb:Nat} {T:List (α×β)} (h:TabAt kv vv ok W0 mb T) (a:α) (ha:ok a)
 (cm:Bool) (W:World) (hW:W.heap[mb]? =W0.heap[mb]?):
 (Instr.lookup mt (.map (some mb)) (kv a) cm).run P W= .ok (if cm then .tuple #[((look a T).map vv).getD z,.bool (look a T).isSome] else((look a T).map vv).getD z) W:=by
 obtain⟨h0,es,c,h1,h2⟩:=h
 have Di:(getObj mb).run P W= .ok (.map es c) W:=by simp[getObj,Sem.run,hW,h1]
 have hf:=K.find W (kv a) es.toList
 cases hlk:look a T with
 |none=>
  have hr:(Instr.findAsking k (kv a) es.toList).run P W= .ok none W:=by
   by_cases hT: ∃b:β,True
   ·obtain⟨b,_⟩:=hT
    rcases Hl K a ha b T es.toList 0 h0 h2 with⟨_,_,h5⟩|⟨j,b',h3,_⟩
    ·exact h5 W
    ·rw[hlk] at h3;cases h3
   ·have hTn:T=[]:=by
     cases T with
     |nil=>rfl
     |cons x T=>exact absurd ⟨x.2,trivial⟩ hT
    subst hTn
    have:es.toList=[]:=by simpa using h2
    rw[this]
    rfl
  rw[hr] at hf
  cases cm <;>simp[Instr.lookup,run_underlying hm,Di,K.check _ a _ ha,hf,hz]
 |some b=>
  rcases Hl K a ha b T es.toList 0 h0 h2 with⟨h3,_⟩|⟨j,b',h3,_,_,_,h5⟩
  ·rw[hlk] at h3;cases h3
  ·rw[hlk] at h3;cases h3
   rw[h5 W] at hf
   cases cm <;>simp[Instr.lookup,run_underlying hm,Di,K.check _ a _ ha,hf]
theorem fU {k e mt:TypeId} (K:XR P k kv ok) (hm:P.underlying mt=some (.map k e)) {W:World} {mb:Nat} {T:List (α×β)} (h:TabAt kv vv ok W mb T) (a:α) (ha:ok a) (v:β):
 ∃W',(Instr.mapUpdate mt (.map (some mb)) (kv a) (vv v)).run P W= .ok () W'/\TabAt kv vv ok W' mb (store a v T)/\Ext [mb] W W':=by
 have hlt:=h.lt
 obtain⟨h0,es,c,h1,h2⟩:=h
 have Di:(getObj mb).run P W= .ok (.map es c) W:=by simp[getObj,Sem.run,h1]
 have hset: ∀es' c',(setObj mb (.map es' c')).run P W= .ok () {W with heap:=W.heap.setIfInBounds mb (.map es' c')}:=fun es' c'=>by
  simp[setObj,Sem.run,h1]
 have Am: ∀o:Obj,Ext [mb] W {W with heap:=W.heap.setIfInBounds mb o}:=fun o=>
  ⟨rfl,rfl,rfl,by simp,fun k _ hm=>by simp only[Array.getElem?_setIfInBounds];rw[ak (by simp at hm;omega)]⟩
 have hok: ∀x∈store a v T,ok x.1:=fun x hx=>by
  rcases V5 hx with rfl|hx
  ·exact ha
  ·exact h0 x hx
 have hf:=K.find W (kv a) es.toList
 rcases Hl K a ha v T es.toList 0 h0 h2 with⟨_,h4,h5⟩|⟨j,b,_,h4,hj,⟨e0,he0,hk0⟩,h5⟩
 ·rw[h5 W] at hf
  refine⟨{W with heap:=W.heap.setIfInBounds mb (.map (es.push {key:=kv a,val:=vv v,born:=c}) (c+1))},?_,⟨hok,es.push {key:=kv a,val:=vv v,born:=c},c+1,by simp[hlt],?_⟩,Am _⟩
  ·simp[Instr.mapUpdate,run_underlying hm,Di,K.check _ a _ ha,hf,hset]
  ·rw[h4];simp[h2]
 ·rw[h5 W] at hf
  have hje:es[j]? =some e0:=by simpa using he0
  refine⟨{W with heap:=W.heap.setIfInBounds mb (.map (es.modify j fun e=>{e with key:=kv a,val:=vv v}) c)},?_,⟨hok,es.modify j fun e=>{e with key:=kv a,val:=vv v},c,by simp[hlt],?_⟩,Am _⟩
  ·simp[Instr.mapUpdate,run_underlying hm,Di,K.check _ a _ ha,hf,hset,Instr.keyThatStays,hje,hk0,K.bits a ha]
  ·rw[h4,List.map_set, <-h2]
   apply List.ext_getElem?
   intro i
   simp only[qy,Array.getElem?_toList,Array.getElem?_modify,List.getElem?_set,mD,Array.length_toList]
   have ako:=(aS.1 hje).1
   by_cases hij:j=i
   ·subst hij
    simp[ako]
   ·simp[hij]
theorem Xo {k e mt:TypeId} (hm:P.underlying mt=some (.map k e)) (ty:TypeId) {W:World} {mb:Nat} {T:List (α×β)} (h:TabAt kv vv ok W mb T):
 ∃W',(Builtin.clear_ #[mt] ty #[.map (some mb)]).run P W= .ok (.tuple #[]) W'/\TabAt kv vv ok W' mb ([]:List (α×β))/\Ext [mb] W W':=by
 have hlt:=h.lt
 obtain⟨h0,es,c,h1,h2⟩:=h
 have Di:(getObj mb).run P W= .ok (.map es c) W:=by simp[getObj,Sem.run,h1]
 have hset: ∀es' c',(setObj mb (.map es' c')).run P W= .ok () {W with heap:=W.heap.setIfInBounds mb (.map es' c')}:=fun es' c'=>by
  simp[setObj,Sem.run,h1]
 refine⟨{W with heap:=W.heap.setIfInBounds mb (.map #[] c)},?_,⟨by simp,#[],c,by simp[hlt],rfl⟩,rfl,rfl,rfl,by simp,fun k _ hm=>by simp only[Array.getElem?_setIfInBounds];rw[ak (by simp at hm;omega)]⟩
 simp[Builtin.clear_,run_underlying hm,Di,hset]
theorem LC {W:World} {mb c:Nat} (h:W.heap[mb]? =some (.map #[] c)):TabAt kv vv ok W mb ([]:List (α×β)):=⟨by simp,#[],c,h,rfl⟩
end
end Go.TB
end

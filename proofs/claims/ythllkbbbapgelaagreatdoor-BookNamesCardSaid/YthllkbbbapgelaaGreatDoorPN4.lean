/-
  Texts of this claim, packed by a program: G TB GA.
-/
import Derived.WalkKit
import Derived.WalkLawsBesides
import Derived.WalkSpells
import Derived.Outline
import Derived.Handy
import Derived.KernelRfl
import Derived.Lib.Hide
import Derived.Laws.EntriesVeiled
import Derived.Deep.MidRow
import Derived.Laws.StructEq
import Derived.Maps.AppendAt
import Derived.WalkMore
import Derived.Deep.LoopGhost
import Derived.OwnWalkIn
import Derived.Laws.BitsLemmas
import Derived.Shelf.Abstract
import Derived.Test.YthllkbbbapgelaaGreatDoorProg
import Derived.WideKeyRuns
import Derived.Test.YthllkbbbapgelaaGreatDoorPN3
set_option maxHeartbeats 8000000
set_option maxRecDepth 100000
set_option linter.all false
theorem _root_.zbg {P:Prop} (h:P:=by
 rw[<-hx,List.getElem?_take] at e1;split at e1
 ·simp only[World.cell?,hc];simpa using e1
 ·cases e1):P:=h
section
namespace Go.SL
open Go.RowKit Go.RG
theorem xE {P:Program} {w:World} {t e:TypeId} {z:Value} {size bytes:Nat} (hT:fU P t e z size bytes) (ty:TypeId) {base:Nat} {v:Value} {n:Nat} {xs:List Value} (Gm:w.ownsRow base e size v n xs)
 {src:Value} {k:Nat} {kW:List Value} (ξ:aH size w src k kW) (h1: ∀u∈kW,u.oneCell'=true) (hb:(n+k)*bytes<=140737488355328) (h63:n+k<=9223372036854775807) (Μ:base<=w.heap.size):
 ∃v' w',(Builtin.append_ #[t,t] ty #[v,src]).run P w= .ok v' w'/\w'.ownsRow base e size v' (n+k) (xs++kW)/\w.grownBy w' v.ownBlock/\(v'.ownBlock=v.ownBlock∨v'.ownBlock=some w.heap.size):=by
 obtain⟨i,hi,hz,hs,hby⟩:=info_parts hT.info;obtain⟨o,c,rfl,hl,hn,hc⟩:=ξ.kW;cases o with
 |none=>
  obtain⟨rfl,rfl⟩:=hn rfl;have:kW=[]:=jl (by simpa using hl);subst this;have hrun:=run_append_owned_none (P:=P) w base t ty e i size hT.und hi v n xs Gm;exact⟨v,w,hrun,by simpa using Gm,World.grownBy.refl _ _,.inl rfl⟩
 |some a=>
  obtain⟨v',w',h,h2,h3,_,h4⟩:=run_append_own_at (P:=P) w base t ty e i z size bytes hT.und hi hz hs hby hT.cells hT.pos v n xs Gm a k c kW hl (hc a rfl) h1 (by simp only[maxLen];omega) hb Μ;exact⟨v',w',h,h2,h3,h4⟩
theorem dA {P:Program} {w:World} {t e:TypeId} {z:Value} {size bytes:Nat} (hT:fU P t e z size bytes) {o:Oper} {ρ:Operand->Value} {s x:Operand}
 (hop:o.op=Op.call {callee:=Callee.builtin Builtin.append,args:= #[s,x],argTypes:= #[t,t]}) {base:Nat} {v:Value} {n:Nat} {xs:List Value} (hs:ρ s=v) (Gm:w.ownsRow base e size v n xs)
 {src:Value} {k:Nat} {kW:List Value} (hx:ρ x=src) (ξ:aH size w src k kW) (h1: ∀u∈kW,u.oneCell'=true) (hb:(n+k)*bytes<=140737488355328) (h63:n+k<=9223372036854775807) (Μ:base<=w.heap.size):
 Does P o ρ w (fun v' w'=>w'.ownsRow base e size v' (n+k) (xs++kW)/\w.grownBy w' v.ownBlock/\(v'.ownBlock=v.ownBlock∨v'.ownBlock=some w.heap.size)):=by
 obtain⟨v',w',hrun,h2,h3,h4⟩:=xE (P:=P) hT o.type Gm ξ h1 hb h63 Μ;refine gH (W':=w') v' ?_ ⟨h2,h3,h4⟩;exact zbI
theorem lY {F:Fence} {n:Nat} (hF: ∀f,F.fn f) (hd:F.depth=none) {P:Program} (qY: ∀f args w R,Calls P f args w R->CallsIn F (n-1) P f args w R)
 {w:World} {ops:Array Oper} {rest:List Oper} {o:Oper} {a:Act} {Q:Exit->Act->World->Prop} (hg:o.guard=none) (s x:Operand) {t e:TypeId} {z:Value} {size bytes:Nat} (hT:fU P t e z size bytes)
 (hop:o.op=Op.call {callee:=Callee.builtin Builtin.append,args:= #[s,x],argTypes:= #[t,t]}) (base:Nat) (v:Value) (m:Nat) (xs:List Value) (hs:a.eval s=v) (Gm:w.ownsRow base e size v m xs)
 (src:Value) (k:Nat) (kW:List Value) (hx:a.eval x=src) (ξ:aH size w src k kW) (h1: ∀u∈kW,u.oneCell'=true) (hb:(m+k)*bytes<=140737488355328) (h63:m+k<=9223372036854775807) (Μ:base<=w.heap.size)
 (hK: ∀v' w',w'.ownsRow base e size v' (m+k) (xs++kW)->w.grownBy w' v.ownBlock->(v'.ownBlock=v.ownBlock∨v'.ownBlock=some w.heap.size)->wpListIn F n P ops Q rest (a.put o.dst v') w'):wpListIn F n P ops Q (o::rest) a w:=by
 refine wpListIn_plain hg fun K hK'=>?_;exact Hd hF hd (fun c h=>by rw[hop] at h;cases h) qY (dA (P:=P) hT hop hs Gm hx ξ h1 hb h63 Μ) fun v' w' ⟨h2,h3,h4⟩=>hK' _ _ (hK v' w' h2 h3 h4)
theorem KF (ls:List (List Int)) (k:Nat) (h: ∀x∈ls,x.length=k):(ls.flatMap ag).length=ls.length*k:=by
 induction ls with
 |nil=>simp
 |cons x ls ih=>
  rw[List.flatMap_cons,cu,ih (fun y hy=>h y (by simp[hy])),List.length_cons,Nat.add_mul];have:=h x ϕ;simp[ag,this];omega
theorem vR {w:World} {g:Nat} {cs:Array Value} {t:TypeId} {fr:Nat×Nat} (h:w.heap[g]? =some (.cells cs t fr)):w.rangeAt g 0 cs.toList:=fun j u hj=>by
 simp only[World.cell?,h,Nat.zero_add];simpa using hj
end Go.SL
namespace Go.Proofs.Z
open Go.RowKit Go.RG Go.SL Go.Shelf gK
abbrev iv (n:Int):Value:= .int .i64 n
abbrev rv (r:dF):Value:= .agg #[.int .i64 r.1,.int .i64 r.2]
abbrev kz (l:List Int):Value:= .agg (ag l).toArray
theorem abI (l:List Int) (v:Value) (bg:Nat) (Nf aP:Array Value) (p:Nat->Bool) (I:Nat->World->Prop) (w:World) (eg: Ϛ Tryz.prog bg)
 (Y5: ∀k W,I k W->aL W v l)
 (qY: ∀k (hk:k<l.length) W,(∀j,j<k->p j=false)->I k W->Ϝ bg (Nf.push (iv l[k])++aP) W (fun e W'=>e= .returned (.bool (p k))/\I (k+1) W')) (h0:I 0 w):
 Ϝ 279 #[v,.func (.func bg) Nf aP] w (dN l.length p I (fun k=>iv k) (iv (-1))):=by
 have IY:=(Y5 0 w h0).len;exact zcx
theorem LD (l:List Int) (v:Value) (bg:Nat) (Nf aP:Array Value) (p:Nat->Bool) (I:Nat->World->Prop) (w:World) (eg: Ϛ Tryz.prog bg)
 (Y5: ∀k W,I k W->aL W v l)
 (qY: ∀k (hk:k<l.length) W,(∀j,j<k->p j=false)->I k W->Ϝ bg (Nf.push (iv l[k])++aP) W (fun e W'=>e= .returned (.bool (p k))/\I (k+1) W')) (h0:I 0 w):
 Ϝ 217 #[v,.func (.func bg) Nf aP] w (dN l.length p I (fun _=> .bool true) (.bool false)):=by
 have HI:=aa (abI l v bg Nf aP p I w eg Y5 qY h0);exact zcS
theorem yX (a b:Int) (g c:Nat) (w:World) (h0:w.cell? ⟨g,0,none⟩=some (iv a)) (h1:w.cell? ⟨g,1,none⟩=some (iv b)):
 Ϝ 198 #[.slice (some ⟨g,0,none⟩) 2 c] w (PV (iv (min a b)) w):=by
 go_enter Tryz.func198,Tryz.ntmps198;go_wp2;go_rounds 2
 all_goals
  go_returns;exact⟨by simp;omega,aF _ _⟩
theorem gz (l:List Int) (v:Value) (n:Int) (w:World) (hv:aL w v l):Ϝ 147 #[v,iv n] w (PV (.bool (l.contains n)) w):=zan
theorem oF:fU Tryz.prog 52 3 (iv 0) 1 8:=⟨Tryz.underlying52,by kernel_rfl,rfl,by omega⟩
theorem AV (b:Bool) (d:Nat) (n:Int) (w:World):(Instr.checkKey b (d+1) 3 (iv n)).run Tryz.prog w= .ok () w:=by
 unfold Instr.checkKey;simp[go_sem]
def A8 (t:TypeId) (size n:Nat) (xs:List Value) (w:World) (e:Ending) (w':World):Prop:= ∃v,e= .returned v/\w'.ownsRow w.heap.size t size v n xs/\Ϙ w w'
theorem w9 (l:List Int) (v:Value) (w:World) (hv:aL w v l) (IY:l.length<=1000):
 Ϝ 91 #[v] w (A8 3 1 l.length (ag l) w):=by
 obtain⟨o,c,rfl⟩:=hv.open;exact zcw
theorem tF (n:Nat) (hn:n<=1000) (W:World):
 (Instr.makeSlice 52 (iv n) (iv n)).run Tryz.prog W= .ok (.slice (some ⟨W.heap.size,0,none⟩) n n) (W.alloc (.cells (ag (List.replicate n 0)).toArray 3)):=by
 obtain⟨i,hi,hz,hs,hby⟩:=info_parts oF.info;have:=run_make (P:=Tryz.prog) W 52 3 i (iv 0) oF.und hi hz .i64 .i64 n n ϑ (Int.le_refl _) (by rw[hby];omega) ϑ;rw[this,hs];exact zbT
theorem kG (w:World) (A B C D:Obj):((((w.alloc A).alloc B).alloc C).alloc D).heap[w.heap.size+1+1+1]? =some D:=by
 have:=heap_alloc_new (((w.alloc A).alloc B).alloc C) D;rwa [bA,bA,bA] at this
theorem kT (q:Nat) (f:Nat->Bool):(List.range (q+1)).all f=((List.range q).all f&&f q):=by
 rw[List.range_succ,List.all_append];simp
theorem dM {w W W':World} {mb:Nat} (h:Ϙ w W) (hE:Ext [mb] W W') (hm:w.heap.size<=mb):Ϙ w W':=
 h.trans ⟨hE.os,hE.tape,hE.output,hE.size,fun k hk=>by
  by_cases uM:k<W.heap.size
  ·exact hE.block k uM ϗ
  ·have:=h.size;omega⟩
theorem aL.rQ {w w':World} {v:Value} {l:List Int} (h:aL w v l) {Ms:List Nat} (hE:Ext Ms w w') (hM: ∀x∈Ms, ∀o n,w.cell? ⟨x,o,none⟩≠some (.int .i64 n)):aL w' v l:=by
 obtain⟨hl,o,c,rfl,h1,h2,h3,h4⟩:=h;refine⟨hl,o,c,rfl,h1,h2,h3,fun a ha=>?_⟩;obtain⟨hs,hc⟩:=h4 a ha;obtain⟨b,off,sp⟩:=a;simp only at hs hc;subst hs;refine⟨rfl,fun j u hj=>?_⟩;have Q7:=hc j u hj;have uM:=dB w _ Q7;rw[hE.cell b _ uM (fun hm=>by
  obtain⟨n,_,rfl⟩:=gW.1 (lg hj);exact hM b hm _ _ Q7)]
 exact Q7
theorem az {w w':World} {base:Nat} {e:TypeId} {size:Nat} {v:Value} {n:Nat} {xs:List Value} (h:w.ownsRow base e size v n xs) {Ms:List Nat} (hE:Ext Ms w w') (hM: ∀x∈Ms,x<base):w'.ownsRow base e size v n xs:=by
 obtain⟨h1,h2|⟨g,c,cs,hv,hb,hc,h3⟩⟩:=h
 ·exact⟨h1,.inl h2⟩
 ·exact⟨h1,.inr ⟨g,c,cs,hv,hb,(hE.block g (aN.1 hc).1 (fun hm=>by have:=hM g hm;omega)).trans hc,h3⟩⟩
theorem aM {w:World} {base:Nat} {e:TypeId} {size:Nat} {v:Value} {n:Nat} {xs:List Value} (h:w.ownsRow base e size v n xs): ∃o c,v= .slice o n c:=by
 obtain⟨h1,⟨rfl,rfl⟩|⟨g,c,cs,rfl,hb,hc,h3⟩⟩:=h
 ·exact⟨none,0,rfl⟩
 ·exact⟨_,_,rfl⟩
theorem nT {w w':World} {B:Nat} (h:rJ B [] w w') (hB:w.heap.size<=B):Ϙ w w':=⟨h.os,h.tape,h.output,h.size,fun k hk=>h.block k hk ϑ ϕ⟩
theorem Eo {w w':World} {B:Nat} {e:TypeId} {size:Nat} {v:Value} {n:Nat} {xs:List Value} (h:w.ownsRow B e size v n xs) (hg:w.grownBy w' v.ownBlock):rJ B [] w w':=
 ⟨hg.os,hg.tape,hg.output,hg.size,fun k hk hb _=>hg.block k hk (fun e1=>by
   obtain⟨h1,⟨rfl,rfl⟩|⟨g,c,cs,rfl,hb',hc,h3⟩⟩:=h
   ·cases e1
   ·have:k=g:=by simpa [Value.ownBlock] using e1
    omega)⟩
theorem bK {w:World} {base base':Nat} {e:TypeId} {size:Nat} {v:Value} {n:Nat} {xs:List Value} (h:w.ownsRow base' e size v n xs) (hB:base<=base'):w.ownsRow base e size v n xs:=by
 obtain⟨h1,h2|⟨g,c,cs,hv,hb,h3⟩⟩:=h
 ·exact⟨h1,.inl h2⟩
 ·exact⟨h1,.inr ⟨g,c,cs,hv,eU hB hb,h3⟩⟩
theorem _root_.Go.RG.Does.mono {P:Program} {o:Oper} {ρ:Operand->Value} {W:World} {R R':Value->World->Prop} (h:Does P o ρ W R) (hR: ∀v W',R v W'->R' v W'):Does P o ρ W R':=by
 unfold Does at h⊢;split at h
 ·exact hR _ _ h
 ·exact hR _ _ h
 ·exact h.mono fun e w' ⟨v,h1,h2⟩=>⟨v,h1,hR _ _ h2⟩
 ·exact h.elim
theorem rZ (l:List Int) (x:Int):ag (l++[x])=ag l++ag [x]:=by simp[ag]
theorem oJ (w:World):aL w (.slice none 0 0) []:=⟨rfl,none,0,rfl,ah _,by decide,fun _=>rfl,fun a h=>by cases h⟩
theorem Gl {below k:Nat} {p:List Int->Bool} {c:List Int} (hk:k<=below) (h1: ∀j,j<k->(iQ below j 0).find? p=none) (h2:(iQ below k 0).find? p=some c):lG below p=some c:=by
 unfold lG;refine pq p _ _ k ϗ c (fun j hj=>?_) ?_
 ·simp only[List.getElem_range];exact h1 j hj
 ·simp only[List.getElem_range];exact h2
theorem Gj {below:Nat} {p:List Int->Bool} (h1: ∀j,j<below+1->(iQ below j 0).find? p=none):lG below p=none:=by
 unfold lG;refine qO p _ _ fun j hj=>?_;simp only[List.length_range] at hj;simp only[List.getElem_range];exact h1 j hj
theorem bT {w w':World} {base:Nat} {e:TypeId} {size:Nat} {v:Value} {n:Nat} {xs:List Value} (h:w.ownsRow base e size v n xs) (hk: ∀g,v.ownBlock=some g->w'.heap[g]? =w.heap[g]?):w'.ownsRow base e size v n xs:=by
 obtain⟨h1,h2|⟨g,c,cs,rfl,hb,hc,h3⟩⟩:=h
 ·exact⟨h1,.inl h2⟩
 ·exact⟨h1,.inr ⟨g,c,cs,rfl,hb,(hk g rfl).trans hc,h3⟩⟩
theorem aS {w:World} {base:Nat} {e:TypeId} {size:Nat} {v:Value} {n:Nat} {xs:List Value} (h:w.ownsRow base e size v n xs): ∀g,v.ownBlock=some g->base<=g/\g<w.heap.size:=by
 intro g hg;obtain⟨h1,⟨rfl,rfl⟩|⟨g',c,cs,rfl,hb,hc,h3⟩⟩:=h
 ·cases hg
 ·have:g=g':=by simpa [Value.ownBlock] using hg.symm
  subst this;exact⟨hb,(aN.1 hc).1⟩
theorem Ei {α:Type} (f:α->List Value) (sz:Nat): ∀(l:List α),(∀x∈l,(f x).length=sz)-> ∀(k j:Nat) (hk:k<l.length),j<sz->(l.flatMap f)[k*sz+j]? =(f l[k])[j]? :=by
 intro l;induction l with
 |nil=>intro _ k j hk;simp at hk
 |cons x l ih=>
  intro hf k j hk hj;have hx:=hf x ϕ;cases k with
  |zero=>simp[List.flatMap_cons,sD (show j<(f x).length by rw[hx];exact hj)]
  |succ k=>
   have e:(k+1)*sz+j=(f x).length+(k*sz+j):=by rw[hx,Nat.add_mul];omega
   rw[List.flatMap_cons,e,mD ϑ,Nat.add_sub_cancel_left,ih (fun y hy=>hf y (by simp[hy])) k j (by simpa using hk) hj];rfl
theorem YR {w:World} {base:Nat} {e:TypeId} {q:Nat} {v:Value} {ls:List (List Int)} (h:w.ownsRow base e q v ls.length (ls.flatMap ag)) (hl: ∀x∈ls,x.length=q) {k:Nat} (hk:k<ls.length):
 ∃g c,v= .slice (some ⟨g,0,none⟩) ls.length c/\g<w.heap.size/\w.rangeAt g (k*q) (ag ls[k]):=by
 obtain⟨h1,⟨hv,h2⟩|⟨g,c,cs,hv,hb,hc,hn,hm,hs,hx⟩⟩:=h
 ·omega
 ·refine⟨g,c,hv,(aN.1 hc).1,fun j u hj=>?_⟩;have hj':j<q:=by have:=(iy.1 hj).1;simpa [ag,hl _ (bZ hk)] using this
  have e1:(ls.flatMap ag)[k*q+j]? =some u:=by
   rw[Ei ag q ls (fun x hx=>by simp[ag,hl x hx]) k j hk hj'];exact hj
  exact zbg
theorem FJ: ∀(R:List dF) (i:Nat) (r:dF),i<R.length->aB (R.set i r)=((aB R).set (i*2) (iv r.1)).set (i*2+1) (iv r.2):=by
 intro R;induction R with
 |nil=>intro i r hi;simp at hi
 |cons x R ih=>
  intro i r hi;cases i with
  |zero=>simp[aB]
  |succ i=>
   have:=ih i r (by simpa using hi);simp only[aB,List.set_cons_succ,List.flatMap_cons] at this⊢;rw[show(i+1)*2=i*2+1+1 by omega];simp only[List.cons_append,List.nil_append,List.set_cons_succ];rw[this]
theorem kr {w:World} {base:Nat} {e:TypeId} {size n:Nat} {g c:Nat} {xs:List Value} (h:w.ownsRow base e size (.slice (some ⟨g,0,none⟩) n c) n xs) (j:Nat) (_hj:j<n*size) (u:Value):
 (w.setCell ⟨g,j,none⟩ u).ownsRow base e size (.slice (some ⟨g,0,none⟩) n c) n (xs.set j u):=by
 obtain⟨h1,⟨hv,h2⟩|⟨g',c',cs,hv,hb,hc,hn,hm,hs,hx⟩⟩:=h
 ·cases hv
 ·cases hv;refine⟨by simpa using h1,.inr ⟨g,c,cs.setIfInBounds j u,rfl,hb,aA hc _,hn,hm,by simpa using hs,?_⟩⟩;rw[<-hx,Array.toList_setIfInBounds,List.take_set]
theorem lT {w:World} {base:Nat} {e:TypeId} {g c:Nat} {R:List dF} (h:w.ownsRow base e 2 (.slice (some ⟨g,0,none⟩) R.length c) R.length (aB R)) {i:Nat} (hi:i<R.length) (r:dF):
 ((w.setCell ⟨g,i*2,none⟩ (iv r.1)).setCell ⟨g,i*2+1,none⟩ (iv r.2)).ownsRow base e 2 (.slice (some ⟨g,0,none⟩) R.length c) R.length (aB (R.set i r)):=by
 rw[FJ R i r hi];exact kr (kr h (i*2) ϑ (iv r.1)) (i*2+1) ϑ (iv r.2)
theorem mI {w:World} {base:Nat} {e:TypeId} {v:Value} {R:List dF} (h:w.ownsRow base e 2 v R.length (aB R)) {i:Nat} (hi:i<R.length):
 ∃g c,v= .slice (some ⟨g,0,none⟩) R.length c/\base<=g/\g<w.heap.size/\(w.cell? ⟨g,i*2,none⟩=some (iv R[i].1)/\w.cell? ⟨g,i*2+1,none⟩=some (iv R[i].2))/\ ∀j,w.frozen? ⟨g,j,none⟩=false:=by
 obtain⟨h1,⟨hv,h2⟩|⟨g,c,cs,hv,hb,hc,hn,hm,hs,hx⟩⟩:=h
 ·omega
 ·have e1:(aB R)[i*2+0]? =some (iv R[i].1):=by unfold aB;rw[iG _ 2 (fun _=>rfl) R i 0 hi ϑ];rfl
  have k1:(aB R)[i*2+1]? =some (iv R[i].2):=by unfold aB;rw[iG _ 2 (fun _=>rfl) R i 1 hi ϑ];rfl
  refine⟨g,c,hv,hb,(aN.1 hc).1,⟨?_,?_⟩,fun j=>bn hc j⟩
  ·exact zbg
  ·rw[<-hx,List.getElem?_take] at k1;split at k1
   ·simp only[World.cell?,hc];simpa using k1
   ·cases k1
theorem cZ {P:Program} {w:World} {ops:Array Oper} {rest:List Oper} {o:Oper} {a:Act} {Q:Exit->Act->World->Prop} (hg:o.guard=none) (s x:Operand) {t e:TypeId} {z:Value} {size bytes:Nat} (hT:fU P t e z size bytes)
 (hop:o.op=Op.call {callee:=Callee.builtin Builtin.append,args:= #[s,x],argTypes:= #[t,t]}) (base:Nat) (v:Value) (n:Nat) (xs:List Value) (hs:a.eval s=v) (Gm:w.ownsRow base e size v n xs)
 (src:Value) (k:Nat) (kW:List Value) (hx:a.eval x=src) (ξ:aH size w src k kW) (h1: ∀u∈kW,u.oneCell'=true) (hb:(n+k)*bytes<=140737488355328) (h63:n+k<=9223372036854775807) (Μ:base<=w.heap.size)
 (hK: ∀v' w',w'.ownsRow base e size v' (n+k) (xs++kW)->w.grownBy w' v.ownBlock->(v'.ownBlock=v.ownBlock∨v'.ownBlock=some w.heap.size)->wpList P ops Q rest (a.put o.dst v') w'):wpList P ops Q (o::rest) a w:=by
 refine wpList_plain hg fun K hK'=>?_;exact uI (dA (P:=P) hT hop hs Gm hx ξ h1 hb h63 Μ) fun v' w' ⟨h2,h3,h4⟩=>hK' _ _ (hK v' w' h2 h3 h4)
theorem Rv (w:World):bD w (.slice none 0 0) []:=⟨rfl,none,0,rfl,ah _,by decide,fun _=>rfl,fun a h=>by cases h⟩
theorem fu {w W W':World} {mb:Nat} (h:Ϙ w W) (hE:Ext [mb] W W') (hm:w.heap.size<=mb):Ϙ w W':=dM h hE hm
theorem bU {P:Program} {c:Code} {Q:Exit->Act->World->Prop} {a:Act} {W:World} (h: ∀W',W'=W->Code.wp P c Q a W'):Code.wp P c Q a W:=h W rfl
theorem jO {w W W5 W6:World} {base size n n':Nat} {e:TypeId} {v v':Value} {xs xs':List Value} (hB:Ϙ w W) (Gm:W.ownsRow base e size v n xs) (hE:Ext [] W W5)
 (_hown6:W6.ownsRow base e size v' n' xs') (Y7:W5.grownBy W6 v.ownBlock) (Μ:w.heap.size<=base) (τ:base<=W.heap.size):
 Ϙ w W6/\base<=W6.heap.size/\ ∀c,c<base->W6.heap[c]? =W.heap[c]? :=by
 have hk: ∀c,c<base->W6.heap[c]? =W.heap[c]? :=fun c hc=>by
  have h5:=hE.size;refine(Y7.block c ϑ (fun e1=>?_)).trans (hE.block c ϑ ϕ);have:=(aS Gm c e1.symm).1;omega
 have h5:=hE.size;have h6:=Y7.size;refine⟨⟨?_,?_,?_,?_,fun c hc=>?_⟩,by omega,hk⟩
 ·exact Y7.os.trans (hE.os.trans hB.os)
 ·exact Y7.tape.trans (hE.tape.trans hB.tape)
 ·exact Y7.output.trans (hE.output.trans hB.output)
 ·have:=hB.size;omega
 ·exact(hk c ϑ).trans (hB.block c hc)
theorem qa {w W W5 W6:World} {base size n n' b i:Nat} {e t:TypeId} {v v' u:Value} {xs xs':List Value} {cs:Array Value} (hB:Ϙ w W) (Gm:W.ownsRow base e size v n xs) (hE:Ext [] W W5)
 (VC:W6.ownsRow base e size v' n' xs') (Y7:W5.grownBy W6 v.ownBlock) (τ:base<=W.heap.size) (hbb:b<base) (hwb:w.heap.size<=b) (ZX:W.heap[b]? =some (.cells cs t (0,0))):
 Ϙ w (W6.setCell ⟨b,i,none⟩ u)/\base<=(W6.setCell ⟨b,i,none⟩ u).heap.size/\(W6.setCell ⟨b,i,none⟩ u).ownsRow base e size v' n' xs'/\
  (W6.setCell ⟨b,i,none⟩ u).heap[b]? =some (.cells (cs.setIfInBounds i u) t (0,0))/\ ∀c,c<base->c≠b->(W6.setCell ⟨b,i,none⟩ u).heap[c]? =W.heap[c]? :=by
 obtain⟨h1,h2,h3⟩:=jO hB Gm hE VC Y7 ϑ τ;refine⟨h1.setCell hwb u,by simpa [World.setCell] using h2,az (Ms:=[b]) VC (jo W6 ⟨b,i,none⟩ u) (by simpa using hbb),aA ((h3 b hbb).trans ZX) u,fun c hc hne=>?_⟩;exact(bV _ _ _ _ hne).trans (h3 c hc)
theorem ae {W:World} {b:Nat} {cs:Array Value} {t:TypeId} (h:W.heap[b]? =some (.cells cs t (0,0))):(∀i,W.cell? ⟨b,i,none⟩=cs[i]?)/\(∀i,W.frozen? ⟨b,i,none⟩=false)/\b<W.heap.size:=
 ⟨fun i=>by simp[World.cell?,h],fun i=>bn h i,(aN.1 h).1⟩
theorem jJ (R:List dF) (r:dF):aB (R++[r])=aB R++aB [r]:=by simp[aB]
theorem Ao {w w':World} {base:Nat} {e:TypeId} {size:Nat} {v:Value} {n:Nat} {xs:List Value} (h:w.ownsRow base e size v n xs) {Ms:List Nat} (hE:Ext Ms w w') (hM: ∀x∈Ms,v.ownBlock≠some x):w'.ownsRow base e size v n xs:=
 bT h fun g hg=>hE.block g (aS h g hg).2 fun hm=>hM g hm hg
end Go.Proofs.Z
end
section
set_option linter.unusedSectionVars false
namespace Go.TB
open Go.RowKit Go.RG Go.SL
section
variable {α β : Type} [DecidableEq α] {P : Program}
structure TN (P:Program) (k:TypeId) (kv:α->Value) (ok:α->Prop):Prop where
 find: ∀(w:World) (x:Value) (es:List MapEntry),(Instr.findKey k x es).run P w=(Instr.findAsking k x es).run P w
 check: ∀(b:Bool) (a:α) (w:World),ok a->(Instr.checkKey b 10000 k (kv a)).run P w= .ok () w
 eq: ∀(a b:α) (w:World),ok a->ok b->(Op.equal k (kv a) (kv b)).run P w= .ok (decide (a=b)) w
 bits: ∀a,ok a->Instr.sameBits 10000 (kv a) (kv a)=true
def look (a:α):List (α×β)->Option β
 |[]=>none
 |x::T=>if a=x.1 then some x.2 else look a T
def store (a:α) (v:β):List (α×β)->List (α×β)
 |[]=>[(a,v)]
 |x::T=>if a=x.1 then(a,v)::T else x::store a v T
theorem uC (a:α) (v:β) (b:α): ∀T:List (α×β),look b (store a v T)=if b=a then some v else look b T:=by
 intro T;induction T with
 |nil=>simp only[store,look]
 |cons x T ih=>
  simp only[store];by_cases h:a=x.1
  ·rw[aG h];simp only[look];by_cases hb:b=a
   ·rw[aG hb];simp[hb]
   ·rw[ak hb];simp[hb,show ¬b=x.1 from fun e=>hb (by rw[e,h])]
  ·rw[ak h];simp only[look];by_cases hx:b=x.1
   ·rw[aG hx,aG hx,ak (by rw[hx];exact fun e=>h e.symm)]
   ·rw[ak hx,ak hx,ih]
theorem RH {a:α} {v:β} {x:α×β}: ∀{T:List (α×β)},x∈store a v T->x=(a,v)∨x∈T:=by
 intro T;induction T with
 |nil=>intro h;simpa [store] using h
 |cons y T ih=>
  intro h;simp only[store] at h;split at h
  ·rcases eQ.1 h with h|h
   ·exact .inl h
   ·exact .inr (by simp[h])
  ·rcases eQ.1 h with h|h
   ·exact .inr (by simp[h])
   ·exact(ih h).imp id (fun h=>by simp[h])
def TabAt (kv:α->Value) (vv:β->Value) (ok:α->Prop) (W:World) (mb:Nat) (T:List (α×β)):Prop:=
 (∀x∈T,ok x.1)/\ ∃es clock,W.heap[mb]? =some (.map es clock)/\es.toList.map (fun e=>(e.key,e.val))=T.map fun x=>(kv x.1,vv x.2)
variable {kv : α → Value} {vv : β → Value} {ok : α → Prop}
theorem TabAt.kept {W W':World} {mb:Nat} {T:List (α×β)} (h:TabAt kv vv ok W mb T) (hk:W'.heap[mb]? =W.heap[mb]?):TabAt kv vv ok W' mb T:=by
 obtain⟨h0,es,c,h1,h2⟩:=h;exact⟨h0,es,c,hk.trans h1,h2⟩
theorem TabAt.lt {W:World} {mb:Nat} {T:List (α×β)} (h:TabAt kv vv ok W mb T):mb<W.heap.size:=by
 obtain⟨_,es,c,h1,h2⟩:=h;exact(aN.1 h1).1
theorem TabAt.below {W W':World} {mb:Nat} {T:List (α×β)} (h:TabAt kv vv ok W mb T) {B:Nat} (hb:Below B W W') (hB:W.heap.size<=B):TabAt kv vv ok W' mb T:=
 h.kept (hb.block _ (by have:=h.lt;omega))
theorem TabAt.ext {W W':World} {mb:Nat} {T:List (α×β)} (h:TabAt kv vv ok W mb T) {Ms:List Nat} (hE:Ext Ms W W') (hm:mb∉Ms):TabAt kv vv ok W' mb T:=
 h.kept (hE.block _ h.lt hm)
theorem TabAt.kV {W:World} {mb:Nat} {T:List (α×β)} (h:TabAt kv vv ok W mb T) (o:Nat):W.cell? ⟨mb,o,none⟩=none:=by
 obtain⟨_,es,c,h1,_⟩:=h;simp[World.cell?,h1]
theorem TabAt.IL {W:World} {mb:Nat} {T:List (α×β)} (h:TabAt kv vv ok W mb T) (cs:Array Value) (t:TypeId) (f:Nat×Nat):W.heap[mb]?≠some (.cells cs t f):=by
 obtain⟨_,es,c,h1,_⟩:=h;rw[h1];intro e;cases e
theorem TabAt.ne {W:World} {mb b:Nat} {T:List (α×β)} (h:TabAt kv vv ok W mb T) {cs:Array Value} {t:TypeId} {f:Nat×Nat} (hb:W.heap[b]? =some (.cells cs t f)):b≠mb:=by
 intro e;subst e;exact h.IL _ _ _ hb
theorem Em {k:TypeId} (K:TN P k kv ok) (a:α) (ha:ok a) (v:β): ∀(T:List (α×β)) (es:List MapEntry) (i:Nat),(∀x∈T,ok x.1)->es.map (fun e=>(e.key,e.val))=T.map (fun x=>(kv x.1,vv x.2))->
 (look a T=none/\store a v T=T++[(a,v)]/\ ∀w,(Instr.findAsking k (kv a) es i).run P w= .ok none w)∨
 (∃j b,look a T=some b/\store a v T=T.set j (a,v)/\j<T.length/\(∃e,es[j]? =some e/\e.key=kv a)/\ ∀w,(Instr.findAsking k (kv a) es i).run P w= .ok (some (i+j,vv b)) w):=by
 intro T;induction T with
 |nil=>
  intro es i _ he;have:es=[]:=by simpa using he
  subst this;exact .inl ⟨rfl,rfl,fun _=>rfl⟩
 |cons x T ih=>
  intro es i hok he;cases es with
  |nil=>simp at he
  |cons e es=>
   simp only[List.map_cons,List.cons.injEq,Prod.mk.injEq] at he;obtain⟨⟨hk,hv⟩,hr⟩:=he;have hrun: ∀w,(Instr.findAsking k (kv a) (e::es) i).run P w=if a=x.1 then .ok (some (i,e.val)) w else(Instr.findAsking k (kv a) es (i+1)).run P w:=fun w=>by
    conv=>lhs;unfold Instr.findAsking
    simp only[Sem.run_bind,hk,K.eq a x.1 w ha (hok x ϕ),Result.andThen_ok];by_cases h:a=x.1
    ·simp[h]
    ·simp[h]
   by_cases h:a=x.1
   ·refine .inr ⟨0,x.2,by simp[look,h],by simp[store,h],by simp,⟨e,by simp,by rw[hk,h]⟩,fun w=>?_⟩;rw[hrun,aG h,hv];rfl
   ·rcases ih es (i+1) (fun y hy=>hok y (by simp[hy])) hr with⟨h1,h2,h3⟩|⟨j,b,h1,h2,h3,⟨e',h4,h4'⟩,h5⟩
    ·refine .inl ⟨by simp[look,h,h1],by simp[store,h,h2],fun w=>?_⟩;rw[hrun,ak h];exact h3 w
    ·refine .inr ⟨j+1,b,by simp[look,h,h1],by simp[store,h,h2],by simpa using h3,⟨e',by simpa using h4,h4'⟩,fun w=>?_⟩;rw[hrun,ak h,h5 w];rw[show i+1+j=i+(j+1) from by omega]
theorem tH {k e mt:TypeId} (K:TN P k kv ok) (hm:P.underlying mt=some (.map k e)) {z:Value} (hz: ∀w,(zeroValue e).run P w= .ok z w) {W0:World} {mb:Nat} {T:List (α×β)} (h:TabAt kv vv ok W0 mb T) (a:α) (ha:ok a)
 (cm:Bool) (W:World) (hW:W.heap[mb]? =W0.heap[mb]?):
 (Instr.lookup mt (.map (some mb)) (kv a) cm).run P W= .ok (if cm then .tuple #[((look a T).map vv).getD z,.bool (look a T).isSome] else((look a T).map vv).getD z) W:=by
 obtain⟨h0,es,c,h1,h2⟩:=h;have Av:(getObj mb).run P W= .ok (.map es c) W:=by simp[getObj,Sem.run,hW,h1]
 have hf:=K.find W (kv a) es.toList;cases Ξ:look a T with
 |none=>
  have hr:(Instr.findAsking k (kv a) es.toList).run P W= .ok none W:=by
   by_cases hT: ∃b:β,True
   ·obtain⟨b,_⟩:=hT;rcases Em K a ha b T es.toList 0 h0 h2 with⟨_,_,h5⟩|⟨j,b',h3,_⟩
    ·exact h5 W
    ·rw[Ξ] at h3;cases h3
   ·have hTn:T=[]:=by
     cases T with
     |nil=>rfl
     |cons x T=>exact absurd ⟨x.2,trivial⟩ hT
    subst hTn;have:es.toList=[]:=by simpa using h2
    rw[this];rfl
  rw[hr] at hf;cases cm <;>simp[Instr.lookup,run_underlying hm,Av,K.check _ a _ ha,hf,hz]
 |some b=>
  rcases Em K a ha b T es.toList 0 h0 h2 with⟨h3,_⟩|⟨j,b',h3,_,_,_,h5⟩
  ·rw[Ξ] at h3;cases h3
  ·rw[Ξ] at h3;cases h3;rw[h5 W] at hf;cases cm <;>simp[Instr.lookup,run_underlying hm,Av,K.check _ a _ ha,hf]
theorem eP {k e mt:TypeId} (K:TN P k kv ok) (hm:P.underlying mt=some (.map k e)) {W:World} {mb:Nat} {T:List (α×β)} (h:TabAt kv vv ok W mb T) (a:α) (ha:ok a) (v:β):
 ∃W',(Instr.mapUpdate mt (.map (some mb)) (kv a) (vv v)).run P W= .ok () W'/\TabAt kv vv ok W' mb (store a v T)/\Ext [mb] W W':=by
 have uM:=h.lt;obtain⟨h0,es,c,h1,h2⟩:=h;have Av:(getObj mb).run P W= .ok (.map es c) W:=by simp[getObj,Sem.run,h1]
 have Β: ∀Ο c',(setObj mb (.map Ο c')).run P W= .ok () {W with heap:=W.heap.setIfInBounds mb (.map Ο c')}:=fun Ο c'=>by
  simp[setObj,Sem.run,h1]
 have yt: ∀o:Obj,Ext [mb] W {W with heap:=W.heap.setIfInBounds mb o}:=fun o=>
  ⟨rfl,rfl,rfl,by simp,fun k _ hm=>by simp only[Array.getElem?_setIfInBounds];rw[ak (by simp at hm;omega)]⟩
 have hok: ∀x∈store a v T,ok x.1:=fun x hx=>by
  rcases RH hx with rfl|hx
  ·exact ha
  ·exact h0 x hx
 have hf:=K.find W (kv a) es.toList;rcases Em K a ha v T es.toList 0 h0 h2 with⟨_,h4,h5⟩|⟨j,b,_,h4,hj,⟨e0,he0,hk0⟩,h5⟩
 ·rw[h5 W] at hf;refine⟨{W with heap:=W.heap.setIfInBounds mb (.map (es.push {key:=kv a,val:=vv v,born:=c}) (c+1))},?_,⟨hok,es.push {key:=kv a,val:=vv v,born:=c},c+1,by simp[uM],?_⟩,yt _⟩
  ·simp[Instr.mapUpdate,run_underlying hm,Av,K.check _ a _ ha,hf,Β]
  ·rw[h4];simp[h2]
 ·rw[h5 W] at hf;have hje:es[j]? =some e0:=by simpa using he0
  refine⟨{W with heap:=W.heap.setIfInBounds mb (.map (es.modify j fun e=>{e with key:=kv a,val:=vv v}) c)},?_,⟨hok,es.modify j fun e=>{e with key:=kv a,val:=vv v},c,by simp[uM],?_⟩,yt _⟩
  ·simp[Instr.mapUpdate,run_underlying hm,Av,K.check _ a _ ha,hf,Β,Instr.keyThatStays,hje,hk0,K.bits a ha]
  ·rw[h4,List.map_set, <-h2];apply List.ext_getElem?;intro i;simp only[nX,Array.getElem?_toList,Array.getElem?_modify,List.getElem?_set,kJ,Array.length_toList];have ajq:=(aN.1 hje).1;by_cases hij:j=i
   ·subst hij;simp[ajq]
   ·simp[hij]
theorem Td {k e mt:TypeId} (hm:P.underlying mt=some (.map k e)) (ty:TypeId) {W:World} {mb:Nat} {T:List (α×β)} (h:TabAt kv vv ok W mb T):
 ∃W',(Builtin.clear_ #[mt] ty #[.map (some mb)]).run P W= .ok (.tuple #[]) W'/\TabAt kv vv ok W' mb ([]:List (α×β))/\Ext [mb] W W':=by
 have uM:=h.lt;obtain⟨h0,es,c,h1,h2⟩:=h;have Av:(getObj mb).run P W= .ok (.map es c) W:=by simp[getObj,Sem.run,h1]
 have Β: ∀Ο c',(setObj mb (.map Ο c')).run P W= .ok () {W with heap:=W.heap.setIfInBounds mb (.map Ο c')}:=fun Ο c'=>by
  simp[setObj,Sem.run,h1]
 refine⟨{W with heap:=W.heap.setIfInBounds mb (.map #[] c)},?_,⟨by simp,#[],c,by simp[uM],rfl⟩,rfl,rfl,rfl,by simp,fun k _ hm=>by simp only[Array.getElem?_setIfInBounds];rw[ak (by simp at hm;omega)]⟩;simp[Builtin.clear_,run_underlying hm,Av,Β]
theorem IM {W:World} {mb c:Nat} (h:W.heap[mb]? =some (.map #[] c)):TabAt kv vv ok W mb ([]:List (α×β)):=⟨by simp,#[],c,h,rfl⟩
end
end Go.TB
end
section
namespace Go.Proofs.Z
open Go.RowKit Go.RG Go.SL Go.Shelf gK
theorem Iy (ty:TypeId) {W:World} {g:Nat} {rv:Value} {l:List Int} (hg:W.heap[g]? =some (.cells #[] 3 (0,0))) (hs:aL W rv l) (hl:l.length<=1000):
 ∃o c W',(Builtin.append_ #[52,52] ty #[.slice (some ⟨g,0,none⟩) 0 0,rv]).run Tryz.prog W= .ok (.slice o l.length c) W'/\W'.ownsRow g 3 1 (.slice o l.length c) l.length (ag l)/\Below g W W':=by
 have uM:=(aN.1 hg).1;have Gm:W.ownsRow g 3 1 (.slice (some ⟨g,0,none⟩) 0 0) 0 []:=⟨by simp,.inr ⟨g,0,#[],rfl,ah _,hg,ah _,bE _,by simp,by simp⟩⟩;obtain⟨v',W',h1,h2,h3,_⟩:=xE (P:=Tryz.prog) oF ty Gm hs (ic _) ϑ ϑ ϑ;rw[Nat.zero_add,List.nil_append] at h2;obtain⟨o,c,rfl⟩:=aM h2;exact⟨o,c,W',h1,h2,h3.os,h3.tape,h3.output,h3.size,fun k hk=>h3.block k ϑ (fun e=>by simp[Value.ownBlock] at e;omega)⟩
theorem Fp {P:Program} {ops:Array Oper} {Q:Exit->Act->World->Prop} {a:Act} {w:World} {rest:List Oper} {o:Oper} (hw:Region.wanted o (yielded ops a.tmps)=true)
 (h: ∀K:Act->World->Prop,(∀a w,wpList P ops Q rest a w->K a w)->o.wp P a w K Q):wpList P ops Q (o::rest) a w:=
 wpList_step fun K hK=>by rw[aG hw];exact h K hK
theorem JM {w:World} {ops:Array Oper} {rest:List Oper} {o:Oper} {a:Act} {Q:Exit->Act->World->Prop} (hw:Region.wanted o (yielded ops a.tmps)=true) (s x:Operand)
 (hop:o.op=Op.call {callee:=Callee.builtin Builtin.append,args:= #[s,x],argTypes:= #[52,52]}) {g:Nat} (hs:a.eval s= .slice (some ⟨g,0,none⟩) 0 0) (hg:w.heap[g]? =some (.cells #[] 3 (0,0)))
 (l:List Int) (rv:Value) (hx:a.eval x=rv) (hr:aL w rv l) (hl:l.length<=1000)
 (hK: ∀oo c w',w'.ownsRow g 3 1 (.slice oo l.length c) l.length (ag l)->Below g w w'->wpList Tryz.prog ops Q rest (a.put o.dst (.slice oo l.length c)) w'):wpList Tryz.prog ops Q (o::rest) a w:=by
 refine Fp hw fun K hK'=>?_;obtain⟨oo,c,w',hrun,h2,h3⟩:=Iy o.type hg hr hl;refine uI (R:=fun v w''=>v= .slice oo l.length c/\w''=w') (gH (W':=w') (.slice oo l.length c) ?_ ⟨rfl,rfl⟩) ?_
 ·exact zbI
 ·rintro v w'' ⟨rfl,rfl⟩;exact hK' _ _ (hK oo c _ h2 h3)
end Go.Proofs.Z
end

/-
  Texts of this claim, packed by a program: Lib Fence Seq SeqM.
-/
import Derived.WalkKit
import Derived.Deep.AppendSrc
import Derived.RangeFuncCalls
import Derived.RangeFuncLeaves
import Derived.RangeFuncIn
import Derived.TacticsIn
import Derived.RegionIn
import Derived.LoopIn
import Derived.LoopNIn
import Derived.OrdersIn
import Derived.RangeFuncRecord
import Derived.RangeFuncOwn
import Derived.Test.YthllkbbbapgelaaGreatDoorPW2
set_option maxHeartbeats 8000000
set_option maxRecDepth 100000
set_option linter.all false
section
namespace Go.SL
open Go.RowKit Go.RG
def aN (size:Nat) (w:World) (v:Value) (n:Nat) (xs:List Value):Prop:=
 xs.length=n*size/\ ∃o c,v= .slice o n c/\n<=c/\c<=maxLen/\(o=none->c=0)/\ ∀a,o=some a->a.spot=none/\ ∀j u,xs[j]? =some u->w.cell? ⟨a.block,a.off+j,none⟩=some u
theorem aN.nil (size:Nat) (w:World):aN size w (.slice none 0 0) 0 []:=⟨by simp,none,0,rfl,ai _,by simp[maxLen],fun _=>rfl,fun a h=>by cases h⟩
theorem aN.len {size:Nat} {w:World} {v:Value} {n:Nat} {xs:List Value} (h:aN size w v n xs):n<=9223372036854775807:=by
 obtain⟨_,o,c,_,h1,h2,_⟩:=h
 simp only[maxLen] at h2;omega
theorem aN.kept {size:Nat} {w w':World} {v:Value} {n:Nat} {xs:List Value} (h:aN size w v n xs) (hk: ∀b off n c,v= .slice (some ⟨b,off,none⟩) n c->b<w.heap.size->w'.heap[b]? =w.heap[b]?):aN size w' v n xs:=by
 obtain⟨hl,o,c,rfl,h1,h2,h3,h4⟩:=h
 refine⟨hl,o,c,rfl,h1,h2,h3,fun a ha=>?_⟩
 obtain⟨hs,hc⟩:=h4 a ha
 obtain⟨b,off,sp⟩:=a
 simp only at hs hc
 subst hs
 refine⟨rfl,fun j u hj=>?_⟩
 have hcell:=hc j u hj
 have hlt:=dI w _ hcell
 rw[jd (w:=w) (hk b off n c (by rw[ha]) hlt)]
 exact hcell
theorem aN.below {size:Nat} {w w':World} {v:Value} {n:Nat} {xs:List Value} (h:aN size w v n xs) {B:Nat} (hb:Below B w w') (hB:w.heap.size<=B):aN size w' v n xs:=
 h.kept fun b _ _ _ _ hlt=>hb.block b (by omega)
theorem aN.ext {size:Nat} {w w':World} {v:Value} {n:Nat} {xs:List Value} (h:aN size w v n xs) {Ms:List Nat} (hE:Ext Ms w w') (hM: ∀x∈Ms,v.ownBlock≠some x):aN size w' v n xs:=
 h.kept fun b off n c hv hlt=>hE.block b hlt fun hm=>hM b hm (by rw[hv];rfl)
theorem aN.alloc {size:Nat} {w:World} {v:Value} {n:Nat} {xs:List Value} (h:aN size w v n xs) (o:Obj):aN size (w.alloc o) v n xs:=
 h.below ((aH w.heap.size w).alloc (ai _) o) (ai _)
theorem aN.dU {w:World} {base:Nat} {e:TypeId} {size:Nat} {v:Value} {n:Nat} {xs:List Value} (h:w.ownsRow base e size v n xs):aN size w v n xs:=by
 refine⟨h.1,?_⟩
 rcases h.2 with⟨rfl,rfl⟩|⟨g,cap,cur,rfl,hb,hg,hn,hc,hs,ht⟩
 ·exact⟨none,0,rfl,ai _,by simp[maxLen],fun _=>rfl,fun a h=>by cases h⟩
 ·refine⟨_,cap,rfl,hn,hc,(fun h=>by cases h),fun a ha=>?_⟩
  cases ha
  refine⟨rfl,fun j u hj=>?_⟩
  simp only[Nat.zero_add]
  rw[cell_of_row w g j cur e (0,0) hg]
  rw[<-ht,List.getElem?_take] at hj
  split at hj
  ·simpa using hj
  ·cases hj
structure iQ (P:Program) (t e:TypeId) (z:Value) (size bytes:Nat):Prop where
 und:P.underlying t=some (.slice e)
 info:(P.info? e).map (fun i=>(i.zero,i.size,i.bytes))=some (some z,size,bytes)
 cells:z.cells.size=size
 pos:0<size
theorem aN.mY {size:Nat} {w:World} {v:Value} {n:Nat} {xs:List Value} (h:aN size w v n xs): ∃o c,v= .slice o n c/\xs.length=n*size/\(o=none->c=0/\n=0)/\ ∀a,o=some a-> ∀j u,xs[j]? =some u->w.cell? (a.add j)=some u:=by
 obtain⟨hl,o,c,rfl,h1,h2,h3,h4⟩:=h
 refine⟨o,c,rfl,hl,fun ho=>⟨h3 ho,by have:=h3 ho;omega⟩,fun a ha j u hj=>?_⟩
 obtain⟨hs,hc⟩:=h4 a ha
 obtain⟨b,off,sp⟩:=a
 simp only at hs hc
 subst hs
 rw[Addr.add_lit]
 exact hc j u hj
theorem Q3 {P:Program} {w:World} {t e:TypeId} {z:Value} {size bytes:Nat} (hT:iQ P t e z size bytes) (ty:TypeId) {base:Nat} {v:Value} {n:Nat} {xs:List Value} (hown:w.ownsRow base e size v n xs)
 {src:Value} {k:Nat} {mY:List Value} (hsrc:aN size w src k mY) (h1: ∀u∈mY,u.oneCell'=true) (hb:(n+k)*bytes<=140737488355328) (h63:n+k<=9223372036854775807) (hbase:base<=w.heap.size):
 ∃v' w',(Builtin.append_ #[t,t] ty #[v,src]).run P w= .ok v' w'/\w'.ownsRow base e size v' (n+k) (xs++mY)/\w.grownBy w' v.ownBlock:=by
 obtain⟨i,hi,hz,hs,hby⟩:=info_parts hT.info
 obtain⟨o,c,rfl,hl,hn,hc⟩:=hsrc.mY
 cases o with
 |none=>
  obtain⟨rfl,rfl⟩:=hn rfl
  have:mY=[]:=kG (by simpa using hl)
  subst this
  have hrun:=run_append_owned_none (P:=P) w base t ty e i size hT.und hi v n xs hown
  exact⟨v,w,hrun,by simpa using hown,World.grownBy.refl _ _⟩
 |some a=>
  obtain⟨v',w',h,h2,h3,_⟩:=run_append_own (P:=P) w base t ty e i z size bytes hT.und hi hz hs hby hT.cells hT.pos v n xs hown a k c mY hl (hc a rfl) h1 (by simp only[maxLen];omega) hb hbase
  exact⟨v',w',h,h2,h3⟩
theorem yG {P:Program} {w:World} {t e:TypeId} {z:Value} {size bytes:Nat} (hT:iQ P t e z size bytes) {o:Oper} {ρ:Operand->Value} {s x:Operand}
 (hop:o.op=Op.call {callee:=Callee.builtin Builtin.append,args:= #[s,x],argTypes:= #[t,t]}) {base:Nat} {v:Value} {n:Nat} {xs:List Value} (hs:ρ s=v) (hown:w.ownsRow base e size v n xs)
 {src:Value} {k:Nat} {mY:List Value} (hx:ρ x=src) (hsrc:aN size w src k mY) (h1: ∀u∈mY,u.oneCell'=true) (hb:(n+k)*bytes<=140737488355328) (h63:n+k<=9223372036854775807) (hbase:base<=w.heap.size):
 Does P o ρ w (fun v' w'=>w'.ownsRow base e size v' (n+k) (xs++mY)/\w.grownBy w' v.ownBlock):=by
 obtain⟨v',w',hrun,h2,h3⟩:=Q3 (P:=P) hT o.type hown hsrc h1 hb h63 hbase
 refine jm (W':=w') v' ?_ ⟨h2,h3⟩
 simp[execOp,hop,resolve,invoke,builtin,hs,hx,hrun,Result.andThen]
theorem fV {P:Program} {w:World} {ops:Array Oper} {rest:List Oper} {o:Oper} {a:Act} {Q:Exit->Act->World->Prop} (hg:o.guard=none) (s x:Operand) {t e:TypeId} {z:Value} {size bytes:Nat} (hT:iQ P t e z size bytes)
 (hop:o.op=Op.call {callee:=Callee.builtin Builtin.append,args:= #[s,x],argTypes:= #[t,t]}) (base:Nat) (v:Value) (n:Nat) (xs:List Value) (hs:a.eval s=v) (hown:w.ownsRow base e size v n xs)
 (src:Value) (k:Nat) (mY:List Value) (hx:a.eval x=src) (hsrc:aN size w src k mY) (h1: ∀u∈mY,u.oneCell'=true) (hb:(n+k)*bytes<=140737488355328) (h63:n+k<=9223372036854775807) (hbase:base<=w.heap.size)
 (hK: ∀v' w',w'.ownsRow base e size v' (n+k) (xs++mY)->w.grownBy w' v.ownBlock->wpList P ops Q rest (a.put o.dst v') w'):wpList P ops Q (o::rest) a w:=by
 refine wpList_plain hg fun K hK'=>?_
 exact zi (yG (P:=P) hT hop hs hown hx hsrc h1 hb h63 hbase) fun v' w' ⟨h2,h3⟩=>hK' _ _ (hK v' w' h2 h3)
def ah (l:List Int):List Value:=l.map (Value.int .i64)
def aG (l:List (Int×Int)):List Value:=l.flatMap fun r=>[.int .i64 r.1,.int .i64 r.2]
def aX (l:List (Int×Int×Int)):List Value:=l.flatMap fun r=>[.int .i64 r.1,.int .i64 r.2.1,.int .i64 r.2.2]
theorem jL (l:List Int): ∀u∈ah l,u.oneCell'=true:=by
 intro u hu;obtain⟨_,_,rfl⟩:=jc.1 hu;rfl
theorem oN (l:List (Int×Int)): ∀u∈aG l,u.oneCell'=true:=by
 intro u hu
 obtain⟨r,_,h⟩:=qx.1 hu
 rcases gZ.1 h with rfl|h
 ·rfl
 ·rw[fD.1 h];rfl
theorem uK (l:List (Int×Int×Int)): ∀u∈aX l,u.oneCell'=true:=by
 intro u hu
 obtain⟨r,_,h⟩:=qx.1 hu
 rcases gZ.1 h with rfl|h
 ·rfl
 ·rcases gZ.1 h with rfl|h
  ·rfl
  ·rw[fD.1 h];rfl
theorem jA {α:Type} (f:α->List Value) (sz:Nat) (hf: ∀x,(f x).length=sz): ∀(l:List α) (k j:Nat) (hk:k<l.length),j<sz->(l.flatMap f)[k*sz+j]? =(f l[k])[j]? :=by
 intro l
 induction l with
 |nil=>intro k j hk;simp at hk
 |cons x l ih=>
  intro k j hk hj
  cases k with
  |zero=>simp[List.flatMap_cons,ve (show j<(f x).length by rw[hf];exact hj)]
  |succ k=>
   have e:(k+1)*sz+j=(f x).length+(k*sz+j):=by rw[hf,Nat.add_mul];omega
   rw[List.flatMap_cons,e,oG (by omega),Nat.add_sub_cancel_left,ih k j (by simpa using hk) hj]
   rfl
abbrev aO (w:World) (v:Value) (l:List Int):Prop:=aN 1 w v l.length (ah l)
abbrev bT (w:World) (v:Value) (l:List (Int×Int)):Prop:=aN 2 w v l.length (aG l)
abbrev bJ (w:World) (v:Value) (l:List (Int×Int×Int)):Prop:=aN 3 w v l.length (aX l)
theorem aN.open {size:Nat} {w:World} {v:Value} {n:Nat} {xs:List Value} (h:aN size w v n xs): ∃o c,v= .slice o n c:=by
 obtain⟨_,o,c,hv,_⟩:=h;exact⟨o,c,hv⟩
theorem aO.cell {w:World} {o:Option Addr} {n c:Nat} {l:List Int} (h:aN 1 w (.slice o n c) n (ah l)) {k:Nat} (hk:k<l.length):
 ∃b off,o=some ⟨b,off,none⟩/\b<w.heap.size/\w.cell? ⟨b,off+k,none⟩=some (.int .i64 l[k]):=by
 obtain⟨hl,o',c',hv,h1,h2,h3,h4⟩:=h
 cases hv
 have hn:n=l.length:=by simpa [ah] using hl.symm
 cases o with
 |none=>have:=h3 rfl;omega
 |some a=>
  obtain⟨b,off,sp⟩:=a
  obtain⟨hs,hc⟩:=h4 _ rfl
  simp only at hs hc
  subst hs
  have:=hc k (.int .i64 l[k]) (by simp[ah,hk])
  exact⟨b,off,rfl,dI w _ this,this⟩
theorem bT.cell {w:World} {o:Option Addr} {n c:Nat} {l:List (Int×Int)} (h:aN 2 w (.slice o n c) n (aG l)) {k:Nat} (hk:k<l.length):
 ∃b off,o=some ⟨b,off,none⟩/\b<w.heap.size/\w.cell? ⟨b,off+k*2,none⟩=some (.int .i64 l[k].1)/\w.cell? ⟨b,off+k*2+1,none⟩=some (.int .i64 l[k].2):=by
 obtain⟨hl,o',c',hv,h1,h2,h3,h4⟩:=h
 cases hv
 have hlen:(aG l).length=l.length*2:=by simp[aG,List.length_flatMap,List.map_const',List.sum_replicate_nat]
 have hn:n=l.length:=by omega
 cases o with
 |none=>have:=h3 rfl;omega
 |some a=>
  obtain⟨b,off,sp⟩:=a
  obtain⟨hs,hc⟩:=h4 _ rfl
  simp only at hs hc
  subst hs
  have h0:=hc (k*2+0) (.int .i64 l[k].1) (by unfold aG;rw[jA _ 2 (fun _=>rfl) l k 0 hk (by omega)];rfl)
  have h1:=hc (k*2+1) (.int .i64 l[k].2) (by unfold aG;rw[jA _ 2 (fun _=>rfl) l k 1 hk (by omega)];rfl)
  rw[Nat.add_zero] at h0
  rw[<-Nat.add_assoc] at h1
  exact⟨b,off,rfl,dI w _ h0,h0,h1⟩
theorem bJ.cell {w:World} {o:Option Addr} {n c:Nat} {l:List (Int×Int×Int)} (h:aN 3 w (.slice o n c) n (aX l)) {k:Nat} (hk:k<l.length):
 ∃b off,o=some ⟨b,off,none⟩/\b<w.heap.size/\w.cell? ⟨b,off+k*3,none⟩=some (.int .i64 l[k].1)/\w.cell? ⟨b,off+k*3+1,none⟩=some (.int .i64 l[k].2.1)/\w.cell? ⟨b,off+k*3+2,none⟩=some (.int .i64 l[k].2.2):=by
 obtain⟨hl,o',c',hv,h1,h2,h3,h4⟩:=h
 cases hv
 have hlen:(aX l).length=l.length*3:=by simp[aX,List.length_flatMap,List.map_const',List.sum_replicate_nat]
 have hn:n=l.length:=by omega
 cases o with
 |none=>have:=h3 rfl;omega
 |some a=>
  obtain⟨b,off,sp⟩:=a
  obtain⟨hs,hc⟩:=h4 _ rfl
  simp only at hs hc
  subst hs
  have h0:=hc (k*3+0) (.int .i64 l[k].1) (by unfold aX;rw[jA _ 3 (fun _=>rfl) l k 0 hk (by omega)];rfl)
  have h1:=hc (k*3+1) (.int .i64 l[k].2.1) (by unfold aX;rw[jA _ 3 (fun _=>rfl) l k 1 hk (by omega)];rfl)
  have h2:=hc (k*3+2) (.int .i64 l[k].2.2) (by unfold aX;rw[jA _ 3 (fun _=>rfl) l k 2 hk (by omega)];rfl)
  rw[Nat.add_zero] at h0
  rw[<-Nat.add_assoc] at h1 h2
  exact⟨b,off,rfl,dI w _ h0,h0,h1,h2⟩
theorem bK {W w1:World} (hb:Below W.heap.size W w1):(∀b o,b<W.heap.size->w1.cell? ⟨b,o,none⟩=W.cell? ⟨b,o,none⟩)/\(∀b o,b<W.heap.size->w1.frozen? ⟨b,o,none⟩=W.frozen? ⟨b,o,none⟩):=
 ⟨fun b o h=>hb.cell (p:=⟨b,o,none⟩) h,fun b o h=>hb.frozen (p:=⟨b,o,none⟩) h⟩
theorem aY {w a b:World} (h:Below w.heap.size w a) (k:Below a.heap.size a b):Below w.heap.size w b:=h.trans (k.mono h.size)
theorem aj {w a:World} (h:Below w.heap.size w a) (o:Obj):Below w.heap.size w (a.alloc o):=h.alloc h.size o
theorem qG {w a:World} (h:Below w.heap.size w a):Below w.heap.size w a.drew:=h.drew
theorem iF {w a:World} (h:Below w.heap.size w a) {p:Addr} (hp:w.heap.size<=p.block) (u:Value):Below w.heap.size w (a.setCell p u):=h.setCell hp u
theorem zl {n:Nat} {a b:World} (h:Below n a b:=by repeat (first|exact Below.refl _ _|assumption|refine aY ?_ (by assumption)|refine aj ?_ _|refine qG ?_|refine iF ?_ (by simp;omega) _)):Below n a b:=h
theorem ze {n:Nat} {a b:World} (h:Below n a b:=by repeat (first|exact Below.refl _ _|assumption|refine aY ?_ hE.below|refine aY ?_ (by assumption)|refine aj ?_ _|refine qG ?_|refine iF ?_ (by simp;try omega) _)):Below n a b:=h
def PV (v:Value) (w:World) (e:Ending) (w':World):Prop:=e= .returned v/\Below w.heap.size w w'
def ed (n:Nat) (p:Nat->Bool) (I:Nat->World->Prop) (yes:Nat->Value) (no:Value) (e:Ending) (W:World):Prop:=
 ∃k,k<=n/\(∀j,j<k->p j=false)/\((k<n/\p k=true/\e= .returned (yes k)/\I (k+1) W)∨(k=n/\e= .returned no/\I n W))
theorem ed.all {n:Nat} {p:Nat->Bool} {I:Nat->World->Prop} {a b:Bool} {e:Ending} {W:World} (h:ed n p I (fun _=> .bool a) (.bool b) e W):
 (e= .returned (.bool (if(List.range n).any p then a else b)))/\ ∃k,k<=n/\I k W:=by
 obtain⟨k,hk,hno,⟨hlt,hp,rfl,hI⟩|⟨rfl,rfl,hI⟩⟩:=h
 ·have:(List.range n).any p=true:=List.any_eq_true.2 ⟨k,by simpa using hlt,hp⟩
  rw[this]
  exact⟨rfl,k+1,hlt,hI⟩
 ·have:(List.range k).any p=false:=by
   rw[List.any_eq_false]
   intro x hx
   rw[hno x (by simpa using hx)];simp
  rw[this]
  exact⟨rfl,k,ai _,hI⟩
structure jq (B:Nat) (w w':World):Prop where
 size:w.heap.size<=w'.heap.size
 block: ∀k,B<=k->k<w.heap.size->w'.heap[k]? =w.heap[k]?
theorem jq.aA {B:Nat} {w w':World} (h:Below w.heap.size w w'):jq B w w':=⟨h.size,fun k _ hk=>h.block k hk⟩
theorem jq.wH {B:Nat} {Ms:List Nat} {w w':World} (h:Ext Ms w w') (hM: ∀x∈Ms,x<B):jq B w w':=
 ⟨h.size,fun k hB hk=>h.block k hk (fun hm=>by have:=hM k hm;omega)⟩
theorem aB {w:World} {b:Nat} {v:Value} {t:TypeId} {fr:Nat×Nat} (h:w.heap[b]? =some (.cells #[v] t fr)):w.cell? ⟨b,0,none⟩=some v:=by
 simp[World.cell?,h]
theorem aN.dB {w:World} {b:Nat} {cs:Array Value} {t:TypeId} {fr:Nat×Nat} (size n:Nat) (h:w.heap[b]? =some (.cells cs t fr)) (hn:cs.size=n*size) (hm:n<=maxLen):aN size w (.slice (some ⟨b,0,none⟩) n n) n cs.toList:=by
 refine⟨by simpa using hn,_,n,rfl,ai _,hm,(fun h=>by cases h),fun a ha=>?_⟩
 cases ha
 refine⟨rfl,fun j u hj=>?_⟩
 simp only[Nat.zero_add]
 simp only[World.cell?,h]
 simpa using hj
def PSl (size n:Nat) (xs:List Value) (w:World) (e:Ending) (w':World):Prop:= ∃v,e= .returned v/\aN size w' v n xs/\Below w.heap.size w w'
theorem iM {w:World} {base g:Nat} {cs:Array Value} {e:TypeId} {size n:Nat} (h:w.heap[g]? =some (.cells cs e (0,0))) (hn:cs.size=n*size) (hb:base<=g) (hm:n<=maxLen):
 w.ownsRow base e size (.slice (some ⟨g,0,none⟩) n n) n cs.toList:=
 ⟨by simpa using hn,.inr ⟨g,n,cs,rfl,hb,h,ai _,hm,hn,by rw[kF (by simp;omega)]⟩⟩
theorem ay (w:World) (A:Obj):(w.alloc A).heap[w.heap.size]? =some A:=heap_alloc_new w A
theorem dV (w:World) (A B:Obj):((w.alloc A).alloc B).heap[w.heap.size+1]? =some B:=by
 have:=heap_alloc_new (w.alloc A) B;rwa [bu] at this
theorem iq (w:World) (A B C:Obj):(((w.alloc A).alloc B).alloc C).heap[w.heap.size+2]? =some C:=by
 have:=heap_alloc_new ((w.alloc A).alloc B) C;rwa [bu,bu] at this
theorem aI {w:World} {b o:Nat} {cs:Array Value} {t:TypeId} {fr:Nat×Nat} (h:w.heap[b]? =some (.cells cs t fr)) (u:Value):
 (w.setCell ⟨b,o,none⟩ u).heap[b]? =some (.cells (cs.setIfInBounds o u) t fr):=by
 simp[World.setCell,Array.getElem?_modify,h]
theorem mJ (w:World) (a:Addr) (u:Value):Ext [a.block] w (w.setCell a u):=
 ⟨rfl,rfl,rfl,by simp[World.setCell],fun k _ hm=>dH w a u k (by simpa using hm)⟩
theorem jR {α:Type} (l:List α) (q:α->Bool) (d:α):(List.range l.length).all (fun k=>q (l.getD k d))=l.all q:=by
 induction l with
 |nil=>rfl
 |cons x l ih=>
  rw[List.length_cons,List.range_succ_eq_map,List.all_cons,List.all_map,List.all_cons, <-ih]
  rfl
theorem aN.gu {size:Nat} {w w':World} {v:Value} {n:Nat} {xs:List Value} (h:aN size w v n xs) {Ms:List Nat} (hE:Ext Ms w w') (hM: ∀x∈Ms, ∀o,w.cell? ⟨x,o,none⟩=none):aN size w' v n xs:=by
 obtain⟨hl,o,c,rfl,h1,h2,h3,h4⟩:=h
 refine⟨hl,o,c,rfl,h1,h2,h3,fun a ha=>?_⟩
 obtain⟨hs,hc⟩:=h4 a ha
 obtain⟨b,off,sp⟩:=a
 simp only at hs hc
 subst hs
 refine⟨rfl,fun j u hj=>?_⟩
 have hcell:=hc j u hj
 have hlt:=dI w _ hcell
 rw[hE.cell b _ hlt (fun hm=>by rw[hM b hm] at hcell;cases hcell)]
 exact hcell
theorem _root_.Go.RG.Ext.set {Ms:List Nat} {w W:World} (h:Ext Ms w W) {p:Addr} (hp:w.heap.size<=p.block) (u:Value):Ext Ms w (W.setCell p u):=
 ⟨h.os,h.tape,h.output,by have:=h.size;simp[World.setCell];omega,fun k hk hm=>(dH W p u k (by omega)).trans (h.block k hk hm)⟩
theorem _root_.Go.RG.Ext.alloc {Ms:List Nat} {w W:World} (h:Ext Ms w W) (o:Obj):Ext Ms w (W.alloc o):=
 ⟨h.os,h.tape,h.output,by have:=h.size;simp;omega,fun k hk hm=>(aV W o k (by have:=h.size;omega)).trans (h.block k hk hm)⟩
theorem _root_.Go.RG.Ext.bel {Ms:List Nat} {w a b:World} (h:Ext Ms w a) (k:Below a.heap.size a b):Ext Ms w b:=h.trans (Ext.aA k)
theorem sV (l:List Int) (k:Nat) (x:Int):(ah l).toArray.setIfInBounds k (.int .i64 x)=(ah (l.set k x)).toArray:=by
 simp[ah,List.map_set]
theorem gG {w:World} {b:Nat} {l:List Int} {t:TypeId} {fr:Nat×Nat} (h:w.heap[b]? =some (.cells (ah l).toArray t fr)) {k:Nat} (hk:k<l.length):w.cell? ⟨b,k,none⟩=some (.int .i64 l[k]):=by
 simp[World.cell?,h,ah,hk]
theorem bn {w:World} {b:Nat} {cs:Array Value} {t:TypeId} (h:w.heap[b]? =some (.cells cs t (0,0))) (k:Nat):w.frozen? ⟨b,k,none⟩=false:=by
 simp[World.frozen?,h]
theorem aN.VV {w:World} {b:Nat} {cs:Array Value} {t:TypeId} {fr:Nat×Nat} (n c:Nat) (h:w.heap[b]? =some (.cells cs t fr)) (hn:n<=cs.size) (hc:n<=c) (hm:c<=maxLen):aN 1 w (.slice (some ⟨b,0,none⟩) n c) n (cs.toList.take n):=by
 refine⟨by simp;omega,_,c,rfl,hc,hm,(fun h=>by cases h),fun a ha=>?_⟩
 cases ha
 refine⟨rfl,fun j u hj=>?_⟩
 simp only[Nat.zero_add]
 simp only[World.cell?,h]
 rw[List.getElem?_take] at hj
 split at hj
 ·simpa using hj
 ·cases hj
end Go.SL
end
section
namespace Go.RG
open Go.RowKit
@[go_sem] theorem aiG (f:FuncId):Fence.wide.fn f=True:=rfl
@[go_sem] theorem adK:Fence.wide.depth=none:=rfl
def Fz (ops:Array Oper):Bool:=ops.toList.all fun o=>match o.op with| .defer _=>false|_=>true
theorem Lt {ops:Array Oper} (h:Fz ops=true) {i:Nat} {o:Oper} (ho:ops[i]? =some o): ∀c,o.op≠ .defer c:=by
 intro c hc
 have hm:o∈ops.toList:=by
  obtain⟨hlt,rfl⟩:=aS.1 ho
  simp
 have:=ku.1 h o hm
 rw[hc] at this
 cases this
theorem QY {r:Option Nat} {o:Oper} (ρ:Operand->Value) (h: ∀c,o.op≠ .defer c):o.semAt r ρ=execOp ρ o:=by
 cases r with
 |none=>exact Oper.semAt_none _ _
 |some l=>exact Oper.semAt_some l ρ o h
theorem aaQ {F:Fence} {n:Nat} {P:Program} {ops:Array Oper} {Q:Exit->Act->World->Prop}: ∀(fuel:Nat) (l:Array Bool) (a:Act) (w:World),Any (wpOpIn F n P ops Q) ops (Q .normal) fuel l a w->wpAnyIn F n P .any ops Q fuel l a w:=by
 intro fuel
 induction fuel with
 |zero=>exact fun l a w h=>h
 |succ fuel ih=>exact fun l a w h=>⟨h.1,fun i hi=>wpOpIn_mono (fun a w=>ih _ a w) (h.2 i hi)⟩
theorem YW {F:Fence} {n:Nat} {P:Program} {ops:Array Oper} {Q:Exit->Act->World->Prop} (l:List Nat):Seq (wpOpIn F n P ops Q) (Q .normal) l=wpOpsIn F n P ops Q l:=by
 induction l with
 |nil=>rfl
 |cons i l ih=>funext a w;rw[wpOpsIn_cons, <-ih];rfl
theorem Kw {F:Fence} {n:Nat} (hF: ∀f,F.fn f) (hd:F.depth=none) {P:Program} {o:Oper} {a:Act} {W:World} {R:Value->World->Prop} {K:Act->World->Prop} {Q:Exit->Act->World->Prop} (hno: ∀c,o.op≠ .defer c)
 (hcall: ∀f args w R,Calls P f args w R->CallsIn F (n-1) P f args w R)
 (h:Does P o a.eval W R) (hK: ∀v W',R v W'->K (a.put o.dst v) W'):o.wpIn F n P a W K Q:=by
 refine⟨fun f _=>hF f,?_⟩
 rw[QY _ hno]
 unfold Does at h
 generalize (execOp a.eval o).run P W=r at*
 cases r with
 |ok x w'=>
  cases x <;>simp only[Oper.uponIn] at h⊢ <;>first|exact hK _ _ h|exact h.elim|skip
  exact⟨(fun h=>by rw[hd] at h;cases h),hcall _ _ _ _ (Calls.mono h (fun e w'' ⟨v,he,hr⟩=>by subst he;exact hK _ _ hr))⟩
 |halt x w'=>exact h.elim
theorem vC {F:Fence} {n:Nat} (hF: ∀f,F.fn f) (hd:F.depth=none) {R0 R1:World->World->Prop} (hR:Ip R0 R1) {Ps:uH} {P:Program} (hcall: ∀f args w R,Calls P f args w R->CallsIn F (n-1) P f args w R)
 {id:Nat} {ops:List Oper} {Q:Exit->Act->World->Prop} {a:Act} {w:World} (hdr:R0 w w.drew) (k:Nat) (m:Option Nat) (Ss:List (Nat×Spec))
 (hm:P.follows .mixedOrders=true) (hc:chk ops.toArray k=true) (hno:Fz ops.toArray=true)
 (h:iI Ps P ops.toArray R0 R1 m Ss (fun a w=>wpListIn F n P ops.toArray Q (ops.drop k) a w) w (ops.take k) 0 a [] []):(Code.region id ops.toArray true).wpIn F n P Q a w:=by
 refine wpIn_region_any hm (aaQ _ _ _ _ ?_)
 refine zq (Ps:=Ps) (P:=P) (R0:=R0) (R1:=R1) (m:=m) (Ss:=Ss) (W0:=w) hR hc (fun i K K' a w h hs=>wpOpIn_mono h hs) ?_ ?_ hdr ?_
 ·intro i o K a W R ho hw hd' hK
  unfold wpOpIn
  simp only[ho]
  rw[aF hw]
  exact Kw hF hd (Lt hno ho) hcall hd' hK
 ·intro i o K a W ho hw hK
  unfold wpOpIn
  simp only[ho]
  rw[ak (by rw[hw];simp)]
  exact⟨fun f _=>hF f,hK⟩
 ·have e:(fun a w=>wpListIn F n P ops.toArray Q (ops.drop k) a w)=Seq (wpOpIn F n P ops.toArray Q) (Q .normal) (List.range' k (ops.toArray.size-k)):=by
   funext a w
   rw[YW]
   have hkn:=(Hy hc).kn
   have hlen:ops.toArray.size-k=(ops.drop k).length:=by simp
   rw[hlen,wpOpsIn_eq_wpListIn (ops.drop k) k (fun j=>by simp)]
  rw[<-e]
  exact h
theorem TM {n:Nat} {P:Program} (f:FuncId) (args:Array Value) (w:World) (R:Ending->World->Prop) (h:Calls P f args w R):CallsIn Fence.wide (n-1) P f args w R:=callsIn_wide.2 h
theorem qN {n:Nat} {P:Program} {l:Nat} (f:FuncId) (args:Array Value) (w:World) (R:Ending->World->Prop) (h:Calls P f args w R):CallsIn (Fence.wide.inRound l) (n-1) P f args w R:=CallsIn.inRound l (callsIn_wide.2 h)
theorem FT {n:Nat} {P:Program} {id:Nat} {ops:List Oper} {Q:Exit->Act->World->Prop} {a:Act} {w:World} (k:Nat) (Ms:List Nat) (m:Option Nat) (Ss:List (Nat×Spec))
 (hm:P.follows .mixedOrders=true) (hc:chk ops.toArray k=true) (hno:Fz ops.toArray=true)
 (h:iI Om P ops.toArray (Ext []) (Ext Ms) m Ss (fun a w=>wpListIn Fence.wide n P ops.toArray Q (ops.drop k) a w) w (ops.take k) 0 a [] []):(Code.region id ops.toArray true).wpIn Fence.wide n P Q a w:=
 vC (fun _=>trivial) rfl (Ba Ms) TM ((Ext.refl [] w).drew) k m Ss hm hc hno h
theorem dP {l n:Nat} {P:Program} {id:Nat} {ops:List Oper} {Q:Exit->Act->World->Prop} {a:Act} {w:World} (k:Nat) (Ms:List Nat) (m:Option Nat) (Ss:List (Nat×Spec))
 (hm:P.follows .mixedOrders=true) (hc:chk ops.toArray k=true) (hno:Fz ops.toArray=true)
 (h:iI Om P ops.toArray (Ext []) (Ext Ms) m Ss (fun a w=>wpListIn (Fence.wide.inRound l) n P ops.toArray Q (ops.drop k) a w) w (ops.take k) 0 a [] []):(Code.region id ops.toArray true).wpIn (Fence.wide.inRound l) n P Q a w:=
 vC (fun _=>trivial) rfl (Ba Ms) qN ((Ext.refl [] w).drew) k m Ss hm hc hno h
def XM {α:Type} (P:Program) (g:FuncId) (lb:Array Value) (xs:List α) (E:List Nat->α->Value->World->Prop) (Old:List Nat) (fO Inv:World->Prop):Prop:=
 ∀(l:Nat) (J:List Nat->Option Nat->World->Prop) (W:World),
  (∀Ms s W1,J Ms s W1->Inv W1)->
  (∀Ms Ms' s W1 W2,J Ms s W1->Ext Ms W1 W2->(∀m∈Ms',m∈Ms∨(W1.heap.size<=m/\m<W2.heap.size))->fO W2->J Ms' s W2)->
  (∀Ms k v W1 (hk:k<xs.length),J Ms (some k) W1->E Ms xs[k] v W1->YieldAt Fence.wide 0 P l #[v] W1 fun e W'=>
    ((∀m∈Ms,m∉Old->m<W1.heap.size->W'.heap[m]? =W1.heap[m]?)/\W1.heap.size<=W'.heap.size)/\((e= .returned (.bool true)/\J Ms (some (k+1)) W')∨(e= .returned (.bool false)/\J Ms none W')))->
  J Old (some 0) W->
  Calls P g (#[.func (.yield l) #[] #[]]++lb) W fun e W'=>(∃v,e= .returned v)/\ ∃Ms,J Ms (some xs.length) W'∨J Ms none W'
def postC (l D:Nat) (busy:Loop) (Ms Old:List Nat) (W1:World) (aii:World->Prop) (Ix:Code->World->Prop):Exit->Act->World->Prop
 | .normal,_,W=>(W.heap[l]? =some (.loop busy)/\W.heap[D]? =some (.deferred (some []))/\(∀m∈Ms,m∉Old->m<W1.heap.size->W.heap[m]? =W1.heap[m]?)/\W1.heap.size<=W.heap.size)/\aii W
 | .ret,_,W=>(W.heap[l]? =some (.loop busy)/\W.heap[D]? =some (.deferred (some []))/\(∀m∈Ms,m∉Old->m<W1.heap.size->W.heap[m]? =W1.heap[m]?)/\W1.heap.size<=W.heap.size)/\Ix .ret W
 | .exit id,_,W=>(W.heap[l]? =some (.loop busy)/\W.heap[D]? =some (.deferred (some []))/\(∀m∈Ms,m∉Old->m<W1.heap.size->W.heap[m]? =W1.heap[m]?)/\W1.heap.size<=W.heap.size)/\Ix (.exit id) W
 |_,_,_=>False
theorem FN (W:World) (l:Nat) (o:Obj):Ext [l] W (W.putObj l o):=
 ⟨rfl,rfl,rfl,by simp,fun k _ hm=>World.putObj_heap_other (by simpa using hm)⟩
theorem mP {α:Type} {P:Program} {n:Nat} {g:Operand} {ps:Array Tmp} {assign body:Code} {Q:Exit->Act->World->Prop} {a:Act} {w:World} {gf:FuncId} {lb:Array Value} {xs:List α}
 {E:List Nat->α->Value->World->Prop} {Old:List Nat} {fO Inv:World->Prop} (hseq:XM P gf lb xs E Old fO Inv) (hg:a.eval g= .func (.func gf) #[] lb)
 (eg: ∀args w,(callFunc gf args).run P w= .ok (.enter gf args) w) (hps:ps.size=1) (aaf: ∀m∈Old,m<w.heap.size)
 (I:List Nat->Nat->World->Prop) (Ix:Code->List Nat->World->Prop) (hInv: ∀Ms k W,I Ms k W->Inv W) (pK: ∀c Ms W,Ix c Ms W->Inv W)
 (hI: ∀Ms Ms' k W1 W2,I Ms k W1->Ext Ms W1 W2->(∀m∈Ms',m∈Ms∨(W1.heap.size<=m/\m<W2.heap.size))->fO W2->I Ms' k W2)
 (hIx: ∀c Ms Ms' W1 W2,Ix c Ms W1->Ext Ms W1 W2->(∀m∈Ms',m∈Ms∨(W1.heap.size<=m/\m<W2.heap.size))->fO W2->Ix c Ms' W2)
 (Ja: ∀Ms k W r o,I Ms k W->r=w.heap.size∨r=w.heap.size+1->I Ms k (W.putObj r o))
 (tX: ∀c Ms W r o,Ix c Ms W->r=w.heap.size∨r=w.heap.size+1->Ix c Ms (W.putObj r o))
 (h0: ∀o o',I Old 0 ((w.alloc o).alloc o'))
 (Mid:Act->List Nat->Nat->World->Act->World->Prop) (MB: ∀Ms k W1 a₁ W o,Mid a Ms k W1 a₁ W->Mid a Ms k W1 a₁ (W.putObj (w.heap.size+1) o))
 (hassign: ∀Ms k v W (hk:k<xs.length),I Ms k W->E Ms xs[k] v W->w.heap.size+1<W.heap.size->
   assign.wpIn (Fence.wide.inRound (w.heap.size+1)) 0 P (Exit.then (fun a₁ W'=>Mid a Ms k W a₁ W'/\(W'.heap[w.heap.size+1]? =W.heap[w.heap.size+1]?/\W'.heap[w.heap.size]? =W.heap[w.heap.size]?)) (fun _ _ _=>False))
    {tmps:=(ps.zip #[v]).foldl (fun t (p,v)=>t.setIfInBounds p v) a.tmps,defers:=[]} W)
 (hbody: ∀Ms k W1 a₁ W busy,k<xs.length->Mid a Ms k W1 a₁ W->W.heap[w.heap.size+1]? =some (.loop busy)->W.heap[w.heap.size]? =some (.deferred (some []))->
   body.wpIn (Fence.wide.inRound (w.heap.size+1)) 0 P (postC (w.heap.size+1) w.heap.size busy Ms Old W1 (I Ms (k+1)) (fun c=>Ix c Ms)) a₁ W)
 (hdone: ∀Ms W,I Ms xs.length W->W.heap[w.heap.size]? =some (.deferred (some []))->w.heap.size<W.heap.size->Q .normal {a with defers:={target:= .collected w.heap.size,args:= #[]}::a.defers} W)
 (hstop: ∀c Ms W,Ix c Ms W->W.heap[w.heap.size]? =some (.deferred (some []))->w.heap.size<W.heap.size->c.wpIn Fence.wide n P Q {a with defers:={target:= .collected w.heap.size,args:= #[]}::a.defers} W):
 (Code.rangeFunc g ps assign body).wpIn Fence.wide n P Q a w:=by
 refine wpIn_rangeFunc ?_
 intro fn _
 obtain⟨rec,hrec⟩: ∃rec:LoopState->Option Code->Loop,rec=fun st pe=>{state:=st,pending:=pe,fn,tmps:=a.tmps,params:=ps,assign,body,defers:=w.heap.size}:=⟨_,rfl⟩
 obtain⟨W1,hW1⟩: ∃W1,(w.alloc (.deferred (some []))).alloc (.loop (rec .ready none))=W1:=⟨_,rfl⟩
 have hL1:W1.heap[w.heap.size+1]? =some (.loop (rec .ready none)):=by
  rw[<-hW1];have:=World.alloc_heap_new (w.alloc (.deferred (some []))) (.loop (rec .ready none));rwa [bu] at this
 have hK1:W1.heap[w.heap.size]? =some (.deferred (some [])):=by
  rw[<-hW1];exact(aV _ _ _ (by simp)).trans (World.alloc_heap_new w _)
 refine⟨w.heap.size+1,[{target:= .collected w.heap.size,args:= #[]}],W1,{target:= .fn (.func gf) lb,args:= #[.func (.yield (w.heap.size+1)) #[] #[]]},W1,gf,
  #[.func (.yield (w.heap.size+1)) #[] #[]]++lb,W1,?_,?_,fun _ _=>trivial,?_,(fun h=>by cases h),callsIn_wide.2 ?_⟩
 ·rw[<-hW1,hrec];exact run_enterLoop_outer _ _ _ _ _
 ·simp only[resolve,hg]
  simp[go_sem]
 ·simp[invoke,go_sem,eg]
 ·refine(hseq (w.heap.size+1)
   (fun Ms s W=>(w.heap.size+1∉Ms/\w.heap.size∉Ms)/\W.heap[w.heap.size]? =some (.deferred (some []))/\
     match s with
     |some k=>I Ms k W/\W.heap[w.heap.size+1]? =some (.loop (rec .ready none))
     |none=> ∃c,Ix c Ms W/\W.heap[w.heap.size+1]? =some (.loop (rec .done (some c)))) W1 ?_ ?_ ?_ ?_).mono ?_
  ·rintro Ms s W ⟨_,_,h⟩
   cases s with
   |some k=>exact hInv _ _ _ h.1
   |none=>obtain⟨c,h,_⟩:=h;exact pK _ _ _ h
  ·rintro Ms Ms' s Wa Wb ⟨⟨hm1,hm2⟩,hd,h⟩ hE hMs hG
   have hdl:=(aS.1 hd).1
   have hd':=(hE.block _ hdl hm2).trans hd
   have hnd:w.heap.size∉Ms':=fun x=>by rcases hMs _ x with h|h;exact hm2 h;omega
   cases s with
   |some k=>
    have hll:=(aS.1 h.2).1
    exact⟨⟨fun x=>by rcases hMs _ x with h|h;exact hm1 h;omega,hnd⟩,hd',hI _ _ _ _ _ h.1 hE hMs hG,(hE.block _ hll hm1).trans h.2⟩
   |none=>
    obtain⟨c,h,h2⟩:=h
    have hll:=(aS.1 h2).1
    exact⟨⟨fun x=>by rcases hMs _ x with h|h;exact hm1 h;omega,hnd⟩,hd',c,hIx _ _ _ _ _ h hE hMs hG,(hE.block _ hll hm1).trans h2⟩
  ·rintro Ms k v W hk ⟨⟨hm1,hm2⟩,hd,hi,hl⟩ hEl
   have hlt:w.heap.size+1<W.heap.size:=(aS.1 hl).1
   have hy:=run_yield (P:=P) (args:= #[v]) hl (by rw[hrec];simp[hps])
   rw[hrec] at hy
   refine⟨fn,_,assign,body,hy,roundIn_of_wpIn trivial (wpIn_mono (hassign Ms k v W hk hi hEl hlt) ?_)⟩
   clear hy
   rintro e a₁ W2 h
   cases e with
   |normal=>
    obtain⟨hM,hl2,hd2⟩:=h
    rw[hl] at hl2
    rw[hd] at hd2
    have hlt2:=(aS.1 hl2).1
    refine⟨_,run_beginRound hl2 (by rw[hrec]),?_⟩
    refine wpIn_mono (hbody Ms k W a₁ _ _ hk (MB _ _ _ _ _ _ hM) (World.putObj_heap_same hlt2) ((World.putObj_heap_other (by omega)).trans hd2)) ?_
    have fin: ∀(jump:Option Code) (W3:World),W3.heap[w.heap.size+1]? =some (.loop {rec .ready none with state:= .busy})->(∀m∈Ms,m∉Old->m<W.heap.size->W3.heap[m]? =W.heap[m]?)->W.heap.size<=W3.heap.size->W3.heap[w.heap.size]? =some (.deferred (some []))->
     (Instr.endRound (w.heap.size+1) jump).run P W3= .ok (.bool jump.isNone) (W3.putObj (w.heap.size+1) (.loop (rec (if jump.isNone then .ready else .done) jump)))/\
     ((∀m∈Ms,m∉Old->m<W.heap.size->(W3.putObj (w.heap.size+1) (.loop (rec (if jump.isNone then .ready else .done) jump))).heap[m]? =W.heap[m]?)/\W.heap.size<=(W3.putObj (w.heap.size+1) (.loop (rec (if jump.isNone then .ready else .done) jump))).heap.size)/\
     (W3.putObj (w.heap.size+1) (.loop (rec (if jump.isNone then .ready else .done) jump))).heap[w.heap.size]? =some (.deferred (some []))/\
     (W3.putObj (w.heap.size+1) (.loop (rec (if jump.isNone then .ready else .done) jump))).heap[w.heap.size+1]? =some (.loop (rec (if jump.isNone then .ready else .done) jump)):=fun jump W3 h3 uu hs3 hd3=>by
     have hr:=run_endRound (P:=P) jump h3
     rw[hrec] at hr⊢
     have hlt3:=(aS.1 h3).1
     exact⟨hr,⟨fun m hm ho hml=>(World.putObj_heap_other (fun e:m=w.heap.size+1=>hm1 (by rw[<-e];exact hm))).trans (uu m hm ho hml),by simpa using hs3⟩,(World.putObj_heap_other (by omega)).trans hd3,World.putObj_heap_same hlt3⟩
    rintro e a3 W3 hp
    cases e with
    |normal=>
     obtain⟨⟨h3,hd3,uu,hs3⟩,hi3⟩:=hp
     obtain⟨hr,hk3,hd4,hl4⟩:=fin none W3 h3 uu hs3 hd3
     exact⟨_,_,hr,hk3,.inl ⟨rfl,⟨hm1,hm2⟩,hd4,Ja _ _ _ _ _ hi3 (.inr rfl),hl4⟩⟩
    |ret=>
     obtain⟨⟨h3,hd3,uu,hs3⟩,hi3⟩:=hp
     obtain⟨hr,hk3,hd4,hl4⟩:=fin (some .ret) W3 h3 uu hs3 hd3
     exact⟨_,_,hr,hk3,.inr ⟨rfl,⟨hm1,hm2⟩,hd4,.ret,tX _ _ _ _ _ hi3 (.inr rfl),hl4⟩⟩
    |exit id=>
     obtain⟨⟨h3,hd3,uu,hs3⟩,hi3⟩:=hp
     obtain⟨hr,hk3,hd4,hl4⟩:=fin (some (.exit id)) W3 h3 uu hs3 hd3
     exact⟨_,_,hr,hk3,.inr ⟨rfl,⟨hm1,hm2⟩,hd4,.exit id,tX _ _ _ _ _ hi3 (.inr rfl),hl4⟩⟩
    |goto t=>exact hp.elim
    |panic ch=>exact hp.elim
    |outgrown=>exact hp.elim
   |exit id=>exact h.elim
   |goto t=>exact h.elim
   |ret=>exact h.elim
   |panic chain=>exact h.elim
   |outgrown=>exact h.elim
  ·refine⟨⟨fun x=>by have:=aaf _ x;omega,fun x=>by have:=aaf _ x;omega⟩,hK1,?_,hL1⟩
   rw[<-hW1];exact h0 _ _
  ·rintro e W2 ⟨⟨v,rfl⟩,Ms,⟨_,hd,hi,hl⟩|⟨_,hd,c,hi,hl⟩⟩
   ·refine⟨none,_,by have:=run_endLoop (P:=P) hl (by rw[hrec];simp);rw[hrec] at this;exact this,?_⟩
    exact hdone Ms _ (Ja _ _ _ _ _ hi (.inr rfl)) ((World.putObj_heap_other (by omega)).trans hd) (by have:=(aS.1 hd).1;simpa using this)
   ·refine⟨some c,_,by have:=run_endLoop (P:=P) hl (by rw[hrec];simp);rw[hrec] at this;exact this,?_⟩
    exact hstop c Ms _ (tX _ _ _ _ _ hi (.inr rfl)) ((World.putObj_heap_other (by omega)).trans hd) (by have:=(aS.1 hd).1;simpa using this)
def ae0 {α:Type} (P:Program) (g:FuncId) (lb:Array Value) (xs:List α) (E:List Nat->α->Array Value->World->Prop) (Old:List Nat) (fO Inv:World->Prop):Prop:=
 ∀(l:Nat) (J:List Nat->Option Nat->World->Prop) (W:World),
  (∀Ms s W1,J Ms s W1->Inv W1)->
  (∀Ms Ms' s W1 W2,J Ms s W1->Ext Ms W1 W2->(∀m∈Ms',m∈Ms∨(W1.heap.size<=m/\m<W2.heap.size))->fO W2->J Ms' s W2)->
  (∀Ms k v W1 (hk:k<xs.length),J Ms (some k) W1->E Ms xs[k] v W1->YieldAt Fence.wide 0 P l v W1 fun e W'=>
    ((∀m∈Ms,m∉Old->m<W1.heap.size->W'.heap[m]? =W1.heap[m]?)/\W1.heap.size<=W'.heap.size)/\((e= .returned (.bool true)/\J Ms (some (k+1)) W')∨(e= .returned (.bool false)/\J Ms none W')))->
  J Old (some 0) W->
  Calls P g (#[.func (.yield l) #[] #[]]++lb) W fun e W'=>(∃v,e= .returned v)/\ ∃Ms,J Ms (some xs.length) W'∨J Ms none W'
theorem Nv {α:Type} {P:Program} {n:Nat} {g:Operand} {ps:Array Tmp} {assign body:Code} {Q:Exit->Act->World->Prop} {a:Act} {w:World} {gf:FuncId} {lb:Array Value} {xs:List α}
 {E:List Nat->α->Array Value->World->Prop} {Old:List Nat} {fO Inv:World->Prop} (hseq:ae0 P gf lb xs E Old fO Inv) (hg:a.eval g= .func (.func gf) #[] lb)
 (eg: ∀args w,(callFunc gf args).run P w= .ok (.enter gf args) w) (hps: ∀Ms x v W,E Ms x v W->v.size=ps.size) (aaf: ∀m∈Old,m<w.heap.size)
 (I:List Nat->Nat->World->Prop) (Ix:Code->List Nat->World->Prop) (hInv: ∀Ms k W,I Ms k W->Inv W) (pK: ∀c Ms W,Ix c Ms W->Inv W)
 (hI: ∀Ms Ms' k W1 W2,I Ms k W1->Ext Ms W1 W2->(∀m∈Ms',m∈Ms∨(W1.heap.size<=m/\m<W2.heap.size))->fO W2->I Ms' k W2)
 (hIx: ∀c Ms Ms' W1 W2,Ix c Ms W1->Ext Ms W1 W2->(∀m∈Ms',m∈Ms∨(W1.heap.size<=m/\m<W2.heap.size))->fO W2->Ix c Ms' W2)
 (Ja: ∀Ms k W r o,I Ms k W->r=w.heap.size∨r=w.heap.size+1->I Ms k (W.putObj r o))
 (tX: ∀c Ms W r o,Ix c Ms W->r=w.heap.size∨r=w.heap.size+1->Ix c Ms (W.putObj r o))
 (h0: ∀o o',I Old 0 ((w.alloc o).alloc o'))
 (Mid:Act->List Nat->Nat->World->Act->World->Prop) (MB: ∀Ms k W1 a₁ W o,Mid a Ms k W1 a₁ W->Mid a Ms k W1 a₁ (W.putObj (w.heap.size+1) o))
 (hassign: ∀Ms k v W (hk:k<xs.length),I Ms k W->E Ms xs[k] v W->w.heap.size+1<W.heap.size->
   assign.wpIn (Fence.wide.inRound (w.heap.size+1)) 0 P (Exit.then (fun a₁ W'=>Mid a Ms k W a₁ W'/\(W'.heap[w.heap.size+1]? =W.heap[w.heap.size+1]?/\W'.heap[w.heap.size]? =W.heap[w.heap.size]?)) (fun _ _ _=>False))
    {tmps:=(ps.zip v).foldl (fun t (p,v)=>t.setIfInBounds p v) a.tmps,defers:=[]} W)
 (hbody: ∀Ms k W1 a₁ W busy,k<xs.length->Mid a Ms k W1 a₁ W->W.heap[w.heap.size+1]? =some (.loop busy)->W.heap[w.heap.size]? =some (.deferred (some []))->
   body.wpIn (Fence.wide.inRound (w.heap.size+1)) 0 P (postC (w.heap.size+1) w.heap.size busy Ms Old W1 (I Ms (k+1)) (fun c=>Ix c Ms)) a₁ W)
 (hdone: ∀Ms W,I Ms xs.length W->W.heap[w.heap.size]? =some (.deferred (some []))->w.heap.size<W.heap.size->Q .normal {a with defers:={target:= .collected w.heap.size,args:= #[]}::a.defers} W)
 (hstop: ∀c Ms W,Ix c Ms W->W.heap[w.heap.size]? =some (.deferred (some []))->w.heap.size<W.heap.size->c.wpIn Fence.wide n P Q {a with defers:={target:= .collected w.heap.size,args:= #[]}::a.defers} W):
 (Code.rangeFunc g ps assign body).wpIn Fence.wide n P Q a w:=by
 refine wpIn_rangeFunc ?_
 intro fn _
 obtain⟨rec,hrec⟩: ∃rec:LoopState->Option Code->Loop,rec=fun st pe=>{state:=st,pending:=pe,fn,tmps:=a.tmps,params:=ps,assign,body,defers:=w.heap.size}:=⟨_,rfl⟩
 obtain⟨W1,hW1⟩: ∃W1,(w.alloc (.deferred (some []))).alloc (.loop (rec .ready none))=W1:=⟨_,rfl⟩
 have hL1:W1.heap[w.heap.size+1]? =some (.loop (rec .ready none)):=by
  rw[<-hW1];have:=World.alloc_heap_new (w.alloc (.deferred (some []))) (.loop (rec .ready none));rwa [bu] at this
 have hK1:W1.heap[w.heap.size]? =some (.deferred (some [])):=by
  rw[<-hW1];exact(aV _ _ _ (by simp)).trans (World.alloc_heap_new w _)
 refine⟨w.heap.size+1,[{target:= .collected w.heap.size,args:= #[]}],W1,{target:= .fn (.func gf) lb,args:= #[.func (.yield (w.heap.size+1)) #[] #[]]},W1,gf,
  #[.func (.yield (w.heap.size+1)) #[] #[]]++lb,W1,?_,?_,fun _ _=>trivial,?_,(fun h=>by cases h),callsIn_wide.2 ?_⟩
 ·rw[<-hW1,hrec];exact run_enterLoop_outer _ _ _ _ _
 ·simp only[resolve,hg]
  simp[go_sem]
 ·simp[invoke,go_sem,eg]
 ·refine(hseq (w.heap.size+1)
   (fun Ms s W=>(w.heap.size+1∉Ms/\w.heap.size∉Ms)/\W.heap[w.heap.size]? =some (.deferred (some []))/\
     match s with
     |some k=>I Ms k W/\W.heap[w.heap.size+1]? =some (.loop (rec .ready none))
     |none=> ∃c,Ix c Ms W/\W.heap[w.heap.size+1]? =some (.loop (rec .done (some c)))) W1 ?_ ?_ ?_ ?_).mono ?_
  ·rintro Ms s W ⟨_,_,h⟩
   cases s with
   |some k=>exact hInv _ _ _ h.1
   |none=>obtain⟨c,h,_⟩:=h;exact pK _ _ _ h
  ·rintro Ms Ms' s Wa Wb ⟨⟨hm1,hm2⟩,hd,h⟩ hE hMs hG
   have hdl:=(aS.1 hd).1
   have hd':=(hE.block _ hdl hm2).trans hd
   have hnd:w.heap.size∉Ms':=fun x=>by rcases hMs _ x with h|h;exact hm2 h;omega
   cases s with
   |some k=>
    have hll:=(aS.1 h.2).1
    exact⟨⟨fun x=>by rcases hMs _ x with h|h;exact hm1 h;omega,hnd⟩,hd',hI _ _ _ _ _ h.1 hE hMs hG,(hE.block _ hll hm1).trans h.2⟩
   |none=>
    obtain⟨c,h,h2⟩:=h
    have hll:=(aS.1 h2).1
    exact⟨⟨fun x=>by rcases hMs _ x with h|h;exact hm1 h;omega,hnd⟩,hd',c,hIx _ _ _ _ _ h hE hMs hG,(hE.block _ hll hm1).trans h2⟩
  ·rintro Ms k v W hk ⟨⟨hm1,hm2⟩,hd,hi,hl⟩ hEl
   have hlt:w.heap.size+1<W.heap.size:=(aS.1 hl).1
   have hy:=run_yield (P:=P) (args:=v) hl (by rw[hrec];simp[hps _ _ _ _ hEl])
   rw[hrec] at hy
   refine⟨fn,_,assign,body,hy,roundIn_of_wpIn trivial (wpIn_mono (hassign Ms k v W hk hi hEl hlt) ?_)⟩
   clear hy
   rintro e a₁ W2 h
   cases e with
   |normal=>
    obtain⟨hM,hl2,hd2⟩:=h
    rw[hl] at hl2
    rw[hd] at hd2
    have hlt2:=(aS.1 hl2).1
    refine⟨_,run_beginRound hl2 (by rw[hrec]),?_⟩
    refine wpIn_mono (hbody Ms k W a₁ _ _ hk (MB _ _ _ _ _ _ hM) (World.putObj_heap_same hlt2) ((World.putObj_heap_other (by omega)).trans hd2)) ?_
    have fin: ∀(jump:Option Code) (W3:World),W3.heap[w.heap.size+1]? =some (.loop {rec .ready none with state:= .busy})->(∀m∈Ms,m∉Old->m<W.heap.size->W3.heap[m]? =W.heap[m]?)->W.heap.size<=W3.heap.size->W3.heap[w.heap.size]? =some (.deferred (some []))->
     (Instr.endRound (w.heap.size+1) jump).run P W3= .ok (.bool jump.isNone) (W3.putObj (w.heap.size+1) (.loop (rec (if jump.isNone then .ready else .done) jump)))/\
     ((∀m∈Ms,m∉Old->m<W.heap.size->(W3.putObj (w.heap.size+1) (.loop (rec (if jump.isNone then .ready else .done) jump))).heap[m]? =W.heap[m]?)/\W.heap.size<=(W3.putObj (w.heap.size+1) (.loop (rec (if jump.isNone then .ready else .done) jump))).heap.size)/\
     (W3.putObj (w.heap.size+1) (.loop (rec (if jump.isNone then .ready else .done) jump))).heap[w.heap.size]? =some (.deferred (some []))/\
     (W3.putObj (w.heap.size+1) (.loop (rec (if jump.isNone then .ready else .done) jump))).heap[w.heap.size+1]? =some (.loop (rec (if jump.isNone then .ready else .done) jump)):=fun jump W3 h3 uu hs3 hd3=>by
     have hr:=run_endRound (P:=P) jump h3
     rw[hrec] at hr⊢
     have hlt3:=(aS.1 h3).1
     exact⟨hr,⟨fun m hm ho hml=>(World.putObj_heap_other (fun e:m=w.heap.size+1=>hm1 (by rw[<-e];exact hm))).trans (uu m hm ho hml),by simpa using hs3⟩,(World.putObj_heap_other (by omega)).trans hd3,World.putObj_heap_same hlt3⟩
    rintro e a3 W3 hp
    cases e with
    |normal=>
     obtain⟨⟨h3,hd3,uu,hs3⟩,hi3⟩:=hp
     obtain⟨hr,hk3,hd4,hl4⟩:=fin none W3 h3 uu hs3 hd3
     exact⟨_,_,hr,hk3,.inl ⟨rfl,⟨hm1,hm2⟩,hd4,Ja _ _ _ _ _ hi3 (.inr rfl),hl4⟩⟩
    |ret=>
     obtain⟨⟨h3,hd3,uu,hs3⟩,hi3⟩:=hp
     obtain⟨hr,hk3,hd4,hl4⟩:=fin (some .ret) W3 h3 uu hs3 hd3
     exact⟨_,_,hr,hk3,.inr ⟨rfl,⟨hm1,hm2⟩,hd4,.ret,tX _ _ _ _ _ hi3 (.inr rfl),hl4⟩⟩
    |exit id=>
     obtain⟨⟨h3,hd3,uu,hs3⟩,hi3⟩:=hp
     obtain⟨hr,hk3,hd4,hl4⟩:=fin (some (.exit id)) W3 h3 uu hs3 hd3
     exact⟨_,_,hr,hk3,.inr ⟨rfl,⟨hm1,hm2⟩,hd4,.exit id,tX _ _ _ _ _ hi3 (.inr rfl),hl4⟩⟩
    |goto t=>exact hp.elim
    |panic ch=>exact hp.elim
    |outgrown=>exact hp.elim
   |exit id=>exact h.elim
   |goto t=>exact h.elim
   |ret=>exact h.elim
   |panic chain=>exact h.elim
   |outgrown=>exact h.elim
  ·refine⟨⟨fun x=>by have:=aaf _ x;omega,fun x=>by have:=aaf _ x;omega⟩,hK1,?_,hL1⟩
   rw[<-hW1];exact h0 _ _
  ·rintro e W2 ⟨⟨v,rfl⟩,Ms,⟨_,hd,hi,hl⟩|⟨_,hd,c,hi,hl⟩⟩
   ·refine⟨none,_,by have:=run_endLoop (P:=P) hl (by rw[hrec];simp);rw[hrec] at this;exact this,?_⟩
    exact hdone Ms _ (Ja _ _ _ _ _ hi (.inr rfl)) ((World.putObj_heap_other (by omega)).trans hd) (by have:=(aS.1 hd).1;simpa using this)
   ·refine⟨some c,_,by have:=run_endLoop (P:=P) hl (by rw[hrec];simp);rw[hrec] at this;exact this,?_⟩
    exact hstop c Ms _ (tX _ _ _ _ _ hi (.inr rfl)) ((World.putObj_heap_other (by omega)).trans hd) (by have:=(aS.1 hd).1;simpa using this)
end Go.RG
end

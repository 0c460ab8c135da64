/-
  Texts of this claim, packed by a program: Lib Fence Seq SeqM.
-/
import Derived.WalkKit
import Derived.Deep.AppendSrc
import Derived.RangeFuncCalls
import Derived.RangeFuncLeaves
import Derived.RangeFuncIn
import Derived.TacticsIn
import Derived.RegionIn
import Derived.LoopIn
import Derived.LoopNIn
import Derived.OrdersIn
import Derived.RangeFuncRecord
import Derived.RangeFuncOwn
import Derived.Test.YthllkbbbapgelaaGreatDoorPN2
set_option maxHeartbeats 8000000
set_option maxRecDepth 100000
set_option linter.all false
theorem _root_.zcI {P:Prop} (h:P:=by
 have HN:=aa (af IB (af hp hI));clear IB hp hI;go_wp2_with fail
 go_returns;exact⟨k,hk,HN.o.1,.inl ⟨uM,HN.o.2.1,by simp,HN.o.2.2⟩⟩):P:=h
theorem _root_.zcM {P:Prop} (h:P:=by
 go_wp2;go_returns;refine⟨rfl,.inr ⟨?_,by simp⟩⟩;intro hm;obtain⟨j,hj,e⟩:=lK hm;exact HN.o j hj ϑ e):P:=h
theorem _root_.zcR {P:Prop} (h:P:=by
 rw[List.take_take,Nat.min_eq_left ϑ] at this;rw[this,lJ ϑ,ji ϑ]):P:=h
theorem _root_.zcw {P:Prop} (h:P:=by
 have HV:=aa hv;have hnil:=fun(w:World) a n c=>Lib.run_eql_slice_nil (P:=Tryz.prog) w 52 3 a n c 0 0 Tryz.underlying52;cases o with
 |none=>
  exact za4
 |some a=>
  obtain⟨b,off,sp⟩:=a;obtain rfl:sp=none:=zaQ;clear hv;go_enter Tryz.func91,Tryz.ntmps91;go_wp2_with (at_builtin;refine ek rfl _ _ oF rfl w.heap.size (.slice (some ⟨w.heap.size,0,none⟩) 0 0) 0 [] rfl ?_ (.slice (some ⟨b,off,none⟩) l.length c) l.length (ag l) rfl ?_ (ic _) ϑ ϑ ϕ ?_)
  ·exact zaV
  ·exact HV.o.alloc _
  ·exact zak):P:=h
theorem _root_.zcx {P:Prop} (h:P:=by
 obtain⟨o,c,rfl⟩:=(Y5 0 w h0).open;have HC:=aa qY;have HS:=aa Y5;clear qY Y5;go_enter Tryz.func279,Tryz.ntmps279;go_wp2;go_loopw [4,5,8] (fun _ _ i wr=> ∃k:Nat,k<=l.length/\i= .int .i64 k/\(∀j,j<k->p j=false)/\I k wr) (fun _ _ i _=>l.length-(intOf i).toNat)
 case atStart=>exact⟨0,bE _,rfl,fun j hj=>ϑ,h0⟩
 case round=>
  obtain⟨k,hk,rfl,IB,hI⟩:=hrel;by_cases uM:k<l.length
  ·obtain⟨b,off,rfl,hb,hc0⟩:=aL.cell (HS.o k wr hI) uM;have hC:=HC.o k uM wr IB hI;exact zad
  ·exact zam):P:=h
theorem _root_.zcy {P:Prop} (h:P:=by
 go_wp2;go_loopw [4,5,8] (fun _ _ i wr=> ∃k:Nat,k<=l.length/\i= .int .i64 k/\(∀j,j<k->p j=false)/\I k wr) (fun _ _ i _=>l.length-(intOf i).toNat)
 case atStart=>exact⟨0,bE _,rfl,fun j hj=>ϑ,h0⟩
 case round=>
  obtain⟨k,hk,rfl,IB,hI⟩:=hrel;by_cases uM:k<l.length
  ·obtain⟨b,off,rfl,hb,hc0,hc1,hc2⟩:=aU.cell (HS.o k wr hI) uM;have hC:=HC.o k uM wr IB hI;exact zad
  ·exact zam):P:=h
theorem _root_.zcz {P:Prop} (h:P:=by
 go_wp2;go_loopw [4,5,8] (fun _ _ i wr=> ∃k:Nat,k<=l.length/\i= .int .i64 k/\(∀j,j<k->p j=false)/\I k wr) (fun _ _ i _=>l.length-(intOf i).toNat)
 case atStart=>exact⟨0,bE _,rfl,fun j hj=>ϑ,h0⟩
 case round=>
  obtain⟨k,hk,rfl,IB,hI⟩:=hrel;by_cases uM:k<l.length
  ·obtain⟨b,off,rfl,hb,hc0,hc1⟩:=bD.cell (HS.o k wr hI) uM;have hC:=HC.o k uM wr IB hI;exact zad
  ·exact zam):P:=h
theorem _root_.zcS {P:Prop} (h:P:=by
 have IY:=(Y5 0 w h0).len;clear Y5 qY h0 eg;go_enter Tryz.func217,Tryz.ntmps217;exact zac):P:=h
theorem _root_.zbI {P:Prop} (h:P:=by
 simp[execOp,hop,resolve,invoke,builtin,hs,hx,hrun,Result.andThen]):P:=h
theorem _root_.zcs {P:Prop} (h:P:=by
 rw[Nat.add_zero] at h0;rw[<-Nat.add_assoc] at h1;exact⟨b,off,rfl,dB w _ h0,h0,h1⟩):P:=h
theorem _root_.zai {P:Prop} (h:P:=by
 rw[ι] at hy;refine⟨fn,_,assign,body,hy,roundIn_of_wpIn trivial (wpIn_mono (hassign Ms k v W hk hi hEl uM) ?_)⟩;clear hy;rintro e a₁ W2 h;cases e with
 |normal=>
  obtain⟨hM,hl2,hd2⟩:=h;rw[hl] at hl2;rw[hd] at hd2;have hlt2:=(aN.1 hl2).1;refine⟨_,run_beginRound hl2 (by rw[ι]),?_⟩;refine wpIn_mono (hbody Ms k W a₁ _ _ hk (Jd _ _ _ _ _ _ hM) (World.putObj_heap_same hlt2) ((World.putObj_heap_other ϑ).trans hd2)) ?_;have fin: ∀(Ν:Option Code) (W3:World),W3.heap[w.heap.size+1]? =some (.loop {rec .ready none with state:= .busy})->(∀m∈Ms,m∉Old->m<W.heap.size->W3.heap[m]? =W.heap[m]?)->W.heap.size<=W3.heap.size->W3.heap[w.heap.size]? =some (.deferred (some []))->
   (Instr.endRound (w.heap.size+1) Ν).run P W3= .ok (.bool Ν.isNone) (W3.putObj (w.heap.size+1) (.loop (rec (if Ν.isNone then .ready else .done) Ν)))/\
   ((∀m∈Ms,m∉Old->m<W.heap.size->(W3.putObj (w.heap.size+1) (.loop (rec (if Ν.isNone then .ready else .done) Ν))).heap[m]? =W.heap[m]?)/\W.heap.size<=(W3.putObj (w.heap.size+1) (.loop (rec (if Ν.isNone then .ready else .done) Ν))).heap.size)/\
   (W3.putObj (w.heap.size+1) (.loop (rec (if Ν.isNone then .ready else .done) Ν))).heap[w.heap.size]? =some (.deferred (some []))/\
   (W3.putObj (w.heap.size+1) (.loop (rec (if Ν.isNone then .ready else .done) Ν))).heap[w.heap.size+1]? =some (.loop (rec (if Ν.isNone then .ready else .done) Ν)):=fun Ν W3 h3 qh hs3 hd3=>by
   have hr:=run_endRound (P:=P) Ν h3;rw[ι] at hr⊢;have hlt3:=(aN.1 h3).1;exact⟨hr,⟨fun m hm ho mP=>(World.putObj_heap_other (fun e:m=w.heap.size+1=>Υ (by rw[<-e];exact hm))).trans (qh m hm ho mP),by simpa using hs3⟩,(World.putObj_heap_other ϑ).trans hd3,World.putObj_heap_same hlt3⟩
  rintro e a3 W3 hp;cases e with
  |normal=>
   obtain⟨⟨h3,hd3,qh,hs3⟩,hi3⟩:=hp;obtain⟨hr,hk3,hd4,hl4⟩:=fin none W3 h3 qh hs3 hd3;exact⟨_,_,hr,hk3,.inl ⟨rfl,⟨Υ,hm2⟩,hd4,FP _ _ _ _ _ hi3 (.inr rfl),hl4⟩⟩
  |ret=>
   obtain⟨⟨h3,hd3,qh,hs3⟩,hi3⟩:=hp;obtain⟨hr,hk3,hd4,hl4⟩:=fin (some .ret) W3 h3 qh hs3 hd3;exact⟨_,_,hr,hk3,.inr ⟨rfl,⟨Υ,hm2⟩,hd4,.ret,qN _ _ _ _ _ hi3 (.inr rfl),hl4⟩⟩
  |exit id=>
   obtain⟨⟨h3,hd3,qh,hs3⟩,hi3⟩:=hp;obtain⟨hr,hk3,hd4,hl4⟩:=fin (some (.exit id)) W3 h3 qh hs3 hd3;exact⟨_,_,hr,hk3,.inr ⟨rfl,⟨Υ,hm2⟩,hd4,.exit id,qN _ _ _ _ _ hi3 (.inr rfl),hl4⟩⟩
  |goto t=>exact hp.elim
  |panic ch=>exact hp.elim
  |outgrown=>exact hp.elim
 |exit id=>exact h.elim
 |goto t=>exact h.elim
 |ret=>exact h.elim
 |panic chain=>exact h.elim
 |outgrown=>exact h.elim):P:=h
theorem _root_.zaK {P:Prop} (h:P:=by
 rintro Ms jc s Wa Wb ⟨⟨Υ,hm2⟩,hd,h⟩ hE η hG;have hdl:=(aN.1 hd).1;have hd':=(hE.block _ hdl hm2).trans hd;have hnd:w.heap.size∉jc:=fun x=>by rcases η _ x with h|h;exact hm2 h;omega
 cases s with
 |some k=>
  have hll:=(aN.1 h.2).1;exact⟨⟨fun x=>by rcases η _ x with h|h;exact Υ h;omega,hnd⟩,hd',hI _ _ _ _ _ h.1 hE η hG,(hE.block _ hll Υ).trans h.2⟩
 |none=>
  obtain⟨c,h,h2⟩:=h;have hll:=(aN.1 h2).1;exact⟨⟨fun x=>by rcases η _ x with h|h;exact Υ h;omega,hnd⟩,hd',c,hIx _ _ _ _ _ h hE η hG,(hE.block _ hll Υ).trans h2⟩):P:=h
theorem _root_.zaL {P:Prop} (h:P:=by
 rintro e W2 ⟨⟨v,rfl⟩,Ms,⟨_,hd,hi,hl⟩|⟨_,hd,c,hi,hl⟩⟩
 ·refine⟨none,_,by have:=run_endLoop (P:=P) hl (by rw[ι];simp);rw[ι] at this;exact this,?_⟩;exact hdone Ms _ (FP _ _ _ _ _ hi (.inr rfl)) ((World.putObj_heap_other ϑ).trans hd) (by have:=(aN.1 hd).1;simpa using this)
 ·refine⟨some c,_,by have:=run_endLoop (P:=P) hl (by rw[ι];simp);rw[ι] at this;exact this,?_⟩;exact hstop c Ms _ (qN _ _ _ _ _ hi (.inr rfl)) ((World.putObj_heap_other ϑ).trans hd) (by have:=(aN.1 hd).1;simpa using this)):P:=h
theorem _root_.zb8 {P:Prop} (h:P:=by
 rintro Ms s W ⟨_,_,h⟩;cases s with
 |some k=>exact hInv _ _ _ h.1
 |none=>obtain⟨c,h,_⟩:=h;exact nk _ _ _ h):P:=h
theorem _root_.zb9 {P:Prop} (h:P:=by
 rw[<-ν];have:=World.alloc_heap_new (w.alloc (.deferred (some []))) (.loop (rec .ready none));rwa [bA] at this):P:=h
theorem _root_.zcb {P:Prop} (h:P:=by
 refine⟨⟨fun x=>by have:=WK _ x;omega,fun x=>by have:=WK _ x;omega⟩,hK1,?_,hL1⟩;rw[<-ν];exact h0 _ _):P:=h
theorem _root_.zac {P:Prop} (h:P:=by
 go_wp2_with fail
 refine HI.o.mono ?_;clear HI;rintro e W' ⟨k,hk,IB,⟨uM,hp,rfl,hI⟩|⟨Y9,rfl,hI⟩⟩
 ·exact zcI
 ·have HN:=aa (af IB (af Y9 hI));clear IB Y9 hI;go_wp2_with fail
  go_returns;exact⟨k,hk,HN.o.1,.inr ⟨HN.o.2.1,by simp,HN.o.2.1▸HN.o.2.2⟩⟩):P:=h
theorem _root_.zad {P:Prop} (h:P:=by
 have HN:=aa IB;clear IB;go_wp2_with fail
 refine hC.mono ?_;rintro e W1 ⟨rfl,hI1⟩;have HI:=aa hI1;clear hI1 hI hC;cases hp:p k
 ·go_wp2_with fail
  go_roundw
  case rel=>exact⟨k+1,by omega,by go_num,fun j hj=>(by by_cases e:j=k;(subst e;exact hp);exact HN.o j ϑ),HI.o⟩
  case measure=>simp[intOf];omega
 ·go_wp2_with fail
  go_returns;exact⟨k,by omega,HN.o,.inl ⟨uM,hp,by simp,HI.o⟩⟩):P:=h
theorem _root_.zae {P:Prop} (h:P:=by
 go_wp2_with fail
 refine HI.o.mono ?_;clear HI;rintro e W' ⟨k,hk,IB,⟨uM,hp,rfl,hI,_⟩|⟨Y9,rfl,hI,_⟩⟩
 ·exact zcI
 ·have HN:=aa (af IB (af Y9 hI));clear IB Y9 hI;go_wp2_with fail
  go_returns;exact⟨k,hk,HN.o.1,.inr ⟨HN.o.2.1,by simp,HN.o.2.1▸HN.o.2.2⟩⟩):P:=h
theorem _root_.zak {P:Prop} (h:P:=by
 intro v' w1 Gm ε;have HO:=aa Gm;have HG:=aa ε;clear Gm ε;go_wp2;go_returns;refine⟨v',by simp,?_,?_⟩
 ·exact HO.o
 ·exact Below.grown (ai (aF _ _) _) HG.o ϕ (fun k e=>by cases e;exact ah _)):P:=h
theorem _root_.zam {P:Prop} (h:P:=by
 have Y9:k=l.length:=ϑ;have HN:=aa IB;clear IB;go_wp2_with fail
 go_returns;exact⟨k,by omega,HN.o,.inr ⟨Y9,by simp,by subst Y9;exact hI⟩⟩):P:=h
theorem _root_.zan {P:Prop} (h:P:=by
 have hidx:Ϝ 235 #[v,iv n] w (fun e w'=>w=w'/\((l.contains n=true/\ ∃k:Nat,k<l.length/\e= .returned (iv k))∨(l.contains n=false/\e= .returned (iv (-1))))):=by
  have IY:=hv.len;obtain⟨o,c,rfl⟩:=hv.open;have HV:=aa hv;clear hv;go_enter Tryz.func235,Tryz.ntmps235;go_wp2;go_loop [4,5,8] (fun _ _ i=> ∃k:Nat,k<=l.length/\i= .int .i64 k/\(∀j (hj:j<l.length),j<k->l[j]≠n)) (fun _ _ i=>l.length-(intOf i).toNat)
  case atStart=>exact⟨0,bE _,rfl,fun j _ hj=>ϑ⟩
  case round=>
   obtain⟨k,hk,rfl,IB⟩:=hrel;have HN:=aa IB;clear IB;by_cases uM:k<l.length
   ·obtain⟨b,off,rfl,hb,hc0⟩:=aL.cell HV.o uM;by_cases he:l[k]=n
    ·have he':(n==l[k])=true:=by simp[he]
     have HE:=aa he;clear he;go_wp2;go_returns;exact⟨rfl,.inl ⟨by rw[<-HE.o];exact bZ _,k,uM,by simp⟩⟩
    ·have he':(n==l[k])=false:=by simp;omega
     have HE:=aa he;clear he;go_wp2;go_round
     case rel=>exact⟨k+1,by omega,by go_num,fun j hj hjk=>(by by_cases e:j=k;(subst e;exact HE.o);exact HN.o j hj ϑ)⟩
     case measure=>simp[intOf];omega
   ·have Y9:k=l.length:=ϑ;exact zcM
 have HI:=aa hidx;clear hidx;go_enter Tryz.func147,Tryz.ntmps147;go_wp2_with fail
 refine HI.o.mono ?_;rintro e w' ⟨rfl,⟨hc,k,hk,rfl⟩|⟨hc,rfl⟩⟩
 ·have HC:=aa hc;clear hc;go_wp2_with fail
  go_returns;exact⟨by rw[HC.o];simp,aF _ _⟩
 ·have HC:=aa hc;clear hc;go_wp2_with fail
  go_returns;exact⟨by rw[HC.o];simp,aF _ _⟩):P:=h
theorem _root_.zao {P:Prop} (h:P:=by
 go_wp2_with fail
 refine HC.o.mono ?_;rintro e W' ⟨rfl,hR⟩;have HR:=aa hR;clear hR;go_wp2_with fail
 go_returns;exact⟨by simp,HR.o⟩):P:=h
theorem _root_.zaB {P:Prop} (h:P:=by
 refine(qY l[k] (bZ _) W h).mono ?_;rintro e W' ⟨rfl,hb⟩;exact⟨by simp[hk],aV h hb,iA.ax hb⟩):P:=h
theorem _root_.zaJ {P:Prop} (h:P:=by
 intro e W' υ;obtain⟨rfl,k,_,hI⟩:=υ.all;refine⟨?_,hI⟩;rw[iM,iU]):P:=h
theorem _root_.zaQ {P:Prop} (h:P:=by
 obtain⟨_,o,c',h0,h1,h2,h3,h4⟩:=hv;cases h0;exact(h4 _ rfl).1):P:=h
theorem _root_.zaV {P:Prop} (h:P:=by
 exact gF (cs:= #[]) (n:=0) (av _ _) rfl (ah _) ϖ):P:=h
theorem _root_.za0 {P:Prop} (h:P:=by
 go_returns;exact⟨by simp,(aF _ _).alloc (ah _) _ |>.trans (hb.mono ϕ)⟩):P:=h
theorem _root_.za4 {P:Prop} (h:P:=by
 have hl0:l.length=0:=by
  obtain⟨_,o,c',h0,h1,h2,h3,h4⟩:=hv;cases h0;have:=h3 rfl;omega
 have hc0:c=0:=by
  obtain⟨_,o,c',h0,h1,h2,h3,h4⟩:=hv;cases h0;exact h3 rfl
 have hl:l=[]:=jl hl0;subst hl;clear hv;subst hc0;go_enter Tryz.func91,Tryz.ntmps91;go_wp2;go_returns;exact⟨.slice none 0 0,by simp,⟨by simp[ag],.inl ⟨rfl,rfl⟩⟩,aF _ _⟩):P:=h
theorem _root_.za9 {P:Prop} (h:P:=by
 go_wp2_with fail
 go_returns;exact⟨Uy.o,.inl ⟨by rw[HE.o];simp,by rw[HE.o];simp⟩⟩):P:=h
theorem _root_.zbb {P:Prop} (h:P:=by
 go_wp2_with fail
 go_returns;exact⟨by rw[HE.o];simp,HB.o⟩):P:=h
theorem _root_.zbc {P:Prop} (h:P:=by
 go_wp2_with fail
 refine H.o.mono ?_;rintro e w' ⟨rfl,hb⟩;go_wp2_with fail
 go_returns;exact⟨by simp,hb⟩):P:=h
theorem _root_.zbl {P:Prop} (h:P:=by
 go_wp2;go_returns;exact⟨by simp,zl⟩):P:=h
theorem _root_.zbr {P:Prop} (h:P:=by
 refine⟨c+1,by omega,by go_num,o2,zX.out.1,?_,Pp.out,?_⟩
 ·have:=congrArg (List.take i) zX.out.2;exact zcR
 ·rw[Nat.add_mul,Nat.one_mul, <-Nat.add_assoc];exact HJ2.out):P:=h
theorem _root_.zby {P:Prop} (h:P:=by
 have Oo:c=z:=ϑ;subst Oo;have PI:=aa hJ;have EY:=aa Y6;have HO:=aa (af ho1 ho2);clear hJ Y6 ho1 ho2 MM O4 OU ZW cf2 cl2
 gi_wp2_with fail
 go_returns;refine .inl ⟨by simp,?_,o',HO.out.1,HO.out.2,EY.out⟩;rw[HCZ.out];exact PI.out):P:=h
theorem _root_.zbE {P:Prop} (h:P:=by
 go_wp2;go_returns;exact⟨by simp,rfl⟩):P:=h
theorem _root_.zbK {P:Prop} (h:P:=by
 go_wp2_with fail
 go_end0
 exact⟨⟨_,rfl⟩,_,.inr HJ2.o⟩):P:=h
theorem _root_.zbN {P:Prop} (h:P:=by
 go_wp2_with fail
 go_returns;exact⟨by rw[HR.o];simp,hB⟩):P:=h
theorem _root_.zbT {P:Prop} (h:P:=by
 simp only[Int.toNat_natCast];congr 3;apply Array.ext
 ·simp[madeCells,ag]
 ·intro j h1 h2;simp[madeCells,ag,Value.cells];rw[Nat.mod_one];rfl):P:=h
theorem _root_.zbU {P:Prop} (h:P:=by
 exact(aT _ _ _ ϕ).trans (dm _ _ _)):P:=h
theorem _root_.zbV {P:Prop} (h:P:=by
 go_wp2;go_returns;exact⟨by simp[lV];omega,aF _ _⟩):P:=h
theorem _root_.zbY {P:Prop} (h:P:=by
 refine⟨fun hb'=>?_,eF (h.apart b hb).2 hE.size⟩;rcases η b hb' with h1|h1
 ·exact(h.apart b hb).1 h1
 ·have:=(h.apart b hb).2;omega):P:=h
theorem _root_.zb0 {P:Prop} (h:P:=by
 go_wp2;all_goals
  go_returns;exact⟨by simp[tZ];omega,by go_grown⟩):P:=h
theorem _root_.zb3 {P:Prop} (h:P:=by
 exact((aT _ _ _ ϗ).trans ((aT _ _ _ ϗ).trans ((aT _ _ _ ϕ).trans (av _ _))))):P:=h
section
namespace Go.SL
open Go.RowKit Go.RG
def aH (size:Nat) (w:World) (v:Value) (n:Nat) (xs:List Value):Prop:=
 xs.length=n*size/\ ∃o c,v= .slice o n c/\n<=c/\c<=maxLen/\(o=none->c=0)/\ ∀a,o=some a->a.spot=none/\ ∀j u,xs[j]? =some u->w.cell? ⟨a.block,a.off+j,none⟩=some u
theorem aH.nil (size:Nat) (w:World):aH size w (.slice none 0 0) 0 []:=⟨by simp,none,0,rfl,ah _,by simp[maxLen],fun _=>rfl,fun a h=>by cases h⟩
theorem aH.len {size:Nat} {w:World} {v:Value} {n:Nat} {xs:List Value} (h:aH size w v n xs):n<=9223372036854775807:=by
 obtain⟨_,o,c,_,h1,h2,_⟩:=h;simp only[maxLen] at h2;omega
theorem aH.kept {size:Nat} {w w':World} {v:Value} {n:Nat} {xs:List Value} (h:aH size w v n xs) (hk: ∀b off n c,v= .slice (some ⟨b,off,none⟩) n c->b<w.heap.size->w'.heap[b]? =w.heap[b]?):aH size w' v n xs:=by
 obtain⟨hl,o,c,rfl,h1,h2,h3,h4⟩:=h;refine⟨hl,o,c,rfl,h1,h2,h3,fun a ha=>?_⟩;obtain⟨hs,hc⟩:=h4 a ha;obtain⟨b,off,sp⟩:=a;simp only at hs hc;subst hs;refine⟨rfl,fun j u hj=>?_⟩;have Q7:=hc j u hj;have uM:=dB w _ Q7;rw[gX (w:=w) (hk b off n c (by rw[ha]) uM)];exact Q7
theorem aH.below {size:Nat} {w w':World} {v:Value} {n:Nat} {xs:List Value} (h:aH size w v n xs) {B:Nat} (hb:Below B w w') (hB:w.heap.size<=B):aH size w' v n xs:=
 h.kept fun b _ _ _ _ uM=>hb.block b ϑ
theorem aH.ext {size:Nat} {w w':World} {v:Value} {n:Nat} {xs:List Value} (h:aH size w v n xs) {Ms:List Nat} (hE:Ext Ms w w') (hM: ∀x∈Ms,v.ownBlock≠some x):aH size w' v n xs:=
 h.kept fun b off n c hv uM=>hE.block b uM fun hm=>hM b hm (by rw[hv];rfl)
theorem aH.alloc {size:Nat} {w:World} {v:Value} {n:Nat} {xs:List Value} (h:aH size w v n xs) (o:Obj):aH size (w.alloc o) v n xs:=
 h.below ((aF w.heap.size w).alloc (ah _) o) (ah _)
theorem aH.bY {w:World} {base:Nat} {e:TypeId} {size:Nat} {v:Value} {n:Nat} {xs:List Value} (h:w.ownsRow base e size v n xs):aH size w v n xs:=by
 refine⟨h.1,?_⟩;rcases h.2 with⟨rfl,rfl⟩|⟨g,cap,cur,rfl,hb,hg,hn,hc,hs,ht⟩
 ·exact⟨none,0,rfl,ah _,by simp[maxLen],fun _=>rfl,fun a h=>by cases h⟩
 ·refine⟨_,cap,rfl,hn,hc,(fun h=>by cases h),fun a ha=>?_⟩;cases ha;refine⟨rfl,fun j u hj=>?_⟩;simp only[Nat.zero_add];rw[cell_of_row w g j cur e (0,0) hg];rw[<-ht,List.getElem?_take] at hj;split at hj
  ·simpa using hj
  ·cases hj
structure fU (P:Program) (t e:TypeId) (z:Value) (size bytes:Nat):Prop where
 und:P.underlying t=some (.slice e)
 info:(P.info? e).map (fun i=>(i.zero,i.size,i.bytes))=some (some z,size,bytes)
 cells:z.cells.size=size
 pos:0<size
theorem aH.kW {size:Nat} {w:World} {v:Value} {n:Nat} {xs:List Value} (h:aH size w v n xs): ∃o c,v= .slice o n c/\xs.length=n*size/\(o=none->c=0/\n=0)/\ ∀a,o=some a-> ∀j u,xs[j]? =some u->w.cell? (a.add j)=some u:=by
 obtain⟨hl,o,c,rfl,h1,h2,h3,h4⟩:=h;refine⟨o,c,rfl,hl,fun ho=>⟨h3 ho,by have:=h3 ho;omega⟩,fun a ha j u hj=>?_⟩;obtain⟨hs,hc⟩:=h4 a ha;obtain⟨b,off,sp⟩:=a;simp only at hs hc;subst hs;rw[Addr.add_lit];exact hc j u hj
theorem Nk {P:Program} {w:World} {t e:TypeId} {z:Value} {size bytes:Nat} (hT:fU P t e z size bytes) (ty:TypeId) {base:Nat} {v:Value} {n:Nat} {xs:List Value} (Gm:w.ownsRow base e size v n xs)
 {src:Value} {k:Nat} {kW:List Value} (ξ:aH size w src k kW) (h1: ∀u∈kW,u.oneCell'=true) (hb:(n+k)*bytes<=140737488355328) (h63:n+k<=9223372036854775807) (Μ:base<=w.heap.size):
 ∃v' w',(Builtin.append_ #[t,t] ty #[v,src]).run P w= .ok v' w'/\w'.ownsRow base e size v' (n+k) (xs++kW)/\w.grownBy w' v.ownBlock:=by
 obtain⟨i,hi,hz,hs,hby⟩:=info_parts hT.info;obtain⟨o,c,rfl,hl,hn,hc⟩:=ξ.kW;cases o with
 |none=>
  obtain⟨rfl,rfl⟩:=hn rfl;have:kW=[]:=jl (by simpa using hl);subst this;have hrun:=run_append_owned_none (P:=P) w base t ty e i size hT.und hi v n xs Gm;exact⟨v,w,hrun,by simpa using Gm,World.grownBy.refl _ _⟩
 |some a=>
  obtain⟨v',w',h,h2,h3,_⟩:=run_append_own (P:=P) w base t ty e i z size bytes hT.und hi hz hs hby hT.cells hT.pos v n xs Gm a k c kW hl (hc a rfl) h1 (by simp only[maxLen];omega) hb Μ;exact⟨v',w',h,h2,h3⟩
theorem wH {P:Program} {w:World} {t e:TypeId} {z:Value} {size bytes:Nat} (hT:fU P t e z size bytes) {o:Oper} {ρ:Operand->Value} {s x:Operand}
 (hop:o.op=Op.call {callee:=Callee.builtin Builtin.append,args:= #[s,x],argTypes:= #[t,t]}) {base:Nat} {v:Value} {n:Nat} {xs:List Value} (hs:ρ s=v) (Gm:w.ownsRow base e size v n xs)
 {src:Value} {k:Nat} {kW:List Value} (hx:ρ x=src) (ξ:aH size w src k kW) (h1: ∀u∈kW,u.oneCell'=true) (hb:(n+k)*bytes<=140737488355328) (h63:n+k<=9223372036854775807) (Μ:base<=w.heap.size):
 Does P o ρ w (fun v' w'=>w'.ownsRow base e size v' (n+k) (xs++kW)/\w.grownBy w' v.ownBlock):=by
 obtain⟨v',w',hrun,h2,h3⟩:=Nk (P:=P) hT o.type Gm ξ h1 hb h63 Μ;refine gH (W':=w') v' ?_ ⟨h2,h3⟩;exact zbI
theorem ek {P:Program} {w:World} {ops:Array Oper} {rest:List Oper} {o:Oper} {a:Act} {Q:Exit->Act->World->Prop} (hg:o.guard=none) (s x:Operand) {t e:TypeId} {z:Value} {size bytes:Nat} (hT:fU P t e z size bytes)
 (hop:o.op=Op.call {callee:=Callee.builtin Builtin.append,args:= #[s,x],argTypes:= #[t,t]}) (base:Nat) (v:Value) (n:Nat) (xs:List Value) (hs:a.eval s=v) (Gm:w.ownsRow base e size v n xs)
 (src:Value) (k:Nat) (kW:List Value) (hx:a.eval x=src) (ξ:aH size w src k kW) (h1: ∀u∈kW,u.oneCell'=true) (hb:(n+k)*bytes<=140737488355328) (h63:n+k<=9223372036854775807) (Μ:base<=w.heap.size)
 (hK: ∀v' w',w'.ownsRow base e size v' (n+k) (xs++kW)->w.grownBy w' v.ownBlock->wpList P ops Q rest (a.put o.dst v') w'):wpList P ops Q (o::rest) a w:=by
 refine wpList_plain hg fun K hK'=>?_;exact uI (wH (P:=P) hT hop hs Gm hx ξ h1 hb h63 Μ) fun v' w' ⟨h2,h3⟩=>hK' _ _ (hK v' w' h2 h3)
def ag (l:List Int):List Value:=l.map (Value.int .i64)
def aB (l:List (Int×Int)):List Value:=l.flatMap fun r=>[.int .i64 r.1,.int .i64 r.2]
def aK (l:List (Int×Int×Int)):List Value:=l.flatMap fun r=>[.int .i64 r.1,.int .i64 r.2.1,.int .i64 r.2.2]
theorem ic (l:List Int): ∀u∈ag l,u.oneCell'=true:=by
 intro u hu;obtain⟨_,_,rfl⟩:=gW.1 hu;rfl
theorem kF (l:List (Int×Int)): ∀u∈aB l,u.oneCell'=true:=by
 intro u hu;obtain⟨r,_,h⟩:=nW.1 hu;rcases eQ.1 h with rfl|h
 ·rfl
 ·rw[dX.1 h];rfl
theorem mJ (l:List (Int×Int×Int)): ∀u∈aK l,u.oneCell'=true:=by
 intro u hu;obtain⟨r,_,h⟩:=nW.1 hu;rcases eQ.1 h with rfl|h
 ·rfl
 ·rcases eQ.1 h with rfl|h
  ·rfl
  ·rw[dX.1 h];rfl
theorem iG {α:Type} (f:α->List Value) (sz:Nat) (hf: ∀x,(f x).length=sz): ∀(l:List α) (k j:Nat) (hk:k<l.length),j<sz->(l.flatMap f)[k*sz+j]? =(f l[k])[j]? :=za1
abbrev aL (w:World) (v:Value) (l:List Int):Prop:=aH 1 w v l.length (ag l)
abbrev bD (w:World) (v:Value) (l:List (Int×Int)):Prop:=aH 2 w v l.length (aB l)
abbrev aU (w:World) (v:Value) (l:List (Int×Int×Int)):Prop:=aH 3 w v l.length (aK l)
theorem aH.open {size:Nat} {w:World} {v:Value} {n:Nat} {xs:List Value} (h:aH size w v n xs): ∃o c,v= .slice o n c:=by
 obtain⟨_,o,c,hv,_⟩:=h;exact⟨o,c,hv⟩
theorem aL.cell {w:World} {o:Option Addr} {n c:Nat} {l:List Int} (h:aH 1 w (.slice o n c) n (ag l)) {k:Nat} (hk:k<l.length):
 ∃b off,o=some ⟨b,off,none⟩/\b<w.heap.size/\w.cell? ⟨b,off+k,none⟩=some (.int .i64 l[k]):=by
 obtain⟨hl,o',c',hv,h1,h2,h3,h4⟩:=h;cases hv;have hn:n=l.length:=by simpa [ag] using hl.symm
 cases o with
 |none=>have:=h3 rfl;omega
 |some a=>
  obtain⟨b,off,sp⟩:=a;obtain⟨hs,hc⟩:=h4 _ rfl;simp only at hs hc;subst hs;have:=hc k (.int .i64 l[k]) (by simp[ag,hk]);exact⟨b,off,rfl,dB w _ this,this⟩
theorem bD.cell {w:World} {o:Option Addr} {n c:Nat} {l:List (Int×Int)} (h:aH 2 w (.slice o n c) n (aB l)) {k:Nat} (hk:k<l.length):
 ∃b off,o=some ⟨b,off,none⟩/\b<w.heap.size/\w.cell? ⟨b,off+k*2,none⟩=some (.int .i64 l[k].1)/\w.cell? ⟨b,off+k*2+1,none⟩=some (.int .i64 l[k].2):=by
 obtain⟨hl,o',c',hv,h1,h2,h3,h4⟩:=h;cases hv;have IY:(aB l).length=l.length*2:=by simp[aB,List.length_flatMap,List.map_const',List.sum_replicate_nat]
 have hn:n=l.length:=ϑ;cases o with
 |none=>have:=h3 rfl;omega
 |some a=>
  obtain⟨b,off,sp⟩:=a;obtain⟨hs,hc⟩:=h4 _ rfl;simp only at hs hc;subst hs;have h0:=hc (k*2+0) (.int .i64 l[k].1) (by unfold aB;rw[iG _ 2 (fun _=>rfl) l k 0 hk ϑ];rfl);have h1:=hc (k*2+1) (.int .i64 l[k].2) (by unfold aB;rw[iG _ 2 (fun _=>rfl) l k 1 hk ϑ];rfl);exact zcs
theorem aU.cell {w:World} {o:Option Addr} {n c:Nat} {l:List (Int×Int×Int)} (h:aH 3 w (.slice o n c) n (aK l)) {k:Nat} (hk:k<l.length):
 ∃b off,o=some ⟨b,off,none⟩/\b<w.heap.size/\w.cell? ⟨b,off+k*3,none⟩=some (.int .i64 l[k].1)/\w.cell? ⟨b,off+k*3+1,none⟩=some (.int .i64 l[k].2.1)/\w.cell? ⟨b,off+k*3+2,none⟩=some (.int .i64 l[k].2.2):=by
 obtain⟨hl,o',c',hv,h1,h2,h3,h4⟩:=h;cases hv;have IY:(aK l).length=l.length*3:=by simp[aK,List.length_flatMap,List.map_const',List.sum_replicate_nat]
 have hn:n=l.length:=ϑ;cases o with
 |none=>have:=h3 rfl;omega
 |some a=>
  obtain⟨b,off,sp⟩:=a;obtain⟨hs,hc⟩:=h4 _ rfl;simp only at hs hc;subst hs;have h0:=hc (k*3+0) (.int .i64 l[k].1) (by unfold aK;rw[iG _ 3 (fun _=>rfl) l k 0 hk ϑ];rfl);have h1:=hc (k*3+1) (.int .i64 l[k].2.1) (by unfold aK;rw[iG _ 3 (fun _=>rfl) l k 1 hk ϑ];rfl);have h2:=hc (k*3+2) (.int .i64 l[k].2.2) (by unfold aK;rw[iG _ 3 (fun _=>rfl) l k 2 hk ϑ];rfl);rw[Nat.add_zero] at h0;rw[<-Nat.add_assoc] at h1 h2;exact⟨b,off,rfl,dB w _ h0,h0,h1,h2⟩
theorem bH {W w1:World} (hb:Ϙ W w1):(∀b o,b<W.heap.size->w1.cell? ⟨b,o,none⟩=W.cell? ⟨b,o,none⟩)/\(∀b o,b<W.heap.size->w1.frozen? ⟨b,o,none⟩=W.frozen? ⟨b,o,none⟩):=
 ⟨fun b o h=>hb.cell (p:=⟨b,o,none⟩) h,fun b o h=>hb.frozen (p:=⟨b,o,none⟩) h⟩
theorem aV {w a b:World} (h:Ϙ w a) (k:Ϙ a b):Ϙ w b:=h.trans (k.mono h.size)
theorem ai {w a:World} (h:Ϙ w a) (o:Obj):Ϙ w (a.alloc o):=h.alloc h.size o
theorem jE {w a:World} (h:Ϙ w a):Ϙ w a.drew:=h.drew
theorem dP {w a:World} (h:Ϙ w a) {p:Addr} (hp:w.heap.size<=p.block) (u:Value):Ϙ w (a.setCell p u):=h.setCell hp u
theorem zl {n:Nat} {a b:World} (h:Below n a b:=by repeat (first|exact Below.refl _ _|assumption|refine aV ?_ (by assumption)|refine ai ?_ _|refine jE ?_|refine dP ?_ ϗ _)):Below n a b:=h
theorem ze {n:Nat} {a b:World} (h:Below n a b:=by repeat (first|exact Below.refl _ _|assumption|refine aV ?_ hE.below|refine aV ?_ (by assumption)|refine ai ?_ _|refine jE ?_|refine dP ?_ (by simp;try omega) _)):Below n a b:=h
def PV (v:Value) (w:World) (e:Ending) (w':World):Prop:=e= .returned v/\Ϙ w w'
def dN (n:Nat) (p:Nat->Bool) (I:Nat->World->Prop) (yes:Nat->Value) (no:Value) (e:Ending) (W:World):Prop:=
 ∃k,k<=n/\(∀j,j<k->p j=false)/\((k<n/\p k=true/\e= .returned (yes k)/\I (k+1) W)∨(k=n/\e= .returned no/\I n W))
theorem dN.all {n:Nat} {p:Nat->Bool} {I:Nat->World->Prop} {a b:Bool} {e:Ending} {W:World} (h:dN n p I (fun _=> .bool a) (.bool b) e W):
 (e= .returned (.bool (if(List.range n).any p then a else b)))/\ ∃k,k<=n/\I k W:=by
 obtain⟨k,hk,IB,⟨uM,hp,rfl,hI⟩|⟨rfl,rfl,hI⟩⟩:=h
 ·have:(List.range n).any p=true:=List.any_eq_true.2 ⟨k,by simpa using uM,hp⟩;rw[this];exact⟨rfl,k+1,uM,hI⟩
 ·have:(List.range k).any p=false:=by
   rw[List.any_eq_false];intro x hx;rw[IB x (by simpa using hx)];simp
  rw[this];exact⟨rfl,k,ah _,hI⟩
structure iA (B:Nat) (w w':World):Prop where
 size:w.heap.size<=w'.heap.size
 block: ∀k,B<=k->k<w.heap.size->w'.heap[k]? =w.heap[k]?
theorem iA.ax {B:Nat} {w w':World} (h:Ϙ w w'):iA B w w':=⟨h.size,fun k _ hk=>h.block k hk⟩
theorem iA.uy {B:Nat} {Ms:List Nat} {w w':World} (h:Ext Ms w w') (hM: ∀x∈Ms,x<B):iA B w w':=
 ⟨h.size,fun k hB hk=>h.block k hk (fun hm=>by have:=hM k hm;omega)⟩
theorem aD {w:World} {b:Nat} {v:Value} {t:TypeId} {fr:Nat×Nat} (h:w.heap[b]? =some (.cells #[v] t fr)):w.cell? ⟨b,0,none⟩=some v:=by
 simp[World.cell?,h]
theorem aH.bI {w:World} {b:Nat} {cs:Array Value} {t:TypeId} {fr:Nat×Nat} (size n:Nat) (h:w.heap[b]? =some (.cells cs t fr)) (hn:cs.size=n*size) (hm:n<=maxLen):aH size w (.slice (some ⟨b,0,none⟩) n n) n cs.toList:=by
 refine⟨by simpa using hn,_,n,rfl,ah _,hm,(fun h=>by cases h),fun a ha=>?_⟩;cases ha;refine⟨rfl,fun j u hj=>?_⟩;simp only[Nat.zero_add];simp only[World.cell?,h];simpa using hj
def PSl (size n:Nat) (xs:List Value) (w:World) (e:Ending) (w':World):Prop:= ∃v,e= .returned v/\aH size w' v n xs/\Ϙ w w'
theorem gF {w:World} {base g:Nat} {cs:Array Value} {e:TypeId} {size n:Nat} (h:w.heap[g]? =some (.cells cs e (0,0))) (hn:cs.size=n*size) (hb:base<=g) (hm:n<=maxLen):
 w.ownsRow base e size (.slice (some ⟨g,0,none⟩) n n) n cs.toList:=
 ⟨by simpa using hn,.inr ⟨g,n,cs,rfl,hb,h,ah _,hm,hn,by rw[ji ϗ]⟩⟩
theorem av (w:World) (A:Obj):(w.alloc A).heap[w.heap.size]? =some A:=heap_alloc_new w A
theorem dm (w:World) (A B:Obj):((w.alloc A).alloc B).heap[w.heap.size+1]? =some B:=by
 have:=heap_alloc_new (w.alloc A) B;rwa [bA] at this
theorem fM (w:World) (A B C:Obj):(((w.alloc A).alloc B).alloc C).heap[w.heap.size+2]? =some C:=by
 have:=heap_alloc_new ((w.alloc A).alloc B) C;rwa [bA,bA] at this
theorem aA {w:World} {b o:Nat} {cs:Array Value} {t:TypeId} {fr:Nat×Nat} (h:w.heap[b]? =some (.cells cs t fr)) (u:Value):
 (w.setCell ⟨b,o,none⟩ u).heap[b]? =some (.cells (cs.setIfInBounds o u) t fr):=by
 simp[World.setCell,Array.getElem?_modify,h]
theorem jo (w:World) (a:Addr) (u:Value):Ext [a.block] w (w.setCell a u):=
 ⟨rfl,rfl,rfl,by simp[World.setCell],fun k _ hm=>bV w a u k (by simpa using hm)⟩
theorem iU {α:Type} (l:List α) (q:α->Bool) (d:α):(List.range l.length).all (fun k=>q (l.getD k d))=l.all q:=by
 induction l with
 |nil=>rfl
 |cons x l ih=>
  rw[List.length_cons,List.range_succ_eq_map,List.all_cons,List.all_map,List.all_cons, <-ih];rfl
theorem aH.fq {size:Nat} {w w':World} {v:Value} {n:Nat} {xs:List Value} (h:aH size w v n xs) {Ms:List Nat} (hE:Ext Ms w w') (hM: ∀x∈Ms, ∀o,w.cell? ⟨x,o,none⟩=none):aH size w' v n xs:=by
 obtain⟨hl,o,c,rfl,h1,h2,h3,h4⟩:=h;refine⟨hl,o,c,rfl,h1,h2,h3,fun a ha=>?_⟩;obtain⟨hs,hc⟩:=h4 a ha;obtain⟨b,off,sp⟩:=a;simp only at hs hc;subst hs;refine⟨rfl,fun j u hj=>?_⟩;have Q7:=hc j u hj;have uM:=dB w _ Q7;rw[hE.cell b _ uM (fun hm=>by rw[hM b hm] at Q7;cases Q7)];exact Q7
theorem _root_.Go.RG.Ext.set {Ms:List Nat} {w W:World} (h:Ext Ms w W) {p:Addr} (hp:w.heap.size<=p.block) (u:Value):Ext Ms w (W.setCell p u):=
 ⟨h.os,h.tape,h.output,by have:=h.size;simp[World.setCell];omega,fun k hk hm=>(bV W p u k ϑ).trans (h.block k hk hm)⟩
theorem _root_.Go.RG.Ext.alloc {Ms:List Nat} {w W:World} (h:Ext Ms w W) (o:Obj):Ext Ms w (W.alloc o):=
 ⟨h.os,h.tape,h.output,by have:=h.size;simp;omega,fun k hk hm=>(aT W o k (by have:=h.size;omega)).trans (h.block k hk hm)⟩
theorem _root_.Go.RG.Ext.bel {Ms:List Nat} {w a b:World} (h:Ext Ms w a) (k:Ϙ a b):Ext Ms w b:=h.trans (Ext.ax k)
theorem qC (l:List Int) (k:Nat) (x:Int):(ag l).toArray.setIfInBounds k (.int .i64 x)=(ag (l.set k x)).toArray:=by
 simp[ag,List.map_set]
theorem fD {w:World} {b:Nat} {l:List Int} {t:TypeId} {fr:Nat×Nat} (h:w.heap[b]? =some (.cells (ag l).toArray t fr)) {k:Nat} (hk:k<l.length):w.cell? ⟨b,k,none⟩=some (.int .i64 l[k]):=by
 simp[World.cell?,h,ag,hk]
theorem bn {w:World} {b:Nat} {cs:Array Value} {t:TypeId} (h:w.heap[b]? =some (.cells cs t (0,0))) (k:Nat):w.frozen? ⟨b,k,none⟩=false:=by
 simp[World.frozen?,h]
theorem aH.Rx {w:World} {b:Nat} {cs:Array Value} {t:TypeId} {fr:Nat×Nat} (n c:Nat) (h:w.heap[b]? =some (.cells cs t fr)) (hn:n<=cs.size) (hc:n<=c) (hm:c<=maxLen):aH 1 w (.slice (some ⟨b,0,none⟩) n c) n (cs.toList.take n):=by
 refine⟨by simp;omega,_,c,rfl,hc,hm,(fun h=>by cases h),fun a ha=>?_⟩;cases ha;refine⟨rfl,fun j u hj=>?_⟩;simp only[Nat.zero_add];simp only[World.cell?,h];rw[List.getElem?_take] at hj;split at hj
 ·simpa using hj
 ·cases hj
end Go.SL
end
section
namespace Go.RG
open Go.RowKit
@[go_sem] theorem ahx (f:FuncId):Fence.wide.fn f=True:=rfl
@[go_sem] theorem aba:Fence.wide.depth=none:=rfl
def Ci (ops:Array Oper):Bool:=ops.toList.all fun o=>match o.op with| .defer _=>false|_=>true
theorem IK {ops:Array Oper} (h:Ci ops=true) {i:Nat} {o:Oper} (ho:ops[i]? =some o): ∀c,o.op≠ .defer c:=by
 intro c hc;have hm:o∈ops.toList:=by
  obtain⟨uM,rfl⟩:=aN.1 ho;simp
 have:=jh.1 h o hm;rw[hc] at this;cases this
theorem Nh {r:Option Nat} {o:Oper} (ρ:Operand->Value) (h: ∀c,o.op≠ .defer c):o.semAt r ρ=execOp ρ o:=by
 cases r with
 |none=>exact Oper.semAt_none _ _
 |some l=>exact Oper.semAt_some l ρ o h
theorem Xt {F:Fence} {n:Nat} {P:Program} {ops:Array Oper} {Q:Exit->Act->World->Prop}: ∀(fuel:Nat) (l:Array Bool) (a:Act) (w:World),Any (wpOpIn F n P ops Q) ops (Q .normal) fuel l a w->wpAnyIn F n P .any ops Q fuel l a w:=by
 intro fuel;induction fuel with
 |zero=>exact fun l a w h=>h
 |succ fuel ih=>exact fun l a w h=>⟨h.1,fun i hi=>wpOpIn_mono (fun a w=>ih _ a w) (h.2 i hi)⟩
theorem UR {F:Fence} {n:Nat} {P:Program} {ops:Array Oper} {Q:Exit->Act->World->Prop} (l:List Nat):Seq (wpOpIn F n P ops Q) (Q .normal) l=wpOpsIn F n P ops Q l:=by
 induction l with
 |nil=>rfl
 |cons i l ih=>funext a w;rw[wpOpsIn_cons, <-ih];rfl
theorem Hd {F:Fence} {n:Nat} (hF: ∀f,F.fn f) (hd:F.depth=none) {P:Program} {o:Oper} {a:Act} {W:World} {R:Value->World->Prop} {K:Act->World->Prop} {Q:Exit->Act->World->Prop} (IB: ∀c,o.op≠ .defer c)
 (qY: ∀f args w R,Calls P f args w R->CallsIn F (n-1) P f args w R)
 (h:Does P o a.eval W R) (hK: ∀v W',R v W'->K (a.put o.dst v) W'):o.wpIn F n P a W K Q:=by
 refine⟨fun f _=>hF f,?_⟩;rw[Nh _ IB];unfold Does at h;generalize (execOp a.eval o).run P W=r at*
 cases r with
 |ok x w'=>
  cases x <;>simp only[Oper.uponIn] at h⊢ <;>first|exact hK _ _ h|exact h.elim|skip
  exact⟨(fun h=>by rw[hd] at h;cases h),qY _ _ _ _ (Calls.mono h (fun e w'' ⟨v,he,hr⟩=>by subst he;exact hK _ _ hr))⟩
 |halt x w'=>exact h.elim
theorem sJ {F:Fence} {n:Nat} (hF: ∀f,F.fn f) (hd:F.depth=none) {R0 R1:World->World->Prop} (hR:EW R0 R1) {Ps:rH} {P:Program} (qY: ∀f args w R,Calls P f args w R->CallsIn F (n-1) P f args w R)
 {id:Nat} {ops:List Oper} {Q:Exit->Act->World->Prop} {a:Act} {w:World} (hdr:R0 w w.drew) (k:Nat) (m:Option Nat) (Ss:List (Nat×Spec))
 (hm:P.follows .mixedOrders=true) (hc:Te ops.toArray k=true) (IB:Ci ops.toArray=true)
 (h:gy Ps P ops.toArray R0 R1 m Ss (fun a w=>wpListIn F n P ops.toArray Q (ops.drop k) a w) w (ops.take k) 0 a [] []):(Code.region id ops.toArray true).wpIn F n P Q a w:=by
 refine wpIn_region_any hm (Xt _ _ _ _ ?_);refine xg (Ps:=Ps) (P:=P) (R0:=R0) (R1:=R1) (m:=m) (Ss:=Ss) (W0:=w) hR hc (fun i K K' a w h hs=>wpOpIn_mono h hs) ?_ ?_ hdr ?_
 ·intro i o K a W R ho hw hd' hK;unfold wpOpIn;simp only[ho];rw[aG hw];exact Hd hF hd (IK IB ho) qY hd' hK
 ·intro i o K a W ho hw hK;unfold wpOpIn;simp only[ho];rw[ak (by rw[hw];simp)];exact⟨fun f _=>hF f,hK⟩
 ·have e:(fun a w=>wpListIn F n P ops.toArray Q (ops.drop k) a w)=Seq (wpOpIn F n P ops.toArray Q) (Q .normal) (List.range' k (ops.toArray.size-k)):=by
   funext a w;rw[UR];have hkn:=(Ew hc).kn;have IY:ops.toArray.size-k=(ops.drop k).length:=ϕ;rw[IY,wpOpsIn_eq_wpListIn (ops.drop k) k (fun j=>ϕ)]
  rw[<-e];exact h
theorem O6 {n:Nat} {P:Program} (f:FuncId) (args:Array Value) (w:World) (R:Ending->World->Prop) (h:Calls P f args w R):CallsIn Fence.wide (n-1) P f args w R:=callsIn_wide.2 h
theorem oP {n:Nat} {P:Program} {l:Nat} (f:FuncId) (args:Array Value) (w:World) (R:Ending->World->Prop) (h:Calls P f args w R):CallsIn (Fence.wide.inRound l) (n-1) P f args w R:=CallsIn.inRound l (callsIn_wide.2 h)
theorem Ct {n:Nat} {P:Program} {id:Nat} {ops:List Oper} {Q:Exit->Act->World->Prop} {a:Act} {w:World} (k:Nat) (Ms:List Nat) (m:Option Nat) (Ss:List (Nat×Spec))
 (hm:P.follows .mixedOrders=true) (hc:Te ops.toArray k=true) (IB:Ci ops.toArray=true)
 (h:gy Kz P ops.toArray (Ext []) (Ext Ms) m Ss (fun a w=>wpListIn Fence.wide n P ops.toArray Q (ops.drop k) a w) w (ops.take k) 0 a [] []):(Code.region id ops.toArray true).wpIn Fence.wide n P Q a w:=
 sJ (fun _=>trivial) rfl (yP Ms) O6 ((Ext.refl [] w).drew) k m Ss hm hc IB h
theorem dG {l n:Nat} {P:Program} {id:Nat} {ops:List Oper} {Q:Exit->Act->World->Prop} {a:Act} {w:World} (k:Nat) (Ms:List Nat) (m:Option Nat) (Ss:List (Nat×Spec))
 (hm:P.follows .mixedOrders=true) (hc:Te ops.toArray k=true) (IB:Ci ops.toArray=true)
 (h:gy Kz P ops.toArray (Ext []) (Ext Ms) m Ss (fun a w=>wpListIn (Fence.wide.inRound l) n P ops.toArray Q (ops.drop k) a w) w (ops.take k) 0 a [] []):(Code.region id ops.toArray true).wpIn (Fence.wide.inRound l) n P Q a w:=
 sJ (fun _=>trivial) rfl (yP Ms) oP ((Ext.refl [] w).drew) k m Ss hm hc IB h
def TI {α:Type} (P:Program) (g:FuncId) (lb:Array Value) (xs:List α) (E:List Nat->α->Value->World->Prop) (Old:List Nat) (eB Inv:World->Prop):Prop:=
 ∀(l:Nat) (J:List Nat->Option Nat->World->Prop) (W:World),
  (∀Ms s W1,J Ms s W1->Inv W1)->
  (∀Ms jc s W1 W2,J Ms s W1->Ext Ms W1 W2->(∀m∈jc,m∈Ms∨(W1.heap.size<=m/\m<W2.heap.size))->eB W2->J jc s W2)->
  (∀Ms k v W1 (hk:k<xs.length),J Ms (some k) W1->E Ms xs[k] v W1->YieldAt Fence.wide 0 P l #[v] W1 fun e W'=>
    ((∀m∈Ms,m∉Old->m<W1.heap.size->W'.heap[m]? =W1.heap[m]?)/\W1.heap.size<=W'.heap.size)/\((e= .returned (.bool true)/\J Ms (some (k+1)) W')∨(e= .returned (.bool false)/\J Ms none W')))->
  J Old (some 0) W->
  Calls P g (#[.func (.yield l) #[] #[]]++lb) W fun e W'=>(∃v,e= .returned v)/\ ∃Ms,J Ms (some xs.length) W'∨J Ms none W'
def postC (l D:Nat) (busy:Loop) (Ms Old:List Nat) (W1:World) (agZ:World->Prop) (Ix:Code->World->Prop):Exit->Act->World->Prop
 | .normal,_,W=>(W.heap[l]? =some (.loop busy)/\W.heap[D]? =some (.deferred (some []))/\(∀m∈Ms,m∉Old->m<W1.heap.size->W.heap[m]? =W1.heap[m]?)/\W1.heap.size<=W.heap.size)/\agZ W
 | .ret,_,W=>(W.heap[l]? =some (.loop busy)/\W.heap[D]? =some (.deferred (some []))/\(∀m∈Ms,m∉Old->m<W1.heap.size->W.heap[m]? =W1.heap[m]?)/\W1.heap.size<=W.heap.size)/\Ix .ret W
 | .exit id,_,W=>(W.heap[l]? =some (.loop busy)/\W.heap[D]? =some (.deferred (some []))/\(∀m∈Ms,m∉Old->m<W1.heap.size->W.heap[m]? =W1.heap[m]?)/\W1.heap.size<=W.heap.size)/\Ix (.exit id) W
 |_,_,_=>False
theorem Cm (W:World) (l:Nat) (o:Obj):Ext [l] W (W.putObj l o):=
 ⟨rfl,rfl,rfl,by simp,fun k _ hm=>World.putObj_heap_other (by simpa using hm)⟩
theorem kQ {α:Type} {P:Program} {n:Nat} {g:Operand} {ps:Array Tmp} {assign body:Code} {Q:Exit->Act->World->Prop} {a:Act} {w:World} {gf:FuncId} {lb:Array Value} {xs:List α}
 {E:List Nat->α->Value->World->Prop} {Old:List Nat} {eB Inv:World->Prop} (hseq:TI P gf lb xs E Old eB Inv) (hg:a.eval g= .func (.func gf) #[] lb)
 (eg: ∀args w,(callFunc gf args).run P w= .ok (.enter gf args) w) (hps:ps.size=1) (WK: ∀m∈Old,m<w.heap.size)
 (I:List Nat->Nat->World->Prop) (Ix:Code->List Nat->World->Prop) (hInv: ∀Ms k W,I Ms k W->Inv W) (nk: ∀c Ms W,Ix c Ms W->Inv W)
 (hI: ∀Ms jc k W1 W2,I Ms k W1->Ext Ms W1 W2->(∀m∈jc,m∈Ms∨(W1.heap.size<=m/\m<W2.heap.size))->eB W2->I jc k W2)
 (hIx: ∀c Ms jc W1 W2,Ix c Ms W1->Ext Ms W1 W2->(∀m∈jc,m∈Ms∨(W1.heap.size<=m/\m<W2.heap.size))->eB W2->Ix c jc W2)
 (FP: ∀Ms k W r o,I Ms k W->r=w.heap.size∨r=w.heap.size+1->I Ms k (W.putObj r o))
 (qN: ∀c Ms W r o,Ix c Ms W->r=w.heap.size∨r=w.heap.size+1->Ix c Ms (W.putObj r o))
 (h0: ∀o o',I Old 0 ((w.alloc o).alloc o'))
 (Mid:Act->List Nat->Nat->World->Act->World->Prop) (Jd: ∀Ms k W1 a₁ W o,Mid a Ms k W1 a₁ W->Mid a Ms k W1 a₁ (W.putObj (w.heap.size+1) o))
 (hassign: ∀Ms k v W (hk:k<xs.length),I Ms k W->E Ms xs[k] v W->w.heap.size+1<W.heap.size->
   assign.wpIn (Fence.wide.inRound (w.heap.size+1)) 0 P (Exit.then (fun a₁ W'=>Mid a Ms k W a₁ W'/\(W'.heap[w.heap.size+1]? =W.heap[w.heap.size+1]?/\W'.heap[w.heap.size]? =W.heap[w.heap.size]?)) (fun _ _ _=>False))
    {tmps:=(ps.zip #[v]).foldl (fun t (p,v)=>t.setIfInBounds p v) a.tmps,defers:=[]} W)
 (hbody: ∀Ms k W1 a₁ W busy,k<xs.length->Mid a Ms k W1 a₁ W->W.heap[w.heap.size+1]? =some (.loop busy)->W.heap[w.heap.size]? =some (.deferred (some []))->
   body.wpIn (Fence.wide.inRound (w.heap.size+1)) 0 P (postC (w.heap.size+1) w.heap.size busy Ms Old W1 (I Ms (k+1)) (fun c=>Ix c Ms)) a₁ W)
 (hdone: ∀Ms W,I Ms xs.length W->W.heap[w.heap.size]? =some (.deferred (some []))->w.heap.size<W.heap.size->Q .normal {a with defers:={target:= .collected w.heap.size,args:= #[]}::a.defers} W)
 (hstop: ∀c Ms W,Ix c Ms W->W.heap[w.heap.size]? =some (.deferred (some []))->w.heap.size<W.heap.size->c.wpIn Fence.wide n P Q {a with defers:={target:= .collected w.heap.size,args:= #[]}::a.defers} W):
 (Code.rangeFunc g ps assign body).wpIn Fence.wide n P Q a w:=by
 refine wpIn_rangeFunc ?_;intro fn _;obtain⟨rec,ι⟩: ∃rec:LoopState->Option Code->Loop,rec=fun st pe=>{state:=st,pending:=pe,fn,tmps:=a.tmps,params:=ps,assign,body,defers:=w.heap.size}:=⟨_,rfl⟩;obtain⟨W1,ν⟩: ∃W1,(w.alloc (.deferred (some []))).alloc (.loop (rec .ready none))=W1:=⟨_,rfl⟩;have hL1:W1.heap[w.heap.size+1]? =some (.loop (rec .ready none)):=zb9;have hK1:W1.heap[w.heap.size]? =some (.deferred (some [])):=by
  rw[<-ν];exact(aT _ _ _ ϕ).trans (World.alloc_heap_new w _)
 refine⟨w.heap.size+1,[{target:= .collected w.heap.size,args:= #[]}],W1,{target:= .fn (.func gf) lb,args:= #[.func (.yield (w.heap.size+1)) #[] #[]]},W1,gf,
  #[.func (.yield (w.heap.size+1)) #[] #[]]++lb,W1,?_,?_,fun _ _=>trivial,?_,(fun h=>by cases h),callsIn_wide.2 ?_⟩
 ·rw[<-ν,ι];exact run_enterLoop_outer _ _ _ _ _
 ·simp only[resolve,hg];simp[go_sem]
 ·simp[invoke,go_sem,eg]
 ·refine(hseq (w.heap.size+1)
   (fun Ms s W=>(w.heap.size+1∉Ms/\w.heap.size∉Ms)/\W.heap[w.heap.size]? =some (.deferred (some []))/\
     match s with
     |some k=>I Ms k W/\W.heap[w.heap.size+1]? =some (.loop (rec .ready none))
     |none=> ∃c,Ix c Ms W/\W.heap[w.heap.size+1]? =some (.loop (rec .done (some c)))) W1 ?_ ?_ ?_ ?_).mono ?_
  ·exact zb8
  ·exact zaK
  ·rintro Ms k v W hk ⟨⟨Υ,hm2⟩,hd,hi,hl⟩ hEl;have uM:w.heap.size+1<W.heap.size:=(aN.1 hl).1;have hy:=run_yield (P:=P) (args:= #[v]) hl (by rw[ι];simp[hps]);exact zai
  ·exact zcb
  ·exact zaL
def acX {α:Type} (P:Program) (g:FuncId) (lb:Array Value) (xs:List α) (E:List Nat->α->Array Value->World->Prop) (Old:List Nat) (eB Inv:World->Prop):Prop:=
 ∀(l:Nat) (J:List Nat->Option Nat->World->Prop) (W:World),
  (∀Ms s W1,J Ms s W1->Inv W1)->
  (∀Ms jc s W1 W2,J Ms s W1->Ext Ms W1 W2->(∀m∈jc,m∈Ms∨(W1.heap.size<=m/\m<W2.heap.size))->eB W2->J jc s W2)->
  (∀Ms k v W1 (hk:k<xs.length),J Ms (some k) W1->E Ms xs[k] v W1->YieldAt Fence.wide 0 P l v W1 fun e W'=>
    ((∀m∈Ms,m∉Old->m<W1.heap.size->W'.heap[m]? =W1.heap[m]?)/\W1.heap.size<=W'.heap.size)/\((e= .returned (.bool true)/\J Ms (some (k+1)) W')∨(e= .returned (.bool false)/\J Ms none W')))->
  J Old (some 0) W->
  Calls P g (#[.func (.yield l) #[] #[]]++lb) W fun e W'=>(∃v,e= .returned v)/\ ∃Ms,J Ms (some xs.length) W'∨J Ms none W'
theorem JN {α:Type} {P:Program} {n:Nat} {g:Operand} {ps:Array Tmp} {assign body:Code} {Q:Exit->Act->World->Prop} {a:Act} {w:World} {gf:FuncId} {lb:Array Value} {xs:List α}
 {E:List Nat->α->Array Value->World->Prop} {Old:List Nat} {eB Inv:World->Prop} (hseq:acX P gf lb xs E Old eB Inv) (hg:a.eval g= .func (.func gf) #[] lb)
 (eg: ∀args w,(callFunc gf args).run P w= .ok (.enter gf args) w) (hps: ∀Ms x v W,E Ms x v W->v.size=ps.size) (WK: ∀m∈Old,m<w.heap.size)
 (I:List Nat->Nat->World->Prop) (Ix:Code->List Nat->World->Prop) (hInv: ∀Ms k W,I Ms k W->Inv W) (nk: ∀c Ms W,Ix c Ms W->Inv W)
 (hI: ∀Ms jc k W1 W2,I Ms k W1->Ext Ms W1 W2->(∀m∈jc,m∈Ms∨(W1.heap.size<=m/\m<W2.heap.size))->eB W2->I jc k W2)
 (hIx: ∀c Ms jc W1 W2,Ix c Ms W1->Ext Ms W1 W2->(∀m∈jc,m∈Ms∨(W1.heap.size<=m/\m<W2.heap.size))->eB W2->Ix c jc W2)
 (FP: ∀Ms k W r o,I Ms k W->r=w.heap.size∨r=w.heap.size+1->I Ms k (W.putObj r o))
 (qN: ∀c Ms W r o,Ix c Ms W->r=w.heap.size∨r=w.heap.size+1->Ix c Ms (W.putObj r o))
 (h0: ∀o o',I Old 0 ((w.alloc o).alloc o'))
 (Mid:Act->List Nat->Nat->World->Act->World->Prop) (Jd: ∀Ms k W1 a₁ W o,Mid a Ms k W1 a₁ W->Mid a Ms k W1 a₁ (W.putObj (w.heap.size+1) o))
 (hassign: ∀Ms k v W (hk:k<xs.length),I Ms k W->E Ms xs[k] v W->w.heap.size+1<W.heap.size->
   assign.wpIn (Fence.wide.inRound (w.heap.size+1)) 0 P (Exit.then (fun a₁ W'=>Mid a Ms k W a₁ W'/\(W'.heap[w.heap.size+1]? =W.heap[w.heap.size+1]?/\W'.heap[w.heap.size]? =W.heap[w.heap.size]?)) (fun _ _ _=>False))
    {tmps:=(ps.zip v).foldl (fun t (p,v)=>t.setIfInBounds p v) a.tmps,defers:=[]} W)
 (hbody: ∀Ms k W1 a₁ W busy,k<xs.length->Mid a Ms k W1 a₁ W->W.heap[w.heap.size+1]? =some (.loop busy)->W.heap[w.heap.size]? =some (.deferred (some []))->
   body.wpIn (Fence.wide.inRound (w.heap.size+1)) 0 P (postC (w.heap.size+1) w.heap.size busy Ms Old W1 (I Ms (k+1)) (fun c=>Ix c Ms)) a₁ W)
 (hdone: ∀Ms W,I Ms xs.length W->W.heap[w.heap.size]? =some (.deferred (some []))->w.heap.size<W.heap.size->Q .normal {a with defers:={target:= .collected w.heap.size,args:= #[]}::a.defers} W)
 (hstop: ∀c Ms W,Ix c Ms W->W.heap[w.heap.size]? =some (.deferred (some []))->w.heap.size<W.heap.size->c.wpIn Fence.wide n P Q {a with defers:={target:= .collected w.heap.size,args:= #[]}::a.defers} W):
 (Code.rangeFunc g ps assign body).wpIn Fence.wide n P Q a w:=by
 refine wpIn_rangeFunc ?_;intro fn _;obtain⟨rec,ι⟩: ∃rec:LoopState->Option Code->Loop,rec=fun st pe=>{state:=st,pending:=pe,fn,tmps:=a.tmps,params:=ps,assign,body,defers:=w.heap.size}:=⟨_,rfl⟩;obtain⟨W1,ν⟩: ∃W1,(w.alloc (.deferred (some []))).alloc (.loop (rec .ready none))=W1:=⟨_,rfl⟩;have hL1:W1.heap[w.heap.size+1]? =some (.loop (rec .ready none)):=zb9;have hK1:W1.heap[w.heap.size]? =some (.deferred (some [])):=by
  rw[<-ν];exact(aT _ _ _ ϕ).trans (World.alloc_heap_new w _)
 refine⟨w.heap.size+1,[{target:= .collected w.heap.size,args:= #[]}],W1,{target:= .fn (.func gf) lb,args:= #[.func (.yield (w.heap.size+1)) #[] #[]]},W1,gf,
  #[.func (.yield (w.heap.size+1)) #[] #[]]++lb,W1,?_,?_,fun _ _=>trivial,?_,(fun h=>by cases h),callsIn_wide.2 ?_⟩
 ·rw[<-ν,ι];exact run_enterLoop_outer _ _ _ _ _
 ·simp only[resolve,hg];simp[go_sem]
 ·simp[invoke,go_sem,eg]
 ·refine(hseq (w.heap.size+1)
   (fun Ms s W=>(w.heap.size+1∉Ms/\w.heap.size∉Ms)/\W.heap[w.heap.size]? =some (.deferred (some []))/\
     match s with
     |some k=>I Ms k W/\W.heap[w.heap.size+1]? =some (.loop (rec .ready none))
     |none=> ∃c,Ix c Ms W/\W.heap[w.heap.size+1]? =some (.loop (rec .done (some c)))) W1 ?_ ?_ ?_ ?_).mono ?_
  ·exact zb8
  ·exact zaK
  ·rintro Ms k v W hk ⟨⟨Υ,hm2⟩,hd,hi,hl⟩ hEl;have uM:w.heap.size+1<W.heap.size:=(aN.1 hl).1;have hy:=run_yield (P:=P) (args:=v) hl (by rw[ι];simp[hps _ _ _ _ hEl]);exact zai
  ·exact zcb
  ·exact zaL
end Go.RG
end

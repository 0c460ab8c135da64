/-
  Texts of this claim, packed by a program: WC WD WE.
-/
import Derived.WalkKit
import Derived.WalkLawsBesides
import Derived.WalkSpells
import Derived.Outline
import Derived.Handy
import Derived.KernelRfl
import Derived.Lib.Hide
import Derived.Deep.MidRow
import Derived.Laws.StructEq
import Derived.Maps.AppendAt
import Derived.WalkMore
import Derived.Deep.LoopGhost
import Derived.OwnWalkIn
import Derived.Test.YthllkbbbapgelaaGreatDoorPN5
import Derived.Test.YthllkbbbapgelaaGreatDoorPN9
set_option maxHeartbeats 8000000
set_option maxRecDepth 100000
set_option linter.all false
theorem _root_.zaO {P:Prop} (h:P:=by
 have GY:=aS HV.out.2.1;have ω:=wL.out.apart;refine⟨⟨?_,?_,fun m hm h0 mP=>?_,by have:=vH.out.2.2.2;omega⟩,hF9,?_⟩
 ·exact(Θ _ ϑ (fun e=>by have:=GY _ e;omega) ϑ).trans vH.out.2.1
 ·exact(Θ _ ϑ (fun e=>by have:=GY _ e;omega) ϑ).trans vH.out.2.2.1
 ·exact(Θ m (by have:=vH.out.2.2.2;omega) (fun e=>(HV.out.2.2 m e).1 hm) (fun e=>(ω (w.heap.size+2) ϕ).1 (by rw[<-e];exact hm))).trans (vH.out.1 m hm h0 mP)
 ·rw[uZ.out,zQ.out];exact PK.out▸hP9):P:=h
theorem _root_.zbX {P:Prop} (h:P:=by
 refine(Y7.block b ϗ (fun e=>?_)).trans ((aT _ _ _ ϑ).trans (gP.out.block b uY ϕ));have:=GY b e.symm;omega):P:=h
theorem _root_.zcj {P:Prop} (h:P:=by
 refine az (Ms:=[]) (w:=W8) ?_ (Ext.ax ((aF _ _).alloc (ah _) _)) ϕ;simpa using HOW.out):P:=h
theorem _root_.za2 {P:Prop} (h:P:=by
 refine⟨i+1,by omega,by go_num,?_⟩;rw[heq,nV];have Β:=lT (az (Ms:=[]) uT.o gP.o ϕ) Zn (wid r9 x);refine⟨_,_,rfl,Β,fun g hg=>by cases hg;exact abY,dP (dP (aV oU.o gP.o.below) FM _) FM _,?_⟩;exact(bV _ _ _ _ (by show b6≠g9;omega)).trans ((bV _ _ _ _ (by show b6≠g9;omega)).trans ((gP.o.block b6 (aN.1 Bb.o).1 ϕ).trans Bb.o))):P:=h
theorem _root_.zbF {P:Prop} (h:P:=by
 rintro e W6 ⟨rfl,ο,Ι⟩;exact⟨_,rfl,rfl,ο,Ι⟩):P:=h
section
namespace Go.SL
open Go.RowKit Go.RG
end Go.SL
namespace Go.Proofs.Z.gZ
open Go.RowKit Go.RG Go.SL Go.Shelf gK
structure uR (w0:World) (mb:Nat) (aZ:Int) (xn:Value) (below fb pb bb ab:Nat) (W:World):Prop where
 ext:Ext [mb] w0 W
 cache:Cache W mb aZ
 found: ∃o n c,W.heap[fb]? =some (.cells #[.slice o n c] 52 (0,0))
 pass:W.heap[pb]? =some (.cells #[xn] 163 (0,0))
 bound:W.heap[bb]? =some (.cells #[iv below] 3 (0,0))
 add:W.heap[ab]? =some (.cells #[.func (.func 149) #[] #[.pointer (some ⟨fb,0,none⟩),.pointer (some ⟨pb,0,none⟩),.pointer (some ⟨bb,0,none⟩),.pointer (some ⟨ab,0,none⟩)]] 252 (0,0))
 new:w0.heap.size<=fb/\w0.heap.size<=pb/\w0.heap.size<=bb/\w0.heap.size<=ab
 old:mb<w0.heap.size
theorem uR.table {w0 W W':World} {mb:Nat} {aZ:Int} {xn:Value} {below fb pb bb ab:Nat} (h:uR w0 mb aZ xn below fb pb bb ab W) (hE:Ext [mb] W W') (hc:Cache W' mb aZ):uR w0 mb aZ xn below fb pb bb ab W':=by
 have hn:=h.new;have ho:=h.old;obtain⟨o,n,c,hf⟩:=h.found;have k: ∀(b:Nat) (x:Obj),W.heap[b]? =some x->w0.heap.size<=b->W'.heap[b]? =some x:=fun b x hb hle=>(hE.block b (aN.1 hb).1 ϗ).trans hb;exact⟨h.ext.trans hE,hc,⟨o,n,c,k _ _ hf hn.1⟩,k _ _ h.pass hn.2.1,k _ _ h.bound hn.2.2.1,k _ _ h.add hn.2.2.2,hn,ho⟩
theorem uR.below {w0 W W':World} {mb:Nat} {aZ:Int} {xn:Value} {below fb pb bb ab:Nat} (h:uR w0 mb aZ xn below fb pb bb ab W) (hB:Ϙ W W'):uR w0 mb aZ xn below fb pb bb ab W':=
 h.table (Ext.ax hB) (h.cache.kept (hB.block mb h.cache.lt))
end Go.Proofs.Z.gZ
namespace Go.Proofs.Z.gZ
open Go.RowKit Go.RG Go.SL Go.Shelf gK
def aap (w0:World) (mb:Nat) (aZ:Int) (xn:Value) (below fb pb bb ab:Nat) (r:Option (List Int)) (W:World) (e:Ending) (W':World):Prop:=
 (uR w0 mb aZ xn below fb pb bb ab W'/\Ext [mb,fb] W W')/\((∃c,r=some c/\e= .returned (.bool true)/\ ∃sv,W'.heap[fb]? =some (.cells #[sv] 52 (0,0))/\aL W' sv c)∨(r=none/\e= .returned (.bool false)))
theorem uR.set {w0 W:World} {mb:Nat} {aZ:Int} {xn:Value} {below fb pb bb ab:Nat} (h:uR w0 mb aZ xn below fb pb bb ab W) (hd:fb≠pb/\fb≠bb/\fb≠ab) (o:Option Addr) (n c:Nat):uR w0 mb aZ xn below fb pb bb ab (W.setCell ⟨fb,0,none⟩ (.slice o n c)):=by
 have hn:=h.new;have ho:=h.old;obtain⟨o',n',c',hf⟩:=h.found;exact⟨h.ext.set hn.1 _,h.cache.kept (bV _ _ _ _ (by show mb≠fb;omega)),⟨o,n,c,aA hf _⟩,
  (bV _ _ _ _ (by show pb≠fb;omega)).trans h.pass,(bV _ _ _ _ (by show bb≠fb;omega)).trans h.bound,(bV _ _ _ _ (by show ab≠fb;omega)).trans h.add,hn,ho⟩
theorem uR.not {w0 W:World} {mb:Nat} {aZ:Int} {xn:Value} {below fb pb bb ab:Nat} (h:uR w0 mb aZ xn below fb pb bb ab W): ∀x∈[mb,fb], ∀o n,W.cell? ⟨x,o,none⟩≠some (.int .i64 n):=by
 intro x hx o n hc;obtain⟨o',n',c',hf⟩:=h.found;rcases eQ.1 hx with rfl|hx
 ·rw[h.cache.kV o] at hc;cases hc
 ·obtain rfl:x=fb:=by simpa using hx
  simp only[World.cell?,hf] at hc;cases o with
  |zero=>simp at hc
  |succ o=>simp at hc
theorem Z5 (below:Nat) (χ:below<=500) (p:List Int->Bool) (mb:Nat) (aZ:Int) (w0:World) (pf:Nat) (nN jI:Array Value) (fb pb bb ab:Nat) (hd:fb≠pb/\fb≠bb/\fb≠ab)
 (eg: Ϛ Tryz.prog pf)
 (tJ: ∀l v W,Ext [mb] w0 W->Cache W mb aZ->aL W v l->Ϝ pf (nN.push v++jI) W (fun e W'=>e= .returned (.bool (p l))/\Cache W' mb aZ/\Ext [mb] W W')):
 ∀(m f:Nat) (l:List Int) (v:Value) (W:World),l.length+m<=900->f<=900->m<=900->uR w0 mb aZ (.func (.func pf) nN jI) below fb pb bb ab W->aL W v l->
  Ϝ 149 #[v,iv f,iv m,.pointer (some ⟨fb,0,none⟩),.pointer (some ⟨pb,0,none⟩),.pointer (some ⟨bb,0,none⟩),.pointer (some ⟨ab,0,none⟩)] W
   (aap w0 mb aZ (.func (.func pf) nN jI) below fb pb bb ab (((iQ below m f).map (l++ ·)).find? p) W):=by
 intro m;induction m with
 |zero=>
  intro f l v W h1 h2 h3 Y6 hv;have μ:((iQ below 0 f).map (l++ ·)).find? p=if p l then some l else none:=zcc;obtain⟨r,hr⟩: ∃r,((iQ below 0 f).map (l++ ·)).find? p=r:=⟨_,rfl⟩;rw[hr] at μ⊢;have vG:=aa μ;clear hr μ;obtain⟨o,c,rfl⟩:=hv.open;obtain⟨o',n',c',hf⟩:=Y6.found;have c1:=aD hf;have c2:=aD Y6.pass;have uM:=dB W _ c1;have hfr:=bn hf 0;have hS:=Y6.set hd o l.length c;have Η:aL (W.setCell ⟨fb,0,none⟩ (.slice o l.length c)) (.slice o l.length c) l:=aL.rQ hv ((jo W ⟨fb,0,none⟩ _).more (jc:=[mb,fb]) ϕ) Y6.not;have HC:=aa (tJ l _ _ hS.ext hS.cache Η);have HS:=aa Y6;have Jz:=aa (af hS Η);have HF:=aa hf;have hd1: ¬pb=fb:=fun e=>hd.1 e.symm;have hd2:=hd.1;clear tJ Y6 hv hS Η hf;go_enter Tryz.func149,Tryz.ntmps149;go_wp2_with fail
  refine HC.o.mono ?_;rintro e W' ⟨rfl,ο,hE⟩;have hS2:=Jz.o.1.table hE ο;have hn:=HS.o.new;have ho:=HS.o.old;have hfb:W'.heap[fb]? =some (.cells #[.slice o l.length c] 52 (0,0)):=(hE.block fb (by simpa [World.setCell] using uM) ϗ).trans (aA HF.o _);have hEE:Ext [mb,fb] W W':=((jo W ⟨fb,0,none⟩ (.slice o l.length c)).more ϕ).trans (hE.more ϕ);have Τ:aL W' (.slice o l.length c) l:=aL.rQ Jz.o.2 (hE.more (jc:=[mb,fb]) ϕ) Jz.o.1.not;exact zbd
 |succ m ih=>
  intro f l v W h1 h2 h3 Y6 hv;obtain⟨o,c,rfl⟩:=hv.open;have μ:((iQ below (m+1) f).map (l++ ·)).find? p=((List.range (below-m-f)).flatMap fun j=>(iQ below m (f+j+1)).map ((l++[((f+j:Nat):Int)])++ ·)).find? p:=by
   conv=>lhs;unfold iQ
   rw[List.map_flatMap];simp only[List.map_map];congr 2;funext j;apply List.map_congr_left;intro x _;simp
  rw[μ];clear μ;obtain⟨r,hr⟩: ∃r,((List.range (below-m-f)).flatMap fun j=>(iQ below m (f+j+1)).map ((l++[((f+j:Nat):Int)])++ ·)).find? p=r:=⟨_,rfl⟩;rw[hr];have vG:=aa hr;clear hr;have hmm:(m:Int)+1<=900:=ϑ;have hm0:((m:Int)+1==0)=false:=by simp;omega
  have ajf: ¬((m:Int)+1=0):=ϑ;rw[show(((m+1:Nat)):Int)=(m:Int)+1 from by omega];have π:=aa Y6;have HV:=aa hv;have Uk:=aa ih;have HD:=aa hd;clear tJ Y6 hv ih hd;go_enter Tryz.func149,Tryz.ntmps149;go_wp2_with fail
  go_loopw [11] (fun i wr=> ∃q:Nat,f<=q/\q<=f+(below-m-f)/\i= .int .i64 q/\uR w0 mb aZ (.func (.func pf) nN jI) below fb pb bb ab wr/\Ext [mb,fb] W wr/\
   (∀j,f+j<q->((iQ below m (f+j+1)).map ((l++[((f+j:Nat):Int)])++ ·)).find? p=none)) (fun i _=>below+f+1-(intOf i).toNat)
  case atStart=>exact⟨f,ah _,by omega,rfl,π.o,Ext.refl _ _,fun j hj=>ϑ⟩
  case round=>
   obtain⟨q,hfq,hq,rfl,Y6,hE,IB⟩:=hrel;have hv:=aL.rQ HV.o hE π.o.not;have d1:=aD Y6.bound;have d2:=aD Y6.add;have e1:=dB wr _ d1;have e2:=dB wr _ d2;have HS:=aa Y6;have HE:=aa hE;have HN:=aa IB;have HVV:=aa hv;clear Y6 hE IB hv;by_cases uM:q<f+(below-m-f)
   ·have hqI:(q:Int)<=(below:Int)-((m:Int)+1):=ϑ;have hq9:(q:Int)<=500:=ϑ;go_wp2_with fail
    refine og 10 [] (some 5) [(2,⟨fun _ v=> ∃o c,v= .slice o l.length c,fun _ _ _=>True⟩),(4,⟨fun _ v=> ∃b:Nat,v= .slice (some ⟨b,0,none⟩) 1 1,fun _ _ _=>True⟩),(5,⟨fun _ v=> ∃o c,v= .slice o (l.length+1) c,fun _ v W=>W.ownsRow wr.heap.size 3 1 v (l.length+1) (ag (l++[(q:Int)]))⟩)] (aeb wr.heap.size l.length l q) ϰ ϰ ?_;simp only[zt];repeat (refine zd ?_;simp only[zp])
    refine jG _ ϱ ϱ (by exact⟨.slice none l.length 0,none,0,rfl⟩) (fun W1 hE hF hG=>?_) (fun _ _ _ _ _=>trivial) (fun v Wa Wb ho hE=>az (Ms:=[]) ho hE ϕ) (fun v hv=>?_)
    ·exact zbq
    obtain⟨o2,c2,rfl⟩:=hv;simp only[zp];repeat (refine zd ?_;simp only[zp])
    refine jG _ ϱ ϱ (by exact⟨.slice (some ⟨0,0,none⟩) 1 1,0,rfl⟩) (fun W1 hE hF hG=>?_) (fun _ _ _ _ _=>trivial) (fun v Wa Wb ho hE=>?_) (fun v hv=>?_)
    ·exact zbC
    ·exact zct
    obtain⟨b4,rfl⟩:=hv;simp only[zp];refine jG _ ϱ ϱ (by exact⟨.slice none (l.length+1) 0,none,0,rfl⟩) (fun W1 hE hF hG=>?_) (fun v Wa Wb ho hE=>az (Ms:=[]) ho hE ϕ) (fun _ _ _ _ _=>trivial) (fun v hv=>?_)
    ·exact zaN
    obtain⟨o5,c5,rfl⟩:=hv;simp only[zp];repeat (refine zn ?_;simp only[zp])
    intro W1 hE1 hF;have Iq:rJ wr.heap.size [] wr W1:=hE1;have hB:=nT Iq (ah _);obtain⟨hc,hf⟩:=bH hB;have ho:W1.ownsRow wr.heap.size 3 1 (.slice o5 (l.length+1) c5) (l.length+1) (ag (l++[(q:Int)])):=hF _ (aW _);have sH:aL W1 (.slice o5 (l.length+1) c5) (l++[(q:Int)]):=by
     have:=aH.bY ho;unfold aL;rw[cu];exact this
    have qY:=Uk.o (q+1) (l++[(q:Int)]) _ W1 ϗ ϑ ϑ (HS.o.below hB) sH;exact zaz
   ·exact zbm
end Go.Proofs.Z.gZ
namespace Go.Proofs.Z.gZ
open Go.RowKit Go.RG Go.SL Go.Shelf gK
def acW (mb:Nat) (aZ:Int) (r:Option (List Int)) (w:World) (e:Ending) (W':World):Prop:=
 (Cache W' mb aZ/\Ext [mb] w W')/\((∃c v,r=some c/\e= .returned (.tuple #[v,.bool true])/\aL W' v c)∨(r=none/\ ∃o n c,e= .returned (.tuple #[.slice o n c,.bool false])))
theorem uR.fin {w0 W:World} {mb:Nat} {aZ:Int} {xn:Value} {below fb pb bb ab:Nat} (h:uR w0 mb aZ xn below fb pb bb ab W):Cache W mb aZ/\Ext [mb] w0 W:=⟨h.cache,h.ext⟩
theorem Iu (below:Nat) (χ:below<=500) (p:List Int->Bool) (mb:Nat) (aZ:Int) (w:World) (ο:Cache w mb aZ) (pf:Nat) (nN jI:Array Value)
 (eg: Ϛ Tryz.prog pf)
 (tJ: ∀l v W,Ext [mb] w W->Cache W mb aZ->aL W v l->Ϝ pf (nN.push v++jI) W (fun e W'=>e= .returned (.bool (p l))/\Cache W' mb aZ/\Ext [mb] W W')):
 Ϝ 92 #[iv below,.func (.func pf) nN jI] w (acW mb aZ (lG below p) w):=by
 have hmb:=ο.lt;have HA:=aa (fun(m:Nat) (W:World) (hm:m<=501) (Y6:uR w mb aZ (.func (.func pf) nN jI) below (w.heap.size+1+1) (w.heap.size+1) w.heap.size (w.heap.size+1+1+1) W)=>
  Z5 below χ p mb aZ w pf nN jI (w.heap.size+1+1) (w.heap.size+1) w.heap.size (w.heap.size+1+1+1) ϑ eg tJ m 0 [] (.slice none 0 0) W ϗ ϑ ϑ Y6 (oJ W))
 obtain⟨r,hr⟩: ∃r,lG below p=r:=⟨_,rfl⟩;rw[hr];have HR:=aa hr;have HCC:=aa ο;clear tJ eg ο hr;go_enter Tryz.func92,Tryz.ntmps92;go_wp2_with fail
 go_step3
 go_wp2_with fail
 go_step3
 go_wp2_with fail
 obtain⟨w4,kY⟩: ∃w4,((((w.alloc (.cells #[iv below] 3)).alloc (.cells #[.func (.func pf) nN jI] 163)).alloc (.cells #[.slice none 0 0] 52)).alloc
  (.cells #[.func (.func 149) #[] #[.pointer (some ⟨w.heap.size+1+1,0,none⟩),.pointer (some ⟨w.heap.size+1,0,none⟩),.pointer (some ⟨w.heap.size,0,none⟩),.pointer (some ⟨w.heap.size+1+1+1,0,none⟩)]] 252))=w4:=⟨_,rfl⟩
 have VK:uR w mb aZ (.func (.func pf) nN jI) below (w.heap.size+1+1) (w.heap.size+1) w.heap.size (w.heap.size+1+1+1) w4:=by
  have hB:Ϙ w w4:=by rw[<-kY];exact zl
  refine⟨Ext.ax hB,HCC.o.kept (hB.block mb hmb),⟨none,0,0,?_⟩,?_,?_,?_,by omega,hmb⟩
  ·exact zbR
  ·exact zbz
  ·exact za6
  ·rw[<-kY];have:=av (((w.alloc (.cells #[iv below] 3)).alloc (.cells #[.func (.func pf) nN jI] 163)).alloc (.cells #[.slice none 0 0] 52)) (.cells #[.func (.func 149) #[] #[.pointer (some ⟨w.heap.size+1+1,0,none⟩),.pointer (some ⟨w.heap.size+1,0,none⟩),.pointer (some ⟨w.heap.size,0,none⟩),.pointer (some ⟨w.heap.size+1+1+1,0,none⟩)]] 252);simpa using this
 rw[kY];have HS0:=aa VK;clear VK kY;go_loopw [5,11] (fun b i wr=> ∃k:Nat,k<=below+1/\b= .bool false/\i= .int .i64 k/\uR w mb aZ (.func (.func pf) nN jI) below (w.heap.size+1+1) (w.heap.size+1) w.heap.size (w.heap.size+1+1+1) wr/\
  (∀j,j<k->(iQ below j 0).find? p=none)) (fun _ i _=>below+1-(intOf i).toNat)
 case atStart=>exact⟨0,bE _,rfl,rfl,HS0.o,fun j hj=>ϑ⟩
 case round=>
  obtain⟨k,hk,rfl,rfl,Y6,IB⟩:=hrel;have d2:=aD Y6.add;have e2:=dB wr _ d2;have HS:=aa Y6;have HN:=aa IB;clear Y6 IB;by_cases uM:k<below+1
  ·have hkI:(k:Int)<(below:Int)+1:=ϑ;have HC:=aa (HA.o k wr ϑ HS.o);go_wp2_with fail
   refine HC.o.mono ?_;rintro e W2 ⟨⟨hS2,_⟩,μ⟩;have HS2:=aa hS2;rcases μ with⟨cc,ο,rfl,sv,hsv,sH⟩|⟨hnone,rfl⟩
   ·have hr:r=some cc:=by
     rw[<-HR.o];exact Gl ϑ HN.o (by simpa using ο)
    obtain⟨so,sc,rfl⟩:=sH.open;have f1:=aD hsv;have f2:=bn hsv 0;have f3:=dB W2 _ f1;have HX:=aa (af hr (af hsv sH));clear hr hsv sH hS2 ο d2;go_wp2_with fail
    (try rw[Exit.noGoto_ret])
    have Q7:(W2.setCell ⟨w.heap.size+1+1,0,none⟩ (.slice so cc.length sc)).cell? ⟨w.heap.size+1+1,0,none⟩=some (.slice so cc.length sc):=aD (aA HX.o.2.1 _);refine bodyPost_ret (v:= .tuple #[.slice so cc.length sc,.bool true]) (by simp[results,Tryz.results92,go_sem,Q7]) rfl ?_;refine⟨(HS2.o.set ϑ so cc.length sc).fin,.inl ⟨cc,_,HX.o.1,rfl,?_⟩⟩;exact aL.rQ HX.o.2.2 ((jo W2 ⟨w.heap.size+1+1,0,none⟩ _).more (jc:=[mb,w.heap.size+1+1]) ϕ) HS2.o.not
   ·have HX:=aa hnone;clear hnone hS2 d2;go_wp2_with fail
    go_roundw
    case rel=>
     refine⟨k+1,by omega,rfl,by go_num,HS2.o,fun j hj=>?_⟩;by_cases hjq:j=k
     ·subst hjq;simpa using HX.o
     ·exact HN.o j ϑ
    case measure=>simp[intOf];omega
  ·have hkI: ¬((k:Int)<(below:Int)+1):=ϑ;obtain⟨o',n',c',hf⟩:=HS.o.found;have f1:=aD hf;have f2:=bn hf 0;have f3:=dB wr _ f1;have hk1:k=below+1:=ϑ;subst hk1;have hr:r=none:=by
    rw[<-HR.o];exact Gj HN.o
   go_wp2_with fail
   (try rw[Exit.noGoto_ret])
   have Q7:(wr.setCell ⟨w.heap.size+1+1,0,none⟩ (.slice o' n' c')).cell? ⟨w.heap.size+1+1,0,none⟩=some (.slice o' n' c'):=aD (aA hf _);refine bodyPost_ret (v:= .tuple #[.slice o' n' c',.bool false]) (by simp[results,Tryz.results92,go_sem,Q7]) rfl ?_;exact⟨(HS.o.set ϑ o' n' c').fin,.inr ⟨rfl,_,_,_,rfl⟩⟩
end Go.Proofs.Z.gZ
namespace Go.Proofs.Z.gZ
open Go.RowKit Go.RG Go.SL Go.Shelf gK
attribute [local go_sem] Oper.semAt_some
theorem UI:fU Tryz.prog 174 178 (.agg #[iv 0,iv 0,iv 0,iv 0,iv 0,iv 0,iv 0,iv 0,iv 0,iv 0]) 10 80:=⟨Tryz.underlying174,by kernel_rfl,rfl,by omega⟩
structure Evr (w:World) (wb:Nat) (tv:Value) (ls:List (List Int)) (Ms:List Nat) (W:World):Prop where
 b0:W.heap[w.heap.size]? =some (.cells #[.pointer (some ⟨wb,0,none⟩)] 170 (0,0))
 b1:W.heap[w.heap.size+1]? =some (.cells #[tv] 52 (0,0))
 out: ∃v,W.heap[w.heap.size+1+1]? =some (.cells #[v] 174 (0,0))/\W.ownsRow (w.heap.size+7) 178 10 v ls.length (ls.flatMap ag)/\ ∀g,v.ownBlock=some g->g∉Ms/\g<W.heap.size
 b3:W.heap[w.heap.size+1+1+1]? =some (.cells #[.pointer (some ⟨wb,0,none⟩)] 170 (0,0))
 b4:W.heap[w.heap.size+1+1+1+1]? =some (.cells #[.slice none 0 0] 52 (0,0))
theorem Evr.kept {w:World} {wb:Nat} {tv:Value} {ls:List (List Int)} {Ms jc:List Nat} {W W':World} (h:Evr w wb tv ls Ms W) (hs:W.heap.size<=W'.heap.size) (hk: ∀b,w.heap.size<=b->b<w.heap.size+5->W'.heap[b]? =W.heap[b]?)
 (ho: ∀g,w.heap.size+7<=g->g<W.heap.size->g∉Ms->W'.heap[g]? =W.heap[g]?) (hM: ∀m∈jc,m∈Ms∨(W.heap.size<=m/\m<W'.heap.size)):Evr w wb tv ls jc W':=by
 obtain⟨v,h1,h2,h3⟩:=h.out;refine⟨(hk _ ϑ ϑ).trans h.b0,(hk _ ϑ ϑ).trans h.b1,⟨v,(hk _ ϑ ϑ).trans h1,bT h2 fun g hg=>ho g (aS h2 g hg).1 (aS h2 g hg).2 (h3 g hg).1,fun g hg=>⟨fun hm=>?_,by have:=(h3 g hg).2;omega⟩⟩,
  (hk _ ϑ ϑ).trans h.b3,(hk _ ϑ ϑ).trans h.b4⟩
 exact zbo
def adD (ls:List (List Int)) (mb:Nat) (aZ:Int) (w:World) (e:Ending) (w':World):Prop:=
 ∃v,e= .returned v/\w'.ownsRow w.heap.size 178 10 v ls.length (ls.flatMap ag)/\Cache w' mb aZ/\Ext [mb] w w'
theorem yK {h:bS} (hS:Sound h) {out:List Int} {t:Int×List Int} (ht:t∈dH h out):t.2.length=h.bJ.length/\(0<=t.1/\t.1<=500)/\ ∀x∈t.2,0<=x/\x<=20:=by
 unfold dH at ht;obtain⟨x,hx,rfl⟩:=gW.1 ht;obtain⟨s,rest,rfl,h1,h2,h3⟩:=Dm hS (List.mem_filter.1 hx).1;exact⟨h1,h2,h3⟩
theorem Qv {w W7 W8 W9:World} {wb mb:Nat} {aZ:Int} {tv v v':Value} {ls:List (List Int)} {ys:List Int} {Os Ms:List Nat} {obj:Obj} (hF:Fr w mb aZ Os Ms W7) (hP:Evr w wb tv ls Ms W7)
 (Η:W7.heap[w.heap.size+1+1]? =some (.cells #[v] 174 (0,0))) (hv3: ∀g,v.ownBlock=some g->(w.heap.size+7<=g/\g<W7.heap.size)/\g∉Ms)
 (hE:Ext [] W7 W8) (hG:(W8.alloc obj).grownBy W9 v.ownBlock) (hN:v'.ownBlock=v.ownBlock∨v'.ownBlock=some (W8.heap.size+1)) (hO:W9.ownsRow (w.heap.size+7) 178 10 v' (ls.length+1) (ls.flatMap ag++ag ys))
 (hmb:mb<w.heap.size) (hs:w.heap.size+7<=W7.heap.size):
 (Fr w mb aZ Os Ms (W9.setCell ⟨w.heap.size+1+1,0,none⟩ v')/\Evr w wb tv (ls++[ys]) Ms (W9.setCell ⟨w.heap.size+1+1,0,none⟩ v'))/\
   (∀b,b<W7.heap.size->v.ownBlock≠some b->b≠w.heap.size+2->(W9.setCell ⟨w.heap.size+1+1,0,none⟩ v').heap[b]? =W7.heap[b]?)/\W7.heap.size<=(W9.setCell ⟨w.heap.size+1+1,0,none⟩ v').heap.size:=by
 have h1:=hE.size;have h2:=hG.size;simp only[bA] at h2;have hk: ∀b,b<W7.heap.size->v.ownBlock≠some b->W9.heap[b]? =W7.heap[b]? :=fun b hb hn=>
  (hG.block b ϗ (fun e=>hn e.symm)).trans ((aT _ _ _ ϑ).trans (hE.block b hb ϕ))
 have Θ: ∀b,b<W7.heap.size->v.ownBlock≠some b->b≠w.heap.size+2->(W9.setCell ⟨w.heap.size+1+1,0,none⟩ v').heap[b]? =W7.heap[b]? :=fun b hb hn hne=>
  (bV _ _ _ _ (by show b≠w.heap.size+1+1;omega)).trans (hk b hb hn)
 have hlow: ∀b,b<w.heap.size+7->v.ownBlock≠some b:=fun b hb e=>by have:=(hv3 b e).1.1;omega
 have τ:W7.heap.size<=(W9.setCell ⟨w.heap.size+1+1,0,none⟩ v').heap.size:=by simp[World.setCell];omega
 refine⟨⟨hF.own ⟨hG.os.trans (hE.os.trans hF.ext.os),hG.tape.trans (hE.tape.trans hF.ext.tape),hG.output.trans (hE.output.trans hF.ext.output),by have:=hF.ext.size;omega,fun k Χ hm=>(Θ k ϑ (hlow k ϑ) ϑ).trans (hF.ext.block k Χ hm)⟩ τ (hF.cache.kept (Θ mb ϑ (hlow mb ϑ) ϑ)),?_⟩,Θ,τ⟩;have hb:=aS hO;refine⟨(Θ _ ϑ (hlow _ ϑ) ϑ).trans hP.b0,(Θ _ ϑ (hlow _ ϑ) ϑ).trans hP.b1,⟨v',?_,?_,fun g hg=>⟨fun hm=>?_,by have:=(hb g hg).2;simpa [World.setCell] using this⟩⟩,(Θ _ ϑ (hlow _ ϑ) ϑ).trans hP.b3,(Θ _ ϑ (hlow _ ϑ) ϑ).trans hP.b4⟩
 ·exact aA ((hk _ ϑ (hlow _ ϑ)).trans Η) _
 ·rw[cu,sw];have:[ys].flatMap ag=ag ys:=ϕ;rw[this];exact bT hO fun g hg=>bV _ _ _ _ (by have:=(hb g hg).1;show g≠w.heap.size+1+1;omega)
 ·rcases hN with hN|hN
  ·exact(hv3 g (by rw[<-hN,hg])).2 hm
  ·rw[hg] at hN;injection hN with hN;have:=hF.bnd g hm;omega
theorem G8 (h:bS) (hS:Sound h) (a b c tv:Value) (turns:List Int) (wb mb:Nat) (w:World) (hw:gN w wb mb h a b c) (h1:bD w a h.bJ) (h2:aL w b h.turns) (h3:aU w c h.readings) (h4:aL w tv turns):
 Ϝ 77 #[.pointer (some ⟨wb,0,none⟩),tv] w (adD (iL h turns) mb h.aZ w):=by
 obtain⟨ot,ct,rfl⟩:=h4.open;have HW:=aa hw;have H1:=aa h1;have H2:=aa h2;have H3:=aa h3;have H4:=aa h4;have mR:=aa hS;have hmb:=hw.cache.lt;clear hw h1 h2 h3 h4 hS;refine(callsIn_wide (n:=0)).1 ?_;refine callsIn_of_wp_marks Tryz.func77 rfl trivial ?_;simp only[Tryz.ntmps77,List.size_toArray,List.length_cons,List.length_nil,Nat.reduceAdd,Nat.reduceSub,Array.replicate_succ,Array.replicate_zero,jy,jA,List.nil_append,List.cons_append]
 gi_wp2_with fail
 refine(callsIn_wide.2 (xQ wb _ _ _ _)).mono ?_;rintro e w1 ⟨rfl,rfl⟩
 gi_wp2_with fail
 obtain⟨w2,hw2⟩: ∃w2,(((((w.alloc (.cells #[.pointer (some ⟨wb,0,none⟩)] 170)).alloc (.cells #[.slice ot turns.length ct] 52)).alloc (.cells #[.slice none 0 0] 174)).alloc (.cells #[.pointer (some ⟨wb,0,none⟩)] 170)).alloc (.cells #[.slice none 0 0] 52))=w2:=⟨_,rfl⟩;have hB2:Ϙ w w2:=by rw[<-hw2];exact zl
 have hsz2:w2.heap.size=w.heap.size+5:=by rw[<-hw2];simp
 have hP2:Evr w wb (.slice ot turns.length ct) [] [mb] w2:=by
  rw[<-hw2];have n3:=av (((w.alloc (.cells #[.pointer (some ⟨wb,0,none⟩)] 170)).alloc (.cells #[.slice ot turns.length ct] 52)).alloc (.cells #[.slice none 0 0] 174)) (.cells #[.pointer (some ⟨wb,0,none⟩)] 170);have n4:=dm (((w.alloc (.cells #[.pointer (some ⟨wb,0,none⟩)] 170)).alloc (.cells #[.slice ot turns.length ct] 52)).alloc (.cells #[.slice none 0 0] 174)) (.cells #[.pointer (some ⟨wb,0,none⟩)] 170) (.cells #[.slice none 0 0] 52);simp only[bA] at n3 n4;refine⟨?_,?_,⟨.slice none 0 0,?_,⟨rfl,.inl ⟨rfl,rfl⟩⟩,fun g hg=>by cases hg⟩,?_,n4⟩
  ·exact(aT _ _ _ (by first|omega|(simp;done)|(simp;omega))).trans ((aT _ _ _ (by first|omega|(simp;done)|(simp;omega))).trans ((aT _ _ _ (by first|omega|(simp;done)|(simp;omega))).trans ((aT _ _ _ (by first|omega|(simp;done)|(simp;omega))).trans (av _ _))))
  ·exact(aT _ _ _ (by first|omega|(simp;done)|(simp;omega))).trans ((aT _ _ _ (by first|omega|(simp;done)|(simp;omega))).trans ((aT _ _ _ (by first|omega|(simp;done)|(simp;omega))).trans (dm _ _ _)))
  ·exact(aT _ _ _ (by first|omega|(simp;done)|(simp;omega))).trans ((aT _ _ _ (by first|omega|(simp;done)|(simp;omega))).trans (fM _ _ _ _))
  ·exact(aT _ _ _ (by first|omega|(simp;done)|(simp;omega))).trans n3
 rw[hw2];clear hw2;refine kQ (xP h mR.out a b c (.slice none 0 0) [] wb mb (w.heap.size+1+1+1) (w.heap.size+1+1+1+1)) rfl (enters_of Tryz.func144 ϰ rfl) rfl ϗ
  (fun Ms k W=>Fr w mb h.aZ [w.heap.size,w.heap.size+1,w.heap.size+2,w.heap.size+3,w.heap.size+4,w.heap.size+5,w.heap.size+6] Ms W/\Evr w wb (.slice ot turns.length ct) (iC h turns k) Ms W)
  (fun _ _ _=>False)
  ?hInv ?nk ?hI ?hIx ?FP ?qN ?h0
  (fun a Ms k W1 a₁ W=> ∃(t:Int×List Int) (ob bt:Nat),(dH h [])[k]? =some t/\a₁={tmps:=(a.tmps.setIfInBounds 9 (.agg #[iv t.1,.slice (some ⟨ob,1,none⟩) t.2.length t.2.length])).setIfInBounds 5 (.pointer (some ⟨bt,0,none⟩)),defers:=[]}/\
    (Fr w mb h.aZ [w.heap.size,w.heap.size+1,w.heap.size+2,w.heap.size+3,w.heap.size+4,w.heap.size+5,w.heap.size+6] Ms W/\Evr w wb (.slice ot turns.length ct) (iC h turns k) Ms W)/\
    (W.heap[bt]? =some (.cells #[iv t.1,.slice (some ⟨ob,1,none⟩) t.2.length t.2.length] 208 (0,0))/\(w.heap.size+7<=bt/\ob∈Ms/\ob≠mb)/\aL W (.slice (some ⟨ob,1,none⟩) t.2.length t.2.length) t.2)/\(∀m∈Ms,m∉[mb]->m<W1.heap.size->W.heap[m]? =W1.heap[m]?)/\W1.heap.size<=W.heap.size)
  ?Jd ?hassign ?hbody ?hdone ?hstop
 case hInv=>rintro Ms k W ⟨hF,hP⟩;exact hF.Yn HW.out H1.out H2.out H3.out (oJ w) hP.b3 hP.b4
 case nk=>rintro cd Ms W h;exact h.elim
 case hI=>
  rintro Ms jc k Wa Wb ⟨hF,hP⟩ hE η hc;refine⟨(hF.gL hE η hc).1,hP.kept hE.size (fun b h1 h2=>(hF.gL hE η hc).2 b ϗ) (fun g h1 h2 h3=>hE.block g h2 h3) η⟩
 case hIx=>rintro cd Ms jc Wa Wb h;exact h.elim
 case FP=>
  rintro Ms k W r o ⟨hF,hP⟩ hr;exact⟨hF.put o ϑ hmb,hP.kept ϕ (fun b h1 h2=>World.putObj_heap_other ϑ) (fun g h1 h2 h3=>World.putObj_heap_other ϑ) (fun m hm=> .inl hm)⟩
 case qN=>rintro cd Ms W r o h;exact h.elim
 case h0=>
  intro o o';have hB:Ϙ w ((w2.alloc o).alloc o'):=ai (ai hB2 _) _;refine⟨⟨Ext.ax hB,fun m hm=> .inl (by simpa using hm),fun m hm=>(by have:=hB.size;simp at hm;omega),fun b hb=>⟨by simp at hb⊢;omega,by simp at hb⊢;omega⟩,HW.out.cache.kept (hB.block mb hmb)⟩,
   hP2.kept ϗ (fun b h1 h2=>(aT _ _ _ ϗ).trans (aT _ _ _ ϑ)) (fun g h1 h2 h3=>ϑ) (fun m hm=> .inl hm)⟩
 case Jd=>
  rintro Ms k W1 a₁ W o ⟨t,ob,bt,ht,ha,⟨hF,hP⟩,⟨hbt,⟨uY,xu,hne⟩,Y5⟩,hk,hs⟩;have ω:=(hF.apart (w.heap.size+6) ϕ).1;refine⟨t,ob,bt,ht,ha,⟨hF.put o ϑ hmb,hP.kept ϕ (fun b h1 h2=>World.putObj_heap_other ϑ) (fun g h1 h2 h3=>World.putObj_heap_other ϑ) (fun m hm=> .inl hm)⟩,
   ⟨(World.putObj_heap_other ϑ).trans hbt,⟨uY,xu,hne⟩,Y5.kept fun b off n c hv _=>by cases hv;exact World.putObj_heap_other (fun e=>ω (by rw[show w.heap.size+6=ob by omega];exact xu))⟩,
   fun m hm h0 mP=>(World.putObj_heap_other (fun e=>ω (by rw[show w.heap.size+6=m by omega];exact hm))).trans (hk m hm h0 mP),by simpa using hs⟩
 case hassign=>
  rintro Ms k v W hk ⟨hF,hP⟩ ⟨ob,rfl,Y5,xu,hne⟩ uM;generalize ht:(dH h [])[k]=t at*
  have htk:(dH h [])[k]? =some t:=by rw[dn hk,ht]
  gi_wp2
  have hB:Ϙ W (W.alloc (.cells #[iv t.1,.slice (some ⟨ob,1,none⟩) t.2.length t.2.length] 208)):=ai (aF _ _) _;have hc:=hF.cache.kept (hB.block mb hF.cache.lt);exact⟨⟨t,ob,W.heap.size,htk,rfl,⟨(hF.gL (Ext.ax hB) (fun m hm=> .inl hm) hc).1,hP.kept ϕ (fun b h1 h2=>aT _ _ _ ϑ) (fun g h1 h2 h3=>aT _ _ _ ϑ) (fun m hm=> .inl hm)⟩,
   ⟨av _ _,⟨by omega,xu,hne⟩,Y5.alloc _⟩,fun m hm h0 mP=>aT _ _ _ ϑ,by simp⟩,aT _ _ _ ϑ,aT _ _ _ ϑ⟩
 case hbody=>
  rintro Ms k W1 a₁ W busy hk ⟨t,ob,bt,ht,rfl,⟨hF,hP⟩,⟨hbt,⟨uY,xu,hne⟩,Y5⟩,Oa,τ⟩ ι hD;simp only[nC,List.set_cons_succ,List.set_cons_zero];have htm:t∈dH h []:=lg ht;obtain⟨hl2,hs0,hrest⟩:=yK mR.out htm;have hlast:=mR.out.zb;have hwl:=mR.out.Cv;have c0:=aD hP.b0;have c1:=aD hP.b1;have k0:=dB W _ c0;have k1:=dB W _ c1;have kt:=(aN.1 hbt).1;have hg: ∀i,W.cell? ⟨bt,i,none⟩=(#[iv t.1,.slice (some ⟨ob,1,none⟩) t.2.length t.2.length]:Array Value)[i]? :=fun i=>by
   simp only[World.cell?,hbt];rfl
  have aaA:gN W wb mb h a b c:=HW.out.ext hF.ext hF.cache;have GX:aL W (.slice ot turns.length ct) turns:=H4.out.fq hF.ext (fun x hx o=>by
   obtain rfl:x=mb:=by simpa using hx
   exact HW.out.cache.kV o)
  have aox:=hF.cache.lt;have Ug:=aa (sS h a b c wb mb t.1 t.2 turns _ _ W aaA Y5 GX ϑ mR.out.J5 mR.out.J4 mR.out.LC mR.out.LB hs0.1 hs0.2 hrest);obtain⟨ys,hy⟩: ∃ys,jZ h (t.1,t.2) turns=ys:=⟨_,rfl⟩;have Du:ys.length=10:=by rw[<-hy];exact jK _ _ _ _ _ _
  rw[hy] at Ug;have HY:=aa hy;have HT:=aa (af ht hk);have HF:=aa hF;have HP:=aa hP;have HK:=aa (af Oa (af ι hD));have HTV:=aa GX;clear hF hP Oa ι hD hbt Y5 GX aaA hy ht hrest htm;rw[hl2] at Ug
  gi_wp2_with fail
  refine(CallsIn.inRound _ (callsIn_wide.2 Ug.out)).mono ?_;rintro e W6 ⟨rfl,ο,hE⟩;have hyl:(ag ys).length=10:=by simp[ag,Du]
  simp only[kz];obtain⟨W7,Y6,ZX,oL⟩:=vN Tryz.prog ys (av W6 (.cells #[iv 0,iv 0,iv 0,iv 0,iv 0,iv 0,iv 0,iv 0,iv 0,iv 0] 178)) (by rw[Du];rfl);have Iq:Ext [mb] W W7:=AP (hE.alloc _) oL hE.size;have afM:Cache W7 mb h.aZ:=ο.kept ((oL.block mb (by have:=ο.lt;first|(simp;done)|(simp;omega)) (by have:=ο.lt;first|(simp;done)|(simp;omega))).trans (aT _ _ _ ο.lt))
  have Yb:=HF.out.own (HF.out.ext.trans Iq) Iq.size afM;have ω:=HF.out.apart;have Ou:Evr w wb (.slice ot turns.length ct) (iC h turns k) Ms W7:=HP.out.kept Iq.size (fun b h1 h2=>Iq.block b (ω b (by first|omega|(simp;done)|(simp;omega))).2 (by first|omega|(simp;done)|(simp;omega))) (fun g h1 h2 h3=>Iq.block g h2 (by first|omega|(simp;done)|(simp;omega))) (fun m hm=> .inl hm)
  have hkp: ∀m∈Ms,m∉[mb]->m<W1.heap.size->W7.heap[m]? =W1.heap[m]? :=fun m hm h0 mP=>(Iq.block m ϑ h0).trans (HK.out.1 m hm h0 mP);have ι:=(Iq.block _ (ω (w.heap.size+6) ϕ).2 (by first|omega|(simp;done)|(simp;omega))).trans (show W.heap[w.heap.size+6]? =some (.loop busy) from by rw[show w.heap.size+6=w2.heap.size+1 by omega];exact HK.out.2.1)
  have hD:=(Iq.block _ (ω (w.heap.size+5) ϕ).2 (by first|omega|(simp;done)|(simp;omega))).trans (show W.heap[w.heap.size+5]? =some (.deferred (some [])) from by rw[<-hsz2];exact HK.out.2.2)
  have hs7:W1.heap.size<=W7.heap.size:=by have:=Iq.size;omega
  have hw7:w.heap.size+7<=W7.heap.size:=by have:=Iq.size;omega
  obtain⟨v,Η,Τ,hv3⟩:=Ou.out;obtain⟨vo,vc,rfl⟩:=aM Τ;have d1:=aD Η;have d2:=bn Η 0;have d3:=dB W7 _ d1;have d4:=(aN.1 ZX).1;have hln:(iC h turns k).length<=2000:=by have:=BH h turns k;have:=vL mR.out [];have:=HT.out.2;omega
  have KZ:=BG (h:=h) (turns:=turns) (k:=k);have hsucc:iC h turns (k+1)=kg (iC h turns k) ys:=by
   rw[zA HT.out.2, <-HY.out];have:=HT.out.1;rw[dn HT.out.2] at this;injection this with this;rw[this]
  have uZ:=aa hsucc;have wL:=aa Yb;have QO:=aa Ou;have vH:=aa (af hkp (af ι (af hD hs7)));have HV:=aa (af Η (af Τ hv3));have HB:=aa ZX;have XK:=aa KZ;generalize iC h turns k=ls at*
  clear Yb Ou hkp ι hD ω Η Τ hv3 ZX oL Iq afM hE ο KZ hsucc hg c0 c1
  gi_wp2_with fail
  rcases(List.eq_nil_or_concat ls).imp id (fun⟨A,z,e⟩=>(⟨A,z,e.trans (List.concat_eq_append)⟩: ∃A z,ls=A++[z])) with rfl|⟨A,z,rfl⟩
  ·simp only[List.length_nil] at d1 HV;refine dG 13 [] none [] ϰ ϰ ϰ ?_;simp only[zt];repeat ((first|refine zd ?_|refine zk ?_);simp only[zp])
   have PK:Hid (kg [] ys=[]++[ys]):=aa (by simp[kg]);intro W8 eT Sy;have hE:Ext [] W7 W8:=eT;obtain⟨hc,hf⟩:=bH hE.below;have hz8:=hE.size;have tN:=HB.out;obtain⟨y0,y1,y2,y3,y4,y5,y6,y7,y8,y9,Ε⟩:=Af Du;rw[Ε] at tN;have yn: ∀i,W7.cell? ⟨W6.heap.size,i,none⟩=(#[iv y0,iv y1,iv y2,iv y3,iv y4,iv y5,iv y6,iv y7,iv y8,iv y9]:Array Value)[i]? :=fun i=>by
    simp only[World.cell?,tN];rfl
   have hz9:W6.heap.size<W8.heap.size:=ϑ;have tK:=az (Ms:=[]) HV.out.2.1 hE ϕ;have gP:=aa hE;have HOW:=aa tK;have zQ:=aa Ε;clear hE eT Sy tN tK Ε
   gi_wp2_with (gi_at_builtin;go_loud (refine lY (fun _=>trivial) rfl oP rfl _ _ UI rfl (w.heap.size+7) (.slice vo 0 vc) 0 (List.flatMap ag []) rfl ?_ (.slice (some ⟨W8.heap.size,0,none⟩) 1 1) 1 (ag [y0,y1,y2,y3,y4,y5,y6,y7,y8,y9]) rfl ?_ (ic _) ϑ ϑ ϗ ?_))
   ·exact zcj
   ·exact aH.bI 10 1 (av _ _) rfl ϖ
   ·intro v' W9 Gm Y7 Ψ;obtain⟨o9,c9,rfl⟩:=aM Gm;have uT:=aa Gm;have HG9:=aa Y7;have HN9:=aa Ψ;have GY:=aS HV.out.2.1;have nO: ∀b,b<w.heap.size+7->b<W7.heap.size->W9.heap[b]? =W7.heap[b]? :=fun b hb uY=>by
     exact zbX
    have hc9:=hc;have KX:W8.heap.size<W9.heap.size:=by have:=Y7.size;simp at this;omega
    have e1:W9.cell? ⟨w.heap.size+1+1,0,none⟩=some (.slice vo 0 vc):=aD ((nO _ ϑ d3).trans HV.out.1);have e2:W9.frozen? ⟨w.heap.size+1+1,0,none⟩=false:=bn ((nO _ ϑ d3).trans HV.out.1) 0;have e3:=dB W9 _ e1;have Bb:=aa nO;clear Gm Y7 Ψ nO hc9 yn hc hf GY
    gi_wp2_with fail
    rw[zQ.out] at PK;obtain⟨⟨hF9,hP9⟩,Θ,Oe⟩:=Qv (ls:=[]) (ys:=[y0,y1,y2,y3,y4,y5,y6,y7,y8,y9]) wL.out QO.out HV.out.1 (fun g hg=>⟨aS HV.out.2.1 g hg,(HV.out.2.2 g hg).1⟩) gP.out HG9.out HN9.out (by simpa using uT.out) hmb hw7;exact zaO
  ·have KX:=XK.out z ϕ;obtain⟨gb,gc,hvv,hgb,Om,I1⟩:=Am (A:=A) (z:=z) (by simpa using HV.out.2.1) (fun x hx=>XK.out x (by simp[hx])) KX;have hcap:vo=some ⟨gb,0,none⟩:=by simp at hvv;exact hvv.1
   subst hcap;have hzl:(ag z).length=10:=by simp[ag,KX]
   have hyr:=vR HB.out;(try simp only[cu,List.length_cons,List.length_nil,Nat.zero_add] at d1)
   (try simp only[cu,List.length_cons,List.length_nil,Nat.zero_add] at HV)
   (try simp only[cu,List.length_cons,List.length_nil,Nat.zero_add] at hln)
   have hAI:((A.length:Int)+1==0)=false:=by simp;omega
   have Ca: ¬((A.length:Int)+1=0):=ϑ;have hA1:((A.length:Int)+1).toNat=A.length+1:=ϑ;have hAm:(A.length:Int)+1-1=A.length:=ϑ;rcases hq:(z==ys) with _|_
   ·have PK:Hid (kg (A++[z]) ys=(A++[z])++[ys]):=aa (by
     unfold kg;rw[ak];simp only[List.getLast?_append,List.getLast?_singleton];intro e;simp at e;subst e;simp at hq)
    refine dG 13 [] none [] ϰ ϰ ϰ ?_;simp only[zt];repeat ((first|refine zn ?_|refine zk ?_);simp only[zp])
    refine eY ϱ (.pointer (some ⟨gb,A.length*10,none⟩)) ϱ (fun W hW=>by go_simp;(try simp(disch:=omega) only[IntWalk.i64_in]);(try rw[aG ϑ]);(try simp);(try (intro hx;exfalso;omega))) ?_
    simp only[zp];refine eY ϱ (.agg (ag z).toArray) ϱ (fun W hW=>jw 178 _ ϱ gb (A.length*10) ϱ (ag z) _ (fun j u hj=>(hW gb _ Om ϕ).trans (I1 j u hj)) Tryz.underlying178 rfl (by rw[hzl];kernel_rfl)) ?_;simp only[zp];refine eY ϱ (.agg (ag ys).toArray) ϱ (fun W hW=>jw 178 _ ϱ W6.heap.size 0 ϱ (ag ys) _ (fun j u hj=>(hW W6.heap.size _ d4 ϕ).trans (hyr j u hj)) Tryz.underlying178 rfl (by rw[hyl];kernel_rfl)) ?_;simp only[zp];refine eY ϱ (.bool true) ϱ (fun W hW=>(lW 178 3 _ 10 _ _ ϱ Tryz.underlying178 Tryz.underlying3 (by intro w;go_simp) ϰ z ys ϱ ϱ KX Du).trans (by rw[hq];rfl)) ?_;simp only[zp];repeat ((first|refine zd ?_|refine zk ?_);simp only[zp])
    intro W8 eT Sy;have hE:Ext [] W7 W8:=eT;obtain⟨hc,hf⟩:=bH hE.below;have hz8:=hE.size;have tN:=HB.out;obtain⟨y0,y1,y2,y3,y4,y5,y6,y7,y8,y9,Ε⟩:=Af Du;rw[Ε] at tN;have yn: ∀i,W7.cell? ⟨W6.heap.size,i,none⟩=(#[iv y0,iv y1,iv y2,iv y3,iv y4,iv y5,iv y6,iv y7,iv y8,iv y9]:Array Value)[i]? :=fun i=>by
     simp only[World.cell?,tN];rfl
    have hz9:W6.heap.size<W8.heap.size:=ϑ;have tK:=az (Ms:=[]) HV.out.2.1 hE ϕ;have gP:=aa hE;have HOW:=aa tK;have zQ:=aa Ε;clear hE eT Sy tN tK Ε
    gi_wp2_with (gi_at_builtin;go_loud (refine lY (fun _=>trivial) rfl oP rfl _ _ UI rfl (w.heap.size+7) (.slice (some ⟨gb,0,none⟩) (A.length+1) vc) (A.length+1) (List.flatMap ag (A++[z])) rfl ?_ (.slice (some ⟨W8.heap.size,0,none⟩) 1 1) 1 (ag [y0,y1,y2,y3,y4,y5,y6,y7,y8,y9]) rfl ?_ (ic _) ϑ ϑ ϗ ?_))
    ·exact zcj
    ·exact aH.bI 10 1 (av _ _) rfl ϖ
    ·intro v' W9 Gm Y7 Ψ;obtain⟨o9,c9,rfl⟩:=aM Gm;have uT:=aa Gm;have HG9:=aa Y7;have HN9:=aa Ψ;have GY:=aS HV.out.2.1;have nO: ∀b,b<w.heap.size+7->b<W7.heap.size->W9.heap[b]? =W7.heap[b]? :=fun b hb uY=>by
      exact zbX
     have hc9:=hc;have KX:W8.heap.size<W9.heap.size:=by have:=Y7.size;simp at this;omega
     have e1:W9.cell? ⟨w.heap.size+1+1,0,none⟩=some (.slice (some ⟨gb,0,none⟩) (A.length+1) vc):=aD ((nO _ ϑ d3).trans HV.out.1);have e2:W9.frozen? ⟨w.heap.size+1+1,0,none⟩=false:=bn ((nO _ ϑ d3).trans HV.out.1) 0;have e3:=dB W9 _ e1;have Bb:=aa nO;clear Gm Y7 Ψ nO hc9 yn hc hf GY
     gi_wp2_with fail
     rw[zQ.out] at PK;obtain⟨⟨hF9,hP9⟩,Θ,Oe⟩:=Qv (ls:=(A++[z])) (ys:=[y0,y1,y2,y3,y4,y5,y6,y7,y8,y9]) wL.out QO.out HV.out.1 (fun g hg=>⟨aS HV.out.2.1 g hg,(HV.out.2.2 g hg).1⟩) gP.out HG9.out HN9.out (by simpa using uT.out) hmb hw7;exact zaO
   ·obtain rfl:z=ys:=by simpa using hq
    have PK:Hid (kg (A++[z]) z=A++[z]):=aa (by
     unfold kg;rw[aG];simp)
    refine dG 13 [] none [] ϰ ϰ ϰ ?_;simp only[zt];repeat ((first|refine zn ?_|refine zk ?_);simp only[zp])
    refine eY ϱ (.pointer (some ⟨gb,A.length*10,none⟩)) ϱ (fun W hW=>by go_simp;(try simp(disch:=omega) only[IntWalk.i64_in]);(try rw[aG ϑ]);(try simp);(try (intro hx;exfalso;omega))) ?_
    simp only[zp];refine eY ϱ (.agg (ag z).toArray) ϱ (fun W hW=>jw 178 _ ϱ gb (A.length*10) ϱ (ag z) _ (fun j u hj=>(hW gb _ Om ϕ).trans (I1 j u hj)) Tryz.underlying178 rfl (by rw[hzl];kernel_rfl)) ?_;simp only[zp];refine eY ϱ (.agg (ag z).toArray) ϱ (fun W hW=>jw 178 _ ϱ W6.heap.size 0 ϱ (ag z) _ (fun j u hj=>(hW W6.heap.size _ d4 ϕ).trans (hyr j u hj)) Tryz.underlying178 rfl (by rw[hzl];kernel_rfl)) ?_;simp only[zp];refine eY ϱ (.bool false) ϱ (fun W hW=>(lW 178 3 _ 10 _ _ ϱ Tryz.underlying178 Tryz.underlying3 (by intro w;go_simp) ϰ z z ϱ ϱ KX KX).trans ϕ) ?_;simp only[zp];repeat ((first|refine zd ?_|refine zk ?_);simp only[zp])
    intro W8 eT Sy;have hE:Ext [] W7 W8:=eT;obtain⟨hc,hf⟩:=bH hE.below;have hz8:=hE.size;have gP:=aa hE;clear hE eT Sy
    gi_wp2_with fail
    have ω:=wL.out.apart;refine⟨⟨?_,?_,fun m hm h0 mP=>?_,by have:=vH.out.2.2.2;omega⟩,(wL.out.gL (gP.out.nil) (fun m hm=> .inl hm) (wL.out.cache.kept (gP.out.block mb wL.out.cache.lt ϕ))).1,?_⟩
    ·exact(gP.out.block _ (ω (w.heap.size+6) ϕ).2 ϕ).trans vH.out.2.1
    ·exact(gP.out.block _ (ω (w.heap.size+5) ϕ).2 ϕ).trans vH.out.2.2.1
    ·exact(gP.out.block m (by have:=vH.out.2.2.2;omega) ϕ).trans (vH.out.1 m hm h0 mP)
    ·rw[uZ.out,PK.out];exact QO.out.kept gP.out.size (fun b h1 h2=>gP.out.block b ϑ ϕ) (fun g h1 h2 h3=>gP.out.block g h2 ϕ) (fun m hm=> .inl hm)
 case hdone=>
  rintro Ms W ⟨hF,hP⟩ hD uM;rw[wD] at hP;obtain⟨v,Η,Τ,hv3⟩:=hP.out;obtain⟨vo,vc,rfl⟩:=aM Τ;have hc:=aD Η;have hf:=bn Η 0;have hk:=dB W _ hc;have HF:=aa hF;have HV:=aa (af Η Τ);clear hF hP Η Τ hv3
  gi_wp2_with fail
  rw[hsz2] at hD;have hD':(W.setCell ⟨w.heap.size+1+1,0,none⟩ (.slice vo (iL h turns).length vc)).heap[w.heap.size+5]? =some (.deferred (some [])):=(bV _ _ _ _ (by show w.heap.size+5≠w.heap.size+1+1;omega)).trans hD;have Q7:((W.setCell ⟨w.heap.size+1+1,0,none⟩ (.slice vo (iL h turns).length vc)).putObj (w.heap.size+5) (.deferred none)).cell? ⟨w.heap.size+1+1,0,none⟩=some (.slice vo (iL h turns).length vc):=
   aD ((World.putObj_heap_other ϑ).trans (aA HV.out.1 _))
  refine⟨by simp,.inl ⟨_,_,rfl,run_takeDeferred hD',?_⟩⟩;have hF2:=(HF.out.own (HF.out.ext.set (p:=⟨w.heap.size+1+1,0,none⟩) (by show w.heap.size<=w.heap.size+1+1;omega) (.slice vo (iL h turns).length vc)) (by simp[World.setCell]) (HF.out.cache.kept (bV _ _ _ _ (by show mb≠w.heap.size+1+1;omega)))).put (Obj.deferred none) (r:=w.heap.size+5) ϑ hmb;refine⟨.slice vo (iL h turns).length vc,by simp[results,Tryz.results77,go_sem,Q7],_,rfl,?_,hF2.cache,hF2.ext⟩;refine bK (bT HV.out.2 fun g hg=>(World.putObj_heap_other ?_).trans (bV _ _ _ _ ?_)) ϑ
  ·have:=(aS HV.out.2 g hg).1;omega
  ·have:=(aS HV.out.2 g hg).1;show g≠w.heap.size+1+1;omega
 case hstop=>rintro cd Ms W h;exact h.elim
def adE (R:List dF) (mb:Nat) (aZ:Int) (w:World) (e:Ending) (w':World):Prop:=
 ∃v,e= .returned v/\w'.ownsRow w.heap.size 50 2 v R.length (aB R)/\Cache w' mb aZ/\Ext [mb] w w'
theorem yC (h:bS) (hS:Sound h) (a b c tv:Value) (turns:List Int) (wb mb:Nat) (w:World) (hw:gN w wb mb h a b c) (h1:bD w a h.bJ) (h2:aL w b h.turns) (h3:aU w c h.readings) (h4:aL w tv turns):
 Ϝ 76 #[.pointer (some ⟨wb,0,none⟩),tv] w (adE (pY (h.last+1).toNat (iL h turns)) mb h.aZ w):=by
 have HEV:=aa (G8 h hS a b c tv turns wb mb w hw h1 h2 h3 h4);obtain⟨oa,ca,rfl⟩:=h1.open;obtain⟨ob,cb,rfl⟩:=h2.open;obtain⟨oc,cc,rfl⟩:=h3.open;obtain⟨ot,ct,rfl⟩:=h4.open;have HW:=aa hw;have mR:=aa hS;have hl0:=hS.GN;have Zj:=hS.zb;obtain⟨n,hn⟩: ∃n:Nat,h.last+1=n:=⟨(h.last+1).toNat,by omega⟩;have KZ:=Ep (h:=h) (turns:=turns);have IY:(iL h turns).length<=2000:=eU (OA h turns) (vL hS []);rw[hn,Int.toNat_natCast];generalize iL h turns=ls at*
 clear hw h1 h2 h3 h4 hS;go_enter Tryz.func76,Tryz.ntmps76;go_wp2_with fail
 refine HEV.o.mono ?_;rintro e w1 ⟨v,rfl,Gm,ο,hE⟩;obtain⟨vo,vc,rfl⟩:=aM Gm;have HO:=aa Gm;have HC:=aa ο;have HE:=aa hE;clear Gm ο hE;go_wp2_with fail
 have hws:=HW.o;go_loopw [4,12] (fun o u wr=> ∃k:Nat,k<=ls.length/\u= .int .i64 k/\ ∃oo GH,o= .slice oo (bB n ls k).length GH/\wr.ownsRow w1.heap.size 50 2 (.slice oo (bB n ls k).length GH) (bB n ls k).length (aB (bB n ls k))/\Ϙ w1 wr)
  (fun _ u _=>ls.length-(intOf u).toNat)
 case atStart=>exact⟨0,bE _,rfl,none,0,rfl,⟨rfl,.inl ⟨rfl,rfl⟩⟩,aF _ _⟩
 case round=>
  obtain⟨k,hk,rfl,oo,GH,rfl,σ,hB⟩:=hrel;by_cases uM:k<ls.length
  ·have aaG:=KZ ls[k] (bZ uM);obtain⟨g0,c0,hv0,hg0,hr0⟩:=YR HO.o KZ uM;have hvo:vo=some ⟨g0,0,none⟩:=by simp at hv0;exact hv0.1
   subst hvo;have hr1:wr.rangeAt g0 (k*10) (ag ls[k]):=fun j u hj=>(hB.cell (p:=⟨g0,k*10+j,none⟩) hg0).trans (hr0 j u hj);have ajh:ls.getD k []=ls[k]:=by simp[List.getD,uM]
   generalize ls[k]=ys at*
   obtain⟨W2,Y6,ZX,Ι⟩:=vN Tryz.prog ys (av wr (.cells #[iv 0,iv 0,iv 0,iv 0,iv 0,iv 0,iv 0,iv 0,iv 0,iv 0] 178)) (by rw[aaG];rfl);have hyl:(ag ys).length=10:=by simp[ag,aaG]
   have hB2:Ϙ wr W2:=(Ext.below (AP ((Ext.ax (aF _ _)).alloc _) Ι (ah _)));have abL:gN W2 wb mb h (.slice oa h.bJ.length ca) (.slice ob h.turns.length cb) (.slice oc h.readings.length cc):=(HW.o.ext HE.o HC.o).below (aV hB hB2) (ah _);have c2:=abL.cell;have c3:=abL.lt;have oK:(k:Int)<ls.length:=ϑ;have hkn:((k:Int)).toNat=k:=ϑ;have HB:=aa hB;have Uy:=aa hB2;have HK:=aa ZX;have HOW:=aa σ;clear hws hB hB2 ZX σ abL Ι hr0;go_wp2_with (refine wpList_load_mid rfl 178 _ rfl g0 (k*10) rfl (ag ys) _ hr1 Tryz.underlying178 rfl (by rw[hyl];kernel_rfl) ?_)
   refine(I6 h _ _ _ n _ hl0 Zj hn).mono ?_;rintro e W3 ⟨rfl,hb⟩;have ζ:=aa (aV Uy.o hb);have hk3:W3.heap[wr.heap.size]? =some (.cells (ag ys).toArray 178 (0,0)):=(hb.block _ (aN.1 HK.o).1).trans HK.o;have Bc:=aa hk3;clear hb hk3 c2 c3 Y6 hr1;go_wp2_with fail
   have Sj:n<=10:=ϑ;have hR:k≠0->(bB n ls k).length=n:=nz n ls k;have hR0:k=0->bB n ls k=[]:=fun e=>by subst e;rfl
   have H3:=aa (show _/\_/\_/\_ from af (az (Ms:=[]) HOW.o (Ext.ax ζ.o) ϕ) (af (fun g (hg:(Value.slice oo (bB n ls k).length GH).ownBlock=some g)=>(show g≠wr.heap.size from by have:=(aS HOW.o g hg).2;omega)) (af (aV HB.o ζ.o) Bc.o)))
   clear HB Uy ζ HOW HK Bc;generalize wr.heap.size=b6 at*
   go_loopw [4,22] (fun o u wq=> ∃i:Nat,i<=n/\u= .int .i64 i/\ ∃oo GH,o= .slice oo (dV n k (bB n ls k) ys i).length GH/\wq.ownsRow w1.heap.size 50 2 (.slice oo (dV n k (bB n ls k) ys i).length GH) (dV n k (bB n ls k) ys i).length (aB (dV n k (bB n ls k) ys i))/\
    (∀g,(Value.slice oo (dV n k (bB n ls k) ys i).length GH).ownBlock=some g->g≠b6)/\Ϙ w1 wq/\wq.heap[b6]? =some (.cells (ag ys).toArray 178 (0,0)))
    (fun _ u _=>n-(intOf u).toNat)
   case atStart=>
    refine⟨0,bE _,rfl,?_⟩;rw[Nz hR hR0];exact⟨oo,GH,rfl,H3.o⟩
   case round=>
    obtain⟨i,hi,rfl,oo3,Vh,rfl,σ,hne,hB,ZX⟩:=hrel;by_cases hin:i<n
    ·have Zo:i<ys.length:=ϑ;have Q7:=fD ZX Zo;have hgx:ys.getD i 0=ys[i]:=by simp[List.getD,Zo]
     have hkb:=(aN.1 ZX).1;have hiI:(i:Int)<10:=ϑ;have aoQ:(i:Int)<n:=ϑ;have hiN:((i:Int)).toNat=i:=ϑ;generalize xq:ys[i]=x at Q7 hgx;have HX:=aa hgx;have HOI:=aa σ;have Ie:=aa hne;have XT:=aa hB;have HKQ:=aa ZX;clear hgx σ hne hB ZX xq;rcases Nat.eq_zero_or_pos k with hk0|hk0
     ·have afx:((k:Int)==0)=true:=by simpa using hk0
      have afc:(dV n k (bB n ls k) ys i).length=i:=by rw[hk0];exact qF _ _ _ _
      have happ:dV n k (bB n ls k) ys i++[(x,x)]=dV n k (bB n ls k) ys (i+1):=by rw[hk0, <-HX.o];exact Ru
      have hlen1:(dV n k (bB n ls k) ys (i+1)).length=i+1:=by rw[hk0];exact qF _ _ _ _
      have HAP:=aa happ;have HK0:=aa hk0;have TT:=aa (af afc hlen1);clear happ hk0 afc hlen1;go_wp2_with fail
      clear afx;refine zg 9 [] none [(8,Spec.slice wr.heap.size #[iv x,iv x] 50 1)] ?_;simp only[zt];repeat (refine zd ?_;simp only[zp])
      refine cB wr.heap.size _ _ _ ϱ (ah _) ϱ ϕ ϕ (fun W hW=>by go_simp;try rfl) (fun b8=>?_);simp only[zp];intro W5 BD Ov;have pV:Ext [] wr W5:=BD;obtain⟨QC,tN,Sv,mQ⟩:=Ov _ (aW _);cases tN;obtain⟨hc,hf⟩:=bH pV.below;have hz5:=pV.size;have Ih:=aa pV;have TU:=aa mQ;have hown5:=az (Ms:=[]) HOI.o pV ϕ;have akN:=aa hown5;have an7:=XT.o.size;clear BD Ov pV mQ hown5;go_wp2_with (at_builtin;go_loud (refine cZ rfl _ _ CJ rfl w1.heap.size (.slice oo3 (dV n k (bB n ls k) ys i).length Vh) (dV n k (bB n ls k) ys i).length (aB (dV n k (bB n ls k) ys i)) rfl akN.o (.slice (some ⟨b8,0,none⟩) 1 1) 1 (aB [(x,x)]) rfl (aH.bI 2 1 TU.o rfl ϖ) (kF _) (by have:=TT.o.1;omega) (by have:=TT.o.1;omega) ϑ ?_))
      intro v' W6 VC mh aaF;have Oi:W6.ownsRow w1.heap.size 50 2 v' (dV n k (bB n ls k) ys (i+1)).length (aB (dV n k (bB n ls k) ys (i+1))):=by
       rw[TT.o.2, <-HAP.o];have e1:aB (dV n k (bB n ls k) ys i++[(x,x)])=aB (dV n k (bB n ls k) ys i)++aB [(x,x)]:=by simp[aB]
       rw[e1];have hl:=TT.o.1;rw[hl] at VC;exact VC
      obtain⟨o6,c6,rfl⟩:=aM Oi;have uT:=aa Oi;have HN9:Hid (∀g,(Value.slice o6 (dV n k (bB n ls k) ys (i+1)).length c6).ownBlock=some g->g≠b6):=aa (fun g hg=>by
       rcases aaF with e|e
       ·rw[hg] at e;exact Ie.o g e.symm
       ·rw[hg] at e;injection e with e;omega)
      have afX:(Value.slice oo3 (dV n k (bB n ls k) ys i).length Vh).ownBlock≠some b6:=fun e=>Ie.o b6 e rfl;have ry: ∀b,b<wr.heap.size->(Value.slice oo3 (dV n k (bB n ls k) ys i).length Vh).ownBlock≠some b->W6.heap[b]? =wr.heap[b]? :=fun b hb hn=>(mh.block b ϑ (fun e=>hn e.symm)).trans (Ih.o.block b hb ϕ);have hs6:=mh.size;have I8:W6.heap[b6]? =some (.cells (ag ys).toArray 178 (0,0)):=(ry b6 hkb afX).trans HKQ.o;have Le:Ϙ w1 W6:=⟨mh.os.trans (Ih.o.os.trans XT.o.os),mh.tape.trans (Ih.o.tape.trans XT.o.tape),mh.output.trans (Ih.o.output.trans XT.o.output),by omega,
       fun b hb=>(ry b ϑ (fun e=>by have:=(aS HOI.o b e).1;omega)).trans (XT.o.block b hb)⟩
      have oU:=aa Le;have Bb:=aa I8;have ajI:W6.cell? ⟨b6,i,none⟩=some (.int .i64 x):=by
       have:=fD I8 Zo;rw[this];have hx:=HX.o;simp only[List.getD,dn Zo,Option.getD_some] at hx;rw[hx]
      have aoJ:=(aN.1 I8).1;clear VC mh aaF Oi afX ry I8 Le hc hf Q7;go_wp2_with fail
      have hlen1:=TT.o.2;have ajC:(dV n k (bB n ls k) ys (i+1)).set i (wid ((dV n k (bB n ls k) ys (i+1)).getD i (0,0)) (ys.getD i 0))=dV n k (bB n ls k) ys (i+1):=by rw[HK0.o];exact NA
      have Zn:i<((dV n k (bB n ls k) ys (i+1))).length:=by first|omega|(rw[sU _ _ _ _ _ hk0];omega)|(simp only[qF,List.length_append,List.length_cons,List.length_nil,nz,sU,ne_eq,hk0,not_false_eq_true];omega)
      (try clear hlen1)
      obtain⟨g9,c9,hv9,FM,ajg,⟨p0,p1⟩,hfz⟩:=mI uT.o Zn;simp only[Value.slice.injEq,true_and] at hv9;obtain⟨rfl,rfl⟩:=hv9;have hgd:((dV n k (bB n ls k) ys (i+1))).getD i (0,0)=((dV n k (bB n ls k) ys (i+1)))[i]:=by simp[List.getD,Zn]
      have abY: ¬g9=b6:=HN9.o g9 rfl;have ajr:(i:Int)<(((dV n k (bB n ls k) ys (i+1))).length:Int):=ϑ;generalize BA:((dV n k (bB n ls k) ys (i+1)))[i]=r9 at p0 p1 hgd;have HGD:=aa hgd;have hf0:=hfz (i*2);have hf1:=hfz (i*2+1);clear hfz BA hgd;refine zg 11 [] none [(9,Spec.val (rv (wid r9 x)))] ?_;simp only[zt];repeat (refine zd ?_;simp only[zp])
      refine dL _ ϱ ϱ 132 _ (fun W hW=>by go_simp;(try simp(disch:=omega) only[IntWalk.i64_in]);try rfl) (fun W hE hF=>by exact F8 r9 x W) ?_
      simp only[zp];repeat (refine zd ?_;simp only[zp])
      intro W8 eT Sy;have Je:Ext [] W6 W8:=eT;obtain⟨hc8,hf8⟩:=bH Je.below;have hz8:=Je.size;have gP:=aa Je;have ab1:g9<W8.heap.size:=ϑ;clear eT Sy Je;go_wp2_with fail
      go_roundw
      case rel=>
       have heq:dV n k (bB n ls k) ys (i+1)=((dV n k (bB n ls k) ys (i+1))).set i (wid r9 x):=by
        rw[<-HX.o, <-HGD.o];exact(ajC).symm
       exact za2
      case measure=>simp[intOf];omega
     ·have aoM: ¬((k:Int)=0):=ϑ;have afx:((k:Int)==0)=false:=by simp;omega
      have hk0':k≠0:=ϑ;replace hk0:k≠0:=ϑ;go_wp2_with fail
      have uT:=HOI;have HN9:=Ie;have oU:=XT;have Bb:=HKQ;have Zn:i<((dV n k (bB n ls k) ys i)).length:=by first|omega|(rw[sU _ _ _ _ _ hk0];omega)|(simp only[qF,List.length_append,List.length_cons,List.length_nil,nz,sU,ne_eq,hk0,not_false_eq_true];omega)
      (try clear hlen1)
      obtain⟨g9,c9,hv9,FM,ajg,⟨p0,p1⟩,hfz⟩:=mI uT.o Zn;simp only[Value.slice.injEq,true_and] at hv9;obtain⟨rfl,rfl⟩:=hv9;have hgd:((dV n k (bB n ls k) ys i)).getD i (0,0)=((dV n k (bB n ls k) ys i))[i]:=by simp[List.getD,Zn]
      have abY: ¬g9=b6:=HN9.o g9 rfl;have ajr:(i:Int)<(((dV n k (bB n ls k) ys i)).length:Int):=ϑ;generalize BA:((dV n k (bB n ls k) ys i))[i]=r9 at p0 p1 hgd;have HGD:=aa hgd;have hf0:=hfz (i*2);have hf1:=hfz (i*2+1);clear hfz BA hgd;refine zg 11 [] none [(9,Spec.val (rv (wid r9 x)))] ?_;simp only[zt];repeat (refine zd ?_;simp only[zp])
      refine dL _ ϱ ϱ 132 _ (fun W hW=>by go_simp;(try simp(disch:=omega) only[IntWalk.i64_in]);try rfl) (fun W hE hF=>by exact F8 r9 x W) ?_
      simp only[zp];repeat (refine zd ?_;simp only[zp])
      intro W8 eT Sy;have Je:Ext [] wr W8:=eT;obtain⟨hc8,hf8⟩:=bH Je.below;have hz8:=Je.size;have gP:=aa Je;have ab1:g9<W8.heap.size:=ϑ;clear eT Sy Je;go_wp2_with fail
      go_roundw
      case rel=>
       have heq:dV n k (bB n ls k) ys (i+1)=((dV n k (bB n ls k) ys i)).set i (wid r9 x):=by
        rw[<-HX.o, <-HGD.o];exact(Rt hk0 hin).symm
       exact za2
      case measure=>simp[intOf];omega
    ·have hin':i=n:=ϑ;subst hin';have hsucc:bB i ls (k+1)=dV i k (bB i ls k) ys i:=by
      show dV i k (bB i ls k) (ls.getD k []) i=_;rw[ajh]
     have HS:=aa (af hsucc (af σ hB));clear hsucc σ hB ZX hne;go_wp2_with fail
     go_roundw
     case rel=>
      refine⟨k+1,by omega,by go_num,?_⟩;rw[HS.o.1];exact⟨_,_,rfl,HS.o.2.1,HS.o.2.2⟩
     case measure=>simp[intOf];omega
  ·have Y9:k=ls.length:=ϑ;subst Y9;have HF:=aa (af σ hB);clear σ hB;go_wp2_with fail
   go_returns;exact⟨_,by simp,bK HF.o.1 (by have:=HE.o.size;omega),HC.o.kept (HF.o.2.block mb HC.o.lt),HE.o.bel HF.o.2⟩
end Go.Proofs.Z.gZ
namespace Go.Proofs.Z.gZ
open Go.RowKit Go.RG Go.SL Go.Shelf gK
def j6 (w:World) (v:Value) (ls:List (List Int)):Prop:=aH 10 w v ls.length (ls.flatMap ag)/\ ∀x∈ls,x.length=10
theorem j6.len {w:World} {v:Value} {ls:List (List Int)} (h:j6 w v ls):ls.length<=9223372036854775807:=aH.len h.1
theorem j6.open {w:World} {v:Value} {ls:List (List Int)} (h:j6 w v ls): ∃o c,v= .slice o ls.length c:=aH.open h.1
theorem j6.below {w w':World} {v:Value} {ls:List (List Int)} (h:j6 w v ls) (hb:Ϙ w w'):j6 w' v ls:=⟨h.1.below hb (ah _),h.2⟩
theorem j6.cell {w:World} {o:Option Addr} {c:Nat} {ls:List (List Int)} (h:j6 w (.slice o ls.length c) ls) {k:Nat} (hk:k<ls.length):
 ∃b off,o=some ⟨b,off,none⟩/\b<w.heap.size/\w.rangeAt b (off+k*10) (ag ls[k]):=by
 obtain⟨⟨hl,o',c',hv,h1,h2,h3,h4⟩,h10⟩:=h;cases hv;cases o with
 |none=>have:=h3 rfl;omega
 |some a=>
  obtain⟨b,off,sp⟩:=a;obtain⟨hs,hc⟩:=h4 _ rfl;simp only at hs hc;subst hs;have hat: ∀j u,(ag ls[k])[j]? =some u->w.cell? ⟨b,off+k*10+j,none⟩=some u:=fun j u hj=>by
   have hj':j<10:=by have:=(iy.1 hj).1;simpa [ag,h10 _ (bZ hk)] using this
   have:=hc (k*10+j) u (by rw[Ei ag 10 ls (fun x hx=>by simp[ag,h10 x hx]) k j hk hj'];exact hj);rw[<-Nat.add_assoc] at this;exact this
  have h0:ls[k].length=10:=h10 _ (bZ hk);have:=hat 0 (iv (ls[k][0]' ϑ)) (by simp[ag]);exact⟨b,off,rfl,dB w _ this,hat⟩
theorem aiM (l:List (List Int)) (v:Value) (bg:Nat) (Nf aP:Array Value) (p:Nat->Bool) (I:Nat->World->Prop) (w:World) (eg: Ϛ Tryz.prog bg)
 (Y5: ∀k W,I k W->j6 W v l)
 (qY: ∀k (hk:k<l.length) W,(∀j,j<k->p j=false)->I k W->Ϝ bg (Nf.push (kz l[k])++aP) W (fun e W'=>e= .returned (.bool (p k))/\I (k+1) W')) (h0:I 0 w):
 Ϝ 138 #[v,.func (.func bg) Nf aP] w (dN l.length p I (fun k=>iv k) (iv (-1))):=by
 have IY:=(Y5 0 w h0).len;have h10:=(Y5 0 w h0).2;obtain⟨o,c,rfl⟩:=(Y5 0 w h0).open;have HC:=aa qY;have HS:=aa Y5;have HT:=aa h10;clear qY Y5 h10;go_enter Tryz.func138,Tryz.ntmps138;go_wp2;go_loopw [4,5,8] (fun _ _ i wr=> ∃k:Nat,k<=l.length/\i= .int .i64 k/\(∀j,j<k->p j=false)/\I k wr) (fun _ _ i _=>l.length-(intOf i).toNat)
 case atStart=>exact⟨0,bE _,rfl,fun j hj=>ϑ,h0⟩
 case round=>
  obtain⟨k,hk,rfl,IB,hI⟩:=hrel;by_cases uM:k<l.length
  ·obtain⟨b,off,rfl,hb,I1⟩:=j6.cell (HS.o k wr hI) uM;have hC:=HC.o k uM wr IB hI;have hyl:(ag l[k]).length=10:=by simp[ag,HT.o _ (bZ uM)]
   have oK:(k:Int)<l.length:=ϑ;have HN:=aa IB;clear IB;generalize l[k]=ys at*
   go_wp2_with (refine wpList_load_mid rfl 178 _ rfl b (off+k*10) rfl (ag ys) _ I1 Tryz.underlying178 rfl (by rw[hyl];kernel_rfl) ?_)
   refine hC.mono ?_;rintro e W1 ⟨rfl,hI1⟩;have HI:=aa hI1;clear hI1 hI hC;cases hp:p k
   ·go_wp2_with fail
    go_roundw
    case rel=>exact⟨k+1,by omega,by go_num,fun j hj=>(by by_cases e:j=k;(subst e;exact hp);exact HN.o j ϑ),HI.o⟩
    case measure=>simp[intOf];omega
   ·go_wp2_with fail
    go_returns;exact⟨k,by omega,HN.o,.inl ⟨uM,hp,by simp,HI.o⟩⟩
  ·exact zam
theorem aaT (l:List (List Int)) (v:Value) (bg:Nat) (Nf aP:Array Value) (p:Nat->Bool) (I:Nat->World->Prop) (w:World) (eg: Ϛ Tryz.prog bg)
 (Y5: ∀k W,I k W->j6 W v l)
 (qY: ∀k (hk:k<l.length) W,(∀j,j<k->p j=false)->I k W->Ϝ bg (Nf.push (kz l[k])++aP) W (fun e W'=>e= .returned (.bool (p k))/\I (k+1) W')) (h0:I 0 w):
 Ϝ 80 #[v,.func (.func bg) Nf aP] w (dN l.length p I (fun _=> .bool true) (.bool false)):=by
 have HI:=aa (aiM l v bg Nf aP p I w eg Y5 qY h0);have IY:=(Y5 0 w h0).len;clear Y5 qY h0 eg;go_enter Tryz.func80,Tryz.ntmps80;exact zac
theorem agQ (x:List Int) (h10:x.length=10) (bx bg:Nat) (Nf aP:Array Value) (b:Bool) (W:World) (R:World->Prop) (eg: Ϛ Tryz.prog bg)
 (hbx:W.cell? ⟨bx,0,none⟩=some (.func (.func bg) Nf aP))
 (qY:Ϝ bg (Nf.push (kz x)++aP) (W.alloc (.cells (ag x).toArray 178)) (fun e W'=>e= .returned (.bool b)/\R W')):
 Ϝ 134 #[kz x,.pointer (some ⟨bx,0,none⟩)] W (fun e W'=>e= .returned (.bool !b)/\R W'):=by
 have uM:=dB W _ hbx;obtain⟨y0,y1,y2,y3,y4,y5,y6,y7,y8,y9,rfl⟩:=Af h10;have HC:=aa qY;clear qY;show Ϝ 134 #[.agg #[iv y0,iv y1,iv y2,iv y3,iv y4,iv y5,iv y6,iv y7,iv y8,iv y9],.pointer (some ⟨bx,0,none⟩)] W _;go_enter Tryz.func134,Tryz.ntmps134;exact zao
theorem Tx (l:List (List Int)) (v:Value) (bg:Nat) (Nf aP:Array Value) (q:List Int->Bool) (w:World) (hv:j6 w v l) (eg: Ϛ Tryz.prog bg)
 (qY: ∀x∈l, ∀W,Ϙ w W->Ϝ bg (Nf.push (kz x)++aP) W (PV (.bool (q x)) W)):
 Ϝ 78 #[v,.func (.func bg) Nf aP] w (PV (.bool (l.all q)) w):=by
 have HI:=aa (aaT l v 134 #[] #[.pointer (some ⟨w.heap.size,0,none⟩)] (fun k=>!q (l.getD k []))
  (fun k W=>Ϙ w W/\W.heap[w.heap.size]? =some (.cells #[.func (.func bg) Nf aP] 179 (0,0))) (w.alloc (.cells #[.func (.func bg) Nf aP] 179))
  (enters_of Tryz.func134 ϰ rfl) (fun k W h=>hv.below h.1)
  (fun k hk W IB h=>by
    have uM:w.heap.size<W.heap.size:=(aN.1 h.2).1;have hgd:l.getD k []=l[k]:=by simp[List.getD,hk]
    rw[hgd];refine(agQ l[k] (hv.2 _ (bZ hk)) w.heap.size bg Nf aP (q l[k]) W (fun W'=>Ϙ w W'/\W'.heap[w.heap.size]? =some (.cells #[.func (.func bg) Nf aP] 179 (0,0))) eg (aD h.2) ?_);refine(qY l[k] (bZ hk) _ (ai h.1 _)).mono ?_;rintro e W' ⟨rfl,hb⟩;refine⟨rfl,aV (ai h.1 _) hb,(hb.block _ ϗ).trans ((aT _ _ _ uM).trans h.2)⟩)
  ⟨ai (aF _ _) _,heap_alloc_new w _⟩)
 have IY:=hv.len;obtain⟨bb,hbb⟩: ∃bb,l.all q=bb:=⟨_,rfl⟩;rw[hbb];have HQ:Hid (((List.range l.length).any fun k=>!q (l.getD k []))=!bb):=aa (by rw[<-hbb, <-iU l q [],List.all_eq_not_any_not];simp);clear qY eg hv hbb;go_enter Tryz.func78,Tryz.ntmps78;go_wp2_with fail
 refine HI.o.mono ?_;clear HI;intro e W' υ;obtain⟨rfl,k,_,hI,_⟩:=υ.all;have HB:=aa hI;rw[HQ.o];clear hI υ;cases bb;all_goals
  go_wp2_with fail
  go_returns;exact⟨by simp,HB.o⟩
theorem OQ (l:List (List Int)) (v:Value) (bg:Nat) (Nf aP:Array Value) (q:List Int->Bool) (w:World) (hv:j6 w v l) (eg: Ϛ Tryz.prog bg)
 (qY: ∀x∈l, ∀W,Ϙ w W->Ϝ bg (Nf.push (kz x)++aP) W (PV (.bool (q x)) W)):
 Ϝ 80 #[v,.func (.func bg) Nf aP] w (PV (.bool (l.any q)) w):=by
 refine(aaT l v bg Nf aP (fun k=>q (l.getD k [])) (fun _ W=>Ϙ w W) w eg (fun k W h=>hv.below h) (fun k hk W _ h=>?_) (aF _ _)).mono ?_
 ·have hgd:l.getD k []=l[k]:=by simp[List.getD,hk]
  rw[hgd];refine(qY l[k] (bZ _) W h).mono ?_;rintro e W' ⟨rfl,hb⟩;exact⟨rfl,aV h hb⟩
 ·intro e W' υ;obtain⟨rfl,k,_,hI⟩:=υ.all;refine⟨?_,hI⟩;have:=iU l (fun x=>!q x) [];have e2:((List.range l.length).any fun k=>q (l.getD k []))=l.any q:=by
   rw[List.any_eq_not_all_not,this,List.any_eq_not_all_not]
  rw[e2];cases l.any q <;>rfl
end Go.Proofs.Z.gZ
namespace Go.Proofs.Z.gZ
open Go.RowKit Go.RG Go.SL Go.Shelf gK
def iV (h:bS) (turns:List Int):List dF:=if iw h turns=0 then pY (h.last+1).toNat (iL h turns) else[]
theorem ql {h:bS} {turns:List Int} (he:iw h turns=0):Sound h:=by
 unfold iw at he;split at he
 ·rename_i hf;exact absurd he hf
 ·rename_i hf;exact CO (by simpa using hf)
theorem Fe (h:bS) (wv tv ru JF:Value) (turns:List Int) (w:World) (hw:bD w wv h.bJ) (ht:aL w tv h.turns) (hx:aU w ru h.readings) (htr:aL w JF turns):
 Ϝ 43 #[hv h wv tv ru,JF] w (fun e w'=> ∃v,e= .returned (.tuple #[v,iv (iw h turns)])/\bD w' v (iV h turns)/\Ϙ w w'):=by
 obtain⟨ow,cw,rfl⟩:=hw.open;obtain⟨ot,ct,rfl⟩:=ht.open;obtain⟨ox,cx,rfl⟩:=hx.open;have HW:=aa hw;have HT:=aa ht;have HX:=aa hx;clear hw ht hx;obtain⟨oq,cq,rfl⟩:=htr.open;have HQ:=aa htr;clear htr;obtain⟨E,hE⟩: ∃E,iw h turns=E:=⟨_,rfl⟩;rw[hE];have HE:=aa hE;clear hE;go_enter Tryz.func43,Tryz.ntmps43;go_wp2_with fail
 refine(tY h _ _ _ _ turns _ (HW.o.alloc _) (HT.o.alloc _) (HX.o.alloc _) (HQ.o.alloc _)).mono ?_;rintro e w1 ⟨hb,⟨hne,rfl⟩|⟨h0,wb,mb,rfl,hwb,hmb,hwk⟩⟩
 ·rw[HE.o] at hne⊢;have HB:=aa hb;clear hb;go_wp2_with fail
  go_returns;exact⟨.slice none 0 0,by simp,by unfold iV;rw[HE.o,ak hne];exact Rv _,aV (ai (aF _ _) _) HB.o⟩
 ·have hE0:E=0:=by rw[<-HE.o];exact h0
  subst hE0;have HB:=aa hb;have hS:=ql h0;have Yg:=aa (yC h hS _ _ _ _ turns wb mb w1 hwk ((HW.o.alloc _).below hb (ah _)) ((HT.o.alloc _).below hb (ah _)) ((HX.o.alloc _).below hb (ah _)) ((HQ.o.alloc _).below hb (ah _)));have Sk:w.heap.size<=mb:=by simp at hmb;omega
  clear hb hwk h0 hS;go_wp2_with fail
  refine Yg.o.mono ?_;rintro e w2 ⟨v,rfl,Gm,ο,Ι⟩;have Uy:=aa (dM (aV (ai (aF _ _) _) HB.o) Ι Sk);have Y5:=aH.bY Gm;obtain⟨vo,vc,rfl⟩:=aM Gm;have HSL:=aa Y5;clear Gm ο Ι Y5;go_wp2_with fail
  go_returns;refine⟨.slice vo _ vc,by simp;rfl,?_,Uy.o⟩;unfold iV;rw[HE.o,aG rfl];exact HSL.o
def mg (h:bS) (turns:List Int):Int:=
 if iw h turns≠0 then 0 else if(iL h turns).all (kK h)=true then 1 else if(iL h turns).any (kK h)=true then 3 else 2
theorem Ba (h:bS) (wv tv ru JF:Value) (turns:List Int) (w:World) (hw:bD w wv h.bJ) (ht:aL w tv h.turns) (hx:aU w ru h.readings) (htr:aL w JF turns):
 Ϝ 44 #[hv h wv tv ru,JF] w (fun e w'=>e= .returned (.tuple #[iv (mg h turns),iv (iw h turns)])/\Ϙ w w'):=by
 obtain⟨ow,cw,rfl⟩:=hw.open;obtain⟨ot,ct,rfl⟩:=ht.open;obtain⟨ox,cx,rfl⟩:=hx.open;have HW:=aa hw;have HT:=aa ht;have HX:=aa hx;clear hw ht hx;obtain⟨oq,cq,rfl⟩:=htr.open;have HQ:=aa htr;clear htr;obtain⟨E,hE⟩: ∃E,iw h turns=E:=⟨_,rfl⟩;obtain⟨V,hV⟩: ∃V,mg h turns=V:=⟨_,rfl⟩;rw[hE,hV];have HE:=aa hE;have HV:=aa hV;clear hE hV;go_enter Tryz.func44,Tryz.ntmps44;go_wp2_with fail
 refine(tY h _ _ _ _ turns _ (HW.o.alloc _) (HT.o.alloc _) (HX.o.alloc _) (HQ.o.alloc _)).mono ?_;rintro e w1 ⟨hb,⟨hne,rfl⟩|⟨h0,wb,mb,rfl,hwb,hmb,hwk⟩⟩
 ·rw[HE.o] at hne⊢;have hv0:V=0:=by
   have hne':iw h turns≠0:=by rw[HE.o];exact hne
   rw[<-HV.o];unfold mg;rw[aG hne']
  subst hv0;have HB:=aa hb;clear hb;go_wp2_with fail
  go_returns;exact⟨by simp,aV (ai (aF _ _) _) HB.o⟩
 ·have hE0:E=0:=by rw[<-HE.o];exact h0
  subst hE0;have HB:=aa hb;have hS:=ql h0;have HEV:=aa (G8 h hS _ _ _ _ turns wb mb w1 hwk ((HW.o.alloc _).below hb (ah _)) ((HT.o.alloc _).below hb (ah _)) ((HX.o.alloc _).below hb (ah _)) ((HQ.o.alloc _).below hb (ah _)));have Sk:w.heap.size+1<=mb:=by simpa using hmb
  have hl0:=hS.GN;have Zj:=hS.zb;have hbx:w1.heap[w.heap.size]? =some (.cells #[.int .i64 h.last,.int .i64 h.size,.int .i64 h.aZ,.int .i64 h.die,.int .i64 h.ny,.int .i64 h.start.1,.int .i64 h.start.2,.slice ow h.bJ.length cw,.slice ot h.turns.length ct,.slice ox h.readings.length cx] 55 (0,0)):=(hb.block _ ϕ).trans (av _ _);have HVV:Hid (V=if(iL h turns).all (kK h)=true then 1 else if(iL h turns).any (kK h)=true then 3 else 2):=aa (by
   rw[<-HV.o];unfold mg;rw[ak (by rw[h0];simp)])
  have KZ:=Ep (h:=h) (turns:=turns);generalize iL h turns=ls at*
  have HBX:=aa hbx;have XK:=aa KZ;clear hb hwk h0 hS hbx KZ;go_wp2_with fail
  refine HEV.o.mono ?_;rintro e w2 ⟨v,rfl,Gm,ο,Ι⟩;have hB2:=dM (aV (ai (aF _ _) _) HB.o) Ι ϑ;have Sr:=(Ι.block w.heap.size (aN.1 HBX.o).1 ϗ).trans HBX.o;have Y5:j6 w2 v ls:=⟨aH.bY Gm,XK.o⟩;obtain⟨vo,vc,rfl⟩:=aM Gm;have hc0: ∀i,w2.cell? ⟨w.heap.size,i,none⟩=(#[.int .i64 h.last,.int .i64 h.size,.int .i64 h.aZ,.int .i64 h.die,.int .i64 h.ny,.int .i64 h.start.1,.int .i64 h.start.2,.slice ow h.bJ.length cw,.slice ot h.turns.length ct,.slice ox h.readings.length cx]:Array Value)[i]? :=fun i=>by
   simp only[World.cell?,Sr];rfl
  have hs2:=(aN.1 Sr).1;have Uy:=aa hB2;have HSL:=aa Y5;clear Gm ο Ι Y5 hB2 Sr;go_wp2_with fail
  have hkc: ∀x∈ls, ∀W,Ϝ 79 ((#[hv h (.slice ow h.bJ.length cw) (.slice ot h.turns.length ct) (.slice ox h.readings.length cx)]:Array Value).push (kz x)++ #[]) W (PV (.bool (kK h x)) W):=
   fun x hx W=>KU h ow ot ox _ _ _ _ _ _ x (XK.o x hx) W hl0 Zj
  have HKC:=aa hkc;clear hkc;refine(Tx ls (.slice vo ls.length vc) 79 #[hv h (.slice ow h.bJ.length cw) (.slice ot h.turns.length ct) (.slice ox h.readings.length cx)] #[] (kK h) w2 HSL.o (enters_of Tryz.func79 ϰ rfl) (fun x hx W _=>HKC.o x hx W)).mono ?_;rintro e w3 ⟨rfl,Γ⟩;have ζ:=aa Γ;have hc3: ∀i,w3.cell? ⟨w.heap.size,i,none⟩=(#[.int .i64 h.last,.int .i64 h.size,.int .i64 h.aZ,.int .i64 h.die,.int .i64 h.ny,.int .i64 h.start.1,.int .i64 h.start.2,.slice ow h.bJ.length cw,.slice ot h.turns.length ct,.slice ox h.readings.length cx]:Array Value)[i]? :=fun i=>(Γ.cell (p:=⟨w.heap.size,i,none⟩) hs2).trans (hc0 i);clear Γ hc0;obtain⟨A,hA⟩: ∃A,ls.all (kK h)=A:=⟨_,rfl⟩;rw[hA] at HVV⊢;clear hA;cases A
  ·go_wp2_with fail
   refine(OQ ls (.slice vo ls.length vc) 79 #[hv h (.slice ow h.bJ.length cw) (.slice ot h.turns.length ct) (.slice ox h.readings.length cx)] #[] (kK h) w3 (HSL.o.below ζ.o) (enters_of Tryz.func79 ϰ rfl) (fun x hx W _=>HKC.o x hx W)).mono ?_;rintro e w4 ⟨rfl,Ω⟩;have gJ:=aa Ω;clear Ω hc3;obtain⟨A,hA⟩: ∃A,ls.any (kK h)=A:=⟨_,rfl⟩;rw[hA] at HVV⊢;clear hA;cases A;all_goals
    go_wp2_with fail
    go_returns;exact⟨by rw[HVV.o];simp,aV (aV Uy.o ζ.o) gJ.o⟩
  ·go_wp2_with fail
   go_returns;exact⟨by rw[HVV.o];simp,aV Uy.o ζ.o⟩
end Go.Proofs.Z.gZ
namespace Go.Proofs.Z.gZ
open Go.RowKit Go.RG Go.SL Go.Shelf gK
end Go.Proofs.Z.gZ
namespace Go.Proofs.Z.gZ
open Go.RowKit Go.RG Go.SL Go.Shelf gK
end Go.Proofs.Z.gZ
namespace Go.Proofs.Z.gZ
open Go.RowKit Go.RG Go.SL Go.Shelf gK
abbrev TE:=Int×Value×List Int
abbrev tev (e:TE):Value:= .agg #[iv e.1,e.2.1]
def pU (es:List TE):List Value:=es.flatMap fun e=>[iv e.1,e.2.1]
def zN (w:World) (v:Value) (es:List TE):Prop:=aH 2 w v es.length (pU es)
theorem zN.len {w:World} {v:Value} {es:List TE} (h:zN w v es):es.length<=9223372036854775807:=aH.len h
theorem zN.open {w:World} {v:Value} {es:List TE} (h:zN w v es): ∃o c,v= .slice o es.length c:=aH.open h
theorem zN.cell {w:World} {o:Option Addr} {c:Nat} {es:List TE} (h:zN w (.slice o es.length c) es) {k:Nat} (hk:k<es.length):
 ∃b off,o=some ⟨b,off,none⟩/\b<w.heap.size/\w.cell? ⟨b,off+k*2,none⟩=some (iv es[k].1)/\w.cell? ⟨b,off+k*2+1,none⟩=some es[k].2.1:=by
 obtain⟨hl,o',c',hv,h1,h2,h3,h4⟩:=h;cases hv;cases o with
 |none=>have:=h3 rfl;omega
 |some a=>
  obtain⟨b,off,sp⟩:=a;obtain⟨hs,hc⟩:=h4 _ rfl;simp only at hs hc;subst hs;have h0:=hc (k*2+0) (iv es[k].1) (by unfold pU;rw[iG _ 2 (fun _=>rfl) es k 0 hk ϑ];rfl);have h1:=hc (k*2+1) es[k].2.1 (by unfold pU;rw[iG _ 2 (fun _=>rfl) es k 1 hk ϑ];rfl);exact zcs
theorem abH (l:List TE) (v:Value) (bg:Nat) (Nf aP:Array Value) (p:Nat->Bool) (I:Nat->World->Prop) (w:World) (eg: Ϛ Tryz.prog bg)
 (Y5: ∀k W,I k W->zN W v l)
 (qY: ∀k (hk:k<l.length) W,(∀j,j<k->p j=false)->I k W->Ϝ bg (Nf.push (tev l[k])++aP) W (fun e W'=>e= .returned (.bool (p k))/\I (k+1) W')) (h0:I 0 w):
 Ϝ 291 #[v,.func (.func bg) Nf aP] w (dN l.length p I (fun k=>iv k) (iv (-1))):=by
 have IY:=(Y5 0 w h0).len;obtain⟨o,c,rfl⟩:=(Y5 0 w h0).open;have HC:=aa qY;have HS:=aa Y5;clear qY Y5;go_enter Tryz.func291,Tryz.ntmps291;go_wp2;go_loopw [4,5,8] (fun _ _ i wr=> ∃k:Nat,k<=l.length/\i= .int .i64 k/\(∀j,j<k->p j=false)/\I k wr) (fun _ _ i _=>l.length-(intOf i).toNat)
 case atStart=>exact⟨0,bE _,rfl,fun j hj=>ϑ,h0⟩
 case round=>
  obtain⟨k,hk,rfl,IB,hI⟩:=hrel;by_cases uM:k<l.length
  ·obtain⟨b,off,rfl,hb,hc0,hc1⟩:=zN.cell (HS.o k wr hI) uM;exact zcC
  ·exact zam
theorem Xi (l:List TE) (v:Value) (bg:Nat) (Nf aP:Array Value) (p:Nat->Bool) (I:Nat->World->Prop) (w:World) (eg: Ϛ Tryz.prog bg)
 (Y5: ∀k W,I k W->zN W v l)
 (qY: ∀k (hk:k<l.length) W,(∀j,j<k->p j=false)->I k W->Ϝ bg (Nf.push (tev l[k])++aP) W (fun e W'=>e= .returned (.bool (p k))/\I (k+1) W')) (h0:I 0 w):
 Ϝ 236 #[v,.func (.func bg) Nf aP] w (dN l.length p I (fun _=> .bool true) (.bool false)):=by
 have HI:=aa (abH l v bg Nf aP p I w eg Y5 qY h0);have IY:=(Y5 0 w h0).len;clear Y5 qY h0 eg;go_enter Tryz.func236,Tryz.ntmps236;exact zac
theorem Xx (x:TE) (bx bg:Nat) (Nf aP:Array Value) (b:Bool) (W:World) (R:World->Prop) (eg: Ϛ Tryz.prog bg)
 (hbx:W.cell? ⟨bx,0,none⟩=some (.func (.func bg) Nf aP))
 (qY:Ϝ bg (Nf.push (tev x)++aP) (W.alloc (.cells #[iv x.1,x.2.1] 208)) (fun e W'=>e= .returned (.bool b)/\R W')):
 Ϝ 237 #[tev x,.pointer (some ⟨bx,0,none⟩)] W (fun e W'=>e= .returned (.bool !b)/\R W'):=by
 have uM:=dB W _ hbx;have HC:=aa qY;clear qY;go_enter Tryz.func237,Tryz.ntmps237;exact zao
theorem allT (l:List TE) (v:Value) (bg:Nat) (Nf aP:Array Value) (p:Nat->Bool) (I:Nat->World->Prop) (w:World) (eg: Ϛ Tryz.prog bg)
 (Y5: ∀k W,I k W->zN W v l) (hal: ∀k W o,I k W->I k (W.alloc o))
 (qY: ∀k (hk:k<l.length) W,(∀j,j<k->p j=true)->I k W->Ϝ bg (Nf.push (tev l[k])++aP) W (fun e W'=>e= .returned (.bool (p k))/\I (k+1) W'/\iA w.heap.size W W')) (h0:I 0 w):
 Ϝ 150 #[v,.func (.func bg) Nf aP] w (dN l.length (fun k=>!p k) I (fun _=> .bool false) (.bool true)):=by
 have HI:=aa (Xi l v 237 #[] #[.pointer (some ⟨w.heap.size,0,none⟩)] (fun k=>!p k)
  (fun k W=>I k W/\W.heap[w.heap.size]? =some (.cells #[.func (.func bg) Nf aP] 288 (0,0))) (w.alloc (.cells #[.func (.func bg) Nf aP] 288))
  (enters_of Tryz.func237 ϰ rfl) (fun k W h=>Y5 k W h.1)
  (fun k hk W IB h=>by
    have uM:w.heap.size<W.heap.size:=(aN.1 h.2).1;refine(Xx l[k] w.heap.size bg Nf aP (p k) W (fun W'=>I (k+1) W'/\W'.heap[w.heap.size]? =some (.cells #[.func (.func bg) Nf aP] 288 (0,0))) eg (aD h.2) ?_);refine(qY k hk _ (fun j hj=>by simpa using IB j hj) (by first|exact hal _ _ _ h.1|exact h.1)).mono ?_;rintro e W' ⟨rfl,h1,h2⟩;refine⟨rfl,h1,(h2.block _ (ah _) (by first|exact uM|(simp;omega))).trans (by first|exact h.2|exact(aT _ _ _ uM).trans h.2)⟩)
  ⟨hal _ _ _ h0,heap_alloc_new w _⟩)
 have IY:=(Y5 0 w h0).len;clear Y5 qY h0 eg hal;go_enter Tryz.func150,Tryz.ntmps150;exact zae
theorem Re (h:bS) (hS:Sound h) (oa ob oc:Option Addr) (na ca nb cb nc cc:Nat) (wb mb:Nat) (e:TE) (turns:List Int) (tv:Value) (bw bt:Nat) (W:World) (δ:W.heap[bw]? =some (.cells #[.pointer (some ⟨wb,0,none⟩)] 170 (0,0))) (κ:W.heap[bt]? =some (.cells #[tv] 52 (0,0)))
 (hwk:gN W wb mb h (.slice oa na ca) (.slice ob nb cb) (.slice oc nc cc)) (he:aL W e.2.1 e.2.2) (GX:aL W tv turns) (IY:e.2.2.length<=10) (h0:0<=e.1) (h1:e.1<=500) (Od: ∀x∈e.2.2,0<=x/\x<=20):
 Ϝ 151 #[tev e,.pointer (some ⟨bw,0,none⟩),.pointer (some ⟨bt,0,none⟩)] W (fun x W'=>x= .returned (.bool (kK h (jZ h (e.1,e.2.2) turns)))/\Cache W' mb h.aZ/\Ext [mb] W W'):=by
 obtain⟨ot,ct,rfl⟩:=GX.open;obtain⟨start,ws,bJ⟩:=e;replace he:aL W ws bJ:=he;simp only at IY h0 h1 Od;obtain⟨ows,cws,rfl⟩:=aH.open he;have hl0:=hS.GN;have Zj:=hS.zb;have c1:=aD δ;have c2:=aD κ;have s1:=dB W _ c1;have s2:=dB W _ c2;have c3:=hwk.cell;have s3:=hwk.lt;have hn1:=Ap hwk.cache δ;have hn2:=Ap hwk.cache κ;have I7:=Ap hwk.cache hwk.cells;have hmb:=hwk.cache.lt;obtain⟨ys,hy⟩: ∃ys,jZ h (start,bJ) turns=ys:=⟨_,rfl⟩;have Du:ys.length=10:=by rw[<-hy];exact jK _ _ _ _ _ _
 have hpl:=fun(W':World) (hb:Ϙ W W')=>sS h _ _ _ wb mb start bJ turns _ _ W' (hwk.below hb (ah _)) (he.below hb (ah _)) (GX.below hb (ah _)) IY hS.J5 hS.J4 hS.LC hS.LB h0 h1 Od;obtain⟨q,hq⟩: ∃q,kK h ys=q:=⟨_,rfl⟩;have hk:=fun(W':World)=>KU h oa ob oc na ca nb cb nc cc ys Du W' hl0 Zj;show Ϝ 151 #[.agg #[iv start,.slice ows bJ.length cws],.pointer (some ⟨bw,0,none⟩),.pointer (some ⟨bt,0,none⟩)] W (fun x W'=>x= .returned (.bool (kK h (jZ h (start,bJ) turns)))/\Cache W' mb h.aZ/\Ext [mb] W W');rw[hy] at hpl⊢;rw[hq] at hk⊢;have Ug:=aa hpl;have HK:=aa hk;clear hpl hk δ κ hwk he GX Od hy hq hS;go_enter Tryz.func151,Tryz.ntmps151;go_wp2_with fail
 obtain⟨W1,ν⟩: ∃W1,W.alloc (.cells #[iv start,.slice ows bJ.length cws] 208)=W1:=⟨_,rfl⟩;have hB1:Ϙ W W1:=by rw[<-ν];exact ai (aF _ _) _
 obtain⟨hc,hf⟩:=bH hB1;have hz1:W1.heap.size=W.heap.size+1:=by rw[<-ν];simp
 have hbt:W1.heap[W.heap.size]? =some (.cells #[iv start,.slice ows bJ.length cws] 208 (0,0)):=by rw[<-ν];exact av _ _
 have hgt: ∀i,W1.cell? ⟨W.heap.size,i,none⟩=(#[iv start,.slice ows bJ.length cws]:Array Value)[i]? :=fun i=>by
  simp only[World.cell?,hbt];rfl
 have z0:W.heap.size<W1.heap.size:=ϑ;have z1:bw<W1.heap.size:=ϑ;have z2:bt<W1.heap.size:=ϑ;have z3:wb<W1.heap.size:=ϑ;have hn4: ¬W.heap.size=mb:=ϑ;rw[ν];have R9:=aa hB1;clear ν hB1 hbt;refine zg 8 [mb] (some 7) [(7,⟨fun _ v=>v= .agg (ag ys).toArray,fun _ _ W=>Cache W mb h.aZ⟩)] ?_;simp only[zt];repeat (refine zd ?_;simp only[zp])
 refine aY _ ϱ ϱ ⟨_,rfl⟩ (fun W5 hE hF=>?_) (fun v Wa Wb hc hE=>?_) (fun v hv=>?_)
 ·have Iq:Ext [] W1 W5:=hE;refine bM 133 #[.pointer (some ⟨wb,0,none⟩),.agg #[iv start,.slice ows bJ.length cws],.slice ot turns.length ct] (by go_simp;try rfl) ?_;refine(Ug.o W5 (aV R9.o Iq.below)).mono ?_;exact zbF
 ·exact zbO
 obtain rfl:v= .agg (ag ys).toArray:=hv;simp only[zp];intro W5 hE hF;have Iq:Ext [mb] W1 W5:=hE;have ο:Cache W5 mb h.aZ:=hF _ (aW _);have HR:=aa (af ο ((Ext.ax R9.o).trans Iq));clear hE hF Iq ο hgt;go_wp2_with fail
 refine(HK.o W5).mono ?_;rintro e W6 ⟨rfl,hb6⟩;have nJ:=aa hb6;clear hb6 hc hf;go_wp2_with fail
 go_returns;exact⟨by simp,HR.o.1.kept (nJ.o.block mb HR.o.1.lt),HR.o.2.bel nJ.o⟩
theorem UT (h:bS) (hS:Sound h) (a b c:Value) (wb mb:Nat) (es:List TE) (ev:Value) (turns:List Int) (tv:Value) (w:World) (hwk:gN w wb mb h a b c) (h1:bD w a h.bJ) (h2:aL w b h.turns) (h3:aU w c h.readings)
 (hev:zN w ev es) (hes: ∀e∈es,aL w e.2.1 e.2.2/\e.2.2.length<=10/\(0<=e.1/\e.1<=500)/\ ∀x∈e.2.2,0<=x/\x<=20) (GX:aL w tv turns):
 Ϝ 95 #[.pointer (some ⟨wb,0,none⟩),ev,tv] w (fun x w'=>x= .returned (.bool (es.all fun e=>kK h (jZ h (e.1,e.2.2) turns)))/\Cache w' mb h.aZ/\Ext [mb] w w'):=by
 obtain⟨oa,ca,rfl⟩:=h1.open;obtain⟨ob,cb,rfl⟩:=h2.open;obtain⟨oc,cc,rfl⟩:=h3.open;obtain⟨ot,ct,rfl⟩:=GX.open;obtain⟨oe,ce,rfl⟩:=zN.open hev;have hmb:=hwk.cache.lt;obtain⟨q,hq⟩: ∃q,(es.all fun e=>kK h (jZ h (e.1,e.2.2) turns))=q:=⟨_,rfl⟩;have hall:=fun(w2:World) (hB:Ϙ w w2) (hb0:w2.heap[w.heap.size]? =some (.cells #[.pointer (some ⟨wb,0,none⟩)] 170 (0,0))) (δ:w2.heap[w.heap.size+1]? =some (.cells #[.slice ot turns.length ct] 52 (0,0)))=>
  allT es (.slice oe es.length ce) 151 #[] #[.pointer (some ⟨w.heap.size,0,none⟩),.pointer (some ⟨w.heap.size+1,0,none⟩)] (fun k=>kK h (jZ h ((es.getD k (0,undef,[])).1,(es.getD k (0,undef,[])).2.2) turns))
   (fun _ W=>(Ext [mb] w W/\Cache W mb h.aZ)/\W.heap[w.heap.size]? =some (.cells #[.pointer (some ⟨wb,0,none⟩)] 170 (0,0))/\W.heap[w.heap.size+1]? =some (.cells #[.slice ot turns.length ct] 52 (0,0))) w2 (enters_of Tryz.func151 ϰ rfl)
   (fun k W hI=>aH.fq hev hI.1.1 (fun x hx o=>by
     obtain rfl:x=mb:=by simpa using hx
     exact hwk.cache.kV o))
   (fun k W o hI=>⟨⟨hI.1.1.alloc o,hI.1.2.kept (aT _ _ _ hI.1.2.lt)⟩,(aT _ _ _ (aN.1 hI.2.1).1).trans hI.2.1,(aT _ _ _ (aN.1 hI.2.2).1).trans hI.2.2⟩)
   (fun k hk W _ hI=>by
     have hm: ∀x∈[mb], ∀o,w.cell? ⟨x,o,none⟩=none:=fun x hx o=>by
      obtain rfl:x=mb:=by simpa using hx
      exact hwk.cache.kV o
     obtain⟨k1,k2,k3,k4⟩:=hes es[k] (bZ hk);have hgd:es.getD k (0,undef,[])=es[k]:=by simp[List.getD,hk]
     rw[hgd];refine(Re h hS oa ob oc _ _ _ _ _ _ wb mb es[k] turns (.slice ot turns.length ct) w.heap.size (w.heap.size+1) W hI.2.1 hI.2.2 (hwk.ext hI.1.1 hI.1.2) (k1.fq hI.1.1 hm) (GX.fq hI.1.1 hm) k2 k3.1 k3.2 k4).mono ?_;rintro e W' ⟨rfl,hc,hE⟩;refine⟨rfl,⟨⟨hI.1.1.trans hE,hc⟩,(hE.block _ (aN.1 hI.2.1).1 ϗ).trans hI.2.1,(hE.block _ (aN.1 hI.2.2).1 ϗ).trans hI.2.2⟩,iA.uy hE (fun x hx=>?_)⟩;have:=hB.size;simp at hx;omega)
   ⟨⟨Ext.ax hB,hwk.cache.kept (hB.block mb hmb)⟩,hb0,δ⟩
 have adB:=aa hall;have HQ:Hid (((List.range es.length).all fun k=>kK h (jZ h ((es.getD k (0,undef,[])).1,(es.getD k (0,undef,[])).2.2) turns))=q):=aa (by rw[<-hq];exact iU es (fun e=>kK h (jZ h (e.1,e.2.2) turns)) (0,undef,[]))
 rw[hq];have IY:=zN.len hev;clear hall hq hes hev hwk h1 h2 h3 GX;go_enter Tryz.func95,Tryz.ntmps95;go_wp2_with fail
 refine(adB.o _ zl ((aT _ _ _ ϕ).trans (av _ _)) (dm _ _ _)).mono ?_;intro e W' υ;obtain⟨rfl,k,_,hI⟩:=υ.all;rw[iM,HQ.o];have HI:=aa hI;clear hI υ;go_wp2_with fail
 go_returns;exact⟨by simp,HI.o.1.2,HI.o.1.1⟩
end Go.Proofs.Z.gZ
namespace Go.Proofs.Z.gZ
open Go.RowKit Go.RG Go.SL Go.Shelf gK
attribute [local go_sem] Oper.semAt_some
theorem Yt:fU Tryz.prog 203 208 (.agg #[iv 0,.slice none 0 0]) 2 32:=⟨Tryz.underlying203,by kernel_rfl,rfl,by omega⟩
def Kb (h:bS) (turns:List Int):Bool:=(dH h []).all fun t=>kK h (jZ h t turns)
def SG (h:bS):Option (List Int):=lG (h.last+1).toNat (Kb h)
def yx (h:bS):Int:=if iw h []≠0 then iw h [] else if(SG h).isSome then 0 else 10
def Oy (h:bS):List Int:=if iw h []≠0 then[] else(SG h).getD []
structure Few (w:World) (wb:Nat) (es:List TE) (Ms:List Nat) (W:World):Prop where
 b0:W.heap[w.heap.size]? =some (.cells #[.pointer (some ⟨wb,0,none⟩)] 170 (0,0))
 out: ∃v,W.heap[w.heap.size+1]? =some (.cells #[v] 203 (0,0))/\W.ownsRow (w.heap.size+6) 208 2 v es.length (pU es)/\(∀g,v.ownBlock=some g->g∉Ms/\g<W.heap.size)/\
  ∀e∈es,W.ownsRow (w.heap.size+6) 3 1 e.2.1 e.2.2.length (ag e.2.2)/\ ∀g,e.2.1.ownBlock=some g->(g∉Ms/\g<W.heap.size)/\v.ownBlock≠some g
 b3:W.heap[w.heap.size+1+1]? =some (.cells #[.pointer (some ⟨wb,0,none⟩)] 170 (0,0))
 b4:W.heap[w.heap.size+1+1+1]? =some (.cells #[.slice none 0 0] 52 (0,0))
theorem Few.kept {w:World} {wb:Nat} {es:List TE} {Ms jc:List Nat} {W W':World} (h:Few w wb es Ms W) (hs:W.heap.size<=W'.heap.size) (hk: ∀b,w.heap.size<=b->b<w.heap.size+4->W'.heap[b]? =W.heap[b]?)
 (ho: ∀g,w.heap.size+6<=g->g<W.heap.size->g∉Ms->W'.heap[g]? =W.heap[g]?) (hM: ∀m∈jc,m∈Ms∨(W.heap.size<=m/\m<W'.heap.size)):Few w wb es jc W':=by
 obtain⟨v,h1,h2,h3,h4⟩:=h.out;have hnM: ∀g,(g∉Ms/\g<W.heap.size)->g∉jc/\g<W'.heap.size:=fun g ⟨hg1,hg2⟩=>⟨fun hm=>by
  rcases hM g hm with h5|h5
  ·exact hg1 h5
  ·omega,by omega⟩
 refine⟨(hk _ ϑ ϑ).trans h.b0,⟨v,(hk _ ϑ ϑ).trans h1,bT h2 fun g hg=>ho g (aS h2 g hg).1 (aS h2 g hg).2 (h3 g hg).1,fun g hg=>hnM g (h3 g hg),fun e he=>?_⟩,
  (hk _ ϑ ϑ).trans h.b3,(hk _ ϑ ϑ).trans h.b4⟩
 obtain⟨k1,k2⟩:=h4 e he;exact⟨bT k1 fun g hg=>ho g (aS k1 g hg).1 (aS k1 g hg).2 (k2 g hg).1.1,fun g hg=>⟨hnM g (k2 g hg).1,(k2 g hg).2⟩⟩
theorem WS {w W7 W8 W9:World} {wb mb:Nat} {aZ:Int} {v v':Value} {es:List TE} {e:TE} {Os Ms:List Nat} (hF:Fr w mb aZ Os Ms W7) (hP:Few w wb es Ms W7)
 (Η:W7.heap[w.heap.size+1]? =some (.cells #[v] 203 (0,0))) (hv3: ∀g,v.ownBlock=some g->(w.heap.size+6<=g/\g<W7.heap.size)/\g∉Ms)
 (hE:Ext [] W7 W8) (hG:W8.grownBy W9 v.ownBlock) (hN:v'.ownBlock=v.ownBlock∨v'.ownBlock=some W8.heap.size) (hO:W9.ownsRow (w.heap.size+6) 208 2 v' (es.length+1) (pU es++[iv e.1,e.2.1]))
 (hC:W8.ownsRow W7.heap.size 3 1 e.2.1 e.2.2.length (ag e.2.2)) (hmb:mb<w.heap.size) (hs:w.heap.size+6<=W7.heap.size):
 (Fr w mb aZ Os Ms (W9.setCell ⟨w.heap.size+1,0,none⟩ v')/\Few w wb (es++[e]) Ms (W9.setCell ⟨w.heap.size+1,0,none⟩ v'))/\
   (∀b,b<W7.heap.size->v.ownBlock≠some b->b≠w.heap.size+1->(W9.setCell ⟨w.heap.size+1,0,none⟩ v').heap[b]? =W7.heap[b]?)/\W7.heap.size<=(W9.setCell ⟨w.heap.size+1,0,none⟩ v').heap.size:=by
 have h1:=hE.size;have h2:=hG.size;have hk: ∀b,b<W7.heap.size->v.ownBlock≠some b->W9.heap[b]? =W7.heap[b]? :=fun b hb hn=>
  (hG.block b ϑ (fun e=>hn e.symm)).trans (hE.block b hb ϕ)
 have Θ: ∀b,b<W7.heap.size->v.ownBlock≠some b->b≠w.heap.size+1->(W9.setCell ⟨w.heap.size+1,0,none⟩ v').heap[b]? =W7.heap[b]? :=fun b hb hn hne=>
  (bV _ _ _ _ hne).trans (hk b hb hn)
 have hlow: ∀b,b<w.heap.size+6->v.ownBlock≠some b:=fun b hb e=>by have:=(hv3 b e).1.1;omega
 have τ:W7.heap.size<=(W9.setCell ⟨w.heap.size+1,0,none⟩ v').heap.size:=by simp[World.setCell];omega
 have hb:=aS hO;have hcb:=aS hC;have ae3: ∀g,v'.ownBlock=some g->g∉Ms/\g<W9.heap.size:=fun g hg=>⟨fun hm=>by
  rcases hN with hN|hN
  ·exact(hv3 g (by rw[<-hN,hg])).2 hm
  ·rw[hg] at hN;injection hN with hN;have:=hF.bnd g hm;omega,(hb g hg).2⟩
 refine⟨⟨hF.own ⟨hG.os.trans (hE.os.trans hF.ext.os),hG.tape.trans (hE.tape.trans hF.ext.tape),hG.output.trans (hE.output.trans hF.ext.output),by have:=hF.ext.size;omega,fun k Χ hm=>(Θ k (by have:=hF.ext.size;omega) (hlow k ϑ) ϑ).trans (hF.ext.block k Χ hm)⟩ τ (hF.cache.kept (Θ mb ϑ (hlow mb ϑ) ϑ)),?_⟩,Θ,τ⟩;obtain⟨vv,q1,q2,q3,q4⟩:=hP.out;have hvv:vv=v:=by
  rw[Η] at q1;simpa using q1.symm
 subst hvv;refine⟨(Θ _ ϑ (hlow _ ϑ) ϑ).trans hP.b0,⟨v',?_,?_,fun g hg=>⟨(ae3 g hg).1,by have:=(ae3 g hg).2;simpa [World.setCell] using this⟩,fun x hx=>?_⟩,(Θ _ ϑ (hlow _ ϑ) ϑ).trans hP.b3,(Θ _ ϑ (hlow _ ϑ) ϑ).trans hP.b4⟩
 ·exact aA ((hk _ ϑ (hlow _ ϑ)).trans Η) _
 ·rw[cu];have:pU (es++[e])=pU es++[iv e.1,e.2.1]:=by simp[pU]
  rw[this];exact bT hO fun g hg=>bV _ _ _ _ (by have:=(hb g hg).1;show g≠w.heap.size+1;omega)
 ·rcases gq.1 hx with hx|hx
  ·obtain⟨k1,k2⟩:=q4 x hx;have kb:=aS k1;refine⟨bT k1 fun g hg=>Θ g (kb g hg).2 (k2 g hg).2 (by have:=(kb g hg).1;omega),fun g hg=>⟨⟨(k2 g hg).1.1,by have:=(kb g hg).2;omega⟩,fun e1=>?_⟩⟩;rcases hN with hN|hN
   ·exact(k2 g hg).2 (by rw[<-hN,e1])
   ·rw[e1] at hN;injection hN with hN;have:=(kb g hg).2;omega
  ·obtain rfl:x=e:=by simpa using hx
   refine⟨bK (bT hC fun g hg=>(bV _ _ _ _ (by have:=(hcb g hg).1;show g≠w.heap.size+1;omega)).trans (hG.block g (hcb g hg).2 (fun e1=>by have:=(hv3 g e1.symm).1.2;have:=(hcb g hg).1;omega))) ϑ,fun g hg=>⟨⟨fun hm=>?_,?_⟩,fun e1=>?_⟩⟩
   ·have:=hF.bnd g hm;have:=(hcb g hg).1;omega
   ·have:=(hcb g hg).2;simp[World.setCell];omega
   ·rcases hN with hN|hN
    ·have:=(hv3 g (by rw[<-hN,e1])).1.2;have:=(hcb g hg).1;omega
    ·rw[e1] at hN;injection hN with hN;have:=(hcb g hg).2;omega
end Go.Proofs.Z.gZ
namespace Go.Proofs.Z.gZ
open Go.RowKit Go.RG Go.SL Go.Shelf gK
attribute [local go_sem] Oper.semAt_some
theorem Lh (h:bS) (hS:Sound h) (a b c:Value) (wb mb:Nat) (es:List TE) (o:Option Addr) (cp:Nat) (turns:List Int) (tv:Value) (bw bt:Nat) (W:World) (δ:W.heap[bw]? =some (.cells #[.pointer (some ⟨wb,0,none⟩)] 170 (0,0))) (κ:W.heap[bt]? =some (.cells #[.slice o es.length cp] 203 (0,0)))
 (hwk:gN W wb mb h a b c) (h1:bD W a h.bJ) (h2:aL W b h.turns) (h3:aU W c h.readings) (hev:zN W (.slice o es.length cp) es)
 (hes: ∀e∈es,aL W e.2.1 e.2.2/\e.2.2.length<=10/\(0<=e.1/\e.1<=500)/\ ∀x∈e.2.2,0<=x/\x<=20) (GX:aL W tv turns):
 Ϝ 94 #[tv,.pointer (some ⟨bw,0,none⟩),.pointer (some ⟨bt,0,none⟩)] W (fun x w'=>x= .returned (.bool (es.all fun e=>kK h (jZ h (e.1,e.2.2) turns)))/\Cache w' mb h.aZ/\Ext [mb] W w'):=by
 have HSF:=aa (UT h hS a b c wb mb es (.slice o es.length cp) turns tv W hwk h1 h2 h3 hev hes GX);have c1:=aD δ;have c2:=aD κ;have s1:=dB W _ c1;have s2:=dB W _ c2;obtain⟨ot,ct,rfl⟩:=GX.open;generalize (es.all fun e=>kK h (jZ h (e.1,e.2.2) turns))=q at*
 clear δ κ hwk h1 h2 h3 hev hes GX;go_enter Tryz.func94,Tryz.ntmps94;go_wp2_with fail
 refine HSF.o.mono ?_;rintro e W' ⟨rfl,hc,hE⟩;have HB:=aa (af hc hE);clear hc hE;exact zaA
theorem PM (h:bS) (wv tv ru:Value) (w:World) (hw:bD w wv h.bJ) (ht:aL w tv h.turns) (hx:aU w ru h.readings):
 Ϝ 54 #[hv h wv tv ru] w (fun e w'=> ∃v,e= .returned (.tuple #[v,iv (yx h)])/\aL w' v (Oy h)/\Ϙ w w'):=by
 obtain⟨ow,cw,rfl⟩:=hw.open;obtain⟨ot,ct,rfl⟩:=ht.open;obtain⟨ox,cx,rfl⟩:=hx.open;have HW:=aa hw;have HT:=aa ht;have HX:=aa hx;clear hw ht hx;obtain⟨E,hE⟩: ∃E,yx h=E:=⟨_,rfl⟩;obtain⟨L,hL⟩: ∃L,Oy h=L:=⟨_,rfl⟩;rw[hE,hL];have HE:=aa hE;have HL:=aa hL;clear hE hL;refine(callsIn_wide (n:=0)).1 ?_;refine callsIn_of_wp_marks Tryz.func54 rfl trivial ?_;simp only[Tryz.ntmps54,List.size_toArray,List.length_cons,List.length_nil,Nat.reduceAdd,Nat.reduceSub,Array.replicate_succ,Array.replicate_zero,jy,jA,List.nil_append,List.cons_append]
 gi_wp2_with fail
 refine(callsIn_wide.2 (tY h _ _ _ _ [] _ (HW.out.alloc _) (HT.out.alloc _) (HX.out.alloc _) (oJ _))).mono ?_;rintro e w1 ⟨hb,⟨hne,rfl⟩|⟨h0,wb,mb,rfl,hwb,hmb,hwk⟩⟩
 ·have he:E=iw h []:=by rw[<-HE.out];unfold yx;rw[aG hne]
  have hl:L=[]:=by rw[<-HL.out];unfold Oy;rw[aG hne]
  subst hl;obtain⟨E',Iq⟩: ∃E',iw h []=E':=⟨_,rfl⟩;rw[Iq] at hne he⊢;subst he;have HB:=aa hb;clear hb
  gi_wp2_with fail
  refine⟨.tuple #[.slice none 0 0,iv E],by simp[results,Tryz.results54,go_sem],?_⟩;exact⟨.slice none 0 0,by simp,oJ _,ai (aV (ai (aF _ _) _) HB.out) _⟩
 ·have hS:=ql h0;have Sk:w.heap.size+1<=mb:=by simpa using hmb
  have hb0:w1.heap[w.heap.size]? =some (.cells #[.int .i64 h.last,.int .i64 h.size,.int .i64 h.aZ,.int .i64 h.die,.int .i64 h.ny,.int .i64 h.start.1,.int .i64 h.start.2,.slice ow h.bJ.length cw,.slice ot h.turns.length ct,.slice ox h.readings.length cx] 55 (0,0)):=(hb.block _ ϕ).trans (av _ _);have hbw:Ϙ w w1:=aV (ai (aF _ _) _) hb;have H1:=aa (HW.out.below hbw (ah _));have H2:=aa (HT.out.below hbw (ah _));have H3:=aa (HX.out.below hbw (ah _));have MP:=aa hbw;have Α:=aa hb0;have Co:=aa hwk;have mR:=aa hS;have hw0:=(aN.1 hb0).1;have D6:=hwk.cache.lt;have QP:Hid (E=(if(SG h).isSome then 0 else 10)/\L=(SG h).getD []):=aa ⟨by rw[<-HE.out];unfold yx;rw[ak (by rw[h0];simp)],by rw[<-HL.out];unfold Oy;rw[ak (by rw[h0];simp)]⟩;clear hb hwk h0 hS hb0 hbw hwb hmb
  gi_wp2_with fail
  refine(callsIn_wide.2 (xQ wb _ _ _ _)).mono ?_;rintro e w1' ⟨rfl,rfl⟩
  gi_wp2_with fail
  obtain⟨w2,hw2⟩: ∃w2,((((w1.alloc (.cells #[.pointer (some ⟨wb,0,none⟩)] 170)).alloc (.cells #[.slice none 0 0] 203)).alloc (.cells #[.pointer (some ⟨wb,0,none⟩)] 170)).alloc (.cells #[.slice none 0 0] 52))=w2:=⟨_,rfl⟩;have hB2:Ϙ w1 w2:=by rw[<-hw2];exact zl
  have hsz2:w2.heap.size=w1.heap.size+4:=by rw[<-hw2];simp
  have hP2:Few w1 wb [] [mb] w2:=by
   rw[<-hw2];have n3:=av (((w1.alloc (.cells #[.pointer (some ⟨wb,0,none⟩)] 170)).alloc (.cells #[.slice none 0 0] 203)).alloc (.cells #[.pointer (some ⟨wb,0,none⟩)] 170)) (.cells #[.slice none 0 0] 52);simp only[bA] at n3;refine⟨?_,⟨.slice none 0 0,?_,⟨rfl,.inl ⟨rfl,rfl⟩⟩,(fun g hg=>by cases hg),(fun e he=>by cases he)⟩,?_,n3⟩
   ·exact(aT _ _ _ (by first|omega|(simp;done)|(simp;omega))).trans ((aT _ _ _ (by first|omega|(simp;done)|(simp;omega))).trans ((aT _ _ _ (by first|omega|(simp;done)|(simp;omega))).trans (av _ _)))
   ·exact(aT _ _ _ (by first|omega|(simp;done)|(simp;omega))).trans ((aT _ _ _ (by first|omega|(simp;done)|(simp;omega))).trans (dm _ _ _))
   ·exact(aT _ _ _ (by first|omega|(simp;done)|(simp;omega))).trans (fM _ _ _ _)
  rw[hw2];clear hw2;refine kQ (xP h mR.out (.slice ow h.bJ.length cw) (.slice ot h.turns.length ct) (.slice ox h.readings.length cx) (.slice none 0 0) [] wb mb (w1.heap.size+1+1) (w1.heap.size+1+1+1)) rfl (enters_of Tryz.func144 ϰ rfl) rfl ϗ
   (fun Ms k W=>Fr w1 mb h.aZ [w1.heap.size,w1.heap.size+1,w1.heap.size+2,w1.heap.size+3,w1.heap.size+4,w1.heap.size+5] Ms W/\ ∃es:List TE,es.map (fun e=>(e.1,e.2.2))=(dH h []).take k/\Few w1 wb es Ms W)
   (fun _ _ _=>False)
   ?hInv ?nk ?hI ?hIx ?FP ?qN ?h0
   (fun a Ms k W1 a₁ W=> ∃(t:Int×List Int) (ob bt:Nat),(dH h [])[k]? =some t/\a₁={tmps:=(a.tmps.setIfInBounds 20 (.agg #[iv t.1,.slice (some ⟨ob,1,none⟩) t.2.length t.2.length])).setIfInBounds 7 (.pointer (some ⟨bt,0,none⟩)),defers:=[]}/\
     (Fr w1 mb h.aZ [w1.heap.size,w1.heap.size+1,w1.heap.size+2,w1.heap.size+3,w1.heap.size+4,w1.heap.size+5] Ms W/\ ∃es:List TE,es.map (fun e=>(e.1,e.2.2))=(dH h []).take k/\Few w1 wb es Ms W)/\
     (W.heap[bt]? =some (.cells #[iv t.1,.slice (some ⟨ob,1,none⟩) t.2.length t.2.length] 208 (0,0))/\(w1.heap.size+6<=bt/\ob∈Ms/\ob≠mb)/\aL W (.slice (some ⟨ob,1,none⟩) t.2.length t.2.length) t.2)/\(∀m∈Ms,m∉[mb]->m<W1.heap.size->W.heap[m]? =W1.heap[m]?)/\W1.heap.size<=W.heap.size)
   ?Jd ?hassign ?hbody ?hdone ?hstop
  case hInv=>rintro Ms k W ⟨hF,es,hes,hP⟩;exact hF.Yn Co.out H1.out H2.out H3.out (oJ w1) hP.b3 hP.b4
  case nk=>rintro cd Ms W h;exact h.elim
  case hI=>
   rintro Ms jc k Wa Wb ⟨hF,es,hes,hP⟩ hE η hc;exact⟨(hF.gL hE η hc).1,es,hes,hP.kept hE.size (fun b h1 h2=>(hF.gL hE η hc).2 b ϗ) (fun g h1 h2 h3=>hE.block g h2 h3) η⟩
  case hIx=>rintro cd Ms jc Wa Wb h;exact h.elim
  case FP=>
   rintro Ms k W r o ⟨hF,es,hes,hP⟩ hr;exact⟨hF.put o ϑ D6,es,hes,hP.kept ϕ (fun b h1 h2=>World.putObj_heap_other ϑ) (fun g h1 h2 h3=>World.putObj_heap_other ϑ) (fun m hm=> .inl hm)⟩
  case qN=>rintro cd Ms W r o h;exact h.elim
  case h0=>
   intro o o';have hB:Ϙ w1 ((w2.alloc o).alloc o'):=ai (ai hB2 _) _;exact⟨⟨Ext.ax hB,fun m hm=> .inl (by simpa using hm),fun m hm=>(by have:=hB.size;simp at hm;omega),fun b hb=>⟨by simp at hb⊢;omega,by simp at hb⊢;omega⟩,Co.out.cache.kept (hB.block mb D6)⟩,
    [],by simp,hP2.kept ϗ (fun b h1 h2=>(aT _ _ _ ϗ).trans (aT _ _ _ ϑ)) (fun g h1 h2 h3=>ϑ) (fun m hm=> .inl hm)⟩
  case Jd=>
   rintro Ms k W1 a₁ W o ⟨t,ob,bt,ht,ha,⟨hF,es,hes,hP⟩,⟨hbt,⟨uY,xu,hne⟩,Y5⟩,hk,hs⟩;have ω:=(hF.apart (w1.heap.size+5) ϕ).1;refine⟨t,ob,bt,ht,ha,⟨hF.put o ϑ D6,es,hes,hP.kept ϕ (fun b h1 h2=>World.putObj_heap_other ϑ) (fun g h1 h2 h3=>World.putObj_heap_other ϑ) (fun m hm=> .inl hm)⟩,
    ⟨(World.putObj_heap_other ϑ).trans hbt,⟨uY,xu,hne⟩,Y5.kept fun b off n c hv _=>by cases hv;exact World.putObj_heap_other (fun e=>ω (by rw[show w1.heap.size+5=ob by omega];exact xu))⟩,
    fun m hm h0 mP=>(World.putObj_heap_other (fun e=>ω (by rw[show w1.heap.size+5=m by omega];exact hm))).trans (hk m hm h0 mP),by simpa using hs⟩
  case hassign=>
   rintro Ms k v W hk ⟨hF,es,hes,hP⟩ ⟨ob,rfl,Y5,xu,hne⟩ uM;generalize ht:(dH h [])[k]=t at*
   have htk:(dH h [])[k]? =some t:=by rw[dn hk,ht]
   gi_wp2
   have hB:Ϙ W (W.alloc (.cells #[iv t.1,.slice (some ⟨ob,1,none⟩) t.2.length t.2.length] 208)):=ai (aF _ _) _;have hc:=hF.cache.kept (hB.block mb hF.cache.lt);exact⟨⟨t,ob,W.heap.size,htk,rfl,⟨(hF.gL (Ext.ax hB) (fun m hm=> .inl hm) hc).1,es,hes,hP.kept ϕ (fun b h1 h2=>aT _ _ _ ϑ) (fun g h1 h2 h3=>aT _ _ _ ϑ) (fun m hm=> .inl hm)⟩,
    ⟨av _ _,⟨by omega,xu,hne⟩,Y5.alloc _⟩,fun m hm h0 mP=>aT _ _ _ ϑ,by simp⟩,aT _ _ _ ϑ,aT _ _ _ ϑ⟩
  case hbody=>
   rintro Ms k W1 a₁ W busy hk ⟨t,ob,bt,ht,rfl,⟨hF,es,hes,hP⟩,⟨hbt,⟨uY,xu,hne⟩,Y5⟩,Oa,τ⟩ ι hD;simp only[nC,List.set_cons_succ,List.set_cons_zero];obtain⟨v,Η,Τ,hv3,hv4⟩:=hP.out;obtain⟨vo,vc,rfl⟩:=aM Τ;have htm:t∈dH h []:=lg ht;obtain⟨hl2,hs0,hrest⟩:=yK mR.out htm;have hlast:=mR.out.zb;have hwl:=mR.out.Cv;have Ξ:es.length<=2000:=by
    have h5:=congrArg List.length hes;rw[kJ,fJ] at h5;have:=vL mR.out [];omega
   have d1:=aD Η;have d2:=bn Η 0;have d3:=dB W _ d1;have kt:=(aN.1 hbt).1;have hg: ∀i,W.cell? ⟨bt,i,none⟩=(#[iv t.1,.slice (some ⟨ob,1,none⟩) t.2.length t.2.length]:Array Value)[i]? :=fun i=>by
    simp only[World.cell?,hbt];rfl
   have hw6:w1.heap.size+6<=W.heap.size:=ϑ;have htl:t.2.length<=10:=ϑ;clear hl2;have HT2:=aa (af ht hk);have HF:=aa hF;have HP:=aa hP;have HES:=aa hes;have HSL:=aa Y5;have HV:=aa (af Η (af Τ hv3));have HK:=aa (af Oa (af ι hD));clear hF hP Oa ι hD hbt Y5 ht hrest htm hes Η Τ hv3 hv4
   gi_wp2_with fail
   refine dG 8 [] none [(5,⟨fun _ v=> ∃o c,v= .slice o t.2.length c,fun _ v Wx=>Wx.ownsRow W.heap.size 3 1 v t.2.length (ag t.2)⟩),(7,⟨fun _ v=> ∃b:Nat,v= .slice (some ⟨b,0,none⟩) 1 1,fun xs v Wx=> ∃(b:Nat) (x:Value),xs=[.agg #[iv t.1,x]]/\v= .slice (some ⟨b,0,none⟩) 1 1/\Wx.heap[b]? =some (.cells #[iv t.1,x] 208 (0,0))⟩)] ϰ ϰ ϰ ?_;simp only[zt];repeat (refine zd ?_;simp only[zp])
   refine aY _ ϱ ϱ (by exact⟨.slice none t.2.length 0,none,0,rfl⟩) (fun W5 hE hF=>?_) (fun v Wa Wb ho hE=>az (Ms:=[]) ho hE ϕ) (fun v hv=>?_)
   ·have Iq:Ext [] W W5:=hE;refine bM 91 #[.slice (some ⟨ob,1,none⟩) t.2.length t.2.length] (by go_simp;try rfl) ?_;refine(w9 t.2 _ W5 (HSL.out.below Iq.below (ah _)) ϑ).mono ?_;rintro e W6 ⟨v,rfl,ho,hb⟩;exact⟨v,rfl,aM ho,bK ho Iq.size,Ext.ax hb⟩
   obtain⟨o5,c5,rfl⟩:=hv;simp only[zp];repeat (refine zd ?_;simp only[zp])
   refine aY _ ϱ ϱ (by exact⟨.slice (some ⟨0,0,none⟩) 1 1,0,rfl⟩) (fun W5 hE hF=>?_) (fun v Wa Wb ho hE=>?_) (fun v hv=>?_)
   ·refine gH (W':=W5.alloc (.cells #[iv t.1,.slice o5 t.2.length c5] 208)) (.slice (some ⟨W5.heap.size,0,none⟩) 1 1) (by go_simp;try rfl) ⟨⟨_,rfl⟩,⟨_,_,rfl,rfl,heap_alloc_new _ _⟩,Ext.ax ((aF _ _).alloc (ah _) _)⟩
   ·obtain⟨b,x,hx,hv,hc⟩:=ho;exact⟨b,x,hx,hv,(hE.block b (aN.1 hc).1 ϕ).trans hc⟩
   obtain⟨b7,rfl⟩:=hv;simp only[zp];intro W8 eT Sy;have hE:Ext [] W W8:=eT;obtain⟨b7',x7,hx7,ajO,hblk7⟩:=Sy _ (aW _);cases ajO;have aiO:x7= .slice o5 t.2.length c5:=by
    have h9:[Value.agg #[iv t.1,.slice o5 t.2.length c5]]=[Value.agg #[iv t.1,x7]]:=hx7;simp at h9;exact h9.symm
   subst aiO;have hcl:W8.ownsRow W.heap.size 3 1 (.slice o5 t.2.length c5) t.2.length (ag t.2):=Sy _ (jf _ (aW _));obtain⟨hc,hf⟩:=bH hE.below;have hz8:=hE.size;have tK:=az (Ms:=[]) HV.out.2.1 hE ϕ;have gP:=aa hE;have HOW:=aa tK;have HCL:=aa hcl;have xM:=aa hblk7;clear hE eT Sy tK hcl hblk7 hx7 hg
   gi_wp2_with (gi_at_builtin;go_loud (refine lY (fun _=>trivial) rfl oP rfl _ _ Yt rfl (w1.heap.size+6) (.slice vo es.length vc) es.length (pU es) rfl HOW.out (.slice (some ⟨b7,0,none⟩) 1 1) 1 [iv t.1,.slice o5 t.2.length c5] rfl (aH.bI 2 1 xM.out rfl ϖ) (by intro u hu;simp at hu;rcases hu with rfl|rfl <;>rfl) ϑ ϑ ϑ ?_))
   intro v' W9 Gm Y7 Ψ;obtain⟨o9,c9,rfl⟩:=aM Gm;have uT:=aa Gm;have HG9:=aa Y7;have HN9:=aa Ψ;have GY:=aS HV.out.2.1;have nO: ∀b,b<w1.heap.size+6->b<W.heap.size->W9.heap[b]? =W.heap[b]? :=fun b hb uY=>
    (Y7.block b ϑ (fun e=>by have:=GY b e.symm;omega)).trans (gP.out.block b uY ϕ)
   have KX:W8.heap.size<=W9.heap.size:=Y7.size;have e1:W9.cell? ⟨w1.heap.size+1,0,none⟩=some (.slice vo es.length vc):=aD ((nO _ ϑ d3).trans HV.out.1);have e2:W9.frozen? ⟨w1.heap.size+1,0,none⟩=false:=bn ((nO _ ϑ d3).trans HV.out.1) 0;have e3:=dB W9 _ e1;clear Gm Y7 Ψ nO hc hf
   gi_wp2_with fail
   obtain⟨⟨hF9,hP9⟩,Θ,Oe⟩:=WS (e:=(t.1,.slice o5 t.2.length c5,t.2)) HF.out HP.out HV.out.1 (fun g hg=>⟨GY g hg,(HV.out.2.2 g hg).1⟩) gP.out HG9.out HN9.out uT.out HCL.out D6 hw6;have ω:=HF.out.apart;refine⟨⟨?_,?_,fun m hm h0 mP=>?_,by omega⟩,hF9,es++[(t.1,.slice o5 t.2.length c5,t.2)],?_,hP9⟩
   ·refine(Θ _ (ω (w1.heap.size+5) ϕ).2 (fun e=>by have:=GY _ e;omega) ϑ).trans ?_;rw[show w1.heap.size+5=w2.heap.size+1 by omega];exact HK.out.2.1
   ·refine(Θ _ (ω (w1.heap.size+4) ϕ).2 (fun e=>by have:=GY _ e;omega) ϑ).trans ?_;rw[<-hsz2];exact HK.out.2.2
   ·exact(Θ m ϑ (fun e=>(HV.out.2.2 m e).1 hm) (fun e=>(ω (w1.heap.size+1) ϕ).1 (by rw[<-e];exact hm))).trans (HK.out.1 m hm h0 mP)
   ·rw[List.map_append,HES.out,eG HT2.out.2];have:=HT2.out.1;rw[dn HT2.out.2] at this;injection this with this;rw[this];rfl
  case hdone=>
   rintro Ms W ⟨hF,es,hes,hP⟩ hD uM;rw[List.take_length] at hes;rw[hsz2] at hD;obtain⟨v,Η,Τ,hv3,hv4⟩:=hP.out;obtain⟨vo,vc,rfl⟩:=aM Τ;have hb0:=(hF.ext.block w.heap.size hw0 ϗ).trans Α.out;have hc0: ∀i,W.cell? ⟨w.heap.size,i,none⟩=(#[.int .i64 h.last,.int .i64 h.size,.int .i64 h.aZ,.int .i64 h.die,.int .i64 h.ny,.int .i64 h.start.1,.int .i64 h.start.2,.slice ow h.bJ.length cw,.slice ot h.turns.length ct,.slice ox h.readings.length cx]:Array Value)[i]? :=fun i=>by
    simp only[World.cell?,hb0];rfl
   have t0:=(aN.1 hb0).1;have hl0:=mR.out.GN;have Zj:=mR.out.zb;obtain⟨n,hn⟩: ∃n:Nat,h.last+1=n:=⟨(h.last+1).toNat,by omega⟩;have hm: ∀x∈[mb], ∀o,W.cell? ⟨x,o,none⟩=none:=fun x hx o=>by
    obtain rfl:x=mb:=by simpa using hx
    exact hF.cache.kV o
   have hmw: ∀x∈[mb], ∀o,w1.cell? ⟨x,o,none⟩=none:=fun x hx o=>by
    obtain rfl:x=mb:=by simpa using hx
    exact Co.out.cache.kV o
   have hbd: ∀e∈es,e.2.2.length<=10/\(0<=e.1/\e.1<=500)/\ ∀x∈e.2.2,0<=x/\x<=20:=fun e he=>by
    have hmem:(e.1,e.2.2)∈dH h []:=by rw[<-hes];exact gW.2 ⟨e,he,rfl⟩
    obtain⟨k1,k2,k3⟩:=yK mR.out hmem;have:=mR.out.Cv;simp only at k1 k2 k3;exact⟨by omega,k2,k3⟩
   have hsf: ∀l,(es.all fun e=>kK h (jZ h (e.1,e.2.2) l))=Kb h l:=fun l=>by
    unfold Kb;rw[<-hes,List.all_map];rfl
   have hsh:=fun(W3:World) (hB:Ϙ W W3)=>Iu n ϑ (Kb h) mb h.aZ W3 (hF.cache.kept (hB.block mb hF.cache.lt)) 94 #[] #[.pointer (some ⟨w1.heap.size,0,none⟩),.pointer (some ⟨w1.heap.size+1,0,none⟩)] (enters_of Tryz.func94 ϰ rfl)
    (fun l v W' hE ο hv=>by
      have hEW:Ext [mb] W W':=(Ext.ax hB).trans hE;have Ud:Ext [mb] w1 W':=hF.ext.trans hEW;refine(Lh h mR.out _ _ _ wb mb es vo vc l v w1.heap.size (w1.heap.size+1) W' ((hEW.block _ (aN.1 hP.b0).1 ϗ).trans hP.b0) ((hEW.block _ (aN.1 Η).1 ϗ).trans Η)
       (Co.out.ext Ud ο) (H1.out.fq Ud hmw) (H2.out.fq Ud hmw) (H3.out.fq Ud hmw) (aH.fq (aH.bY Τ) hEW hm) (fun e he=>⟨aH.fq (aH.bY (hv4 e he).1) hEW hm,hbd e he⟩) hv).mono ?_
      rintro x W'' ⟨rfl,k1,k2⟩;exact⟨by rw[hsf],k1,k2⟩)
   have HSH:=aa hsh;have HF:=aa hF;have HD:=aa hD;have hn':(h.last+1).toNat=n:=ϑ;have HFS:Hid (SG h=lG n (Kb h)):=aa (by unfold SG;rw[hn']);clear hsh hF hP hD Η Τ hv3 hv4 hb0 hbd hsf hm hmw hes hn'
   gi_wp2_with fail
   refine(callsIn_wide.2 (I6 h _ _ _ n _ hl0 Zj hn)).mono ?_;rintro e W3 ⟨rfl,Γ⟩;have ζ:=aa Γ;clear Γ hc0
   gi_wp2_with fail
   refine(callsIn_wide.2 (HSH.out W3 ζ.out)).mono ?_;rintro e W4 ⟨⟨ο,FQ⟩,μ⟩;have Qt:Ext [mb] W W4:=(Ext.ax ζ.out).trans FQ;have hD4:W4.heap[w1.heap.size+4]? =some (.deferred (some [])):=(Qt.block _ (aN.1 HD.out).1 ϗ).trans HD.out;have hB4:Ϙ w W4:=dM (dM MP.out HF.out.ext ϑ) Qt ϑ;have HD4:=aa hD4;have gJ:=aa hB4;clear ο FQ Qt hD4 hB4;rw[<-HFS.out] at μ;rcases μ with⟨c0,sv,hfs,rfl,sH⟩|⟨hnone,o',n',c',rfl⟩
   ·have he0:E=0:=by rw[QP.out.1,hfs];rfl
    have hl0':L=c0:=by rw[QP.out.2,hfs];rfl
    subst he0;subst hl0';obtain⟨so,sc,rfl⟩:=sH.open;have HIV:=aa sH;clear sH hfs
    gi_wp2_with fail
    refine⟨by simp,.inl ⟨_,_,rfl,run_takeDeferred HD4.out,?_⟩⟩;refine⟨.tuple #[.slice so L.length sc,iv 0],by simp[results,Tryz.results54,go_sem],⟨_,rfl,?_,dM gJ.out (Cm W4 _ _) (by have:=MP.out.size;omega)⟩⟩;exact aH.fq HIV.out (Cm W4 _ _) (fun x hx o=>by
     obtain rfl:x=w1.heap.size+4:=by simpa using hx
     simp[World.cell?,HD4.out])
   ·have he0:E=10:=by rw[QP.out.1,hnone];rfl
    have hl0':L=[]:=by rw[QP.out.2,hnone];rfl
    subst he0;subst hl0';clear hnone
    gi_wp2_with fail
    refine⟨by simp,.inl ⟨_,_,rfl,run_takeDeferred HD4.out,?_⟩⟩;exact⟨.tuple #[.slice none 0 0,iv 10],by simp[results,Tryz.results54,go_sem],⟨_,rfl,oJ _,dM gJ.out (Cm W4 _ _) (by have:=MP.out.size;omega)⟩⟩
  case hstop=>rintro cd Ms W h;exact h.elim
end Go.Proofs.Z.gZ
namespace Go.Proofs.Z.gZ
open Go.RowKit Go.RG Go.SL Go.Shelf gK
theorem Nc (P:Program) {w:World} {g:Nat} {t:TypeId} {cur:Array Value} (ys:List Value) (hone: ∀u∈ys,u.oneCell'=true) (hg:w.heap[g]? =some (.cells cur t (0,0))) (hl:cur.size=ys.length):
 ∃w',(storeCells ⟨g,0,none⟩ ys).run P w= .ok () w'/\w'.heap[g]? =some (.cells ys.toArray t (0,0))/\Ext [g] w w':=by
 have h:=run_storeCells_at P g 0 t ys 0 cur w hg ϑ hone;exact zbZ
theorem Uz (r:dF) (w:World):Ϝ 86 #[rv r] w (PV (rv r) w):=by
 go_enter Tryz.func86,Tryz.ntmps86;exact zbl
theorem Vu (l:List Int) (v:Value) (w:World) (hv:aL w v l) (IY:l.length<=1000):
 Ϝ 87 #[v] w (A8 3 1 l.length (ag l) w):=by
 obtain⟨o,c,rfl⟩:=hv.open;have HV:=aa hv;clear hv;go_enter Tryz.func87,Tryz.ntmps87;go_wp2_with (at_builtin;refine ek rfl _ _ oF rfl w.heap.size (.slice none 0 0) 0 [] rfl ⟨rfl,.inl ⟨rfl,rfl⟩⟩ (.slice o l.length c) l.length (ag l) rfl HV.o (ic _) ϑ ϑ (ah _) ?_)
 intro v' w1 Gm ε;obtain⟨o1,c1,rfl⟩:=aM Gm;have HO:=aa Gm;have HG:=aa ε;clear Gm ε;go_wp2;go_returns;refine⟨.slice o1 l.length c1,by simp,?_,Below.grown (aF _ _) HG.o (ah _) (fun k e=>by cases e)⟩;have:=HO.o;simpa using this
theorem Ae {W:World} {b g:Nat} (hg:g≠b) (y0 y1 y2 y3 y4 y5 y6 y7 y8 y9:Value):
 ((((((((((W.setCell ⟨b,0,none⟩ y0).setCell ⟨b,1,none⟩ y1).setCell ⟨b,2,none⟩ y2).setCell ⟨b,3,none⟩ y3).setCell ⟨b,4,none⟩ y4).setCell ⟨b,5,none⟩ y5).setCell ⟨b,6,none⟩ y6).setCell ⟨b,7,none⟩ y7).setCell ⟨b,8,none⟩ y8).setCell ⟨b,9,none⟩ y9).heap[g]? =W.heap[g]? :=by
 exact(bV _ _ _ _ hg).trans ((bV _ _ _ _ hg).trans ((bV _ _ _ _ hg).trans ((bV _ _ _ _ hg).trans ((bV _ _ _ _ hg).trans ((bV _ _ _ _ hg).trans ((bV _ _ _ _ hg).trans ((bV _ _ _ _ hg).trans ((bV _ _ _ _ hg).trans (bV _ _ _ _ hg)))))))))
theorem Q4 {w W:World} {b:Nat} (hb:w.heap.size<=b) (h:Ϙ w W) (y0 y1 y2 y3 y4 y5 y6 y7 y8 y9:Value):
 Ϙ w ((((((((((W.setCell ⟨b,0,none⟩ y0).setCell ⟨b,1,none⟩ y1).setCell ⟨b,2,none⟩ y2).setCell ⟨b,3,none⟩ y3).setCell ⟨b,4,none⟩ y4).setCell ⟨b,5,none⟩ y5).setCell ⟨b,6,none⟩ y6).setCell ⟨b,7,none⟩ y7).setCell ⟨b,8,none⟩ y8).setCell ⟨b,9,none⟩ y9):=
 dP (dP (dP (dP (dP (dP (dP (dP (dP (dP h hb _) hb _) hb _) hb _) hb _) hb _) hb _) hb _) hb _) hb _
end Go.Proofs.Z.gZ
namespace Go.Proofs.Z.gZ
open Go.RowKit Go.RG Go.SL Go.Shelf gK
end Go.Proofs.Z.gZ
namespace Go.Proofs.Z.gZ
open Go.RowKit Go.RG Go.SL Go.Shelf gK
end Go.Proofs.Z.gZ
end

/-
  Texts of this claim, packed by a program: WC WD WE.
-/
import Derived.WalkKit
import Derived.WalkLawsBesides
import Derived.WalkSpells
import Derived.Outline
import Derived.Handy
import Derived.KernelRfl
import Derived.Lib.Hide
import Derived.Deep.MidRow
import Derived.Laws.StructEq
import Derived.Maps.AppendAt
import Derived.WalkMore
import Derived.Deep.LoopGhost
import Derived.OwnWalkIn
import Derived.Test.YthllkbbbapgelaaGreatDoorPG5
import Derived.Test.YthllkbbbapgelaaGreatDoorPG9
set_option maxHeartbeats 8000000
set_option maxRecDepth 100000
set_option linter.all false
theorem _root_.zaO {P:Prop} (h:P:=by
 have Gd:=aW HV.out.2.1;have χ:=vR.out.apart;refine⟨⟨?_,?_,fun m hm h0 lg=>?_,by have:=uw.out.2.2.2;omega⟩,ZE,?_⟩
 ·exact(Γ _ ϑ (fun e=>by have:=Gd _ e;omega) ϑ).trans uw.out.2.1
 ·exact(Γ _ ϑ (fun e=>by have:=Gd _ e;omega) ϑ).trans uw.out.2.2.1
 ·exact(Γ m (by have:=uw.out.2.2.2;omega) (fun e=>(HV.out.2.2 m e).1 hm) (fun e=>(χ (w.heap.size+2) ϕ).1 (by rw[<-e];exact hm))).trans (uw.out.1 m hm h0 lg)
 ·rw[uq.out,yV.out];exact OO.out▸hP9):P:=h
theorem _root_.zbU {P:Prop} (h:P:=by
 refine(TF.block b ϗ (fun e=>?_)).trans ((aS _ _ _ ϑ).trans (gP.out.block b wz ϕ));have:=Gd b e.symm;omega):P:=h
theorem _root_.zcf {P:Prop} (h:P:=by
 refine az (Ms:=[]) (w:=W8) ?_ (Ext.ay ((aC _ _).alloc (ah _) _)) ϕ;simpa using HOW.out):P:=h
theorem _root_.za2 {P:Prop} (h:P:=by
 refine⟨i+1,by omega,by go_num,?_⟩;rw[heq,nQ];have Τ:=lQ (az (Ms:=[]) ui.o gP.o ϕ) XW (wid r9 x);refine⟨_,_,rfl,Τ,fun g hg=>by cases hg;exact aaH,gu (gu (aV oJ.o gP.o.below) Er _) Er _,?_⟩;exact(dm _ _ _ _ (by show b6≠g9;omega)).trans ((dm _ _ _ _ (by show b6≠g9;omega)).trans ((gP.o.block b6 (aP.1 zZ.o).1 ϕ).trans zZ.o))):P:=h
theorem _root_.zbB {P:Prop} (h:P:=by
 rintro e W6 ⟨rfl,μ,Ι⟩;exact⟨_,rfl,rfl,μ,Ι⟩):P:=h
section
namespace Go.SL
open Go.RowKit Go.RG
end Go.SL
namespace Go.Proofs.Z.iM
open Go.RowKit Go.RG Go.SL Go.Shelf ig
structure ug (w0:World) (mb:Nat) (aX:Int) (wM:Value) (below fb pb bb ab:Nat) (W:World):Prop where
 ext:Ext [mb] w0 W
 cache:Cache W mb aX
 found: ∃o n c,W.heap[fb]? =some (.cells #[.slice o n c] 52 (0,0))
 pass:W.heap[pb]? =some (.cells #[wM] 163 (0,0))
 bound:W.heap[bb]? =some (.cells #[iv below] 3 (0,0))
 add:W.heap[ab]? =some (.cells #[.func (.func 149) #[] #[.pointer (some ⟨fb,0,none⟩),.pointer (some ⟨pb,0,none⟩),.pointer (some ⟨bb,0,none⟩),.pointer (some ⟨ab,0,none⟩)]] 252 (0,0))
 new:w0.heap.size<=fb/\w0.heap.size<=pb/\w0.heap.size<=bb/\w0.heap.size<=ab
 old:mb<w0.heap.size
theorem ug.table {w0 W W':World} {mb:Nat} {aX:Int} {wM:Value} {below fb pb bb ab:Nat} (h:ug w0 mb aX wM below fb pb bb ab W) (hE:Ext [mb] W W') (hc:Cache W' mb aX):ug w0 mb aX wM below fb pb bb ab W':=by
 have hn:=h.new;have ho:=h.old;obtain⟨o,n,c,hf⟩:=h.found;have k: ∀(b:Nat) (x:Obj),W.heap[b]? =some x->w0.heap.size<=b->W'.heap[b]? =some x:=fun b x hb hle=>(hE.block b (aP.1 hb).1 ϗ).trans hb;exact⟨h.ext.trans hE,hc,⟨o,n,c,k _ _ hf hn.1⟩,k _ _ h.pass hn.2.1,k _ _ h.bound hn.2.2.1,k _ _ h.add hn.2.2.2,hn,ho⟩
theorem ug.below {w0 W W':World} {mb:Nat} {aX:Int} {wM:Value} {below fb pb bb ab:Nat} (h:ug w0 mb aX wM below fb pb bb ab W) (hB:Ϙ W W'):ug w0 mb aX wM below fb pb bb ab W':=
 h.table (Ext.ay hB) (h.cache.kept (hB.block mb h.cache.lt))
end Go.Proofs.Z.iM
namespace Go.Proofs.Z.iM
open Go.RowKit Go.RG Go.SL Go.Shelf ig
def Zc (w0:World) (mb:Nat) (aX:Int) (wM:Value) (below fb pb bb ab:Nat) (r:Option (List Int)) (W:World) (e:Ending) (W':World):Prop:=
 (ug w0 mb aX wM below fb pb bb ab W'/\Ext [mb,fb] W W')/\((∃c,r=some c/\e= .returned (.bool true)/\ ∃sv,W'.heap[fb]? =some (.cells #[sv] 52 (0,0))/\aK W' sv c)∨(r=none/\e= .returned (.bool false)))
theorem ug.set {w0 W:World} {mb:Nat} {aX:Int} {wM:Value} {below fb pb bb ab:Nat} (h:ug w0 mb aX wM below fb pb bb ab W) (hd:fb≠pb/\fb≠bb/\fb≠ab) (o:Option Addr) (n c:Nat):ug w0 mb aX wM below fb pb bb ab (W.setCell ⟨fb,0,none⟩ (.slice o n c)):=by
 have hn:=h.new;have ho:=h.old;obtain⟨o',n',c',hf⟩:=h.found;exact⟨h.ext.set hn.1 _,h.cache.kept (dm _ _ _ _ (by show mb≠fb;omega)),⟨o,n,c,aG hf _⟩,
  (dm _ _ _ _ (by show pb≠fb;omega)).trans h.pass,(dm _ _ _ _ (by show bb≠fb;omega)).trans h.bound,(dm _ _ _ _ (by show ab≠fb;omega)).trans h.add,hn,ho⟩
theorem ug.not {w0 W:World} {mb:Nat} {aX:Int} {wM:Value} {below fb pb bb ab:Nat} (h:ug w0 mb aX wM below fb pb bb ab W): ∀x∈[mb,fb], ∀o n,W.cell? ⟨x,o,none⟩≠some (.int .i64 n):=by
 intro x hx o n hc;obtain⟨o',n',c',hf⟩:=h.found;rcases eB.1 hx with rfl|hx
 ·rw[h.cache.kQ o] at hc;cases hc
 ·obtain rfl:x=fb:=by simpa using hx
  simp only[World.cell?,hf] at hc;cases o with
  |zero=>simp at hc
  |succ o=>simp at hc
theorem YS (below:Nat) (ο:below<=500) (p:List Int->Bool) (mb:Nat) (aX:Int) (w0:World) (pf:Nat) (nJ jF:Array Value) (fb pb bb ab:Nat) (hd:fb≠pb/\fb≠bb/\fb≠ab)
 (eg: Ϛ Tryz.prog pf)
 (sI: ∀l v W,Ext [mb] w0 W->Cache W mb aX->aK W v l->Ϝ pf (nJ.push v++jF) W (fun e W'=>e= .returned (.bool (p l))/\Cache W' mb aX/\Ext [mb] W W')):
 ∀(m f:Nat) (l:List Int) (v:Value) (W:World),l.length+m<=900->f<=900->m<=900->ug w0 mb aX (.func (.func pf) nJ jF) below fb pb bb ab W->aK W v l->
  Ϝ 149 #[v,iv f,iv m,.pointer (some ⟨fb,0,none⟩),.pointer (some ⟨pb,0,none⟩),.pointer (some ⟨bb,0,none⟩),.pointer (some ⟨ab,0,none⟩)] W
   (Zc w0 mb aX (.func (.func pf) nJ jF) below fb pb bb ab (((iP below m f).map (l++ ·)).find? p) W):=by
 intro m;induction m with
 |zero=>
  intro f l v W h1 h2 h3 UC hv;have π:((iP below 0 f).map (l++ ·)).find? p=if p l then some l else none:=zb9;obtain⟨r,hr⟩: ∃r,((iP below 0 f).map (l++ ·)).find? p=r:=⟨_,rfl⟩;rw[hr] at π⊢;have uK:=aa π;clear hr π;obtain⟨o,c,rfl⟩:=hv.open;obtain⟨o',n',c',hf⟩:=UC.found;have c1:=aA hf;have c2:=aA UC.pass;have tX:=dn W _ c1;have hfr:=aZ hf 0;have hS:=UC.set hd o l.length c;have Β:aK (W.setCell ⟨fb,0,none⟩ (.slice o l.length c)) (.slice o l.length c) l:=aK.ry hv ((kH W ⟨fb,0,none⟩ _).more (jc:=[mb,fb]) ϕ) UC.not;have HC:=aa (sI l _ _ hS.ext hS.cache Β);have HS:=aa UC;have IZ:=aa (af hS Β);have HF:=aa hf;have hd1: ¬pb=fb:=fun e=>hd.1 e.symm;have hd2:=hd.1;clear sI UC hv hS Β hf;go_enter Tryz.func149,Tryz.ntmps149;go_wp2_with fail
  refine HC.o.mono ?_;rintro e W' ⟨rfl,μ,hE⟩;have hS2:=IZ.o.1.table hE μ;have hn:=HS.o.new;have ho:=HS.o.old;have hfb:W'.heap[fb]? =some (.cells #[.slice o l.length c] 52 (0,0)):=(hE.block fb (by simpa [World.setCell] using tX) ϗ).trans (aG HF.o _);have hEE:Ext [mb,fb] W W':=((kH W ⟨fb,0,none⟩ (.slice o l.length c)).more ϕ).trans (hE.more ϕ);have Μ:aK W' (.slice o l.length c) l:=aK.ry IZ.o.2 (hE.more (jc:=[mb,fb]) ϕ) IZ.o.1.not;exact zba
 |succ m ih=>
  intro f l v W h1 h2 h3 UC hv;obtain⟨o,c,rfl⟩:=hv.open;have π:((iP below (m+1) f).map (l++ ·)).find? p=((List.range (below-m-f)).flatMap fun j=>(iP below m (f+j+1)).map ((l++[((f+j:Nat):Int)])++ ·)).find? p:=by
   conv=>lhs;unfold iP
   rw[List.map_flatMap];simp only[List.map_map];congr 2;funext j;apply List.map_congr_left;intro x _;simp
  rw[π];clear π;obtain⟨r,hr⟩: ∃r,((List.range (below-m-f)).flatMap fun j=>(iP below m (f+j+1)).map ((l++[((f+j:Nat):Int)])++ ·)).find? p=r:=⟨_,rfl⟩;rw[hr];have uK:=aa hr;clear hr;have hmm:(m:Int)+1<=900:=ϑ;have hm0:((m:Int)+1==0)=false:=by simp;omega
  have ahB: ¬((m:Int)+1=0):=ϑ;rw[show(((m+1:Nat)):Int)=(m:Int)+1 from by omega];have κ:=aa UC;have HV:=aa hv;have Tp:=aa ih;have HD:=aa hd;clear sI UC hv ih hd;go_enter Tryz.func149,Tryz.ntmps149;go_wp2_with fail
  go_loopw [11] (fun i wr=> ∃q:Nat,f<=q/\q<=f+(below-m-f)/\i= .int .i64 q/\ug w0 mb aX (.func (.func pf) nJ jF) below fb pb bb ab wr/\Ext [mb,fb] W wr/\
   (∀j,f+j<q->((iP below m (f+j+1)).map ((l++[((f+j:Nat):Int)])++ ·)).find? p=none)) (fun i _=>below+f+1-(intOf i).toNat)
  case atStart=>exact⟨f,ah _,by omega,rfl,κ.o,Ext.refl _ _,fun j hj=>ϑ⟩
  case round=>
   obtain⟨q,hfq,hq,rfl,UC,hE,GX⟩:=hrel;have hv:=aK.ry HV.o hE κ.o.not;have d1:=aA UC.bound;have d2:=aA UC.add;have e1:=dn wr _ d1;have e2:=dn wr _ d2;have HS:=aa UC;have HE:=aa hE;have HN:=aa GX;have ZV:=aa hv;clear UC hE GX hv;by_cases tX:q<f+(below-m-f)
   ·have hqI:(q:Int)<=(below:Int)-((m:Int)+1):=ϑ;have hq9:(q:Int)<=500:=ϑ;go_wp2_with fail
    refine nU 10 [] (some 5) [(2,⟨fun _ v=> ∃o c,v= .slice o l.length c,fun _ _ _=>True⟩),(4,⟨fun _ v=> ∃b:Nat,v= .slice (some ⟨b,0,none⟩) 1 1,fun _ _ _=>True⟩),(5,⟨fun _ v=> ∃o c,v= .slice o (l.length+1) c,fun _ v W=>W.ownsRow wr.heap.size 3 1 v (l.length+1) (ag (l++[(q:Int)]))⟩)] (acQ wr.heap.size l.length l q) ϰ ϰ ?_;simp only[zt];repeat (refine zd ?_;simp only[zp])
    refine jD _ ϱ ϱ (by exact⟨.slice none l.length 0,none,0,rfl⟩) (fun W1 hE hF hG=>?_) (fun _ _ _ _ _=>trivial) (fun v Wa Wb ho hE=>az (Ms:=[]) ho hE ϕ) (fun v hv=>?_)
    ·exact zbm
    obtain⟨o2,c2,rfl⟩:=hv;simp only[zp];repeat (refine zd ?_;simp only[zp])
    refine jD _ ϱ ϱ (by exact⟨.slice (some ⟨0,0,none⟩) 1 1,0,rfl⟩) (fun W1 hE hF hG=>?_) (fun _ _ _ _ _=>trivial) (fun v Wa Wb ho hE=>?_) (fun v hv=>?_)
    ·exact zby
    ·exact zco
    obtain⟨b4,rfl⟩:=hv;simp only[zp];refine jD _ ϱ ϱ (by exact⟨.slice none (l.length+1) 0,none,0,rfl⟩) (fun W1 hE hF hG=>?_) (fun v Wa Wb ho hE=>az (Ms:=[]) ho hE ϕ) (fun _ _ _ _ _=>trivial) (fun v hv=>?_)
    ·exact zaN
    obtain⟨o5,c5,rfl⟩:=hv;simp only[zp];repeat (refine zn ?_;simp only[zp])
    intro W1 hE1 hF;have G8:qZ wr.heap.size [] wr W1:=hE1;have hB:=nO G8 (ah _);obtain⟨hc,hf⟩:=bA hB;have ho:W1.ownsRow wr.heap.size 3 1 (.slice o5 (l.length+1) c5) (l.length+1) (ag (l++[(q:Int)])):=hF _ (bu _);have rQ:aK W1 (.slice o5 (l.length+1) c5) (l++[(q:Int)]):=by
     have:=aH.bV ho;unfold aK;rw[bR];exact this
    have pG:=Tp.o (q+1) (l++[(q:Int)]) _ W1 ϗ ϑ ϑ (HS.o.below hB) rQ;exact zay
   ·exact zbi
end Go.Proofs.Z.iM
namespace Go.Proofs.Z.iM
open Go.RowKit Go.RG Go.SL Go.Shelf ig
def abG (mb:Nat) (aX:Int) (r:Option (List Int)) (w:World) (e:Ending) (W':World):Prop:=
 (Cache W' mb aX/\Ext [mb] w W')/\((∃c v,r=some c/\e= .returned (.tuple #[v,.bool true])/\aK W' v c)∨(r=none/\ ∃o n c,e= .returned (.tuple #[.slice o n c,.bool false])))
theorem ug.fin {w0 W:World} {mb:Nat} {aX:Int} {wM:Value} {below fb pb bb ab:Nat} (h:ug w0 mb aX wM below fb pb bb ab W):Cache W mb aX/\Ext [mb] w0 W:=⟨h.cache,h.ext⟩
theorem GZ (below:Nat) (ο:below<=500) (p:List Int->Bool) (mb:Nat) (aX:Int) (w:World) (μ:Cache w mb aX) (pf:Nat) (nJ jF:Array Value)
 (eg: Ϛ Tryz.prog pf)
 (sI: ∀l v W,Ext [mb] w W->Cache W mb aX->aK W v l->Ϝ pf (nJ.push v++jF) W (fun e W'=>e= .returned (.bool (p l))/\Cache W' mb aX/\Ext [mb] W W')):
 Ϝ 92 #[iv below,.func (.func pf) nJ jF] w (abG mb aX (lu below p) w):=by
 have hmb:=μ.lt;have HA:=aa (fun(m:Nat) (W:World) (hm:m<=501) (UC:ug w mb aX (.func (.func pf) nJ jF) below (w.heap.size+1+1) (w.heap.size+1) w.heap.size (w.heap.size+1+1+1) W)=>
  YS below ο p mb aX w pf nJ jF (w.heap.size+1+1) (w.heap.size+1) w.heap.size (w.heap.size+1+1+1) ϑ eg sI m 0 [] (.slice none 0 0) W ϗ ϑ ϑ UC (oz W))
 obtain⟨r,hr⟩: ∃r,lu below p=r:=⟨_,rfl⟩;rw[hr];have HR:=aa hr;have HCC:=aa μ;clear sI eg μ hr;go_enter Tryz.func92,Tryz.ntmps92;go_wp2_with fail
 go_step3
 go_wp2_with fail
 go_step3
 go_wp2_with fail
 obtain⟨w4,kT⟩: ∃w4,((((w.alloc (.cells #[iv below] 3)).alloc (.cells #[.func (.func pf) nJ jF] 163)).alloc (.cells #[.slice none 0 0] 52)).alloc
  (.cells #[.func (.func 149) #[] #[.pointer (some ⟨w.heap.size+1+1,0,none⟩),.pointer (some ⟨w.heap.size+1,0,none⟩),.pointer (some ⟨w.heap.size,0,none⟩),.pointer (some ⟨w.heap.size+1+1+1,0,none⟩)]] 252))=w4:=⟨_,rfl⟩
 have UM:ug w mb aX (.func (.func pf) nJ jF) below (w.heap.size+1+1) (w.heap.size+1) w.heap.size (w.heap.size+1+1+1) w4:=by
  have hB:Ϙ w w4:=by rw[<-kT];exact zl
  refine⟨Ext.ay hB,HCC.o.kept (hB.block mb hmb),⟨none,0,0,?_⟩,?_,?_,?_,by omega,hmb⟩
  ·exact zbO
  ·exact zbv
  ·exact za6
  ·rw[<-kT];have:=av (((w.alloc (.cells #[iv below] 3)).alloc (.cells #[.func (.func pf) nJ jF] 163)).alloc (.cells #[.slice none 0 0] 52)) (.cells #[.func (.func 149) #[] #[.pointer (some ⟨w.heap.size+1+1,0,none⟩),.pointer (some ⟨w.heap.size+1,0,none⟩),.pointer (some ⟨w.heap.size,0,none⟩),.pointer (some ⟨w.heap.size+1+1+1,0,none⟩)]] 252);simpa using this
 rw[kT];have ZW:=aa UM;clear UM kT;go_loopw [5,11] (fun b i wr=> ∃k:Nat,k<=below+1/\b= .bool false/\i= .int .i64 k/\ug w mb aX (.func (.func pf) nJ jF) below (w.heap.size+1+1) (w.heap.size+1) w.heap.size (w.heap.size+1+1+1) wr/\
  (∀j,j<k->(iP below j 0).find? p=none)) (fun _ i _=>below+1-(intOf i).toNat)
 case atStart=>exact⟨0,bD _,rfl,rfl,ZW.o,fun j hj=>ϑ⟩
 case round=>
  obtain⟨k,hk,rfl,rfl,UC,GX⟩:=hrel;have d2:=aA UC.add;have e2:=dn wr _ d2;have HS:=aa UC;have HN:=aa GX;clear UC GX;by_cases tX:k<below+1
  ·have hkI:(k:Int)<(below:Int)+1:=ϑ;have HC:=aa (HA.o k wr ϑ HS.o);go_wp2_with fail
   refine HC.o.mono ?_;rintro e W2 ⟨⟨hS2,_⟩,π⟩;have HS2:=aa hS2;rcases π with⟨cc,μ,rfl,sv,hsv,rQ⟩|⟨hnone,rfl⟩
   ·have hr:r=some cc:=by
     rw[<-HR.o];exact Fv ϑ HN.o (by simpa using μ)
    obtain⟨so,sc,rfl⟩:=rQ.open;have f1:=aA hsv;have f2:=aZ hsv 0;have f3:=dn W2 _ f1;have HX:=aa (af hr (af hsv rQ));clear hr hsv rQ hS2 μ d2;go_wp2_with fail
    (try rw[Exit.noGoto_ret])
    have MR:(W2.setCell ⟨w.heap.size+1+1,0,none⟩ (.slice so cc.length sc)).cell? ⟨w.heap.size+1+1,0,none⟩=some (.slice so cc.length sc):=aA (aG HX.o.2.1 _);refine bodyPost_ret (v:= .tuple #[.slice so cc.length sc,.bool true]) (by simp[results,Tryz.results92,go_sem,MR]) rfl ?_;refine⟨(HS2.o.set ϑ so cc.length sc).fin,.inl ⟨cc,_,HX.o.1,rfl,?_⟩⟩;exact aK.ry HX.o.2.2 ((kH W2 ⟨w.heap.size+1+1,0,none⟩ _).more (jc:=[mb,w.heap.size+1+1]) ϕ) HS2.o.not
   ·have HX:=aa hnone;clear hnone hS2 d2;go_wp2_with fail
    go_roundw
    case rel=>
     refine⟨k+1,by omega,rfl,by go_num,HS2.o,fun j hj=>?_⟩;by_cases hjq:j=k
     ·subst hjq;simpa using HX.o
     ·exact HN.o j ϑ
    case measure=>simp[intOf];omega
  ·have hkI: ¬((k:Int)<(below:Int)+1):=ϑ;obtain⟨o',n',c',hf⟩:=HS.o.found;have f1:=aA hf;have f2:=aZ hf 0;have f3:=dn wr _ f1;have hk1:k=below+1:=ϑ;subst hk1;have hr:r=none:=by
    rw[<-HR.o];exact Fu HN.o
   go_wp2_with fail
   (try rw[Exit.noGoto_ret])
   have MR:(wr.setCell ⟨w.heap.size+1+1,0,none⟩ (.slice o' n' c')).cell? ⟨w.heap.size+1+1,0,none⟩=some (.slice o' n' c'):=aA (aG hf _);refine bodyPost_ret (v:= .tuple #[.slice o' n' c',.bool false]) (by simp[results,Tryz.results92,go_sem,MR]) rfl ?_;exact⟨(HS.o.set ϑ o' n' c').fin,.inr ⟨rfl,_,_,_,rfl⟩⟩
end Go.Proofs.Z.iM
namespace Go.Proofs.Z.iM
open Go.RowKit Go.RG Go.SL Go.Shelf ig
attribute [local go_sem] Oper.semAt_some
theorem TJ:gJ Tryz.prog 174 178 (.agg #[iv 0,iv 0,iv 0,iv 0,iv 0,iv 0,iv 0,iv 0,iv 0,iv 0]) 10 80:=⟨Tryz.underlying174,by kernel_rfl,rfl,by omega⟩
structure Y9 (w:World) (wb:Nat) (tv:Value) (ls:List (List Int)) (Ms:List Nat) (W:World):Prop where
 b0:W.heap[w.heap.size]? =some (.cells #[.pointer (some ⟨wb,0,none⟩)] 170 (0,0))
 b1:W.heap[w.heap.size+1]? =some (.cells #[tv] 52 (0,0))
 out: ∃v,W.heap[w.heap.size+1+1]? =some (.cells #[v] 174 (0,0))/\W.ownsRow (w.heap.size+7) 178 10 v ls.length (ls.flatMap ag)/\ ∀g,v.ownBlock=some g->g∉Ms/\g<W.heap.size
 b3:W.heap[w.heap.size+1+1+1]? =some (.cells #[.pointer (some ⟨wb,0,none⟩)] 170 (0,0))
 b4:W.heap[w.heap.size+1+1+1+1]? =some (.cells #[.slice none 0 0] 52 (0,0))
theorem Y9.kept {w:World} {wb:Nat} {tv:Value} {ls:List (List Int)} {Ms jc:List Nat} {W W':World} (h:Y9 w wb tv ls Ms W) (hs:W.heap.size<=W'.heap.size) (hk: ∀b,w.heap.size<=b->b<w.heap.size+5->W'.heap[b]? =W.heap[b]?)
 (ho: ∀g,w.heap.size+7<=g->g<W.heap.size->g∉Ms->W'.heap[g]? =W.heap[g]?) (hM: ∀m∈jc,m∈Ms∨(W.heap.size<=m/\m<W'.heap.size)):Y9 w wb tv ls jc W':=by
 obtain⟨v,h1,h2,h3⟩:=h.out;refine⟨(hk _ ϑ ϑ).trans h.b0,(hk _ ϑ ϑ).trans h.b1,⟨v,(hk _ ϑ ϑ).trans h1,bU h2 fun g hg=>ho g (aW h2 g hg).1 (aW h2 g hg).2 (h3 g hg).1,fun g hg=>⟨fun hm=>?_,by have:=(h3 g hg).2;omega⟩⟩,
  (hk _ ϑ ϑ).trans h.b3,(hk _ ϑ ϑ).trans h.b4⟩
 exact zbk
def acg (ls:List (List Int)) (mb:Nat) (aX:Int) (w:World) (e:Ending) (w':World):Prop:=
 ∃v,e= .returned v/\w'.ownsRow w.heap.size 178 10 v ls.length (ls.flatMap ag)/\Cache w' mb aX/\Ext [mb] w w'
theorem xV {h:bN} (hS:Sound h) {out:List Int} {t:Int×List Int} (ht:t∈dE h out):t.2.length=h.bM.length/\(0<=t.1/\t.1<=500)/\ ∀x∈t.2,0<=x/\x<=20:=by
 unfold dE at ht;obtain⟨x,hx,rfl⟩:=gU.1 ht;obtain⟨s,rest,rfl,h1,h2,h3⟩:=Ci hS (List.mem_filter.1 hx).1;exact⟨h1,h2,h3⟩
theorem Px {w W7 W8 W9:World} {wb mb:Nat} {aX:Int} {tv v v':Value} {ls:List (List Int)} {ys:List Int} {Os Ms:List Nat} {obj:Obj} (hF:Fr w mb aX Os Ms W7) (hP:Y9 w wb tv ls Ms W7)
 (Β:W7.heap[w.heap.size+1+1]? =some (.cells #[v] 174 (0,0))) (hv3: ∀g,v.ownBlock=some g->(w.heap.size+7<=g/\g<W7.heap.size)/\g∉Ms)
 (hE:Ext [] W7 W8) (hG:(W8.alloc obj).grownBy W9 v.ownBlock) (hN:v'.ownBlock=v.ownBlock∨v'.ownBlock=some (W8.heap.size+1)) (hO:W9.ownsRow (w.heap.size+7) 178 10 v' (ls.length+1) (ls.flatMap ag++ag ys))
 (hmb:mb<w.heap.size) (hs:w.heap.size+7<=W7.heap.size):
 (Fr w mb aX Os Ms (W9.setCell ⟨w.heap.size+1+1,0,none⟩ v')/\Y9 w wb tv (ls++[ys]) Ms (W9.setCell ⟨w.heap.size+1+1,0,none⟩ v'))/\
   (∀b,b<W7.heap.size->v.ownBlock≠some b->b≠w.heap.size+2->(W9.setCell ⟨w.heap.size+1+1,0,none⟩ v').heap[b]? =W7.heap[b]?)/\W7.heap.size<=(W9.setCell ⟨w.heap.size+1+1,0,none⟩ v').heap.size:=by
 have h1:=hE.size;have h2:=hG.size;simp only[bg] at h2;have hk: ∀b,b<W7.heap.size->v.ownBlock≠some b->W9.heap[b]? =W7.heap[b]? :=fun b hb hn=>
  (hG.block b ϗ (fun e=>hn e.symm)).trans ((aS _ _ _ ϑ).trans (hE.block b hb ϕ))
 have Γ: ∀b,b<W7.heap.size->v.ownBlock≠some b->b≠w.heap.size+2->(W9.setCell ⟨w.heap.size+1+1,0,none⟩ v').heap[b]? =W7.heap[b]? :=fun b hb hn hne=>
  (dm _ _ _ _ (by show b≠w.heap.size+1+1;omega)).trans (hk b hb hn)
 have hlow: ∀b,b<w.heap.size+7->v.ownBlock≠some b:=fun b hb e=>by have:=(hv3 b e).1.1;omega
 have ν:W7.heap.size<=(W9.setCell ⟨w.heap.size+1+1,0,none⟩ v').heap.size:=by simp[World.setCell];omega
 refine⟨⟨hF.own ⟨hG.os.trans (hE.os.trans hF.ext.os),hG.tape.trans (hE.tape.trans hF.ext.tape),hG.output.trans (hE.output.trans hF.ext.output),by have:=hF.ext.size;omega,fun k Ρ hm=>(Γ k ϑ (hlow k ϑ) ϑ).trans (hF.ext.block k Ρ hm)⟩ ν (hF.cache.kept (Γ mb ϑ (hlow mb ϑ) ϑ)),?_⟩,Γ,ν⟩;have hb:=aW hO;refine⟨(Γ _ ϑ (hlow _ ϑ) ϑ).trans hP.b0,(Γ _ ϑ (hlow _ ϑ) ϑ).trans hP.b1,⟨v',?_,?_,fun g hg=>⟨fun hm=>?_,by have:=(hb g hg).2;simpa [World.setCell] using this⟩⟩,(Γ _ ϑ (hlow _ ϑ) ϑ).trans hP.b3,(Γ _ ϑ (hlow _ ϑ) ϑ).trans hP.b4⟩
 ·exact aG ((hk _ ϑ (hlow _ ϑ)).trans Β) _
 ·rw[bR,rO];have:[ys].flatMap ag=ag ys:=ϕ;rw[this];exact bU hO fun g hg=>dm _ _ _ _ (by have:=(hb g hg).1;show g≠w.heap.size+1+1;omega)
 ·rcases hN with hN|hN
  ·exact(hv3 g (by rw[<-hN,hg])).2 hm
  ·rw[hg] at hN;injection hN with hN;have:=hF.bnd g hm;omega
theorem Gi (h:bN) (hS:Sound h) (a b c tv:Value) (turns:List Int) (wb mb:Nat) (w:World) (hw:gN w wb mb h a b c) (h1:bF w a h.bM) (h2:aK w b h.turns) (h3:bB w c h.readings) (h4:aK w tv turns):
 Ϝ 77 #[.pointer (some ⟨wb,0,none⟩),tv] w (acg (iJ h turns) mb h.aX w):=by
 obtain⟨ot,ct,rfl⟩:=h4.open;have HW:=aa hw;have H1:=aa h1;have H2:=aa h2;have H3:=aa h3;have H4:=aa h4;have mK:=aa hS;have hmb:=hw.cache.lt;clear hw h1 h2 h3 h4 hS;refine(callsIn_wide (n:=0)).1 ?_;refine callsIn_of_wp_marks Tryz.func77 rfl trivial ?_;simp only[Tryz.ntmps77,List.size_toArray,List.length_cons,List.length_nil,Nat.reduceAdd,Nat.reduceSub,Array.replicate_succ,Array.replicate_zero,jr,jv,List.nil_append,List.cons_append]
 gi_wp2_with fail
 refine(callsIn_wide.2 (xh wb _ _ _ _)).mono ?_;rintro e w1 ⟨rfl,rfl⟩
 gi_wp2_with fail
 obtain⟨w2,hw2⟩: ∃w2,(((((w.alloc (.cells #[.pointer (some ⟨wb,0,none⟩)] 170)).alloc (.cells #[.slice ot turns.length ct] 52)).alloc (.cells #[.slice none 0 0] 174)).alloc (.cells #[.pointer (some ⟨wb,0,none⟩)] 170)).alloc (.cells #[.slice none 0 0] 52))=w2:=⟨_,rfl⟩;have hB2:Ϙ w w2:=by rw[<-hw2];exact zl
 have hsz2:w2.heap.size=w.heap.size+5:=by rw[<-hw2];simp
 have hP2:Y9 w wb (.slice ot turns.length ct) [] [mb] w2:=by
  rw[<-hw2];have n3:=av (((w.alloc (.cells #[.pointer (some ⟨wb,0,none⟩)] 170)).alloc (.cells #[.slice ot turns.length ct] 52)).alloc (.cells #[.slice none 0 0] 174)) (.cells #[.pointer (some ⟨wb,0,none⟩)] 170);have n4:=dG (((w.alloc (.cells #[.pointer (some ⟨wb,0,none⟩)] 170)).alloc (.cells #[.slice ot turns.length ct] 52)).alloc (.cells #[.slice none 0 0] 174)) (.cells #[.pointer (some ⟨wb,0,none⟩)] 170) (.cells #[.slice none 0 0] 52);simp only[bg] at n3 n4;refine⟨?_,?_,⟨.slice none 0 0,?_,⟨rfl,.inl ⟨rfl,rfl⟩⟩,fun g hg=>by cases hg⟩,?_,n4⟩
  ·exact(aS _ _ _ (by first|omega|(simp;done)|(simp;omega))).trans ((aS _ _ _ (by first|omega|(simp;done)|(simp;omega))).trans ((aS _ _ _ (by first|omega|(simp;done)|(simp;omega))).trans ((aS _ _ _ (by first|omega|(simp;done)|(simp;omega))).trans (av _ _))))
  ·exact(aS _ _ _ (by first|omega|(simp;done)|(simp;omega))).trans ((aS _ _ _ (by first|omega|(simp;done)|(simp;omega))).trans ((aS _ _ _ (by first|omega|(simp;done)|(simp;omega))).trans (dG _ _ _)))
  ·exact(aS _ _ _ (by first|omega|(simp;done)|(simp;omega))).trans ((aS _ _ _ (by first|omega|(simp;done)|(simp;omega))).trans (fU _ _ _ _))
  ·exact(aS _ _ _ (by first|omega|(simp;done)|(simp;omega))).trans n3
 rw[hw2];clear hw2;refine kL (xg h mK.out a b c (.slice none 0 0) [] wb mb (w.heap.size+1+1+1) (w.heap.size+1+1+1+1)) rfl (enters_of Tryz.func144 ϰ rfl) rfl ϗ
  (fun Ms k W=>Fr w mb h.aX [w.heap.size,w.heap.size+1,w.heap.size+2,w.heap.size+3,w.heap.size+4,w.heap.size+5,w.heap.size+6] Ms W/\Y9 w wb (.slice ot turns.length ct) (iA h turns k) Ms W)
  (fun _ _ _=>False)
  ?hInv ?mZ ?hI ?hIx ?Et ?qE ?h0
  (fun a Ms k W1 a₁ W=> ∃(t:Int×List Int) (ob bt:Nat),(dE h [])[k]? =some t/\a₁={tmps:=(a.tmps.setIfInBounds 9 (.agg #[iv t.1,.slice (some ⟨ob,1,none⟩) t.2.length t.2.length])).setIfInBounds 5 (.pointer (some ⟨bt,0,none⟩)),defers:=[]}/\
    (Fr w mb h.aX [w.heap.size,w.heap.size+1,w.heap.size+2,w.heap.size+3,w.heap.size+4,w.heap.size+5,w.heap.size+6] Ms W/\Y9 w wb (.slice ot turns.length ct) (iA h turns k) Ms W)/\
    (W.heap[bt]? =some (.cells #[iv t.1,.slice (some ⟨ob,1,none⟩) t.2.length t.2.length] 208 (0,0))/\(w.heap.size+7<=bt/\ob∈Ms/\ob≠mb)/\aK W (.slice (some ⟨ob,1,none⟩) t.2.length t.2.length) t.2)/\(∀m∈Ms,m∉[mb]->m<W1.heap.size->W.heap[m]? =W1.heap[m]?)/\W1.heap.size<=W.heap.size)
  ?Iu ?hassign ?hbody ?hdone ?hstop
 case hInv=>rintro Ms k W ⟨hF,hP⟩;exact hF.Xf HW.out H1.out H2.out H3.out (oz w) hP.b3 hP.b4
 case mZ=>rintro cd Ms W h;exact h.elim
 case hI=>
  rintro Ms jc k Wa Wb ⟨hF,hP⟩ hE γ hc;refine⟨(hF.gM hE γ hc).1,hP.kept hE.size (fun b h1 h2=>(hF.gM hE γ hc).2 b ϗ) (fun g h1 h2 h3=>hE.block g h2 h3) γ⟩
 case hIx=>rintro cd Ms jc Wa Wb h;exact h.elim
 case Et=>
  rintro Ms k W r o ⟨hF,hP⟩ hr;exact⟨hF.put o ϑ hmb,hP.kept ϕ (fun b h1 h2=>World.putObj_heap_other ϑ) (fun g h1 h2 h3=>World.putObj_heap_other ϑ) (fun m hm=> .inl hm)⟩
 case qE=>rintro cd Ms W r o h;exact h.elim
 case h0=>
  intro o o';have hB:Ϙ w ((w2.alloc o).alloc o'):=ai (ai hB2 _) _;refine⟨⟨Ext.ay hB,fun m hm=> .inl (by simpa using hm),fun m hm=>(by have:=hB.size;simp at hm;omega),fun b hb=>⟨by simp at hb⊢;omega,by simp at hb⊢;omega⟩,HW.out.cache.kept (hB.block mb hmb)⟩,
   hP2.kept ϗ (fun b h1 h2=>(aS _ _ _ ϗ).trans (aS _ _ _ ϑ)) (fun g h1 h2 h3=>ϑ) (fun m hm=> .inl hm)⟩
 case Iu=>
  rintro Ms k W1 a₁ W o ⟨t,ob,bt,ht,ha,⟨hF,hP⟩,⟨hbt,⟨wz,wO,hne⟩,Nl⟩,hk,hs⟩;have χ:=(hF.apart (w.heap.size+6) ϕ).1;refine⟨t,ob,bt,ht,ha,⟨hF.put o ϑ hmb,hP.kept ϕ (fun b h1 h2=>World.putObj_heap_other ϑ) (fun g h1 h2 h3=>World.putObj_heap_other ϑ) (fun m hm=> .inl hm)⟩,
   ⟨(World.putObj_heap_other ϑ).trans hbt,⟨wz,wO,hne⟩,Nl.kept fun b off n c hv _=>by cases hv;exact World.putObj_heap_other (fun e=>χ (by rw[show w.heap.size+6=ob by omega];exact wO))⟩,
   fun m hm h0 lg=>(World.putObj_heap_other (fun e=>χ (by rw[show w.heap.size+6=m by omega];exact hm))).trans (hk m hm h0 lg),by simpa using hs⟩
 case hassign=>
  rintro Ms k v W hk ⟨hF,hP⟩ ⟨ob,rfl,Nl,wO,hne⟩ tX;generalize ht:(dE h [])[k]=t at*
  have htk:(dE h [])[k]? =some t:=by rw[bZ hk,ht]
  gi_wp2
  have hB:Ϙ W (W.alloc (.cells #[iv t.1,.slice (some ⟨ob,1,none⟩) t.2.length t.2.length] 208)):=ai (aC _ _) _;have hc:=hF.cache.kept (hB.block mb hF.cache.lt);exact⟨⟨t,ob,W.heap.size,htk,rfl,⟨(hF.gM (Ext.ay hB) (fun m hm=> .inl hm) hc).1,hP.kept ϕ (fun b h1 h2=>aS _ _ _ ϑ) (fun g h1 h2 h3=>aS _ _ _ ϑ) (fun m hm=> .inl hm)⟩,
   ⟨av _ _,⟨by omega,wO,hne⟩,Nl.alloc _⟩,fun m hm h0 lg=>aS _ _ _ ϑ,by simp⟩,aS _ _ _ ϑ,aS _ _ _ ϑ⟩
 case hbody=>
  rintro Ms k W1 a₁ W busy hk ⟨t,ob,bt,ht,rfl,⟨hF,hP⟩,⟨hbt,⟨wz,wO,hne⟩,Nl⟩,XJ,ν⟩ ε hD;simp only[oU,List.set_cons_succ,List.set_cons_zero];have htm:t∈dE h []:=kX ht;obtain⟨hl2,hs0,hrest⟩:=xV mK.out htm;have hlast:=mK.out.yn;have hwl:=mK.out.Bz;have c0:=aA hP.b0;have c1:=aA hP.b1;have k0:=dn W _ c0;have k1:=dn W _ c1;have kt:=(aP.1 hbt).1;have hg: ∀i,W.cell? ⟨bt,i,none⟩=(#[iv t.1,.slice (some ⟨ob,1,none⟩) t.2.length t.2.length]:Array Value)[i]? :=fun i=>by
   simp only[World.cell?,hbt];rfl
  have Zl:gN W wb mb h a b c:=HW.out.ext hF.ext hF.cache;have Gb:aK W (.slice ot turns.length ct) turns:=H4.out.eZ hF.ext (fun x hx o=>by
   obtain rfl:x=mb:=by simpa using hx
   exact HW.out.cache.kQ o)
  have amJ:=hF.cache.lt;have Ti:=aa (si h a b c wb mb t.1 t.2 turns _ _ W Zl Nl Gb ϑ mK.out.Jt mK.out.Js mK.out.KV mK.out.KU hs0.1 hs0.2 hrest);obtain⟨ys,hy⟩: ∃ys,jS h (t.1,t.2) turns=ys:=⟨_,rfl⟩;have Cq:ys.length=10:=by rw[<-hy];exact jH _ _ _ _ _ _
  rw[hy] at Ti;have HY:=aa hy;have HT:=aa (af ht hk);have HF:=aa hF;have HP:=aa hP;have HK:=aa (af XJ (af ε hD));have HTV:=aa Gb;clear hF hP XJ ε hD hbt Nl Gb Zl hy ht hrest htm;rw[hl2] at Ti
  gi_wp2_with fail
  refine(CallsIn.inRound _ (callsIn_wide.2 Ti.out)).mono ?_;rintro e W6 ⟨rfl,μ,hE⟩;have hyl:(ag ys).length=10:=by simp[ag,Cq]
  simp only[j6];obtain⟨W7,UC,υ,pF⟩:=uS Tryz.prog ys (av W6 (.cells #[iv 0,iv 0,iv 0,iv 0,iv 0,iv 0,iv 0,iv 0,iv 0,iv 0] 178)) (by rw[Cq];rfl);have G8:Ext [mb] W W7:=zO (hE.alloc _) pF hE.size;have aef:Cache W7 mb h.aX:=μ.kept ((pF.block mb (by have:=μ.lt;first|(simp;done)|(simp;omega)) (by have:=μ.lt;first|(simp;done)|(simp;omega))).trans (aS _ _ _ μ.lt))
  have hF7:=HF.out.own (HF.out.ext.trans G8) G8.size aef;have χ:=HF.out.apart;have NC:Y9 w wb (.slice ot turns.length ct) (iA h turns k) Ms W7:=HP.out.kept G8.size (fun b h1 h2=>G8.block b (χ b (by first|omega|(simp;done)|(simp;omega))).2 (by first|omega|(simp;done)|(simp;omega))) (fun g h1 h2 h3=>G8.block g h2 (by first|omega|(simp;done)|(simp;omega))) (fun m hm=> .inl hm)
  have hkp: ∀m∈Ms,m∉[mb]->m<W1.heap.size->W7.heap[m]? =W1.heap[m]? :=fun m hm h0 lg=>(G8.block m ϑ h0).trans (HK.out.1 m hm h0 lg);have ε:=(G8.block _ (χ (w.heap.size+6) ϕ).2 (by first|omega|(simp;done)|(simp;omega))).trans (show W.heap[w.heap.size+6]? =some (.loop busy) from by rw[show w.heap.size+6=w2.heap.size+1 by omega];exact HK.out.2.1)
  have hD:=(G8.block _ (χ (w.heap.size+5) ϕ).2 (by first|omega|(simp;done)|(simp;omega))).trans (show W.heap[w.heap.size+5]? =some (.deferred (some [])) from by rw[<-hsz2];exact HK.out.2.2)
  have hs7:W1.heap.size<=W7.heap.size:=by have:=G8.size;omega
  have hw7:w.heap.size+7<=W7.heap.size:=by have:=G8.size;omega
  obtain⟨v,Β,Μ,hv3⟩:=NC.out;obtain⟨vo,vc,rfl⟩:=aL Μ;have d1:=aA Β;have d2:=aZ Β 0;have d3:=dn W7 _ d1;have d4:=(aP.1 υ).1;have hln:(iA h turns k).length<=2000:=by have:=AB h turns k;have:=uP mK.out [];have:=HT.out.2;omega
  have Kr:=AA (h:=h) (turns:=turns) (k:=k);have hsucc:iA h turns (k+1)=jW (iA h turns k) ys:=by
   rw[yE HT.out.2, <-HY.out];have:=HT.out.1;rw[bZ HT.out.2] at this;injection this with this;rw[this]
  have uq:=aa hsucc;have vR:=aa hF7;have PT:=aa NC;have uw:=aa (af hkp (af ε (af hD hs7)));have HV:=aa (af Β (af Μ hv3));have HB:=aa υ;have Wv:=aa Kr;generalize iA h turns k=ls at*
  clear hF7 NC hkp ε hD χ Β Μ hv3 υ pF G8 aef hE μ Kr hsucc hg c0 c1
  gi_wp2_with fail
  rcases(List.eq_nil_or_concat ls).imp id (fun⟨A,z,e⟩=>(⟨A,z,e.trans (List.concat_eq_append)⟩: ∃A z,ls=A++[z])) with rfl|⟨A,z,rfl⟩
  ·simp only[List.length_nil] at d1 HV;refine dD 13 [] none [] ϰ ϰ ϰ ?_;simp only[zt];repeat ((first|refine zd ?_|refine zk ?_);simp only[zp])
   have OO:Hid (jW [] ys=[]++[ys]):=aa (by simp[jW]);intro W8 eQ Ru;have hE:Ext [] W7 W8:=eQ;obtain⟨hc,hf⟩:=bA hE.below;have hz8:=hE.size;have yz:=HB.out;obtain⟨y0,y1,y2,y3,y4,y5,y6,y7,y8,y9,ω⟩:=zo Cq;rw[ω] at yz;have xB: ∀i,W7.cell? ⟨W6.heap.size,i,none⟩=(#[iv y0,iv y1,iv y2,iv y3,iv y4,iv y5,iv y6,iv y7,iv y8,iv y9]:Array Value)[i]? :=fun i=>by
    simp only[World.cell?,yz];rfl
   have hz9:W6.heap.size<W8.heap.size:=ϑ;have Au:=az (Ms:=[]) HV.out.2.1 hE ϕ;have gP:=aa hE;have HOW:=aa Au;have yV:=aa ω;clear hE eQ Ru yz Au ω
   gi_wp2_with (gi_at_builtin;go_loud (refine lW (fun _=>trivial) rfl oG rfl _ _ TJ rfl (w.heap.size+7) (.slice vo 0 vc) 0 (List.flatMap ag []) rfl ?_ (.slice (some ⟨W8.heap.size,0,none⟩) 1 1) 1 (ag [y0,y1,y2,y3,y4,y5,y6,y7,y8,y9]) rfl ?_ (iE _) ϑ ϑ ϗ ?_))
   ·exact zcf
   ·exact aH.bS 10 1 (av _ _) rfl ϖ
   ·intro v' W9 Fw TF Υ;obtain⟨o9,c9,rfl⟩:=aL Fw;have ui:=aa Fw;have Y5:=aa TF;have Y4:=aa Υ;have Gd:=aW HV.out.2.1;have nK: ∀b,b<w.heap.size+7->b<W7.heap.size->W9.heap[b]? =W7.heap[b]? :=fun b hb wz=>by
     exact zbU
    have hc9:=hc;have Ko:W8.heap.size<W9.heap.size:=by have:=TF.size;simp at this;omega
    have e1:W9.cell? ⟨w.heap.size+1+1,0,none⟩=some (.slice vo 0 vc):=aA ((nK _ ϑ d3).trans HV.out.1);have e2:W9.frozen? ⟨w.heap.size+1+1,0,none⟩=false:=aZ ((nK _ ϑ d3).trans HV.out.1) 0;have e3:=dn W9 _ e1;have zZ:=aa nK;clear Fw TF Υ nK hc9 xB hc hf Gd
    gi_wp2_with fail
    rw[yV.out] at OO;obtain⟨⟨ZE,hP9⟩,Γ,Ns⟩:=Px (ls:=[]) (ys:=[y0,y1,y2,y3,y4,y5,y6,y7,y8,y9]) vR.out PT.out HV.out.1 (fun g hg=>⟨aW HV.out.2.1 g hg,(HV.out.2.2 g hg).1⟩) gP.out Y5.out Y4.out (by simpa using ui.out) hmb hw7;exact zaO
  ·have Ko:=Wv.out z ϕ;obtain⟨gb,gc,hvv,hgb,Nw,Ih⟩:=zB (A:=A) (z:=z) (by simpa using HV.out.2.1) (fun x hx=>Wv.out x (by simp[hx])) Ko;have hcap:vo=some ⟨gb,0,none⟩:=by simp at hvv;exact hvv.1
   subst hcap;have hzl:(ag z).length=10:=by simp[ag,Ko]
   have hyr:=uW HB.out;(try simp only[bR,List.length_cons,List.length_nil,Nat.zero_add] at d1)
   (try simp only[bR,List.length_cons,List.length_nil,Nat.zero_add] at HV)
   (try simp only[bR,List.length_cons,List.length_nil,Nat.zero_add] at hln)
   have hAI:((A.length:Int)+1==0)=false:=by simp;omega
   have hA0: ¬((A.length:Int)+1=0):=ϑ;have hA1:((A.length:Int)+1).toNat=A.length+1:=ϑ;have hAm:(A.length:Int)+1-1=A.length:=ϑ;rcases hq:(z==ys) with _|_
   ·have OO:Hid (jW (A++[z]) ys=(A++[z])++[ys]):=aa (by
     unfold jW;rw[aj];simp only[List.getLast?_append,List.getLast?_singleton];intro e;simp at e;subst e;simp at hq)
    refine dD 13 [] none [] ϰ ϰ ϰ ?_;simp only[zt];repeat ((first|refine zn ?_|refine zk ?_);simp only[zp])
    refine eU ϱ (.pointer (some ⟨gb,A.length*10,none⟩)) ϱ (fun W hW=>by go_simp;(try simp(disch:=omega) only[IntWalk.i64_in]);(try rw[aB ϑ]);(try simp);(try (intro hx;exfalso;omega))) ?_
    simp only[zp];refine eU ϱ (.agg (ag z).toArray) ϱ (fun W hW=>jo 178 _ ϱ gb (A.length*10) ϱ (ag z) _ (fun j u hj=>(hW gb _ Nw ϕ).trans (Ih j u hj)) Tryz.underlying178 rfl (by rw[hzl];kernel_rfl)) ?_;simp only[zp];refine eU ϱ (.agg (ag ys).toArray) ϱ (fun W hW=>jo 178 _ ϱ W6.heap.size 0 ϱ (ag ys) _ (fun j u hj=>(hW W6.heap.size _ d4 ϕ).trans (hyr j u hj)) Tryz.underlying178 rfl (by rw[hyl];kernel_rfl)) ?_;simp only[zp];refine eU ϱ (.bool true) ϱ (fun W hW=>(lU 178 3 _ 10 _ _ ϱ Tryz.underlying178 Tryz.underlying3 (by intro w;go_simp) ϰ z ys ϱ ϱ Ko Cq).trans (by rw[hq];rfl)) ?_;simp only[zp];repeat ((first|refine zd ?_|refine zk ?_);simp only[zp])
    intro W8 eQ Ru;have hE:Ext [] W7 W8:=eQ;obtain⟨hc,hf⟩:=bA hE.below;have hz8:=hE.size;have yz:=HB.out;obtain⟨y0,y1,y2,y3,y4,y5,y6,y7,y8,y9,ω⟩:=zo Cq;rw[ω] at yz;have xB: ∀i,W7.cell? ⟨W6.heap.size,i,none⟩=(#[iv y0,iv y1,iv y2,iv y3,iv y4,iv y5,iv y6,iv y7,iv y8,iv y9]:Array Value)[i]? :=fun i=>by
     simp only[World.cell?,yz];rfl
    have hz9:W6.heap.size<W8.heap.size:=ϑ;have Au:=az (Ms:=[]) HV.out.2.1 hE ϕ;have gP:=aa hE;have HOW:=aa Au;have yV:=aa ω;clear hE eQ Ru yz Au ω
    gi_wp2_with (gi_at_builtin;go_loud (refine lW (fun _=>trivial) rfl oG rfl _ _ TJ rfl (w.heap.size+7) (.slice (some ⟨gb,0,none⟩) (A.length+1) vc) (A.length+1) (List.flatMap ag (A++[z])) rfl ?_ (.slice (some ⟨W8.heap.size,0,none⟩) 1 1) 1 (ag [y0,y1,y2,y3,y4,y5,y6,y7,y8,y9]) rfl ?_ (iE _) ϑ ϑ ϗ ?_))
    ·exact zcf
    ·exact aH.bS 10 1 (av _ _) rfl ϖ
    ·intro v' W9 Fw TF Υ;obtain⟨o9,c9,rfl⟩:=aL Fw;have ui:=aa Fw;have Y5:=aa TF;have Y4:=aa Υ;have Gd:=aW HV.out.2.1;have nK: ∀b,b<w.heap.size+7->b<W7.heap.size->W9.heap[b]? =W7.heap[b]? :=fun b hb wz=>by
      exact zbU
     have hc9:=hc;have Ko:W8.heap.size<W9.heap.size:=by have:=TF.size;simp at this;omega
     have e1:W9.cell? ⟨w.heap.size+1+1,0,none⟩=some (.slice (some ⟨gb,0,none⟩) (A.length+1) vc):=aA ((nK _ ϑ d3).trans HV.out.1);have e2:W9.frozen? ⟨w.heap.size+1+1,0,none⟩=false:=aZ ((nK _ ϑ d3).trans HV.out.1) 0;have e3:=dn W9 _ e1;have zZ:=aa nK;clear Fw TF Υ nK hc9 xB hc hf Gd
     gi_wp2_with fail
     rw[yV.out] at OO;obtain⟨⟨ZE,hP9⟩,Γ,Ns⟩:=Px (ls:=(A++[z])) (ys:=[y0,y1,y2,y3,y4,y5,y6,y7,y8,y9]) vR.out PT.out HV.out.1 (fun g hg=>⟨aW HV.out.2.1 g hg,(HV.out.2.2 g hg).1⟩) gP.out Y5.out Y4.out (by simpa using ui.out) hmb hw7;exact zaO
   ·obtain rfl:z=ys:=by simpa using hq
    have OO:Hid (jW (A++[z]) z=A++[z]):=aa (by
     unfold jW;rw[aB];simp)
    refine dD 13 [] none [] ϰ ϰ ϰ ?_;simp only[zt];repeat ((first|refine zn ?_|refine zk ?_);simp only[zp])
    refine eU ϱ (.pointer (some ⟨gb,A.length*10,none⟩)) ϱ (fun W hW=>by go_simp;(try simp(disch:=omega) only[IntWalk.i64_in]);(try rw[aB ϑ]);(try simp);(try (intro hx;exfalso;omega))) ?_
    simp only[zp];refine eU ϱ (.agg (ag z).toArray) ϱ (fun W hW=>jo 178 _ ϱ gb (A.length*10) ϱ (ag z) _ (fun j u hj=>(hW gb _ Nw ϕ).trans (Ih j u hj)) Tryz.underlying178 rfl (by rw[hzl];kernel_rfl)) ?_;simp only[zp];refine eU ϱ (.agg (ag z).toArray) ϱ (fun W hW=>jo 178 _ ϱ W6.heap.size 0 ϱ (ag z) _ (fun j u hj=>(hW W6.heap.size _ d4 ϕ).trans (hyr j u hj)) Tryz.underlying178 rfl (by rw[hzl];kernel_rfl)) ?_;simp only[zp];refine eU ϱ (.bool false) ϱ (fun W hW=>(lU 178 3 _ 10 _ _ ϱ Tryz.underlying178 Tryz.underlying3 (by intro w;go_simp) ϰ z z ϱ ϱ Ko Ko).trans ϕ) ?_;simp only[zp];repeat ((first|refine zd ?_|refine zk ?_);simp only[zp])
    intro W8 eQ Ru;have hE:Ext [] W7 W8:=eQ;obtain⟨hc,hf⟩:=bA hE.below;have hz8:=hE.size;have gP:=aa hE;clear hE eQ Ru
    gi_wp2_with fail
    have χ:=vR.out.apart;refine⟨⟨?_,?_,fun m hm h0 lg=>?_,by have:=uw.out.2.2.2;omega⟩,(vR.out.gM (gP.out.nil) (fun m hm=> .inl hm) (vR.out.cache.kept (gP.out.block mb vR.out.cache.lt ϕ))).1,?_⟩
    ·exact(gP.out.block _ (χ (w.heap.size+6) ϕ).2 ϕ).trans uw.out.2.1
    ·exact(gP.out.block _ (χ (w.heap.size+5) ϕ).2 ϕ).trans uw.out.2.2.1
    ·exact(gP.out.block m (by have:=uw.out.2.2.2;omega) ϕ).trans (uw.out.1 m hm h0 lg)
    ·rw[uq.out,OO.out];exact PT.out.kept gP.out.size (fun b h1 h2=>gP.out.block b ϑ ϕ) (fun g h1 h2 h3=>gP.out.block g h2 ϕ) (fun m hm=> .inl hm)
 case hdone=>
  rintro Ms W ⟨hF,hP⟩ hD tX;rw[vG] at hP;obtain⟨v,Β,Μ,hv3⟩:=hP.out;obtain⟨vo,vc,rfl⟩:=aL Μ;have hc:=aA Β;have hf:=aZ Β 0;have hk:=dn W _ hc;have HF:=aa hF;have HV:=aa (af Β Μ);clear hF hP Β Μ hv3
  gi_wp2_with fail
  rw[hsz2] at hD;have hD':(W.setCell ⟨w.heap.size+1+1,0,none⟩ (.slice vo (iJ h turns).length vc)).heap[w.heap.size+5]? =some (.deferred (some [])):=(dm _ _ _ _ (by show w.heap.size+5≠w.heap.size+1+1;omega)).trans hD;have MR:((W.setCell ⟨w.heap.size+1+1,0,none⟩ (.slice vo (iJ h turns).length vc)).putObj (w.heap.size+5) (.deferred none)).cell? ⟨w.heap.size+1+1,0,none⟩=some (.slice vo (iJ h turns).length vc):=
   aA ((World.putObj_heap_other ϑ).trans (aG HV.out.1 _))
  refine⟨by simp,.inl ⟨_,_,rfl,run_takeDeferred hD',?_⟩⟩;have hF2:=(HF.out.own (HF.out.ext.set (p:=⟨w.heap.size+1+1,0,none⟩) (by show w.heap.size<=w.heap.size+1+1;omega) (.slice vo (iJ h turns).length vc)) (by simp[World.setCell]) (HF.out.cache.kept (dm _ _ _ _ (by show mb≠w.heap.size+1+1;omega)))).put (Obj.deferred none) (r:=w.heap.size+5) ϑ hmb;refine⟨.slice vo (iJ h turns).length vc,by simp[results,Tryz.results77,go_sem,MR],_,rfl,?_,hF2.cache,hF2.ext⟩;refine bL (bU HV.out.2 fun g hg=>(World.putObj_heap_other ?_).trans (dm _ _ _ _ ?_)) ϑ
  ·have:=(aW HV.out.2 g hg).1;omega
  ·have:=(aW HV.out.2 g hg).1;show g≠w.heap.size+1+1;omega
 case hstop=>rintro cd Ms W h;exact h.elim
def ach (R:List dF) (mb:Nat) (aX:Int) (w:World) (e:Ending) (w':World):Prop:=
 ∃v,e= .returned v/\w'.ownsRow w.heap.size 50 2 v R.length (aD R)/\Cache w' mb aX/\Ext [mb] w w'
theorem xK (h:bN) (hS:Sound h) (a b c tv:Value) (turns:List Int) (wb mb:Nat) (w:World) (hw:gN w wb mb h a b c) (h1:bF w a h.bM) (h2:aK w b h.turns) (h3:bB w c h.readings) (h4:aK w tv turns):
 Ϝ 76 #[.pointer (some ⟨wb,0,none⟩),tv] w (ach (pQ (h.last+1).toNat (iJ h turns)) mb h.aX w):=by
 have HEV:=aa (Gi h hS a b c tv turns wb mb w hw h1 h2 h3 h4);obtain⟨oa,ca,rfl⟩:=h1.open;obtain⟨ob,cb,rfl⟩:=h2.open;obtain⟨oc,cc,rfl⟩:=h3.open;obtain⟨ot,ct,rfl⟩:=h4.open;have HW:=aa hw;have mK:=aa hS;have hl0:=hS.F6;have XR:=hS.yn;obtain⟨n,hn⟩: ∃n:Nat,h.last+1=n:=⟨(h.last+1).toNat,by omega⟩;have Kr:=CW (h:=h) (turns:=turns);have Ib:(iJ h turns).length<=2000:=gI (NH h turns) (uP hS []);rw[hn,Int.toNat_natCast];generalize iJ h turns=ls at*
 clear hw h1 h2 h3 h4 hS;go_enter Tryz.func76,Tryz.ntmps76;go_wp2_with fail
 refine HEV.o.mono ?_;rintro e w1 ⟨v,rfl,Fw,μ,hE⟩;obtain⟨vo,vc,rfl⟩:=aL Fw;have HO:=aa Fw;have HC:=aa μ;have HE:=aa hE;clear Fw μ hE;go_wp2_with fail
 have hws:=HW.o;go_loopw [4,12] (fun o u wr=> ∃k:Nat,k<=ls.length/\u= .int .i64 k/\ ∃oo FV,o= .slice oo (bz n ls k).length FV/\wr.ownsRow w1.heap.size 50 2 (.slice oo (bz n ls k).length FV) (bz n ls k).length (aD (bz n ls k))/\Ϙ w1 wr)
  (fun _ u _=>ls.length-(intOf u).toNat)
 case atStart=>exact⟨0,bD _,rfl,none,0,rfl,⟨rfl,.inl ⟨rfl,rfl⟩⟩,aC _ _⟩
 case round=>
  obtain⟨k,hk,rfl,oo,FV,rfl,η,hB⟩:=hrel;by_cases tX:k<ls.length
  ·have Zr:=Kr ls[k] (bK tX);obtain⟨g0,c0,hv0,hg0,hr0⟩:=Xw HO.o Kr tX;have hvo:vo=some ⟨g0,0,none⟩:=by simp at hv0;exact hv0.1
   subst hvo;have hr1:wr.rangeAt g0 (k*10) (ag ls[k]):=fun j u hj=>(hB.cell (p:=⟨g0,k*10+j,none⟩) hg0).trans (hr0 j u hj);have ahD:ls.getD k []=ls[k]:=by simp[List.getD,tX]
   generalize ls[k]=ys at*
   obtain⟨W2,UC,υ,Ι⟩:=uS Tryz.prog ys (av wr (.cells #[iv 0,iv 0,iv 0,iv 0,iv 0,iv 0,iv 0,iv 0,iv 0,iv 0] 178)) (by rw[Zr];rfl);have hyl:(ag ys).length=10:=by simp[ag,Zr]
   have hB2:Ϙ wr W2:=(Ext.below (zO ((Ext.ay (aC _ _)).alloc _) Ι (ah _)));have aav:gN W2 wb mb h (.slice oa h.bM.length ca) (.slice ob h.turns.length cb) (.slice oc h.readings.length cc):=(HW.o.ext HE.o HC.o).below (aV hB hB2) (ah _);have c2:=aav.cell;have c3:=aav.lt;have Ba:(k:Int)<ls.length:=ϑ;have hkn:((k:Int)).toNat=k:=ϑ;have HB:=aa hB;have Ra:=aa hB2;have HK:=aa υ;have HOW:=aa η;clear hws hB hB2 υ η aav Ι hr0;go_wp2_with (refine wpList_load_mid rfl 178 _ rfl g0 (k*10) rfl (ag ys) _ hr1 Tryz.underlying178 rfl (by rw[hyl];kernel_rfl) ?_)
   refine(Ik h _ _ _ n _ hl0 XR hn).mono ?_;rintro e W3 ⟨rfl,hb⟩;have δ:=aa (aV Ra.o hb);have Ω:W3.heap[wr.heap.size]? =some (.cells (ag ys).toArray 178 (0,0)):=(hb.block _ (aP.1 HK.o).1).trans HK.o;have LJ:=aa Ω;clear hb Ω c2 c3 UC hr1;go_wp2_with fail
   have Rj:n<=10:=ϑ;have hR:k≠0->(bz n ls k).length=n:=ni n ls k;have hR0:k=0->bz n ls k=[]:=fun e=>by subst e;rfl
   have H3:=aa (show _/\_/\_/\_ from af (az (Ms:=[]) HOW.o (Ext.ay δ.o) ϕ) (af (fun g (hg:(Value.slice oo (bz n ls k).length FV).ownBlock=some g)=>(show g≠wr.heap.size from by have:=(aW HOW.o g hg).2;omega)) (af (aV HB.o δ.o) LJ.o)))
   clear HB Ra δ HOW HK LJ;generalize wr.heap.size=b6 at*
   go_loopw [4,22] (fun o u wq=> ∃i:Nat,i<=n/\u= .int .i64 i/\ ∃oo FV,o= .slice oo (dV n k (bz n ls k) ys i).length FV/\wq.ownsRow w1.heap.size 50 2 (.slice oo (dV n k (bz n ls k) ys i).length FV) (dV n k (bz n ls k) ys i).length (aD (dV n k (bz n ls k) ys i))/\
    (∀g,(Value.slice oo (dV n k (bz n ls k) ys i).length FV).ownBlock=some g->g≠b6)/\Ϙ w1 wq/\wq.heap[b6]? =some (.cells (ag ys).toArray 178 (0,0)))
    (fun _ u _=>n-(intOf u).toNat)
   case atStart=>
    refine⟨0,bD _,rfl,?_⟩;rw[MM hR hR0];exact⟨oo,FV,rfl,H3.o⟩
   case round=>
    obtain⟨i,hi,rfl,O4,JW,rfl,η,hne,hB,υ⟩:=hrel;by_cases Φ:i<n
    ·have XX:i<ys.length:=ϑ;have MR:=fB υ XX;have hgx:ys.getD i 0=ys[i]:=by simp[List.getD,XX]
     have hkb:=(aP.1 υ).1;have hiI:(i:Int)<10:=ϑ;have am3:(i:Int)<n:=ϑ;have hiN:((i:Int)).toNat=i:=ϑ;generalize wN:ys[i]=x at MR hgx;have HX:=aa hgx;have HOI:=aa η;have GG:=aa hne;have WK:=aa hB;have HKQ:=aa υ;clear hgx η hne hB υ wN;rcases Nat.eq_zero_or_pos k with hk0|hk0
     ·have ad5:((k:Int)==0)=true:=by simpa using hk0
      have adL:(dV n k (bz n ls k) ys i).length=i:=by rw[hk0];exact qw _ _ _ _
      have happ:dV n k (bz n ls k) ys i++[(x,x)]=dV n k (bz n ls k) ys (i+1):=by rw[hk0, <-HX.o];exact QI
      have hlen1:(dV n k (bz n ls k) ys (i+1)).length=i+1:=by rw[hk0];exact qw _ _ _ _
      have HAP:=aa happ;have HK0:=aa hk0;have LH:=aa (af adL hlen1);clear happ hk0 adL hlen1;go_wp2_with fail
      clear ad5;refine zg 9 [] none [(8,Spec.slice wr.heap.size #[iv x,iv x] 50 1)] ?_;simp only[zt];repeat (refine zd ?_;simp only[zp])
      refine dI wr.heap.size _ _ _ ϱ (ah _) ϱ ϕ ϕ (fun W hW=>by go_simp;try rfl) (fun b8=>?_);simp only[zp];intro W5 KC hF5;have Iz:Ext [] wr W5:=KC;obtain⟨ZN,yz,anm,Zz⟩:=hF5 _ (bu _);cases yz;obtain⟨hc,hf⟩:=bA Iz.below;have hz5:=Iz.size;have HE5:=aa Iz;have HBK:=aa Zz;have hown5:=az (Ms:=[]) HOI.o Iz ϕ;have ai4:=aa hown5;have amk:=WK.o.size;clear KC hF5 Iz Zz hown5;go_wp2_with (at_builtin;go_loud (refine dB rfl _ _ GV rfl w1.heap.size (.slice O4 (dV n k (bz n ls k) ys i).length JW) (dV n k (bz n ls k) ys i).length (aD (dV n k (bz n ls k) ys i)) rfl ai4.o (.slice (some ⟨b8,0,none⟩) 1 1) 1 (aD [(x,x)]) rfl (aH.bS 2 1 HBK.o rfl ϖ) (mG _) (by have:=LH.o.1;omega) (by have:=LH.o.1;omega) ϑ ?_))
      intro v' W6 YM Ep Zq;have Nv:W6.ownsRow w1.heap.size 50 2 v' (dV n k (bz n ls k) ys (i+1)).length (aD (dV n k (bz n ls k) ys (i+1))):=by
       rw[LH.o.2, <-HAP.o];have e1:aD (dV n k (bz n ls k) ys i++[(x,x)])=aD (dV n k (bz n ls k) ys i)++aD [(x,x)]:=by simp[aD]
       rw[e1];have hl:=LH.o.1;rw[hl] at YM;exact YM
      obtain⟨o6,c6,rfl⟩:=aL Nv;have ui:=aa Nv;have Y4:Hid (∀g,(Value.slice o6 (dV n k (bz n ls k) ys (i+1)).length c6).ownBlock=some g->g≠b6):=aa (fun g hg=>by
       rcases Zq with e|e
       ·rw[hg] at e;exact GG.o g e.symm
       ·rw[hg] at e;injection e with e;omega)
      have aep:(Value.slice O4 (dV n k (bz n ls k) ys i).length JW).ownBlock≠some b6:=fun e=>GG.o b6 e rfl;have tL: ∀b,b<wr.heap.size->(Value.slice O4 (dV n k (bz n ls k) ys i).length JW).ownBlock≠some b->W6.heap[b]? =wr.heap[b]? :=fun b hb hn=>(Ep.block b ϑ (fun e=>hn e.symm)).trans (HE5.o.block b hb ϕ);have hs6:=Ep.size;have Gc:W6.heap[b6]? =some (.cells (ag ys).toArray 178 (0,0)):=(tL b6 hkb aep).trans HKQ.o;have Ev:Ϙ w1 W6:=⟨Ep.os.trans (HE5.o.os.trans WK.o.os),Ep.tape.trans (HE5.o.tape.trans WK.o.tape),Ep.output.trans (HE5.o.output.trans WK.o.output),by omega,
       fun b hb=>(tL b ϑ (fun e=>by have:=(aW HOI.o b e).1;omega)).trans (WK.o.block b hb)⟩
      have oJ:=aa Ev;have zZ:=aa Gc;have ah2:W6.cell? ⟨b6,i,none⟩=some (.int .i64 x):=by
       have:=fB Gc XX;rw[this];have hx:=HX.o;simp only[List.getD,bZ XX,Option.getD_some] at hx;rw[hx]
      have amV:=(aP.1 Gc).1;clear YM Ep Zq Nv aep tL Gc Ev hc hf MR;go_wp2_with fail
      have hlen1:=LH.o.2;have ahX:(dV n k (bz n ls k) ys (i+1)).set i (wid ((dV n k (bz n ls k) ys (i+1)).getD i (0,0)) (ys.getD i 0))=dV n k (bz n ls k) ys (i+1):=by rw[HK0.o];exact MN
      have XW:i<((dV n k (bz n ls k) ys (i+1))).length:=by first|omega|(rw[sj _ _ _ _ _ hk0];omega)|(simp only[qw,List.length_append,List.length_cons,List.length_nil,ni,sj,ne_eq,hk0,not_false_eq_true];omega)
      (try clear hlen1)
      obtain⟨g9,c9,hv9,Er,ahC,⟨p0,p1⟩,hfz⟩:=mF ui.o XW;simp only[Value.slice.injEq,true_and] at hv9;obtain⟨rfl,rfl⟩:=hv9;have hgd:((dV n k (bz n ls k) ys (i+1))).getD i (0,0)=((dV n k (bz n ls k) ys (i+1)))[i]:=by simp[List.getD,XW]
      have aaH: ¬g9=b6:=Y4.o g9 rfl;have ahO:(i:Int)<(((dV n k (bz n ls k) ys (i+1))).length:Int):=ϑ;generalize Ar:((dV n k (bz n ls k) ys (i+1)))[i]=r9 at p0 p1 hgd;have HGD:=aa hgd;have hf0:=hfz (i*2);have hf1:=hfz (i*2+1);clear hfz Ar hgd;refine zg 11 [] none [(9,Spec.val (rv (wid r9 x)))] ?_;simp only[zt];repeat (refine zd ?_;simp only[zp])
      refine dQ _ ϱ ϱ 132 _ (fun W hW=>by go_simp;(try simp(disch:=omega) only[IntWalk.i64_in]);try rfl) (fun W hE hF=>by exact E8 r9 x W) ?_
      simp only[zp];repeat (refine zd ?_;simp only[zp])
      intro W8 eQ Ru;have Iw:Ext [] W6 W8:=eQ;obtain⟨hc8,hf8⟩:=bA Iw.below;have hz8:=Iw.size;have gP:=aa Iw;have aaK:g9<W8.heap.size:=ϑ;clear eQ Ru Iw;go_wp2_with fail
      go_roundw
      case rel=>
       have heq:dV n k (bz n ls k) ys (i+1)=((dV n k (bz n ls k) ys (i+1))).set i (wid r9 x):=by
        rw[<-HX.o, <-HGD.o];exact(ahX).symm
       exact za2
      case measure=>simp[intOf];omega
     ·have amZ: ¬((k:Int)=0):=ϑ;have ad5:((k:Int)==0)=false:=by simp;omega
      have hk0':k≠0:=ϑ;replace hk0:k≠0:=ϑ;go_wp2_with fail
      have ui:=HOI;have Y4:=GG;have oJ:=WK;have zZ:=HKQ;have XW:i<((dV n k (bz n ls k) ys i)).length:=by first|omega|(rw[sj _ _ _ _ _ hk0];omega)|(simp only[qw,List.length_append,List.length_cons,List.length_nil,ni,sj,ne_eq,hk0,not_false_eq_true];omega)
      (try clear hlen1)
      obtain⟨g9,c9,hv9,Er,ahC,⟨p0,p1⟩,hfz⟩:=mF ui.o XW;simp only[Value.slice.injEq,true_and] at hv9;obtain⟨rfl,rfl⟩:=hv9;have hgd:((dV n k (bz n ls k) ys i)).getD i (0,0)=((dV n k (bz n ls k) ys i))[i]:=by simp[List.getD,XW]
      have aaH: ¬g9=b6:=Y4.o g9 rfl;have ahO:(i:Int)<(((dV n k (bz n ls k) ys i)).length:Int):=ϑ;generalize Ar:((dV n k (bz n ls k) ys i))[i]=r9 at p0 p1 hgd;have HGD:=aa hgd;have hf0:=hfz (i*2);have hf1:=hfz (i*2+1);clear hfz Ar hgd;refine zg 11 [] none [(9,Spec.val (rv (wid r9 x)))] ?_;simp only[zt];repeat (refine zd ?_;simp only[zp])
      refine dQ _ ϱ ϱ 132 _ (fun W hW=>by go_simp;(try simp(disch:=omega) only[IntWalk.i64_in]);try rfl) (fun W hE hF=>by exact E8 r9 x W) ?_
      simp only[zp];repeat (refine zd ?_;simp only[zp])
      intro W8 eQ Ru;have Iw:Ext [] wr W8:=eQ;obtain⟨hc8,hf8⟩:=bA Iw.below;have hz8:=Iw.size;have gP:=aa Iw;have aaK:g9<W8.heap.size:=ϑ;clear eQ Ru Iw;go_wp2_with fail
      go_roundw
      case rel=>
       have heq:dV n k (bz n ls k) ys (i+1)=((dV n k (bz n ls k) ys i)).set i (wid r9 x):=by
        rw[<-HX.o, <-HGD.o];exact(QH hk0 Φ).symm
       exact za2
      case measure=>simp[intOf];omega
    ·have hin':i=n:=ϑ;subst hin';have hsucc:bz i ls (k+1)=dV i k (bz i ls k) ys i:=by
      show dV i k (bz i ls k) (ls.getD k []) i=_;rw[ahD]
     have HS:=aa (af hsucc (af η hB));clear hsucc η hB υ hne;go_wp2_with fail
     go_roundw
     case rel=>
      refine⟨k+1,by omega,by go_num,?_⟩;rw[HS.o.1];exact⟨_,_,rfl,HS.o.2.1,HS.o.2.2⟩
     case measure=>simp[intOf];omega
  ·have XI:k=ls.length:=ϑ;subst XI;have HF:=aa (af η hB);clear η hB;go_wp2_with fail
   go_returns;exact⟨_,by simp,bL HF.o.1 (by have:=HE.o.size;omega),HC.o.kept (HF.o.2.block mb HC.o.lt),HE.o.bel HF.o.2⟩
end Go.Proofs.Z.iM
namespace Go.Proofs.Z.iM
open Go.RowKit Go.RG Go.SL Go.Shelf ig
def jV (w:World) (v:Value) (ls:List (List Int)):Prop:=aH 10 w v ls.length (ls.flatMap ag)/\ ∀x∈ls,x.length=10
theorem jV.len {w:World} {v:Value} {ls:List (List Int)} (h:jV w v ls):ls.length<=9223372036854775807:=aH.len h.1
theorem jV.open {w:World} {v:Value} {ls:List (List Int)} (h:jV w v ls): ∃o c,v= .slice o ls.length c:=aH.open h.1
theorem jV.below {w w':World} {v:Value} {ls:List (List Int)} (h:jV w v ls) (hb:Ϙ w w'):jV w' v ls:=⟨h.1.below hb (ah _),h.2⟩
theorem jV.cell {w:World} {o:Option Addr} {c:Nat} {ls:List (List Int)} (h:jV w (.slice o ls.length c) ls) {k:Nat} (hk:k<ls.length):
 ∃b off,o=some ⟨b,off,none⟩/\b<w.heap.size/\w.rangeAt b (off+k*10) (ag ls[k]):=by
 obtain⟨⟨hl,o',c',hv,h1,h2,h3,h4⟩,h10⟩:=h;cases hv;cases o with
 |none=>have:=h3 rfl;omega
 |some a=>
  obtain⟨b,off,sp⟩:=a;obtain⟨hs,hc⟩:=h4 _ rfl;simp only at hs hc;subst hs;have hat: ∀j u,(ag ls[k])[j]? =some u->w.cell? ⟨b,off+k*10+j,none⟩=some u:=fun j u hj=>by
   have hj':j<10:=by have:=(gY.1 hj).1;simpa [ag,h10 _ (bK hk)] using this
   have:=hc (k*10+j) u (by rw[CS ag 10 ls (fun x hx=>by simp[ag,h10 x hx]) k j hk hj'];exact hj);rw[<-Nat.add_assoc] at this;exact this
  have h0:ls[k].length=10:=h10 _ (bK hk);have:=hat 0 (iv (ls[k][0]' ϑ)) (by simp[ag]);exact⟨b,off,rfl,dn w _ this,hat⟩
theorem ag8 (l:List (List Int)) (v:Value) (aY:Nat) (Mr aM:Array Value) (p:Nat->Bool) (I:Nat->World->Prop) (w:World) (eg: Ϛ Tryz.prog aY)
 (Nl: ∀k W,I k W->jV W v l)
 (pG: ∀k (hk:k<l.length) W,(∀j,j<k->p j=false)->I k W->Ϝ aY (Mr.push (j6 l[k])++aM) W (fun e W'=>e= .returned (.bool (p k))/\I (k+1) W')) (h0:I 0 w):
 Ϝ 138 #[v,.func (.func aY) Mr aM] w (dM l.length p I (fun k=>iv k) (iv (-1))):=by
 have Ib:=(Nl 0 w h0).len;have h10:=(Nl 0 w h0).2;obtain⟨o,c,rfl⟩:=(Nl 0 w h0).open;have HC:=aa pG;have HS:=aa Nl;have HT:=aa h10;clear pG Nl h10;go_enter Tryz.func138,Tryz.ntmps138;go_wp2;go_loopw [4,5,8] (fun _ _ i wr=> ∃k:Nat,k<=l.length/\i= .int .i64 k/\(∀j,j<k->p j=false)/\I k wr) (fun _ _ i _=>l.length-(intOf i).toNat)
 case atStart=>exact⟨0,bD _,rfl,fun j hj=>ϑ,h0⟩
 case round=>
  obtain⟨k,hk,rfl,GX,hI⟩:=hrel;by_cases tX:k<l.length
  ·obtain⟨b,off,rfl,hb,Ih⟩:=jV.cell (HS.o k wr hI) tX;have hC:=HC.o k tX wr GX hI;have hyl:(ag l[k]).length=10:=by simp[ag,HT.o _ (bK tX)]
   have Ba:(k:Int)<l.length:=ϑ;have HN:=aa GX;clear GX;generalize l[k]=ys at*
   go_wp2_with (refine wpList_load_mid rfl 178 _ rfl b (off+k*10) rfl (ag ys) _ Ih Tryz.underlying178 rfl (by rw[hyl];kernel_rfl) ?_)
   refine hC.mono ?_;rintro e W1 ⟨rfl,hI1⟩;have HI:=aa hI1;clear hI1 hI hC;cases hp:p k
   ·go_wp2_with fail
    go_roundw
    case rel=>exact⟨k+1,by omega,by go_num,fun j hj=>(by by_cases e:j=k;(subst e;exact hp);exact HN.o j ϑ),HI.o⟩
    case measure=>simp[intOf];omega
   ·go_wp2_with fail
    go_returns;exact⟨k,by omega,HN.o,.inl ⟨tX,hp,by simp,HI.o⟩⟩
  ·exact zao
theorem ZI (l:List (List Int)) (v:Value) (aY:Nat) (Mr aM:Array Value) (p:Nat->Bool) (I:Nat->World->Prop) (w:World) (eg: Ϛ Tryz.prog aY)
 (Nl: ∀k W,I k W->jV W v l)
 (pG: ∀k (hk:k<l.length) W,(∀j,j<k->p j=false)->I k W->Ϝ aY (Mr.push (j6 l[k])++aM) W (fun e W'=>e= .returned (.bool (p k))/\I (k+1) W')) (h0:I 0 w):
 Ϝ 80 #[v,.func (.func aY) Mr aM] w (dM l.length p I (fun _=> .bool true) (.bool false)):=by
 have HI:=aa (ag8 l v aY Mr aM p I w eg Nl pG h0);have Ib:=(Nl 0 w h0).len;clear Nl pG h0 eg;go_enter Tryz.func80,Tryz.ntmps80;exact zad
theorem aff (x:List Int) (h10:x.length=10) (bx aY:Nat) (Mr aM:Array Value) (b:Bool) (W:World) (R:World->Prop) (eg: Ϛ Tryz.prog aY)
 (hbx:W.cell? ⟨bx,0,none⟩=some (.func (.func aY) Mr aM))
 (pG:Ϝ aY (Mr.push (j6 x)++aM) (W.alloc (.cells (ag x).toArray 178)) (fun e W'=>e= .returned (.bool b)/\R W')):
 Ϝ 134 #[j6 x,.pointer (some ⟨bx,0,none⟩)] W (fun e W'=>e= .returned (.bool !b)/\R W'):=by
 have tX:=dn W _ hbx;obtain⟨y0,y1,y2,y3,y4,y5,y6,y7,y8,y9,rfl⟩:=zo h10;have HC:=aa pG;clear pG;show Ϝ 134 #[.agg #[iv y0,iv y1,iv y2,iv y3,iv y4,iv y5,iv y6,iv y7,iv y8,iv y9],.pointer (some ⟨bx,0,none⟩)] W _;go_enter Tryz.func134,Tryz.ntmps134;exact zaq
theorem Si (l:List (List Int)) (v:Value) (aY:Nat) (Mr aM:Array Value) (q:List Int->Bool) (w:World) (hv:jV w v l) (eg: Ϛ Tryz.prog aY)
 (pG: ∀x∈l, ∀W,Ϙ w W->Ϝ aY (Mr.push (j6 x)++aM) W (PV (.bool (q x)) W)):
 Ϝ 78 #[v,.func (.func aY) Mr aM] w (PV (.bool (l.all q)) w):=by
 have HI:=aa (ZI l v 134 #[] #[.pointer (some ⟨w.heap.size,0,none⟩)] (fun k=>!q (l.getD k []))
  (fun k W=>Ϙ w W/\W.heap[w.heap.size]? =some (.cells #[.func (.func aY) Mr aM] 179 (0,0))) (w.alloc (.cells #[.func (.func aY) Mr aM] 179))
  (enters_of Tryz.func134 ϰ rfl) (fun k W h=>hv.below h.1)
  (fun k hk W GX h=>by
    have tX:w.heap.size<W.heap.size:=(aP.1 h.2).1;have hgd:l.getD k []=l[k]:=by simp[List.getD,hk]
    rw[hgd];refine(aff l[k] (hv.2 _ (bK hk)) w.heap.size aY Mr aM (q l[k]) W (fun W'=>Ϙ w W'/\W'.heap[w.heap.size]? =some (.cells #[.func (.func aY) Mr aM] 179 (0,0))) eg (aA h.2) ?_);refine(pG l[k] (bK hk) _ (ai h.1 _)).mono ?_;rintro e W' ⟨rfl,hb⟩;refine⟨rfl,aV (ai h.1 _) hb,(hb.block _ ϗ).trans ((aS _ _ _ tX).trans h.2)⟩)
  ⟨ai (aC _ _) _,heap_alloc_new w _⟩)
 have Ib:=hv.len;obtain⟨bb,hbb⟩: ∃bb,l.all q=bb:=⟨_,rfl⟩;rw[hbb];have HQ:Hid (((List.range l.length).any fun k=>!q (l.getD k []))=!bb):=aa (by rw[<-hbb, <-iU l q [],List.all_eq_not_any_not];simp);clear pG eg hv hbb;go_enter Tryz.func78,Tryz.ntmps78;go_wp2_with fail
 refine HI.o.mono ?_;clear HI;intro e W' ξ;obtain⟨rfl,k,_,hI,_⟩:=ξ.all;have HB:=aa hI;rw[HQ.o];clear hI ξ;cases bb;all_goals
  go_wp2_with fail
  go_returns;exact⟨by simp,HB.o⟩
theorem NV (l:List (List Int)) (v:Value) (aY:Nat) (Mr aM:Array Value) (q:List Int->Bool) (w:World) (hv:jV w v l) (eg: Ϛ Tryz.prog aY)
 (pG: ∀x∈l, ∀W,Ϙ w W->Ϝ aY (Mr.push (j6 x)++aM) W (PV (.bool (q x)) W)):
 Ϝ 80 #[v,.func (.func aY) Mr aM] w (PV (.bool (l.any q)) w):=by
 refine(ZI l v aY Mr aM (fun k=>q (l.getD k [])) (fun _ W=>Ϙ w W) w eg (fun k W h=>hv.below h) (fun k hk W _ h=>?_) (aC _ _)).mono ?_
 ·have hgd:l.getD k []=l[k]:=by simp[List.getD,hk]
  rw[hgd];refine(pG l[k] (bK _) W h).mono ?_;rintro e W' ⟨rfl,hb⟩;exact⟨rfl,aV h hb⟩
 ·intro e W' ξ;obtain⟨rfl,k,_,hI⟩:=ξ.all;refine⟨?_,hI⟩;have:=iU l (fun x=>!q x) [];have e2:((List.range l.length).any fun k=>q (l.getD k []))=l.any q:=by
   rw[List.any_eq_not_all_not,this,List.any_eq_not_all_not]
  rw[e2];cases l.any q <;>rfl
end Go.Proofs.Z.iM
namespace Go.Proofs.Z.iM
open Go.RowKit Go.RG Go.SL Go.Shelf ig
def iV (h:bN) (turns:List Int):List dF:=if iw h turns=0 then pQ (h.last+1).toNat (iJ h turns) else[]
theorem qc {h:bN} {turns:List Int} (he:iw h turns=0):Sound h:=by
 unfold iw at he;split at he
 ·rename_i hf;exact absurd he hf
 ·rename_i hf;exact BI (by simpa using hf)
theorem Dz (h:bN) (wv tv rE Jm:Value) (turns:List Int) (w:World) (hw:bF w wv h.bM) (ht:aK w tv h.turns) (hx:bB w rE h.readings) (htr:aK w Jm turns):
 Ϝ 43 #[hv h wv tv rE,Jm] w (fun e w'=> ∃v,e= .returned (.tuple #[v,iv (iw h turns)])/\bF w' v (iV h turns)/\Ϙ w w'):=by
 obtain⟨ow,cw,rfl⟩:=hw.open;obtain⟨ot,ct,rfl⟩:=ht.open;obtain⟨ox,cx,rfl⟩:=hx.open;have HW:=aa hw;have HT:=aa ht;have HX:=aa hx;clear hw ht hx;obtain⟨oq,cq,rfl⟩:=htr.open;have HQ:=aa htr;clear htr;obtain⟨E,hE⟩: ∃E,iw h turns=E:=⟨_,rfl⟩;rw[hE];have HE:=aa hE;clear hE;go_enter Tryz.func43,Tryz.ntmps43;go_wp2_with fail
 refine(sP h _ _ _ _ turns _ (HW.o.alloc _) (HT.o.alloc _) (HX.o.alloc _) (HQ.o.alloc _)).mono ?_;rintro e w1 ⟨hb,⟨hne,rfl⟩|⟨h0,wb,mb,rfl,hwb,hmb,hwk⟩⟩
 ·rw[HE.o] at hne⊢;have HB:=aa hb;clear hb;go_wp2_with fail
  go_returns;exact⟨.slice none 0 0,by simp,by unfold iV;rw[HE.o,aj hne];exact QJ _,aV (ai (aC _ _) _) HB.o⟩
 ·have hE0:E=0:=by rw[<-HE.o];exact h0
  subst hE0;have HB:=aa hb;have hS:=qc h0;have I7:=aa (xK h hS _ _ _ _ turns wb mb w1 hwk ((HW.o.alloc _).below hb (ah _)) ((HT.o.alloc _).below hb (ah _)) ((HX.o.alloc _).below hb (ah _)) ((HQ.o.alloc _).below hb (ah _)));have Rk:w.heap.size<=mb:=by simp at hmb;omega
  clear hb hwk h0 hS;go_wp2_with fail
  refine I7.o.mono ?_;rintro e w2 ⟨v,rfl,Fw,μ,Ι⟩;have Ra:=aa (fT (aV (ai (aC _ _) _) HB.o) Ι Rk);have Nl:=aH.bV Fw;obtain⟨vo,vc,rfl⟩:=aL Fw;have HSL:=aa Nl;clear Fw μ Ι Nl;go_wp2_with fail
  go_returns;refine⟨.slice vo _ vc,by simp;rfl,?_,Ra.o⟩;unfold iV;rw[HE.o,aB rfl];exact HSL.o
def mf (h:bN) (turns:List Int):Int:=
 if iw h turns≠0 then 0 else if(iJ h turns).all (kG h)=true then 1 else if(iJ h turns).any (kG h)=true then 3 else 2
theorem zY (h:bN) (wv tv rE Jm:Value) (turns:List Int) (w:World) (hw:bF w wv h.bM) (ht:aK w tv h.turns) (hx:bB w rE h.readings) (htr:aK w Jm turns):
 Ϝ 44 #[hv h wv tv rE,Jm] w (fun e w'=>e= .returned (.tuple #[iv (mf h turns),iv (iw h turns)])/\Ϙ w w'):=by
 obtain⟨ow,cw,rfl⟩:=hw.open;obtain⟨ot,ct,rfl⟩:=ht.open;obtain⟨ox,cx,rfl⟩:=hx.open;have HW:=aa hw;have HT:=aa ht;have HX:=aa hx;clear hw ht hx;obtain⟨oq,cq,rfl⟩:=htr.open;have HQ:=aa htr;clear htr;obtain⟨E,hE⟩: ∃E,iw h turns=E:=⟨_,rfl⟩;obtain⟨V,hV⟩: ∃V,mf h turns=V:=⟨_,rfl⟩;rw[hE,hV];have HE:=aa hE;have HV:=aa hV;clear hE hV;go_enter Tryz.func44,Tryz.ntmps44;go_wp2_with fail
 refine(sP h _ _ _ _ turns _ (HW.o.alloc _) (HT.o.alloc _) (HX.o.alloc _) (HQ.o.alloc _)).mono ?_;rintro e w1 ⟨hb,⟨hne,rfl⟩|⟨h0,wb,mb,rfl,hwb,hmb,hwk⟩⟩
 ·rw[HE.o] at hne⊢;have hv0:V=0:=by
   have hne':iw h turns≠0:=by rw[HE.o];exact hne
   rw[<-HV.o];unfold mf;rw[aB hne']
  subst hv0;have HB:=aa hb;clear hb;go_wp2_with fail
  go_returns;exact⟨by simp,aV (ai (aC _ _) _) HB.o⟩
 ·have hE0:E=0:=by rw[<-HE.o];exact h0
  subst hE0;have HB:=aa hb;have hS:=qc h0;have HEV:=aa (Gi h hS _ _ _ _ turns wb mb w1 hwk ((HW.o.alloc _).below hb (ah _)) ((HT.o.alloc _).below hb (ah _)) ((HX.o.alloc _).below hb (ah _)) ((HQ.o.alloc _).below hb (ah _)));have Rk:w.heap.size+1<=mb:=by simpa using hmb
  have hl0:=hS.F6;have XR:=hS.yn;have hbx:w1.heap[w.heap.size]? =some (.cells #[.int .i64 h.last,.int .i64 h.size,.int .i64 h.aX,.int .i64 h.die,.int .i64 h.qW,.int .i64 h.start.1,.int .i64 h.start.2,.slice ow h.bM.length cw,.slice ot h.turns.length ct,.slice ox h.readings.length cx] 55 (0,0)):=(hb.block _ ϕ).trans (av _ _);have ZV:Hid (V=if(iJ h turns).all (kG h)=true then 1 else if(iJ h turns).any (kG h)=true then 3 else 2):=aa (by
   rw[<-HV.o];unfold mf;rw[aj (by rw[h0];simp)])
  have Kr:=CW (h:=h) (turns:=turns);generalize iJ h turns=ls at*
  have HBX:=aa hbx;have Wv:=aa Kr;clear hb hwk h0 hS hbx Kr;go_wp2_with fail
  refine HEV.o.mono ?_;rintro e w2 ⟨v,rfl,Fw,μ,Ι⟩;have hB2:=fT (aV (ai (aC _ _) _) HB.o) Ι ϑ;have Rq:=(Ι.block w.heap.size (aP.1 HBX.o).1 ϗ).trans HBX.o;have Nl:jV w2 v ls:=⟨aH.bV Fw,Wv.o⟩;obtain⟨vo,vc,rfl⟩:=aL Fw;have hc0: ∀i,w2.cell? ⟨w.heap.size,i,none⟩=(#[.int .i64 h.last,.int .i64 h.size,.int .i64 h.aX,.int .i64 h.die,.int .i64 h.qW,.int .i64 h.start.1,.int .i64 h.start.2,.slice ow h.bM.length cw,.slice ot h.turns.length ct,.slice ox h.readings.length cx]:Array Value)[i]? :=fun i=>by
   simp only[World.cell?,Rq];rfl
  have hs2:=(aP.1 Rq).1;have Ra:=aa hB2;have HSL:=aa Nl;clear Fw μ Ι Nl hB2 Rq;go_wp2_with fail
  have hkc: ∀x∈ls, ∀W,Ϝ 79 ((#[hv h (.slice ow h.bM.length cw) (.slice ot h.turns.length ct) (.slice ox h.readings.length cx)]:Array Value).push (j6 x)++ #[]) W (PV (.bool (kG h x)) W):=
   fun x hx W=>Kl h ow ot ox _ _ _ _ _ _ x (Wv.o x hx) W hl0 XR
  have HKC:=aa hkc;clear hkc;refine(Si ls (.slice vo ls.length vc) 79 #[hv h (.slice ow h.bM.length cw) (.slice ot h.turns.length ct) (.slice ox h.readings.length cx)] #[] (kG h) w2 HSL.o (enters_of Tryz.func79 ϰ rfl) (fun x hx W _=>HKC.o x hx W)).mono ?_;rintro e w3 ⟨rfl,Θ⟩;have δ:=aa Θ;have hc3: ∀i,w3.cell? ⟨w.heap.size,i,none⟩=(#[.int .i64 h.last,.int .i64 h.size,.int .i64 h.aX,.int .i64 h.die,.int .i64 h.qW,.int .i64 h.start.1,.int .i64 h.start.2,.slice ow h.bM.length cw,.slice ot h.turns.length ct,.slice ox h.readings.length cx]:Array Value)[i]? :=fun i=>(Θ.cell (p:=⟨w.heap.size,i,none⟩) hs2).trans (hc0 i);clear Θ hc0;obtain⟨A,hA⟩: ∃A,ls.all (kG h)=A:=⟨_,rfl⟩;rw[hA] at ZV⊢;clear hA;cases A
  ·go_wp2_with fail
   refine(NV ls (.slice vo ls.length vc) 79 #[hv h (.slice ow h.bM.length cw) (.slice ot h.turns.length ct) (.slice ox h.readings.length cx)] #[] (kG h) w3 (HSL.o.below δ.o) (enters_of Tryz.func79 ϰ rfl) (fun x hx W _=>HKC.o x hx W)).mono ?_;rintro e w4 ⟨rfl,hb4⟩;have fV:=aa hb4;clear hb4 hc3;obtain⟨A,hA⟩: ∃A,ls.any (kG h)=A:=⟨_,rfl⟩;rw[hA] at ZV⊢;clear hA;cases A;all_goals
    go_wp2_with fail
    go_returns;exact⟨by rw[ZV.o];simp,aV (aV Ra.o δ.o) fV.o⟩
  ·go_wp2_with fail
   go_returns;exact⟨by rw[ZV.o];simp,aV Ra.o δ.o⟩
end Go.Proofs.Z.iM
namespace Go.Proofs.Z.iM
open Go.RowKit Go.RG Go.SL Go.Shelf ig
end Go.Proofs.Z.iM
namespace Go.Proofs.Z.iM
open Go.RowKit Go.RG Go.SL Go.Shelf ig
end Go.Proofs.Z.iM
namespace Go.Proofs.Z.iM
open Go.RowKit Go.RG Go.SL Go.Shelf ig
abbrev TE:=Int×Value×List Int
abbrev tev (e:TE):Value:= .agg #[iv e.1,e.2.1]
def pK (es:List TE):List Value:=es.flatMap fun e=>[iv e.1,e.2.1]
def yS (w:World) (v:Value) (es:List TE):Prop:=aH 2 w v es.length (pK es)
theorem yS.len {w:World} {v:Value} {es:List TE} (h:yS w v es):es.length<=9223372036854775807:=aH.len h
theorem yS.open {w:World} {v:Value} {es:List TE} (h:yS w v es): ∃o c,v= .slice o es.length c:=aH.open h
theorem yS.cell {w:World} {o:Option Addr} {c:Nat} {es:List TE} (h:yS w (.slice o es.length c) es) {k:Nat} (hk:k<es.length):
 ∃b off,o=some ⟨b,off,none⟩/\b<w.heap.size/\w.cell? ⟨b,off+k*2,none⟩=some (iv es[k].1)/\w.cell? ⟨b,off+k*2+1,none⟩=some es[k].2.1:=by
 obtain⟨hl,o',c',hv,h1,h2,h3,h4⟩:=h;cases hv;cases o with
 |none=>have:=h3 rfl;omega
 |some a=>
  obtain⟨b,off,sp⟩:=a;obtain⟨hs,hc⟩:=h4 _ rfl;simp only at hs hc;subst hs;have h0:=hc (k*2+0) (iv es[k].1) (by unfold pK;rw[iF _ 2 (fun _=>rfl) es k 0 hk ϑ];rfl);have h1:=hc (k*2+1) es[k].2.1 (by unfold pK;rw[iF _ 2 (fun _=>rfl) es k 1 hk ϑ];rfl);exact zcn
theorem aar (l:List TE) (v:Value) (aY:Nat) (Mr aM:Array Value) (p:Nat->Bool) (I:Nat->World->Prop) (w:World) (eg: Ϛ Tryz.prog aY)
 (Nl: ∀k W,I k W->yS W v l)
 (pG: ∀k (hk:k<l.length) W,(∀j,j<k->p j=false)->I k W->Ϝ aY (Mr.push (tev l[k])++aM) W (fun e W'=>e= .returned (.bool (p k))/\I (k+1) W')) (h0:I 0 w):
 Ϝ 291 #[v,.func (.func aY) Mr aM] w (dM l.length p I (fun k=>iv k) (iv (-1))):=by
 have Ib:=(Nl 0 w h0).len;obtain⟨o,c,rfl⟩:=(Nl 0 w h0).open;have HC:=aa pG;have HS:=aa Nl;clear pG Nl;go_enter Tryz.func291,Tryz.ntmps291;go_wp2;go_loopw [4,5,8] (fun _ _ i wr=> ∃k:Nat,k<=l.length/\i= .int .i64 k/\(∀j,j<k->p j=false)/\I k wr) (fun _ _ i _=>l.length-(intOf i).toNat)
 case atStart=>exact⟨0,bD _,rfl,fun j hj=>ϑ,h0⟩
 case round=>
  obtain⟨k,hk,rfl,GX,hI⟩:=hrel;by_cases tX:k<l.length
  ·obtain⟨b,off,rfl,hb,hc0,hc1⟩:=yS.cell (HS.o k wr hI) tX;exact zcx
  ·exact zao
theorem VR (l:List TE) (v:Value) (aY:Nat) (Mr aM:Array Value) (p:Nat->Bool) (I:Nat->World->Prop) (w:World) (eg: Ϛ Tryz.prog aY)
 (Nl: ∀k W,I k W->yS W v l)
 (pG: ∀k (hk:k<l.length) W,(∀j,j<k->p j=false)->I k W->Ϝ aY (Mr.push (tev l[k])++aM) W (fun e W'=>e= .returned (.bool (p k))/\I (k+1) W')) (h0:I 0 w):
 Ϝ 236 #[v,.func (.func aY) Mr aM] w (dM l.length p I (fun _=> .bool true) (.bool false)):=by
 have HI:=aa (aar l v aY Mr aM p I w eg Nl pG h0);have Ib:=(Nl 0 w h0).len;clear Nl pG h0 eg;go_enter Tryz.func236,Tryz.ntmps236;exact zad
theorem V9 (x:TE) (bx aY:Nat) (Mr aM:Array Value) (b:Bool) (W:World) (R:World->Prop) (eg: Ϛ Tryz.prog aY)
 (hbx:W.cell? ⟨bx,0,none⟩=some (.func (.func aY) Mr aM))
 (pG:Ϝ aY (Mr.push (tev x)++aM) (W.alloc (.cells #[iv x.1,x.2.1] 208)) (fun e W'=>e= .returned (.bool b)/\R W')):
 Ϝ 237 #[tev x,.pointer (some ⟨bx,0,none⟩)] W (fun e W'=>e= .returned (.bool !b)/\R W'):=by
 have tX:=dn W _ hbx;have HC:=aa pG;clear pG;go_enter Tryz.func237,Tryz.ntmps237;exact zaq
theorem allT (l:List TE) (v:Value) (aY:Nat) (Mr aM:Array Value) (p:Nat->Bool) (I:Nat->World->Prop) (w:World) (eg: Ϛ Tryz.prog aY)
 (Nl: ∀k W,I k W->yS W v l) (hal: ∀k W o,I k W->I k (W.alloc o))
 (pG: ∀k (hk:k<l.length) W,(∀j,j<k->p j=true)->I k W->Ϝ aY (Mr.push (tev l[k])++aM) W (fun e W'=>e= .returned (.bool (p k))/\I (k+1) W'/\iy w.heap.size W W')) (h0:I 0 w):
 Ϝ 150 #[v,.func (.func aY) Mr aM] w (dM l.length (fun k=>!p k) I (fun _=> .bool false) (.bool true)):=by
 have HI:=aa (VR l v 237 #[] #[.pointer (some ⟨w.heap.size,0,none⟩)] (fun k=>!p k)
  (fun k W=>I k W/\W.heap[w.heap.size]? =some (.cells #[.func (.func aY) Mr aM] 288 (0,0))) (w.alloc (.cells #[.func (.func aY) Mr aM] 288))
  (enters_of Tryz.func237 ϰ rfl) (fun k W h=>Nl k W h.1)
  (fun k hk W GX h=>by
    have tX:w.heap.size<W.heap.size:=(aP.1 h.2).1;refine(V9 l[k] w.heap.size aY Mr aM (p k) W (fun W'=>I (k+1) W'/\W'.heap[w.heap.size]? =some (.cells #[.func (.func aY) Mr aM] 288 (0,0))) eg (aA h.2) ?_);refine(pG k hk _ (fun j hj=>by simpa using GX j hj) (by first|exact hal _ _ _ h.1|exact h.1)).mono ?_;rintro e W' ⟨rfl,h1,h2⟩;refine⟨rfl,h1,(h2.block _ (ah _) (by first|exact tX|(simp;omega))).trans (by first|exact h.2|exact(aS _ _ _ tX).trans h.2)⟩)
  ⟨hal _ _ _ h0,heap_alloc_new w _⟩)
 have Ib:=(Nl 0 w h0).len;clear Nl pG h0 eg hal;go_enter Tryz.func150,Tryz.ntmps150;exact zaf
theorem Qp (h:bN) (hS:Sound h) (oa ob oc:Option Addr) (na ca nb cb nc cc:Nat) (wb mb:Nat) (e:TE) (turns:List Int) (tv:Value) (bw bt:Nat) (W:World) (ζ:W.heap[bw]? =some (.cells #[.pointer (some ⟨wb,0,none⟩)] 170 (0,0))) (θ:W.heap[bt]? =some (.cells #[tv] 52 (0,0)))
 (hwk:gN W wb mb h (.slice oa na ca) (.slice ob nb cb) (.slice oc nc cc)) (he:aK W e.2.1 e.2.2) (Gb:aK W tv turns) (Ib:e.2.2.length<=10) (h0:0<=e.1) (h1:e.1<=500) (Nr: ∀x∈e.2.2,0<=x/\x<=20):
 Ϝ 151 #[tev e,.pointer (some ⟨bw,0,none⟩),.pointer (some ⟨bt,0,none⟩)] W (fun x W'=>x= .returned (.bool (kG h (jS h (e.1,e.2.2) turns)))/\Cache W' mb h.aX/\Ext [mb] W W'):=by
 obtain⟨ot,ct,rfl⟩:=Gb.open;obtain⟨start,ws,bM⟩:=e;replace he:aK W ws bM:=he;simp only at Ib h0 h1 Nr;obtain⟨ows,cws,rfl⟩:=aH.open he;have hl0:=hS.F6;have XR:=hS.yn;have c1:=aA ζ;have c2:=aA θ;have s1:=dn W _ c1;have s2:=dn W _ c2;have c3:=hwk.cell;have s3:=hwk.lt;have hn1:=zD hwk.cache ζ;have hn2:=zD hwk.cache θ;have Il:=zD hwk.cache hwk.cells;have hmb:=hwk.cache.lt;obtain⟨ys,hy⟩: ∃ys,jS h (start,bM) turns=ys:=⟨_,rfl⟩;have Cq:ys.length=10:=by rw[<-hy];exact jH _ _ _ _ _ _
 have hpl:=fun(W':World) (hb:Ϙ W W')=>si h _ _ _ wb mb start bM turns _ _ W' (hwk.below hb (ah _)) (he.below hb (ah _)) (Gb.below hb (ah _)) Ib hS.Jt hS.Js hS.KV hS.KU h0 h1 Nr;obtain⟨q,hq⟩: ∃q,kG h ys=q:=⟨_,rfl⟩;have hk:=fun(W':World)=>Kl h oa ob oc na ca nb cb nc cc ys Cq W' hl0 XR;show Ϝ 151 #[.agg #[iv start,.slice ows bM.length cws],.pointer (some ⟨bw,0,none⟩),.pointer (some ⟨bt,0,none⟩)] W (fun x W'=>x= .returned (.bool (kG h (jS h (start,bM) turns)))/\Cache W' mb h.aX/\Ext [mb] W W');rw[hy] at hpl⊢;rw[hq] at hk⊢;have Ti:=aa hpl;have HK:=aa hk;clear hpl hk ζ θ hwk he Gb Nr hy hq hS;go_enter Tryz.func151,Tryz.ntmps151;go_wp2_with fail
 obtain⟨W1,σ⟩: ∃W1,W.alloc (.cells #[iv start,.slice ows bM.length cws] 208)=W1:=⟨_,rfl⟩;have hB1:Ϙ W W1:=by rw[<-σ];exact ai (aC _ _) _
 obtain⟨hc,hf⟩:=bA hB1;have hz1:W1.heap.size=W.heap.size+1:=by rw[<-σ];simp
 have hbt:W1.heap[W.heap.size]? =some (.cells #[iv start,.slice ows bM.length cws] 208 (0,0)):=by rw[<-σ];exact av _ _
 have hgt: ∀i,W1.cell? ⟨W.heap.size,i,none⟩=(#[iv start,.slice ows bM.length cws]:Array Value)[i]? :=fun i=>by
  simp only[World.cell?,hbt];rfl
 have z0:W.heap.size<W1.heap.size:=ϑ;have z1:bw<W1.heap.size:=ϑ;have z2:bt<W1.heap.size:=ϑ;have z3:wb<W1.heap.size:=ϑ;have hn4: ¬W.heap.size=mb:=ϑ;rw[σ];have Qi:=aa hB1;clear σ hB1 hbt;refine zg 8 [mb] (some 7) [(7,⟨fun _ v=>v= .agg (ag ys).toArray,fun _ _ W=>Cache W mb h.aX⟩)] ?_;simp only[zt];repeat (refine zd ?_;simp only[zp])
 refine bn _ ϱ ϱ ⟨_,rfl⟩ (fun W5 hE hF=>?_) (fun v Wa Wb hc hE=>?_) (fun v hv=>?_)
 ·have G8:Ext [] W1 W5:=hE;refine bX 133 #[.pointer (some ⟨wb,0,none⟩),.agg #[iv start,.slice ows bM.length cws],.slice ot turns.length ct] (by go_simp;try rfl) ?_;refine(Ti.o W5 (aV Qi.o G8.below)).mono ?_;exact zbB
 ·exact zbK
 obtain rfl:v= .agg (ag ys).toArray:=hv;simp only[zp];intro W5 hE hF;have G8:Ext [mb] W1 W5:=hE;have μ:Cache W5 mb h.aX:=hF _ (bu _);have HR:=aa (af μ ((Ext.ay Qi.o).trans G8));clear hE hF G8 μ hgt;go_wp2_with fail
 refine(HK.o W5).mono ?_;rintro e W6 ⟨rfl,hb6⟩;have nZ:=aa hb6;clear hb6 hc hf;go_wp2_with fail
 go_returns;exact⟨by simp,HR.o.1.kept (nZ.o.block mb HR.o.1.lt),HR.o.2.bel nZ.o⟩
theorem TS (h:bN) (hS:Sound h) (a b c:Value) (wb mb:Nat) (es:List TE) (ev:Value) (turns:List Int) (tv:Value) (w:World) (hwk:gN w wb mb h a b c) (h1:bF w a h.bM) (h2:aK w b h.turns) (h3:bB w c h.readings)
 (hev:yS w ev es) (hes: ∀e∈es,aK w e.2.1 e.2.2/\e.2.2.length<=10/\(0<=e.1/\e.1<=500)/\ ∀x∈e.2.2,0<=x/\x<=20) (Gb:aK w tv turns):
 Ϝ 95 #[.pointer (some ⟨wb,0,none⟩),ev,tv] w (fun x w'=>x= .returned (.bool (es.all fun e=>kG h (jS h (e.1,e.2.2) turns)))/\Cache w' mb h.aX/\Ext [mb] w w'):=by
 obtain⟨oa,ca,rfl⟩:=h1.open;obtain⟨ob,cb,rfl⟩:=h2.open;obtain⟨oc,cc,rfl⟩:=h3.open;obtain⟨ot,ct,rfl⟩:=Gb.open;obtain⟨oe,ce,rfl⟩:=yS.open hev;have hmb:=hwk.cache.lt;obtain⟨q,hq⟩: ∃q,(es.all fun e=>kG h (jS h (e.1,e.2.2) turns))=q:=⟨_,rfl⟩;have hall:=fun(w2:World) (hB:Ϙ w w2) (hb0:w2.heap[w.heap.size]? =some (.cells #[.pointer (some ⟨wb,0,none⟩)] 170 (0,0))) (ζ:w2.heap[w.heap.size+1]? =some (.cells #[.slice ot turns.length ct] 52 (0,0)))=>
  allT es (.slice oe es.length ce) 151 #[] #[.pointer (some ⟨w.heap.size,0,none⟩),.pointer (some ⟨w.heap.size+1,0,none⟩)] (fun k=>kG h (jS h ((es.getD k (0,undef,[])).1,(es.getD k (0,undef,[])).2.2) turns))
   (fun _ W=>(Ext [mb] w W/\Cache W mb h.aX)/\W.heap[w.heap.size]? =some (.cells #[.pointer (some ⟨wb,0,none⟩)] 170 (0,0))/\W.heap[w.heap.size+1]? =some (.cells #[.slice ot turns.length ct] 52 (0,0))) w2 (enters_of Tryz.func151 ϰ rfl)
   (fun k W hI=>aH.eZ hev hI.1.1 (fun x hx o=>by
     obtain rfl:x=mb:=by simpa using hx
     exact hwk.cache.kQ o))
   (fun k W o hI=>⟨⟨hI.1.1.alloc o,hI.1.2.kept (aS _ _ _ hI.1.2.lt)⟩,(aS _ _ _ (aP.1 hI.2.1).1).trans hI.2.1,(aS _ _ _ (aP.1 hI.2.2).1).trans hI.2.2⟩)
   (fun k hk W _ hI=>by
     have hm: ∀x∈[mb], ∀o,w.cell? ⟨x,o,none⟩=none:=fun x hx o=>by
      obtain rfl:x=mb:=by simpa using hx
      exact hwk.cache.kQ o
     obtain⟨k1,k2,k3,k4⟩:=hes es[k] (bK hk);have hgd:es.getD k (0,undef,[])=es[k]:=by simp[List.getD,hk]
     rw[hgd];refine(Qp h hS oa ob oc _ _ _ _ _ _ wb mb es[k] turns (.slice ot turns.length ct) w.heap.size (w.heap.size+1) W hI.2.1 hI.2.2 (hwk.ext hI.1.1 hI.1.2) (k1.eZ hI.1.1 hm) (Gb.eZ hI.1.1 hm) k2 k3.1 k3.2 k4).mono ?_;rintro e W' ⟨rfl,hc,hE⟩;refine⟨rfl,⟨⟨hI.1.1.trans hE,hc⟩,(hE.block _ (aP.1 hI.2.1).1 ϗ).trans hI.2.1,(hE.block _ (aP.1 hI.2.2).1 ϗ).trans hI.2.2⟩,iy.sZ hE (fun x hx=>?_)⟩;have:=hB.size;simp at hx;omega)
   ⟨⟨Ext.ay hB,hwk.cache.kept (hB.block mb hmb)⟩,hb0,ζ⟩
 have acf:=aa hall;have HQ:Hid (((List.range es.length).all fun k=>kG h (jS h ((es.getD k (0,undef,[])).1,(es.getD k (0,undef,[])).2.2) turns))=q):=aa (by rw[<-hq];exact iU es (fun e=>kG h (jS h (e.1,e.2.2) turns)) (0,undef,[]))
 rw[hq];have Ib:=yS.len hev;clear hall hq hes hev hwk h1 h2 h3 Gb;go_enter Tryz.func95,Tryz.ntmps95;go_wp2_with fail
 refine(acf.o _ zl ((aS _ _ _ ϕ).trans (av _ _)) (dG _ _ _)).mono ?_;intro e W' ξ;obtain⟨rfl,k,_,hI⟩:=ξ.all;rw[iK,HQ.o];have HI:=aa hI;clear hI ξ;go_wp2_with fail
 go_returns;exact⟨by simp,HI.o.1.2,HI.o.1.1⟩
end Go.Proofs.Z.iM
namespace Go.Proofs.Z.iM
open Go.RowKit Go.RG Go.SL Go.Shelf ig
attribute [local go_sem] Oper.semAt_some
theorem Xk:gJ Tryz.prog 203 208 (.agg #[iv 0,.slice none 0 0]) 2 32:=⟨Tryz.underlying203,by kernel_rfl,rfl,by omega⟩
def Jz (h:bN) (turns:List Int):Bool:=(dE h []).all fun t=>kG h (jS h t turns)
def RD (h:bN):Option (List Int):=lu (h.last+1).toNat (Jz h)
def xH (h:bN):Int:=if iw h []≠0 then iw h [] else if(RD h).isSome then 0 else 10
def NF (h:bN):List Int:=if iw h []≠0 then[] else(RD h).getD []
structure Z4 (w:World) (wb:Nat) (es:List TE) (Ms:List Nat) (W:World):Prop where
 b0:W.heap[w.heap.size]? =some (.cells #[.pointer (some ⟨wb,0,none⟩)] 170 (0,0))
 out: ∃v,W.heap[w.heap.size+1]? =some (.cells #[v] 203 (0,0))/\W.ownsRow (w.heap.size+6) 208 2 v es.length (pK es)/\(∀g,v.ownBlock=some g->g∉Ms/\g<W.heap.size)/\
  ∀e∈es,W.ownsRow (w.heap.size+6) 3 1 e.2.1 e.2.2.length (ag e.2.2)/\ ∀g,e.2.1.ownBlock=some g->(g∉Ms/\g<W.heap.size)/\v.ownBlock≠some g
 b3:W.heap[w.heap.size+1+1]? =some (.cells #[.pointer (some ⟨wb,0,none⟩)] 170 (0,0))
 b4:W.heap[w.heap.size+1+1+1]? =some (.cells #[.slice none 0 0] 52 (0,0))
theorem Z4.kept {w:World} {wb:Nat} {es:List TE} {Ms jc:List Nat} {W W':World} (h:Z4 w wb es Ms W) (hs:W.heap.size<=W'.heap.size) (hk: ∀b,w.heap.size<=b->b<w.heap.size+4->W'.heap[b]? =W.heap[b]?)
 (ho: ∀g,w.heap.size+6<=g->g<W.heap.size->g∉Ms->W'.heap[g]? =W.heap[g]?) (hM: ∀m∈jc,m∈Ms∨(W.heap.size<=m/\m<W'.heap.size)):Z4 w wb es jc W':=by
 obtain⟨v,h1,h2,h3,h4⟩:=h.out;have hnM: ∀g,(g∉Ms/\g<W.heap.size)->g∉jc/\g<W'.heap.size:=fun g ⟨hg1,hg2⟩=>⟨fun hm=>by
  rcases hM g hm with h5|h5
  ·exact hg1 h5
  ·omega,by omega⟩
 refine⟨(hk _ ϑ ϑ).trans h.b0,⟨v,(hk _ ϑ ϑ).trans h1,bU h2 fun g hg=>ho g (aW h2 g hg).1 (aW h2 g hg).2 (h3 g hg).1,fun g hg=>hnM g (h3 g hg),fun e he=>?_⟩,
  (hk _ ϑ ϑ).trans h.b3,(hk _ ϑ ϑ).trans h.b4⟩
 obtain⟨k1,k2⟩:=h4 e he;exact⟨bU k1 fun g hg=>ho g (aW k1 g hg).1 (aW k1 g hg).2 (k2 g hg).1.1,fun g hg=>⟨hnM g (k2 g hg).1,(k2 g hg).2⟩⟩
theorem Vy {w W7 W8 W9:World} {wb mb:Nat} {aX:Int} {v v':Value} {es:List TE} {e:TE} {Os Ms:List Nat} (hF:Fr w mb aX Os Ms W7) (hP:Z4 w wb es Ms W7)
 (Β:W7.heap[w.heap.size+1]? =some (.cells #[v] 203 (0,0))) (hv3: ∀g,v.ownBlock=some g->(w.heap.size+6<=g/\g<W7.heap.size)/\g∉Ms)
 (hE:Ext [] W7 W8) (hG:W8.grownBy W9 v.ownBlock) (hN:v'.ownBlock=v.ownBlock∨v'.ownBlock=some W8.heap.size) (hO:W9.ownsRow (w.heap.size+6) 208 2 v' (es.length+1) (pK es++[iv e.1,e.2.1]))
 (hC:W8.ownsRow W7.heap.size 3 1 e.2.1 e.2.2.length (ag e.2.2)) (hmb:mb<w.heap.size) (hs:w.heap.size+6<=W7.heap.size):
 (Fr w mb aX Os Ms (W9.setCell ⟨w.heap.size+1,0,none⟩ v')/\Z4 w wb (es++[e]) Ms (W9.setCell ⟨w.heap.size+1,0,none⟩ v'))/\
   (∀b,b<W7.heap.size->v.ownBlock≠some b->b≠w.heap.size+1->(W9.setCell ⟨w.heap.size+1,0,none⟩ v').heap[b]? =W7.heap[b]?)/\W7.heap.size<=(W9.setCell ⟨w.heap.size+1,0,none⟩ v').heap.size:=by
 have h1:=hE.size;have h2:=hG.size;have hk: ∀b,b<W7.heap.size->v.ownBlock≠some b->W9.heap[b]? =W7.heap[b]? :=fun b hb hn=>
  (hG.block b ϑ (fun e=>hn e.symm)).trans (hE.block b hb ϕ)
 have Γ: ∀b,b<W7.heap.size->v.ownBlock≠some b->b≠w.heap.size+1->(W9.setCell ⟨w.heap.size+1,0,none⟩ v').heap[b]? =W7.heap[b]? :=fun b hb hn hne=>
  (dm _ _ _ _ hne).trans (hk b hb hn)
 have hlow: ∀b,b<w.heap.size+6->v.ownBlock≠some b:=fun b hb e=>by have:=(hv3 b e).1.1;omega
 have ν:W7.heap.size<=(W9.setCell ⟨w.heap.size+1,0,none⟩ v').heap.size:=by simp[World.setCell];omega
 have hb:=aW hO;have hcb:=aW hC;have adD: ∀g,v'.ownBlock=some g->g∉Ms/\g<W9.heap.size:=fun g hg=>⟨fun hm=>by
  rcases hN with hN|hN
  ·exact(hv3 g (by rw[<-hN,hg])).2 hm
  ·rw[hg] at hN;injection hN with hN;have:=hF.bnd g hm;omega,(hb g hg).2⟩
 refine⟨⟨hF.own ⟨hG.os.trans (hE.os.trans hF.ext.os),hG.tape.trans (hE.tape.trans hF.ext.tape),hG.output.trans (hE.output.trans hF.ext.output),by have:=hF.ext.size;omega,fun k Ρ hm=>(Γ k (by have:=hF.ext.size;omega) (hlow k ϑ) ϑ).trans (hF.ext.block k Ρ hm)⟩ ν (hF.cache.kept (Γ mb ϑ (hlow mb ϑ) ϑ)),?_⟩,Γ,ν⟩;obtain⟨vv,q1,q2,q3,q4⟩:=hP.out;have hvv:vv=v:=by
  rw[Β] at q1;simpa using q1.symm
 subst hvv;refine⟨(Γ _ ϑ (hlow _ ϑ) ϑ).trans hP.b0,⟨v',?_,?_,fun g hg=>⟨(adD g hg).1,by have:=(adD g hg).2;simpa [World.setCell] using this⟩,fun x hx=>?_⟩,(Γ _ ϑ (hlow _ ϑ) ϑ).trans hP.b3,(Γ _ ϑ (hlow _ ϑ) ϑ).trans hP.b4⟩
 ·exact aG ((hk _ ϑ (hlow _ ϑ)).trans Β) _
 ·rw[bR];have:pK (es++[e])=pK es++[iv e.1,e.2.1]:=by simp[pK]
  rw[this];exact bU hO fun g hg=>dm _ _ _ _ (by have:=(hb g hg).1;show g≠w.heap.size+1;omega)
 ·rcases gz.1 hx with hx|hx
  ·obtain⟨k1,k2⟩:=q4 x hx;have kb:=aW k1;refine⟨bU k1 fun g hg=>Γ g (kb g hg).2 (k2 g hg).2 (by have:=(kb g hg).1;omega),fun g hg=>⟨⟨(k2 g hg).1.1,by have:=(kb g hg).2;omega⟩,fun e1=>?_⟩⟩;rcases hN with hN|hN
   ·exact(k2 g hg).2 (by rw[<-hN,e1])
   ·rw[e1] at hN;injection hN with hN;have:=(kb g hg).2;omega
  ·obtain rfl:x=e:=by simpa using hx
   refine⟨bL (bU hC fun g hg=>(dm _ _ _ _ (by have:=(hcb g hg).1;show g≠w.heap.size+1;omega)).trans (hG.block g (hcb g hg).2 (fun e1=>by have:=(hv3 g e1.symm).1.2;have:=(hcb g hg).1;omega))) ϑ,fun g hg=>⟨⟨fun hm=>?_,?_⟩,fun e1=>?_⟩⟩
   ·have:=hF.bnd g hm;have:=(hcb g hg).1;omega
   ·have:=(hcb g hg).2;simp[World.setCell];omega
   ·rcases hN with hN|hN
    ·have:=(hv3 g (by rw[<-hN,e1])).1.2;have:=(hcb g hg).1;omega
    ·rw[e1] at hN;injection hN with hN;have:=(hcb g hg).2;omega
end Go.Proofs.Z.iM
namespace Go.Proofs.Z.iM
open Go.RowKit Go.RG Go.SL Go.Shelf ig
attribute [local go_sem] Oper.semAt_some
theorem KF (h:bN) (hS:Sound h) (a b c:Value) (wb mb:Nat) (es:List TE) (o:Option Addr) (cp:Nat) (turns:List Int) (tv:Value) (bw bt:Nat) (W:World) (ζ:W.heap[bw]? =some (.cells #[.pointer (some ⟨wb,0,none⟩)] 170 (0,0))) (θ:W.heap[bt]? =some (.cells #[.slice o es.length cp] 203 (0,0)))
 (hwk:gN W wb mb h a b c) (h1:bF W a h.bM) (h2:aK W b h.turns) (h3:bB W c h.readings) (hev:yS W (.slice o es.length cp) es)
 (hes: ∀e∈es,aK W e.2.1 e.2.2/\e.2.2.length<=10/\(0<=e.1/\e.1<=500)/\ ∀x∈e.2.2,0<=x/\x<=20) (Gb:aK W tv turns):
 Ϝ 94 #[tv,.pointer (some ⟨bw,0,none⟩),.pointer (some ⟨bt,0,none⟩)] W (fun x w'=>x= .returned (.bool (es.all fun e=>kG h (jS h (e.1,e.2.2) turns)))/\Cache w' mb h.aX/\Ext [mb] W w'):=by
 have HSF:=aa (TS h hS a b c wb mb es (.slice o es.length cp) turns tv W hwk h1 h2 h3 hev hes Gb);have c1:=aA ζ;have c2:=aA θ;have s1:=dn W _ c1;have s2:=dn W _ c2;obtain⟨ot,ct,rfl⟩:=Gb.open;generalize (es.all fun e=>kG h (jS h (e.1,e.2.2) turns))=q at*
 clear ζ θ hwk h1 h2 h3 hev hes Gb;go_enter Tryz.func94,Tryz.ntmps94;go_wp2_with fail
 refine HSF.o.mono ?_;rintro e W' ⟨rfl,hc,hE⟩;have Ra:=aa (af hc hE);clear hc hE;exact zau
theorem OQ (h:bN) (wv tv rE:Value) (w:World) (hw:bF w wv h.bM) (ht:aK w tv h.turns) (hx:bB w rE h.readings):
 Ϝ 54 #[hv h wv tv rE] w (fun e w'=> ∃v,e= .returned (.tuple #[v,iv (xH h)])/\aK w' v (NF h)/\Ϙ w w'):=by
 obtain⟨ow,cw,rfl⟩:=hw.open;obtain⟨ot,ct,rfl⟩:=ht.open;obtain⟨ox,cx,rfl⟩:=hx.open;have HW:=aa hw;have HT:=aa ht;have HX:=aa hx;clear hw ht hx;obtain⟨E,hE⟩: ∃E,xH h=E:=⟨_,rfl⟩;obtain⟨L,hL⟩: ∃L,NF h=L:=⟨_,rfl⟩;rw[hE,hL];have HE:=aa hE;have HL:=aa hL;clear hE hL;refine(callsIn_wide (n:=0)).1 ?_;refine callsIn_of_wp_marks Tryz.func54 rfl trivial ?_;simp only[Tryz.ntmps54,List.size_toArray,List.length_cons,List.length_nil,Nat.reduceAdd,Nat.reduceSub,Array.replicate_succ,Array.replicate_zero,jr,jv,List.nil_append,List.cons_append]
 gi_wp2_with fail
 refine(callsIn_wide.2 (sP h _ _ _ _ [] _ (HW.out.alloc _) (HT.out.alloc _) (HX.out.alloc _) (oz _))).mono ?_;rintro e w1 ⟨hb,⟨hne,rfl⟩|⟨h0,wb,mb,rfl,hwb,hmb,hwk⟩⟩
 ·have he:E=iw h []:=by rw[<-HE.out];unfold xH;rw[aB hne]
  have hl:L=[]:=by rw[<-HL.out];unfold NF;rw[aB hne]
  subst hl;obtain⟨E',G8⟩: ∃E',iw h []=E':=⟨_,rfl⟩;rw[G8] at hne he⊢;subst he;have HB:=aa hb;clear hb
  gi_wp2_with fail
  refine⟨.tuple #[.slice none 0 0,iv E],by simp[results,Tryz.results54,go_sem],?_⟩;exact⟨.slice none 0 0,by simp,oz _,ai (aV (ai (aC _ _) _) HB.out) _⟩
 ·have hS:=qc h0;have Rk:w.heap.size+1<=mb:=by simpa using hmb
  have hb0:w1.heap[w.heap.size]? =some (.cells #[.int .i64 h.last,.int .i64 h.size,.int .i64 h.aX,.int .i64 h.die,.int .i64 h.qW,.int .i64 h.start.1,.int .i64 h.start.2,.slice ow h.bM.length cw,.slice ot h.turns.length ct,.slice ox h.readings.length cx] 55 (0,0)):=(hb.block _ ϕ).trans (av _ _);have hbw:Ϙ w w1:=aV (ai (aC _ _) _) hb;have H1:=aa (HW.out.below hbw (ah _));have H2:=aa (HT.out.below hbw (ah _));have H3:=aa (HX.out.below hbw (ah _));have PX:=aa hbw;have ψ:=aa hb0;have Bq:=aa hwk;have mK:=aa hS;have hw0:=(aP.1 hb0).1;have Cw:=hwk.cache.lt;have PW:Hid (E=(if(RD h).isSome then 0 else 10)/\L=(RD h).getD []):=aa ⟨by rw[<-HE.out];unfold xH;rw[aj (by rw[h0];simp)],by rw[<-HL.out];unfold NF;rw[aj (by rw[h0];simp)]⟩;clear hb hwk h0 hS hb0 hbw hwb hmb
  gi_wp2_with fail
  refine(callsIn_wide.2 (xh wb _ _ _ _)).mono ?_;rintro e w1' ⟨rfl,rfl⟩
  gi_wp2_with fail
  obtain⟨w2,hw2⟩: ∃w2,((((w1.alloc (.cells #[.pointer (some ⟨wb,0,none⟩)] 170)).alloc (.cells #[.slice none 0 0] 203)).alloc (.cells #[.pointer (some ⟨wb,0,none⟩)] 170)).alloc (.cells #[.slice none 0 0] 52))=w2:=⟨_,rfl⟩;have hB2:Ϙ w1 w2:=by rw[<-hw2];exact zl
  have hsz2:w2.heap.size=w1.heap.size+4:=by rw[<-hw2];simp
  have hP2:Z4 w1 wb [] [mb] w2:=by
   rw[<-hw2];have n3:=av (((w1.alloc (.cells #[.pointer (some ⟨wb,0,none⟩)] 170)).alloc (.cells #[.slice none 0 0] 203)).alloc (.cells #[.pointer (some ⟨wb,0,none⟩)] 170)) (.cells #[.slice none 0 0] 52);simp only[bg] at n3;refine⟨?_,⟨.slice none 0 0,?_,⟨rfl,.inl ⟨rfl,rfl⟩⟩,(fun g hg=>by cases hg),(fun e he=>by cases he)⟩,?_,n3⟩
   ·exact(aS _ _ _ (by first|omega|(simp;done)|(simp;omega))).trans ((aS _ _ _ (by first|omega|(simp;done)|(simp;omega))).trans ((aS _ _ _ (by first|omega|(simp;done)|(simp;omega))).trans (av _ _)))
   ·exact(aS _ _ _ (by first|omega|(simp;done)|(simp;omega))).trans ((aS _ _ _ (by first|omega|(simp;done)|(simp;omega))).trans (dG _ _ _))
   ·exact(aS _ _ _ (by first|omega|(simp;done)|(simp;omega))).trans (fU _ _ _ _)
  rw[hw2];clear hw2;refine kL (xg h mK.out (.slice ow h.bM.length cw) (.slice ot h.turns.length ct) (.slice ox h.readings.length cx) (.slice none 0 0) [] wb mb (w1.heap.size+1+1) (w1.heap.size+1+1+1)) rfl (enters_of Tryz.func144 ϰ rfl) rfl ϗ
   (fun Ms k W=>Fr w1 mb h.aX [w1.heap.size,w1.heap.size+1,w1.heap.size+2,w1.heap.size+3,w1.heap.size+4,w1.heap.size+5] Ms W/\ ∃es:List TE,es.map (fun e=>(e.1,e.2.2))=(dE h []).take k/\Z4 w1 wb es Ms W)
   (fun _ _ _=>False)
   ?hInv ?mZ ?hI ?hIx ?Et ?qE ?h0
   (fun a Ms k W1 a₁ W=> ∃(t:Int×List Int) (ob bt:Nat),(dE h [])[k]? =some t/\a₁={tmps:=(a.tmps.setIfInBounds 20 (.agg #[iv t.1,.slice (some ⟨ob,1,none⟩) t.2.length t.2.length])).setIfInBounds 7 (.pointer (some ⟨bt,0,none⟩)),defers:=[]}/\
     (Fr w1 mb h.aX [w1.heap.size,w1.heap.size+1,w1.heap.size+2,w1.heap.size+3,w1.heap.size+4,w1.heap.size+5] Ms W/\ ∃es:List TE,es.map (fun e=>(e.1,e.2.2))=(dE h []).take k/\Z4 w1 wb es Ms W)/\
     (W.heap[bt]? =some (.cells #[iv t.1,.slice (some ⟨ob,1,none⟩) t.2.length t.2.length] 208 (0,0))/\(w1.heap.size+6<=bt/\ob∈Ms/\ob≠mb)/\aK W (.slice (some ⟨ob,1,none⟩) t.2.length t.2.length) t.2)/\(∀m∈Ms,m∉[mb]->m<W1.heap.size->W.heap[m]? =W1.heap[m]?)/\W1.heap.size<=W.heap.size)
   ?Iu ?hassign ?hbody ?hdone ?hstop
  case hInv=>rintro Ms k W ⟨hF,es,hes,hP⟩;exact hF.Xf Bq.out H1.out H2.out H3.out (oz w1) hP.b3 hP.b4
  case mZ=>rintro cd Ms W h;exact h.elim
  case hI=>
   rintro Ms jc k Wa Wb ⟨hF,es,hes,hP⟩ hE γ hc;exact⟨(hF.gM hE γ hc).1,es,hes,hP.kept hE.size (fun b h1 h2=>(hF.gM hE γ hc).2 b ϗ) (fun g h1 h2 h3=>hE.block g h2 h3) γ⟩
  case hIx=>rintro cd Ms jc Wa Wb h;exact h.elim
  case Et=>
   rintro Ms k W r o ⟨hF,es,hes,hP⟩ hr;exact⟨hF.put o ϑ Cw,es,hes,hP.kept ϕ (fun b h1 h2=>World.putObj_heap_other ϑ) (fun g h1 h2 h3=>World.putObj_heap_other ϑ) (fun m hm=> .inl hm)⟩
  case qE=>rintro cd Ms W r o h;exact h.elim
  case h0=>
   intro o o';have hB:Ϙ w1 ((w2.alloc o).alloc o'):=ai (ai hB2 _) _;exact⟨⟨Ext.ay hB,fun m hm=> .inl (by simpa using hm),fun m hm=>(by have:=hB.size;simp at hm;omega),fun b hb=>⟨by simp at hb⊢;omega,by simp at hb⊢;omega⟩,Bq.out.cache.kept (hB.block mb Cw)⟩,
    [],by simp,hP2.kept ϗ (fun b h1 h2=>(aS _ _ _ ϗ).trans (aS _ _ _ ϑ)) (fun g h1 h2 h3=>ϑ) (fun m hm=> .inl hm)⟩
  case Iu=>
   rintro Ms k W1 a₁ W o ⟨t,ob,bt,ht,ha,⟨hF,es,hes,hP⟩,⟨hbt,⟨wz,wO,hne⟩,Nl⟩,hk,hs⟩;have χ:=(hF.apart (w1.heap.size+5) ϕ).1;refine⟨t,ob,bt,ht,ha,⟨hF.put o ϑ Cw,es,hes,hP.kept ϕ (fun b h1 h2=>World.putObj_heap_other ϑ) (fun g h1 h2 h3=>World.putObj_heap_other ϑ) (fun m hm=> .inl hm)⟩,
    ⟨(World.putObj_heap_other ϑ).trans hbt,⟨wz,wO,hne⟩,Nl.kept fun b off n c hv _=>by cases hv;exact World.putObj_heap_other (fun e=>χ (by rw[show w1.heap.size+5=ob by omega];exact wO))⟩,
    fun m hm h0 lg=>(World.putObj_heap_other (fun e=>χ (by rw[show w1.heap.size+5=m by omega];exact hm))).trans (hk m hm h0 lg),by simpa using hs⟩
  case hassign=>
   rintro Ms k v W hk ⟨hF,es,hes,hP⟩ ⟨ob,rfl,Nl,wO,hne⟩ tX;generalize ht:(dE h [])[k]=t at*
   have htk:(dE h [])[k]? =some t:=by rw[bZ hk,ht]
   gi_wp2
   have hB:Ϙ W (W.alloc (.cells #[iv t.1,.slice (some ⟨ob,1,none⟩) t.2.length t.2.length] 208)):=ai (aC _ _) _;have hc:=hF.cache.kept (hB.block mb hF.cache.lt);exact⟨⟨t,ob,W.heap.size,htk,rfl,⟨(hF.gM (Ext.ay hB) (fun m hm=> .inl hm) hc).1,es,hes,hP.kept ϕ (fun b h1 h2=>aS _ _ _ ϑ) (fun g h1 h2 h3=>aS _ _ _ ϑ) (fun m hm=> .inl hm)⟩,
    ⟨av _ _,⟨by omega,wO,hne⟩,Nl.alloc _⟩,fun m hm h0 lg=>aS _ _ _ ϑ,by simp⟩,aS _ _ _ ϑ,aS _ _ _ ϑ⟩
  case hbody=>
   rintro Ms k W1 a₁ W busy hk ⟨t,ob,bt,ht,rfl,⟨hF,es,hes,hP⟩,⟨hbt,⟨wz,wO,hne⟩,Nl⟩,XJ,ν⟩ ε hD;simp only[oU,List.set_cons_succ,List.set_cons_zero];obtain⟨v,Β,Μ,hv3,hv4⟩:=hP.out;obtain⟨vo,vc,rfl⟩:=aL Μ;have htm:t∈dE h []:=kX ht;obtain⟨hl2,hs0,hrest⟩:=xV mK.out htm;have hlast:=mK.out.yn;have hwl:=mK.out.Bz;have hlk:es.length<=2000:=by
    have h5:=congrArg List.length hes;rw[kC,eO] at h5;have:=uP mK.out [];omega
   have d1:=aA Β;have d2:=aZ Β 0;have d3:=dn W _ d1;have kt:=(aP.1 hbt).1;have hg: ∀i,W.cell? ⟨bt,i,none⟩=(#[iv t.1,.slice (some ⟨ob,1,none⟩) t.2.length t.2.length]:Array Value)[i]? :=fun i=>by
    simp only[World.cell?,hbt];rfl
   have hw6:w1.heap.size+6<=W.heap.size:=ϑ;have htl:t.2.length<=10:=ϑ;clear hl2;have HT2:=aa (af ht hk);have HF:=aa hF;have HP:=aa hP;have HES:=aa hes;have HSL:=aa Nl;have HV:=aa (af Β (af Μ hv3));have HK:=aa (af XJ (af ε hD));clear hF hP XJ ε hD hbt Nl ht hrest htm hes Β Μ hv3 hv4
   gi_wp2_with fail
   refine dD 8 [] none [(5,⟨fun _ v=> ∃o c,v= .slice o t.2.length c,fun _ v Wx=>Wx.ownsRow W.heap.size 3 1 v t.2.length (ag t.2)⟩),(7,⟨fun _ v=> ∃b:Nat,v= .slice (some ⟨b,0,none⟩) 1 1,fun xs v Wx=> ∃(b:Nat) (x:Value),xs=[.agg #[iv t.1,x]]/\v= .slice (some ⟨b,0,none⟩) 1 1/\Wx.heap[b]? =some (.cells #[iv t.1,x] 208 (0,0))⟩)] ϰ ϰ ϰ ?_;simp only[zt];repeat (refine zd ?_;simp only[zp])
   refine bn _ ϱ ϱ (by exact⟨.slice none t.2.length 0,none,0,rfl⟩) (fun W5 hE hF=>?_) (fun v Wa Wb ho hE=>az (Ms:=[]) ho hE ϕ) (fun v hv=>?_)
   ·have G8:Ext [] W W5:=hE;refine bX 91 #[.slice (some ⟨ob,1,none⟩) t.2.length t.2.length] (by go_simp;try rfl) ?_;refine(wG t.2 _ W5 (HSL.out.below G8.below (ah _)) ϑ).mono ?_;rintro e W6 ⟨v,rfl,ho,hb⟩;exact⟨v,rfl,aL ho,bL ho G8.size,Ext.ay hb⟩
   obtain⟨o5,c5,rfl⟩:=hv;simp only[zp];repeat (refine zd ?_;simp only[zp])
   refine bn _ ϱ ϱ (by exact⟨.slice (some ⟨0,0,none⟩) 1 1,0,rfl⟩) (fun W5 hE hF=>?_) (fun v Wa Wb ho hE=>?_) (fun v hv=>?_)
   ·refine iq (W':=W5.alloc (.cells #[iv t.1,.slice o5 t.2.length c5] 208)) (.slice (some ⟨W5.heap.size,0,none⟩) 1 1) (by go_simp;try rfl) ⟨⟨_,rfl⟩,⟨_,_,rfl,rfl,heap_alloc_new _ _⟩,Ext.ay ((aC _ _).alloc (ah _) _)⟩
   ·obtain⟨b,x,hx,hv,hc⟩:=ho;exact⟨b,x,hx,hv,(hE.block b (aP.1 hc).1 ϕ).trans hc⟩
   obtain⟨b7,rfl⟩:=hv;simp only[zp];intro W8 eQ Ru;have hE:Ext [] W W8:=eQ;obtain⟨b7',x7,hx7,ah8,hblk7⟩:=Ru _ (bu _);cases ah8;have ahb:x7= .slice o5 t.2.length c5:=by
    have h9:[Value.agg #[iv t.1,.slice o5 t.2.length c5]]=[Value.agg #[iv t.1,x7]]:=hx7;simp at h9;exact h9.symm
   subst ahb;have hcl:W8.ownsRow W.heap.size 3 1 (.slice o5 t.2.length c5) t.2.length (ag t.2):=Ru _ (kW _ (bu _));obtain⟨hc,hf⟩:=bA hE.below;have hz8:=hE.size;have Au:=az (Ms:=[]) HV.out.2.1 hE ϕ;have gP:=aa hE;have HOW:=aa Au;have HCL:=aa hcl;have wK:=aa hblk7;clear hE eQ Ru Au hcl hblk7 hx7 hg
   gi_wp2_with (gi_at_builtin;go_loud (refine lW (fun _=>trivial) rfl oG rfl _ _ Xk rfl (w1.heap.size+6) (.slice vo es.length vc) es.length (pK es) rfl HOW.out (.slice (some ⟨b7,0,none⟩) 1 1) 1 [iv t.1,.slice o5 t.2.length c5] rfl (aH.bS 2 1 wK.out rfl ϖ) (by intro u hu;simp at hu;rcases hu with rfl|rfl <;>rfl) ϑ ϑ ϑ ?_))
   intro v' W9 Fw TF Υ;obtain⟨o9,c9,rfl⟩:=aL Fw;have ui:=aa Fw;have Y5:=aa TF;have Y4:=aa Υ;have Gd:=aW HV.out.2.1;have nK: ∀b,b<w1.heap.size+6->b<W.heap.size->W9.heap[b]? =W.heap[b]? :=fun b hb wz=>
    (TF.block b ϑ (fun e=>by have:=Gd b e.symm;omega)).trans (gP.out.block b wz ϕ)
   have Ko:W8.heap.size<=W9.heap.size:=TF.size;have e1:W9.cell? ⟨w1.heap.size+1,0,none⟩=some (.slice vo es.length vc):=aA ((nK _ ϑ d3).trans HV.out.1);have e2:W9.frozen? ⟨w1.heap.size+1,0,none⟩=false:=aZ ((nK _ ϑ d3).trans HV.out.1) 0;have e3:=dn W9 _ e1;clear Fw TF Υ nK hc hf
   gi_wp2_with fail
   obtain⟨⟨ZE,hP9⟩,Γ,Ns⟩:=Vy (e:=(t.1,.slice o5 t.2.length c5,t.2)) HF.out HP.out HV.out.1 (fun g hg=>⟨Gd g hg,(HV.out.2.2 g hg).1⟩) gP.out Y5.out Y4.out ui.out HCL.out Cw hw6;have χ:=HF.out.apart;refine⟨⟨?_,?_,fun m hm h0 lg=>?_,by omega⟩,ZE,es++[(t.1,.slice o5 t.2.length c5,t.2)],?_,hP9⟩
   ·refine(Γ _ (χ (w1.heap.size+5) ϕ).2 (fun e=>by have:=Gd _ e;omega) ϑ).trans ?_;rw[show w1.heap.size+5=w2.heap.size+1 by omega];exact HK.out.2.1
   ·refine(Γ _ (χ (w1.heap.size+4) ϕ).2 (fun e=>by have:=Gd _ e;omega) ϑ).trans ?_;rw[<-hsz2];exact HK.out.2.2
   ·exact(Γ m ϑ (fun e=>(HV.out.2.2 m e).1 hm) (fun e=>(χ (w1.heap.size+1) ϕ).1 (by rw[<-e];exact hm))).trans (HK.out.1 m hm h0 lg)
   ·rw[List.map_append,HES.out,eT HT2.out.2];have:=HT2.out.1;rw[bZ HT2.out.2] at this;injection this with this;rw[this];rfl
  case hdone=>
   rintro Ms W ⟨hF,es,hes,hP⟩ hD tX;rw[List.take_length] at hes;rw[hsz2] at hD;obtain⟨v,Β,Μ,hv3,hv4⟩:=hP.out;obtain⟨vo,vc,rfl⟩:=aL Μ;have hb0:=(hF.ext.block w.heap.size hw0 ϗ).trans ψ.out;have hc0: ∀i,W.cell? ⟨w.heap.size,i,none⟩=(#[.int .i64 h.last,.int .i64 h.size,.int .i64 h.aX,.int .i64 h.die,.int .i64 h.qW,.int .i64 h.start.1,.int .i64 h.start.2,.slice ow h.bM.length cw,.slice ot h.turns.length ct,.slice ox h.readings.length cx]:Array Value)[i]? :=fun i=>by
    simp only[World.cell?,hb0];rfl
   have t0:=(aP.1 hb0).1;have hl0:=mK.out.F6;have XR:=mK.out.yn;obtain⟨n,hn⟩: ∃n:Nat,h.last+1=n:=⟨(h.last+1).toNat,by omega⟩;have hm: ∀x∈[mb], ∀o,W.cell? ⟨x,o,none⟩=none:=fun x hx o=>by
    obtain rfl:x=mb:=by simpa using hx
    exact hF.cache.kQ o
   have hmw: ∀x∈[mb], ∀o,w1.cell? ⟨x,o,none⟩=none:=fun x hx o=>by
    obtain rfl:x=mb:=by simpa using hx
    exact Bq.out.cache.kQ o
   have hbd: ∀e∈es,e.2.2.length<=10/\(0<=e.1/\e.1<=500)/\ ∀x∈e.2.2,0<=x/\x<=20:=fun e he=>by
    have hmem:(e.1,e.2.2)∈dE h []:=by rw[<-hes];exact gU.2 ⟨e,he,rfl⟩
    obtain⟨k1,k2,k3⟩:=xV mK.out hmem;have:=mK.out.Bz;simp only at k1 k2 k3;exact⟨by omega,k2,k3⟩
   have hsf: ∀l,(es.all fun e=>kG h (jS h (e.1,e.2.2) l))=Jz h l:=fun l=>by
    unfold Jz;rw[<-hes,List.all_map];rfl
   have hsh:=fun(W3:World) (hB:Ϙ W W3)=>GZ n ϑ (Jz h) mb h.aX W3 (hF.cache.kept (hB.block mb hF.cache.lt)) 94 #[] #[.pointer (some ⟨w1.heap.size,0,none⟩),.pointer (some ⟨w1.heap.size+1,0,none⟩)] (enters_of Tryz.func94 ϰ rfl)
    (fun l v W' hE μ hv=>by
      have hEW:Ext [mb] W W':=(Ext.ay hB).trans hE;have Td:Ext [mb] w1 W':=hF.ext.trans hEW;refine(KF h mK.out _ _ _ wb mb es vo vc l v w1.heap.size (w1.heap.size+1) W' ((hEW.block _ (aP.1 hP.b0).1 ϗ).trans hP.b0) ((hEW.block _ (aP.1 Β).1 ϗ).trans Β)
       (Bq.out.ext Td μ) (H1.out.eZ Td hmw) (H2.out.eZ Td hmw) (H3.out.eZ Td hmw) (aH.eZ (aH.bV Μ) hEW hm) (fun e he=>⟨aH.eZ (aH.bV (hv4 e he).1) hEW hm,hbd e he⟩) hv).mono ?_
      rintro x W'' ⟨rfl,k1,k2⟩;exact⟨by rw[hsf],k1,k2⟩)
   have WV:=aa hsh;have HF:=aa hF;have HD:=aa hD;have hn':(h.last+1).toNat=n:=ϑ;have HFS:Hid (RD h=lu n (Jz h)):=aa (by unfold RD;rw[hn']);clear hsh hF hP hD Β Μ hv3 hv4 hb0 hbd hsf hm hmw hes hn'
   gi_wp2_with fail
   refine(callsIn_wide.2 (Ik h _ _ _ n _ hl0 XR hn)).mono ?_;rintro e W3 ⟨rfl,Θ⟩;have δ:=aa Θ;clear Θ hc0
   gi_wp2_with fail
   refine(callsIn_wide.2 (WV.out W3 δ.out)).mono ?_;rintro e W4 ⟨⟨μ,Eu⟩,π⟩;have Pw:Ext [mb] W W4:=(Ext.ay δ.out).trans Eu;have hD4:W4.heap[w1.heap.size+4]? =some (.deferred (some [])):=(Pw.block _ (aP.1 HD.out).1 ϗ).trans HD.out;have hB4:Ϙ w W4:=fT (fT PX.out HF.out.ext ϑ) Pw ϑ;have HD4:=aa hD4;have fV:=aa hB4;clear μ Eu Pw hD4 hB4;rw[<-HFS.out] at π;rcases π with⟨c0,sv,hfs,rfl,rQ⟩|⟨hnone,o',n',c',rfl⟩
   ·have he0:E=0:=by rw[PW.out.1,hfs];rfl
    have hl0':L=c0:=by rw[PW.out.2,hfs];rfl
    subst he0;subst hl0';obtain⟨so,sc,rfl⟩:=rQ.open;have HIV:=aa rQ;clear rQ hfs
    gi_wp2_with fail
    refine⟨by simp,.inl ⟨_,_,rfl,run_takeDeferred HD4.out,?_⟩⟩;refine⟨.tuple #[.slice so L.length sc,iv 0],by simp[results,Tryz.results54,go_sem],⟨_,rfl,?_,fT fV.out (Bo W4 _ _) (by have:=PX.out.size;omega)⟩⟩;exact aH.eZ HIV.out (Bo W4 _ _) (fun x hx o=>by
     obtain rfl:x=w1.heap.size+4:=by simpa using hx
     simp[World.cell?,HD4.out])
   ·have he0:E=10:=by rw[PW.out.1,hnone];rfl
    have hl0':L=[]:=by rw[PW.out.2,hnone];rfl
    subst he0;subst hl0';clear hnone
    gi_wp2_with fail
    refine⟨by simp,.inl ⟨_,_,rfl,run_takeDeferred HD4.out,?_⟩⟩;exact⟨.tuple #[.slice none 0 0,iv 10],by simp[results,Tryz.results54,go_sem],⟨_,rfl,oz _,fT fV.out (Bo W4 _ _) (by have:=PX.out.size;omega)⟩⟩
  case hstop=>rintro cd Ms W h;exact h.elim
end Go.Proofs.Z.iM
namespace Go.Proofs.Z.iM
open Go.RowKit Go.RG Go.SL Go.Shelf ig
end Go.Proofs.Z.iM
namespace Go.Proofs.Z.iM
open Go.RowKit Go.RG Go.SL Go.Shelf ig
end Go.Proofs.Z.iM
namespace Go.Proofs.Z.iM
open Go.RowKit Go.RG Go.SL Go.Shelf ig
end Go.Proofs.Z.iM
end

/-
  Texts of this claim, packed by a program: DX DY DZ EA EB EC ED EK FA HA HB FD HC EE EG YK FB.
-/
import Derived.WalkKit
import Derived.WalkLawsBesides
import Derived.WalkSpells
import Derived.Outline
import Derived.Handy
import Derived.KernelRfl
import Derived.Lib.Hide
import Derived.Lib.BufferWrite
import Derived.Laws.CopyOwn
import Derived.Laws.BytesArg
import Derived.BigRegion
import Derived.Laws.Cover3
import Derived.Scope
import Derived.Lib.Builder
import Derived.Lib.AppendStr
import Derived.Lib.UnsafeStr
import Derived.Laws.Externs
import Derived.Test.YthllkbbbapgelaaGreatDoorPG14
set_option maxHeartbeats 8000000
set_option maxRecDepth 100000
set_option linter.all false
theorem _root_.zbs {P:Prop} (h:P:=by
 have aa6:=aV HX.o.1 H5.o.1;exact aa6.trans ⟨pF.os.trans tL.os,pF.tape.trans tL.tape,pF.output.trans tL.output,by omega,fun k hk=>(pF.block k ϑ ϗ).trans (tL.block k ϑ (fun h=>by have:=hm0 k h;omega))⟩):P:=h
theorem _root_.zb7 {P:Prop} (h:P:=by
 exact nY _ _ rfl q rfl _ _ _ _ ((hE.block q hq5 Ν).trans H5.o.2.2.1) Tryz.underlying62 rfl ϰ):P:=h
theorem _root_.zcl {P:Prop} (h:P:=by
 rcases hg6 with h1|⟨x,h1,h2⟩
 ·rw[h1] at h;exact n3 h
 ·rw[h1] at h;simp at h;omega):P:=h
theorem _root_.zbF {P:Prop} (h:P:=by
 have hb:(2:Int)^IntKind.u8.bits=256:=by decide
 simp only[IntKind.wrap,hb,show IntKind.u8.signed=false from rfl,Bool.false_and,Bool.false_eq_true,if_false];omega):P:=h
theorem _root_.zbM {P:Prop} (h:P:=by
 have HO3:=aa hown3;clear Fw TF hB3 hown3;go_wp2_with fail
 go_roundw;all_goals first
  |exact⟨k+1,by omega,by go_num,δ.o,HO3.o⟩
  |(simp[intOf];omega)):P:=h
theorem _root_.zaA {P:Prop} (h:P:=by
 go_wp2_with fail
 go_loopw [5] (fun i wr=> ∃k:Nat,k<=l.length/\i= .int .i64 k/\Ϙ w wr) (fun i _=>l.length-(intOf i).toNat)
 case atStart=>exact⟨0,bD _,rfl,aC _ _⟩
 case round=>
  obtain⟨k,hk,rfl,hB⟩:=hrel;by_cases tX:k<l.length
  ·obtain⟨g1,f1,e1,r1,c1⟩:=aK.cell (HH.o.1.below hB (ah _)) tX;obtain⟨g2,f2,e2,r2,c2⟩:=aK.cell (HH.o.2.below hB (ah _)) tX;generalize l[k]=x at*
   have HX:=aa hB;have Ba:(k:Int)<l.length:=ϑ;cases e1;cases e2;clear hB;have hnb:(x !=x)=false:=ϕ;have hnc:(x==x)=true:=ϕ;go_wp2_with fail
   go_region
   all_goals go_wp2_with fail
   all_goals go_roundw
   all_goals first
    |exact⟨k+1,by omega,by go_num,gL HX.o⟩
    |(simp[intOf];omega)
  ·have HR:=aa hB;clear hB;go_wp2_with fail
   go_returns;exact⟨rfl,HR.o⟩):P:=h
section
namespace Go.Proofs.Z.Bk
open Go.RowKit Go.RG Go.SL Go.Shelf ig Go.TB Go.Proofs.Z.uL
abbrev cu:Array Value:=
 #[iv 0,iv 0,iv 0,iv 0,.slice none 0 0,iv 0,iv 0,iv 0,.slice none 0 0,iv 0,iv 0,iv 0,iv 0,iv 0,iv 0,iv 0,.slice none 0 0,.slice none 0 0,.slice none 0 0,.slice none 0 0,.slice none 0 0,.slice none 0 0]
abbrev vN (hp:Value) (wt:Value):Array Value:=
 #[iv 3,iv 2,iv 0,iv 3,.slice none 0 0,iv 10,iv 0,iv 2000,.slice none 0 0,iv 4,iv 10,iv 50,iv 10,iv 60,iv 30,iv 30,wt,.slice none 0 0,.slice none 0 0,hp,.slice none 0 0,.slice none 0 0]
theorem R6 (w:World):Ϝ 63 #[] w (fun e w'=>Ϙ w w'/\ ∃V es,e= .returned (.agg (bP bT V))/\lK w' bT V es/\ ∀Ms:List Nat,(∀m∈Ms,m<w.heap.size)-> ∀W',Ext Ms w' W'->lK W' bT V es):=by
 go_enter Tryz.func63,Tryz.ntmps63;go_upto_region 1 with(fail)
 refine dz fun W1 σ=>?_;have ζ:Ϙ w W1:=by rw[σ];exact ai (aC _ _) _
 have hk1: ∃cs,W1.heap[w.heap.size]? =some (.cells cs 62 (0,0))/\cs.size=22:=by rw[σ];exact⟨_,av _ _,rfl⟩
 have hs1:W1.heap.size=w.heap.size+1:=by rw[σ];simp
 have Qi:=aa ζ;have PU:=aa hk1;clear σ ζ hk1;refine wp_region_lit ?_;refine aF rfl (w':=W1) (.agg #[iv 0,iv 3]) ϰ ?_;simp only[zp];refine aF rfl (w':=W1) (.agg #[iv 3,iv 2,iv 0,iv 3,.slice none 0 0]) ϰ ?_;simp only[zp];refine aF rfl (w':=W1) (.agg #[iv 0,iv 2000]) ϰ ?_;simp only[zp];refine aF rfl (w':=W1) (.agg #[iv 3,iv 2,iv 0,iv 3,.slice none 0 0,iv 10,iv 0,iv 2000,.slice none 0 0]) ϰ ?_;simp only[zp];refine aF rfl (w':=W1) (.agg #[iv 30,iv 30]) ϰ ?_;simp only[zp];refine aF rfl (w':=W1) (.agg #[iv 4,iv 10,iv 50,iv 10,iv 60,iv 30,iv 30,.slice none 0 0,.slice none 0 0,.slice none 0 0]) ϰ ?_;simp only[zp];refine aF rfl (w':=W1) (.agg #[iv 40,iv 40]) ϰ ?_;simp only[zp];refine aF rfl (w':=W1.alloc (.cells #[iv 40,iv 40] 129 (0,0))) (.slice (some ⟨W1.heap.size,0,none⟩) 1 1) (by go_simp;try rfl) ?_;simp only[zp];obtain⟨W2,hW2⟩: ∃W2,W2=W1.alloc (.cells #[iv 40,iv 40] 129 (0,0)):=⟨_,rfl⟩;rw[<-hW2];have θ:Ϙ w W2:=by rw[hW2];exact ai Qi.o _
 have hk2:=PU.o;obtain⟨cs,hcs,hcz⟩:=hk2;have hk2:W2.heap[w.heap.size]? =some (.cells cs 62 (0,0)):=by rw[hW2];exact(heap_alloc_old _ _ ϑ).trans hcs
 have hh2:W2.heap[W1.heap.size]? =some (.cells #[iv 40,iv 40] 129 (0,0)):=by rw[hW2];exact av _ _
 have hs2:W2.heap.size=w.heap.size+2:=by rw[hW2];simp;omega
 rw[hs1];rw[hs1] at hh2;clear hW2;refine aF rfl (w':=W2) (.agg #[.slice (some ⟨w.heap.size+1,0,none⟩) 1 1,.slice none 0 0,.slice none 0 0]) ϰ ?_;simp only[zp];refine aF rfl (w':=W2) (.agg (vN (.slice (some ⟨w.heap.size+1,0,none⟩) 1 1) (.slice none 0 0))) ϰ ?_;simp only[zp];refine aF rfl (w':=(W2.alloc (.cells cu 62 (0,0)))) (.pointer (some ⟨W2.heap.size,0,none⟩)) (by go_simp;try rfl) ?_;simp only[zp];rw[hs2];refine wpList_store_row rfl _ _ _ rfl (w.heap.size+2) (vN (.slice (some ⟨w.heap.size+1,0,none⟩) 1 1) (.slice none 0 0)) ϰ ϰ _ cu (by rw[<-hs2];exact av _ _) ϰ ϰ ϰ ?_;simp only[zp];refine ib fun W3 Η=>?_;have aei:W3.heap[w.heap.size+2]? =some (.cells (vN (.slice (some ⟨w.heap.size+1,0,none⟩) 1 1) (.slice none 0 0)) 62 (0,0)):=by
  rw[Η];exact setRow_heap _ _ _ _ _ _ (by rw[<-hs2];exact av _ _)
 obtain⟨uf,jI⟩: ∃uf,uf=W2.alloc (.cells cu 62 (0,0)):=⟨_,rfl⟩;rw[<-jI] at Η;have rJ:Ext [w.heap.size+2] uf W3:=by rw[Η];exact dJ
 have zG:uf.heap.size=w.heap.size+3:=by rw[jI];simp;omega
 have Θ:Ϙ w W3:=gq (by rw[jI];exact ai θ _) rJ ϑ;have hs3:=rJ.size;have Ω:W3.heap[w.heap.size]? =some (.cells cs 62 (0,0)):=(rJ.block _ ϑ ϕ).trans (by rw[jI];exact(heap_alloc_old _ _ ϑ).trans hk2)
 have hh3:W3.heap[w.heap.size+1]? =some (.cells #[iv 40,iv 40] 129 (0,0)):=(rJ.block _ ϑ ϕ).trans (by rw[jI];exact(heap_alloc_old _ _ ϑ).trans hh2)
 have δ:=aa Θ;have LJ:=aa aei;have HC3:=aa (af Ω (af hcz hh3));clear hcs hcz Η jI rJ aei Ω hh3 θ hk2 hh2 Θ;go_wp2_with fail
 go_loopw [12] (fun u wr=> ∃i:Nat,i<=5/\u= .int .i64 i/\Ϙ w wr/\w.heap.size+3<=wr.heap.size/\ ∃(o:Option Addr) (c:Nat),wr.ownsRow (w.heap.size+3) 50 2 (.slice o i c) i (aD (List.replicate i (6,6)))/\
  wr.heap[w.heap.size+2]? =some (.cells (vN (.slice (some ⟨w.heap.size+1,0,none⟩) 1 1) (.slice o i c)) 62 (0,0))/\ ∀k,k<w.heap.size+3->k≠w.heap.size+2->wr.heap[k]? =W3.heap[k]?) (fun u _=>5-(intOf u).toNat)
 case atStart=>exact⟨0,by omega,rfl,δ.o,by omega,none,0,⟨rfl,.inl ⟨rfl,rfl⟩⟩,LJ.o,fun _ _ _=>rfl⟩
 case round=>
  obtain⟨i,hi,rfl,hB,ν,oo,oc,η,hbk,hoth⟩:=hrel;obtain⟨c2,f2,l2⟩:=ae hbk;by_cases tX:i<5
  ·have HX:=aa (af hB (af η (af hbk hoth)));have g16:=c2 16;simp only[vN] at g16;clear hB η hbk hoth c2;go_wp2_with (at_builtin;go_loud (refine dB rfl _ _ iM.GV rfl (w.heap.size+3) (.slice oo i oc) i (aD (List.replicate i (6,6))) rfl (az (Ms:=[]) HX.o.2.1 (Ext.ay (ai (aC _ _) _)) ϕ) (.slice (some ⟨wr.heap.size,0,none⟩) 1 1) 1 [iv 6,iv 6] rfl (aH.bS 2 1 (av _ _) rfl ϖ) (by simp[Value.oneCell']) ϑ ϑ ϗ ?_))
   intro v' W6 YM Ep _;obtain⟨o6,c6,rfl⟩:=aL YM;have HP:=aa (YP (i:=16) (u:= .slice o6 (i+1) c6) HX.o.1 HX.o.2.1 (Ext.ay (ai (aC _ _) _)) YM Ep ν ϑ ϑ HX.o.2.2.1);obtain⟨ank,am8,amm⟩:=ae (((vO HX.o.1 HX.o.2.1 (Ext.ay (ai (aC _ _) _)) YM Ep ϑ ν).2.2 (w.heap.size+2) ϑ).trans HX.o.2.2.1);clear YM Ep;go_wp2_with fail
   go_roundw
   case rel=>
    refine⟨i+1,by omega,by go_num,HP.o.1,HP.o.2.1,o6,c6,?_,HP.o.2.2.2.1,fun k hk hne=>(HP.o.2.2.2.2 k hk hne).trans (HX.o.2.2.2 k hk hne)⟩;have:=HP.o.2.2.1;rw[List.replicate_succ'];simpa [aD] using this
   case measure=>simp[intOf];omega
  ·obtain rfl:i=5:=ϑ;have HX:=aa (af hB (af η (af hbk hoth)));clear hB η hbk hoth;go_upto_region 6 with(fail)
   have hk0:=(HX.o.2.2.2 w.heap.size ϑ ϑ).trans HC3.o.1;refine wp_region_lit ?_;refine wpList_load_row rfl _ _ rfl (w.heap.size+2) rfl _ _ _ _ HX.o.2.2.1 Tryz.underlying62 rfl ϰ ?_;simp only[zp];refine wpList_store_row rfl _ _ _ rfl w.heap.size (vN (.slice (some ⟨w.heap.size+1,0,none⟩) 1 1) (.slice oo (5:Nat) oc)) ϰ ϰ _ cs hk0 ϰ (by rw[HC3.o.2.1];rfl) ϰ ?_;simp only[zp];refine ib fun W7 uC=>?_;have pF:Ext [w.heap.size] wr W7:=by rw[uC];exact dJ
   have wz:=gq HX.o.1 pF (ah _);have Av:W7.heap[w.heap.size]? =some (.cells (vN (.slice (some ⟨w.heap.size+1,0,none⟩) 1 1) (.slice oo (5:Nat) oc)) 62 (0,0)):=by rw[uC];exact setRow_heap _ _ _ _ _ _ hk0
   have hw7:=az (Ms:=[w.heap.size]) HX.o.2.1 pF ϕ;have hh7:=(pF.block (w.heap.size+1) ϑ ϕ).trans ((HX.o.2.2.2 (w.heap.size+1) ϑ ϑ).trans HC3.o.2.2);have H7:=aa (af wz (af Av (af hw7 hh7)));clear uC pF wz Av hw7 hh7 hk0;go_upto_region 7 with(fail)
   refine bodyPost_ret (v:= .agg (vN (.slice (some ⟨w.heap.size+1,0,none⟩) 1 1) (.slice oo (5:Nat) oc))) (results_cell_row Tryz.results63 _ _ w.heap.size _ _ (0,0) _ rfl H7.o.2.1 Tryz.underlying62 rfl ϰ) rfl ?_;refine⟨H7.o.1,⟨.slice none 0 0,.slice none 0 0,.slice oo (5:Nat) oc,.slice none 0 0,.slice none 0 0,.slice (some ⟨w.heap.size+1,0,none⟩) 1 1,.slice none 0 0,.slice none 0 0⟩,[],rfl,?_⟩;have UC: ∀Ms:List Nat,(∀m∈Ms,m<w.heap.size)-> ∀W',Ext Ms W7 W'->lK W' bT ⟨.slice none 0 0,.slice none 0 0,.slice oo (5:Nat) oc,.slice none 0 0,.slice none 0 0,.slice (some ⟨w.heap.size+1,0,none⟩) 1 1,.slice none 0 0,.slice none 0 0⟩ []:=fun Ms γ W' G8=>by
    have hn: ∀k,aH k W' (.slice none 0 0) 0 []:=fun k=>⟨by simp,none,0,rfl,ah _,by decide,fun _=>rfl,fun a h=>by cases h⟩;have h1:=az (Ms:=Ms) H7.o.2.2.1 G8 (fun m hm=>by have:=γ m hm;omega);have h2:=(G8.block (w.heap.size+1) (aP.1 H7.o.2.2.2).1 (fun h=>by have:=γ _ h;omega)).trans H7.o.2.2.2;exact⟨hn _,hn _,aH.bV h1,hn _,hn _,⟨aH.bS 2 1 h2 rfl ϖ,⟨hn _,fun e he=>by cases he⟩,rfl,hn _⟩⟩
   exact⟨UC [] ϕ _ (Ext.refl _ _),UC⟩
theorem acO:gJ Tryz.prog 63 26 (iv 0) 1 8:=⟨Tryz.underlying63,by kernel_rfl,rfl,by omega⟩
theorem rX {w:World} {o:Option Addr} {n c:Nat} {l:List au} (h:aH 1 w (.slice o n c) n (aT l)) {k:Nat} (hk:k<l.length):
 ∃b off,o=some ⟨b,off,none⟩/\b<w.heap.size/\w.cell? ⟨b,off+k,none⟩=some (.string (dN l[k])):=by
 obtain⟨hl,o',c',hv,h1,h2,h3,h4⟩:=h;cases hv;have hn:n=l.length:=by simpa [aT] using hl.symm
 cases o with
 |none=>have:=h3 rfl;omega
 |some a=>
  obtain⟨b,off,sp⟩:=a;obtain⟨hs,hc⟩:=h4 _ rfl;simp only at hs hc;subst hs;have:=hc k (.string (dN l[k])) (by simp[aT,hk]);exact⟨b,off,rfl,dn w _ this,this⟩
def afl (Qs:List Nat) (ls:List au) (w:World) (e:Ending) (w':World):Prop:=
 Ϙ w w'/\ ∃V es cv,e= .returned (.tuple #[.agg (bP (bW aQ bT ls).1 V),cv])/\(∀W',Ext Qs w' W'->lK W' (bW aQ bT ls).1 V es)/\w'.ownsRow w.heap.size 26 1 cv ls.length (ag (bW aQ bT ls).2)
theorem si (lv:Value) (ls:List au) (w:World) (hls:fC w lv ls) (hE:Env w) (hln: ∀l∈ls,l.length<=1000) (hn:ls.length<=1000000) (Qs:List Nat) (hQs: ∀m∈Qs,m<w.heap.size):Ϝ 36 #[lv] w (afl Qs ls w):=by
 obtain⟨ov,cv,rfl⟩:=aH.open hls;have AX:Hid (∀W,Ϙ w W->fC W (.slice ov ls.length cv) ls):=aa (fun W hb=>hls.below hb (ah _));have HE:Hid (∀W,Ϙ w W->Env W):=aa (fun W hb=>hE.below hb (ah _));clear hls hE;go_enter Tryz.func36,Tryz.ntmps36;go_upto_region 1 with(fail)
 refine dz fun W1 σ=>?_;have ζ:Ϙ w W1:=by rw[σ];exact ai (aC _ _) _
 have hk1: ∃cs,W1.heap[w.heap.size]? =some (.cells cs 62 (0,0))/\cs.size=22:=by rw[σ];exact⟨_,av _ _,rfl⟩
 have hs1:W1.heap.size=w.heap.size+1:=by rw[σ];simp
 have Qi:=aa ζ;have PU:=aa hk1;clear σ ζ hk1;go_wp2_with fail
 refine(R6 W1).mono ?_;rintro e W2 ⟨θ,V0,es0,rfl,hS0,hX0⟩;rename_i hK;refine hK _ _ ?_;have hs2:=θ.size;refine aF rfl (w':=(W2.alloc (.cells cu 62 (0,0)))) (.pointer (some ⟨W2.heap.size,0,none⟩)) (by go_simp;try rfl) ?_;simp only[zp];obtain⟨g,hg⟩: ∃g,g=W2.heap.size:=⟨_,rfl⟩;rw[<-hg];have hz:(W2.alloc (.cells cu 62 (0,0))).heap[g]? =some (.cells cu 62 (0,0)):=by rw[hg];exact av _ _
 refine wpList_store_row rfl _ _ _ rfl g (bP bT V0) ϰ ϰ _ cu hz ϰ ϰ (by rw[jw];exact fun u hu=>fu hS0 u (jM.2 hu)) ?_
 simp only[zp];refine ib fun W3 Η=>?_;obtain⟨uf,jI⟩: ∃uf,uf=W2.alloc (.cells cu 62 (0,0)):=⟨_,rfl⟩;rw[<-jI] at Η hz;have rJ:Ext [g] uf W3:=by rw[Η];exact dJ
 have hs3:=rJ.size;have zG:uf.heap.size=g+1:=by rw[jI,hg];simp
 have ky:Ϙ W2 W3:=gq (by rw[jI];exact ai (aC _ _) _) rJ ϑ
 have hS3:lK W3 bT V0 es0:=hS0.below ky (ah _);have Ω:W3.heap[g]? =some (.cells (bP bT V0) 62 (0,0)):=by rw[Η];exact setRow_heap _ _ _ _ _ _ hz
 have hX3: ∀W',Ext (w.heap.size::g::Qs) W3 W'->lK W' bT V0 es0:=fun W' G8=>hX0 (w.heap.size::Qs) (fun m hm=>by
  rcases eB.1 hm with rfl|hm
  ·omega
  ·have:=hQs m hm;omega) W' ⟨ky.os▸G8.os,G8.tape.trans ky.tape,G8.output.trans ky.output,gI ky.size G8.size,fun k hk hm=>(G8.block k ϑ (fun h=>by
   rcases eB.1 h with h|h
   ·exact hm (by rw[h];exact List.mem_cons_self)
   ·rcases eB.1 h with h|h
    ·omega
    ·exact hm (nu _ h))).trans (ky.block k hk)⟩
 have hr3: ∃cs,W3.heap[w.heap.size]? =some (.cells cs 62 (0,0))/\cs.size=22:=by
  obtain⟨cs,h1,h2⟩:=PU.o;exact⟨cs,(ky.block _ ϑ).trans ((θ.block _ ϑ).trans h1),h2⟩
 have δ:=aa (aV Qi.o (aV θ ky));have H3:=aa (af hS3 (af Ω (af hr3 hX3)));have hgw:w.heap.size+1<=g:=ϑ;have hg3:g+1<=W3.heap.size:=ϑ;clear hX3 hX0 Η jI rJ ky hS3 Ω hr3 hz hS0 θ hg hK;go_wp2_with fail
 go_loopw [5,13] (fun v5 u wr=> ∃i:Nat,i<=ls.length/\u= .int .i64 i/\Ϙ w wr/\W3.heap.size<=wr.heap.size/\ ∃(o:Option Addr) (c:Nat) (V:SV) (es:List KE),v5= .slice o i c/\wr.ownsRow W3.heap.size 26 1 (.slice o i c) i (ag (bW aQ bT (ls.take i)).2)/\
  wr.heap[g]? =some (.cells (bP (bW aQ bT (ls.take i)).1 V) 62 (0,0))/\lK wr (bW aQ bT (ls.take i)).1 V es/\wr.heap[w.heap.size]? =W3.heap[w.heap.size]?/\ ∀W',Ext (w.heap.size::g::((Value.slice o i c).ownBlock.toList++Qs)) wr W'->lK W' (bW aQ bT (ls.take i)).1 V es) (fun _ u _=>ls.length-(intOf u).toNat)
 case atStart=>exact⟨0,bD _,rfl,δ.o,ah _,none,0,V0,es0,rfl,⟨rfl,.inl ⟨rfl,rfl⟩⟩,H3.o.2.1,H3.o.1,rfl,H3.o.2.2.2⟩
 case round=>
  obtain⟨i,hi,rfl,hB,ν,oo,oc,V,es,rfl,η,hbk,hS,hr0,Rt⟩:=hrel;by_cases tX:i<ls.length
  ·obtain⟨bl,off,hov,ο,hcl⟩:=rX (AX.o _ hB) tX;have HX:=aa (af hB (af η (af hbk (af hS (af hr0 Rt)))));have HD:=aa (VG (bW aQ bT (ls.take i)).1 V es ls[i] wr hS (wh _ xM) (HE.o wr hB) (hln _ (bK tX)) (w.heap.size::g::((Value.slice oo i oc).ownBlock.toList++Qs)) (fun m hm=>by
    rcases eB.1 hm with rfl|hm
    ·omega
    ·rcases eB.1 hm with rfl|hm
     ·omega
     ·rcases gz.1 hm with hm|hm
      ·exact(aW η m (bY.1 hm)).2
      ·have:=hQs m hm;omega) Rt)
   subst hov;clear hB η hbk hS hr0 Rt;go_upto_region 6 with(fail)
   refine wp_region_lit ?_;refine wpList_load_row rfl _ _ rfl g rfl _ _ _ _ HX.o.2.2.1 Tryz.underlying62 rfl ϰ ?_;simp only[zp];go_wp2_with fail
   refine HD.o.mono ?_;rintro e W4 ⟨hb4,V4,es4,rfl,hS4,ZA⟩;rename_i hK;refine hK _ _ ?_;refine aF rfl _ (by go_simp;first|rfl|exact⟨rfl,rfl⟩) ?_;simp only[zp];refine aF rfl _ (by go_simp;first|rfl|exact⟨rfl,rfl⟩) ?_;simp only[zp];refine aF rfl _ (by go_simp;first|rfl|exact⟨rfl,rfl⟩) ?_;simp only[zp];obtain⟨q,hq⟩: ∃q,q=W4.heap.size:=⟨_,rfl⟩;have hs4:=hb4.size;refine aF rfl (w':=W4.alloc (.cells cu 62 (0,0))) (.pointer (some ⟨q,0,none⟩)) (by rw[hq];go_simp;try rfl) ?_;simp only[zp];have hz:(W4.alloc (.cells cu 62 (0,0))).heap[q]? =some (.cells cu 62 (0,0)):=by rw[hq];exact av _ _
   refine wpList_store_row rfl _ _ _ rfl q (bP (mM aQ (bW aQ bT (ls.take i)).1 ls[i]).1 V4) ϰ ϰ _ cu hz ϰ ϰ (by rw[jw];exact fun u hu=>fu hS4 u (jM.2 hu)) ?_
   simp only[zp];refine ib fun W5 vD=>?_;obtain⟨W4',Yf⟩: ∃W4',W4'=W4.alloc (.cells cu 62 (0,0)):=⟨_,rfl⟩;rw[<-Yf] at vD hz;have KC:Ext [q] W4' W5:=by rw[vD];exact dJ
   have XO:W4'.heap.size=q+1:=by rw[Yf,hq];simp
   have hs5:=KC.size;have aa5:Ϙ W4 W5:=gq (by rw[Yf];exact ai (aC _ _) _) KC ϑ
   have hk5:W5.heap[q]? =some (.cells (bP (mM aQ (bW aQ bT (ls.take i)).1 ls[i]).1 V4) 62 (0,0)):=by rw[vD];exact setRow_heap _ _ _ _ _ _ hz
   have hb5:=aV hb4 aa5;have H5:=aa (af hb5 (af aa5 (af hk5 (af hS4 ZA))));clear vD Yf KC aa5 hk5 hz hS4 ZA hb4 hb5 hK;go_upto_region 7 with(fail)
   have hTK:bW aQ bT (ls.take (i+1))=((mM aQ (bW aQ bT (ls.take i)).1 ls[i]).1,(bW aQ bT (ls.take i)).2++[(mM aQ (bW aQ bT (ls.take i)).1 ls[i]).2]):=by rw[eT tX,zA]
   obtain⟨φ,hcode⟩: ∃φ,φ=(mM aQ (bW aQ bT (ls.take i)).1 ls[i]).2:=⟨_,rfl⟩;rw[<-hcode] at hTK⊢;obtain⟨Ms,γ⟩: ∃Ms,Ms=(Value.slice oo i oc).ownBlock.toList:=⟨_,rfl⟩;have hm0: ∀m∈Ms,W3.heap.size<=m/\m<wr.heap.size:=fun m h=>aW HX.o.2.1 m (by rw[γ] at h;exact bY.1 h);have pY: ∀m∈Ms,m<W5.heap.size:=fun m h=>by have:=hm0 m h;omega
   have Ν:q∉Ms:=fun h=>by have:=hm0 q h;omega
   have hm2:g∉Ms:=fun h=>by have:=hm0 g h;omega
   have hq5:q<W5.heap.size:=ϑ;have Br:=aa hTK;have HM:=aa γ;clear hTK γ hcode;refine zg 5 Ms (some 4) [(3,Spec.slice W5.heap.size #[iv φ] 26 1),(4,⟨fun _ v=> ∃o2 c2,v= .slice o2 (i+1) c2,fun _ v Wx=>Wx.ownsRow W3.heap.size 26 1 v (i+1) (ag (bW aQ bT (ls.take i)).2++[iv φ])/\(v.ownBlock=(Value.slice oo i oc).ownBlock∨ ∃q,v.ownBlock=some q/\W5.heap.size<=q)⟩)] ?_;simp only[zt];refine fM ϱ (.agg (bP (mM aQ (bW aQ bT (ls.take i)).1 ls[i]).1 V4)) ϱ (fun W hE hF=>?_) ?_
   ·exact zb7
   simp only[zp];repeat ((first|refine zd ?_|refine zk ?_);simp only[zp])
   refine dI W5.heap.size _ _ 1 ϱ (ah _) ϱ pY ϕ (fun W hW=>by go_simp;try rfl) (fun b6=>?_);simp only[zp];refine bn _ ϱ ϱ (by exact⟨.slice none (i+1) 0,none,0,rfl⟩) (fun W6 hE hF=>?_) (fun v Wa Wb ho hE=>?_) (fun v hv=>?_)
   ·have G8:Ext [] W5 W6:=hE;obtain⟨b',hb',hge,μ⟩:=hF _ (bu _) ϰ;cases hb';have YM:=az (Ms:=[]) HX.o.2.1 ((Ext.ay H5.o.1).trans G8) ϕ;have ι:aH 1 W6 (.slice (some ⟨b6,0,none⟩) 1 1) 1 ([iv φ]):=aH.bS 1 1 μ rfl ϖ;refine Does.mono (cZ acO ϱ ϱ YM ϱ ι (one_one φ) ϑ ϑ (by have:=G8.size;omega)) ?_;rintro v' W7 ⟨ho,TF,XL⟩;refine⟨aO ho,⟨ho,XL.imp id fun h1=>⟨_,h1,G8.size⟩⟩,⟨TF.os,TF.tape,TF.output,TF.size,fun b hb hn=>TF.block b hb (fun e=>hn (by rw[HM.o];exact bY.2 e.symm))⟩⟩
   ·exact zaP
   obtain⟨o7,c7,rfl⟩:=hv;simp only[zp];intro W6 hE hF;obtain⟨U2,hg6⟩:=hF _ (bu _);have tL:Ext Ms W5 W6:=hE;have hs6:=tL.size;have hkg:=(tL.block g ϑ hm2).trans ((H5.o.1.block g ϑ).trans HX.o.2.2.1);refine wpList_store_row rfl _ _ _ rfl g (bP (mM aQ (bW aQ bT (ls.take i)).1 ls[i]).1 V4) ϰ ϰ _ _ hkg ϰ rfl (by rw[jw];exact fun u hu=>fu H5.o.2.2.2.1 u (jM.2 hu)) ?_
   simp only[zp];refine ib fun W7 uC=>?_;have pF:Ext [g] W6 W7:=by rw[uC];exact dJ
   have Av:W7.heap[g]? =some (.cells (bP (mM aQ (bW aQ bT (ls.take i)).1 ls[i]).1 V4) 62 (0,0)):=by rw[uC];exact setRow_heap _ _ _ _ _ _ hkg
   have hs7:=pF.size;have NA:Ϙ w W7:=zbs;have WT:=az (Ms:=[g]) U2 pF ϗ;have Pf:W7.heap[w.heap.size]? =W3.heap[w.heap.size]? :=(pF.block _ ϑ ϗ).trans ((tL.block _ ϑ (fun h=>by have:=hm0 _ h;omega)).trans ((H5.o.1.block _ ϑ).trans HX.o.2.2.2.2.1));have hX7: ∀W',Ext (w.heap.size::g::((Value.slice o7 (i+1) c7).ownBlock.toList++Qs)) W7 W'->lK W' (mM aQ (bW aQ bT (ls.take i)).1 ls[i]).1 V4 es4:=fun W' G8=>by
    have h45:=H5.o.2.1;have anD:=h45.size;refine H5.o.2.2.2.2 W' ⟨G8.os.trans (pF.os.trans (tL.os.trans h45.os)),G8.tape.trans (pF.tape.trans (tL.tape.trans h45.tape)),G8.output.trans (pF.output.trans (tL.output.trans h45.output)),by have:=G8.size;omega,fun k hk hm=>?_⟩;have n1:k≠w.heap.size:=fun e=>hm (by simp[e]);have n2:k≠g:=fun e=>hm (by simp[e]);have n3:k∉(Value.slice oo i oc).ownBlock.toList:=fun h=>hm (nu _ (nu _ (mi _ h)));have n5:k∉Qs:=fun h=>hm (nu _ (nu _ (qL _ h)));have n4:k∉(Value.slice o7 (i+1) c7).ownBlock.toList:=fun h=>by
     exact zcl
    exact(G8.block k ϑ (fun h=>by rcases eB.1 h with h|h;(exact n1 h);rcases eB.1 h with h|h;(exact n2 h);rcases gz.1 h with h|h;(exact n4 h);exact n5 h)).trans ((pF.block k ϑ (by simpa using n2)).trans ((tL.block k ϑ (by rw[HM.o];exact n3)).trans (h45.block k hk)))
   have UK:lK W7 (mM aQ (bW aQ bT (ls.take i)).1 ls[i]).1 V4 es4:=hX7 W7 (Ext.refl _ _);have H7:=aa (af NA (af WT (af Av (af UK (af Pf hX7)))));have ahl:W3.heap.size<=W7.heap.size:=ϑ;clear NA WT Av UK Pf hX7 uC pF tL hE hF U2 hg6 hkg;go_wp2_with fail
   go_roundw
   case rel=>
    refine⟨i+1,by omega,by go_num,H7.o.1,ahl,o7,c7,V4,es4,rfl,?_⟩;rw[Br.o];refine⟨?_,H7.o.2.2.1,H7.o.2.2.2.1,H7.o.2.2.2.2.1,H7.o.2.2.2.2.2⟩;simpa [ag] using H7.o.2.1
   case measure=>simp[intOf];omega
  ·obtain rfl:i=ls.length:=ϑ;have HX:=aa (af hB (af η (af hbk (af hS (af hr0 Rt)))));clear hB η hbk hS hr0 Rt;go_upto_region 9 with(fail)
   obtain⟨cs,hcs,hcz⟩:=H3.o.2.2.1;have hk0:=HX.o.2.2.2.2.1.trans hcs;refine wp_region_lit ?_;refine wpList_load_row rfl _ _ rfl g rfl _ _ _ _ HX.o.2.2.1 Tryz.underlying62 rfl ϰ ?_;simp only[zp];refine aF rfl _ (by go_simp;first|rfl|exact⟨rfl,rfl⟩) ?_;simp only[zp];refine wpList_store_row rfl _ _ _ rfl w.heap.size (bP (bW aQ bT (ls.take ls.length)).1 V) ϰ ϰ _ cs hk0 ϰ (by rw[hcz];rfl) (by rw[jw];exact fun u hu=>fu HX.o.2.2.2.1 u (jM.2 hu)) ?_
   simp only[zp];refine ib fun W7 uC=>?_;have pF:Ext [w.heap.size] wr W7:=by rw[uC];exact dJ
   have wz:=gq HX.o.1 pF (ah _);have Av:W7.heap[w.heap.size]? =some (.cells (bP (bW aQ bT (ls.take ls.length)).1 V) 62 (0,0)):=by rw[uC];exact setRow_heap _ _ _ _ _ _ hk0
   have hw7:=az (Ms:=[w.heap.size]) HX.o.2.1 pF ϗ;have UK: ∀W',Ext Qs W7 W'->lK W' (bW aQ bT (ls.take ls.length)).1 V es:=fun W' G8=>HX.o.2.2.2.2.2 W' ((pF.more ϕ).trans (G8.more (fun m hm=>nu _ (nu _ (qL _ hm)))));have H7:=aa (af wz (af Av (af hw7 UK)));clear uC pF wz Av hw7 hk0 UK;go_wp2_with fail
   refine bodyPost_ret (v:= .tuple #[.agg (bP (bW aQ bT (ls.take ls.length)).1 V),.slice oo ls.length oc]) ?_ rfl ?_
   ·have q1:=run_loadVar_row (P:=Tryz.prog) W7 w.heap.size 62 62 _ (0,0) _ H7.o.2.1 Tryz.underlying62 rfl ϰ;simp[results,Tryz.results36,asAddr,q1]
   ·have h7:=H7.o;rw[List.take_length] at h7⊢;exact⟨h7.1,V,es,_,rfl,h7.2.2.2,bL h7.2.2.1 ϑ⟩
theorem QZ (k:Int) (l:au) (w:World) (hl:l.length<=1000000):Ϝ 57 #[iv k,.string (dN l)] w (PV (.bool (decide ((l.length:Int)<=k))) w):=by
 have hs:(dN l).size=l.length:=by simp[ByteArray.size]
 go_enter Tryz.func57,Tryz.ntmps57;go_wp2_with fail
 go_returns;exact⟨rfl,aC _ _⟩
abbrev sv (l:au):Value:= .string (dN l)
theorem fC.cell {w:World} {o:Option Addr} {n c:Nat} {l:List au} (h:aH 1 w (.slice o n c) n (aT l)) {k:Nat} (hk:k<l.length):
 ∃b off,o=some ⟨b,off,none⟩/\b<w.heap.size/\w.cell? ⟨b,off+k,none⟩=some (sv l[k]):=rX h hk
theorem ag5 (l:List au) (v:Value) (aY:Nat) (Mr aM:Array Value) (p:Nat->Bool) (I:Nat->World->Prop) (w:World) (eg: Ϛ Tryz.prog aY)
 (Nl: ∀k W,I k W->fC W v l)
 (pG: ∀k (hk:k<l.length) W,(∀j,j<k->p j=false)->I k W->Ϝ aY (Mr.push (sv l[k])++aM) W (fun e W'=>e= .returned (.bool (p k))/\I (k+1) W')) (h0:I 0 w):
 Ϝ 186 #[v,.func (.func aY) Mr aM] w (dM l.length p I (fun k=>iv k) (iv (-1))):=by
 have Ib:=(Nl 0 w h0).len;obtain⟨o,c,rfl⟩:=(Nl 0 w h0).open;have HC:=aa pG;have HS:=aa Nl;clear pG Nl;go_enter Tryz.func186,Tryz.ntmps186;go_wp2;go_loopw [4,5,8] (fun _ _ i wr=> ∃k:Nat,k<=l.length/\i= .int .i64 k/\(∀j,j<k->p j=false)/\I k wr) (fun _ _ i _=>l.length-(intOf i).toNat)
 case atStart=>exact⟨0,bD _,rfl,fun j hj=>ϑ,h0⟩
 case round=>
  obtain⟨k,hk,rfl,GX,hI⟩:=hrel;by_cases tX:k<l.length
  ·obtain⟨b,off,rfl,hb,hc0⟩:=fC.cell (HS.o k wr hI) tX;exact zcx
  ·exact zao
theorem ae3 (l:List au) (v:Value) (aY:Nat) (Mr aM:Array Value) (p:Nat->Bool) (I:Nat->World->Prop) (w:World) (eg: Ϛ Tryz.prog aY)
 (Nl: ∀k W,I k W->fC W v l)
 (pG: ∀k (hk:k<l.length) W,(∀j,j<k->p j=false)->I k W->Ϝ aY (Mr.push (sv l[k])++aM) W (fun e W'=>e= .returned (.bool (p k))/\I (k+1) W')) (h0:I 0 w):
 Ϝ 105 #[v,.func (.func aY) Mr aM] w (dM l.length p I (fun _=> .bool true) (.bool false)):=by
 have HI:=aa (ag5 l v aY Mr aM p I w eg Nl pG h0);have Ib:=(Nl 0 w h0).len;clear Nl pG h0 eg;go_enter Tryz.func105,Tryz.ntmps105;exact zad
theorem V8 (b:Nat) (l:au) (w:World) (hc:w.cell? ⟨b,0,none⟩=some (.func (.func 57) #[iv 60] #[])) (hl:l.length<=1000000):Ϝ 106 #[sv l,.pointer (some ⟨b,0,none⟩)] w (PV (.bool (!decide ((l.length:Int)<=60))) w):=by
 have HC:=aa (QZ 60 l w hl);go_enter Tryz.func106,Tryz.ntmps106;go_wp2_with fail
 refine HC.o.mono ?_;rintro e w' ⟨rfl,hb⟩;go_wp2_with fail
 go_returns;exact⟨rfl,hb⟩
theorem V6 (b:Nat) (l:List au) (v:Value) (w:World) (hv:fC w v l) (hc:w.cell? ⟨b,0,none⟩=some (.func (.func 57) #[iv 60] #[])) (hb:b<w.heap.size) (hln: ∀x∈l,x.length<=1000000):Ϝ 105 #[v,.func (.func 106) #[] #[.pointer (some ⟨b,0,none⟩)]] w (PV (.bool (l.any fun x=>!decide ((x.length:Int)<=60))) w):=by
 refine(ae3 l v 106 #[] #[.pointer (some ⟨b,0,none⟩)] (fun k=>!decide (((l.getD k []).length:Int)<=60)) (fun _ W=>Ϙ w W) w (enters_of Tryz.func106 ϰ rfl) (fun k W h=>hv.below h (ah _)) (fun k hk W _ h=>?_) (aC _ _)).mono ?_
 ·refine(V8 b l[k] W ((gW (h.block b hb)).trans hc) (hln _ (bK hk))).mono ?_;rintro e W' ⟨rfl,hb'⟩;exact⟨by simp[hk],aV h hb'⟩
 ·rintro e W' ⟨k,hk,GX,⟨tX,hp,rfl,hI⟩|⟨XI,rfl,hI⟩⟩
  ·refine⟨?_,hI⟩;have:(l.any fun x=>!decide ((x.length:Int)<=60))=true:=List.any_eq_true.2 ⟨l[k],bK _,by simpa [tX] using hp⟩;rw[this]
  ·refine⟨?_,hI⟩;have:(l.any fun x=>!decide ((x.length:Int)<=60))=false:=zcc;rw[this]
theorem YR (l:List au) (v:Value) (w:World) (hv:fC w v l) (hln: ∀x∈l,x.length<=1000000):Ϝ 58 #[v,.func (.func 57) #[iv 60] #[]] w (PV (.bool (!(l.any fun x=>!decide ((x.length:Int)<=60)))) w):=by
 have HV:=aa hv;clear hv;go_enter Tryz.func58,Tryz.ntmps58;go_upto_region 1 with(fail)
 refine dz fun W1 σ=>?_;have ζ:Ϙ w W1:=by rw[σ];exact ai (aC _ _) _
 have hc1:W1.cell? ⟨w.heap.size,0,none⟩=some (.func (.func 57) #[iv 60] #[]):=by rw[σ];exact(ae (av _ _)).1 0
 have hs1:w.heap.size<W1.heap.size:=by rw[σ];simp
 have HA:=aa (V6 w.heap.size l v W1 (aH.below HV.o ζ (ah _)) hc1 hs1 hln);have HB:=aa ζ;clear σ ζ hc1 hs1;go_wp2_with fail
 refine HA.o.mono ?_;rintro e w' ⟨rfl,hb⟩;go_wp2_with fail
 go_returns;exact⟨rfl,aV HB.o hb⟩
def dA (l:List au):Int:=if 40<l.length∨(l.any fun x=>!decide ((x.length:Int)<=60))=true then 3 else 0
theorem zN (l:List au) (v:Value) (w:World) (hv:fC w v l) (hln: ∀x∈l,x.length<=1000000):Ϝ 31 #[v] w (PV (iv (dA l)) w):=by
 have Ib:=hv.len;obtain⟨o,c,rfl⟩:=aH.open hv;have HA:=aa (YR l _ w hv hln);clear hv;go_enter Tryz.func31,Tryz.ntmps31;go_wp2_with fail
 ·refine HA.o.mono ?_;rintro e w' ⟨rfl,hb⟩;cases hq:(l.any fun x=>!decide ((x.length:Int)<=60));all_goals
   go_wp2_with fail
   go_returns;refine⟨?_,hb⟩;simp only[dA,hq];simp;try omega
 ·go_returns;refine⟨?_,aC _ _⟩;rw[dA,aB (.inl ϑ)];rfl
def OT:iC:=
 {led:={field:={rows:=0,aJ:=0,left:=(0,0),ax:=[]},rate:=0,box:=(0,0),notes:=[]}
  heap:={last:=0,size:=0,aX:=0,die:=0,qW:=0,start:=(0,0),bM:=[],turns:=[],readings:=[]}
  cz:={heaps:=[],aR:=[],aI:=[]}}
def zeroV:SV:=⟨.slice none 0 0,.slice none 0 0,.slice none 0 0,.slice none 0 0,.slice none 0 0,.slice none 0 0,.slice none 0 0,.slice none 0 0⟩
theorem L6:bP OT zeroV=cu:=rfl
theorem Xa (w:World):lK w OT zeroV []:=by
 have hn: ∀k,aH k w (.slice none 0 0) 0 []:=fun k=>aH.nil k w;exact⟨hn _,hn _,hn _,hn _,hn _,⟨hn _,⟨hn _,fun e he=>by cases he⟩,rfl,hn _⟩⟩
def fO (ls:List au):iC:=if dA ls=0 then(bW aQ bT ls).1 else OT
def lq (ls:List au):List Int:=if dA ls=0 then(bW aQ bT ls).2 else[]
def PPl (Qs:List Nat) (ls:List au) (w:World) (e:Ending) (w':World):Prop:=
 Ϙ w w'/\ ∃V es cv,e= .returned (.tuple #[.agg (bP (fO ls) V),cv,iv (dA ls)])/\(∀W',Ext Qs w' W'->lK W' (fO ls) V es)/\w'.ownsRow w.heap.size 26 1 cv (lq ls).length (ag (lq ls))
theorem wD {ls:List au} (h:dA ls=0):ls.length<=40/\ ∀l∈ls,l.length<=60:=by
 unfold dA at h;split at h
 ·omega
 ·rename_i hc;simp only[not_or,Bool.not_eq_true] at hc;refine⟨by omega,fun l hl=>?_⟩;have:=List.any_eq_false.1 hc.2 l hl;simp at this;omega
theorem vQ (lv:Value) (ls:List au) (w:World) (hls:fC w lv ls) (hE:Env w) (hln: ∀l∈ls,l.length<=1000000) (Qs:List Nat) (hQs: ∀m∈Qs,m<w.heap.size):Ϝ 18 #[lv] w (PPl Qs ls w):=by
 have AX:Hid (∀W,Ϙ w W->fC W lv ls):=aa (fun W hb=>hls.below hb (ah _));have HE:Hid (∀W,Ϙ w W->Env W):=aa (fun W hb=>hE.below hb (ah _));have LH:=aa hln;clear hls hE hln;go_enter Tryz.func18,Tryz.ntmps18;go_upto_region 1 with(fail)
 refine dz fun W1 σ=>?_;have ζ:Ϙ w W1:=by rw[σ];exact ai (aC _ _) _
 have hk1:W1.heap[w.heap.size]? =some (.cells cu 62 (0,0)):=by rw[σ];exact av _ _
 have hs1:W1.heap.size=w.heap.size+1:=by rw[σ];simp
 have Qi:=aa ζ;have PU:=aa hk1;clear σ ζ hk1;go_wp2_with fail
 refine(zN ls lv W1 (AX.o _ Qi.o) LH.o).mono ?_;rintro e W2 ⟨rfl,hb⟩;have Ra:=aa (aV Qi.o hb);have Tn:=aa ((hb.block _ ϑ).trans PU.o);have hs2:=hb.size;obtain⟨q,hq⟩: ∃q,dA ls=q:=⟨_,rfl⟩;rw[hq];have HQ:=aa hq;clear hq hb;by_cases hz:q=0
 ·subst hz;have Tk:=aa (wD HQ.o);have Ti:=aa (si lv ls W2 (AX.o _ Ra.o) (HE.o _ Ra.o) (fun l hl=>by have:=Tk.o.2 l hl;omega) (by have:=Tk.o.1;omega) (w.heap.size::Qs) (fun m hm=>by
   rcases eB.1 hm with rfl|hm
   ·omega
   ·have:=hQs m hm;omega))
  go_wp2_with fail
  refine Ti.o.mono ?_;rintro e W3 ⟨Θ,V,es,cv,rfl,hX,hC⟩;obtain⟨co,cc,rfl⟩:=aL hC;have hs3:=Θ.size;rename_i hK;refine hK _ _ ?_;refine aF rfl _ (by go_simp;first|rfl|exact⟨rfl,rfl⟩) ?_;simp only[zp];refine aF rfl _ (by go_simp;first|rfl|exact⟨rfl,rfl⟩) ?_;simp only[zp];refine aF rfl _ (by go_simp;first|rfl|exact⟨rfl,rfl⟩) ?_;simp only[zp];have Ω:=(Θ.block _ ϑ).trans Tn.o;have hS3:=hX W3 (Ext.refl _ _);refine wpList_store_row rfl _ _ _ rfl w.heap.size (bP (bW aQ bT ls).1 V) ϰ ϰ _ cu Ω ϰ ϰ (by rw[jw];exact fun u hu=>fu hS3 u (jM.2 hu)) ?_
  simp only[zp];refine ib fun W4 yB=>?_;have Eu:Ext [w.heap.size] W3 W4:=by rw[yB];exact dJ
  have hb4:=gq (aV Ra.o Θ) Eu (ah _);have hk4:W4.heap[w.heap.size]? =some (.cells (bP (bW aQ bT ls).1 V) 62 (0,0)):=by rw[yB];exact setRow_heap _ _ _ _ _ _ Ω
  have hc4:=az (Ms:=[w.heap.size]) hC Eu ϗ;have ZA: ∀W',Ext (w.heap.size::Qs) W4 W'->lK W' (bW aQ bT ls).1 V es:=fun W' G8=>hX W' ((Eu.more ϕ).trans G8);have H4:=aa (af hb4 (af hk4 (af hc4 ZA)));clear yB Eu hb4 hk4 hc4 ZA Ω hX hC Θ hS3 hK;go_upto_region 5 with(fail)
  refine wp_region_lit ?_;refine wpList_load_row rfl _ _ rfl w.heap.size rfl _ _ _ _ H4.o.2.1 Tryz.underlying62 rfl ϰ ?_;simp only[zp];refine aF rfl _ (by go_simp;first|rfl|exact⟨rfl,rfl⟩) ?_;simp only[zp];refine wpList_store_row rfl _ _ _ rfl w.heap.size (bP (bW aQ bT ls).1 V) ϰ ϰ _ _ H4.o.2.1 ϰ ϰ (by rw[jw];exact fun u hu=>fu (H4.o.2.2.2 W4 (Ext.refl _ _)) u (jM.2 hu)) ?_
  simp only[zp];refine ib fun W5 vD=>?_;have KC:Ext [w.heap.size] W4 W5:=by rw[vD];exact dJ
  have hk5:W5.heap[w.heap.size]? =some (.cells (bP (bW aQ bT ls).1 V) 62 (0,0)):=by rw[vD];exact setRow_heap _ _ _ _ _ _ H4.o.2.1
  have H5:=aa (af (gq H4.o.1 KC (ah _)) (af hk5 (af (az (Ms:=[w.heap.size]) H4.o.2.2.1 KC ϗ) (fun W' (G8:Ext (w.heap.size::Qs) W5 W')=>H4.o.2.2.2 W' ((KC.more ϕ).trans G8)))));clear vD KC hk5;go_wp2_with fail
  refine bodyPost_ret (v:= .tuple #[.agg (bP (bW aQ bT ls).1 V),.slice co ls.length cc,iv 0]) ?_ rfl ?_
  ·have q1:=run_loadVar_row (P:=Tryz.prog) W5 w.heap.size 62 62 _ (0,0) _ H5.o.2.1 Tryz.underlying62 rfl ϰ;simp[results,Tryz.results18,asAddr,q1]
  ·have h5:=H5.o;have e1:fO ls=(bW aQ bT ls).1:=by unfold fO;rw[aB HQ.o]
   have e2:lq ls=(bW aQ bT ls).2:=by unfold lq;rw[aB HQ.o]
   refine⟨h5.1,V,es,.slice co ls.length cc,?_,?_,?_⟩
   ·rw[e1,HQ.o]
   ·rw[e1];exact fun W' G8=>h5.2.2.2 W' (G8.more (fun m hm=>nu _ hm))
   ·rw[e2,BP];exact bL h5.2.2.1 ϑ
 ·go_upto_region 3 with(fail)
  refine wp_region_lit ?_;refine aF rfl (w':=W2) (.agg cu) ϰ ?_;simp only[zp];refine aF rfl _ (by go_simp;first|rfl|exact⟨rfl,rfl⟩) ?_;simp only[zp];refine wpList_store_row rfl _ _ _ rfl w.heap.size cu ϰ ϰ _ cu Tn.o ϰ ϰ ϰ ?_;simp only[zp];refine ib fun W3 Η=>?_;have rJ:Ext [w.heap.size] W2 W3:=by rw[Η];exact dJ
  have Ω:W3.heap[w.heap.size]? =some (.cells cu 62 (0,0)):=by rw[Η];exact setRow_heap _ _ _ _ _ _ Tn.o
  have H3:=aa (af (gq Ra.o rJ (ah _)) Ω);clear Η rJ Ω;go_wp2_with fail
  refine bodyPost_ret (v:= .tuple #[.agg cu,.slice none 0 0,iv q]) ?_ rfl ?_
  ·have q1:=run_loadVar_row (P:=Tryz.prog) W3 w.heap.size 62 62 _ (0,0) _ H3.o.2 Tryz.underlying62 rfl ϰ;simp[results,Tryz.results18,asAddr,q1]
  ·have e1:fO ls=OT:=by unfold fO;rw[aj (by rw[HQ.o];exact hz)]
   have e2:lq ls=[]:=by unfold lq;rw[aj (by rw[HQ.o];exact hz)]
   refine⟨H3.o.1,zeroV,[],.slice none 0 0,?_,?_,?_⟩
   ·rw[e1,HQ.o,L6]
   ·rw[e1];exact fun W' _=>Xa W'
   ·rw[e2];exact⟨rfl,.inl ⟨rfl,rfl⟩⟩
def FT (ls:List au):Int:=if dA ls=0 then fI (fO ls).led true else dA ls
def FU (ls:List au):List dF:=if dA ls=0 then(if fI (fO ls).led true=0 then yP mE (fO ls).led (eX (fO ls).led) else[]) else[]
def Ff (ls:List au):Int:=if dA ls=0 then iM.xH (fO ls).heap else dA ls
def Fg (ls:List au):List Int:=if dA ls=0 then iM.NF (fO ls).heap else[]
def aiO (ls:List au) (w:World) (e:Ending) (w':World):Prop:=Ϙ w w'/\ ∃u,e= .returned (.tuple #[u,iv (FT ls)])/\bF w' u (FU ls)
def aiL (ls:List au) (w:World) (e:Ending) (w':World):Prop:=Ϙ w w'/\ ∃u,e= .returned (.tuple #[u,iv (Ff ls)])/\aK w' u (Fg ls)
theorem R8 (lv:Value) (ls:List au) (w:World) (hls:fC w lv ls) (hE:Env w) (hln: ∀l∈ls,l.length<=1000000):Ϝ 21 #[lv] w (aiO ls w):=by
 have AX:=aa hls;have HE:=aa hE;have LH:=aa hln;clear hls hE hln;obtain⟨q,hq⟩: ∃q,dA ls=q:=⟨_,rfl⟩;have HQ:=aa hq;go_enter Tryz.func21,Tryz.ntmps21;go_wp2_with fail
 refine(vQ lv ls w (AX.o) (HE.o) (LH.o) [] ϕ).mono ?_;rintro e W2 ⟨θ,V,es,cv,he,hX,hC⟩;rw[hq] at he;subst he;obtain⟨co,cc,rfl⟩:=aL hC;have hs2:=θ.size;have hS2:=hX W2 (Ext.refl _ _);rename_i hK;refine hK _ _ ?_;refine aF rfl _ (by go_simp;first|rfl|exact⟨rfl,rfl⟩) ?_;simp only[zp];refine aF rfl _ (by go_simp;first|rfl|exact⟨rfl,rfl⟩) ?_;simp only[zp];refine aF rfl _ (by go_simp;first|rfl|exact⟨rfl,rfl⟩) ?_;simp only[zp];refine aF rfl _ (by go_simp;first|rfl|exact⟨rfl,rfl⟩) ?_;simp only[zp];obtain⟨g,hg⟩: ∃g,g=W2.heap.size:=⟨_,rfl⟩;refine aF rfl (w':=W2.alloc (.cells cu 62 (0,0))) (.pointer (some ⟨g,0,none⟩)) (by rw[hg];go_simp;try rfl) ?_;simp only[zp];have hz2:(W2.alloc (.cells cu 62 (0,0))).heap[g]? =some (.cells cu 62 (0,0)):=by rw[hg];exact av _ _
 refine wpList_store_row rfl _ _ _ rfl g (bP (fO ls) V) ϰ ϰ _ cu hz2 ϰ ϰ (by rw[jw];exact fun u hu=>fu hS2 u (jM.2 hu)) ?_
 simp only[zp];refine ib fun W3 Η=>?_;obtain⟨uf,jI⟩: ∃uf,uf=W2.alloc (.cells cu 62 (0,0)):=⟨_,rfl⟩;rw[<-jI] at Η hz2;have rJ:Ext [g] uf W3:=by rw[Η];exact dJ
 have hs3:=rJ.size;have zG:uf.heap.size=g+1:=by rw[jI,hg];simp
 have ky:Ϙ W2 W3:=gq (by rw[jI];exact ai (aC _ _) _) rJ ϑ
 have Ω:W3.heap[g]? =some (.cells (bP (fO ls) V) 62 (0,0)):=by rw[Η];exact setRow_heap _ _ _ _ _ _ hz2
 have Θ:=aV θ ky;have hg3:w.heap.size<=g:=ϑ;have hgs:g<W3.heap.size:=ϑ;have H3:=aa (af Θ (af Ω (hS2.below ky (ah _))));clear hX hC Η jI rJ ky θ hS2 hz2 hK hs2 hs3 zG hg Θ;clear hq;obtain⟨vt,vn,vw,vu,vr,vh,vk,vs⟩:=V;obtain⟨c3,f3,l3⟩:=ae Ω;by_cases hz:q=0
 rotate_left
 ·go_wp2_with fail
  go_returns;have hqq:dA ls≠0:=by rw[HQ.o];exact hz
  have h1:FT ls=q:=by unfold FT;rw[aj hqq,HQ.o]
  have h2:FU ls=[]:=by unfold FU;rw[aj hqq]
  refine⟨H3.o.1,.slice none 0 0,?_,?_⟩
  ·rw[h1];simp
  ·rw[h2];exact aH.nil _ _
 ·subst hz;have HO:=aa (LC (fO ls).led vt vn W3 H3.o.2.2.uH H3.o.2.2.QN);have h1:FT ls=fI (fO ls).led true:=by unfold FT;rw[aB HQ.o]
  have h2:FU ls=if fI (fO ls).led true=0 then yP mE (fO ls).led (eX (fO ls).led) else[]:=by unfold FU;rw[aB HQ.o]
  obtain⟨q2,hq2⟩: ∃q,fI (fO ls).led true=q:=⟨_,rfl⟩;rw[hq2] at h1 h2;have HH:=aa (af h1 h2);clear h1 h2;go_wp2_with fail
  refine HO.o.mono ?_;rintro e W4 ⟨hb4,hp⟩;rw[hq2] at hp;have fV:=aa (aV H3.o.1 hb4);clear hb4 hq2;rcases hp with⟨hne,rfl⟩|⟨h0,u,rfl,hu⟩
  ·have HN:=aa hne;clear hne;go_wp2_with fail
   go_returns;refine⟨fV.o,.slice none 0 0,?_,?_⟩
   ·rw[HH.o.1];simp
   ·rw[HH.o.2,aj HN.o];exact aH.nil _ _
  ·subst h0;have HU:=aa hu;obtain⟨uo,uc,rfl⟩:=hu.open;clear hu;go_wp2_with fail
   go_returns;refine⟨fV.o,.slice uo (yP mE (fO ls).led (eX (fO ls).led)).length uc,?_,?_⟩
   ·rw[HH.o.1];simp
   ·rw[HH.o.2];simpa using HU.o
theorem ET (lv:Value) (ls:List au) (w:World) (hls:fC w lv ls) (hE:Env w) (hln: ∀l∈ls,l.length<=1000000):Ϝ 26 #[lv] w (aiL ls w):=by
 have AX:=aa hls;have HE:=aa hE;have LH:=aa hln;clear hls hE hln;obtain⟨q,hq⟩: ∃q,dA ls=q:=⟨_,rfl⟩;have HQ:=aa hq;go_enter Tryz.func26,Tryz.ntmps26;go_wp2_with fail
 refine(vQ lv ls w (AX.o) (HE.o) (LH.o) [] ϕ).mono ?_;rintro e W2 ⟨θ,V,es,cv,he,hX,hC⟩;rw[hq] at he;subst he;obtain⟨co,cc,rfl⟩:=aL hC;have hs2:=θ.size;have hS2:=hX W2 (Ext.refl _ _);rename_i hK;refine hK _ _ ?_;refine aF rfl _ (by go_simp;first|rfl|exact⟨rfl,rfl⟩) ?_;simp only[zp];refine aF rfl _ (by go_simp;first|rfl|exact⟨rfl,rfl⟩) ?_;simp only[zp];refine aF rfl _ (by go_simp;first|rfl|exact⟨rfl,rfl⟩) ?_;simp only[zp];refine aF rfl _ (by go_simp;first|rfl|exact⟨rfl,rfl⟩) ?_;simp only[zp];obtain⟨g,hg⟩: ∃g,g=W2.heap.size:=⟨_,rfl⟩;refine aF rfl (w':=W2.alloc (.cells cu 62 (0,0))) (.pointer (some ⟨g,0,none⟩)) (by rw[hg];go_simp;try rfl) ?_;simp only[zp];have hz2:(W2.alloc (.cells cu 62 (0,0))).heap[g]? =some (.cells cu 62 (0,0)):=by rw[hg];exact av _ _
 refine wpList_store_row rfl _ _ _ rfl g (bP (fO ls) V) ϰ ϰ _ cu hz2 ϰ ϰ (by rw[jw];exact fun u hu=>fu hS2 u (jM.2 hu)) ?_
 simp only[zp];refine ib fun W3 Η=>?_;obtain⟨uf,jI⟩: ∃uf,uf=W2.alloc (.cells cu 62 (0,0)):=⟨_,rfl⟩;rw[<-jI] at Η hz2;have rJ:Ext [g] uf W3:=by rw[Η];exact dJ
 have hs3:=rJ.size;have zG:uf.heap.size=g+1:=by rw[jI,hg];simp
 have ky:Ϙ W2 W3:=gq (by rw[jI];exact ai (aC _ _) _) rJ ϑ
 have Ω:W3.heap[g]? =some (.cells (bP (fO ls) V) 62 (0,0)):=by rw[Η];exact setRow_heap _ _ _ _ _ _ hz2
 have Θ:=aV θ ky;have hg3:w.heap.size<=g:=ϑ;have hgs:g<W3.heap.size:=ϑ;have H3:=aa (af Θ (af Ω (hS2.below ky (ah _))));clear hX hC Η jI rJ ky θ hS2 hz2 hK hs2 hs3 zG hg Θ;clear hq;obtain⟨vt,vn,vw,vu,vr,vh,vk,vs⟩:=V;obtain⟨c3,f3,l3⟩:=ae Ω;by_cases hz:q=0
 rotate_left
 ·go_wp2_with fail
  go_returns;have hqq:dA ls≠0:=by rw[HQ.o];exact hz
  have h1:Ff ls=q:=by unfold Ff;rw[aj hqq,HQ.o]
  have h2:Fg ls=[]:=by unfold Fg;rw[aj hqq]
  refine⟨H3.o.1,.slice none 0 0,?_,?_⟩
  ·rw[h1];simp
  ·rw[h2];exact aH.nil _ _
 ·subst hz;have HO:=aa (iM.OQ (fO ls).heap vw vu vr W3 H3.o.2.2.bM H3.o.2.2.Ed H3.o.2.2.LU);have h1:Ff ls=iM.xH (fO ls).heap:=by unfold Ff;rw[aB HQ.o]
  have h2:Fg ls=iM.NF (fO ls).heap:=by unfold Fg;rw[aB HQ.o]
  obtain⟨q2,hq2⟩: ∃q,iM.xH (fO ls).heap=q:=⟨_,rfl⟩;rw[hq2] at h1;have HH:=aa (af h1 h2);clear h1 h2;go_wp2_with fail
  refine HO.o.mono ?_;rintro e W4 ⟨u,he,hu,hb4⟩;rw[hq2] at he;subst he;have fV:=aa (aV H3.o.1 hb4);have HU:=aa hu;obtain⟨uo,uc,rfl⟩:=hu.open;clear hb4 hq2 hu;go_wp2_with fail
  go_returns;refine⟨fV.o,.slice uo (iM.NF (fO ls).heap).length uc,?_,?_⟩
  ·rw[HH.o.1];simp
  ·rw[HH.o.2];exact HU.o
theorem lh (l:au):(dN l).size=l.length:=by simp[ByteArray.size]
abbrev uv (c:UInt8):Value:= .int .u8 (c.toNat:Int)
theorem yO (a b:au):dN a++dN b=dN (a++b):=by
 apply ByteArray.ext;simp
theorem VW (l:au) (a b:Nat):(dN l).extract a b=dN ((l.take b).drop a):=by
 apply ByteArray.ext;simp[List.drop_take]
theorem nV {P:Program} {a b c:au} (hc:c=a++b) (h:a.length+b.length<=1000000000) (W:World):(Op.stringOp .add (dN a) (dN b)).run P W= .ok (.string (dN c)) W:=by
 have h1:=lh a;have h2:=lh b;subst hc;unfold Op.stringOp;rw[aj (by rw[h1,h2];have:IntKind.i64.max=9223372036854775807:=rfl;omega),yO];simp
theorem EF: ∀(l:au) (k:Nat) (c:UInt8),iQ k (l++[c])=iQ k l+(k+l.length)*c.toNat:=by
 intro l;induction l with
 |nil=>intro k c;simp[iQ]
 |cons x l ih=>intro k c;simp only[List.cons_append,iQ,ih,List.length_cons];rw[show k+1+l.length=k+(l.length+1) from by omega];omega
theorem AJ: ∀(l:au) (k:Nat),k+l.length<=62->iQ k l<=15810*l.length:=by
 intro l;induction l with
 |nil=>intro k _;exact ah _
 |cons x l ih=>
  intro k h;simp only[List.length_cons] at h;have h1:=ih (k+1) ϑ;have h2:k*x.toNat<=62*255:=Nat.mul_le_mul ϑ (by have:=x.toNat_lt;omega);simp only[iQ,List.length_cons];omega
theorem aby (m:Nat) (h:m<=62*255):wrap64 (m:Int)=m:=IntWalk.wrap64_in _ ⟨by omega,by omega⟩
theorem abx (i S m:Nat) (h1:i<=1000) (h2:S<=948600) (h3:m<=62*255):wrap64 (29*((i:Int)+1)+S+m)=29*((i:Int)+1)+S+m:=IntWalk.wrap64_in _ ⟨by omega,by omega⟩
theorem sN (i:Nat) (F7:au) (w:World) (hi:i<=1000) (hl:F7.length<=60):Ϝ 187 #[iv i,.string (dN F7)] w (PV (iv (jf i F7)) w):=by
 have ν:=lh F7;go_enter Tryz.func187,Tryz.ntmps187;go_wp2_with fail
 go_loopw [5,12] (fun s u wr=> ∃j:Nat,j<=F7.length/\u= .int .i64 j/\s= .int .i64 ((29*(i+1)+iQ 2 (F7.take j):Nat):Int)/\Ϙ w wr) (fun _ u _=>F7.length-(intOf u).toNat)
 case atStart=>exact⟨0,bD _,rfl,by simp[iQ];try omega,aC _ _⟩
 case round=>
  obtain⟨j,hj,rfl,rfl,hb⟩:=hrel;by_cases tX:j<F7.length
  ·have hle:=AJ (F7.take j) 2 ϗ;have hlj:(F7.take j).length=j:=by simp;omega
   rw[hlj] at hle;obtain⟨c,hc⟩: ∃c,F7[j]=c:=⟨_,rfl⟩;have hcx:(dN F7)[j]'(by rw[ν];exact tX)=c:=by rw[<-hc];rfl
   have hcl:=c.toNat_lt;have hmul:(j+2)*c.toNat<=62*255:=Nat.mul_le_mul ϑ ϑ;have UC:iQ 2 (F7.take (j+1))=iQ 2 (F7.take j)+(2+j)*c.toNat:=by
    rw[eT tX,EF,hlj,hc]
   have κ:=aa UC;generalize hS:iQ 2 (F7.take j)=S at*
   obtain⟨m,hm⟩: ∃m,(j+2)*c.toNat=m:=⟨_,rfl⟩;have hmI:((j:Int)+2)*(c.toNat:Int)=(m:Int):=by rw[<-hm];simp
   have HM:Hid ((2+j)*c.toNat=m):=aa (by rw[<-hm,Nat.add_comm]);rw[hm] at hmul;have aih:S<=948600:=ϑ;have w1:wrap64 (m:Int)=m:=aby m hmul;have w2:wrap64 (29*((i:Int)+1)+S+m)=29*((i:Int)+1)+S+m:=abx i S m hi aih hmul;clear UC hS hlj hc hm;go_wp2_with fail
   refine⟨⟨j+1,by omega,by go_num,?_,hb⟩,by simp[intOf];omega⟩;rw[κ.o,HM.o];congr 1;omega
  ·have hjl:j=F7.length:=ϑ;subst hjl;have hle:=AJ F7 2 ϑ;rw[List.take_length];have HC:Hid (((29*(i+1)+iQ 2 F7:Nat):Int)%9949=(jf i F7:Nat)):=aa (by unfold jf;omega);obtain⟨S,hS⟩: ∃S,29*(i+1)+iQ 2 F7=S:=⟨_,rfl⟩;rw[hS] at HC⊢;clear hle hS;go_wp2_with fail
   go_returns;exact⟨by simp[HC.o],hb⟩
theorem CZ: ∀(i n:Nat),jU n (i+1)=Bp (n/10^i%10)::jU n i:=by
 intro i;induction i with
 |zero=>intro n;simp[jU]
 |succ i ih=>
  intro n;rw[jU,ih (n/10),show jU n (i+1)=jU (n/10) i++[Bp (n%10)] from rfl,Nat.div_div_eq_div_mul, <-Nat.pow_succ',List.cons_append]
def dv (k:Nat):Value:= .int .u8 ((48+k:Nat):Int)
theorem Pz {k:Nat} (h:k<10):dv k=uv (Bp k):=by unfold dv uv;rw[kJ h]
theorem Ju (n:Nat) (hn:n<1000000) (w:World):Ϝ 108 #[iv n] w (PV (.agg (Lib.byteCells (jU n 4)).toArray) w):=by
 obtain⟨d0,hd0⟩: ∃d,n%10=d:=⟨_,rfl⟩;obtain⟨d1,hd1⟩: ∃d,n/10%10=d:=⟨_,rfl⟩;obtain⟨d2,hd2⟩: ∃d,n/10/10%10=d:=⟨_,rfl⟩;obtain⟨d3,hd3⟩: ∃d,n/10/10/10%10=d:=⟨_,rfl⟩;have b0:d0<10:=ϑ;have b1:d1<10:=ϑ;have b2:d2<10:=ϑ;have b3:d3<10:=ϑ;have HD:Hid (jU n 4=[Bp d3,Bp d2,Bp d1,Bp d0]):=aa (by simp[jU,hd0,hd1,hd2,hd3]);obtain⟨n1,hn1⟩: ∃m,n/10=m:=⟨_,rfl⟩;rw[hn1] at hd1 hd2 hd3;obtain⟨n2,hn2⟩: ∃m,n1/10=m:=⟨_,rfl⟩;rw[hn2] at hd2 hd3;obtain⟨n3,Il⟩: ∃m,n2/10=m:=⟨_,rfl⟩;rw[Il] at hd3;obtain⟨n4,hn4⟩: ∃m,n3/10=m:=⟨_,rfl⟩;have q0:(n:Int)%10=d0:=ϑ;have q1:(n1:Int)%10=d1:=ϑ;have q2:(n2:Int)%10=d2:=ϑ;have q3:(n3:Int)%10=d3:=ϑ;have r0:(n:Int)/10=n1:=ϑ;have r1:(n1:Int)/10=n2:=ϑ;have r2:(n2:Int)/10=n3:=ϑ;have r3:(n3:Int)/10=n4:=ϑ;clear hd0 hd1 hd2 hd3 hn1 hn2 Il hn4;go_enter Tryz.func108,Tryz.ntmps108;go_wp2_with fail
 go_loopw [0,4] (fun s u wr=>Ϙ w wr/\((s=iv n/\u=iv 0/\wr.heap[w.heap.size]? =some (.cells #[.int .u8 0,.int .u8 0,.int .u8 0,.int .u8 0] 233 (0,0)))∨
  (s=iv n1/\u=iv 1/\wr.heap[w.heap.size]? =some (.cells #[.int .u8 0,.int .u8 0,.int .u8 0,dv d0] 233 (0,0)))∨
  (s=iv n2/\u=iv 2/\wr.heap[w.heap.size]? =some (.cells #[.int .u8 0,.int .u8 0,dv d1,dv d0] 233 (0,0)))∨
  (s=iv n3/\u=iv 3/\wr.heap[w.heap.size]? =some (.cells #[.int .u8 0,dv d2,dv d1,dv d0] 233 (0,0)))∨
  (s=iv n4/\u=iv 4/\wr.heap[w.heap.size]? =some (.cells #[dv d3,dv d2,dv d1,dv d0] 233 (0,0))))) (fun _ u _=>4-(intOf u).toNat)
 case atStart=>exact⟨ai (aC _ _) _,.inl ⟨rfl,rfl,av _ _⟩⟩
 case round=>
  obtain⟨hB,hc⟩:=hrel;rcases hc with⟨rfl,rfl,hk⟩|⟨rfl,rfl,hk⟩|⟨rfl,rfl,hk⟩|⟨rfl,rfl,hk⟩|⟨rfl,rfl,hk⟩
  ·obtain⟨c0,f0,l0⟩:=ae hk;have HX:=aa (af hB hk);clear hB hk;go_wp2_with fail
   exact⟨⟨gu HX.o.1 (ah _) _,.inr (.inl ⟨rfl,rfl,aG HX.o.2 _⟩)⟩,by simp[intOf]⟩
  ·obtain⟨c0,f0,l0⟩:=ae hk;have HX:=aa (af hB hk);clear hB hk;go_wp2_with fail
   exact⟨⟨gu HX.o.1 (ah _) _,.inr (.inr (.inl ⟨rfl,rfl,aG HX.o.2 _⟩))⟩,by simp[intOf]⟩
  ·obtain⟨c0,f0,l0⟩:=ae hk;have HX:=aa (af hB hk);clear hB hk;go_wp2_with fail
   exact⟨⟨gu HX.o.1 (ah _) _,.inr (.inr (.inr (.inl ⟨rfl,rfl,aG HX.o.2 _⟩)))⟩,by simp[intOf]⟩
  ·obtain⟨c0,f0,l0⟩:=ae hk;have HX:=aa (af hB hk);clear hB hk;go_wp2_with fail
   exact⟨⟨gu HX.o.1 (ah _) _,.inr (.inr (.inr (.inr ⟨rfl,rfl,aG HX.o.2 _⟩)))⟩,by simp[intOf]⟩
  ·obtain⟨c0,f0,l0⟩:=ae hk;have HX:=aa (af hB hk);clear hB hk;go_upto_region 7 with(fail)
   refine wp_region_lit ?_;refine wpList_load_row rfl _ _ rfl w.heap.size rfl _ _ _ _ HX.o.2 Tryz.underlying233 rfl ϰ ?_;simp only[zp];refine wpList_store_row rfl _ _ _ rfl w.heap.size #[dv d3,dv d2,dv d1,dv d0] ϰ ϰ _ _ HX.o.2 ϰ ϰ (by simp[dv,Value.oneCell']) ?_;simp only[zp];refine ib fun W5 vD=>?_;have KC:Ext [w.heap.size] wr W5:=by rw[vD];exact dJ
   have hk5:W5.heap[w.heap.size]? =some (.cells #[dv d3,dv d2,dv d1,dv d0] 233 (0,0)):=by rw[vD];exact setRow_heap _ _ _ _ _ _ HX.o.2
   have H5:=aa (af (gq HX.o.1 KC (ah _)) hk5);clear vD KC hk5;go_wp2_with fail
   refine bodyPost_ret (v:= .agg #[dv d3,dv d2,dv d1,dv d0]) ?_ rfl ?_
   ·have q1:=run_loadVar_row (P:=Tryz.prog) W5 w.heap.size 233 233 _ (0,0) _ H5.o.2 Tryz.underlying233 rfl ϰ;simp[results,Tryz.results108,asAddr,q1]
   ·refine⟨?_,H5.o.1⟩;rw[HD.o,Pz b0,Pz b1,Pz b2,Pz b3];rfl
theorem wC (n:Nat): ∃a b c d,jU n 4=[a,b,c,d]:=by
 have h:=jb 4 n
 match hq:jU n 4,h with
 |[a,b,c,d],_=>exact⟨a,b,c,d,rfl⟩
def OU (i:Nat) (F7:au):List Value:=Lib.byteCells (58::58::10::jU (jf i F7) 4)
abbrev z7:Array Value:= #[.int .u8 0,.int .u8 0,.int .u8 0,.int .u8 0,.int .u8 0,.int .u8 0,.int .u8 0]
theorem BC (i:Nat) (F7:au) (w:World) (hi:i<=1000) (hl:F7.length<=60):Ϝ 107 #[iv i,.string (dN F7)] w (PV (.agg (OU i F7).toArray) w):=by
 obtain⟨a,b,c,d,hd⟩:=wC (jf i F7);have HD:=aa hd;have hcl:=RZ i F7;have ZY:=aa (fun W=>sN i F7 W hi hl);have WV:=aa (fun W=>Ju (jf i F7) ϑ W);unfold OU;rw[hd];have hQ:=HD;clear hd HD;generalize jf i F7=k at*
 go_enter Tryz.func107,Tryz.ntmps107;go_upto_region 1 with(fail)
 refine dz fun W1 σ=>?_;have ζ:Ϙ w W1:=by rw[σ];exact ai (aC _ _) _
 have hk1:W1.heap[w.heap.size]? =some (.cells z7 235 (0,0)):=by rw[σ];exact av _ _
 have hs1:w.heap.size<W1.heap.size:=by rw[σ];simp
 have Qi:=aa ζ;have PU:=aa hk1;clear σ ζ hk1;go_wp2_with fail
 refine(ZY.o W1).mono ?_;rintro e W2 ⟨rfl,hb⟩;have hs2:=hb.size;have Ra:=aa (aV Qi.o hb);have Tn:=aa ((hb.block _ hs1).trans PU.o);clear hb;go_wp2_with fail
 refine(WV.o W2).mono ?_;rintro e W3 ⟨he,hb⟩;rw[hQ.o] at he;subst he;have hs3:=hb.size;have δ:=aa (aV Ra.o hb);have Ω:=(hb.block w.heap.size ϑ).trans Tn.o;clear hb;rename_i hK;refine hK _ _ ?_;refine aF rfl (w':=W3) (.agg #[uv 58,uv 58,uv 10,uv a,uv b,uv c,uv d]) ϰ ?_;simp only[zp];refine wpList_store_row rfl _ _ _ rfl w.heap.size #[uv 58,uv 58,uv 10,uv a,uv b,uv c,uv d] ϰ ϰ _ z7 Ω ϰ ϰ (by simp[Value.oneCell']) ?_;simp only[zp];refine ib fun W4 yB=>?_;have Eu:Ext [w.heap.size] W3 W4:=by rw[yB];exact dJ
 have hk4:W4.heap[w.heap.size]? =some (.cells #[uv 58,uv 58,uv 10,uv a,uv b,uv c,uv d] 235 (0,0)):=by rw[yB];exact setRow_heap _ _ _ _ _ _ Ω
 have H4:=aa (af (gq δ.o Eu (ah _)) hk4);clear yB Eu hk4 Ω hK;go_wp2_with fail
 refine bodyPost_ret (v:= .agg #[uv 58,uv 58,uv 10,uv a,uv b,uv c,uv d]) ?_ rfl ?_
 ·have q1:=run_loadVar_row (P:=Tryz.prog) W4 w.heap.size 235 235 _ (0,0) _ H4.o.2 Tryz.underlying235 rfl ϰ;simp[results,Tryz.results107,asAddr,q1]
 ·exact⟨rfl,H4.o.1⟩
theorem aH.cut {w:World} {o:Option Addr} {n c:Nat} {xs:List Value} (h:aH 1 w (.slice o n c) n xs) {l k:Nat} (hlk:l<=k) (hk:k<=n):aH 1 w (sliced o l k c 1) (k-l) ((xs.take k).drop l):=by
 obtain⟨hl,o',c',hv,h1,h2,h3,h4⟩:=h;injection hv with e1 e2 e3;subst e1 e3;have Ib:xs.length=n:=by simpa using hl
 refine⟨by simp;omega,(if c=l then o else o.map (·.add (l*1))),c-l,rfl,by omega,by omega,fun ho=>?_,fun a ha=>?_⟩
 ·split at ho
  ·omega
  ·cases o with
   |none=>have:=h3 rfl;omega
   |some a=>cases ho
 ·split at ha
  ·rename_i hcl;obtain⟨hs,hc⟩:=h4 a ha;refine⟨hs,fun j u hj=>?_⟩;have:(xs.take k).drop l=[]:=List.drop_eq_nil_of_le ϗ;rw[this] at hj;cases hj
  ·cases o with
   |none=>cases ha
   |some b=>
    obtain⟨hs,hc⟩:=h4 b rfl;obtain⟨bb,off,sp⟩:=b;simp only at hs hc;subst hs;simp only[Option.map_some,Option.some.injEq,Nat.mul_one] at ha;rw[Addr.add_lit] at ha;subst ha;refine⟨rfl,fun j u hj=>?_⟩;rw[List.getElem?_drop,List.getElem?_take] at hj;split at hj
    ·have:=hc _ _ hj;simpa [Nat.add_assoc] using this
    ·cases hj
theorem Yx {P:Program} (t:TypeId) (hu:P.underlying t=some (.slice (P.elem t))) (ν: ∀W,(sizeOf (P.elem t)).run P W= .ok 1 W) {o:Option Addr} {n c:Nat} {l k:Nat} (hlk:l<=k) (hk:k<=c):
 ∃so sc,(∀W,(Instr.slice t (.slice o n c) (some (iv (l:Int))) (some (iv (k:Int))) none).run P W= .ok (.slice so (k-l) sc) W)/\sliced o l k c 1= .slice so (k-l) sc:=by
 refine⟨_,_,fun W=>?_,rfl⟩;rw[run_slice_lh (P:=P) W t o n c hu .i64 .i64 (l:Int) (k:Int) ϑ ϑ ϑ];rw[ν];rfl
theorem KT {P:Program} (t:TypeId) (hu:P.underlying t=some (.slice (P.elem t))) (ν: ∀W,(sizeOf (P.elem t)).run P W= .ok 1 W) {o:Option Addr} {n c:Nat} {l:Nat} (hl:l<=n):
 ∃so sc,(∀W,(Instr.slice t (.slice o n c) (some (iv (l:Int))) none none).run P W= .ok (.slice so (n-l) sc) W)/\sliced o l n c 1= .slice so (n-l) sc:=by
 refine⟨_,_,fun W=>?_,rfl⟩;rw[run_slice_l (P:=P) W t o n c hu .i64 (l:Int) ϑ ϑ];rw[ν];rfl
theorem abt {P:Program} (t:TypeId) (hu:P.underlying t=some (.slice (P.elem t))) (ν: ∀W,(sizeOf (P.elem t)).run P W= .ok 1 W) {o:Option Addr} {n c:Nat} {k:Nat} (hk:k<=c):
 ∃so sc,(∀W,(Instr.slice t (.slice o n c) none (some (iv (k:Int))) none).run P W= .ok (.slice so (k-0) sc) W)/\sliced o 0 k c 1= .slice so (k-0) sc:=by
 refine⟨_,_,fun W=>?_,rfl⟩;rw[run_slice_h (P:=P) W t o n c hu .i64 (k:Int) ϑ ϑ];rw[ν];rfl
theorem BytesAt.cell {w:World} {o:Option Addr} {n c:Nat} {l:au} (h:aH 1 w (.slice o n c) n (Lib.byteCells l)) {k:Nat} (hk:k<l.length):
 ∃b off,o=some ⟨b,off,none⟩/\b<w.heap.size/\w.cell? ⟨b,off+k,none⟩=some (.int .u8 (l[k].toNat:Int)):=by
 obtain⟨hl,o',c',hv,h1,h2,h3,h4⟩:=h;cases hv;have hn:n=l.length:=by simpa [Lib.byteCells] using hl.symm
 cases o with
 |none=>have:=h3 rfl;omega
 |some a=>
  obtain⟨b,off,sp⟩:=a;obtain⟨hs,hc⟩:=h4 _ rfl;simp only at hs hc;subst hs;have:=hc k (.int .u8 (l[k].toNat:Int)) (by simp[Lib.byteCells,hk]);exact⟨b,off,rfl,dn w _ this,this⟩
theorem zV {l:au} {a k:Nat}:((Lib.byteCells l).take k).drop a=Lib.byteCells ((l.take k).drop a):=by simp[Lib.byteCells,List.map_take,List.map_drop]
theorem uB:Tryz.prog.underlying 25=some (.slice (Tryz.prog.elem 25)):=ϰ
theorem szB (W:World):(sizeOf (Tryz.prog.elem 25)).run Tryz.prog W= .ok 1 W:=by
 rw[show Tryz.prog.elem 25=5 by kernel_rfl];simp[go_sem]
theorem BG:gJ Tryz.prog 25 5 (.int .u8 0) 1 1:=⟨Tryz.underlying25,by kernel_rfl,rfl,by omega⟩
open Go.Lib
theorem BH {A B C cs:List Value} (h:B.length=cs.length):splice (A++(B++C)) A.length cs=A++(cs++C):=by
 unfold splice;rw[lH (ah _),iT (ah _), <-h,List.drop_append];simp
theorem set_mid {A C:List Value} {x y:Value}:(A++(x::C)).set A.length y=A++(y::C):=by
 rw[nT _ _ (ah _),Nat.sub_self,List.set_cons_zero]
theorem JC {a b c d e f x y z:Value} {ln Z:List Value} (hZ:Z.length=ln.length+9):
 (splice ((splice ((splice Z 0 [a,b]).set 2 x) 3 ln).set (3+ln.length) y) (4+ln.length) [c,d,e,f]).set (8+ln.length) z=a::b::x::(ln++[y,c,d,e,f,z]):=by
 obtain⟨z0,z1,z2,Z1,y0,y1,y2,y3,y4,y5,rfl,h1⟩: ∃z0 z1 z2 Z1 y0 y1 y2 y3 y4 y5,Z=z0::z1::z2::(Z1++[y0,y1,y2,y3,y4,y5])/\Z1.length=ln.length:=by
  match Z,hZ with
  |z0::z1::z2::Z',hZ=>
   have hl:Z'.length=ln.length+6:=by simp at hZ;omega
   refine⟨z0,z1,z2,Z'.take ln.length,?_⟩;have h6:(Z'.drop ln.length).length=6:=by rw[jq];omega
   match hq:Z'.drop ln.length,h6 with
   |[y0,y1,y2,y3,y4,y5],_=>exact⟨y0,y1,y2,y3,y4,y5,by rw[<-hq,List.take_append_drop],by rw[eO];omega⟩
 have s1:splice (z0::z1::z2::(Z1++[y0,y1,y2,y3,y4,y5])) 0 [a,b]=a::b::z2::(Z1++[y0,y1,y2,y3,y4,y5]):=rfl;rw[s1];have s2:(a::b::z2::(Z1++[y0,y1,y2,y3,y4,y5])).set 2 x=[a,b,x]++(Z1++[y0,y1,y2,y3,y4,y5]):=rfl;rw[s2,show(3:Nat)=[a,b,x].length from rfl,BH h1];have s3:[a,b,x]++(ln++[y0,y1,y2,y3,y4,y5])=([a,b,x]++ln)++(y0::[y1,y2,y3,y4,y5]):=ϕ;rw[s3,show[a,b,x].length+ln.length=([a,b,x]++ln).length from by simp;omega,set_mid]
 have s4:([a,b,x]++ln)++(y::[y1,y2,y3,y4,y5])=([a,b,x]++ln++[y])++([y1,y2,y3,y4]++[y5]):=ϕ;rw[s4,show 4+ln.length=([a,b,x]++ln++[y]).length from by simp;omega,BH (B:=[y1,y2,y3,y4]) (cs:=[c,d,e,f]) rfl];have s5:([a,b,x]++ln++[y])++([c,d,e,f]++[y5])=([a,b,x]++ln++[y,c,d,e,f])++(y5::[]):=ϕ;rw[s5,show 8+ln.length=([a,b,x]++ln++[y,c,d,e,f]).length from by simp;omega,set_mid];simp
theorem mh {W:World} {o:Option Addr} {n c:Nat} {l:au} (h:aH 1 W (.slice o n c) n (Lib.byteCells l)):(convert 25 9 (.slice o n c)).run Tryz.prog W= .ok (.string (dN l)) W:=by
 obtain⟨hl,o',c',hv,h1,h2,h3,h4⟩:=h;cases hv;have hn:l.length=n:=by simpa [Lib.byteCells] using hl
 cases o with
 |none=>
  have:n=0:=by have:=h3 rfl;omega
  subst this;obtain rfl:=jh hn;rw[run_convert_bytes_nil W 25 5 Tryz.underlying25 Tryz.underlying5 _ _ 9 Tryz.underlying9];rfl
 |some a=>
  obtain⟨b,off,sp⟩:=a;obtain⟨hs,hc⟩:=h4 _ rfl;simp only at hs hc;subst hs;rw[run_convert_bytes_arg W 25 5 Tryz.underlying25 Tryz.underlying5 b off n c (l.map fun x=>(x.toNat:Int)) (by simpa using hn) (fun i hi=>by
   have hi':i<l.length:=ϑ;have:=hc i (.int .u8 (l[i].toNat:Int)) (by simp[Lib.byteCells,hi']);rw[this];simp[List.getD,hi']) 9 Tryz.underlying9]
  congr 1;congr 1;simp only[strOfNums,dN];congr 1;apply Array.ext
  ·simp
  ·intro j h1 h2;simp
theorem Xd {w W1:World} {A B:Array Value} {t u:TypeId} (h:W1=(w.alloc (.cells A t)).alloc (.cells B u)):
 Ϙ w W1/\W1.heap[w.heap.size]? =some (.cells A t (0,0))/\W1.heap[w.heap.size+1]? =some (.cells B u (0,0))/\W1.heap.size=w.heap.size+2:=by
 subst h;exact⟨ai (ai (aC _ _) _) _,(aS _ _ _ ϕ).trans (av _ _),dG _ _ _,by simp⟩
theorem row_step {W W':World} {g t5:Nat} {L X:List Value} {t:TypeId} {o:Obj} (h:W'=W.setRow g L.toArray) (hk:W.heap[g]? =some (.cells X.toArray t (0,0))) (hne:g≠t5) (h5:W.heap[t5]? =some o):
 W'.heap[t5]? =some o/\W'.heap[g]? =some (.cells L.toArray t (0,0))/\Below g W W':=by
 subst h;exact⟨(setRow_other W g t5 _ (Ne.symm hne)).trans h5,setRow_heap W g _ _ t _ hk,below_setRow (aC _ _) (ah _) _⟩
theorem zT {W W':World} {g t5 j:Nat} {v:Value} {X:List Value} {t:TypeId} {o:Obj} (h:W'=W.setCell ⟨g,j,none⟩ v) (hk:W.heap[g]? =some (.cells X.toArray t (0,0))) (hne:g≠t5) (h5:W.heap[t5]? =some o):
 W'.heap[t5]? =some o/\W'.heap[g]? =some (.cells (X.set j v).toArray t (0,0))/\Below g W W':=by
 subst h;refine⟨(heap_setCell_other W ⟨g,j,none⟩ t5 v (Ne.symm hne)).trans h5,?_,(aC g W).setCell (p:=⟨g,j,none⟩) (ah _) v⟩;rw[heap_setCell_same W g j _ t v hk,oU]
theorem M5 (n:Nat) (hn:n<=1000) (W:World):
 (Instr.makeSlice 25 (iv n) (iv n)).run Tryz.prog W= .ok (.slice (some ⟨W.heap.size,0,none⟩) n n) (W.alloc (.cells (List.replicate n (Value.int .u8 0)).toArray 5)):=by
 obtain⟨i,hi,hz,hs,hby⟩:=info_parts BG.info;have:=run_make (P:=Tryz.prog) W 25 5 i (.int .u8 0) BG.und hi hz .i64 .i64 n n ϑ (Int.le_refl _) (by rw[hby];omega) ϑ;rw[this,hs];simp only[Int.toNat_natCast];congr 3;apply Array.ext
 ·simp[madeCells]
 ·intro j h1 h2;simp[madeCells,Value.cells];rw[Nat.mod_one];rfl
theorem Ex {n:Nat} {p q r s:UInt8} (h:jU n 4=[p,q,r,s]):jU n 2=[r,s]:=by
 rw[CZ 3,CZ 2] at h;injection h with _ h;injection h with _ h
def aiN (i:Nat) (F7:au) (w:World) (e:Ending) (w':World):Prop:=
 Ϙ w w'/\ ∃g n,n=9+F7.length/\e= .returned (.slice (some ⟨g,0,none⟩) n n)/\w.heap.size<=g/\w'.heap[g]? =some (.cells (Lib.byteCells (bQ i F7)).toArray 5 (0,0))
theorem MF (i:Nat) (F7:au) (w:World) (hi:i<=1000) (hl:F7.length<=60):Ϝ 59 #[iv i,.string (dN F7)] w (aiN i F7 w):=by
 obtain⟨a,b,c,d,hd⟩:=wC (jf i F7);obtain⟨p,q,r,s,hs⟩:=wC F7.length;have HT:=BC i F7 w hi hl;have WV:=aa (fun W=>Ju F7.length ϑ W);unfold OU at HT;rw[hd] at HT;rw[hs] at WV;have ε:Lib.byteCells (bQ i F7)=uv r::uv s::uv 58::(Lib.byteCells F7++[uv 58,uv a,uv b,uv c,uv d,uv 10]):=by
  unfold bQ;rw[hd,Ex hs];simp[Lib.byteCells,uv]
 have ο:(Lib.byteCells F7).length=F7.length:=by simp[Lib.byteCells]
 have ν:=lh F7;obtain⟨c1,hc1⟩: ∃c,c=(58:UInt8):=⟨_,rfl⟩;obtain⟨c3,hc3⟩: ∃c,c=(10:UInt8):=⟨_,rfl⟩;rw[<-hc1, <-hc3] at HT ε;have HR:=aa ε;have Wu:Hid (Ϝ 107 #[iv i,.string (dN F7)] w (PV (.agg #[uv c1,uv c1,uv c3,uv a,uv b,uv c,uv d]) w)):=aa HT;have HSW:Hid (∀W,Ϝ 108 #[iv F7.length] W (PV (.agg #[uv p,uv q,uv r,uv s]) W)):=aa WV.o;have HBL:=aa ο;clear hd hs ε hc1 hc3 HT ο WV;go_enter Tryz.func59,Tryz.ntmps59;go_wp2_with fail
 refine Wu.o.mono ?_;rintro e W1 ⟨rfl,ζ⟩;have Qi:=aa ζ;go_wp2_with fail
 refine(HSW.o W1).mono ?_;rintro e W2 ⟨rfl,θ⟩;have Ra:=aa (aV Qi.o θ);clear ζ θ;go_upto_region 2 with(fail)
 refine dz fun W3 Η=>?_;obtain⟨Θ,k5,k6,hz3⟩:=Xd Η;have δ:=aa (aV Ra.o Θ);have LJ:=aa (af k5 k6);clear Η Θ k5 k6;obtain⟨N,hN⟩: ∃N,N=9+F7.length:=⟨_,rfl⟩;have hmk:(Instr.makeSlice 25 (iv (3+(F7.length:Int)+6)) (iv (3+(F7.length:Int)+6))).run Tryz.prog W3= .ok (.slice (some ⟨W3.heap.size,0,none⟩) N N) (W3.alloc (.cells (List.replicate N (Value.int .u8 0)).toArray 5)):=by
  have e:(3+(F7.length:Int)+6)=((N:Nat):Int):=ϑ;rw[e];exact M5 N ϑ W3
 go_upto_region 3 with(fail)
 refine dz fun W4 yB=>?_;have k7:W4.heap[W2.heap.size+2]? =some (.cells (List.replicate (9+F7.length) (Value.int .u8 0)).toArray 5 (0,0)):=by
  rw[yB, <-hz3,List.toArray_replicate];exact av _ _
 have hb4:Ϙ W3 W4:=by rw[yB];exact ai (aC _ _) _
 have hw2:w.heap.size<=W2.heap.size:=Ra.o.size;have fV:=aa (aV δ.o hb4);have k5:=(hb4.block W2.heap.size ϑ).trans LJ.o.1;have k6:=(hb4.block (W2.heap.size+1) ϑ).trans LJ.o.2;clear yB hb4 hmk hN LJ;obtain⟨g,hg⟩: ∃g,W2.heap.size+2=g:=⟨_,rfl⟩;obtain⟨t6,h6⟩: ∃g,W2.heap.size+1=g:=⟨_,rfl⟩;obtain⟨t5,h5⟩: ∃g,W2.heap.size=g:=⟨_,rfl⟩;rw[hg] at k7⊢;rw[h6] at k6⊢;rw[h5] at k5⊢;have hne:g≠t5/\g≠t6/\w.heap.size<=g:=ϑ;have GG:=aa hne;clear hg h6 h5 hne hz3 hw2;have uw:=aa k7;have OJ:=aa k5;have HK6:=aa k6;obtain⟨c6,f6,l6⟩:=ae k6;clear k5 k6 k7;have hc6: ∀j v,[uv r,uv s][j]? =some v->W4.cell? ((⟨t6,2,none⟩:Addr).add j)=some v:=fun j v hj=>by
  match j,hj with
  |0,hj=>exact(c6 2).trans hj
  |1,hj=>exact(c6 3).trans hj
 obtain⟨L0,hL0⟩: ∃L0,L0=List.replicate (9+F7.length) (Value.int .u8 0):=⟨_,rfl⟩;have hl0:L0.length=9+F7.length:=by rw[hL0,List.length_replicate]
 have k7:=uw.o;rw[<-hL0] at k7;have hcp:(Builtin.copy_ #[25,25] 3 #[.slice (some ⟨g,0,none⟩) (9+F7.length) (9+F7.length),.slice (some ⟨t6,2,none⟩) 2 2]).run Tryz.prog W4= .ok (goInt 2) (W4.setRow g (splice L0 0 [uv r,uv s]).toArray):=by
  have h:=run_copy_row (P:=Tryz.prog) W4 25 25 3 5 g 0 (9+F7.length) (9+F7.length) ⟨t6,2,none⟩ 2 2 L0.toArray 5 [uv r,uv s] Tryz.underlying25 ϰ k7 (by rw[show Nat.min 2 (9+F7.length)=2 from Nat.min_eq_left ϑ];rfl) hc6 ϗ (by simp[uv,Value.oneCell']);exact h
 have HL0:=aa hl0;clear hc6 hL0 hl0 uw;have uw:=aa k7;clear k7;go_upto_region 4 with(fail)
 refine dz fun W5 vD=>?_;obtain⟨L1,hL1⟩: ∃L1,L1=splice L0 0 [uv r,uv s]:=⟨_,rfl⟩;rw[<-hL1] at vD;have hl1:L1.length=9+F7.length:=by rw[hL1,length_splice _ _ _ (by rw[HL0.o];simp;omega),HL0.o]
 obtain⟨h5,k7,hb5⟩:=row_step vD uw.o (GG.o.1) OJ.o;have mO:=aa (fV.o.trans (hb5.mono GG.o.2.2));have HL1:=aa (af hL1 hl1);obtain⟨c5,f5,l5⟩:=ae h5;obtain⟨x2,g7⟩: ∃x,W5.cell? ⟨g,2,none⟩=some x:=⟨L1[2]' ϑ,by rw[(ae k7).1 2];simp⟩;obtain⟨_,f7,l7⟩:=ae k7;have H5:=aa (af h5 k7);clear vD h5 k7 hb5 hL1 hl1 hcp c6 f6 l6 OJ HK6 uw fV;go_upto_region 5 with(fail)
 refine dz fun W6 wY=>?_;obtain⟨h6,k8,hb6⟩:=zT wY H5.o.2 GG.o.1 H5.o.1;obtain⟨L2,hL2⟩: ∃L2,L2=L1.set 2 (uv c1):=⟨_,rfl⟩;have hl2:L2.length=9+F7.length:=by rw[hL2,nQ,HL1.o.2]
 rw[<-hL2] at k8;have nZ:=aa (mO.o.trans (hb6.mono GG.o.2.2));have HL2:=aa (af hL2 hl2);have H6:=aa (af h6 k8);clear wY h6 k8 hb6 hL2 hl2 c5 f5 l5 g7 f7 l7 H5 mO;have hcq:(Builtin.copy_ #[25,9] 3 #[.slice (some ⟨g,3,none⟩) (9+F7.length-3) (9+F7.length-3),.string (dN F7)]).run Tryz.prog W6= .ok (goInt F7.length) (W6.setRow g (splice L2 3 (Lib.byteCells F7)).toArray):=by
  have h:=Lib.run_copy_row_string (P:=Tryz.prog) W6 25 9 3 5 g 3 (9+F7.length-3) (9+F7.length-3) (dN F7) L2.toArray 5 Tryz.underlying25 ϰ H6.o.2 (by rw[ν];omega) (by rw[ν];have:=HL2.o.2;simp;omega);rw[h,ν];have e:L2.toArray.toList.take 3++Lib.byteCells (dN F7).data.toList++L2.toArray.toList.drop (3+F7.length)=splice L2 3 (Lib.byteCells F7):=by
   unfold splice;rw[HBL.o,jg]
  rw[e]
 go_upto_region 6 with(fail)
 refine dz fun W7 uC=>?_;obtain⟨L3,hL3⟩: ∃L3,L3=splice L2 3 (Lib.byteCells F7):=⟨_,rfl⟩;rw[<-hL3] at uC;have hl3:L3.length=9+F7.length:=by rw[hL3,length_splice _ _ _ (by rw[HL2.o.2,HBL.o];omega),HL2.o.2]
 obtain⟨h7,k8,wz⟩:=row_step uC H6.o.2 GG.o.1 H6.o.1;have wK:=aa (nZ.o.trans (wz.mono GG.o.2.2));have HL3:=aa (af hL3 hl3);have H7:=aa (af h7 k8);clear uC h7 k8 wz hL3 hl3 hcq H6 nZ;go_upto_region 7 with(fail)
 rw[show 9+F7.length-(3+F7.length)=6 from by omega];obtain⟨c7,f7,l7⟩:=ae H7.o.1;obtain⟨c8,f8,l8⟩:=ae H7.o.2;obtain⟨x3,g3⟩: ∃x,W7.cell? ⟨g,3+F7.length,none⟩=some x:=⟨L3[3+F7.length]'(by have:=HL3.o.2;omega),by rw[c8 (3+F7.length)];simp⟩;clear c8;go_upto_region 8 with(fail)
 refine dz fun W8 hW8=>?_;obtain⟨h8,k8,yz⟩:=zT hW8 H7.o.2 GG.o.1 H7.o.1;obtain⟨L4,hL4⟩: ∃L4,L4=L3.set (3+F7.length) (uv c1):=⟨_,rfl⟩;have hl4:L4.length=9+F7.length:=by rw[hL4,nQ,HL3.o.2]
 rw[<-hL4] at k8;have nH:=aa (wK.o.trans (yz.mono GG.o.2.2));have HL4:=aa (af hL4 hl4);have H8:=aa (af h8 k8);clear hW8 h8 k8 yz hL4 hl4 c7 f7 l7 f8 l8 g3 H7 wK;have hct: ∀j v,[uv a,uv b,uv c,uv d][j]? =some v->W8.drew.cell? ((⟨t5,3,none⟩:Addr).add j)=some v:=fun j v hj=>by
  obtain⟨c5,_,_⟩:=ae H8.o.1
  match j,hj with
  |0,hj=>exact(c5 3).trans hj
  |1,hj=>exact(c5 4).trans hj
  |2,hj=>exact(c5 5).trans hj
  |3,hj=>exact(c5 6).trans hj
 have hcr:(Builtin.copy_ #[25,25] 3 #[.slice (some ⟨g,3+F7.length+1,none⟩) 5 5,.slice (some ⟨t5,3,none⟩) 4 4]).run Tryz.prog W8.drew= .ok (goInt 4) (W8.drew.setRow g (splice L4 (4+F7.length) [uv a,uv b,uv c,uv d]).toArray):=by
  rw[show 3+F7.length+1=4+F7.length from by omega];have h:=run_copy_row (P:=Tryz.prog) W8.drew 25 25 3 5 g (4+F7.length) 5 5 ⟨t5,3,none⟩ 4 4 L4.toArray 5 [uv a,uv b,uv c,uv d] Tryz.underlying25 ϰ H8.o.2 rfl hct (by have:=HL4.o.2;simp;omega) (by simp[uv,Value.oneCell']);rw[h,jg];rfl
 clear hct;go_region
 go_upto_region 9 with(fail)
 refine dz fun W9 Iq=>?_;obtain⟨L5,hL5⟩: ∃L5,L5=splice L4 (4+F7.length) [uv a,uv b,uv c,uv d]:=⟨_,rfl⟩;rw[<-hL5] at Iq;have hl5:L5.length=9+F7.length:=by rw[hL5,length_splice _ _ _ (by rw[HL4.o.2];simp;omega),HL4.o.2]
 obtain⟨h9,k9,tK⟩:=row_step (W:=W8.drew) Iq H8.o.2 GG.o.1 H8.o.1;have oJ:=aa (nH.o.drew.trans (tK.mono GG.o.2.2));have HL5:=aa (af hL5 hl5);obtain⟨c5,f5,l5⟩:=ae h9;obtain⟨c8,f8,l8⟩:=ae k9;obtain⟨x5,g5⟩: ∃x,W9.cell? ⟨g,3+F7.length+5,none⟩=some x:=⟨L5[3+F7.length+5]' ϑ,by rw[c8 (3+F7.length+5)];simp⟩;have H9:=aa (af h9 k9);clear Iq h9 k9 tK hL5 hl5 hcr H8 nH c8;go_upto_region 10 with(fail)
 refine dz fun Oq aey=>?_;obtain⟨_,k10,xD⟩:=zT aey H9.o.2 GG.o.1 H9.o.1;have SN:=aa (oJ.o.trans (xD.mono GG.o.2.2));have HF:Hid (Oq.heap[g]? =some (.cells (Lib.byteCells (bQ i F7)).toArray 5 (0,0))):=by
  have e:=JC (a:=uv r) (b:=uv s) (c:=uv a) (d:=uv b) (e:=uv c) (f:=uv d) (x:=uv c1) (y:=uv c1) (z:=uv c3) (ln:=Lib.byteCells F7) (Z:=L0) (by rw[HL0.o,HBL.o];omega);rw[HBL.o, <-HL1.o.1, <-HL2.o.1, <-HL3.o.1, <-HL4.o.1, <-HL5.o.1, <-HR.o] at e;rw[show 3+F7.length+5=8+F7.length from by omega] at k10;show _=_;rw[k10, <-e]
 clear aey k10 xD c5 f5 l5 f8 l8 g5 H9 oJ;go_wp2_with fail
 go_returns;exact⟨SN.o,g,_,rfl,rfl,GG.o.2.2,HF.o⟩
theorem BytesAt.from {w:World} {o:Option Addr} {l:au} {c:Nat} (h:aH 1 w (.slice o l.length c) l.length (Lib.byteCells l)) {a:Nat} (ha:a<=l.length) {x:Int} (hx:x=a):
 ∃so sc,(∀W,(Instr.slice 25 (.slice o l.length c) (some (iv x)) none none).run Tryz.prog W= .ok (.slice so (l.drop a).length sc) W)/\aH 1 w (.slice so (l.drop a).length sc) (l.drop a).length (Lib.byteCells (l.drop a)):=by
 subst hx;obtain⟨so,sc,h1,h2⟩:=KT (P:=Tryz.prog) 25 uB szB (o:=o) (c:=c) ha;have h3:=aH.cut h ha (ah _);rw[h2,zV,List.take_length] at h3;rw[jq];exact⟨so,sc,h1,h3⟩
theorem BytesAt.mid {w:World} {o:Option Addr} {l:au} {c:Nat} (h:aH 1 w (.slice o l.length c) l.length (Lib.byteCells l)) {a k:Nat} (ha:a<=k) (hk:k<=l.length) {x y:Int} (hx:x=a) (hy:y=k):
 ∃so sc,(∀W,(Instr.slice 25 (.slice o l.length c) (some (iv x)) (some (iv y)) none).run Tryz.prog W= .ok (.slice so (k-a) sc) W)/\aH 1 w (.slice so (k-a) sc) (k-a) (Lib.byteCells ((l.take k).drop a)):=by
 subst hx hy;have hc:l.length<=c:=by obtain⟨_,o',c',hv,h1,_⟩:=h;cases hv;exact h1
 obtain⟨so,sc,h1,h2⟩:=Yx (P:=Tryz.prog) 25 uB szB (o:=o) (n:=l.length) (c:=c) ha (gI hk hc);have h3:=aH.cut h ha hk;rw[h2,zV] at h3;exact⟨so,sc,h1,h3⟩
theorem BytesAt.to {w:World} {o:Option Addr} {l:au} {c:Nat} (h:aH 1 w (.slice o l.length c) l.length (Lib.byteCells l)) {k:Nat} (hk:k<=l.length) {x:Int} (hx:x=k):
 ∃so sc,(∀W,(Instr.slice 25 (.slice o l.length c) none (some (iv x)) none).run Tryz.prog W= .ok (.slice so k sc) W)/\aH 1 w (.slice so k sc) k (Lib.byteCells (l.take k)):=by
 subst hx;have hc:l.length<=c:=by obtain⟨_,o',c',hv,h1,_⟩:=h;cases hv;exact h1
 obtain⟨so,sc,h1,h2⟩:=abt (P:=Tryz.prog) 25 uB szB (o:=o) (n:=l.length) (c:=c) (gI hk hc);have h3:=aH.cut h (bD _) hk;rw[h2,zV,List.drop_zero] at h3;exact⟨so,sc,h1,h3⟩
def RQ (b:au):Nat->Nat
 |0=>0
 |k+1=>RQ b k*10+((b.getD k 0).toNat-48)
theorem J4 {b:au} (h: ∀j,j<2->fw (b.getD j 0)=true):nW b=some (RQ b 2):=by
 unfold nW;rw[h 0 ϑ,h 1 ϑ];simp[RQ];omega
theorem Cj {b:au} {k:Nat} (hk:k<2) (h:fw (b.getD k 0)=false):nW b=none:=by
 unfold nW;rw[aj];intro hc;rw[dL] at hc;have:k=0∨k=1:=ϑ;rcases this with rfl|rfl
 ·rw[hc.1] at h;cases h
 ·rw[hc.2] at h;cases h
theorem abr (b:au): ∀k,k<=2->RQ b k<=3000:=by
 intro k hk;have h0:=(b.getD 0 0).toNat_lt;have h1:=(b.getD 1 0).toNat_lt
 match k,hk with
 |0,_=>simp[RQ]
 |1,_=>simp only[RQ];omega
 |2,_=>simp only[RQ];omega
def aiQ (b:au) (w:World) (e:Ending) (W:World):Prop:=
 Ϙ w W/\((nW b=none/\e= .returned (.tuple #[iv 0,.bool false]))∨ ∃n,nW b=some n/\n<=3000/\e= .returned (.tuple #[iv n,.bool (decide (n<=60))]))
theorem M9 (b:au) (v:Value) (w:World) (hv:aH 1 w v b.length (Lib.byteCells b)) (h2:2<=b.length):Ϝ 109 #[v] w (aiQ b w):=by
 obtain⟨o,c,rfl⟩:=aH.open hv;obtain⟨so,sc,Nl,hs⟩:=BytesAt.to hv h2 (x:=2) rfl;have HS:=aa hs;clear hv hs;go_enter Tryz.func109,Tryz.ntmps109;go_wp2_with fail
 go_loopw [4,10] (fun u i wr=> ∃k:Nat,k<=2/\i= .int .i64 k/\u= .int .i64 (RQ b k:Nat)/\(∀j,j<k->fw (b.getD j 0)=true)/\Ϙ w wr) (fun _ i _=>2-(intOf i).toNat)
 case atStart=>exact⟨0,bD _,rfl,rfl,fun j hj=>absurd hj (Nat.not_lt_zero _),aC _ _⟩
 case round=>
  obtain⟨k,hk,rfl,rfl,hd,hB⟩:=hrel;have HB:=aa hB;have HD:=aa hd;have hdl:=abr b k hk;by_cases tX:k<2
  ·have htl:(b.take 2).length=2:=by simp;omega
   obtain⟨g,off,rfl,hg,hc⟩:=BytesAt.cell (l:=b.take 2) (aH.below HS.o hB (ah _)) (k:=k) ϑ;have hck:(b.take 2)[k]' ϑ =b.getD k 0:=by rw[List.getElem_take,getD_eq ϑ]
   rw[hck] at hc;obtain⟨m,hm⟩: ∃m,(b.getD k 0).toNat=m:=⟨_,rfl⟩;have hm9:m<=255:=by have:=(b.getD k 0).toNat_lt;omega
   have UC:RQ b (k+1)=RQ b k*10+(m-48):=by rw[RQ,hm]
   have hdg:fw (b.getD k 0)=(decide (48<=m)&&decide (m<=57)):=by unfold fw;rw[hm]
   rw[hm] at hc;have κ:=aa UC;have HDG:=aa hdg;generalize RQ b k=d at*
   clear UC hdg hd hck htl hm hB;by_cases h1:m<48
   ·have h1':(m:Int)<48:=ϑ;go_wp2_with fail
    go_returns;exact⟨HB.o,.inl ⟨Cj tX (by rw[HDG.o,decide_eq_false ϑ,Bool.false_and]),rfl⟩⟩
   ·by_cases h2':57<m
    ·have h3: ¬(m:Int)<48:=ϑ;have h4:(57:Int)<m:=ϑ;go_wp2_with fail
     go_returns;exact⟨HB.o,.inl ⟨Cj tX (by rw[HDG.o,decide_eq_false (p:=m<=57) ϑ,Bool.and_false]),rfl⟩⟩
    ·have h3: ¬(m:Int)<48:=ϑ;have h4: ¬(57:Int)<m:=ϑ;have hw8:IntKind.u8.wrap ((m:Int)-48)=((m-48:Nat):Int):=zbF;have hw9:wrap64 ((d:Int)*10+((m-48:Nat):Int))=((d*10+(m-48):Nat):Int):=by rw[IntWalk.wrap64_in _ ⟨by omega,by omega⟩];omega
     go_wp2_with fail
     refine⟨⟨k+1,by omega,by go_num,?_,?_,HB.o⟩,by simp[intOf];omega⟩
     ·rw[κ.o];try rfl
     ·intro j hj;by_cases hjk:j<k
      ·exact HD.o j hjk
      ·obtain rfl:j=k:=ϑ;rw[HDG.o,decide_eq_true ϑ,decide_eq_true ϑ];rfl
  ·obtain rfl:k=2:=ϑ;have hy:=J4 hd;have HY:=aa hy;generalize RQ b 2=d at*
   clear hy hd HD hB;go_wp2_with fail
   go_returns;exact⟨HB.o,.inr ⟨d,HY.o,hdl,by simp;omega⟩⟩
abbrev vU (l:List Int):List Value:=l.map (fun x=>Value.int .u8 x)
theorem uk {P:Program} (w:World) (d:Nat) (t e:TypeId) (n:Nat) (ht:P.underlying t=some (.array n e)) (he:P.underlying e=some (.int .u8)) (ν: ∀w,(sizeOf e).run P w= .ok 1 w)
 (xs ys:List Int) (hx:xs.length=n) (hy:ys.length=n):
 (Op.equalIn (d+2) t (.agg (vU xs).toArray) (.agg (vU ys).toArray)).run P w= .ok (xs==ys) w:=by
 rw[<-qK xs ys (hx.trans hy.symm),hx,List.range_eq_range',Op.equalIn];simp only[Sem.run_bind,run_underlying ht,Result.andThen_ok,ν,Std.Legacy.Range.forIn_eq_forIn_range',Std.Legacy.Range.size,Nat.sub_zero,Nat.add_sub_cancel,Nat.div_one];have hl: ∀i∈List.range' 0 n 1,i<n:=fun i hi=>by simpa using(List.mem_range'_1.1 hi).2
 generalize List.range' 0 n 1=l at hl⊢;induction l with
 |nil=>simp
 |cons i l ih=>
  have hi:i<n:=hl i ϕ;have px:(part e (vU xs).toArray (i*1)).run P w= .ok (.int .u8 (xs.getD i 0)) w:=by
   simp[part,isAgg,run_underlying he,vU,List.getD,bZ (show i<xs.length by omega)]
  have py:(part e (vU ys).toArray (i*1)).run P w= .ok (.int .u8 (ys.getD i 0)) w:=by
   simp[part,isAgg,run_underlying he,vU,List.getD,bZ (show i<ys.length by omega)]
  have pe:(Op.equalIn (d+1) e (.int .u8 (xs.getD i 0)) (.int .u8 (ys.getD i 0))).run P w= .ok (xs.getD i 0==ys.getD i 0) w:=run_equalIn_int w d e .u8 .u8 _ _ he;exact zbj
theorem KJ (l m:au):(l.map (fun(c:UInt8)=>(c.toNat:Int))==m.map (fun(c:UInt8)=>(c.toNat:Int)))=(l==m):=by
 rw[Bool.eq_iff_iff,beq_iff_eq,beq_iff_eq];refine⟨fun h=>?_,fun h=>by rw[h]⟩;have hi: ∀a b:UInt8,(a.toNat:Int)=(b.toNat:Int)->a=b:=fun a b h=>UInt8.toNat_inj.1 ϑ;exact(List.map_inj_right hi).1 h
def abM (i:Nat) (b:au) (w:World) (e:Ending) (W:World):Prop:=
 Ϙ w W/\ ∃s is,e= .returned (.tuple #[.string s,.bool is])/\((is=true/\ ∃l,mP i b=some l/\s=dN l)∨(is=false/\mP i b=none))
theorem Hg {w W1:World} {A:Array Value} {t:TypeId} (h:W1=(w.alloc (.cells A t)).drew):
 Ϙ w W1/\W1.heap[w.heap.size]? =some (.cells A t (0,0)):=by
 subst h;exact⟨gL (ai (aC _ _) _),av _ _⟩
theorem P9 (i:Nat) (b:au) (v:Value) (w:World) (hv:aH 1 w v b.length (Lib.byteCells b)) (hi:i<=1000) (hb:b.length<=1000000000):Ϝ 61 #[iv i,v] w (abM i b w):=by
 obtain⟨o,c,rfl⟩:=aH.open hv;have HV:=aa (fun W (hb:Ϙ w W)=>hv.below hb (ah _));clear hv;go_enter Tryz.func61,Tryz.ntmps61;by_cases h9:b.length<9
 ·have h9':(b.length:Int)<9:=ϑ;go_wp2_with fail
  go_returns;exact⟨aC _ _,_,_,rfl,.inr ⟨rfl,by unfold mP;rw[aB h9]⟩⟩
 have h9': ¬(b.length:Int)<9:=ϑ;have HL:=aa (M9 b _ w (HV.o w (aC _ _)) ϑ);go_wp2_with fail
 refine HL.o.mono ?_;rintro e W1 ⟨ζ,⟨hn,rfl⟩|⟨n,hn,Il,rfl⟩⟩
 ·have Qi:=aa ζ;have HN:=aa hn;clear ζ hn;go_wp2_with fail
  go_returns;exact⟨Qi.o,_,_,rfl,.inr ⟨rfl,by unfold mP;rw[aj h9,HN.o]⟩⟩
 have Qi:=aa ζ;have HN:=aa hn;clear ζ hn HL;by_cases ZG:n<=60
 rotate_left
 ·rw[decide_eq_false ZG];go_wp2_with fail
  go_returns;exact⟨Qi.o,_,_,rfl,.inr ⟨rfl,by unfold mP;rw[aj h9,HN.o];simp only;rw[aB (.inl ϑ)]⟩⟩
 rw[decide_eq_true ZG];by_cases hbn:b.length<9+n
 ·have ah6:(b.length:Int)<3+(n:Int)+6:=ϑ;go_wp2_with fail
  go_returns;exact⟨Qi.o,_,_,rfl,.inr ⟨rfl,by unfold mP;rw[aj h9,HN.o];simp only;rw[aB (.inr hbn)]⟩⟩
 have ah6: ¬(b.length:Int)<3+(n:Int)+6:=ϑ;have Β:=HV.o W1 Qi.o;obtain⟨s1,q1,e1,t1⟩:=BytesAt.mid Β (a:=3) (k:=3+n) ϑ ϑ (x:=3) (y:=3+(n:Int)) rfl ϑ;obtain⟨s2,q2,e2,t2⟩:=BytesAt.from Β (a:=3+n) ϑ (x:=3+(n:Int)) ϑ;rw[show 3+n-3=n from by omega] at t1;simp only[show 3+n-3=n from by omega] at e1;have hln:((b.take (3+n)).drop 3).length=n:=by simp;omega
 have tX:(b.take (3+n)).drop 3=(b.drop 3).take n:=by rw[List.drop_take];congr 1;omega
 have c1:=mh (W:=W1) (o:=s1) (n:=n) (c:=q1) (l:=(b.take (3+n)).drop 3) t1;have c2:=mh (W:=W1.drew) (o:=s1) (n:=n) (c:=q1) (l:=(b.take (3+n)).drop 3) (aH.below t1 (gL (aC W1.heap.size W1)) (ah _));have hdl:(b.drop (3+n)).length=b.length-(3+n):=ϕ;obtain⟨s3,q3,e3,t3⟩:=BytesAt.mid t2 (a:=1) (k:=5) ϑ ϑ (x:=1) (y:=5) rfl rfl;obtain⟨g1,f1,rfl,hg1,z1⟩:=BytesAt.cell Β (k:=2) ϑ;obtain⟨g2,f2,rfl,hg2,z2⟩:=BytesAt.cell t2 (k:=0) ϑ;obtain⟨_,_,hq,_,z3⟩:=BytesAt.cell t2 (k:=5) ϑ;cases hq;obtain⟨x0,x1,x2,x3,hX⟩: ∃x0 x1 x2 x3,((b.drop (3+n)).take 5).drop 1=[x0,x1,x2,x3]:=by
  have h4:(((b.drop (3+n)).take 5).drop 1).length=4:=by simp;omega
  match hq:((b.drop (3+n)).take 5).drop 1,h4 with
  |[a,b,c,d],_=>exact⟨a,b,c,d,rfl⟩
 rw[hX] at t3;obtain⟨g3,f3,rfl,hg3,y0⟩:=BytesAt.cell (l:=[x0,x1,x2,x3]) t3 (k:=0) ϕ;obtain⟨_,_,hq,_,y1⟩:=BytesAt.cell (l:=[x0,x1,x2,x3]) t3 (k:=1) ϕ;cases hq;obtain⟨_,_,hq,_,y2⟩:=BytesAt.cell (l:=[x0,x1,x2,x3]) t3 (k:=2) ϕ;cases hq;obtain⟨_,_,hq,_,y3⟩:=BytesAt.cell (l:=[x0,x1,x2,x3]) t3 (k:=3) ϕ;cases hq;simp only[Nat.add_zero,ak] at y0 y1 y2 y3 z2;obtain⟨p2,hp2⟩: ∃x,b[2]=x:=⟨_,rfl⟩;obtain⟨p0,hp0⟩: ∃x,(b.drop (3+n))[0]' ϑ =x:=⟨_,rfl⟩;obtain⟨p5,hp5⟩: ∃x,(b.drop (3+n))[5]' ϑ =x:=⟨_,rfl⟩;rw[hp2] at z1;rw[hp0] at z2;rw[hp5] at z3;obtain⟨F7,Kw⟩: ∃x,(b.take (3+n)).drop 3=x:=⟨_,rfl⟩;rw[Kw] at c1 c2 hln tX;have ady:b.getD 2 0=p2:=by rw[<-hp2,getD_eq ϑ]
 have adz:b.getD (3+n) 0=p0:=by rw[<-hp0,getD_eq ϑ,List.getElem_drop];rfl
 have adx:b.getD (8+n) 0=p5:=by rw[<-hp5,getD_eq ϑ,List.getElem_drop];congr 1;omega
 simp only[Nat.reduceSub] at e3;obtain⟨m,hm⟩: ∃m,(b.drop (3+n)).length=m:=⟨_,rfl⟩;rw[hm] at e2 e3;have hm0:(0:Int)<(m:Int):=ϑ;have hm5:(5:Int)<(m:Int):=ϑ;have θ:(2:Int)<(b.length:Int):=ϑ;have ha: ∀W,(Instr.arrayAt 233 (.slice (some ⟨g3,f3,none⟩) 4 q3)).run Tryz.prog W= .ok (.pointer (some ⟨g3,f3,none⟩)) W:=fun W=>run_arrayAt W 233 _ 4 _ 4 q3 Tryz.underlying233 (ah _);have HT:=aa (fun W=>BC i F7 W hi ϑ);have HX:=aa (af hX (af ady (af adz (af adx (af tX hln)))));clear Β t1 t2 t3 hX hp2 hp0 hp5 ady adz adx Kw tX hln HV hdl hm;go_upto_region 6 with(fail)
 go_region
 go_upto_region 7 with(fail)
 refine dz fun W2 hW2=>?_;have θ:Ϙ W1 W2:=by rw[hW2];exact gL (aC _ _)
 have Ra:=aa (aV Qi.o θ);have y0:=((bA θ).1 g3 f3 hg3).trans y0;have y1:=((bA θ).1 g3 (f3+1) hg3).trans y1;have y2:=((bA θ).1 g3 (f3+2) hg3).trans y2;have y3:=((bA θ).1 g3 (f3+3) hg3).trans y3;have z1:=((bA θ).1 g1 (f1+2) hg1).trans z1;have z2:=((bA θ).1 g2 f2 hg2).trans z2;have z3:=((bA θ).1 g2 (f2+5) hg2).trans z3;have hg1:=dU hg1 θ.size;have hg2:=dU hg2 θ.size;have hg3:=dU hg3 θ.size;clear hW2 θ c1 c2;go_region
 go_upto_region 8 with(fail)
 refine dz fun W3 Η=>?_;obtain⟨Θ,k3⟩:=Hg Η;have δ:=aa (aV Ra.o Θ);obtain⟨d0,d1,d2,d3,hd⟩:=wC (jf i F7);have HD:=aa hd;have HT2:Hid (∀W,Ϝ 107 #[iv i,.string (dN F7)] W (PV (.agg #[uv 58,uv 58,uv 10,uv d0,uv d1,uv d2,uv d3]) W)):=aa fun W=>by
  have:=HT.o W;unfold OU at this;rw[hd] at this;exact this
 obtain⟨cc,ff,ll⟩:=ae k3;clear hd Η Θ k3 HT y0 y1 y2 y3 z1 z2 z3;refine zg 8 [] none [(4,Spec.val (.agg #[uv 58,uv 58,uv 10,uv d0,uv d1,uv d2,uv d3]))] ?_;simp only[zt];repeat ((first|refine zn ?_|refine zk ?_);simp only[zp])
 refine zw 107 (h:=fun W hE hF=>by exact HT2.o W) (t:=?_);simp only[zp];obtain⟨A,hA⟩: ∃A,([p2,p0,p5]==([58,58,10]:au))=A:=⟨_,rfl⟩;obtain⟨B,hB⟩: ∃B,([x0,x1,x2,x3]==([d0,d1,d2,d3]:au))=B:=⟨_,rfl⟩;have q1: ∀W:World,(Op.equalIn 9999 231 (.agg #[.int .u8 (p2.toNat:Int),.int .u8 (p0.toNat:Int),.int .u8 (p5.toNat:Int)]) (.agg #[uv 58,uv 58,uv 10])).run Tryz.prog W= .ok A W:=fun W=>by
  have q:=uk (P:=Tryz.prog) W 9997 231 5 3 Tryz.underlying231 Tryz.underlying5 (by intro w;go_simp) ([p2,p0,p5].map fun(c:UInt8)=>(c.toNat:Int)) (([58,58,10]:au).map fun(c:UInt8)=>(c.toNat:Int)) rfl rfl;rw[KJ,hA] at q;exact q
 have q2: ∀W:World,(Op.equalIn 9999 233 (.agg #[.int .u8 (x0.toNat:Int),.int .u8 (x1.toNat:Int),.int .u8 (x2.toNat:Int),.int .u8 (x3.toNat:Int)]) (.agg #[uv d0,uv d1,uv d2,uv d3])).run Tryz.prog W= .ok B W:=fun W=>by
  have q:=uk (P:=Tryz.prog) W 9997 233 5 4 Tryz.underlying233 Tryz.underlying5 (by intro w;go_simp) ([x0,x1,x2,x3].map fun(c:UInt8)=>(c.toNat:Int)) (([d0,d1,d2,d3]:au).map fun(c:UInt8)=>(c.toNat:Int)) rfl rfl;rw[KJ,hB] at q;exact q
 have HAB:=aa (af hA hB);clear hA hB;refine eU ϱ (.bool (A&&B)) ϱ (fun W hW=>by
  go_simp
  cases A <;>cases B <;>simp[q1,q2]) ?_
 simp only[zp];repeat ((first|refine zn ?_|refine zk ?_);simp only[zp])
 intro W4 Eu hF4;have hb4:Ϙ W3 W4:=Ext.below (show Ext [] W3 W4 from Eu);have fV:=aa (aV δ.o hb4);have hw:mP i b=if BB i n b then some ((b.drop 3).take n) else none:=by unfold mP;rw[aj h9,HN.o];simp only;rw[aj ϑ]
 obtain⟨x1',x2',x3',x4',x5',x6'⟩:=HX.o;have hX:(b.drop (4+n)).take 4=[x0,x1,x2,x3]:=by
  rw[<-x1',List.drop_take,List.drop_drop,show 3+n+1=4+n from by omega]
 have ht:BB i n b=(A&&B):=by
  unfold BB;rw[x2',x3',x4',hX, <-x5',HD.o, <-HAB.o.1, <-HAB.o.2];simp[Bool.and_assoc]
 rw[ht, <-x5'] at hw;have HW:=aa hw;clear Eu hF4 hb4 hw x1' x2' x3' x4' x5' x6' hX ht cc ff q1 q2;go_wp2_with fail
 go_returns;refine⟨fV.o,_,_,rfl,?_⟩;rw[HW.o];cases (A&&B)
 ·exact .inr ⟨rfl,rfl⟩
 ·exact .inl ⟨rfl,_,rfl,rfl⟩
theorem Jr: ∀(ls:List au),(∀l∈ls,l.length<=60)->gm ls<=69*ls.length:=by
 intro ls;induction ls with
 |nil=>intro _;exact ah _
 |cons l ls ih=>
  intro h;have h1:=ih fun x hx=>h x (nu _ hx);have h2:=h l List.mem_cons_self;simp only[gm,List.length_cons];omega
theorem RB {ls:List au} {k:Nat} (hk:k<ls.length):eu 0 (ls.take (k+1))=eu 0 (ls.take k)++bQ k ls[k]:=by
 rw[eT hk,Ew,eO,Nat.zero_add,Nat.min_eq_left ϑ]
theorem VV (l:au):(Lib.byteCells l).toArray.size=l.length:=by simp[Lib.byteCells]
theorem bytes_at {W:World} {g n:Nat} {l:au} {t:TypeId} {fr:Nat×Nat} (h:W.heap[g]? =some (.cells (Lib.byteCells l).toArray t fr)) (hn:l.length=n) (hm:n<=maxLen):aH 1 W (.slice (some ⟨g,0,none⟩) n n) n (Lib.byteCells l):=
 aH.bS (cs:=(Lib.byteCells l).toArray) 1 n h (by rw[VV,hn,Nat.mul_one]) hm
theorem zU (l:au): ∀u∈Lib.byteCells l,u.oneCell'=true:=by
 intro u hu;simp only[Lib.byteCells,gU] at hu;obtain⟨x,_,rfl⟩:=hu;rfl
def ZR (l:au) (w:World) (e:Ending) (w':World):Prop:=Ϙ w w'/\ ∃v,e= .returned v/\w'.ownsRow w.heap.size 5 1 v l.length (Lib.byteCells l)
theorem KD (ls:List au) (v:Value) (w:World) (hv:fC w v ls) (hn:ls.length<=1000) (hl: ∀l∈ls,l.length<=60):Ϝ 32 #[v] w (ZR (oD ls) w):=by
 obtain⟨lo,lc,rfl⟩:=aH.open hv;have HV:=aa hv;have HL:=aa hl;clear hv hl;go_enter Tryz.func32,Tryz.ntmps32;go_wp2_with fail
 go_loopw [2,7] (fun u i wr=> ∃k:Nat,k<=ls.length/\i= .int .i64 k/\Ϙ w wr/\wr.ownsRow w.heap.size 5 1 u (eu 0 (ls.take k)).length (Lib.byteCells (eu 0 (ls.take k)))) (fun _ i _=>ls.length-(intOf i).toNat)
 case atStart=>exact⟨0,bD _,rfl,aC _ _,⟨rfl,.inl ⟨rfl,rfl⟩⟩⟩
 case round=>
  obtain⟨k,hk,rfl,hB,η⟩:=hrel;by_cases tX:k<ls.length
  ·obtain⟨g1,f1,e1,r1,c1⟩:=rX (HV.o.below hB (ah _)) tX;have HB:=aa hB;have HT:=aa (RB tX);have hll:=HL.o _ (bK tX);have hs1:(eu 0 (ls.take k)).length<=69*k:=by
    have h1:=Jr (ls.take k) fun l h=>HL.o l (ny h);rw[eO,Nat.min_eq_left ϑ] at h1;rw[tQ];exact h1
   have HR:=aa (MF k ls[k] wr ϑ hll);have HQ:=aa (fZ k ls[k]);obtain⟨x,hx⟩: ∃x,x=ls[k]:=⟨_,rfl⟩;rw[<-hx] at c1 HR HT HQ hll;clear hx;generalize hA:eu 0 (ls.take k)=A at*
   have hlo:=aL η;obtain⟨oo,oc,rfl⟩:=hlo;have HO:=aa η;have Ba:(k:Int)<ls.length:=ϑ;cases e1;clear hB η hA;go_wp2_with fail
   refine HR.o.mono ?_;rintro e W2 ⟨θ,g,n,rfl,rfl,hg,hk2⟩;have Ra:=aa (aV HB.o θ);have xQ:=aa (az (Ms:=[]) HO.o (Ext.ay θ) ϕ);have HS2:Hid (aH 1 W2 (.slice (some ⟨g,0,none⟩) (9+x.length) (9+x.length)) (9+x.length) (Lib.byteCells (bQ k x))):=aa (bytes_at hk2 HQ.o (by simp only[maxLen];omega));clear θ hk2 hg;go_wp2_with (at_builtin;go_loud (refine dB rfl _ _ BG rfl w.heap.size (.slice oo A.length oc) A.length (Lib.byteCells A) rfl xQ.o (.slice (some ⟨g,0,none⟩) (9+x.length) (9+x.length)) (9+x.length) (Lib.byteCells (bQ k x)) rfl HS2.o (zU _) ϑ ϑ Ra.o.size ?_))
   intro v' W3 Fw TF _;have hB3:Ϙ w W3:=Below.grown Ra.o TF (by have:=Ra.o.size;omega) (fun g e=>(aW xQ.o g e).1);have δ:=aa hB3;have hown3:W3.ownsRow w.heap.size 5 1 v' (eu 0 (ls.take (k+1))).length (Lib.byteCells (eu 0 (ls.take (k+1)))):=by
    rw[HT.o,show Lib.byteCells (A++bQ k x)=Lib.byteCells A++Lib.byteCells (bQ k x) from by simp[Lib.byteCells],bR,HQ.o]
    exact Fw
   exact zbM
  ·have XI:k=ls.length:=ϑ;have HO:Hid (wr.ownsRow w.heap.size 5 1 u2 (oD ls).length (Lib.byteCells (oD ls))):=aa (by
    rw[XI,List.take_length] at η;exact η)
   have HB:=aa hB;clear hB η;go_wp2_with fail
   go_returns;exact⟨HB.o,_,rfl,HO.o⟩
theorem mg {ls:List au} (h:dA ls=0):ls.length<=40/\ ∀l∈ls,l.length<=60:=by
 unfold dA at h;split at h
 ·omega
 ·rename_i hc;refine⟨by omega,fun l hl=>?_⟩;apply Classical.byContradiction;intro hn;exact hc (.inr (List.any_eq_true.2 ⟨l,hl,by simp;omega⟩))
def PO (q:Int) (ls:List au) (w:World) (e:Ending) (w':World):Prop:=
 Ϙ w w'/\((q≠0/\e= .returned (.tuple #[.slice none 0 0,iv q]))∨(q=0/\ ∃v,e= .returned (.tuple #[v,iv 0])/\w'.ownsRow w.heap.size 5 1 v (oD ls).length (Lib.byteCells (oD ls))))
theorem Gy (ls:List au) (v:Value) (w:World) (hv:fC w v ls) (hln: ∀x∈ls,x.length<=1000000):Ϝ 10 #[v] w (PO (dA ls) ls w):=by
 have HF:=aa (zN ls v w hv hln);have HW:Hid (dA ls=0-> ∀W,Ϙ w W->Ϝ 32 #[v] W (ZR (oD ls) W)):=aa (fun h W hb=>KD ls v W (hv.below hb (ah _)) (by have:=(mg h).1;omega) (mg h).2)
 obtain⟨lo,lc,rfl⟩:=aH.open hv;clear hv;obtain⟨q,hq⟩: ∃q,dA ls=q:=⟨_,rfl⟩;rw[hq] at HF HW⊢;have HQ:=aa hq;clear hq;go_enter Tryz.func10,Tryz.ntmps10;go_wp2_with fail
 refine HF.o.mono ?_;rintro e W1 ⟨rfl,ζ⟩;have Qi:=aa ζ;clear ζ;by_cases hz:q=0
 ·subst hz;go_wp2_with fail
  refine(HW.o (by trivial) W1 Qi.o).mono ?_;rintro e W2 ⟨θ,v2,rfl,ho⟩;have Ra:=aa (aV Qi.o θ);obtain⟨o2,c2,rfl⟩:=aL ho;have HO:=aa (bL ho Qi.o.size);clear θ ho;go_wp2_with fail
  go_returns;exact⟨Ra.o,.inr ⟨rfl,_,rfl,HO.o⟩⟩
 ·go_wp2_with fail
  go_returns;exact⟨Qi.o,.inl ⟨hz,rfl⟩⟩
theorem OZ: ∀(f i:Nat) (b:au) (k:Nat),k<=(cK f i b).length->cK (f-k) (i+k) (b.drop (gm ((cK f i b).take k)))=(cK f i b).drop k:=by
 intro f;induction f with
 |zero=>
  intro i b k hk;obtain rfl:k=0:=by simpa [cK] using hk
  simp[cK,gm]
 |succ f ih=>
  intro i b k hk;cases k with
  |zero=>simp[gm]
  |succ k=>
   cases hw:nI i b with
   |none=>
    have:cK (f+1) i b=[]:=by simp[cK,hw]
    rw[this] at hk;simp at hk
   |some l=>
    have hr:cK (f+1) i b=l::cK f (i+1) (b.drop (9+l.length)):=by simp[cK,hw]
    rw[hr] at hk⊢;have:=ih (i+1) (b.drop (9+l.length)) k (by simpa using hk);rw[List.take_succ_cons,List.drop_succ_cons,gm, <-this,List.drop_drop,show f+1-(k+1)=f-k from ϑ,show i+(k+1)=i+1+k from by omega]
theorem Qw {b:au} {k:Nat} (hk:k<=(cK 40 0 b).length) (WU:k<40) {l:au} (h:nI k (b.drop (gm ((cK 40 0 b).take k)))=some l): ∃h:k<(cK 40 0 b).length,(cK 40 0 b)[k]=l:=by
 have h1:=OZ 40 0 b k hk;obtain⟨f,hf⟩: ∃f,40-k=f+1:=⟨39-k,by omega⟩;rw[hf,Nat.zero_add,cK,h] at h1;simp only at h1;have tX:k<(cK 40 0 b).length:=by
  by_cases hc:k<(cK 40 0 b).length
  ·exact hc
  ·have h2:(cK 40 0 b).drop k=[]:=List.drop_eq_nil_of_le ϑ;rw[h2] at h1;cases h1
 rw[rM tX] at h1;exact⟨tX,(List.cons.inj h1).1.symm⟩
theorem FK {b:au} {k:Nat} (hk:k<=(cK 40 0 b).length) (h:40<=k∨nI k (b.drop (gm ((cK 40 0 b).take k)))=none):k=(cK 40 0 b).length:=by
 rcases h with h|h
 ·have:=uV 40 0 b;omega
 ·by_cases WU:40<=k
  ·have:=uV 40 0 b;omega
  have h1:=OZ 40 0 b k hk;obtain⟨f,hf⟩: ∃f,40-k=f+1:=⟨39-k,by omega⟩;rw[hf,Nat.zero_add,cK,h] at h1;have:(cK 40 0 b).length-k=0:=by rw[<-List.length_drop, <-h1];rfl
  omega
theorem size_take (b:au) (k:Nat):gm ((cK 40 0 b).take k)<=b.length:=by
 have h1:=Qo 40 0 b;have h2:gm (cK 40 0 b)=gm ((cK 40 0 b).take k)+gm ((cK 40 0 b).drop k):=by rw[<-zq,List.take_append_drop]
 omega
def rZ (b:au):List (au×Nat):=(List.range (cK 40 0 b).length).map fun k=>((cK 40 0 b).getD k [],gm ((cK 40 0 b).take (k+1)))
theorem rY (b:au):(rZ b).length=(cK 40 0 b).length:=by simp[rZ]
theorem FJ {b:au} {k:Nat} (hk:k<(rZ b).length):(rZ b)[k]=((cK 40 0 b).getD k [],gm ((cK 40 0 b).take (k+1))):=by simp[rZ]
def afi (_:List Nat) (x:au×Nat) (v:Array Value) (_:World):Prop:=v= #[.string (dN x.1),iv x.2]
def abK (bx:Nat) (o:Option Addr) (c:Nat) (b:au) (W:World):Prop:=
 W.heap[bx]? =some (.cells #[.slice o b.length c] 25 (0,0))/\aH 1 W (.slice o b.length c) b.length (Lib.byteCells b)
theorem AY {P:Program} {n:Nat} {c:Code} {Q:Exit->Act->World->Prop} {a:Act} {w:World} (h:c.wpIn Fence.wide n P (Exit.noGoto Q) a w):(Code.scope c).wpIn Fence.wide n P Q a w:=
 wpIn_wide.2 (wp_scope_straight (wpIn_wide.1 h))
theorem JA (b:au) (hb:b.length<=1000000000) (bx:Nat) (o:Option Addr) (c:Nat):
 abH Tryz.prog 60 #[.pointer (some ⟨bx,0,none⟩)] (rZ b) afi [] (fun _=>True) (abK bx o c b):=by
 intro y J W hInv hstep hY h0;refine callsIn_wide.1 (show CallsIn Fence.wide 0 _ _ _ _ _ from ?_);have HI:=aa hInv;have κ:=aa hstep;have HY:=aa hY;have H0:=aa h0;clear hInv hstep hY h0;refine callsIn_of_wp Tryz.func60 rfl trivial ?_;simp only[Tryz.ntmps60,List.size_toArray,List.length_cons,List.length_nil,Nat.reduceAdd,Nat.reduceSub,Array.replicate_succ,Array.replicate_zero,jr,jv,List.nil_append,List.cons_append];refine AY ?_
 gi_wp2_with fail
 refine wpIn_label ?_;rename_i hK;refine hK _ _ ?_
 gi_wp2_with fail
 gi_loopw [3,7] (fun a i wr=> ∃k:Nat,k<=(cK 40 0 b).length/\i= .int .i64 k/\a= .int .i64 (gm ((cK 40 0 b).take k):Nat)/\J [] (some k) wr) (fun _ i _=>40-(intOf i).toNat)
 case atStart=>exact⟨0,bD _,rfl,rfl,H0.o⟩
 case round=>
  obtain⟨k,hk,rfl,rfl,hJ⟩:=hrel;have HJ:=aa hJ;have UC:=size_take b k;have HK:=aa hk;have aaM:=uV 40 0 b;by_cases WU:k<40
  rotate_left
  ·have Vu: ¬(k:Int)<40:=ϑ;have HE:Hid (J [] (some (rZ b).length) wr):=aa (by rw[rY, <-FK hk (.inl ϑ)];exact hJ);clear hJ UC hk aaM
   gi_wp2_with fail
   go_end0
   exact⟨⟨_,rfl⟩,[],.inl HE.o⟩
  ·obtain⟨hbx,Nl⟩:=HI.o _ _ _ hJ;obtain⟨cc,ff,ll⟩:=ae hbx;obtain⟨at_,hat⟩: ∃n,gm ((cK 40 0 b).take k)=n:=⟨_,rfl⟩;rw[hat] at UC⊢;obtain⟨so,sc,e1,t1⟩:=BytesAt.from Nl UC (x:=(at_:Int)) rfl;have HW:=aa (P9 k (b.drop at_) _ wr t1 ϑ ϗ);have HAT:=aa hat;have Vu:(k:Int)<40:=ϑ;obtain⟨m,hm⟩: ∃m,(b.drop at_).length=m:=⟨_,rfl⟩;rw[hm] at e1 HW;have HDL:=aa hm;clear hJ hk aaM hbx Nl t1 hat hm
   gi_wp2_with fail
   refine(callsIn_wide.2 HW.o).mono ?_;rintro e W1 ⟨ζ,s,is,rfl,h⟩;have Qi:=aa ζ;have Bb:=κ.o _ [] _ _ _ HJ.o (Ext.ay ζ) (fun m hm=> .inl hm) trivial;rcases h with⟨rfl,l,hl,rfl⟩|⟨rfl,hn⟩
   rotate_left
   ·have HE:Hid (J [] (some (rZ b).length) W1):=aa (by
     rw[rY, <-FK HK.o (.inr (by rw[HAT.o, <-Fb];exact hn))];exact Bb)
    clear Bb hn ζ HW e1
    gi_wp2_with fail
    simp only[Exit.noGoto];go_end0
    exact⟨⟨_,rfl⟩,[],.inl HE.o⟩
   ·obtain⟨tX,hget⟩:=Qw HK.o WU (l:=l) (by rw[HAT.o, <-Fb];exact hl);have hend:((gm ((cK 40 0 b).take (k+1)):Nat):Int)=(at_:Int)+(3+(l.length:Int)+6):=by
     rw[eT tX,zq,HAT.o,hget];simp only[gm];omega
    have Ρ:k<(rZ b).length:=by rw[rY];exact tX
    have amO:l.length<=60:=by rw[<-hget];exact xq 40 0 b _ (bK tX)
    have ν:=lh l;obtain⟨g1,t1,a1,b1,hy1,Bl⟩:=HY.o [] k #[.string (dN l),.int .i64 ((at_:Int)+(3+(l.length:Int)+6))] W1 Ρ Bb (by
     unfold afi;rw[FJ];simp only[fJ,bZ tX,Option.getD_some,hget];rw[hend])
    have HR1:=aa Bl;have ajt:=aa hend;have HLT:=aa tX;clear Bb Bl hend hget hl ζ HW e1 Ρ tX
    gi_wp2_with fail
    refine HR1.o.mono ?_;rintro e W2 ⟨⟨XJ,hsz2⟩,⟨rfl,hJ2⟩|⟨rfl,hJ2⟩⟩
    ·have HJ2:=aa hJ2;clear hJ2 XJ hsz2 hy1 HR1
     gi_wp2_with fail
     refine⟨⟨k+1,HLT.o,by go_num,by rw[ajt.o],HJ2.o⟩,by simp[intOf];omega⟩
    ·have HJ2:=aa hJ2;clear hJ2 XJ hsz2 hy1 HR1
     gi_wp2_with fail
     simp only[Exit.noGoto];go_returns;exact⟨⟨_,rfl⟩,[],.inr HJ2.o⟩
theorem JB (o:Option Addr) (n c:Nat) (w:World):
 Ϝ 33 #[.slice o n c] w (fun e w'=>e= .returned (.func (.func 60) #[] #[.pointer (some ⟨w.heap.size,0,none⟩)])/\w'=w.alloc (.cells #[.slice o n c] 25)):=by
 go_enter Tryz.func33,Tryz.ntmps33;exact zbA
def uy (xs:List Value):Prop:= ∀u∈xs, ∃k,u= .int .u8 k
theorem TC (s:ByteArray):uy (Lib.strCells s):=fun u hu=>by
 simp only[Lib.strCells,gU] at hu;obtain⟨b,_,rfl⟩:=hu;exact⟨_,rfl⟩
theorem GL {a b:List Value} (ha:uy a) (hb:uy b):uy (a++b):=fun u hu=>by
 rcases gz.1 hu with h|h
 ·exact ha u h
 ·exact hb u h
theorem Xc (n:Nat):uy (Builtin.zeroCells (Value.int .u8 0).cells n).toList:=fun u hu=>by
 have:u∈(Builtin.zeroCells (Value.int .u8 0).cells n):=jM.1 hu;obtain⟨i,hi,rfl⟩:=Array.mem_iff_getElem.1 this;refine⟨0,?_⟩;simp[Builtin.zeroCells,Value.cells,Nat.mod_one]
section
variable {P : Program} {w : World}
theorem A9 (base:Nat) (t u ty e:TypeId) (i:TypeInfo) (ht:P.underlying t=some (.slice e)) (hu:P.underlying u=some .string) (hi:P.info? e=some i) (hz:i.zero=some (.int .u8 0))
 (hsize:i.size=1) (hby:i.bytes=1)
 (v:Value) (n:Nat) (xs:List Value) (Fw:w.ownsRow base e 1 v n xs) (hU: ∀q,v.ownBlock=some q-> ∀cs t f,w.heap[q]? =some (.cells cs t f)->uy cs.toList) (s:ByteArray)
 (h63:n+s.size<=maxLen) (hbytes:n+s.size<=140737488355328) (Ε:base<=w.heap.size):
 ∃v' w',(Builtin.append_ #[t,u] ty #[v,.string s]).run P w= .ok v' w'/\w'.ownsRow base e 1 v' (n+s.size) (xs++Lib.strCells s)/\w.grownBy w' v.ownBlock/\
  (∀q,v'.ownBlock=some q-> ∀cs t f,w'.heap[q]? =some (.cells cs t f)->uy cs.toList):=by
 have hsmall:n+s.size<=9223372036854775807:=by simp only[maxLen] at h63;omega
 have hxl:xs.length=n:=by simpa using Fw.1
 have Ib:(xs++Lib.strCells s).length=(n+s.size)*1:=by rw[bR,hxl,Lib.strCells_length,Nat.mul_one]
 have hxU:uy xs:=by
  rcases Fw.2 with⟨rfl,rfl⟩|⟨g,cap,cur,rfl,hbg,hg,hnc,hcm,hcs,htake⟩
  ·have:xs=[]:=jh hxl;subst this;exact fun u hu=>by cases hu
  ·have:=hU g rfl cur e (0,0) hg;rw[<-htake];exact fun u hu=>this u (ny hu)
 have grown: ∀(old:Nat),old<n+s.size-> ∀(row:Option Nat),
  (w.drew.alloc (.cells (xs.toArray++(Lib.strCells s).toArray++Builtin.zeroCells (Value.int .u8 0).cells (grownCap w (n+s.size) old e-(n+s.size))) e)).ownsRow base e 1
    (.slice (some ⟨w.heap.size,0,none⟩) (n+s.size) (grownCap w (n+s.size) old e)) (n+s.size) (xs++Lib.strCells s)/\
  w.grownBy (w.drew.alloc (.cells (xs.toArray++(Lib.strCells s).toArray++Builtin.zeroCells (Value.int .u8 0).cells (grownCap w (n+s.size) old e-(n+s.size))) e)) row/\
  ∀cs t f,(w.drew.alloc (.cells (xs.toArray++(Lib.strCells s).toArray++Builtin.zeroCells (Value.int .u8 0).cells (grownCap w (n+s.size) old e-(n+s.size))) e)).heap[w.heap.size]? =some (.cells cs t f)->uy cs.toList:=by
  intro old ho row;have hge:=grownCap_ge w (n+s.size) old e;have hcm:grownCap w (n+s.size) old e<=maxLen:=grownCap_le_maxLen w (n+s.size) old e h63;refine⟨⟨Ib,.inr ⟨w.heap.size,_,_,rfl,Ε,heap_alloc_new w.drew _,hge,hcm,?_,?_⟩⟩,⟨rfl,rfl,rfl,by simp,fun k hk _=>heap_alloc_old w.drew _ hk⟩,fun cs t f h=>?_⟩
  ·have hz1:(Value.int IntKind.u8 0).cells.size=1:=rfl;simp only[Array.size_append,List.size_toArray,size_zeroCells,hz1,hxl,Lib.strCells_length];omega
  ·simp only[Array.toList_append,List.append_assoc];rw[<-List.append_assoc, <-Ib];exact List.take_left
  ·have h2:=(heap_alloc_new w.drew (.cells (xs.toArray++(Lib.strCells s).toArray++Builtin.zeroCells (Value.int .u8 0).cells (grownCap w (n+s.size) old e-(n+s.size))) e)).symm.trans h;simp only[Option.some.injEq,Obj.cells.injEq] at h2;rw[<-h2.1];simp only[Array.toList_append];exact GL (GL hxU (TC s)) (Xc _)
 rcases Fw.2 with⟨rfl,rfl⟩|⟨g,cap,cur,rfl,hbg,hg,hnc,hcm,hcs,htake⟩
 ·have hx:xs=[]:=jh hxl;subst hx;by_cases hm:s.size=0
  ·have hn:Lib.strCells s=[]:=jh (by rw[Lib.strCells_length];exact hm);refine⟨.slice none 0 0,w,?_,by rw[hm,hn];exact World.ownsRow_nil w base e 1,⟨rfl,rfl,rfl,ah _,fun _ _ _=>rfl⟩,fun q hq=>by cases hq⟩;have hf:=Lib.run_firstCells_string (P:=P) w 1 s;rw[hm] at hf;simp[Builtin.append_,run_underlying ht,run_underlying hu,sizeOf,typeInfo,hi,hsize,Builtin.lenOf,hm,hf]
  ·have hr:=run_append_nil_string (P:=P) w t u ty e i (.int .u8 0) ht hu hi hz s ϑ ϑ (by rw[hby];omega);have TF:=grown 0 ϑ (Value.ownBlock (.slice none 0 0));simp only[Nat.zero_add,List.nil_append,Array.empty_append] at TF⊢;have e1:(s.data.map fun b=>Value.int .u8 b.toNat)=(Lib.strCells s).toArray:=by
    apply Array.ext';simp[Lib.strCells]
   rw[e1] at hr;refine⟨_,_,hr,TF.1,TF.2.1,fun q hq=>?_⟩;obtain rfl:=gV hq;exact TF.2.2
 ·by_cases hroom:n+s.size<=cap
  ·have hcs':cur.size=cap:=by simpa using hcs
   have hr:=Lib.run_append_room_string (P:=P) w t u ty e i ht hu hi hsize g n cap cur hg s hroom ϑ;refine⟨_,_,hr,⟨Ib,.inr ⟨g,cap,_,rfl,hbg,setRow_heap w g cur _ e _ hg,hroom,hcm,?_,?_⟩⟩,⟨rfl,rfl,rfl,by simp,fun k _ hk=>setRow_other w g k _ (fun e=>hk (by simp[Value.ownBlock,e]))⟩,fun q hq cs t f h=>?_⟩
   ·simp only[List.size_toArray,bR,eO,jq,Array.length_toList,Lib.strCells_length];omega
   ·have ht':cur.toList.take n=xs:=by simpa using htake
    rw[ht', <-Ib];exact List.take_left
   ·obtain rfl:=gV hq;rw[setRow_heap w g cur _ e _ hg] at h;simp only[Option.some.injEq,Obj.cells.injEq] at h;rw[<-h.1];have hc:=hU g rfl cur e (0,0) hg;exact GL (GL (fun u hu=>hc u (ny hu)) (TC s)) (fun u hu=>hc u (List.mem_of_mem_drop hu))
  ·have holds: ∀j u,xs[j]? =some u->w.cell? ((⟨g,0,none⟩:Addr).add j)=some u:=Fw.cells (g:=g) rfl;have hr:=Lib.run_append_grow_string (P:=P) w t u ty e i (.int .u8 0) ht hu hi hz ⟨g,0,none⟩ n cap xs (by rw[hsize];simpa using hxl) holds s ϑ ϑ (by rw[hby];exact growslice_fits ϑ ϑ);have TF:=grown cap ϑ (Value.ownBlock (.slice (some ⟨g,0,none⟩) n cap));refine⟨_,_,hr,TF.1,TF.2.1,fun q hq=>?_⟩;obtain rfl:=gV hq;exact TF.2.2
theorem w9 {ops:Array Oper} {rest:List Oper} {o:Oper} {a:Act} {Q:Exit->Act->World->Prop} (hgd:o.guard=none) (sl x:Operand) (t u:TypeId)
 (ho:o.op= .call {callee:= .builtin .append,args:= #[sl,x],argTypes:= #[t,u]})
 (base:Nat) (e:TypeId) (i:TypeInfo) (ht:P.underlying t=some (.slice e)) (hu:P.underlying u=some .string) (hi:P.info? e=some i) (hz:i.zero=some (.int .u8 0))
 (hsize:i.size=1) (hby:i.bytes=1)
 (v:Value) (n:Nat) (xs:List Value) (hs:a.eval sl=v) (Fw:w.ownsRow base e 1 v n xs) (hU: ∀q,v.ownBlock=some q-> ∀cs t f,w.heap[q]? =some (.cells cs t f)->uy cs.toList) (s:ByteArray) (hx:a.eval x= .string s)
 (h63:n+s.size<=maxLen) (hbytes:n+s.size<=140737488355328) (Ε:base<=w.heap.size)
 (h: ∀v' w',w'.ownsRow base e 1 v' (n+s.size) (xs++Lib.strCells s)->w.grownBy w' v.ownBlock->(∀q,v'.ownBlock=some q-> ∀cs t f,w'.heap[q]? =some (.cells cs t f)->uy cs.toList)->wpList P ops Q rest (a.put o.dst v') w'):wpList P ops Q (o::rest) a w:=by
 refine wpList_plain hgd fun K hK=>?_;obtain⟨v',w',hr,h2,h3,h4⟩:=A9 (P:=P) base t u o.type e i ht hu hi hz hsize hby v n xs Fw hU s h63 hbytes Ε;unfold Oper.wp execOp;simp only[ho,resolve,invoke,builtin,Sem.run_bind,Sem.run_pure,Result.andThen_ok,List.map_toArray,List.map_cons,List.map_nil,hs,hx,hr];exact hK _ _ (h v' w' h2 h3 h4)
end
def za (B b:Nat) (p:Value) (bs:au) (w:World):Prop:=
 B<=b/\ ∃v,w.heap[b]? =some (.cells #[p,v] 111 (0,0))/\w.ownsRow B 5 1 v bs.length (Lib.byteCells bs)/\v.ownBlock≠some b/\ ∀q,v.ownBlock=some q-> ∀cs t f,w.heap[q]? =some (.cells cs t f)->uy cs.toList
def Buf (B b:Nat) (bs:au) (w:World):Prop:=za B b (.pointer none) bs w∨za B b (.pointer (some ⟨b,0,none⟩)) bs w
theorem za.at_ {B b:Nat} {p:Value} {bs:au} {w:World} (h:za B b p bs w):Lib.BuilderAt 111 5 B b p (Lib.byteCells bs) w:=by
 obtain⟨h1,v,h2,h3,h4,_⟩:=h;exact⟨h1,v,h2,by rw[Lib.byteCells_length];exact h3,h4⟩
theorem Buf.is {B b:Nat} {bs:au} {w:World} (h:Buf B b bs w):Lib.IsBuilder 111 5 B b (Lib.byteCells bs) w:=h.imp za.at_ za.at_
theorem za.below {B b:Nat} {p:Value} {bs:au} {w W:World} (h:za B b p bs w) (hb:Ϙ w W):za B b p bs W:=by
 obtain⟨h1,v,h2,h3,h4,h5⟩:=h;have tX:=(aP.1 h2).1;refine⟨h1,v,(hb.block b tX).trans h2,az (Ms:=[]) h3 (Ext.ay hb) ϕ,h4,fun q hq cs t f hc=>?_⟩;rw[hb.block q (aW h3 q hq).2] at hc;exact h5 q hq cs t f hc
theorem Buf.below {B b:Nat} {bs:au} {w W:World} (h:Buf B b bs w) (hb:Ϙ w W):Buf B b bs W:=h.imp (fun x=>x.below hb) (fun x=>x.below hb)
structure Wr (B:Nat) (w w':World):Prop where
 below:Below B w w'
 size:w.heap.size<=w'.heap.size
 ints: ∀k,k<w.heap.size->(∃o n,w.cell? ⟨k,o,none⟩=some (iv n))->w'.heap[k]? =w.heap[k]?
theorem Wr.refl (B:Nat) (w:World):Wr B w w:=⟨aC _ _,ah _,fun _ _ _=>rfl⟩
theorem Wr.trans {B:Nat} {a b c:World} (h:Wr B a b) (k:Wr B b c):Wr B a c:=
 ⟨h.below.trans k.below,gI h.size k.size,fun i hi hc=>by
   have h1:=h.ints i hi hc;obtain⟨o,n,hc⟩:=hc;exact(k.ints i (dU hi h.size) ⟨o,n,by rw[gW (w:=a) h1];exact hc⟩).trans h1⟩
theorem Wr.ay {B:Nat} {w w':World} (h:Ϙ w w') (hB:B<=w.heap.size):Wr B w w':=⟨h.mono hB,h.size,fun k hk _=>h.block k hk⟩
theorem Wr.list {B:Nat} {w w':World} (h:Wr B w w') {size:Nat} {v:Value} {n:Nat} {xs:List Value} (hs:aH size w v n xs) (hi: ∀u∈xs, ∃k,u=iv k):aH size w' v n xs:=by
 obtain⟨hl,o,c,rfl,h1,h2,h3,h4⟩:=hs;refine⟨hl,o,c,rfl,h1,h2,h3,fun a ha=>?_⟩;obtain⟨hs,hc⟩:=h4 a ha;obtain⟨b,off,sp⟩:=a;simp only at hs hc;subst hs;refine⟨rfl,fun j u hj=>?_⟩;have MR:=hc j u hj;obtain⟨k,rfl⟩:=hi u (kX hj);rw[gW (w:=w) (h.ints b (dn w _ MR) ⟨_,_,MR⟩)];exact MR
theorem XM (l:List Int): ∀u∈ag l, ∃k,u=iv k:=fun u hu=>by
 obtain⟨k,_,rfl⟩:=gU.1 hu;exact⟨k,rfl⟩
theorem yo (l:List dF): ∀u∈aD l, ∃k,u=iv k:=fun u hu=>by
 obtain⟨r,_,h⟩:=nR.1 hu;rcases eB.1 h with rfl|h
 ·exact⟨_,rfl⟩
 ·obtain rfl:=dY.1 h;exact⟨_,rfl⟩
theorem za.Un {B b:Nat} {p:Value} {bs:au} {w:World} (h:za B b p bs w) (hp: ∀n,p≠iv n) {o:Nat} {n:Int}:w.cell? ⟨b,o,none⟩≠some (iv n):=by
 obtain⟨h1,v,h2,h3,_⟩:=h;intro e;rw[Lib.cell_of_heap h2] at e
 match o with
 |0=>exact hp n (by simpa using e)
 |1=>
  have e':v=iv n:=by simpa using e
  rcases h3.2 with⟨hv,_⟩|⟨g,cap,cur,hv,_⟩ <;>rw[hv] at e' <;>cases e'
 |o+2=>simp at e
theorem za.wr {B b:Nat} {p:Value} {bs:au} {w w':World} (h:za B b p bs w) (hp: ∀n,p≠iv n) {v:Value} (hv:w.cell? ⟨b,1,none⟩=some v) (hb:Below B w w') (hs:w.heap.size<=w'.heap.size)
 (hk: ∀k,k<w.heap.size->k≠b->v.ownBlock≠some k->w'.heap[k]? =w.heap[k]?):Wr B w w':=by
 refine⟨hb,hs,fun k Ρ hc=>?_⟩;obtain⟨o,n,hc⟩:=hc;refine hk k Ρ (fun e=>?_) (fun e=>?_)
 ·subst e;exact h.Un hp hc
 ·obtain⟨h1,v',h2,h3,h4,h5⟩:=h;rw[Lib.cell_of_heap h2] at hv;obtain rfl:v'=v:=by simpa using hv
  rcases h3.2 with⟨hv,_⟩|⟨g,cap,cur,hv,_,hg,_⟩
  ·rw[hv] at e;cases e
  ·rw[hv] at e;obtain rfl:g=k:=by simpa [Value.ownBlock] using e
   rw[Lib.cell_of_heap hg] at hc;obtain⟨k',Ρ⟩:=h5 g (by rw[hv];rfl) cur _ _ hg (iv n) (by rw[jM];exact Array.mem_of_getElem? hc);cases Ρ
theorem Lp (b:Nat) (w:World) (h0:w.cell? ⟨b,0,none⟩=some (.pointer (some ⟨b,0,none⟩))):
 Ϝ 64 #[.pointer (some ⟨b,0,none⟩)] w fun e w'=>e= .returned (.tuple #[])/\w'=w:=by
 obtain⟨j,hj,hjs⟩:=Option.map_eq_some_iff.1 (show(Tryz.prog.info? 111).map (·.size)=some 2 by kernel_rfl)
 go_enter Tryz.func64,Tryz.ntmps64;go_wp2;rw[Lib.run_neq_ptr_same w _ Tryz.underlying109 hj];go_wp2;go_end0
 exact⟨rfl,rfl⟩
theorem IQ (b:Nat) (w:World) (h0:w.cell? ⟨b,0,none⟩=some (.pointer none)) (hsh:w.shape? b=some (111,2)) (hfz:w.frozen? ⟨b,0,none⟩=false):
 Ϝ 64 #[.pointer (some ⟨b,0,none⟩)] w fun e w'=>e= .returned (.tuple #[])/\w'=w.setCell ⟨b,0,none⟩ (.pointer (some ⟨b,0,none⟩)):=by
 obtain⟨j,hj,hjs⟩:=Option.map_eq_some_iff.1 (show(Tryz.prog.info? 111).map (·.size)=some 2 by kernel_rfl)
 go_enter Tryz.func64,Tryz.ntmps64;go_wp2;rw[Lib.run_to_unsafe w ⟨b,0,none⟩ Tryz.underlying109 Tryz.underlying239 hj (by rw[hjs];decide) hsh (Nat.zero_lt_succ 1)];simp only[Result.andThen];rw[Oper.upon_value];go_wp2;rw[run_callFunc_extern Tryz.func110 ϰ ϰ ϰ (e:=Extern.AbiNoEscape.same) ϰ];rw[Lib.run_noEscape];simp only[Result.andThen];rw[Oper.upon_value];go_wp2;rw[Lib.run_from_unsafe w ⟨b,0,none⟩ Tryz.underlying239 Tryz.underlying109 hj hsh ϰ];simp only[Result.andThen];rw[Oper.upon_value];go_wp2;go_end0
 exact⟨rfl,rfl⟩
theorem Ol (B b:Nat) (bs:au) (w:World) (h:Buf B b bs w):
 Ϝ 64 #[.pointer (some ⟨b,0,none⟩)] w fun e w'=>e= .returned (.tuple #[])/\za B b (.pointer (some ⟨b,0,none⟩)) bs w'/\Wr B w w':=by
 rcases h with h|h
 ·refine(IQ b w h.at_.cell0 h.at_.shape h.at_.frozen0).mono ?_;rintro e w' ⟨rfl,rfl⟩;have tX:=h.at_.lt;have hw:Wr B w (w.setCell ⟨b,0,none⟩ (.pointer (some ⟨b,0,none⟩))):=
   ⟨(aC B w).setCell (p:=⟨b,0,none⟩) h.1 _,by simp[World.setCell],fun k hk hc=>by
     obtain⟨o,n,hc⟩:=hc;refine dm _ _ _ _ (fun e=>?_);subst e;exact h.Un (fun _ e=>by cases e) hc⟩
  obtain⟨h1,v,h2,h3,h4,h5⟩:=h;refine⟨rfl,⟨h1,v,?_,?_,h4,fun q hq cs t f hc=>?_⟩,hw⟩
  ·simp[World.setCell,Array.getElem?_modify,h2]
  ·exact h3.kept (row:=some b) ⟨rfl,rfl,rfl,by simp[World.setCell],fun k _ hk=>dm _ _ _ _ (fun e=>hk (by simp[e]))⟩ (Or.inr h4)
  ·rw[dm _ _ _ _ (fun e=>h4 (by rw[hq,e]))] at hc;exact h5 q hq cs t f hc
 ·refine(Lp b w h.at_.cell0).mono ?_;rintro e w' ⟨rfl,rfl⟩;exact⟨rfl,h,Wr.refl _ _⟩
theorem rR (B b:Nat) (bs s:au) (w:World) (h:Buf B b bs w) (hBw:B<=w.heap.size) (Ib:bs.length+s.length<=1000000):
 Ϝ 38 #[.pointer (some ⟨b,0,none⟩),.string (dN s)] w fun e w'=>(∃v,e= .returned v)/\Buf B b (bs++s) w'/\Wr B w w':=by
 have ν:(dN s).size=s.length:=by simp[ByteArray.size]
 obtain⟨i0,hi,hz0,hz1,hz2⟩:=info_parts (show(Tryz.prog.info? 5).map (fun i=>(i.zero,i.size,i.bytes))=some (some (.int .u8 0),1,1) by kernel_rfl)
 have HC:=aa (Ol B b bs w h);clear h;go_enter Tryz.func38,Tryz.ntmps38;go_wp2_with fail
 refine HC.o.mono ?_;rintro e w1 ⟨rfl,h1,hw1⟩;have hp: ∀n,(Value.pointer (some ⟨b,0,none⟩))≠iv n:=fun _ e=>by cases e
 have HA:=aa h1;obtain⟨hB,v,hbk,Fw,hne,hU⟩:=h1;have c0:w1.cell? ⟨b,0,none⟩=some (.pointer (some ⟨b,0,none⟩)):=by rw[Lib.cell_of_heap hbk];rfl
 have c1:w1.cell? ⟨b,1,none⟩=some v:=by rw[Lib.cell_of_heap hbk];rfl
 go_wp2_with (at_builtin;refine w9 rfl _ _ 25 9 rfl B 5 i0 Tryz.underlying25 Tryz.underlying9 hi hz0 hz1 hz2 _ _ _ rfl Fw hU (dN s) rfl ?c3 ?c4 ?c5 ?_)
 case c3=>rw[ν];unfold maxLen;omega
 case c4=>rw[ν];omega
 case c5=>have:=hw1.size;omega
 intro v' w2 Υ Zg hU';have tX:b<w1.heap.size:=(aP.1 hbk).1;have θ:w2.heap[b]? =some (.cells #[.pointer (some ⟨b,0,none⟩),v] 111 (0,0)):=by
  rw[Zg.block b tX (fun e=>hne e.symm)];exact hbk
 have d0:w2.cell? ⟨b,0,none⟩=some (.pointer (some ⟨b,0,none⟩)):=by rw[Lib.cell_of_heap θ];rfl
 have d1:w2.cell? ⟨b,1,none⟩=some v:=by rw[Lib.cell_of_heap θ];rfl
 have f1:w2.frozen? ⟨b,1,none⟩=false:=Lib.frozen_of_heap θ 1;obtain⟨ao,n',cap,rfl⟩: ∃ao n' cap,v'= .slice ao n' cap:=by
  rcases Υ.2 with⟨hv,_⟩|⟨g,cap,cur,hv,_⟩
  ·exact⟨_,_,_,hv⟩
  ·exact⟨_,_,_,hv⟩
 have hne':=Lib.ownBlock_ne Υ θ (show 111≠5 by decide);have HG:=aa (af Υ (af Zg (af hU' (af hw1 (af c1 (af Fw θ))))));clear Υ Zg hU' hw1 hU θ Fw;go_wp2;go_ret2
 obtain⟨Υ,Zg,hU',hw1,c1',Fw,θ⟩:=HG.o;refine⟨⟨_,rfl⟩,.inr ⟨hB,_,?_,?_,hne',fun q hq cs t f hc=>?_⟩,hw1.trans (HA.o.wr hp c1' ?_ ?_ ?_)⟩
 ·simp[World.setCell,Array.getElem?_modify,θ]
 ·have h3:w2.ownsRow B 5 1 (.slice ao n' cap) (bs++s).length (Lib.byteCells (bs++s)):=by
   rw[bR,Lib.byteCells_append, <-ν];exact Υ
  exact h3.kept (row:=some b) ⟨rfl,rfl,rfl,by simp[World.setCell],fun k _ hk=>dm _ _ _ _ (fun e=>hk (by simp[e]))⟩ (Or.inr hne')
 ·rw[dm _ _ _ _ (fun e=>hne' (by rw[hq,e]))] at hc;first|exact hU' q hq cs t f hc|exact hU' q hq cs t f.1 f.2 hc
 ·exact((aC B w1).grown Zg (by have:=hw1.size;omega) (fun k hk=>(Fw.lt k hk).1)).setCell (p:=⟨b,1,none⟩) hB _
 ·have:=Zg.size;simp[World.setCell];omega
 ·intro k hk hkb hkv;exact(dm _ _ _ _ (fun e=>hkb e)).trans (Zg.block k hk (fun e=>hkv e.symm))
abbrev jB (n:Int):Prop:= -1000000000<=n/\n<=1000000000
theorem ou {n:Int} (h:jB n):(Lib.itoa n).length<=11:=by
 unfold Lib.itoa;split
 ·have:=NT 9 n.natAbs ϑ;simp only[List.length_cons];omega
 ·have:=NT 9 n.toNat ϑ;omega
theorem vz (n:Int) (h:jB n) (w:World) (hE:Env w):Ϝ 39 #[iv n] w (PV (.string (dN (Lib.itoa n))) w):=by
 refine(Go.Proofs.Tryz.strconv_Itoa n ϑ ϑ w (Py hE ϰ)).mono ?_;rintro e w2 ⟨rfl,k,os,rfl⟩;exact⟨rfl,CR w k os⟩
def fK (word:au) (r:dF):au:=word++[32]++Lib.itoa r.1++[46,46]++Lib.itoa r.2++[10]
theorem zh {word:au} {r:dF} (h1:jB r.1) (h2:jB r.2):(fK word r).length<=word.length+26:=by
 have:=ou h1;have:=ou h2;simp only[fK,bR,List.length_cons,List.length_nil];omega
theorem pV (word:au): ∀{l:List dF},(∀r∈l,jB r.1/\jB r.2)->(l.flatMap (fK word)).length<=(word.length+26)*l.length:=by
 intro l;induction l with
 |nil=>intro _;simp
 |cons r l ih=>
  intro h;have h1:=h r ϕ;have h2:=zh (word:=word) h1.1 h1.2;have h3:=ih (fun x hx=>h x (by simp[hx]));rw[List.flatMap_cons,bR,List.length_cons,Nat.mul_add];omega
theorem qb (B b:Nat) (bs word:au) (r:dF) (w:World) (h:Buf B b bs w) (hBw:B<=w.heap.size) (hB4:4<=B) (hE:Env w) (h1:jB r.1) (h2:jB r.2) (Ib:bs.length+(word.length+26)<=1000000):
 Ϝ 37 #[.string (dN word),iv r.1,iv r.2,.pointer (some ⟨b,0,none⟩)] w fun e w'=>(∃v,e= .returned v)/\Buf B b (bs++fK word r) w'/\Wr B w w':=by
 have HE:Hid (∀W,Ϙ w W->Env W):=aa (fun W hb=>hE.below hb (ah _));have HBu:=aa h;have HS:=aa (af h1 h2);have l1:=ou h1;have l2:=ou h2;obtain⟨s1,hs1⟩: ∃s,Lib.itoa r.1=s:=⟨_,rfl⟩;obtain⟨s2,hs2⟩: ∃s,Lib.itoa r.2=s:=⟨_,rfl⟩;rw[hs1] at l1;rw[hs2] at l2;have a1:=fun W=>nV (P:=Tryz.prog) (a:=word) (b:=[32]) rfl ϗ W;have a2:=fun W=>nV (P:=Tryz.prog) (a:=word++[32]) (b:=s1) rfl ϗ W;have a3:=fun W=>nV (P:=Tryz.prog) (a:=word++[32]++s1) (b:=[46,46]) rfl ϗ W;have a4:=fun W=>nV (P:=Tryz.prog) (a:=word++[32]++s1++[46,46]) (b:=s2) rfl ϗ W;have a5:=fun W=>nV (P:=Tryz.prog) (a:=word++[32]++s1++[46,46]++s2) (b:=[10]) rfl ϗ W;have HW:Hid (fK word r=word++[32]++s1++[46,46]++s2++[10]):=aa (by unfold fK;rw[hs1,hs2]);have H1:=aa hs1;have H2:=aa hs2;obtain⟨lo,hi⟩:=r;simp only at*
 clear h hE h1 h2 hs1 hs2;go_enter Tryz.func37,Tryz.ntmps37;go_wp2_with fail
 refine(vz lo HS.o.1 _ (HE.o _ (aC _ _))).mono ?_;rintro e w1 ⟨rfl,ζ⟩;rw[H1.o];have Qi:=aa ζ;clear ζ;go_wp2_with fail
 refine(vz hi HS.o.2 _ (HE.o _ Qi.o)).mono ?_;rintro e w2 ⟨rfl,θ⟩;rw[H2.o];have Ra:=aa (aV Qi.o θ);have hs2:=Ra.o.size;have e5:dN (word++32::s1)++{data:= #[46,46]}++dN s2++{data:= #[10]}=dN (word++[32]++s1++[46,46]++s2++[10]):=by
  show dN (word++32::s1)++dN [46,46]++dN s2++dN [10]=_;rw[yO,yO,yO];simp
 clear θ;go_wp2_with fail
 refine(rR B b bs _ w2 (HBu.o.below Ra.o) ϑ ϗ).mono ?_;rintro e w3 ⟨⟨v,rfl⟩,h3,h4⟩;have H3:=aa (af h3 h4);clear h3 h4 e5;go_wp2_with fail
 go_end0
 refine⟨⟨_,rfl⟩,?_,(Wr.ay Ra.o ϑ).trans H3.o.2⟩;rw[HW.o];simpa using H3.o.1
theorem tN {α:Type} {l:List α} {i:Nat} {d:α} (h:i<l.length):l.getD i d=l[i]:=by simp[List.getD,h]
theorem Li (n:Nat) (ls:List (List Int)): ∀k,k<=ls.length->k≠0-> ∀i,i<n->
 (∀l∈ls.take k,((bz n ls k).getD i (0,0)).1<=l.getD i 0/\l.getD i 0<=((bz n ls k).getD i (0,0)).2)/\
 (∃l∈ls.take k,((bz n ls k).getD i (0,0)).1=l.getD i 0)/\(∃l∈ls.take k,((bz n ls k).getD i (0,0)).2=l.getD i 0):=by
 intro k;induction k with
 |zero=>intro _ h;exact absurd rfl h
 |succ k ih=>
  intro hk _ i hi;have Ρ:k<ls.length:=ϑ;have ht:ls.take (k+1)=ls.take k++[ls[k]]:=eT Ρ;have hg:ls.getD k []=ls[k]:=tN Ρ;by_cases h0:k=0
  ·subst h0;have e:(bz n ls 1).getD i (0,0)=((ls[0]).getD i 0,(ls[0]).getD i 0):=by
    simp only[bz,dV,hg];rw[tN ϗ];simp
   rw[e];simp only[Nat.zero_add] at ht⊢;rw[ht];exact⟨fun l hl=>by obtain rfl:=dY.1 (by simpa using hl);exact⟨Int.le_refl _,Int.le_refl _⟩,⟨ls[0],by simp,rfl⟩,⟨ls[0],by simp,rfl⟩⟩
  ·obtain⟨h1,⟨l2,hl2,h2⟩,⟨l3,hl3,h3⟩⟩:=ih ϑ h0 i hi;have Ib:=ni n ls k h0;have e:(bz n ls (k+1)).getD i (0,0)=wid ((bz n ls k).getD i (0,0)) ((ls[k]).getD i 0):=by
    simp only[bz,dV,hg,h0,if_false];rw[tN ϗ];simp[hi]
   rw[e,ht];generalize (bz n ls k).getD i (0,0)=r at*
   simp only[wid];refine⟨fun l hl=>?_,?_,?_⟩
   ·rcases gz.1 hl with hl|hl
    ·have:=h1 l hl;omega
    ·obtain rfl:=dY.1 hl;omega
   ·by_cases hc:r.1<=(ls[k]).getD i 0
    ·exact⟨l2,mi _ hl2,by omega⟩
    ·exact⟨ls[k],qL _ (dY.2 rfl),by omega⟩
   ·by_cases hc:(ls[k]).getD i 0<=r.2
    ·exact⟨l3,mi _ hl3,by omega⟩
    ·exact⟨ls[k],qL _ (dY.2 rfl),by omega⟩
theorem Lj {n:Nat} {ls:List (List Int)} (h:ls≠[]):(pQ n ls).length=n:=ni n ls _ (by cases ls <;>simp_all)
theorem Oj {n:Nat} {ls:List (List Int)} (h:ls≠[]) {i:Nat} (hi:i<n):
 (∀l∈ls,((pQ n ls).getD i (0,0)).1<=l.getD i 0/\l.getD i 0<=((pQ n ls).getD i (0,0)).2)/\
 (∃l∈ls,((pQ n ls).getD i (0,0)).1=l.getD i 0)/\(∃l∈ls,((pQ n ls).getD i (0,0)).2=l.getD i 0):=by
 have:=Li n ls ls.length (ah _) (by cases ls <;>simp_all) i hi;rwa [List.take_length] at this
structure PN (s:iC):Prop where
 field:eG s.led.field true=0
 led:gH s.led=0
 heap:sK s.heap=0
 ask:iM.iw s.heap s.heap.turns=0
 keeps:iM.mf s.heap s.heap.turns≠2
 cz:nM s.cz=0
 YO:gT s.cz true=0
theorem Qk {s:iC}:aQ s=0↔PN s:=by
 unfold aQ;constructor
 ·intro h;split at h;· omega
  split at h;· omega
  split at h;· omega
  split at h;· omega
  split at h;· omega
  split at h;· omega
  split at h;· omega
  rename_i a b c d e f g;exact⟨by simpa using a,by simpa using b,by simpa using c,by simpa using d,e,by simpa using f,by simpa using g⟩
 ·rintro⟨a,b,c,d,e,f,g⟩;simp[a,b,c,d,e,f,g]
theorem IM:aQ bT=0:=by decide+kernel
theorem Xv (ls:List au):eD (bW aQ bT ls).1/\PN (bW aQ bT ls).1:=⟨wh _ xM,Qk.1 (JK _ IM)⟩
theorem Ua {ls:List au} (h:dA ls=0):eD (fO ls)/\PN (fO ls):=by
 unfold fO;rw[aB h];exact Xv ls
theorem NM {f:bG} (h:eG f true=0): ∀r∈yH f,jB r.1/\jB r.2:=by
 intro r hr;have hf:ja f=0:=by
  unfold eG at h;split at h
  ·omega
  ·rename_i hq;simpa using hq
 unfold yH at hr;obtain⟨i,_,rfl⟩:=gU.1 hr;have:=G6 (gy hf) (bH f []) (i:Int) _ (ah _);exact⟨⟨by omega,by omega⟩,by omega,by omega⟩
theorem J7 {l:aN} (h:gH l=0):(lG l).length<=5/\ ∀i∈lG l,0<=i/\i<=4:=by
 obtain⟨hS,hp⟩:=ng h;obtain⟨_,h2,_⟩:=J8 hp;have hm:=hS.many;refine⟨by have:=h2.len;omega,fun i hi=>?_⟩;have:=((Ie _ _).1 h2).2 i hi;omega
theorem MQ {l:aN} (h:fI l true=0): ∀r∈yP mE l (eX l),jB r.1/\jB r.2:=by
 intro r hr;obtain⟨hS,hp⟩:=Ls h;obtain⟨i,hi,rfl⟩:=kD hr;have hl:=PI hp mE;have adi:=VX hp mE (i:=i) ϑ;rw[tN hi] at adi;have key: ∀d∈eX l,iH l [] d=true-> -2000<=(mE (d.getD i 0) ((jy l [] d).getD i (0,0))).1/\(mE (d.getD i 0) ((jy l [] d).getD i (0,0))).2<=2000/\ -2000<=(mE (d.getD i 0) ((jy l [] d).getD i (0,0))).2/\(mE (d.getD i 0) ((jy l [] d).getD i (0,0))).1<=2000:=fun d hd hc=>by
  have hb:=JO hS hd hc (i:=i) ϑ;obtain⟨t,ht,rfl⟩:=F4.1 hd;have hF:=gy hS.field;have hw:=hF.uj;have hd2:=CX (rate:=l.rate) (by have:=hS.rate;omega) hS.rate.2 t (Xr hS ht) i ϑ;unfold mE;simp only;omega
 obtain⟨⟨⟨y,⟨d,hd,hc,rfl⟩,hy⟩,_⟩,⟨⟨z,⟨e,he,hce,rfl⟩,hz⟩,_⟩⟩:=adi;have k1:=key d hd hc;have k2:=key e he hce;exact⟨⟨by omega,by omega⟩,by omega,by omega⟩
theorem Cx {s:iC} (hG:eD s) (hS:PN s):(iM.iV s.heap s.heap.turns).length=5/\jB ((iM.iV s.heap s.heap.turns).getD 4 (0,0)).1/\jB ((iM.iV s.heap s.heap.turns).getD 4 (0,0)).2:=by
 have hl:=hG.heap.1;unfold iM.iV;rw[aB hS.ask,hl];have hne:iJ s.heap s.heap.turns≠[]:=by
  have ha:=hS.ask;unfold iM.iw at ha;split at ha;· omega
  split at ha;· omega
  split at ha;· omega
  rename_i hq;exact NG (by cases hq2:dE s.heap [] <;>simp_all)
 have hb: ∀y∈iJ s.heap s.heap.turns,0<=y.getD 4 0/\y.getD 4 0<=900:=fun y hy=>by
  obtain⟨t,ht,rfl⟩:=(Cc _ _ _).1 hy;have hSo:=BI hS.heap;obtain⟨a1,a2,a3⟩:=iM.xV hSo ht;have hw:=hG.Qa;have hbd:=Kz s.heap.turns hSo.Jt hSo.Js hSo.KV hSo.KU a2.1 a2.2 a3 ϑ;by_cases h4:4<(jS s.heap t s.heap.turns).length
  ·rw[tN h4];exact hbd _ (bK _)
  ·rw[fJ,List.getElem?_eq_none ϑ];exact⟨by decide,by decide⟩
 obtain⟨_,⟨y,hy,e1⟩,⟨z,hz,e2⟩⟩:=Oj hne (n:=5) (i:=4) ϑ;have b1:=hb y hy;have b2:=hb z hz;refine⟨Lj hne,?_,?_⟩
 ·show jB ((pQ 5 (iJ s.heap s.heap.turns)).getD 4 (0,0)).1;rw[e1];exact⟨by omega,by omega⟩
 ·show jB ((pQ 5 (iJ s.heap s.heap.turns)).getD 4 (0,0)).2;rw[e2];exact⟨by omega,by omega⟩
theorem Ap (h:bN) (t:List Int):jB (iM.mf h t):=by
 unfold iM.mf;split
 ·exact⟨by decide,by decide⟩
 ·split
  ·exact⟨by decide,by decide⟩
  ·split <;>exact⟨by decide,by decide⟩
theorem Dc {c:bE} (h:gT c true=0): ∀r∈iG c,jB r.1/\jB r.2:=by
 intro r hr;obtain⟨hS,h0,_⟩:=Dm h;unfold iG at hr;obtain⟨i,hi,rfl⟩:=gU.1 hr;have hi':=jL.1 hi;have:=OX hS kM h0 (i:=c.heaps.length+i) (by unfold kZ;omega) _ (ah _);unfold xX;exact⟨⟨by omega,by omega⟩,by omega,by omega⟩
theorem Np (l:List Int) (v u:Value) (w:World) (h:aK w v l) (k:aK w u l):Ϝ 30 #[v,u] w (PV (.bool true) w):=by
 obtain⟨o1,q1,rfl⟩:=aH.open h;obtain⟨o2,q2,rfl⟩:=aH.open k;have hl1:=h.len;have HH:=aa (af h k);clear h k;have hne:((l.length:Int) !=(l.length:Int))=false:=ϕ;go_enter Tryz.func30,Tryz.ntmps30;exact zaA
theorem RU (l:List Int) (v u:Value) (w:World) (h:aK w v l) (k:aK w u l):Ϝ 22 #[v,u] w (PV (.bool true) w):=by
 obtain⟨o1,q1,rfl⟩:=aH.open h;obtain⟨o2,q2,rfl⟩:=aH.open k;have hl1:=h.len;have HH:=aa (af h k);clear h k;have hne:((l.length:Int) !=(l.length:Int))=false:=ϕ;go_enter Tryz.func22,Tryz.ntmps22;exact zaA
end Go.Proofs.Z.Bk
end

/-
  Texts of this claim, packed by a program: CI.
-/
import Derived.WalkKit
import Derived.WalkLawsBesides
import Derived.WalkSpells
import Derived.Outline
import Derived.Handy
import Derived.KernelRfl
import Derived.Lib.Hide
import Derived.Test.YtabpkkbiioihaaaGreatDoorPK11
set_option maxHeartbeats 8000000
set_option maxRecDepth 100000
set_option linter.all false
section
namespace Go.Proofs.YtabpkkbiioihaaaGreatDoor.xH
open Go.RowKit Go.RG Go.SL Go.Shelf gZ Go.TB
attribute [local go_sem] Oper.semAt_some
theorem MK {w:World} {o:Option Addr} {n c:Nat} {ls:List (List Int)} (h:aB 3 w (.slice o n c) (ls.map iI).length ((ls.map iI).flatMap intCells)) (h3: ∀x∈ls,x.length<=3) {k:Nat} (hk:k<ls.length):
 ∃b off y0 y1 y2,o=some ⟨b,off,none⟩/\b<w.heap.size/\iI ls[k]=[y0,y1,y2]/\w.cell? ⟨b,off+k*3,none⟩=some (iv y0)/\w.cell? ⟨b,off+k*3+1,none⟩=some (iv y1)/\w.cell? ⟨b,off+k*3+2,none⟩=some (iv y2):=by
 obtain⟨hl,o',c',hv,h1,h2,h4,h5⟩:=h
 cases hv
 obtain⟨y0,y1,y2,hys⟩:=jJ (qV (h3 _ (List.getElem_mem hk)))
 rw[List.length_map] at h1
 cases o with
 |none=>have:=h4 rfl;omega
 |some a=>
  obtain⟨b,off,sp⟩:=a
  obtain⟨hs,hc⟩:=h5 _ rfl
  simp only at hs hc
  subst hs
  have g: ∀j,j<3->((ls.map iI).flatMap intCells)[k*3+j]? =[iv y0,iv y1,iv y2][j]? :=fun j hj=>by
   rw[Hz intCells 3 (ls.map iI) (fun x hx=>by
    obtain⟨t,ht,rfl⟩:=List.mem_map.1 hx
    simp[intCells,qV (h3 t ht)]) k j (by rw[List.length_map];exact hk) hj,List.getElem_map,hys]
   rfl
  have r0:=hc (k*3+0) (iv y0) (by rw[g 0 (by omega)];rfl)
  have r1:=hc (k*3+1) (iv y1) (by rw[g 1 (by omega)];rfl)
  have r2:=hc (k*3+2) (iv y2) (by rw[g 2 (by omega)];rfl)
  rw[Nat.add_zero] at r0
  rw[<-Nat.add_assoc] at r1 r2
  exact⟨b,off,y0,y1,y2,rfl,World.block_lt_of_cell? w _ r0,hys,r0,r1,r2⟩
theorem Ew (w:World):Calls Tryz.prog 161 #[] w (PV (.bool true) w):=by
 go_enter Tryz.func161,Tryz.ntmps161
 go_wp2
 go_returns
 exact⟨by simp,Below.refl _ _⟩
theorem G9 (c:aQ) (hS:jI c) (hv jO tv v:Value) (es:List KE) (wb:Nat) (i:Nat) (hi:jQ c i) (w:World) (hc:lZ w hv jO tv es c) (hpos:0<(bD c []).length) (hw:LX w wb hv jO tv v ((bD c []).map iI)):
 Calls Tryz.prog 162 #[.pointer (some ⟨wb,0,none⟩),iv i] w (PV (rv (xP c i)) w):=by
 obtain⟨oh,ch,rfl⟩:=hc.heaps.open
 obtain⟨ok,ck,rfl⟩:=hc.aC.open
 obtain⟨ot,ct,rfl⟩:=hc.au.open
 rw[hc.len] at hc hw
 have hcnt:=oG hS []
 have hall: ∀s∈bD c [],Str c s:=fun s hs=>nD hS (jU s hs)
 have h3: ∀x∈bD c [],x.length<=3:=fun x hx=>by have h1:=(hall x hx).1;have h2:=hS.h3;omega
 obtain⟨vo,vc,rfl⟩:=hw.truth.open
 have HOF:=Lib.hid (fun(s:List Int) (hs:Str c s) (x0 x1 x2:Int) (hx:iI s=[x0,x1,x2]) (W:World) (hb:Below w.heap.size w W)=>MQ c hS oh ok ch ck (.slice ot c.au.length ct) es s x0 x1 x2 hx hs i hi W (hc.aC.below hb (Nat.le_refl _)) hc.is)
 have Fj:=Lib.hid hw
 have HL:=Lib.hid (And.intro hpos (And.intro hall (And.intro h3 hcnt)))
 have Jp:=Lib.hid (fun k (hk:k<=(bD c []).length)=>Vr hS (fun s hs=>jU s hs) hpos hi k hk)
 have HOB:=Lib.hid (fun(s:List Int) (hs:Str c s)=>RF hS hs.1 hs.2 hi)
 unfold xP
 have hmap:((bD c []).map iI).length=(bD c []).length:=by simp
 have HMP:=Lib.hid hmap
 clear hc hS hall h3 hpos hcnt hmap
 generalize bD c []=ls at*
 obtain⟨d1,g1,m1⟩:=cells_of_block hw.cells
 obtain⟨b,off,y0,y1,y2,hvv,hb,hys,r0,r1,r2⟩:=MK hw.truth HL.out.2.2.1 HL.out.1
 rw[HMP.out] at d1
 cases hvv
 have hD:=HOF.out _ (HL.out.2.1 _ (List.getElem_mem HL.out.1)) y0 y1 y2 hys
 have Xy:=HOB.out _ (HL.out.2.1 _ (List.getElem_mem HL.out.1))
 have hr0:uy c ls i 0=(AO c (ls[0]'HL.out.1) i,AO c (ls[0]'HL.out.1) i):=by
  unfold uy
  rw[show ls.getD 0 []=ls[0]'HL.out.1 from by simp[List.getD,HL.out.1]]
  rfl
 generalize AO c (ls[0]'HL.out.1) i=d at*
 have HD:=Lib.hid hD
 have HR0:=Lib.hid hr0
 simp only[Nat.zero_mul,Nat.add_zero] at r0 r1 r2
 have hpos0:0<ls.length:=HL.out.1
 have aiy:ls.length<=2000:=HL.out.2.2.2
 clear hw hys hD hr0 hi
 go_enter Tryz.func162,Tryz.ntmps162
 go_upto_region 1 with(fail)
 refine dD fun W1 hW1=>?_
 have hB1:Below w.heap.size w W1:=by rw[hW1];exact zl
 have hk4:W1.heap[w.heap.size]? =some (.cells #[iv 0,iv 0] 103 (0,0)):=by rw[hW1];exact ag _ _
 have e0:=(hB1.cell (p:=⟨b,off,none⟩) hb).trans r0
 have e1:=(hB1.cell (p:=⟨b,off+1,none⟩) hb).trans r1
 have e2:=(hB1.cell (p:=⟨b,off+2,none⟩) hb).trans r2
 have hb1:b<W1.heap.size:=by have:=hB1.size;omega
 have KL:=Fj.out.below hB1 (Nat.le_refl _)
 obtain⟨n1,n2,n3⟩:=cells_of_block KL.cells
 rw[HMP.out] at n1
 have H1:=Lib.hid (And.intro hB1 hk4)
 clear hW1 hB1 hk4 r0 r1 r2 hb d1 g1 m1 KL
 refine zg 12 [] none [(11,Spec.val (iv d))] ?_
 simp only[zt]
 repeat ((first|refine zn ?_|refine zk ?_);simp only[zp])
 refine zw 212 (h:=fun W hE hF=>by exact HD.out W (aH H1.out.1 hE.below)) (t:=?_)
 simp only[zp]
 intro W hE hF
 obtain⟨hc,hf⟩:=aW hE.below
 have hzE:=hE.size
 (try simp only[World.size_alloc] at hzE)
 have hB2:=aH H1.out.1 hE.below
 have abp:=(hE.block _ (Array.getElem?_eq_some_iff.1 H1.out.2).1 (by simp)).trans H1.out.2
 have H2:=Lib.hid (And.intro hB2 abp)
 have aaJ:=Fj.out.below hB2 (Nat.le_refl _)
 clear hE hF hc hf hzE e0 e1 e2 hb1 n1 n2 n3 hB2 abp
 obtain⟨n1,n2,n3⟩:=cells_of_block aaJ.cells
 rw[HMP.out] at n1
 clear aaJ
 go_upto_region 3 with(fail)
 refine dD fun W3 hW3=>?_
 have hB3:Below W.heap.size W W3:=by rw[hW3];exact zl
 have hk9:W3.heap[W.heap.size]? =some (.cells #[iv d,iv d] 103 (0,0)):=by rw[hW3];exact ag _ _
 have abo:=(hB3.block _ (Array.getElem?_eq_some_iff.1 H2.out.2).1).trans H2.out.2
 have hwW:w.heap.size<W.heap.size:=(Array.getElem?_eq_some_iff.1 H2.out.2).1
 have H3:=Lib.hid (And.intro (aH H2.out.1 hB3) (And.intro hk9 abo))
 have aaI:=Fj.out.below H3.out.1 (Nat.le_refl _)
 clear hW3 hB3 hk9 abo n1 n2 n3
 obtain⟨n1,n2,n3⟩:=cells_of_block aaI.cells
 rw[HMP.out] at n1
 clear aaI
 obtain⟨b9,uk⟩: ∃b9,W.heap.size=b9:=⟨_,rfl⟩
 rw[uk] at H3 hwW⊢
 clear uk H2
 go_wp2_with fail
 go_loopw [29] (fun u wq=> ∃k:Nat,k<=ls.length/\u= .int .i64 k/\wq.heap[b9]? =some (.cells #[iv (uy c ls i k).1,iv (uy c ls i k).2] 103 (0,0))/\wq.heap[w.heap.size]? =some (.cells #[iv 0,iv 0] 103 (0,0))/\Below w.heap.size w wq) (fun u _=>ls.length-(intOf u).toNat)
 case atStart=>exact⟨0,Nat.zero_le _,rfl,by rw[HR0.out];exact H3.out.2.1,H3.out.2.2,H3.out.1⟩
 case round=>
  obtain⟨k,hk,rfl,hcell,hres,hB⟩:=hrel
  by_cases hlk:k<ls.length
  ·have hwr:=Fj.out.below hB (Nat.le_refl _)
   obtain⟨q1,q2,q3⟩:=cells_of_block hwr.cells
   rw[HMP.out] at q1
   obtain⟨e1,e2,e3⟩:=cells_of_block hcell
   obtain⟨b',off',z0,z1,z2,hvv,hb',hzs,s0,s1,s2⟩:=MK hwr.truth HL.out.2.2.1 hlk
   cases hvv
   have hst:=HL.out.2.1 _ (List.getElem_mem hlk)
   have hD2:=HOF.out _ hst z0 z1 z2 hzs
   have hsu:=BQ (c:=c) (i:=i) hlk
   have aeN:=HOB.out _ hst
   have hrb:=Jp.out k hk
   generalize AO c ls[k] i=d2 at*
   generalize hrk:uy c ls i k=r at*
   have HD2:=Lib.hid hD2
   have qA:=Lib.hid hsu
   have HQ:=Lib.hid (And.intro hcell (And.intro hres hB))
   clear hzs hD2 hsu hcell hres hB hwr hst hrk n1 n2 n3
   have abd:(k:Int)<ls.length:=by omega
   go_upto_region 6 with(fail)
   refine dD fun W5 xu=>?_
   have sV:Below wr.heap.size wr W5:=by rw[xu];exact zl
   have hk5:W5.heap[wr.heap.size]? =some (.cells #[iv z0,iv z1,iv z2] 259 (0,0)):=by rw[xu];exact ag _ _
   have hc5:=(sV.block _ e3).trans HQ.out.1
   have hw5:=Fj.out.below (aH HQ.out.2.2 sV) (Nat.le_refl _)
   have QH:=Lib.hid (And.intro (aH HQ.out.2.2 sV) (And.intro hc5 ((sV.block _ (Array.getElem?_eq_some_iff.1 HQ.out.2.1).1).trans HQ.out.2.1)))
   clear xu sV q1 q2 q3 e1 e2 s0 s1 s2 hb'
   obtain⟨q1,q2,q3⟩:=cells_of_block hw5.cells
   rw[HMP.out] at q1
   obtain⟨e1,e2,e4⟩:=cells_of_block hc5
   obtain⟨p1,p2,p3⟩:=cells_of_block hk5
   clear hw5 hc5 hk5
   refine zg 9 [] none [(7,Spec.val (iv d2)),(8,Spec.val (rv (wid r d2)))] ?_
   simp only[zt]
   repeat ((first|refine zn ?_|refine zk ?_);simp only[zp])
   refine zw 212 (h:=fun W hE hF=>by exact HD2.out W (aH QH.out.1 hE.below)) (t:=?_)
   simp only[zp]
   refine zw 213 (h:=fun W hE hF=>by exact Ky r d2 W) (t:=?_)
   simp only[zp]
   intro W hE hF
   obtain⟨hc,hf⟩:=aW hE.below
   have hzE:=hE.size
   (try simp only[World.size_alloc] at hzE)
   have HE:=Lib.hid hE
   clear hF hzE
   go_wp2_with fail
   go_roundw
   case rel=>
    refine⟨k+1,by omega,by go_num,?_,?_,?_⟩
    ·rw[qA.out]
     exact ak (ak ((HE.out.block _ e4 (by simp)).trans QH.out.2.1) _) _
    ·have h1:=(HE.out.block _ (Array.getElem?_eq_some_iff.1 QH.out.2.2).1 (by simp)).trans QH.out.2.2
     exact(Below.heap_setCell _ _ _ _ (by show w.heap.size≠b9;omega)).trans ((Below.heap_setCell _ _ _ _ (by show w.heap.size≠b9;omega)).trans h1)
    ·exact gm (gm (aH QH.out.1 HE.out.below) (show w.heap.size<=b9 by omega) _) (show w.heap.size<=b9 by omega) _
   case measure=>simp[intOf];omega
  ·have hkl:k=ls.length:=by omega
   subst hkl
   have hrb:=Jp.out _ (Nat.le_refl _)
   generalize uy c ls i ls.length=r at*
   obtain⟨e1,e2,e3⟩:=cells_of_block hcell
   obtain⟨p1,p2,p3⟩:=cells_of_block hres
   have HQ:=Lib.hid (And.intro hres hB)
   clear hcell hres hB n1 n2 n3
   go_wp2_with fail
   refine bodyPost_ret (v:=rv r) (results_cell_row Tryz.results162 _ _ w.heap.size _ _ (0,0) _ rfl (ak (ak HQ.out.1 _) _) Tryz.underlying103 rfl (by kernel_rfl)) rfl ?_
   exact⟨rfl,gm (gm HQ.out.2 (Nat.le_refl _) _) (Nat.le_refl _) _⟩
theorem tKR:fD Tryz.prog 40 103 (rv (0,0)) 2 16:=⟨Tryz.underlying40,by kernel_rfl,rfl,by omega⟩
def Xf (c:aQ) (w:World) (e:Ending) (w':World):Prop:=
 Below w.heap.size w w'/\((fM c true≠0/\e= .returned (.tuple #[.slice none 0 0,.slice none 0 0,iv (fM c true)]))∨
  (fM c true=0/\ ∃v u,e= .returned (.tuple #[v,u,iv 0])/\bn w' v (nK c)/\bn w' u (nO c)))
theorem Ht (c:aQ) {i:Nat} (hi:i<c.heaps.length):(nK c).take (i+1)=(nK c).take i++[xP c i]:=by
 rw[List.take_add_one];congr 1;unfold nK;simp[hi]
theorem IW (c:aQ) {i:Nat} (hi:i<c.aC.length):(nO c).take (i+1)=(nO c).take i++[xP c (c.heaps.length+i)]:=by
 rw[List.take_add_one];congr 1;unfold nO;simp[hi]
theorem BX (a b:List bK):aj (a++b)=aj a++aj b:=by simp[aj]
theorem Ha (c:aQ) (hv jO tv:Value) (es:List KE) (w:World) (hc:lZ w hv jO tv es c):Calls Tryz.prog 97 #[kv hv jO tv] w (Xf c w):=by
 obtain⟨oh,ch,rfl⟩:=hc.heaps.open
 obtain⟨ok,ck,rfl⟩:=hc.aC.open
 obtain⟨ot,ct,rfl⟩:=hc.au.open
 rw[hc.len] at hc⊢
 have HA:=Lib.hid (fun(W:World) (hb:Below w.heap.size w W)=>KC c (.slice oh c.heaps.length ch) (.slice ok c.aC.length ck) (.slice ot c.au.length ct) es 161 #[] true W (hc.below hb (Nat.le_refl _)) (enters_of Tryz.func161 (by kernel_rfl) rfl) (fun W _=>Ew W))
 have HC':Hid (∀W,Below w.heap.size w W->lZ W (.slice oh c.heaps.length ch) (.slice ok c.aC.length ck) (.slice ot c.au.length ct) es c):=Lib.hid (fun W hb=>hc.below hb (Nat.le_refl _))
 clear hc
 go_enter Tryz.func97,Tryz.ntmps97
 go_wp2_with fail
 refine(HA.out _ (af (Below.refl _ _) _)).mono ?_
 rintro e w1 ⟨hb,⟨hne,rfl⟩|⟨h0,wb,v,rfl,hwb,hwk⟩⟩
 ·have HB:=Lib.hid (show Below w.heap.size w w1 from zl)
  obtain⟨q,hq⟩: ∃q,fM c true=q:=⟨_,rfl⟩
  rw[hq] at hne⊢
  have HN:=Lib.hid (And.intro hq hne)
  have hneb:(q==0)=false:=by simpa using hne
  clear hb hne hq
  go_wp2_with fail
  go_returns
  exact⟨HB.out,.inl ⟨by rw[HN.out.1];exact HN.out.2,by rw[HN.out.1];simp⟩⟩
 have HB:=Lib.hid (show Below w.heap.size w w1 from zl)
 have hk0:w1.heap[w.heap.size]? =some (.cells #[.slice oh c.heaps.length ch,.slice ok c.aC.length ck,.slice ot c.au.length ct] 44 (0,0)):=(hb.block _ (by simp)).trans (ag _ _)
 clear hb
 obtain⟨hS,hpos,_⟩:=LU h0
 have hh3:=hS.h3
 have hk3:=hS.c3
 have Qq:=Lib.hid (fun(i:Nat) (hi:jQ c i) (W:World) (hb:Below w1.heap.size w1 W)=>G9 c hS (.slice oh c.heaps.length ch) (.slice ok c.aC.length ck) (.slice ot c.au.length ct) v es wb i hi W (HC'.out W (aH HB.out hb)) hpos (hwk.below hb (Nat.le_refl _)))
 have H0:=Lib.hid h0
 have HK0:=Lib.hid hk0
 have HHL:=Lib.hid (fun i (hi:i<c.heaps.length)=>Ht c hi)
 have HKL:=Lib.hid (fun i (hi:i<c.aC.length)=>IW c hi)
 have ZH:Hid ((nK c).length=c.heaps.length/\(nO c).length=c.aC.length):=Lib.hid (by simp[nK,nO])
 obtain⟨c0,f0,l0⟩:=cells_of_block hk0
 clear hS hpos hwk h0 hk0 hwb
 go_wp2_with fail
 go_loopw [2,19] (fun ov u wr=> ∃i:Nat,i<=c.heaps.length/\u= .int .i64 i/\(∃oo oc,ov= .slice oo i oc/\wr.ownsRow w1.heap.size 103 2 (.slice oo i oc) i (aj ((nK c).take i)))/\Below w1.heap.size w1 wr) (fun _ u _=>c.heaps.length-(intOf u).toNat)
 case atStart=>exact⟨0,Nat.zero_le _,rfl,⟨none,0,rfl,⟨rfl,.inl ⟨rfl,rfl⟩⟩⟩,Below.refl _ _⟩
 case round=>
  obtain⟨i,hi,rfl,⟨oo,oc,rfl,how⟩,hB⟩:=hrel
  by_cases hlt:i<c.heaps.length
  ·have hD:=Qq.out i (by unfold jQ;omega) wr hB
   have hsu:=HHL.out i hlt
   generalize xP c i=r at hD hsu
   have HOW:=Lib.hid how
   have HB':=Lib.hid hB
   have qA:=Lib.hid hsu
   clear how hB hsu c0 f0 l0
   go_wp2_with fail
   refine hD.mono ?_
   rintro e w2 ⟨rfl,hb2⟩
   have HB2:=Lib.hid hb2
   have ho2:=ah (Ms:=[]) HOW.out (Ext.of_below hb2) (by simp)
   have wQ:=Lib.hid ho2
   have hsz2:=hb2.size
   have hsz1:=HB'.out.size
   clear hD hb2 ho2
   go_wp2_with (at_builtin;go_loud (refine bQ rfl _ _ tKR rfl w1.heap.size (.slice oo i oc) i (aj ((nK c).take i)) rfl (ah (Ms:=[]) wQ.out (Ext.of_below (af (Below.refl _ _) _)) (by simp)) (.slice (some ⟨w2.heap.size,0,none⟩) 1 1) 1 [iv r.1,iv r.2] rfl (aB.of_block 2 1 (ag _ _) rfl (by decide)) (by simp[Value.oneCell']) (by omega) (by omega) (by simp;omega) ?_))
   intro v' w3 hown hgr hN
   obtain⟨o3,c3,rfl⟩:=aK hown
   have hpu:=rX HB'.out HOW.out ((Ext.of_below HB2.out).trans (Ext.of_below (af (Below.refl _ _) _))) hown hgr (Nat.le_refl _) HB'.out.size
   have HP:=Lib.hid (And.intro hpu hown)
   clear hpu hown hgr hN
   go_wp2_with fail
   go_roundw
   case rel=>
    refine⟨i+1,by omega,by go_num,⟨o3,c3,rfl,?_⟩,HP.out.1.1⟩
    rw[qA.out,BX]
    exact HP.out.2
   case measure=>simp[intOf];omega
  ·obtain rfl:i=c.heaps.length:=by omega
   have hk1:=(hB.block _ (Array.getElem?_eq_some_iff.1 HK0.out).1).trans HK0.out
   obtain⟨n0,n1,n2⟩:=cells_of_block hk1
   have HH:=Lib.hid (And.intro how (And.intro hB hk1))
   clear how hB hk1 c0 f0 l0
   go_wp2_with fail
   generalize wr=wm at*
   go_loopw [3,32] (fun ov u wq=> ∃j:Nat,j<=c.aC.length/\u= .int .i64 j/\(∃o2 c2,ov= .slice o2 j c2/\wq.ownsRow wm.heap.size 103 2 (.slice o2 j c2) j (aj ((nO c).take j)))/\Below wm.heap.size wm wq) (fun _ u _=>c.aC.length-(intOf u).toNat)
   case atStart=>exact⟨0,Nat.zero_le _,rfl,⟨none,0,rfl,⟨rfl,.inl ⟨rfl,rfl⟩⟩⟩,Below.refl _ _⟩
   case round=>
    obtain⟨j,hj,rfl,⟨o2,c2,rfl,how⟩,hB⟩:=hrel
    by_cases hlt:j<c.aC.length
    ·have hBw:=aH HH.out.2.1 hB
     have hD:=Qq.out (c.heaps.length+j) (by unfold jQ;omega) _ hBw
     have hsu:=HKL.out j hlt
     generalize xP c (c.heaps.length+j)=r at hD hsu
     rw[show((c.heaps.length+j:Nat):Int)=(c.heaps.length:Int)+j from by omega] at hD
     have hkk:=(hB.block _ (Array.getElem?_eq_some_iff.1 HH.out.2.2).1).trans HH.out.2.2
     obtain⟨a0,a1,a2⟩:=cells_of_block hkk
     have HOW:=Lib.hid how
     have HB':=Lib.hid hB
     have qA:=Lib.hid hsu
     clear how hB hBw hsu hkk n0 n1 n2
     go_wp2_with fail
     refine hD.mono ?_
     rintro e w2 ⟨rfl,hb2⟩
     have HB2:=Lib.hid hb2
     have ho2:=ah (Ms:=[]) HOW.out (Ext.of_below hb2) (by simp)
     have wQ:=Lib.hid ho2
     have hsz2:=hb2.size
     have hsz1:=HB'.out.size
     clear hD hb2 ho2 a0 a1 a2
     go_wp2_with (at_builtin;go_loud (refine bQ rfl _ _ tKR rfl wm.heap.size (.slice o2 j c2) j (aj ((nO c).take j)) rfl (ah (Ms:=[]) wQ.out (Ext.of_below (af (Below.refl _ _) _)) (by simp)) (.slice (some ⟨w2.heap.size,0,none⟩) 1 1) 1 [iv r.1,iv r.2] rfl (aB.of_block 2 1 (ag _ _) rfl (by decide)) (by simp[Value.oneCell']) (by omega) (by omega) (by simp;omega) ?_))
     intro v' w3 hown hgr hN
     obtain⟨o3,c3,rfl⟩:=aK hown
     have hpu:=rX HB'.out HOW.out ((Ext.of_below HB2.out).trans (Ext.of_below (af (Below.refl _ _) _))) hown hgr (Nat.le_refl _) HB'.out.size
     have HP:=Lib.hid (And.intro hpu hown)
     clear hpu hown hgr hN
     go_wp2_with fail
     go_roundw
     case rel=>
      refine⟨j+1,by omega,by go_num,⟨o3,c3,rfl,?_⟩,HP.out.1.1⟩
      rw[qA.out,BX]
      exact HP.out.2
     case measure=>simp[intOf];omega
    ·obtain rfl:j=c.aC.length:=by omega
     have HX:=Lib.hid (And.intro how hB)
     clear how hB n0 n1 n2
     go_wp2_with fail
     go_returns
     refine⟨aH HB.out (aH HH.out.2.1 HX.out.2),.inr ⟨H0.out,.slice oo c.heaps.length oc,.slice o2 c.aC.length c2,by simp,?_,?_⟩⟩
     ·have h1:=aB.dn (ah (Ms:=[]) HH.out.1 (Ext.of_below HX.out.2) (by simp))
      rw[show(nK c).take c.heaps.length=nK c from by rw[<-ZH.out.1,List.take_length]] at h1
      show aB 2 _ _ (nK c).length _
      rw[ZH.out.1]
      exact h1
     ·have h1:=aB.dn HX.out.1
      rw[show(nO c).take c.aC.length=nO c from by rw[<-ZH.out.2,List.take_length]] at h1
      show aB 2 _ _ (nO c).length _
      rw[ZH.out.2]
      exact h1
end Go.Proofs.YtabpkkbiioihaaaGreatDoor.xH
end

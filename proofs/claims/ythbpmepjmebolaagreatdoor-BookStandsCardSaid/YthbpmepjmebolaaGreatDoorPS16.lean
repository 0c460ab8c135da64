/-
  Texts of this claim, packed by a program: ES GS.
-/
import Derived.WalkKit
import Derived.WalkLawsBesides
import Derived.WalkSpells
import Derived.Outline
import Derived.Handy
import Derived.KernelRfl
import Derived.Lib.Hide
import Derived.Test.YthbpmepjmebolaaGreatDoorPS15
set_option maxHeartbeats 8000000
set_option maxRecDepth 100000
set_option linter.all false
section
namespace Go.Proofs.YthbpmepjmebolaaGreatDoor.Bk
open Go.RowKit Go.RG Go.SL Go.Shelf ji Go.TB Go.Proofs.YthbpmepjmebolaaGreatDoor.yR
def aai (ls:List aH) (w:World) (e:Ending) (w':World):Prop:=Below w.heap.size w w'/\ ∃b,e= .returned (.bool b)/\(b=true->fH ls=0)
theorem WY (ls:List aH) (v:Value) (w:World) (hv:iO w v ls):Calls Tryz.prog 8 #[v] w (aai ls w):=by
 have HV:=ae hv
 have HT:=ae (fun W (hb:Below w.heap.size w W)=>aah ls v W (HV.o.below hb (ai _)))
 have HF:=ae (fun W (hb:Below w.heap.size w W)=>QO ls v W (HV.o.below hb (ai _)))
 have HLT:=ae (fun W (hb:Below w.heap.size w W) (h:IC ls=true)=>Xb ls v W (HV.o.below hb (ai _)) (by have:=(uK.1 h).1;omega) (fun x hx=>by have:=(uK.1 h).2 x hx;omega))
 clear hv
 obtain⟨q,hq⟩: ∃q,IC ls=q:=⟨_,rfl⟩
 rw[hq] at HT HLT
 obtain⟨f,hf⟩: ∃f,fH ls=f:=⟨_,rfl⟩
 rw[hf] at HF
 unfold aai
 rw[hf]
 clear hq hf
 go_enter Tryz.func8,Tryz.ntmps8
 go_wp2_with fail
 refine(HT.o w (aG _ _)).mono ?_
 rintro e W1 ⟨rfl,hB1⟩
 have HB1:=ae hB1
 clear hB1
 cases q with
 |false=>
  go_wp2_with fail
  go_returns
  exact⟨HB1.o,_,rfl,fun h=>by cases h⟩
 |true=>
  go_wp2_with fail
  refine(HF.o W1 HB1.o).mono ?_
  rintro e W2 ⟨rfl,hB2⟩
  have HB2:=ae (bg HB1.o hB2)
  clear hB2
  by_cases h0:f=0
  ·subst h0
   go_wp2_with fail
   refine(HLT.o W2 HB2.o (by first|trivial|rfl)).mono ?_
   rintro e W3 ⟨hB3,b,rfl⟩
   have HB3:=ae (bg HB2.o hB3)
   clear hB3
   go_wp2_with fail
   go_returns
   exact⟨HB3.o,by cases b <;>simp⟩
  ·go_wp2_with fail
   go_returns
   exact⟨HB2.o,_,rfl,fun h=>by cases h⟩
end Go.Proofs.YthbpmepjmebolaaGreatDoor.Bk
end
section
namespace Go.Proofs.YthbpmepjmebolaaGreatDoor.Bk
open Go.Lib Go.RowKit Go.RG Go.SL Go.Shelf ji Go.TB Go.Proofs.YthbpmepjmebolaaGreatDoor.yR
theorem Y2 (p:Int->Bool):(iT 4 p).length<=5:=by
 unfold iT
 refine ja (List.length_filter_le _ _) ?_
 simp
theorem Good.XO {s:jI} (h:Good s):s.heap.turns.length<=5:=by
 obtain⟨p,hp⟩:=h.turns
 rw[hp]
 exact Y2 p
theorem G6 (ls:List aH) (lv:Value) (w:World) (hv:iO w lv ls) (hE:Env w):Calls Tryz.prog 4 #[lv] w (PV (.bool true) w):=by
 obtain⟨lo,lc,rfl⟩:=aP.open hv
 have HSH:=ae (WY ls _ w hv)
 have HV:=ae (fun W (hb:Below w.heap.size w W)=>hv.below hb (ai _))
 have HE:=ae (fun W (hb:Below w.heap.size w W)=>hE.below hb (ai _))
 have XE:=ae (fun W (hb:Below w.heap.size w W)=>O0 W (hE.below hb (ai _)))
 clear hv hE
 go_enter Tryz.func4,Tryz.ntmps4
 go_wp2_with fail
 refine HSH.o.mono ?_
 rintro e W1 ⟨hB1,b,rfl,hb⟩
 have HB1:=ae hB1
 clear hB1 HSH
 cases b with
 |false=>
  clear hb
  go_wp2_with fail
  refine(XE.o W1 HB1.o).mono ?_
  rintro e W2 ⟨rfl,hB2⟩
  have HB2:=ae (bg HB1.o hB2)
  clear hB2
  go_wp2_with fail
  go_returns
  exact⟨by simp,HB2.o⟩
 |true=>
 have hf0:=hb rfl
 clear hb
 have anM:=(BX hf0).1
 have HF0:=ae hf0
 have Tv:=ae (fun l (hl:l∈ls)=>show l.length<=1000000 by have:=(BX hf0).2 l hl;omega)
 clear hf0
 go_wp2_with fail
 refine(QN ls _ W1 (HV.o W1 HB1.o) (by omega)).mono ?_
 rintro e W2 ⟨o2,c2,rfl,ho2,hb2⟩
 have HB2:=ae (bg HB1.o hb2)
 have HL2:=ae (aP.dR ho2)
 clear hb2 ho2
 go_wp2_with fail
 refine(yf (.slice o2 ls.length c2) (ls) W2 (HL2.o) (HE.o W2 HB2.o) (Tv.o) [] (by simp)).mono ?_
 rintro e SK ⟨hb2,Va,esa,cv,he,hX,hC⟩
 subst he
 obtain⟨coa,cca,rfl⟩:=aV hC
 have hs2:=hb2.size
 have hS2:=hX SK (Ext.refl _ _)
 rename_i hK
 refine hK _ _ ?_
 refine aO rfl _ (by go_simp;first|rfl|exact⟨rfl,rfl⟩) ?_
 simp only[zp]
 refine aO rfl _ (by go_simp;first|rfl|exact⟨rfl,rfl⟩) ?_
 simp only[zp]
 refine aO rfl _ (by go_simp;first|rfl|exact⟨rfl,rfl⟩) ?_
 simp only[zp]
 refine aO rfl _ (by go_simp;first|rfl|exact⟨rfl,rfl⟩) ?_
 simp only[zp]
 obtain⟨ga,hg⟩: ∃g,g=SK.heap.size:=⟨_,rfl⟩
 refine aO rfl (w':=SK.alloc (.cells eG 46 (0,0))) (.pointer (some ⟨ga,0,none⟩)) (by rw[hg];go_simp;try rfl) ?_
 simp only[zp]
 have hz2:(SK.alloc (.cells eG 46 (0,0))).heap[ga]? =some (.cells eG 46 (0,0)):=by rw[hg];exact ay _ _
 refine wpList_store_row rfl _ _ _ rfl ga (dL (iD (ls)) Va) (by as_aux_lemma=>kernel_rfl) (by as_aux_lemma=>kernel_rfl) _ eG hz2 (by kernel_rfl) (by as_aux_lemma=>kernel_rfl) (by rw[ny];exact fun u hu=>iR hS2 u (nR.2 hu)) ?_
 simp only[zp]
 refine jX fun Il hW3=>?_
 obtain⟨yG,mg⟩: ∃yG,yG=SK.alloc (.cells eG 46 (0,0)):=⟨_,rfl⟩
 rw[<-mg] at hW3 hz2
 have vS:Ext [ga] yG Il:=by rw[hW3];exact fP
 have hs3:=vS.size
 have hs2':yG.heap.size=ga+1:=by rw[mg,hg];simp
 have nP:Below SK.heap.size SK Il:=je (by rw[mg];exact aj (aG _ _) _) vS (by omega)
 have NZ:Il.heap[ga]? =some (.cells (dL (iD (ls)) Va) 46 (0,0)):=by rw[hW3];exact setRow_heap _ _ _ _ _ _ hz2
 have hb3:=bg hb2 nP
 have ajD:W2.heap.size<=ga:=by omega
 have aby:ga<Il.heap.size:=by omega
 have H3a:=ae (ag hb3 (ag NZ (ag (hS2.below nP (ai _)) (aP.dR (aB (Ms:=[]) hC (Ext.az nP) (by simp))))))
 clear hX hC hW3 mg vS nP hb2 hS2 hz2 hK hs2 hs3 hs2' hg hb3
 have HB3:=ae (bg HB2.o H3a.o.1)
 rw[HF0.o]
 obtain⟨s,hs⟩: ∃s,iD ls=s:=⟨_,rfl⟩
 have HGS:=ae (MX HF0.o)
 rw[hs] at HGS NZ H3a⊢
 have HST:=ae (fun W (hb:Below Il.heap.size Il W)=>H3a.o.2.2.1.below hb (ai _))
 obtain⟨vt,vn,vw,vu,vr,vh,vk,vs⟩:=Va
 clear hs
 have HKA:=ae NZ
 obtain⟨cf3,ff3,lf3⟩:=af NZ
 clear NZ
 have HD:=ae (yj s.led.field _ Il (HST.o Il (aG _ _)).wF)
 go_wp2_with fail
 refine HD.o.mono ?_
 rintro e W4 ⟨hb4,hp⟩
 rcases hp with⟨hne,_⟩|⟨_,u4,rfl,_⟩
 ·exact absurd HGS.o.2.field hne
 have Xn:=ae hb4
 have HB4:=ae (bg HB3.o hb4)
 have hk4:=(hb4.block ga aby).trans HKA.o
 clear hb4 HD cf3 ff3 lf3
 obtain⟨cf4,ff4,lf4⟩:=af hk4
 clear hk4
 obtain⟨tuo,tuc,rfl⟩: ∃o c,vu= .slice o s.heap.turns.length c:=aP.open (HST.o Il (aG _ _)).Ef
 have HTU:=ae (HST.o W4 Xn.o).Ef
 have htl:=HTU.o.len
 obtain⟨tn,htn⟩: ∃n,n=s.heap.turns.length:=⟨_,rfl⟩
 rw[<-htn] at htl
 clear htn
 have anm:s.heap.turns.length<=5:=HGS.o.1.XO
 have HKP:=ae (fun W (hb:Below W4.heap.size W4 W) o c (h:aN W (.slice o s.heap.turns.length c) s.heap.turns)=>jA.yI s.heap vw (.slice tuo s.heap.turns.length tuc) vr (.slice o s.heap.turns.length c) s.heap.turns W (HST.o W (bg Xn.o hb)).bV (HST.o W (bg Xn.o hb)).Ef (HST.o W (bg Xn.o hb)).MO h)
 have hka:=HGS.o.2.ask
 rw[hka] at HKP
 obtain⟨kv,hkv⟩: ∃n,n=jA.mZ s.heap s.heap.turns:=⟨_,rfl⟩
 rw[<-hkv] at HKP
 have HKV:=ae hkv
 clear hka hkv htl
 go_upto_region 7 with(fail)
 refine zg 13 [] none [(2,Spec.slice W4.heap.size #[] 3 0),(6,⟨fun _ v=> ∃o c,v= .slice o s.heap.turns.length c,fun _ v Wx=>aN Wx v s.heap.turns⟩),(7,Spec.val (.tuple #[iv kv,iv 0]))] ?_
 simp only[zt]
 repeat ((first|refine zn ?_|refine zk ?_);simp only[zp])
 refine dU W4.heap.size #[] 3 0 (by rfl) (ai _) (by rfl) (by simp) (by simp) (fun W hW=>by go_simp;try rfl) (fun b2=>?_)
 simp only[zp]
 repeat ((first|refine zn ?_|refine zk ?_);simp only[zp])
 refine bF _ (by rfl) (by rfl) (by exact⟨.slice none s.heap.turns.length 0,none,0,rfl⟩) (fun Wa hE hF=>?_) (fun v Wa Wb ho hE=>aP.below ho (Ext.below (show Ext [] Wa Wb from hE)) (ai _)) (fun v hv=>?_)
 ·have hE':Ext [] W4 Wa:=hE
  obtain⟨b',hb',hge,hcc⟩:=hF _ (bD _) (by kernel_rfl)
  cases hb'
  refine Does.mono (A7 qp (by rfl) (by rfl) hge hcc (by rfl) (HTU.o.below hE'.below (ai _)) (jc _) (by omega) (by omega) hE'.size) ?_
  rintro v' Wc ⟨ho,hE2⟩
  exact⟨aV ho,aP.dR ho,hE2⟩
 obtain⟨o3,c3,rfl⟩:=hv
 simp only[zp]
 refine zw 16 (h:=fun W hE hF=>by
  have hcv:aN W (.slice o3 s.heap.turns.length c3) s.heap.turns:=hF _ (bD _) (by kernel_rfl)
  have hE':Ext [] W4 W:=hE
  exact HKP.o W hE'.below _ _ hcv) (t:=?_)
 simp only[zp]
 repeat ((first|refine zn ?_|refine zk ?_);simp only[zp])
 intro W5 hE hF
 have hb5:Below W4.heap.size W4 W5:=Ext.below (show Ext [] W4 W5 from hE)
 have acg:=ae (bg Xn.o hb5)
 have pz:=ae (bg HB4.o hb5)
 have hk5:=(acg.o.block ga aby).trans HKA.o
 clear hE hF hb5 HKP HTU cf4 ff4 lf4 Xn HB4
 obtain⟨cf5,ff5,lf5⟩:=af hk5
 clear hk5
 have HCB:=Jj s.df vh vk vs esa W5 (HST.o W5 acg.o).df
 rw[HGS.o.2.Z4] at HCB
 have HCQ:=ae HCB
 clear HCB
 go_wp2_with fail
 refine HCQ.o.mono ?_
 rintro e W6 ⟨hb6,v6,u6,rfl⟩
 have aeR:=ae (bg acg.o hb6)
 have qo:=ae (bg pz.o hb6)
 have hk6:=(aeR.o.block ga aby).trans HKA.o
 clear hb6 HCQ cf5 ff5 lf5 acg pz
 obtain⟨cf6,ff6,lf6⟩:=af hk6
 clear hk6
 have HLE:=wL s.led vt vn W6 (HST.o W6 aeR.o).wF (HST.o W6 aeR.o).TR
 rw[HGS.o.2.led] at HLE
 have HLQ:=ae HLE
 have hk2:(kv !=2)=true:=by rw[HKV.o];simpa using HGS.o.2.keeps
 clear HLE
 go_wp2_with fail
 refine HLQ.o.mono ?_
 rintro e W7 ⟨rfl,hb7⟩
 have yZ:=ae (bg qo.o hb7)
 clear hb7 HLQ cf6 ff6 lf6
 go_wp2_with fail
 refine(XE.o W7 yZ.o).mono ?_
 rintro e W8 ⟨rfl,hb8⟩
 have pF:=ae (bg yZ.o hb8)
 clear hb8
 go_wp2_with fail
 go_returns
 exact⟨by simp,pF.o⟩
end Go.Proofs.YthbpmepjmebolaaGreatDoor.Bk
end

/-
  Texts of this claim, packed by a program: FD FE FG GR GX GY GA2 OG.
-/
import Derived.WalkKit
import Derived.WalkLawsBesides
import Derived.WalkSpells
import Derived.Outline
import Derived.Handy
import Derived.KernelRfl
import Derived.Lib.Hide
import Derived.Deep.Slices
import Derived.Carry
import Derived.Test.YthbpmepjmebolaaGreatDoorPA15
set_option maxHeartbeats 8000000
set_option maxRecDepth 100000
set_option linter.all false
section
namespace Go.Proofs.YthbpmepjmebolaaGreatDoor.Bk
open Go.Lib Go.RowKit Go.RG Go.SL Go.Shelf jC Go.TB Go.Proofs.YthbpmepjmebolaaGreatDoor.Be
theorem Zu: ∀(ls:List aF),(∀l∈ls,l.length<=60)->Oc ls<=69*ls.length:=by
 intro ls
 induction ls with
 |nil=>intro _;exact ai _
 |cons l ls ih=>
  intro h
  have h1:=ih fun x hx=>h x (qj _ hx)
  have h2:=h l List.mem_cons_self
  simp only[Oc,List.length_cons]
  omega
theorem XF {ls:List aF} {k:Nat} (hk:k<ls.length):jP 0 (ls.take (k+1))=jP 0 (ls.take k)++nI k ls[k]:=by
 rw[iy hk,Jq,gX,Nat.zero_add,Nat.min_eq_left (by omega)]
theorem abe (l:aF):(Lib.byteCells l).toArray.size=l.length:=by simp[Lib.byteCells]
theorem bytes_at {W:World} {g n:Nat} {l:aF} {t:TypeId} {fr:Nat×Nat} (h:W.heap[g]? =some (.cells (Lib.byteCells l).toArray t fr)) (hn:l.length=n) (hm:n<=maxLen):aK 1 W (.slice (some ⟨g,0,none⟩) n n) n (Lib.byteCells l):=
 aK.dw (cs:=(Lib.byteCells l).toArray) 1 n h (by rw[abe,hn,Nat.mul_one]) hm
theorem XX (l:aF): ∀u∈Lib.byteCells l,u.oneCell'=true:=by
 intro u hu
 simp only[Lib.byteCells,iV] at hu
 obtain⟨x,_,rfl⟩:=hu
 rfl
def aef (l:aF) (w:World) (e:Ending) (w':World):Prop:=Below w.heap.size w w'/\ ∃v,e= .returned v/\w'.ownsRow w.heap.size 5 1 v l.length (Lib.byteCells l)
theorem aaV (ls:List aF) (v:Value) (w:World) (hv:iY w v ls) (hn:ls.length<=1000) (hl: ∀l∈ls,l.length<=60):Calls Tryz.prog 63 #[v] w (aef (Ih ls) w):=by
 obtain⟨lo,lc,rfl⟩:=aK.open hv
 have HV:=ae hv
 have HL:=ae hl
 clear hv hl
 go_enter Tryz.func63,Tryz.ntmps63
 go_wp2_with fail
 go_loopw [2,7] (fun u i wr=> ∃k:Nat,k<=ls.length/\i= .int .i64 k/\Below w.heap.size w wr/\wr.ownsRow w.heap.size 5 1 u (jP 0 (ls.take k)).length (Lib.byteCells (jP 0 (ls.take k)))) (fun _ i _=>ls.length-(intOf i).toNat)
 case atStart=>exact⟨0,bW _,rfl,aG _ _,⟨rfl,.inl ⟨rfl,rfl⟩⟩⟩
 case round=>
  obtain⟨k,hk,rfl,hB,how⟩:=hrel
  by_cases hlt:k<ls.length
  ·obtain⟨g1,f1,e1,r1,c1⟩:=Df (HV.o.below hB (ai _)) hlt
   have HB:=ae hB
   have HT:=ae (XF hlt)
   have hll:=HL.o _ (bT hlt)
   have hs1:(jP 0 (ls.take k)).length<=69*k:=by
    have h1:=Zu (ls.take k) fun l h=>HL.o l (oM h)
    rw[gX,Nat.min_eq_left (by omega)] at h1
    rw[Nc]
    exact h1
   have HR:=ae (RV k ls[k] wr (by omega) hll)
   have HQ:=ae (Ei k ls[k])
   obtain⟨x,hx⟩: ∃x,x=ls[k]:=⟨_,rfl⟩
   rw[<-hx] at c1 HR HT HQ hll
   clear hx
   generalize hA:jP 0 (ls.take k)=A at*
   have hlo:=aT how
   obtain⟨oo,oc,rfl⟩:=hlo
   have HO:=ae how
   have xR:(k:Int)<ls.length:=by omega
   cases e1
   clear hB how hA
   go_wp2_with fail
   refine HR.o.mono ?_
   rintro e W2 ⟨hb2,g,n,rfl,rfl,hg,hk2⟩
   have HB2:=ae (aX HB.o hb2)
   have Bd:=ae (aA (Ms:=[]) HO.o (Ext.az hb2) (by simp))
   have HS2:Hid (aK 1 W2 (.slice (some ⟨g,0,none⟩) (9+x.length) (9+x.length)) (9+x.length) (Lib.byteCells (nI k x))):=ae (bytes_at hk2 HQ.o (by simp only[maxLen];omega))
   clear hb2 hk2 hg
   go_wp2_with (at_builtin;go_loud (refine dF rfl _ _ Rz rfl w.heap.size (.slice oo A.length oc) A.length (Lib.byteCells A) rfl Bd.o (.slice (some ⟨g,0,none⟩) (9+x.length) (9+x.length)) (9+x.length) (Lib.byteCells (nI k x)) rfl HS2.o (XX _) (by omega) (by omega) HB2.o.size ?_))
   intro v' W3 hown hgr _
   have hB3:Below w.heap.size w W3:=Below.grown HB2.o hgr (by have:=HB2.o.size;omega) (fun g e=>(bH Bd.o g e).1)
   have HB3:=ae hB3
   have hown3:W3.ownsRow w.heap.size 5 1 v' (jP 0 (ls.take (k+1))).length (Lib.byteCells (jP 0 (ls.take (k+1)))):=by
    rw[HT.o,show Lib.byteCells (A++nI k x)=Lib.byteCells A++Lib.byteCells (nI k x) from by simp[Lib.byteCells],dE,HQ.o]
    exact hown
   have HO3:=ae hown3
   clear hown hgr hB3 hown3
   go_wp2_with fail
   go_roundw
   all_goals first
    |exact⟨k+1,by omega,by go_num,HB3.o,HO3.o⟩
    |(simp[intOf];omega)
  ·have hkl:k=ls.length:=by omega
   have HO:Hid (wr.ownsRow w.heap.size 5 1 u2 (Ih ls).length (Lib.byteCells (Ih ls))):=ae (by
    rw[hkl,List.take_length] at how
    exact how)
   have HB:=ae hB
   clear hB how
   go_wp2_with fail
   go_returns
   exact⟨HB.o,_,rfl,HO.o⟩
theorem Ii {ls:List aF} (h:eH ls=0):ls.length<=40/\ ∀l∈ls,l.length<=60:=by
 unfold eH at h
 split at h
 ·omega
 ·rename_i hc
  refine⟨by omega,fun l hl=>?_⟩
  apply Classical.byContradiction
  intro hn
  exact hc (.inr (List.any_eq_true.2 ⟨l,hl,by simp;omega⟩))
def VK (q:Int) (ls:List aF) (w:World) (e:Ending) (w':World):Prop:=
 Below w.heap.size w w'/\((q≠0/\e= .returned (.tuple #[.slice none 0 0,iv q]))∨(q=0/\ ∃v,e= .returned (.tuple #[v,iv 0])/\w'.ownsRow w.heap.size 5 1 v (Ih ls).length (Lib.byteCells (Ih ls))))
theorem Yp (ls:List aF) (v:Value) (w:World) (hv:iY w v ls) (hln: ∀x∈ls,x.length<=1000000):Calls Tryz.prog 34 #[v] w (VK (eH ls) ls w):=by
 have HF:=ae (KP ls v w hv hln)
 have HW:Hid (eH ls=0-> ∀W,Below w.heap.size w W->Calls Tryz.prog 63 #[v] W (aef (Ih ls) W)):=ae (fun h W hb=>aaV ls v W (hv.below hb (ai _)) (by have:=(Ii h).1;omega) (Ii h).2)
 obtain⟨lo,lc,rfl⟩:=aK.open hv
 clear hv
 obtain⟨q,hq⟩: ∃q,eH ls=q:=⟨_,rfl⟩
 rw[hq] at HF HW⊢
 have HQ:=ae hq
 clear hq
 go_enter Tryz.func34,Tryz.ntmps34
 go_wp2_with fail
 refine HF.o.mono ?_
 rintro e W1 ⟨rfl,hb1⟩
 have HB1:=ae hb1
 clear hb1
 by_cases hz:q=0
 ·subst hz
  go_wp2_with fail
  refine(HW.o (by trivial) W1 HB1.o).mono ?_
  rintro e W2 ⟨hb2,v2,rfl,ho⟩
  have HB2:=ae (aX HB1.o hb2)
  obtain⟨o2,c2,rfl⟩:=aT ho
  have HO:=ae (bY ho HB1.o.size)
  clear hb2 ho
  go_wp2_with fail
  go_returns
  exact⟨HB2.o,.inr ⟨rfl,_,rfl,HO.o⟩⟩
 ·go_wp2_with fail
  go_returns
  exact⟨HB1.o,.inl ⟨hz,rfl⟩⟩
theorem zf:(∀l∈jY,l.length<=1000000)/\ ∀l∈jY++rQ,l.length<=1000000:=by decide+kernel
theorem NP:LZ jY=agM:=by
 unfold LZ
 rw[aC sQ.1,RS]
 unfold gu
 rw[aC sQ.1]
 exact Zc
theorem Q7:oW (jY++rQ)=[0,0,0,0,0,0,0,0,0,0,0,0,0,2,6,4]:=by
 unfold oW
 rw[aC sQ.2]
 exact VV
theorem abt:eH [[97]]=0/\Ih [[97]]=[48,49,58,97,58,48,50,50,51,10]:=by decide+kernel
theorem QB (w:World) (hE:Env w):Calls Tryz.prog 9 #[] w (PV (.bool true) w):=by
 have HE:Hid (∀W,Below w.heap.size w W->Env W):=ae (fun W hb=>hE.below hb (ai _))
 have HY:Hid (∀W,Calls Tryz.prog 31 #[.slice none 0 0] W (Fg jY W)):=ae (fun W=>by have h:=NQ [] (.slice none 0 0) W (aK.nil _ _) (by simp);rw[List.append_nil] at h;exact h)
 clear hE
 go_enter Tryz.func9,Tryz.ntmps9
 go_wp2_with fail
 refine(HY.o w).mono ?_
 rintro e W1 ⟨o1,c1,rfl,ho1,hb1⟩
 have HB1:=ae hb1
 have HO:=ae (Yb _ jY W1 (aK.dR ho1) (HE.o W1 hb1) zf.1)
 clear hb1 ho1
 go_wp2_with fail
 refine HO.o.mono ?_
 rintro e W2 ⟨hb2,u2,rfl,hu2⟩
 rw[JG.1]
 rw[JG.2] at hu2
 obtain⟨uo,uc,rfl⟩:=aK.open hu2
 have HB2:=ae (aX HB1.o hb2)
 have HU2:=ae hu2
 clear hb2 hu2 HO HB1
 simp only[List.length_cons,List.length_nil,Nat.reduceAdd]
 go_wp2_with fail
 refine(HY.o W2).mono ?_
 rintro e W3 ⟨o3,c3,rfl,ho3,hb3⟩
 have HB3:=ae (aX HB2.o hb3)
 have HU3:=ae (HU2.o.below hb3 (ai _))
 have HT:=ae (Jy _ jY W3 (aK.dR ho3) (HE.o W3 HB3.o) zf.1)
 clear hb3 ho3 HB2 HU2
 go_wp2_with fail
 refine HT.o.mono ?_
 rintro e W4 ⟨hb4,u4,rfl,hu4⟩
 rw[JF.1]
 rw[JF.2] at hu4
 obtain⟨vo,vc,rfl⟩:=aK.open hu4
 have HB4:=ae (aX HB3.o hb4)
 have HU4:=ae (HU3.o.below hb4 (ai _))
 have HV4:=ae hu4
 clear hb4 hu4 HT HB3 HU3
 simp only[List.length_cons,List.length_nil,Nat.reduceAdd]
 go_wp2_with fail
 refine(HY.o W4).mono ?_
 rintro e W5 ⟨o5,c5,rfl,ho5,hb5⟩
 have nM:=ae (aX HB4.o hb5)
 have HU5:=ae (HU4.o.below hb5 (ai _))
 have HV5:=ae (HV4.o.below hb5 (ai _))
 have HR:=ae (UI _ jY W5 (aK.dR ho5) (HE.o W5 nM.o) zf.1)
 clear hb5 ho5 HB4 HU4 HV4
 go_wp2_with fail
 refine HR.o.mono ?_
 rintro e W6 ⟨hb6,rfl⟩
 rw[NP,sQ.1]
 have qo:=ae (aX nM.o hb6)
 have HU6:=ae (HU5.o.below hb6 (ai _))
 have HV6:=ae (HV5.o.below hb6 (ai _))
 clear hb6 HR nM HU5 HV5
 have HW:Hid (∀W,W=W6.alloc (.cells #[.string ⟨#[97]⟩] 9)->Calls Tryz.prog 34 #[.slice (some ⟨W6.heap.size,0,none⟩) 1 1] W (VK (eH [[97]]) [[97]] W)):=ae (fun W hW=>Yp [[97]] _ W (by
  have hk:W.heap[W6.heap.size]? =some (.cells (aZ [[97]]).toArray 9 (0,0)):=by rw[hW];exact ay _ _
  exact aK.dw 1 1 hk rfl (by decide)) (by decide))
 go_wp2_with fail
 refine(HW.o _ rfl).mono ?_
 rintro e W7 ⟨hb7,⟨hq,_⟩|⟨_,v7,rfl,ho7⟩⟩
 ·exact absurd abt.1 hq
 rw[abt.2] at ho7
 obtain⟨wo,wc,rfl⟩:=aT ho7
 have TM:=aX (ak (aG W6.heap.size W6) (.cells #[.string ⟨#[97]⟩] 9)) hb7
 have xN:=ae (aX qo.o TM)
 have HU7:=ae (HU6.o.below TM (ai _))
 have HV7:=ae (HV6.o.below TM (ai _))
 have HW7:=ae (aK.dR ho7)
 clear hb7 ho7 TM HW qo HU6 HV6
 simp only[List.length_cons,List.length_nil,Nat.reduceAdd]
 have HM:Hid (∀W,W=W7.alloc (.cells (aZ rQ).toArray 9)->Calls Tryz.prog 31 #[.slice (some ⟨W7.heap.size,0,none⟩) 3 3] W (Fg (jY++rQ) W)):=ae (fun W hW=>NQ rQ _ W (by
  have hk:W.heap[W7.heap.size]? =some (.cells (aZ rQ).toArray 9 (0,0)):=by rw[hW];exact ay _ _
  exact aK.dw 1 3 hk rfl (by decide)) (by decide))
 go_wp2_with fail
 refine(HM.o _ rfl).mono ?_
 rintro e W8 ⟨o8,c8,rfl,qM,hb8⟩
 have aaL:=aX (ak (aG W7.heap.size W7) (.cells (aZ rQ).toArray 9)) hb8
 have pO:=ae (aX xN.o aaL)
 have HU8:=ae (HU7.o.below aaL (ai _))
 have I9:=ae (HV7.o.below aaL (ai _))
 have HW8:=ae (HW7.o.below aaL (ai _))
 have HL8:=ae (aK.dR qM)
 clear hb8 qM aaL HM xN HU7 HV7 HW7
 go_wp2_with fail
 refine(wO (.slice o8 (jY++rQ).length c8) (jY++rQ) W8 (HL8.o) (HE.o W8 pO.o) (zf.2) [] (by simp)).mono ?_
 rintro e W2a ⟨hb2,Va,esa,cv,he,hX,hC⟩
 subst he
 obtain⟨coa,cca,rfl⟩:=aT hC
 have hs2:=hb2.size
 have hS2:=hX W2a (Ext.refl _ _)
 rename_i hK
 refine hK _ _ ?_
 refine aN rfl _ (by go_simp;first|rfl|exact⟨rfl,rfl⟩) ?_
 simp only[zp]
 refine aN rfl _ (by go_simp;first|rfl|exact⟨rfl,rfl⟩) ?_
 simp only[zp]
 refine aN rfl _ (by go_simp;first|rfl|exact⟨rfl,rfl⟩) ?_
 simp only[zp]
 refine aN rfl _ (by go_simp;first|rfl|exact⟨rfl,rfl⟩) ?_
 simp only[zp]
 obtain⟨ga,hg⟩: ∃g,g=W2a.heap.size:=⟨_,rfl⟩
 refine aN rfl (w':=W2a.alloc (.cells eu 46 (0,0))) (.pointer (some ⟨ga,0,none⟩)) (by rw[hg];go_simp;try rfl) ?_
 simp only[zp]
 have hz2:(W2a.alloc (.cells eu 46 (0,0))).heap[ga]? =some (.cells eu 46 (0,0)):=by rw[hg];exact ay _ _
 refine wpList_store_row rfl _ _ _ rfl ga (dD (gu (jY++rQ)) Va) (by as_aux_lemma=>kernel_rfl) (by as_aux_lemma=>kernel_rfl) _ eu hz2 (by kernel_rfl) (by as_aux_lemma=>kernel_rfl) (by rw[nD];exact fun u hu=>iP hS2 u (nR.2 hu)) ?_
 simp only[zp]
 refine kC fun W3a hW3=>?_
 obtain⟨xB,kY⟩: ∃xB,xB=W2a.alloc (.cells eu 46 (0,0)):=⟨_,rfl⟩
 rw[<-kY] at hW3 hz2
 have uJ:Ext [ga] xB W3a:=by rw[hW3];exact fK
 have hs3:=uJ.size
 have hs2':xB.heap.size=ga+1:=by rw[kY,hg];simp
 have mV:Below W2a.heap.size W2a W3a:=jf (by rw[kY];exact ak (aG _ _) _) uJ (by omega)
 have ahP:W3a.heap[ga]? =some (.cells (dD (gu (jY++rQ)) Va) 46 (0,0)):=by rw[hW3];exact setRow_heap _ _ _ _ _ _ hz2
 have hb3:=aX hb2 mV
 have apZ:W8.heap.size<=ga:=by omega
 have apU:ga<W3a.heap.size:=by omega
 have H3a:=ae (ag hb3 (ag ahP (ag (hS2.below mV (ai _)) (aK.dR (aA (Ms:=[]) hC (Ext.az mV) (by simp))))))
 clear hX hC hW3 kY uJ mV hb2 hS2 hz2 hK hs2 hs3 hs2' hg hb3
 have aaS:=H3a.o.1
 have Xz:aK 1 W3a (.slice coa (oW (jY++rQ)).length cca) (oW (jY++rQ)).length (ah (oW (jY++rQ))):=H3a.o.2.2.2
 rw[Q7] at Xz⊢
 rw[sQ.2]
 simp only[List.length_cons,List.length_nil,Nat.reduceAdd] at Xz⊢
 have mW:=ae (aX pO.o aaS)
 have hU9:=HU8.o.below aaS (ai _)
 have HV9:=ae (I9.o.below aaS (ai _))
 have HW9:=ae (HW8.o.below aaS (ai _))
 have hlc:16<=cca:=by obtain⟨_,o',c',hv,h1,_⟩:=Xz;cases hv;exact h1
 obtain⟨eb,aa1,rfl,heb,_⟩:=aP.cell (l:=[0,0,0,0,0,0,0,0,0,0,0,0,0,2,6,4]) Xz (k:=0) (by simp)
 have hcut:=aK.cut Xz (l:=13) (k:=16) (by omega) (by omega)
 rw[show sliced (some ⟨eb,aa1,none⟩) 13 16 cca 1= .slice (some ⟨eb,aa1+13,none⟩) 3 (cca-13) from by unfold sliced;rw[aj (by omega)];simp[Addr.add_lit]] at hcut
 have CQ:=ae (show aP W3a (.slice (some ⟨eb,aa1+13,none⟩) 3 (cca-13)) [2,6,4] from hcut)
 obtain⟨ub,aoT,rfl,hub,d1,d2⟩:=bM.cell (l:=[(5,20),(0,15)]) hU9 (k:=0) (by simp)
 obtain⟨ub2,am3,he,_,e1,e2⟩:=bM.cell (l:=[(5,20),(0,15)]) hU9 (k:=1) (by simp)
 injection he with he
 injection he with h1 h2
 subst h1 h2
 simp only[ax,Nat.zero_mul,Nat.one_mul,Nat.add_zero] at d1 d2 e1 e2
 have HI:Hid (∀W,W=W3a.alloc (.cells #[iv 0] 3)->Calls Tryz.prog 35 #[.slice vo 1 vc,.slice (some ⟨W3a.heap.size,0,none⟩) 1 1] W (PV (.bool true) W)):=ae (fun W hW=>Aq [0] _ _ W (by rw[hW];exact HV9.o.alloc _) (by
  have hk:W.heap[W3a.heap.size]? =some (.cells #[iv 0] 3 (0,0)):=by rw[hW];exact ay _ _
  exact aK.dw 1 1 hk rfl (by decide)))
 clear HU8 I9 HW8 HL8 H3a aaS Xz hU9 hcut ahP
 go_wp2_with fail
 refine(HI.o _ rfl).mono ?_
 rintro e FK ⟨rfl,ry⟩
 have Vw:=aX (ak (aG W3a.heap.size W3a) (.cells #[iv 0] 3)) ry
 have zU:=ae (aX mW.o Vw)
 have hcv:(convert 83 9 (.slice wo 10 wc)).run Tryz.prog FK= .ok (.string (dV [48,49,58,97,58,48,50,50,51,10])) FK:=Uk (n:=10) (HW9.o.below Vw (ai _))
 have HC:Hid (∀W,W=FK.alloc (.cells #[iv 2,iv 6,iv 4] 3)->Calls Tryz.prog 36 #[.slice (some ⟨eb,aa1+13,none⟩) 3 (cca-13),.slice (some ⟨FK.heap.size,0,none⟩) 3 3] W (PV (.bool true) W)):=ae (fun W hW=>XT [2,6,4] _ _ W (by rw[hW];exact(CQ.o.below Vw (ai _)).alloc _) (by
  have hk:W.heap[FK.heap.size]? =some (.cells #[iv 2,iv 6,iv 4] 3 (0,0)):=by rw[hW];exact ay _ _
  exact aK.dw 1 3 hk rfl (by decide)))
 clear ry Vw HI d1 d2 e1 e2
 go_wp2_with fail
 refine(HC.o _ rfl).mono ?_
 rintro e W11 ⟨rfl,aid⟩
 have adE:=ae (aX zU.o (aX (ak (aG FK.heap.size FK) (.cells #[iv 2,iv 6,iv 4] 3)) aid))
 clear aid HC hcv
 go_wp2_with fail
 go_returns
 exact⟨rfl,adE.o⟩
theorem Qq (c:bU) (hv nJ tv hu ksu tu:Value) (es ds:List KE) (w:World) (hc:pM w hv nJ tv es c) (hd:pM w hu ksu tu ds c):
 Calls Tryz.prog 24 #[kv hv nJ tv,kv hu ksu tu] w (PV (.bool true) w):=by
 obtain⟨ho,hcap,rfl⟩:=aK.open hc.heaps
 obtain⟨uo,aoU,rfl⟩:=aK.open hd.heaps
 obtain⟨ko,apc,rfl⟩:=aK.open hc.aQ.1
 obtain⟨lo,ao9,rfl⟩:=aK.open hd.aQ.1
 obtain⟨tO,aoV,rfl⟩:=aK.open hc.aJ
 obtain⟨so,scap,rfl⟩:=aK.open hd.aJ
 have hlh:=hc.heaps.len
 have hlk:=hc.aQ.1.len
 have hlt':=hc.aJ.len
 have hed:ds.length=es.length:=by rw[hd.len,hc.len]
 rw[hed]
 have HED:=ae hed
 have HC:=ae (ag hc hd)
 clear hc hd hed
 go_enter Tryz.func24,Tryz.ntmps24
 go_upto_region 1 with(fail)
 refine dH fun W1 hW1=>?_
 obtain⟨hb1,k1,k2,hz1⟩:=sG hW1
 obtain⟨c1,f1,l1⟩:=af k1
 obtain⟨c2,f2',l2⟩:=af k2
 have HB1:=ae hb1
 have HK:=ae (ag k1 k2)
 clear hb1 hW1 k1 k2
 go_wp2_with fail
 go_loopw [5] (fun i wr=> ∃k:Nat,k<=(c.heaps).length/\i= .int .i64 k/\Below W1.heap.size W1 wr) (fun i _=>(c.heaps).length-(intOf i).toNat)
 case atStart=>exact⟨0,bW _,rfl,aG _ _⟩
 case round=>
  obtain⟨k,hk,rfl,hB⟩:=hrel
  obtain⟨c7,f7,l7⟩:=af ((hB.block _ l1).trans HK.o.1)
  obtain⟨c8,f8,l8⟩:=af ((hB.block _ l2).trans HK.o.2)
  by_cases hlt:k<(c.heaps).length
  ·obtain⟨g1,o1,e1,r1,x1,x2⟩:=bM.cell (HC.o.1.heaps.below (aX HB1.o hB) (ai _)) hlt
   obtain⟨g2,o2,e2,r2,y1,y2⟩:=bM.cell (HC.o.2.heaps.below (aX HB1.o hB) (ai _)) hlt
   generalize (c.heaps)[k]=x at*
   have HX:=ae hB
   have xR:(k:Int)<(c.heaps).length:=by omega
   cases e1
   cases e2
   clear hB
   go_wp2_with fail
   go_region
   all_goals go_wp2_with fail
   all_goals go_roundw
   all_goals first
    |exact⟨k+1,by omega,by go_num,iq HX.o⟩
    |(simp[intOf];omega)
  ·have k9:=(hB.block _ l1).trans HK.o.1
   have k10:=(hB.block _ l2).trans HK.o.2
   have HB3:=ae (aX HB1.o hB)
   generalize wr=W3 at*
   have CW:=ae (ag k9 k10)
   clear hB k9 k10
   go_wp2_with fail
   go_loopw [6] (fun i wr=> ∃k:Nat,k<=es.length/\i= .int .i64 k/\Below W3.heap.size W3 wr) (fun i _=>es.length-(intOf i).toNat)
   case atStart=>exact⟨0,bW _,rfl,aG _ _⟩
   case round=>
    obtain⟨k,hk,rfl,hB⟩:=hrel
    obtain⟨c9,f9,l9⟩:=af ((hB.block _ l7).trans CW.o.1)
    obtain⟨c10,f10,l10⟩:=af ((hB.block _ l8).trans CW.o.2)
    by_cases hlt:k<es.length
    ·have hcw:=HC.o.1.aQ.below (aX HB3.o hB) (ai _)
     have hdw:=HC.o.2.aQ.below (aX HB3.o hB) (ai _)
     have aeY:k<ds.length:=by rw[HED.o];exact hlt
     obtain⟨g1,o1,e1,r1,x1⟩:=vT.cell hcw hlt
     obtain⟨g2,o2,e2,r2,y1⟩:=vT.cell hdw aeY
     have i1:=hcw.2 _ (bT hlt)
     have i2:=hdw.2 _ (bT aeY)
     have e3:ds[k].2=es[k].2:=by rw[HC.o.1.mem hlt,HC.o.2.mem aeY]
     rw[e3] at i2
     clear hcw hdw e3
     generalize es[k]=x at*
     generalize ds[k].1=y at*
     obtain⟨xv,xl⟩:=x
     simp only at i1 i2 x1
     obtain⟨xo,xc,rfl⟩:=aK.open i1
     obtain⟨yo,yc,rfl⟩:=aK.open i2
     have HX:=ae hB
     have HI:=ae (fun W (hb:Below wr.heap.size wr W)=>Aq xl _ _ W (i1.below hb (ai _)) (i2.below hb (ai _)))
     have xR:(k:Int)<es.length:=by omega
     cases e1
     cases e2
     clear hB i1 i2
     go_upto_region 11 with(fail)
     refine zg 12 [] none [(10,Spec.val (.bool true))] ?_
     simp only[zt]
     repeat ((first|refine zn ?_|refine zk ?_);simp only[zp])
     refine zw 35 (h:=fun W hE hF=>by
      have hE':Ext [] wr W:=hE
      exact HI.o W hE'.below) (t:=?_)
     simp only[zp]
     repeat ((first|refine zn ?_|refine zk ?_);simp only[zp])
     intro W4 hE hF
     have hb4:Below wr.heap.size wr W4:=Ext.below (show Ext [] wr W4 from hE)
     have HB4:=ae (aX HX.o hb4)
     clear hE hF hb4
     go_wp2_with fail
     go_roundw
     all_goals first
      |exact⟨k+1,by omega,by go_num,HB4.o⟩
      |(simp[intOf];omega)
    ·have k11:=(hB.block _ l7).trans CW.o.1
     have k12:=(hB.block _ l8).trans CW.o.2
     have nM:=ae (aX HB3.o hB)
     have hkl:k=es.length:=by omega
     generalize wr=W5 at*
     have NI:=ae (ag k11 k12)
     clear hB k11 k12
     go_wp2_with fail
     go_loopw [7] (fun i wr=> ∃k:Nat,k<=(c.aJ).length/\i= .int .i64 k/\Below W5.heap.size W5 wr) (fun i _=>(c.aJ).length-(intOf i).toNat)
     case atStart=>exact⟨0,bW _,rfl,aG _ _⟩
     case round=>
      obtain⟨k,hk,rfl,hB⟩:=hrel
      obtain⟨c7,f7,l7⟩:=af ((hB.block _ l9).trans NI.o.1)
      obtain⟨c8,f8,l8⟩:=af ((hB.block _ l10).trans NI.o.2)
      by_cases hlt:k<(c.aJ).length
      ·obtain⟨g1,o1,e1,r1,x1,x2,x3,x4⟩:=vS.cell (HC.o.1.aJ.below (aX nM.o hB) (ai _)) hlt
       obtain⟨g2,o2,e2,r2,y1,y2,y3,y4⟩:=vS.cell (HC.o.2.aJ.below (aX nM.o hB) (ai _)) hlt
       generalize (c.aJ)[k]=x at*
       have HX:=ae hB
       have xR:(k:Int)<(c.aJ).length:=by omega
       cases e1
       cases e2
       clear hB
       go_wp2_with fail
       go_region
       all_goals go_wp2_with fail
       all_goals go_roundw
       all_goals first
        |exact⟨k+1,by omega,by go_num,iq HX.o⟩
        |(simp[intOf];omega)
      ·skip
       have HZ:=ae (aX nM.o hB)
       have hkl:k=(c.aJ).length:=by omega
       clear hB
       go_wp2_with fail
       go_returns
       exact⟨rfl,HZ.o⟩
theorem RN (s:jA) (V U:SV) (es ds:List KE) (w:World) (hS:oD w s V es) (hT:oD w s U ds):
 Calls Tryz.prog 12 #[.agg (dD s V),.agg (dD s U)] w (PV (.bool true) w):=by
 obtain⟨vt,vn,vw,vu,vr,vh,vk,vs⟩:=V
 obtain⟨ut,un,uw,uu,ur,uh,uk,us⟩:=U
 have HS:=ae (fun W (hb:Below w.heap.size w W)=>ag (hS.below hb (ai _)) (hT.below hb (ai _)))
 clear hS hT
 go_enter Tryz.func12,Tryz.ntmps12
 go_upto_region 1 with(fail)
 refine dH fun W1 hW1=>?_
 obtain⟨hb1,k1,k2,hz1⟩:=sG hW1
 have l1:w.heap.size<W1.heap.size:=by omega
 have l2:w.heap.size+1<W1.heap.size:=by omega
 have HB1:=ae hb1
 have HK:=ae (ag k1 k2)
 clear hb1 hW1 k1 k2 hz1
 refine wp_region_lit ?_
 refine wpList_load_row rfl _ _ rfl w.heap.size rfl _ _ _ _ HK.o.1 Tryz.underlying46 rfl (by kernel_rfl) ?_
 simp only[zp]
 refine wpList_load_row rfl _ _ rfl (w.heap.size+1) rfl _ _ _ _ HK.o.2 Tryz.underlying46 rfl (by kernel_rfl) ?_
 simp only[zp]
 go_wp2_with fail
 refine(TU s s _ _ W1 (HS.o W1 HB1.o).1.uK (HS.o W1 HB1.o).2.uK rfl).mono ?_
 rintro e W2 ⟨rfl,hb2⟩
 have HB2:=ae (aX HB1.o hb2)
 have k3:=(hb2.block _ l1).trans HK.o.1
 have k4:=(hb2.block _ l2).trans HK.o.2
 obtain⟨c3,f3,l3⟩:=af k3
 obtain⟨c4,f4,l4⟩:=af k4
 have NM:=ae (ag k3 k4)
 clear hb2 k3 k4
 go_wp2_with fail
 refine(VY s.led s.led _ _ _ _ W2 (HS.o W2 HB2.o).1.QX (HS.o W2 HB2.o).2.QX rfl rfl rfl).mono ?_
 rintro e W3 ⟨rfl,hb3⟩
 have HB3:=ae (aX HB2.o hb3)
 have k3:=(hb3.block _ l3).trans NM.o.1
 have k4:=(hb3.block _ l4).trans NM.o.2
 clear c3 f3 c4 f4
 obtain⟨c5,f5,l5⟩:=af k3
 obtain⟨c6,f6,l6⟩:=af k4
 have CW:=ae (ag k3 k4)
 clear hb3 k3 k4
 go_wp2_with fail
 refine(Xv s.heap _ _ _ _ _ _ W3 (HS.o W3 HB3.o).1.bQ (HS.o W3 HB3.o).1.Fj (HS.o W3 HB3.o).1.Fv (HS.o W3 HB3.o).2.bQ (HS.o W3 HB3.o).2.Fj (HS.o W3 HB3.o).2.Fv).mono ?_
 rintro e W4 ⟨rfl,hb4⟩
 have HB4:=ae (aX HB3.o hb4)
 have k3:=(hb4.block _ l5).trans CW.o.1
 have k4:=(hb4.block _ l6).trans CW.o.2
 clear c5 f5 c6 f6
 obtain⟨c7,f7,l7⟩:=af k3
 obtain⟨c8,f8,l8⟩:=af k4
 clear hb4 k3 k4
 go_wp2_with fail
 refine(Qq s.bP _ _ _ _ _ _ _ _ W4 (HS.o W4 HB4.o).1.bP (HS.o W4 HB4.o).2.bP).mono ?_
 rintro e W5 ⟨rfl,hb5⟩
 have nM:=ae (aX HB4.o hb5)
 clear hb5 c7 f7 c8 f8
 go_wp2_with fail
 go_returns
 exact⟨rfl,nM.o⟩
theorem aaX {ls:List aF} (h1:ls.length<=40) (h2: ∀l∈ls,l.length<=60):eH ls=0:=by
 unfold eH
 rw[aj]
 rintro(h|h)
 ·omega
 ·obtain⟨x,hx,h⟩:=List.any_eq_true.1 h
  have:=h2 x hx
  simp at h
  omega
def ji (a:Act) (is:List Nat) (f:Nat->Value):Act:=is.zipIdx.foldl (fun a p=>a.put (some p.1) (f p.2)) a
theorem acy {P:Program} {r:Code} {Q:Exit->Act->World->Prop} {a:Act} {w:World} (K:Act->World->Prop) (is:List Nat) (M:Value->World->Prop)
 (h1:(∀(vs:List Value) W,M (vs.getD 0 undef) W->K (ji a is fun k=>vs.getD k undef) W)->r.wp P Q a w)
 (h2: ∀(f:Nat->Value) W,M (f 0) W->K (ji a is f) W):r.wp P Q a w:=h1 fun _ W h=>h2 _ W h
theorem pJ (word:aF) (zs:List Int) (n:Nat) (hz: ∀z∈zs,0<=z/\z<10000) (hw:word.length<=100) (hn:zs.length=n) (h10:n<=10) (l:aF) (hl:l=iC word (zs.map Int.toNat)) (W:World) (b:Nat)
 (hb:W.heap[b]? =some (.cells (ah zs).toArray 3 (0,0))):Calls Tryz.prog 53 #[.string (dV word),.slice (some ⟨b,0,none⟩) n n] W (PV (.string (dV l)) W):=by
 subst hl hn
 have e:tX (zs.map Int.toNat)=zs:=by
  have: ∀zs:List Int,(∀z∈zs,0<=z/\z<10000)->tX (zs.map Int.toNat)=zs:=by
   intro zs
   induction zs with
   |nil=>intro _;rfl
   |cons z zs ih=>
    intro h
    have h1:=h z (by simp)
    have h2:=ih fun x hx=>h x (by simp[hx])
    simp only[tX,List.map_cons] at h2⊢
    rw[h2]
    congr 1
    omega
  exact this zs hz
 refine Tc word (zs.map Int.toNat) _ W ?_ hw (by simpa using h10) fun k hk=>?_
 ·rw[e]
  exact aK.dw 1 zs.length hb (by simp[ah]) (by show zs.length<=maxLen;unfold maxLen;omega)
 ·obtain⟨z,h1,rfl⟩:=iV.1 hk
  have:=hz z h1
  omega
theorem Rn {w W1:World} {A B:Array Value} {t u:TypeId} (h:W1=((w.alloc (.cells A t)).alloc (.cells B u)).drew):
 Below w.heap.size w W1/\W1.heap[w.heap.size]? =some (.cells A t (0,0))/\W1.heap[w.heap.size+1]? =some (.cells B u (0,0))/\W1.heap.size=w.heap.size+2:=by
 obtain⟨h1,h2,h3,h4⟩:=U3 (w:=w) (A:=A) (B:=B) (t:=t) (u:=u) rfl
 subst h
 exact⟨iq h1,h2,h3,h4⟩
theorem acx (k n:Nat) (hn:0<n):(k:Int).tmod (n:Int)=((k%n:Nat):Int):=by rw[Int.tmod_eq_emod_of_nonneg (by omega)];omega
theorem Yk (s:jA) (V:SV) (es:List KE) (k:Nat) (w:World) (hk:k<=255) (hS:oD w s V es) (hG:fZ s):
 Calls Tryz.prog 26 #[.agg (dD s V),.int .u8 (k:Int)] w (Fg (lN s k) w):=by
 obtain⟨vt,vn,vw,vu,vr,vh,vk,vs⟩:=V
 obtain⟨qt,kt,e1⟩:=aK.open hS.uK
 obtain⟨qw,kw,e2⟩:=aK.open hS.bQ
 obtain⟨qh,kh,e3⟩:=aK.open hS.bP.heaps
 obtain⟨qk,kc,e4⟩:=aK.open hS.bP.aQ.1
 obtain⟨qn,kn,e5⟩:=aK.open hS.QX
 simp only at e1 e2 e3 e4 e5
 subst e1 e2 e3 e4 e5
 have HS:=ae (fun W (hb:Below w.heap.size w W)=>hS.below hb (ai _))
 have gl:=hG.left;have gr:=hG.rows;have gra:=hG.rate;have gb:=hG.box;have gs:=hG.start
 have H0:=ae (pJ iO.left.word [s.led.field.left.1,s.led.field.left.2] 2 (by intro z hz;simp at hz;omega) (by decide) rfl (by omega) _ rfl)
 have H1:=ae (pJ iO.rate.word [s.led.rate] 1 (by intro z hz;simp at hz;omega) (by decide) rfl (by omega) _ rfl)
 have H2:=ae (pJ iO.box.word [s.led.box.1,s.led.box.2] 2 (by intro z hz;simp at hz;omega) (by decide) rfl (by omega) _ rfl)
 have H3:=ae (pJ iO.start.word [s.heap.start.1,s.heap.start.2] 2 (by intro z hz;simp at hz;omega) (by decide) rfl (by omega) _ rfl)
 clear gl gr gra gb gs
 obtain⟨a0,ha0⟩: ∃a,iC iO.left.word ([s.led.field.left.1,s.led.field.left.2].map Int.toNat)=a:=⟨_,rfl⟩
 obtain⟨a1,ha1⟩: ∃a,iC iO.rate.word ([s.led.rate].map Int.toNat)=a:=⟨_,rfl⟩
 obtain⟨a2,ha2⟩: ∃a,iC iO.box.word ([s.led.box.1,s.led.box.2].map Int.toNat)=a:=⟨_,rfl⟩
 obtain⟨a3,ha3⟩: ∃a,iC iO.start.word ([s.heap.start.1,s.heap.start.2].map Int.toNat)=a:=⟨_,rfl⟩
 rw[ha0] at H0
 rw[ha1] at H1
 rw[ha2] at H2
 rw[ha3] at H3
 have HA:=ae (ag ha0 (ag ha1 (ag ha2 ha3)))
 have HG:=ae hG
 clear hS hG ha0 ha1 ha2 ha3
 go_enter Tryz.func26,Tryz.ntmps26
 go_upto_region 1 with(fail)
 refine dH fun W1 hW1=>?_
 have hb1:Below w.heap.size w W1:=hW1▸ak (aG _ _) _
 have k1:W1.heap[w.heap.size]? =some (.cells (dD s ⟨.slice qt s.led.field.au.length kt,.slice qn s.led.notes.length kn,.slice qw s.heap.bQ.length kw,vu,vr,.slice qh s.bP.heaps.length kh,.slice qk es.length kc,vs⟩) 46 (0,0)):=hW1▸ay _ _
 have l1:w.heap.size<W1.heap.size:=(aV.1 k1).1
 have HB1:=ae hb1
 have VT:=ae k1
 clear hb1 hW1
 obtain⟨cc,ff,ll⟩:=af k1
 clear k1
 go_region
 all_goals
  go_upto_region 2 with(fail)
  refine dH fun W2 hW2=>?_
  obtain⟨hb2,k5,k6,hz2⟩:=Rn hW2
  have HB2:=ae (aX HB1.o hb2)
  have HK:=ae (ag ((hb2.block _ l1).trans VT.o) (ag k5 k6))
  clear cc ff ll hW2 hb2 k5 k6 hz2
  obtain⟨cc,ff,ll⟩:=af HK.o.1
  obtain⟨Y3,Y1,l5⟩:=af HK.o.2.1
  obtain⟨Y2,Y0,l6⟩:=af HK.o.2.2
  refine zg 31 [] none [(6,Spec.slice W2.heap.size #[iv s.led.field.left.1,iv s.led.field.left.2] 3 2),(7,Spec.val (.string (dV a0))),(10,Spec.slice W2.heap.size #[iv s.led.rate] 3 1),(11,Spec.val (.string (dV a1))),(18,Spec.slice W2.heap.size #[iv s.led.box.1,iv s.led.box.2] 3 2),(19,Spec.val (.string (dV a2))),(28,Spec.slice W2.heap.size #[iv s.heap.start.1,iv s.heap.start.2] 3 2),(29,Spec.val (.string (dV a3))),(30,Spec.slice W2.heap.size #[.string (dV a0),.string (dV a1),.string (dV a2),.string (dV a3)] 9 4)] ?_
  simp only[zt]
  repeat ((first|refine zn ?_|refine zk ?_);simp only[zp])
  refine cu W2.heap.size _ _ _ (by rfl) (ai _) (by rfl) (by simp) (by simp) (fun W hW=>by go_simp;try rfl) (fun x0=>?_)
  simp only[zp]
  refine dK _ (by rfl) (by rfl) 53 _ (fun W hW=>by go_simp;try rfl) (fun W hE hF=>by
   obtain⟨b',hb',_,hblk⟩:=hF _ (bg _) (by as_aux_lemma=>kernel_rfl)
   cases hb'
   exact H0.o W _ hblk) ?_
  simp only[zp]
  repeat ((first|refine zn ?_|refine zk ?_);simp only[zp])
  refine cu W2.heap.size _ _ _ (by rfl) (ai _) (by rfl) (by simp) (by simp) (fun W hW=>by go_simp;try rfl) (fun x1=>?_)
  simp only[zp]
  refine dK _ (by rfl) (by rfl) 53 _ (fun W hW=>by go_simp;try rfl) (fun W hE hF=>by
   obtain⟨b',hb',_,hblk⟩:=hF _ (bg _) (by as_aux_lemma=>kernel_rfl)
   cases hb'
   exact H1.o W _ hblk) ?_
  simp only[zp]
  repeat ((first|refine zn ?_|refine zk ?_);simp only[zp])
  refine cu W2.heap.size _ _ _ (by rfl) (ai _) (by rfl) (by simp) (by simp) (fun W hW=>by go_simp;try rfl) (fun x2=>?_)
  simp only[zp]
  refine dK _ (by rfl) (by rfl) 53 _ (fun W hW=>by go_simp;try rfl) (fun W hE hF=>by
   obtain⟨b',hb',_,hblk⟩:=hF _ (bg _) (by as_aux_lemma=>kernel_rfl)
   cases hb'
   exact H2.o W _ hblk) ?_
  simp only[zp]
  repeat ((first|refine zn ?_|refine zk ?_);simp only[zp])
  refine cu W2.heap.size _ _ _ (by rfl) (ai _) (by rfl) (by simp) (by simp) (fun W hW=>by go_simp;try rfl) (fun x3=>?_)
  simp only[zp]
  refine dK _ (by rfl) (by rfl) 53 _ (fun W hW=>by go_simp;try rfl) (fun W hE hF=>by
   obtain⟨b',hb',_,hblk⟩:=hF _ (bg _) (by as_aux_lemma=>kernel_rfl)
   cases hb'
   exact H3.o W _ hblk) ?_
  simp only[zp]
  refine cu W2.heap.size _ _ _ (by rfl) (ai _) (by rfl) (by simp) (by simp) (fun W hW=>by go_simp;try rfl) (fun y0=>?_)
  simp only[zp]
  intro W3 uJ hF3
  obtain⟨b9,rW,aaK,vg⟩:=hF3 _ (bg _)
  cases rW
  have aiv:Ext [] W2 W3:=uJ
  have HB3:=ae aiv.below
  have HO3:=ae (show W3.ownsRow W2.heap.size 9 1 (.slice (some ⟨y0,0,none⟩) 4 4) 4 (aZ [a0,a1,a2,a3]) from iF (cs:=(aZ [a0,a1,a2,a3]).toArray) (n:=4) vg rfl aaK (by decide))
  have CW:=ae (ag ((HB3.o.block _ ll).trans HK.o.1) (ag ((HB3.o.block _ l5).trans HK.o.2.1) ((HB3.o.block _ l6).trans HK.o.2.2)))
  clear uJ hF3 aiv vg cc ff Y3 Y1 Y2 Y0
  obtain⟨cc,ff,ll3⟩:=af CW.o.1
  obtain⟨Y3,Y1,l53⟩:=af CW.o.2.1
  obtain⟨Y2,Y0,l63⟩:=af CW.o.2.2
  go_upto_region 3 with(fail)
  rename_i K1 hK1 K2 hK2
  obtain⟨T,hT⟩: ∃T,T=(if 0<s.led.field.au.length then[iC iO.xP.word [k%s.led.field.au.length,(s.led.field.au.getD (k%s.led.field.au.length) (0,0,0,(0,0))).2.2.2.1.toNat,(s.led.field.au.getD (k%s.led.field.au.length) (0,0,0,(0,0))).2.2.2.2.toNat]] else[]):=⟨_,rfl⟩
  have HT:=ae hT
  clear hT
  refine acy K1 [8,9,51,52,53,54,55,56,57,58,59,60,61,62,63,64,65,66,67,68,69,70,71,72,73,74,75,76,77,78,79,80,81] (fun v W=> ∃o c n,v= .slice o n c/\n=([a0,a1,a2,a3]++T).length/\n<=5/\W.ownsRow W2.heap.size 9 1 (.slice o n c) n (aZ ([a0,a1,a2,a3]++T))/\Below W2.heap.size W2 W) ?_ ?_
  ·intro hM0
   have hM:=fun x0 x1 x2 x3 x4 x5 x6 x7 x8 x9 x10 x11 x12 x13 x14 x15 x16 x17 x18 x19 x20 x21 x22 x23 x24 x25 x26 x27 x28 x29 x30 x31 x32 W h=>hM0 [x0,x1,x2,x3,x4,x5,x6,x7,x8,x9,x10,x11,x12,x13,x14,x15,x16,x17,x18,x19,x20,x21,x22,x23,x24,x25,x26,x27,x28,x29,x30,x31,x32] W h
   clear hM0 hK1
   simp only[ji,List.zipIdx_cons,List.zipIdx_nil,List.foldl_cons,List.foldl_nil,dB,zp,Nat.zero_add,Nat.reduceAdd] at hM
   have HM:=ae hM
   clear hM
   by_cases ht:0<s.led.field.au.length
   ·skip
    obtain⟨jt,hjt⟩: ∃j,k%s.led.field.au.length=j:=⟨_,rfl⟩
    have hlt:jt<s.led.field.au.length:=hjt▸Nat.mod_lt _ ht
    have hmt:(k:Int).tmod (s.led.field.au.length:Int)=(jt:Int):=by rw[acx k _ ht,hjt]
    have hit:(0:Int)<s.led.field.au.length:=by omega
    have hzt: ¬s.led.field.au=[]:=fun h=>by rw[h] at hlt;exact absurd hlt (Nat.not_lt_zero _)
    obtain⟨tb,akd,rfl,htb,t0,t1,t2,t3,t4⟩:=dJ.cell (HS.o W3 (aX HB2.o HB3.o)).uK hlt
    obtain⟨x,hx⟩: ∃x,s.led.field.au[jt]=x:=⟨_,rfl⟩
    rw[hx] at t3 t4
    have hxb:=HG.o.uK x (hx▸bT _)
    have hrw:=HG.o.rows
    have H4:=ae (pJ iO.xP.word [(jt:Int),x.2.2.2.1,x.2.2.2.2] 3 (by have:=HG.o.Ah;intro z hz;simp at hz;omega) (by decide) rfl (by omega) _ rfl)
    obtain⟨a4,ha4⟩: ∃a,iC iO.xP.word ([(jt:Int),x.2.2.2.1,x.2.2.2.2].map Int.toNat)=a:=⟨_,rfl⟩
    rw[ha4] at H4
    have hT:T=[a4]:=by
     rw[HT.o,aC ht,hjt,eY,dA hlt,hx, <-ha4];rfl
    clear HT
    subst hT
    clear hjt hx ha4 hxb hrw t0 t1 t2
    go_upto_region 5 with(fail)
    refine zg 25 [] none [(22,Spec.slice W3.heap.size #[iv (jt:Int),iv x.2.2.2.1,iv x.2.2.2.2] 3 3),(23,Spec.val (.string (dV a4))),(24,Spec.slice W3.heap.size #[.string (dV a4)] 9 1)] ?_
    simp only[zt]
    repeat ((first|refine zn ?_|refine zk ?_);simp only[zp])
    refine cu W3.heap.size _ _ _ (by rfl) (ai _) (by rfl) (by simp) (by simp) (fun W hW=>by go_simp;try rfl) (fun x4=>?_)
    simp only[zp]
    refine dK _ (by rfl) (by rfl) 53 _ (fun W hW=>by go_simp;try rfl) (fun W hE hF=>by
     obtain⟨b',hb',_,hblk⟩:=hF _ (bg _) (by as_aux_lemma=>kernel_rfl)
     cases hb'
     exact H4.o W _ hblk) ?_
    simp only[zp]
    refine cu W3.heap.size _ _ _ (by rfl) (ai _) (by rfl) (by simp) (by simp) (fun W hW=>by go_simp;try rfl) (fun y4=>?_)
    simp only[zp]
    intro W9 NK PG
    obtain⟨b9,rW,aaK,vg⟩:=PG _ (bg _)
    cases rW
    have AP:Ext [] W3 W9:=NK
    have YR:=ae vg
    have HOWN:=ae (aA (Ms:=[]) HO3.o AP (by simp))
    have mW:=ae (aX HB3.o AP.below)
    clear NK PG AP vg
    go_wp2_with (at_builtin;go_loud (refine dF rfl _ _ Bj rfl W2.heap.size (.slice (some ⟨y0,0,none⟩) 4 4) 4 (aZ [a0,a1,a2,a3]) rfl HOWN.o (.slice (some ⟨y4,0,none⟩) 1 1) 1 (aZ [a4]) rfl (aK.dw 1 1 YR.o rfl (by decide)) (sZ _) (by omega) (by omega) (by have:=mW.o.size;omega) ?_))
    intro v9 W4 og Hq _
    obtain⟨o4,c4,rfl⟩:=aT og
    have HB4:=ae (Below.grown mW.o Hq (by have:=mW.o.size;omega) (fun g e=>(bH HOWN.o g e).1))
    have UY:Hid (W4.ownsRow W2.heap.size 9 1 (.slice o4 (4+1) c4) (4+1) (aZ ([a0,a1,a2,a3]++[a4]))):=ae (by simpa [aZ] using og)
    clear og Hq YR HOWN mW
    go_wp2_with fail
    apply HM.o
    exact⟨_,_,_,rfl,rfl,by omega,UY.o,HB4.o⟩
   ·have hT:T=[]:=by rw[HT.o,aj ht]
    clear HT
    subst hT
    have htI: ¬(0:Int)<s.led.field.au.length:=by omega
    go_wp2_with fail
    all_goals
     apply HM.o
     exact⟨_,_,_,rfl,rfl,by omega,HO3.o,HB3.o⟩
  ·intro f W4 hm
   obtain⟨o5,k5,n5,hf0,hn5,ahs,ho5,hb5⟩:=hm
   refine hK1 _ _ ?_
   simp only[ji,List.zipIdx_cons,List.zipIdx_nil,List.foldl_cons,List.foldl_nil,zp,Nat.zero_add,Nat.reduceAdd]
   rw[hf0]
   have HO5:=ae ho5
   have nM:=ae hb5
   have HN5:=ae hn5
   clear hf0 ho5 hb5 hn5 hK1 hK2 cc ff ll3 Y3 Y1 l53 Y2 Y0 l63
   have NI:=ae (ag ((nM.o.block _ ll).trans HK.o.1) (ag ((nM.o.block _ l5).trans HK.o.2.1) ((nM.o.block _ l6).trans HK.o.2.2)))
   obtain⟨cc,ff,ll3⟩:=af NI.o.1
   obtain⟨Y3,Y1,l53⟩:=af NI.o.2.1
   obtain⟨Y2,Y0,l63⟩:=af NI.o.2.2
   have hwp:0<s.heap.bQ.length:=by have:=HG.o.CY;omega
   obtain⟨jw,hjw⟩: ∃j,k%s.heap.bQ.length=j:=⟨_,rfl⟩
   have hlw:jw<s.heap.bQ.length:=hjw▸Nat.mod_lt _ hwp
   have hmw:(k:Int).tmod (s.heap.bQ.length:Int)=(jw:Int):=by rw[acx k _ hwp,hjw]
   have hiw:(0:Int)<s.heap.bQ.length:=by omega
   have hzw: ¬s.heap.bQ=[]:=fun h=>by rw[h] at hlw;exact absurd hlw (Nat.not_lt_zero _)
   obtain⟨tb,akd,rfl,htb,t3,t4⟩:=bM.cell (HS.o W4 (aX HB2.o nM.o)).bQ hlw
   obtain⟨x,hx⟩: ∃x,s.heap.bQ[jw]=x:=⟨_,rfl⟩
   rw[hx] at t3 t4
   have hxb:=HG.o.bQ x (hx▸bT _)
   have H5:=ae (pJ iO.bQ.word [(jw:Int),x.1,x.2] 3 (by have:=HG.o.CY;intro z hz;simp at hz;omega) (by decide) rfl (by omega) _ rfl)
   obtain⟨a5,ha5⟩: ∃a,iC iO.bQ.word ([(jw:Int),x.1,x.2].map Int.toNat)=a:=⟨_,rfl⟩
   rw[ha5] at H5
   have HA5:=ae (show iC iO.bQ.word [k%s.heap.bQ.length,(s.heap.bQ.getD (k%s.heap.bQ.length) (0,0)).1.toNat,(s.heap.bQ.getD (k%s.heap.bQ.length) (0,0)).2.toNat]=a5 by
    rw[hjw,eY,dA hlw,hx, <-ha5];rfl)
   clear hjw hx ha5 hxb hwp
   go_upto_region 8 with(fail)
   refine zg 25 [] none [(22,Spec.slice W4.heap.size #[iv (jw:Int),iv x.1,iv x.2] 3 3),(23,Spec.val (.string (dV a5))),(24,Spec.slice W4.heap.size #[.string (dV a5)] 9 1)] ?_
   simp only[zt]
   repeat ((first|refine zn ?_|refine zk ?_);simp only[zp])
   refine cu W4.heap.size _ _ _ (by rfl) (ai _) (by rfl) (by simp) (by simp) (fun W hW=>by go_simp;try rfl) (fun x6=>?_)
   simp only[zp]
   refine dK _ (by rfl) (by rfl) 53 _ (fun W hW=>by go_simp;try rfl) (fun W hE hF=>by
    obtain⟨b',hb',_,hblk⟩:=hF _ (bg _) (by as_aux_lemma=>kernel_rfl)
    cases hb'
    exact H5.o W _ hblk) ?_
   simp only[zp]
   refine cu W4.heap.size _ _ _ (by rfl) (ai _) (by rfl) (by simp) (by simp) (fun W hW=>by go_simp;try rfl) (fun y6=>?_)
   simp only[zp]
   intro W9 NK PG
   obtain⟨b9,rW,aaK,vg⟩:=PG _ (bg _)
   cases rW
   have AP:Ext [] W4 W9:=NK
   have YR:=ae vg
   have HOWN:=ae (aA (Ms:=[]) HO5.o AP (by simp))
   have mW:=ae (aX nM.o AP.below)
   clear NK PG AP vg
   go_wp2_with (at_builtin;go_loud (refine dF rfl _ _ Bj rfl W2.heap.size (.slice o5 n5 k5) n5 (aZ ([a0,a1,a2,a3]++T)) rfl HOWN.o (.slice (some ⟨y6,0,none⟩) 1 1) 1 (aZ [a5]) rfl (aK.dw 1 1 YR.o rfl (by decide)) (sZ _) (by omega) (by omega) (by have:=mW.o.size;omega) ?_))
   intro v9 W6 og Hq _
   obtain⟨o6,c6,rfl⟩:=aT og
   have qo:=ae (Below.grown mW.o Hq (by have:=mW.o.size;omega) (fun g e=>(bH HOWN.o g e).1))
   have F6:Hid (W6.ownsRow W2.heap.size 9 1 (.slice o6 (n5+1) c6) (n5+1) (aZ (([a0,a1,a2,a3]++T)++[a5]))):=ae (by simpa [aZ] using og)
   clear og Hq YR HOWN mW
   clear cc ff ll3 Y3 Y1 l53 Y2 Y0 l63 t3 t4 htb hlw hmw hiw
   have HK6:=ae (ag ((qo.o.block _ ll).trans HK.o.1) (ag ((qo.o.block _ l5).trans HK.o.2.1) ((qo.o.block _ l6).trans HK.o.2.2)))
   obtain⟨cc,ff,ll3⟩:=af HK6.o.1
   obtain⟨Y3,Y1,l53⟩:=af HK6.o.2.1
   obtain⟨Y2,Y0,l63⟩:=af HK6.o.2.2
   have hhp:0<s.bP.heaps.length:=by have:=HG.o.yT;omega
   obtain⟨jh,hjh⟩: ∃j,k%s.bP.heaps.length=j:=⟨_,rfl⟩
   have hlh:jh<s.bP.heaps.length:=hjh▸Nat.mod_lt _ hhp
   have hmh:(k:Int).tmod (s.bP.heaps.length:Int)=(jh:Int):=by rw[acx k _ hhp,hjh]
   have hih:(0:Int)<s.bP.heaps.length:=by omega
   have hzh: ¬s.bP.heaps=[]:=fun h=>by rw[h] at hlh;exact absurd hlh (Nat.not_lt_zero _)
   obtain⟨tb2,am5,rfl,htb,t3,t4⟩:=bM.cell (HS.o W6 (aX HB2.o qo.o)).bP.heaps hlh
   obtain⟨y,hy⟩: ∃x,s.bP.heaps[jh]=x:=⟨_,rfl⟩
   rw[hy] at t3 t4
   have hyb:=HG.o.bP y (hy▸bT _)
   have H6:=ae (pJ iO.strong.word [(jh:Int),y.1,y.2] 3 (by have:=HG.o.yT;intro z hz;simp at hz;omega) (by decide) rfl (by omega) _ rfl)
   obtain⟨a6,ha6⟩: ∃a,iC iO.strong.word ([(jh:Int),y.1,y.2].map Int.toNat)=a:=⟨_,rfl⟩
   rw[ha6] at H6
   have HA6:=ae (show iC iO.strong.word [k%s.bP.heaps.length,(s.bP.heaps.getD (k%s.bP.heaps.length) (0,0)).1.toNat,(s.bP.heaps.getD (k%s.bP.heaps.length) (0,0)).2.toNat]=a6 by
    rw[hjh,eY,dA hlh,hy, <-ha6];rfl)
   clear hy ha6 hyb
   go_upto_region 11 with(fail)
   refine zg 25 [] none [(22,Spec.slice W6.heap.size #[iv (jh:Int),iv y.1,iv y.2] 3 3),(23,Spec.val (.string (dV a6))),(24,Spec.slice W6.heap.size #[.string (dV a6)] 9 1)] ?_
   simp only[zt]
   repeat ((first|refine zn ?_|refine zk ?_);simp only[zp])
   refine cu W6.heap.size _ _ _ (by rfl) (ai _) (by rfl) (by simp) (by simp) (fun W hW=>by go_simp;try rfl) (fun x7=>?_)
   simp only[zp]
   refine dK _ (by rfl) (by rfl) 53 _ (fun W hW=>by go_simp;try rfl) (fun W hE hF=>by
    obtain⟨b',hb',_,hblk⟩:=hF _ (bg _) (by as_aux_lemma=>kernel_rfl)
    cases hb'
    exact H6.o W _ hblk) ?_
   simp only[zp]
   refine cu W6.heap.size _ _ _ (by rfl) (ai _) (by rfl) (by simp) (by simp) (fun W hW=>by go_simp;try rfl) (fun y7=>?_)
   simp only[zp]
   intro W9 NK PG
   obtain⟨b9,rW,aaK,vg⟩:=PG _ (bg _)
   cases rW
   have AP:Ext [] W6 W9:=NK
   have YR:=ae vg
   have HOWN:=ae (aA (Ms:=[]) F6.o AP (by simp))
   have mW:=ae (aX qo.o AP.below)
   clear NK PG AP vg
   go_wp2_with (at_builtin;go_loud (refine dF rfl _ _ Bj rfl W2.heap.size (.slice o6 (n5+1) c6) (n5+1) (aZ ([a0,a1,a2,a3]++T++[a5])) rfl HOWN.o (.slice (some ⟨y7,0,none⟩) 1 1) 1 (aZ [a6]) rfl (aK.dw 1 1 YR.o rfl (by decide)) (sZ _) (by omega) (by omega) (by have:=mW.o.size;omega) ?_))
   intro v9 W7 og Hq _
   obtain⟨o7,c7,rfl⟩:=aT og
   have xN:=ae (Below.grown mW.o Hq (by have:=mW.o.size;omega) (fun g e=>(bH HOWN.o g e).1))
   have HO7:Hid (W7.ownsRow W2.heap.size 9 1 (.slice o7 ((n5+1)+1) c7) ((n5+1)+1) (aZ (([a0,a1,a2,a3]++T++[a5])++[a6]))):=ae (by simpa [aZ] using og)
   clear og Hq YR HOWN mW
   clear cc ff ll3 Y3 Y1 l53 Y2 Y0 l63 t3 t4
   have wR:=ae (ag ((xN.o.block _ ll).trans HK.o.1) (ag ((xN.o.block _ l5).trans HK.o.2.1) ((xN.o.block _ l6).trans HK.o.2.2)))
   obtain⟨cc,ff,ll3⟩:=af wR.o.1
   obtain⟨Y3,Y1,l53⟩:=af wR.o.2.1
   obtain⟨Y2,Y0,l63⟩:=af wR.o.2.2
   have hS7:=HS.o W7 (aX HB2.o xN.o)
   have hcl:es.length=s.bP.aQ.length:=hS7.bP.len
   by_cases hc:0<es.length
   ·skip
    obtain⟨jc,hjc⟩: ∃j,k%es.length=j:=⟨_,rfl⟩
    have hlc:jc<es.length:=hjc▸Nat.mod_lt _ hc
    have hmc:(k:Int).tmod (es.length:Int)=(jc:Int):=by rw[acx k _ hc,hjc]
    have hic:(0:Int)<es.length:=by omega
    have hzc: ¬es=[]:=fun h=>by rw[h] at hlc;exact absurd hlc (Nat.not_lt_zero _)
    obtain⟨kb,akq,rfl,hkb,u0⟩:=vT.cell hS7.bP.aQ hlc
    have i1:=hS7.bP.aQ.2 _ (bT hlc)
    have hmem:=hS7.bP.mem hlc
    have hck:=HG.o.oL _ (bT (show jc<s.bP.aQ.length by omega))
    obtain⟨e,he⟩: ∃e,es[jc]=e:=⟨_,rfl⟩
    rw[<-hmem] at hck
    rw[he] at u0 i1 hmem hck
    obtain⟨xv,xl⟩:=e
    simp only at u0 i1 hmem hck
    obtain⟨xo,xc,rfl⟩:=aK.open i1
    have hx7:xl.length=s.bP.heaps.length:=hck.1
    obtain⟨ib,ioff,rfl,hib,u1⟩:=aP.cell (l:=xl) i1 (k:=jh) (by omega)
    obtain⟨z,hz⟩: ∃z,xl[jh]'(by omega)=z:=⟨_,rfl⟩
    rw[hz] at u1
    have hzb:=hck.2.1 z (hz▸bT _)
    rw[hx7] at u0
    have H7:=ae (pJ iO.fill.word [(jc:Int),(jh:Int),z] 3 (by have:=HG.o.aQ;have:=HG.o.yT;intro z hz;simp at hz;omega) (by decide) rfl (by omega) _ rfl)
    obtain⟨a7,ha7⟩: ∃a,iC iO.fill.word ([(jc:Int),(jh:Int),z].map Int.toNat)=a:=⟨_,rfl⟩
    rw[ha7] at H7
    have HA7:=ae (show(if 0<s.bP.aQ.length/\0<s.bP.heaps.length/\(s.bP.aQ.getD (k%s.bP.aQ.length) []).length=s.bP.heaps.length then
     [iC iO.fill.word [k%s.bP.aQ.length,k%s.bP.heaps.length,((s.bP.aQ.getD (k%s.bP.aQ.length) []).getD (k%s.bP.heaps.length) 0).toNat]] else[])=[a7] by
     have g:s.bP.aQ.getD (k%s.bP.aQ.length) []=xl:=by rw[<-hcl,hjc,eY,dA (by omega)];exact hmem.symm
     rw[g,hjh,aC ⟨by omega,by omega,hx7⟩, <-hcl,hjc,eY,dA (by omega),hz, <-ha7];rfl)
    clear hS7 hcl i1 hmem hck he hx7 hz hzb ha7 hjc hjh
    go_upto_region 13 with(fail)
    refine zg 19 [] none [] ?_
    simp only[zt]
    repeat ((first|refine zn ?_|refine zk ?_);simp only[zp])
    intro FK aaR afm
    have Ia:Ext [] W7 FK:=aaR
    have ry:=Ia.below
    have afX:=ae (aA (Ms:=[]) HO7.o Ia (by simp))
    have zU:=ae (aX xN.o ry)
    clear aaR afm Ia cc ff ll3 Y3 Y1 l53 Y2 Y0 l63
    have JD:=ae (ag ((zU.o.block _ ll).trans HK.o.1) (ag ((zU.o.block _ l5).trans HK.o.2.1) ((zU.o.block _ l6).trans HK.o.2.2)))
    obtain⟨cc,ff,ll3⟩:=af JD.o.1
    obtain⟨Y3,Y1,l53⟩:=af JD.o.2.1
    obtain⟨Y2,Y0,l63⟩:=af JD.o.2.2
    have v0:=((bV ry).1 kb (akq+jc) hkb).trans u0
    have v1:=((bV ry).1 ib (ioff+jh) hib).trans u1
    have hkb':=fP hkb ry.size
    have apS:=fP hib ry.size
    clear ry u0 u1 hkb hib
    go_upto_region 14 with(fail)
    refine zg 23 [] none [(20,Spec.slice FK.heap.size #[iv (jc:Int),iv (jh:Int),iv z] 3 3),(21,Spec.val (.string (dV a7))),(22,Spec.slice FK.heap.size #[.string (dV a7)] 9 1)] ?_
    simp only[zt]
    repeat ((first|refine zn ?_|refine zk ?_);simp only[zp])
    refine cu FK.heap.size _ _ _ (by rfl) (ai _) (by rfl) (by simp) (by simp) (fun W hW=>by go_simp;try rfl) (fun x8=>?_)
    simp only[zp]
    refine dK _ (by rfl) (by rfl) 53 _ (fun W hW=>by go_simp;try rfl) (fun W hE hF=>by
     obtain⟨b',hb',_,hblk⟩:=hF _ (bg _) (by as_aux_lemma=>kernel_rfl)
     cases hb'
     exact H7.o W _ hblk) ?_
    simp only[zp]
    refine cu FK.heap.size _ _ _ (by rfl) (ai _) (by rfl) (by simp) (by simp) (fun W hW=>by go_simp;try rfl) (fun y8=>?_)
    simp only[zp]
    intro W9 NK PG
    obtain⟨b9,rW,aaK,vg⟩:=PG _ (bg _)
    cases rW
    have AP:Ext [] FK W9:=NK
    have YR:=ae vg
    have HOWN:=ae (aA (Ms:=[]) afX.o AP (by simp))
    have mW:=ae (aX zU.o AP.below)
    clear NK PG AP vg
    go_wp2_with (at_builtin;go_loud (refine dF rfl _ _ Bj rfl W2.heap.size (.slice o7 (n5+1+1) c7) (n5+1+1) (aZ ([a0,a1,a2,a3]++T++[a5]++[a6])) rfl HOWN.o (.slice (some ⟨y8,0,none⟩) 1 1) 1 (aZ [a7]) rfl (aK.dw 1 1 YR.o rfl (by decide)) (sZ _) (by omega) (by omega) (by have:=mW.o.size;omega) ?_))
    intro v9 W8 og Hq _
    obtain⟨o8,c8,rfl⟩:=aT og
    have pO:=ae (Below.grown mW.o Hq (by have:=mW.o.size;omega) (fun g e=>(bH HOWN.o g e).1))
    have HO8:Hid (W8.ownsRow W2.heap.size 9 1 (.slice o8 ((n5+1+1)+1) c8) ((n5+1+1)+1) (aZ (([a0,a1,a2,a3]++T++[a5]++[a6])++[a7]))):=ae (by simpa [aZ] using og)
    clear og Hq YR HOWN mW
    have hfin:lN s k=[a0,a1,a2,a3]++T++[a5]++[a6]++[a7]:=by
     unfold lN
     rw[<-HT.o,aC (show 0<s.heap.bQ.length by have:=HG.o.CY;omega),HA5.o,aC (show 0<s.bP.heaps.length by have:=HG.o.yT;omega),HA6.o,HA7.o,show iC iO.left.word [s.led.field.left.1.toNat,s.led.field.left.2.toNat]=a0 from HA.o.1,
      show iC iO.rate.word [s.led.rate.toNat]=a1 from HA.o.2.1,show iC iO.box.word [s.led.box.1.toNat,s.led.box.2.toNat]=a2 from HA.o.2.2.1,show iC iO.start.word [s.heap.start.1.toNat,s.heap.start.2.toNat]=a3 from HA.o.2.2.2]
    have hlen:n5+1+1+1=(lN s k).length:=by rw[hfin,HN5.o];simp only[dE,List.length_cons,List.length_nil,Nat.add_zero,Nat.zero_add]
    have abK:=ae (ag hfin hlen)
    clear hfin hlen
    go_wp2_with fail
    go_returns
    unfold Fg
    rw[<-abK.o.2,abK.o.1]
    exact⟨_,_,rfl,bY HO8.o HB2.o.size,aX HB2.o pO.o⟩
   ·have hic: ¬(0:Int)<es.length:=by omega
    have HA7:=ae (show(if 0<s.bP.aQ.length/\0<s.bP.heaps.length/\(s.bP.aQ.getD (k%s.bP.aQ.length) []).length=s.bP.heaps.length then
     [iC iO.fill.word [k%s.bP.aQ.length,k%s.bP.heaps.length,((s.bP.aQ.getD (k%s.bP.aQ.length) []).getD (k%s.bP.heaps.length) 0).toNat]] else[])=[] by
     rw[aj]
     rintro⟨h,_⟩
     omega)
    clear hS7 hcl hjh
    go_upto_region 13 with(fail)
    refine zg 19 [] none [] ?_
    simp only[zt]
    repeat ((first|refine zn ?_|refine zk ?_);simp only[zp])
    intro FK aaR afm
    have Ia:Ext [] W7 FK:=aaR
    have ry:=Ia.below
    have afX:=ae (aA (Ms:=[]) HO7.o Ia (by simp))
    have zU:=ae (aX xN.o ry)
    clear aaR afm Ia cc ff ll3 Y3 Y1 l53 Y2 Y0 l63
    have JD:=ae (ag ((zU.o.block _ ll).trans HK.o.1) (ag ((zU.o.block _ l5).trans HK.o.2.1) ((zU.o.block _ l6).trans HK.o.2.2)))
    obtain⟨cc,ff,ll3⟩:=af JD.o.1
    obtain⟨Y3,Y1,l53⟩:=af JD.o.2.1
    obtain⟨Y2,Y0,l63⟩:=af JD.o.2.2
    clear ry
    have HO8:Hid (FK.ownsRow W2.heap.size 9 1 (.slice o7 (n5+1+1) c7) (n5+1+1) (aZ ([a0,a1,a2,a3]++T++[a5]++[a6]++[]))):=ae (by rw[List.append_nil];exact afX.o)
    have hfin:lN s k=[a0,a1,a2,a3]++T++[a5]++[a6]++[]:=by
     unfold lN
     rw[<-HT.o,aC (show 0<s.heap.bQ.length by have:=HG.o.CY;omega),HA5.o,aC (show 0<s.bP.heaps.length by have:=HG.o.yT;omega),HA6.o,HA7.o,show iC iO.left.word [s.led.field.left.1.toNat,s.led.field.left.2.toNat]=a0 from HA.o.1,
      show iC iO.rate.word [s.led.rate.toNat]=a1 from HA.o.2.1,show iC iO.box.word [s.led.box.1.toNat,s.led.box.2.toNat]=a2 from HA.o.2.2.1,show iC iO.start.word [s.heap.start.1.toNat,s.heap.start.2.toNat]=a3 from HA.o.2.2.2]
    have hlen:n5+1+1=(lN s k).length:=by rw[hfin,HN5.o];simp only[dE,List.length_cons,List.length_nil,Nat.add_zero,Nat.zero_add]
    have abK:=ae (ag hfin hlen)
    clear hfin hlen
    go_wp2_with fail
    go_returns
    unfold Fg
    rw[<-abK.o.2,abK.o.1]
    exact⟨_,_,rfl,bY HO8.o HB2.o.size,aX HB2.o zU.o⟩
theorem Le {s:jA} (hG:fZ s) (k:Nat):5<=(lN s k).length/\(lN s k).length<=8:=by
 have h1:=hG.CY
 have h2:=hG.yT
 unfold lN
 rw[aC (show 0<s.heap.bQ.length by omega),aC (show 0<s.bP.heaps.length by omega)]
 simp only[dE,List.length_cons,List.length_nil]
 constructor <;>split <;>split <;>simp
theorem getD_mem {α:Type} {l:List α} {j:Nat} (h:j<l.length) (d:α):l.getD j d∈l:=by
 rw[eY,dA h,Option.getD_some]
 exact bT h
theorem QI {s:jA} (hG:fZ s) (k:Nat): ∀l∈lN s k,l.length<=60:=by
 intro l hl
 have bd: ∀(w:aF) (ns:List Nat),w.length<=10->ns.length<=3->(∀k∈ns,k<10000)->(iC w ns).length<=60:=fun w ns h1 h2 h3=>by
  have:=Ky ns w h3
  omega
 have b3: ∀{a b c:Nat},a<10000->b<10000->c<10000-> ∀k∈[a,b,c],k<10000:=fun h1 h2 h3 k hk=>by simp at hk;omega
 unfold lN at hl
 simp only[iE,gK,List.not_mem_nil,or_false] at hl
 have gl:=hG.left;have gr:=hG.rows;have gra:=hG.rate;have gb:=hG.box;have gs:=hG.start
 rcases hl with(((((rfl|rfl|rfl|rfl)|hl)|hl)|hl)|hl)
 ·exact bd _ _ (by decide) (by simp) fun k hk=>by simp at hk;omega
 ·exact bd _ _ (by decide) (by simp) fun k hk=>by simp at hk;omega
 ·exact bd _ _ (by decide) (by simp) fun k hk=>by simp at hk;omega
 ·exact bd _ _ (by decide) (by simp) fun k hk=>by simp at hk;omega
 ·split at hl
  ·rename_i hp
   obtain rfl:=dZ.1 hl
   have hk:=Nat.mod_lt k hp
   have h5:=hG.Ah
   have ht:=hG.uK _ (getD_mem hk (0,0,0,(0,0)))
   exact bd _ _ (by decide) (by simp) (b3 (by omega) (by omega) (by omega))
  ·cases hl
 ·split at hl
  ·rename_i hp
   obtain rfl:=dZ.1 hl
   have hk:=Nat.mod_lt k hp
   have h5:=hG.CY
   have ht:=hG.bQ _ (getD_mem hk (0,0))
   exact bd _ _ (by decide) (by simp) (b3 (by omega) (by omega) (by omega))
  ·cases hl
 ·split at hl
  ·rename_i hp
   obtain rfl:=dZ.1 hl
   have hk:=Nat.mod_lt k hp
   have h5:=hG.yT
   have ht:=hG.bP _ (getD_mem hk (0,0))
   exact bd _ _ (by decide) (by simp) (b3 (by omega) (by omega) (by omega))
  ·cases hl
 ·split at hl
  ·rename_i hp
   obtain rfl:=dZ.1 hl
   obtain⟨hp1,hp2,hp3⟩:=hp
   have hk:=Nat.mod_lt k hp1
   have hj:=Nat.mod_lt k hp2
   have h5:=hG.aQ
   have h6:=hG.yT
   have ht:=hG.oL _ (getD_mem hk [])
   have hb:=ht.2.1 _ (getD_mem (show k%s.bP.heaps.length<(s.bP.aQ.getD (k%s.bP.aQ.length) []).length by omega) 0)
   exact bd _ _ (by decide) (by simp) (b3 (by omega) (by omega) (by omega))
  ·cases hl
theorem OA {L:List aF} (h:eH L=0):gu L=(fB bK eG L).1:=by unfold gu;rw[aC h]
theorem ZF {L:List aF} (h:eH L=0):oW L=(fB bK eG L).2:=by unfold oW;rw[aC h]
theorem Yj {ls:List aF} (h0:eH ls=0) (h32:ls.length<=32) (k:Nat):
 eH (ls++lN (gu ls) k)=0/\gu (ls++lN (gu ls) k)=gu ls/\ ∀j,ls.length<=j-> ∀x,(oW (ls++lN (gu ls) k))[j]? =some x->x=0:=by
 have hG:=Gz h0
 have hf:=zC h0
 have hl:=Le hG.1 k
 have h1:eH (ls++lN (gu ls) k)=0:=aaX (by rw[dE];omega) fun l hl=>by
  rcases iE.1 hl with h|h
  ·exact hf.2 l h
  ·exact QI hG.1 k l h
 have hps:=OA h0
 have hsame:=WL (UE (st:=bK) hG.1 (JO.2 hG.2) k)
 refine⟨h1,?_,fun j hj x hx=>?_⟩
 ·rw[OA h1,Gy, <-hps]
  exact hsame.1
 ·rw[ZF h1,Gy, <-hps,nT (by rw[Gx];exact hj)] at hx
  exact hsame.2 x (mG hx)
theorem JE (ls:List aF) (lv:Value) (k8:Int) (hk0:0<=k8) (hk8:k8<=255) (w:World) (hv:iY w lv ls) (hE:Env w):Calls Tryz.prog 7 #[lv,.int .u8 k8] w (PV (.bool true) w):=by
 obtain⟨k,rfl⟩: ∃k:Nat,k8=k:=⟨k8.toNat,by omega⟩
 have hk:k<=255:=by omega
 clear hk0 hk8
 obtain⟨lo,lc,rfl⟩:=aK.open hv
 have HSH:=ae (Yv ls _ w hv)
 have HV:=ae (fun W (hb:Below w.heap.size w W)=>hv.below hb (ai _))
 have HE:=ae (fun W (hb:Below w.heap.size w W)=>hE.below hb (ai _))
 have YP:=ae (fun W (hb:Below w.heap.size w W)=>QB W (hE.below hb (ai _)))
 clear hv hE
 go_enter Tryz.func7,Tryz.ntmps7
 go_wp2_with fail
 refine HSH.o.mono ?_
 rintro e W1 ⟨hB1,b,rfl,hb⟩
 have HB1:=ae hB1
 clear hB1 HSH
 cases b with
 |false=>
  clear hb
  go_wp2_with fail
  refine(YP.o W1 HB1.o).mono ?_
  rintro e W2 ⟨rfl,hB2⟩
  have HB2:=ae (aX HB1.o hB2)
  clear hB2
  go_wp2_with fail
  go_returns
  exact⟨by simp,HB2.o⟩
 |true=>
 have hf0:=hb rfl
 clear hb
 by_cases h32:32<ls.length
 ·have alW:(32:Int)<ls.length:=by omega
  clear hf0
  go_wp2_with fail
  refine(YP.o W1 HB1.o).mono ?_
  rintro e W2 ⟨rfl,hB2⟩
  have HB2:=ae (aX HB1.o hB2)
  clear hB2
  go_wp2_with fail
  go_returns
  exact⟨by simp,HB2.o⟩
 have alW: ¬(32:Int)<ls.length:=by omega
 have HF0:=ae hf0
 have UZ:=ae (fun l (hl:l∈ls)=>show l.length<=1000000 by have:=(zC hf0).2 l hl;omega)
 have IZ:=ae (Yj hf0 (by omega) k)
 clear hf0
 go_wp2_with fail
 refine(Ap (ls) (.slice lo ls.length lc) W1 (HV.o W1 HB1.o) (by have:=h32;omega)).mono ?_
 rintro e Wlb ⟨olb,clb,rfl,hol,hbl⟩
 have ajl:=ae (aX HB1.o hbl)
 have amD:=ae (aK.dR hol)
 have arB:=ae hbl
 clear hbl hol
 go_wp2_with fail
 refine(wO (.slice olb ls.length clb) (ls) Wlb (amD.o) (HE.o Wlb ajl.o) (UZ.o) [] (by simp)).mono ?_
 rintro e W2b ⟨hb2,Vb,esb,cv,he,hX,hC⟩
 subst he
 obtain⟨cob,ccb,rfl⟩:=aT hC
 have hs2:=hb2.size
 have hS2:=hX W2b (Ext.refl _ _)
 rename_i hK
 refine hK _ _ ?_
 refine aN rfl _ (by go_simp;first|rfl|exact⟨rfl,rfl⟩) ?_
 simp only[zp]
 refine aN rfl _ (by go_simp;first|rfl|exact⟨rfl,rfl⟩) ?_
 simp only[zp]
 refine aN rfl _ (by go_simp;first|rfl|exact⟨rfl,rfl⟩) ?_
 simp only[zp]
 refine aN rfl _ (by go_simp;first|rfl|exact⟨rfl,rfl⟩) ?_
 simp only[zp]
 obtain⟨gb,hg⟩: ∃g,g=W2b.heap.size:=⟨_,rfl⟩
 refine aN rfl (w':=W2b.alloc (.cells eu 46 (0,0))) (.pointer (some ⟨gb,0,none⟩)) (by rw[hg];go_simp;try rfl) ?_
 simp only[zp]
 have hz2:(W2b.alloc (.cells eu 46 (0,0))).heap[gb]? =some (.cells eu 46 (0,0)):=by rw[hg];exact ay _ _
 refine wpList_store_row rfl _ _ _ rfl gb (dD (gu (ls)) Vb) (by as_aux_lemma=>kernel_rfl) (by as_aux_lemma=>kernel_rfl) _ eu hz2 (by kernel_rfl) (by as_aux_lemma=>kernel_rfl) (by rw[nD];exact fun u hu=>iP hS2 u (nR.2 hu)) ?_
 simp only[zp]
 refine kC fun QJ hW3=>?_
 obtain⟨xB,kY⟩: ∃xB,xB=W2b.alloc (.cells eu 46 (0,0)):=⟨_,rfl⟩
 rw[<-kY] at hW3 hz2
 have uJ:Ext [gb] xB QJ:=by rw[hW3];exact fK
 have hs3:=uJ.size
 have hs2':xB.heap.size=gb+1:=by rw[kY,hg];simp
 have mV:Below W2b.heap.size W2b QJ:=jf (by rw[kY];exact ak (aG _ _) _) uJ (by omega)
 have aaz:QJ.heap[gb]? =some (.cells (dD (gu (ls)) Vb) 46 (0,0)):=by rw[hW3];exact setRow_heap _ _ _ _ _ _ hz2
 have hb3:=aX hb2 mV
 have apY:Wlb.heap.size<=gb:=by omega
 have ae7:gb<QJ.heap.size:=by omega
 have H3b:=ae (ag hb3 (ag aaz (ag (hS2.below mV (ai _)) (aK.dR (aA (Ms:=[]) hC (Ext.az mV) (by simp))))))
 clear hX hC hW3 kY uJ mV hb2 hS2 hz2 hK hs2 hs3 hs2' hg hb3
 have HB4:=ae (aX ajl.o H3b.o.1)
 have HGS:=ae (Gz HF0.o)
 rw[HF0.o]
 obtain⟨s,hs⟩: ∃s,gu ls=s:=⟨_,rfl⟩
 rw[hs] at HGS aaz H3b IZ⊢
 have HST:=ae (fun W (hb:Below QJ.heap.size QJ W)=>H3b.o.2.2.1.below hb (ai _))
 have HKB:=ae aaz
 have hcb:=(af aaz).1
 have Fz: ∀j u,(dD s Vb).toList[j]? =some u->QJ.cell? ⟨gb,0+j,none⟩=some u:=fun j u hj=>by
  rw[Nat.zero_add,hcb j]
  simpa using hj
 have HRN:=ae Fz
 clear hs aaz hcb Fz
 obtain⟨AL,hAL⟩: ∃A,lN s k=A:=⟨_,rfl⟩
 have HAN:=ae (fun W (hb:Below QJ.heap.size QJ W)=>Yk s Vb esb k W hk (HST.o W hb) HGS.o.1)
 have hal:=Le HGS.o.1 k
 rw[hAL] at HAN hal IZ
 clear hAL
 go_upto_region 6 with(fail)
 refine zg 5 [] none [(1,⟨fun _ v=> ∃o c,v= .slice o ls.length c,fun _ v Wx=>Wx.ownsRow QJ.heap.size 9 1 v ls.length (aZ ls)⟩),(4,⟨fun _ v=> ∃o c,v= .slice o AL.length c,fun _ v Wx=>Wx.ownsRow QJ.heap.size 9 1 v AL.length (aZ AL)⟩)] ?_
 simp only[zt]
 repeat ((first|refine zn ?_|refine zk ?_);simp only[zp])
 refine bJ _ (by rfl) (by rfl) (by exact⟨_,none,0,rfl⟩) (fun W hE hF=>?_) (fun v Wa Wb ho hE=>aA (Ms:=[]) ho hE (by simp)) (fun v hv=>?_)
 ·have hE':Ext [] QJ W:=hE
  refine dG 14 #[.slice lo ls.length lc] (by go_simp;try rfl) ?_
  refine(Ap ls _ W (HV.o W (aX HB4.o hE'.below)) (by omega)).mono ?_
  rintro e W6 ⟨o,c,rfl,ho,hb⟩
  exact⟨_,rfl,⟨o,c,rfl⟩,bY ho hE'.below.size,Ext.az hb⟩
 obtain⟨o5,c5,rfl⟩:=hv
 simp only[zp]
 refine gq (by rfl) (.agg (dD s Vb)) (by rfl) (fun W hW=>jU 46 _ (by rfl) gb 0 (by rfl) (dD s Vb).toList _ (fun j u hj=>(hW gb _ ae7 (by simp)).trans (HRN.o j u hj)) Tryz.underlying46 rfl (by kernel_rfl)) ?_
 simp only[zp]
 repeat ((first|refine zn ?_|refine zk ?_);simp only[zp])
 refine bJ _ (by rfl) (by rfl) (by exact⟨_,none,0,rfl⟩) (fun W hE hF=>?_) (fun v Wa Wb ho hE=>aA (Ms:=[]) ho hE (by simp)) (fun v hv=>?_)
 ·have hE':Ext [] QJ W:=hE
  refine dG 26 #[.agg (dD s Vb),.int .u8 (k:Int)] (by go_simp;try rfl) ?_
  refine(HAN.o W hE'.below).mono ?_
  rintro e W6 ⟨o,c,rfl,ho,hb⟩
  exact⟨_,rfl,⟨o,c,rfl⟩,bY ho hE'.below.size,Ext.az hb⟩
 obtain⟨o6,c6,rfl⟩:=hv
 simp only[zp]
 intro W6 zZ hF6
 have F6:=ae (hF6 _ (bg _))
 have HO5:=ae (hF6 _ (nC _ (bg _)))
 have Na:Ext [] QJ W6:=zZ
 have HD6:=ae Na.below
 have hz6:=Na.below.size
 clear zZ hF6 Na
 go_wp2_with (at_builtin;go_loud (refine dF rfl _ _ Bj rfl QJ.heap.size (.slice o5 ls.length c5) ls.length (aZ ls) rfl HO5.o (.slice o6 AL.length c6) AL.length (aZ AL) rfl (aK.dR F6.o) (sZ AL) (by omega) (by omega) (by have:=HD6.o.size;omega) ?_))
 intro v9 W7 hown hgr _
 have hD7:Below QJ.heap.size QJ W7:=Below.grown HD6.o hgr (by have:=HD6.o.size;omega) (fun g e=>(bH HO5.o g e).1)
 obtain⟨A,hA⟩: ∃A,A=ls++AL:=⟨_,rfl⟩
 have hAl:ls.length+AL.length=A.length:=by rw[hA];simp
 have hAc:aZ ls++aZ AL=aZ A:=by rw[hA];simp[aZ]
 rw[hAc,hAl] at hown
 obtain⟨o7,c7,rfl⟩:=aT hown
 rw[<-hA] at IZ
 have HD7:=ae hD7
 have xN:=ae (aX HB4.o hD7)
 have HV7:=ae (aK.dR hown)
 have alS:A.length<=40:=by omega
 have hA5:ls.length+5<=A.length:=by omega
 have HLA:=ae (fun l (hl:l∈A)=>show l.length<=1000000 by have:=(zC IZ.o.1).2 l hl;omega)
 clear hown hgr hD7 hA hAl hAc HO5 F6 HD6
 go_wp2_with fail
 refine(Ap (A) (.slice o7 A.length c7) W7 (HV7.o) (by have:=alS;omega)).mono ?_
 rintro e Wld ⟨old,cld,rfl,hol,hbl⟩
 have ajk:=ae (aX xN.o hbl)
 have amC:=ae (aK.dR hol)
 have amQ:=ae hbl
 clear hbl hol
 go_wp2_with fail
 refine(wO (.slice old A.length cld) (A) Wld (amC.o) (HE.o Wld ajk.o) (HLA.o) [] (by simp)).mono ?_
 rintro e W2d ⟨hb2,Vd,esd,cv,he,hX,hC⟩
 subst he
 obtain⟨cod,ccd,rfl⟩:=aT hC
 have hs2:=hb2.size
 have hS2:=hX W2d (Ext.refl _ _)
 rename_i hK
 refine hK _ _ ?_
 refine aN rfl _ (by go_simp;first|rfl|exact⟨rfl,rfl⟩) ?_
 simp only[zp]
 refine aN rfl _ (by go_simp;first|rfl|exact⟨rfl,rfl⟩) ?_
 simp only[zp]
 refine aN rfl _ (by go_simp;first|rfl|exact⟨rfl,rfl⟩) ?_
 simp only[zp]
 refine aN rfl _ (by go_simp;first|rfl|exact⟨rfl,rfl⟩) ?_
 simp only[zp]
 obtain⟨gd,hg⟩: ∃g,g=W2d.heap.size:=⟨_,rfl⟩
 refine aN rfl (w':=W2d.alloc (.cells eu 46 (0,0))) (.pointer (some ⟨gd,0,none⟩)) (by rw[hg];go_simp;try rfl) ?_
 simp only[zp]
 have hz2:(W2d.alloc (.cells eu 46 (0,0))).heap[gd]? =some (.cells eu 46 (0,0)):=by rw[hg];exact ay _ _
 refine wpList_store_row rfl _ _ _ rfl gd (dD (gu (A)) Vd) (by as_aux_lemma=>kernel_rfl) (by as_aux_lemma=>kernel_rfl) _ eu hz2 (by kernel_rfl) (by as_aux_lemma=>kernel_rfl) (by rw[nD];exact fun u hu=>iP hS2 u (nR.2 hu)) ?_
 simp only[zp]
 refine kC fun W3d hW3=>?_
 obtain⟨xB,kY⟩: ∃xB,xB=W2d.alloc (.cells eu 46 (0,0)):=⟨_,rfl⟩
 rw[<-kY] at hW3 hz2
 have uJ:Ext [gd] xB W3d:=by rw[hW3];exact fK
 have hs3:=uJ.size
 have hs2':xB.heap.size=gd+1:=by rw[kY,hg];simp
 have mV:Below W2d.heap.size W2d W3d:=jf (by rw[kY];exact ak (aG _ _) _) uJ (by omega)
 have ahO:W3d.heap[gd]? =some (.cells (dD (gu (A)) Vd) 46 (0,0)):=by rw[hW3];exact setRow_heap _ _ _ _ _ _ hz2
 have hb3:=aX hb2 mV
 have apX:Wld.heap.size<=gd:=by omega
 have ak9:gd<W3d.heap.size:=by omega
 have H3d:=ae (ag hb3 (ag ahO (ag (hS2.below mV (ai _)) (aK.dR (aA (Ms:=[]) hC (Ext.az mV) (by simp))))))
 clear hX hC hW3 kY uJ mV hb2 hS2 hz2 hK hs2 hs3 hs2' hg hb3
 have pO:=ae (aX ajk.o H3d.o.1)
 have hDb:=aX HD7.o (aX amQ.o H3d.o.1)
 have hk1:=(hDb.block gb ae7).trans HKB.o
 have hk2:=H3d.o.2.1
 have hSb:=HST.o W3d hDb
 have hSd:=H3d.o.2.2.1
 have hEd:aK 1 W3d (.slice cod (oW A).length ccd) (oW A).length (ah (oW A)):=H3d.o.2.2.2
 rw[IZ.o.2.1] at hk2 hSd⊢
 rw[IZ.o.1,zy IZ.o.1]
 rw[zy IZ.o.1] at hEd
 have HK:=ae (ag hk1 hk2)
 have oJ:=ae (fun W (hb:Below W3d.heap.size W3d W)=>ag (hSb.below hb (ai _)) (hSd.below hb (ai _)))
 have HED:=ae hEd
 have lb:gb<W3d.heap.size:=fP ae7 hDb.size
 have akT: ¬(A.length:Int)<(ls.length:Int)+5:=by omega
 clear hk1 hk2 hSb hSd hEd hDb H3b H3d ahO
 go_wp2_with fail
 go_loopw [12] (fun i wr=> ∃j:Nat,ls.length<=j/\j<=A.length/\i= .int .i64 j/\Below W3d.heap.size W3d wr) (fun i _=>A.length-(intOf i).toNat)
 case atStart=>exact⟨ls.length,ai _,by omega,rfl,aG _ _⟩
 case round=>
  obtain⟨j,hj0,hj,rfl,hB⟩:=hrel
  have Y8:=ae (aX pO.o hB)
  by_cases hlt:j<A.length
  ·obtain⟨eb,aa1,rfl,heb,hec⟩:=aP.cell (l:=oW A) (aK.below HED.o hB (ai _)) (k:=j) (by rw[zy IZ.o.1];exact hlt)
   have hz:=IZ.o.2.2 j hj0 _ (dA (by rw[zy IZ.o.1];exact hlt))
   rw[hz] at hec
   clear hz
   go_wp2_with fail
   refine⟨⟨j+1,by omega,by omega,by go_num,hB⟩,by simp[intOf];omega⟩
  ·have hjA: ¬(j:Int)<A.length:=by omega
   go_upto_region 15 with(fail)
   refine wp_region_lit ?_
   refine wpList_load_row rfl _ _ rfl gb rfl _ _ _ _ ((hB.block gb lb).trans HK.o.1) Tryz.underlying46 rfl (by kernel_rfl) ?_
   simp only[zp]
   refine wpList_load_row rfl _ _ rfl gd rfl _ _ _ _ ((hB.block gd ak9).trans HK.o.2) Tryz.underlying46 rfl (by kernel_rfl) ?_
   simp only[zp]
   go_wp2_with fail
   refine(RN s Vb Vd esb esd wr (oJ.o wr hB).1 (oJ.o wr hB).2).mono ?_
   rintro e W8 ⟨rfl,hb8⟩
   have mW:=ae (aX Y8.o hb8)
   clear hb8
   go_wp2_with fail
   refine(YP.o W8 mW.o).mono ?_
   rintro e Wz ⟨rfl,hbz⟩
   have HBZ:=ae (aX mW.o hbz)
   clear hbz
   go_wp2_with fail
   go_returns
   exact⟨by simp,HBZ.o⟩
end Go.Proofs.YthbpmepjmebolaaGreatDoor.Bk
end
section
namespace Go.Proofs.YthbpmepjmebolaaGreatDoor
open Go.RowKit Go.RG Go.SL jC Go.Deep
section
variable {H : Type} {enc : TypeId × Value → H} {P : Program} {W : World} {base b0 : Nat} {spare : Nat → Bool} {held : Bool} {r : Reach}
theorem WO {α:Type} [Inhabited α] (f:α->List Value) (k:Nat) (hk0:0<k) (hf: ∀x,(f x).length=k) {t e:TypeId} (ht:P.underlying t=some (.slice e)) (hk:P.cellsOf e=k)
 (hel: ∀fuel cs x,DataW.trod enc P W base spare held fuel e cs=some x-> ∃y:α,cs=f y)
 {v:Value} (hok:Cell.ok P W r b0 t v) {fuel:Nat} {x:DataW H×List MemPlace} (h:DataW.trod enc P W base spare held fuel t [v]=some x):
 ∃l:List α,aK k W v l.length (l.flatMap f):=by
 rcases open_slice ht h with⟨hc,_⟩|⟨a,len,cap,m,n,D,Pl,hc,hb,hl,hm,hmm,_,hx⟩
 ·cases hc
  exact⟨[],aK.nil k W⟩
 ·cases hc
  have hsp:a.spot=none:=by
   simp only[Cell.ok,ht,World.has] at hok
   exact hok.2.2.2.1
  have hlm:len<=m:=by rw[hmm];split <;>omega
  have each: ∀i,i<m-> ∃y:α, ∀j u,(f y)[j]? =some u->W.cell? ⟨a.block,a.off+(i*k+j),none⟩=some u:=by
   intro i hi
   obtain⟨cs',h1,h2⟩:=hx i hi
   rw[hk] at h1
   obtain⟨_,hlen,hcell⟩:=World.cells?_some h1
   obtain⟨y,rfl⟩:=hel _ _ _ h2
   refine⟨y,fun j u hj=>?_⟩
   have hjk:j<k:=by rw[<-hf y];exact(jq.1 hj).1
   have h3:=hcell j hjk
   rw[add_add] at h3
   obtain⟨b,off,sp⟩:=a
   simp only at hsp
   subst hsp
   rw[Addr.add_lit] at h3
   rw[h3,hj]
  obtain⟨Y,hY⟩:=choose_lt each
  have hlen:((List.range len).map Y).length=len:=by simp
  refine⟨(List.range len).map Y,?_,some a,cap,by rw[hlen],by rw[hlen];exact hl,hm,(fun h=>by cases h),fun a' ha=>?_⟩
  ·have: ∀l:List α,(l.flatMap f).length=l.length*k:=by
    intro l
    induction l with
    |nil=>simp
    |cons z l ih=>rw[List.flatMap_cons,dE,hf,ih,List.length_cons,Nat.add_mul];omega
   exact this _
  ·cases ha
   refine⟨hsp,fun j u hj=>?_⟩
   have hjl:j<(((List.range len).map Y).flatMap f).length:=(jq.1 hj).1
   have ahC:(((List.range len).map Y).flatMap f).length=len*k:=by
    have: ∀l:List α,(l.flatMap f).length=l.length*k:=by
     intro l
     induction l with
     |nil=>simp
     |cons z l ih=>rw[List.flatMap_cons,dE,hf,ih,List.length_cons,Nat.add_mul];omega
    rw[this,hlen]
   rw[ahC] at hjl
   have hi:j/k<len:=(Nat.div_lt_iff_lt_mul hk0).2 hjl
   have hr:j%k<k:=Nat.mod_lt _ hk0
   have e:j/k*k+j%k=j:=by rw[Nat.mul_comm];exact Nat.div_add_mod j k
   have:=jE f k hf ((List.range len).map Y) (j/k) (j%k) (by rw[hlen];exact hi) hr
   rw[e,hj] at this
   simp only[List.getElem_map,List.getElem_range] at this
   have h4:=hY (j/k) (by omega) (j%k) u this.symm
   rw[e] at h4
   exact h4
end
section
variable {H : Type} {enc : TypeId × Value → H} {W : World} {base b0 : Nat} {spare : Nat → Bool} {held : Bool} {r : Reach}
end
theorem Jd {H:Type} {enc:TypeId×Value->H} {P:Program} (hl:laidOutB P=true) {ts:List TypeId} (hr:(ts.all fun t=>P.readableRec t&&decide (t<P.types.size))=true) {W W':World} {vs:List Value} {ds:List (DataW H)} {ps:List MemPlace}
 (h:DataW.TrodAll enc P W 0 (fun _=>true) true ts vs ds ps) (hb:Below W.heap.size W W') (hlt: ∀x∈ps,x.block<W.heap.size):
 DataW.TrodAll enc P W' 0 (fun b=>decide (b<W.heap.size)) true ts vs ds ps:=by
 induction ts generalizing vs ds ps with
 |nil=>
  cases vs <;>cases ds <;>simp_all [DataW.TrodAll]
 |cons t ts ih=>
  cases vs with
  |nil=>cases ds <;>simp_all [DataW.TrodAll]
  |cons v vs=>
   cases ds with
   |nil=>simp_all [DataW.TrodAll]
   |cons d ds=>
    obtain⟨p,q,h1,h2,rfl⟩:=h
    simp only[List.all_cons,fG,eX] at hr
    exact⟨p,q,Below.trod hl hr.1.1 hr.1.2 h1 hb (fun x hx=>hlt x (by simp[hx])),ih (by simpa using hr.2) h2 (fun x hx=>hlt x (by simp[hx])),rfl⟩
end Go.Proofs.YthbpmepjmebolaaGreatDoor
end

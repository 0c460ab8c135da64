/-
  Texts of this claim, packed by a program: UA UH.
-/
import Derived.WalkKit
import Derived.WalkLawsBesides
import Derived.WalkSpells
import Derived.Outline
import Derived.Handy
import Derived.KernelRfl
import Derived.Lib.Hide
import Derived.Test.YtabpkkbiioihaaaGreatDoorPK6
set_option maxHeartbeats 8000000
set_option maxRecDepth 100000
set_option linter.all false
section
namespace Go.Proofs.YtabpkkbiioihaaaGreatDoor
open Go.RowKit Go.RG Go.SL Go.Shelf gZ Go.TB
theorem zV (r x:bK) (w:World):Calls Tryz.prog 58 #[rv r,rv x] w (PV (rv (qK r x)) w):=by
 go_enter Tryz.func58,Tryz.ntmps58
 go_wp2_with fail
 refine zg 12 [] none [(4,Spec.slice (w.heap.size+3) #[iv r.1,iv x.1] 3 2),(5,Spec.val (iv (min r.1 x.1)))] ?_
 simp only[zt]
 repeat (refine zd ?_;simp only[zp])
 refine bZ (w.heap.size+3) _ _ _ (by rfl) (by simp) (by rfl) (by simp) (by simp) (fun W hW=>by go_simp;try rfl) (fun b=>?_)
 simp only[zp]
 refine dh _ (by rfl) (by rfl) 113 _ (fun W hW=>by go_simp;try rfl) (fun W hE hF=>?_) ?_
 ·obtain⟨c,hcb,hB,hc⟩:=hF _ (List.Mem.head _) (by kernel_rfl)
  cases hcb
  exact vW r.1 x.1 b 2 W (by simp[World.cell?,hc]) (by simp[World.cell?,hc])
 simp only[zp]
 repeat (refine zd ?_;simp only[zp])
 intro W hE hF
 obtain⟨hc,hf⟩:=aW hE.below
 have hzE:=hE.size
 (try simp only[World.size_alloc] at hzE)
 go_wp2
 all_goals
  (try simp only[Exit.inBlock,Exit.then])
  refine bodyPost_ret (v:=rv (min r.1 x.1,max r.2 x.2)) (by simp[results,Tryz.results58,go_sem,hc];try omega) rfl ?_
  exact⟨rfl,ze⟩
abbrev acv (d:Int) (r:bK):Value:= .agg #[iv d,iv r.1,iv r.2]
theorem Np (d:Int) (r:bK) (w:World):Calls Tryz.prog 21 #[acv d r] w (PV (rv (kQ d r)) w):=by
 go_enter Tryz.func21,Tryz.ntmps21
 go_wp2_with fail
 go_returns
 exact⟨by simp[kQ],zl⟩
theorem Gn (d:Int) (r:bK) (w:World) (h:(0<=d/\d<=350)/\0<=r.1/\r.1<=r.2/\r.2<=2000):Calls Tryz.prog 30 #[acv d r] w (PV (rv (iR d r)) w):=by
 obtain⟨p,q⟩:=r
 have h1: -10000<=d-q/\d-q<=10000:=by simp only at h;omega
 have h2: -10000<=d-p/\d-p<=10000:=by simp only at h;omega
 clear h
 go_enter Tryz.func30,Tryz.ntmps30
 go_wp2_with fail
 go_returns
 exact⟨by simp[iR],zl⟩
def bC (l:ax) (fine:Bool):Int:=if dV l≠0 then dV l else if fine=false then 2 else if dF l []=false then 11 else 0
def Qu (l:ax) (fine:Bool) (tv nv:Value) (w:World) (e:Ending) (w':World):Prop:=
 Below w.heap.size w w'/\((bC l fine≠0/\e= .returned (.tuple #[.pointer none,iv (bC l fine)]))∨
  (bC l fine=0/\ ∃(wb mb:Nat) (v:Value),e= .returned (.tuple #[.pointer (some ⟨wb,0,none⟩),iv 0])/\w.heap.size<=wb/\w.heap.size<=mb/\Ar w' wb mb l tv nv v []))
theorem yu {l:ax} {fine:Bool} (h:bC l fine=0):kJ l/\dV l=0/\fine=true/\dF l []=true:=by
 unfold bC at h
 split at h
 ·rename_i h0;exact absurd h h0
 ·rename_i h0
  have h0:dV l=0:=by omega
  split at h
  ·omega
  ·rename_i h1
   split at h
   ·omega
   ·rename_i h2
    exact⟨(vY h0).1,h0,by simpa using h1,by simpa using h2⟩
theorem xC (l:ax) (tv nv:Value) (fine:Bool) (w:World) (ht:bW w tv l.field.ae) (hn:aT w nv l.notes):
 Calls Tryz.prog 35 #[lv l tv nv,.bool fine] w (Qu l fine tv nv w):=by
 have HC:=Lib.hid (yh l tv nv (w.alloc (.cells (iW l tv nv) 33)) (ht.alloc _) (hn.alloc _))
 clear ht hn
 obtain⟨q,hq⟩: ∃q,dV l=q:=⟨_,rfl⟩
 by_cases hq0:q=0
 case neg=>
  have HF:Hid (bC l fine=q/\q≠0):=Lib.hid ⟨by unfold bC;rw[hq,if_pos hq0],hq0⟩
  have hqb:(q !=0)=true:=by simpa using hq0
  have HQ:=Lib.hid hq
  clear hq hq0
  go_enter Tryz.func35,Tryz.ntmps35
  go_wp2_with fail
  refine HC.out.mono ?_
  rintro e w1 ⟨hb,⟨hne,rfl⟩|⟨h0,_⟩⟩
  ·rw[HQ.out]
   have HB:=Lib.hid (show Below w.heap.size w w1 from zl)
   clear hb hne
   go_wp2_with fail
   go_returns
   exact⟨HB.out,.inl ⟨by rw[HF.out.1];exact HF.out.2,by rw[HF.out.1];simp⟩⟩
  ·exact absurd (HQ.out.symm.trans h0) HF.out.2
 subst hq0
 obtain⟨hS,_⟩:=vY hq
 have HS:=Lib.hid hS
 have HQ:=Lib.hid hq
 cases fine
 ·have HF:Hid (bC l false=2):=Lib.hid (by unfold bC;rw[hq];rfl)
  clear hq hS
  go_enter Tryz.func35,Tryz.ntmps35
  go_wp2_with fail
  refine HC.out.mono ?_
  rintro e w1 ⟨hb,⟨hne,_⟩|⟨_,wb,mb,v,rfl,hwb,hmb,hok⟩⟩
  ·exact absurd HQ.out hne
  have HB:=Lib.hid (show Below w.heap.size w w1 from zl)
  clear hb hok
  go_wp2_with fail
  go_returns
  exact⟨HB.out,.inl ⟨by rw[HF.out];simp,by rw[HF.out];simp⟩⟩
 obtain⟨r,hr⟩: ∃r,dF l []=r:=⟨_,rfl⟩
 have HF:Hid (bC l true=if r=false then 11 else 0):=Lib.hid (by unfold bC;rw[hq,hr];simp)
 have HR:=Lib.hid hr
 clear hq hS hr
 go_enter Tryz.func35,Tryz.ntmps35
 go_wp2_with fail
 refine HC.out.mono ?_
 rintro e w1 ⟨hb,⟨hne,_⟩|⟨_,wb,mb,v,rfl,hwb,hmb,hok⟩⟩
 ·exact absurd HQ.out hne
 have HP:=Lib.hid (HR.out▸mf HS.out [] hok (aB.nil 1 w1))
 have hsz:=World.size_alloc w (.cells (iW l tv nv) 33)
 have ad7:w.heap.size<=wb:=by omega
 have YG:w.heap.size<=mb:=by omega
 have HB:=Lib.hid (show Below w.heap.size w w1 from zl)
 clear hb hok hwb hmb hsz
 go_wp2_with fail
 refine HP.out.mono ?_
 rintro e w2 ⟨rfl,hkn,hE⟩
 have HX:=Lib.hid (And.intro (iF HB.out hE YG) hkn)
 clear hkn hE
 cases r
 ·have Dt:=Lib.hid HF.out
  go_wp2_with fail
  go_returns
  exact⟨HX.out.1,.inl ⟨by rw[Dt.out];simp,by rw[Dt.out];simp⟩⟩
 ·have Dt:=Lib.hid HF.out
  go_wp2_with fail
  go_returns
  exact⟨HX.out.1,.inr ⟨by rw[Dt.out];rfl,wb,mb,v,by simp,ad7,YG,HX.out.2⟩⟩
end Go.Proofs.YtabpkkbiioihaaaGreatDoor
namespace Go.Proofs.YtabpkkbiioihaaaGreatDoor
open Go.RowKit Go.RG Go.SL Go.Shelf gZ Go.TB
theorem qU {l:ax} (hS:kJ l) {d:List Int} (hd:d∈bz l) (hc:eu l [] d=true) {i:Nat} (hi:i<l.field.ai.toNat):
 0<=((gK l [] d).getD i (0,0)).1/\((gK l [] d).getD i (0,0)).1<=((gK l [] d).getD i (0,0)).2/\((gK l [] d).getD i (0,0)).2<=2000:=by
 have h1:=JY hi (by have:=hS.box;omega) hc
 have hF:=fH hS.field
 have:=hF.qM
 have hb:=zX hS hd i (by omega)
 have hk:=GY hS [] i hb.1 (by omega)
 rw[sQ l [] d hi] at h1⊢
 unfold bothR at h1⊢
 simp only at h1⊢
 omega
theorem LQ {l:ax} (hS:kJ l) {tv nv v:Value} {wb mb:Nat} (aI:Nat) (p:Int->bK->bK) (w:World) (hw:Ar w wb mb l tv nv v [])
 (eg: ∀args w,(callFunc aI args).run Tryz.prog w= .ok (.enter aI args) w)
 (hp: ∀(d:Int) (r:bK) (W:World),(0<=d/\d<=350)/\0<=r.1/\r.1<=r.2/\r.2<=2000->Calls Tryz.prog aI #[acv d r] W (PV (rv (p d r)) W)):
 Calls Tryz.prog 36 #[.agg #[.func (.func aI) #[] #[]],.pointer (some ⟨wb,0,none⟩)] w (fun e w'=> ∃u,e= .returned u/\w'.ownsRow w.heap.size 30 2 u (jG p l (bz l)).length (aj (jG p l (bz l)))/\Below w.heap.size w w'):=by
 obtain⟨vo,vc,rfl⟩:=hw.work.truth.open
 have hF:=fH hS.field
 have hlen:(bz l).length<=2500:=Nat.le_trans (uO l _) (jm hF [])
 have hw0:=hF.uf
 have hw3:=hF.qM
 obtain⟨n,hn⟩: ∃n:Nat,l.field.ai.toNat=n:=⟨_,rfl⟩
 have hn1:1<=n:=by omega
 have hn3:n<=3:=by omega
 have HN:=Lib.hid hn
 have HS:=Lib.hid hS
 have HP:=Lib.hid hp
 obtain⟨W1,hW1⟩: ∃W1,w.alloc (.cells #[.func (.func aI) #[] #[]] 78)=W1:=⟨_,rfl⟩
 have hB1:Below w.heap.size w W1:=by rw[<-hW1];exact af (Below.refl _ _) _
 have hk1:W1.heap[w.heap.size]? =some (.cells #[.func (.func aI) #[] #[]] 78 (0,0)):=by rw[<-hW1];exact ag _ _
 have VS:=hw.below hB1 (Nat.le_refl _)
 have Yt:wb<W1.heap.size:=VS.work.lt
 have aaH:w.heap.size<W1.heap.size:=(Array.getElem?_eq_some_iff.1 hk1).1
 have H1:=Lib.hid (And.intro hB1 (And.intro hk1 VS))
 obtain⟨ds,hds⟩: ∃ds,bz l=ds:=⟨_,rfl⟩
 have hck:=VS.work.cells
 rw[hds] at hck hlen⊢
 obtain⟨c1,f1,l1⟩:=cells_of_block hck
 have HDS:=Lib.hid hds
 clear hw hF hw0 hw3 hn hp hS hB1 hk1 VS hds hck
 go_enter Tryz.func36,Tryz.ntmps36
 go_wp2_with fail
 (try rw[hW1])
 clear hW1
 go_loopw [5,18] (fun v5 u wr=> ∃k:Nat,k<=ds.length/\u= .int .i64 k/\(∃oo oc,v5= .slice oo (ji p l k ds).length oc/\wr.ownsRow W1.heap.size 30 2 (.slice oo (ji p l k ds).length oc) (ji p l k ds).length (aj (ji p l k ds)))/\Below W1.heap.size W1 wr) (fun _ u _=>ds.length-(intOf u).toNat)
 case atStart=>exact⟨0,Nat.zero_le _,rfl,⟨none,0,rfl,⟨rfl,.inl ⟨rfl,rfl⟩⟩⟩,Below.refl _ _⟩
 case round=>
  obtain⟨k,hk,rfl,⟨oo,oc,rfl,how⟩,hB⟩:=hrel
  by_cases hlt:k<ds.length
  ·have hkn:=H1.out.2.2.below hB (Nat.le_refl _)
   have hk1:=(hB.block _ aaH).trans H1.out.2.1
   have htr:=hkn.work.truth
   rw[HDS.out] at htr
   obtain⟨b,off,y0,y1,y2,rfl,hbl,hys,hc0,hc1,hc2⟩:=xy htr (by rw[<-HDS.out];exact lq l) hlt
   have hacc:=Dk p l ds k hk
   rw[HN.out] at hacc
   have hsu:=uQ p l hlt
   have hdm:ds[k]∈bz l:=by rw[HDS.out];exact List.getElem_mem _
   obtain⟨d,hd⟩: ∃d,ds[k]=d:=⟨_,rfl⟩
   rw[hd] at hsu hdm hys
   obtain⟨acc,hac⟩: ∃acc,ji p l k ds=acc:=⟨_,rfl⟩
   rw[hac] at how hacc hsu
   rw[hac]
   have abd:(k:Int)<ds.length:=by omega
   have HD:=Lib.hid (And.intro hys hdm)
   have qA:=Lib.hid hsu
   have HAC:=Lib.hid hacc
   have HX:=Lib.hid (And.intro how (And.intro hB (And.intro hkn hk1)))
   have hsz:=hB.size
   obtain⟨s3,hs3⟩: ∃s3,wr.heap.size=s3:=⟨_,rfl⟩
   clear how hB hkn hk1 htr hsu hys hdm hd hac hacc hk
   go_upto_region 5 with(fail)
   refine dD fun W5 xu=>?_
   have sV:Below wr.heap.size wr W5:=by rw[xu];exact zl
   have hk5:W5.heap[wr.heap.size]? =some (.cells #[iv y0,iv y1,iv y2] 134 (0,0)):=by rw[xu];exact ag _ _
   have abl:=HX.out.2.2.1.below sV (Nat.le_refl _)
   have hag:jk d= .agg #[iv y0,iv y1,iv y2]:=by rw[HD.out.1];rfl
   have HPA:=Lib.hid (hag▸MO HS.out HD.out.2 abl)
   have h51:=(sV.block _ (by omega)).trans HX.out.2.2.2
   have xw:=aH HX.out.2.1 sV
   have SQ:W5.ownsRow W1.heap.size 30 2 (.slice oo acc.length oc) acc.length (aj acc):=cZ HX.out.1 fun g hg=>sV.block g (aZ HX.out.1 g hg).2
   have hog: ∀g,(Value.slice oo acc.length oc).ownBlock=some g->g<s3:=fun g hg=>by rw[<-hs3];exact(aZ HX.out.1 g hg).2
   rw[hs3] at hk5
   have aia:s3<W5.heap.size:=(Array.getElem?_eq_some_iff.1 hk5).1
   have aic:W1.heap.size<=s3:=by omega
   have H5:=Lib.hid (And.intro SQ (And.intro xw (And.intro hk5 (And.intro h51 hog))))
   obtain⟨c5,f5,l5⟩:=cells_of_block hk5
   clear xu sV hk5 abl h51 xw SQ hog hs3 hsz hc0 hc1 hc2 hbl HX hag
   go_wp2_with fail
   refine HPA.out.mono ?_
   rintro e W6 ⟨hb,hcase⟩
   obtain⟨is,ps,pv,rfl,hpo,his,hps⟩: ∃(is:Bool) (ps:List bK) (pv:Value),e= .returned (.tuple #[pv,.bool is])/\W6.ownsRow W5.heap.size 30 2 pv ps.length (aj ps)/\eu l [] d=is/\ps=if is=true then gK l [] d else[]:=by
    rcases hcase with⟨hc,u,rfl,hu⟩|⟨hc,rfl⟩
    ·exact⟨true,gK l [] d,u,rfl,hu,hc,by simp⟩
    ·exact⟨false,[],.slice none 0 0,rfl,⟨rfl,.inl ⟨rfl,rfl⟩⟩,hc,by simp⟩
   obtain⟨po,pc,rfl⟩:=aK hpo
   obtain⟨ns,hns⟩: ∃ns:List bK,(if is=true then lV p l d else[])=ns:=⟨_,rfl⟩
   have hnl:ns.length=ps.length:=by rw[<-hns,hps];cases is <;>simp[jX,Cb]
   have hpl:ps.length=if is=true then n else 0:=by rw[hps];cases is <;>simp[Cb,HN.out]
   have hstep:ji p l (k+1) ds=iH acc ns ns.length:=by
    rw[qA.out]
    unfold oC
    rw[his, <-hns]
    cases is
    ·simp[qj]
    ·rw[if_pos rfl,if_pos rfl,P7 (by rw[jX,HN.out];exact HAC.out)]
   have h66:=(hb.block _ (show s3<W5.heap.size by omega)).trans H5.out.2.2.1
   have TU:=(hb.block _ (show w.heap.size<W5.heap.size by omega)).trans H5.out.2.2.2.1
   have aa1:W6.ownsRow W1.heap.size 30 2 (.slice oo acc.length oc) acc.length (aj acc):=cZ H5.out.1 fun g hg=>hb.block g (by have:=H5.out.2.2.2.2 g hg;omega)
   have aeh:=hb.size
   have H6:=Lib.hid (And.intro aa1 (And.intro (aH H5.out.2.1 hb) (And.intro h66 (And.intro TU hpo))))
   have HIS:=Lib.hid (And.intro his (And.intro hps hns))
   have QC:=Lib.hid (And.intro hnl hpl)
   have HST:=Lib.hid hstep
   have hp3:ps.length<=3:=by rw[hpl];split <;>omega
   have agu:=Lib.hid aeh
   clear hb hcase hpo his hps hns hnl hpl hstep h66 TU aa1 c5 f5 l5
   go_wp2_with fail
   go_loopw [5,30] (fun v5 u wq=> ∃i:Nat,i<=ps.length/\u= .int .i64 i/\(∃oo oc,v5= .slice oo (iH acc ns i).length oc/\wq.ownsRow W1.heap.size 30 2 (.slice oo (iH acc ns i).length oc) (iH acc ns i).length (aj (iH acc ns i))/\(∀g,(Value.slice oo (iH acc ns i).length oc).ownBlock=some g->g<s3∨W6.heap.size<=g))/\Below W1.heap.size W1 wq/\
    (∀b,s3<=b->b<W6.heap.size->wq.heap[b]? =W6.heap[b]?)/\W6.heap.size<=wq.heap.size) (fun _ u _=>ps.length-(intOf u).toNat)
   case atStart=>
    refine⟨0,Nat.zero_le _,rfl,⟨oo,oc,by rw[qj],?_,?_⟩,H6.out.2.1,fun b _ _=>rfl,Nat.le_refl _⟩
    ·rw[qj];exact H6.out.1
    ·rw[qj];exact fun g hg=> .inl (H5.out.2.2.2.2 g hg)
   case round=>
    obtain⟨i,hi,rfl,⟨Yb,U0,rfl,how,hog⟩,FB,hkeep,Yv⟩:=hrel
    by_cases hlt2:i<ps.length
    ·have hist:is=true:=by
      have:=QC.out.2
      cases is
      ·rw[if_neg (by simp)] at this;omega
      ·rfl
     have hin:i<n:=by have:=QC.out.2;rw[hist] at this;simp at this;omega
     have hpv:=aB.dn (cZ (w':=wr) H6.out.2.2.2.2 fun g hg=>hkeep g (by have:=(aZ H6.out.2.2.2.2 g hg).1;omega) (aZ H6.out.2.2.2.2 g hg).2)
     obtain⟨gp,po',hvp,hgp,q0,q1⟩:=bn.cell hpv hlt2
     subst hvp
     have hk6:=(hkeep s3 (Nat.le_refl _) (by omega)).trans H6.out.2.2.1
     have hcell:=ed (show wr.heap[s3]? =some (.cells (intCells d).toArray 134 (0,0)) by rw[HD.out.1];exact hk6) (show i<d.length by rw[HD.out.1];simp;omega)
     have hd3:i<d.length:=by rw[HD.out.1];simp;omega
     have hgd:d.getD i 0=d[i]:=by simp[List.getD,hd3]
     have Xy:=zX HS.out HD.out.2 i (by omega)
     have hiw:i<l.field.ai.toNat:=by rw[HN.out];exact hin
     have hpd:=qU HS.out HD.out.2 (HIS.out.1.trans hist) hiw
     have hpe:ps[i]=(gK l [] d).getD i (0,0):=by
      have h1:=HIS.out.2.1
      rw[hist,if_pos rfl] at h1
      subst h1
      simp[List.getD,hlt2]
     have hin2:i<ns.length:=by rw[QC.out.1];exact hlt2
     have hne:ns[i]=p (d[i]) ps[i]:=by
      have h1:=HIS.out.2.2
      rw[hist,if_pos rfl] at h1
      subst h1
      rw[CJ,hpe,hgd]
     rw[<-hpe] at hpd
     rw[hgd] at Xy
     have h1w:=(FB.block _ aaH).trans H1.out.2.1
     have hlenA:=P6 (acc:=acc) (jE:=ns) (i:=i) (by
      have h1:=HAC.out
      have h2:=QC.out
      rw[hist] at h2
      simp at h2
      rcases h1 with h|h
      ·exact .inl h
      ·exact .inr (by omega)) (by omega)
     have hold:=fun(ha:acc≠[]) (h:acc.length=ns.length)=>PZ ha h hin2
     generalize hyi:d[i]'hd3=y at*
     generalize AP:ps[i]=r at*
     generalize hxi:ns[i]=x at*
     have HPF:=Lib.hid (hne▸HP.out y r)
     have HHP:=Lib.hid (And.intro hpd Xy)
     have HOLD:=Lib.hid (And.intro hold hxi)
     have HLA:=Lib.hid hlenA
     have HX:=Lib.hid (And.intro how (And.intro hog (And.intro FB (And.intro hkeep Yv))))
     have KO:(i:Int)<ps.length:=by omega
     have hi3:i<3:=by omega
     have abu:(i:Int)<3:=by omega
     obtain⟨e1,e2,e3⟩:=cells_of_block h1w
     have HW1:=Lib.hid h1w
     have aei:s3<wr.heap.size:=by omega
     clear how hog FB hkeep Yv hpv hk6 hgd Xy hpd hpe hne h1w hlenA hold hyi AP hxi hd3 hiw
     cases hist
     go_upto_region 9 with(fail)
     refine dD fun W9 YZ=>?_
     have O6:Below wr.heap.size wr W9:=by rw[YZ];exact zl
     have hk9:W9.heap[wr.heap.size]? =some (.cells #[iv r.1,iv r.2] 30 (0,0)):=by rw[YZ];exact ag _ _
     have hc9:=(O6.cell (p:=⟨s3,i,none⟩) aei).trans hcell
     obtain⟨i1,i2,i3⟩:=cells_of_block ((O6.block _ e3).trans HW1.out)
     have hs9:=O6.size
     obtain⟨g1,g2,g3⟩:=cells_of_block hk9
     have agq:s3<W9.heap.size:=by omega
     have oM:=Lib.hid O6
     clear YZ O6 hcell e1 e2 e3 q0 q1
     have BH:=Lib.hid hk9
     clear hk9
     refine zg 9 [] none [(7,Spec.val (rv x)),(8,Spec.block W9.heap.size #[iv 0,iv 0] 30)] ?_
     simp only[zt]
     repeat ((first|refine zn ?_|refine zk ?_);simp only[zp])
     refine dh _ (by rfl) (by rfl) aI #[acv y r] (fun W hW=>by go_simp;(try simp only[eg]);try rfl) (fun W hE hF=>by exact HPF.out W ⟨HHP.out.2,HHP.out.1⟩) ?_
     simp only[zp]
     refine gW W9.heap.size _ _ (by rfl) (Nat.le_refl _) (by rfl) (by simp) (by simp) (fun W hW=>by go_simp;try rfl) (fun b12=>?_)
     simp only[zp]
     repeat ((first|refine zn ?_|refine zk ?_);simp only[zp])
     intro WA hE hF
     have hE':Ext [] W9 WA:=hE
     obtain⟨c12,aeV,Xx,hk12⟩:=hF _ (List.Mem.head _)
     cases aeV
     obtain⟨x0,x1⟩:=x
     obtain⟨j1,j2,j3⟩:=cells_of_block hk12
     have HEA:=Lib.hid hE'
     have ZI:=Lib.hid hk12
     clear hE hF hE' hk12 g1 g2 g3 i1 i2 i3 hc9
     go_upto_region 10 with(fail)
     refine dD fun WB hWB=>?_
     have ab6:Below W9.heap.size W9 WB:=by rw[hWB];exact gm (gm HEA.out.below Xx _) Xx _
     have hkB:WB.heap[b12]? =some (.cells #[iv x0,iv x1] 30 (0,0)):=by rw[hWB];exact ak (ak ZI.out _) _
     have hBB:Below wr.heap.size wr WB:=aH oM.out ab6
     have Xr:WB.ownsRow W1.heap.size 30 2 (.slice Yb (iH acc ns i).length U0) (iH acc ns i).length (aj (iH acc ns i)):=cZ HX.out.1 fun g hg=>hBB.block g (aZ HX.out.1 g hg).2
     have ab4:=aH HX.out.2.2.1 hBB
     have Tv: ∀b,s3<=b->b<W6.heap.size->WB.heap[b]? =W6.heap[b]? :=fun b hb1 hb2=>(hBB.block b (by have:=HX.out.2.2.2.2;omega)).trans (HX.out.2.2.2.1 b hb1 hb2)
     have aaQ:W6.heap.size<=WB.heap.size:=Nat.le_trans HX.out.2.2.2.2 hBB.size
     have HB:=Lib.hid (And.intro Xr (And.intro HX.out.2.1 (And.intro ab4 (And.intro hkB (And.intro Tv aaQ)))))
     obtain⟨j1,j2,j3⟩:=cells_of_block hkB
     clear hWB ab6 hBB Xr ab4 Tv aaQ HEA ZI
     have HLB:=Lib.hid HLA.out
     obtain⟨L,hL⟩: ∃L,iH acc ns i=L:=⟨_,rfl⟩
     have hgb: ∀g,(Value.slice Yb (iH acc ns i).length U0).ownBlock=some g->g≠b12/\W1.heap.size<=g:=fun g hg=>by
      have h1:=aZ HX.out.1 g hg
      have h2:=oM.out.size
      omega
     have HGB:=Lib.hid hgb
     have BG:=Lib.hid HOLD.out
     rw[hL] at HB HLB HGB BG⊢
     have HL:=Lib.hid hL
     clear hgb HLA HX HOLD oM BH hL
     by_cases ha:acc=[]
     ·have hm:L.length=i:=by rw[HLB.out,if_pos ha]
      have hmb:((L.length:Int)==(i:Int))=true:=by rw[beq_iff_eq];omega
      have HAN:Hid (iH acc ns (i+1)=L++[(x0,x1)]):=Lib.hid (by
       have h1:=BG.out.2
       subst ha
       rw[P5 hin2,h1,HL.out])
      have HM:=Lib.hid hm
      clear ha hm
      go_upto_region 11 with(fail)
      clear hmb
      have hL3:L.length<=3:=by have:=HM.out;omega
      have aeb:W1.heap.size<=WB.heap.size:=HB.out.2.2.1.size
      go_wp2_with (at_builtin;refine bQ rfl _ _ yT rfl W1.heap.size (.slice Yb L.length U0) L.length (aj L) rfl ?_ (.slice (some ⟨WB.heap.size,0,none⟩) 1 1) 1 (aj [(x0,x1)]) rfl ?_ (kT _) (by omega) (by omega) (by simp;omega) ?_)
      ·exact ah (Ms:=[]) HB.out.1 (Ext.of_below ((Below.refl _ _).alloc (Nat.le_refl _) _)) (by simp)
      ·exact aB.of_block 2 1 (ag _ _) rfl (by decide)
      ·intro v' Wc hown hgr hcase
       obtain⟨UZ,Og,rfl⟩:=aK hown
       have e3:L.length+1=(L++[(x0,x1)]).length:=by simp
       rw[<-kG,e3] at hown
       rw[e3] at hcase⊢
       have hwB:Below WB.heap.size WB (WB.alloc (.cells #[iv x0,iv x1] 30)):=af (Below.refl _ _) _
       have hkc: ∀b,b<WB.heap.size->(∀g,(Value.slice Yb L.length U0).ownBlock=some g->g≠b)->Wc.heap[b]? =WB.heap[b]? :=fun b hb hn=>(hgr.block b (by simp;omega) (fun e=>hn b (by simpa using e.symm) rfl)).trans (hwB.block b hb)
       have hoc:Hid (Wc.ownsRow W1.heap.size 30 2 (.slice UZ (L++[(x0,x1)]).length Og) (L++[(x0,x1)]).length (aj (L++[(x0,x1)]))/\(∀g,(Value.slice UZ (L++[(x0,x1)]).length Og).ownBlock=some g->g<s3∨W6.heap.size<=g)/\Below W1.heap.size W1 Wc/\
        Wc.heap[b12]? =some (.cells #[iv x0,iv x1] 30 (0,0))/\(∀b,s3<=b->b<W6.heap.size->Wc.heap[b]? =W6.heap[b]?)/\W6.heap.size<=Wc.heap.size):=Lib.hid (by
        refine⟨hown,fun g hg=>?_,Below.grown (aH HB.out.2.2.1 hwB) hgr (by have:=hwB.size;omega) (fun k e=>(HGB.out k e).2),(hkc b12 (Array.getElem?_eq_some_iff.1 HB.out.2.2.2.1).1 (fun g hg=>(HGB.out g hg).1)).trans HB.out.2.2.2.1,fun b hb1 hb2=>?_,?_⟩
        ·rcases hcase with h|h
         ·rw[h] at hg;exact HB.out.2.1 g hg
         ·rw[h] at hg
          have:=HB.out.2.2.2.2.2
          have:WB.heap.size+1=g:=by simpa using hg
          right;omega
        ·have:=HB.out.2.2.2.2.2
         exact(hkc b (by omega) (fun g hg=>by have:=HB.out.2.1 g hg;omega)).trans (HB.out.2.2.2.2.1 b hb1 hb2)
        ·have:=HB.out.2.2.2.2.2
         have:=hgr.size
         have:=hwB.size
         omega)
       have tY:=hoc
       have QE:Hid (i<(L++[(x0,x1)]).length):=Lib.hid (by have:=HM.out;simp;omega)
       have HLZ:Hid ((L++[(x0,x1)])[i]'QE.out=(x0,x1)):=Lib.hid (by
        have:=HM.out
        subst this
        simp)
       have Jh:Hid ((L++[(x0,x1)]).set i (qK (x0,x1) (x0,x1))=iH acc ns (i+1)):=Lib.hid (by
        rw[HAN.out]
        have:=HM.out
        subst this
        rw[List.set_append_right _ _ (Nat.le_refl _),Nat.sub_self]
        simp[qK])
       clear hown hgr hcase e3 hwB hkc hoc hL3 aeb j1 j2 j3 HB HGB BG HLB HAN
       generalize L++[(x0,x1)]=L3 at*
       go_upto_region 12 with(fail)
       have Hm:Wc.ownsRow W1.heap.size 30 2 (.slice UZ (L3).length Og) (L3).length (aj (L3)):=tY.out.1
       obtain⟨gb,c2,hg2,VY,OZ,⟨s0,s1⟩,hfr2⟩:=mJ Hm QE.out
       rw[HLZ.out] at s0 s1
       (try simp only at s0 s1)
       obtain⟨rfl,rfl⟩:UZ=some ⟨gb,0,none⟩/\Og=c2:=by simp at hg2;exact hg2
       obtain⟨e1,e2,e3⟩:=cells_of_block tY.out.2.2.2.1
       have hiL:(i:Int)<((L3).length:Int):=by have:=QE.out;omega
       clear Hm hg2 hfr2
       refine zg 9 [] none [(7,Spec.val (rv (qK (x0,x1) (x0,x1))))] ?_
       simp only[zt]
       repeat ((first|refine zn ?_|refine zk ?_);simp only[zp])
       refine zw 58 (h:=fun W hE hF=>by exact zV (x0,x1) (x0,x1) W) (t:=?_)
       simp only[zp]
       repeat ((first|refine zn ?_|refine zk ?_);simp only[zp])
       intro QB hE hF
       have hE':Ext [] Wc QB:=hE
       have nU:Below Wc.heap.size Wc QB:=hE'.below
       have uG:QB.ownsRow W1.heap.size 30 2 (.slice (some ⟨gb,0,none⟩) (L3).length Og) (L3).length (aj (L3)):=ah (Ms:=[]) tY.out.1 hE' (by simp)
       have hset:=oJ uG QE.out (qK (x0,x1) (x0,x1))
       obtain⟨g3,c3,hg3,_,abv,⟨t0,t1⟩,hfr3⟩:=mJ uG QE.out
       obtain⟨rfl,rfl⟩:gb=g3/\Og=c3:=by simp at hg3;exact hg3
       rw[Jh.out] at hset
       have hlen:(L3).length=(iH acc ns (i+1)).length:=by rw[<-Jh.out,List.length_set]
       have hgn:gb<s3∨W6.heap.size<=gb:=tY.out.2.1 gb rfl
       have HST:=Lib.hid (And.intro hset (And.intro hlen (And.intro (aH tY.out.2.2.1 nU) (And.intro nU (And.intro hgn VY)))))
       clear hE hF hE' uG hset hlen nU hg3 hgn e1 e2 e3 s0 s1
       go_wp2_with fail
       go_roundw
       case rel=>
        refine⟨i+1,by omega,by go_num,⟨some ⟨gb,0,none⟩,Og,by rw[<-HST.out.2.1],?_,?_⟩,?_,?_,?_⟩
        ·have:=HST.out.1
         rw[HST.out.2.1] at this
         exact this
        ·intro g hg
         have:gb=g:=by simpa [Value.ownBlock] using hg
         rw[<-this];exact HST.out.2.2.2.2.1
        ·exact gm (gm HST.out.2.2.1 HST.out.2.2.2.2.2 _) HST.out.2.2.2.2.2 _
        ·intro b hb1 hb2
         have hbg:b≠gb:=by have:=HST.out.2.2.2.2.1;omega
         have h1:=tY.out.2.2.2.2.1 b hb1 hb2
         have h2:=HST.out.2.2.2.1.block b (by have:=tY.out.2.2.2.2.2;omega)
         exact(Below.heap_setCell _ _ _ _ hbg).trans ((Below.heap_setCell _ _ _ _ hbg).trans (h2.trans h1))
        ·have:=tY.out.2.2.2.2.2
         have:=HST.out.2.2.2.1.size
         simp
         omega
       case measure=>simp[intOf];omega
     ·have hm:L.length=ns.length:=by rw[HLB.out,if_neg ha]
      have hneb:((L.length:Int)==(i:Int))=false:=by rw[beq_eq_false_iff_ne];omega
      have hal:acc.length=ns.length:=by
       have h2:=QC.out
       rw[if_pos rfl] at h2
       rcases HAC.out with h|h
       ·exact absurd h ha
       ·omega
      have QE:Hid (i<L.length):=Lib.hid (by omega)
      have hz:=BG.out.1 ha hal
      obtain⟨z,hzd⟩: ∃z:bK,acc.getD i (0,0)=z:=⟨_,rfl⟩
      rw[hzd] at hz
      have HLZ:Hid (L[i]'QE.out=z):=Lib.hid (by
       rw[<-hzd,List.getD_eq_getElem?_getD, <-hz.1,List.getElem?_eq_getElem QE.out]
       rfl)
      have Jh:Hid (L.set i (qK z (x0,x1))=iH acc ns (i+1)):=Lib.hid hz.2.symm
      have HM:=Lib.hid hm
      clear ha hm hal hz hzd BG HLB HGB HL
      go_upto_region 12 with(fail)
      clear hneb
      have tY:=HB
      clear HB
      clear j1 j2 j3
      have Hm:WB.ownsRow W1.heap.size 30 2 (.slice Yb (L).length U0) (L).length (aj (L)):=tY.out.1
      obtain⟨gb,c2,hg2,VY,OZ,⟨s0,s1⟩,hfr2⟩:=mJ Hm QE.out
      rw[HLZ.out] at s0 s1
      (try simp only at s0 s1)
      obtain⟨rfl,rfl⟩:Yb=some ⟨gb,0,none⟩/\U0=c2:=by simp at hg2;exact hg2
      obtain⟨e1,e2,e3⟩:=cells_of_block tY.out.2.2.2.1
      have hiL:(i:Int)<((L).length:Int):=by have:=QE.out;omega
      clear Hm hg2 hfr2
      refine zg 9 [] none [(7,Spec.val (rv (qK z (x0,x1))))] ?_
      simp only[zt]
      repeat ((first|refine zn ?_|refine zk ?_);simp only[zp])
      refine zw 58 (h:=fun W hE hF=>by exact zV z (x0,x1) W) (t:=?_)
      simp only[zp]
      repeat ((first|refine zn ?_|refine zk ?_);simp only[zp])
      intro QB hE hF
      have hE':Ext [] WB QB:=hE
      have nU:Below WB.heap.size WB QB:=hE'.below
      have uG:QB.ownsRow W1.heap.size 30 2 (.slice (some ⟨gb,0,none⟩) (L).length U0) (L).length (aj (L)):=ah (Ms:=[]) tY.out.1 hE' (by simp)
      have hset:=oJ uG QE.out (qK z (x0,x1))
      obtain⟨g3,c3,hg3,_,abv,⟨t0,t1⟩,hfr3⟩:=mJ uG QE.out
      obtain⟨rfl,rfl⟩:gb=g3/\U0=c3:=by simp at hg3;exact hg3
      rw[Jh.out] at hset
      have hlen:(L).length=(iH acc ns (i+1)).length:=by rw[<-Jh.out,List.length_set]
      have hgn:gb<s3∨W6.heap.size<=gb:=tY.out.2.1 gb rfl
      have HST:=Lib.hid (And.intro hset (And.intro hlen (And.intro (aH tY.out.2.2.1 nU) (And.intro nU (And.intro hgn VY)))))
      clear hE hF hE' uG hset hlen nU hg3 hgn e1 e2 e3 s0 s1
      go_wp2_with fail
      go_roundw
      case rel=>
       refine⟨i+1,by omega,by go_num,⟨some ⟨gb,0,none⟩,U0,by rw[<-HST.out.2.1],?_,?_⟩,?_,?_,?_⟩
       ·have:=HST.out.1
        rw[HST.out.2.1] at this
        exact this
       ·intro g hg
        have:gb=g:=by simpa [Value.ownBlock] using hg
        rw[<-this];exact HST.out.2.2.2.2.1
       ·exact gm (gm HST.out.2.2.1 HST.out.2.2.2.2.2 _) HST.out.2.2.2.2.2 _
       ·intro b hb1 hb2
        have hbg:b≠gb:=by have:=HST.out.2.2.2.2.1;omega
        have h1:=tY.out.2.2.2.2.1 b hb1 hb2
        have h2:=HST.out.2.2.2.1.block b (by have:=tY.out.2.2.2.2.2;omega)
        exact(Below.heap_setCell _ _ _ _ hbg).trans ((Below.heap_setCell _ _ _ _ hbg).trans (h2.trans h1))
       ·have:=tY.out.2.2.2.2.2
        have:=HST.out.2.2.2.1.size
        simp
        omega
      case measure=>simp[intOf];omega
    ·have hip:i=ps.length:=by omega
     subst hip
     rw[<-QC.out.1, <-HST.out] at how hog
     rw[<-QC.out.1, <-HST.out]
     have HF:=Lib.hid (And.intro how FB)
     clear how hog FB hkeep Yv
     go_wp2_with fail
     go_roundw
     case rel=>exact⟨k+1,by omega,by go_num,⟨Yb,U0,rfl,HF.out.1⟩,HF.out.2⟩
     case measure=>simp[intOf];omega
  ·have hkd:k=ds.length:=by omega
   subst hkd
   have HF:=Lib.hid (And.intro how hB)
   clear how hB
   go_wp2_with fail
   go_returns
   exact⟨_,by simp,bH HF.out.1 (by omega),aH H1.out.1 HF.out.2⟩
end Go.Proofs.YtabpkkbiioihaaaGreatDoor
namespace Go.Proofs.YtabpkkbiioihaaaGreatDoor
open Go.RowKit Go.RG Go.SL Go.Shelf gZ Go.TB
def Aq (p:Int->bK->bK) (l:ax) (w:World) (e:Ending) (w':World):Prop:=
 Below w.heap.size w w'/\((bC l true≠0/\e= .returned (.tuple #[.slice none 0 0,iv (bC l true)]))∨
  (bC l true=0/\ ∃u,e= .returned (.tuple #[u,iv 0])/\bn w' u (jG p l (bz l))))
theorem zh (l:ax) (tv nv:Value) (aI:Nat) (p:Int->bK->bK) (w:World) (ht:bW w tv l.field.ae) (hn:aT w nv l.notes)
 (eg: ∀args w,(callFunc aI args).run Tryz.prog w= .ok (.enter aI args) w)
 (hp: ∀(d:Int) (r:bK) (W:World),(0<=d/\d<=350)/\0<=r.1/\r.1<=r.2/\r.2<=2000->Calls Tryz.prog aI #[acv d r] W (PV (rv (p d r)) W)):
 Calls Tryz.prog 22 #[.agg #[.func (.func aI) #[] #[]],lv l tv nv] w (Aq p l w):=by
 have HC:=Lib.hid (xC l tv nv true ((w.alloc (.cells #[.func (.func aI) #[] #[]] 78)).alloc (.cells (iW l tv nv) 33)) ((ht.alloc _).alloc _) ((hn.alloc _).alloc _))
 have HE:=Lib.hid eg
 have HP:=Lib.hid hp
 clear ht hn hp eg
 obtain⟨q,hq⟩: ∃q,bC l true=q:=⟨_,rfl⟩
 have HQ:=Lib.hid hq
 clear hq
 go_enter Tryz.func22,Tryz.ntmps22
 go_wp2_with fail
 refine HC.out.mono ?_
 rintro e w1 ⟨hb,⟨hne,rfl⟩|⟨h0,wb,mb,v,rfl,_,_,hok⟩⟩
 ·rw[HQ.out] at hne⊢
  have hqb:(q !=0)=true:=by simpa using hne
  have HB:=Lib.hid (And.intro (show Below w.heap.size w w1 from zl) hne)
  clear hb hne
  go_wp2_with fail
  go_returns
  exact⟨HB.out.1,.inl ⟨by rw[HQ.out];exact HB.out.2,by rw[HQ.out];simp⟩⟩
 ·have hk:=(hb.block w.heap.size (by simp;omega)).trans ((Below.heap_alloc _ _ _ (by simp)).trans (ag w (.cells #[.func (.func aI) #[] #[]] 78)))
  have HBN:=Lib.hid (LQ (yu h0).1 aI p w1 hok HE.out HP.out)
  have HB:=Lib.hid (And.intro (show Below w.heap.size w w1 from zl) h0)
  obtain⟨c1,f1,l1⟩:=cells_of_block hk
  clear hb hk hok h0
  go_wp2_with fail
  refine HBN.out.mono ?_
  rintro e w2 ⟨u,rfl,hu,hb⟩
  obtain⟨uo,uc,rfl⟩:=aK hu
  have HX:=Lib.hid (And.intro (aH HB.out.1 hb) (aB.dn hu))
  clear hb hu c1 f1 l1
  go_wp2_with fail
  go_returns
  exact⟨HX.out.1,.inr ⟨HB.out.2,_,by simp,HX.out.2⟩⟩
theorem Jb (l:ax) (tv nv:Value) (w:World) (ht:bW w tv l.field.ae) (hn:aT w nv l.notes):
 Calls Tryz.prog 9 #[lv l tv nv] w (Aq kQ l w):=by
 have HC:=Lib.hid (zh l tv nv 21 kQ (w.alloc (.cells (iW l tv nv) 33)) (ht.alloc _) (hn.alloc _) (enters_of Tryz.func21 (by kernel_rfl) rfl) (fun d r W h=>by first|exact Np d r W|(have:=h;exact Np d r W)))
 clear ht hn
 go_enter Tryz.func9,Tryz.ntmps9
 go_wp2_with fail
 refine HC.out.mono ?_
 rintro e w1 ⟨hb,⟨hne,rfl⟩|⟨h0,u,rfl,hu⟩⟩
 ·obtain⟨q,hq⟩: ∃q,bC l true=q:=⟨_,rfl⟩
  have HB:=Lib.hid (And.intro (show Below w.heap.size w w1 from zl) (And.intro hne hq))
  rw[hq]
  clear hb hne hq
  go_wp2_with fail
  go_returns
  exact⟨HB.out.1,.inl ⟨HB.out.2.1,by rw[HB.out.2.2];simp⟩⟩
 ·obtain⟨uo,uc,rfl⟩:=hu.open
  have HB:=Lib.hid (And.intro (show Below w.heap.size w w1 from zl) (And.intro h0 hu))
  clear hb h0 hu
  go_wp2_with fail
  go_returns
  exact⟨HB.out.1,.inr ⟨HB.out.2.1,_,by simp,HB.out.2.2⟩⟩
theorem UI (l:ax) (tv nv:Value) (w:World) (ht:bW w tv l.field.ae) (hn:aT w nv l.notes):
 Calls Tryz.prog 16 #[lv l tv nv] w (Aq iR l w):=by
 have HC:=Lib.hid (zh l tv nv 30 iR (w.alloc (.cells (iW l tv nv) 33)) (ht.alloc _) (hn.alloc _) (enters_of Tryz.func30 (by kernel_rfl) rfl) (fun d r W h=>by first|exact Gn d r W h|(have:=h;exact Gn d r W h)))
 clear ht hn
 go_enter Tryz.func16,Tryz.ntmps16
 go_wp2_with fail
 refine HC.out.mono ?_
 rintro e w1 ⟨hb,⟨hne,rfl⟩|⟨h0,u,rfl,hu⟩⟩
 ·obtain⟨q,hq⟩: ∃q,bC l true=q:=⟨_,rfl⟩
  have HB:=Lib.hid (And.intro (show Below w.heap.size w w1 from zl) (And.intro hne hq))
  rw[hq]
  clear hb hne hq
  go_wp2_with fail
  go_returns
  exact⟨HB.out.1,.inl ⟨HB.out.2.1,by rw[HB.out.2.2];simp⟩⟩
 ·obtain⟨uo,uc,rfl⟩:=hu.open
  have HB:=Lib.hid (And.intro (show Below w.heap.size w w1 from zl) (And.intro h0 hu))
  clear hb h0 hu
  go_wp2_with fail
  go_returns
  exact⟨HB.out.1,.inr ⟨HB.out.2.1,_,by simp,HB.out.2.2⟩⟩
end Go.Proofs.YtabpkkbiioihaaaGreatDoor
end
section
namespace Go.Proofs.YtabpkkbiioihaaaGreatDoor
open Go.RowKit Go.RG Go.SL Go.Shelf gZ Go.TB
theorem pJ {l:ax} (h:bC l true=0):kJ l/\ ∃d∈bz l,eu l [] d=true:=by
 obtain⟨hS,_,_,hp⟩:=yu h
 unfold dF at hp
 rw[List.any_eq_true] at hp
 exact⟨hS,hp⟩
theorem Ah {l:ax} (hp: ∃d∈bz l,eu l [] d=true) (p:Int->bK->bK) {i:Nat} (hi:i<l.field.ai.toNat):
 iw (fun y=> ∃d∈bz l,eu l [] d=true/\y=p (d.getD i 0) ((gK l [] d).getD i (0,0))) ((jG p l (bz l)).getD i (0,0)):=by
 obtain⟨d,hd,hc⟩:=hp
 rcases Ai p l (bz l) hi (bz l).length (Nat.le_refl _) with⟨_,h2⟩|⟨_,h1⟩
 ·rw[List.take_length] at h2;rw[h2 d hd] at hc;cases hc
 ·rw[List.take_length] at h1;exact h1
end Go.Proofs.YtabpkkbiioihaaaGreatDoor
namespace Go.Proofs.YtabpkkbiioihaaaGreatDoor
open Go.RowKit Go.RG Go.SL Go.Shelf gZ Go.TB
end Go.Proofs.YtabpkkbiioihaaaGreatDoor
end

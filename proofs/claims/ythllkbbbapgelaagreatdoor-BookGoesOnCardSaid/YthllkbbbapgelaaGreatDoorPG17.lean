/-
  Texts of this claim, packed by a program: HG.
-/
import Derived.WalkKit
import Derived.WalkLawsBesides
import Derived.WalkSpells
import Derived.Outline
import Derived.Handy
import Derived.KernelRfl
import Derived.Lib.Hide
import Derived.Test.YthllkbbbapgelaaGreatDoorPG16
set_option maxHeartbeats 8000000
set_option maxRecDepth 100000
set_option linter.all false
section
namespace Go.Proofs.Z.Bk
open Go.Lib Go.RowKit Go.RG Go.SL Go.Shelf ig Go.TB Go.Proofs.Z.uL
theorem Vv {ls:List au} (h0:dA ls=0) (n:Nat):
 uz [] ls=lJ ls/\dA (lJ ls)=0/\(oD (lJ ls)).length<=2760/\
  ∃m,m<=(lJ ls).length/\cK 40 0 ((oD (lJ ls)).take n)=(lJ ls).take m/\dA ((lJ ls).drop m)=0/\uz ((oD (lJ ls)).take n) ((lJ ls).drop m)=lJ ls:=by
 obtain⟨ha,hacc,_⟩:=Gx h0;obtain⟨_,hl,m,hm,hr,_,_⟩:=Qh ha n;have hf:=mg ha;refine⟨?_,ha,hl,m,hm,hr,KG (by have:=hf.1;simp;omega) fun l hm'=>hf.2 l (List.mem_of_mem_drop hm'),?_⟩
 ·have:cK 40 0 []=[]:=by
   have h:=FL (ls:=[]) (fun l hl=>by cases hl) 40 (bD _) 0;exact h
  unfold uz zz;rw[this];rfl
 ·unfold uz zz;rw[hr,(Wi hacc m).2,List.take_append_drop]
theorem fC.from {w:World} {o:Option Addr} {ls:List au} {c:Nat} (h:aH 1 w (.slice o ls.length c) ls.length (aT ls)) {k:Nat} (hk:k<=ls.length) {x:Int} (hx:x=k):
 ∃so sc,(∀W,(Instr.slice 22 (.slice o ls.length c) (some (iv x)) none none).run Tryz.prog W= .ok (.slice so (ls.drop k).length sc) W)/\aH 1 w (.slice so (ls.drop k).length sc) (ls.drop k).length (aT (ls.drop k)):=by
 subst hx;obtain⟨so,sc,h1,h2⟩:=KT (P:=Tryz.prog) 22 ϰ (fun W=>by rw[show Tryz.prog.elem 22=9 by kernel_rfl];simp[go_sem]) (o:=o) (n:=ls.length) (c:=c) hk;have h3:=aH.cut h hk (ah _);rw[h2] at h3;have e:(List.take ls.length (aT ls)).drop k=aT (ls.drop k):=by
  rw[iT (by simp[aT])];simp[aT,List.map_drop]
 rw[e] at h3;rw[jq];exact⟨so,sc,h1,h3⟩
theorem wrap_small (x:Int) (h0:0<=x) (h1:x<=1000000):wrap64 x=x:=IntWalk.wrap64_in _ ⟨by omega,by omega⟩
theorem D5 (ls:List au) (lv:Value) (cut:Int) (hc0:0<=cut) (hc6:cut<=65535) (w:World) (hv:fC w lv ls) (hE:Env w):Ϝ 7 #[lv,.int .u16 cut] w (PV (.bool true) w):=by
 obtain⟨k,rfl⟩: ∃k:Nat,cut=k:=⟨cut.toNat,by omega⟩;have Gc:k<=65535:=ϑ;clear hc0 hc6;obtain⟨lo,lc,rfl⟩:=aH.open hv;have WV:=aa (Sv ls _ w hv);have HV:=aa (fun W (hb:Ϙ w W)=>hv.below hb (ah _));have HE:=aa (fun W (hb:Ϙ w W)=>hE.below hb (ah _));have Tq:=aa (fun W (hb:Ϙ w W)=>Lr W (hE.below hb (ah _)));clear hv hE;go_enter Tryz.func7,Tryz.ntmps7;go_wp2_with fail
 refine WV.o.mono ?_;rintro e W1 ⟨hB1,b,rfl,hb⟩;have Qi:=aa hB1;clear hB1 WV;cases b with
 |false=>
  clear hb;go_wp2_with fail
  refine(Tq.o W1 Qi.o).mono ?_;rintro e Wz ⟨rfl,hbz⟩;have Ra:=aa (aV Qi.o hbz);clear hbz;exact zau
 |true=>
 have hf0:=hb rfl;clear hb;have hf:=mg hf0;have WU:ls.length<=40:=hf.1;have OM:=aa hf0;have LH:=aa (fun l (hl:l∈ls)=>show l.length<=1000000 by have:=hf.2 l hl;omega)
 have HAC:=aa (Gx hf0);clear hf0 hf;go_wp2_with fail
 refine(MG (ls) (.slice lo ls.length lc) W1 (HV.o W1 Qi.o) (HE.o W1 Qi.o) (OM.o)).mono ?_;rintro e D9 ⟨θ,roa,rca,Va,esa,he,hL,hS2⟩;subst he;have hs2:=θ.size;rename_i hK;refine hK _ _ ?_;refine aF rfl _ (by go_simp;first|rfl|exact⟨rfl,rfl⟩) ?_;simp only[zp];refine aF rfl _ (by go_simp;first|rfl|exact⟨rfl,rfl⟩) ?_;simp only[zp];refine aF rfl _ (by go_simp;first|rfl|exact⟨rfl,rfl⟩) ?_;simp only[zp];refine aF rfl _ (by go_simp;first|rfl|exact⟨rfl,rfl⟩) ?_;simp only[zp];obtain⟨ga,hg⟩: ∃g,g=D9.heap.size:=⟨_,rfl⟩;refine aF rfl (w':=D9.alloc (.cells cu 62 (0,0))) (.pointer (some ⟨ga,0,none⟩)) (by rw[hg];go_simp;try rfl) ?_;simp only[zp];refine aF rfl _ (by go_simp;first|rfl|exact⟨rfl,rfl⟩) ?_;simp only[zp];have hz2:(D9.alloc (.cells cu 62 (0,0))).heap[ga]? =some (.cells cu 62 (0,0)):=by rw[hg];exact av _ _
 refine wpList_store_row rfl _ _ _ rfl ga (bP (fO (ls)) Va) ϰ ϰ _ cu hz2 ϰ ϰ (by rw[jw];exact fun u hu=>fu hS2 u (jM.2 hu)) ?_
 simp only[zp];refine ib fun uJ Η=>?_;obtain⟨uf,jI⟩: ∃uf,uf=D9.alloc (.cells cu 62 (0,0)):=⟨_,rfl⟩;rw[<-jI] at Η hz2;have rJ:Ext [ga] uf uJ:=by rw[Η];exact dJ
 have hs3:=rJ.size;have zG:uf.heap.size=ga+1:=by rw[jI,hg];simp
 have ky:Ϙ D9 uJ:=gq (by rw[jI];exact ai (aC _ _) _) rJ ϑ
 have Ω:uJ.heap[ga]? =some (.cells (bP (fO (ls)) Va) 62 (0,0)):=by rw[Η];exact setRow_heap _ _ _ _ _ _ hz2
 have Ya:ga<uJ.heap.size:=ϑ;have SQ:=aa (af (aV θ ky) (af Ω (af (hS2.below ky (ah _)) (hL.below ky (ah _)))));clear Η jI rJ ky θ hS2 hz2 hK hs2 hs3 zG hg Ω hL;have δ:=aa (aV Qi.o SQ.o.1);have HLA:=aa SQ.o.2.2.2;clear SQ;have haf:=mg HAC.o.1;have aeW:(lJ ls).length<=40:=haf.1;have ab0:=aa (fun l (hl:l∈lJ ls)=>show l.length<=1000000 by have:=haf.2 l hl;omega)
 obtain⟨F,hF⟩: ∃F,oD (lJ ls)=F:=⟨_,rfl⟩;have hgl:=Vv OM.o (k%(F.length+1));have HFA:=aa HAC.o.1;rw[hF] at hgl;obtain⟨A,hA⟩: ∃A,lJ ls=A:=⟨_,rfl⟩;rw[hA] at hgl HLA ab0 aeW hF HFA⊢;obtain⟨g1,g2,g3,m,hm,g4,g5,g6⟩:=hgl;clear g2;obtain⟨n,hn⟩: ∃n,k%(F.length+1)=n:=⟨_,rfl⟩;have hnl:n<=F.length:=by have:=Nat.mod_lt k (show 0<F.length+1 by omega);omega
 rw[hn] at g4 g6;have hmod:(k:Int).tmod ((F.length:Int)+1)=(n:Int):=by
  rw[show(F.length:Int)+1=((F.length+1:Nat):Int) from ϑ,ag0 k _ ϑ,hn]
 have hne1: ¬((F.length:Int)+1=0):=ϑ;have HG:=aa (af g1 (af g4 (af g5 g6)));have HFE:=aa hF;have HMO:=aa (af hmod hne1);clear g1 g4 g5 g6 hn hA hF haf hmod hne1;go_wp2_with fail
 refine(tF (A) (.slice roa A.length rca) uJ (HLA.o) (by have:=aeW;omega)).mono ?_;rintro e Wlc ⟨olc,clc,rfl,hol,ο⟩;have ajB:=aa (aV δ.o ο);have ajd:=aa (aH.bV hol);have ajv:=aa ο;clear ο hol;have HWR:=aa (Gy A _ Wlc ajd.o ab0.o);rw[HFA.o] at HWR;go_wp2_with fail
 refine HWR.o.mono ?_;rintro e W4 ⟨hB4,⟨hn,_⟩|⟨_,v,rfl,hvo⟩⟩
 ·exact absurd rfl hn
 rw[HFE.o] at hvo;obtain⟨o4,c4,rfl⟩:=aL hvo;have fV:=aa (aV ajB.o hB4);have ajh:=aa (aH.below (aH.below HLA.o ajv.o (ah _)) hB4 (ah _));have I5:=aa (aH.bV hvo);clear hB4 hvo HWR;go_wp2_with fail
 refine(tF (ls) (.slice lo ls.length lc) W4 (HV.o W4 fV.o) (by have:=WU;omega)).mono ?_;rintro e Wld ⟨old,cld,rfl,hol,ο⟩;have afM:=aa (aV fV.o ο);have ajc:=aa (aH.bV hol);have aju:=aa ο;clear ο hol;have zf:=aa (Dn [] (.slice none 0 0) ls _ Wld (aH.nil 1 Wld) ϕ ajc.o LH.o (HE.o Wld afM.o));rw[OM.o] at zf;go_wp2_with fail
 refine zf.o.mono ?_;rintro e W5 ⟨uD,⟨hn,_⟩|⟨_,hgt,_⟩|⟨_,ahF,v5,rfl,hv5⟩⟩
 ·exact absurd rfl hn
 ·rw[HG.o.1] at hgt;omega
 clear ahF;rw[HG.o.1,HFE.o] at hv5;obtain⟨o5,c5,rfl⟩:=aL hv5;have mO:=aa (aV afM.o uD);have abk:=aV aju.o uD;have ajg:=aa (aH.below ajh.o abk (ah _));have hs4:=aH.below I5.o abk (ah _);have I5:=aa hs4;have cv1:=mh (W:=W5) (o:=o4) (n:=F.length) (c:=c4) (l:=F) hs4;have cv2:=mh (W:=W5) (o:=o5) (n:=F.length) (c:=c5) (l:=F) (aH.bV hv5);obtain⟨so,sc,e1,t1⟩:=BytesAt.to hs4 hnl (x:=(n:Int)) rfl;have htl:(F.take n).length=n:=by simp;omega
 have HT1:=aa t1;have HWW:=aa (af (wrap_small (k:Int) ϑ ϑ) (wrap_small ((F.length:Int)+1) ϑ ϑ));clear uD abk hv5 hs4 zf t1;obtain⟨hkw,hw1⟩:=HWW.o;have hmod:=HMO.o.1;have hne1:=HMO.o.2;go_upto_region 9 with(fail)
 clear hkw hw1 hmod hne1 cv1 cv2;go_wp2_with (at_builtin;go_loud (refine dB rfl _ _ BG rfl W5.heap.size (.slice none 0 0) 0 [] rfl (by exact⟨rfl,.inl ⟨rfl,rfl⟩⟩) (.slice so n sc) n (Lib.byteCells (F.take n)) rfl HT1.o (zU (F.take n)) ϑ ϑ ϕ ?_))
 intro v6 W6 Fw TF _;have Ev:Ϙ W5 W6:=Below.grown (aC _ _) TF (ah _) (fun g e=>by cases e);(try rw[Nat.zero_add] at Fw)
 (try rw[List.nil_append] at Fw)
 obtain⟨o6,c6,rfl⟩:=aL Fw;have nZ:=aa (aV mO.o Ev);have h6':aH 1 W6 (.slice o6 n c6) (F.take n).length (Lib.byteCells (F.take n)):=by rw[htl];exact aH.bV Fw
 have WW:=aa (AU (F.take n) _ W6 h6' ϑ);have HD6:=aa Ev;clear Fw TF Ev h6';go_wp2_with fail
 refine WW.o.mono ?_;rintro e W7 ⟨D8,v7,rfl,hv7⟩;rw[HG.o.2.1] at hv7⊢;have lg:(A.take m).length=m:=by simp;omega
 rw[lg] at hv7;obtain⟨o7,c7,rfl⟩:=aL hv7;have wK:=aa (aV nZ.o D8);have abj:=aV HD6.o D8;have hla:=aH.below ajg.o abj (ah _);have ZX:=aa (aH.below I5.o abj (ah _));have hmi: ¬(A.length:Int)<(m:Int):=ϑ;obtain⟨so2,sc2,e2,t2⟩:=BytesAt.to ZX.o hnl (x:=(n:Int)) rfl;obtain⟨so3,sc3,e3,t3⟩:=fC.from hla hm (x:=(m:Int)) rfl;have HT2:=aa t2;have HT3:=aa t3;have hdl:(A.drop m).length<=40:=by simp;omega
 clear D8 hv7 WW abj hla t2 t3 e1;go_upto_region 12 with(fail)
 have HRG:=aa (fun(W:World) (hb:Ϙ W7 W) (x y:Value) (hx:aH 1 W x (F.take n).length (Lib.byteCells (F.take n))) (hy:fC W y (A.drop m))=>Dn (F.take n) x (A.drop m) y W hx ϑ hy (fun l hl=>ab0.o l (List.mem_of_mem_drop hl)) (HE.o W (aV wK.o hb)));rw[HG.o.2.2.1] at HRG;refine zg 15 [] none [(3,⟨fun _ v=> ∃o c,v= .slice o n c,fun _ v Wx=>aH 1 Wx v n (Lib.byteCells (F.take n))⟩),(8,⟨fun _ v=> ∃o c,v= .slice o (A.drop m).length c,fun _ v Wx=>fC Wx v (A.drop m)⟩),(9,⟨fun _ v=> ∃o c,v= .tuple #[.slice o F.length c,iv 0],fun _ v Wx=> ∃o c,v= .tuple #[.slice o F.length c,iv 0]/\aH 1 Wx (.slice o F.length c) F.length (Lib.byteCells F)⟩)] ?_;simp only[zt];repeat ((first|refine zn ?_|refine zk ?_);simp only[zp])
 refine bn _ ϱ ϱ (by exact⟨_,none,0,rfl⟩) (fun Wq hE hF=>?_) (fun v Wa Wb ho hE=>?_) (fun v hv=>?_)
 ·have G8:Ext [] W7 Wq:=hE;have ι:=aH.below HT2.o G8.below (ah _);refine Does.mono (cZ (base:=W7.heap.size) (v:= .slice none 0 0) (n:=0) (xs:=[]) BG ϱ ϱ (by exact⟨rfl,.inl ⟨rfl,rfl⟩⟩) ϱ ι (zU (F.take n)) ϑ ϑ G8.size) ?_;rintro v' W8 ⟨ho,TF,_⟩;rw[Nat.zero_add,List.nil_append] at ho;exact⟨aO ho,aH.bV ho,⟨TF.os,TF.tape,TF.output,TF.size,fun x hx _=>TF.block x hx (fun e=>by cases e)⟩⟩
 ·exact aH.below ho (Ext.below (show Ext [] Wa Wb from hE)) (ah _)
 obtain⟨o8,c8,rfl⟩:=hv;simp only[zp];repeat ((first|refine zn ?_|refine zk ?_);simp only[zp])
 refine bn _ ϱ ϱ (by exact⟨_,none,0,rfl⟩) (fun Wq hE hF=>?_) (fun v Wa Wb ho hE=>?_) (fun v hv=>?_)
 ·have G8:Ext [] W7 Wq:=hE;refine bX 11 #[.slice so3 (A.drop m).length sc3] (by go_simp;try rfl) ?_;refine(tF (A.drop m) _ Wq (aH.below HT3.o G8.below (ah _)) ϑ).mono ?_;rintro e W8 ⟨o,c,rfl,ho,hb⟩;exact⟨_,rfl,⟨o,c,rfl⟩,aH.bV ho,Ext.ay hb⟩
 ·exact aH.below ho (Ext.below (show Ext [] Wa Wb from hE)) (ah _)
 obtain⟨o9,c9,rfl⟩:=hv;simp only[zp];refine bn _ ϱ ϱ (by exact⟨_,none,0,rfl⟩) (fun Wq hE hF=>?_) (fun v Wa Wb ho hE=>?_) (fun v hv=>?_)
 ·have G8:Ext [] W7 Wq:=hE;have hy:=hF _ (bu _) ϰ;have hx:=hF _ (kW _ (bu _)) ϰ;refine bX 27 #[.slice o8 n c8,.slice o9 (A.drop m).length c9] (by go_simp;try rfl) ?_;refine(HRG.o Wq G8.below _ _ (by rw[htl];exact hx) hy).mono ?_;rintro e W8 ⟨hb,⟨hn,_⟩|⟨_,hgt,_⟩|⟨_,hle,v,rfl,hv⟩⟩
  ·exact absurd rfl hn
  ·rw[HG.o.2.2.2] at hgt;omega
  ·rw[HG.o.2.2.2,HFE.o] at hv;obtain⟨o,c,rfl⟩:=aL hv;exact⟨_,rfl,⟨o,c,rfl⟩,⟨o,c,rfl,aH.bV hv⟩,Ext.ay hb⟩
 ·obtain⟨o,c,hv,h1⟩:=ho;exact⟨o,c,hv,h1.below (Ext.below (show Ext [] Wa Wb from hE)) (ah _)⟩
 obtain⟨oy,cy,rfl⟩:=hv;simp only[zp];repeat ((first|refine zn ?_|refine zk ?_);simp only[zp])
 intro W9 Vp ZE;obtain⟨_,_,he,hy9⟩:=ZE _ (bu _);cases he;have abg:Ext [] W7 W9:=Vp;have oJ:=aa (aV wK.o abg.below);have cv3:=mh (W:=W9) (o:=oy) (n:=F.length) (c:=cy) (l:=F) hy9;have cv4:=mh (W:=W9) (o:=o4) (n:=F.length) (c:=c4) (l:=F) (aH.below ZX.o abg.below (ah _));clear Vp ZE abg hy9 e2 e3 htl lg hdl hmi;go_wp2_with fail
 refine(Tq.o W9 oJ.o).mono ?_;rintro e Wz ⟨rfl,hbz⟩;have Ra:=aa (aV oJ.o hbz);clear hbz;exact zau
end Go.Proofs.Z.Bk
end

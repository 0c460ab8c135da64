/-
  Texts of this claim, packed by a program: EJ EH EL EM FC HD FE EO EP EQ ER ES FH GR HS HF.
-/
import Derived.WalkKit
import Derived.WalkLawsBesides
import Derived.WalkSpells
import Derived.Outline
import Derived.Handy
import Derived.KernelRfl
import Derived.Lib.Hide
import Derived.BigRegion
import Derived.Laws.DeepStrings4
import Derived.Test.YthllkbbbapgelaaGreatDoorPG15
set_option maxHeartbeats 8000000
set_option maxRecDepth 100000
set_option linter.all false
theorem _root_.zcF {P:Prop} (h:P:=by
 obtain rfl:q=none:=by rw[<-HQ.o];exact yg tX (by rw[HDX.o.2];unfold fw;simp;omega)
 go_wp2_with fail
 go_returns;exact⟨by simp,hb⟩):P:=h
theorem _root_.zcu {P:Prop} (h:P:=by
 go_region
 all_goals go_wp2_with fail
 all_goals go_roundw
 all_goals first
  |exact⟨k+1,_,_,by omega,by go_num,rfl,rfl,by omega,by omega,by omega,by omega,gL fV.o⟩
  |(simp[intOf];omega)):P:=h
theorem _root_.zcI {P:Prop} (h:P:=by
 exact(heap_setCell_other _ ⟨B+1,0,none⟩ b _ h2).trans (heap_setCell_other _ ⟨B,0,none⟩ b _ h1)):P:=h
theorem _root_.zab {P:Prop} (h:P:=by
 obtain⟨c9,f9,l9⟩:=ae (HC.o W9 SH.o.below);have qN:=κ.o W9 SH.o.below;have I7:=aa (iM.Dz s.heap vw vu vr vu s.heap.turns W9 qN.bM qN.Ed qN.LU qN.Ed);clear qN;go_wp2_with fail
 refine I7.o.mono ?_;rintro e Oq ⟨bv,he,hbv,xD⟩;rw[iD.o.2.ask] at he;subst he;obtain⟨uD,hB1,hB2⟩:=Cx iD.o.1 iD.o.2;have XY:Cy s=fK Pd ((iM.iV s.heap s.heap.turns).getD 4 (0,0)):=rfl;obtain⟨B,hB⟩: ∃B,iM.iV s.heap s.heap.turns=B:=⟨_,rfl⟩;rw[hB] at hbv uD hB1 hB2 XY;obtain⟨bO,bC,rfl⟩:=hbv.open;obtain⟨lb,M6,rfl,hlb,d1,d2⟩:=bF.cell hbv (k:=4) ϑ;have hg4:B.getD 4 (0,0)=B[4]:=tN ϑ;rw[hg4] at hB1 hB2 XY;generalize B[4]=x at*
 have Dt:=aa (SH.o.call xD);have hl4:s.heap.last=4:=iD.o.1.heap.1;have HHR:=aa XY;clear hbv xD hB XY c9 f9 l9 hg4;obtain⟨c9,f9,l9⟩:=ae (HC.o Oq Dt.o.below);rw[uD];have HW:=aa (fun W hE=>qb W3.heap.size W3.heap.size P4 Pd x W (Dt.o.call hE).buf (kV (Dt.o.call hE).lt) ϑ (Tq.o _ (Dt.o.call hE).below) hB1 hB2 (by have h2:(Pd:au).length<=10:=ϖ;omega))
 have hwl:=zh (word:=Pd) hB1 hB2;clear hB1 hB2 uD;go_wp2_with fail
 refine zg 15 [] none [] ?_;simp only[zt];repeat ((first|refine zn ?_|refine zk ?_);simp only[zp])
 intro W hE hF;have hbE:=hE.below;clear hE hF;go_wp2_with fail
 refine(HW.o W hbE).mono ?_;rintro e YW ⟨⟨v11,rfl⟩,hbu,Δ⟩;obtain⟨P5,Yj⟩: ∃P,P4++fK Pd x=P:=⟨_,rfl⟩;have hs5:P5.length<=1340:=by rw[<-Yj,bR];have:(Pd:au).length=4:=rfl;omega
 rw[Yj] at hbu;have OC:=aa ((Dt.o.call hbE).wrote hbu Δ ϑ);have Vb:lY s=P5++keepR s++(iG s.cz).flatMap (fK yM):=by rw[HEQ.o,HHR.o,Yj]
 have ab5:=aa Vb;clear hbu Δ Yj Vb c9 f9 l9 hbE hwl d1 d2 hl4;obtain⟨c9,f9,l9⟩:=ae (HC.o YW OC.o.below);have qN:=κ.o YW OC.o.below;have HKP:=aa (iM.zY s.heap vw vu vr vu s.heap.turns YW qN.bM qN.Ed qN.LU qN.Ed);have hkr:keepR s=O9++Lib.itoa (iM.mf s.heap s.heap.turns)++[10]:=rfl;have Γ:=Ap s.heap s.heap.turns;obtain⟨kq,hkq⟩: ∃k,iM.mf s.heap s.heap.turns=k:=⟨_,rfl⟩;rw[hkq] at hkr Γ;have HKQ:=aa hkq;clear qN hkq;go_wp2_with fail
 refine HKP.o.mono ?_;rintro e Tf ⟨he,NB⟩;rw[HKQ.o,iD.o.2.ask] at he;subst he;have WG:=aa (OC.o.call NB);have hil:=ou Γ;have HIT:=aa (vz kq Γ Tf (Tq.o _ WG.o.below));obtain⟨s2,Nu⟩: ∃s,Lib.itoa kq=s:=⟨_,rfl⟩;rw[Nu] at hil hkr;have HS2:=aa Nu;have WX:=aa hkr;have a1:=fun W=>nV (P:=Tryz.prog) (a:=O9) (b:=s2) rfl (by have:(O9:au).length=6:=rfl;omega) W
 have a2:=fun W=>nV (P:=Tryz.prog) (a:=O9++s2) (b:=[10]) rfl (by rw[bR];have:(O9:au).length=6:=rfl;have:([10]:au).length=1:=rfl;omega) W
 clear NB Γ Nu hkr c9 f9 l9;go_wp2_with fail
 refine HIT.o.mono ?_;rintro e W13 ⟨rfl,Ip⟩;rw[HS2.o];have OB:=aa (WG.o.call Ip);clear Ip;go_wp2_with fail
 refine(rR W3.heap.size W3.heap.size P5 _ W13 OB.o.buf (kV OB.o.lt) ϗ).mono ?_;rintro e PM ⟨⟨v14,rfl⟩,hbu,Δ⟩;obtain⟨P6,Ta⟩: ∃P,P5++keepR s=P:=⟨_,rfl⟩;have hs6:P6.length<=1000+400:=by
  rw[<-Ta,WX.o,bR,bR,bR];have:(O9:au).length=6:=rfl;have:([10]:au).length=1:=rfl;omega
 have Vh:Buf W3.heap.size W3.heap.size P6 PM:=by
  rw[<-Ta,WX.o];simpa using hbu
 have OA:=aa (OB.o.wrote Vh Δ ϑ);have U9:lY s=P6++(iG s.cz).flatMap (fK yM):=by rw[ab5.o,Ta]
 have ab4:=aa U9;clear hbu Vh Δ Ta U9 a1 a2;obtain⟨c9,f9,l9⟩:=ae (HC.o PM OA.o.below);have HCB:=aa (vg s.cz vh vk vs es PM (κ.o PM OA.o.below).cz);go_wp2_with fail
 refine HCB.o.mono ?_;rintro e Sr ⟨Vk,⟨hne,rfl⟩|⟨_,ahd,aiB,rfl,Zx,hcv⟩⟩
 ·exact absurd iD.o.2.YO hne
 obtain⟨C,hC⟩: ∃C,iG s.cz=C:=⟨_,rfl⟩;have hC3:C.length<=3:=by rw[<-hC];unfold iG;rw[kC,List.length_range];exact iD.o.1.aR
 have HCS:Hid (∀r∈C,jB r.1/\jB r.2):=aa (by rw[<-hC];exact Dc iD.o.2.YO);rw[hC] at hcv;have HCE:=aa hC;obtain⟨hO,hCc,rfl⟩:=Zx.open;obtain⟨cO,cC,rfl⟩:=hcv.open;have Wy:=aa (af (OA.o.call Vk) hcv);clear Vk Zx hcv hC c9 f9 l9;go_wp2_with fail
 go_loopw [149] (fun i wr=> ∃k:Nat,k<=C.length/\i= .int .i64 k/\Tg W3 (P6++(C.take k).flatMap (fK yM)) wr/\aH 2 wr (.slice cO C.length cC) C.length (aD C)) (fun i _=>C.length-(intOf i).toNat)
 case atStart=>exact⟨0,bD _,rfl,by simpa using Wy.o.1,Wy.o.2⟩
 case round=>
  obtain⟨k,hk,rfl,hR,hL⟩:=hrel;by_cases tX:k<C.length
  ·obtain⟨lb,M6,rfl,hlb,d1,d2⟩:=bF.cell hL tX;obtain⟨x,hx⟩: ∃x,C[k]=x:=⟨_,rfl⟩;rw[hx] at d1 d2;have hsm:=HCS.o C[k] (bK tX);rw[hx] at hsm;have Pb:P6++(C.take (k+1)).flatMap (fK yM)=(P6++(C.take k).flatMap (fK yM))++fK yM x:=by rw[rV _ tX,hx,jg]
   have Ib:(P6++(C.take (k+1)).flatMap (fK yM)).length<=500000:=by
    have h1:=pV yM (l:=C.take (k+1)) (fun r hr=>HCS.o r (ny hr));have h2:(C.take (k+1)).length<=10:=by rw[eO];omega
    rw[bR];have h3:(yM:au).length+26<=40:=by decide
    have h4:=Nat.mul_le_mul h3 h2;have h5:=hC3;have h6:(P6).length<=2000:=ϑ;omega
   have hR':=hR.call (ai (aC _ _) (.cells #[iv x.1,iv x.2] 129 (0,0)));have HW:=aa (qb W3.heap.size W3.heap.size _ yM x _ hR'.buf (kV hR'.lt) ϑ (Tq.o _ hR'.below) hsm.1 hsm.2 (by have h1:=hR.len;have h2:(yM:au).length<=10:=ϖ;omega))
   have HX:=aa (af hR' (af hL (af Pb Ib)));clear hR hL Pb Ib hR' hsm hx;go_wp2_with fail
   refine HW.o.mono ?_;rintro e W6 ⟨⟨v,rfl⟩,hbu,Δ⟩;have Pv:=HX.o.1.wrote hbu Δ (by have:=HX.o.2.2.2;rwa [HX.o.2.2.1] at this);have hL6:=Δ.list (HX.o.2.1.alloc _) (yo C);have H6:=aa (af Pv hL6);clear hbu Δ Pv hL6;go_wp2_with fail
   go_roundw
   case rel=>exact⟨k+1,by omega,by go_num,by rw[HX.o.2.2.1];exact H6.o.1,H6.o.2⟩
   case measure=>simp[intOf];omega
  ·have XI:k=C.length:=ϑ;subst XI;rw[List.take_length] at hR;have uK:=aa hR;clear hR hL;obtain⟨P7,NC⟩: ∃P,P6++C.flatMap (fK yM)=P:=⟨_,rfl⟩;rw[NC] at uK;have PT:Hid (Ha ls=P7):=aa (by rw[I1.o,ab4.o,HCE.o,NC]);clear NC;go_wp2_with fail
   refine(Tryz.Builder_String_any_k W3.heap.size W3.heap.size P7 wr (Lib.IsBuilderF.of uK.o.buf.is) (kV uK.o.lt)).mono ?_;rintro e W16 ⟨rfl,_,Vj,_⟩;have ace:=aa (H3.o.1.trans ((uK.o.below.trans Vj).mono H3.o.1.size));clear Vj;go_wp2_with fail
   go_returns;exact⟨ace.o,by rw[PT.o,HQ.o];simp⟩):P:=h
theorem _root_.zaC {P:Prop} (h:P:=by
 have H6:=aa (af Pv hL6);clear hbu Δ Pv hL6;go_wp2_with fail
 go_roundw
 case rel=>exact⟨k+1,by omega,by go_num,by rw[HX.o.2.2.1];exact H6.o.1,H6.o.2⟩
 case measure=>simp[intOf];omega):P:=h
theorem _root_.zak {P:Prop} (h:P:=by
 go_wp2_with fail
 go_loopw [4,5] (fun n u wr=> ∃i:Nat,i<=l.length/\u= .int .i64 i/\(l.take i).all fw=true/\n= .int .i64 (nC (l.take i))/\Ϙ w wr) (fun _ u _=>l.length-(intOf u).toNat)
 case atStart=>exact⟨0,bD _,rfl,rfl,rfl,aC _ _⟩
 case round=>
  obtain⟨i,hi,rfl,hd,rfl,hb⟩:=hrel;have hvs:=Fe hd ϗ;by_cases tX:i<l.length
  ·obtain⟨x,hx⟩: ∃x,l[i]=x:=⟨_,rfl⟩;have hgx:(dN l)[i]'(by rw[ν];exact tX)=x:=hx;have htk:l.take (i+1)=l.take i++[x]:=by rw[eT tX,hx]
   have Br:=aa htk;have HDX:=aa (af hd hx);have hxl:=x.toNat_lt;clear htk hd hx;obtain⟨n,hn⟩: ∃n,nC (l.take i)=n:=⟨_,rfl⟩;have HNV:=aa hn;rw[hn] at hvs⊢;clear hn;by_cases hlo:x.toNat<48
   ·have aaL:(x.toNat:Int)<48:=ϑ;exact zcF
   ·have aaL: ¬(x.toNat:Int)<48:=ϑ;by_cases hhi:57<x.toNat
    ·have aaT:(57:Int)<x.toNat:=ϑ;exact zcF
    ·have aaT: ¬(57:Int)<x.toNat:=ϑ;have hw8:IntKind.u8.wrap ((x.toNat:Int)-48)=(x.toNat:Int)-48:=Ul hlo hxl;have hw64:wrap64 (10*n+((x.toNat:Int)-48))=10*n+((x.toNat:Int)-48):=O7 hvs.1 hvs.2 hlo hxl;have HV2:Hid (nC (l.take (i+1))=10*n+((x.toNat:Int)-48)):=aa (by rw[Br.o,vT,HNV.o]);have HD2:Hid ((l.take (i+1)).all fw=true):=aa (by rw[Br.o,Lv,HDX.o.1];unfold fw;simp;omega);go_wp2_with fail
     go_roundw
     case rel=>exact⟨i+1,by omega,by go_num,HD2.o,by rw[HV2.o],hb⟩
     case measure=>simp[intOf];omega
  ·have hil:i=l.length:=ϑ;subst hil;rw[List.take_length] at hd hvs⊢;obtain rfl:q=some (nC l):=by rw[<-HQ.o,HF.o hd]
   generalize nC l=n at*
   clear hd;go_wp2_with fail
   go_returns;exact⟨by simp,hb⟩):P:=h
theorem _root_.zbE {P:Prop} (h:P:=by
 go_wp2_with fail
 go_returns;exact⟨by simp,aC _ _⟩):P:=h
theorem _root_.zac {P:Prop} (h:P:=by
 obtain⟨m,hm⟩: ∃m,ns.length=m+2:=⟨ns.length-2,by omega⟩;obtain⟨b3,JV,rfl,Θ,hc4⟩:=aK.cell (l:=ns) I5.o (k:=m) ϑ;obtain⟨b9,MU,Ve,_,Nz⟩:=aK.cell (l:=ns) I5.o (k:=m+1) ϑ;obtain⟨rfl,rfl⟩:b9=b3/\MU=JV:=by
  injection Ve with h;injection h with h1 h2;exact⟨h1.symm,h2.symm⟩
 obtain⟨xa,hxa⟩: ∃y,ns[m]=y:=⟨_,rfl⟩;obtain⟨xb,hxb⟩: ∃y,ns[m+1]=y:=⟨_,rfl⟩;have aa0:=I7.o xa (by rw[<-hxa];exact bK _);have aaZ:=I7.o xb (by rw[<-hxb];exact bK _);rw[hxa] at hc4;rw[hxb] at Nz;rw[hm];have lg:m<=1000:=ϑ;have e1:(m:Int)+2-2=m:=ϑ;have e2:(m:Int)+2-1=(m:Int)+1:=ϑ;clear hxa hxb hm Ve gl;go_wp2_with fail
 by_cases hab:xa<=xb
 ·by_cases hba:xb<=xa+9
  ·by_cases hN:N<=1000
   ·have hmul:=lt_mul N xa xb hN0 hN hab hba;have hw64:wrap64 (N*(xb-xa+1))=N*(xb-xa+1):=IntWalk.wrap64_in _ ⟨by omega,by omega⟩;exact zcu
   ·exact zcu
  ·exact zcu
 ·go_region
  all_goals go_wp2_with fail
  all_goals go_roundw
  all_goals first
   |exact⟨k+1,_,_,by omega,by go_num,rfl,rfl,by omega,by omega,by omega,by omega,gL fV.o⟩
   |(simp[intOf];omega)):P:=h
theorem _root_.zaG {P:Prop} (h:P:=by
 go_wp2_with fail
 go_roundw
 case rel=>exact⟨k+1,_,_,by omega,by go_num,rfl,rfl,by omega,by omega,by omega,by omega,fV.o⟩
 case measure=>simp[intOf];omega):P:=h
section
namespace Go.Proofs.Z.Bk
open Go.RowKit Go.RG Go.SL Go.Shelf ig Go.TB Go.Proofs.Z.uL
abbrev NP:au:=[100,111,110,101]
abbrev lvW:au:=[108,101,97,118,101]
abbrev LW:au:=[111,119,101,100]
abbrev Pd:au:=[104,101,97,116]
abbrev O9:au:=[107,101,101,112,115,32]
abbrev yM:au:=[99,97,115,107]
def TP (i:Int):au:=32::Lib.itoa i
theorem OW: ∀l:List Int,(∀i∈l,0<=i/\i<=4)->(l.flatMap TP).length<=12*l.length:=by
 intro l;induction l with
 |nil=>intro _;simp
 |cons a l ih=>
  intro h;have h2:=ih (fun i hi=>h i (by simp[hi]));have h3:=h a ϕ;have h4:=ou (n:=a) ⟨by omega,by omega⟩;have h5:(TP a).length=(Lib.itoa a).length+1:=rfl;rw[List.flatMap_cons,bR,List.length_cons];omega
def BQ (s:iC):au:=if lG s.led=[] then(yP mE s.led (eX s.led)).flatMap (fK LW) else[]
def Cy (s:iC):au:=fK Pd ((iM.iV s.heap s.heap.turns).getD 4 (0,0))
def keepR (s:iC):au:=O9++Lib.itoa (iM.mf s.heap s.heap.turns)++[10]
def lY (s:iC):au:=
 (yH s.led.field).flatMap (fK NP)++lvW++(lG s.led).flatMap TP++[10]++BQ s++Cy s++keepR s++(iG s.cz).flatMap (fK yM)
def Ha (ls:List au):au:=if dA ls=0 then lY (fO ls) else[]
def aiM (ls:List au) (w:World) (e:Ending) (w':World):Prop:=Ϙ w w'/\e= .returned (.tuple #[.string (dN (Ha ls)),iv (dA ls)])
structure Tg (W3:World) (bs:au) (W:World):Prop where
 below:Ϙ W3 W
 buf:Buf W3.heap.size W3.heap.size bs W
 lt:W3.heap.size<W.heap.size
 len:bs.length<=500000
theorem Tg.call {W3:World} {bs:au} {W W':World} (h:Tg W3 bs W) (hb:Ϙ W W'):Tg W3 bs W':=
 ⟨h.below.trans (hb.mono (by have:=h.lt;omega)),h.buf.below hb,dU h.lt hb.size,h.len⟩
theorem Tg.wrote {W3:World} {bs bs':au} {W W':World} (h:Tg W3 bs W) (hb:Buf W3.heap.size W3.heap.size bs' W') (hw:Wr W3.heap.size W W') (hl:bs'.length<=500000):Tg W3 bs' W':=
 ⟨h.below.trans hw.below,hb,dU h.lt hw.size,hl⟩
theorem rV {α:Type} {l:List α} (f:α->au) {k:Nat} (hk:k<l.length):(l.take (k+1)).flatMap f=(l.take k).flatMap f++f l[k]:=by
 rw[eT hk,rO,List.flatMap_cons,List.flatMap_nil,List.append_nil]
theorem Ou (lv:Value) (ls:List au) (w:World) (hls:fC w lv ls) (hE:Env w) (hln: ∀l∈ls,l.length<=1000000):Ϝ 20 #[lv] w (aiM ls w):=by
 have AX:=aa hls;have HE:Hid (∀W,Ϙ w W->Env W):=aa (fun W hb=>hE.below hb (ah _));have LH:=aa hln;have h4:=hE.size;clear hls hE hln;obtain⟨q,hq⟩: ∃q,dA ls=q:=⟨_,rfl⟩;have HQ:=aa hq;go_enter Tryz.func20,Tryz.ntmps20;go_wp2_with fail
 refine(vQ lv ls w (AX.o) (HE.o _ (aC _ _)) (LH.o) [] ϕ).mono ?_;rintro e W2 ⟨θ,V,es,cv,he,hX,hC⟩;rw[hq] at he;subst he;obtain⟨co,cc,rfl⟩:=aL hC;have hs2:=θ.size;have hS2:=hX W2 (Ext.refl _ _);rename_i hK;refine hK _ _ ?_;refine aF rfl _ (by go_simp;first|rfl|exact⟨rfl,rfl⟩) ?_;simp only[zp];refine aF rfl _ (by go_simp;first|rfl|exact⟨rfl,rfl⟩) ?_;simp only[zp];refine aF rfl _ (by go_simp;first|rfl|exact⟨rfl,rfl⟩) ?_;simp only[zp];refine aF rfl _ (by go_simp;first|rfl|exact⟨rfl,rfl⟩) ?_;simp only[zp];obtain⟨g,hg⟩: ∃g,g=W2.heap.size:=⟨_,rfl⟩;refine aF rfl (w':=W2.alloc (.cells cu 62 (0,0))) (.pointer (some ⟨g,0,none⟩)) (by rw[hg];go_simp;try rfl) ?_;simp only[zp];have hz2:(W2.alloc (.cells cu 62 (0,0))).heap[g]? =some (.cells cu 62 (0,0)):=by rw[hg];exact av _ _
 refine wpList_store_row rfl _ _ _ rfl g (bP (fO ls) V) ϰ ϰ _ cu hz2 ϰ ϰ (by rw[jw];exact fun u hu=>fu hS2 u (jM.2 hu)) ?_
 simp only[zp];refine ib fun W3 Η=>?_;obtain⟨uf,jI⟩: ∃uf,uf=W2.alloc (.cells cu 62 (0,0)):=⟨_,rfl⟩;rw[<-jI] at Η hz2;have rJ:Ext [g] uf W3:=by rw[Η];exact dJ
 have hs3:=rJ.size;have zG:uf.heap.size=g+1:=by rw[jI,hg];simp
 have ky:Ϙ W2 W3:=gq (by rw[jI];exact ai (aC _ _) _) rJ ϑ
 have Ω:W3.heap[g]? =some (.cells (bP (fO ls) V) 62 (0,0)):=by rw[Η];exact setRow_heap _ _ _ _ _ _ hz2
 have Θ:=aV θ ky;have hg3:w.heap.size<=g:=ϑ;have hgs:g<W3.heap.size:=ϑ;have H3:=aa (af Θ (af Ω (hS2.below ky (ah _))));clear hX hC Η jI rJ ky θ hS2 hz2 hK hs2 hs3 zG hg Θ;clear hq;obtain⟨vt,vn,vw,vu,vr,vh,vk,vs⟩:=V;obtain⟨c3,f3,l3⟩:=ae Ω;by_cases hz:q=0
 rotate_left
 ·go_wp2_with fail
  go_returns;have hqq:dA ls≠0:=by rw[HQ.o];exact hz
  have h1:Ha ls=[]:=by unfold Ha;rw[aj hqq]
  exact⟨H3.o.1,by rw[h1,HQ.o];simp⟩
 subst hz;have iD:=aa (Ua HQ.o);have hrb:Ha ls=lY (fO ls):=by unfold Ha;rw[aB HQ.o]
 have I1:=aa hrb;clear hrb;generalize fO ls=s at*
 go_upto_region 5 with(fail)
 refine dz fun W4 yB=>?_;have hr4:Tg W3 [] W4:=by
  rw[yB];exact⟨(aC _ _).alloc (ah _) _,.inl ⟨ah _,.slice none 0 0,av _ _,⟨rfl,.inl ⟨rfl,rfl⟩⟩,by simp[Value.ownBlock],fun q hq=>by cases hq⟩,by simp,by simp⟩
 have HR4:=aa hr4;have HC:Hid (∀W,Ϙ W3 W->W.heap[g]? =some (.cells (bP s ⟨vt,vn,vw,vu,vr,vh,vk,vs⟩) 62 (0,0))):=aa (fun W hb=>(hb.block g hgs).trans Ω);have κ:Hid (∀W,Ϙ W3 W->lK W s ⟨vt,vn,vw,vu,vr,vh,vk,vs⟩ es):=aa (fun W hb=>H3.o.2.2.below hb (ah _));have Tq:Hid (∀W,Ϙ W3 W->Env W):=aa (fun W hb=>HE.o W (aV H3.o.1 hb));clear yB hr4 Ω c3 f3 l3;obtain⟨c4,f4,l4⟩:=ae (HC.o W4 HR4.o.below);go_wp2_with fail
 have HD:=aa (zi s.led.field vt W4 (κ.o W4 HR4.o.below).uH);refine HD.o.mono ?_;rintro e W5 ⟨hb5,⟨hne,rfl⟩|⟨_,dv,rfl,hdv⟩⟩
 ·exact absurd iD.o.2.field hne
 obtain⟨D,hD⟩: ∃D,yH s.led.field=D:=⟨_,rfl⟩;have hDl:D.length=2:=by rw[<-hD,RL,iD.o.1.aJ];rfl
 have HDS:Hid (∀r∈D,jB r.1/\jB r.2):=aa (by rw[<-hD];exact NM iD.o.2.field);rw[hD] at hdv;have HDE:=aa hD;obtain⟨dO,dC,rfl⟩:=hdv.open;have HR5:=aa (af (HR4.o.call hb5) hdv);clear hb5 hdv hD c4 f4 l4;go_wp2_with fail
 go_loopw [49] (fun i wr=> ∃k:Nat,k<=D.length/\i= .int .i64 k/\Tg W3 (([]:au)++(D.take k).flatMap (fK NP)) wr/\aH 2 wr (.slice dO D.length dC) D.length (aD D)) (fun i _=>D.length-(intOf i).toNat)
 case atStart=>exact⟨0,bD _,rfl,by simpa using HR5.o.1,HR5.o.2⟩
 case round=>
  obtain⟨k,hk,rfl,hR,hL⟩:=hrel;by_cases tX:k<D.length
  ·obtain⟨lb,M6,rfl,hlb,d1,d2⟩:=bF.cell hL tX;obtain⟨x,hx⟩: ∃x,D[k]=x:=⟨_,rfl⟩;rw[hx] at d1 d2;have hsm:=HDS.o D[k] (bK tX);rw[hx] at hsm;have Pb:([]:au)++(D.take (k+1)).flatMap (fK NP)=(([]:au)++(D.take k).flatMap (fK NP))++fK NP x:=by rw[rV _ tX,hx,jg]
   have Ib:(([]:au)++(D.take (k+1)).flatMap (fK NP)).length<=500000:=by
    have h1:=pV NP (l:=D.take (k+1)) (fun r hr=>HDS.o r (ny hr));have h2:(D.take (k+1)).length<=10:=by rw[eO];omega
    rw[bR];have h3:(NP:au).length+26<=40:=by decide
    have h4:=Nat.mul_le_mul h3 h2;have h5:=hDl;have h6:(([]:au)).length<=2000:=ϕ;omega
   have hR':=hR.call (ai (aC _ _) (.cells #[iv x.1,iv x.2] 42 (0,0)));have HW:=aa (qb W3.heap.size W3.heap.size _ NP x _ hR'.buf (kV hR'.lt) ϑ (Tq.o _ hR'.below) hsm.1 hsm.2 (by have h1:=hR.len;have h2:(NP:au).length<=10:=ϖ;omega))
   have HX:=aa (af hR' (af hL (af Pb Ib)));clear hR hL Pb Ib hR' hsm hx;go_wp2_with fail
   refine HW.o.mono ?_;rintro e W6 ⟨⟨v,rfl⟩,hbu,Δ⟩;have Pv:=HX.o.1.wrote hbu Δ (by have:=HX.o.2.2.2;rwa [HX.o.2.2.1] at this);have hL6:=Δ.list (HX.o.2.1.alloc _) (yo D);exact zaC
  ·have XI:k=D.length:=ϑ;subst XI;rw[List.take_length] at hR;have uK:=aa hR;clear hR hL;obtain⟨c6,f6,l6⟩:=ae (HC.o wr uK.o.below);have hs1:(([]:au)++D.flatMap (fK NP)).length<=1000:=by
    have h1:=pV NP HDS.o;have h3:(NP:au).length+26<=40:=by decide
    have h4:=Nat.mul_le_mul h3 (show D.length<=2 by omega);simp only[List.nil_append];omega
   rw[List.nil_append] at uK hs1;obtain⟨P1,hP1⟩: ∃P,D.flatMap (fK NP)=P:=⟨_,rfl⟩;rw[hP1] at uK hs1;have Tj:=aa hP1;clear hP1;go_wp2_with fail
   refine(rR W3.heap.size W3.heap.size P1 lvW wr uK.o.buf (kV uK.o.lt) (by have:(lvW:au).length=5:=rfl;omega)).mono ?_
   rintro e W7 ⟨⟨v7,rfl⟩,wz,hw7⟩;have HR7:=aa (uK.o.wrote wz hw7 (by rw[bR];have:(lvW:au).length=5:=rfl;omega))
   clear wz hw7 c6 f6 l6;obtain⟨c6,f6,l6⟩:=ae (HC.o W7 HR7.o.below);go_wp2_with fail
   obtain⟨P2,hP2⟩: ∃P,P1++lvW=P:=⟨_,rfl⟩;have hs2:P2.length<=1005:=by rw[<-hP2,bR];have:(lvW:au).length=5:=rfl;omega
   rw[hP2] at HR7;have HP2:=aa hP2;clear hP2;have HLV:=aa (SB s.led vt vn W7 (κ.o W7 HR7.o.below).uH (κ.o W7 HR7.o.below).QN);refine HLV.o.mono ?_;rintro e W8 ⟨yz,⟨hne,rfl⟩|⟨_,v8,rfl,hv8⟩⟩
   ·exact absurd iD.o.2.led hne
   obtain⟨L,hL⟩: ∃L,lG s.led=L:=⟨_,rfl⟩;have hLs:=J7 iD.o.2.led;rw[hL] at hv8 hLs;have hL5:=hLs.1;have abZ:=aa hLs.2;have HLE:=aa hL;obtain⟨lO,lC,rfl⟩:=hv8.open;have HR8:=aa (af (HR7.o.call yz) hv8);clear yz hv8 hL hLs c6 f6 l6;go_wp2_with fail
   go_loopw [69] (fun i wr=> ∃k:Nat,k<=L.length/\i= .int .i64 k/\Tg W3 (P2++(L.take k).flatMap TP) wr/\aH 1 wr (.slice lO L.length lC) L.length (ag L)) (fun i _=>L.length-(intOf i).toNat)
   case atStart=>exact⟨0,bD _,rfl,by simpa using HR8.o.1,HR8.o.2⟩
   case round=>
    obtain⟨k,hk,rfl,hR,hLL⟩:=hrel;by_cases tX:k<L.length
    ·obtain⟨lb,M6,rfl,hlb,d1⟩:=aK.cell hLL tX;obtain⟨x,hx⟩: ∃x,L[k]=x:=⟨_,rfl⟩;rw[hx] at d1;have hsm:=abZ.o L[k] (bK tX);rw[hx] at hsm;have hxs:jB x:=⟨by omega,by omega⟩;have hil:=ou hxs;obtain⟨s1,XP⟩: ∃s,Lib.itoa x=s:=⟨_,rfl⟩;rw[XP] at hil;have Pb:P2++(L.take (k+1)).flatMap TP=(P2++(L.take k).flatMap TP)++(32::s1):=by
      rw[rV _ tX,hx,jg];unfold TP;rw[XP]
     have Ib:(P2++(L.take (k+1)).flatMap TP).length<=500000:=by
      have h2:=OW (L.take (k+1)) (fun i hi=>abZ.o i (ny hi));have h3:(L.take (k+1)).length<=5:=by rw[eO];omega
      rw[bR];omega
     have a1:=fun W=>nV (P:=Tryz.prog) (a:=[32]) (b:=s1) rfl ϗ W;have HX:=aa (af hR (af hLL (af Pb Ib)));have HIT:=aa (vz x hxs wr (Tq.o _ hR.below));have HSX:=aa XP;clear hR hLL Pb Ib hsm hx XP hxs;go_wp2_with fail
     refine HIT.o.mono ?_;rintro e W9 ⟨rfl,tK⟩;rw[HSX.o];have SH:=aa (HX.o.1.call tK);have HL9:=aa (HX.o.2.1.below tK (ah _));clear tK;go_wp2_with fail
     refine(rR W3.heap.size W3.heap.size _ (32::s1) W9 SH.o.buf (kV SH.o.lt) (by have:=SH.o.len;have h9:(32::s1).length=s1.length+1:=rfl;omega)).mono ?_
     rintro e W6 ⟨⟨v,rfl⟩,hbu,Δ⟩;have Pv:=SH.o.wrote hbu Δ (by have:=HX.o.2.2.2;rwa [HX.o.2.2.1] at this);have hL6:=Δ.list HL9.o (XM L);exact zaC
    ·have XI:k=L.length:=ϑ;subst XI;rw[List.take_length] at hR;have uK:=aa hR;clear hR hLL;obtain⟨P3,hP3⟩: ∃P,P2++L.flatMap TP=P:=⟨_,rfl⟩;have hs3:P3.length<=1065:=by
      rw[<-hP3,bR];have:=OW L abZ.o;omega
     rw[hP3] at uK;have Y2:=aa hP3;clear hP3;go_wp2_with fail
     refine(rR W3.heap.size W3.heap.size P3 [10] wr uK.o.buf (kV uK.o.lt) (by have:([10]:au).length=1:=rfl;omega)).mono ?_
     rintro e W8' ⟨⟨v,rfl⟩,hbu,Δ⟩;obtain⟨P4,hP4⟩: ∃P,P3++[10]=P:=⟨_,rfl⟩;have hs4:P4.length<=1066:=by rw[<-hP4,bR];have:([10]:au).length=1:=rfl;omega
     rw[hP4] at hbu;have SI:=aa (uK.o.wrote hbu Δ ϑ);have heq:lY s=P4++BQ s++Cy s++keepR s++(iG s.cz).flatMap (fK yM):=by
      unfold lY;rw[HDE.o,HLE.o,Tj.o,HP2.o,Y2.o,hP4]
     have ab6:=aa heq;clear hbu Δ hP4 heq;by_cases hL0:L.length=0
     ·have hLI:((L.length:Int)==0)=true:=by simp[hL0]
      have hL':L=[]:=jh hL0;have ha:=Dl iD.o.2.led (by rw[HLE.o];exact hL');have HA:=aa ha;have ho:BQ s=(yP mE s.led (eX s.led)).flatMap (fK LW):=by
       unfold BQ;rw[aB (by rw[HLE.o];exact hL')]
      obtain⟨O,hO⟩: ∃O,yP mE s.led (eX s.led)=O:=⟨_,rfl⟩;have hO2:O.length=2:=by rw[<-hO,PI (Ls ha).2 mE,iD.o.1.aJ];rfl
      have HOS:Hid (∀r∈O,jB r.1/\jB r.2):=aa (by rw[<-hO];exact MQ ha);rw[hO] at ho;have HOE:=aa hO;have ai3:=aa ho;have Rh:=κ.o W8' SI.o.below;have HOW:=aa (LC s.led vt vn W8' Rh.uH Rh.QN);obtain⟨c9,f9,l9⟩:=ae (HC.o W8' SI.o.below);clear Rh hL' ha ho hO;go_wp2_with fail
      refine HOW.o.mono ?_;rintro e W7' ⟨hb,⟨hne,rfl⟩|⟨_,ov,rfl,hov⟩⟩
      ·exact absurd HA.o hne
      rw[HOE.o] at hov;obtain⟨oO,oC,rfl⟩:=hov.open;have abV:=aa (af (SI.o.call hb) hov);clear hb hov c9 f9 l9;go_wp2_with fail
      go_loopw [90] (fun i wr=> ∃k:Nat,k<=O.length/\i= .int .i64 k/\Tg W3 (P4++(O.take k).flatMap (fK LW)) wr/\aH 2 wr (.slice oO O.length oC) O.length (aD O)) (fun i _=>O.length-(intOf i).toNat)
      case atStart=>exact⟨0,bD _,rfl,by simpa using abV.o.1,abV.o.2⟩
      case round=>
       obtain⟨k,hk,rfl,hR,hL⟩:=hrel;by_cases tX:k<O.length
       ·obtain⟨lb,M6,rfl,hlb,d1,d2⟩:=bF.cell hL tX;obtain⟨x,hx⟩: ∃x,O[k]=x:=⟨_,rfl⟩;rw[hx] at d1 d2;have hsm:=HOS.o O[k] (bK tX);rw[hx] at hsm;have Pb:P4++(O.take (k+1)).flatMap (fK LW)=(P4++(O.take k).flatMap (fK LW))++fK LW x:=by rw[rV _ tX,hx,jg]
        have Ib:(P4++(O.take (k+1)).flatMap (fK LW)).length<=500000:=by
         have h1:=pV LW (l:=O.take (k+1)) (fun r hr=>HOS.o r (ny hr));have h2:(O.take (k+1)).length<=10:=by rw[eO];omega
         rw[bR];have h3:(LW:au).length+26<=40:=by decide
         have h4:=Nat.mul_le_mul h3 h2;have h5:=hO2;have h6:(P4).length<=2000:=ϑ;omega
        have hR':=hR.call (ai (aC _ _) (.cells #[iv x.1,iv x.2] 46 (0,0)));have HW:=aa (qb W3.heap.size W3.heap.size _ LW x _ hR'.buf (kV hR'.lt) ϑ (Tq.o _ hR'.below) hsm.1 hsm.2 (by have h1:=hR.len;have h2:(LW:au).length<=10:=ϖ;omega))
        have HX:=aa (af hR' (af hL (af Pb Ib)));clear hR hL Pb Ib hR' hsm hx;go_wp2_with fail
        refine HW.o.mono ?_;rintro e W6 ⟨⟨v,rfl⟩,hbu,Δ⟩;have Pv:=HX.o.1.wrote hbu Δ (by have:=HX.o.2.2.2;rwa [HX.o.2.2.1] at this);have hL6:=Δ.list (HX.o.2.1.alloc _) (yo O);exact zaC
       ·have XI:k=O.length:=ϑ;subst XI;rw[List.take_length] at hR;have uK:=aa hR;clear hR hL;have XO:(P4++O.flatMap (fK LW)).length<=1300:=by
         have h1:=pV LW HOS.o;have h3:(LW:au).length+26<=40:=by decide
         have h4:=Nat.mul_le_mul h3 (show O.length<=2 by omega);rw[bR];omega
        obtain⟨P4n,abb⟩: ∃P,P4++O.flatMap (fK LW)=P:=⟨_,rfl⟩;have HEQ:Hid (lY s=P4n++Cy s++keepR s++(iG s.cz).flatMap (fK yM)):=aa (by rw[ab6.o,ai3.o,abb]);rw[abb] at uK XO;clear abb hs4 ab6 SI abV;rename_i P4o;obtain⟨W9,Iq⟩: ∃W,W=wr:=⟨_,rfl⟩;rw[<-Iq] at uK;rw[<-Iq];have SH:=uK;clear Iq;obtain⟨P4,aeG⟩: ∃P,P=P4n:=⟨_,rfl⟩;rw[<-aeG] at uK XO HEQ SH;clear aeG;exact zab
     ·have hLI:((L.length:Int)==0)=false:=by simp;exact fun h=>hL0 (by simp[h])
      have ho:BQ s=[]:=by
       unfold BQ;rw[HLE.o,aj (fun h=>hL0 (by rw[h];rfl))]
      have HEQ:Hid (lY s=P4++Cy s++keepR s++(iG s.cz).flatMap (fK yM)):=aa (by rw[ab6.o,ho,List.append_nil]);clear ho hL0;have XO:P4.length<=1300:=ϑ;obtain⟨W9,Iq⟩: ∃W,W=W8':=⟨_,rfl⟩;rw[<-Iq] at SI;rw[<-Iq];have SH:=SI;clear Iq;exact zab
def dgF:Nat->Nat->au
 |0,_=>[]
 |f+1,n=>if n<10 then[Bp n] else dgF f (n/10)++[Bp (n%10)]
theorem VJ: ∀(f n:Nat),n<f->Lib.decDigits n=dgF f n:=by
 intro f;induction f with
 |zero=>intro n h;omega
 |succ f ih=>
  intro n h;unfold dgF;by_cases hn:n<10
  ·rw[kU hn,aB hn]
  ·rw[vL hn,aj hn,ih (n/10) ϑ]
def Ga (n:Int):au:=if n<0 then 45::dgF (n.natAbs+1) n.natAbs else dgF (n.toNat+1) n.toNat
theorem yt (n:Int):Lib.itoa n=Ga n:=by
 unfold Lib.itoa Ga;rw[VJ _ _ (Nat.lt_succ_self _),VJ _ _ (Nat.lt_succ_self _)]
def E9 (word:au) (r:dF):au:=word++[32]++Ga r.1++[46,46]++Ga r.2++[10]
theorem Tx (word:au):fK word=E9 word:=by
 funext r;unfold fK E9;rw[yt,yt]
def spF (i:Int):au:=32::Ga i
def G9 (s:iC):au:=
 (yH s.led.field).flatMap (E9 NP)++lvW++(lG s.led).flatMap spF++[10]++(if lG s.led=[] then(yP mE s.led (eX s.led)).flatMap (E9 LW) else[])
   ++E9 Pd ((iM.iV s.heap s.heap.turns).getD 4 (0,0))++(O9++Ga (iM.mf s.heap s.heap.turns)++[10])++(iG s.cz).flatMap (E9 yM)
theorem aab:TP=spF:=by
 funext i;unfold TP spF;rw[yt]
theorem MC (s:iC):lY s=G9 s:=by
 unfold lY G9 BQ Cy keepR;simp only[Tx,yt,aab]
def iX:List au:=[[114,111,119],
 [108,101,102,116,32,48,32,48],
 [116,97,108,108,121,32,48,32,48,32,50,32,50,32,51],
 [116,97,108,108,121,32,49,32,50,32,51,32,49,32,50],
 [98,111,120,32,50,48,32,50,50],
 [110,111,116,101,32,48,32,49,48,32,49,53],
 [116,117,114,110,32,51],
 [119,101,116,32,49,32,56,32,57],
 [105,114,111,110,32,49,32,52,52,32,48],
 [99,97,115,107,32,48,32,49,48],
 [104,101,97,112,32,54,48,32,54,51],
 [102,105,108,108,32,48,32,49,32,49,48],
 [116,114,121,32,48,32,53,49,32,53,50]]
def pE:List au:=[[119,97,115,104,32,49,32,52,32,53],
 [116,117,114,110,32,51],
 [114,97,116,101,32,48,53]]
def acS:au:=[100,111,110,101,32,50,46,46,51,10,100,111,110,101,32,49,46,46,50,10,108,101,97,118,101,10,111,119,101,100,32,53,46,46,50,48,10,111,119,101,100,32,48,46,46,49,53,10,104,101,97,116,32,51,55,46,46,51,55,10,107,101,101,112,115,32,49,10,99,97,115,107,32,53,49,46,46,53,49,10]
theorem PY:(bW aQ bT (iX++pE)).2=[0,0,0,0,0,0,0,0,0,0,0,0,0,2,6,4]:=by decide+kernel
theorem qd:dA iX=0/\dA (iX++pE)=0:=by decide+kernel
theorem E5:FT iX=0/\FU iX=[(5,20),(0,15)]:=by decide+kernel
theorem EZ:Ff iX=0/\Fg iX=[0]:=by decide+kernel
theorem Tw:G9 (bW aQ bT iX).1=acS:=by decide+kernel
theorem M7 (ls:List au) (v:Value) (w:World) (hv:fC w v ls):Ϝ 15 #[v] w (PV (iv (dA ls)) w):=by
 have Ib:=hv.len;obtain⟨o,c,rfl⟩:=aH.open hv;have HV:=aa hv;clear hv;by_cases WU:40<ls.length
 ·have Vu:(40:Int)<ls.length:=ϑ;have HR:Hid (dA ls=3):=aa (by unfold dA;rw[aB (.inl WU)]);go_enter Tryz.func15,Tryz.ntmps15;go_wp2_with fail
  go_returns;exact⟨by rw[HR.o];simp,aC _ _⟩
 ·have Vu: ¬(40:Int)<ls.length:=ϑ;go_enter Tryz.func15,Tryz.ntmps15;go_wp2_with fail
  go_loopw [3] (fun i wr=> ∃k:Nat,k<=ls.length/\i= .int .i64 k/\(∀j (h:j<ls.length),j<k->ls[j].length<=60)/\Ϙ w wr) (fun i _=>ls.length-(intOf i).toNat)
  case atStart=>exact⟨0,bD _,rfl,fun j _ hj=>ϑ,aC _ _⟩
  case round=>
   obtain⟨k,hk,rfl,GX,hB⟩:=hrel;by_cases tX:k<ls.length
   ·obtain⟨b,off,rfl,hb,hc0⟩:=fC.cell (aH.below HV.o hB (ah _)) tX;have HN:=aa GX;have HB:=aa hB;have HK:=aa (fun h=>GX k tX h);obtain⟨x,hx⟩: ∃x,ls[k]=x:=⟨_,rfl⟩;rw[hx] at hc0;have hs:(dN x).size=x.length:=lh x;have HX:=aa hx;clear GX hB hx;by_cases ZG:x.length<=60
    ·have abn: ¬(60:Int)<x.length:=ϑ;go_wp2_with fail
     go_roundw
     case rel=>exact⟨k+1,by omega,by go_num,fun j h hj=>(by by_cases e:j=k;(subst e;rw[HX.o];exact ZG);exact HN.o j h ϑ),HB.o⟩
     case measure=>simp[intOf];omega
    ·have abn:(60:Int)<x.length:=ϑ;go_wp2_with fail
     go_returns;refine⟨?_,HB.o⟩;have:dA ls=3:=by
      unfold dA;rw[aB (.inr (List.any_eq_true.2 ⟨x,by rw[<-HX.o];exact bK _,by simp;omega⟩))]
     rw[this];simp
   ·have XI:k=ls.length:=ϑ;have HN:=aa GX;have HB:=aa hB;clear GX hB;go_wp2_with fail
    go_returns;refine⟨?_,HB.o⟩;have:dA ls=0:=by
     unfold dA;rw[aj];simp only[not_or,Bool.not_eq_true];refine⟨WU,List.any_eq_false.2 fun x hx=>?_⟩;obtain⟨j,hj,rfl⟩:=kD hx;have:=HN.o j hj ϑ;simp;omega
    rw[this];simp
def Fh (ls:List au):Bool:=decide (ls.length<=45)&&ls.all fun x=>decide (x.length<=80)
theorem rU {ls:List au}:Fh ls=true↔ls.length<=45/\ ∀x∈ls,x.length<=80:=by
 unfold Fh;rw[dL,dR,iR];exact⟨fun h=>⟨h.1,fun x hx=>of_decide_eq_true (h.2 x hx)⟩,fun h=>⟨h.1,fun x hx=>decide_eq_true (h.2 x hx)⟩⟩
theorem Wm (ls:List au) (v:Value) (w:World) (hv:fC w v ls):Ϝ 8 #[v] w (PV (.bool (Fh ls)) w):=by
 have Ib:=hv.len;obtain⟨o,c,rfl⟩:=aH.open hv;have HV:=aa hv;clear hv;obtain⟨q,hq⟩: ∃q,Fh ls=q:=⟨_,rfl⟩;rw[hq];have HQ:=aa hq;clear hq;go_enter Tryz.func8,Tryz.ntmps8;go_wp2_with fail
 go_loopw [3] (fun i wr=> ∃k:Nat,k<=ls.length/\k<=46/\i= .int .i64 k/\(∀j (h:j<ls.length),j<k->ls[j].length<=80)/\Ϙ w wr) (fun i _=>ls.length-(intOf i).toNat)
 case atStart=>exact⟨0,bD _,bD _,rfl,fun j _ hj=>ϑ,aC _ _⟩
 case round=>
  obtain⟨k,hk,h46,rfl,GX,hB⟩:=hrel;have Ra:=aa hB;have HN:=aa GX;by_cases tX:k<ls.length
  ·by_cases amW:k<46
   ·have adY:(k:Int)<46:=ϑ;obtain⟨b,off,rfl,hb,hc0⟩:=fC.cell (aH.below HV.o hB (ah _)) tX;obtain⟨x,hx⟩: ∃x,ls[k]=x:=⟨_,rfl⟩;rw[hx] at hc0;have hs:(dN x).size=x.length:=lh x;have HX:=aa hx;clear GX hB hx;by_cases ZG:x.length<=80
    ·have abn: ¬(80:Int)<x.length:=ϑ;go_wp2_with fail
     go_roundw
     case rel=>exact⟨k+1,by omega,by omega,by go_num,fun j h hj=>(by by_cases e:j=k;(subst e;rw[HX.o];exact ZG);exact HN.o j h ϑ),Ra.o⟩
     case measure=>simp[intOf];omega
    ·have abn:(80:Int)<x.length:=ϑ;have hq0:q=false:=by
      rw[<-HQ.o,Bool.eq_false_iff];intro h;exact ZG ((rU.1 h).2 x (by rw[<-HX.o];exact bK _))
     subst hq0;exact zau
   ·have adY: ¬(k:Int)<46:=ϑ;have hq0:q=false:=by
     rw[<-HQ.o,Bool.eq_false_iff];intro h;have:=(rU.1 h).1;omega
    have h45: ¬(ls.length:Int)<=45:=ϑ;subst hq0;clear GX hB;exact zau
  ·have XI:k=ls.length:=ϑ;clear GX hB;by_cases h45:ls.length<=45
   ·have aiw:(ls.length:Int)<=45:=ϑ;have hq1:q=true:=by
     rw[<-HQ.o];refine rU.2 ⟨h45,fun x hx=>?_⟩;obtain⟨j,hj,rfl⟩:=kD hx;exact HN.o j hj ϑ
    subst hq1;exact zau
   ·have aiw: ¬(ls.length:Int)<=45:=ϑ;have hq0:q=false:=by
     rw[<-HQ.o,Bool.eq_false_iff];intro h;exact h45 (rU.1 h).1
    subst hq0;exact zau
theorem xR: ∀l:au,cB (l++[32])=cB l++[[]]:=by
 intro l;induction l with
 |nil=>rfl
 |cons c l ih=>
  rw[List.cons_append,cB,cB,ih];split
  ·rfl
  ·cases hw:cB l with
   |nil=>exact absurd hw (kg l)
   |cons x y=>rfl
theorem Je {c:UInt8} (hc:c≠32): ∀(l:au) (A:List au) (x:au),cB l=A++[x]->cB (l++[c])=A++[x++[c]]:=by
 intro l;induction l with
 |nil=>
  intro A x h;have h1:A=[]/\x=[]:=by
   cases A with
   |nil=>simpa [cB] using h
   |cons a A=>simp[cB] at h
  obtain⟨rfl,rfl⟩:=h1;show cB [c]=[[c]];simp[cB,hc]
 |cons d l ih=>
  intro A x h;rw[List.cons_append,cB];rw[cB] at h;split at h
  ·rename_i hd;rw[aB hd];cases A with
   |nil=>
    simp only[List.nil_append,List.cons.injEq] at h;exact absurd h.2 (kg l)
   |cons a A=>
    simp only[List.cons_append,List.cons.injEq] at h;rw[ih A x h.2, <-h.1];rfl
  ·rename_i hd;rw[aj hd];cases hw:cB l with
   |nil=>exact absurd hw (kg l)
   |cons y ys=>
    rw[hw] at h;simp only[List.headD_cons,List.tail_cons] at h;cases A with
    |nil=>
     simp only[List.nil_append,List.cons.injEq] at h;obtain⟨rfl,ω⟩:=h;rw[ih [] y (by rw[hw,ω];rfl)];rfl
    |cons a A=>
     simp only[List.cons_append,List.cons.injEq] at h;obtain⟨rfl,ω⟩:=h;rw[ih (y::A) x (by rw[hw,ω];rfl)];rfl
theorem BD:gJ Tryz.prog 22 9 (.string ⟨#[]⟩) 1 16:=⟨Tryz.underlying22,by kernel_rfl,rfl,by omega⟩
theorem O5 (s:ByteArray): ∀u∈[Value.string s],u.oneCell'=true:=fun u hu=>by obtain rfl:=dY.1 hu;rfl
def YZ (ps:List au) (w:World) (e:Ending) (w':World):Prop:= ∃v,e= .returned v/\w'.ownsRow w.heap.size 9 1 v ps.length (aT ps)/\Ϙ w w'
theorem Bv: ∀l:au,(cB l).length<=l.length+1:=by
 intro l;induction l with
 |nil=>simp[cB]
 |cons c l ih=>
  rw[cB];split
  ·simpa using ih
  ·cases hw:cB l with
   |nil=>exact absurd hw (kg l)
   |cons x y=>rw[hw] at ih;simp at ih⊢;omega
theorem BN (l:au) (w:World) (hl:l.length<=1000):Ϝ 103 #[.string (dN l)] w (YZ (cB l) w):=by
 have ν:=lh l;have hcut: ∀(a b:Nat),(dN l).extract a b=dN ((l.take b).drop a):=fun a b=>VW l a b;go_enter Tryz.func103,Tryz.ntmps103;go_wp2_with fail
 go_loopw [3,4,5] (fun v f i wr=> ∃(i' f':Nat) (out:List au) (o:Option Addr) (c:Nat),i'<=l.length/\f'<=i'/\i= .int .i64 i'/\f= .int .i64 f'/\v= .slice o out.length c/\cB (l.take i')=out++[(l.take i').drop f']/\
  wr.ownsRow w.heap.size 9 1 (.slice o out.length c) out.length (aT out)/\Ϙ w wr) (fun _ _ i _=>l.length-(intOf i).toNat)
 case atStart=>exact⟨0,0,[],none,0,bD _,ah _,rfl,rfl,rfl,rfl,⟨rfl,.inl ⟨rfl,rfl⟩⟩,aC _ _⟩
 case round=>
  obtain⟨i,f,out,o,c,hi,hf,rfl,rfl,rfl,hw,ho,hB⟩:=hrel;have hol:out.length<=1001:=by
   have:=Bv (l.take i);rw[hw] at this;simp at this;omega
  have HX:=aa (af hw (af ho hB));have hsB:=hB.size;clear hw ho hB;by_cases tX:i<l.length
  ·obtain⟨x,hx⟩: ∃x,l[i]=x:=⟨_,rfl⟩;have hgx:(dN l)[i]'(by rw[ν];exact tX)=x:=hx;have htk:l.take (i+1)=l.take i++[x]:=by rw[eT tX,hx]
   have Br:=aa htk;clear htk hx;by_cases h32:x=32
   ·subst h32;go_wp2_with (at_builtin;go_loud (refine dB rfl _ _ BD rfl w.heap.size (.slice o out.length c) out.length (aT out) rfl (az (Ms:=[]) HX.o.2.1 (Ext.ay (ai (aC _ _) _)) ϕ) (.slice (some ⟨wr.heap.size,0,none⟩) 1 1) 1 [.string (dN ((l.take i).drop f))] rfl (aH.bS 1 1 (av _ _) rfl ϖ) (O5 _) ϑ ϑ ϗ ?_))
    intro v' Wc Fw TF XL;obtain⟨O4,JW,rfl⟩:=aL Fw;have Ig:Ϙ wr (wr.alloc (.cells #[.string (dN ((l.take i).drop f))] 9)):=ai (aC _ _) _;have HY:=aa (af Fw (Below.grown (aV HX.o.2.2 Ig) TF (by have:=Ig.size;omega) (fun g e=>(aW HX.o.2.1 g e).1)));clear Fw TF XL Ig;go_wp2_with fail
    go_roundw
    case rel=>
     refine⟨i+1,i+1,out++[(l.take i).drop f],O4,JW,by omega,by omega,by go_num,by go_num,by simp,?_,?_,HY.o.2⟩
     ·rw[Br.o,xR,HX.o.1];simp;omega
     ·have:=HY.o.1;simpa [aT] using this
    case measure=>simp[intOf];omega
   ·have hne: ¬((x.toNat:Int)=32):=by
     intro h;exact h32 (UInt8.toNat_inj.1 (by rw[show(32:UInt8).toNat=32 from rfl];omega))
    go_wp2_with fail
    go_roundw
    case rel=>
     refine⟨i+1,f,out,o,c,by omega,by omega,by go_num,rfl,rfl,?_,HX.o.2.1,HX.o.2.2⟩;rw[Br.o,Je h32 _ out ((l.take i).drop f) HX.o.1];congr 2;rw[List.drop_append_of_le_length ϗ]
    case measure=>simp[intOf];omega
  ·have hil:i=l.length:=ϑ;subst hil;have HW:=aa HX.o.1;rw[List.take_length] at HW;have HL:=aa (show(l.take l.length).drop f=l.drop f by rw[List.take_length])
   go_wp2_with (at_builtin;go_loud (refine dB rfl _ _ BD rfl w.heap.size (.slice o out.length c) out.length (aT out) rfl (az (Ms:=[]) HX.o.2.1 (Ext.ay (ai (aC _ _) _)) ϕ) (.slice (some ⟨wr.heap.size,0,none⟩) 1 1) 1 [.string (dN (l.drop f))] ϱ (aH.bS 1 1 (av _ _) rfl ϖ) (O5 _) ϑ ϑ ϗ ?_))
   intro v' Wc Fw TF XL;obtain⟨O4,JW,rfl⟩:=aL Fw;have Ig:Ϙ wr (wr.alloc (.cells #[.string (dN (l.drop f))] 9)):=ai (aC _ _) _;have HY:=aa (af Fw (Below.grown (aV HX.o.2.2 Ig) TF (by have:=Ig.size;omega) (fun g e=>(aW HX.o.2.1 g e).1)));clear Fw TF XL Ig;go_wp2_with fail
   go_returns;refine⟨.slice O4 (out.length+1) JW,by simp,?_,HY.o.2⟩;rw[HW.o];have:=HY.o.1;simpa [aT] using this
open Go.Lib
theorem uR (ls:List au): ∀u∈aT ls,u.oneCell'=true:=fun u hu=>by
 obtain⟨x,_,rfl⟩:=gU.1 hu;rfl
def LB (ls:List au) (w:World) (e:Ending) (w':World):Prop:= ∃o c,e= .returned (.slice o ls.length c)/\w'.ownsRow w.heap.size 9 1 (.slice o ls.length c) ls.length (aT ls)/\Ϙ w w'
theorem tF (ls:List au) (v:Value) (w:World) (hv:fC w v ls) (hl:ls.length*16<=140737488355328):Ϝ 11 #[v] w (LB ls w):=by
 obtain⟨lo,lc,rfl⟩:=aH.open hv;have HV:=aa hv;clear hv;go_enter Tryz.func11,Tryz.ntmps11;go_wp2_with (at_builtin;go_loud (refine dB rfl _ _ BD rfl w.heap.size (.slice (some ⟨w.heap.size,0,none⟩) 0 0) 0 [] rfl (gG (cs:= #[]) (n:=0) (av _ _) rfl (ah _) ϖ) (.slice lo ls.length lc) (ls).length (aT (ls)) rfl (aH.alloc (HV.o) _) (uR (ls)) ϑ ϑ ϕ ?_))
 intro v' W2 Fw TF _;(try rw[Nat.zero_add] at Fw)
 (try rw[List.nil_append] at Fw)
 obtain⟨o2,c2,rfl⟩:=aL Fw;have hB2:Ϙ w W2:=Below.grown (ai (aC _ _) _) TF ϕ (fun g e=>by simp[Value.ownBlock] at e;omega);have HC2:=aa (af hB2 Fw);have hz2:=hB2.size;clear Fw TF hB2;go_wp2_with fail
 go_returns;exact⟨_,_,rfl,HC2.o.2,HC2.o.1⟩
theorem Ja (ls:List au) (v:Value) (w:World) (hv:fC w v ls) (hl:ls.length<=1000):Ϝ 19 #[v] w (LB (iX++ls) w):=by
 obtain⟨lo,lc,rfl⟩:=aH.open hv;have HV:=aa hv;clear hv;have adR:iX.length=13:=rfl;have HYL:Hid ((iX++ls).length=13+ls.length):=aa (by rw[bR,adR]);have HYC:Hid (aT iX++aT ls=aT (iX++ls)):=aa (by simp[aT]);clear adR;go_enter Tryz.func19,Tryz.ntmps19;go_wp2_with (at_builtin;go_loud (refine dB rfl _ _ BD rfl w.heap.size (.slice (some ⟨w.heap.size,0,none⟩) 13 13) 13 (aT iX) rfl (gG (cs:=(aT iX).toArray) (n:=13) (av _ _) rfl (ah _) ϖ) (.slice lo ls.length lc) ls.length (aT ls) rfl (aH.alloc HV.o _) (uR ls) ϑ ϑ ϕ ?_))
 intro v' W2 Fw TF _;rw[HYC.o] at Fw;obtain⟨o2,c2,rfl⟩:=aL Fw;have hB2:Ϙ w W2:=Below.grown (ai (aC _ _) _) TF ϕ (fun g e=>by simp[Value.ownBlock] at e;omega);have HC2:=aa (af hB2 Fw);clear Fw TF hB2;go_wp2_with fail
 go_returns;unfold LB;rw[HYL.o];exact⟨_,_,rfl,HC2.o.2,HC2.o.1⟩
attribute [local go_sem] Oper.semAt_some
structure Sz (B:Nat) (o:Option Addr) (c:Nat) (b:au) (k:Nat) (Ms:List Nat) (W:World):Prop where
 lines: ∃v,W.heap[B]? =some (.cells #[v] 22 (0,0))/\W.ownsRow (B+5) 9 1 v k (aT ((cK 40 0 b).take k))/\ ∀g,v.ownBlock=some g->g∉Ms/\g<W.heap.size
 bytes:W.heap[B+1]? =some (.cells #[.int .i64 (gm ((cK 40 0 b).take k):Nat)] 3 (0,0))
 box:W.heap[B+2]? =some (.cells #[.slice o b.length c] 25 (0,0))
theorem Sz.kept {B:Nat} {o:Option Addr} {c:Nat} {b:au} {k:Nat} {Ms jc:List Nat} {W W':World} (h:Sz B o c b k Ms W) (hs:W.heap.size<=W'.heap.size) (hk: ∀j,B<=j->j<B+3->W'.heap[j]? =W.heap[j]?)
 (ho: ∀g,B+5<=g->g<W.heap.size->g∉Ms->W'.heap[g]? =W.heap[g]?) (hM: ∀m∈jc,m∈Ms∨(W.heap.size<=m/\m<W'.heap.size)):Sz B o c b k jc W':=by
 obtain⟨v,h1,h2,h3⟩:=h.lines;refine⟨⟨v,(hk _ ϑ ϑ).trans h1,_root_.Go.Proofs.Z.bU h2 fun g hg=>ho g (aW h2 g hg).1 (aW h2 g hg).2 (h3 g hg).1,fun g hg=>⟨fun hm=>?_,by have:=(h3 g hg).2;omega⟩⟩,
  (hk _ ϑ ϑ).trans h.bytes,(hk _ ϑ ϑ).trans h.box⟩
 exact zbk
def Wo (b:au) (w:World) (e:Ending) (W:World):Prop:=
 Ϙ w W/\ ∃v,e= .returned (.tuple #[v,.int .i64 (gm (cK 40 0 b):Nat)])/\W.ownsRow w.heap.size 9 1 v (cK 40 0 b).length (aT (cK 40 0 b))
theorem AU (x:au) (v:Value) (w:World) (hv:aH 1 w v x.length (Lib.byteCells x)) (δ:x.length<=1000000000):Ϝ 12 #[v] w (Wo x w):=by
 obtain⟨o,c,rfl⟩:=aH.open hv;have HV:=aa (fun W (δ:Ϙ w W)=>hv.below δ (ah _));clear hv;refine(callsIn_wide (n:=0)).1 ?_;refine callsIn_of_wp_marks Tryz.func12 rfl trivial ?_;simp only[Tryz.ntmps12,List.size_toArray,List.length_cons,List.length_nil,Nat.reduceAdd,Nat.reduceSub,Array.replicate_succ,Array.replicate_zero,jr,jv,List.nil_append,List.cons_append]
 gi_wp2_with fail
 refine(callsIn_wide.2 (JB o x.length c _)).mono ?_;rintro e w1 ⟨rfl,rfl⟩
 gi_wp2_with fail
 obtain⟨B,kT⟩: ∃B,w.heap.size=B:=⟨_,rfl⟩;obtain⟨w3,hw3⟩: ∃w3,((w.alloc (.cells #[.slice none 0 0] 22)).alloc (.cells #[.int .i64 0] 3)).alloc (.cells #[.slice o x.length c] 25)=w3:=⟨_,rfl⟩;rw[hw3,kT];have UJ:w3.heap.size=B+3:=by rw[<-hw3];simp;omega
 have fV:Hid (Ϙ w w3):=aa (by rw[<-hw3];exact zl);have HA4:Hid (Sz B o c x 0 [] w3):=aa (by
  rw[<-hw3, <-kT];refine⟨⟨.slice none 0 0,?_,⟨rfl,.inl ⟨rfl,rfl⟩⟩,fun g hg=>by cases hg⟩,?_,?_⟩
  ·exact zbN
  ·exact zbR
  ·exact fU _ _ _ _)
 clear hw3;have Ay: ∀b,b∈[B,B+1,B+2,B+3,B+4]↔(B<=b/\b<B+5):=fun b=>by simp;omega
 obtain⟨Os,CL⟩: ∃Os,[B,B+1,B+2,B+3,B+4]=Os:=⟨_,rfl⟩;rw[CL] at Ay;clear CL;refine Jd (JA x δ (B+2) o c) rfl (enters_of Tryz.func60 ϰ rfl) (by
  intro Ms b v W h;rw[h];rfl) ϕ
  (fun Ms k W=>Dx w Os Ms W/\Sz B o c x k Ms W)
  (fun _ _ _=>False)
  ?hInv ?mZ ?hI ?hIx ?Et ?qE ?h0
  (fun a Ms k W1 a₁ W=> ∃(l:au) (s:Nat),(rZ x)[k]? =some (l,s)/\a₁={tmps:=(((a.tmps.setIfInBounds 8 (.string (dN l))).setIfInBounds 9 (.int .i64 (s:Int))).setIfInBounds 4 (.string (dN l))).setIfInBounds 5 (.int .i64 (s:Int)),defers:=[]}/\
    (Dx w Os Ms W/\Sz B o c x k Ms W)/\(∀m∈Ms,m∉([]:List Nat)->m<W1.heap.size->W.heap[m]? =W1.heap[m]?)/\W1.heap.size<=W.heap.size)
  ?Iu ?hassign ?hbody ?hdone ?hstop
 case hInv=>
  rintro Ms k W ⟨hF,hP⟩;exact⟨hP.box,HV.o W hF.ext⟩
 case mZ=>rintro cd Ms W h;exact h.elim
 case hI=>
  exact za3
 case hIx=>rintro cd Ms jc Wa Wb h;exact h.elim
 case Et=>
  rintro Ms k W r ob ⟨hF,hP⟩ hr;exact za5
 case qE=>rintro cd Ms W r ob h;exact h.elim
 case h0=>
  exact zcE
 case Iu=>
  rintro Ms k W1 a₁ W obj ⟨l,s,hb,ha,⟨hF,hP⟩,hk,hs⟩;have χ:=(hF.apart (B+4) ((Ay _).2 ϑ)).1;refine⟨l,s,hb,ha,⟨hF.put obj ϑ,hP.kept ϕ (fun b h1 h2=>World.putObj_heap_other ϑ) (fun g h1 h2 h3=>World.putObj_heap_other ϑ) (fun m hm=> .inl hm)⟩,
   fun m hm h0 lg=>(World.putObj_heap_other (fun e=>χ (by rw[show B+4=m by omega];exact hm))).trans (hk m hm h0 lg),by simpa using hs⟩
 case hassign=>
  rintro Ms k v W hk ⟨hF,hP⟩ hv tX;have hxk:(rZ x)[k]? =some (rZ x)[k]:=bZ hk;generalize (rZ x)[k]=b at*
  obtain⟨l,s⟩:=b;obtain rfl:v= #[.string (dN l),.int .i64 (s:Int)]:=hv
  gi_wp2
  exact⟨⟨l,s,hxk,rfl,⟨hF,hP⟩,fun _ _ _ _=>trivial,ah _⟩,trivial,trivial⟩
 case hbody=>
  rintro Ms k W1 a₁ W busy hk ⟨l,s,hb,rfl,⟨hF,hP⟩,XJ,ν⟩ ε hD;simp only[oU,List.set_cons_succ,List.set_cons_zero];have XI:k<(cK 40 0 x).length:=by rw[rY] at hk;exact hk
  have amX:=uV 40 0 x;rw[bZ hk,FJ hk,Option.some.injEq,Prod.mk.injEq] at hb;obtain⟨rfl,rfl⟩:=hb;have hls:(cK 40 0 x).take k++[(cK 40 0 x).getD k []]=(cK 40 0 x).take (k+1):=by
   rw[eT XI,fJ,bZ XI,Option.getD_some]
  obtain⟨l,hl⟩: ∃l,(cK 40 0 x).getD k []=l:=⟨_,rfl⟩;obtain⟨s,hs⟩: ∃s,gm ((cK 40 0 x).take (k+1))=s:=⟨_,rfl⟩;rw[hl] at hls⊢;rw[hs];obtain⟨v,Β,Μ,hv3⟩:=hP.lines;obtain⟨vo,vc,rfl⟩:=aL Μ;have χ: ∀b∈Os,b∉Ms/\b<W.heap.size:=hF.apart;have Φ: ∀b,B<=b->b<B+5->b∈Os:=fun b h1 h2=>(Ay b).2 ⟨h1,h2⟩;have hb5:B+5<=W.heap.size:=by have:=(χ (B+4) (Φ _ ϑ ϑ)).2;omega
  obtain⟨c0,f0,l0⟩:=ae Β;obtain⟨c1,f1,l1⟩:=ae hP.bytes;have HOWN:=aa (az (Ms:=[]) Μ (Ext.ay (ai (aC W.heap.size W) (.cells #[.string (dN l)] 9))) ϕ);have HF:=aa hF;have HP:=aa hP;have HV3:=aa (af Β (af Μ hv3));have HK:=aa (af XJ (af ε hD));have AX:=aa (af hls hs);clear hF hP Β Μ hv3 XJ ε hD hls hs hl
  gi_wp2_with (gi_at_builtin;go_loud (refine lW (fun _=>trivial) rfl oG rfl _ _ BD rfl (B+5) (.slice vo k vc) k (aT ((cK 40 0 x).take k)) rfl HOWN.o (.slice (some ⟨W.heap.size,0,none⟩) 1 1) 1 (aT [l]) rfl (aH.bS 1 1 (av _ _) rfl ϖ) (uR [l]) ϑ ϑ ϗ ?_))
  intro v' W5 Fw TF wO;obtain⟨o5,q5,rfl⟩:=aL Fw;have Υ:W5.ownsRow (B+5) 9 1 (.slice o5 (k+1) q5) (k+1) (aT ((cK 40 0 x).take (k+1))):=by
   rw[<-AX.o.1];simpa [aT] using Fw
  have hBW:Below (B+5) W W5:=Below.grown ((aC (B+5) W).alloc hb5 _) TF ϗ (fun g e=>(aW HOWN.o g e).1);have hz5:=TF.size;simp only[bg] at hz5;have hms: ∀m∈Ms,m<W.heap.size->W5.heap[m]? =W.heap[m]? :=fun m hm lg=>
   (TF.block m ϗ (fun e=>(HV3.o.2.2 m e.symm).1 hm)).trans (aS _ _ _ (by simpa using lg))
  have hnew: ∀g,(Value.slice o5 (k+1) q5).ownBlock=some g->g∉Ms/\g<W5.heap.size:=fun g hg=>by
   refine⟨fun hm=>?_,(aW Υ g hg).2⟩;rcases wO with h|h
   ·exact(HV3.o.2.2 g (h▸hg)).1 hm
   ·rw[hg] at h;have:=HF.o.bnd g hm;injection h with h;omega
  clear c0 f0 l0 c1 f1 l1;obtain⟨c0,f0,l0⟩:=ae ((hBW.block B ϑ).trans HV3.o.1);obtain⟨c1,f1,l1⟩:=ae ((hBW.block (B+1) ϑ).trans HP.o.bytes);have HN:=aa (af Υ (af hBW (af hms hnew)));have abl:=hBW;clear Fw TF wO Υ hBW hms hnew;have hk0:=(abl.block B ϑ).trans HV3.o.1;have hk1:=(abl.block (B+1) ϑ).trans HP.o.bytes;have HKK:=aa (af hk0 hk1);clear abl hk0 hk1
  gi_wp2_with fail
  obtain⟨W6,wY⟩: ∃W6,(W5.setCell {block:=B,off:=0} (Value.slice o5 (k+1) q5)).setCell {block:=B+1,off:=0} (.int .i64 (s:Int))=W6:=⟨_,rfl⟩;rw[wY];have ho: ∀b,b≠B->b≠B+1->W6.heap[b]? =W5.heap[b]? :=fun b h1 h2=>by
   rw[<-wY];exact zcI
  have Ev:Below B W W6:=by
   rw[<-wY];exact(((HN.o.2.1.mono (Nat.le_add_right B 5)).setCell (p:=⟨B,0,none⟩) (ah B) _).setCell (p:=⟨B+1,0,none⟩) ϕ _)
  have hz6:W6.heap.size=W5.heap.size:=by rw[<-wY];simp
  have h0':W6.heap[B]? =some (.cells #[.slice o5 (k+1) q5] 22 (0,0)):=by
   rw[<-wY];exact(heap_setCell_other _ ⟨B+1,0,none⟩ B _ ϕ).trans (heap_setCell_same W5 B 0 _ _ _ HKK.o.1)
  have h1':W6.heap[B+1]? =some (.cells #[.int .i64 (s:Int)] 3 (0,0)):=by
   rw[<-wY];exact heap_setCell_same _ (B+1) 0 _ _ _ ((heap_setCell_other _ ⟨B,0,none⟩ (B+1) _ ϕ).trans HKK.o.2)
  have hzB:=HN.o.2.1.size;refine⟨⟨?_,?_,fun m hm h0 lg=>?_,by omega⟩,HF.o.own (HF.o.ext.trans (by rw[kT];exact Ev)) ϑ,⟨⟨_,h0',?_,fun g hg=>⟨(HN.o.2.2.2 g hg).1,by have:=(HN.o.2.2.2 g hg).2;omega⟩⟩,?_,?_⟩⟩
  ·rw[UJ];exact(ho _ ϑ ϑ).trans ((HN.o.2.1.block _ ϑ).trans (UJ▸HK.o.2.1))
  ·rw[UJ];exact(ho _ ϑ ϑ).trans ((HN.o.2.1.block _ ϑ).trans (UJ▸HK.o.2.2))
  ·have n1:m≠B:=fun e=>(χ B (Φ _ ϑ ϑ)).1 (e▸hm);have n2:m≠B+1:=fun e=>(χ (B+1) (Φ _ ϑ ϑ)).1 (e▸hm);exact(ho m n1 n2).trans ((HN.o.2.2.1 m hm (HF.o.bnd m hm)).trans (HK.o.1 m hm h0 lg))
  ·exact _root_.Go.Proofs.Z.bU HN.o.1 fun g hg=>by
    have:=(aW HN.o.1 g hg).1;exact ho g ϑ ϑ
  ·rw[h1',AX.o.2]
  ·exact(ho _ ϑ ϑ).trans ((HN.o.2.1.block _ ϑ).trans HP.o.box)
 case hdone=>
  rintro Ms W ⟨hF,hP⟩ hD tX;rw[rY] at hP;obtain⟨v,Β,Μ,hv3⟩:=hP.lines;rw[List.take_length] at Μ;have ζ:=hP.bytes;rw[List.take_length] at ζ;obtain⟨vo,vc,rfl⟩:=aL Μ;obtain⟨c0,f0,l0⟩:=ae Β;obtain⟨c1,f1,l1⟩:=ae ζ;have HX:=aa (af hF (af Β (af ζ Μ)));have OO:=aa hD;clear hF hP Β ζ Μ hv3
  gi_wp2_with fail
  gi_region
  obtain⟨W7,uC⟩: ∃W7,((W.setCell {block:=B,off:=0} (Value.slice vo (cK 40 0 x).length vc)).setCell {block:=B+1,off:=0} (.int .i64 (gm (cK 40 0 x):Nat))).drew=W7:=⟨_,rfl⟩;rw[uC];have ho: ∀b,b≠B->b≠B+1->W7.heap[b]? =W.heap[b]? :=fun b h1 h2=>by
   rw[<-uC];exact zcI
  have D8:Below B W W7:=by
   rw[<-uC];exact Below.drew (((aC B W).setCell (p:=⟨B,0,none⟩) (ah B) _).setCell (p:=⟨B+1,0,none⟩) ϕ _)
  have hz7:W7.heap.size=W.heap.size:=by rw[<-uC];simp
  have h0':W7.heap[B]? =some (.cells #[.slice vo (cK 40 0 x).length vc] 22 (0,0)):=by
   rw[<-uC];exact(heap_setCell_other _ ⟨B+1,0,none⟩ B _ ϕ).trans (heap_setCell_same W B 0 _ _ _ HX.o.2.1)
  have h1':W7.heap[B+1]? =some (.cells #[.int .i64 (gm (cK 40 0 x):Nat)] 3 (0,0)):=by
   rw[<-uC];exact heap_setCell_same _ (B+1) 0 _ _ _ ((heap_setCell_other _ ⟨B,0,none⟩ (B+1) _ ϕ).trans HX.o.2.2.1)
  have hD7:W7.heap[w3.heap.size]? =some (.deferred (some [])):=(ho _ ϑ ϑ).trans OO.o;have Zp:W7.ownsRow (B+5) 9 1 (.slice vo (cK 40 0 x).length vc) (cK 40 0 x).length (aT (cK 40 0 x)):=_root_.Go.Proofs.Z.bU HX.o.2.2.2 fun g hg=>by
   have:=(aW HX.o.2.2.2 g hg).1;exact ho g ϑ ϑ
  have pF:Ϙ w W7:=HX.o.1.ext.trans (by rw[kT];exact D8);have HY:=aa (af Zp (af pF hz7));clear c0 f0 l0 c1 f1 l1;have e0:=(World.putObj_heap_other (w:=W7) (o:= .deferred none) (show B≠w3.heap.size by omega)).trans h0';have e1:=(World.putObj_heap_other (w:=W7) (o:= .deferred none) (show B+1≠w3.heap.size by omega)).trans h1';obtain⟨c0,f0,l0⟩:=ae e0;obtain⟨c1,f1,l1⟩:=ae e1;clear uC ho D8 h0' h1' Zp pF e0 e1
  gi_wp2_with fail
  refine⟨by simp,.inl ⟨_,_,rfl,run_takeDeferred hD7,?_⟩⟩;refine⟨.tuple #[.slice vo (cK 40 0 x).length vc,.int .i64 (gm (cK 40 0 x):Nat)],by simp[results,Tryz.results12,go_sem,c0,c1],?_,_,rfl,?_⟩
  ·have hF7:Dx w [] [] W7:=⟨HY.o.2.1,by simp,by simp,by simp⟩;exact(hF7.put (Obj.deferred none) (r:=w3.heap.size) ϑ).ext
  ·exact bL (_root_.Go.Proofs.Z.bU HY.o.1 fun g hg=>World.putObj_heap_other (by have:=(aW HY.o.1 g hg).1;omega)) ϑ
 case hstop=>rintro cd Ms W h;exact h.elim
theorem vS:(∀l∈iX,l.length<=1000000)/\ ∀l∈iX++pE,l.length<=1000000:=by decide+kernel
theorem I9:Ha iX=acS:=by
 unfold Ha;rw[aB qd.1,MC];unfold fO;rw[aB qd.1];exact Tw
theorem L8:lq (iX++pE)=[0,0,0,0,0,0,0,0,0,0,0,0,0,2,6,4]:=by
 unfold lq;rw[aB qd.2];exact PY
theorem Wj:dA [[97]]=0/\oD [[97]]=[48,49,58,97,58,48,50,50,51,10]:=by decide+kernel
theorem Lr (w:World) (hE:Env w):Ϝ 9 #[] w (PV (.bool true) w):=by
 have HE:Hid (∀W,Ϙ w W->Env W):=aa (fun W hb=>hE.below hb (ah _));have HY:Hid (∀W,Ϝ 19 #[.slice none 0 0] W (LB iX W)):=aa (fun W=>by have h:=Ja [] (.slice none 0 0) W (aH.nil _ _) ϕ;rw[List.append_nil] at h;exact h)
 clear hE;go_enter Tryz.func9,Tryz.ntmps9;go_wp2_with fail
 refine(HY.o w).mono ?_;rintro e W1 ⟨o1,c1,rfl,ho1,ζ⟩;have Qi:=aa ζ;have HO:=aa (R8 _ iX W1 (aH.bV ho1) (HE.o W1 ζ) vS.1);clear ζ ho1;go_wp2_with fail
 refine HO.o.mono ?_;rintro e W2 ⟨θ,u2,rfl,hu2⟩;rw[E5.1];rw[E5.2] at hu2;obtain⟨uo,uc,rfl⟩:=aH.open hu2;have Ra:=aa (aV Qi.o θ);have HU2:=aa hu2;clear θ hu2 HO Qi;simp only[List.length_cons,List.length_nil,Nat.reduceAdd];go_wp2_with fail
 refine(HY.o W2).mono ?_;rintro e W3 ⟨o3,c3,rfl,ho3,Θ⟩;have δ:=aa (aV Ra.o Θ);have HU3:=aa (HU2.o.below Θ (ah _));have HT:=aa (ET _ iX W3 (aH.bV ho3) (HE.o W3 δ.o) vS.1);clear Θ ho3 Ra HU2;go_wp2_with fail
 refine HT.o.mono ?_;rintro e W4 ⟨hb4,u4,rfl,hu4⟩;rw[EZ.1];rw[EZ.2] at hu4;obtain⟨vo,vc,rfl⟩:=aH.open hu4;have fV:=aa (aV δ.o hb4);have HU4:=aa (HU3.o.below hb4 (ah _));have HV4:=aa hu4;clear hb4 hu4 HT δ HU3;simp only[List.length_cons,List.length_nil,Nat.reduceAdd];go_wp2_with fail
 refine(HY.o W4).mono ?_;rintro e W5 ⟨o5,c5,rfl,ho5,hb5⟩;have mO:=aa (aV fV.o hb5);have HU5:=aa (HU4.o.below hb5 (ah _));have HV5:=aa (HV4.o.below hb5 (ah _));have HR:=aa (Ou _ iX W5 (aH.bV ho5) (HE.o W5 mO.o) vS.1);clear hb5 ho5 fV HU4 HV4;go_wp2_with fail
 refine HR.o.mono ?_;rintro e W6 ⟨hb6,rfl⟩;rw[I9,qd.1];have nZ:=aa (aV mO.o hb6);have HU6:=aa (HU5.o.below hb6 (ah _));have HV6:=aa (HV5.o.below hb6 (ah _));clear hb6 HR mO HU5 HV5;have HW:Hid (∀W,W=W6.alloc (.cells #[.string ⟨#[97]⟩] 9)->Ϝ 10 #[.slice (some ⟨W6.heap.size,0,none⟩) 1 1] W (PO (dA [[97]]) [[97]] W)):=aa (fun W hW=>Gy [[97]] _ W (by
  have hk:W.heap[W6.heap.size]? =some (.cells (aT [[97]]).toArray 9 (0,0)):=by rw[hW];exact av _ _
  exact aH.bS 1 1 hk rfl ϖ) ϖ)
 go_wp2_with fail
 refine(HW.o _ rfl).mono ?_;rintro e W7 ⟨wz,⟨hq,_⟩|⟨_,v7,rfl,WT⟩⟩
 ·exact absurd Wj.1 hq
 rw[Wj.2] at WT;obtain⟨wo,wc,rfl⟩:=aL WT;have NA:=aV (ai (aC W6.heap.size W6) (.cells #[.string ⟨#[97]⟩] 9)) wz;have wK:=aa (aV nZ.o NA);have HU7:=aa (HU6.o.below NA (ah _));have HV7:=aa (HV6.o.below NA (ah _));have HW7:=aa (aH.bV WT);clear wz WT NA HW nZ HU6 HV6;simp only[List.length_cons,List.length_nil,Nat.reduceAdd];have HM:Hid (∀W,W=W7.alloc (.cells (aT pE).toArray 9)->Ϝ 19 #[.slice (some ⟨W7.heap.size,0,none⟩) 3 3] W (LB (iX++pE) W)):=aa (fun W hW=>Ja pE _ W (by
  have hk:W.heap[W7.heap.size]? =some (.cells (aT pE).toArray 9 (0,0)):=by rw[hW];exact av _ _
  exact aH.bS 1 3 hk rfl ϖ) ϖ)
 go_wp2_with fail
 refine(HM.o _ rfl).mono ?_;rintro e W8 ⟨o8,c8,rfl,nD,yz⟩;have Vi:=aV (ai (aC W7.heap.size W7) (.cells (aT pE).toArray 9)) yz;have nH:=aa (aV wK.o Vi);have HU8:=aa (HU7.o.below Vi (ah _));have Ea:=aa (HV7.o.below Vi (ah _));have HW8:=aa (HW7.o.below Vi (ah _));have HL8:=aa (aH.bV nD);clear yz nD Vi HM wK HU7 HV7 HW7;go_wp2_with fail
 refine(vQ (.slice o8 (iX++pE).length c8) (iX++pE) W8 (HL8.o) (HE.o W8 nH.o) (vS.2) [] ϕ).mono ?_;rintro e D9 ⟨θ,Va,esa,cv,he,hX,hC⟩;subst he;obtain⟨coa,ZL,rfl⟩:=aL hC;have hs2:=θ.size;have hS2:=hX D9 (Ext.refl _ _);rename_i hK;refine hK _ _ ?_;refine aF rfl _ (by go_simp;first|rfl|exact⟨rfl,rfl⟩) ?_;simp only[zp];refine aF rfl _ (by go_simp;first|rfl|exact⟨rfl,rfl⟩) ?_;simp only[zp];refine aF rfl _ (by go_simp;first|rfl|exact⟨rfl,rfl⟩) ?_;simp only[zp];refine aF rfl _ (by go_simp;first|rfl|exact⟨rfl,rfl⟩) ?_;simp only[zp];obtain⟨ga,hg⟩: ∃g,g=D9.heap.size:=⟨_,rfl⟩;refine aF rfl (w':=D9.alloc (.cells cu 62 (0,0))) (.pointer (some ⟨ga,0,none⟩)) (by rw[hg];go_simp;try rfl) ?_;simp only[zp];have hz2:(D9.alloc (.cells cu 62 (0,0))).heap[ga]? =some (.cells cu 62 (0,0)):=by rw[hg];exact av _ _
 refine wpList_store_row rfl _ _ _ rfl ga (bP (fO (iX++pE)) Va) ϰ ϰ _ cu hz2 ϰ ϰ (by rw[jw];exact fun u hu=>fu hS2 u (jM.2 hu)) ?_
 simp only[zp];refine ib fun uJ Η=>?_;obtain⟨uf,jI⟩: ∃uf,uf=D9.alloc (.cells cu 62 (0,0)):=⟨_,rfl⟩;rw[<-jI] at Η hz2;have rJ:Ext [ga] uf uJ:=by rw[Η];exact dJ
 have hs3:=rJ.size;have zG:uf.heap.size=ga+1:=by rw[jI,hg];simp
 have ky:Ϙ D9 uJ:=gq (by rw[jI];exact ai (aC _ _) _) rJ ϑ
 have Rl:uJ.heap[ga]? =some (.cells (bP (fO (iX++pE)) Va) 62 (0,0)):=by rw[Η];exact setRow_heap _ _ _ _ _ _ hz2
 have Θ:=aV θ ky;have ahV:W8.heap.size<=ga:=ϑ;have Ya:ga<uJ.heap.size:=ϑ;have SQ:=aa (af Θ (af Rl (af (hS2.below ky (ah _)) (aH.bV (az (Ms:=[]) hC (Ext.ay ky) ϕ)))));clear hX hC Η jI rJ ky θ hS2 hz2 hK hs2 hs3 zG hg Θ;have Vs:=SQ.o.1;have Rv:aH 1 uJ (.slice coa (lq (iX++pE)).length ZL) (lq (iX++pE)).length (ag (lq (iX++pE))):=SQ.o.2.2.2;rw[L8] at Rv⊢;rw[qd.2];simp only[List.length_cons,List.length_nil,Nat.reduceAdd] at Rv⊢;have oJ:=aa (aV nH.o Vs);have hU9:=HU8.o.below Vs (ah _);have HV9:=aa (Ea.o.below Vs (ah _));have HW9:=aa (HW8.o.below Vs (ah _));have hlc:16<=ZL:=by obtain⟨_,o',c',hv,h1,_⟩:=Rv;cases hv;exact h1
 obtain⟨eb,Yq,rfl,heb,_⟩:=aK.cell (l:=[0,0,0,0,0,0,0,0,0,0,0,0,0,2,6,4]) Rv (k:=0) ϕ;have hcut:=aH.cut Rv (l:=13) (k:=16) ϑ ϑ;rw[show sliced (some ⟨eb,Yq,none⟩) 13 16 ZL 1= .slice (some ⟨eb,Yq+13,none⟩) 3 (ZL-13) from by unfold sliced;rw[aj ϑ];simp[Addr.add_lit]] at hcut
 have yX:=aa (show aK uJ (.slice (some ⟨eb,Yq+13,none⟩) 3 (ZL-13)) [2,6,4] from hcut);obtain⟨ub,alQ,rfl,hub,d1,d2⟩:=bF.cell (l:=[(5,20),(0,15)]) hU9 (k:=0) ϕ;obtain⟨ub2,ajL,he,_,e1,e2⟩:=bF.cell (l:=[(5,20),(0,15)]) hU9 (k:=1) ϕ;injection he with he;injection he with h1 h2;subst h1 h2;simp only[ak,Nat.zero_mul,Nat.one_mul,Nat.add_zero] at d1 d2 e1 e2;have HI:Hid (∀W,W=uJ.alloc (.cells #[iv 0] 3)->Ϝ 30 #[.slice vo 1 vc,.slice (some ⟨uJ.heap.size,0,none⟩) 1 1] W (PV (.bool true) W)):=aa (fun W hW=>Np [0] _ _ W (by rw[hW];exact HV9.o.alloc _) (by
  have hk:W.heap[uJ.heap.size]? =some (.cells #[iv 0] 3 (0,0)):=by rw[hW];exact av _ _
  exact aH.bS 1 1 hk rfl ϖ))
 clear HU8 Ea HW8 HL8 SQ Vs Rv hU9 hcut Rl;go_wp2_with fail
 refine(HI.o _ rfl).mono ?_;rintro e Oq ⟨rfl,xD⟩;have Pt:=aV (ai (aC uJ.heap.size uJ) (.cells #[iv 0] 3)) xD;have SN:=aa (aV oJ.o Pt);have hcv:(convert 25 9 (.slice wo 10 wc)).run Tryz.prog Oq= .ok (.string (dN [48,49,58,97,58,48,50,50,51,10])) Oq:=mh (n:=10) (HW9.o.below Pt (ah _));have HC:Hid (∀W,W=Oq.alloc (.cells #[iv 2,iv 6,iv 4] 3)->Ϝ 22 #[.slice (some ⟨eb,Yq+13,none⟩) 3 (ZL-13),.slice (some ⟨Oq.heap.size,0,none⟩) 3 3] W (PV (.bool true) W)):=aa (fun W hW=>RU [2,6,4] _ _ W (by rw[hW];exact(yX.o.below Pt (ah _)).alloc _) (by
  have hk:W.heap[Oq.heap.size]? =some (.cells #[iv 2,iv 6,iv 4] 3 (0,0)):=by rw[hW];exact av _ _
  exact aH.bS 1 3 hk rfl ϖ))
 clear xD Pt HI d1 d2 e1 e2;go_wp2_with fail
 refine(HC.o _ rfl).mono ?_;rintro e YW ⟨rfl,aeu⟩;have Y8:=aa (aV SN.o (aV (ai (aC Oq.heap.size Oq) (.cells #[iv 2,iv 6,iv 4] 3)) aeu));clear aeu HC hcv;go_wp2_with fail
 go_returns;exact⟨rfl,Y8.o⟩
theorem Fe {s:au} (h:s.all fw=true) (hl:s.length<=4):0<=nC s/\nC s<=9999:=by
 have:=GK s 0 ϑ h;have h4:(10:Int)^s.length<=10000:=by
  match hs:s.length,hl with
  |0,_=>decide
  |1,_=>decide
  |2,_=>decide
  |3,_=>decide
  |4,_=>decide
 simp only[Int.zero_mul,Int.zero_add,Int.one_mul] at this;unfold nC;omega
theorem Lv {s:au} {c:UInt8}:(s++[c]).all fw=(s.all fw&&fw c):=ϕ
theorem yg {l:au} {i:Nat} (hi:i<l.length) (h:fw l[i]=false):jO l=none:=by
 unfold jO;rw[aj];intro hf;unfold wZ at hf;simp only[dL] at hf;have:=iR.1 hf.2 l[i] (bK _);rw[h] at this;cases this
theorem Pn {l:au} (h:0<l.length):l.headD 0=l[0]:=by cases l with|nil=>exact absurd h ϕ |cons a t=>rfl
theorem Ul {k:Nat} (h: ¬k<48) (h2:k<256):IntKind.u8.wrap ((k:Int)-48)=(k:Int)-48:=zbF
theorem O7 {n:Int} {k:Nat} (h0:0<=n) (h1:n<=9999) (h: ¬k<48) (h2:k<256):wrap64 (10*n+((k:Int)-48))=10*n+((k:Int)-48):=by unfold wrap64;omega
def ZQ (l:au) (w:World):Ending->World->Prop:=PV (.tuple #[iv ((jO l).getD 0),.bool (jO l).isSome]) w
theorem JG (l:au) (w:World) (hl:l.length<=1000):Ϝ 185 #[.string (dN l)] w (ZQ l w):=by
 have ν:=lh l;unfold ZQ;obtain⟨q,hq⟩: ∃q,jO l=q:=⟨_,rfl⟩;rw[hq];have HQ:=aa hq;clear hq;go_enter Tryz.func185,Tryz.ntmps185;by_cases h1:l.length<1
 ·have h1':(l.length:Int)<1:=ϑ;obtain rfl:q=none:=by rw[<-HQ.o];unfold jO wZ;rw[aj];simp;omega
  exact zbE
 have h1': ¬(l.length:Int)<1:=ϑ;by_cases h4:4<l.length
 ·have h4':(4:Int)<l.length:=ϑ;obtain rfl:q=none:=by rw[<-HQ.o];unfold jO wZ;rw[aj];simp;omega
  exact zbE
 have h4': ¬(4:Int)<l.length:=ϑ;have h0:0<l.length:=ϑ;obtain⟨c,hc⟩: ∃c,l[0]=c:=⟨_,rfl⟩;have hc0:(dN l)[0]'(by rw[ν];exact h0)=c:=hc;by_cases hz:c=48/\1<l.length
 ·obtain⟨rfl,hl1⟩:=hz;have ahJ:(1:Int)<l.length:=ϑ;obtain rfl:q=none:=by
   rw[<-HQ.o];unfold jO wZ;rw[aj];intro hf;simp only[dL,Bool.or_eq_true,dR] at hf;rw[Pn h0,hc] at hf;rcases hf.1.2 with h|h
   ·exact h rfl
   ·omega
  exact zbE
 have HF:Hid (l.all fw=true->jO l=some (nC l)):=aa fun h=>by
  unfold jO wZ;rw[aB];rw[Pn h0,hc,h];simp only[dL,Bool.or_eq_true,dR,and_true];refine⟨⟨by omega,by omega⟩,?_⟩;by_cases h48:c=48
  ·exact .inr (Nat.le_antisymm (Nat.le_of_not_lt fun h=>hz ⟨h48,h⟩) h0)
  ·exact .inl h48
 by_cases h48:c=48
 ·subst h48;have ahJ: ¬(1:Int)<l.length:=fun h=>hz ⟨rfl,Int.ofNat_lt.1 h⟩;clear hz hc;exact zak
 ·have hne: ¬((c.toNat:Int)=48):=by
   intro h;exact h48 (UInt8.toNat_inj.1 (by rw[show(48:UInt8).toNat=48 from rfl];omega))
  clear hz hc;exact zak
def u7 (l:au):Int:=match qH l with|some c=>(c.many:Int)|none=> -1
theorem Qy (l:au) (w:World):Ϝ 184 #[.string (dN l)] w (PV (iv (u7 l)) w):=by
 unfold u7;cases hc:qH l with
 |some c=>
  obtain rfl:=C9 hc;clear hc;cases c <;>
  ·show Calls _ _ _ _ (PV _ w);dsimp only[jl.word,jl.many]
   go_enter Tryz.func184,Tryz.ntmps184;exact zbE
 |none=>
  have n0:(l==[114,111,119])=false:=iI.2 (ed hc .row);have n1:(l==[108,101,102,116])=false:=iI.2 (ed hc .left);have n2:(l==[116,97,108,108,121])=false:=iI.2 (ed hc .tally);have n3:(l==[119,97,115,104])=false:=iI.2 (ed hc .xS);have n4:(l==[117,110,116,97,108,108,121])=false:=iI.2 (ed hc .kF);have n5:(l==[114,97,116,101])=false:=iI.2 (ed hc .rate);have n6:(l==[98,111,120])=false:=iI.2 (ed hc .box);have n7:(l==[110,111,116,101])=false:=iI.2 (ed hc .note);have n8:(l==[118,111,105,100])=false:=iI.2 (ed hc .void);have n9:(l==[115,116,97,114,116])=false:=iI.2 (ed hc .start);have Ξ:(l==[119,101,116])=false:=iI.2 (ed hc .bM);have n11:(l==[116,117,114,110])=false:=iI.2 (ed hc .turn);have n12:(l==[117,110,116,117,114,110])=false:=iI.2 (ed hc .mQ);have n13:(l==[105,114,111,110])=false:=iI.2 (ed hc .yw);have n14:(l==[117,110,114,101,97,100])=false:=iI.2 (ed hc .unread);have n15:(l==[104,101,97,112])=false:=iI.2 (ed hc .heap);have n16:(l==[115,116,114,111,110,103])=false:=iI.2 (ed hc .strong);have n17:(l==[99,97,115,107])=false:=iI.2 (ed hc .nE);have n18:(l==[102,105,108,108])=false:=iI.2 (ed hc .fill);have n19:(l==[116,114,121])=false:=iI.2 (ed hc .xU);have Χ:(l==[117,110,116,114,121])=false:=iI.2 (ed hc .rf);clear hc;show Calls _ _ _ _ (PV (iv (-1)) w);go_enter Tryz.func184,Tryz.ntmps184;exact zbE
def JX (m:Int) (ps:List au):Option (List Int):=if m=(ps.length:Int) then jY ps else none
def numsOf (l:au):Option (List Int):=JX (u7 ((cB l).headD [])) (cB l).tail
theorem M4 {l:au} (h:qH l=none):u7 l= -1:=by unfold u7;rw[h]
theorem M3 {l:au} {c:jl} (h:qH l=some c):u7 l=c.many:=by unfold u7;rw[h]
theorem zC (l:au):numsOf l=(nG l).map (·.2):=by
 unfold numsOf nG;generalize (cB l).headD []=a;generalize (cB l).tail=ps;cases hc:qH a with
 |none=>rw[M4 hc];unfold JX;rw[aj ϑ];rfl
 |some c=>
  rw[M3 hc,Option.bind_some];unfold JX;by_cases h:ps.length=c.many
  ·rw[aB h,aB ϑ];cases jY ps <;>rfl
  ·rw[aj h,aj ϑ];rfl
theorem Ur (l:au): -1<=u7 l/\u7 l<=5:=by
 unfold u7;cases hc:qH l with
 |none=>decide
 |some c=>cases c <;>decide
def afm (q:Option (List Int)) (w:World) (e:Ending) (w':World):Prop:=Ϙ w w'/\ ∃v,e= .returned (.tuple #[v,.bool q.isSome])/\((q=none/\v= .slice none 0 0)∨ ∃n,q=some n/\w'.ownsRow w.heap.size 3 1 v n.length (ag n))
theorem He (l:au) (w:World) (hl:l.length<=1000):Ϝ 104 #[.string (dN l)] w (afm (numsOf l) w):=by
 have HW:=aa (BN l w hl);obtain⟨q,hq⟩: ∃q,numsOf l=q:=⟨_,rfl⟩;rw[hq];unfold numsOf at hq;have hwl:=Bv l;have hmem:=fun x (hx:x∈cB l)=>Jf l x hx;obtain⟨a,ps,hw⟩: ∃a ps,cB l=a::ps:=by
  cases h:cB l with
  |nil=>exact absurd h (kg l)
  |cons a ps=>exact⟨a,ps,rfl⟩
 rw[hw] at hq hwl hmem HW;simp only[List.headD_cons,List.tail_cons,List.length_cons] at hq hwl;obtain⟨m,hm0⟩: ∃m,u7 a=m:=⟨_,rfl⟩;rw[hm0] at hq;have ajb:=aa hmem;have hmb:=Ur a;have hma:=fun W=>Qy a W;rw[hm0] at hmb hma;have HMA:=aa hma;have HQ:=aa hq;clear hq hw hmem hma hm0;go_enter Tryz.func104,Tryz.ntmps104;go_wp2_with fail
 refine HW.o.mono ?_;rintro e W1 ⟨v,rfl,η,hB⟩;obtain⟨o,c,rfl⟩:=aL η;have hs1:=hB.size;have Qi:=aa hB;have HO1:=aa (aH.bV η);simp only[List.length_cons] at HO1;obtain⟨b,off,rfl,hb,hc0⟩:=fC.cell (l:=a::ps) HO1.o (k:=0) ϕ;simp only[List.getElem_cons_zero,Nat.add_zero] at hc0;clear η hB;go_wp2_with fail
 refine(HMA.o W1).mono ?_;rintro e W2 ⟨rfl,hB⟩;have hs2:=hB.size;have Ra:=aa (aV Qi.o hB);have xQ:=aa (aH.below HO1.o hB (ah _));clear hc0 hB;by_cases hm:m=(ps.length:Int)
 ·subst hm;have uu:Hid (jY ps=q):=aa (by have:=HQ.o;unfold JX at this;rwa [aB rfl] at this);have hm':(ps.length:Int)+1-1=(ps.length:Int):=ϑ;have hpl:ps.length<=1000:=ϑ;clear hmb;go_wp2_with fail
  go_loopw [5,6] (fun v u wr=> ∃(j:Nat) (ns:List Int) (o5:Option Addr) (c5:Nat),j<=ps.length/\u= .int .i64 (j+1:Nat)/\v= .slice o5 j c5/\jY (ps.take j)=some ns/\wr.ownsRow W2.heap.size 3 1 (.slice o5 j c5) j (ag ns)/\Ϙ W2 wr) (fun _ u _=>ps.length+1-(intOf u).toNat)
  case atStart=>exact⟨0,[],none,0,bD _,rfl,rfl,rfl,⟨rfl,.inl ⟨rfl,rfl⟩⟩,aC _ _⟩
  case round=>
   obtain⟨j,ns,o5,c5,hj,rfl,rfl,hns,η,hB⟩:=hrel;have hsB:=hB.size;have HX:=aa (af hns (af η hB));by_cases tX:j<ps.length
   ·obtain⟨b',off',he',hb',hc1⟩:=fC.cell (l:=a::ps) (aH.below xQ.o hB (ah _)) (k:=j+1) ϗ;obtain⟨rfl,rfl⟩:b'=b/\off'=off:=by
     injection he' with h;injection h with h1 h2;exact⟨h1.symm,h2.symm⟩
    simp only[List.getElem_cons_succ] at hc1;obtain⟨p,hp⟩: ∃p,ps[j]=p:=⟨_,rfl⟩;rw[hp] at hc1;have aaD:p.length<=1000:=by
     have:=ajb.o p (by rw[<-hp];exact nu _ (bK _))
     omega
    have HNA:=aa (JG p wr aaD);have Br:Hid (ps.take (j+1)=ps.take j++[p]):=aa (by rw[eT tX,hp]);have HP:Hid (ps[j]? =some p):=aa (by rw[bZ tX,hp]);have hgd:((j+1:Nat):Int)<(ps.length:Int)+1:=ϑ;clear hns η hB he' hp;go_wp2_with fail
    refine HNA.o.mono ?_;rintro e W4 ⟨rfl,hb4⟩;have hs4:=hb4.size;have fV:=aa (aV HX.o.2.2 hb4);have I5:=aa (az (Ms:=[]) HX.o.2.1 (Ext.ay hb4) ϕ);cases hnb:jO p with
    |none=>
     obtain rfl:q=none:=by rw[<-uu.o];exact FZ ps j p HP.o hnb
     clear hb4 hnb HNA hc1;simp only[Option.isSome_none];go_wp2_with fail
     go_returns;exact⟨aV Ra.o fV.o,_,by simp,.inl ⟨rfl,rfl⟩⟩
    |some x=>
     have HN4:=aa hnb;clear hb4 hnb HNA hc1;simp only[Option.isSome_some,Option.getD_some];go_wp2_with (at_builtin;go_loud (refine dB rfl _ _ pq rfl W2.heap.size (.slice o5 j c5) j (ag ns) rfl (az (Ms:=[]) I5.o (Ext.ay (ai (aC _ _) _)) ϕ) (.slice (some ⟨W4.heap.size,0,none⟩) 1 1) 1 (ag [x]) rfl (aH.bS 1 1 (av _ _) rfl ϖ) (iE _) ϑ ϑ ϗ ?_))
     intro v' Wc Fw TF XL;obtain⟨O4,JW,rfl⟩:=aL Fw;rw[<-Ic] at Fw;have Ig:Ϙ W4 (W4.alloc (.cells #[iv x] 3)):=ai (aC _ _) _;have HY:=aa (af Fw (Below.grown (aV fV.o Ig) TF (by have:=Ig.size;omega) (fun g e=>(aW I5.o g e).1)));clear Fw TF XL Ig;go_wp2_with fail
     go_roundw
     case rel=>exact⟨j+1,ns++[x],O4,JW,by omega,by go_num,rfl,by rw[Br.o];exact BZ _ _ _ _ HX.o.1 HN4.o,HY.o.1,HY.o.2⟩
     case measure=>simp[intOf];omega
   ·have hjl:j=ps.length:=ϑ;subst hjl;rw[List.take_length] at hns;obtain rfl:q=some ns:=by rw[<-uu.o,hns]
    have Y3:=aa (FY hns);have hgd: ¬((ps.length+1:Nat):Int)<(ps.length:Int)+1:=ϑ;clear hns η hB;go_wp2_with fail
    go_returns;exact⟨aV Ra.o HX.o.2.2,.slice o5 ps.length c5,by simp,.inr ⟨ns,rfl,by rw[Y3.o];exact bL HX.o.2.1 Ra.o.size⟩⟩
 ·have hm': ¬(m=(ps.length:Int)+1-1):=ϑ;obtain rfl:q=none:=by have:=HQ.o;unfold JX at this;rw[aj hm] at this;exact this.symm
  go_wp2_with fail
  go_returns;exact⟨Ra.o,_,by simp,.inl ⟨rfl,rfl⟩⟩
theorem lt_mul (N a b:Int) (h0:0<=N) (h1:N<=1000) (h2:a<=b) (h3:b<=a+9):0<=N*(b-a+1)/\N*(b-a+1)<=10000:=by
 have h4:1<=b-a+1:=ϑ;have h5:b-a+1<=10:=ϑ;generalize b-a+1=d at*
 refine⟨Int.mul_nonneg h0 ϑ,?_⟩;calc N*d<=1000*d:=Int.mul_le_mul_of_nonneg_right h1 ϑ
  _<=1000*10:=ϑ
theorem MO {l:au} {n:List Int} (h:numsOf l=some n) (a:au) (ha:(cB l).headD []=a):
 ((a==[114,111,119])=true/\(a==[114,97,116,101])=false/\(a==[115,116,97,114,116])=false/\(a==[119,101,116])=false/\(a==[104,101,97,112])=false/\(a==[115,116,114,111,110,103])=false)∨
 ((a==[114,111,119])=false/\(a==[114,97,116,101])=true/\(a==[115,116,97,114,116])=false/\(a==[119,101,116])=false/\(a==[104,101,97,112])=false/\(a==[115,116,114,111,110,103])=false/\n.length=1)∨
 ((a==[114,111,119])=false/\(a==[114,97,116,101])=false/\(a==[115,116,97,114,116])=false/\(a==[119,101,116])=false/\(a==[104,101,97,112])=false/\(a==[115,116,114,111,110,103])=false)∨
 ((a==[114,111,119])=false/\(a==[114,97,116,101])=false/\(a==[115,116,97,114,116])=true/\2<=n.length)∨
 ((a==[114,111,119])=false/\(a==[114,97,116,101])=false/\(a==[115,116,97,114,116])=false/\(a==[119,101,116])=true/\2<=n.length)∨
 ((a==[114,111,119])=false/\(a==[114,97,116,101])=false/\(a==[115,116,97,114,116])=false/\(a==[119,101,116])=false/\(a==[104,101,97,112])=true/\2<=n.length)∨
 ((a==[114,111,119])=false/\(a==[114,97,116,101])=false/\(a==[115,116,97,114,116])=false/\(a==[119,101,116])=false/\(a==[104,101,97,112])=false/\(a==[115,116,114,111,110,103])=true/\2<=n.length):=by
 rw[zC] at h;cases hp:nG l with
 |none=>rw[hp] at h;cases h
 |some cn=>
  obtain⟨c,m⟩:=cn;rw[hp] at h;obtain rfl:=gV h;obtain⟨h1,h2,_,_⟩:=qx hp;rw[ha] at h1;subst h1;clear hp h ha;cases c <;>simp only[jl.many,jl.word] at h2⊢ <;>first
   |exact .inl ϖ
   |exact .inr (.inl ⟨by decide,by decide,by decide,by decide,by decide,by decide,h2⟩)
   |exact .inr (.inr (.inl ϖ))
   |exact .inr (.inr (.inr (.inl ⟨by decide,by decide,by decide,by omega⟩)))
   |exact .inr (.inr (.inr (.inr (.inl ⟨by decide,by decide,by decide,by decide,by omega⟩))))
   |exact .inr (.inr (.inr (.inr (.inr (.inl ⟨by decide,by decide,by decide,by decide,by decide,by omega⟩)))))
   |exact .inr (.inr (.inr (.inr (.inr (.inr ⟨by decide,by decide,by decide,by decide,by decide,by decide,by omega⟩)))))
def afj (w:World) (e:Ending) (w':World):Prop:=Ϙ w w'/\ ∃b,e= .returned (.bool b)
theorem SA (ls:List au) (v:Value) (w:World) (hv:fC w v ls) (hll:ls.length<=100) (hl: ∀x∈ls,x.length<=1000):Ϝ 56 #[v] w (afj w):=by
 have Ib:=hv.len;obtain⟨o,c,rfl⟩:=aH.open hv;have HV:=aa hv;have HL:=aa hl;clear hv hl;go_enter Tryz.func56,Tryz.ntmps56;go_wp2_with fail
 go_loopw [3,4,5] (fun n r i wr=> ∃(k:Nat) (N R:Int),k<=ls.length/\i= .int .i64 k/\n= .int .i64 N/\r= .int .i64 R/\0<=N/\N<=10000/\0<=R/\R<=k/\Ϙ w wr) (fun _ _ i _=>ls.length-(intOf i).toNat)
 case atStart=>exact⟨0,1,0,bD _,rfl,rfl,rfl,by omega,by omega,by omega,by omega,aC _ _⟩
 case round=>
  obtain⟨k,N,R,hk,rfl,rfl,rfl,hN0,hN1,hR0,Bl,hB⟩:=hrel;have HB:=aa hB;by_cases tX:k<ls.length
  ·obtain⟨b,off,rfl,hb,hc0⟩:=fC.cell (aH.below HV.o hB (ah _)) tX;obtain⟨x,hx⟩: ∃x,ls[k]=x:=⟨_,rfl⟩;rw[hx] at hc0;have hxl:x.length<=1000:=HL.o x (by rw[<-hx];exact bK _);have HW:=aa (fun W=>BN x W hxl);have HNU:=aa (fun W=>He x W hxl);clear hB hx;go_wp2_with fail
   refine(HW.o wr).mono ?_;rintro e W2 ⟨v2,rfl,η,hB⟩;obtain⟨o2,c2,rfl⟩:=aL η;have hs2:=hB.size;have ah5:=((bA hB).1 b (off+k) hb).trans hc0;have Ra:=aa (aV HB.o hB);obtain⟨a,ps,hw⟩: ∃a ps,cB x=a::ps:=by
    cases h:cB x with
    |nil=>exact absurd h (kg x)
    |cons a ps=>exact⟨a,ps,rfl⟩
   have HHD:Hid ((cB x).headD []=a):=aa (by rw[hw];rfl);have xQ:=aa (aH.bV η);rw[hw] at xQ;rw[hw,List.length_cons];simp only[List.length_cons] at xQ;clear η hB hc0 hb hw HL;go_wp2_with fail
   refine(HNU.o W2).mono ?_;rintro e W3 ⟨hB3,v3,rfl,hv3⟩;have hs3:=hB3.size;have fV:=aa (aV Ra.o hB3);have HO3:=aa (aH.below xQ.o hB3 (ah _));obtain⟨b2,ama,rfl,θ,hc3⟩:=fC.cell (l:=a::ps) HO3.o (k:=0) ϕ;simp only[List.getElem_cons_zero,Nat.add_zero] at hc3;clear hB3 ah5;rcases hv3 with⟨hq,rfl⟩|⟨ns,hq,η⟩
   ·rw[hq];clear hq;simp only[Option.isSome_none];exact zaG
   ·have Av:=MO hq a HHD.o;rw[hq];obtain⟨o3,c3,rfl⟩:=aL η;have I5:=aa (aH.bV η);have hbd: ∀y∈ns,0<=y/\y<=9999:=by
     rw[zC] at hq;cases hp:nG x with
     |none=>rw[hp] at hq;cases hq
     |some cn=>
      rw[hp] at hq;obtain rfl:=gV hq;exact(qx (c:=cn.1) (n:=cn.2) hp).2.2.1
    have hnl:ns.length<=5:=by
     rw[zC] at hq;cases hp:nG x with
     |none=>rw[hp] at hq;cases hq
     |some cn=>
      rw[hp] at hq;obtain rfl:=gV hq;have:=(qx (c:=cn.1) (n:=cn.2) hp).2.1;rw[this];cases cn.1 <;>decide
    have I7:=aa hbd;clear hq η hbd;simp only[Option.isSome_some];rcases Av with⟨g1,g2,g3,g4,g5,g6⟩|⟨g1,g2,g3,g4,g5,g6,gl⟩|⟨g1,g2,g3,g4,g5,g6⟩|⟨g1,g2,g3,gl⟩|⟨g1,g2,g3,g4,gl⟩|⟨g1,g2,g3,g4,g5,gl⟩|⟨g1,g2,g3,g4,g5,g6,gl⟩
    ·exact zaG
    ·obtain⟨y,rfl⟩: ∃y,ns=[y]:=by
      match ns,gl with
      |[y],_=>exact⟨y,rfl⟩
     obtain⟨b3,JV,rfl,Θ,hc4⟩:=aK.cell (l:=[y]) I5.o (k:=0) ϕ;simp only[List.getElem_cons_zero,Nat.add_zero] at hc4;by_cases hy:(20:Int)<y
     ·by_cases hy5:y<=50
      ·go_wp2_with fail
       go_returns;exact⟨fV.o,_,rfl⟩
      ·exact zaG
     ·exact zaG
    ·exact zaG
    ·exact zac
    ·exact zac
    ·exact zac
    ·exact zac
  ·have XI:k=ls.length:=ϑ;subst XI;by_cases ZG:N<=60
   ·go_wp2_with fail
    go_returns;exact⟨HB.o,_,rfl⟩
   ·go_wp2_with fail
    go_returns;exact⟨HB.o,_,rfl⟩
def Wn (ls:List au) (w:World) (e:Ending) (w':World):Prop:=Ϙ w w'/\ ∃b,e= .returned (.bool b)/\(b=true->dA ls=0)
theorem Sv (ls:List au) (v:Value) (w:World) (hv:fC w v ls):Ϝ 28 #[v] w (Wn ls w):=by
 have HV:=aa hv;have HT:=aa (fun W (hb:Ϙ w W)=>Wm ls v W (HV.o.below hb (ah _)));have HF:=aa (fun W (hb:Ϙ w W)=>M7 ls v W (HV.o.below hb (ah _)));have HLT:=aa (fun W (hb:Ϙ w W) (h:Fh ls=true)=>SA ls v W (HV.o.below hb (ah _)) (by have:=(rU.1 h).1;omega) (fun x hx=>by have:=(rU.1 h).2 x hx;omega))
 clear hv;obtain⟨q,hq⟩: ∃q,Fh ls=q:=⟨_,rfl⟩;rw[hq] at HT HLT;obtain⟨f,hf⟩: ∃f,dA ls=f:=⟨_,rfl⟩;rw[hf] at HF;unfold Wn;rw[hf];clear hq hf;go_enter Tryz.func28,Tryz.ntmps28;go_wp2_with fail
 refine(HT.o w (aC _ _)).mono ?_;rintro e W1 ⟨rfl,hB1⟩;have Qi:=aa hB1;clear hB1;cases q with
 |false=>
  go_wp2_with fail
  go_returns;exact⟨Qi.o,_,rfl,fun h=>by cases h⟩
 |true=>
  go_wp2_with fail
  refine(HF.o W1 Qi.o).mono ?_;rintro e W2 ⟨rfl,hB2⟩;have Ra:=aa (aV Qi.o hB2);clear hB2;by_cases h0:f=0
  ·subst h0;go_wp2_with fail
   refine(HLT.o W2 Ra.o (by first|trivial|rfl)).mono ?_;rintro e W3 ⟨hB3,b,rfl⟩;have δ:=aa (aV Ra.o hB3);clear hB3;go_wp2_with fail
   go_returns;exact⟨δ.o,by cases b <;>simp⟩
  ·go_wp2_with fail
   go_returns;exact⟨Ra.o,_,rfl,fun h=>by cases h⟩
abbrev lJ (ls:List au):List au:=oI aQ bT ls
theorem FM {ls:List au} (h:dA ls=0):(lq ls).length=ls.length:=by unfold lq;rw[aB h,BP]
theorem QG {ls:List au} (h:dA ls=0) {k:Nat} (hk:k<ls.length):(lq ls)[k]'(by rw[FM h];exact hk)=(mM aQ (bW aQ bT (ls.take k)).1 ls[k]).2:=by
 have e:lq ls=(bW aQ bT (ls.take (k+1))).2++(bW aQ (bW aQ bT (ls.take (k+1))).1 (ls.drop (k+1))).2:=by
  unfold lq;rw[aB h]
  conv=>lhs;rw[<-List.take_append_drop (k+1) ls,JL]
 have e2:(bW aQ bT (ls.take (k+1))).2=(bW aQ bT (ls.take k)).2++[(mM aQ (bW aQ bT (ls.take k)).1 ls[k]).2]:=by rw[eT hk,zA]
 have hl:(bW aQ bT (ls.take k)).2.length=k:=by rw[BP,eO];omega
 have:(lq ls)[k]? =some (mM aQ (bW aQ bT (ls.take k)).1 ls[k]).2:=by
  rw[e,e2,jg,lI ϑ,hl,Nat.sub_self];rfl
 exact(gY.1 this).2
theorem EW {ls:List au} {k:Nat} (hk:k<ls.length):lJ (ls.take (k+1))=lJ (ls.take k)++(if(mM aQ (bW aQ bT (ls.take k)).1 ls[k]).2=0 then[ls[k]] else[]):=by
 unfold lJ;rw[eT hk,IW];rfl
def afk (ls:List au) (w:World) (e:Ending) (w':World):Prop:=
 Ϙ w w'/\ ∃o c V es,e= .returned (.tuple #[.slice o (lJ ls).length c,.agg (bP (fO ls) V),.bool true])/\fC w' (.slice o (lJ ls).length c) (lJ ls)/\lK w' (fO ls) V es
theorem MG (ls:List au) (lv:Value) (w:World) (hv:fC w lv ls) (hE:Env w) (hf0:dA ls=0):Ϝ 29 #[lv] w (afk ls w):=by
 obtain⟨lo,lc,rfl⟩:=aH.open hv;have HV:=aa (fun W (hb:Ϙ w W)=>hv.below hb (ah _));have HE:=aa (fun W (hb:Ϙ w W)=>hE.below hb (ah _));have aaM:=(wD hf0).1;have OM:=aa hf0;have LH:=aa (fun l (hl:l∈ls)=>show l.length<=1000000 by have:=(wD hf0).2 l hl;omega)
 clear hv hE hf0;go_enter Tryz.func29,Tryz.ntmps29;go_upto_region 1 with(fail)
 refine dz fun W1 σ=>?_;have ζ:Ϙ w W1:=by rw[σ];exact ai (aC _ _) _
 have hk1:W1.heap[w.heap.size]? =some (.cells cu 62 (0,0)):=by rw[σ];exact av _ _
 have hs1:w.heap.size<W1.heap.size:=by rw[σ];simp
 have Qi:=aa ζ;have PU:=aa hk1;clear σ ζ hk1;go_wp2_with fail
 refine(tF ls _ W1 (HV.o W1 Qi.o) ϑ).mono ?_;rintro e W2 ⟨o2,c2,rfl,Ψ,θ⟩;have Ra:=aa (aV Qi.o θ);have HL2:=aa (aH.bV Ψ);have Tn:=aa ((θ.block _ hs1).trans PU.o);have adr:w.heap.size<W2.heap.size:=dU hs1 θ.size;clear θ Ψ;go_wp2_with fail
 refine(vQ (.slice o2 ls.length c2) (ls) W2 (HL2.o) (HE.o W2 Ra.o) (LH.o) [w.heap.size] (by intro m hm;simp at hm;omega)).mono ?_;rintro e D9 ⟨θ,Va,esa,cv,he,hX,hC⟩;subst he;obtain⟨coa,ZL,rfl⟩:=aL hC;have hs2:=θ.size;have hS2:=hX D9 (Ext.refl _ _);rename_i hK;refine hK _ _ ?_;refine aF rfl _ (by go_simp;first|rfl|exact⟨rfl,rfl⟩) ?_;simp only[zp];refine aF rfl _ (by go_simp;first|rfl|exact⟨rfl,rfl⟩) ?_;simp only[zp];refine aF rfl _ (by go_simp;first|rfl|exact⟨rfl,rfl⟩) ?_;simp only[zp];refine aF rfl _ (by go_simp;first|rfl|exact⟨rfl,rfl⟩) ?_;simp only[zp];obtain⟨ga,hg⟩: ∃g,g=D9.heap.size:=⟨_,rfl⟩;refine aF rfl (w':=D9.alloc (.cells cu 62 (0,0))) (.pointer (some ⟨ga,0,none⟩)) (by rw[hg];go_simp;try rfl) ?_;simp only[zp];have hz2:(D9.alloc (.cells cu 62 (0,0))).heap[ga]? =some (.cells cu 62 (0,0)):=by rw[hg];exact av _ _
 refine wpList_store_row rfl _ _ _ rfl ga (bP (fO (ls)) Va) ϰ ϰ _ cu hz2 ϰ ϰ (by rw[jw];exact fun u hu=>fu hS2 u (jM.2 hu)) ?_
 simp only[zp];refine ib fun uJ Η=>?_;obtain⟨uf,jI⟩: ∃uf,uf=D9.alloc (.cells cu 62 (0,0)):=⟨_,rfl⟩;rw[<-jI] at Η hz2;have rJ:Ext [ga] uf uJ:=by rw[Η];exact dJ
 have hs3:=rJ.size;have zG:uf.heap.size=ga+1:=by rw[jI,hg];simp
 have ky:Ϙ D9 uJ:=gq (by rw[jI];exact ai (aC _ _) _) rJ ϑ
 have Rl:uJ.heap[ga]? =some (.cells (bP (fO (ls)) Va) 62 (0,0)):=by rw[Η];exact setRow_heap _ _ _ _ _ _ hz2
 have Θ:=aV θ ky;have ahV:W2.heap.size<=ga:=ϑ;have Ya:ga<uJ.heap.size:=ϑ;have SQ:=aa (af Θ (af Rl (af (hS2.below ky (ah _)) (aH.bV (az (Ms:=[]) hC (Ext.ay ky) ϕ)))));have abP:=aa (fun W9 (Vp:Ext [w.heap.size] uJ W9)=>hX W9 ((Ext.ay ky).trans Vp));clear hX hC Η jI rJ ky θ hS2 hz2 hK hs2 hs3 zG hg Θ;have I5:=aa (aV Ra.o SQ.o.1);have hpl:=FM OM.o;have hEr:aH 1 uJ (.slice coa (lq ls).length ZL) (lq ls).length (ag (lq ls)):=SQ.o.2.2.2;rw[hpl] at hEr⊢;rw[OM.o];have HES:=aa (fun W (hb:Ϙ uJ W)=>hEr.below hb (ah _));have LJ:=aa (af Rl (SQ.o.1.block _ adr |>.trans Tn.o));obtain⟨s,hs⟩: ∃s,fO ls=s:=⟨_,rfl⟩;rw[hs] at abP LJ⊢;have HS:=aa hs;have HPE:Hid ((lq ls).length=ls.length):=aa hpl;have hs3:w.heap.size<uJ.heap.size:=dU adr SQ.o.1.size;have hga:w.heap.size≠ga:=ϑ;have hne:((ls.length:Int) !=(ls.length:Int))=false:=ϕ;clear hEr hs hpl Rl SQ;go_wp2_with fail
 go_loopw [8,9] (fun u i wr=> ∃k:Nat,k<=ls.length/\i= .int .i64 k/\Ϙ uJ wr/\wr.ownsRow uJ.heap.size 9 1 u (lJ (ls.take k)).length (aT (lJ (ls.take k)))) (fun _ i _=>ls.length-(intOf i).toNat)
 case atStart=>exact⟨0,bD _,rfl,aC _ _,⟨rfl,.inl ⟨rfl,rfl⟩⟩⟩
 case round=>
  obtain⟨k,hk,rfl,hB,η⟩:=hrel;by_cases tX:k<ls.length
  ·obtain⟨g1,f1,e1,r1,c1⟩:=rX (HV.o wr (aV I5.o hB)) tX;have hkE:k<(lq ls).length:=by rw[HPE.o];exact tX
   obtain⟨g2,f2,e2,r2,d1⟩:=aK.cell (HES.o wr hB) hkE;rw[QG OM.o tX] at d1;have HT:=aa (EW tX);have hal:(lJ (ls.take k)).length<=k:=by
    have:=yR (st:=aQ) (ls.take k) bT;rw[eO,Nat.min_eq_left ϑ] at this;exact this
   generalize (mM aQ (bW aQ bT (ls.take k)).1 ls[k]).2=φ at*
   generalize ls[k]=x at*
   obtain⟨oo,oc,rfl⟩:=aL η;generalize hA:lJ (ls.take k)=A at*
   have HB:=aa hB;have HO:=aa η;have Ba:(k:Int)<ls.length:=ϑ;cases e1;cases e2;clear hB η hA hkE;by_cases hc:φ=0
   ·subst hc;rw[aB rfl] at HT;have HOA:=aa (az (Ms:=[]) HO.o (Ext.ay (ai (aC wr.heap.size wr) (.cells #[.string (dN x)] 9))) ϕ);go_wp2_with (at_builtin;go_loud (refine dB rfl _ _ BD rfl uJ.heap.size (.slice oo A.length oc) A.length (aT A) rfl HOA.o (.slice (some ⟨wr.heap.size,0,none⟩) 1 1) 1 (aT [x]) rfl (aH.bS 1 1 (av _ _) rfl ϖ) (uR [x]) ϑ ϑ (by have:=HB.o.size;simp;omega) ?_))
    intro v' W4 Fw TF _;have hB3:Ϙ uJ W4:=Below.grown (ai HB.o _) TF (by have:=HB.o.size;simp;omega) (fun g e=>(aW HOA.o g e).1);have hown3:W4.ownsRow uJ.heap.size 9 1 v' (lJ (ls.take (k+1))).length (aT (lJ (ls.take (k+1)))):=by
     rw[HT.o,show aT (A++[x])=aT A++aT [x] from by simp[aT],bR]
     exact Fw
    have δ:=aa hB3;exact zbM
   ·rw[aj hc,List.append_nil] at HT;have hcb:(φ==0)=false:=by simpa using hc
    go_wp2_with fail
    go_roundw;all_goals first
     |exact⟨k+1,by omega,by go_num,HB.o,by rw[HT.o];exact HO.o⟩
     |(simp[intOf];omega)
  ·have XI:k=ls.length:=ϑ;rw[XI,List.take_length] at η;obtain⟨oo,oc,rfl⟩:=aL η;have HB:=aa hB;have HO:=aa η;clear hB η XI;generalize wr=W5 at*
   have k5:=(HB.o.block ga Ya).trans LJ.o.1;have k6:=(HB.o.block _ hs3).trans LJ.o.2;have lg5:ga<W5.heap.size:=dU Ya HB.o.size;have OJ:=aa (af k5 k6);clear k5 k6;go_upto_region 10 with(fail)
   refine zg 3 [] none [] ?_;simp only[zt];repeat ((first|refine zn ?_|refine zk ?_);simp only[zp])
   refine fM ϱ (.agg (bP s Va)) ϱ (fun W hE hF=>?_) ?_
   ·exact nY _ _ rfl ga rfl _ _ _ _ ((hE.block ga lg5 ϕ).trans OJ.o.1) Tryz.underlying62 rfl ϰ
   simp only[zp];repeat ((first|refine zn ?_|refine zk ?_);simp only[zp])
   intro W6 hE hF;have tL:Ext [] W5 W6:=hE;have k7:=(tL.block w.heap.size (dU hs3 HB.o.size) ϕ).trans OJ.o.2;have HS3:=abP.o uJ (Ext.refl _ _);refine wpList_store_row rfl _ _ _ rfl w.heap.size (bP s Va) ϰ ϰ _ cu k7 ϰ ϰ (by rw[jw];exact fun u hu=>fu HS3 u (jM.2 hu)) ?_
   simp only[zp];refine ib fun W7 uC=>?_;have pF:Ext [w.heap.size] W6 W7:=by rw[uC];exact dJ
   have k8:W7.heap[w.heap.size]? =some (.cells (bP s Va) 62 (0,0)):=by rw[uC];exact setRow_heap _ _ _ _ _ _ k7
   have aeM:Ext [w.heap.size] uJ W7:=(Ext.ay HB.o).trans ((tL.nil).trans pF);have HS7:=aa (abP.o W7 aeM);have wz:Ϙ w W7:=gq (aV I5.o (aV HB.o tL.below)) pF (ah _);have ZX:=aa (aH.bV (az (Ms:=[w.heap.size]) HO.o ((tL.nil).trans pF) ϗ));have wK:=aa wz;have uw:=aa k8;clear uC pF k8 aeM wz k7 tL hE hF HS3;go_wp2_with fail
   refine bodyPost_ret (v:= .tuple #[.slice oo (lJ ls).length oc,.agg (bP s Va),.bool true]) ?_ rfl ?_
   ·have q1:=run_loadVar_row (P:=Tryz.prog) W7 w.heap.size 62 62 _ (0,0) _ uw.o Tryz.underlying62 rfl ϰ;simp[results,Tryz.results29,asAddr,q1]
   ·exact⟨wK.o,oo,oc,Va,esa,by rw[HS.o],ZX.o,by rw[HS.o];exact HS7.o⟩
theorem KG {ls:List au} (h1:ls.length<=40) (h2: ∀l∈ls,l.length<=60):dA ls=0:=by
 unfold dA;rw[aj];rintro(h|h)
 ·omega
 ·obtain⟨x,hx,h⟩:=List.any_eq_true.1 h;have:=h2 x hx;simp at h;omega
theorem Gx {ls:List au} (h:dA ls=0):dA (lJ ls)=0/\lJ (lJ ls)=lJ ls/\fO (lJ ls)=fO ls:=by
 have hf:=wD h;have hl:=yR (st:=aQ) ls bT;have h0:dA (lJ ls)=0:=KG (gI hl hf.1) fun l hm=>hf.2 l (PL ls bT l hm);refine⟨h0,YV ls bT,?_⟩;unfold fO;rw[aB h0,aB h];exact(JM ls bT).1
theorem Vx (ls:List au):(oD ls).length=gm ls:=tQ ls 0
theorem Qh {ls:List au} (h0:dA ls=0) (n:Nat):
 cK 40 0 (oD ls)=ls/\(oD ls).length<=2760/\ ∃m,m<=ls.length/\cK 40 0 ((oD ls).take n)=ls.take m/\gm (ls.take m)<=n/\(m=ls.length∨n<gm (ls.take (m+1))):=by
 have hf:=mg h0;refine⟨FL hf.2 40 hf.1 0,?_,JE ls 40 0 n hf.2 hf.1⟩;rw[Vx];have:=Jr ls hf.2;omega
theorem ag0 (k n:Nat) (hn:0<n):(k:Int).tmod (n:Int)=((k%n:Nat):Int):=by rw[Int.tmod_eq_emod_of_nonneg ϑ];omega
def zz (b:au):iC:=(bW aQ bT (cK 40 0 b)).1
def uz (b:au) (more:List au):List au:=cK 40 0 b++oI aQ (zz b) more
theorem Qt {b:au} {more:List au} {i:Nat} (hi:i<more.length):uz b (more.take (i+1))=uz b (more.take i)++(if(mM aQ (bW aQ (zz b) (more.take i)).1 more[i]).2=0 then[more[i]] else[]):=by
 unfold uz;rw[eT hi,IW,jg];rfl
theorem FI (b:au) (more:List au):uz b (more.take 0)=cK 40 0 b:=by simp[uz,oI]
def YY (q:Int) (b:au) (more:List au) (w:World) (e:Ending) (w':World):Prop:=
 Ϙ w w'/\((q≠0/\e= .returned (.tuple #[.slice none 0 0,iv q]))∨(q=0/\40<(uz b more).length/\e= .returned (.tuple #[.slice none 0 0,iv 3]))∨
  (q=0/\(uz b more).length<=40/\ ∃v,e= .returned (.tuple #[v,iv 0])/\w'.ownsRow w.heap.size 5 1 v (oD (uz b more)).length (Lib.byteCells (oD (uz b more)))))
theorem Dn (b:au) (bv:Value) (more:List au) (mv:Value) (w:World) (hbv:aH 1 w bv b.length (Lib.byteCells b)) (hb:b.length<=1000000000) (hmv:fC w mv more) (hln: ∀l∈more,l.length<=1000000) (hE:Env w):
 Ϝ 27 #[bv,mv] w (YY (dA more) b more w):=by
 obtain⟨bo,bc,rfl⟩:=aH.open hbv;obtain⟨mo,mc,rfl⟩:=aH.open hmv;have HBV:=aa (fun W (hb:Ϙ w W)=>hbv.below hb (ah _));have AX:Hid (∀W,Ϙ w W->fC W (.slice mo more.length mc) more):=aa (fun W hb=>hmv.below hb (ah _));have HE:Hid (∀W,Ϙ w W->Env W):=aa (fun W hb=>hE.below hb (ah _));have HFA:=aa (zN more _ w hmv hln);obtain⟨hx,hq⟩: ∃hx,dA more=hx:=⟨_,rfl⟩;rw[hq] at HFA⊢;have HQ:=aa hq;clear hbv hmv hE hln hq;go_enter Tryz.func27,Tryz.ntmps27;go_wp2_with fail
 refine HFA.o.mono ?_;rintro e W1 ⟨rfl,hB1⟩;have Qi:=aa hB1;clear hB1 HFA;by_cases hq0:hx=0
 rotate_left
 ·have hqb:(hx !=0)=true:=by simpa using hq0
  go_wp2_with fail
  go_returns;exact⟨Qi.o,.inl ⟨hq0,by simp⟩⟩
 subst hq0;have lg:=mg HQ.o;have HML:=aa lg;have hmo:more.length<=40:=lg.1;have WW:=aa (AU b _ W1 (HBV.o W1 Qi.o) hb);clear lg;go_wp2_with fail
 refine WW.o.mono ?_;rintro e W2 ⟨hB2,v2,rfl,Μ⟩;obtain⟨o2,c2,rfl⟩:=aL Μ;have hrl:=uV 40 0 b;have Ra:=aa (aV Qi.o hB2);have HV2:=aa Μ;have amg:=hB2.size;have amh:=Qi.o.size;obtain⟨Q0,hQ0⟩: ∃Q,Q=(Value.slice o2 (cK 40 0 b).length c2).ownBlock.toList:=⟨_,rfl⟩;have aba: ∀m∈Q0,W1.heap.size<=m/\m<W2.heap.size:=fun m hm=>by
  rw[hQ0] at hm;exact aW Μ m (bY.1 hm)
 have iL:=aa (af hQ0 aba);have Ti:=aa (si _ (cK 40 0 b) W2 (aH.bV Μ) (HE.o W2 Ra.o) (fun l hl=>by have:=xq 40 0 b l hl;omega) ϑ Q0 (fun m hm=>(aba m hm).2));clear hB2 Μ hQ0 aba WW;go_wp2_with fail
 refine Ti.o.mono ?_;rintro e W3 ⟨Θ,V0,es0,cv,rfl,hX0,hcv⟩;obtain⟨co,cc,rfl⟩:=aL hcv;rename_i hK;refine hK _ _ ?_;refine aF rfl _ (by go_simp;first|rfl|exact⟨rfl,rfl⟩) ?_;simp only[zp];refine aF rfl _ (by go_simp;first|rfl|exact⟨rfl,rfl⟩) ?_;simp only[zp];refine aF rfl _ (by go_simp;first|rfl|exact⟨rfl,rfl⟩) ?_;simp only[zp];have hs3:=Θ.size;obtain⟨g,hg⟩: ∃g,g=W3.heap.size:=⟨_,rfl⟩;refine aF rfl (w':=(W3.alloc (.cells cu 62 (0,0)))) (.pointer (some ⟨g,0,none⟩)) (by rw[hg];go_simp;try rfl) ?_;simp only[zp];have hS0:=hX0 W3 (Ext.refl _ _);have hz:(W3.alloc (.cells cu 62 (0,0))).heap[g]? =some (.cells cu 62 (0,0)):=by rw[hg];exact av _ _
 refine wpList_store_row rfl _ _ _ rfl g (bP (bW aQ bT (cK 40 0 b)).1 V0) ϰ ϰ _ cu hz ϰ ϰ (by rw[jw];exact fun u hu=>fu hS0 u (jM.2 hu)) ?_
 simp only[zp];refine ib fun W4 yB=>?_;obtain⟨W3',Yg⟩: ∃W3',W3'=W3.alloc (.cells cu 62 (0,0)):=⟨_,rfl⟩;rw[<-Yg] at yB hz;have Eu:Ext [g] W3' W4:=by rw[yB];exact dJ
 have hs4:=Eu.size;have amq:W3'.heap.size=g+1:=by rw[Yg,hg];simp
 have Io:Ϙ W3 W4:=gq (by rw[Yg];exact ai (aC _ _) _) Eu ϑ
 have hk4:W4.heap[g]? =some (.cells (bP (zz b) V0) 62 (0,0)):=by rw[yB];exact setRow_heap _ _ _ _ _ _ hz
 have ZA: ∀W',Ext (g::Q0) W4 W'->lK W' (zz b) V0 es0:=fun W' G8=>hX0 W' ⟨G8.os.trans Io.os,G8.tape.trans Io.tape,G8.output.trans Io.output,gI Io.size G8.size,fun eQ p hm=>(G8.block eQ (by have:=Io.size;omega) (fun h=>by
  rcases eB.1 h with h|h
  ·omega
  ·exact hm h)).trans (Io.block eQ p)⟩
 have fV:=aa (aV Ra.o (aV Θ Io));have ho4:=az (Ms:=[]) HV2.o (Ext.ay (aV Θ Io)) ϕ;have H4:=aa (af hk4 (af ZA ho4));have hg4:g<W4.heap.size:=ϑ;have hg2:W2.heap.size<=g:=ϑ;clear ZA hX0 yB Yg Eu Io hk4 hz hS0 Θ hg hK hcv ho4;have aeD:(bW aQ bT (cK 40 0 b)).1=zz b:=rfl;rw[aeD];clear aeD;go_wp2_with fail
 go_loopw [7,32] (fun v7 u wr=> ∃i:Nat,i<=more.length/\u= .int .i64 i/\Ϙ w wr/\W4.heap.size<=wr.heap.size/\ ∃(n:Nat) (o:Option Addr) (c:Nat) (V:SV) (es:List KE),v7= .slice o n c/\n=(uz b (more.take i)).length/\wr.ownsRow W1.heap.size 9 1 (.slice o n c) n (aT (uz b (more.take i)))/\
  wr.heap[g]? =some (.cells (bP (bW aQ (zz b) (more.take i)).1 V) 62 (0,0))/\(∀m∈(Value.slice o n c).ownBlock.toList,m≠g)/\ ∀W',Ext (g::(Value.slice o n c).ownBlock.toList) wr W'->lK W' (bW aQ (zz b) (more.take i)).1 V es) (fun _ u _=>more.length-(intOf u).toNat)
 case atStart=>
  refine⟨0,bD _,rfl,fV.o,ah _,_,o2,c2,V0,es0,rfl,by rw[FI],by rw[FI];exact H4.o.2.2,H4.o.1,fun m hm=>?_,fun W' G8=>H4.o.2.1 W' ?_⟩
  ·rw[<-iL.o.1] at hm;have:=iL.o.2 m hm;omega
  ·rw[iL.o.1];exact G8
 case round=>
  obtain⟨i,hi,rfl,hB,ν,n,oo,oc,V,es,rfl,hn,η,hbk,hng,Rt⟩:=hrel;have amG:n<=80:=by
   have h1:=yR (st:=aQ) (more.take i) (zz b);have h2:(more.take i).length<=more.length:=by simp;omega
   rw[hn];unfold uz;rw[bR];omega
  by_cases tX:i<more.length
  ·obtain⟨bl,off,hov,ο,hcl⟩:=rX (AX.o _ hB) tX;obtain⟨s,hs⟩: ∃s,(bW aQ (zz b) (more.take i)).1=s:=⟨_,rfl⟩;have hG:eD s:=by rw[<-hs];exact wh _ (wh _ xM)
   obtain⟨L,hL⟩: ∃L,uz b (more.take i)=L:=⟨_,rfl⟩;have hTK:(bW aQ (zz b) (more.take (i+1))).1=(mM aQ s more[i]).1:=by rw[eT tX,zA,hs]
   have hRL:=Qt (b:=b) tX;rw[hs,hL] at hRL;rw[hs] at hbk Rt;rw[hL] at hn η;have hx6:more[i].length<=60:=HML.o.2 _ (bK tX);obtain⟨F7,Kw⟩: ∃l,more[i]=l:=⟨_,rfl⟩;rw[Kw] at hcl hTK hRL hx6;have HD:=aa (VG s V es F7 wr (Rt wr (Ext.refl _ _)) hG (HE.o wr hB) ϑ (g::(Value.slice oo n oc).ownBlock.toList) (fun m hm=>by
    rcases eB.1 hm with rfl|hm
    ·omega
    ·exact(aW η m (bY.1 hm)).2) Rt)
   have HX:=aa (af hB (af η (af hbk (af hng Rt))));have Br:=aa (af hTK (af hRL hn));subst hov;clear hB η hbk hng Rt hTK hRL hn hs hL Kw hG;go_upto_region 9 with(fail)
   refine wp_region_lit ?_;refine wpList_load_row rfl _ _ rfl g rfl _ _ _ _ HX.o.2.2.1 Tryz.underlying62 rfl ϰ ?_;simp only[zp];go_wp2_with fail
   refine HD.o.mono ?_;rintro e W5 ⟨hb5,V5,es5,rfl,hS5,hX5⟩;rename_i hK;refine hK _ _ ?_;refine aF rfl _ (by go_simp;first|rfl|exact⟨rfl,rfl⟩) ?_;simp only[zp];refine aF rfl _ (by go_simp;first|rfl|exact⟨rfl,rfl⟩) ?_;simp only[zp];refine aF rfl _ (by go_simp;first|rfl|exact⟨rfl,rfl⟩) ?_;simp only[zp];obtain⟨q,hp⟩: ∃q,q=W5.heap.size:=⟨_,rfl⟩;have hs5:=hb5.size;refine aF rfl (w':=W5.alloc (.cells cu 62 (0,0))) (.pointer (some ⟨q,0,none⟩)) (by rw[hp];go_simp;try rfl) ?_;simp only[zp];have hz:(W5.alloc (.cells cu 62 (0,0))).heap[q]? =some (.cells cu 62 (0,0)):=by rw[hp];exact av _ _
   refine wpList_store_row rfl _ _ _ rfl q (bP (mM aQ s F7).1 V5) ϰ ϰ _ cu hz ϰ ϰ (by rw[jw];exact fun u hu=>fu hS5 u (jM.2 hu)) ?_
   simp only[zp];refine ib fun W6 wY=>?_;obtain⟨W5',Ye⟩: ∃W5',W5'=W5.alloc (.cells cu 62 (0,0)):=⟨_,rfl⟩;rw[<-Ye] at wY hz;have H6:Ext [q] W5' W6:=by rw[wY];exact dJ
   have amn:W5'.heap.size=q+1:=by rw[Ye,hp];simp
   have hs6:=H6.size;have aa4:Ϙ W5 W6:=gq (by rw[Ye];exact ai (aC _ _) _) H6 ϑ
   have Gc:W6.heap[q]? =some (.cells (bP (mM aQ s F7).1 V5) 62 (0,0)):=by rw[wY];exact setRow_heap _ _ _ _ _ _ hz
   have hb6:=aV hb5 aa4;have H5:=aa (af hb6 (af aa4 (af Gc (af hS5 hX5))));clear wY Ye H6 aa4 Gc hz hS5 hX5 hb5 hb6 hK HD;obtain⟨φ,hcode⟩: ∃φ,(mM aQ s F7).2=φ:=⟨_,rfl⟩;have HC:=aa hcode;rw[hcode];clear hcode;by_cases hc0:φ=0
   rotate_left
   ·have hcb:(φ==0)=false:=by simpa using hc0
    have GX:(mM aQ s F7).1=s:=KN (by rw[HC.o];exact hc0);have hrl2:=Br.o.2.1;rw[HC.o,aj hc0,List.append_nil] at hrl2;have HR:=aa (af GX hrl2);have hz6:=H5.o.1.size;clear GX hrl2;go_wp2_with fail
    refine⟨⟨i+1,by omega,by go_num,aV HX.o.1 H5.o.1,by omega,n,oo,oc,V,es,rfl,by rw[HR.o.2];exact Br.o.2.2,by rw[HR.o.2];exact az (Ms:=[]) HX.o.2.1 (Ext.ay H5.o.1) ϕ,?_,HX.o.2.2.2.1,fun W' G8=>?_⟩,by simp[intOf];omega⟩
    ·rw[Br.o.1,HR.o.1];exact(H5.o.1.block g ϑ).trans HX.o.2.2.1
    ·rw[Br.o.1,HR.o.1];exact HX.o.2.2.2.2 W' (((show Ext [] wr W6 from Ext.ay H5.o.1).more ϕ).trans G8)
   ·subst hc0;have hrl2:=Br.o.2.1;rw[HC.o,aB rfl] at hrl2;have HRL:=aa hrl2;clear hrl2;go_upto_region 11 with(fail)
    have hz6:=H5.o.1.size;obtain⟨Ms,γ⟩: ∃Ms,Ms=(Value.slice oo n oc).ownBlock.toList:=⟨_,rfl⟩;have hm0: ∀m∈Ms,W1.heap.size<=m/\m<wr.heap.size:=fun m h=>aW HX.o.2.1 m (by rw[γ] at h;exact bY.1 h);have pY: ∀m∈Ms,m<W6.heap.size:=fun m h=>by have:=hm0 m h;omega
    have Ν:q∉Ms:=fun h=>by have:=hm0 q h;omega
    have hm2:g∉Ms:=fun h=>HX.o.2.2.2.1 g (by rw[<-γ];exact h) rfl;have hq5:q<W6.heap.size:=ϑ;have HM:=aa γ;clear γ;refine zg 5 Ms (some 4) [(3,Spec.slice W6.heap.size #[.string (dN F7)] 9 1),(4,⟨fun _ v=> ∃o2 c2,v= .slice o2 (n+1) c2,fun _ v Wx=>Wx.ownsRow W1.heap.size 9 1 v (n+1) (aT L++aT [F7])/\(v.ownBlock=(Value.slice oo n oc).ownBlock∨ ∃hx,v.ownBlock=some hx/\W6.heap.size<=hx)⟩)] ?_;simp only[zt];refine fM ϱ (.agg (bP (mM aQ s F7).1 V5)) ϱ (fun W hE hF=>?_) ?_
    ·exact zb7
    simp only[zp];repeat ((first|refine zd ?_|refine zk ?_);simp only[zp])
    refine dI W6.heap.size _ _ 1 ϱ (ah _) ϱ pY ϕ (fun W hW=>by go_simp;try rfl) (fun b6=>?_);simp only[zp];refine bn _ ϱ ϱ (by exact⟨.slice none (n+1) 0,none,0,rfl⟩) (fun Wq hE hF=>?_) (fun v Wa Wb ho hE=>?_) (fun v hv=>?_)
    ·have G8:Ext [] W6 Wq:=hE;obtain⟨b',hb',hge,μ⟩:=hF _ (bu _) ϰ;cases hb';have YM:=az (Ms:=[]) HX.o.2.1 ((Ext.ay H5.o.1).trans G8) ϕ;have ι:aH 1 Wq (.slice (some ⟨b6,0,none⟩) 1 1) 1 (aT [F7]):=aH.bS 1 1 μ rfl ϖ;refine Does.mono (cZ BD ϱ ϱ YM ϱ ι (uR [F7]) ϑ ϑ (by have:=G8.size;omega)) ?_;rintro v' W7 ⟨ho,TF,XL⟩;refine⟨aO ho,⟨ho,XL.imp id fun h1=>⟨_,h1,G8.size⟩⟩,⟨TF.os,TF.tape,TF.output,TF.size,fun k hk hn=>TF.block k hk (fun e=>hn (by rw[HM.o];exact bY.2 e.symm))⟩⟩
    ·exact zaP
    obtain⟨o7,c7,rfl⟩:=hv;simp only[zp];intro W7 hE hF;obtain⟨WT,hg6⟩:=hF _ (bu _);have tL:Ext Ms W6 W7:=hE;have hs7:=tL.size;have hkg:=(tL.block g ϑ hm2).trans ((H5.o.1.block g ϑ).trans HX.o.2.2.1);refine wpList_store_row rfl _ _ _ rfl g (bP (mM aQ s F7).1 V5) ϰ ϰ _ _ hkg ϰ rfl (by rw[jw];exact fun u hu=>fu H5.o.2.2.2.1 u (jM.2 hu)) ?_
    simp only[zp];refine ib fun W8 hW8=>?_;have pF:Ext [g] W7 W8:=by rw[hW8];exact dJ
    have Pk:W8.heap[g]? =some (.cells (bP (mM aQ s F7).1 V5) 62 (0,0)):=by rw[hW8];exact setRow_heap _ _ _ _ _ _ hkg
    have hs8:=pF.size;have aeq:Ϙ w W8:=zbs;have aaG: ∀m∈(Value.slice o7 (n+1) c7).ownBlock.toList,m≠g:=fun m hm=>by
     rcases hg6 with h1|⟨k,h1,h2⟩
     ·rw[h1] at hm;exact HX.o.2.2.2.1 m hm
     ·rw[h1] at hm;simp at hm;omega
    have nD:=QK (Ms:=[g]) WT pF (fun k hk h=>aaG k (bY.2 h) (by simpa using hk));have hX8: ∀W',Ext (g::(Value.slice o7 (n+1) c7).ownBlock.toList) W8 W'->lK W' (mM aQ s F7).1 V5 es5:=fun W' G8=>by
     have h56:=H5.o.2.1;have anC:=h56.size;refine H5.o.2.2.2.2 W' ⟨G8.os.trans (pF.os.trans (tL.os.trans h56.os)),G8.tape.trans (pF.tape.trans (tL.tape.trans h56.tape)),G8.output.trans (pF.output.trans (tL.output.trans h56.output)),by have:=G8.size;omega,fun k hk hm=>?_⟩;have n2:k≠g:=fun e=>hm (by simp[e]);have n3:k∉(Value.slice oo n oc).ownBlock.toList:=fun h=>hm (nu _ h);have n4:k∉(Value.slice o7 (n+1) c7).ownBlock.toList:=fun h=>by
      exact zcl
     exact(G8.block k ϑ (fun h=>by rcases eB.1 h with h|h;(exact n2 h);exact n4 h)).trans ((pF.block k ϑ (by simpa using n2)).trans ((tL.block k ϑ (by rw[HM.o];exact n3)).trans (h56.block k hk)))
    have H8:=aa (af aeq (af nD (af Pk (af aaG hX8))));have ahk:W4.heap.size<=W8.heap.size:=ϑ;clear aeq nD Pk aaG hX8 hW8 pF tL hE hF WT hg6 hkg;go_wp2_with fail
    refine⟨⟨i+1,by omega,by go_num,H8.o.1,ahk,n+1,o7,c7,V5,es5,rfl,by rw[HRL.o,bR,Br.o.2.2];rfl,?_,by rw[Br.o.1];exact H8.o.2.2.1,H8.o.2.2.2.1,fun W' G8=>by rw[Br.o.1];exact H8.o.2.2.2.2 W' G8⟩,by simp[intOf];omega⟩;rw[HRL.o,show aT (L++[F7])=aT L++aT [F7] from by simp[aT]]
    exact H8.o.2.1
  ·obtain rfl:i=more.length:=ϑ;rw[List.take_length] at hn η;obtain⟨L,hL⟩: ∃L,uz b more=L:=⟨_,rfl⟩;rw[hL] at hn η;have hL6: ∀l∈L,l.length<=60:=fun l hl=>by
    rw[<-hL] at hl;rcases gz.1 hl with h|h
    ·exact xq 40 0 b l h
    ·exact HML.o.2 l (PL more (zz b) l h)
   have PX:=aa hB;have GX: ¬(more.length:Int)<more.length:=ϑ;by_cases WU:40<n
   ·have Vu:(40:Int)<(n:Int):=ϑ;have HN:=aa hn;have Tk:=aa hL;clear η hbk hng Rt hB hn hL;go_wp2_with fail
    go_returns;exact⟨PX.o,.inr (.inl ⟨rfl,by rw[Tk.o, <-HN.o];exact WU,by simp⟩)⟩
   ·have Vu: ¬(40:Int)<(n:Int):=ϑ;have hs:aH 1 wr (.slice oo n oc) n (aT L):=aH.bV η;have HFL:=aa (KD L (.slice oo n oc) wr (by unfold fC;rw[<-hn];exact hs) ϑ hL6);have HN:=aa hn;have Tk:=aa hL;clear η hbk hng Rt hB hn hL hs;go_wp2_with fail
    refine HFL.o.mono ?_;rintro e W5 ⟨hb5,v5,rfl,hv5⟩;have mO:=aa (aV PX.o hb5);have HV5:=aa (bL hv5 PX.o.size);clear hb5 hv5 HFL;go_wp2_with fail
    go_returns;exact⟨mO.o,.inr (.inr ⟨rfl,by rw[Tk.o, <-HN.o];omega,v5,by simp,by rw[Tk.o];exact HV5.o⟩)⟩
end Go.Proofs.Z.Bk
end

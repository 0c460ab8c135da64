/-
  Texts of this claim, packed by a program: EC EG YK EJ EH FB EM FC ED EK FA FD FE HA HB HC ET OG.
-/
import Derived.WalkKit
import Derived.WalkLawsBesides
import Derived.WalkSpells
import Derived.Outline
import Derived.Handy
import Derived.KernelRfl
import Derived.Lib.Hide
import Derived.Lib.BufferWrite
import Derived.Laws.CopyOwn
import Derived.BigRegion
import Derived.Laws.DeepStrings4
import Derived.Laws.BytesArg
import Derived.Laws.Cover3
import Derived.Scope
import Derived.Laws.IdiomStrings
import Derived.Deep.Slices
import Derived.Carry
import Derived.Test.YthllkbbbapgelaaGreatDoorPN14
set_option maxHeartbeats 8000000
set_option maxRecDepth 100000
set_option linter.all false
theorem _root_.zcv {P:Prop} (h:P:=by
 go_wp2_with fail
 go_loopw [5] (fun i wr=> ∃k:Nat,k<=l.length/\i= .int .i64 k/\Ϙ w wr) (fun i _=>l.length-(intOf i).toNat)
 case atStart=>exact⟨0,bE _,rfl,aF _ _⟩
 case round=>
  obtain⟨k,hk,rfl,hB⟩:=hrel;by_cases uM:k<l.length
  ·obtain⟨g1,f1,e1,r1,c1⟩:=aL.cell (HH.o.1.below hB (ah _)) uM;obtain⟨g2,f2,e2,r2,c2⟩:=aL.cell (HH.o.2.below hB (ah _)) uM;generalize l[k]=x at*
   have HX:=aa hB;have oK:(k:Int)<l.length:=ϑ;cases e1;cases e2;clear hB;have hnb:(x !=x)=false:=ϕ;have hnc:(x==x)=true:=ϕ;exact zas
  ·have HR:=aa hB;clear hB;exact za7):P:=h
theorem _root_.zcD {P:Prop} (h:P:=by
 generalize (T)[k]=x at*
 have HX:=aa hB;have oK:(k:Int)<(T).length:=ϑ;cases e1;cases e2;clear hB;exact zas):P:=h
theorem _root_.zcG {P:Prop} (h:P:=by
 skip
 have HR:=aa (aV Uy.o hB);have Y9:k=(T).length:=ϑ;clear hB;exact za7):P:=h
theorem _root_.zap {P:Prop} (h:P:=by
 obtain⟨j,hj,rfl,rfl,hb⟩:=hrel;by_cases uM:j<GQ.length
 ·have hle:=rT (GQ.take j) 2 ϗ;have hlj:(GQ.take j).length=j:=by simp;omega
  rw[hlj] at hle;obtain⟨c,hc⟩: ∃c,GQ[j]=c:=⟨_,rfl⟩;have hcx:(dS GQ)[j]'(by rw[τ];exact uM)=c:=by rw[<-hc];rfl
  have hcl:=c.toNat_lt;have hmul:(j+2)*c.toNat<=62*255:=Nat.mul_le_mul ϑ ϑ;have Y6:fZ 2 (GQ.take (j+1))=fZ 2 (GQ.take j)+(2+j)*c.toNat:=by
   rw[eG uM,xJ,hlj,hc]
  have π:=aa Y6;generalize hS:fZ 2 (GQ.take j)=S at*
  obtain⟨m,hm⟩: ∃m,(j+2)*c.toNat=m:=⟨_,rfl⟩;have hmI:((j:Int)+2)*(c.toNat:Int)=(m:Int):=by rw[<-hm];simp
  have HM:Hid ((2+j)*c.toNat=m):=aa (by rw[<-hm,Nat.add_comm]);rw[hm] at hmul;have acu:S<=948600:=ϑ;have w1:wrap64 (m:Int)=m:=Xm m hmul;have w2:wrap64 (29*((i:Int)+1)+S+m)=29*((i:Int)+1)+S+m:=Xl i S m hi acu hmul;clear Y6 hS hlj hc hm;go_wp2_with fail
  refine⟨⟨j+1,by omega,by go_num,?_,hb⟩,by simp[intOf];omega⟩;rw[π.o,HM.o];congr 1;omega
 ·have hjl:j=GQ.length:=ϑ;subst hjl;have hle:=rT GQ 2 ϑ;rw[List.take_length];have HC:Hid (((29*(i+1)+fZ 2 GQ:Nat):Int)%9949=(gM i GQ:Nat)):=aa (by unfold gM;omega);obtain⟨S,hS⟩: ∃S,29*(i+1)+fZ 2 GQ=S:=⟨_,rfl⟩;rw[hS] at HC⊢;clear hle hS;go_wp2_with fail
  go_returns;exact⟨by simp[HC.o],hb⟩):P:=h
theorem _root_.zab {P:Prop} (h:P:=by
 obtain⟨c9,f9,l9⟩:=ae (HC.o W9 TQ.o.below);have rf:=π.o W9 TQ.o.below;have Yg:=aa (gZ.Fe s.heap vw vu vr vu s.heap.turns W9 rf.bJ rf.Ab rf.Al rf.Ab);clear rf;go_wp2_with fail
 refine Yg.o.mono ?_;rintro e MN ⟨bv,he,hbv,vg⟩;rw[iF.o.2.ask] at he;subst he;obtain⟨vB,hB1,hB2⟩:=D7 iF.o.1 iF.o.2;have Zp:D8 s=fP Qf ((gZ.iV s.heap s.heap.turns).getD 4 (0,0)):=rfl;obtain⟨B,hB⟩: ∃B,gZ.iV s.heap s.heap.turns=B:=⟨_,rfl⟩;rw[hB] at hbv vB hB1 hB2 Zp;obtain⟨bO,bC,rfl⟩:=hbv.open;obtain⟨lb,NP,rfl,hlb,d1,d2⟩:=bD.cell hbv (k:=4) ϑ;have hg4:B.getD 4 (0,0)=B[4]:=uG ϑ;rw[hg4] at hB1 hB2 Zp;generalize B[4]=x at*
 have EZ:=aa (TQ.o.call vg);have hl4:s.heap.last=4:=iF.o.1.heap.1;have HHR:=aa Zp;clear hbv vg hB Zp c9 f9 l9 hg4;obtain⟨c9,f9,l9⟩:=ae (HC.o MN EZ.o.below);rw[vB];have HW:=aa (fun W hE=>qj W3.heap.size W3.heap.size P4 Qf x W (EZ.o.call hE).buf (kZ (EZ.o.call hE).lt) ϑ (XP.o _ (EZ.o.call hE).below) hB1 hB2 (by have h2:(Qf:ay).length<=10:=ϖ;omega))
 have hwl:=zY (word:=Qf) hB1 hB2;clear hB1 hB2 vB;go_wp2_with fail
 refine zg 15 [] none [] ?_;simp only[zt];repeat ((first|refine zn ?_|refine zk ?_);simp only[zp])
 intro W hE hF;have hbE:=hE.below;clear hE hF;go_wp2_with fail
 refine(HW.o W hbE).mono ?_;rintro e XD ⟨⟨v11,rfl⟩,hbu,Κ⟩;obtain⟨P5,ZB⟩: ∃P,P4++fP Qf x=P:=⟨_,rfl⟩;have hs5:P5.length<=1340:=by rw[<-ZB,cu];have:(Qf:ay).length=4:=rfl;omega
 rw[ZB] at hbu;have Pv:=aa ((EZ.o.call hbE).wrote hbu Κ ϑ);have Wm:ma s=P5++keepR s++(iH s.cK).flatMap (fP zJ):=by rw[HEQ.o,HHR.o,ZB]
 have ads:=aa Wm;clear hbu Κ ZB Wm c9 f9 l9 hbE hwl d1 d2 hl4;obtain⟨c9,f9,l9⟩:=ae (HC.o XD Pv.o.below);have rf:=π.o XD Pv.o.below;have HKP:=aa (gZ.Ba s.heap vw vu vr vu s.heap.turns XD rf.bJ rf.Ab rf.Al rf.Ab);have hkr:keepR s=Qd++Lib.itoa (gZ.mg s.heap s.heap.turns)++[10]:=rfl;have Θ:=Bw s.heap s.heap.turns;obtain⟨kq,hkq⟩: ∃k,gZ.mg s.heap s.heap.turns=k:=⟨_,rfl⟩;rw[hkq] at hkr Θ;have HKQ:=aa hkq;clear rf hkq;go_wp2_with fail
 refine HKP.o.mono ?_;rintro e QH ⟨he,FO⟩;rw[HKQ.o,iF.o.2.ask] at he;subst he;have XN:=aa (Pv.o.call FO);have hil:=oI Θ;have HIT:=aa (wu kq Θ QH (XP.o _ XN.o.below));obtain⟨s2,Oh⟩: ∃s,Lib.itoa kq=s:=⟨_,rfl⟩;rw[Oh] at hil hkr;have HS2:=aa Oh;have Yd:=aa hkr;have a1:=fun W=>iR (P:=Tryz.prog) (a:=Qd) (b:=s2) rfl (by have:(Qd:ay).length=6:=rfl;omega) W
 have a2:=fun W=>iR (P:=Tryz.prog) (a:=Qd++s2) (b:=[10]) rfl (by rw[cu];have:(Qd:ay).length=6:=rfl;have:([10]:ay).length=1:=rfl;omega) W
 clear FO Θ Oh hkr c9 f9 l9;go_wp2_with fail
 refine HIT.o.mono ?_;rintro e W13 ⟨rfl,BX⟩;rw[HS2.o];have Pt:=aa (XN.o.call BX);clear BX;go_wp2_with fail
 refine(sI W3.heap.size W3.heap.size P5 _ W13 Pt.o.buf (kZ Pt.o.lt) ϗ).mono ?_;rintro e Mo ⟨⟨v14,rfl⟩,hbu,Κ⟩;obtain⟨P6,Ub⟩: ∃P,P5++keepR s=P:=⟨_,rfl⟩;have hs6:P6.length<=1000+400:=by
  rw[<-Ub,Yd.o,cu,cu,cu];have:(Qd:ay).length=6:=rfl;have:([10]:ay).length=1:=rfl;omega
 have Wu:Buf W3.heap.size W3.heap.size P6 Mo:=by
  rw[<-Ub,Yd.o];simpa using hbu
 have Pq:=aa (Pt.o.wrote Wu Κ ϑ);have Wl:ma s=P6++(iH s.cK).flatMap (fP zJ):=by rw[ads.o,Ub]
 have adr:=aa Wl;clear hbu Wu Κ Ub Wl a1 a2;obtain⟨c9,f9,l9⟩:=ae (HC.o Mo Pq.o.below);have HCB:=aa (wh s.cK vh vk vs es Mo (π.o Mo Pq.o.below).cK);go_wp2_with fail
 refine HCB.o.mono ?_;rintro e Pf ⟨Ld,⟨hne,rfl⟩|⟨_,aiQ,akg,rfl,hhv,hcv⟩⟩
 ·exact absurd iF.o.2.ZZ hne
 obtain⟨C,hC⟩: ∃C,iH s.cK=C:=⟨_,rfl⟩;have hC3:C.length<=3:=by rw[<-hC];unfold iH;rw[kJ,List.length_range];exact iF.o.1.aQ
 have HCS:Hid (∀r∈C,jD r.1/\jD r.2):=aa (by rw[<-hC];exact Ey iF.o.2.ZZ);rw[hC] at hcv;have HCE:=aa hC;obtain⟨hO,hCc,rfl⟩:=hhv.open;obtain⟨cO,cC,rfl⟩:=hcv.open;have XM:=aa (af (Pq.o.call Ld) hcv);clear Ld hhv hcv hC c9 f9 l9;go_wp2_with fail
 go_loopw [149] (fun i wr=> ∃k:Nat,k<=C.length/\i= .int .i64 k/\Uf W3 (P6++(C.take k).flatMap (fP zJ)) wr/\aH 2 wr (.slice cO C.length cC) C.length (aB C)) (fun i _=>C.length-(intOf i).toNat)
 case atStart=>exact⟨0,bE _,rfl,by simpa using XM.o.1,XM.o.2⟩
 case round=>
  obtain⟨k,hk,rfl,hR,hL⟩:=hrel;by_cases uM:k<C.length
  ·obtain⟨lb,NP,rfl,hlb,d1,d2⟩:=bD.cell hL uM;obtain⟨x,hx⟩: ∃x,C[k]=x:=⟨_,rfl⟩;rw[hx] at d1 d2;have hsm:=HCS.o C[k] (bZ uM);rw[hx] at hsm;have Qe:P6++(C.take (k+1)).flatMap (fP zJ)=(P6++(C.take k).flatMap (fP zJ))++fP zJ x:=by rw[sM _ uM,hx,jg]
   have IY:(P6++(C.take (k+1)).flatMap (fP zJ)).length<=500000:=by
    have h1:=qd zJ (l:=C.take (k+1)) (fun r hr=>HCS.o r (mi hr));have h2:(C.take (k+1)).length<=10:=by rw[fJ];omega
    rw[cu];have h3:(zJ:ay).length+26<=40:=by decide
    have h4:=Nat.mul_le_mul h3 h2;have h5:=hC3;have h6:(P6).length<=2000:=ϑ;omega
   have hR':=hR.call (ai (aF _ _) (.cells #[iv x.1,iv x.2] 129 (0,0)));have HW:=aa (qj W3.heap.size W3.heap.size _ zJ x _ hR'.buf (kZ hR'.lt) ϑ (XP.o _ hR'.below) hsm.1 hsm.2 (by have h1:=hR.len;have h2:(zJ:ay).length<=10:=ϖ;omega))
   have HX:=aa (af hR' (af hL (af Qe IY)));clear hR hL Qe IY hR' hsm hx;go_wp2_with fail
   refine HW.o.mono ?_;rintro e W6 ⟨⟨v,rfl⟩,hbu,Κ⟩;have Qr:=HX.o.1.wrote hbu Κ (by have:=HX.o.2.2.2;rwa [HX.o.2.2.1] at this);have hL6:=Κ.list (HX.o.2.1.alloc _) (zf C);have H6:=aa (af Qr hL6);clear hbu Κ Qr hL6;go_wp2_with fail
   go_roundw
   case rel=>exact⟨k+1,by omega,by go_num,by rw[HX.o.2.2.1];exact H6.o.1,H6.o.2⟩
   case measure=>simp[intOf];omega
  ·have Y9:k=C.length:=ϑ;subst Y9;rw[List.take_length] at hR;have vG:=aa hR;clear hR hL;obtain⟨P7,Ou⟩: ∃P,P6++C.flatMap (fP zJ)=P:=⟨_,rfl⟩;rw[Ou] at vG;have QO:Hid (Ak ls=P7):=aa (by rw[JA.o,adr.o,HCE.o,Ou]);clear Ou;go_wp2_with fail
   refine(Tryz.Builder_String_any_k W3.heap.size W3.heap.size P7 wr (Lib.IsBuilderF.of vG.o.buf.is) (kZ vG.o.lt)).mono ?_;rintro e W16 ⟨rfl,_,Lc,_⟩;have TV:=aa (H3.o.1.trans ((vG.o.below.trans Lc).mono H3.o.1.size));clear Lc;go_wp2_with fail
   go_returns;exact⟨TV.o,by rw[QO.o,HQ.o];simp⟩):P:=h
theorem _root_.zaD {P:Prop} (h:P:=by
 have H6:=aa (af Qr hL6);clear hbu Κ Qr hL6;go_wp2_with fail
 go_roundw
 case rel=>exact⟨k+1,by omega,by go_num,by rw[HX.o.2.2.1];exact H6.o.1,H6.o.2⟩
 case measure=>simp[intOf];omega):P:=h
theorem _root_.zas {P:Prop} (h:P:=by
 go_wp2_with fail
 go_region
 all_goals go_wp2_with fail
 all_goals go_roundw
 all_goals first
  |exact⟨k+1,by omega,by go_num,jE HX.o⟩
  |(simp[intOf];omega)):P:=h
theorem _root_.za7 {P:Prop} (h:P:=by
 go_wp2_with fail
 go_returns;exact⟨rfl,HR.o⟩):P:=h
theorem _root_.zcq {P:Prop} (h:P:=by
 exact⟨ai (ai (aF _ _) _) _,(aT _ _ _ ϕ).trans (av _ _),dm _ _ _,by simp⟩):P:=h
theorem _root_.zbJ {P:Prop} (h:P:=by
 have hb:(2:Int)^IntKind.u8.bits=256:=by decide
 simp only[IntKind.wrap,hb,show IntKind.u8.signed=false from rfl,Bool.false_and,Bool.false_eq_true,if_false];omega):P:=h
theorem _root_.zb4 {P:Prop} (h:P:=by
 intro l;induction l with
 |nil=>simp
 |cons z l ih=>rw[List.flatMap_cons,cu,hf,ih,List.length_cons,Nat.add_mul];omega):P:=h
section
namespace Go.Proofs.Z.Bk
open Go.RowKit Go.RG Go.SL Go.Shelf gK Go.TB Go.Proofs.Z.xC
theorem nS (l:ay):(dS l).size=l.length:=by simp[ByteArray.size]
abbrev uv (c:UInt8):Value:= .int .u8 (c.toNat:Int)
theorem qR (a b:ay):dS a++dS b=dS (a++b):=by
 apply ByteArray.ext;simp
theorem iR {P:Program} {a b c:ay} (hc:c=a++b) (h:a.length+b.length<=1000000000) (W:World):(Op.stringOp .add (dS a) (dS b)).run P W= .ok (.string (dS c)) W:=by
 have h1:=nS a;have h2:=nS b;subst hc;unfold Op.stringOp;rw[ak (by rw[h1,h2];have:IntKind.i64.max=9223372036854775807:=rfl;omega),qR];simp
theorem xJ: ∀(l:ay) (k:Nat) (c:UInt8),fZ k (l++[c])=fZ k l+(k+l.length)*c.toNat:=by
 intro l;induction l with
 |nil=>intro k c;simp[fZ]
 |cons x l ih=>intro k c;simp only[List.cons_append,fZ,ih,List.length_cons];rw[show k+1+l.length=k+(l.length+1) from by omega];omega
theorem rT: ∀(l:ay) (k:Nat),k+l.length<=62->fZ k l<=15810*l.length:=by
 intro l;induction l with
 |nil=>intro k _;exact ah _
 |cons x l ih=>
  intro k h;simp only[List.length_cons] at h;have h1:=ih (k+1) ϑ;have h2:k*x.toNat<=62*255:=Nat.mul_le_mul ϑ (by have:=x.toNat_lt;omega);simp only[fZ,List.length_cons];omega
theorem Xm (m:Nat) (h:m<=62*255):wrap64 (m:Int)=m:=IntWalk.wrap64_in _ ⟨by omega,by omega⟩
theorem Xl (i S m:Nat) (h1:i<=1000) (h2:S<=948600) (h3:m<=62*255):wrap64 (29*((i:Int)+1)+S+m)=29*((i:Int)+1)+S+m:=IntWalk.wrap64_in _ ⟨by omega,by omega⟩
theorem tV (i:Nat) (GQ:ay) (w:World) (hi:i<=1000) (hl:GQ.length<=60):Ϝ 187 #[iv i,.string (dS GQ)] w (PV (iv (gM i GQ)) w):=by
 have τ:=nS GQ;go_enter Tryz.func187,Tryz.ntmps187;go_wp2_with fail
 go_loopw [5,12] (fun s u wr=> ∃j:Nat,j<=GQ.length/\u= .int .i64 j/\s= .int .i64 ((29*(i+1)+fZ 2 (GQ.take j):Nat):Int)/\Ϙ w wr) (fun _ u _=>GQ.length-(intOf u).toNat)
 case atStart=>exact⟨0,bE _,rfl,by simp[fZ];try omega,aF _ _⟩
 case round=>
  exact zap
abbrev jD (n:Int):Prop:= -1000000000<=n/\n<=1000000000
theorem oI {n:Int} (h:jD n):(Lib.itoa n).length<=11:=by
 unfold Lib.itoa;split
 ·have:=Jj 9 n.natAbs ϑ;simp only[List.length_cons];omega
 ·have:=Jj 9 n.toNat ϑ;omega
theorem wu (n:Int) (h:jD n) (w:World) (hE:Env w):Ϝ 39 #[iv n] w (PV (.string (dS (Lib.itoa n))) w):=by
 refine(Go.Proofs.Tryz.strconv_Itoa n ϑ ϑ w (Qw hE ϰ)).mono ?_;rintro e w2 ⟨rfl,k,os,rfl⟩;exact⟨rfl,Eh w k os⟩
def fP (word:ay) (r:dF):ay:=word++[32]++Lib.itoa r.1++[46,46]++Lib.itoa r.2++[10]
theorem zY {word:ay} {r:dF} (h1:jD r.1) (h2:jD r.2):(fP word r).length<=word.length+26:=by
 have:=oI h1;have:=oI h2;simp only[fP,cu,List.length_cons,List.length_nil];omega
theorem qd (word:ay): ∀{l:List dF},(∀r∈l,jD r.1/\jD r.2)->(l.flatMap (fP word)).length<=(word.length+26)*l.length:=by
 intro l;induction l with
 |nil=>intro _;simp
 |cons r l ih=>
  intro h;have h1:=h r ϕ;have h2:=zY (word:=word) h1.1 h1.2;have h3:=ih (fun x hx=>h x (by simp[hx]));rw[List.flatMap_cons,cu,List.length_cons,Nat.mul_add];omega
theorem qj (B b:Nat) (bs word:ay) (r:dF) (w:World) (h:Buf B b bs w) (hBw:B<=w.heap.size) (hB4:4<=B) (hE:Env w) (h1:jD r.1) (h2:jD r.2) (IY:bs.length+(word.length+26)<=1000000):
 Ϝ 37 #[.string (dS word),iv r.1,iv r.2,.pointer (some ⟨b,0,none⟩)] w fun e w'=>(∃v,e= .returned v)/\Buf B b (bs++fP word r) w'/\Wr B w w':=by
 have HE:Hid (∀W,Ϙ w W->Env W):=aa (fun W hb=>hE.below hb (ah _));have HBu:=aa h;have HS:=aa (af h1 h2);have l1:=oI h1;have l2:=oI h2;obtain⟨s1,hs1⟩: ∃s,Lib.itoa r.1=s:=⟨_,rfl⟩;obtain⟨s2,hs2⟩: ∃s,Lib.itoa r.2=s:=⟨_,rfl⟩;rw[hs1] at l1;rw[hs2] at l2;have a1:=fun W=>iR (P:=Tryz.prog) (a:=word) (b:=[32]) rfl ϗ W;have a2:=fun W=>iR (P:=Tryz.prog) (a:=word++[32]) (b:=s1) rfl ϗ W;have a3:=fun W=>iR (P:=Tryz.prog) (a:=word++[32]++s1) (b:=[46,46]) rfl ϗ W;have a4:=fun W=>iR (P:=Tryz.prog) (a:=word++[32]++s1++[46,46]) (b:=s2) rfl ϗ W;have a5:=fun W=>iR (P:=Tryz.prog) (a:=word++[32]++s1++[46,46]++s2) (b:=[10]) rfl ϗ W;have HW:Hid (fP word r=word++[32]++s1++[46,46]++s2++[10]):=aa (by unfold fP;rw[hs1,hs2]);have H1:=aa hs1;have H2:=aa hs2;obtain⟨lo,hi⟩:=r;simp only at*
 clear h hE h1 h2 hs1 hs2;go_enter Tryz.func37,Tryz.ntmps37;go_wp2_with fail
 refine(wu lo HS.o.1 _ (HE.o _ (aF _ _))).mono ?_;rintro e w1 ⟨rfl,δ⟩;rw[H1.o];have R9:=aa δ;clear δ;go_wp2_with fail
 refine(wu hi HS.o.2 _ (HE.o _ R9.o)).mono ?_;rintro e w2 ⟨rfl,κ⟩;rw[H2.o];have Uy:=aa (aV R9.o κ);have hs2:=Uy.o.size;have e5:dS (word++32::s1)++{data:= #[46,46]}++dS s2++{data:= #[10]}=dS (word++[32]++s1++[46,46]++s2++[10]):=by
  show dS (word++32::s1)++dS [46,46]++dS s2++dS [10]=_;rw[qR,qR,qR];simp
 clear κ;go_wp2_with fail
 refine(sI B b bs _ w2 (HBu.o.below Uy.o) ϑ ϗ).mono ?_;rintro e w3 ⟨⟨v,rfl⟩,h3,h4⟩;have H3:=aa (af h3 h4);clear h3 h4 e5;go_wp2_with fail
 go_end0
 refine⟨⟨_,rfl⟩,?_,(Wr.ax Uy.o ϑ).trans H3.o.2⟩;rw[HW.o];simpa using H3.o.1
theorem uG {α:Type} {l:List α} {i:Nat} {d:α} (h:i<l.length):l.getD i d=l[i]:=by simp[List.getD,h]
theorem Me (n:Nat) (ls:List (List Int)): ∀k,k<=ls.length->k≠0-> ∀i,i<n->
 (∀l∈ls.take k,((bB n ls k).getD i (0,0)).1<=l.getD i 0/\l.getD i 0<=((bB n ls k).getD i (0,0)).2)/\
 (∃l∈ls.take k,((bB n ls k).getD i (0,0)).1=l.getD i 0)/\(∃l∈ls.take k,((bB n ls k).getD i (0,0)).2=l.getD i 0):=by
 intro k;induction k with
 |zero=>intro _ h;exact absurd rfl h
 |succ k ih=>
  intro hk _ i hi;have Χ:k<ls.length:=ϑ;have ht:ls.take (k+1)=ls.take k++[ls[k]]:=eG Χ;have hg:ls.getD k []=ls[k]:=uG Χ;by_cases h0:k=0
  ·subst h0;have e:(bB n ls 1).getD i (0,0)=((ls[0]).getD i 0,(ls[0]).getD i 0):=by
    simp only[bB,dV,hg];rw[uG ϗ];simp
   rw[e];simp only[Nat.zero_add] at ht⊢;rw[ht];exact⟨fun l hl=>by obtain rfl:=dX.1 (by simpa using hl);exact⟨Int.le_refl _,Int.le_refl _⟩,⟨ls[0],by simp,rfl⟩,⟨ls[0],by simp,rfl⟩⟩
  ·obtain⟨h1,⟨l2,hl2,h2⟩,⟨l3,hl3,h3⟩⟩:=ih ϑ h0 i hi;have IY:=nz n ls k h0;have e:(bB n ls (k+1)).getD i (0,0)=wid ((bB n ls k).getD i (0,0)) ((ls[k]).getD i 0):=by
    simp only[bB,dV,hg,h0,if_false];rw[uG ϗ];simp[hi]
   rw[e,ht];generalize (bB n ls k).getD i (0,0)=r at*
   simp only[wid];refine⟨fun l hl=>?_,?_,?_⟩
   ·rcases gq.1 hl with hl|hl
    ·have:=h1 l hl;omega
    ·obtain rfl:=dX.1 hl;omega
   ·by_cases hc:r.1<=(ls[k]).getD i 0
    ·exact⟨l2,mq _ hl2,by omega⟩
    ·exact⟨ls[k],qX _ (dX.2 rfl),by omega⟩
   ·by_cases hc:(ls[k]).getD i 0<=r.2
    ·exact⟨l3,mq _ hl3,by omega⟩
    ·exact⟨ls[k],qX _ (dX.2 rfl),by omega⟩
theorem Mf {n:Nat} {ls:List (List Int)} (h:ls≠[]):(pY n ls).length=n:=nz n ls _ (by cases ls <;>simp_all)
theorem O7 {n:Nat} {ls:List (List Int)} (h:ls≠[]) {i:Nat} (hi:i<n):
 (∀l∈ls,((pY n ls).getD i (0,0)).1<=l.getD i 0/\l.getD i 0<=((pY n ls).getD i (0,0)).2)/\
 (∃l∈ls,((pY n ls).getD i (0,0)).1=l.getD i 0)/\(∃l∈ls,((pY n ls).getD i (0,0)).2=l.getD i 0):=by
 have:=Me n ls ls.length (ah _) (by cases ls <;>simp_all) i hi;rwa [List.take_length] at this
structure QI (s:iE):Prop where
 field:eO s.led.field true=0
 led:gG s.led=0
 heap:tQ s.heap=0
 ask:gZ.iw s.heap s.heap.turns=0
 keeps:gZ.mg s.heap s.heap.turns≠2
 cK:nQ s.cK=0
 ZZ:gV s.cK true=0
theorem Q9 {s:iE}:aX s=0↔QI s:=by
 unfold aX;constructor
 ·intro h;split at h;· omega
  split at h;· omega
  split at h;· omega
  split at h;· omega
  split at h;· omega
  split at h;· omega
  split at h;· omega
  rename_i a b c d e f g;exact⟨by simpa using a,by simpa using b,by simpa using c,by simpa using d,e,by simpa using f,by simpa using g⟩
 ·rintro⟨a,b,c,d,e,f,g⟩;simp[a,b,c,d,e,f,g]
theorem Js:aX bW=0:=by decide+kernel
theorem YQ (ls:List ay):eB (dK aX bW ls).1/\QI (dK aX bW ls).1:=⟨wU _ uN,Q9.1 (Kn _ Js)⟩
theorem U4 {ls:List ay} (h:eD ls=0):eB (fV ls)/\QI (fV ls):=by
 unfold fV;rw[aG h];exact YQ ls
theorem OH {f:bL} (h:eO f true=0): ∀r∈zD f,jD r.1/\jD r.2:=by
 intro r hr;have hf:iZ f=0:=by
  unfold eO at h;split at h
  ·omega
  ·rename_i hq;simpa using hq
 unfold zD at hr;obtain⟨i,_,rfl⟩:=gW.1 hr;have:=Iz (gu hf) (bN f []) (i:Int) _ (ah _);exact⟨⟨by omega,by omega⟩,by omega,by omega⟩
theorem KH {l:aO} (h:gG l=0):(lI l).length<=5/\ ∀i∈lI l,0<=i/\i<=4:=by
 obtain⟨hS,hp⟩:=nu h;obtain⟨_,h2,_⟩:=KI hp;have hm:=hS.many;refine⟨by have:=h2.len;omega,fun i hi=>?_⟩;have:=((IZ _ _).1 h2).2 i hi;omega
theorem NC {l:aO} (h:fI l true=0): ∀r∈zL mH l (eZ l),jD r.1/\jD r.2:=by
 intro r hr;obtain⟨hS,hp⟩:=Mk h;obtain⟨i,hi,rfl⟩:=lK hr;have hl:=QB hp mH;have aeG:=Xp hp mH (i:=i) ϑ;rw[uG hi] at aeG;have key: ∀d∈eZ l,iI l [] d=true-> -2000<=(mH (d.getD i 0) ((jB l [] d).getD i (0,0))).1/\(mH (d.getD i 0) ((jB l [] d).getD i (0,0))).2<=2000/\ -2000<=(mH (d.getD i 0) ((jB l [] d).getD i (0,0))).2/\(mH (d.getD i 0) ((jB l [] d).getD i (0,0))).1<=2000:=fun d hd hc=>by
  have hb:=Kq hS hd hc (i:=i) ϑ;obtain⟨t,ht,rfl⟩:=GL.1 hd;have hF:=gu hS.field;have hw:=hF.uU;have hd2:=Er (rate:=l.rate) (by have:=hS.rate;omega) hS.rate.2 t (YJ hS ht) i ϑ;unfold mH;simp only;omega
 obtain⟨⟨⟨y,⟨d,hd,hc,rfl⟩,hy⟩,_⟩,⟨⟨z,⟨e,he,hce,rfl⟩,hz⟩,_⟩⟩:=aeG;have k1:=key d hd hc;have k2:=key e he hce;exact⟨⟨by omega,by omega⟩,by omega,by omega⟩
theorem D7 {s:iE} (hG:eB s) (hS:QI s):(gZ.iV s.heap s.heap.turns).length=5/\jD ((gZ.iV s.heap s.heap.turns).getD 4 (0,0)).1/\jD ((gZ.iV s.heap s.heap.turns).getD 4 (0,0)).2:=by
 have hl:=hG.heap.1;unfold gZ.iV;rw[aG hS.ask,hl];have hne:iL s.heap s.heap.turns≠[]:=by
  have ha:=hS.ask;unfold gZ.iw at ha;split at ha;· omega
  split at ha;· omega
  split at ha;· omega
  rename_i hq;exact Oz (by cases hq2:dH s.heap [] <;>simp_all)
 have hb: ∀y∈iL s.heap s.heap.turns,0<=y.getD 4 0/\y.getD 4 0<=900:=fun y hy=>by
  obtain⟨t,ht,rfl⟩:=(Dh _ _ _).1 hy;have hSo:=CO hS.heap;obtain⟨a1,a2,a3⟩:=gZ.yK hSo ht;have hw:=hG.MV;have hbd:=K9 s.heap.turns hSo.J5 hSo.J4 hSo.LC hSo.LB a2.1 a2.2 a3 ϑ;by_cases h4:4<(jZ s.heap t s.heap.turns).length
  ·rw[uG h4];exact hbd _ (bZ _)
  ·rw[fK,List.getElem?_eq_none ϑ];exact⟨by decide,by decide⟩
 obtain⟨_,⟨y,hy,e1⟩,⟨z,hz,e2⟩⟩:=O7 hne (n:=5) (i:=4) ϑ;have b1:=hb y hy;have b2:=hb z hz;refine⟨Mf hne,?_,?_⟩
 ·show jD ((pY 5 (iL s.heap s.heap.turns)).getD 4 (0,0)).1;rw[e1];exact⟨by omega,by omega⟩
 ·show jD ((pY 5 (iL s.heap s.heap.turns)).getD 4 (0,0)).2;rw[e2];exact⟨by omega,by omega⟩
theorem Bw (h:bS) (t:List Int):jD (gZ.mg h t):=by
 unfold gZ.mg;split
 ·exact⟨by decide,by decide⟩
 ·split
  ·exact⟨by decide,by decide⟩
  ·split <;>exact⟨by decide,by decide⟩
theorem Ey {c:bF} (h:gV c true=0): ∀r∈iH c,jD r.1/\jD r.2:=by
 intro r hr;obtain⟨hS,h0,_⟩:=ER h;unfold iH at hr;obtain⟨i,hi,rfl⟩:=gW.1 hr;have hi':=jQ.1 hi;have:=PX hS kR h0 (i:=c.heaps.length+i) (by unfold lD;omega) _ (ah _);unfold yN;exact⟨⟨by omega,by omega⟩,by omega,by omega⟩
abbrev OJ:ay:=[100,111,110,101]
abbrev lvW:ay:=[108,101,97,118,101]
abbrev MK:ay:=[111,119,101,100]
abbrev Qf:ay:=[104,101,97,116]
abbrev Qd:ay:=[107,101,101,112,115,32]
abbrev zJ:ay:=[99,97,115,107]
def UO (i:Int):ay:=32::Lib.itoa i
theorem PU: ∀l:List Int,(∀i∈l,0<=i/\i<=4)->(l.flatMap UO).length<=12*l.length:=by
 intro l;induction l with
 |nil=>intro _;simp
 |cons a l ih=>
  intro h;have h2:=ih (fun i hi=>h i (by simp[hi]));have h3:=h a ϕ;have h4:=oI (n:=a) ⟨by omega,by omega⟩;have h5:(UO a).length=(Lib.itoa a).length+1:=rfl;rw[List.flatMap_cons,cu,List.length_cons];omega
def CY (s:iE):ay:=if lI s.led=[] then(zL mH s.led (eZ s.led)).flatMap (fP MK) else[]
def D8 (s:iE):ay:=fP Qf ((gZ.iV s.heap s.heap.turns).getD 4 (0,0))
def keepR (s:iE):ay:=Qd++Lib.itoa (gZ.mg s.heap s.heap.turns)++[10]
def ma (s:iE):ay:=
 (zD s.led.field).flatMap (fP OJ)++lvW++(lI s.led).flatMap UO++[10]++CY s++D8 s++keepR s++(iH s.cK).flatMap (fP zJ)
def Ak (ls:List ay):ay:=if eD ls=0 then ma (fV ls) else[]
def akr (ls:List ay) (w:World) (e:Ending) (w':World):Prop:=Ϙ w w'/\e= .returned (.tuple #[.string (dS (Ak ls)),iv (eD ls)])
structure Uf (W3:World) (bs:ay) (W:World):Prop where
 below:Ϙ W3 W
 buf:Buf W3.heap.size W3.heap.size bs W
 lt:W3.heap.size<W.heap.size
 len:bs.length<=500000
theorem Uf.call {W3:World} {bs:ay} {W W':World} (h:Uf W3 bs W) (hb:Ϙ W W'):Uf W3 bs W':=
 ⟨h.below.trans (hb.mono (by have:=h.lt;omega)),h.buf.below hb,eF h.lt hb.size,h.len⟩
theorem Uf.wrote {W3:World} {bs bs':ay} {W W':World} (h:Uf W3 bs W) (hb:Buf W3.heap.size W3.heap.size bs' W') (hw:Wr W3.heap.size W W') (hl:bs'.length<=500000):Uf W3 bs' W':=
 ⟨h.below.trans hw.below,hb,eF h.lt hw.size,hl⟩
theorem sM {α:Type} {l:List α} (f:α->ay) {k:Nat} (hk:k<l.length):(l.take (k+1)).flatMap f=(l.take k).flatMap f++f l[k]:=by
 rw[eG hk,sw,List.flatMap_cons,List.flatMap_nil,List.append_nil]
theorem yF (lv:Value) (ls:List ay) (w:World) (hls:iK w lv ls) (hE:Env w) (hln: ∀l∈ls,l.length<=1000000):Ϝ 20 #[lv] w (akr ls w):=by
 have vE:=aa hls;have HE:Hid (∀W,Ϙ w W->Env W):=aa (fun W hb=>hE.below hb (ah _));have TT:=aa hln;have h4:=hE.size;clear hls hE hln;obtain⟨q,hq⟩: ∃q,eD ls=q:=⟨_,rfl⟩;have HQ:=aa hq;go_enter Tryz.func20,Tryz.ntmps20;go_wp2_with fail
 refine(qZ lv ls w (vE.o) (HE.o _ (aF _ _)) (TT.o) [] ϕ).mono ?_;rintro e W2 ⟨κ,V,es,cv,he,hX,hC⟩;rw[hq] at he;subst he;obtain⟨co,cc,rfl⟩:=aM hC;have hs2:=κ.size;have hS2:=hX W2 (Ext.refl _ _);rename_i hK;refine hK _ _ ?_;refine aC rfl _ (by go_simp;first|rfl|exact⟨rfl,rfl⟩) ?_;simp only[zp];refine aC rfl _ (by go_simp;first|rfl|exact⟨rfl,rfl⟩) ?_;simp only[zp];refine aC rfl _ (by go_simp;first|rfl|exact⟨rfl,rfl⟩) ?_;simp only[zp];refine aC rfl _ (by go_simp;first|rfl|exact⟨rfl,rfl⟩) ?_;simp only[zp];obtain⟨g,hg⟩: ∃g,g=W2.heap.size:=⟨_,rfl⟩;refine aC rfl (w':=W2.alloc (.cells df 62 (0,0))) (.pointer (some ⟨g,0,none⟩)) (by rw[hg];go_simp;try rfl) ?_;simp only[zp];have hz2:(W2.alloc (.cells df 62 (0,0))).heap[g]? =some (.cells df 62 (0,0)):=by rw[hg];exact av _ _
 refine wpList_store_row rfl _ _ _ rfl g (bG (fV ls) V) ϰ ϰ _ df hz2 ϰ ϰ (by rw[jk];exact fun u hu=>fC hS2 u (jS.2 hu)) ?_
 simp only[zp];refine gm fun W3 φ=>?_;obtain⟨uQ,jL⟩: ∃uQ,uQ=W2.alloc (.cells df 62 (0,0)):=⟨_,rfl⟩;rw[<-jL] at φ hz2;have kX:Ext [g] uQ W3:=by rw[φ];exact dz
 have hs3:=kX.size;have zm:uQ.heap.size=g+1:=by rw[jL,hg];simp
 have kN:Ϙ W2 W3:=fu (by rw[jL];exact ai (aF _ _) _) kX ϑ
 have hk3:W3.heap[g]? =some (.cells (bG (fV ls) V) 62 (0,0)):=by rw[φ];exact setRow_heap _ _ _ _ _ _ hz2
 have Γ:=aV κ kN;have hg3:w.heap.size<=g:=ϑ;have hgs:g<W3.heap.size:=ϑ;have H3:=aa (af Γ (af hk3 (hS2.below kN (ah _))));clear hX hC φ jL kX kN κ hS2 hz2 hK hs2 hs3 zm hg Γ;clear hq;obtain⟨vt,vn,vw,vu,vr,vh,vk,vs⟩:=V;obtain⟨c3,f3,l3⟩:=ae hk3;by_cases hz:q=0
 rotate_left
 ·go_wp2_with fail
  go_returns;have hqq:eD ls≠0:=by rw[HQ.o];exact hz
  have h1:Ak ls=[]:=by unfold Ak;rw[ak hqq]
  exact⟨H3.o.1,by rw[h1,HQ.o];simp⟩
 subst hz;have iF:=aa (U4 HQ.o);have hrb:Ak ls=ma (fV ls):=by unfold Ak;rw[aG HQ.o]
 have JA:=aa hrb;clear hrb;generalize fV ls=s at*
 go_upto_region 5 with(fail)
 refine bU fun W4 zu=>?_;have hr4:Uf W3 [] W4:=by
  rw[zu];exact⟨(aF _ _).alloc (ah _) _,.inl ⟨ah _,.slice none 0 0,av _ _,⟨rfl,.inl ⟨rfl,rfl⟩⟩,by simp[Value.ownBlock],fun q hq=>by cases hq⟩,by simp,by simp⟩
 have HR4:=aa hr4;have HC:Hid (∀W,Ϙ W3 W->W.heap[g]? =some (.cells (bG s ⟨vt,vn,vw,vu,vr,vh,vk,vs⟩) 62 (0,0))):=aa (fun W hb=>(hb.block g hgs).trans hk3);have π:Hid (∀W,Ϙ W3 W->jT W s ⟨vt,vn,vw,vu,vr,vh,vk,vs⟩ es):=aa (fun W hb=>H3.o.2.2.below hb (ah _));have XP:Hid (∀W,Ϙ W3 W->Env W):=aa (fun W hb=>HE.o W (aV H3.o.1 hb));clear zu hr4 hk3 c3 f3 l3;obtain⟨c4,f4,l4⟩:=ae (HC.o W4 HR4.o.below);go_wp2_with fail
 have HD:=aa (Aa s.led.field vt W4 (π.o W4 HR4.o.below).sG);refine HD.o.mono ?_;rintro e W5 ⟨hb5,⟨hne,rfl⟩|⟨_,dv,rfl,hdv⟩⟩
 ·exact absurd iF.o.2.field hne
 obtain⟨D,hD⟩: ∃D,zD s.led.field=D:=⟨_,rfl⟩;have hDl:D.length=2:=by rw[<-hD,SS,iF.o.1.aJ];rfl
 have HDS:Hid (∀r∈D,jD r.1/\jD r.2):=aa (by rw[<-hD];exact OH iF.o.2.field);rw[hD] at hdv;have HDE:=aa hD;obtain⟨dO,dC,rfl⟩:=hdv.open;have HR5:=aa (af (HR4.o.call hb5) hdv);clear hb5 hdv hD c4 f4 l4;go_wp2_with fail
 go_loopw [49] (fun i wr=> ∃k:Nat,k<=D.length/\i= .int .i64 k/\Uf W3 (([]:ay)++(D.take k).flatMap (fP OJ)) wr/\aH 2 wr (.slice dO D.length dC) D.length (aB D)) (fun i _=>D.length-(intOf i).toNat)
 case atStart=>exact⟨0,bE _,rfl,by simpa using HR5.o.1,HR5.o.2⟩
 case round=>
  obtain⟨k,hk,rfl,hR,hL⟩:=hrel;by_cases uM:k<D.length
  ·obtain⟨lb,NP,rfl,hlb,d1,d2⟩:=bD.cell hL uM;obtain⟨x,hx⟩: ∃x,D[k]=x:=⟨_,rfl⟩;rw[hx] at d1 d2;have hsm:=HDS.o D[k] (bZ uM);rw[hx] at hsm;have Qe:([]:ay)++(D.take (k+1)).flatMap (fP OJ)=(([]:ay)++(D.take k).flatMap (fP OJ))++fP OJ x:=by rw[sM _ uM,hx,jg]
   have IY:(([]:ay)++(D.take (k+1)).flatMap (fP OJ)).length<=500000:=by
    have h1:=qd OJ (l:=D.take (k+1)) (fun r hr=>HDS.o r (mi hr));have h2:(D.take (k+1)).length<=10:=by rw[fJ];omega
    rw[cu];have h3:(OJ:ay).length+26<=40:=by decide
    have h4:=Nat.mul_le_mul h3 h2;have h5:=hDl;have h6:(([]:ay)).length<=2000:=ϕ;omega
   have hR':=hR.call (ai (aF _ _) (.cells #[iv x.1,iv x.2] 42 (0,0)));have HW:=aa (qj W3.heap.size W3.heap.size _ OJ x _ hR'.buf (kZ hR'.lt) ϑ (XP.o _ hR'.below) hsm.1 hsm.2 (by have h1:=hR.len;have h2:(OJ:ay).length<=10:=ϖ;omega))
   have HX:=aa (af hR' (af hL (af Qe IY)));clear hR hL Qe IY hR' hsm hx;go_wp2_with fail
   refine HW.o.mono ?_;rintro e W6 ⟨⟨v,rfl⟩,hbu,Κ⟩;have Qr:=HX.o.1.wrote hbu Κ (by have:=HX.o.2.2.2;rwa [HX.o.2.2.1] at this);have hL6:=Κ.list (HX.o.2.1.alloc _) (zf D);exact zaD
  ·have Y9:k=D.length:=ϑ;subst Y9;rw[List.take_length] at hR;have vG:=aa hR;clear hR hL;obtain⟨c6,f6,l6⟩:=ae (HC.o wr vG.o.below);have hs1:(([]:ay)++D.flatMap (fP OJ)).length<=1000:=by
    have h1:=qd OJ HDS.o;have h3:(OJ:ay).length+26<=40:=by decide
    have h4:=Nat.mul_le_mul h3 (show D.length<=2 by omega);simp only[List.nil_append];omega
   rw[List.nil_append] at vG hs1;obtain⟨P1,hP1⟩: ∃P,D.flatMap (fP OJ)=P:=⟨_,rfl⟩;rw[hP1] at vG hs1;have Uh:=aa hP1;clear hP1;go_wp2_with fail
   refine(sI W3.heap.size W3.heap.size P1 lvW wr vG.o.buf (kZ vG.o.lt) (by have:(lvW:ay).length=5:=rfl;omega)).mono ?_
   rintro e W7 ⟨⟨v7,rfl⟩,uY,hw7⟩;have HR7:=aa (vG.o.wrote uY hw7 (by rw[cu];have:(lvW:ay).length=5:=rfl;omega))
   clear uY hw7 c6 f6 l6;obtain⟨c6,f6,l6⟩:=ae (HC.o W7 HR7.o.below);go_wp2_with fail
   obtain⟨P2,hP2⟩: ∃P,P1++lvW=P:=⟨_,rfl⟩;have hs2:P2.length<=1005:=by rw[<-hP2,cu];have:(lvW:ay).length=5:=rfl;omega
   rw[hP2] at HR7;have HP2:=aa hP2;clear hP2;have HLV:=aa (TL s.led vt vn W7 (π.o W7 HR7.o.below).sG (π.o W7 HR7.o.below).Ky);refine HLV.o.mono ?_;rintro e W8 ⟨tN,⟨hne,rfl⟩|⟨_,v8,rfl,hv8⟩⟩
   ·exact absurd iF.o.2.led hne
   obtain⟨L,hL⟩: ∃L,lI s.led=L:=⟨_,rfl⟩;have hLs:=KH iF.o.2.led;rw[hL] at hv8 hLs;have hL5:=hLs.1;have adl:=aa hLs.2;have HLE:=aa hL;obtain⟨lO,lC,rfl⟩:=hv8.open;have HR8:=aa (af (HR7.o.call tN) hv8);clear tN hv8 hL hLs c6 f6 l6;go_wp2_with fail
   go_loopw [69] (fun i wr=> ∃k:Nat,k<=L.length/\i= .int .i64 k/\Uf W3 (P2++(L.take k).flatMap UO) wr/\aH 1 wr (.slice lO L.length lC) L.length (ag L)) (fun i _=>L.length-(intOf i).toNat)
   case atStart=>exact⟨0,bE _,rfl,by simpa using HR8.o.1,HR8.o.2⟩
   case round=>
    obtain⟨k,hk,rfl,hR,hLL⟩:=hrel;by_cases uM:k<L.length
    ·obtain⟨lb,NP,rfl,hlb,d1⟩:=aL.cell hLL uM;obtain⟨x,hx⟩: ∃x,L[k]=x:=⟨_,rfl⟩;rw[hx] at d1;have hsm:=adl.o L[k] (bZ uM);rw[hx] at hsm;have hxs:jD x:=⟨by omega,by omega⟩;have hil:=oI hxs;obtain⟨s1,Zh⟩: ∃s,Lib.itoa x=s:=⟨_,rfl⟩;rw[Zh] at hil;have Qe:P2++(L.take (k+1)).flatMap UO=(P2++(L.take k).flatMap UO)++(32::s1):=by
      rw[sM _ uM,hx,jg];unfold UO;rw[Zh]
     have IY:(P2++(L.take (k+1)).flatMap UO).length<=500000:=by
      have h2:=PU (L.take (k+1)) (fun i hi=>adl.o i (mi hi));have h3:(L.take (k+1)).length<=5:=by rw[fJ];omega
      rw[cu];omega
     have a1:=fun W=>iR (P:=Tryz.prog) (a:=[32]) (b:=s1) rfl ϗ W;have HX:=aa (af hR (af hLL (af Qe IY)));have HIT:=aa (wu x hxs wr (XP.o _ hR.below));have HSX:=aa Zh;clear hR hLL Qe IY hsm hx Zh hxs;go_wp2_with fail
     refine HIT.o.mono ?_;rintro e W9 ⟨rfl,uF⟩;rw[HSX.o];have TQ:=aa (HX.o.1.call uF);have HL9:=aa (HX.o.2.1.below uF (ah _));clear uF;go_wp2_with fail
     refine(sI W3.heap.size W3.heap.size _ (32::s1) W9 TQ.o.buf (kZ TQ.o.lt) (by have:=TQ.o.len;have h9:(32::s1).length=s1.length+1:=rfl;omega)).mono ?_
     rintro e W6 ⟨⟨v,rfl⟩,hbu,Κ⟩;have Qr:=TQ.o.wrote hbu Κ (by have:=HX.o.2.2.2;rwa [HX.o.2.2.1] at this);have hL6:=Κ.list HL9.o (Za L);exact zaD
    ·have Y9:k=L.length:=ϑ;subst Y9;rw[List.take_length] at hR;have vG:=aa hR;clear hR hLL;obtain⟨P3,hP3⟩: ∃P,P2++L.flatMap UO=P:=⟨_,rfl⟩;have hs3:P3.length<=1065:=by
      rw[<-hP3,cu];have:=PU L adl.o;omega
     rw[hP3] at vG;have HP3:=aa hP3;clear hP3;go_wp2_with fail
     refine(sI W3.heap.size W3.heap.size P3 [10] wr vG.o.buf (kZ vG.o.lt) (by have:([10]:ay).length=1:=rfl;omega)).mono ?_
     rintro e W8' ⟨⟨v,rfl⟩,hbu,Κ⟩;obtain⟨P4,hP4⟩: ∃P,P3++[10]=P:=⟨_,rfl⟩;have hs4:P4.length<=1066:=by rw[<-hP4,cu];have:([10]:ay).length=1:=rfl;omega
     rw[hP4] at hbu;have TR:=aa (vG.o.wrote hbu Κ ϑ);have heq:ma s=P4++CY s++D8 s++keepR s++(iH s.cK).flatMap (fP zJ):=by
      unfold ma;rw[HDE.o,HLE.o,Uh.o,HP2.o,HP3.o,hP4]
     have adt:=aa heq;clear hbu Κ hP4 heq;by_cases hL0:L.length=0
     ·have hLI:((L.length:Int)==0)=true:=by simp[hL0]
      have hL':L=[]:=jl hL0;have ha:=EP iF.o.2.led (by rw[HLE.o];exact hL');have HA:=aa ha;have ho:CY s=(zL mH s.led (eZ s.led)).flatMap (fP MK):=by
       unfold CY;rw[aG (by rw[HLE.o];exact hL')]
      obtain⟨O,hO⟩: ∃O,zL mH s.led (eZ s.led)=O:=⟨_,rfl⟩;have hO2:O.length=2:=by rw[<-hO,QB (Mk ha).2 mH,iF.o.1.aJ];rfl
      have HOS:Hid (∀r∈O,jD r.1/\jD r.2):=aa (by rw[<-hO];exact NC ha);rw[hO] at ho;have HOE:=aa hO;have akM:=aa ho;have Sg:=π.o W8' TR.o.below;have HOW:=aa (Mv s.led vt vn W8' Sg.sG Sg.Ky);obtain⟨c9,f9,l9⟩:=ae (HC.o W8' TR.o.below);clear Sg hL' ha ho hO;go_wp2_with fail
      refine HOW.o.mono ?_;rintro e W7' ⟨hb,⟨hne,rfl⟩|⟨_,ov,rfl,hov⟩⟩
      ·exact absurd HA.o hne
      rw[HOE.o] at hov;obtain⟨oO,oC,rfl⟩:=hov.open;have adf:=aa (af (TR.o.call hb) hov);clear hb hov c9 f9 l9;go_wp2_with fail
      go_loopw [90] (fun i wr=> ∃k:Nat,k<=O.length/\i= .int .i64 k/\Uf W3 (P4++(O.take k).flatMap (fP MK)) wr/\aH 2 wr (.slice oO O.length oC) O.length (aB O)) (fun i _=>O.length-(intOf i).toNat)
      case atStart=>exact⟨0,bE _,rfl,by simpa using adf.o.1,adf.o.2⟩
      case round=>
       obtain⟨k,hk,rfl,hR,hL⟩:=hrel;by_cases uM:k<O.length
       ·obtain⟨lb,NP,rfl,hlb,d1,d2⟩:=bD.cell hL uM;obtain⟨x,hx⟩: ∃x,O[k]=x:=⟨_,rfl⟩;rw[hx] at d1 d2;have hsm:=HOS.o O[k] (bZ uM);rw[hx] at hsm;have Qe:P4++(O.take (k+1)).flatMap (fP MK)=(P4++(O.take k).flatMap (fP MK))++fP MK x:=by rw[sM _ uM,hx,jg]
        have IY:(P4++(O.take (k+1)).flatMap (fP MK)).length<=500000:=by
         have h1:=qd MK (l:=O.take (k+1)) (fun r hr=>HOS.o r (mi hr));have h2:(O.take (k+1)).length<=10:=by rw[fJ];omega
         rw[cu];have h3:(MK:ay).length+26<=40:=by decide
         have h4:=Nat.mul_le_mul h3 h2;have h5:=hO2;have h6:(P4).length<=2000:=ϑ;omega
        have hR':=hR.call (ai (aF _ _) (.cells #[iv x.1,iv x.2] 46 (0,0)));have HW:=aa (qj W3.heap.size W3.heap.size _ MK x _ hR'.buf (kZ hR'.lt) ϑ (XP.o _ hR'.below) hsm.1 hsm.2 (by have h1:=hR.len;have h2:(MK:ay).length<=10:=ϖ;omega))
        have HX:=aa (af hR' (af hL (af Qe IY)));clear hR hL Qe IY hR' hsm hx;go_wp2_with fail
        refine HW.o.mono ?_;rintro e W6 ⟨⟨v,rfl⟩,hbu,Κ⟩;have Qr:=HX.o.1.wrote hbu Κ (by have:=HX.o.2.2.2;rwa [HX.o.2.2.1] at this);have hL6:=Κ.list (HX.o.2.1.alloc _) (zf O);exact zaD
       ·have Y9:k=O.length:=ϑ;subst Y9;rw[List.take_length] at hR;have vG:=aa hR;clear hR hL;have Zg:(P4++O.flatMap (fP MK)).length<=1300:=by
         have h1:=qd MK HOS.o;have h3:(MK:ay).length+26<=40:=by decide
         have h4:=Nat.mul_le_mul h3 (show O.length<=2 by omega);rw[cu];omega
        obtain⟨P4n,acx⟩: ∃P,P4++O.flatMap (fP MK)=P:=⟨_,rfl⟩;have HEQ:Hid (ma s=P4n++D8 s++keepR s++(iH s.cK).flatMap (fP zJ)):=aa (by rw[adt.o,akM.o,acx]);rw[acx] at vG Zg;clear acx hs4 adt TR adf;rename_i P4o;obtain⟨W9,Jb⟩: ∃W,W=wr:=⟨_,rfl⟩;rw[<-Jb] at vG;rw[<-Jb];have TQ:=vG;clear Jb;obtain⟨P4,age⟩: ∃P,P=P4n:=⟨_,rfl⟩;rw[<-age] at vG Zg HEQ TQ;clear age;exact zab
     ·have hLI:((L.length:Int)==0)=false:=by simp;exact fun h=>hL0 (by simp[h])
      have ho:CY s=[]:=by
       unfold CY;rw[HLE.o,ak (fun h=>hL0 (by rw[h];rfl))]
      have HEQ:Hid (ma s=P4++D8 s++keepR s++(iH s.cK).flatMap (fP zJ)):=aa (by rw[adt.o,ho,List.append_nil]);clear ho hL0;have Zg:P4.length<=1300:=ϑ;obtain⟨W9,Jb⟩: ∃W,W=W8':=⟨_,rfl⟩;rw[<-Jb] at TR;rw[<-Jb];have TQ:=TR;clear Jb;exact zab
def dgF:Nat->Nat->ay
 |0,_=>[]
 |f+1,n=>if n<10 then[xz n] else dgF f (n/10)++[xz (n%10)]
theorem Xd: ∀(f n:Nat),n<f->Lib.decDigits n=dgF f n:=by
 intro f;induction f with
 |zero=>intro n h;omega
 |succ f ih=>
  intro n h;unfold dgF;by_cases hn:n<10
  ·rw[jq hn,aG hn]
  ·rw[uJ hn,ak hn,ih (n/10) ϑ]
def GV (n:Int):ay:=if n<0 then 45::dgF (n.natAbs+1) n.natAbs else dgF (n.toNat+1) n.toNat
theorem zh (n:Int):Lib.itoa n=GV n:=by
 unfold Lib.itoa GV;rw[Xd _ _ (Nat.lt_succ_self _),Xd _ _ (Nat.lt_succ_self _)]
def F9 (word:ay) (r:dF):ay:=word++[32]++GV r.1++[46,46]++GV r.2++[10]
theorem Ur (word:ay):fP word=F9 word:=by
 funext r;unfold fP F9;rw[zh,zh]
def spF (i:Int):ay:=32::GV i
def yO (s:iE):ay:=
 (zD s.led.field).flatMap (F9 OJ)++lvW++(lI s.led).flatMap spF++[10]++(if lI s.led=[] then(zL mH s.led (eZ s.led)).flatMap (F9 MK) else[])
   ++F9 Qf ((gZ.iV s.heap s.heap.turns).getD 4 (0,0))++(Qd++GV (gZ.mg s.heap s.heap.turns)++[10])++(iH s.cK).flatMap (F9 zJ)
theorem abj:UO=spF:=by
 funext i;unfold UO spF;rw[zh]
theorem xW (s:iE):ma s=yO s:=by
 unfold ma yO CY D8 keepR;simp only[Ur,zh,abj]
def fO:List ay:=[[114,111,119],
 [108,101,102,116,32,48,32,48],
 [116,97,108,108,121,32,48,32,48,32,50,32,50,32,51],
 [116,97,108,108,121,32,49,32,50,32,51,32,49,32,50],
 [98,111,120,32,50,48,32,50,50],
 [110,111,116,101,32,48,32,49,48,32,49,53],
 [116,117,114,110,32,51],
 [119,101,116,32,49,32,56,32,57],
 [105,114,111,110,32,49,32,52,52,32,48],
 [99,97,115,107,32,48,32,49,48],
 [104,101,97,112,32,54,48,32,54,51],
 [102,105,108,108,32,48,32,49,32,49,48],
 [116,114,121,32,48,32,53,49,32,53,50]]
def pQ:List ay:=[[119,97,115,104,32,49,32,52,32,53],
 [116,117,114,110,32,51],
 [114,97,116,101,32,48,53]]
def oW:List ay:=[[114,111,119],
 [114,111,119],
 [108,101,102,116,32,48,32,54],
 [116,97,108,108,121,32,50,32,48,32,48,32,48,32,48],
 [116,97,108,108,121,32,48,32,50,32,49,32,48,32,48],
 [119,97,115,104,32,50,32,48,32,48],
 [119,97,115,104,32,49,32,52,32,53],
 [98,111,120,32,52,49,32,53,48],
 [118,111,105,100,32,49],
 [116,117,114,110,32,51],
 [117,110,116,117,114,110,32,52],
 [119,101,116,32,50,32,48,32,51],
 [104,101,97,112,32,54,48,32,55,48],
 [102,105,108,108,32,48,32,48,32,51,49],
 [99,97,115,107,32,50,32,49],
 [115,116,114,111,110,103,32,49,32,54,54,32,54,54],
 [114,97,116,101,32,48,53],
 [114,97,116,101]]
def yU:List ay:=[[110,111,116,101,32,49,32,49,51,32,50,48]]
def aee:ay:=[100,111,110,101,32,50,46,46,51,10,100,111,110,101,32,49,46,46,50,10,108,101,97,118,101,10,111,119,101,100,32,53,46,46,50,48,10,111,119,101,100,32,48,46,46,49,53,10,104,101,97,116,32,51,55,46,46,51,55,10,107,101,101,112,115,32,49,10,99,97,115,107,32,53,49,46,46,53,49,10]
def aed:ay:=[100,111,110,101,32,50,46,46,51,10,100,111,110,101,32,49,46,46,50,10,108,101,97,118,101,32,48,10,104,101,97,116,32,51,55,46,46,51,55,10,107,101,101,112,115,32,49,10,99,97,115,107,32,53,49,46,46,53,49,10]
def aef:ay:=[100,111,110,101,32,48,46,46,51,10,100,111,110,101,32,48,46,46,51,10,108,101,97,118,101,10,111,119,101,100,32,48,46,46,51,48,10,111,119,101,100,32,48,46,46,51,48,10,104,101,97,116,32,54,48,46,46,54,48,10,107,101,101,112,115,32,49,10]
theorem QQ:(dK aX bW (fO++pQ)).2=[0,0,0,0,0,0,0,0,0,0,0,0,0,2,6,4]:=by decide+kernel
theorem qm:eD fO=0/\eD (fO++pQ)=0:=by decide+kernel
theorem F7:yS fO=0/\GG fO=[(5,20),(0,15)]:=by decide+kernel
theorem F6:Be fO=0/\Gc fO=[0]:=by decide+kernel
theorem Uo:yO (dK aX bW fO).1=aee:=by decide+kernel
open Go.Lib
theorem yg (l:List Int) (v u:Value) (w:World) (h:aL w v l) (k:aL w u l):Ϝ 30 #[v,u] w (PV (.bool true) w):=by
 obtain⟨o1,q1,rfl⟩:=aH.open h;obtain⟨o2,q2,rfl⟩:=aH.open k;have hl1:=h.len;have HH:=aa (af h k);clear h k;have hne:((l.length:Int) !=(l.length:Int))=false:=ϕ;go_enter Tryz.func30,Tryz.ntmps30;exact zcv
theorem Hg (l:List Int) (v u:Value) (w:World) (h:aL w v l) (k:aL w u l):Ϝ 22 #[v,u] w (PV (.bool true) w):=by
 obtain⟨o1,q1,rfl⟩:=aH.open h;obtain⟨o2,q2,rfl⟩:=aH.open k;have hl1:=h.len;have HH:=aa (af h k);clear h k;have hne:((l.length:Int) !=(l.length:Int))=false:=ϕ;go_enter Tryz.func22,Tryz.ntmps22;exact zcv
theorem Q3 (l:List ay) (v u:Value) (w:World) (h:iK w v l) (k:iK w u l):Ϝ 14 #[v,u] w (PV (.bool true) w):=by
 obtain⟨o1,q1,rfl⟩:=aH.open h;obtain⟨o2,q2,rfl⟩:=aH.open k;have hl1:=h.len;have HH:=aa (af h k);clear h k;have hne:((l.length:Int) !=(l.length:Int))=false:=ϕ;go_enter Tryz.func14,Tryz.ntmps14;go_wp2_with fail
 go_loopw [5] (fun i wr=> ∃k:Nat,k<=l.length/\i= .int .i64 k/\Ϙ w wr) (fun i _=>l.length-(intOf i).toNat)
 case atStart=>exact⟨0,bE _,rfl,aF _ _⟩
 case round=>
  obtain⟨k,hk,rfl,hB⟩:=hrel;by_cases uM:k<l.length
  ·obtain⟨g1,f1,e1,r1,c1⟩:=nM (HH.o.1.below hB (ah _)) uM;obtain⟨g2,f2,e2,r2,c2⟩:=nM (HH.o.2.below hB (ah _)) uM;generalize l[k]=x at*
   have HX:=aa hB;have oK:(k:Int)<l.length:=ϑ;cases e1;cases e2;clear hB;have hnb:(x !=x)=false:=ϕ;have hnc:(x==x)=true:=ϕ;exact zas
  ·have HR:=aa hB;clear hB;exact za7
theorem nL {w W1:World} {A B:Array Value} {t:TypeId} (h:W1=(w.alloc (.cells A t)).alloc (.cells B t)):
 Ϙ w W1/\W1.heap[w.heap.size]? =some (.cells A t (0,0))/\W1.heap[w.heap.size+1]? =some (.cells B t (0,0))/\W1.heap.size=w.heap.size+2:=by
 subst h;exact zcq
theorem Cw {w W1:World} {A B:Array Value} {t:TypeId} (h:W1=((w.alloc (.cells A t)).alloc (.cells B t)).drew):
 Ϙ w W1/\W1.heap[w.heap.size]? =some (.cells A t (0,0))/\W1.heap[w.heap.size+1]? =some (.cells B t (0,0))/\W1.heap.size=w.heap.size+2:=by
 obtain⟨h1,h2,h3,h4⟩:=nL (w:=w) (A:=A) (B:=B) (t:=t) rfl;subst h;exact⟨jE h1,h2,h3,h4⟩
theorem Ox (s t:iE) (V U:SV) (w:World) (hs:cz w V.sG s.led.field.aj) (ht:cz w U.sG t.led.field.aj) (he:t.led.field=s.led.field):
 Ϝ 47 #[.agg (bG s V),.agg (bG t U)] w (PV (.bool true) w):=by
 obtain⟨vt,vn,vw,vu,vr,vh,vk,vs⟩:=V;obtain⟨ut,un,uw,uu,ur,uh,uk,us⟩:=U;obtain⟨⟨f,lr,lb,ln⟩,h,c⟩:=s;obtain⟨⟨f2,mr,mb,mn⟩,h2,c2⟩:=t;simp only at he hs ht;subst he;obtain⟨n,m,⟨l0,l1⟩,T⟩:=f2;simp only at hs ht;obtain⟨tO,tc,rfl⟩:=aH.open hs;obtain⟨uo,uc,rfl⟩:=aH.open ht;have hl:=hs.len;have HH:=aa (af hs ht);clear hs ht;go_enter Tryz.func47,Tryz.ntmps47;go_upto_region 1 with(fail)
 refine bU fun W1 ν=>?_;obtain⟨δ,k1,k2,hz1⟩:=nL ν;obtain⟨c1,f1,l1'⟩:=ae k1;obtain⟨c2',f2',l2'⟩:=ae k2;have R9:=aa δ;clear δ ν k1 k2;go_region
 all_goals
  go_upto_region 2 with(fail)
  refine bU fun W2 hW2=>?_;obtain⟨κ,k5,k6,hz2⟩:=Cw hW2;rw[hz1] at hz2;rw[hz1] at k5 k6;have Uy:=aa (aV R9.o κ);have HK:=aa (af k5 k6);obtain⟨c5,f5,l5⟩:=ae k5;obtain⟨c6,f6,l6⟩:=ae k6;clear hW2 c1 f1 l1' c2' f2' l2' κ k5 k6;go_wp2_with fail
  go_loopw [7] (fun i wr=> ∃k:Nat,k<=(T).length/\i= .int .i64 k/\Ϙ W2 wr) (fun i _=>(T).length-(intOf i).toNat)
  case atStart=>exact⟨0,bE _,rfl,aF _ _⟩
  case round=>
   obtain⟨k,hk,rfl,hB⟩:=hrel;obtain⟨c7,f7,l7⟩:=ae ((hB.block _ l5).trans HK.o.1);obtain⟨c8,f8,l8⟩:=ae ((hB.block _ l6).trans HK.o.2);by_cases uM:k<(T).length
   ·obtain⟨g1,o1,e1,r1,x1,x2,x3,x4,x5⟩:=cz.cell (HH.o.1.below (aV Uy.o hB) (ah _)) uM;obtain⟨g2,o2,e2,r2,y1,y2,y3,y4,y5⟩:=cz.cell (HH.o.2.below (aV Uy.o hB) (ah _)) uM;exact zcD
   ·exact zcG
theorem QV (l m:aO) (tv nv sv mv:Value) (w:World) (hn:aU w nv l.notes) (hm:aU w mv m.notes) (hr:m.rate=l.rate) (hb:m.box=l.box) (he:m.notes=l.notes):
 Ϝ 48 #[lv l tv nv,lv m sv mv] w (PV (.bool true) w):=by
 obtain⟨f,rt,⟨b0,b1⟩,N⟩:=l;obtain⟨f2,rt2,bx2,T⟩:=m;simp only at hr hb he hn hm;subst hr hb he;obtain⟨no,nc,rfl⟩:=aH.open hn;obtain⟨mo,mc,rfl⟩:=aH.open hm;have hl:=hn.len;have HH:=aa (af hn hm);clear hn hm;go_enter Tryz.func48,Tryz.ntmps48;go_upto_region 1 with(fail)
 refine bU fun W1 ν=>?_;obtain⟨δ,k1,k2,hz1⟩:=nL ν;obtain⟨c1,f1,l1⟩:=ae k1;obtain⟨c2,f2',l2⟩:=ae k2;have Uy:=aa δ;have HK:=aa (af k1 k2);clear δ ν k1 k2;go_wp2_with fail
 go_loopw [5] (fun i wr=> ∃k:Nat,k<=(T).length/\i= .int .i64 k/\Ϙ W1 wr) (fun i _=>(T).length-(intOf i).toNat)
 case atStart=>exact⟨0,bE _,rfl,aF _ _⟩
 case round=>
  obtain⟨k,hk,rfl,hB⟩:=hrel;obtain⟨c7,f7,l7⟩:=ae ((hB.block _ l1).trans HK.o.1);obtain⟨c8,f8,l8⟩:=ae ((hB.block _ l2).trans HK.o.2);by_cases uM:k<(T).length
  ·obtain⟨g1,o1,e1,r1,x1,x2,x3⟩:=aU.cell (HH.o.1.below (aV Uy.o hB) (ah _)) uM;obtain⟨g2,o2,e2,r2,y1,y2,y3⟩:=aU.cell (HH.o.2.below (aV Uy.o hB) (ah _)) uM;exact zcD
  ·exact zcG
theorem Sq (h:bS) (wv tv xv uv' sv yv:Value) (w:World) (hw:bD w wv h.bJ) (ht:aL w tv h.turns) (hx:aU w xv h.readings) (hu:bD w uv' h.bJ) (hs:aL w sv h.turns) (hy:aU w yv h.readings):
 Ϝ 49 #[gZ.hv h wv tv xv,gZ.hv h uv' sv yv] w (PV (.bool true) w):=by
 obtain⟨la,si,co,di,bu,⟨s0,s1⟩,bJ,Ab,T⟩:=h;simp only at hw ht hx hu hs hy;obtain⟨wo,wc,rfl⟩:=aH.open hw;obtain⟨tO,tc,rfl⟩:=aH.open ht;obtain⟨xo,xc,rfl⟩:=aH.open hx;obtain⟨uo,uc,rfl⟩:=aH.open hu;obtain⟨so,sc,rfl⟩:=aH.open hs;obtain⟨yo,yc,rfl⟩:=aH.open hy;have hlw:=hw.len;have hlx:=hx.len;have HH:=aa (af hw (af hu (af hx (af hy (af ht hs)))));clear hw ht hx hu hs hy;go_enter Tryz.func49,Tryz.ntmps49;go_upto_region 1 with(fail)
 refine bU fun W1 ν=>?_;obtain⟨δ,k1,k2,hz1⟩:=nL ν;obtain⟨c1,f1,l1⟩:=ae k1;obtain⟨c2,f2',l2⟩:=ae k2;have R9:=aa δ;have HK:=aa (af k1 k2);clear δ ν k1 k2;go_wp2_with fail
 refine(yg Ab _ _ W1 (HH.o.2.2.2.2.1.below R9.o (ah _)) (HH.o.2.2.2.2.2.below R9.o (ah _))).mono ?_;rintro e W2 ⟨rfl,κ⟩;have k5:=(κ.block _ l1).trans HK.o.1;have k6:=(κ.block _ l2).trans HK.o.2;obtain⟨c5,f5,l5⟩:=ae k5;obtain⟨c6,f6,l6⟩:=ae k6;have Al:=aa (aV R9.o κ);have F4:=aa (af k5 k6);clear κ k5 k6 c1 f1 c2 f2';go_wp2_with fail
 go_loopw [5] (fun i wr=> ∃k:Nat,k<=(bJ).length/\i= .int .i64 k/\Ϙ W2 wr) (fun i _=>(bJ).length-(intOf i).toNat)
 case atStart=>exact⟨0,bE _,rfl,aF _ _⟩
 case round=>
  obtain⟨k,hk,rfl,hB⟩:=hrel;obtain⟨c7,f7,l7⟩:=ae ((hB.block _ l5).trans F4.o.1);obtain⟨c8,f8,l8⟩:=ae ((hB.block _ l6).trans F4.o.2);by_cases uM:k<(bJ).length
  ·obtain⟨g1,o1,e1,r1,x1,x2⟩:=bD.cell (HH.o.1.below (aV Al.o hB) (ah _)) uM;obtain⟨g2,o2,e2,r2,y1,y2⟩:=bD.cell (HH.o.2.1.below (aV Al.o hB) (ah _)) uM;generalize (bJ)[k]=x at*
   have HX:=aa hB;have oK:(k:Int)<(bJ).length:=ϑ;cases e1;cases e2;clear hB;exact zas
  ·have k9:=(hB.block _ l5).trans F4.o.1;have k10:=(hB.block _ l6).trans F4.o.2;have Uy:=aa (aV Al.o hB);generalize wr=W3 at*
   have Bc:=aa (af k9 k10);clear hB k9 k10;go_wp2_with fail
   go_loopw [6] (fun i wr=> ∃k:Nat,k<=(T).length/\i= .int .i64 k/\Ϙ W3 wr) (fun i _=>(T).length-(intOf i).toNat)
   case atStart=>exact⟨0,bE _,rfl,aF _ _⟩
   case round=>
    obtain⟨k,hk,rfl,hB⟩:=hrel;obtain⟨c7,f7,l7⟩:=ae ((hB.block _ l7).trans Bc.o.1);obtain⟨c8,f8,l8⟩:=ae ((hB.block _ l8).trans Bc.o.2);by_cases uM:k<(T).length
    ·obtain⟨g1,o1,e1,r1,x1,x2,x3⟩:=aU.cell (HH.o.2.2.1.below (aV Uy.o hB) (ah _)) uM;obtain⟨g2,o2,e2,r2,y1,y2,y3⟩:=aU.cell (HH.o.2.2.2.1.below (aV Uy.o hB) (ah _)) uM;exact zcD
    ·exact zcG
theorem Gd:fU Tryz.prog 22 9 (.string ⟨#[]⟩) 1 16:=⟨Tryz.underlying22,by kernel_rfl,rfl,by omega⟩
theorem yL (ls:List ay): ∀u∈bz ls,u.oneCell'=true:=fun u hu=>by
 obtain⟨x,_,rfl⟩:=gW.1 hu;rfl
def Ia (ls:List ay) (w:World) (e:Ending) (w':World):Prop:= ∃o c,e= .returned (.slice o ls.length c)/\w'.ownsRow w.heap.size 9 1 (.slice o ls.length c) ls.length (bz ls)/\Ϙ w w'
theorem abu (ls:List ay) (v:Value) (w:World) (hv:iK w v ls) (hl:ls.length*16<=140737488355328):Ϝ 11 #[v] w (Ia ls w):=by
 obtain⟨lo,lc,rfl⟩:=aH.open hv;have HV:=aa hv;clear hv;go_enter Tryz.func11,Tryz.ntmps11;go_wp2_with (at_builtin;go_loud (refine cZ rfl _ _ Gd rfl w.heap.size (.slice (some ⟨w.heap.size,0,none⟩) 0 0) 0 [] rfl (gF (cs:= #[]) (n:=0) (av _ _) rfl (ah _) ϖ) (.slice lo ls.length lc) (ls).length (bz (ls)) rfl (aH.alloc (HV.o) _) (yL (ls)) ϑ ϑ ϕ ?_))
 intro v' W2 Gm Y7 _;(try rw[Nat.zero_add] at Gm)
 (try rw[List.nil_append] at Gm)
 obtain⟨o2,c2,rfl⟩:=aM Gm;have hB2:Ϙ w W2:=Below.grown (ai (aF _ _) _) Y7 ϕ (fun g e=>by simp[Value.ownBlock] at e;omega);have HC2:=aa (af hB2 Gm);have hz2:=hB2.size;clear Gm Y7 hB2;go_wp2_with fail
 go_returns;exact⟨_,_,rfl,HC2.o.2,HC2.o.1⟩
theorem Cs (ls:List ay) (v:Value) (w:World) (hv:iK w v ls) (hl:ls.length<=1000):Ϝ 19 #[v] w (Ia (fO++ls) w):=by
 obtain⟨lo,lc,rfl⟩:=aH.open hv;have HV:=aa hv;clear hv;have afk:fO.length=13:=rfl;have HYL:Hid ((fO++ls).length=13+ls.length):=aa (by rw[cu,afk]);have HYC:Hid (bz fO++bz ls=bz (fO++ls)):=aa (by simp[bz]);clear afk;go_enter Tryz.func19,Tryz.ntmps19;go_wp2_with (at_builtin;go_loud (refine cZ rfl _ _ Gd rfl w.heap.size (.slice (some ⟨w.heap.size,0,none⟩) 13 13) 13 (bz fO) rfl (gF (cs:=(bz fO).toArray) (n:=13) (av _ _) rfl (ah _) ϖ) (.slice lo ls.length lc) ls.length (bz ls) rfl (aH.alloc HV.o _) (yL ls) ϑ ϑ ϕ ?_))
 intro v' W2 Gm Y7 _;rw[HYC.o] at Gm;obtain⟨o2,c2,rfl⟩:=aM Gm;have hB2:Ϙ w W2:=Below.grown (ai (aF _ _) _) Y7 ϕ (fun g e=>by simp[Value.ownBlock] at e;omega);have HC2:=aa (af hB2 Gm);clear Gm Y7 hB2;go_wp2_with fail
 go_returns;unfold Ia;rw[HYL.o];exact⟨_,_,rfl,HC2.o.2,HC2.o.1⟩
theorem Et: ∀(i n:Nat),ja n (i+1)=xz (n/10^i%10)::ja n i:=by
 intro i;induction i with
 |zero=>intro n;simp[ja]
 |succ i ih=>
  intro n;rw[ja,ih (n/10),show ja n (i+1)=ja (n/10) i++[xz (n%10)] from rfl,Nat.div_div_eq_div_mul, <-Nat.pow_succ',List.cons_append]
def dv (k:Nat):Value:= .int .u8 ((48+k:Nat):Int)
theorem Qx {k:Nat} (h:k<10):dv k=uv (xz k):=by unfold dv uv;rw[j5 h]
theorem J6 (n:Nat) (hn:n<1000000) (w:World):Ϝ 108 #[iv n] w (PV (.agg (Lib.byteCells (ja n 4)).toArray) w):=by
 obtain⟨d0,hd0⟩: ∃d,n%10=d:=⟨_,rfl⟩;obtain⟨d1,hd1⟩: ∃d,n/10%10=d:=⟨_,rfl⟩;obtain⟨d2,hd2⟩: ∃d,n/10/10%10=d:=⟨_,rfl⟩;obtain⟨d3,hd3⟩: ∃d,n/10/10/10%10=d:=⟨_,rfl⟩;have b0:d0<10:=ϑ;have b1:d1<10:=ϑ;have b2:d2<10:=ϑ;have b3:d3<10:=ϑ;have HD:Hid (ja n 4=[xz d3,xz d2,xz d1,xz d0]):=aa (by simp[ja,hd0,hd1,hd2,hd3]);obtain⟨n1,hn1⟩: ∃m,n/10=m:=⟨_,rfl⟩;rw[hn1] at hd1 hd2 hd3;obtain⟨n2,hn2⟩: ∃m,n1/10=m:=⟨_,rfl⟩;rw[hn2] at hd2 hd3;obtain⟨n3,I7⟩: ∃m,n2/10=m:=⟨_,rfl⟩;rw[I7] at hd3;obtain⟨n4,hn4⟩: ∃m,n3/10=m:=⟨_,rfl⟩;have q0:(n:Int)%10=d0:=ϑ;have q1:(n1:Int)%10=d1:=ϑ;have q2:(n2:Int)%10=d2:=ϑ;have q3:(n3:Int)%10=d3:=ϑ;have r0:(n:Int)/10=n1:=ϑ;have r1:(n1:Int)/10=n2:=ϑ;have r2:(n2:Int)/10=n3:=ϑ;have r3:(n3:Int)/10=n4:=ϑ;clear hd0 hd1 hd2 hd3 hn1 hn2 I7 hn4;go_enter Tryz.func108,Tryz.ntmps108;go_wp2_with fail
 go_loopw [0,4] (fun s u wr=>Ϙ w wr/\((s=iv n/\u=iv 0/\wr.heap[w.heap.size]? =some (.cells #[.int .u8 0,.int .u8 0,.int .u8 0,.int .u8 0] 233 (0,0)))∨
  (s=iv n1/\u=iv 1/\wr.heap[w.heap.size]? =some (.cells #[.int .u8 0,.int .u8 0,.int .u8 0,dv d0] 233 (0,0)))∨
  (s=iv n2/\u=iv 2/\wr.heap[w.heap.size]? =some (.cells #[.int .u8 0,.int .u8 0,dv d1,dv d0] 233 (0,0)))∨
  (s=iv n3/\u=iv 3/\wr.heap[w.heap.size]? =some (.cells #[.int .u8 0,dv d2,dv d1,dv d0] 233 (0,0)))∨
  (s=iv n4/\u=iv 4/\wr.heap[w.heap.size]? =some (.cells #[dv d3,dv d2,dv d1,dv d0] 233 (0,0))))) (fun _ u _=>4-(intOf u).toNat)
 case atStart=>exact⟨ai (aF _ _) _,.inl ⟨rfl,rfl,av _ _⟩⟩
 case round=>
  obtain⟨hB,hc⟩:=hrel;rcases hc with⟨rfl,rfl,hk⟩|⟨rfl,rfl,hk⟩|⟨rfl,rfl,hk⟩|⟨rfl,rfl,hk⟩|⟨rfl,rfl,hk⟩
  ·obtain⟨c0,f0,l0⟩:=ae hk;have HX:=aa (af hB hk);clear hB hk;go_wp2_with fail
   exact⟨⟨dP HX.o.1 (ah _) _,.inr (.inl ⟨rfl,rfl,aA HX.o.2 _⟩)⟩,by simp[intOf]⟩
  ·obtain⟨c0,f0,l0⟩:=ae hk;have HX:=aa (af hB hk);clear hB hk;go_wp2_with fail
   exact⟨⟨dP HX.o.1 (ah _) _,.inr (.inr (.inl ⟨rfl,rfl,aA HX.o.2 _⟩))⟩,by simp[intOf]⟩
  ·obtain⟨c0,f0,l0⟩:=ae hk;have HX:=aa (af hB hk);clear hB hk;go_wp2_with fail
   exact⟨⟨dP HX.o.1 (ah _) _,.inr (.inr (.inr (.inl ⟨rfl,rfl,aA HX.o.2 _⟩)))⟩,by simp[intOf]⟩
  ·obtain⟨c0,f0,l0⟩:=ae hk;have HX:=aa (af hB hk);clear hB hk;go_wp2_with fail
   exact⟨⟨dP HX.o.1 (ah _) _,.inr (.inr (.inr (.inr ⟨rfl,rfl,aA HX.o.2 _⟩)))⟩,by simp[intOf]⟩
  ·obtain⟨c0,f0,l0⟩:=ae hk;have HX:=aa (af hB hk);clear hB hk;go_upto_region 7 with(fail)
   refine wp_region_lit ?_;refine wpList_load_row rfl _ _ rfl w.heap.size rfl _ _ _ _ HX.o.2 Tryz.underlying233 rfl ϰ ?_;simp only[zp];refine wpList_store_row rfl _ _ _ rfl w.heap.size #[dv d3,dv d2,dv d1,dv d0] ϰ ϰ _ _ HX.o.2 ϰ ϰ (by simp[dv,Value.oneCell']) ?_;simp only[zp];refine gm fun W5 qM=>?_;have BD:Ext [w.heap.size] wr W5:=by rw[qM];exact dz
   have hk5:W5.heap[w.heap.size]? =some (.cells #[dv d3,dv d2,dv d1,dv d0] 233 (0,0)):=by rw[qM];exact setRow_heap _ _ _ _ _ _ HX.o.2
   have H5:=aa (af (fu HX.o.1 BD (ah _)) hk5);clear qM BD hk5;go_wp2_with fail
   refine bodyPost_ret (v:= .agg #[dv d3,dv d2,dv d1,dv d0]) ?_ rfl ?_
   ·have q1:=run_loadVar_row (P:=Tryz.prog) W5 w.heap.size 233 233 _ (0,0) _ H5.o.2 Tryz.underlying233 rfl ϰ;simp[results,Tryz.results108,asAddr,q1]
   ·refine⟨?_,H5.o.1⟩;rw[HD.o,Qx b0,Qx b1,Qx b2,Qx b3];rfl
theorem wY (n:Nat): ∃a b c d,ja n 4=[a,b,c,d]:=by
 have h:=ik 4 n
 match hq:ja n 4,h with
 |[a,b,c,d],_=>exact⟨a,b,c,d,rfl⟩
def PS (i:Nat) (GQ:ay):List Value:=Lib.byteCells (58::58::10::ja (gM i GQ) 4)
abbrev z7:Array Value:= #[.int .u8 0,.int .u8 0,.int .u8 0,.int .u8 0,.int .u8 0,.int .u8 0,.int .u8 0]
theorem Cz (i:Nat) (GQ:ay) (w:World) (hi:i<=1000) (hl:GQ.length<=60):Ϝ 107 #[iv i,.string (dS GQ)] w (PV (.agg (PS i GQ).toArray) w):=by
 obtain⟨a,b,c,d,hd⟩:=wY (gM i GQ);have HD:=aa hd;have hcl:=Hl i GQ;have Yf:=aa (fun W=>tV i GQ W hi hl);have HSH:=aa (fun W=>J6 (gM i GQ) ϑ W);unfold PS;rw[hd];have hQ:=HD;clear hd HD;generalize gM i GQ=k at*
 go_enter Tryz.func107,Tryz.ntmps107;go_upto_region 1 with(fail)
 refine bU fun W1 ν=>?_;have δ:Ϙ w W1:=by rw[ν];exact ai (aF _ _) _
 have hk1:W1.heap[w.heap.size]? =some (.cells z7 235 (0,0)):=by rw[ν];exact av _ _
 have hs1:w.heap.size<W1.heap.size:=by rw[ν];simp
 have R9:=aa δ;have PG:=aa hk1;clear ν δ hk1;go_wp2_with fail
 refine(Yf.o W1).mono ?_;rintro e W2 ⟨rfl,hb⟩;have hs2:=hb.size;have Uy:=aa (aV R9.o hb);have F4:=aa ((hb.block _ hs1).trans PG.o);clear hb;go_wp2_with fail
 refine(HSH.o W2).mono ?_;rintro e W3 ⟨he,hb⟩;rw[hQ.o] at he;subst he;have hs3:=hb.size;have ζ:=aa (aV Uy.o hb);have hk3:=(hb.block w.heap.size ϑ).trans F4.o;clear hb;rename_i hK;refine hK _ _ ?_;refine aC rfl (w':=W3) (.agg #[uv 58,uv 58,uv 10,uv a,uv b,uv c,uv d]) ϰ ?_;simp only[zp];refine wpList_store_row rfl _ _ _ rfl w.heap.size #[uv 58,uv 58,uv 10,uv a,uv b,uv c,uv d] ϰ ϰ _ z7 hk3 ϰ ϰ (by simp[Value.oneCell']) ?_;simp only[zp];refine gm fun W4 zu=>?_;have FQ:Ext [w.heap.size] W3 W4:=by rw[zu];exact dz
 have hk4:W4.heap[w.heap.size]? =some (.cells #[uv 58,uv 58,uv 10,uv a,uv b,uv c,uv d] 235 (0,0)):=by rw[zu];exact setRow_heap _ _ _ _ _ _ hk3
 have H4:=aa (af (fu ζ.o FQ (ah _)) hk4);clear zu FQ hk4 hk3 hK;go_wp2_with fail
 refine bodyPost_ret (v:= .agg #[uv 58,uv 58,uv 10,uv a,uv b,uv c,uv d]) ?_ rfl ?_
 ·have q1:=run_loadVar_row (P:=Tryz.prog) W4 w.heap.size 235 235 _ (0,0) _ H4.o.2 Tryz.underlying235 rfl ϰ;simp[results,Tryz.results107,asAddr,q1]
 ·exact⟨rfl,H4.o.1⟩
theorem aH.cut {w:World} {o:Option Addr} {n c:Nat} {xs:List Value} (h:aH 1 w (.slice o n c) n xs) {l k:Nat} (Ξ:l<=k) (hk:k<=n):aH 1 w (sliced o l k c 1) (k-l) ((xs.take k).drop l):=by
 obtain⟨hl,o',c',hv,h1,h2,h3,h4⟩:=h;injection hv with e1 e2 e3;subst e1 e3;have IY:xs.length=n:=by simpa using hl
 refine⟨by simp;omega,(if c=l then o else o.map (·.add (l*1))),c-l,rfl,by omega,by omega,fun ho=>?_,fun a ha=>?_⟩
 ·split at ho
  ·omega
  ·cases o with
   |none=>have:=h3 rfl;omega
   |some a=>cases ho
 ·split at ha
  ·rename_i hcl;obtain⟨hs,hc⟩:=h4 a ha;refine⟨hs,fun j u hj=>?_⟩;have:(xs.take k).drop l=[]:=List.drop_eq_nil_of_le ϗ;rw[this] at hj;cases hj
  ·cases o with
   |none=>cases ha
   |some b=>
    obtain⟨hs,hc⟩:=h4 b rfl;obtain⟨bb,off,sp⟩:=b;simp only at hs hc;subst hs;simp only[Option.map_some,Option.some.injEq,Nat.mul_one] at ha;rw[Addr.add_lit] at ha;subst ha;refine⟨rfl,fun j u hj=>?_⟩;rw[List.getElem?_drop,List.getElem?_take] at hj;split at hj
    ·have:=hc _ _ hj;simpa [Nat.add_assoc] using this
    ·cases hj
theorem ZQ {P:Program} (t:TypeId) (hu:P.underlying t=some (.slice (P.elem t))) (τ: ∀W,(sizeOf (P.elem t)).run P W= .ok 1 W) {o:Option Addr} {n c:Nat} {l k:Nat} (Ξ:l<=k) (hk:k<=c):
 ∃so sc,(∀W,(Instr.slice t (.slice o n c) (some (iv (l:Int))) (some (iv (k:Int))) none).run P W= .ok (.slice so (k-l) sc) W)/\sliced o l k c 1= .slice so (k-l) sc:=by
 refine⟨_,_,fun W=>?_,rfl⟩;rw[run_slice_lh (P:=P) W t o n c hu .i64 .i64 (l:Int) (k:Int) ϑ ϑ ϑ];rw[τ];rfl
theorem Xg {P:Program} (t:TypeId) (hu:P.underlying t=some (.slice (P.elem t))) (τ: ∀W,(sizeOf (P.elem t)).run P W= .ok 1 W) {o:Option Addr} {n c:Nat} {l:Nat} (hl:l<=n):
 ∃so sc,(∀W,(Instr.slice t (.slice o n c) (some (iv (l:Int))) none none).run P W= .ok (.slice so (n-l) sc) W)/\sliced o l n c 1= .slice so (n-l) sc:=by
 refine⟨_,_,fun W=>?_,rfl⟩;rw[run_slice_l (P:=P) W t o n c hu .i64 (l:Int) ϑ ϑ];rw[τ];rfl
theorem acK {P:Program} (t:TypeId) (hu:P.underlying t=some (.slice (P.elem t))) (τ: ∀W,(sizeOf (P.elem t)).run P W= .ok 1 W) {o:Option Addr} {n c:Nat} {k:Nat} (hk:k<=c):
 ∃so sc,(∀W,(Instr.slice t (.slice o n c) none (some (iv (k:Int))) none).run P W= .ok (.slice so (k-0) sc) W)/\sliced o 0 k c 1= .slice so (k-0) sc:=by
 refine⟨_,_,fun W=>?_,rfl⟩;rw[run_slice_h (P:=P) W t o n c hu .i64 (k:Int) ϑ ϑ];rw[τ];rfl
theorem BytesAt.cell {w:World} {o:Option Addr} {n c:Nat} {l:ay} (h:aH 1 w (.slice o n c) n (Lib.byteCells l)) {k:Nat} (hk:k<l.length):
 ∃b off,o=some ⟨b,off,none⟩/\b<w.heap.size/\w.cell? ⟨b,off+k,none⟩=some (.int .u8 (l[k].toNat:Int)):=by
 obtain⟨hl,o',c',hv,h1,h2,h3,h4⟩:=h;cases hv;have hn:n=l.length:=by simpa [Lib.byteCells] using hl.symm
 cases o with
 |none=>have:=h3 rfl;omega
 |some a=>
  obtain⟨b,off,sp⟩:=a;obtain⟨hs,hc⟩:=h4 _ rfl;simp only at hs hc;subst hs;have:=hc k (.int .u8 (l[k].toNat:Int)) (by simp[Lib.byteCells,hk]);exact⟨b,off,rfl,dB w _ this,this⟩
theorem AY {l:ay} {a k:Nat}:((Lib.byteCells l).take k).drop a=Lib.byteCells ((l.take k).drop a):=by simp[Lib.byteCells,List.map_take,List.map_drop]
theorem uB:Tryz.prog.underlying 25=some (.slice (Tryz.prog.elem 25)):=ϰ
theorem szB (W:World):(sizeOf (Tryz.prog.elem 25)).run Tryz.prog W= .ok 1 W:=by
 rw[show Tryz.prog.elem 25=5 by kernel_rfl];simp[go_sem]
theorem Na:fU Tryz.prog 25 5 (.int .u8 0) 1 1:=⟨Tryz.underlying25,by kernel_rfl,rfl,by omega⟩
theorem CL {A B C cs:List Value} (h:B.length=cs.length):splice (A++(B++C)) A.length cs=A++(cs++C):=by
 unfold splice;rw[lJ (ah _),ji (ah _), <-h,List.drop_append];simp
theorem set_mid {A C:List Value} {x y:Value}:(A++(x::C)).set A.length y=A++(y::C):=by
 rw[nZ _ _ (ah _),Nat.sub_self,List.set_cons_zero]
theorem Kg {a b c d e f x y z:Value} {ln Z:List Value} (hZ:Z.length=ln.length+9):
 (splice ((splice ((splice Z 0 [a,b]).set 2 x) 3 ln).set (3+ln.length) y) (4+ln.length) [c,d,e,f]).set (8+ln.length) z=a::b::x::(ln++[y,c,d,e,f,z]):=by
 obtain⟨z0,z1,z2,Z1,y0,y1,y2,y3,y4,y5,rfl,h1⟩: ∃z0 z1 z2 Z1 y0 y1 y2 y3 y4 y5,Z=z0::z1::z2::(Z1++[y0,y1,y2,y3,y4,y5])/\Z1.length=ln.length:=by
  match Z,hZ with
  |z0::z1::z2::Z',hZ=>
   have hl:Z'.length=ln.length+6:=by simp at hZ;omega
   refine⟨z0,z1,z2,Z'.take ln.length,?_⟩;have h6:(Z'.drop ln.length).length=6:=by rw[jR];omega
   match hq:Z'.drop ln.length,h6 with
   |[y0,y1,y2,y3,y4,y5],_=>exact⟨y0,y1,y2,y3,y4,y5,by rw[<-hq,List.take_append_drop],by rw[fJ];omega⟩
 have s1:splice (z0::z1::z2::(Z1++[y0,y1,y2,y3,y4,y5])) 0 [a,b]=a::b::z2::(Z1++[y0,y1,y2,y3,y4,y5]):=rfl;rw[s1];have s2:(a::b::z2::(Z1++[y0,y1,y2,y3,y4,y5])).set 2 x=[a,b,x]++(Z1++[y0,y1,y2,y3,y4,y5]):=rfl;rw[s2,show(3:Nat)=[a,b,x].length from rfl,CL h1];have s3:[a,b,x]++(ln++[y0,y1,y2,y3,y4,y5])=([a,b,x]++ln)++(y0::[y1,y2,y3,y4,y5]):=ϕ;rw[s3,show[a,b,x].length+ln.length=([a,b,x]++ln).length from by simp;omega,set_mid]
 have s4:([a,b,x]++ln)++(y::[y1,y2,y3,y4,y5])=([a,b,x]++ln++[y])++([y1,y2,y3,y4]++[y5]):=ϕ;rw[s4,show 4+ln.length=([a,b,x]++ln++[y]).length from by simp;omega,CL (B:=[y1,y2,y3,y4]) (cs:=[c,d,e,f]) rfl];have s5:([a,b,x]++ln++[y])++([c,d,e,f]++[y5])=([a,b,x]++ln++[y,c,d,e,f])++(y5::[]):=ϕ;rw[s5,show 8+ln.length=([a,b,x]++ln++[y,c,d,e,f]).length from by simp;omega,set_mid];simp
theorem uK {W:World} {o:Option Addr} {n c:Nat} {l:ay} (h:aH 1 W (.slice o n c) n (Lib.byteCells l)):(convert 25 9 (.slice o n c)).run Tryz.prog W= .ok (.string (dS l)) W:=by
 obtain⟨hl,o',c',hv,h1,h2,h3,h4⟩:=h;cases hv;have hn:l.length=n:=by simpa [Lib.byteCells] using hl
 cases o with
 |none=>
  have:n=0:=by have:=h3 rfl;omega
  subst this;obtain rfl:=jl hn;rw[run_convert_bytes_nil W 25 5 Tryz.underlying25 Tryz.underlying5 _ _ 9 Tryz.underlying9];rfl
 |some a=>
  obtain⟨b,off,sp⟩:=a;obtain⟨hs,hc⟩:=h4 _ rfl;simp only at hs hc;subst hs;rw[run_convert_bytes_arg W 25 5 Tryz.underlying25 Tryz.underlying5 b off n c (l.map fun x=>(x.toNat:Int)) (by simpa using hn) (fun i hi=>by
   have hi':i<l.length:=ϑ;have:=hc i (.int .u8 (l[i].toNat:Int)) (by simp[Lib.byteCells,hi']);rw[this];simp[List.getD,hi']) 9 Tryz.underlying9]
  congr 1;congr 1;simp only[strOfNums,dS];congr 1;apply Array.ext
  ·simp
  ·intro j h1 h2;simp
theorem Yl {w W1:World} {A B:Array Value} {t u:TypeId} (h:W1=(w.alloc (.cells A t)).alloc (.cells B u)):
 Ϙ w W1/\W1.heap[w.heap.size]? =some (.cells A t (0,0))/\W1.heap[w.heap.size+1]? =some (.cells B u (0,0))/\W1.heap.size=w.heap.size+2:=by
 subst h;exact zcq
theorem row_step {W W':World} {g t5:Nat} {L X:List Value} {t:TypeId} {o:Obj} (h:W'=W.setRow g L.toArray) (hk:W.heap[g]? =some (.cells X.toArray t (0,0))) (hne:g≠t5) (h5:W.heap[t5]? =some o):
 W'.heap[t5]? =some o/\W'.heap[g]? =some (.cells L.toArray t (0,0))/\Below g W W':=by
 subst h;exact⟨(setRow_other W g t5 _ (Ne.symm hne)).trans h5,setRow_heap W g _ _ t _ hk,below_setRow (aF _ _) (ah _) _⟩
theorem AX {W W':World} {g t5 j:Nat} {v:Value} {X:List Value} {t:TypeId} {o:Obj} (h:W'=W.setCell ⟨g,j,none⟩ v) (hk:W.heap[g]? =some (.cells X.toArray t (0,0))) (hne:g≠t5) (h5:W.heap[t5]? =some o):
 W'.heap[t5]? =some o/\W'.heap[g]? =some (.cells (X.set j v).toArray t (0,0))/\Below g W W':=by
 subst h;refine⟨(heap_setCell_other W ⟨g,j,none⟩ t5 v (Ne.symm hne)).trans h5,?_,(aF g W).setCell (p:=⟨g,j,none⟩) (ah _) v⟩;rw[heap_setCell_same W g j _ t v hk,nC]
theorem NM (n:Nat) (hn:n<=1000) (W:World):
 (Instr.makeSlice 25 (iv n) (iv n)).run Tryz.prog W= .ok (.slice (some ⟨W.heap.size,0,none⟩) n n) (W.alloc (.cells (List.replicate n (Value.int .u8 0)).toArray 5)):=by
 obtain⟨i,hi,hz,hs,hby⟩:=info_parts Na.info;have:=run_make (P:=Tryz.prog) W 25 5 i (.int .u8 0) Na.und hi hz .i64 .i64 n n ϑ (Int.le_refl _) (by rw[hby];omega) ϑ;rw[this,hs];simp only[Int.toNat_natCast];congr 3;apply Array.ext
 ·simp[madeCells]
 ·intro j h1 h2;simp[madeCells,Value.cells];rw[Nat.mod_one];rfl
theorem FT {n:Nat} {p q r s:UInt8} (h:ja n 4=[p,q,r,s]):ja n 2=[r,s]:=by
 rw[Et 3,Et 2] at h;injection h with _ h;injection h with _ h
def aks (i:Nat) (GQ:ay) (w:World) (e:Ending) (w':World):Prop:=
 Ϙ w w'/\ ∃g n,n=9+GQ.length/\e= .returned (.slice (some ⟨g,0,none⟩) n n)/\w.heap.size<=g/\w'.heap[g]? =some (.cells (Lib.byteCells (bX i GQ)).toArray 5 (0,0))
theorem Np (i:Nat) (GQ:ay) (w:World) (hi:i<=1000) (hl:GQ.length<=60):Ϝ 59 #[iv i,.string (dS GQ)] w (aks i GQ w):=by
 obtain⟨a,b,c,d,hd⟩:=wY (gM i GQ);obtain⟨p,q,r,s,hs⟩:=wY GQ.length;have HT:=Cz i GQ w hi hl;have HSH:=aa (fun W=>J6 GQ.length ϑ W);unfold PS at HT;rw[hd] at HT;rw[hs] at HSH;have ι:Lib.byteCells (bX i GQ)=uv r::uv s::uv 58::(Lib.byteCells GQ++[uv 58,uv a,uv b,uv c,uv d,uv 10]):=by
  unfold bX;rw[hd,FT hs];simp[Lib.byteCells,uv]
 have χ:(Lib.byteCells GQ).length=GQ.length:=by simp[Lib.byteCells]
 have τ:=nS GQ;obtain⟨c1,hc1⟩: ∃c,c=(58:UInt8):=⟨_,rfl⟩;obtain⟨c3,hc3⟩: ∃c,c=(10:UInt8):=⟨_,rfl⟩;rw[<-hc1, <-hc3] at HT ι;have HR:=aa ι;have XJ:Hid (Ϝ 107 #[iv i,.string (dS GQ)] w (PV (.agg #[uv c1,uv c1,uv c3,uv a,uv b,uv c,uv d]) w)):=aa HT;have HSW:Hid (∀W,Ϝ 108 #[iv GQ.length] W (PV (.agg #[uv p,uv q,uv r,uv s]) W)):=aa HSH.o;have HBL:=aa χ;clear hd hs ι hc1 hc3 HT χ HSH;go_enter Tryz.func59,Tryz.ntmps59;go_wp2_with fail
 refine XJ.o.mono ?_;rintro e W1 ⟨rfl,δ⟩;have R9:=aa δ;go_wp2_with fail
 refine(HSW.o W1).mono ?_;rintro e W2 ⟨rfl,κ⟩;have Uy:=aa (aV R9.o κ);clear δ κ;go_upto_region 2 with(fail)
 refine bU fun W3 φ=>?_;obtain⟨Γ,k5,k6,hz3⟩:=Yl φ;have ζ:=aa (aV Uy.o Γ);have Bc:=aa (af k5 k6);clear φ Γ k5 k6;obtain⟨N,hN⟩: ∃N,N=9+GQ.length:=⟨_,rfl⟩;have hmk:(Instr.makeSlice 25 (iv (3+(GQ.length:Int)+6)) (iv (3+(GQ.length:Int)+6))).run Tryz.prog W3= .ok (.slice (some ⟨W3.heap.size,0,none⟩) N N) (W3.alloc (.cells (List.replicate N (Value.int .u8 0)).toArray 5)):=by
  have e:(3+(GQ.length:Int)+6)=((N:Nat):Int):=ϑ;rw[e];exact NM N ϑ W3
 go_upto_region 3 with(fail)
 refine bU fun W4 zu=>?_;have k7:W4.heap[W2.heap.size+2]? =some (.cells (List.replicate (9+GQ.length) (Value.int .u8 0)).toArray 5 (0,0)):=by
  rw[zu, <-hz3,List.toArray_replicate];exact av _ _
 have Ω:Ϙ W3 W4:=by rw[zu];exact ai (aF _ _) _
 have hw2:w.heap.size<=W2.heap.size:=Uy.o.size;have gJ:=aa (aV ζ.o Ω);have k5:=(Ω.block W2.heap.size ϑ).trans Bc.o.1;have k6:=(Ω.block (W2.heap.size+1) ϑ).trans Bc.o.2;clear zu Ω hmk hN Bc;obtain⟨g,hg⟩: ∃g,W2.heap.size+2=g:=⟨_,rfl⟩;obtain⟨t6,h6⟩: ∃g,W2.heap.size+1=g:=⟨_,rfl⟩;obtain⟨t5,h5⟩: ∃g,W2.heap.size=g:=⟨_,rfl⟩;rw[hg] at k7⊢;rw[h6] at k6⊢;rw[h5] at k5⊢;have hne:g≠t5/\g≠t6/\w.heap.size<=g:=ϑ;have Ie:=aa hne;clear hg h6 h5 hne hz3 hw2;have vH:=aa k7;have MC:=aa k5;have HK6:=aa k6;obtain⟨c6,f6,l6⟩:=ae k6;clear k5 k6 k7;have hc6: ∀j v,[uv r,uv s][j]? =some v->W4.cell? ((⟨t6,2,none⟩:Addr).add j)=some v:=fun j v hj=>by
  match j,hj with
  |0,hj=>exact(c6 2).trans hj
  |1,hj=>exact(c6 3).trans hj
 obtain⟨L0,hL0⟩: ∃L0,L0=List.replicate (9+GQ.length) (Value.int .u8 0):=⟨_,rfl⟩;have hl0:L0.length=9+GQ.length:=by rw[hL0,List.length_replicate]
 have k7:=vH.o;rw[<-hL0] at k7;have hcp:(Builtin.copy_ #[25,25] 3 #[.slice (some ⟨g,0,none⟩) (9+GQ.length) (9+GQ.length),.slice (some ⟨t6,2,none⟩) 2 2]).run Tryz.prog W4= .ok (goInt 2) (W4.setRow g (splice L0 0 [uv r,uv s]).toArray):=by
  have h:=run_copy_row (P:=Tryz.prog) W4 25 25 3 5 g 0 (9+GQ.length) (9+GQ.length) ⟨t6,2,none⟩ 2 2 L0.toArray 5 [uv r,uv s] Tryz.underlying25 ϰ k7 (by rw[show Nat.min 2 (9+GQ.length)=2 from Nat.min_eq_left ϑ];rfl) hc6 ϗ (by simp[uv,Value.oneCell']);exact h
 have HL0:=aa hl0;clear hc6 hL0 hl0 vH;have vH:=aa k7;clear k7;go_upto_region 4 with(fail)
 refine bU fun W5 qM=>?_;obtain⟨L1,hL1⟩: ∃L1,L1=splice L0 0 [uv r,uv s]:=⟨_,rfl⟩;rw[<-hL1] at qM;have hl1:L1.length=9+GQ.length:=by rw[hL1,length_splice _ _ _ (by rw[HL0.o];simp;omega),HL0.o]
 obtain⟨h5,k7,hb5⟩:=row_step qM vH.o (Ie.o.1) MC.o;have lM:=aa (gJ.o.trans (hb5.mono Ie.o.2.2));have HL1:=aa (af hL1 hl1);obtain⟨c5,f5,l5⟩:=ae h5;obtain⟨x2,g7⟩: ∃x,W5.cell? ⟨g,2,none⟩=some x:=⟨L1[2]' ϑ,by rw[(ae k7).1 2];simp⟩;obtain⟨_,f7,l7⟩:=ae k7;have H5:=aa (af h5 k7);clear qM h5 k7 hb5 hL1 hl1 hcp c6 f6 l6 MC HK6 vH gJ;go_upto_region 5 with(fail)
 refine bU fun W6 ug=>?_;obtain⟨h6,k8,hb6⟩:=AX ug H5.o.2 Ie.o.1 H5.o.1;obtain⟨L2,hL2⟩: ∃L2,L2=L1.set 2 (uv c1):=⟨_,rfl⟩;have hl2:L2.length=9+GQ.length:=by rw[hL2,nV,HL1.o.2]
 rw[<-hL2] at k8;have nJ:=aa (lM.o.trans (hb6.mono Ie.o.2.2));have HL2:=aa (af hL2 hl2);have H6:=aa (af h6 k8);clear ug h6 k8 hb6 hL2 hl2 c5 f5 l5 g7 f7 l7 H5 lM;have hcq:(Builtin.copy_ #[25,9] 3 #[.slice (some ⟨g,3,none⟩) (9+GQ.length-3) (9+GQ.length-3),.string (dS GQ)]).run Tryz.prog W6= .ok (goInt GQ.length) (W6.setRow g (splice L2 3 (Lib.byteCells GQ)).toArray):=by
  have h:=Lib.run_copy_row_string (P:=Tryz.prog) W6 25 9 3 5 g 3 (9+GQ.length-3) (9+GQ.length-3) (dS GQ) L2.toArray 5 Tryz.underlying25 ϰ H6.o.2 (by rw[τ];omega) (by rw[τ];have:=HL2.o.2;simp;omega);rw[h,τ];have e:L2.toArray.toList.take 3++Lib.byteCells (dS GQ).data.toList++L2.toArray.toList.drop (3+GQ.length)=splice L2 3 (Lib.byteCells GQ):=by
   unfold splice;rw[HBL.o,jg]
  rw[e]
 go_upto_region 6 with(fail)
 refine bU fun W7 vz=>?_;obtain⟨L3,hL3⟩: ∃L3,L3=splice L2 3 (Lib.byteCells GQ):=⟨_,rfl⟩;rw[<-hL3] at vz;have hl3:L3.length=9+GQ.length:=by rw[hL3,length_splice _ _ _ (by rw[HL2.o.2,HBL.o];omega),HL2.o.2]
 obtain⟨h7,k8,uY⟩:=row_step vz H6.o.2 Ie.o.1 H6.o.1;have xM:=aa (nJ.o.trans (uY.mono Ie.o.2.2));have HL3:=aa (af hL3 hl3);have H7:=aa (af h7 k8);clear vz h7 k8 uY hL3 hl3 hcq H6 nJ;go_upto_region 7 with(fail)
 rw[show 9+GQ.length-(3+GQ.length)=6 from by omega];obtain⟨c7,f7,l7⟩:=ae H7.o.1;obtain⟨c8,f8,l8⟩:=ae H7.o.2;obtain⟨x3,g3⟩: ∃x,W7.cell? ⟨g,3+GQ.length,none⟩=some x:=⟨L3[3+GQ.length]'(by have:=HL3.o.2;omega),by rw[c8 (3+GQ.length)];simp⟩;clear c8;go_upto_region 8 with(fail)
 refine bU fun W8 hW8=>?_;obtain⟨h8,k8,tN⟩:=AX hW8 H7.o.2 Ie.o.1 H7.o.1;obtain⟨L4,hL4⟩: ∃L4,L4=L3.set (3+GQ.length) (uv c1):=⟨_,rfl⟩;have hl4:L4.length=9+GQ.length:=by rw[hL4,nV,HL3.o.2]
 rw[<-hL4] at k8;have nG:=aa (xM.o.trans (tN.mono Ie.o.2.2));have HL4:=aa (af hL4 hl4);have H8:=aa (af h8 k8);clear hW8 h8 k8 tN hL4 hl4 c7 f7 l7 f8 l8 g3 H7 xM;have hct: ∀j v,[uv a,uv b,uv c,uv d][j]? =some v->W8.drew.cell? ((⟨t5,3,none⟩:Addr).add j)=some v:=fun j v hj=>by
  obtain⟨c5,_,_⟩:=ae H8.o.1
  match j,hj with
  |0,hj=>exact(c5 3).trans hj
  |1,hj=>exact(c5 4).trans hj
  |2,hj=>exact(c5 5).trans hj
  |3,hj=>exact(c5 6).trans hj
 have hcr:(Builtin.copy_ #[25,25] 3 #[.slice (some ⟨g,3+GQ.length+1,none⟩) 5 5,.slice (some ⟨t5,3,none⟩) 4 4]).run Tryz.prog W8.drew= .ok (goInt 4) (W8.drew.setRow g (splice L4 (4+GQ.length) [uv a,uv b,uv c,uv d]).toArray):=by
  rw[show 3+GQ.length+1=4+GQ.length from by omega];have h:=run_copy_row (P:=Tryz.prog) W8.drew 25 25 3 5 g (4+GQ.length) 5 5 ⟨t5,3,none⟩ 4 4 L4.toArray 5 [uv a,uv b,uv c,uv d] Tryz.underlying25 ϰ H8.o.2 rfl hct (by have:=HL4.o.2;simp;omega) (by simp[uv,Value.oneCell']);rw[h,jg];rfl
 clear hct;go_region
 go_upto_region 9 with(fail)
 refine bU fun W9 Jb=>?_;obtain⟨L5,hL5⟩: ∃L5,L5=splice L4 (4+GQ.length) [uv a,uv b,uv c,uv d]:=⟨_,rfl⟩;rw[<-hL5] at Jb;have hl5:L5.length=9+GQ.length:=by rw[hL5,length_splice _ _ _ (by rw[HL4.o.2];simp;omega),HL4.o.2]
 obtain⟨h9,k9,uF⟩:=row_step (W:=W8.drew) Jb H8.o.2 Ie.o.1 H8.o.1;have oU:=aa (nG.o.drew.trans (uF.mono Ie.o.2.2));have HL5:=aa (af hL5 hl5);obtain⟨c5,f5,l5⟩:=ae h9;obtain⟨c8,f8,l8⟩:=ae k9;obtain⟨x5,g5⟩: ∃x,W9.cell? ⟨g,3+GQ.length+5,none⟩=some x:=⟨L5[3+GQ.length+5]' ϑ,by rw[c8 (3+GQ.length+5)];simp⟩;have H9:=aa (af h9 k9);clear Jb h9 k9 uF hL5 hl5 hcr H8 nG c8;go_upto_region 10 with(fail)
 refine bU fun MN af6=>?_;obtain⟨_,k10,vg⟩:=AX af6 H9.o.2 Ie.o.1 H9.o.1;have JD:=aa (oU.o.trans (vg.mono Ie.o.2.2));have HF:Hid (MN.heap[g]? =some (.cells (Lib.byteCells (bX i GQ)).toArray 5 (0,0))):=by
  have e:=Kg (a:=uv r) (b:=uv s) (c:=uv a) (d:=uv b) (e:=uv c) (f:=uv d) (x:=uv c1) (y:=uv c1) (z:=uv c3) (ln:=Lib.byteCells GQ) (Z:=L0) (by rw[HL0.o,HBL.o];omega);rw[HBL.o, <-HL1.o.1, <-HL2.o.1, <-HL3.o.1, <-HL4.o.1, <-HL5.o.1, <-HR.o] at e;rw[show 3+GQ.length+5=8+GQ.length from by omega] at k10;show _=_;rw[k10, <-e]
 clear af6 k10 vg c5 f5 l5 f8 l8 g5 H9 oU;go_wp2_with fail
 go_returns;exact⟨JD.o,g,_,rfl,rfl,Ie.o.2.2,HF.o⟩
theorem J3: ∀(ls:List ay),(∀l∈ls,l.length<=60)->iB ls<=69*ls.length:=by
 intro ls;induction ls with
 |nil=>intro _;exact ah _
 |cons l ls ih=>
  intro h;have h1:=ih fun x hx=>h x (nY _ hx);have h2:=h l List.mem_cons_self;simp only[iB,List.length_cons];omega
theorem G7 {ls:List ay} {k:Nat} (hk:k<ls.length):gU 0 (ls.take (k+1))=gU 0 (ls.take k)++bX k ls[k]:=by
 rw[eG hk,FR,fJ,Nat.zero_add,Nat.min_eq_left ϑ]
theorem Xo (l:ay):(Lib.byteCells l).toArray.size=l.length:=by simp[Lib.byteCells]
theorem bytes_at {W:World} {g n:Nat} {l:ay} {t:TypeId} {fr:Nat×Nat} (h:W.heap[g]? =some (.cells (Lib.byteCells l).toArray t fr)) (hn:l.length=n) (hm:n<=maxLen):aH 1 W (.slice (some ⟨g,0,none⟩) n n) n (Lib.byteCells l):=
 aH.bI (cs:=(Lib.byteCells l).toArray) 1 n h (by rw[Xo,hn,Nat.mul_one]) hm
theorem Ti (l:ay): ∀u∈Lib.byteCells l,u.oneCell'=true:=by
 intro u hu;simp only[Lib.byteCells,gW] at hu;obtain⟨x,_,rfl⟩:=hu;rfl
def aaZ (l:ay) (w:World) (e:Ending) (w':World):Prop:=Ϙ w w'/\ ∃v,e= .returned v/\w'.ownsRow w.heap.size 5 1 v l.length (Lib.byteCells l)
theorem Lg (ls:List ay) (v:Value) (w:World) (hv:iK w v ls) (hn:ls.length<=1000) (hl: ∀l∈ls,l.length<=60):Ϝ 32 #[v] w (aaZ (qP ls) w):=by
 obtain⟨lo,lc,rfl⟩:=aH.open hv;have HV:=aa hv;have HL:=aa hl;clear hv hl;go_enter Tryz.func32,Tryz.ntmps32;go_wp2_with fail
 go_loopw [2,7] (fun u i wr=> ∃k:Nat,k<=ls.length/\i= .int .i64 k/\Ϙ w wr/\wr.ownsRow w.heap.size 5 1 u (gU 0 (ls.take k)).length (Lib.byteCells (gU 0 (ls.take k)))) (fun _ i _=>ls.length-(intOf i).toNat)
 case atStart=>exact⟨0,bE _,rfl,aF _ _,⟨rfl,.inl ⟨rfl,rfl⟩⟩⟩
 case round=>
  obtain⟨k,hk,rfl,hB,σ⟩:=hrel;by_cases uM:k<ls.length
  ·obtain⟨g1,f1,e1,r1,c1⟩:=nM (HV.o.below hB (ah _)) uM;have HB:=aa hB;have HT:=aa (G7 uM);have hll:=HL.o _ (bZ uM);have hs1:(gU 0 (ls.take k)).length<=69*k:=by
    have h1:=J3 (ls.take k) fun l h=>HL.o l (mi h);rw[fJ,Nat.min_eq_left ϑ] at h1;rw[zz];exact h1
   have HR:=aa (Np k ls[k] wr ϑ hll);have HQ:=aa (iT k ls[k]);obtain⟨x,hx⟩: ∃x,x=ls[k]:=⟨_,rfl⟩;rw[<-hx] at c1 HR HT HQ hll;clear hx;generalize hA:gU 0 (ls.take k)=A at*
   have hlo:=aM σ;obtain⟨oo,oc,rfl⟩:=hlo;have HO:=aa σ;have oK:(k:Int)<ls.length:=ϑ;cases e1;clear hB σ hA;go_wp2_with fail
   refine HR.o.mono ?_;rintro e W2 ⟨κ,g,n,rfl,rfl,hg,hk2⟩;have Uy:=aa (aV HB.o κ);have zX:=aa (az (Ms:=[]) HO.o (Ext.ax κ) ϕ);have HS2:Hid (aH 1 W2 (.slice (some ⟨g,0,none⟩) (9+x.length) (9+x.length)) (9+x.length) (Lib.byteCells (bX k x))):=aa (bytes_at hk2 HQ.o (by simp only[maxLen];omega));clear κ hk2 hg;go_wp2_with (at_builtin;go_loud (refine cZ rfl _ _ Na rfl w.heap.size (.slice oo A.length oc) A.length (Lib.byteCells A) rfl zX.o (.slice (some ⟨g,0,none⟩) (9+x.length) (9+x.length)) (9+x.length) (Lib.byteCells (bX k x)) rfl HS2.o (Ti _) ϑ ϑ Uy.o.size ?_))
   intro v' W3 Gm Y7 _;have hB3:Ϙ w W3:=Below.grown Uy.o Y7 (by have:=Uy.o.size;omega) (fun g e=>(aS zX.o g e).1);have ζ:=aa hB3;have hown3:W3.ownsRow w.heap.size 5 1 v' (gU 0 (ls.take (k+1))).length (Lib.byteCells (gU 0 (ls.take (k+1)))):=by
    rw[HT.o,show Lib.byteCells (A++bX k x)=Lib.byteCells A++Lib.byteCells (bX k x) from by simp[Lib.byteCells],cu,HQ.o]
    exact Gm
   have HO3:=aa hown3;clear Gm Y7 hB3 hown3;go_wp2_with fail
   go_roundw;all_goals first
    |exact⟨k+1,by omega,by go_num,ζ.o,HO3.o⟩
    |(simp[intOf];omega)
  ·have Y9:k=ls.length:=ϑ;have HO:Hid (wr.ownsRow w.heap.size 5 1 u2 (qP ls).length (Lib.byteCells (qP ls))):=aa (by
    rw[Y9,List.take_length] at σ;exact σ)
   have HB:=aa hB;clear hB σ;go_wp2_with fail
   go_returns;exact⟨HB.o,_,rfl,HO.o⟩
theorem yz {ls:List ay} (h:eD ls=0):ls.length<=40/\ ∀l∈ls,l.length<=60:=by
 unfold eD at h;split at h
 ·omega
 ·rename_i hc;refine⟨by omega,fun l hl=>?_⟩;apply Classical.byContradiction;intro hn;exact hc (.inr (List.any_eq_true.2 ⟨l,hl,by simp;omega⟩))
def QJ (q:Int) (ls:List ay) (w:World) (e:Ending) (w':World):Prop:=
 Ϙ w w'/\((q≠0/\e= .returned (.tuple #[.slice none 0 0,iv q]))∨(q=0/\ ∃v,e= .returned (.tuple #[v,iv 0])/\w'.ownsRow w.heap.size 5 1 v (qP ls).length (Lib.byteCells (qP ls))))
theorem Hw (ls:List ay) (v:Value) (w:World) (hv:iK w v ls) (hln: ∀x∈ls,x.length<=1000000):Ϝ 10 #[v] w (QJ (eD ls) ls w):=by
 have HF:=aa (AO ls v w hv hln);have HW:Hid (eD ls=0-> ∀W,Ϙ w W->Ϝ 32 #[v] W (aaZ (qP ls) W)):=aa (fun h W hb=>Lg ls v W (hv.below hb (ah _)) (by have:=(yz h).1;omega) (yz h).2)
 obtain⟨lo,lc,rfl⟩:=aH.open hv;clear hv;obtain⟨q,hq⟩: ∃q,eD ls=q:=⟨_,rfl⟩;rw[hq] at HF HW⊢;have HQ:=aa hq;clear hq;go_enter Tryz.func10,Tryz.ntmps10;go_wp2_with fail
 refine HF.o.mono ?_;rintro e W1 ⟨rfl,δ⟩;have R9:=aa δ;clear δ;by_cases hz:q=0
 ·subst hz;go_wp2_with fail
  refine(HW.o (by trivial) W1 R9.o).mono ?_;rintro e W2 ⟨κ,v2,rfl,ho⟩;have Uy:=aa (aV R9.o κ);obtain⟨o2,c2,rfl⟩:=aM ho;have HO:=aa (bK ho R9.o.size);clear κ ho;go_wp2_with fail
  go_returns;exact⟨Uy.o,.inr ⟨rfl,_,rfl,HO.o⟩⟩
 ·go_wp2_with fail
  go_returns;exact⟨R9.o,.inl ⟨hz,rfl⟩⟩
theorem wM:(∀l∈fO,l.length<=1000000)/\ ∀l∈fO++pQ,l.length<=1000000:=by decide+kernel
theorem JJ:Ak fO=aee:=by
 unfold Ak;rw[aG qm.1,xW];unfold fV;rw[aG qm.1];exact Uo
theorem MR:pM (fO++pQ)=[0,0,0,0,0,0,0,0,0,0,0,0,0,2,6,4]:=by
 unfold pM;rw[aG qm.2];exact QQ
theorem XB:eD [[97]]=0/\qP [[97]]=[48,49,58,97,58,48,50,50,51,10]:=by decide+kernel
theorem Mj (w:World) (hE:Env w):Ϝ 9 #[] w (PV (.bool true) w):=by
 have HE:Hid (∀W,Ϙ w W->Env W):=aa (fun W hb=>hE.below hb (ah _));have HY:Hid (∀W,Ϝ 19 #[.slice none 0 0] W (Ia fO W)):=aa (fun W=>by have h:=Cs [] (.slice none 0 0) W (aH.nil _ _) ϕ;rw[List.append_nil] at h;exact h)
 clear hE;go_enter Tryz.func9,Tryz.ntmps9;go_wp2_with fail
 refine(HY.o w).mono ?_;rintro e W1 ⟨o1,c1,rfl,ho1,δ⟩;have R9:=aa δ;have HO:=aa (AZ _ fO W1 (aH.bY ho1) (HE.o W1 δ) wM.1);clear δ ho1;go_wp2_with fail
 refine HO.o.mono ?_;rintro e W2 ⟨κ,u2,rfl,hu2⟩;rw[F7.1];rw[F7.2] at hu2;obtain⟨uo,uc,rfl⟩:=aH.open hu2;have Uy:=aa (aV R9.o κ);have HU2:=aa hu2;clear κ hu2 HO R9;simp only[List.length_cons,List.length_nil,Nat.reduceAdd];go_wp2_with fail
 refine(HY.o W2).mono ?_;rintro e W3 ⟨o3,c3,rfl,ho3,Γ⟩;have ζ:=aa (aV Uy.o Γ);have HU3:=aa (HU2.o.below Γ (ah _));have HT:=aa (xK _ fO W3 (aH.bY ho3) (HE.o W3 ζ.o) wM.1);clear Γ ho3 Uy HU2;go_wp2_with fail
 refine HT.o.mono ?_;rintro e W4 ⟨Ω,u4,rfl,hu4⟩;rw[F6.1];rw[F6.2] at hu4;obtain⟨vo,vc,rfl⟩:=aH.open hu4;have gJ:=aa (aV ζ.o Ω);have HU4:=aa (HU3.o.below Ω (ah _));have HV4:=aa hu4;clear Ω hu4 HT ζ HU3;simp only[List.length_cons,List.length_nil,Nat.reduceAdd];go_wp2_with fail
 refine(HY.o W4).mono ?_;rintro e W5 ⟨o5,c5,rfl,ho5,hb5⟩;have lM:=aa (aV gJ.o hb5);have HU5:=aa (HU4.o.below hb5 (ah _));have HV5:=aa (HV4.o.below hb5 (ah _));have ME:=aa (yF _ fO W5 (aH.bY ho5) (HE.o W5 lM.o) wM.1);clear hb5 ho5 gJ HU4 HV4;go_wp2_with fail
 refine ME.o.mono ?_;rintro e W6 ⟨hb6,rfl⟩;rw[JJ,qm.1];have nJ:=aa (aV lM.o hb6);have HU6:=aa (HU5.o.below hb6 (ah _));have HV6:=aa (HV5.o.below hb6 (ah _));clear hb6 ME lM HU5 HV5;have HW:Hid (∀W,W=W6.alloc (.cells #[.string ⟨#[97]⟩] 9)->Ϝ 10 #[.slice (some ⟨W6.heap.size,0,none⟩) 1 1] W (QJ (eD [[97]]) [[97]] W)):=aa (fun W hW=>Hw [[97]] _ W (by
  have hk:W.heap[W6.heap.size]? =some (.cells (bz [[97]]).toArray 9 (0,0)):=by rw[hW];exact av _ _
  exact aH.bI 1 1 hk rfl ϖ) ϖ)
 go_wp2_with fail
 refine(HW.o _ rfl).mono ?_;rintro e W7 ⟨uY,⟨hq,_⟩|⟨_,v7,rfl,Ya⟩⟩
 ·exact absurd XB.1 hq
 rw[XB.2] at Ya;obtain⟨wo,wc,rfl⟩:=aM Ya;have Oq:=aV (ai (aF W6.heap.size W6) (.cells #[.string ⟨#[97]⟩] 9)) uY;have xM:=aa (aV nJ.o Oq);have HU7:=aa (HU6.o.below Oq (ah _));have HV7:=aa (HV6.o.below Oq (ah _));have HW7:=aa (aH.bY Ya);clear uY Ya Oq HW nJ HU6 HV6;simp only[List.length_cons,List.length_nil,Nat.reduceAdd];have HM:Hid (∀W,W=W7.alloc (.cells (bz pQ).toArray 9)->Ϝ 19 #[.slice (some ⟨W7.heap.size,0,none⟩) 3 3] W (Ia (fO++pQ) W)):=aa (fun W hW=>Cs pQ _ W (by
  have hk:W.heap[W7.heap.size]? =some (.cells (bz pQ).toArray 9 (0,0)):=by rw[hW];exact av _ _
  exact aH.bI 1 3 hk rfl ϖ) ϖ)
 go_wp2_with fail
 refine(HM.o _ rfl).mono ?_;rintro e W8 ⟨o8,c8,rfl,nH,tN⟩;have Wy:=aV (ai (aF W7.heap.size W7) (.cells (bz pQ).toArray 9)) tN;have nG:=aa (aV xM.o Wy);have HU8:=aa (HU7.o.below Wy (ah _));have Fh:=aa (HV7.o.below Wy (ah _));have HW8:=aa (HW7.o.below Wy (ah _));have HL8:=aa (aH.bY nH);clear tN nH Wy HM xM HU7 HV7 HW7;go_wp2_with fail
 refine(qZ (.slice o8 (fO++pQ).length c8) (fO++pQ) W8 (HL8.o) (HE.o W8 nG.o) (wM.2) [] ϕ).mono ?_;rintro e Pd ⟨κ,Va,esa,cv,he,hX,hC⟩;subst he;obtain⟨coa,Tf,rfl⟩:=aM hC;have hs2:=κ.size;have hS2:=hX Pd (Ext.refl _ _);rename_i hK;refine hK _ _ ?_;refine aC rfl _ (by go_simp;first|rfl|exact⟨rfl,rfl⟩) ?_;simp only[zp];refine aC rfl _ (by go_simp;first|rfl|exact⟨rfl,rfl⟩) ?_;simp only[zp];refine aC rfl _ (by go_simp;first|rfl|exact⟨rfl,rfl⟩) ?_;simp only[zp];refine aC rfl _ (by go_simp;first|rfl|exact⟨rfl,rfl⟩) ?_;simp only[zp];obtain⟨ga,hg⟩: ∃g,g=Pd.heap.size:=⟨_,rfl⟩;refine aC rfl (w':=Pd.alloc (.cells df 62 (0,0))) (.pointer (some ⟨ga,0,none⟩)) (by rw[hg];go_simp;try rfl) ?_;simp only[zp];have hz2:(Pd.alloc (.cells df 62 (0,0))).heap[ga]? =some (.cells df 62 (0,0)):=by rw[hg];exact av _ _
 refine wpList_store_row rfl _ _ _ rfl ga (bG (fV (fO++pQ)) Va) ϰ ϰ _ df hz2 ϰ ϰ (by rw[jk];exact fun u hu=>fC hS2 u (jS.2 hu)) ?_
 simp only[zp];refine gm fun Hy φ=>?_;obtain⟨uQ,jL⟩: ∃uQ,uQ=Pd.alloc (.cells df 62 (0,0)):=⟨_,rfl⟩;rw[<-jL] at φ hz2;have kX:Ext [ga] uQ Hy:=by rw[φ];exact dz
 have hs3:=kX.size;have zm:uQ.heap.size=ga+1:=by rw[jL,hg];simp
 have kN:Ϙ Pd Hy:=fu (by rw[jL];exact ai (aF _ _) _) kX ϑ
 have Wd:Hy.heap[ga]? =some (.cells (bG (fV (fO++pQ)) Va) 62 (0,0)):=by rw[φ];exact setRow_heap _ _ _ _ _ _ hz2
 have Γ:=aV κ kN;have afG:W8.heap.size<=ga:=ϑ;have afC:ga<Hy.heap.size:=ϑ;have H3a:=aa (af Γ (af Wd (af (hS2.below kN (ah _)) (aH.bY (az (Ms:=[]) hC (Ext.ax kN) ϕ)))));clear hX hC φ jL kX kN κ hS2 hz2 hK hs2 hs3 zm hg Γ;have WO:=H3a.o.1;have Sz:aH 1 Hy (.slice coa (pM (fO++pQ)).length Tf) (pM (fO++pQ)).length (ag (pM (fO++pQ))):=H3a.o.2.2.2;rw[MR] at Sz⊢;rw[qm.2];simp only[List.length_cons,List.length_nil,Nat.reduceAdd] at Sz⊢;have oU:=aa (aV nG.o WO);have hU9:=HU8.o.below WO (ah _);have HV9:=aa (Fh.o.below WO (ah _));have HW9:=aa (HW8.o.below WO (ah _));have hlc:16<=Tf:=by obtain⟨_,o',c',hv,h1,_⟩:=Sz;cases hv;exact h1
 obtain⟨eb,Lp,rfl,heb,_⟩:=aL.cell (l:=[0,0,0,0,0,0,0,0,0,0,0,0,0,2,6,4]) Sz (k:=0) ϕ;have hcut:=aH.cut Sz (l:=13) (k:=16) ϑ ϑ;rw[show sliced (some ⟨eb,Lp,none⟩) 13 16 Tf 1= .slice (some ⟨eb,Lp+13,none⟩) 3 (Tf-13) from by unfold sliced;rw[ak ϑ];simp[Addr.add_lit]] at hcut
 have xL:=aa (show aL Hy (.slice (some ⟨eb,Lp+13,none⟩) 3 (Tf-13)) [2,6,4] from hcut);obtain⟨ub,anC,rfl,hub,d1,d2⟩:=bD.cell (l:=[(5,20),(0,15)]) hU9 (k:=0) ϕ;obtain⟨ub2,alj,he,_,e1,e2⟩:=bD.cell (l:=[(5,20),(0,15)]) hU9 (k:=1) ϕ;injection he with he;injection he with h1 h2;subst h1 h2;simp only[au,Nat.zero_mul,Nat.one_mul,Nat.add_zero] at d1 d2 e1 e2;have HI:Hid (∀W,W=Hy.alloc (.cells #[iv 0] 3)->Ϝ 30 #[.slice vo 1 vc,.slice (some ⟨Hy.heap.size,0,none⟩) 1 1] W (PV (.bool true) W)):=aa (fun W hW=>yg [0] _ _ W (by rw[hW];exact HV9.o.alloc _) (by
  have hk:W.heap[Hy.heap.size]? =some (.cells #[iv 0] 3 (0,0)):=by rw[hW];exact av _ _
  exact aH.bI 1 1 hk rfl ϖ))
 clear HU8 Fh HW8 HL8 H3a WO Sz hU9 hcut Wd;go_wp2_with fail
 refine(HI.o _ rfl).mono ?_;rintro e MN ⟨rfl,vg⟩;have Qq:=aV (ai (aF Hy.heap.size Hy) (.cells #[iv 0] 3)) vg;have JD:=aa (aV oU.o Qq);have hcv:(convert 25 9 (.slice wo 10 wc)).run Tryz.prog MN= .ok (.string (dS [48,49,58,97,58,48,50,50,51,10])) MN:=uK (n:=10) (HW9.o.below Qq (ah _));have HC:Hid (∀W,W=MN.alloc (.cells #[iv 2,iv 6,iv 4] 3)->Ϝ 22 #[.slice (some ⟨eb,Lp+13,none⟩) 3 (Tf-13),.slice (some ⟨MN.heap.size,0,none⟩) 3 3] W (PV (.bool true) W)):=aa (fun W hW=>Hg [2,6,4] _ _ W (by rw[hW];exact(xL.o.below Qq (ah _)).alloc _) (by
  have hk:W.heap[MN.heap.size]? =some (.cells #[iv 2,iv 6,iv 4] 3 (0,0)):=by rw[hW];exact av _ _
  exact aH.bI 1 3 hk rfl ϖ))
 clear vg Qq HI d1 d2 e1 e2;go_wp2_with fail
 refine(HC.o _ rfl).mono ?_;rintro e XD ⟨rfl,WH⟩;have HR:=aa (aV JD.o (aV (ai (aF MN.heap.size MN) (.cells #[iv 2,iv 6,iv 4] 3)) WH));clear WH HC hcv;exact za7
theorem BytesAt.from {w:World} {o:Option Addr} {l:ay} {c:Nat} (h:aH 1 w (.slice o l.length c) l.length (Lib.byteCells l)) {a:Nat} (ha:a<=l.length) {x:Int} (hx:x=a):
 ∃so sc,(∀W,(Instr.slice 25 (.slice o l.length c) (some (iv x)) none none).run Tryz.prog W= .ok (.slice so (l.drop a).length sc) W)/\aH 1 w (.slice so (l.drop a).length sc) (l.drop a).length (Lib.byteCells (l.drop a)):=by
 subst hx;obtain⟨so,sc,h1,h2⟩:=Xg (P:=Tryz.prog) 25 uB szB (o:=o) (c:=c) ha;have h3:=aH.cut h ha (ah _);rw[h2,AY,List.take_length] at h3;rw[jR];exact⟨so,sc,h1,h3⟩
theorem BytesAt.mid {w:World} {o:Option Addr} {l:ay} {c:Nat} (h:aH 1 w (.slice o l.length c) l.length (Lib.byteCells l)) {a k:Nat} (ha:a<=k) (hk:k<=l.length) {x y:Int} (hx:x=a) (hy:y=k):
 ∃so sc,(∀W,(Instr.slice 25 (.slice o l.length c) (some (iv x)) (some (iv y)) none).run Tryz.prog W= .ok (.slice so (k-a) sc) W)/\aH 1 w (.slice so (k-a) sc) (k-a) (Lib.byteCells ((l.take k).drop a)):=by
 subst hx hy;have hc:l.length<=c:=by obtain⟨_,o',c',hv,h1,_⟩:=h;cases hv;exact h1
 obtain⟨so,sc,h1,h2⟩:=ZQ (P:=Tryz.prog) 25 uB szB (o:=o) (n:=l.length) (c:=c) ha (eU hk hc);have h3:=aH.cut h ha hk;rw[h2,AY] at h3;exact⟨so,sc,h1,h3⟩
theorem BytesAt.to {w:World} {o:Option Addr} {l:ay} {c:Nat} (h:aH 1 w (.slice o l.length c) l.length (Lib.byteCells l)) {k:Nat} (hk:k<=l.length) {x:Int} (hx:x=k):
 ∃so sc,(∀W,(Instr.slice 25 (.slice o l.length c) none (some (iv x)) none).run Tryz.prog W= .ok (.slice so k sc) W)/\aH 1 w (.slice so k sc) k (Lib.byteCells (l.take k)):=by
 subst hx;have hc:l.length<=c:=by obtain⟨_,o',c',hv,h1,_⟩:=h;cases hv;exact h1
 obtain⟨so,sc,h1,h2⟩:=acK (P:=Tryz.prog) 25 uB szB (o:=o) (n:=l.length) (c:=c) (eU hk hc);have h3:=aH.cut h (bE _) hk;rw[h2,AY,List.drop_zero] at h3;exact⟨so,sc,h1,h3⟩
def Ta (b:ay):Nat->Nat
 |0=>0
 |k+1=>Ta b k*10+((b.getD k 0).toNat-48)
theorem KD {b:ay} (h: ∀j,j<2->jb (b.getD j 0)=true):ou b=some (Ta b 2):=by
 unfold ou;rw[h 0 ϑ,h 1 ϑ];simp[Ta];omega
theorem Dn {b:ay} {k:Nat} (hk:k<2) (h:jb (b.getD k 0)=false):ou b=none:=by
 unfold ou;rw[ak];intro hc;rw[dU] at hc;have:k=0∨k=1:=ϑ;rcases this with rfl|rfl
 ·rw[hc.1] at h;cases h
 ·rw[hc.2] at h;cases h
theorem acJ (b:ay): ∀k,k<=2->Ta b k<=3000:=by
 intro k hk;have h0:=(b.getD 0 0).toNat_lt;have h1:=(b.getD 1 0).toNat_lt
 match k,hk with
 |0,_=>simp[Ta]
 |1,_=>simp only[Ta];omega
 |2,_=>simp only[Ta];omega
def akv (b:ay) (w:World) (e:Ending) (W:World):Prop:=
 Ϙ w W/\((ou b=none/\e= .returned (.tuple #[iv 0,.bool false]))∨ ∃n,ou b=some n/\n<=3000/\e= .returned (.tuple #[iv n,.bool (decide (n<=60))]))
theorem NS (b:ay) (v:Value) (w:World) (hv:aH 1 w v b.length (Lib.byteCells b)) (h2:2<=b.length):Ϝ 109 #[v] w (akv b w):=by
 obtain⟨o,c,rfl⟩:=aH.open hv;obtain⟨so,sc,Y5,hs⟩:=BytesAt.to hv h2 (x:=2) rfl;have HS:=aa hs;clear hv hs;go_enter Tryz.func109,Tryz.ntmps109;go_wp2_with fail
 go_loopw [4,10] (fun u i wr=> ∃k:Nat,k<=2/\i= .int .i64 k/\u= .int .i64 (Ta b k:Nat)/\(∀j,j<k->jb (b.getD j 0)=true)/\Ϙ w wr) (fun _ i _=>2-(intOf i).toNat)
 case atStart=>exact⟨0,bE _,rfl,rfl,fun j hj=>absurd hj (Nat.not_lt_zero _),aF _ _⟩
 case round=>
  obtain⟨k,hk,rfl,rfl,hd,hB⟩:=hrel;have HB:=aa hB;have HD:=aa hd;have hdl:=acJ b k hk;by_cases uM:k<2
  ·have htl:(b.take 2).length=2:=by simp;omega
   obtain⟨g,off,rfl,hg,hc⟩:=BytesAt.cell (l:=b.take 2) (aH.below HS.o hB (ah _)) (k:=k) ϑ;have hck:(b.take 2)[k]' ϑ =b.getD k 0:=by rw[List.getElem_take,getD_eq ϑ]
   rw[hck] at hc;obtain⟨m,hm⟩: ∃m,(b.getD k 0).toNat=m:=⟨_,rfl⟩;have hm9:m<=255:=by have:=(b.getD k 0).toNat_lt;omega
   have Y6:Ta b (k+1)=Ta b k*10+(m-48):=by rw[Ta,hm]
   have hdg:jb (b.getD k 0)=(decide (48<=m)&&decide (m<=57)):=by unfold jb;rw[hm]
   rw[hm] at hc;have π:=aa Y6;have HDG:=aa hdg;generalize Ta b k=d at*
   clear Y6 hdg hd hck htl hm hB;by_cases h1:m<48
   ·have h1':(m:Int)<48:=ϑ;go_wp2_with fail
    go_returns;exact⟨HB.o,.inl ⟨Dn uM (by rw[HDG.o,decide_eq_false ϑ,Bool.false_and]),rfl⟩⟩
   ·by_cases h2':57<m
    ·have h3: ¬(m:Int)<48:=ϑ;have h4:(57:Int)<m:=ϑ;go_wp2_with fail
     go_returns;exact⟨HB.o,.inl ⟨Dn uM (by rw[HDG.o,decide_eq_false (p:=m<=57) ϑ,Bool.and_false]),rfl⟩⟩
    ·have h3: ¬(m:Int)<48:=ϑ;have h4: ¬(57:Int)<m:=ϑ;have hw8:IntKind.u8.wrap ((m:Int)-48)=((m-48:Nat):Int):=zbJ;have hw9:wrap64 ((d:Int)*10+((m-48:Nat):Int))=((d*10+(m-48):Nat):Int):=by rw[IntWalk.wrap64_in _ ⟨by omega,by omega⟩];omega
     go_wp2_with fail
     refine⟨⟨k+1,by omega,by go_num,?_,?_,HB.o⟩,by simp[intOf];omega⟩
     ·rw[π.o];try rfl
     ·intro j hj;by_cases hjk:j<k
      ·exact HD.o j hjk
      ·obtain rfl:j=k:=ϑ;rw[HDG.o,decide_eq_true ϑ,decide_eq_true ϑ];rfl
  ·obtain rfl:k=2:=ϑ;have hy:=KD hd;have HY:=aa hy;generalize Ta b 2=d at*
   clear hy hd HD hB;go_wp2_with fail
   go_returns;exact⟨HB.o,.inr ⟨d,HY.o,hdl,by simp;omega⟩⟩
abbrev wO (l:List Int):List Value:=l.map (fun x=>Value.int .u8 x)
theorem uV {P:Program} (w:World) (d:Nat) (t e:TypeId) (n:Nat) (ht:P.underlying t=some (.array n e)) (he:P.underlying e=some (.int .u8)) (τ: ∀w,(sizeOf e).run P w= .ok 1 w)
 (xs ys:List Int) (hx:xs.length=n) (hy:ys.length=n):
 (Op.equalIn (d+2) t (.agg (wO xs).toArray) (.agg (wO ys).toArray)).run P w= .ok (xs==ys) w:=by
 rw[<-qW xs ys (hx.trans hy.symm),hx,List.range_eq_range',Op.equalIn];simp only[Sem.run_bind,run_underlying ht,Result.andThen_ok,τ,Std.Legacy.Range.forIn_eq_forIn_range',Std.Legacy.Range.size,Nat.sub_zero,Nat.add_sub_cancel,Nat.div_one];have hl: ∀i∈List.range' 0 n 1,i<n:=fun i hi=>by simpa using(List.mem_range'_1.1 hi).2
 generalize List.range' 0 n 1=l at hl⊢;induction l with
 |nil=>simp
 |cons i l ih=>
  have hi:i<n:=hl i ϕ;have px:(part e (wO xs).toArray (i*1)).run P w= .ok (.int .u8 (xs.getD i 0)) w:=by
   simp[part,isAgg,run_underlying he,wO,List.getD,dn (show i<xs.length by omega)]
  have py:(part e (wO ys).toArray (i*1)).run P w= .ok (.int .u8 (ys.getD i 0)) w:=by
   simp[part,isAgg,run_underlying he,wO,List.getD,dn (show i<ys.length by omega)]
  have pe:(Op.equalIn (d+1) e (.int .u8 (xs.getD i 0)) (.int .u8 (ys.getD i 0))).run P w= .ok (xs.getD i 0==ys.getD i 0) w:=run_equalIn_int w d e .u8 .u8 _ _ he;exact zbn
theorem Lm (l m:ay):(l.map (fun(c:UInt8)=>(c.toNat:Int))==m.map (fun(c:UInt8)=>(c.toNat:Int)))=(l==m):=by
 rw[Bool.eq_iff_iff,beq_iff_eq,beq_iff_eq];refine⟨fun h=>?_,fun h=>by rw[h]⟩;have hi: ∀a b:UInt8,(a.toNat:Int)=(b.toNat:Int)->a=b:=fun a b h=>UInt8.toNat_inj.1 ϑ;exact(List.map_inj_right hi).1 h
def ac1 (i:Nat) (b:ay) (w:World) (e:Ending) (W:World):Prop:=
 Ϙ w W/\ ∃s is,e= .returned (.tuple #[.string s,.bool is])/\((is=true/\ ∃l,mV i b=some l/\s=dS l)∨(is=false/\mV i b=none))
theorem IG {w W1:World} {A:Array Value} {t:TypeId} (h:W1=(w.alloc (.cells A t)).drew):
 Ϙ w W1/\W1.heap[w.heap.size]? =some (.cells A t (0,0)):=by
 subst h;exact⟨jE (ai (aF _ _) _),av _ _⟩
theorem QU (i:Nat) (b:ay) (v:Value) (w:World) (hv:aH 1 w v b.length (Lib.byteCells b)) (hi:i<=1000) (hb:b.length<=1000000000):Ϝ 61 #[iv i,v] w (ac1 i b w):=by
 obtain⟨o,c,rfl⟩:=aH.open hv;have HV:=aa (fun W (hb:Ϙ w W)=>hv.below hb (ah _));clear hv;go_enter Tryz.func61,Tryz.ntmps61;by_cases h9:b.length<9
 ·have h9':(b.length:Int)<9:=ϑ;go_wp2_with fail
  go_returns;exact⟨aF _ _,_,_,rfl,.inr ⟨rfl,by unfold mV;rw[aG h9]⟩⟩
 have h9': ¬(b.length:Int)<9:=ϑ;have HL:=aa (NS b _ w (HV.o w (aF _ _)) ϑ);go_wp2_with fail
 refine HL.o.mono ?_;rintro e W1 ⟨δ,⟨hn,rfl⟩|⟨n,hn,I7,rfl⟩⟩
 ·have R9:=aa δ;have HN:=aa hn;clear δ hn;go_wp2_with fail
  go_returns;exact⟨R9.o,_,_,rfl,.inr ⟨rfl,by unfold mV;rw[ak h9,HN.o]⟩⟩
 have R9:=aa δ;have HN:=aa hn;clear δ hn HL;by_cases h60:n<=60
 rotate_left
 ·rw[decide_eq_false h60];go_wp2_with fail
  go_returns;exact⟨R9.o,_,_,rfl,.inr ⟨rfl,by unfold mV;rw[ak h9,HN.o];simp only;rw[aG (.inl ϑ)]⟩⟩
 rw[decide_eq_true h60];by_cases hbn:b.length<9+n
 ·have ajM:(b.length:Int)<3+(n:Int)+6:=ϑ;go_wp2_with fail
  go_returns;exact⟨R9.o,_,_,rfl,.inr ⟨rfl,by unfold mV;rw[ak h9,HN.o];simp only;rw[aG (.inr hbn)]⟩⟩
 have ajM: ¬(b.length:Int)<3+(n:Int)+6:=ϑ;have Η:=HV.o W1 R9.o;obtain⟨s1,q1,e1,t1⟩:=BytesAt.mid Η (a:=3) (k:=3+n) ϑ ϑ (x:=3) (y:=3+(n:Int)) rfl ϑ;obtain⟨s2,q2,e2,t2⟩:=BytesAt.from Η (a:=3+n) ϑ (x:=3+(n:Int)) ϑ;rw[show 3+n-3=n from by omega] at t1;simp only[show 3+n-3=n from by omega] at e1;have hln:((b.take (3+n)).drop 3).length=n:=by simp;omega
 have uM:(b.take (3+n)).drop 3=(b.drop 3).take n:=by rw[List.drop_take];congr 1;omega
 have c1:=uK (W:=W1) (o:=s1) (n:=n) (c:=q1) (l:=(b.take (3+n)).drop 3) t1;have c2:=uK (W:=W1.drew) (o:=s1) (n:=n) (c:=q1) (l:=(b.take (3+n)).drop 3) (aH.below t1 (jE (aF W1.heap.size W1)) (ah _));have hdl:(b.drop (3+n)).length=b.length-(3+n):=ϕ;obtain⟨s3,q3,e3,t3⟩:=BytesAt.mid t2 (a:=1) (k:=5) ϑ ϑ (x:=1) (y:=5) rfl rfl;obtain⟨g1,f1,rfl,hg1,z1⟩:=BytesAt.cell Η (k:=2) ϑ;obtain⟨g2,f2,rfl,hg2,z2⟩:=BytesAt.cell t2 (k:=0) ϑ;obtain⟨_,_,hq,_,z3⟩:=BytesAt.cell t2 (k:=5) ϑ;cases hq;obtain⟨x0,x1,x2,x3,hX⟩: ∃x0 x1 x2 x3,((b.drop (3+n)).take 5).drop 1=[x0,x1,x2,x3]:=by
  have h4:(((b.drop (3+n)).take 5).drop 1).length=4:=by simp;omega
  match hq:((b.drop (3+n)).take 5).drop 1,h4 with
  |[a,b,c,d],_=>exact⟨a,b,c,d,rfl⟩
 rw[hX] at t3;obtain⟨g3,f3,rfl,hg3,y0⟩:=BytesAt.cell (l:=[x0,x1,x2,x3]) t3 (k:=0) ϕ;obtain⟨_,_,hq,_,y1⟩:=BytesAt.cell (l:=[x0,x1,x2,x3]) t3 (k:=1) ϕ;cases hq;obtain⟨_,_,hq,_,y2⟩:=BytesAt.cell (l:=[x0,x1,x2,x3]) t3 (k:=2) ϕ;cases hq;obtain⟨_,_,hq,_,y3⟩:=BytesAt.cell (l:=[x0,x1,x2,x3]) t3 (k:=3) ϕ;cases hq;simp only[Nat.add_zero,au] at y0 y1 y2 y3 z2;obtain⟨p2,hp2⟩: ∃x,b[2]=x:=⟨_,rfl⟩;obtain⟨p0,hp0⟩: ∃x,(b.drop (3+n))[0]' ϑ =x:=⟨_,rfl⟩;obtain⟨p5,hp5⟩: ∃x,(b.drop (3+n))[5]' ϑ =x:=⟨_,rfl⟩;rw[hp2] at z1;rw[hp0] at z2;rw[hp5] at z3;obtain⟨GQ,K7⟩: ∃x,(b.take (3+n)).drop 3=x:=⟨_,rfl⟩;rw[K7] at c1 c2 hln uM;have aeV:b.getD 2 0=p2:=by rw[<-hp2,getD_eq ϑ]
 have aeW:b.getD (3+n) 0=p0:=by rw[<-hp0,getD_eq ϑ,List.getElem_drop];rfl
 have aeU:b.getD (8+n) 0=p5:=by rw[<-hp5,getD_eq ϑ,List.getElem_drop];congr 1;omega
 simp only[Nat.reduceSub] at e3;obtain⟨m,hm⟩: ∃m,(b.drop (3+n)).length=m:=⟨_,rfl⟩;rw[hm] at e2 e3;have hm0:(0:Int)<(m:Int):=ϑ;have hm5:(5:Int)<(m:Int):=ϑ;have κ:(2:Int)<(b.length:Int):=ϑ;have ha: ∀W,(Instr.arrayAt 233 (.slice (some ⟨g3,f3,none⟩) 4 q3)).run Tryz.prog W= .ok (.pointer (some ⟨g3,f3,none⟩)) W:=fun W=>run_arrayAt W 233 _ 4 _ 4 q3 Tryz.underlying233 (ah _);have HT:=aa (fun W=>Cz i GQ W hi ϑ);have HX:=aa (af hX (af aeV (af aeW (af aeU (af uM hln)))));clear Η t1 t2 t3 hX hp2 hp0 hp5 aeV aeW aeU K7 uM hln HV hdl hm;go_upto_region 6 with(fail)
 go_region
 go_upto_region 7 with(fail)
 refine bU fun W2 hW2=>?_;have κ:Ϙ W1 W2:=by rw[hW2];exact jE (aF _ _)
 have Uy:=aa (aV R9.o κ);have y0:=((bH κ).1 g3 f3 hg3).trans y0;have y1:=((bH κ).1 g3 (f3+1) hg3).trans y1;have y2:=((bH κ).1 g3 (f3+2) hg3).trans y2;have y3:=((bH κ).1 g3 (f3+3) hg3).trans y3;have z1:=((bH κ).1 g1 (f1+2) hg1).trans z1;have z2:=((bH κ).1 g2 f2 hg2).trans z2;have z3:=((bH κ).1 g2 (f2+5) hg2).trans z3;have hg1:=eF hg1 κ.size;have hg2:=eF hg2 κ.size;have hg3:=eF hg3 κ.size;clear hW2 κ c1 c2;go_region
 go_upto_region 8 with(fail)
 refine bU fun W3 φ=>?_;obtain⟨Γ,k3⟩:=IG φ;have ζ:=aa (aV Uy.o Γ);obtain⟨d0,d1,d2,d3,hd⟩:=wY (gM i GQ);have HD:=aa hd;have HT2:Hid (∀W,Ϝ 107 #[iv i,.string (dS GQ)] W (PV (.agg #[uv 58,uv 58,uv 10,uv d0,uv d1,uv d2,uv d3]) W)):=aa fun W=>by
  have:=HT.o W;unfold PS at this;rw[hd] at this;exact this
 obtain⟨cc,ff,ll⟩:=ae k3;clear hd φ Γ k3 HT y0 y1 y2 y3 z1 z2 z3;refine zg 8 [] none [(4,Spec.val (.agg #[uv 58,uv 58,uv 10,uv d0,uv d1,uv d2,uv d3]))] ?_;simp only[zt];repeat ((first|refine zn ?_|refine zk ?_);simp only[zp])
 refine zw 107 (h:=fun W hE hF=>by exact HT2.o W) (t:=?_);simp only[zp];obtain⟨A,hA⟩: ∃A,([p2,p0,p5]==([58,58,10]:ay))=A:=⟨_,rfl⟩;obtain⟨B,hB⟩: ∃B,([x0,x1,x2,x3]==([d0,d1,d2,d3]:ay))=B:=⟨_,rfl⟩;have q1: ∀W:World,(Op.equalIn 9999 231 (.agg #[.int .u8 (p2.toNat:Int),.int .u8 (p0.toNat:Int),.int .u8 (p5.toNat:Int)]) (.agg #[uv 58,uv 58,uv 10])).run Tryz.prog W= .ok A W:=fun W=>by
  have q:=uV (P:=Tryz.prog) W 9997 231 5 3 Tryz.underlying231 Tryz.underlying5 (by intro w;go_simp) ([p2,p0,p5].map fun(c:UInt8)=>(c.toNat:Int)) (([58,58,10]:ay).map fun(c:UInt8)=>(c.toNat:Int)) rfl rfl;rw[Lm,hA] at q;exact q
 have q2: ∀W:World,(Op.equalIn 9999 233 (.agg #[.int .u8 (x0.toNat:Int),.int .u8 (x1.toNat:Int),.int .u8 (x2.toNat:Int),.int .u8 (x3.toNat:Int)]) (.agg #[uv d0,uv d1,uv d2,uv d3])).run Tryz.prog W= .ok B W:=fun W=>by
  have q:=uV (P:=Tryz.prog) W 9997 233 5 4 Tryz.underlying233 Tryz.underlying5 (by intro w;go_simp) ([x0,x1,x2,x3].map fun(c:UInt8)=>(c.toNat:Int)) (([d0,d1,d2,d3]:ay).map fun(c:UInt8)=>(c.toNat:Int)) rfl rfl;rw[Lm,hB] at q;exact q
 have HAB:=aa (af hA hB);clear hA hB;refine eY ϱ (.bool (A&&B)) ϱ (fun W hW=>by
  go_simp
  cases A <;>cases B <;>simp[q1,q2]) ?_
 simp only[zp];repeat ((first|refine zn ?_|refine zk ?_);simp only[zp])
 intro W4 FQ hF4;have Ω:Ϙ W3 W4:=Ext.below (show Ext [] W3 W4 from FQ);have gJ:=aa (aV ζ.o Ω);have hw:mV i b=if Cy i n b then some ((b.drop 3).take n) else none:=by unfold mV;rw[ak h9,HN.o];simp only;rw[ak ϑ]
 obtain⟨x1',x2',x3',x4',x5',x6'⟩:=HX.o;have hX:(b.drop (4+n)).take 4=[x0,x1,x2,x3]:=by
  rw[<-x1',List.drop_take,List.drop_drop,show 3+n+1=4+n from by omega]
 have ht:Cy i n b=(A&&B):=by
  unfold Cy;rw[x2',x3',x4',hX, <-x5',HD.o, <-HAB.o.1, <-HAB.o.2];simp[Bool.and_assoc]
 rw[ht, <-x5'] at hw;have HW:=aa hw;clear FQ hF4 Ω hw x1' x2' x3' x4' x5' x6' hX ht cc ff q1 q2;go_wp2_with fail
 go_returns;refine⟨gJ.o,_,_,rfl,?_⟩;rw[HW.o];cases (A&&B)
 ·exact .inr ⟨rfl,rfl⟩
 ·exact .inl ⟨rfl,_,rfl,rfl⟩
theorem PZ: ∀(f i:Nat) (b:ay) (k:Nat),k<=(dE f i b).length->dE (f-k) (i+k) (b.drop (iB ((dE f i b).take k)))=(dE f i b).drop k:=by
 intro f;induction f with
 |zero=>
  intro i b k hk;obtain rfl:k=0:=by simpa [dE] using hk
  simp[dE,iB]
 |succ f ih=>
  intro i b k hk;cases k with
  |zero=>simp[iB]
  |succ k=>
   cases hw:qw i b with
   |none=>
    have:dE (f+1) i b=[]:=by simp[dE,hw]
    rw[this] at hk;simp at hk
   |some l=>
    have hr:dE (f+1) i b=l::dE f (i+1) (b.drop (9+l.length)):=by simp[dE,hw]
    rw[hr] at hk⊢;have:=ih (i+1) (b.drop (9+l.length)) k (by simpa using hk);rw[List.take_succ_cons,List.drop_succ_cons,iB, <-this,List.drop_drop,show f+1-(k+1)=f-k from ϑ,show i+(k+1)=i+1+k from by omega]
theorem Rl {b:ay} {k:Nat} (hk:k<=(dE 40 0 b).length) (h40:k<40) {l:ay} (h:qw k (b.drop (iB ((dE 40 0 b).take k)))=some l): ∃h:k<(dE 40 0 b).length,(dE 40 0 b)[k]=l:=by
 have h1:=PZ 40 0 b k hk;obtain⟨f,hf⟩: ∃f,40-k=f+1:=⟨39-k,by omega⟩;rw[hf,Nat.zero_add,dE,h] at h1;simp only at h1;have uM:k<(dE 40 0 b).length:=by
  by_cases hc:k<(dE 40 0 b).length
  ·exact hc
  ·have h2:(dE 40 0 b).drop k=[]:=List.drop_eq_nil_of_le ϑ;rw[h2] at h1;cases h1
 rw[su uM] at h1;exact⟨uM,(List.cons.inj h1).1.symm⟩
theorem Gu {b:ay} {k:Nat} (hk:k<=(dE 40 0 b).length) (h:40<=k∨qw k (b.drop (iB ((dE 40 0 b).take k)))=none):k=(dE 40 0 b).length:=by
 rcases h with h|h
 ·have:=vQ 40 0 b;omega
 ·by_cases h40:40<=k
  ·have:=vQ 40 0 b;omega
  have h1:=PZ 40 0 b k hk;obtain⟨f,hf⟩: ∃f,40-k=f+1:=⟨39-k,by omega⟩;rw[hf,Nat.zero_add,dE,h] at h1;have:(dE 40 0 b).length-k=0:=by rw[<-List.length_drop, <-h1];rfl
  omega
theorem size_take (b:ay) (k:Nat):iB ((dE 40 0 b).take k)<=b.length:=by
 have h1:=Rc 40 0 b;have h2:iB (dE 40 0 b)=iB ((dE 40 0 b).take k)+iB ((dE 40 0 b).drop k):=by rw[<-Gi,List.take_append_drop]
 omega
def sQ (b:ay):List (ay×Nat):=(List.range (dE 40 0 b).length).map fun k=>((dE 40 0 b).getD k [],iB ((dE 40 0 b).take (k+1)))
theorem sP (b:ay):(sQ b).length=(dE 40 0 b).length:=by simp[sQ]
theorem Gt {b:ay} {k:Nat} (hk:k<(sQ b).length):(sQ b)[k]=((dE 40 0 b).getD k [],iB ((dE 40 0 b).take (k+1))):=by simp[sQ]
def agU (_:List Nat) (x:ay×Nat) (v:Array Value) (_:World):Prop:=v= #[.string (dS x.1),iv x.2]
def acZ (bx:Nat) (o:Option Addr) (c:Nat) (b:ay) (W:World):Prop:=
 W.heap[bx]? =some (.cells #[.slice o b.length c] 25 (0,0))/\aH 1 W (.slice o b.length c) b.length (Lib.byteCells b)
theorem BO {P:Program} {n:Nat} {c:Code} {Q:Exit->Act->World->Prop} {a:Act} {w:World} (h:c.wpIn Fence.wide n P (Exit.noGoto Q) a w):(Code.scope c).wpIn Fence.wide n P Q a w:=
 wpIn_wide.2 (wp_scope_straight (wpIn_wide.1 h))
theorem Kc (b:ay) (hb:b.length<=1000000000) (bx:Nat) (o:Option Addr) (c:Nat):
 acX Tryz.prog 60 #[.pointer (some ⟨bx,0,none⟩)] (sQ b) agU [] (fun _=>True) (acZ bx o c b):=by
 intro y J W hInv hstep hY h0;refine callsIn_wide.1 (show CallsIn Fence.wide 0 _ _ _ _ _ from ?_);have HI:=aa hInv;have π:=aa hstep;have HY:=aa hY;have H0:=aa h0;clear hInv hstep hY h0;refine callsIn_of_wp Tryz.func60 rfl trivial ?_;simp only[Tryz.ntmps60,List.size_toArray,List.length_cons,List.length_nil,Nat.reduceAdd,Nat.reduceSub,Array.replicate_succ,Array.replicate_zero,jy,jA,List.nil_append,List.cons_append];refine BO ?_
 gi_wp2_with fail
 refine wpIn_label ?_;rename_i hK;refine hK _ _ ?_
 gi_wp2_with fail
 gi_loopw [3,7] (fun a i wr=> ∃k:Nat,k<=(dE 40 0 b).length/\i= .int .i64 k/\a= .int .i64 (iB ((dE 40 0 b).take k):Nat)/\J [] (some k) wr) (fun _ i _=>40-(intOf i).toNat)
 case atStart=>exact⟨0,bE _,rfl,rfl,H0.o⟩
 case round=>
  obtain⟨k,hk,rfl,rfl,hJ⟩:=hrel;have HJ:=aa hJ;have Y6:=size_take b k;have HK:=aa hk;have afj:=vQ 40 0 b;by_cases h40:k<40
  rotate_left
  ·have acE: ¬(k:Int)<40:=ϑ;have HE:Hid (J [] (some (sQ b).length) wr):=aa (by rw[sP, <-Gu hk (.inl ϑ)];exact hJ);clear hJ Y6 hk afj
   gi_wp2_with fail
   go_end0
   exact⟨⟨_,rfl⟩,[],.inl HE.o⟩
  ·obtain⟨hbx,Y5⟩:=HI.o _ _ _ hJ;obtain⟨cc,ff,ll⟩:=ae hbx;obtain⟨at_,hat⟩: ∃n,iB ((dE 40 0 b).take k)=n:=⟨_,rfl⟩;rw[hat] at Y6⊢;obtain⟨so,sc,e1,t1⟩:=BytesAt.from Y5 Y6 (x:=(at_:Int)) rfl;have HW:=aa (QU k (b.drop at_) _ wr t1 ϑ ϗ);have HAT:=aa hat;have acE:(k:Int)<40:=ϑ;obtain⟨m,hm⟩: ∃m,(b.drop at_).length=m:=⟨_,rfl⟩;rw[hm] at e1 HW;have HDL:=aa hm;clear hJ hk afj hbx Y5 t1 hat hm
   gi_wp2_with fail
   refine(callsIn_wide.2 HW.o).mono ?_;rintro e W1 ⟨δ,s,is,rfl,h⟩;have R9:=aa δ;have BZ:=π.o _ [] _ _ _ HJ.o (Ext.ax δ) (fun m hm=> .inl hm) trivial;rcases h with⟨rfl,l,hl,rfl⟩|⟨rfl,hn⟩
   rotate_left
   ·have HE:Hid (J [] (some (sQ b).length) W1):=aa (by
     rw[sP, <-Gu HK.o (.inr (by rw[HAT.o, <-Ga];exact hn))];exact BZ)
    clear BZ hn δ HW e1
    gi_wp2_with fail
    simp only[Exit.noGoto];go_end0
    exact⟨⟨_,rfl⟩,[],.inl HE.o⟩
   ·obtain⟨uM,hget⟩:=Rl HK.o h40 (l:=l) (by rw[HAT.o, <-Ga];exact hl);have hend:((iB ((dE 40 0 b).take (k+1)):Nat):Int)=(at_:Int)+(3+(l.length:Int)+6):=by
     rw[eG uM,Gi,HAT.o,hget];simp only[iB];omega
    have Χ:k<(sQ b).length:=by rw[sP];exact uM
    have aoD:l.length<=60:=by rw[<-hget];exact xX 40 0 b _ (bZ uM)
    have τ:=nS l;obtain⟨g1,t1,a1,b1,hy1,Ec⟩:=HY.o [] k #[.string (dS l),.int .i64 ((at_:Int)+(3+(l.length:Int)+6))] W1 Χ BZ (by
     unfold agU;rw[Gt];simp only[fK,dn uM,Option.getD_some,hget];rw[hend])
    have HR1:=aa Ec;have ak4:=aa hend;have HLT:=aa uM;clear BZ Ec hend hget hl δ HW e1 Χ uM
    gi_wp2_with fail
    refine HR1.o.mono ?_;rintro e W2 ⟨⟨Oa,hsz2⟩,⟨rfl,hJ2⟩|⟨rfl,hJ2⟩⟩
    ·have HJ2:=aa hJ2;clear hJ2 Oa hsz2 hy1 HR1
     gi_wp2_with fail
     refine⟨⟨k+1,HLT.o,by go_num,by rw[ak4.o],HJ2.o⟩,by simp[intOf];omega⟩
    ·have HJ2:=aa hJ2;clear hJ2 Oa hsz2 hy1 HR1
     gi_wp2_with fail
     simp only[Exit.noGoto];go_returns;exact⟨⟨_,rfl⟩,[],.inr HJ2.o⟩
theorem Ke (o:Option Addr) (n c:Nat) (w:World):
 Ϝ 33 #[.slice o n c] w (fun e w'=>e= .returned (.func (.func 60) #[] #[.pointer (some ⟨w.heap.size,0,none⟩)])/\w'=w.alloc (.cells #[.slice o n c] 25)):=by
 go_enter Tryz.func33,Tryz.ntmps33;exact zbE
theorem XE: ∀(n:Nat) (w:World),n<=100000->Ϝ 62 #[iv n] w (PV (.string (dS (decDigits n))) w):=by
 intro n;induction n using Nat.strongRecOn with
 |_ n ih=>
  intro w hn;by_cases h:n<10
  ·rw[jq h];have hI:(n:Int)<10:=ϑ;have hw:IntKind.u8.wrap (48+(n:Int))=48+(n:Int):=zbJ;have hd:((xz n).toNat:Int)=48+(n:Int):=by rw[j5 h];omega
   have hcv:(convert 25 9 (.slice (some ⟨w.heap.size,0,none⟩) 1 1)).run Tryz.prog (w.alloc (.cells #[.int .u8 (48+(n:Int))] 5))= .ok (.string (dS [xz n])) (w.alloc (.cells #[.int .u8 (48+(n:Int))] 5)):=run_convert_bytes_back _ _ _ 5 ⟨w.heap.size,0,none⟩ 1 [xz n] Tryz.underlying25 Tryz.underlying5 Tryz.underlying9 (fun j hj=>by
    obtain rfl:j=0:=by simpa using hj
    simp only[List.getElem_cons_zero,hd];simp[Addr.add])
   generalize xz n=c at*
   clear ih;go_enter Tryz.func62,Tryz.ntmps62;go_wp2_with fail
   go_returns;exact⟨by simp,ai (aF _ _) _⟩
  ·rw[uJ h];have h1:=aa (fun W=>ih (n/10) ϑ W ϑ);have h2:=aa (fun W=>ih (n%10) ϑ W ϑ);have hI: ¬(n:Int)<10:=ϑ;have e1:(n:Int).tdiv 10=((n/10:Nat):Int):=by rw[Int.tdiv_eq_ediv_of_nonneg ϑ];omega
   have e2:(n:Int).tmod 10=((n%10:Nat):Int):=by rw[Int.tmod_eq_emod_of_nonneg ϑ];omega
   have hd2:decDigits (n%10)=[xz (n%10)]:=jq ϑ;have hl:=Jj 4 (n/10) ϑ;rw[hd2] at h2;have ha:n/10<=10000:=ϑ;have hb:n%10<10:=ϑ;clear ih;generalize n/10=a at*
   generalize n%10=b at*
   go_enter Tryz.func62,Tryz.ntmps62;go_wp2_with fail
   refine(h1.o w).mono ?_;rintro e W1 ⟨rfl,hB⟩;have R9:=aa hB;clear hB;go_wp2_with fail
   refine(h2.o W1).mono ?_;rintro e W2 ⟨rfl,hB⟩;have Uy:=aa (aV R9.o hB);clear hB;have hadd:=fun W=>iR (P:=Tryz.prog) (a:=decDigits a) (b:=[xz b]) rfl ϗ W;go_wp2_with fail
   go_returns;exact⟨by simp[qR],Uy.o⟩
end Go.Proofs.Z.Bk
end
section
namespace Go.Proofs.Z
open Go.RowKit Go.RG Go.SL gK Go.Deep
section
variable {H : Type} {enc : TypeId × Value → H} {P : Program} {W : World} {base b0 : Nat} {spare : Nat → Bool} {held : Bool} {r : Reach}
theorem Rw {α:Type} [Inhabited α] (f:α->List Value) (k:Nat) (hk0:0<k) (hf: ∀x,(f x).length=k) {t e:TypeId} (ht:P.underlying t=some (.slice e)) (hk:P.cellsOf e=k)
 (hel: ∀fuel cs x,DataW.trod enc P W base spare held fuel e cs=some x-> ∃y:α,cs=f y)
 {v:Value} (hok:Cell.ok P W r b0 t v) {fuel:Nat} {x:DataW H×List MemPlace} (h:DataW.trod enc P W base spare held fuel t [v]=some x):
 ∃l:List α,aH k W v l.length (l.flatMap f):=by
 rcases open_slice ht h with⟨hc,_⟩|⟨a,len,cap,m,n,D,Pl,hc,hb,hl,hm,hmm,_,hx⟩
 ·cases hc;exact⟨[],aH.nil k W⟩
 ·cases hc;have hsp:a.spot=none:=by
   simp only[Cell.ok,ht,World.has] at hok;exact hok.2.2.2.1
  have hlm:len<=m:=by rw[hmm];split <;>omega
  have each: ∀i,i<m-> ∃y:α, ∀j u,(f y)[j]? =some u->W.cell? ⟨a.block,a.off+(i*k+j),none⟩=some u:=by
   intro i hi;obtain⟨cs',h1,h2⟩:=hx i hi;rw[hk] at h1;obtain⟨_,IY,Q7⟩:=World.cells?_some h1;obtain⟨y,rfl⟩:=hel _ _ _ h2;refine⟨y,fun j u hj=>?_⟩;have hjk:j<k:=by rw[<-hf y];exact(iy.1 hj).1
   have h3:=Q7 j hjk;rw[add_add] at h3;obtain⟨b,off,sp⟩:=a;simp only at hsp;subst hsp;rw[Addr.add_lit] at h3;rw[h3,hj]
  obtain⟨Y,hY⟩:=choose_lt each;have IY:((List.range len).map Y).length=len:=ϕ;refine⟨(List.range len).map Y,?_,some a,cap,by rw[IY],by rw[IY];exact hl,hm,(fun h=>by cases h),fun a' ha=>?_⟩
  ·have: ∀l:List α,(l.flatMap f).length=l.length*k:=zb4;exact this _
  ·cases ha;refine⟨hsp,fun j u hj=>?_⟩;have hjl:j<(((List.range len).map Y).flatMap f).length:=(iy.1 hj).1;have afi:(((List.range len).map Y).flatMap f).length=len*k:=by
    have: ∀l:List α,(l.flatMap f).length=l.length*k:=zb4;rw[this,IY]
   rw[afi] at hjl;have hi:j/k<len:=(Nat.div_lt_iff_lt_mul hk0).2 hjl;have hr:j%k<k:=Nat.mod_lt _ hk0;have e:j/k*k+j%k=j:=by rw[Nat.mul_comm];exact Nat.div_add_mod j k
   have:=iG f k hf ((List.range len).map Y) (j/k) (j%k) (by rw[IY];exact hi) hr;rw[e,hj] at this;simp only[List.getElem_map,List.getElem_range] at this;have h4:=hY (j/k) ϑ (j%k) u this.symm;rw[e] at h4;exact h4
end
section
variable {H : Type} {enc : TypeId × Value → H} {W : World} {base b0 : Nat} {spare : Nat → Bool} {held : Bool} {r : Reach}
end
theorem Fu {H:Type} {enc:TypeId×Value->H} {P:Program} (hl:laidOutB P=true) {ts:List TypeId} (hr:(ts.all fun t=>P.readableRec t&&decide (t<P.types.size))=true) {W W':World} {vs:List Value} {ds:List (DataW H)} {ps:List MemPlace}
 (h:DataW.TrodAll enc P W 0 (fun _=>true) true ts vs ds ps) (hb:Ϙ W W') (uM: ∀x∈ps,x.block<W.heap.size):
 DataW.TrodAll enc P W' 0 (fun b=>decide (b<W.heap.size)) true ts vs ds ps:=by
 induction ts generalizing vs ds ps with
 |nil=>
  cases vs <;>cases ds <;>simp_all [DataW.TrodAll]
 |cons t ts ih=>
  cases vs with
  |nil=>cases ds <;>simp_all [DataW.TrodAll]
  |cons v vs=>
   cases ds with
   |nil=>simp_all [DataW.TrodAll]
   |cons d ds=>
    obtain⟨p,q,h1,h2,rfl⟩:=h;simp only[List.all_cons,dU,dZ] at hr;exact⟨p,q,Below.trod hl hr.1.1 hr.1.2 h1 hb (fun x hx=>uM x (by simp[hx])),ih (by simpa using hr.2) h2 (fun x hx=>uM x (by simp[hx])),rfl⟩
end Go.Proofs.Z
end

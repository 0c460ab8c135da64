/-
  Texts of this claim, packed by a program: EC EG YK EJ EH FB EL EM FC ED EK FA FD FE EO EP EQ FH OG.
-/
import Derived.WalkKit
import Derived.WalkLawsBesides
import Derived.WalkSpells
import Derived.Outline
import Derived.Handy
import Derived.KernelRfl
import Derived.Lib.Hide
import Derived.Lib.BufferWrite
import Derived.Laws.CopyOwn
import Derived.BigRegion
import Derived.Laws.DeepStrings4
import Derived.Laws.BytesArg
import Derived.Deep.Slices
import Derived.Carry
import Derived.Test.YthbpmepjmebolaaGreatDoorPU14
set_option maxHeartbeats 8000000
set_option maxRecDepth 100000
set_option linter.all false
section
namespace Go.Proofs.YthbpmepjmebolaaGreatDoor.Bk
open Go.RowKit Go.RG Go.SL Go.Shelf jv Go.TB Go.Proofs.YthbpmepjmebolaaGreatDoor.zF
theorem pg (l:aF):(eu l).size=l.length:=by simp[ByteArray.size]
abbrev uv (c:UInt8):Value:= .int .u8 (c.toNat:Int)
theorem yQ (a b:aF):eu a++eu b=eu (a++b):=by
 apply ByteArray.ext
 simp
theorem aa0 (l:aF) (a b:Nat):(eu l).extract a b=eu ((l.take b).drop a):=by
 apply ByteArray.ext
 simp[List.drop_take]
theorem kT {P:Program} {a b c:aF} (hc:c=a++b) (h:a.length+b.length<=1000000000) (W:World):(Op.stringOp .add (eu a) (eu b)).run P W= .ok (.string (eu c)) W:=by
 have h1:=pg a
 have h2:=pg b
 subst hc
 unfold Op.stringOp
 rw[ai (by rw[h1,h2];have:IntKind.i64.max=9223372036854775807:=rfl;omega),yQ]
 simp
theorem Jj: ∀(l:aF) (k:Nat) (c:UInt8),jP k (l++[c])=jP k l+(k+l.length)*c.toNat:=by
 intro l
 induction l with
 |nil=>intro k c;simp[jP]
 |cons x l ih=>intro k c;simp only[List.cons_append,jP,ih,List.length_cons];rw[show k+1+l.length=k+(l.length+1) from by omega];omega
theorem EY: ∀(l:aF) (k:Nat),k+l.length<=62->jP k l<=15810*l.length:=by
 intro l
 induction l with
 |nil=>intro k _;exact ak _
 |cons x l ih=>
  intro k h
  simp only[List.length_cons] at h
  have h1:=ih (k+1) (by omega)
  have h2:k*x.toNat<=62*255:=Nat.mul_le_mul (by omega) (by have:=x.toNat_lt;omega)
  simp only[jP,List.length_cons]
  omega
theorem afc (m:Nat) (h:m<=62*255):wrap64 (m:Int)=m:=IntWalk.wrap64_in _ ⟨by omega,by omega⟩
theorem afb (i S m:Nat) (h1:i<=1000) (h2:S<=948600) (h3:m<=62*255):wrap64 (29*((i:Int)+1)+S+m)=29*((i:Int)+1)+S+m:=IntWalk.wrap64_in _ ⟨by omega,by omega⟩
theorem wC (i:Nat) (line:aF) (w:World) (hi:i<=1000) (hl:line.length<=60):Calls Tryz.prog 245 #[iv i,.string (eu line)] w (PV (iv (ui i line)) w):=by
 have hsz:=pg line
 go_enter Tryz.func245,Tryz.ntmps245
 go_wp2_with fail
 go_loopw [5,12] (fun s u wr=> ∃j:Nat,j<=line.length/\u= .int .i64 j/\s= .int .i64 ((29*(i+1)+jP 2 (line.take j):Nat):Int)/\Below w.heap.size w wr) (fun _ u _=>line.length-(intOf u).toNat)
 case atStart=>exact⟨0,bU _,rfl,by simp[jP];try omega,aG _ _⟩
 case round=>
  obtain⟨j,hj,rfl,rfl,hb⟩:=hrel
  by_cases hlt:j<line.length
  ·have hle:=EY (line.take j) 2 (by simp;omega)
   have hlj:(line.take j).length=j:=by simp;omega
   rw[hlj] at hle
   obtain⟨c,hc⟩: ∃c,line[j]=c:=⟨_,rfl⟩
   have hcx:(eu line)[j]'(by rw[hsz];exact hlt)=c:=by rw[<-hc];rfl
   have hcl:=c.toNat_lt
   have hmul:(j+2)*c.toNat<=62*255:=Nat.mul_le_mul (by omega) (by omega)
   have hst:jP 2 (line.take (j+1))=jP 2 (line.take j)+(2+j)*c.toNat:=by
    rw[iE hlt,Jj,hlj,hc]
   have HST:=ae hst
   generalize hS:jP 2 (line.take j)=S at*
   obtain⟨m,hm⟩: ∃m,(j+2)*c.toNat=m:=⟨_,rfl⟩
   have hmI:((j:Int)+2)*(c.toNat:Int)=(m:Int):=by rw[<-hm];simp
   have HM:Hid ((2+j)*c.toNat=m):=ae (by rw[<-hm,Nat.add_comm])
   rw[hm] at hmul
   have alu:S<=948600:=by omega
   have w1:wrap64 (m:Int)=m:=afc m hmul
   have w2:wrap64 (29*((i:Int)+1)+S+m)=29*((i:Int)+1)+S+m:=afb i S m hi alu hmul
   clear hst hS hlj hc hm
   go_wp2_with fail
   refine⟨⟨j+1,by omega,by go_num,?_,hb⟩,by simp[intOf];omega⟩
   rw[HST.o,HM.o]
   congr 1
   omega
  ·have hjl:j=line.length:=by omega
   subst hjl
   have hle:=EY line 2 (by omega)
   rw[List.take_length]
   have HC:Hid (((29*(i+1)+jP 2 line:Nat):Int)%9949=(ui i line:Nat)):=ae (by unfold ui;omega)
   obtain⟨S,hS⟩: ∃S,29*(i+1)+jP 2 line=S:=⟨_,rfl⟩
   rw[hS] at HC⊢
   clear hle hS
   go_wp2_with fail
   go_returns
   exact⟨by simp[HC.o],hb⟩
abbrev kQ (n:Int):Prop:= -1000000000<=n/\n<=1000000000
theorem qN {n:Int} (h:kQ n):(Lib.itoa n).length<=11:=by
 unfold Lib.itoa
 split
 ·have:=Ie 9 n.natAbs (by omega)
  simp only[List.length_cons];omega
 ·have:=Ie 9 n.toNat (by omega)
  omega
theorem yD (n:Int) (h:kQ n) (w:World) (hE:Env w):Calls Tryz.prog 59 #[iv n] w (PV (.string (eu (Lib.itoa n))) w):=by
 refine(Go.Proofs.Tryz.strconv_Itoa n (by omega) (by omega) w (Vo hE (by kernel_rfl))).mono ?_
 rintro e w2 ⟨rfl,k,os,rfl⟩
 exact⟨rfl,Ho w k os⟩
def gZ (word:aF) (r:dX):aF:=word++[32]++Lib.itoa r.1++[46,46]++Lib.itoa r.2++[10]
theorem CV {word:aF} {r:dX} (h1:kQ r.1) (h2:kQ r.2):(gZ word r).length<=word.length+26:=by
 have:=qN h1
 have:=qN h2
 simp only[gZ,dA,List.length_cons,List.length_nil]
 omega
theorem rX (word:aF): ∀{l:List dX},(∀r∈l,kQ r.1/\kQ r.2)->(l.flatMap (gZ word)).length<=(word.length+26)*l.length:=by
 intro l
 induction l with
 |nil=>intro _;simp
 |cons r l ih=>
  intro h
  have h1:=h r (by simp)
  have h2:=CV (word:=word) h1.1 h1.2
  have h3:=ih (fun x hx=>h x (by simp[hx]))
  rw[List.flatMap_cons,dA,List.length_cons,Nat.mul_add]
  omega
theorem sF (B b:Nat) (bs word:aF) (r:dX) (w:World) (h:Buf B b bs w) (hBw:B<=w.heap.size) (hB4:4<=B) (hE:Env w) (h1:kQ r.1) (h2:kQ r.2) (hlen:bs.length+(word.length+26)<=1000000):
 Calls Tryz.prog 57 #[.string (eu word),iv r.1,iv r.2,.pointer (some ⟨b,0,none⟩)] w fun e w'=>(∃v,e= .returned v)/\Buf B b (bs++gZ word r) w'/\Wr B w w':=by
 have HE:Hid (∀W,Below w.heap.size w W->Env W):=ae (fun W hb=>hE.below hb (ak _))
 have HBu:=ae h
 have HS:=ae (ag h1 h2)
 have l1:=qN h1
 have l2:=qN h2
 obtain⟨s1,hs1⟩: ∃s,Lib.itoa r.1=s:=⟨_,rfl⟩
 obtain⟨s2,hs2⟩: ∃s,Lib.itoa r.2=s:=⟨_,rfl⟩
 rw[hs1] at l1
 rw[hs2] at l2
 have a1:=fun W=>kT (P:=Tryz.prog) (a:=word) (b:=[32]) rfl (by simp;omega) W
 have a2:=fun W=>kT (P:=Tryz.prog) (a:=word++[32]) (b:=s1) rfl (by simp;omega) W
 have a3:=fun W=>kT (P:=Tryz.prog) (a:=word++[32]++s1) (b:=[46,46]) rfl (by simp;omega) W
 have a4:=fun W=>kT (P:=Tryz.prog) (a:=word++[32]++s1++[46,46]) (b:=s2) rfl (by simp;omega) W
 have a5:=fun W=>kT (P:=Tryz.prog) (a:=word++[32]++s1++[46,46]++s2) (b:=[10]) rfl (by simp;omega) W
 have HW:Hid (gZ word r=word++[32]++s1++[46,46]++s2++[10]):=ae (by unfold gZ;rw[hs1,hs2])
 have H1:=ae hs1
 have H2:=ae hs2
 obtain⟨lo,hi⟩:=r
 simp only at*
 clear h hE h1 h2 hs1 hs2
 go_enter Tryz.func57,Tryz.ntmps57
 go_wp2_with fail
 refine(yD lo HS.o.1 _ (HE.o _ (aG _ _))).mono ?_
 rintro e w1 ⟨rfl,hb1⟩
 rw[H1.o]
 have HB1:=ae hb1
 clear hb1
 go_wp2_with fail
 refine(yD hi HS.o.2 _ (HE.o _ HB1.o)).mono ?_
 rintro e w2 ⟨rfl,hb2⟩
 rw[H2.o]
 have HB2:=ae (aY HB1.o hb2)
 have hs2:=HB2.o.size
 have e5:eu (word++32::s1)++{data:= #[46,46]}++eu s2++{data:= #[10]}=eu (word++[32]++s1++[46,46]++s2++[10]):=by
  show eu (word++32::s1)++eu [46,46]++eu s2++eu [10]=_
  rw[yQ,yQ,yQ]
  simp
 clear hb2
 go_wp2_with fail
 refine(vK B b bs _ w2 (HBu.o.below HB2.o) (by omega) (by simp;omega)).mono ?_
 rintro e w3 ⟨⟨v,rfl⟩,h3,h4⟩
 have H3:=ae (ag h3 h4)
 clear h3 h4 e5
 go_wp2_with fail
 go_end0
 refine⟨⟨_,rfl⟩,?_,(Wr.az HB2.o (by omega)).trans H3.o.2⟩
 rw[HW.o]
 simpa using H3.o.1
theorem wX {α:Type} {l:List α} {i:Nat} {d:α} (h:i<l.length):l.getD i d=l[i]:=by simp[List.getD,h]
theorem Qi (n:Nat) (ls:List (List Int)): ∀k,k<=ls.length->k≠0-> ∀i,i<n->
 (∀l∈ls.take k,((bH n ls k).getD i (0,0)).1<=l.getD i 0/\l.getD i 0<=((bH n ls k).getD i (0,0)).2)/\
 (∃l∈ls.take k,((bH n ls k).getD i (0,0)).1=l.getD i 0)/\(∃l∈ls.take k,((bH n ls k).getD i (0,0)).2=l.getD i 0):=by
 intro k
 induction k with
 |zero=>intro _ h;exact absurd rfl h
 |succ k ih=>
  intro hk _ i hi
  have hk':k<ls.length:=by omega
  have ht:ls.take (k+1)=ls.take k++[ls[k]]:=iE hk'
  have hg:ls.getD k []=ls[k]:=wX hk'
  by_cases h0:k=0
  ·subst h0
   have e:(bH n ls 1).getD i (0,0)=((ls[0]).getD i 0,(ls[0]).getD i 0):=by
    simp only[bH,fB,hg]
    rw[wX (by simp;omega)]
    simp
   rw[e]
   simp only[Nat.zero_add] at ht⊢
   rw[ht]
   exact⟨fun l hl=>by obtain rfl:=eU.1 (by simpa using hl);exact⟨Int.le_refl _,Int.le_refl _⟩,⟨ls[0],by simp,rfl⟩,⟨ls[0],by simp,rfl⟩⟩
  ·obtain⟨h1,⟨l2,hl2,h2⟩,⟨l3,hl3,h3⟩⟩:=ih (by omega) h0 i hi
   have hlen:=pR n ls k h0
   have e:(bH n ls (k+1)).getD i (0,0)=wid ((bH n ls k).getD i (0,0)) ((ls[k]).getD i 0):=by
    simp only[bH,fB,hg,h0,if_false]
    rw[wX (by simp;omega)]
    simp[hi]
   rw[e,ht]
   generalize (bH n ls k).getD i (0,0)=r at*
   simp only[wid]
   refine⟨fun l hl=>?_,?_,?_⟩
   ·rcases iI.1 hl with hl|hl
    ·have:=h1 l hl;omega
    ·obtain rfl:=eU.1 hl;omega
   ·by_cases hc:r.1<=(ls[k]).getD i 0
    ·exact⟨l2,nI _ hl2,by omega⟩
    ·exact⟨ls[k],uy _ (eU.2 rfl),by omega⟩
   ·by_cases hc:(ls[k]).getD i 0<=r.2
    ·exact⟨l3,nI _ hl3,by omega⟩
    ·exact⟨ls[k],uy _ (eU.2 rfl),by omega⟩
theorem Qj {n:Nat} {ls:List (List Int)} (h:ls≠[]):(rU n ls).length=n:=pR n ls _ (by cases ls <;>simp_all)
theorem Uj {n:Nat} {ls:List (List Int)} (h:ls≠[]) {i:Nat} (hi:i<n):
 (∀l∈ls,((rU n ls).getD i (0,0)).1<=l.getD i 0/\l.getD i 0<=((rU n ls).getD i (0,0)).2)/\
 (∃l∈ls,((rU n ls).getD i (0,0)).1=l.getD i 0)/\(∃l∈ls,((rU n ls).getD i (0,0)).2=l.getD i 0):=by
 have:=Qi n ls ls.length (ak _) (by cases ls <;>simp_all) i hi
 rwa [List.take_length] at this
structure Vx (s:jF):Prop where
 field:fQ s.led.field true=0
 led:iU s.led=0
 heap:wz s.heap=0
 ask:jG.jo s.heap s.heap.turns=0
 keeps:jG.oL s.heap s.heap.turns≠2
 dn:qp s.dn=0
 acX:jg s.dn true=0
theorem JA {s:jF}:bF s=0↔Vx s:=by
 unfold bF
 constructor
 ·intro h
  split at h;· omega
  split at h;· omega
  split at h;· omega
  split at h;· omega
  split at h;· omega
  split at h;· omega
  split at h;· omega
  rename_i a b c d e f g
  exact⟨by simpa using a,by simpa using b,by simpa using c,by simpa using d,e,by simpa using f,by simpa using g⟩
 ·rintro⟨a,b,c,d,e,f,g⟩
  simp[a,b,c,d,e,f,g]
theorem MS:bF ed=0:=by decide+kernel
theorem ab2 (ls:List aF):gu (fK bF ed ls).1/\Vx (fK bF ed ls).1:=⟨JK _ Ir,JA.1 (Oe _ MS)⟩
theorem Gn {ls:List aF} (h:dG ls=0):gu (eP ls)/\Vx (eP ls):=by
 unfold eP
 rw[aA h]
 exact ab2 ls
theorem TN {f:bV} (h:fQ f true=0): ∀r∈BU f,kQ r.1/\kQ r.2:=by
 intro r hr
 have hf:jZ f=0:=by
  unfold fQ at h
  split at h
  ·omega
  ·rename_i hq;simpa using hq
 unfold BU at hr
 obtain⟨i,_,rfl⟩:=iZ.1 hr
 have:=Lm (iK hf) (bY f []) (i:Int) _ (ak _)
 exact⟨⟨by omega,by omega⟩,by omega,by omega⟩
theorem OE {l:aQ} (h:iU l=0):(nT l).length<=5/\ ∀i∈nT l,0<=i/\i<=4:=by
 obtain⟨hS,hp⟩:=pO h
 obtain⟨_,h2,_⟩:=OH hp
 have hm:=hS.many
 refine⟨by have:=h2.len;omega,fun i hi=>?_⟩
 have:=((L6 _ _).1 h2).2 i hi
 omega
theorem RU {l:aQ} (h:gX l true=0): ∀r∈Ce oP l (gq l),kQ r.1/\kQ r.2:=by
 intro r hr
 obtain⟨hS,hp⟩:=Qo h
 obtain⟨i,hi,rfl⟩:=mJ hr
 have hl:=Vt hp oP
 have agS:=aa1 hp oP (i:=i) (by omega)
 rw[wX hi] at agS
 have key: ∀d∈gq l,jE l [] d=true-> -2000<=(oP (d.getD i 0) ((kM l [] d).getD i (0,0))).1/\(oP (d.getD i 0) ((kM l [] d).getD i (0,0))).2<=2000/\ -2000<=(oP (d.getD i 0) ((kM l [] d).getD i (0,0))).2/\(oP (d.getD i 0) ((kM l [] d).getD i (0,0))).1<=2000:=fun d hd hc=>by
  have hb:=Oi hS hd hc (i:=i) (by omega)
  obtain⟨t,ht,rfl⟩:=JZ.1 hd
  have hF:=iK hS.field
  have hw:=hF.xC
  have hd2:=Hz (rate:=l.rate) (by have:=hS.rate;omega) hS.rate.2 t (abY hS ht) i (by omega)
  unfold oP
  simp only
  omega
 obtain⟨⟨⟨y,⟨d,hd,hc,rfl⟩,hy⟩,_⟩,⟨⟨z,⟨e,he,hce,rfl⟩,hz⟩,_⟩⟩:=agS
 have k1:=key d hd hc
 have k2:=key e he hce
 exact⟨⟨by omega,by omega⟩,by omega,by omega⟩
theorem G9 {s:jF} (hG:gu s) (hS:Vx s):(jG.jU s.heap s.heap.turns).length=5/\kQ ((jG.jU s.heap s.heap.turns).getD 4 (0,0)).1/\kQ ((jG.jU s.heap s.heap.turns).getD 4 (0,0)).2:=by
 have hl:=hG.heap.1
 unfold jG.jU
 rw[aA hS.ask,hl]
 have hne:jI s.heap s.heap.turns≠[]:=by
  have ha:=hS.ask
  unfold jG.jo at ha
  split at ha;· omega
  split at ha;· omega
  split at ha;· omega
  rename_i hq
  exact TG (by cases hq2:dW s.heap [] <;>simp_all)
 have hb: ∀y∈jI s.heap s.heap.turns,0<=y.getD 4 0/\y.getD 4 0<=900:=fun y hy=>by
  obtain⟨t,ht,rfl⟩:=(Gz _ _ _).1 hy
  have hSo:=Gf hS.heap
  obtain⟨a1,a2,a3⟩:=jG.Bf hSo ht
  have hw:=hG.VJ
  have hbd:=O8 s.heap.turns hSo.NS hSo.NR hSo.PM hSo.PL a2.1 a2.2 a3 (by omega)
  by_cases h4:4<(lK s.heap t s.heap.turns).length
  ·rw[wX h4]
   exact hbd _ (cZ _)
  ·rw[iF,List.getElem?_eq_none (by omega)]
   exact⟨by decide,by decide⟩
 obtain⟨_,⟨y,hy,e1⟩,⟨z,hz,e2⟩⟩:=Uj hne (n:=5) (i:=4) (by omega)
 have b1:=hb y hy
 have b2:=hb z hz
 refine⟨Qj hne,?_,?_⟩
 ·show kQ ((rU 5 (jI s.heap s.heap.turns)).getD 4 (0,0)).1
  rw[e1]
  exact⟨by omega,by omega⟩
 ·show kQ ((rU 5 (jI s.heap s.heap.turns)).getD 4 (0,0)).2
  rw[e2]
  exact⟨by omega,by omega⟩
theorem Ew (h:df) (t:List Int):kQ (jG.oL h t):=by
 unfold jG.oL
 split
 ·exact⟨by decide,by decide⟩
 ·split
  ·exact⟨by decide,by decide⟩
  ·split <;>exact⟨by decide,by decide⟩
theorem Ij {c:bQ} (h:jg c true=0): ∀r∈jD c,kQ r.1/\kQ r.2:=by
 intro r hr
 obtain⟨hS,h0,_⟩:=Iy h
 unfold jD at hr
 obtain⟨i,hi,rfl⟩:=iZ.1 hr
 have hi':=lM.1 hi
 have:=UT hS mZ h0 (i:=c.heaps.length+i) (by unfold nP;omega) _ (ak _)
 unfold Bh
 exact⟨⟨by omega,by omega⟩,by omega,by omega⟩
abbrev TQ:aF:=[100,111,110,101]
abbrev lvW:aF:=[108,101,97,118,101]
abbrev QK:aF:=[111,119,101,100]
abbrev U5:aF:=[104,101,97,116]
abbrev U4:aF:=[107,101,101,112,115,32]
abbrev Cb:aF:=[99,97,115,107]
def Zf (i:Int):aF:=32::Lib.itoa i
theorem UR: ∀l:List Int,(∀i∈l,0<=i/\i<=4)->(l.flatMap Zf).length<=12*l.length:=by
 intro l
 induction l with
 |nil=>intro _;simp
 |cons a l ih=>
  intro h
  have h2:=ih (fun i hi=>h i (by simp[hi]))
  have h3:=h a (by simp)
  have h4:=qN (n:=a) ⟨by omega,by omega⟩
  have h5:(Zf a).length=(Lib.itoa a).length+1:=rfl
  rw[List.flatMap_cons,dA,List.length_cons]
  omega
def Gp (s:jF):aF:=if nT s.led=[] then(Ce oP s.led (gq s.led)).flatMap (gZ QK) else[]
def Ha (s:jF):aF:=gZ U5 ((jG.jU s.heap s.heap.turns).getD 4 (0,0))
def keepR (s:jF):aF:=U4++Lib.itoa (jG.oL s.heap s.heap.turns)++[10]
def oI (s:jF):aF:=
 (BU s.led.field).flatMap (gZ TQ)++lvW++(nT s.led).flatMap Zf++[10]++Gp s++Ha s++keepR s++(jD s.dn).flatMap (gZ Cb)
def Lt (ls:List aF):aF:=if dG ls=0 then oI (eP ls) else[]
def al1 (ls:List aF) (w:World) (e:Ending) (w':World):Prop:=Below w.heap.size w w'/\e= .returned (.tuple #[.string (eu (Lt ls)),iv (dG ls)])
structure YR (W3:World) (bs:aF) (W:World):Prop where
 below:Below W3.heap.size W3 W
 buf:Buf W3.heap.size W3.heap.size bs W
 lt:W3.heap.size<W.heap.size
 len:bs.length<=500000
theorem YR.call {W3:World} {bs:aF} {W W':World} (h:YR W3 bs W) (hb:Below W.heap.size W W'):YR W3 bs W':=
 ⟨h.below.trans (hb.mono (by have:=h.lt;omega)),h.buf.below hb,fZ h.lt hb.size,h.len⟩
theorem YR.wrote {W3:World} {bs bs':aF} {W W':World} (h:YR W3 bs W) (hb:Buf W3.heap.size W3.heap.size bs' W') (hw:Wr W3.heap.size W W') (hl:bs'.length<=500000):YR W3 bs' W':=
 ⟨h.below.trans hw.below,hb,fZ h.lt hw.size,hl⟩
theorem vP {α:Type} {l:List α} (f:α->aF) {k:Nat} (hk:k<l.length):(l.take (k+1)).flatMap f=(l.take k).flatMap f++f l[k]:=by
 rw[iE hk,vG,List.flatMap_cons,List.flatMap_nil,List.append_nil]
theorem Ur (lv:Value) (ls:List aF) (w:World) (hls:jb w lv ls) (hE:Env w) (hln: ∀l∈ls,l.length<=1000000):Calls Tryz.prog 33 #[lv] w (al1 ls w):=by
 have Jq:=ae hls
 have HE:Hid (∀W,Below w.heap.size w W->Env W):=ae (fun W hb=>hE.below hb (ak _))
 have UJ:=ae hln
 have h4:=hE.size
 clear hls hE hln
 obtain⟨q,hq⟩: ∃q,dG ls=q:=⟨_,rfl⟩
 have HQ:=ae hq
 go_enter Tryz.func33,Tryz.ntmps33
 go_wp2_with fail
 refine(uA lv ls w (Jq.o) (HE.o _ (aG _ _)) (UJ.o) [] (by simp)).mono ?_
 rintro e W2 ⟨hb2,V,es,cv,he,hX,hC⟩
 rw[hq] at he
 subst he
 obtain⟨co,cc,rfl⟩:=aS hC
 have hs2:=hb2.size
 have hS2:=hX W2 (Ext.refl _ _)
 rename_i hK
 refine hK _ _ ?_
 refine aI rfl _ (by go_simp;first|rfl|exact⟨rfl,rfl⟩) ?_
 simp only[zp]
 refine aI rfl _ (by go_simp;first|rfl|exact⟨rfl,rfl⟩) ?_
 simp only[zp]
 refine aI rfl _ (by go_simp;first|rfl|exact⟨rfl,rfl⟩) ?_
 simp only[zp]
 refine aI rfl _ (by go_simp;first|rfl|exact⟨rfl,rfl⟩) ?_
 simp only[zp]
 obtain⟨g,hg⟩: ∃g,g=W2.heap.size:=⟨_,rfl⟩
 refine aI rfl (w':=W2.alloc (.cells dR 46 (0,0))) (.pointer (some ⟨g,0,none⟩)) (by rw[hg];go_simp;try rfl) ?_
 simp only[zp]
 have hz2:(W2.alloc (.cells dR 46 (0,0))).heap[g]? =some (.cells dR 46 (0,0)):=by rw[hg];exact ay _ _
 refine wpList_store_row rfl _ _ _ rfl g (dw (eP ls) V) (by as_aux_lemma=>kernel_rfl) (by as_aux_lemma=>kernel_rfl) _ dR hz2 (by kernel_rfl) (by as_aux_lemma=>kernel_rfl) (by rw[mM];exact fun u hu=>iG hS2 u (nH.2 hu)) ?_
 simp only[zp]
 refine jQ fun W3 hW3=>?_
 obtain⟨uZ,ku⟩: ∃uZ,uZ=W2.alloc (.cells dR 46 (0,0)):=⟨_,rfl⟩
 rw[<-ku] at hW3 hz2
 have tY:Ext [g] uZ W3:=by rw[hW3];exact fG
 have hs3:=tY.size
 have hs2':uZ.heap.size=g+1:=by rw[ku,hg];simp
 have lq:Below W2.heap.size W2 W3:=iY (by rw[ku];exact aj (aG _ _) _) tY (by omega)
 have hk3:W3.heap[g]? =some (.cells (dw (eP ls) V) 46 (0,0)):=by rw[hW3];exact setRow_heap _ _ _ _ _ _ hz2
 have hb3:=aY hb2 lq
 have hg3:w.heap.size<=g:=by omega
 have hgs:g<W3.heap.size:=by omega
 have H3:=ae (ag hb3 (ag hk3 (hS2.below lq (ak _))))
 clear hX hC hW3 ku tY lq hb2 hS2 hz2 hK hs2 hs3 hs2' hg hb3
 clear hq
 obtain⟨vt,vn,vw,vu,vr,vh,vk,vs⟩:=V
 obtain⟨c3,f3,l3⟩:=af hk3
 by_cases hz:q=0
 rotate_left
 ·go_wp2_with fail
  go_returns
  have hqq:dG ls≠0:=by rw[HQ.o];exact hz
  have h1:Lt ls=[]:=by unfold Lt;rw[ai hqq]
  exact⟨H3.o.1,by rw[h1,HQ.o];simp⟩
 subst hz
 have jA:=ae (Gn HQ.o)
 have hrb:Lt ls=oI (eP ls):=by unfold Lt;rw[aA HQ.o]
 have Nh:=ae hrb
 clear hrb
 generalize eP ls=s at*
 go_upto_region 5 with(fail)
 refine dF fun W4 FO=>?_
 have hr4:YR W3 [] W4:=by
  rw[FO]
  exact⟨(aG _ _).alloc (ak _) _,.inl ⟨ak _,.slice none 0 0,ay _ _,⟨rfl,.inl ⟨rfl,rfl⟩⟩,by simp[Value.ownBlock],fun q hq=>by cases hq⟩,by simp,by simp⟩
 have HR4:=ae hr4
 have HC:Hid (∀W,Below W3.heap.size W3 W->W.heap[g]? =some (.cells (dw s ⟨vt,vn,vw,vu,vr,vh,vk,vs⟩) 46 (0,0))):=ae (fun W hb=>(hb.block g hgs).trans hk3)
 have HST:Hid (∀W,Below W3.heap.size W3 W->oG W s ⟨vt,vn,vw,vu,vr,vh,vk,vs⟩ es):=ae (fun W hb=>H3.o.2.2.below hb (ak _))
 have VF:Hid (∀W,Below W3.heap.size W3 W->Env W):=ae (fun W hb=>HE.o W (aY H3.o.1 hb))
 clear FO hr4 hk3 c3 f3 l3
 obtain⟨c4,f4,l4⟩:=af (HC.o W4 HR4.o.below)
 go_wp2_with fail
 have HD:=ae (CW s.led.field vt W4 (HST.o W4 HR4.o.below).vO)
 refine HD.o.mono ?_
 rintro e W5 ⟨hb5,⟨hne,rfl⟩|⟨_,dv,rfl,hdv⟩⟩
 ·exact absurd jA.o.2.field hne
 obtain⟨D,hD⟩: ∃D,BU s.led.field=D:=⟨_,rfl⟩
 have hDl:D.length=2:=by rw[<-hD,XD,jA.o.1.aO];rfl
 have HDS:Hid (∀r∈D,kQ r.1/\kQ r.2):=ae (by rw[<-hD];exact TN jA.o.2.field)
 rw[hD] at hdv
 have HDE:=ae hD
 obtain⟨dO,dC,rfl⟩:=hdv.open
 have HR5:=ae (ag (HR4.o.call hb5) hdv)
 clear hb5 hdv hD c4 f4 l4
 go_wp2_with fail
 go_loopw [49] (fun i wr=> ∃k:Nat,k<=D.length/\i= .int .i64 k/\YR W3 (([]:aF)++(D.take k).flatMap (gZ TQ)) wr/\aN 2 wr (.slice dO D.length dC) D.length (aH D)) (fun i _=>D.length-(intOf i).toNat)
 case atStart=>exact⟨0,bU _,rfl,by simpa using HR5.o.1,HR5.o.2⟩
 case round=>
  obtain⟨k,hk,rfl,hR,hL⟩:=hrel
  by_cases hlt:k<D.length
  ·obtain⟨lb,SA,rfl,hlb,d1,d2⟩:=bP.cell hL hlt
   obtain⟨x,hx⟩: ∃x,D[k]=x:=⟨_,rfl⟩
   rw[hx] at d1 d2
   have hsm:=HDS.o D[k] (cZ hlt)
   rw[hx] at hsm
   have htf:([]:aF)++(D.take (k+1)).flatMap (gZ TQ)=(([]:aF)++(D.take k).flatMap (gZ TQ))++gZ TQ x:=by rw[vP _ hlt,hx,nV]
   have hlen:(([]:aF)++(D.take (k+1)).flatMap (gZ TQ)).length<=500000:=by
    have h1:=rX TQ (l:=D.take (k+1)) (fun r hr=>HDS.o r (pW hr))
    have h2:(D.take (k+1)).length<=10:=by rw[gY];omega
    rw[dA]
    have h3:(TQ:aF).length+26<=40:=by decide
    have h4:=Nat.mul_le_mul h3 h2
    have h5:=hDl
    have h6:(([]:aF)).length<=2000:=(by simp)
    omega
   have hR':=hR.call (aj (aG _ _) (.cells #[iv x.1,iv x.2] 26 (0,0)))
   have HW:=ae (sF W3.heap.size W3.heap.size _ TQ x _ hR'.buf (nG hR'.lt) (by omega) (VF.o _ hR'.below) hsm.1 hsm.2 (by have h1:=hR.len;have h2:(TQ:aF).length<=10:=(by decide);omega))
   have HX:=ae (ag hR' (ag hL (ag htf hlen)))
   clear hR hL htf hlen hR' hsm hx
   go_wp2_with fail
   refine HW.o.mono ?_
   rintro e W6 ⟨⟨v,rfl⟩,hbu,hwr⟩
   have Vj:=HX.o.1.wrote hbu hwr (by have:=HX.o.2.2.2;rwa [HX.o.2.2.1] at this)
   have hL6:=hwr.list (HX.o.2.1.alloc _) (BG D)
   have H6:=ae (ag Vj hL6)
   clear hbu hwr Vj hL6
   go_wp2_with fail
   go_roundw
   case rel=>exact⟨k+1,by omega,by go_num,by rw[HX.o.2.2.1];exact H6.o.1,H6.o.2⟩
   case measure=>simp[intOf];omega
  ·have hkl:k=D.length:=by omega
   subst hkl
   rw[List.take_length] at hR
   have xU:=ae hR
   clear hR hL
   obtain⟨c6,f6,l6⟩:=af (HC.o wr xU.o.below)
   have hs1:(([]:aF)++D.flatMap (gZ TQ)).length<=1000:=by
    have h1:=rX TQ HDS.o
    have h3:(TQ:aF).length+26<=40:=by decide
    have h4:=Nat.mul_le_mul h3 (show D.length<=2 by omega)
    simp only[List.nil_append]
    omega
   rw[List.nil_append] at xU hs1
   obtain⟨P1,hP1⟩: ∃P,D.flatMap (gZ TQ)=P:=⟨_,rfl⟩
   rw[hP1] at xU hs1
   have YS:=ae hP1
   clear hP1
   go_wp2_with fail
   refine(vK W3.heap.size W3.heap.size P1 lvW wr xU.o.buf (nG xU.o.lt) (by have:(lvW:aF).length=5:=rfl;omega)).mono ?_
   rintro e W7 ⟨⟨v7,rfl⟩,hb7,hw7⟩
   have HR7:=ae (xU.o.wrote hb7 hw7 (by rw[dA];have:(lvW:aF).length=5:=rfl;omega))
   clear hb7 hw7 c6 f6 l6
   obtain⟨c6,f6,l6⟩:=af (HC.o W7 HR7.o.below)
   go_wp2_with fail
   obtain⟨P2,hP2⟩: ∃P,P1++lvW=P:=⟨_,rfl⟩
   have hs2:P2.length<=1005:=by rw[<-hP2,dA];have:(lvW:aF).length=5:=rfl;omega
   rw[hP2] at HR7
   have HP2:=ae hP2
   clear hP2
   have HLV:=ae (Yo s.led vt vn W7 (HST.o W7 HR7.o.below).vO (HST.o W7 HR7.o.below).QL)
   refine HLV.o.mono ?_
   rintro e W8 ⟨hb8,⟨hne,rfl⟩|⟨_,v8,rfl,hv8⟩⟩
   ·exact absurd jA.o.2.led hne
   obtain⟨L,hL⟩: ∃L,nT s.led=L:=⟨_,rfl⟩
   have hLs:=OE jA.o.2.led
   rw[hL] at hv8 hLs
   have hL5:=hLs.1
   have afG:=ae hLs.2
   have HLE:=ae hL
   obtain⟨lO,lC,rfl⟩:=hv8.open
   have HR8:=ae (ag (HR7.o.call hb8) hv8)
   clear hb8 hv8 hL hLs c6 f6 l6
   go_wp2_with fail
   go_loopw [69] (fun i wr=> ∃k:Nat,k<=L.length/\i= .int .i64 k/\YR W3 (P2++(L.take k).flatMap Zf) wr/\aN 1 wr (.slice lO L.length lC) L.length (ah L)) (fun i _=>L.length-(intOf i).toNat)
   case atStart=>exact⟨0,bU _,rfl,by simpa using HR8.o.1,HR8.o.2⟩
   case round=>
    obtain⟨k,hk,rfl,hR,hLL⟩:=hrel
    by_cases hlt:k<L.length
    ·obtain⟨lb,SA,rfl,hlb,d1⟩:=aP.cell hLL hlt
     obtain⟨x,hx⟩: ∃x,L[k]=x:=⟨_,rfl⟩
     rw[hx] at d1
     have hsm:=afG.o L[k] (cZ hlt)
     rw[hx] at hsm
     have hxs:kQ x:=⟨by omega,by omega⟩
     have hil:=qN hxs
     obtain⟨s1,ack⟩: ∃s,Lib.itoa x=s:=⟨_,rfl⟩
     rw[ack] at hil
     have htf:P2++(L.take (k+1)).flatMap Zf=(P2++(L.take k).flatMap Zf)++(32::s1):=by
      rw[vP _ hlt,hx,nV]
      unfold Zf
      rw[ack]
     have hlen:(P2++(L.take (k+1)).flatMap Zf).length<=500000:=by
      have h2:=UR (L.take (k+1)) (fun i hi=>afG.o i (pW hi))
      have h3:(L.take (k+1)).length<=5:=by rw[gY];omega
      rw[dA]
      omega
     have a1:=fun W=>kT (P:=Tryz.prog) (a:=[32]) (b:=s1) rfl (by simp;omega) W
     have HX:=ae (ag hR (ag hLL (ag htf hlen)))
     have HIT:=ae (yD x hxs wr (VF.o _ hR.below))
     have HSX:=ae ack
     clear hR hLL htf hlen hsm hx ack hxs
     go_wp2_with fail
     refine HIT.o.mono ?_
     rintro e W9 ⟨rfl,wW⟩
     rw[HSX.o]
     have Yu:=ae (HX.o.1.call wW)
     have HL9:=ae (HX.o.2.1.below wW (ak _))
     clear wW
     go_wp2_with fail
     refine(vK W3.heap.size W3.heap.size _ (32::s1) W9 Yu.o.buf (nG Yu.o.lt) (by have:=Yu.o.len;have h9:(32::s1).length=s1.length+1:=rfl;omega)).mono ?_
     rintro e W6 ⟨⟨v,rfl⟩,hbu,hwr⟩
     have Vj:=Yu.o.wrote hbu hwr (by have:=HX.o.2.2.2;rwa [HX.o.2.2.1] at this)
     have hL6:=hwr.list HL9.o (ach L)
     have H6:=ae (ag Vj hL6)
     clear hbu hwr Vj hL6
     go_wp2_with fail
     go_roundw
     case rel=>exact⟨k+1,by omega,by go_num,by rw[HX.o.2.2.1];exact H6.o.1,H6.o.2⟩
     case measure=>simp[intOf];omega
    ·have hkl:k=L.length:=by omega
     subst hkl
     rw[List.take_length] at hR
     have xU:=ae hR
     clear hR hLL
     obtain⟨P3,hP3⟩: ∃P,P2++L.flatMap Zf=P:=⟨_,rfl⟩
     have hs3:P3.length<=1065:=by
      rw[<-hP3,dA]
      have:=UR L afG.o
      omega
     rw[hP3] at xU
     have VE:=ae hP3
     clear hP3
     go_wp2_with fail
     refine(vK W3.heap.size W3.heap.size P3 [10] wr xU.o.buf (nG xU.o.lt) (by have:([10]:aF).length=1:=rfl;omega)).mono ?_
     rintro e W8' ⟨⟨v,rfl⟩,hbu,hwr⟩
     obtain⟨P4,hP4⟩: ∃P,P3++[10]=P:=⟨_,rfl⟩
     have hs4:P4.length<=1066:=by rw[<-hP4,dA];have:([10]:aF).length=1:=rfl;omega
     rw[hP4] at hbu
     have Yv:=ae (xU.o.wrote hbu hwr (by omega))
     have heq:oI s=P4++Gp s++Ha s++keepR s++(jD s.dn).flatMap (gZ Cb):=by
      unfold oI
      rw[HDE.o,HLE.o,YS.o,HP2.o,VE.o,hP4]
     have afO:=ae heq
     clear hbu hwr hP4 heq
     by_cases hL0:L.length=0
     ·have hLI:((L.length:Int)==0)=true:=by simp[hL0]
      have hL':L=[]:=kD hL0
      have ha:=Iw jA.o.2.led (by rw[HLE.o];exact hL')
      have HA:=ae ha
      have ho:Gp s=(Ce oP s.led (gq s.led)).flatMap (gZ QK):=by
       unfold Gp
       rw[aA (by rw[HLE.o];exact hL')]
      obtain⟨O,hO⟩: ∃O,Ce oP s.led (gq s.led)=O:=⟨_,rfl⟩
      have hO2:O.length=2:=by rw[<-hO,Vt (Qo ha).2 oP,jA.o.1.aO];rfl
      have HOS:Hid (∀r∈O,kQ r.1/\kQ r.2):=ae (by rw[<-hO];exact RU ha)
      rw[hO] at ho
      have HOE:=ae hO
      have amk:=ae ho
      have Xe:=HST.o W8' Yv.o.below
      have HOW:=ae (Qx s.led vt vn W8' Xe.vO Xe.QL)
      obtain⟨c9,f9,l9⟩:=af (HC.o W8' Yv.o.below)
      clear Xe hL' ha ho hO
      go_wp2_with fail
      refine HOW.o.mono ?_
      rintro e W7' ⟨hb,⟨hne,rfl⟩|⟨_,ov,rfl,hov⟩⟩
      ·exact absurd HA.o hne
      rw[HOE.o] at hov
      obtain⟨oO,oC,rfl⟩:=hov.open
      have afz:=ae (ag (Yv.o.call hb) hov)
      clear hb hov c9 f9 l9
      go_wp2_with fail
      go_loopw [90] (fun i wr=> ∃k:Nat,k<=O.length/\i= .int .i64 k/\YR W3 (P4++(O.take k).flatMap (gZ QK)) wr/\aN 2 wr (.slice oO O.length oC) O.length (aH O)) (fun i _=>O.length-(intOf i).toNat)
      case atStart=>exact⟨0,bU _,rfl,by simpa using afz.o.1,afz.o.2⟩
      case round=>
       obtain⟨k,hk,rfl,hR,hL⟩:=hrel
       by_cases hlt:k<O.length
       ·obtain⟨lb,SA,rfl,hlb,d1,d2⟩:=bP.cell hL hlt
        obtain⟨x,hx⟩: ∃x,O[k]=x:=⟨_,rfl⟩
        rw[hx] at d1 d2
        have hsm:=HOS.o O[k] (cZ hlt)
        rw[hx] at hsm
        have htf:P4++(O.take (k+1)).flatMap (gZ QK)=(P4++(O.take k).flatMap (gZ QK))++gZ QK x:=by rw[vP _ hlt,hx,nV]
        have hlen:(P4++(O.take (k+1)).flatMap (gZ QK)).length<=500000:=by
         have h1:=rX QK (l:=O.take (k+1)) (fun r hr=>HOS.o r (pW hr))
         have h2:(O.take (k+1)).length<=10:=by rw[gY];omega
         rw[dA]
         have h3:(QK:aF).length+26<=40:=by decide
         have h4:=Nat.mul_le_mul h3 h2
         have h5:=hO2
         have h6:(P4).length<=2000:=(by omega)
         omega
        have hR':=hR.call (aj (aG _ _) (.cells #[iv x.1,iv x.2] 30 (0,0)))
        have HW:=ae (sF W3.heap.size W3.heap.size _ QK x _ hR'.buf (nG hR'.lt) (by omega) (VF.o _ hR'.below) hsm.1 hsm.2 (by have h1:=hR.len;have h2:(QK:aF).length<=10:=(by decide);omega))
        have HX:=ae (ag hR' (ag hL (ag htf hlen)))
        clear hR hL htf hlen hR' hsm hx
        go_wp2_with fail
        refine HW.o.mono ?_
        rintro e W6 ⟨⟨v,rfl⟩,hbu,hwr⟩
        have Vj:=HX.o.1.wrote hbu hwr (by have:=HX.o.2.2.2;rwa [HX.o.2.2.1] at this)
        have hL6:=hwr.list (HX.o.2.1.alloc _) (BG O)
        have H6:=ae (ag Vj hL6)
        clear hbu hwr Vj hL6
        go_wp2_with fail
        go_roundw
        case rel=>exact⟨k+1,by omega,by go_num,by rw[HX.o.2.2.1];exact H6.o.1,H6.o.2⟩
        case measure=>simp[intOf];omega
       ·have hkl:k=O.length:=by omega
        subst hkl
        rw[List.take_length] at hR
        have xU:=ae hR
        clear hR hL
        have acj:(P4++O.flatMap (gZ QK)).length<=1300:=by
         have h1:=rX QK HOS.o
         have h3:(QK:aF).length+26<=40:=by decide
         have h4:=Nat.mul_le_mul h3 (show O.length<=2 by omega)
         rw[dA]
         omega
        obtain⟨P4n,aeW⟩: ∃P,P4++O.flatMap (gZ QK)=P:=⟨_,rfl⟩
        have HEQ:Hid (oI s=P4n++Ha s++keepR s++(jD s.dn).flatMap (gZ Cb)):=ae (by rw[afO.o,amk.o,aeW])
        rw[aeW] at xU acj
        clear aeW hs4 afO Yv afz
        rename_i P4o
        obtain⟨W9,MC⟩: ∃W,W=wr:=⟨_,rfl⟩
        rw[<-MC] at xU
        rw[<-MC]
        have Yu:=xU
        clear MC
        obtain⟨P4,ah5⟩: ∃P,P=P4n:=⟨_,rfl⟩
        rw[<-ah5] at xU acj HEQ Yu
        clear ah5
        obtain⟨c9,f9,l9⟩:=af (HC.o W9 Yu.o.below)
        have uC:=HST.o W9 Yu.o.below
        have Nl:=ae (jG.IK s.heap vw vu vr vu s.heap.turns W9 uC.bW uC.Fg uC.Eh uC.Fg)
        clear uC
        go_wp2_with fail
        refine Nl.o.mono ?_
        rintro e Un ⟨bv,he,hbv,Az⟩
        rw[jA.o.2.ask] at he
        subst he
        obtain⟨zI,hB1,hB2⟩:=G9 jA.o.1 jA.o.2
        have hhr:Ha s=gZ U5 ((jG.jU s.heap s.heap.turns).getD 4 (0,0)):=rfl
        obtain⟨B,hB⟩: ∃B,jG.jU s.heap s.heap.turns=B:=⟨_,rfl⟩
        rw[hB] at hbv zI hB1 hB2 hhr
        obtain⟨bO,bC,rfl⟩:=hbv.open
        obtain⟨lb,SA,rfl,hlb,d1,d2⟩:=bP.cell hbv (k:=4) (by omega)
        have hg4:B.getD 4 (0,0)=B[4]:=wX (by omega)
        rw[hg4] at hB1 hB2 hhr
        generalize B[4]=x at*
        have IC:=ae (Yu.o.call Az)
        have hl4:s.heap.last=4:=jA.o.1.heap.1
        have HHR:=ae hhr
        clear hbv Az hB hhr c9 f9 l9 hg4
        obtain⟨c9,f9,l9⟩:=af (HC.o Un IC.o.below)
        rw[zI]
        have HW:=ae (fun W hE=>sF W3.heap.size W3.heap.size P4 U5 x W (IC.o.call hE).buf (nG (IC.o.call hE).lt) (by omega) (VF.o _ (IC.o.call hE).below) hB1 hB2 (by have h2:(U5:aF).length<=10:=(by decide);omega))
        have hwl:=CV (word:=U5) hB1 hB2
        clear hB1 hB2 zI
        go_wp2_with fail
        refine zg 15 [] none [] ?_
        simp only[zt]
        repeat ((first|refine zn ?_|refine zk ?_);simp only[zp])
        intro W hE hF
        have hbE:=hE.below
        clear hE hF
        go_wp2_with fail
        refine(HW.o W hbE).mono ?_
        rintro e W11 ⟨⟨v11,rfl⟩,hbu,hwr⟩
        obtain⟨P5,hP5⟩: ∃P,P4++gZ U5 x=P:=⟨_,rfl⟩
        have hs5:P5.length<=1340:=by rw[<-hP5,dA];have:(U5:aF).length=4:=rfl;omega
        rw[hP5] at hbu
        have UC:=ae ((IC.o.call hbE).wrote hbu hwr (by omega))
        have aas:oI s=P5++keepR s++(jD s.dn).flatMap (gZ Cb):=by rw[HEQ.o,HHR.o,hP5]
        have afN:=ae aas
        clear hbu hwr hP5 aas c9 f9 l9 hbE hwl d1 d2 hl4
        obtain⟨c9,f9,l9⟩:=af (HC.o W11 UC.o.below)
        have uC:=HST.o W11 UC.o.below
        have HKP:=ae (jG.D9 s.heap vw vu vr vu s.heap.turns W11 uC.bW uC.Fg uC.Eh uC.Fg)
        have hkr:keepR s=U4++Lib.itoa (jG.oL s.heap s.heap.turns)++[10]:=rfl
        have hks:=Ew s.heap s.heap.turns
        obtain⟨kq,hkq⟩: ∃k,jG.oL s.heap s.heap.turns=k:=⟨_,rfl⟩
        rw[hkq] at hkr hks
        have HKQ:=ae hkq
        clear uC hkq
        go_wp2_with fail
        refine HKP.o.mono ?_
        rintro e YQ ⟨he,Tt⟩
        rw[HKQ.o,jA.o.2.ask] at he
        subst he
        have abp:=ae (UC.o.call Tt)
        have hil:=qN hks
        have HIT:=ae (yD kq hks YQ (VF.o _ abp.o.below))
        obtain⟨s2,Ti⟩: ∃s,Lib.itoa kq=s:=⟨_,rfl⟩
        rw[Ti] at hil hkr
        have HS2:=ae Ti
        have HKR:=ae hkr
        have a1:=fun W=>kT (P:=Tryz.prog) (a:=U4) (b:=s2) rfl (by have:(U4:aF).length=6:=rfl;omega) W
        have a2:=fun W=>kT (P:=Tryz.prog) (a:=U4++s2) (b:=[10]) rfl (by rw[dA];have:(U4:aF).length=6:=rfl;have:([10]:aF).length=1:=rfl;omega) W
        clear Tt hks Ti hkr c9 f9 l9
        go_wp2_with fail
        refine HIT.o.mono ?_
        rintro e W13 ⟨rfl,MB⟩
        rw[HS2.o]
        have UB:=ae (abp.o.call MB)
        clear MB
        go_wp2_with fail
        refine(vK W3.heap.size W3.heap.size P5 _ W13 UB.o.buf (nG UB.o.lt) (by simp;omega)).mono ?_
        rintro e Vw ⟨⟨v14,rfl⟩,hbu,hwr⟩
        obtain⟨P6,YM⟩: ∃P,P5++keepR s=P:=⟨_,rfl⟩
        have hs6:P6.length<=1000+400:=by
         rw[<-YM,HKR.o,dA,dA,dA]
         have:(U4:aF).length=6:=rfl
         have:([10]:aF).length=1:=rfl
         omega
        have aax:Buf W3.heap.size W3.heap.size P6 Vw:=by
         rw[<-YM,HKR.o]
         simpa using hbu
        have Uz:=ae (UB.o.wrote aax hwr (by omega))
        have aar:oI s=P6++(jD s.dn).flatMap (gZ Cb):=by rw[afN.o,YM]
        have afM:=ae aar
        clear hbu aax hwr YM aar a1 a2
        obtain⟨c9,f9,l9⟩:=af (HC.o Vw Uz.o.below)
        have HCB:=ae (yC s.dn vh vk vs es Vw (HST.o Vw Uz.o.below).dn)
        go_wp2_with fail
        refine HCB.o.mono ?_
        rintro e Yi ⟨aaz,⟨hne,rfl⟩|⟨_,ako,alO,rfl,hhv,hcv⟩⟩
        ·exact absurd jA.o.2.acX hne
        obtain⟨C,hC⟩: ∃C,jD s.dn=C:=⟨_,rfl⟩
        have hC3:C.length<=3:=by rw[<-hC];unfold jD;rw[lN,List.length_range];exact jA.o.1.aT
        have HCS:Hid (∀r∈C,kQ r.1/\kQ r.2):=ae (by rw[<-hC];exact Ij jA.o.2.acX)
        rw[hC] at hcv
        have HCE:=ae hC
        obtain⟨hO,hCc,rfl⟩:=hhv.open
        obtain⟨cO,cC,rfl⟩:=hcv.open
        have abo:=ae (ag (Uz.o.call aaz) hcv)
        clear aaz hhv hcv hC c9 f9 l9
        go_wp2_with fail
        go_loopw [149] (fun i wr=> ∃k:Nat,k<=C.length/\i= .int .i64 k/\YR W3 (P6++(C.take k).flatMap (gZ Cb)) wr/\aN 2 wr (.slice cO C.length cC) C.length (aH C)) (fun i _=>C.length-(intOf i).toNat)
        case atStart=>exact⟨0,bU _,rfl,by simpa using abo.o.1,abo.o.2⟩
        case round=>
         obtain⟨k,hk,rfl,hR,hL⟩:=hrel
         by_cases hlt:k<C.length
         ·obtain⟨lb,SA,rfl,hlb,d1,d2⟩:=bP.cell hL hlt
          obtain⟨x,hx⟩: ∃x,C[k]=x:=⟨_,rfl⟩
          rw[hx] at d1 d2
          have hsm:=HCS.o C[k] (cZ hlt)
          rw[hx] at hsm
          have htf:P6++(C.take (k+1)).flatMap (gZ Cb)=(P6++(C.take k).flatMap (gZ Cb))++gZ Cb x:=by rw[vP _ hlt,hx,nV]
          have hlen:(P6++(C.take (k+1)).flatMap (gZ Cb)).length<=500000:=by
           have h1:=rX Cb (l:=C.take (k+1)) (fun r hr=>HCS.o r (pW hr))
           have h2:(C.take (k+1)).length<=10:=by rw[gY];omega
           rw[dA]
           have h3:(Cb:aF).length+26<=40:=by decide
           have h4:=Nat.mul_le_mul h3 h2
           have h5:=hC3
           have h6:(P6).length<=2000:=(by omega)
           omega
          have hR':=hR.call (aj (aG _ _) (.cells #[iv x.1,iv x.2] 112 (0,0)))
          have HW:=ae (sF W3.heap.size W3.heap.size _ Cb x _ hR'.buf (nG hR'.lt) (by omega) (VF.o _ hR'.below) hsm.1 hsm.2 (by have h1:=hR.len;have h2:(Cb:aF).length<=10:=(by decide);omega))
          have HX:=ae (ag hR' (ag hL (ag htf hlen)))
          clear hR hL htf hlen hR' hsm hx
          go_wp2_with fail
          refine HW.o.mono ?_
          rintro e W6 ⟨⟨v,rfl⟩,hbu,hwr⟩
          have Vj:=HX.o.1.wrote hbu hwr (by have:=HX.o.2.2.2;rwa [HX.o.2.2.1] at this)
          have hL6:=hwr.list (HX.o.2.1.alloc _) (BG C)
          have H6:=ae (ag Vj hL6)
          clear hbu hwr Vj hL6
          go_wp2_with fail
          go_roundw
          case rel=>exact⟨k+1,by omega,by go_num,by rw[HX.o.2.2.1];exact H6.o.1,H6.o.2⟩
          case measure=>simp[intOf];omega
         ·have hkl:k=C.length:=by omega
          subst hkl
          rw[List.take_length] at hR
          have xU:=ae hR
          clear hR hL
          obtain⟨P7,Tu⟩: ∃P,P6++C.flatMap (gZ Cb)=P:=⟨_,rfl⟩
          rw[Tu] at xU
          have VD:Hid (Lt ls=P7):=ae (by rw[Nh.o,afM.o,HCE.o,Tu])
          clear Tu
          go_wp2_with fail
          refine(Tryz.Builder_String_any_k W3.heap.size W3.heap.size P7 wr (Lib.IsBuilderF.of xU.o.buf.is) (nG xU.o.lt)).mono ?_
          rintro e W16 ⟨rfl,_,hb16,_⟩
          have afV:=ae (H3.o.1.trans ((xU.o.below.trans hb16).mono H3.o.1.size))
          clear hb16
          go_wp2_with fail
          go_returns
          exact⟨afV.o,by rw[VD.o,HQ.o];simp⟩
     ·have hLI:((L.length:Int)==0)=false:=by simp;exact fun h=>hL0 (by simp[h])
      have ho:Gp s=[]:=by
       unfold Gp
       rw[HLE.o,ai (fun h=>hL0 (by rw[h];rfl))]
      have HEQ:Hid (oI s=P4++Ha s++keepR s++(jD s.dn).flatMap (gZ Cb)):=ae (by rw[afO.o,ho,List.append_nil])
      clear ho hL0
      have acj:P4.length<=1300:=by omega
      obtain⟨W9,MC⟩: ∃W,W=W8':=⟨_,rfl⟩
      rw[<-MC] at Yv
      rw[<-MC]
      have Yu:=Yv
      clear MC
      obtain⟨c9,f9,l9⟩:=af (HC.o W9 Yu.o.below)
      have uC:=HST.o W9 Yu.o.below
      have Nl:=ae (jG.IK s.heap vw vu vr vu s.heap.turns W9 uC.bW uC.Fg uC.Eh uC.Fg)
      clear uC
      go_wp2_with fail
      refine Nl.o.mono ?_
      rintro e Un ⟨bv,he,hbv,Az⟩
      rw[jA.o.2.ask] at he
      subst he
      obtain⟨zI,hB1,hB2⟩:=G9 jA.o.1 jA.o.2
      have hhr:Ha s=gZ U5 ((jG.jU s.heap s.heap.turns).getD 4 (0,0)):=rfl
      obtain⟨B,hB⟩: ∃B,jG.jU s.heap s.heap.turns=B:=⟨_,rfl⟩
      rw[hB] at hbv zI hB1 hB2 hhr
      obtain⟨bO,bC,rfl⟩:=hbv.open
      obtain⟨lb,SA,rfl,hlb,d1,d2⟩:=bP.cell hbv (k:=4) (by omega)
      have hg4:B.getD 4 (0,0)=B[4]:=wX (by omega)
      rw[hg4] at hB1 hB2 hhr
      generalize B[4]=x at*
      have IC:=ae (Yu.o.call Az)
      have hl4:s.heap.last=4:=jA.o.1.heap.1
      have HHR:=ae hhr
      clear hbv Az hB hhr c9 f9 l9 hg4
      obtain⟨c9,f9,l9⟩:=af (HC.o Un IC.o.below)
      rw[zI]
      have HW:=ae (fun W hE=>sF W3.heap.size W3.heap.size P4 U5 x W (IC.o.call hE).buf (nG (IC.o.call hE).lt) (by omega) (VF.o _ (IC.o.call hE).below) hB1 hB2 (by have h2:(U5:aF).length<=10:=(by decide);omega))
      have hwl:=CV (word:=U5) hB1 hB2
      clear hB1 hB2 zI
      go_wp2_with fail
      refine zg 15 [] none [] ?_
      simp only[zt]
      repeat ((first|refine zn ?_|refine zk ?_);simp only[zp])
      intro W hE hF
      have hbE:=hE.below
      clear hE hF
      go_wp2_with fail
      refine(HW.o W hbE).mono ?_
      rintro e W11 ⟨⟨v11,rfl⟩,hbu,hwr⟩
      obtain⟨P5,hP5⟩: ∃P,P4++gZ U5 x=P:=⟨_,rfl⟩
      have hs5:P5.length<=1340:=by rw[<-hP5,dA];have:(U5:aF).length=4:=rfl;omega
      rw[hP5] at hbu
      have UC:=ae ((IC.o.call hbE).wrote hbu hwr (by omega))
      have aas:oI s=P5++keepR s++(jD s.dn).flatMap (gZ Cb):=by rw[HEQ.o,HHR.o,hP5]
      have afN:=ae aas
      clear hbu hwr hP5 aas c9 f9 l9 hbE hwl d1 d2 hl4
      obtain⟨c9,f9,l9⟩:=af (HC.o W11 UC.o.below)
      have uC:=HST.o W11 UC.o.below
      have HKP:=ae (jG.D9 s.heap vw vu vr vu s.heap.turns W11 uC.bW uC.Fg uC.Eh uC.Fg)
      have hkr:keepR s=U4++Lib.itoa (jG.oL s.heap s.heap.turns)++[10]:=rfl
      have hks:=Ew s.heap s.heap.turns
      obtain⟨kq,hkq⟩: ∃k,jG.oL s.heap s.heap.turns=k:=⟨_,rfl⟩
      rw[hkq] at hkr hks
      have HKQ:=ae hkq
      clear uC hkq
      go_wp2_with fail
      refine HKP.o.mono ?_
      rintro e YQ ⟨he,Tt⟩
      rw[HKQ.o,jA.o.2.ask] at he
      subst he
      have abp:=ae (UC.o.call Tt)
      have hil:=qN hks
      have HIT:=ae (yD kq hks YQ (VF.o _ abp.o.below))
      obtain⟨s2,Ti⟩: ∃s,Lib.itoa kq=s:=⟨_,rfl⟩
      rw[Ti] at hil hkr
      have HS2:=ae Ti
      have HKR:=ae hkr
      have a1:=fun W=>kT (P:=Tryz.prog) (a:=U4) (b:=s2) rfl (by have:(U4:aF).length=6:=rfl;omega) W
      have a2:=fun W=>kT (P:=Tryz.prog) (a:=U4++s2) (b:=[10]) rfl (by rw[dA];have:(U4:aF).length=6:=rfl;have:([10]:aF).length=1:=rfl;omega) W
      clear Tt hks Ti hkr c9 f9 l9
      go_wp2_with fail
      refine HIT.o.mono ?_
      rintro e W13 ⟨rfl,MB⟩
      rw[HS2.o]
      have UB:=ae (abp.o.call MB)
      clear MB
      go_wp2_with fail
      refine(vK W3.heap.size W3.heap.size P5 _ W13 UB.o.buf (nG UB.o.lt) (by simp;omega)).mono ?_
      rintro e Vw ⟨⟨v14,rfl⟩,hbu,hwr⟩
      obtain⟨P6,YM⟩: ∃P,P5++keepR s=P:=⟨_,rfl⟩
      have hs6:P6.length<=1000+400:=by
       rw[<-YM,HKR.o,dA,dA,dA]
       have:(U4:aF).length=6:=rfl
       have:([10]:aF).length=1:=rfl
       omega
      have aax:Buf W3.heap.size W3.heap.size P6 Vw:=by
       rw[<-YM,HKR.o]
       simpa using hbu
      have Uz:=ae (UB.o.wrote aax hwr (by omega))
      have aar:oI s=P6++(jD s.dn).flatMap (gZ Cb):=by rw[afN.o,YM]
      have afM:=ae aar
      clear hbu aax hwr YM aar a1 a2
      obtain⟨c9,f9,l9⟩:=af (HC.o Vw Uz.o.below)
      have HCB:=ae (yC s.dn vh vk vs es Vw (HST.o Vw Uz.o.below).dn)
      go_wp2_with fail
      refine HCB.o.mono ?_
      rintro e Yi ⟨aaz,⟨hne,rfl⟩|⟨_,ako,alO,rfl,hhv,hcv⟩⟩
      ·exact absurd jA.o.2.acX hne
      obtain⟨C,hC⟩: ∃C,jD s.dn=C:=⟨_,rfl⟩
      have hC3:C.length<=3:=by rw[<-hC];unfold jD;rw[lN,List.length_range];exact jA.o.1.aT
      have HCS:Hid (∀r∈C,kQ r.1/\kQ r.2):=ae (by rw[<-hC];exact Ij jA.o.2.acX)
      rw[hC] at hcv
      have HCE:=ae hC
      obtain⟨hO,hCc,rfl⟩:=hhv.open
      obtain⟨cO,cC,rfl⟩:=hcv.open
      have abo:=ae (ag (Uz.o.call aaz) hcv)
      clear aaz hhv hcv hC c9 f9 l9
      go_wp2_with fail
      go_loopw [149] (fun i wr=> ∃k:Nat,k<=C.length/\i= .int .i64 k/\YR W3 (P6++(C.take k).flatMap (gZ Cb)) wr/\aN 2 wr (.slice cO C.length cC) C.length (aH C)) (fun i _=>C.length-(intOf i).toNat)
      case atStart=>exact⟨0,bU _,rfl,by simpa using abo.o.1,abo.o.2⟩
      case round=>
       obtain⟨k,hk,rfl,hR,hL⟩:=hrel
       by_cases hlt:k<C.length
       ·obtain⟨lb,SA,rfl,hlb,d1,d2⟩:=bP.cell hL hlt
        obtain⟨x,hx⟩: ∃x,C[k]=x:=⟨_,rfl⟩
        rw[hx] at d1 d2
        have hsm:=HCS.o C[k] (cZ hlt)
        rw[hx] at hsm
        have htf:P6++(C.take (k+1)).flatMap (gZ Cb)=(P6++(C.take k).flatMap (gZ Cb))++gZ Cb x:=by rw[vP _ hlt,hx,nV]
        have hlen:(P6++(C.take (k+1)).flatMap (gZ Cb)).length<=500000:=by
         have h1:=rX Cb (l:=C.take (k+1)) (fun r hr=>HCS.o r (pW hr))
         have h2:(C.take (k+1)).length<=10:=by rw[gY];omega
         rw[dA]
         have h3:(Cb:aF).length+26<=40:=by decide
         have h4:=Nat.mul_le_mul h3 h2
         have h5:=hC3
         have h6:(P6).length<=2000:=(by omega)
         omega
        have hR':=hR.call (aj (aG _ _) (.cells #[iv x.1,iv x.2] 112 (0,0)))
        have HW:=ae (sF W3.heap.size W3.heap.size _ Cb x _ hR'.buf (nG hR'.lt) (by omega) (VF.o _ hR'.below) hsm.1 hsm.2 (by have h1:=hR.len;have h2:(Cb:aF).length<=10:=(by decide);omega))
        have HX:=ae (ag hR' (ag hL (ag htf hlen)))
        clear hR hL htf hlen hR' hsm hx
        go_wp2_with fail
        refine HW.o.mono ?_
        rintro e W6 ⟨⟨v,rfl⟩,hbu,hwr⟩
        have Vj:=HX.o.1.wrote hbu hwr (by have:=HX.o.2.2.2;rwa [HX.o.2.2.1] at this)
        have hL6:=hwr.list (HX.o.2.1.alloc _) (BG C)
        have H6:=ae (ag Vj hL6)
        clear hbu hwr Vj hL6
        go_wp2_with fail
        go_roundw
        case rel=>exact⟨k+1,by omega,by go_num,by rw[HX.o.2.2.1];exact H6.o.1,H6.o.2⟩
        case measure=>simp[intOf];omega
       ·have hkl:k=C.length:=by omega
        subst hkl
        rw[List.take_length] at hR
        have xU:=ae hR
        clear hR hL
        obtain⟨P7,Tu⟩: ∃P,P6++C.flatMap (gZ Cb)=P:=⟨_,rfl⟩
        rw[Tu] at xU
        have VD:Hid (Lt ls=P7):=ae (by rw[Nh.o,afM.o,HCE.o,Tu])
        clear Tu
        go_wp2_with fail
        refine(Tryz.Builder_String_any_k W3.heap.size W3.heap.size P7 wr (Lib.IsBuilderF.of xU.o.buf.is) (nG xU.o.lt)).mono ?_
        rintro e W16 ⟨rfl,_,hb16,_⟩
        have afV:=ae (H3.o.1.trans ((xU.o.below.trans hb16).mono H3.o.1.size))
        clear hb16
        go_wp2_with fail
        go_returns
        exact⟨afV.o,by rw[VD.o,HQ.o];simp⟩
def dgF:Nat->Nat->aF
 |0,_=>[]
 |f+1,n=>if n<10 then[Dz n] else dgF f (n/10)++[Dz (n%10)]
theorem aaS: ∀(f n:Nat),n<f->Lib.decDigits n=dgF f n:=by
 intro f
 induction f with
 |zero=>intro n h;omega
 |succ f ih=>
  intro n h
  unfold dgF
  by_cases hn:n<10
  ·rw[lD hn,aA hn]
  ·rw[xm hn,ai hn,ih (n/10) (by omega)]
def J7 (n:Int):aF:=if n<0 then 45::dgF (n.natAbs+1) n.natAbs else dgF (n.toNat+1) n.toNat
theorem BH (n:Int):Lib.itoa n=J7 n:=by
 unfold Lib.itoa J7
 rw[aaS _ _ (Nat.lt_succ_self _),aaS _ _ (Nat.lt_succ_self _)]
def Ju (word:aF) (r:dX):aF:=word++[32]++J7 r.1++[46,46]++J7 r.2++[10]
theorem YY (word:aF):gZ word=Ju word:=by
 funext r
 unfold gZ Ju
 rw[BH,BH]
def spF (i:Int):aF:=32::J7 i
def Ls (s:jF):aF:=
 (BU s.led.field).flatMap (Ju TQ)++lvW++(nT s.led).flatMap spF++[10]++(if nT s.led=[] then(Ce oP s.led (gq s.led)).flatMap (Ju QK) else[])
   ++Ju U5 ((jG.jU s.heap s.heap.turns).getD 4 (0,0))++(U4++J7 (jG.oL s.heap s.heap.turns)++[10])++(jD s.dn).flatMap (Ju Cb)
theorem ad7:Zf=spF:=by
 funext i
 unfold Zf spF
 rw[BH]
theorem Rw (s:jF):oI s=Ls s:=by
 unfold oI Ls Gp Ha keepR
 simp only[YY,BH,ad7]
def jW:List aF:=[[114,111,119],
 [108,101,102,116,32,48,32,48],
 [116,97,108,108,121,32,48,32,48,32,50,32,50,32,51],
 [116,97,108,108,121,32,49,32,50,32,51,32,49,32,50],
 [98,111,120,32,50,48,32,50,50],
 [110,111,116,101,32,48,32,49,48,32,49,53],
 [116,117,114,110,32,51],
 [119,101,116,32,49,32,56,32,57],
 [105,114,111,110,32,49,32,52,52,32,48],
 [99,97,115,107,32,48,32,49,48],
 [104,101,97,112,32,54,48,32,54,51],
 [102,105,108,108,32,48,32,49,32,49,48],
 [116,114,121,32,48,32,53,49,32,53,50]]
def rG:List aF:=[[119,97,115,104,32,49,32,52,32,53],
 [116,117,114,110,32,51],
 [114,97,116,101,32,48,53]]
def agv:aF:=[100,111,110,101,32,50,46,46,51,10,100,111,110,101,32,49,46,46,50,10,108,101,97,118,101,10,111,119,101,100,32,53,46,46,50,48,10,111,119,101,100,32,48,46,46,49,53,10,104,101,97,116,32,51,55,46,46,51,55,10,107,101,101,112,115,32,49,10,99,97,115,107,32,53,49,46,46,53,49,10]
theorem VG:(fK bF ed (jW++rG)).2=[0,0,0,0,0,0,0,0,0,0,0,0,0,2,6,4]:=by decide+kernel
theorem sH:dG jW=0/\dG (jW++rG)=0:=by decide+kernel
theorem Js:JR jW=0/\JS jW=[(5,20),(0,15)]:=by decide+kernel
theorem Jr:Jw jW=0/\Jy jW=[0]:=by decide+kernel
theorem YX:Ls (fK bF ed jW).1=agv:=by decide+kernel
end Go.Proofs.YthbpmepjmebolaaGreatDoor.Bk
end
section
namespace Go.Proofs.YthbpmepjmebolaaGreatDoor.Bk
open Go.Lib Go.RowKit Go.RG Go.SL Go.Shelf jv Go.TB Go.Proofs.YthbpmepjmebolaaGreatDoor.zF
theorem Ak (l:List Int) (v u:Value) (w:World) (h:aP w v l) (k:aP w u l):Calls Tryz.prog 35 #[v,u] w (PV (.bool true) w):=by
 obtain⟨o1,q1,rfl⟩:=aN.open h
 obtain⟨o2,q2,rfl⟩:=aN.open k
 have hl1:=h.len
 have HH:=ae (ag h k)
 clear h k
 have hne:((l.length:Int) !=(l.length:Int))=false:=by simp
 go_enter Tryz.func35,Tryz.ntmps35
 go_wp2_with fail
 go_loopw [5] (fun i wr=> ∃k:Nat,k<=l.length/\i= .int .i64 k/\Below w.heap.size w wr) (fun i _=>l.length-(intOf i).toNat)
 case atStart=>exact⟨0,bU _,rfl,aG _ _⟩
 case round=>
  obtain⟨k,hk,rfl,hB⟩:=hrel
  by_cases hlt:k<l.length
  ·obtain⟨g1,f1,e1,r1,c1⟩:=aP.cell (HH.o.1.below hB (ak _)) hlt
   obtain⟨g2,f2,e2,r2,c2⟩:=aP.cell (HH.o.2.below hB (ak _)) hlt
   generalize l[k]=x at*
   have HX:=ae hB
   have xO:(k:Int)<l.length:=by omega
   cases e1
   cases e2
   clear hB
   have hnb:(x !=x)=false:=by simp
   have hnc:(x==x)=true:=by simp
   go_wp2_with fail
   go_region
   all_goals go_wp2_with fail
   all_goals go_roundw
   all_goals first
    |exact⟨k+1,by omega,by go_num,iC HX.o⟩
    |(simp[intOf];omega)
  ·have HR:=ae hB
   clear hB
   go_wp2_with fail
   go_returns
   exact⟨rfl,HR.o⟩
theorem XK (l:List Int) (v u:Value) (w:World) (h:aP w v l) (k:aP w u l):Calls Tryz.prog 36 #[v,u] w (PV (.bool true) w):=by
 obtain⟨o1,q1,rfl⟩:=aN.open h
 obtain⟨o2,q2,rfl⟩:=aN.open k
 have hl1:=h.len
 have HH:=ae (ag h k)
 clear h k
 have hne:((l.length:Int) !=(l.length:Int))=false:=by simp
 go_enter Tryz.func36,Tryz.ntmps36
 go_wp2_with fail
 go_loopw [5] (fun i wr=> ∃k:Nat,k<=l.length/\i= .int .i64 k/\Below w.heap.size w wr) (fun i _=>l.length-(intOf i).toNat)
 case atStart=>exact⟨0,bU _,rfl,aG _ _⟩
 case round=>
  obtain⟨k,hk,rfl,hB⟩:=hrel
  by_cases hlt:k<l.length
  ·obtain⟨g1,f1,e1,r1,c1⟩:=aP.cell (HH.o.1.below hB (ak _)) hlt
   obtain⟨g2,f2,e2,r2,c2⟩:=aP.cell (HH.o.2.below hB (ak _)) hlt
   generalize l[k]=x at*
   have HX:=ae hB
   have xO:(k:Int)<l.length:=by omega
   cases e1
   cases e2
   clear hB
   have hnb:(x !=x)=false:=by simp
   have hnc:(x==x)=true:=by simp
   go_wp2_with fail
   go_region
   all_goals go_wp2_with fail
   all_goals go_roundw
   all_goals first
    |exact⟨k+1,by omega,by go_num,iC HX.o⟩
    |(simp[intOf];omega)
  ·have HR:=ae hB
   clear hB
   go_wp2_with fail
   go_returns
   exact⟨rfl,HR.o⟩
theorem rY {w W1:World} {A B:Array Value} {t:TypeId} (h:W1=(w.alloc (.cells A t)).alloc (.cells B t)):
 Below w.heap.size w W1/\W1.heap[w.heap.size]? =some (.cells A t (0,0))/\W1.heap[w.heap.size+1]? =some (.cells B t (0,0))/\W1.heap.size=w.heap.size+2:=by
 subst h
 exact⟨aj (aj (aG _ _) _) _,(aW _ _ _ (by simp)).trans (ay _ _),dY _ _ _,by simp⟩
theorem F5 {w W1:World} {A B:Array Value} {t:TypeId} (h:W1=((w.alloc (.cells A t)).alloc (.cells B t)).drew):
 Below w.heap.size w W1/\W1.heap[w.heap.size]? =some (.cells A t (0,0))/\W1.heap[w.heap.size+1]? =some (.cells B t (0,0))/\W1.heap.size=w.heap.size+2:=by
 obtain⟨h1,h2,h3,h4⟩:=rY (w:=w) (A:=A) (B:=B) (t:=t) rfl
 subst h
 exact⟨iC h1,h2,h3,h4⟩
theorem TD (s t:jF) (V U:SV) (w:World) (hs:dM w V.vO s.led.field.ax) (ht:dM w U.vO t.led.field.ax) (he:t.led.field=s.led.field):
 Calls Tryz.prog 21 #[.agg (dw s V),.agg (dw t U)] w (PV (.bool true) w):=by
 obtain⟨vt,vn,vw,vu,vr,vh,vk,vs⟩:=V
 obtain⟨ut,un,uw,uu,ur,uh,uk,us⟩:=U
 obtain⟨⟨f,lr,lb,ln⟩,h,c⟩:=s
 obtain⟨⟨f2,mr,mb,mn⟩,h2,c2⟩:=t
 simp only at he hs ht
 subst he
 obtain⟨n,m,⟨l0,l1⟩,T⟩:=f2
 simp only at hs ht
 obtain⟨tO,tc,rfl⟩:=aN.open hs
 obtain⟨uo,uc,rfl⟩:=aN.open ht
 have hl:=hs.len
 have HH:=ae (ag hs ht)
 clear hs ht
 go_enter Tryz.func21,Tryz.ntmps21
 go_upto_region 1 with(fail)
 refine dF fun W1 hW1=>?_
 obtain⟨hb1,k1,k2,hz1⟩:=rY hW1
 obtain⟨c1,f1,l1'⟩:=af k1
 obtain⟨c2',f2',l2'⟩:=af k2
 have HB1:=ae hb1
 clear hb1 hW1 k1 k2
 go_region
 all_goals
  go_upto_region 2 with(fail)
  refine dF fun W2 hW2=>?_
  obtain⟨hb2,k5,k6,hz2⟩:=F5 hW2
  rw[hz1] at hz2
  rw[hz1] at k5 k6
  have HB2:=ae (aY HB1.o hb2)
  have HK:=ae (ag k5 k6)
  obtain⟨c5,f5,l5⟩:=af k5
  obtain⟨c6,f6,l6⟩:=af k6
  clear hW2 c1 f1 l1' c2' f2' l2' hb2 k5 k6
  go_wp2_with fail
  go_loopw [7] (fun i wr=> ∃k:Nat,k<=(T).length/\i= .int .i64 k/\Below W2.heap.size W2 wr) (fun i _=>(T).length-(intOf i).toNat)
  case atStart=>exact⟨0,bU _,rfl,aG _ _⟩
  case round=>
   obtain⟨k,hk,rfl,hB⟩:=hrel
   obtain⟨c7,f7,l7⟩:=af ((hB.block _ l5).trans HK.o.1)
   obtain⟨c8,f8,l8⟩:=af ((hB.block _ l6).trans HK.o.2)
   by_cases hlt:k<(T).length
   ·obtain⟨g1,o1,e1,r1,x1,x2,x3,x4,x5⟩:=dM.cell (HH.o.1.below (aY HB2.o hB) (ak _)) hlt
    obtain⟨g2,o2,e2,r2,y1,y2,y3,y4,y5⟩:=dM.cell (HH.o.2.below (aY HB2.o hB) (ak _)) hlt
    generalize (T)[k]=x at*
    have HX:=ae hB
    have xO:(k:Int)<(T).length:=by omega
    cases e1
    cases e2
    clear hB
    go_wp2_with fail
    go_region
    all_goals go_wp2_with fail
    all_goals go_roundw
    all_goals first
     |exact⟨k+1,by omega,by go_num,iC HX.o⟩
     |(simp[intOf];omega)
   ·skip
    have HZ:=ae (aY HB2.o hB)
    have hkl:k=(T).length:=by omega
    clear hB
    go_wp2_with fail
    go_returns
    exact⟨rfl,HZ.o⟩
theorem VK (l m:aQ) (tv nv sv mv:Value) (w:World) (hn:bz w nv l.notes) (hm:bz w mv m.notes) (hr:m.rate=l.rate) (hb:m.box=l.box) (he:m.notes=l.notes):
 Calls Tryz.prog 22 #[lv l tv nv,lv m sv mv] w (PV (.bool true) w):=by
 obtain⟨f,rt,⟨b0,b1⟩,N⟩:=l
 obtain⟨f2,rt2,bx2,N2⟩:=m
 simp only at hr hb he hn hm
 subst hr hb he
 obtain⟨no,nc,rfl⟩:=aN.open hn
 obtain⟨mo,mc,rfl⟩:=aN.open hm
 have hl:=hn.len
 have HH:=ae (ag hn hm)
 clear hn hm
 go_enter Tryz.func22,Tryz.ntmps22
 go_upto_region 1 with(fail)
 refine dF fun W1 hW1=>?_
 obtain⟨hb1,k1,k2,hz1⟩:=rY hW1
 obtain⟨c1,f1,l1⟩:=af k1
 obtain⟨c2,f2',l2⟩:=af k2
 have HB1:=ae hb1
 have HK:=ae (ag k1 k2)
 clear hb1 hW1 k1 k2
 go_wp2_with fail
 go_loopw [5] (fun i wr=> ∃k:Nat,k<=(N2).length/\i= .int .i64 k/\Below W1.heap.size W1 wr) (fun i _=>(N2).length-(intOf i).toNat)
 case atStart=>exact⟨0,bU _,rfl,aG _ _⟩
 case round=>
  obtain⟨k,hk,rfl,hB⟩:=hrel
  obtain⟨c7,f7,l7⟩:=af ((hB.block _ l1).trans HK.o.1)
  obtain⟨c8,f8,l8⟩:=af ((hB.block _ l2).trans HK.o.2)
  by_cases hlt:k<(N2).length
  ·obtain⟨g1,o1,e1,r1,x1,x2,x3⟩:=bz.cell (HH.o.1.below (aY HB1.o hB) (ak _)) hlt
   obtain⟨g2,o2,e2,r2,y1,y2,y3⟩:=bz.cell (HH.o.2.below (aY HB1.o hB) (ak _)) hlt
   generalize (N2)[k]=x at*
   have HX:=ae hB
   have xO:(k:Int)<(N2).length:=by omega
   cases e1
   cases e2
   clear hB
   go_wp2_with fail
   go_region
   all_goals go_wp2_with fail
   all_goals go_roundw
   all_goals first
    |exact⟨k+1,by omega,by go_num,iC HX.o⟩
    |(simp[intOf];omega)
  ·skip
   have HZ:=ae (aY HB1.o hB)
   have hkl:k=(N2).length:=by omega
   clear hB
   go_wp2_with fail
   go_returns
   exact⟨rfl,HZ.o⟩
theorem Xk (h:df) (wv tv xv uv' sv yv:Value) (w:World) (hw:bP w wv h.bW) (ht:aP w tv h.turns) (hx:bz w xv h.readings) (hu:bP w uv' h.bW) (hs:aP w sv h.turns) (hy:bz w yv h.readings):
 Calls Tryz.prog 23 #[jG.hv h wv tv xv,jG.hv h uv' sv yv] w (PV (.bool true) w):=by
 obtain⟨la,si,co,di,bu,⟨s0,s1⟩,bW,Fg,Eh⟩:=h
 simp only at hw ht hx hu hs hy
 obtain⟨wo,wc,rfl⟩:=aN.open hw
 obtain⟨tO,tc,rfl⟩:=aN.open ht
 obtain⟨xo,xc,rfl⟩:=aN.open hx
 obtain⟨uo,uc,rfl⟩:=aN.open hu
 obtain⟨so,sc,rfl⟩:=aN.open hs
 obtain⟨yo,yc,rfl⟩:=aN.open hy
 have hlw:=hw.len
 have hlx:=hx.len
 have HH:=ae (ag hw (ag hu (ag hx (ag hy (ag ht hs)))))
 clear hw ht hx hu hs hy
 go_enter Tryz.func23,Tryz.ntmps23
 go_upto_region 1 with(fail)
 refine dF fun W1 hW1=>?_
 obtain⟨hb1,k1,k2,hz1⟩:=rY hW1
 obtain⟨c1,f1,l1⟩:=af k1
 obtain⟨c2,f2',l2⟩:=af k2
 have HB1:=ae hb1
 have HK:=ae (ag k1 k2)
 clear hb1 hW1 k1 k2
 go_wp2_with fail
 refine(Ak Fg _ _ W1 (HH.o.2.2.2.2.1.below HB1.o (ak _)) (HH.o.2.2.2.2.2.below HB1.o (ak _))).mono ?_
 rintro e W2 ⟨rfl,hb2⟩
 have k5:=(hb2.block _ l1).trans HK.o.1
 have k6:=(hb2.block _ l2).trans HK.o.2
 obtain⟨c5,f5,l5⟩:=af k5
 obtain⟨c6,f6,l6⟩:=af k6
 have HB2:=ae (aY HB1.o hb2)
 have KP:=ae (ag k5 k6)
 clear hb2 k5 k6 c1 f1 c2 f2'
 go_wp2_with fail
 go_loopw [5] (fun i wr=> ∃k:Nat,k<=(bW).length/\i= .int .i64 k/\Below W2.heap.size W2 wr) (fun i _=>(bW).length-(intOf i).toNat)
 case atStart=>exact⟨0,bU _,rfl,aG _ _⟩
 case round=>
  obtain⟨k,hk,rfl,hB⟩:=hrel
  obtain⟨c7,f7,l7⟩:=af ((hB.block _ l5).trans KP.o.1)
  obtain⟨c8,f8,l8⟩:=af ((hB.block _ l6).trans KP.o.2)
  by_cases hlt:k<(bW).length
  ·obtain⟨g1,o1,e1,r1,x1,x2⟩:=bP.cell (HH.o.1.below (aY HB2.o hB) (ak _)) hlt
   obtain⟨g2,o2,e2,r2,y1,y2⟩:=bP.cell (HH.o.2.1.below (aY HB2.o hB) (ak _)) hlt
   generalize (bW)[k]=x at*
   have HX:=ae hB
   have xO:(k:Int)<(bW).length:=by omega
   cases e1
   cases e2
   clear hB
   go_wp2_with fail
   go_region
   all_goals go_wp2_with fail
   all_goals go_roundw
   all_goals first
    |exact⟨k+1,by omega,by go_num,iC HX.o⟩
    |(simp[intOf];omega)
  ·have k9:=(hB.block _ l5).trans KP.o.1
   have k10:=(hB.block _ l6).trans KP.o.2
   have HB3:=ae (aY HB2.o hB)
   generalize wr=W3 at*
   have FU:=ae (ag k9 k10)
   clear hB k9 k10
   go_wp2_with fail
   go_loopw [6] (fun i wr=> ∃k:Nat,k<=(Eh).length/\i= .int .i64 k/\Below W3.heap.size W3 wr) (fun i _=>(Eh).length-(intOf i).toNat)
   case atStart=>exact⟨0,bU _,rfl,aG _ _⟩
   case round=>
    obtain⟨k,hk,rfl,hB⟩:=hrel
    obtain⟨c7,f7,l7⟩:=af ((hB.block _ l7).trans FU.o.1)
    obtain⟨c8,f8,l8⟩:=af ((hB.block _ l8).trans FU.o.2)
    by_cases hlt:k<(Eh).length
    ·obtain⟨g1,o1,e1,r1,x1,x2,x3⟩:=bz.cell (HH.o.2.2.1.below (aY HB3.o hB) (ak _)) hlt
     obtain⟨g2,o2,e2,r2,y1,y2,y3⟩:=bz.cell (HH.o.2.2.2.1.below (aY HB3.o hB) (ak _)) hlt
     generalize (Eh)[k]=x at*
     have HX:=ae hB
     have xO:(k:Int)<(Eh).length:=by omega
     cases e1
     cases e2
     clear hB
     go_wp2_with fail
     go_region
     all_goals go_wp2_with fail
     all_goals go_roundw
     all_goals first
      |exact⟨k+1,by omega,by go_num,iC HX.o⟩
      |(simp[intOf];omega)
    ·skip
     have HZ:=ae (aY HB3.o hB)
     have hkl:k=(Eh).length:=by omega
     clear hB
     go_wp2_with fail
     go_returns
     exact⟨rfl,HZ.o⟩
end Go.Proofs.YthbpmepjmebolaaGreatDoor.Bk
end
section
namespace Go.Proofs.YthbpmepjmebolaaGreatDoor.Bk
open Go.RowKit Go.RG Go.SL Go.Shelf jv Go.TB Go.Proofs.YthbpmepjmebolaaGreatDoor.zF
theorem SB (ls:List aF) (v:Value) (w:World) (hv:jb w v ls):Calls Tryz.prog 28 #[v] w (PV (iv (dG ls)) w):=by
 have hlen:=hv.len
 obtain⟨o,c,rfl⟩:=aN.open hv
 have HV:=ae hv
 clear hv
 by_cases h40:40<ls.length
 ·have alJ:(40:Int)<ls.length:=by omega
  have HR:Hid (dG ls=3):=ae (by unfold dG;rw[aA (.inl h40)])
  go_enter Tryz.func28,Tryz.ntmps28
  go_wp2_with fail
  go_returns
  exact⟨by rw[HR.o];simp,aG _ _⟩
 ·have alJ: ¬(40:Int)<ls.length:=by omega
  go_enter Tryz.func28,Tryz.ntmps28
  go_wp2_with fail
  go_loopw [3] (fun i wr=> ∃k:Nat,k<=ls.length/\i= .int .i64 k/\(∀j (h:j<ls.length),j<k->ls[j].length<=60)/\Below w.heap.size w wr) (fun i _=>ls.length-(intOf i).toNat)
  case atStart=>exact⟨0,bU _,rfl,fun j _ hj=>by omega,aG _ _⟩
  case round=>
   obtain⟨k,hk,rfl,hno,hB⟩:=hrel
   by_cases hlt:k<ls.length
   ·obtain⟨b,off,rfl,hb,hc0⟩:=jb.cell (aN.below HV.o hB (ak _)) hlt
    have HN:=ae hno
    have HB:=ae hB
    have HK:=ae (fun h=>hno k hlt h)
    obtain⟨x,hx⟩: ∃x,ls[k]=x:=⟨_,rfl⟩
    rw[hx] at hc0
    have hs:(eu x).size=x.length:=pg x
    have HX:=ae hx
    clear hno hB hx
    by_cases h60:x.length<=60
    ·have ae3: ¬(60:Int)<x.length:=by omega
     go_wp2_with fail
     go_roundw
     case rel=>exact⟨k+1,by omega,by go_num,fun j h hj=>(by by_cases e:j=k;(subst e;rw[HX.o];exact h60);exact HN.o j h (by omega)),HB.o⟩
     case measure=>simp[intOf];omega
    ·have ae3:(60:Int)<x.length:=by omega
     go_wp2_with fail
     go_returns
     refine⟨?_,HB.o⟩
     have:dG ls=3:=by
      unfold dG
      rw[aA (.inr (List.any_eq_true.2 ⟨x,by rw[<-HX.o];exact cZ _,by simp;omega⟩))]
     rw[this]
     simp
   ·have hkl:k=ls.length:=by omega
    have HN:=ae hno
    have HB:=ae hB
    clear hno hB
    go_wp2_with fail
    go_returns
    refine⟨?_,HB.o⟩
    have:dG ls=0:=by
     unfold dG
     rw[ai]
     simp only[not_or,Bool.not_eq_true]
     refine⟨h40,List.any_eq_false.2 fun x hx=>?_⟩
     obtain⟨j,hj,rfl⟩:=mJ hx
     have:=HN.o j hj (by omega)
     simp;omega
    rw[this]
    simp
def Jz (ls:List aF):Bool:=decide (ls.length<=45)&&ls.all fun x=>decide (x.length<=80)
theorem vN {ls:List aF}:Jz ls=true↔ls.length<=45/\ ∀x∈ls,x.length<=80:=by
 unfold Jz
 rw[fH,eY,jR]
 exact⟨fun h=>⟨h.1,fun x hx=>of_decide_eq_true (h.2 x hx)⟩,fun h=>⟨h.1,fun x hx=>decide_eq_true (h.2 x hx)⟩⟩
theorem abg (ls:List aF) (v:Value) (w:World) (hv:jb w v ls):Calls Tryz.prog 27 #[v] w (PV (.bool (Jz ls)) w):=by
 have hlen:=hv.len
 obtain⟨o,c,rfl⟩:=aN.open hv
 have HV:=ae hv
 clear hv
 obtain⟨q,hq⟩: ∃q,Jz ls=q:=⟨_,rfl⟩
 rw[hq]
 have HQ:=ae hq
 clear hq
 go_enter Tryz.func27,Tryz.ntmps27
 go_wp2_with fail
 go_loopw [3] (fun i wr=> ∃k:Nat,k<=ls.length/\k<=46/\i= .int .i64 k/\(∀j (h:j<ls.length),j<k->ls[j].length<=80)/\Below w.heap.size w wr) (fun i _=>ls.length-(intOf i).toNat)
 case atStart=>exact⟨0,bU _,bU _,rfl,fun j _ hj=>by omega,aG _ _⟩
 case round=>
  obtain⟨k,hk,h46,rfl,hno,hB⟩:=hrel
  have HB:=ae hB
  have HN:=ae hno
  by_cases hlt:k<ls.length
  ·by_cases apL:k<46
   ·have ahr:(k:Int)<46:=by omega
    obtain⟨b,off,rfl,hb,hc0⟩:=jb.cell (aN.below HV.o hB (ak _)) hlt
    obtain⟨x,hx⟩: ∃x,ls[k]=x:=⟨_,rfl⟩
    rw[hx] at hc0
    have hs:(eu x).size=x.length:=pg x
    have HX:=ae hx
    clear hno hB hx
    by_cases h60:x.length<=80
    ·have ae3: ¬(80:Int)<x.length:=by omega
     go_wp2_with fail
     go_roundw
     case rel=>exact⟨k+1,by omega,by omega,by go_num,fun j h hj=>(by by_cases e:j=k;(subst e;rw[HX.o];exact h60);exact HN.o j h (by omega)),HB.o⟩
     case measure=>simp[intOf];omega
    ·have ae3:(80:Int)<x.length:=by omega
     have hq0:q=false:=by
      rw[<-HQ.o,Bool.eq_false_iff]
      intro h
      exact h60 ((vN.1 h).2 x (by rw[<-HX.o];exact cZ _))
     subst hq0
     go_wp2_with fail
     go_returns
     exact⟨by simp,HB.o⟩
   ·have ahr: ¬(k:Int)<46:=by omega
    have hq0:q=false:=by
     rw[<-HQ.o,Bool.eq_false_iff]
     intro h
     have:=(vN.1 h).1
     omega
    have h45: ¬(ls.length:Int)<=45:=by omega
    subst hq0
    clear hno hB
    go_wp2_with fail
    go_returns
    exact⟨by simp,HB.o⟩
  ·have hkl:k=ls.length:=by omega
   clear hno hB
   by_cases h45:ls.length<=45
   ·have alI:(ls.length:Int)<=45:=by omega
    have hq1:q=true:=by
     rw[<-HQ.o]
     refine vN.2 ⟨h45,fun x hx=>?_⟩
     obtain⟨j,hj,rfl⟩:=mJ hx
     exact HN.o j hj (by omega)
    subst hq1
    go_wp2_with fail
    go_returns
    exact⟨by simp,HB.o⟩
   ·have alI: ¬(ls.length:Int)<=45:=by omega
    have hq0:q=false:=by
     rw[<-HQ.o,Bool.eq_false_iff]
     intro h
     exact h45 (vN.1 h).1
    subst hq0
    go_wp2_with fail
    go_returns
    exact⟨by simp,HB.o⟩
theorem Bd: ∀l:aF,bG (l++[32])=bG l++[[]]:=by
 intro l
 induction l with
 |nil=>rfl
 |cons c l ih=>
  rw[List.cons_append,bG,bG,ih]
  split
  ·rfl
  ·cases hw:bG l with
   |nil=>exact absurd hw (jH l)
   |cons x y=>rfl
theorem Ny {c:UInt8} (hc:c≠32): ∀(l:aF) (A:List aF) (x:aF),bG l=A++[x]->bG (l++[c])=A++[x++[c]]:=by
 intro l
 induction l with
 |nil=>
  intro A x h
  have h1:A=[]/\x=[]:=by
   cases A with
   |nil=>simpa [bG] using h
   |cons a A=>simp[bG] at h
  obtain⟨rfl,rfl⟩:=h1
  show bG [c]=[[c]]
  simp[bG,hc]
 |cons d l ih=>
  intro A x h
  rw[List.cons_append,bG]
  rw[bG] at h
  split at h
  ·rename_i hd
   rw[aA hd]
   cases A with
   |nil=>
    simp only[List.nil_append,List.cons.injEq] at h
    exact absurd h.2 (jH l)
   |cons a A=>
    simp only[List.cons_append,List.cons.injEq] at h
    rw[ih A x h.2, <-h.1]
    rfl
  ·rename_i hd
   rw[ai hd]
   cases hw:bG l with
   |nil=>exact absurd hw (jH l)
   |cons y ys=>
    rw[hw] at h
    simp only[List.headD_cons,List.tail_cons] at h
    cases A with
    |nil=>
     simp only[List.nil_append,List.cons.injEq] at h
     obtain⟨rfl,hys⟩:=h
     rw[ih [] y (by rw[hw,hys];rfl)]
     rfl
    |cons a A=>
     simp only[List.cons_append,List.cons.injEq] at h
     obtain⟨rfl,hys⟩:=h
     rw[ih (y::A) x (by rw[hw,hys];rfl)]
     rfl
theorem F7:iW Tryz.prog 22 9 (.string ⟨#[]⟩) 1 16:=⟨Tryz.underlying22,by kernel_rfl,rfl,by omega⟩
theorem UZ (s:ByteArray): ∀u∈[Value.string s],u.oneCell'=true:=fun u hu=>by obtain rfl:=eU.1 hu;rfl
def ac5 (ps:List aF) (w:World) (e:Ending) (w':World):Prop:= ∃v,e= .returned v/\w'.ownsRow w.heap.size 9 1 v ps.length (aZ ps)/\Below w.heap.size w w'
theorem FY: ∀l:aF,(bG l).length<=l.length+1:=by
 intro l
 induction l with
 |nil=>simp[bG]
 |cons c l ih=>
  rw[bG]
  split
  ·simpa using ih
  ·cases hw:bG l with
   |nil=>exact absurd hw (jH l)
   |cons x y=>rw[hw] at ih;simp at ih⊢;omega
theorem Ah (l:aF) (w:World) (hl:l.length<=1000):Calls Tryz.prog 20 #[.string (eu l)] w (ac5 (bG l) w):=by
 have hsz:=pg l
 have hcut: ∀(a b:Nat),(eu l).extract a b=eu ((l.take b).drop a):=fun a b=>aa0 l a b
 go_enter Tryz.func20,Tryz.ntmps20
 go_wp2_with fail
 go_loopw [3,4,5] (fun v f i wr=> ∃(i' f':Nat) (out:List aF) (o:Option Addr) (c:Nat),i'<=l.length/\f'<=i'/\i= .int .i64 i'/\f= .int .i64 f'/\v= .slice o out.length c/\bG (l.take i')=out++[(l.take i').drop f']/\
  wr.ownsRow w.heap.size 9 1 (.slice o out.length c) out.length (aZ out)/\Below w.heap.size w wr) (fun _ _ i _=>l.length-(intOf i).toNat)
 case atStart=>exact⟨0,0,[],none,0,bU _,ak _,rfl,rfl,rfl,rfl,⟨rfl,.inl ⟨rfl,rfl⟩⟩,aG _ _⟩
 case round=>
  obtain⟨i,f,out,o,c,hi,hf,rfl,rfl,rfl,hw,ho,hB⟩:=hrel
  have hol:out.length<=1001:=by
   have:=FY (l.take i)
   rw[hw] at this
   simp at this
   omega
  have HX:=ae (ag hw (ag ho hB))
  have hsB:=hB.size
  clear hw ho hB
  by_cases hlt:i<l.length
  ·obtain⟨x,hx⟩: ∃x,l[i]=x:=⟨_,rfl⟩
   have hgx:(eu l)[i]'(by rw[hsz];exact hlt)=x:=hx
   have htk:l.take (i+1)=l.take i++[x]:=by rw[iE hlt,hx]
   have Ux:=ae htk
   clear htk hx
   by_cases h32:x=32
   ·subst h32
    go_wp2_with (at_builtin;go_loud (refine dK rfl _ _ F7 rfl w.heap.size (.slice o out.length c) out.length (aZ out) rfl (aB (Ms:=[]) HX.o.2.1 (Ext.az (aj (aG _ _) _)) (by simp)) (.slice (some ⟨wr.heap.size,0,none⟩) 1 1) 1 [.string (eu ((l.take i).drop f))] rfl (aN.dm 1 1 (ay _ _) rfl (by decide)) (UZ _) (by omega) (by omega) (by simp;omega) ?_))
    intro v' Wc hown hgr hcase
    obtain⟨UY,Ou,rfl⟩:=aS hown
    have hwB:Below wr.heap.size wr (wr.alloc (.cells #[.string (eu ((l.take i).drop f))] 9)):=aj (aG _ _) _
    have HY:=ae (ag hown (Below.grown (aY HX.o.2.2 hwB) hgr (by have:=hwB.size;omega) (fun g e=>(bJ HX.o.2.1 g e).1)))
    clear hown hgr hcase hwB
    go_wp2_with fail
    go_roundw
    case rel=>
     refine⟨i+1,i+1,out++[(l.take i).drop f],UY,Ou,by omega,by omega,by go_num,by go_num,by simp,?_,?_,HY.o.2⟩
     ·rw[Ux.o,Bd,HX.o.1]
      simp
      omega
     ·have:=HY.o.1
      simpa [aZ] using this
    case measure=>simp[intOf];omega
   ·have hne: ¬((x.toNat:Int)=32):=by
     intro h
     exact h32 (UInt8.toNat_inj.1 (by rw[show(32:UInt8).toNat=32 from rfl];omega))
    go_wp2_with fail
    go_roundw
    case rel=>
     refine⟨i+1,f,out,o,c,by omega,by omega,by go_num,rfl,rfl,?_,HX.o.2.1,HX.o.2.2⟩
     rw[Ux.o,Ny h32 _ out ((l.take i).drop f) HX.o.1]
     congr 2
     rw[List.drop_append_of_le_length (by simp;omega)]
    case measure=>simp[intOf];omega
  ·have hil:i=l.length:=by omega
   subst hil
   have HW:=ae HX.o.1
   rw[List.take_length] at HW
   have HL:=ae (show(l.take l.length).drop f=l.drop f by rw[List.take_length])
   go_wp2_with (at_builtin;go_loud (refine dK rfl _ _ F7 rfl w.heap.size (.slice o out.length c) out.length (aZ out) rfl (aB (Ms:=[]) HX.o.2.1 (Ext.az (aj (aG _ _) _)) (by simp)) (.slice (some ⟨wr.heap.size,0,none⟩) 1 1) 1 [.string (eu (l.drop f))] (by rfl) (aN.dm 1 1 (ay _ _) rfl (by decide)) (UZ _) (by omega) (by omega) (by simp;omega) ?_))
   intro v' Wc hown hgr hcase
   obtain⟨UY,Ou,rfl⟩:=aS hown
   have hwB:Below wr.heap.size wr (wr.alloc (.cells #[.string (eu (l.drop f))] 9)):=aj (aG _ _) _
   have HY:=ae (ag hown (Below.grown (aY HX.o.2.2 hwB) hgr (by have:=hwB.size;omega) (fun g e=>(bJ HX.o.2.1 g e).1)))
   clear hown hgr hcase hwB
   go_wp2_with fail
   go_returns
   refine⟨.slice UY (out.length+1) Ou,by simp,?_,HY.o.2⟩
   rw[HW.o]
   have:=HY.o.1
   simpa [aZ] using this
end Go.Proofs.YthbpmepjmebolaaGreatDoor.Bk
end
section
namespace Go.Proofs.YthbpmepjmebolaaGreatDoor.Bk
open Go.Lib Go.RowKit Go.RG Go.SL Go.Shelf jv Go.TB Go.Proofs.YthbpmepjmebolaaGreatDoor.zF
theorem yf (ls:List aF): ∀u∈aZ ls,u.oneCell'=true:=fun u hu=>by
 obtain⟨x,_,rfl⟩:=iZ.1 hu
 rfl
def Qw (ls:List aF) (w:World) (e:Ending) (w':World):Prop:= ∃o c,e= .returned (.slice o ls.length c)/\w'.ownsRow w.heap.size 9 1 (.slice o ls.length c) ls.length (aZ ls)/\Below w.heap.size w w'
theorem wS (ls:List aF) (v:Value) (w:World) (hv:jb w v ls) (hl:ls.length*16<=140737488355328):Calls Tryz.prog 14 #[v] w (Qw ls w):=by
 obtain⟨lo,lc,rfl⟩:=aN.open hv
 have HV:=ae hv
 clear hv
 go_enter Tryz.func14,Tryz.ntmps14
 go_wp2_with (at_builtin;go_loud (refine dK rfl _ _ F7 rfl w.heap.size (.slice (some ⟨w.heap.size,0,none⟩) 0 0) 0 [] rfl (iT (cs:= #[]) (n:=0) (ay _ _) rfl (ak _) (by decide)) (.slice lo ls.length lc) (ls).length (aZ (ls)) rfl (aN.alloc (HV.o) _) (yf (ls)) (by omega) (by omega) (by simp) ?_))
 intro v' W2 hown hgr _
 (try rw[Nat.zero_add] at hown)
 (try rw[List.nil_append] at hown)
 obtain⟨o2,c2,rfl⟩:=aS hown
 have hB2:Below w.heap.size w W2:=Below.grown (aj (aG _ _) _) hgr (by simp) (fun g e=>by simp[Value.ownBlock] at e;omega)
 have HC2:=ae (ag hB2 hown)
 have hz2:=hB2.size
 clear hown hgr hB2
 go_wp2_with fail
 go_returns
 exact⟨_,_,rfl,HC2.o.2,HC2.o.1⟩
theorem Nu (ls:List aF) (v:Value) (w:World) (hv:jb w v ls) (hl:ls.length<=1000):Calls Tryz.prog 31 #[v] w (Qw (jW++ls) w):=by
 obtain⟨lo,lc,rfl⟩:=aN.open hv
 have HV:=ae hv
 clear hv
 have ahk:jW.length=13:=rfl
 have HYL:Hid ((jW++ls).length=13+ls.length):=ae (by rw[dA,ahk])
 have HYC:Hid (aZ jW++aZ ls=aZ (jW++ls)):=ae (by simp[aZ])
 clear ahk
 go_enter Tryz.func31,Tryz.ntmps31
 go_wp2_with (at_builtin;go_loud (refine dK rfl _ _ F7 rfl w.heap.size (.slice (some ⟨w.heap.size,0,none⟩) 13 13) 13 (aZ jW) rfl (iT (cs:=(aZ jW).toArray) (n:=13) (ay _ _) rfl (ak _) (by decide)) (.slice lo ls.length lc) ls.length (aZ ls) rfl (aN.alloc HV.o _) (yf ls) (by omega) (by omega) (by simp) ?_))
 intro v' W2 hown hgr _
 rw[HYC.o] at hown
 obtain⟨o2,c2,rfl⟩:=aS hown
 have hB2:Below w.heap.size w W2:=Below.grown (aj (aG _ _) _) hgr (by simp) (fun g e=>by simp[Value.ownBlock] at e;omega)
 have HC2:=ae (ag hB2 hown)
 clear hown hgr hB2
 go_wp2_with fail
 go_returns
 unfold Qw
 rw[HYL.o]
 exact⟨_,_,rfl,HC2.o.2,HC2.o.1⟩
end Go.Proofs.YthbpmepjmebolaaGreatDoor.Bk
end
section
namespace Go.Proofs.YthbpmepjmebolaaGreatDoor.Bk
open Go.RowKit Go.RG Go.SL Go.Shelf jv Go.TB Go.Proofs.YthbpmepjmebolaaGreatDoor.zF
theorem Ib: ∀(i n:Nat),xk n (i+1)=Dz (n/10^i%10)::xk n i:=by
 intro i
 induction i with
 |zero=>intro n;simp[xk]
 |succ i ih=>
  intro n
  rw[xk,ih (n/10),show xk n (i+1)=xk (n/10) i++[Dz (n%10)] from rfl,Nat.div_div_eq_div_mul, <-Nat.pow_succ',List.cons_append]
def dv (k:Nat):Value:= .int .u8 ((48+k:Nat):Int)
theorem Vp {k:Nat} (h:k<10):dv k=uv (Dz k):=by unfold dv uv;rw[qI h]
theorem NT (n:Nat) (hn:n<1000000) (w:World):Calls Tryz.prog 173 #[iv n] w (PV (.agg (Lib.byteCells (xk n 4)).toArray) w):=by
 obtain⟨d0,hd0⟩: ∃d,n%10=d:=⟨_,rfl⟩
 obtain⟨d1,hd1⟩: ∃d,n/10%10=d:=⟨_,rfl⟩
 obtain⟨d2,hd2⟩: ∃d,n/10/10%10=d:=⟨_,rfl⟩
 obtain⟨d3,hd3⟩: ∃d,n/10/10/10%10=d:=⟨_,rfl⟩
 have b0:d0<10:=by omega
 have b1:d1<10:=by omega
 have b2:d2<10:=by omega
 have b3:d3<10:=by omega
 have HD:Hid (xk n 4=[Dz d3,Dz d2,Dz d1,Dz d0]):=ae (by simp[xk,hd0,hd1,hd2,hd3])
 obtain⟨n1,hn1⟩: ∃m,n/10=m:=⟨_,rfl⟩
 rw[hn1] at hd1 hd2 hd3
 obtain⟨n2,hn2⟩: ∃m,n1/10=m:=⟨_,rfl⟩
 rw[hn2] at hd2 hd3
 obtain⟨n3,hn3⟩: ∃m,n2/10=m:=⟨_,rfl⟩
 rw[hn3] at hd3
 obtain⟨n4,hn4⟩: ∃m,n3/10=m:=⟨_,rfl⟩
 have q0:(n:Int)%10=d0:=by omega
 have q1:(n1:Int)%10=d1:=by omega
 have q2:(n2:Int)%10=d2:=by omega
 have q3:(n3:Int)%10=d3:=by omega
 have r0:(n:Int)/10=n1:=by omega
 have r1:(n1:Int)/10=n2:=by omega
 have r2:(n2:Int)/10=n3:=by omega
 have r3:(n3:Int)/10=n4:=by omega
 clear hd0 hd1 hd2 hd3 hn1 hn2 hn3 hn4
 go_enter Tryz.func173,Tryz.ntmps173
 go_wp2_with fail
 go_loopw [0,4] (fun s u wr=>Below w.heap.size w wr/\((s=iv n/\u=iv 0/\wr.heap[w.heap.size]? =some (.cells #[.int .u8 0,.int .u8 0,.int .u8 0,.int .u8 0] 264 (0,0)))∨
  (s=iv n1/\u=iv 1/\wr.heap[w.heap.size]? =some (.cells #[.int .u8 0,.int .u8 0,.int .u8 0,dv d0] 264 (0,0)))∨
  (s=iv n2/\u=iv 2/\wr.heap[w.heap.size]? =some (.cells #[.int .u8 0,.int .u8 0,dv d1,dv d0] 264 (0,0)))∨
  (s=iv n3/\u=iv 3/\wr.heap[w.heap.size]? =some (.cells #[.int .u8 0,dv d2,dv d1,dv d0] 264 (0,0)))∨
  (s=iv n4/\u=iv 4/\wr.heap[w.heap.size]? =some (.cells #[dv d3,dv d2,dv d1,dv d0] 264 (0,0))))) (fun _ u _=>4-(intOf u).toNat)
 case atStart=>exact⟨aj (aG _ _) _,.inl ⟨rfl,rfl,ay _ _⟩⟩
 case round=>
  obtain⟨hB,hc⟩:=hrel
  rcases hc with⟨rfl,rfl,hk⟩|⟨rfl,rfl,hk⟩|⟨rfl,rfl,hk⟩|⟨rfl,rfl,hk⟩|⟨rfl,rfl,hk⟩
  ·obtain⟨c0,f0,l0⟩:=af hk
   have HX:=ae (ag hB hk)
   clear hB hk
   go_wp2_with fail
   exact⟨⟨iH HX.o.1 (ak _) _,.inr (.inl ⟨rfl,rfl,aJ HX.o.2 _⟩)⟩,by simp[intOf]⟩
  ·obtain⟨c0,f0,l0⟩:=af hk
   have HX:=ae (ag hB hk)
   clear hB hk
   go_wp2_with fail
   exact⟨⟨iH HX.o.1 (ak _) _,.inr (.inr (.inl ⟨rfl,rfl,aJ HX.o.2 _⟩))⟩,by simp[intOf]⟩
  ·obtain⟨c0,f0,l0⟩:=af hk
   have HX:=ae (ag hB hk)
   clear hB hk
   go_wp2_with fail
   exact⟨⟨iH HX.o.1 (ak _) _,.inr (.inr (.inr (.inl ⟨rfl,rfl,aJ HX.o.2 _⟩)))⟩,by simp[intOf]⟩
  ·obtain⟨c0,f0,l0⟩:=af hk
   have HX:=ae (ag hB hk)
   clear hB hk
   go_wp2_with fail
   exact⟨⟨iH HX.o.1 (ak _) _,.inr (.inr (.inr (.inr ⟨rfl,rfl,aJ HX.o.2 _⟩)))⟩,by simp[intOf]⟩
  ·obtain⟨c0,f0,l0⟩:=af hk
   have HX:=ae (ag hB hk)
   clear hB hk
   go_upto_region 7 with(fail)
   refine wp_region_lit ?_
   refine wpList_load_row rfl _ _ rfl w.heap.size rfl _ _ _ _ HX.o.2 Tryz.underlying264 rfl (by kernel_rfl) ?_
   simp only[zp]
   refine wpList_store_row rfl _ _ _ rfl w.heap.size #[dv d3,dv d2,dv d1,dv d0] (by as_aux_lemma=>kernel_rfl) (by as_aux_lemma=>kernel_rfl) _ _ HX.o.2 (by kernel_rfl) (by as_aux_lemma=>kernel_rfl) (by simp[dv,Value.oneCell']) ?_
   simp only[zp]
   refine jQ fun W5 yG=>?_
   have Ph:Ext [w.heap.size] wr W5:=by rw[yG];exact fG
   have hk5:W5.heap[w.heap.size]? =some (.cells #[dv d3,dv d2,dv d1,dv d0] 264 (0,0)):=by rw[yG];exact setRow_heap _ _ _ _ _ _ HX.o.2
   have H5:=ae (ag (iY HX.o.1 Ph (ak _)) hk5)
   clear yG Ph hk5
   go_wp2_with fail
   refine bodyPost_ret (v:= .agg #[dv d3,dv d2,dv d1,dv d0]) ?_ rfl ?_
   ·have q1:=run_loadVar_row (P:=Tryz.prog) W5 w.heap.size 264 264 _ (0,0) _ H5.o.2 Tryz.underlying264 rfl (by kernel_rfl)
    simp[results,Tryz.results173,asAddr,q1]
   ·refine⟨?_,H5.o.1⟩
    rw[HD.o,Vp b0,Vp b1,Vp b2,Vp b3]
    rfl
theorem Du (n:Nat): ∃a b c d,xk n 4=[a,b,c,d]:=by
 have h:=Px 4 n
 match hq:xk n 4,h with
 |[a,b,c,d],_=>exact⟨a,b,c,d,rfl⟩
def Y8 (i:Nat) (line:aF):List Value:=Lib.byteCells (58::58::10::xk (ui i line) 4)
abbrev z7:Array Value:= #[.int .u8 0,.int .u8 0,.int .u8 0,.int .u8 0,.int .u8 0,.int .u8 0,.int .u8 0]
theorem Rf (i:Nat) (line:aF) (w:World) (hi:i<=1000) (hl:line.length<=60):Calls Tryz.prog 172 #[iv i,.string (eu line)] w (PV (.agg (Y8 i line).toArray) w):=by
 obtain⟨a,b,c,d,hd⟩:=Du (ui i line)
 have HD:=ae hd
 have hcl:=XM i line
 have HCK:=ae (fun W=>wC i line W hi hl)
 have HSH:=ae (fun W=>NT (ui i line) (by omega) W)
 unfold Y8
 rw[hd]
 have hQ:=HD
 clear hd HD
 generalize ui i line=k at*
 go_enter Tryz.func172,Tryz.ntmps172
 go_upto_region 1 with(fail)
 refine dF fun W1 hW1=>?_
 have hb1:Below w.heap.size w W1:=by rw[hW1];exact aj (aG _ _) _
 have hk1:W1.heap[w.heap.size]? =some (.cells z7 266 (0,0)):=by rw[hW1];exact ay _ _
 have hs1:w.heap.size<W1.heap.size:=by rw[hW1];simp
 have HB1:=ae hb1
 have UL:=ae hk1
 clear hW1 hb1 hk1
 go_wp2_with fail
 refine(HCK.o W1).mono ?_
 rintro e W2 ⟨rfl,hb⟩
 have hs2:=hb.size
 have HB2:=ae (aY HB1.o hb)
 have KP:=ae ((hb.block _ hs1).trans UL.o)
 clear hb
 go_wp2_with fail
 refine(HSH.o W2).mono ?_
 rintro e W3 ⟨he,hb⟩
 rw[hQ.o] at he
 subst he
 have hs3:=hb.size
 have HB3:=ae (aY HB2.o hb)
 have hk3:=(hb.block w.heap.size (by omega)).trans KP.o
 clear hb
 rename_i hK
 refine hK _ _ ?_
 refine aI rfl (w':=W3) (.agg #[uv 58,uv 58,uv 10,uv a,uv b,uv c,uv d]) (by as_aux_lemma=>kernel_rfl) ?_
 simp only[zp]
 refine wpList_store_row rfl _ _ _ rfl w.heap.size #[uv 58,uv 58,uv 10,uv a,uv b,uv c,uv d] (by as_aux_lemma=>kernel_rfl) (by as_aux_lemma=>kernel_rfl) _ z7 hk3 (by kernel_rfl) (by as_aux_lemma=>kernel_rfl) (by simp[Value.oneCell']) ?_
 simp only[zp]
 refine jQ fun W4 FO=>?_
 have Vl:Ext [w.heap.size] W3 W4:=by rw[FO];exact fG
 have hk4:W4.heap[w.heap.size]? =some (.cells #[uv 58,uv 58,uv 10,uv a,uv b,uv c,uv d] 266 (0,0)):=by rw[FO];exact setRow_heap _ _ _ _ _ _ hk3
 have H4:=ae (ag (iY HB3.o Vl (ak _)) hk4)
 clear FO Vl hk4 hk3 hK
 go_wp2_with fail
 refine bodyPost_ret (v:= .agg #[uv 58,uv 58,uv 10,uv a,uv b,uv c,uv d]) ?_ rfl ?_
 ·have q1:=run_loadVar_row (P:=Tryz.prog) W4 w.heap.size 266 266 _ (0,0) _ H4.o.2 Tryz.underlying266 rfl (by kernel_rfl)
  simp[results,Tryz.results172,asAddr,q1]
 ·exact⟨rfl,H4.o.1⟩
theorem aN.cut {w:World} {o:Option Addr} {n c:Nat} {xs:List Value} (h:aN 1 w (.slice o n c) n xs) {l k:Nat} (hlk:l<=k) (hk:k<=n):aN 1 w (sliced o l k c 1) (k-l) ((xs.take k).drop l):=by
 obtain⟨hl,o',c',hv,h1,h2,h3,h4⟩:=h
 injection hv with e1 e2 e3
 subst e1 e3
 have hlen:xs.length=n:=by simpa using hl
 refine⟨by simp;omega,(if c=l then o else o.map (·.add (l*1))),c-l,rfl,by omega,by omega,fun ho=>?_,fun a ha=>?_⟩
 ·split at ho
  ·omega
  ·cases o with
   |none=>have:=h3 rfl;omega
   |some a=>cases ho
 ·split at ha
  ·rename_i hcl
   obtain⟨hs,hc⟩:=h4 a ha
   refine⟨hs,fun j u hj=>?_⟩
   have:(xs.take k).drop l=[]:=List.drop_eq_nil_of_le (by simp;omega)
   rw[this] at hj
   cases hj
  ·cases o with
   |none=>cases ha
   |some b=>
    obtain⟨hs,hc⟩:=h4 b rfl
    obtain⟨bb,off,sp⟩:=b
    simp only at hs hc
    subst hs
    simp only[Option.map_some,Option.some.injEq,Nat.mul_one] at ha
    rw[Addr.add_lit] at ha
    subst ha
    refine⟨rfl,fun j u hj=>?_⟩
    rw[List.getElem?_drop,List.getElem?_take] at hj
    split at hj
    ·have:=hc _ _ hj
     simpa [Nat.add_assoc] using this
    ·cases hj
theorem Ri:iW Tryz.prog 83 5 (.int .u8 0) 1 1:=⟨Tryz.underlying83,by kernel_rfl,rfl,by omega⟩
end Go.Proofs.YthbpmepjmebolaaGreatDoor.Bk
end
section
namespace Go.Proofs.YthbpmepjmebolaaGreatDoor.Bk
open Go.Lib Go.RowKit Go.RG Go.SL Go.Shelf jv Go.TB Go.Proofs.YthbpmepjmebolaaGreatDoor.zF
theorem F9 {A B C cs:List Value} (h:B.length=cs.length):splice (A++(B++C)) A.length cs=A++(cs++C):=by
 unfold splice
 rw[uz (ak _),kL (ak _), <-h,List.drop_append]
 simp
theorem set_mid {A C:List Value} {x y:Value}:(A++(x::C)).set A.length y=A++(y::C):=by
 rw[qE _ _ (ak _),Nat.sub_self,List.set_cons_zero]
theorem NZ {a b c d e f x y z:Value} {ln Z:List Value} (hZ:Z.length=ln.length+9):
 (splice ((splice ((splice Z 0 [a,b]).set 2 x) 3 ln).set (3+ln.length) y) (4+ln.length) [c,d,e,f]).set (8+ln.length) z=a::b::x::(ln++[y,c,d,e,f,z]):=by
 obtain⟨z0,z1,z2,Z1,y0,y1,y2,y3,y4,y5,rfl,h1⟩: ∃z0 z1 z2 Z1 y0 y1 y2 y3 y4 y5,Z=z0::z1::z2::(Z1++[y0,y1,y2,y3,y4,y5])/\Z1.length=ln.length:=by
  match Z,hZ with
  |z0::z1::z2::Z',hZ=>
   have hl:Z'.length=ln.length+6:=by simp at hZ;omega
   refine⟨z0,z1,z2,Z'.take ln.length,?_⟩
   have h6:(Z'.drop ln.length).length=6:=by rw[lQ];omega
   match hq:Z'.drop ln.length,h6 with
   |[y0,y1,y2,y3,y4,y5],_=>exact⟨y0,y1,y2,y3,y4,y5,by rw[<-hq,List.take_append_drop],by rw[gY];omega⟩
 have s1:splice (z0::z1::z2::(Z1++[y0,y1,y2,y3,y4,y5])) 0 [a,b]=a::b::z2::(Z1++[y0,y1,y2,y3,y4,y5]):=rfl
 rw[s1]
 have s2:(a::b::z2::(Z1++[y0,y1,y2,y3,y4,y5])).set 2 x=[a,b,x]++(Z1++[y0,y1,y2,y3,y4,y5]):=rfl
 rw[s2,show(3:Nat)=[a,b,x].length from rfl,F9 h1]
 have s3:[a,b,x]++(ln++[y0,y1,y2,y3,y4,y5])=([a,b,x]++ln)++(y0::[y1,y2,y3,y4,y5]):=by simp
 rw[s3,show[a,b,x].length+ln.length=([a,b,x]++ln).length from by simp;omega,set_mid]
 have s4:([a,b,x]++ln)++(y::[y1,y2,y3,y4,y5])=([a,b,x]++ln++[y])++([y1,y2,y3,y4]++[y5]):=by simp
 rw[s4,show 4+ln.length=([a,b,x]++ln++[y]).length from by simp;omega,F9 (B:=[y1,y2,y3,y4]) (cs:=[c,d,e,f]) rfl]
 have s5:([a,b,x]++ln++[y])++([c,d,e,f]++[y5])=([a,b,x]++ln++[y,c,d,e,f])++(y5::[]):=by simp
 rw[s5,show 8+ln.length=([a,b,x]++ln++[y,c,d,e,f]).length from by simp;omega,set_mid]
 simp
theorem TV {W:World} {o:Option Addr} {n c:Nat} {l:aF} (h:aN 1 W (.slice o n c) n (Lib.byteCells l)):(convert 83 9 (.slice o n c)).run Tryz.prog W= .ok (.string (eu l)) W:=by
 obtain⟨hl,o',c',hv,h1,h2,h3,h4⟩:=h
 cases hv
 have hn:l.length=n:=by simpa [Lib.byteCells] using hl
 cases o with
 |none=>
  have:n=0:=by have:=h3 rfl;omega
  subst this
  obtain rfl:=kD hn
  rw[run_convert_bytes_nil W 83 5 Tryz.underlying83 Tryz.underlying5 _ _ 9 Tryz.underlying9]
  rfl
 |some a=>
  obtain⟨b,off,sp⟩:=a
  obtain⟨hs,hc⟩:=h4 _ rfl
  simp only at hs hc
  subst hs
  rw[run_convert_bytes_arg W 83 5 Tryz.underlying83 Tryz.underlying5 b off n c (l.map fun x=>(x.toNat:Int)) (by simpa using hn) (fun i hi=>by
   have hi':i<l.length:=by omega
   have:=hc i (.int .u8 (l[i].toNat:Int)) (by simp[Lib.byteCells,hi'])
   rw[this]
   simp[List.getD,hi']) 9 Tryz.underlying9]
  congr 1
  congr 1
  simp only[strOfNums,eu]
  congr 1
  apply Array.ext
  ·simp
  ·intro j h1 h2
   simp
theorem abL {w W1:World} {A B:Array Value} {t u:TypeId} (h:W1=(w.alloc (.cells A t)).alloc (.cells B u)):
 Below w.heap.size w W1/\W1.heap[w.heap.size]? =some (.cells A t (0,0))/\W1.heap[w.heap.size+1]? =some (.cells B u (0,0))/\W1.heap.size=w.heap.size+2:=by
 subst h
 exact⟨aj (aj (aG _ _) _) _,(aW _ _ _ (by simp)).trans (ay _ _),dY _ _ _,by simp⟩
theorem row_step {W W':World} {g t5:Nat} {L X:List Value} {t:TypeId} {o:Obj} (h:W'=W.setRow g L.toArray) (hk:W.heap[g]? =some (.cells X.toArray t (0,0))) (hne:g≠t5) (h5:W.heap[t5]? =some o):
 W'.heap[t5]? =some o/\W'.heap[g]? =some (.cells L.toArray t (0,0))/\Below g W W':=by
 subst h
 exact⟨(setRow_other W g t5 _ (Ne.symm hne)).trans h5,setRow_heap W g _ _ t _ hk,below_setRow (aG _ _) (ak _) _⟩
theorem D6 {W W':World} {g t5 j:Nat} {v:Value} {X:List Value} {t:TypeId} {o:Obj} (h:W'=W.setCell ⟨g,j,none⟩ v) (hk:W.heap[g]? =some (.cells X.toArray t (0,0))) (hne:g≠t5) (h5:W.heap[t5]? =some o):
 W'.heap[t5]? =some o/\W'.heap[g]? =some (.cells (X.set j v).toArray t (0,0))/\Below g W W':=by
 subst h
 refine⟨(heap_setCell_other W ⟨g,j,none⟩ t5 v (Ne.symm hne)).trans h5,?_,(aG g W).setCell (p:=⟨g,j,none⟩) (ak _) v⟩
 rw[heap_setCell_same W g j _ t v hk,uq]
theorem Sz (n:Nat) (hn:n<=1000) (W:World):
 (Instr.makeSlice 83 (iv n) (iv n)).run Tryz.prog W= .ok (.slice (some ⟨W.heap.size,0,none⟩) n n) (W.alloc (.cells (List.replicate n (Value.int .u8 0)).toArray 5)):=by
 obtain⟨i,hi,hz,hs,hby⟩:=info_parts Ri.info
 have:=run_make (P:=Tryz.prog) W 83 5 i (.int .u8 0) Ri.und hi hz .i64 .i64 n n (by omega) (Int.le_refl _) (by rw[hby];omega) (by omega)
 rw[this,hs]
 simp only[Int.toNat_natCast]
 congr 3
 apply Array.ext
 ·simp[madeCells]
 ·intro j h1 h2
  simp[madeCells,Value.cells]
  rw[Nat.mod_one]
  rfl
theorem Jg {n:Nat} {p q r s:UInt8} (h:xk n 4=[p,q,r,s]):xk n 2=[r,s]:=by
 rw[Ib 3,Ib 2] at h
 injection h with _ h
 injection h with _ h
def al2 (i:Nat) (line:aF) (w:World) (e:Ending) (w':World):Prop:=
 Below w.heap.size w w'/\ ∃g n,n=9+line.length/\e= .returned (.slice (some ⟨g,0,none⟩) n n)/\w.heap.size<=g/\w'.heap[g]? =some (.cells (Lib.byteCells (nM i line)).toArray 5 (0,0))
theorem Ry (i:Nat) (line:aF) (w:World) (hi:i<=1000) (hl:line.length<=60):Calls Tryz.prog 106 #[iv i,.string (eu line)] w (al2 i line w):=by
 obtain⟨a,b,c,d,hd⟩:=Du (ui i line)
 obtain⟨p,q,r,s,hs⟩:=Du line.length
 have HT:=Rf i line w hi hl
 have HSH:=ae (fun W=>NT line.length (by omega) W)
 unfold Y8 at HT
 rw[hd] at HT
 rw[hs] at HSH
 have hrec:Lib.byteCells (nM i line)=uv r::uv s::uv 58::(Lib.byteCells line++[uv 58,uv a,uv b,uv c,uv d,uv 10]):=by
  unfold nM
  rw[hd,Jg hs]
  simp[Lib.byteCells,uv]
 have hbl:(Lib.byteCells line).length=line.length:=by simp[Lib.byteCells]
 have hsz:=pg line
 obtain⟨c1,hc1⟩: ∃c,c=(58:UInt8):=⟨_,rfl⟩
 obtain⟨c3,hc3⟩: ∃c,c=(10:UInt8):=⟨_,rfl⟩
 rw[<-hc1, <-hc3] at HT hrec
 have HR:=ae hrec
 have HTT:Hid (Calls Tryz.prog 172 #[iv i,.string (eu line)] w (PV (.agg #[uv c1,uv c1,uv c3,uv a,uv b,uv c,uv d]) w)):=ae HT
 have HSW:Hid (∀W,Calls Tryz.prog 173 #[iv line.length] W (PV (.agg #[uv p,uv q,uv r,uv s]) W)):=ae HSH.o
 have HBL:=ae hbl
 clear hd hs hrec hc1 hc3 HT hbl HSH
 go_enter Tryz.func106,Tryz.ntmps106
 go_wp2_with fail
 refine HTT.o.mono ?_
 rintro e W1 ⟨rfl,hb1⟩
 have HB1:=ae hb1
 go_wp2_with fail
 refine(HSW.o W1).mono ?_
 rintro e W2 ⟨rfl,hb2⟩
 have HB2:=ae (aY HB1.o hb2)
 clear hb1 hb2
 go_upto_region 2 with(fail)
 refine dF fun W3 hW3=>?_
 obtain⟨hb3,k5,k6,hz3⟩:=abL hW3
 have HB3:=ae (aY HB2.o hb3)
 have FU:=ae (ag k5 k6)
 clear hW3 hb3 k5 k6
 obtain⟨N,hN⟩: ∃N,N=9+line.length:=⟨_,rfl⟩
 have hmk:(Instr.makeSlice 83 (iv (3+(line.length:Int)+6)) (iv (3+(line.length:Int)+6))).run Tryz.prog W3= .ok (.slice (some ⟨W3.heap.size,0,none⟩) N N) (W3.alloc (.cells (List.replicate N (Value.int .u8 0)).toArray 5)):=by
  have e:(3+(line.length:Int)+6)=((N:Nat):Int):=by omega
  rw[e]
  exact Sz N (by omega) W3
 go_upto_region 3 with(fail)
 refine dF fun W4 FO=>?_
 have k7:W4.heap[W2.heap.size+2]? =some (.cells (List.replicate (9+line.length) (Value.int .u8 0)).toArray 5 (0,0)):=by
  rw[FO, <-hz3,List.toArray_replicate]
  exact ay _ _
 have hb4:Below W3.heap.size W3 W4:=by rw[FO];exact aj (aG _ _) _
 have hw2:w.heap.size<=W2.heap.size:=HB2.o.size
 have HB4:=ae (aY HB3.o hb4)
 have k5:=(hb4.block W2.heap.size (by omega)).trans FU.o.1
 have k6:=(hb4.block (W2.heap.size+1) (by omega)).trans FU.o.2
 clear FO hb4 hmk hN FU
 obtain⟨g,hg⟩: ∃g,W2.heap.size+2=g:=⟨_,rfl⟩
 obtain⟨t6,h6⟩: ∃g,W2.heap.size+1=g:=⟨_,rfl⟩
 obtain⟨t5,h5⟩: ∃g,W2.heap.size=g:=⟨_,rfl⟩
 rw[hg] at k7⊢
 rw[h6] at k6⊢
 rw[h5] at k5⊢
 have hne:g≠t5/\g≠t6/\w.heap.size<=g:=by omega
 have KO:=ae hne
 clear hg h6 h5 hne hz3 hw2
 have xB:=ae k7
 have UK:=ae k5
 have HK6:=ae k6
 obtain⟨c6,f6,l6⟩:=af k6
 clear k5 k6 k7
 have hc6: ∀j v,[uv r,uv s][j]? =some v->W4.cell? ((⟨t6,2,none⟩:Addr).add j)=some v:=fun j v hj=>by
  match j,hj with
  |0,hj=>exact(c6 2).trans hj
  |1,hj=>exact(c6 3).trans hj
 obtain⟨L0,hL0⟩: ∃L0,L0=List.replicate (9+line.length) (Value.int .u8 0):=⟨_,rfl⟩
 have hl0:L0.length=9+line.length:=by rw[hL0,List.length_replicate]
 have k7:=xB.o
 rw[<-hL0] at k7
 have hcp:(Builtin.copy_ #[83,83] 3 #[.slice (some ⟨g,0,none⟩) (9+line.length) (9+line.length),.slice (some ⟨t6,2,none⟩) 2 2]).run Tryz.prog W4= .ok (goInt 2) (W4.setRow g (splice L0 0 [uv r,uv s]).toArray):=by
  have h:=run_copy_row (P:=Tryz.prog) W4 83 83 3 5 g 0 (9+line.length) (9+line.length) ⟨t6,2,none⟩ 2 2 L0.toArray 5 [uv r,uv s] Tryz.underlying83 (by kernel_rfl) k7 (by rw[show Nat.min 2 (9+line.length)=2 from Nat.min_eq_left (by omega)];rfl) hc6 (by simp;omega) (by simp[uv,Value.oneCell'])
  exact h
 have HL0:=ae hl0
 clear hc6 hL0 hl0 xB
 have xB:=ae k7
 clear k7
 go_upto_region 4 with(fail)
 refine dF fun W5 yG=>?_
 obtain⟨L1,hL1⟩: ∃L1,L1=splice L0 0 [uv r,uv s]:=⟨_,rfl⟩
 rw[<-hL1] at yG
 have hl1:L1.length=9+line.length:=by rw[hL1,length_splice _ _ _ (by rw[HL0.o];simp;omega),HL0.o]
 obtain⟨h5,k7,hb5⟩:=row_step yG xB.o (KO.o.1) UK.o
 have oK:=ae (HB4.o.trans (hb5.mono KO.o.2.2))
 have HL1:=ae (ag hL1 hl1)
 obtain⟨c5,f5,l5⟩:=af h5
 obtain⟨x2,g7⟩: ∃x,W5.cell? ⟨g,2,none⟩=some x:=⟨L1[2]'(by omega),by rw[(af k7).1 2];simp⟩
 obtain⟨_,f7,l7⟩:=af k7
 have H5:=ae (ag h5 k7)
 clear yG h5 k7 hb5 hL1 hl1 hcp c6 f6 l6 UK HK6 xB HB4
 go_upto_region 5 with(fail)
 refine dF fun W6 Ko=>?_
 obtain⟨h6,k8,hb6⟩:=D6 Ko H5.o.2 KO.o.1 H5.o.1
 obtain⟨L2,hL2⟩: ∃L2,L2=L1.set 2 (uv c1):=⟨_,rfl⟩
 have hl2:L2.length=9+line.length:=by rw[hL2,qA,HL1.o.2]
 rw[<-hL2] at k8
 have qf:=ae (oK.o.trans (hb6.mono KO.o.2.2))
 have HL2:=ae (ag hL2 hl2)
 have H6:=ae (ag h6 k8)
 clear Ko h6 k8 hb6 hL2 hl2 c5 f5 l5 g7 f7 l7 H5 oK
 have hcq:(Builtin.copy_ #[83,9] 3 #[.slice (some ⟨g,3,none⟩) (9+line.length-3) (9+line.length-3),.string (eu line)]).run Tryz.prog W6= .ok (goInt line.length) (W6.setRow g (splice L2 3 (Lib.byteCells line)).toArray):=by
  have h:=Lib.run_copy_row_string (P:=Tryz.prog) W6 83 9 3 5 g 3 (9+line.length-3) (9+line.length-3) (eu line) L2.toArray 5 Tryz.underlying83 (by kernel_rfl) H6.o.2 (by rw[hsz];omega) (by rw[hsz];have:=HL2.o.2;simp;omega)
  rw[h,hsz]
  have e:L2.toArray.toList.take 3++Lib.byteCells (eu line).data.toList++L2.toArray.toList.drop (3+line.length)=splice L2 3 (Lib.byteCells line):=by
   unfold splice
   rw[HBL.o,nV]
  rw[e]
 go_upto_region 6 with(fail)
 refine dF fun W7 Fp=>?_
 obtain⟨L3,hL3⟩: ∃L3,L3=splice L2 3 (Lib.byteCells line):=⟨_,rfl⟩
 rw[<-hL3] at Fp
 have hl3:L3.length=9+line.length:=by rw[hL3,length_splice _ _ _ (by rw[HL2.o.2,HBL.o];omega),HL2.o.2]
 obtain⟨h7,k8,hb7⟩:=row_step Fp H6.o.2 KO.o.1 H6.o.1
 have Ba:=ae (qf.o.trans (hb7.mono KO.o.2.2))
 have HL3:=ae (ag hL3 hl3)
 have H7:=ae (ag h7 k8)
 clear Fp h7 k8 hb7 hL3 hl3 hcq H6 qf
 go_upto_region 7 with(fail)
 rw[show 9+line.length-(3+line.length)=6 from by omega]
 obtain⟨c7,f7,l7⟩:=af H7.o.1
 obtain⟨c8,f8,l8⟩:=af H7.o.2
 obtain⟨x3,g3⟩: ∃x,W7.cell? ⟨g,3+line.length,none⟩=some x:=⟨L3[3+line.length]'(by have:=HL3.o.2;omega),by rw[c8 (3+line.length)];simp⟩
 clear c8
 go_upto_region 8 with(fail)
 refine dF fun W8 hW8=>?_
 obtain⟨h8,k8,hb8⟩:=D6 hW8 H7.o.2 KO.o.1 H7.o.1
 obtain⟨L4,hL4⟩: ∃L4,L4=L3.set (3+line.length) (uv c1):=⟨_,rfl⟩
 have hl4:L4.length=9+line.length:=by rw[hL4,qA,HL3.o.2]
 rw[<-hL4] at k8
 have qc:=ae (Ba.o.trans (hb8.mono KO.o.2.2))
 have HL4:=ae (ag hL4 hl4)
 have H8:=ae (ag h8 k8)
 clear hW8 h8 k8 hb8 hL4 hl4 c7 f7 l7 f8 l8 g3 H7 Ba
 have hct: ∀j v,[uv a,uv b,uv c,uv d][j]? =some v->W8.drew.cell? ((⟨t5,3,none⟩:Addr).add j)=some v:=fun j v hj=>by
  obtain⟨c5,_,_⟩:=af H8.o.1
  match j,hj with
  |0,hj=>exact(c5 3).trans hj
  |1,hj=>exact(c5 4).trans hj
  |2,hj=>exact(c5 5).trans hj
  |3,hj=>exact(c5 6).trans hj
 have hcr:(Builtin.copy_ #[83,83] 3 #[.slice (some ⟨g,3+line.length+1,none⟩) 5 5,.slice (some ⟨t5,3,none⟩) 4 4]).run Tryz.prog W8.drew= .ok (goInt 4) (W8.drew.setRow g (splice L4 (4+line.length) [uv a,uv b,uv c,uv d]).toArray):=by
  rw[show 3+line.length+1=4+line.length from by omega]
  have h:=run_copy_row (P:=Tryz.prog) W8.drew 83 83 3 5 g (4+line.length) 5 5 ⟨t5,3,none⟩ 4 4 L4.toArray 5 [uv a,uv b,uv c,uv d] Tryz.underlying83 (by kernel_rfl) H8.o.2 rfl hct (by have:=HL4.o.2;simp;omega) (by simp[uv,Value.oneCell'])
  rw[h,nV]
  rfl
 clear hct
 go_region
 go_upto_region 9 with(fail)
 refine dF fun W9 MC=>?_
 obtain⟨L5,hL5⟩: ∃L5,L5=splice L4 (4+line.length) [uv a,uv b,uv c,uv d]:=⟨_,rfl⟩
 rw[<-hL5] at MC
 have hl5:L5.length=9+line.length:=by rw[hL5,length_splice _ _ _ (by rw[HL4.o.2];simp;omega),HL4.o.2]
 obtain⟨h9,k9,wW⟩:=row_step (W:=W8.drew) MC H8.o.2 KO.o.1 H8.o.1
 have rH:=ae (qc.o.drew.trans (wW.mono KO.o.2.2))
 have HL5:=ae (ag hL5 hl5)
 obtain⟨c5,f5,l5⟩:=af h9
 obtain⟨c8,f8,l8⟩:=af k9
 obtain⟨x5,g5⟩: ∃x,W9.cell? ⟨g,3+line.length+5,none⟩=some x:=⟨L5[3+line.length+5]'(by omega),by rw[c8 (3+line.length+5)];simp⟩
 have H9:=ae (ag h9 k9)
 clear MC h9 k9 wW hL5 hl5 hcr H8 qc c8
 go_upto_region 10 with(fail)
 refine dF fun Un ahZ=>?_
 obtain⟨_,k10,Az⟩:=D6 ahZ H9.o.2 KO.o.1 H9.o.1
 have Yz:=ae (rH.o.trans (Az.mono KO.o.2.2))
 have HF:Hid (Un.heap[g]? =some (.cells (Lib.byteCells (nM i line)).toArray 5 (0,0))):=by
  have e:=NZ (a:=uv r) (b:=uv s) (c:=uv a) (d:=uv b) (e:=uv c) (f:=uv d) (x:=uv c1) (y:=uv c1) (z:=uv c3) (ln:=Lib.byteCells line) (Z:=L0) (by rw[HL0.o,HBL.o];omega)
  rw[HBL.o, <-HL1.o.1, <-HL2.o.1, <-HL3.o.1, <-HL4.o.1, <-HL5.o.1, <-HR.o] at e
  rw[show 3+line.length+5=8+line.length from by omega] at k10
  show _=_
  rw[k10, <-e]
 clear ahZ k10 Az c5 f5 l5 f8 l8 g5 H9 rH
 go_wp2_with fail
 go_returns
 exact⟨Yz.o,g,_,rfl,rfl,KO.o.2.2,HF.o⟩
theorem Zg: ∀(ls:List aF),(∀l∈ls,l.length<=60)->NQ ls<=69*ls.length:=by
 intro ls
 induction ls with
 |nil=>intro _;exact ak _
 |cons l ls ih=>
  intro h
  have h1:=ih fun x hx=>h x (pV _ hx)
  have h2:=h l List.mem_cons_self
  simp only[NQ,List.length_cons]
  omega
theorem Xw {ls:List aF} {k:Nat} (hk:k<ls.length):jM 0 (ls.take (k+1))=jM 0 (ls.take k)++nM k ls[k]:=by
 rw[iE hk,Jf,gY,Nat.zero_add,Nat.min_eq_left (by omega)]
theorem aaZ (l:aF):(Lib.byteCells l).toArray.size=l.length:=by simp[Lib.byteCells]
theorem bytes_at {W:World} {g n:Nat} {l:aF} {t:TypeId} {fr:Nat×Nat} (h:W.heap[g]? =some (.cells (Lib.byteCells l).toArray t fr)) (hn:l.length=n) (hm:n<=maxLen):aN 1 W (.slice (some ⟨g,0,none⟩) n n) n (Lib.byteCells l):=
 aN.dm (cs:=(Lib.byteCells l).toArray) 1 n h (by rw[aaZ,hn,Nat.mul_one]) hm
theorem XO (l:aF): ∀u∈Lib.byteCells l,u.oneCell'=true:=by
 intro u hu
 simp only[Lib.byteCells,iZ] at hu
 obtain⟨x,_,rfl⟩:=hu
 rfl
def adS (l:aF) (w:World) (e:Ending) (w':World):Prop:=Below w.heap.size w w'/\ ∃v,e= .returned v/\w'.ownsRow w.heap.size 5 1 v l.length (Lib.byteCells l)
theorem aaI (ls:List aF) (v:Value) (w:World) (hv:jb w v ls) (hn:ls.length<=1000) (hl: ∀l∈ls,l.length<=60):Calls Tryz.prog 63 #[v] w (adS (Ht ls) w):=by
 obtain⟨lo,lc,rfl⟩:=aN.open hv
 have HV:=ae hv
 have HL:=ae hl
 clear hv hl
 go_enter Tryz.func63,Tryz.ntmps63
 go_wp2_with fail
 go_loopw [2,7] (fun u i wr=> ∃k:Nat,k<=ls.length/\i= .int .i64 k/\Below w.heap.size w wr/\wr.ownsRow w.heap.size 5 1 u (jM 0 (ls.take k)).length (Lib.byteCells (jM 0 (ls.take k)))) (fun _ i _=>ls.length-(intOf i).toNat)
 case atStart=>exact⟨0,bU _,rfl,aG _ _,⟨rfl,.inl ⟨rfl,rfl⟩⟩⟩
 case round=>
  obtain⟨k,hk,rfl,hB,how⟩:=hrel
  by_cases hlt:k<ls.length
  ·obtain⟨g1,f1,e1,r1,c1⟩:=zh (HV.o.below hB (ak _)) hlt
   have HB:=ae hB
   have HT:=ae (Xw hlt)
   have hll:=HL.o _ (cZ hlt)
   have hs1:(jM 0 (ls.take k)).length<=69*k:=by
    have h1:=Zg (ls.take k) fun l h=>HL.o l (pW h)
    rw[gY,Nat.min_eq_left (by omega)] at h1
    rw[MJ]
    exact h1
   have HR:=ae (Ry k ls[k] wr (by omega) hll)
   have HQ:=ae (Eg k ls[k])
   obtain⟨x,hx⟩: ∃x,x=ls[k]:=⟨_,rfl⟩
   rw[<-hx] at c1 HR HT HQ hll
   clear hx
   generalize hA:jM 0 (ls.take k)=A at*
   have hlo:=aS how
   obtain⟨oo,oc,rfl⟩:=hlo
   have HO:=ae how
   have xO:(k:Int)<ls.length:=by omega
   cases e1
   clear hB how hA
   go_wp2_with fail
   refine HR.o.mono ?_
   rintro e W2 ⟨hb2,g,n,rfl,rfl,hg,hk2⟩
   have HB2:=ae (aY HB.o hb2)
   have A8:=ae (aB (Ms:=[]) HO.o (Ext.az hb2) (by simp))
   have HS2:Hid (aN 1 W2 (.slice (some ⟨g,0,none⟩) (9+x.length) (9+x.length)) (9+x.length) (Lib.byteCells (nM k x))):=ae (bytes_at hk2 HQ.o (by simp only[maxLen];omega))
   clear hb2 hk2 hg
   go_wp2_with (at_builtin;go_loud (refine dK rfl _ _ Ri rfl w.heap.size (.slice oo A.length oc) A.length (Lib.byteCells A) rfl A8.o (.slice (some ⟨g,0,none⟩) (9+x.length) (9+x.length)) (9+x.length) (Lib.byteCells (nM k x)) rfl HS2.o (XO _) (by omega) (by omega) HB2.o.size ?_))
   intro v' W3 hown hgr _
   have hB3:Below w.heap.size w W3:=Below.grown HB2.o hgr (by have:=HB2.o.size;omega) (fun g e=>(bJ A8.o g e).1)
   have HB3:=ae hB3
   have hown3:W3.ownsRow w.heap.size 5 1 v' (jM 0 (ls.take (k+1))).length (Lib.byteCells (jM 0 (ls.take (k+1)))):=by
    rw[HT.o,show Lib.byteCells (A++nM k x)=Lib.byteCells A++Lib.byteCells (nM k x) from by simp[Lib.byteCells],dA,HQ.o]
    exact hown
   have HO3:=ae hown3
   clear hown hgr hB3 hown3
   go_wp2_with fail
   go_roundw
   all_goals first
    |exact⟨k+1,by omega,by go_num,HB3.o,HO3.o⟩
    |(simp[intOf];omega)
  ·have hkl:k=ls.length:=by omega
   have HO:Hid (wr.ownsRow w.heap.size 5 1 u2 (Ht ls).length (Lib.byteCells (Ht ls))):=ae (by
    rw[hkl,List.take_length] at how
    exact how)
   have HB:=ae hB
   clear hB how
   go_wp2_with fail
   go_returns
   exact⟨HB.o,_,rfl,HO.o⟩
theorem Hu {ls:List aF} (h:dG ls=0):ls.length<=40/\ ∀l∈ls,l.length<=60:=by
 unfold dG at h
 split at h
 ·omega
 ·rename_i hc
  refine⟨by omega,fun l hl=>?_⟩
  apply Classical.byContradiction
  intro hn
  exact hc (.inr (List.any_eq_true.2 ⟨l,hl,by simp;omega⟩))
def Vy (q:Int) (ls:List aF) (w:World) (e:Ending) (w':World):Prop:=
 Below w.heap.size w w'/\((q≠0/\e= .returned (.tuple #[.slice none 0 0,iv q]))∨(q=0/\ ∃v,e= .returned (.tuple #[v,iv 0])/\w'.ownsRow w.heap.size 5 1 v (Ht ls).length (Lib.byteCells (Ht ls))))
theorem Yf (ls:List aF) (v:Value) (w:World) (hv:jb w v ls) (hln: ∀x∈ls,x.length<=1000000):Calls Tryz.prog 34 #[v] w (Vy (dG ls) ls w):=by
 have HF:=ae (Ku ls v w hv hln)
 have HW:Hid (dG ls=0-> ∀W,Below w.heap.size w W->Calls Tryz.prog 63 #[v] W (adS (Ht ls) W)):=ae (fun h W hb=>aaI ls v W (hv.below hb (ak _)) (by have:=(Hu h).1;omega) (Hu h).2)
 obtain⟨lo,lc,rfl⟩:=aN.open hv
 clear hv
 obtain⟨q,hq⟩: ∃q,dG ls=q:=⟨_,rfl⟩
 rw[hq] at HF HW⊢
 have HQ:=ae hq
 clear hq
 go_enter Tryz.func34,Tryz.ntmps34
 go_wp2_with fail
 refine HF.o.mono ?_
 rintro e W1 ⟨rfl,hb1⟩
 have HB1:=ae hb1
 clear hb1
 by_cases hz:q=0
 ·subst hz
  go_wp2_with fail
  refine(HW.o (by trivial) W1 HB1.o).mono ?_
  rintro e W2 ⟨hb2,v2,rfl,ho⟩
  have HB2:=ae (aY HB1.o hb2)
  obtain⟨o2,c2,rfl⟩:=aS ho
  have HO:=ae (dh ho HB1.o.size)
  clear hb2 ho
  go_wp2_with fail
  go_returns
  exact⟨HB2.o,.inr ⟨rfl,_,rfl,HO.o⟩⟩
 ·go_wp2_with fail
  go_returns
  exact⟨HB1.o,.inl ⟨hz,rfl⟩⟩
theorem yV:(∀l∈jW,l.length<=1000000)/\ ∀l∈jW++rG,l.length<=1000000:=by decide+kernel
theorem Ns:Lt jW=agv:=by
 unfold Lt
 rw[aA sH.1,Rw]
 unfold eP
 rw[aA sH.1]
 exact YX
theorem QQ:je (jW++rG)=[0,0,0,0,0,0,0,0,0,0,0,0,0,2,6,4]:=by
 unfold je
 rw[aA sH.2]
 exact VG
theorem abd:dG [[97]]=0/\Ht [[97]]=[48,49,58,97,58,48,50,50,51,10]:=by decide+kernel
theorem Qm (w:World) (hE:Env w):Calls Tryz.prog 9 #[] w (PV (.bool true) w):=by
 have HE:Hid (∀W,Below w.heap.size w W->Env W):=ae (fun W hb=>hE.below hb (ak _))
 have HY:Hid (∀W,Calls Tryz.prog 31 #[.slice none 0 0] W (Qw jW W)):=ae (fun W=>by have h:=Nu [] (.slice none 0 0) W (aN.nil _ _) (by simp);rw[List.append_nil] at h;exact h)
 clear hE
 go_enter Tryz.func9,Tryz.ntmps9
 go_wp2_with fail
 refine(HY.o w).mono ?_
 rintro e W1 ⟨o1,c1,rfl,ho1,hb1⟩
 have HB1:=ae hb1
 have HO:=ae (XU _ jW W1 (aN.dH ho1) (HE.o W1 hb1) yV.1)
 clear hb1 ho1
 go_wp2_with fail
 refine HO.o.mono ?_
 rintro e W2 ⟨hb2,u2,rfl,hu2⟩
 rw[Js.1]
 rw[Js.2] at hu2
 obtain⟨uo,uc,rfl⟩:=aN.open hu2
 have HB2:=ae (aY HB1.o hb2)
 have HU2:=ae hu2
 clear hb2 hu2 HO HB1
 simp only[List.length_cons,List.length_nil,Nat.reduceAdd]
 go_wp2_with fail
 refine(HY.o W2).mono ?_
 rintro e W3 ⟨o3,c3,rfl,ho3,hb3⟩
 have HB3:=ae (aY HB2.o hb3)
 have HU3:=ae (HU2.o.below hb3 (ak _))
 have HT:=ae (Jm _ jW W3 (aN.dH ho3) (HE.o W3 HB3.o) yV.1)
 clear hb3 ho3 HB2 HU2
 go_wp2_with fail
 refine HT.o.mono ?_
 rintro e W4 ⟨hb4,u4,rfl,hu4⟩
 rw[Jr.1]
 rw[Jr.2] at hu4
 obtain⟨vo,vc,rfl⟩:=aN.open hu4
 have HB4:=ae (aY HB3.o hb4)
 have HU4:=ae (HU3.o.below hb4 (ak _))
 have HV4:=ae hu4
 clear hb4 hu4 HT HB3 HU3
 simp only[List.length_cons,List.length_nil,Nat.reduceAdd]
 go_wp2_with fail
 refine(HY.o W4).mono ?_
 rintro e W5 ⟨o5,c5,rfl,ho5,hb5⟩
 have oK:=ae (aY HB4.o hb5)
 have HU5:=ae (HU4.o.below hb5 (ak _))
 have HV5:=ae (HV4.o.below hb5 (ak _))
 have HR:=ae (Ur _ jW W5 (aN.dH ho5) (HE.o W5 oK.o) yV.1)
 clear hb5 ho5 HB4 HU4 HV4
 go_wp2_with fail
 refine HR.o.mono ?_
 rintro e W6 ⟨hb6,rfl⟩
 rw[Ns,sH.1]
 have qf:=ae (aY oK.o hb6)
 have HU6:=ae (HU5.o.below hb6 (ak _))
 have HV6:=ae (HV5.o.below hb6 (ak _))
 clear hb6 HR oK HU5 HV5
 have HW:Hid (∀W,W=W6.alloc (.cells #[.string ⟨#[97]⟩] 9)->Calls Tryz.prog 34 #[.slice (some ⟨W6.heap.size,0,none⟩) 1 1] W (Vy (dG [[97]]) [[97]] W)):=ae (fun W hW=>Yf [[97]] _ W (by
  have hk:W.heap[W6.heap.size]? =some (.cells (aZ [[97]]).toArray 9 (0,0)):=by rw[hW];exact ay _ _
  exact aN.dm 1 1 hk rfl (by decide)) (by decide))
 go_wp2_with fail
 refine(HW.o _ rfl).mono ?_
 rintro e W7 ⟨hb7,⟨hq,_⟩|⟨_,v7,rfl,ho7⟩⟩
 ·exact absurd abd.1 hq
 rw[abd.2] at ho7
 obtain⟨wo,wc,rfl⟩:=aS ho7
 have Tq:=aY (aj (aG W6.heap.size W6) (.cells #[.string ⟨#[97]⟩] 9)) hb7
 have Ba:=ae (aY qf.o Tq)
 have HU7:=ae (HU6.o.below Tq (ak _))
 have HV7:=ae (HV6.o.below Tq (ak _))
 have HW7:=ae (aN.dH ho7)
 clear hb7 ho7 Tq HW qf HU6 HV6
 simp only[List.length_cons,List.length_nil,Nat.reduceAdd]
 have HM:Hid (∀W,W=W7.alloc (.cells (aZ rG).toArray 9)->Calls Tryz.prog 31 #[.slice (some ⟨W7.heap.size,0,none⟩) 3 3] W (Qw (jW++rG) W)):=ae (fun W hW=>Nu rG _ W (by
  have hk:W.heap[W7.heap.size]? =some (.cells (aZ rG).toArray 9 (0,0)):=by rw[hW];exact ay _ _
  exact aN.dm 1 3 hk rfl (by decide)) (by decide))
 go_wp2_with fail
 refine(HM.o _ rfl).mono ?_
 rintro e W8 ⟨o8,c8,rfl,qG,hb8⟩
 have aay:=aY (aj (aG W7.heap.size W7) (.cells (aZ rG).toArray 9)) hb8
 have qc:=ae (aY Ba.o aay)
 have HU8:=ae (HU7.o.below aay (ak _))
 have IQ:=ae (HV7.o.below aay (ak _))
 have HW8:=ae (HW7.o.below aay (ak _))
 have HL8:=ae (aN.dH qG)
 clear hb8 qG aay HM Ba HU7 HV7 HW7
 go_wp2_with fail
 refine(uA (.slice o8 (jW++rG).length c8) (jW++rG) W8 (HL8.o) (HE.o W8 qc.o) (yV.2) [] (by simp)).mono ?_
 rintro e W2a ⟨hb2,Va,esa,cv,he,hX,hC⟩
 subst he
 obtain⟨coa,cca,rfl⟩:=aS hC
 have hs2:=hb2.size
 have hS2:=hX W2a (Ext.refl _ _)
 rename_i hK
 refine hK _ _ ?_
 refine aI rfl _ (by go_simp;first|rfl|exact⟨rfl,rfl⟩) ?_
 simp only[zp]
 refine aI rfl _ (by go_simp;first|rfl|exact⟨rfl,rfl⟩) ?_
 simp only[zp]
 refine aI rfl _ (by go_simp;first|rfl|exact⟨rfl,rfl⟩) ?_
 simp only[zp]
 refine aI rfl _ (by go_simp;first|rfl|exact⟨rfl,rfl⟩) ?_
 simp only[zp]
 obtain⟨ga,hg⟩: ∃g,g=W2a.heap.size:=⟨_,rfl⟩
 refine aI rfl (w':=W2a.alloc (.cells dR 46 (0,0))) (.pointer (some ⟨ga,0,none⟩)) (by rw[hg];go_simp;try rfl) ?_
 simp only[zp]
 have hz2:(W2a.alloc (.cells dR 46 (0,0))).heap[ga]? =some (.cells dR 46 (0,0)):=by rw[hg];exact ay _ _
 refine wpList_store_row rfl _ _ _ rfl ga (dw (eP (jW++rG)) Va) (by as_aux_lemma=>kernel_rfl) (by as_aux_lemma=>kernel_rfl) _ dR hz2 (by kernel_rfl) (by as_aux_lemma=>kernel_rfl) (by rw[mM];exact fun u hu=>iG hS2 u (nH.2 hu)) ?_
 simp only[zp]
 refine jQ fun W3a hW3=>?_
 obtain⟨uZ,ku⟩: ∃uZ,uZ=W2a.alloc (.cells dR 46 (0,0)):=⟨_,rfl⟩
 rw[<-ku] at hW3 hz2
 have tY:Ext [ga] uZ W3a:=by rw[hW3];exact fG
 have hs3:=tY.size
 have hs2':uZ.heap.size=ga+1:=by rw[ku,hg];simp
 have lq:Below W2a.heap.size W2a W3a:=iY (by rw[ku];exact aj (aG _ _) _) tY (by omega)
 have ahv:W3a.heap[ga]? =some (.cells (dw (eP (jW++rG)) Va) 46 (0,0)):=by rw[hW3];exact setRow_heap _ _ _ _ _ _ hz2
 have hb3:=aY hb2 lq
 have ap1:W8.heap.size<=ga:=by omega
 have apV:ga<W3a.heap.size:=by omega
 have H3a:=ae (ag hb3 (ag ahv (ag (hS2.below lq (ak _)) (aN.dH (aB (Ms:=[]) hC (Ext.az lq) (by simp))))))
 clear hX hC hW3 ku tY lq hb2 hS2 hz2 hK hs2 hs3 hs2' hg hb3
 have aaF:=H3a.o.1
 have Xp:aN 1 W3a (.slice coa (je (jW++rG)).length cca) (je (jW++rG)).length (ah (je (jW++rG))):=H3a.o.2.2.2
 rw[QQ] at Xp⊢
 rw[sH.2]
 simp only[List.length_cons,List.length_nil,Nat.reduceAdd] at Xp⊢
 have rH:=ae (aY qc.o aaF)
 have hU9:=HU8.o.below aaF (ak _)
 have HV9:=ae (IQ.o.below aaF (ak _))
 have HW9:=ae (HW8.o.below aaF (ak _))
 have hlc:16<=cca:=by obtain⟨_,o',c',hv,h1,_⟩:=Xp;cases hv;exact h1
 obtain⟨eb,Xz,rfl,heb,_⟩:=aP.cell (l:=[0,0,0,0,0,0,0,0,0,0,0,0,0,2,6,4]) Xp (k:=0) (by simp)
 have hcut:=aN.cut Xp (l:=13) (k:=16) (by omega) (by omega)
 rw[show sliced (some ⟨eb,Xz,none⟩) 13 16 cca 1= .slice (some ⟨eb,Xz+13,none⟩) 3 (cca-13) from by unfold sliced;rw[ai (by omega)];simp[Addr.add_lit]] at hcut
 have CP:=ae (show aP W3a (.slice (some ⟨eb,Xz+13,none⟩) 3 (cca-13)) [2,6,4] from hcut)
 obtain⟨ub,aoN,rfl,hub,d1,d2⟩:=bP.cell (l:=[(5,20),(0,15)]) hU9 (k:=0) (by simp)
 obtain⟨ub2,amZ,he,_,e1,e2⟩:=bP.cell (l:=[(5,20),(0,15)]) hU9 (k:=1) (by simp)
 injection he with he
 injection he with h1 h2
 subst h1 h2
 simp only[au,Nat.zero_mul,Nat.one_mul,Nat.add_zero] at d1 d2 e1 e2
 have HI:Hid (∀W,W=W3a.alloc (.cells #[iv 0] 3)->Calls Tryz.prog 35 #[.slice vo 1 vc,.slice (some ⟨W3a.heap.size,0,none⟩) 1 1] W (PV (.bool true) W)):=ae (fun W hW=>Ak [0] _ _ W (by rw[hW];exact HV9.o.alloc _) (by
  have hk:W.heap[W3a.heap.size]? =some (.cells #[iv 0] 3 (0,0)):=by rw[hW];exact ay _ _
  exact aN.dm 1 1 hk rfl (by decide)))
 clear HU8 IQ HW8 HL8 H3a aaF Xp hU9 hcut ahv
 go_wp2_with fail
 refine(HI.o _ rfl).mono ?_
 rintro e Un ⟨rfl,Az⟩
 have Vh:=aY (aj (aG W3a.heap.size W3a) (.cells #[iv 0] 3)) Az
 have Yz:=ae (aY rH.o Vh)
 have hcv:(convert 83 9 (.slice wo 10 wc)).run Tryz.prog Un= .ok (.string (eu [48,49,58,97,58,48,50,50,51,10])) Un:=TV (n:=10) (HW9.o.below Vh (ak _))
 have HC:Hid (∀W,W=Un.alloc (.cells #[iv 2,iv 6,iv 4] 3)->Calls Tryz.prog 36 #[.slice (some ⟨eb,Xz+13,none⟩) 3 (cca-13),.slice (some ⟨Un.heap.size,0,none⟩) 3 3] W (PV (.bool true) W)):=ae (fun W hW=>XK [2,6,4] _ _ W (by rw[hW];exact(CP.o.below Vh (ak _)).alloc _) (by
  have hk:W.heap[Un.heap.size]? =some (.cells #[iv 2,iv 6,iv 4] 3 (0,0)):=by rw[hW];exact ay _ _
  exact aN.dm 1 3 hk rfl (by decide)))
 clear Az Vh HI d1 d2 e1 e2
 go_wp2_with fail
 refine(HC.o _ rfl).mono ?_
 rintro e W11 ⟨rfl,ahV⟩
 have adi:=ae (aY Yz.o (aY (aj (aG Un.heap.size Un) (.cells #[iv 2,iv 6,iv 4] 3)) ahV))
 clear ahV HC hcv
 go_wp2_with fail
 go_returns
 exact⟨rfl,adi.o⟩
end Go.Proofs.YthbpmepjmebolaaGreatDoor.Bk
end
section
namespace Go.Proofs.YthbpmepjmebolaaGreatDoor.Bk
open Go.RowKit Go.RG Go.SL Go.Shelf jv Go.TB Go.Proofs.YthbpmepjmebolaaGreatDoor.zF
theorem Jv {s:aF} (h:s.all iM=true) (hl:s.length<=4):0<=qg s/\qg s<=9999:=by
 have:=KW s 0 (by omega) h
 have h4:(10:Int)^s.length<=10000:=by
  match hs:s.length,hl with
  |0,_=>decide
  |1,_=>decide
  |2,_=>decide
  |3,_=>decide
  |4,_=>decide
 simp only[Int.zero_mul,Int.zero_add,Int.one_mul] at this
 unfold qg
 omega
theorem Qr {s:aF} {c:UInt8}:(s++[c]).all iM=(s.all iM&&iM c):=by simp
theorem Bz {l:aF} {i:Nat} (hi:i<l.length) (h:iM l[i]=false):kZ l=none:=by
 unfold kZ
 rw[ai]
 intro hf
 unfold zU at hf
 simp only[fH] at hf
 have:=jR.1 hf.2 l[i] (cZ _)
 rw[h] at this
 cases this
theorem Ve {l:aF} (h:0<l.length):l.headD 0=l[0]:=by cases l with|nil=>exact absurd h (by simp)|cons a t=>rfl
theorem ZG {k:Nat} (h: ¬k<48) (h2:k<256):IntKind.u8.wrap ((k:Int)-48)=(k:Int)-48:=by
 have hb:(2:Int)^IntKind.u8.bits=256:=by decide
 simp only[IntKind.wrap,hb,show IntKind.u8.signed=false from rfl,Bool.false_and,Bool.false_eq_true,if_false];omega
theorem U1 {n:Int} {k:Nat} (h0:0<=n) (h1:n<=9999) (h: ¬k<48) (h2:k<256):wrap64 (10*n+((k:Int)-48))=10*n+((k:Int)-48):=by unfold wrap64;omega
def adR (l:aF) (w:World):Ending->World->Prop:=PV (.tuple #[iv ((kZ l).getD 0),.bool (kZ l).isSome]) w
theorem N9 (l:aF) (w:World) (hl:l.length<=1000):Calls Tryz.prog 95 #[.string (eu l)] w (adR l w):=by
 have hsz:=pg l
 unfold adR
 obtain⟨q,hq⟩: ∃q,kZ l=q:=⟨_,rfl⟩
 rw[hq]
 have HQ:=ae hq
 clear hq
 go_enter Tryz.func95,Tryz.ntmps95
 by_cases h1:l.length<1
 ·have h1':(l.length:Int)<1:=by omega
  obtain rfl:q=none:=by rw[<-HQ.o];unfold kZ zU;rw[ai];simp;omega
  go_wp2_with fail
  go_returns
  exact⟨by simp,aG _ _⟩
 have h1': ¬(l.length:Int)<1:=by omega
 by_cases h4:4<l.length
 ·have h4':(4:Int)<l.length:=by omega
  obtain rfl:q=none:=by rw[<-HQ.o];unfold kZ zU;rw[ai];simp;omega
  go_wp2_with fail
  go_returns
  exact⟨by simp,aG _ _⟩
 have h4': ¬(4:Int)<l.length:=by omega
 have h0:0<l.length:=by omega
 obtain⟨c,hc⟩: ∃c,l[0]=c:=⟨_,rfl⟩
 have hc0:(eu l)[0]'(by rw[hsz];exact h0)=c:=hc
 by_cases hz:c=48/\1<l.length
 ·obtain⟨rfl,hl1⟩:=hz
  have akT:(1:Int)<l.length:=by omega
  obtain rfl:q=none:=by
   rw[<-HQ.o]
   unfold kZ zU
   rw[ai]
   intro hf
   simp only[fH,Bool.or_eq_true,eY] at hf
   rw[Ve h0,hc] at hf
   rcases hf.1.2 with h|h
   ·exact h rfl
   ·omega
  go_wp2_with fail
  go_returns
  exact⟨by simp,aG _ _⟩
 have HF:Hid (l.all iM=true->kZ l=some (qg l)):=ae fun h=>by
  unfold kZ zU
  rw[aA]
  rw[Ve h0,hc,h]
  simp only[fH,Bool.or_eq_true,eY,and_true]
  refine⟨⟨by omega,by omega⟩,?_⟩
  by_cases h48:c=48
  ·exact .inr (Nat.le_antisymm (Nat.le_of_not_lt fun h=>hz ⟨h48,h⟩) h0)
  ·exact .inl h48
 by_cases h48:c=48
 ·subst h48
  have akT: ¬(1:Int)<l.length:=fun h=>hz ⟨rfl,Int.ofNat_lt.1 h⟩
  clear hz hc
  go_wp2_with fail
  go_loopw [4,5] (fun n u wr=> ∃i:Nat,i<=l.length/\u= .int .i64 i/\(l.take i).all iM=true/\n= .int .i64 (qg (l.take i))/\Below w.heap.size w wr) (fun _ u _=>l.length-(intOf u).toNat)
  case atStart=>exact⟨0,bU _,rfl,rfl,rfl,aG _ _⟩
  case round=>
   obtain⟨i,hi,rfl,hd,rfl,hb⟩:=hrel
   have hvs:=Jv hd (by simp;omega)
   by_cases hlt:i<l.length
   ·obtain⟨x,hx⟩: ∃x,l[i]=x:=⟨_,rfl⟩
    have hgx:(eu l)[i]'(by rw[hsz];exact hlt)=x:=hx
    have htk:l.take (i+1)=l.take i++[x]:=by rw[iE hlt,hx]
    have Ux:=ae htk
    have HDX:=ae (ag hd hx)
    have hxl:=x.toNat_lt
    clear htk hd hx
    obtain⟨n,hn⟩: ∃n,qg (l.take i)=n:=⟨_,rfl⟩
    have HNV:=ae hn
    rw[hn] at hvs⊢
    clear hn
    by_cases hlo:x.toNat<48
    ·have aeE:(x.toNat:Int)<48:=by omega
     obtain rfl:q=none:=by rw[<-HQ.o];exact Bz hlt (by rw[HDX.o.2];unfold iM;simp;omega)
     go_wp2_with fail
     go_returns
     exact⟨by simp,hb⟩
    ·have aeE: ¬(x.toNat:Int)<48:=by omega
     by_cases hhi:57<x.toNat
     ·have aeK:(57:Int)<x.toNat:=by omega
      obtain rfl:q=none:=by rw[<-HQ.o];exact Bz hlt (by rw[HDX.o.2];unfold iM;simp;omega)
      go_wp2_with fail
      go_returns
      exact⟨by simp,hb⟩
     ·have aeK: ¬(57:Int)<x.toNat:=by omega
      have hw8:IntKind.u8.wrap ((x.toNat:Int)-48)=(x.toNat:Int)-48:=ZG hlo hxl
      have hw64:wrap64 (10*n+((x.toNat:Int)-48))=10*n+((x.toNat:Int)-48):=U1 hvs.1 hvs.2 hlo hxl
      have HV2:Hid (qg (l.take (i+1))=10*n+((x.toNat:Int)-48)):=ae (by rw[Ux.o,yX,HNV.o])
      have HD2:Hid ((l.take (i+1)).all iM=true):=ae (by rw[Ux.o,Qr,HDX.o.1];unfold iM;simp;omega)
      go_wp2_with fail
      go_roundw
      case rel=>exact⟨i+1,by omega,by go_num,HD2.o,by rw[HV2.o],hb⟩
      case measure=>simp[intOf];omega
   ·have hil:i=l.length:=by omega
    subst hil
    rw[List.take_length] at hd hvs⊢
    obtain rfl:q=some (qg l):=by rw[<-HQ.o,HF.o hd]
    generalize qg l=n at*
    clear hd
    go_wp2_with fail
    go_returns
    exact⟨by simp,hb⟩
 ·have hne: ¬((c.toNat:Int)=48):=by
   intro h
   exact h48 (UInt8.toNat_inj.1 (by rw[show(48:UInt8).toNat=48 from rfl];omega))
  clear hz hc
  go_wp2_with fail
  go_loopw [4,5] (fun n u wr=> ∃i:Nat,i<=l.length/\u= .int .i64 i/\(l.take i).all iM=true/\n= .int .i64 (qg (l.take i))/\Below w.heap.size w wr) (fun _ u _=>l.length-(intOf u).toNat)
  case atStart=>exact⟨0,bU _,rfl,rfl,rfl,aG _ _⟩
  case round=>
   obtain⟨i,hi,rfl,hd,rfl,hb⟩:=hrel
   have hvs:=Jv hd (by simp;omega)
   by_cases hlt:i<l.length
   ·obtain⟨x,hx⟩: ∃x,l[i]=x:=⟨_,rfl⟩
    have hgx:(eu l)[i]'(by rw[hsz];exact hlt)=x:=hx
    have htk:l.take (i+1)=l.take i++[x]:=by rw[iE hlt,hx]
    have Ux:=ae htk
    have HDX:=ae (ag hd hx)
    have hxl:=x.toNat_lt
    clear htk hd hx
    obtain⟨n,hn⟩: ∃n,qg (l.take i)=n:=⟨_,rfl⟩
    have HNV:=ae hn
    rw[hn] at hvs⊢
    clear hn
    by_cases hlo:x.toNat<48
    ·have aeE:(x.toNat:Int)<48:=by omega
     obtain rfl:q=none:=by rw[<-HQ.o];exact Bz hlt (by rw[HDX.o.2];unfold iM;simp;omega)
     go_wp2_with fail
     go_returns
     exact⟨by simp,hb⟩
    ·have aeE: ¬(x.toNat:Int)<48:=by omega
     by_cases hhi:57<x.toNat
     ·have aeK:(57:Int)<x.toNat:=by omega
      obtain rfl:q=none:=by rw[<-HQ.o];exact Bz hlt (by rw[HDX.o.2];unfold iM;simp;omega)
      go_wp2_with fail
      go_returns
      exact⟨by simp,hb⟩
     ·have aeK: ¬(57:Int)<x.toNat:=by omega
      have hw8:IntKind.u8.wrap ((x.toNat:Int)-48)=(x.toNat:Int)-48:=ZG hlo hxl
      have hw64:wrap64 (10*n+((x.toNat:Int)-48))=10*n+((x.toNat:Int)-48):=U1 hvs.1 hvs.2 hlo hxl
      have HV2:Hid (qg (l.take (i+1))=10*n+((x.toNat:Int)-48)):=ae (by rw[Ux.o,yX,HNV.o])
      have HD2:Hid ((l.take (i+1)).all iM=true):=ae (by rw[Ux.o,Qr,HDX.o.1];unfold iM;simp;omega)
      go_wp2_with fail
      go_roundw
      case rel=>exact⟨i+1,by omega,by go_num,HD2.o,by rw[HV2.o],hb⟩
      case measure=>simp[intOf];omega
   ·have hil:i=l.length:=by omega
    subst hil
    rw[List.take_length] at hd hvs⊢
    obtain rfl:q=some (qg l):=by rw[<-HQ.o,HF.o hd]
    generalize qg l=n at*
    clear hd
    go_wp2_with fail
    go_returns
    exact⟨by simp,hb⟩
def yA (l:aF):Int:=match ug l with|some c=>(c.many:Int)|none=> -1
theorem V9 (l:aF) (w:World):Calls Tryz.prog 94 #[.string (eu l)] w (PV (iv (yA l)) w):=by
 unfold yA
 cases hc:ug l with
 |some c=>
  obtain rfl:=Ig hc
  clear hc
  cases c <;>
  ·show Calls _ _ _ _ (PV _ w)
   dsimp only[jl.word,jl.many]
   go_enter Tryz.func94,Tryz.ntmps94
   go_wp2_with fail
   go_returns
   exact⟨by simp,aG _ _⟩
 |none=>
  have n0:(l==[114,111,119])=false:=iO.2 (fO hc .row)
  have n1:(l==[108,101,102,116])=false:=iO.2 (fO hc .left)
  have n2:(l==[116,97,108,108,121])=false:=iO.2 (fO hc .tally)
  have n3:(l==[119,97,115,104])=false:=iO.2 (fO hc .Be)
  have n4:(l==[117,110,116,97,108,108,121])=false:=iO.2 (fO hc .kF)
  have n5:(l==[114,97,116,101])=false:=iO.2 (fO hc .rate)
  have n6:(l==[98,111,120])=false:=iO.2 (fO hc .box)
  have n7:(l==[110,111,116,101])=false:=iO.2 (fO hc .note)
  have n8:(l==[118,111,105,100])=false:=iO.2 (fO hc .void)
  have n9:(l==[115,116,97,114,116])=false:=iO.2 (fO hc .start)
  have n10:(l==[119,101,116])=false:=iO.2 (fO hc .bW)
  have n11:(l==[116,117,114,110])=false:=iO.2 (fO hc .turn)
  have n12:(l==[117,110,116,117,114,110])=false:=iO.2 (fO hc .mY)
  have n13:(l==[105,114,111,110])=false:=iO.2 (fO hc .xN)
  have n14:(l==[117,110,114,101,97,100])=false:=iO.2 (fO hc .unread)
  have n15:(l==[104,101,97,112])=false:=iO.2 (fO hc .heap)
  have n16:(l==[115,116,114,111,110,103])=false:=iO.2 (fO hc .strong)
  have n17:(l==[99,97,115,107])=false:=iO.2 (fO hc .qh)
  have n18:(l==[102,105,108,108])=false:=iO.2 (fO hc .fill)
  have n19:(l==[116,114,121])=false:=iO.2 (fO hc .xK)
  have n20:(l==[117,110,116,114,121])=false:=iO.2 (fO hc .qJ)
  clear hc
  show Calls _ _ _ _ (PV (iv (-1)) w)
  go_enter Tryz.func94,Tryz.ntmps94
  go_wp2_with fail
  go_returns
  exact⟨by simp,aG _ _⟩
def Ov (m:Int) (ps:List aF):Option (List Int):=if m=(ps.length:Int) then kN ps else none
def numsOf (l:aF):Option (List Int):=Ov (yA ((bG l).headD [])) (bG l).tail
theorem Sv {l:aF} (h:ug l=none):yA l= -1:=by unfold yA;rw[h]
theorem Su {l:aF} {c:jl} (h:ug l=some c):yA l=c.many:=by unfold yA;rw[h]
theorem Di (l:aF):numsOf l=(mO l).map (·.2):=by
 unfold numsOf mO
 generalize (bG l).headD []=a
 generalize (bG l).tail=ps
 cases hc:ug a with
 |none=>rw[Sv hc];unfold Ov;rw[ai (by omega)];rfl
 |some c=>
  rw[Su hc,Option.bind_some]
  unfold Ov
  by_cases h:ps.length=c.many
  ·rw[aA h,aA (by omega)];cases kN ps <;>rfl
  ·rw[ai h,ai (by omega)];rfl
theorem ZL (l:aF): -1<=yA l/\yA l<=5:=by
 unfold yA
 cases hc:ug l with
 |none=>decide
 |some c=>cases c <;>decide
def aiJ (q:Option (List Int)) (w:World) (e:Ending) (w':World):Prop:=Below w.heap.size w w'/\ ∃v,e= .returned (.tuple #[v,.bool q.isSome])/\((q=none/\v= .slice none 0 0)∨ ∃n,q=some n/\w'.ownsRow w.heap.size 3 1 v n.length (ah n))
theorem LC (l:aF) (w:World) (hl:l.length<=1000):Calls Tryz.prog 54 #[.string (eu l)] w (aiJ (numsOf l) w):=by
 have HW:=ae (Ah l w hl)
 obtain⟨q,hq⟩: ∃q,numsOf l=q:=⟨_,rfl⟩
 rw[hq]
 unfold numsOf at hq
 have hwl:=FY l
 have hmem:=fun x (hx:x∈bG l)=>ND l x hx
 obtain⟨a,ps,hw⟩: ∃a ps,bG l=a::ps:=by
  cases h:bG l with
  |nil=>exact absurd h (jH l)
  |cons a ps=>exact⟨a,ps,rfl⟩
 rw[hw] at hq hwl hmem HW
 simp only[List.headD_cons,List.tail_cons,List.length_cons] at hq hwl
 obtain⟨m,hm0⟩: ∃m,yA a=m:=⟨_,rfl⟩
 rw[hm0] at hq
 have amv:=ae hmem
 have hmb:=ZL a
 have hma:=fun W=>V9 a W
 rw[hm0] at hmb hma
 have HMA:=ae hma
 have HQ:=ae hq
 clear hq hw hmem hma hm0
 go_enter Tryz.func54,Tryz.ntmps54
 go_wp2_with fail
 refine HW.o.mono ?_
 rintro e W1 ⟨v,rfl,how,hB⟩
 obtain⟨o,c,rfl⟩:=aS how
 have hs1:=hB.size
 have HB1:=ae hB
 have HO1:=ae (aN.dH how)
 simp only[List.length_cons] at HO1
 obtain⟨b,off,rfl,hb,hc0⟩:=jb.cell (l:=a::ps) HO1.o (k:=0) (by simp)
 simp only[List.getElem_cons_zero,Nat.add_zero] at hc0
 clear how hB
 go_wp2_with fail
 refine(HMA.o W1).mono ?_
 rintro e W2 ⟨rfl,hB⟩
 have hs2:=hB.size
 have HB2:=ae (aY HB1.o hB)
 have A8:=ae (aN.below HO1.o hB (ak _))
 clear hc0 hB
 by_cases hm:m=(ps.length:Int)
 ·subst hm
  have xI:Hid (kN ps=q):=ae (by have:=HQ.o;unfold Ov at this;rwa [aA rfl] at this)
  have hm':(ps.length:Int)+1-1=(ps.length:Int):=by omega
  have hpl:ps.length<=1000:=by omega
  clear hmb
  go_wp2_with fail
  go_loopw [5,6] (fun v u wr=> ∃(j:Nat) (ns:List Int) (o5:Option Addr) (c5:Nat),j<=ps.length/\u= .int .i64 (j+1:Nat)/\v= .slice o5 j c5/\kN (ps.take j)=some ns/\wr.ownsRow W2.heap.size 3 1 (.slice o5 j c5) j (ah ns)/\Below W2.heap.size W2 wr) (fun _ u _=>ps.length+1-(intOf u).toNat)
  case atStart=>exact⟨0,[],none,0,bU _,rfl,rfl,rfl,⟨rfl,.inl ⟨rfl,rfl⟩⟩,aG _ _⟩
  case round=>
   obtain⟨j,ns,o5,c5,hj,rfl,rfl,hns,how,hB⟩:=hrel
   have hsB:=hB.size
   have HX:=ae (ag hns (ag how hB))
   by_cases hlt:j<ps.length
   ·obtain⟨b',off',he',hb',hc1⟩:=jb.cell (l:=a::ps) (aN.below A8.o hB (ak _)) (k:=j+1) (by simp;omega)
    obtain⟨rfl,rfl⟩:b'=b/\off'=off:=by
     injection he' with h
     injection h with h1 h2
     exact⟨h1.symm,h2.symm⟩
    simp only[List.getElem_cons_succ] at hc1
    obtain⟨p,hp⟩: ∃p,ps[j]=p:=⟨_,rfl⟩
    rw[hp] at hc1
    have aew:p.length<=1000:=by
     have:=amv.o p (by rw[<-hp];exact pV _ (cZ _))
     omega
    have HNA:=ae (N9 p wr aew)
    have Ux:Hid (ps.take (j+1)=ps.take j++[p]):=ae (by rw[iE hlt,hp])
    have HP:Hid (ps[j]? =some p):=ae (by rw[dP hlt,hp])
    have hgd:((j+1:Nat):Int)<(ps.length:Int)+1:=by omega
    clear hns how hB he' hp
    go_wp2_with fail
    refine HNA.o.mono ?_
    rintro e W4 ⟨rfl,hb4⟩
    have hs4:=hb4.size
    have HB4:=ae (aY HX.o.2.2 hb4)
    have Yw:=ae (aB (Ms:=[]) HX.o.2.1 (Ext.az hb4) (by simp))
    cases hnb:kZ p with
    |none=>
     obtain rfl:q=none:=by rw[<-xI.o];exact JX ps j p HP.o hnb
     clear hb4 hnb HNA hc1
     simp only[Option.isSome_none]
     go_wp2_with fail
     go_returns
     exact⟨aY HB2.o HB4.o,_,by simp,.inl ⟨rfl,rfl⟩⟩
    |some x=>
     have HN4:=ae hnb
     clear hb4 hnb HNA hc1
     simp only[Option.isSome_some,Option.getD_some]
     go_wp2_with (at_builtin;go_loud (refine dK rfl _ _ rE rfl W2.heap.size (.slice o5 j c5) j (ah ns) rfl (aB (Ms:=[]) Yw.o (Ext.az (aj (aG _ _) _)) (by simp)) (.slice (some ⟨W4.heap.size,0,none⟩) 1 1) 1 (ah [x]) rfl (aN.dm 1 1 (ay _ _) rfl (by decide)) (jB _) (by omega) (by omega) (by simp;omega) ?_))
     intro v' Wc hown hgr hcase
     obtain⟨UY,Ou,rfl⟩:=aS hown
     rw[<-LZ] at hown
     have hwB:Below W4.heap.size W4 (W4.alloc (.cells #[iv x] 3)):=aj (aG _ _) _
     have HY:=ae (ag hown (Below.grown (aY HB4.o hwB) hgr (by have:=hwB.size;omega) (fun g e=>(bJ Yw.o g e).1)))
     clear hown hgr hcase hwB
     go_wp2_with fail
     go_roundw
     case rel=>exact⟨j+1,ns++[x],UY,Ou,by omega,by go_num,rfl,by rw[Ux.o];exact Gx _ _ _ _ HX.o.1 HN4.o,HY.o.1,HY.o.2⟩
     case measure=>simp[intOf];omega
   ·have hjl:j=ps.length:=by omega
    subst hjl
    rw[List.take_length] at hns
    obtain rfl:q=some ns:=by rw[<-xI.o,hns]
    have HNL:=ae (zq hns)
    have hgd: ¬((ps.length+1:Nat):Int)<(ps.length:Int)+1:=by omega
    clear hns how hB
    go_wp2_with fail
    go_returns
    exact⟨aY HB2.o HX.o.2.2,.slice o5 ps.length c5,by simp,.inr ⟨ns,rfl,by rw[HNL.o];exact dh HX.o.2.1 HB2.o.size⟩⟩
 ·have hm': ¬(m=(ps.length:Int)+1-1):=by omega
  obtain rfl:q=none:=by have:=HQ.o;unfold Ov at this;rw[ai hm] at this;exact this.symm
  go_wp2_with fail
  go_returns
  exact⟨HB2.o,_,by simp,.inl ⟨rfl,rfl⟩⟩
end Go.Proofs.YthbpmepjmebolaaGreatDoor.Bk
end
section
namespace Go.Proofs.YthbpmepjmebolaaGreatDoor.Bk
open Go.Lib Go.RowKit Go.RG Go.SL Go.Shelf jv Go.TB Go.Proofs.YthbpmepjmebolaaGreatDoor.zF
theorem nN {ls:List aF} (h:dG ls=0):(je ls).length=ls.length:=by unfold je;rw[aA h,Gm]
end Go.Proofs.YthbpmepjmebolaaGreatDoor.Bk
end
section
namespace Go.Proofs.YthbpmepjmebolaaGreatDoor
open Go.RowKit Go.RG Go.SL jv Go.Deep
section
variable {H : Type} {enc : TypeId × Value → H} {P : Program} {W : World} {base b0 : Nat} {spare : Nat → Bool} {held : Bool} {r : Reach}
theorem Wp {α:Type} [Inhabited α] (f:α->List Value) (k:Nat) (hk0:0<k) (hf: ∀x,(f x).length=k) {t e:TypeId} (ht:P.underlying t=some (.slice e)) (hk:P.cellsOf e=k)
 (hel: ∀fuel cs x,DataW.trod enc P W base spare held fuel e cs=some x-> ∃y:α,cs=f y)
 {v:Value} (hok:Cell.ok P W r b0 t v) {fuel:Nat} {x:DataW H×List MemPlace} (h:DataW.trod enc P W base spare held fuel t [v]=some x):
 ∃l:List α,aN k W v l.length (l.flatMap f):=by
 rcases open_slice ht h with⟨hc,_⟩|⟨a,len,cap,m,n,D,Pl,hc,hb,hl,hm,hmm,_,hx⟩
 ·cases hc
  exact⟨[],aN.nil k W⟩
 ·cases hc
  have hsp:a.spot=none:=by
   simp only[Cell.ok,ht,World.has] at hok
   exact hok.2.2.2.1
  have hlm:len<=m:=by rw[hmm];split <;>omega
  have each: ∀i,i<m-> ∃y:α, ∀j u,(f y)[j]? =some u->W.cell? ⟨a.block,a.off+(i*k+j),none⟩=some u:=by
   intro i hi
   obtain⟨cs',h1,h2⟩:=hx i hi
   rw[hk] at h1
   obtain⟨_,hlen,hcell⟩:=World.cells?_some h1
   obtain⟨y,rfl⟩:=hel _ _ _ h2
   refine⟨y,fun j u hj=>?_⟩
   have hjk:j<k:=by rw[<-hf y];exact(ji.1 hj).1
   have h3:=hcell j hjk
   rw[add_add] at h3
   obtain⟨b,off,sp⟩:=a
   simp only at hsp
   subst hsp
   rw[Addr.add_lit] at h3
   rw[h3,hj]
  obtain⟨Y,hY⟩:=choose_lt each
  have hlen:((List.range len).map Y).length=len:=by simp
  refine⟨(List.range len).map Y,?_,some a,cap,by rw[hlen],by rw[hlen];exact hl,hm,(fun h=>by cases h),fun a' ha=>?_⟩
  ·have: ∀l:List α,(l.flatMap f).length=l.length*k:=by
    intro l
    induction l with
    |nil=>simp
    |cons z l ih=>rw[List.flatMap_cons,dA,hf,ih,List.length_cons,Nat.add_mul];omega
   exact this _
  ·cases ha
   refine⟨hsp,fun j u hj=>?_⟩
   have hjl:j<(((List.range len).map Y).flatMap f).length:=(ji.1 hj).1
   have ahj:(((List.range len).map Y).flatMap f).length=len*k:=by
    have: ∀l:List α,(l.flatMap f).length=l.length*k:=by
     intro l
     induction l with
     |nil=>simp
     |cons z l ih=>rw[List.flatMap_cons,dA,hf,ih,List.length_cons,Nat.add_mul];omega
    rw[this,hlen]
   rw[ahj] at hjl
   have hi:j/k<len:=(Nat.div_lt_iff_lt_mul hk0).2 hjl
   have hr:j%k<k:=Nat.mod_lt _ hk0
   have e:j/k*k+j%k=j:=by rw[Nat.mul_comm];exact Nat.div_add_mod j k
   have:=jC f k hf ((List.range len).map Y) (j/k) (j%k) (by rw[hlen];exact hi) hr
   rw[e,hj] at this
   simp only[List.getElem_map,List.getElem_range] at this
   have h4:=hY (j/k) (by omega) (j%k) u this.symm
   rw[e] at h4
   exact h4
end
section
variable {H : Type} {enc : TypeId × Value → H} {W : World} {base b0 : Nat} {spare : Nat → Bool} {held : Bool} {r : Reach}
end
theorem IX {H:Type} {enc:TypeId×Value->H} {P:Program} (hl:laidOutB P=true) {ts:List TypeId} (hr:(ts.all fun t=>P.readableRec t&&decide (t<P.types.size))=true) {W W':World} {vs:List Value} {ds:List (DataW H)} {ps:List MemPlace}
 (h:DataW.TrodAll enc P W 0 (fun _=>true) true ts vs ds ps) (hb:Below W.heap.size W W') (hlt: ∀x∈ps,x.block<W.heap.size):
 DataW.TrodAll enc P W' 0 (fun b=>decide (b<W.heap.size)) true ts vs ds ps:=by
 induction ts generalizing vs ds ps with
 |nil=>
  cases vs <;>cases ds <;>simp_all [DataW.TrodAll]
 |cons t ts ih=>
  cases vs with
  |nil=>cases ds <;>simp_all [DataW.TrodAll]
  |cons v vs=>
   cases ds with
   |nil=>simp_all [DataW.TrodAll]
   |cons d ds=>
    obtain⟨p,q,h1,h2,rfl⟩:=h
    simp only[List.all_cons,fH,eY] at hr
    exact⟨p,q,Below.trod hl hr.1.1 hr.1.2 h1 hb (fun x hx=>hlt x (by simp[hx])),ih (by simpa using hr.2) h2 (fun x hx=>hlt x (by simp[hx])),rfl⟩
end Go.Proofs.YthbpmepjmebolaaGreatDoor
end

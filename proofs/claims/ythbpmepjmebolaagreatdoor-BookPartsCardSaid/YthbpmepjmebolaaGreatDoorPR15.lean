/-
  Texts of this claim, packed by a program: EC EG YK EJ EH FB EL EM FC ED EK FA FD FE EO EP EQ.
-/
import Derived.WalkKit
import Derived.WalkLawsBesides
import Derived.WalkSpells
import Derived.Outline
import Derived.Handy
import Derived.KernelRfl
import Derived.Lib.Hide
import Derived.Lib.BufferWrite
import Derived.Laws.CopyOwn
import Derived.BigRegion
import Derived.Laws.DeepStrings4
import Derived.Laws.BytesArg
import Derived.Test.YthbpmepjmebolaaGreatDoorPR14
set_option maxHeartbeats 8000000
set_option maxRecDepth 100000
set_option linter.all false
section
namespace Go.Proofs.YthbpmepjmebolaaGreatDoor.Bk
open Go.RowKit Go.RG Go.SL Go.Shelf jv Go.TB Go.Proofs.YthbpmepjmebolaaGreatDoor.zS
theorem pg (l:aH):(fD l).size=l.length:=by simp[ByteArray.size]
abbrev uv (c:UInt8):Value:= .int .u8 (c.toNat:Int)
theorem CQ (a b:aH):fD a++fD b=fD (a++b):=by
 apply ByteArray.ext
 simp
theorem abd (l:aH) (a b:Nat):(fD l).extract a b=fD ((l.take b).drop a):=by
 apply ByteArray.ext
 simp[List.drop_take]
theorem qJ {P:Program} {a b c:aH} (hc:c=a++b) (h:a.length+b.length<=1000000000) (W:World):(Op.stringOp .add (fD a) (fD b)).run P W= .ok (.string (fD c)) W:=by
 have h1:=pg a
 have h2:=pg b
 subst hc
 unfold Op.stringOp
 rw[ak (by rw[h1,h2];have:IntKind.i64.max=9223372036854775807:=rfl;omega),CQ]
 simp
theorem Jo: ∀(l:aH) (k:Nat) (c:UInt8),jQ k (l++[c])=jQ k l+(k+l.length)*c.toNat:=by
 intro l
 induction l with
 |nil=>intro k c;simp[jQ]
 |cons x l ih=>intro k c;simp only[List.cons_append,jQ,ih,List.length_cons];rw[show k+1+l.length=k+(l.length+1) from by omega];omega
theorem Fb: ∀(l:aH) (k:Nat),k+l.length<=62->jQ k l<=15810*l.length:=by
 intro l
 induction l with
 |nil=>intro k _;exact ai _
 |cons x l ih=>
  intro k h
  simp only[List.length_cons] at h
  have h1:=ih (k+1) (by omega)
  have h2:k*x.toNat<=62*255:=Nat.mul_le_mul (by omega) (by have:=x.toNat_lt;omega)
  simp only[jQ,List.length_cons]
  omega
theorem aff (m:Nat) (h:m<=62*255):wrap64 (m:Int)=m:=IntWalk.wrap64_in _ ⟨by omega,by omega⟩
theorem afe (i S m:Nat) (h1:i<=1000) (h2:S<=948600) (h3:m<=62*255):wrap64 (29*((i:Int)+1)+S+m)=29*((i:Int)+1)+S+m:=IntWalk.wrap64_in _ ⟨by omega,by omega⟩
theorem wF (i:Nat) (line:aH) (w:World) (hi:i<=1000) (hl:line.length<=60):Calls Tryz.prog 245 #[iv i,.string (fD line)] w (PV (iv (uf i line)) w):=by
 have hsz:=pg line
 go_enter Tryz.func245,Tryz.ntmps245
 go_wp2_with fail
 go_loopw [5,12] (fun s u wr=> ∃j:Nat,j<=line.length/\u= .int .i64 j/\s= .int .i64 ((29*(i+1)+jQ 2 (line.take j):Nat):Int)/\Below w.heap.size w wr) (fun _ u _=>line.length-(intOf u).toNat)
 case atStart=>exact⟨0,bQ _,rfl,by simp[jQ];try omega,aG _ _⟩
 case round=>
  obtain⟨j,hj,rfl,rfl,hb⟩:=hrel
  by_cases hlt:j<line.length
  ·have hle:=Fb (line.take j) 2 (by simp;omega)
   have hlj:(line.take j).length=j:=by simp;omega
   rw[hlj] at hle
   obtain⟨c,hc⟩: ∃c,line[j]=c:=⟨_,rfl⟩
   have hcx:(fD line)[j]'(by rw[hsz];exact hlt)=c:=by rw[<-hc];rfl
   have hcl:=c.toNat_lt
   have hmul:(j+2)*c.toNat<=62*255:=Nat.mul_le_mul (by omega) (by omega)
   have hst:jQ 2 (line.take (j+1))=jQ 2 (line.take j)+(2+j)*c.toNat:=by
    rw[iE hlt,Jo,hlj,hc]
   have HST:=ae hst
   generalize hS:jQ 2 (line.take j)=S at*
   obtain⟨m,hm⟩: ∃m,(j+2)*c.toNat=m:=⟨_,rfl⟩
   have hmI:((j:Int)+2)*(c.toNat:Int)=(m:Int):=by rw[<-hm];simp
   have HM:Hid ((2+j)*c.toNat=m):=ae (by rw[<-hm,Nat.add_comm])
   rw[hm] at hmul
   have ale:S<=948600:=by omega
   have w1:wrap64 (m:Int)=m:=aff m hmul
   have w2:wrap64 (29*((i:Int)+1)+S+m)=29*((i:Int)+1)+S+m:=afe i S m hi ale hmul
   clear hst hS hlj hc hm
   go_wp2_with fail
   refine⟨⟨j+1,by omega,by go_num,?_,hb⟩,by simp[intOf];omega⟩
   rw[HST.o,HM.o]
   congr 1
   omega
  ·have hjl:j=line.length:=by omega
   subst hjl
   have hle:=Fb line 2 (by omega)
   rw[List.take_length]
   have HC:Hid (((29*(i+1)+jQ 2 line:Nat):Int)%9949=(uf i line:Nat)):=ae (by unfold uf;omega)
   obtain⟨S,hS⟩: ∃S,29*(i+1)+jQ 2 line=S:=⟨_,rfl⟩
   rw[hS] at HC⊢
   clear hle hS
   go_wp2_with fail
   go_returns
   exact⟨by simp[HC.o],hb⟩
abbrev kR (n:Int):Prop:= -1000000000<=n/\n<=1000000000
theorem qP {n:Int} (h:kR n):(Lib.itoa n).length<=11:=by
 unfold Lib.itoa
 split
 ·have:=Uk 9 n.natAbs (by omega)
  simp only[List.length_cons];omega
 ·have:=Uk 9 n.toNat (by omega)
  omega
theorem yE (n:Int) (h:kR n) (w:World) (hE:Env w):Calls Tryz.prog 59 #[iv n] w (PV (.string (fD (Lib.itoa n))) w):=by
 refine(Go.Proofs.Tryz.strconv_Itoa n (by omega) (by omega) w (VG hE (by kernel_rfl))).mono ?_
 rintro e w2 ⟨rfl,k,os,rfl⟩
 exact⟨rfl,Hy w k os⟩
def ig (word:aH) (r:dY):aH:=word++[32]++Lib.itoa r.1++[46,46]++Lib.itoa r.2++[10]
theorem Di {word:aH} {r:dY} (h1:kR r.1) (h2:kR r.2):(ig word r).length<=word.length+26:=by
 have:=qP h1
 have:=qP h2
 simp only[ig,dD,List.length_cons,List.length_nil]
 omega
theorem rX (word:aH): ∀{l:List dY},(∀r∈l,kR r.1/\kR r.2)->(l.flatMap (ig word)).length<=(word.length+26)*l.length:=by
 intro l
 induction l with
 |nil=>intro _;simp
 |cons r l ih=>
  intro h
  have h1:=h r (by simp)
  have h2:=Di (word:=word) h1.1 h1.2
  have h3:=ih (fun x hx=>h x (by simp[hx]))
  rw[List.flatMap_cons,dD,List.length_cons,Nat.mul_add]
  omega
theorem sF (B b:Nat) (bs word:aH) (r:dY) (w:World) (h:Buf B b bs w) (hBw:B<=w.heap.size) (hB4:4<=B) (hE:Env w) (h1:kR r.1) (h2:kR r.2) (hlen:bs.length+(word.length+26)<=1000000):
 Calls Tryz.prog 57 #[.string (fD word),iv r.1,iv r.2,.pointer (some ⟨b,0,none⟩)] w fun e w'=>(∃v,e= .returned v)/\Buf B b (bs++ig word r) w'/\Wr B w w':=by
 have HE:Hid (∀W,Below w.heap.size w W->Env W):=ae (fun W hb=>hE.below hb (ai _))
 have HBu:=ae h
 have HS:=ae (ag h1 h2)
 have l1:=qP h1
 have l2:=qP h2
 obtain⟨s1,hs1⟩: ∃s,Lib.itoa r.1=s:=⟨_,rfl⟩
 obtain⟨s2,hs2⟩: ∃s,Lib.itoa r.2=s:=⟨_,rfl⟩
 rw[hs1] at l1
 rw[hs2] at l2
 have a1:=fun W=>qJ (P:=Tryz.prog) (a:=word) (b:=[32]) rfl (by simp;omega) W
 have a2:=fun W=>qJ (P:=Tryz.prog) (a:=word++[32]) (b:=s1) rfl (by simp;omega) W
 have a3:=fun W=>qJ (P:=Tryz.prog) (a:=word++[32]++s1) (b:=[46,46]) rfl (by simp;omega) W
 have a4:=fun W=>qJ (P:=Tryz.prog) (a:=word++[32]++s1++[46,46]) (b:=s2) rfl (by simp;omega) W
 have a5:=fun W=>qJ (P:=Tryz.prog) (a:=word++[32]++s1++[46,46]++s2) (b:=[10]) rfl (by simp;omega) W
 have HW:Hid (ig word r=word++[32]++s1++[46,46]++s2++[10]):=ae (by unfold ig;rw[hs1,hs2])
 have H1:=ae hs1
 have H2:=ae hs2
 obtain⟨lo,hi⟩:=r
 simp only at*
 clear h hE h1 h2 hs1 hs2
 go_enter Tryz.func57,Tryz.ntmps57
 go_wp2_with fail
 refine(yE lo HS.o.1 _ (HE.o _ (aG _ _))).mono ?_
 rintro e w1 ⟨rfl,hb1⟩
 rw[H1.o]
 have HB1:=ae hb1
 clear hb1
 go_wp2_with fail
 refine(yE hi HS.o.2 _ (HE.o _ HB1.o)).mono ?_
 rintro e w2 ⟨rfl,hb2⟩
 rw[H2.o]
 have HB2:=ae (aW HB1.o hb2)
 have hs2:=HB2.o.size
 have e5:fD (word++32::s1)++{data:= #[46,46]}++fD s2++{data:= #[10]}=fD (word++[32]++s1++[46,46]++s2++[10]):=by
  show fD (word++32::s1)++fD [46,46]++fD s2++fD [10]=_
  rw[CQ,CQ,CQ]
  simp
 clear hb2
 go_wp2_with fail
 refine(vO B b bs _ w2 (HBu.o.below HB2.o) (by omega) (by simp;omega)).mono ?_
 rintro e w3 ⟨⟨v,rfl⟩,h3,h4⟩
 have H3:=ae (ag h3 h4)
 clear h3 h4 e5
 go_wp2_with fail
 go_end0
 refine⟨⟨_,rfl⟩,?_,(Wr.aA HB2.o (by omega)).trans H3.o.2⟩
 rw[HW.o]
 simpa using H3.o.1
theorem xg {α:Type} {l:List α} {i:Nat} {d:α} (h:i<l.length):l.getD i d=l[i]:=by simp[List.getD,h]
theorem QM (n:Nat) (ls:List (List Int)): ∀k,k<=ls.length->k≠0-> ∀i,i<n->
 (∀l∈ls.take k,((bF n ls k).getD i (0,0)).1<=l.getD i 0/\l.getD i 0<=((bF n ls k).getD i (0,0)).2)/\
 (∃l∈ls.take k,((bF n ls k).getD i (0,0)).1=l.getD i 0)/\(∃l∈ls.take k,((bF n ls k).getD i (0,0)).2=l.getD i 0):=by
 intro k
 induction k with
 |zero=>intro _ h;exact absurd rfl h
 |succ k ih=>
  intro hk _ i hi
  have hk':k<ls.length:=by omega
  have ht:ls.take (k+1)=ls.take k++[ls[k]]:=iE hk'
  have hg:ls.getD k []=ls[k]:=xg hk'
  by_cases h0:k=0
  ·subst h0
   have e:(bF n ls 1).getD i (0,0)=((ls[0]).getD i 0,(ls[0]).getD i 0):=by
    simp only[bF,fC,hg]
    rw[xg (by simp;omega)]
    simp
   rw[e]
   simp only[Nat.zero_add] at ht⊢
   rw[ht]
   exact⟨fun l hl=>by obtain rfl:=fK.1 (by simpa using hl);exact⟨Int.le_refl _,Int.le_refl _⟩,⟨ls[0],by simp,rfl⟩,⟨ls[0],by simp,rfl⟩⟩
  ·obtain⟨h1,⟨l2,hl2,h2⟩,⟨l3,hl3,h3⟩⟩:=ih (by omega) h0 i hi
   have hlen:=pU n ls k h0
   have e:(bF n ls (k+1)).getD i (0,0)=wid ((bF n ls k).getD i (0,0)) ((ls[k]).getD i 0):=by
    simp only[bF,fC,hg,h0,if_false]
    rw[xg (by simp;omega)]
    simp[hi]
   rw[e,ht]
   generalize (bF n ls k).getD i (0,0)=r at*
   simp only[wid]
   refine⟨fun l hl=>?_,?_,?_⟩
   ·rcases iT.1 hl with hl|hl
    ·have:=h1 l hl;omega
    ·obtain rfl:=fK.1 hl;omega
   ·by_cases hc:r.1<=(ls[k]).getD i 0
    ·exact⟨l2,nT _ hl2,by omega⟩
    ·exact⟨ls[k],um _ (fK.2 rfl),by omega⟩
   ·by_cases hc:(ls[k]).getD i 0<=r.2
    ·exact⟨l3,nT _ hl3,by omega⟩
    ·exact⟨ls[k],um _ (fK.2 rfl),by omega⟩
theorem QN {n:Nat} {ls:List (List Int)} (h:ls≠[]):(rU n ls).length=n:=pU n ls _ (by cases ls <;>simp_all)
theorem UI {n:Nat} {ls:List (List Int)} (h:ls≠[]) {i:Nat} (hi:i<n):
 (∀l∈ls,((rU n ls).getD i (0,0)).1<=l.getD i 0/\l.getD i 0<=((rU n ls).getD i (0,0)).2)/\
 (∃l∈ls,((rU n ls).getD i (0,0)).1=l.getD i 0)/\(∃l∈ls,((rU n ls).getD i (0,0)).2=l.getD i 0):=by
 have:=QM n ls ls.length (ai _) (by cases ls <;>simp_all) i hi
 rwa [List.take_length] at this
structure VT (s:jr):Prop where
 field:fU s.led.field true=0
 led:iR s.led=0
 heap:wC s.heap=0
 ask:jI.jo s.heap s.heap.turns=0
 keeps:jI.oK s.heap s.heap.turns≠2
 dn:qx s.dn=0
 ac3:jc s.dn true=0
theorem Ws {s:jr}:aZ s=0↔VT s:=by
 unfold aZ
 constructor
 ·intro h
  split at h;· omega
  split at h;· omega
  split at h;· omega
  split at h;· omega
  split at h;· omega
  split at h;· omega
  split at h;· omega
  rename_i a b c d e f g
  exact⟨by simpa using a,by simpa using b,by simpa using c,by simpa using d,e,by simpa using f,by simpa using g⟩
 ·rintro⟨a,b,c,d,e,f,g⟩
  simp[a,b,c,d,e,f,g]
theorem ND:aZ dA=0:=by decide+kernel
theorem acd (ls:List aH):gU (dQ aZ dA ls).1/\VT (dQ aZ dA ls).1:=⟨JU _ IB,Ws.1 (OJ _ ND)⟩
theorem OO {ls:List aH} (h:ed ls=0):gU (eQ ls)/\VT (eQ ls):=by
 unfold eQ
 rw[aF h]
 exact acd ls
theorem Ue {f:bV} (h:fU f true=0): ∀r∈Cf f,kR r.1/\kR r.2:=by
 intro r hr
 have hf:ku f=0:=by
  unfold fU at h
  split at h
  ·omega
  ·rename_i hq;simpa using hq
 unfold Cf at hr
 obtain⟨i,_,rfl⟩:=jd.1 hr
 have:=LV (iJ hf) (bW f []) (i:Int) _ (ai _)
 exact⟨⟨by omega,by omega⟩,by omega,by omega⟩
theorem Pg {l:aQ} (h:iR l=0):(nR l).length<=5/\ ∀i∈nR l,0<=i/\i<=4:=by
 obtain⟨hS,hp⟩:=pR h
 obtain⟨_,h2,_⟩:=Ph hp
 have hm:=hS.many
 refine⟨by have:=h2.len;omega,fun i hi=>?_⟩
 have:=((MR _ _).1 h2).2 i hi
 omega
theorem SH {l:aQ} (h:gX l true=0): ∀r∈CS oP l (gy l),kR r.1/\kR r.2:=by
 intro r hr
 obtain⟨hS,hp⟩:=QQ h
 obtain⟨i,hi,rfl⟩:=mG hr
 have hl:=VK hp oP
 have agJ:=abe hp oP (i:=i) (by omega)
 rw[xg hi] at agJ
 have key: ∀d∈gy l,jF l [] d=true-> -2000<=(oP (d.getD i 0) ((kP l [] d).getD i (0,0))).1/\(oP (d.getD i 0) ((kP l [] d).getD i (0,0))).2<=2000/\ -2000<=(oP (d.getD i 0) ((kP l [] d).getD i (0,0))).2/\(oP (d.getD i 0) ((kP l [] d).getD i (0,0))).1<=2000:=fun d hd hc=>by
  have hb:=OT hS hd hc (i:=i) (by omega)
  obtain⟨t,ht,rfl⟩:=Kq.1 hd
  have hF:=iJ hS.field
  have hw:=hF.xG
  have hd2:=Ii (rate:=l.rate) (by have:=hS.rate;omega) hS.rate.2 t (ab9 hS ht) i (by omega)
  unfold oP
  simp only
  omega
 obtain⟨⟨⟨y,⟨d,hd,hc,rfl⟩,hy⟩,_⟩,⟨⟨z,⟨e,he,hce,rfl⟩,hz⟩,_⟩⟩:=agJ
 have k1:=key d hd hc
 have k2:=key e he hce
 exact⟨⟨by omega,by omega⟩,by omega,by omega⟩
theorem Hl {s:jr} (hG:gU s) (hS:VT s):(jI.jU s.heap s.heap.turns).length=5/\kR ((jI.jU s.heap s.heap.turns).getD 4 (0,0)).1/\kR ((jI.jU s.heap s.heap.turns).getD 4 (0,0)).2:=by
 have hl:=hG.heap.1
 unfold jI.jU
 rw[aF hS.ask,hl]
 have hne:jJ s.heap s.heap.turns≠[]:=by
  have ha:=hS.ask
  unfold jI.jo at ha
  split at ha;· omega
  split at ha;· omega
  split at ha;· omega
  rename_i hq
  exact TY (by cases hq2:dX s.heap [] <;>simp_all)
 have hb: ∀y∈jJ s.heap s.heap.turns,0<=y.getD 4 0/\y.getD 4 0<=900:=fun y hy=>by
  obtain⟨t,ht,rfl⟩:=(GN _ _ _).1 hy
  have hSo:=Gn hS.heap
  obtain⟨a1,a2,a3⟩:=jI.Bo hSo ht
  have hw:=hG.V8
  have hbd:=PU s.heap.turns hSo.Ot hSo.Oq hSo.Qm hSo.Ql a2.1 a2.2 a3 (by omega)
  by_cases h4:4<(lH s.heap t s.heap.turns).length
  ·rw[xg h4]
   exact hbd _ (cZ _)
  ·rw[iH,List.getElem?_eq_none (by omega)]
   exact⟨by decide,by decide⟩
 obtain⟨_,⟨y,hy,e1⟩,⟨z,hz,e2⟩⟩:=UI hne (n:=5) (i:=4) (by omega)
 have b1:=hb y hy
 have b2:=hb z hz
 refine⟨QN hne,?_,?_⟩
 ·show kR ((rU 5 (jJ s.heap s.heap.turns)).getD 4 (0,0)).1
  rw[e1]
  exact⟨by omega,by omega⟩
 ·show kR ((rU 5 (jJ s.heap s.heap.turns)).getD 4 (0,0)).2
  rw[e2]
  exact⟨by omega,by omega⟩
theorem ET (h:dh) (t:List Int):kR (jI.oK h t):=by
 unfold jI.oK
 split
 ·exact⟨by decide,by decide⟩
 ·split
  ·exact⟨by decide,by decide⟩
  ·split <;>exact⟨by decide,by decide⟩
theorem Ir {c:bP} (h:jc c true=0): ∀r∈jE c,kR r.1/\kR r.2:=by
 intro r hr
 obtain⟨hS,h0,_⟩:=IG h
 unfold jE at hr
 obtain⟨i,hi,rfl⟩:=jd.1 hr
 have hi':=mD.1 hi
 have:=Vf hS mX h0 (i:=c.heaps.length+i) (by unfold nJ;omega) _ (ai _)
 unfold Bz
 exact⟨⟨by omega,by omega⟩,by omega,by omega⟩
abbrev Ug:aH:=[100,111,110,101]
abbrev lvW:aH:=[108,101,97,118,101]
abbrev Rh:aH:=[111,119,101,100]
abbrev Vr:aH:=[104,101,97,116]
abbrev Vq:aH:=[107,101,101,112,115,32]
abbrev CO:aH:=[99,97,115,107]
def Zt (i:Int):aH:=32::Lib.itoa i
theorem Ve: ∀l:List Int,(∀i∈l,0<=i/\i<=4)->(l.flatMap Zt).length<=12*l.length:=by
 intro l
 induction l with
 |nil=>intro _;simp
 |cons a l ih=>
  intro h
  have h2:=ih (fun i hi=>h i (by simp[hi]))
  have h3:=h a (by simp)
  have h4:=qP (n:=a) ⟨by omega,by omega⟩
  have h5:(Zt a).length=(Lib.itoa a).length+1:=rfl
  rw[List.flatMap_cons,dD,List.length_cons]
  omega
def Gx (s:jr):aH:=if nR s.led=[] then(CS oP s.led (gy s.led)).flatMap (ig Rh) else[]
def Hm (s:jr):aH:=ig Vr ((jI.jU s.heap s.heap.turns).getD 4 (0,0))
def keepR (s:jr):aH:=Vq++Lib.itoa (jI.oK s.heap s.heap.turns)++[10]
def oH (s:jr):aH:=
 (Cf s.led.field).flatMap (ig Ug)++lvW++(nR s.led).flatMap Zt++[10]++Gx s++Hm s++keepR s++(jE s.dn).flatMap (ig CO)
def LY (ls:List aH):aH:=if ed ls=0 then oH (eQ ls) else[]
def alL (ls:List aH) (w:World) (e:Ending) (w':World):Prop:=Below w.heap.size w w'/\e= .returned (.tuple #[.string (fD (LY ls)),iv (ed ls)])
structure Y6 (W3:World) (bs:aH) (W:World):Prop where
 below:Below W3.heap.size W3 W
 buf:Buf W3.heap.size W3.heap.size bs W
 lt:W3.heap.size<W.heap.size
 len:bs.length<=500000
theorem Y6.call {W3:World} {bs:aH} {W W':World} (h:Y6 W3 bs W) (hb:Below W.heap.size W W'):Y6 W3 bs W':=
 ⟨h.below.trans (hb.mono (by have:=h.lt;omega)),h.buf.below hb,eu h.lt hb.size,h.len⟩
theorem Y6.wrote {W3:World} {bs bs':aH} {W W':World} (h:Y6 W3 bs W) (hb:Buf W3.heap.size W3.heap.size bs' W') (hw:Wr W3.heap.size W W') (hl:bs'.length<=500000):Y6 W3 bs' W':=
 ⟨h.below.trans hw.below,hb,eu h.lt hw.size,hl⟩
theorem vT {α:Type} {l:List α} (f:α->aH) {k:Nat} (hk:k<l.length):(l.take (k+1)).flatMap f=(l.take k).flatMap f++f l[k]:=by
 rw[iE hk,vI,List.flatMap_cons,List.flatMap_nil,List.append_nil]
theorem UO (lv:Value) (ls:List aH) (w:World) (hls:iw w lv ls) (hE:Env w) (hln: ∀l∈ls,l.length<=1000000):Calls Tryz.prog 33 #[lv] w (alL ls w):=by
 have Jw:=ae hls
 have HE:Hid (∀W,Below w.heap.size w W->Env W):=ae (fun W hb=>hE.below hb (ai _))
 have Q4:=ae hln
 have h4:=hE.size
 clear hls hE hln
 obtain⟨q,hq⟩: ∃q,ed ls=q:=⟨_,rfl⟩
 have HQ:=ae hq
 go_enter Tryz.func33,Tryz.ntmps33
 go_wp2_with fail
 refine(uy lv ls w (Jw.o) (HE.o _ (aG _ _)) (Q4.o) [] (by simp)).mono ?_
 rintro e W2 ⟨hb2,V,es,cv,he,hX,hC⟩
 rw[hq] at he
 subst he
 obtain⟨co,cc,rfl⟩:=aS hC
 have hs2:=hb2.size
 have hS2:=hX W2 (Ext.refl _ _)
 rename_i hK
 refine hK _ _ ?_
 refine ay rfl _ (by go_simp;first|rfl|exact⟨rfl,rfl⟩) ?_
 simp only[zp]
 refine ay rfl _ (by go_simp;first|rfl|exact⟨rfl,rfl⟩) ?_
 simp only[zp]
 refine ay rfl _ (by go_simp;first|rfl|exact⟨rfl,rfl⟩) ?_
 simp only[zp]
 refine ay rfl _ (by go_simp;first|rfl|exact⟨rfl,rfl⟩) ?_
 simp only[zp]
 obtain⟨g,hg⟩: ∃g,g=W2.heap.size:=⟨_,rfl⟩
 refine ay rfl (w':=W2.alloc (.cells df 46 (0,0))) (.pointer (some ⟨g,0,none⟩)) (by rw[hg];go_simp;try rfl) ?_
 simp only[zp]
 have hz2:(W2.alloc (.cells df 46 (0,0))).heap[g]? =some (.cells df 46 (0,0)):=by rw[hg];exact ax _ _
 refine wpList_store_row rfl _ _ _ rfl g (bY (eQ ls) V) (by as_aux_lemma=>kernel_rfl) (by as_aux_lemma=>kernel_rfl) _ df hz2 (by kernel_rfl) (by as_aux_lemma=>kernel_rfl) (by rw[kF];exact fun u hu=>fZ hS2 u (kM.2 hu)) ?_
 simp only[zp]
 refine jb fun W3 hW3=>?_
 obtain⟨pW,iV⟩: ∃pW,pW=W2.alloc (.cells df 46 (0,0)):=⟨_,rfl⟩
 rw[<-iV] at hW3 hz2
 have pO:Ext [g] pW W3:=by rw[hW3];exact dZ
 have hs3:=pO.size
 have hs2':pW.heap.size=g+1:=by rw[iV,hg];simp
 have jh:Below W2.heap.size W2 W3:=gZ (by rw[iV];exact aj (aG _ _) _) pO (by omega)
 have hk3:W3.heap[g]? =some (.cells (bY (eQ ls) V) 46 (0,0)):=by rw[hW3];exact setRow_heap _ _ _ _ _ _ hz2
 have hb3:=aW hb2 jh
 have hg3:w.heap.size<=g:=by omega
 have hgs:g<W3.heap.size:=by omega
 have H3:=ae (ag hb3 (ag hk3 (hS2.below jh (ai _))))
 clear hX hC hW3 iV pO jh hb2 hS2 hz2 hK hs2 hs3 hs2' hg hb3
 clear hq
 obtain⟨vt,vn,vw,vu,vr,vh,vk,vs⟩:=V
 obtain⟨c3,f3,l3⟩:=af hk3
 by_cases hz:q=0
 rotate_left
 ·go_wp2_with fail
  go_returns
  have hqq:ed ls≠0:=by rw[HQ.o];exact hz
  have h1:LY ls=[]:=by unfold LY;rw[ak hqq]
  exact⟨H3.o.1,by rw[h1,HQ.o];simp⟩
 subst hz
 have jA:=ae (OO HQ.o)
 have hrb:LY ls=oH (eQ ls):=by unfold LY;rw[aF HQ.o]
 have NM:=ae hrb
 clear hrb
 generalize eQ ls=s at*
 go_upto_region 5 with(fail)
 refine dI fun W4 FY=>?_
 have hr4:Y6 W3 [] W4:=by
  rw[FY]
  exact⟨(aG _ _).alloc (ai _) _,.inl ⟨ai _,.slice none 0 0,ax _ _,⟨rfl,.inl ⟨rfl,rfl⟩⟩,by simp[Value.ownBlock],fun q hq=>by cases hq⟩,by simp,by simp⟩
 have HR4:=ae hr4
 have HC:Hid (∀W,Below W3.heap.size W3 W->W.heap[g]? =some (.cells (bY s ⟨vt,vn,vw,vu,vr,vh,vk,vs⟩) 46 (0,0))):=ae (fun W hb=>(hb.block g hgs).trans hk3)
 have HST:Hid (∀W,Below W3.heap.size W3 W->oD W s ⟨vt,vn,vw,vu,vr,vh,vk,vs⟩ es):=ae (fun W hb=>H3.o.2.2.below hb (ai _))
 have NR:Hid (∀W,Below W3.heap.size W3 W->Env W):=ae (fun W hb=>HE.o W (aW H3.o.1 hb))
 clear FY hr4 hk3 c3 f3 l3
 obtain⟨c4,f4,l4⟩:=af (HC.o W4 HR4.o.below)
 go_wp2_with fail
 have HD:=ae (Dj s.led.field vt W4 (HST.o W4 HR4.o.below).uB)
 refine HD.o.mono ?_
 rintro e W5 ⟨hb5,⟨hne,rfl⟩|⟨_,dv,rfl,hdv⟩⟩
 ·exact absurd jA.o.2.field hne
 obtain⟨D,hD⟩: ∃D,Cf s.led.field=D:=⟨_,rfl⟩
 have hDl:D.length=2:=by rw[<-hD,XR,jA.o.1.aO];rfl
 have HDS:Hid (∀r∈D,kR r.1/\kR r.2):=ae (by rw[<-hD];exact Ue jA.o.2.field)
 rw[hD] at hdv
 have HDE:=ae hD
 obtain⟨dO,dC,rfl⟩:=hdv.open
 have HR5:=ae (ag (HR4.o.call hb5) hdv)
 clear hb5 hdv hD c4 f4 l4
 go_wp2_with fail
 go_loopw [49] (fun i wr=> ∃k:Nat,k<=D.length/\i= .int .i64 k/\Y6 W3 (([]:aH)++(D.take k).flatMap (ig Ug)) wr/\aN 2 wr (.slice dO D.length dC) D.length (aI D)) (fun i _=>D.length-(intOf i).toNat)
 case atStart=>exact⟨0,bQ _,rfl,by simpa using HR5.o.1,HR5.o.2⟩
 case round=>
  obtain⟨k,hk,rfl,hR,hL⟩:=hrel
  by_cases hlt:k<D.length
  ·obtain⟨lb,Tf,rfl,hlb,d1,d2⟩:=bJ.cell hL hlt
   obtain⟨x,hx⟩: ∃x,D[k]=x:=⟨_,rfl⟩
   rw[hx] at d1 d2
   have hsm:=HDS.o D[k] (cZ hlt)
   rw[hx] at hsm
   have htf:([]:aH)++(D.take (k+1)).flatMap (ig Ug)=(([]:aH)++(D.take k).flatMap (ig Ug))++ig Ug x:=by rw[vT _ hlt,hx,nC]
   have hlen:(([]:aH)++(D.take (k+1)).flatMap (ig Ug)).length<=500000:=by
    have h1:=rX Ug (l:=D.take (k+1)) (fun r hr=>HDS.o r (pV hr))
    have h2:(D.take (k+1)).length<=10:=by rw[gu];omega
    rw[dD]
    have h3:(Ug:aH).length+26<=40:=by decide
    have h4:=Nat.mul_le_mul h3 h2
    have h5:=hDl
    have h6:(([]:aH)).length<=2000:=(by simp)
    omega
   have hR':=hR.call (aj (aG _ _) (.cells #[iv x.1,iv x.2] 26 (0,0)))
   have HW:=ae (sF W3.heap.size W3.heap.size _ Ug x _ hR'.buf (nz hR'.lt) (by omega) (NR.o _ hR'.below) hsm.1 hsm.2 (by have h1:=hR.len;have h2:(Ug:aH).length<=10:=(by decide);omega))
   have HX:=ae (ag hR' (ag hL (ag htf hlen)))
   clear hR hL htf hlen hR' hsm hx
   go_wp2_with fail
   refine HW.o.mono ?_
   rintro e W6 ⟨⟨v,rfl⟩,hbu,hwr⟩
   have VC:=HX.o.1.wrote hbu hwr (by have:=HX.o.2.2.2;rwa [HX.o.2.2.1] at this)
   have hL6:=hwr.list (HX.o.2.1.alloc _) (BO D)
   have H6:=ae (ag VC hL6)
   clear hbu hwr VC hL6
   go_wp2_with fail
   go_roundw
   case rel=>exact⟨k+1,by omega,by go_num,by rw[HX.o.2.2.1];exact H6.o.1,H6.o.2⟩
   case measure=>simp[intOf];omega
  ·have hkl:k=D.length:=by omega
   subst hkl
   rw[List.take_length] at hR
   have xX:=ae hR
   clear hR hL
   obtain⟨c6,f6,l6⟩:=af (HC.o wr xX.o.below)
   have hs1:(([]:aH)++D.flatMap (ig Ug)).length<=1000:=by
    have h1:=rX Ug HDS.o
    have h3:(Ug:aH).length+26<=40:=by decide
    have h4:=Nat.mul_le_mul h3 (show D.length<=2 by omega)
    simp only[List.nil_append]
    omega
   rw[List.nil_append] at xX hs1
   obtain⟨P1,hP1⟩: ∃P,D.flatMap (ig Ug)=P:=⟨_,rfl⟩
   rw[hP1] at xX hs1
   have NV:=ae hP1
   clear hP1
   go_wp2_with fail
   refine(vO W3.heap.size W3.heap.size P1 lvW wr xX.o.buf (nz xX.o.lt) (by have:(lvW:aH).length=5:=rfl;omega)).mono ?_
   rintro e W7 ⟨⟨v7,rfl⟩,hb7,hw7⟩
   have HR7:=ae (xX.o.wrote hb7 hw7 (by rw[dD];have:(lvW:aH).length=5:=rfl;omega))
   clear hb7 hw7 c6 f6 l6
   obtain⟨c6,f6,l6⟩:=af (HC.o W7 HR7.o.below)
   go_wp2_with fail
   obtain⟨P2,hP2⟩: ∃P,P1++lvW=P:=⟨_,rfl⟩
   have hs2:P2.length<=1005:=by rw[<-hP2,dD];have:(lvW:aH).length=5:=rfl;omega
   rw[hP2] at HR7
   have HP2:=ae hP2
   clear hP2
   have HLV:=ae (YL s.led vt vn W7 (HST.o W7 HR7.o.below).uB (HST.o W7 HR7.o.below).Je)
   refine HLV.o.mono ?_
   rintro e W8 ⟨hb8,⟨hne,rfl⟩|⟨_,v8,rfl,hv8⟩⟩
   ·exact absurd jA.o.2.led hne
   obtain⟨L,hL⟩: ∃L,nR s.led=L:=⟨_,rfl⟩
   have hLs:=Pg jA.o.2.led
   rw[hL] at hv8 hLs
   have hL5:=hLs.1
   have afC:=ae hLs.2
   have HLE:=ae hL
   obtain⟨lO,lC,rfl⟩:=hv8.open
   have HR8:=ae (ag (HR7.o.call hb8) hv8)
   clear hb8 hv8 hL hLs c6 f6 l6
   go_wp2_with fail
   go_loopw [69] (fun i wr=> ∃k:Nat,k<=L.length/\i= .int .i64 k/\Y6 W3 (P2++(L.take k).flatMap Zt) wr/\aN 1 wr (.slice lO L.length lC) L.length (ah L)) (fun i _=>L.length-(intOf i).toNat)
   case atStart=>exact⟨0,bQ _,rfl,by simpa using HR8.o.1,HR8.o.2⟩
   case round=>
    obtain⟨k,hk,rfl,hR,hLL⟩:=hrel
    by_cases hlt:k<L.length
    ·obtain⟨lb,Tf,rfl,hlb,d1⟩:=aP.cell hLL hlt
     obtain⟨x,hx⟩: ∃x,L[k]=x:=⟨_,rfl⟩
     rw[hx] at d1
     have hsm:=afC.o L[k] (cZ hlt)
     rw[hx] at hsm
     have hxs:kR x:=⟨by omega,by omega⟩
     have hil:=qP hxs
     obtain⟨s1,acu⟩: ∃s,Lib.itoa x=s:=⟨_,rfl⟩
     rw[acu] at hil
     have htf:P2++(L.take (k+1)).flatMap Zt=(P2++(L.take k).flatMap Zt)++(32::s1):=by
      rw[vT _ hlt,hx,nC]
      unfold Zt
      rw[acu]
     have hlen:(P2++(L.take (k+1)).flatMap Zt).length<=500000:=by
      have h2:=Ve (L.take (k+1)) (fun i hi=>afC.o i (pV hi))
      have h3:(L.take (k+1)).length<=5:=by rw[gu];omega
      rw[dD]
      omega
     have a1:=fun W=>qJ (P:=Tryz.prog) (a:=[32]) (b:=s1) rfl (by simp;omega) W
     have HX:=ae (ag hR (ag hLL (ag htf hlen)))
     have HIT:=ae (yE x hxs wr (NR.o _ hR.below))
     have HSX:=ae acu
     clear hR hLL htf hlen hsm hx acu hxs
     go_wp2_with fail
     refine HIT.o.mono ?_
     rintro e W9 ⟨rfl,wZ⟩
     rw[HSX.o]
     have YR:=ae (HX.o.1.call wZ)
     have HL9:=ae (HX.o.2.1.below wZ (ai _))
     clear wZ
     go_wp2_with fail
     refine(vO W3.heap.size W3.heap.size _ (32::s1) W9 YR.o.buf (nz YR.o.lt) (by have:=YR.o.len;have h9:(32::s1).length=s1.length+1:=rfl;omega)).mono ?_
     rintro e W6 ⟨⟨v,rfl⟩,hbu,hwr⟩
     have VC:=YR.o.wrote hbu hwr (by have:=HX.o.2.2.2;rwa [HX.o.2.2.1] at this)
     have hL6:=hwr.list HL9.o (acp L)
     have H6:=ae (ag VC hL6)
     clear hbu hwr VC hL6
     go_wp2_with fail
     go_roundw
     case rel=>exact⟨k+1,by omega,by go_num,by rw[HX.o.2.2.1];exact H6.o.1,H6.o.2⟩
     case measure=>simp[intOf];omega
    ·have hkl:k=L.length:=by omega
     subst hkl
     rw[List.take_length] at hR
     have xX:=ae hR
     clear hR hLL
     obtain⟨P3,hP3⟩: ∃P,P2++L.flatMap Zt=P:=⟨_,rfl⟩
     have hs3:P3.length<=1065:=by
      rw[<-hP3,dD]
      have:=Ve L afC.o
      omega
     rw[hP3] at xX
     have U1:=ae hP3
     clear hP3
     go_wp2_with fail
     refine(vO W3.heap.size W3.heap.size P3 [10] wr xX.o.buf (nz xX.o.lt) (by have:([10]:aH).length=1:=rfl;omega)).mono ?_
     rintro e W8' ⟨⟨v,rfl⟩,hbu,hwr⟩
     obtain⟨P4,hP4⟩: ∃P,P3++[10]=P:=⟨_,rfl⟩
     have hs4:P4.length<=1066:=by rw[<-hP4,dD];have:([10]:aH).length=1:=rfl;omega
     rw[hP4] at hbu
     have YS:=ae (xX.o.wrote hbu hwr (by omega))
     have heq:oH s=P4++Gx s++Hm s++keepR s++(jE s.dn).flatMap (ig CO):=by
      unfold oH
      rw[HDE.o,HLE.o,NV.o,HP2.o,U1.o,hP4]
     have afI:=ae heq
     clear hbu hwr hP4 heq
     by_cases hL0:L.length=0
     ·have hLI:((L.length:Int)==0)=true:=by simp[hL0]
      have hL':L=[]:=kG hL0
      have ha:=IE jA.o.2.led (by rw[HLE.o];exact hL')
      have HA:=ae ha
      have ho:Gx s=(CS oP s.led (gy s.led)).flatMap (ig Rh):=by
       unfold Gx
       rw[aF (by rw[HLE.o];exact hL')]
      obtain⟨O,hO⟩: ∃O,CS oP s.led (gy s.led)=O:=⟨_,rfl⟩
      have hO2:O.length=2:=by rw[<-hO,VK (QQ ha).2 oP,jA.o.1.aO];rfl
      have HOS:Hid (∀r∈O,kR r.1/\kR r.2):=ae (by rw[<-hO];exact SH ha)
      rw[hO] at ho
      have HOE:=ae hO
      have al2:=ae ho
      have Xu:=HST.o W8' YS.o.below
      have HOW:=ae (QX s.led vt vn W8' Xu.uB Xu.Je)
      obtain⟨c9,f9,l9⟩:=af (HC.o W8' YS.o.below)
      clear Xu hL' ha ho hO
      go_wp2_with fail
      refine HOW.o.mono ?_
      rintro e W7' ⟨hb,⟨hne,rfl⟩|⟨_,ov,rfl,hov⟩⟩
      ·exact absurd HA.o hne
      rw[HOE.o] at hov
      obtain⟨oO,oC,rfl⟩:=hov.open
      have afx:=ae (ag (YS.o.call hb) hov)
      clear hb hov c9 f9 l9
      go_wp2_with fail
      go_loopw [90] (fun i wr=> ∃k:Nat,k<=O.length/\i= .int .i64 k/\Y6 W3 (P4++(O.take k).flatMap (ig Rh)) wr/\aN 2 wr (.slice oO O.length oC) O.length (aI O)) (fun i _=>O.length-(intOf i).toNat)
      case atStart=>exact⟨0,bQ _,rfl,by simpa using afx.o.1,afx.o.2⟩
      case round=>
       obtain⟨k,hk,rfl,hR,hL⟩:=hrel
       by_cases hlt:k<O.length
       ·obtain⟨lb,Tf,rfl,hlb,d1,d2⟩:=bJ.cell hL hlt
        obtain⟨x,hx⟩: ∃x,O[k]=x:=⟨_,rfl⟩
        rw[hx] at d1 d2
        have hsm:=HOS.o O[k] (cZ hlt)
        rw[hx] at hsm
        have htf:P4++(O.take (k+1)).flatMap (ig Rh)=(P4++(O.take k).flatMap (ig Rh))++ig Rh x:=by rw[vT _ hlt,hx,nC]
        have hlen:(P4++(O.take (k+1)).flatMap (ig Rh)).length<=500000:=by
         have h1:=rX Rh (l:=O.take (k+1)) (fun r hr=>HOS.o r (pV hr))
         have h2:(O.take (k+1)).length<=10:=by rw[gu];omega
         rw[dD]
         have h3:(Rh:aH).length+26<=40:=by decide
         have h4:=Nat.mul_le_mul h3 h2
         have h5:=hO2
         have h6:(P4).length<=2000:=(by omega)
         omega
        have hR':=hR.call (aj (aG _ _) (.cells #[iv x.1,iv x.2] 30 (0,0)))
        have HW:=ae (sF W3.heap.size W3.heap.size _ Rh x _ hR'.buf (nz hR'.lt) (by omega) (NR.o _ hR'.below) hsm.1 hsm.2 (by have h1:=hR.len;have h2:(Rh:aH).length<=10:=(by decide);omega))
        have HX:=ae (ag hR' (ag hL (ag htf hlen)))
        clear hR hL htf hlen hR' hsm hx
        go_wp2_with fail
        refine HW.o.mono ?_
        rintro e W6 ⟨⟨v,rfl⟩,hbu,hwr⟩
        have VC:=HX.o.1.wrote hbu hwr (by have:=HX.o.2.2.2;rwa [HX.o.2.2.1] at this)
        have hL6:=hwr.list (HX.o.2.1.alloc _) (BO O)
        have H6:=ae (ag VC hL6)
        clear hbu hwr VC hL6
        go_wp2_with fail
        go_roundw
        case rel=>exact⟨k+1,by omega,by go_num,by rw[HX.o.2.2.1];exact H6.o.1,H6.o.2⟩
        case measure=>simp[intOf];omega
       ·have hkl:k=O.length:=by omega
        subst hkl
        rw[List.take_length] at hR
        have xX:=ae hR
        clear hR hL
        have acs:(P4++O.flatMap (ig Rh)).length<=1300:=by
         have h1:=rX Rh HOS.o
         have h3:(Rh:aH).length+26<=40:=by decide
         have h4:=Nat.mul_le_mul h3 (show O.length<=2 by omega)
         rw[dD]
         omega
        obtain⟨P4n,ae1⟩: ∃P,P4++O.flatMap (ig Rh)=P:=⟨_,rfl⟩
        have HEQ:Hid (oH s=P4n++Hm s++keepR s++(jE s.dn).flatMap (ig CO)):=ae (by rw[afI.o,al2.o,ae1])
        rw[ae1] at xX acs
        clear ae1 hs4 afI YS afx
        rename_i P4o
        obtain⟨W9,Nc⟩: ∃W,W=wr:=⟨_,rfl⟩
        rw[<-Nc] at xX
        rw[<-Nc]
        have YR:=xX
        clear Nc
        obtain⟨P4,ahV⟩: ∃P,P=P4n:=⟨_,rfl⟩
        rw[<-ahV] at xX acs HEQ YR
        clear ahV
        obtain⟨c9,f9,l9⟩:=af (HC.o W9 YR.o.below)
        have uA:=HST.o W9 YR.o.below
        have NS:=ae (jI.IV s.heap vw vu vr vu s.heap.turns W9 uA.bU uA.Ac uA.Ak uA.Ac)
        clear uA
        go_wp2_with fail
        refine NS.o.mono ?_
        rintro e UM ⟨bv,he,hbv,AQ⟩
        rw[jA.o.2.ask] at he
        subst he
        obtain⟨zK,hB1,hB2⟩:=Hl jA.o.1 jA.o.2
        have hhr:Hm s=ig Vr ((jI.jU s.heap s.heap.turns).getD 4 (0,0)):=rfl
        obtain⟨B,hB⟩: ∃B,jI.jU s.heap s.heap.turns=B:=⟨_,rfl⟩
        rw[hB] at hbv zK hB1 hB2 hhr
        obtain⟨bO,bC,rfl⟩:=hbv.open
        obtain⟨lb,Tf,rfl,hlb,d1,d2⟩:=bJ.cell hbv (k:=4) (by omega)
        have hg4:B.getD 4 (0,0)=B[4]:=xg (by omega)
        rw[hg4] at hB1 hB2 hhr
        generalize B[4]=x at*
        have IL:=ae (YR.o.call AQ)
        have hl4:s.heap.last=4:=jA.o.1.heap.1
        have HHR:=ae hhr
        clear hbv AQ hB hhr c9 f9 l9 hg4
        obtain⟨c9,f9,l9⟩:=af (HC.o UM IL.o.below)
        rw[zK]
        have HW:=ae (fun W hE=>sF W3.heap.size W3.heap.size P4 Vr x W (IL.o.call hE).buf (nz (IL.o.call hE).lt) (by omega) (NR.o _ (IL.o.call hE).below) hB1 hB2 (by have h2:(Vr:aH).length<=10:=(by decide);omega))
        have hwl:=Di (word:=Vr) hB1 hB2
        clear hB1 hB2 zK
        go_wp2_with fail
        refine zg 15 [] none [] ?_
        simp only[zt]
        repeat ((first|refine zn ?_|refine zk ?_);simp only[zp])
        intro W hE hF
        have hbE:=hE.below
        clear hE hF
        go_wp2_with fail
        refine(HW.o W hbE).mono ?_
        rintro e W11 ⟨⟨v11,rfl⟩,hbu,hwr⟩
        obtain⟨P5,hP5⟩: ∃P,P4++ig Vr x=P:=⟨_,rfl⟩
        have hs5:P5.length<=1340:=by rw[<-hP5,dD];have:(Vr:aH).length=4:=rfl;omega
        rw[hP5] at hbu
        have U0:=ae ((IL.o.call hbE).wrote hbu hwr (by omega))
        have aaB:oH s=P5++keepR s++(jE s.dn).flatMap (ig CO):=by rw[HEQ.o,HHR.o,hP5]
        have afH:=ae aaB
        clear hbu hwr hP5 aaB c9 f9 l9 hbE hwl d1 d2 hl4
        obtain⟨c9,f9,l9⟩:=af (HC.o W11 U0.o.below)
        have uA:=HST.o W11 U0.o.below
        have HKP:=ae (jI.Eh s.heap vw vu vr vu s.heap.turns W11 uA.bU uA.Ac uA.Ak uA.Ac)
        have hkr:keepR s=Vq++Lib.itoa (jI.oK s.heap s.heap.turns)++[10]:=rfl
        have hks:=ET s.heap s.heap.turns
        obtain⟨kq,hkq⟩: ∃k,jI.oK s.heap s.heap.turns=k:=⟨_,rfl⟩
        rw[hkq] at hkr hks
        have HKQ:=ae hkq
        clear uA hkq
        go_wp2_with fail
        refine HKP.o.mono ?_
        rintro e Y5 ⟨he,TQ⟩
        rw[HKQ.o,jA.o.2.ask] at he
        subst he
        have abC:=ae (U0.o.call TQ)
        have hil:=qP hks
        have HIT:=ae (yE kq hks Y5 (NR.o _ abC.o.below))
        obtain⟨s2,TK⟩: ∃s,Lib.itoa kq=s:=⟨_,rfl⟩
        rw[TK] at hil hkr
        have HS2:=ae TK
        have HKR:=ae hkr
        have a1:=fun W=>qJ (P:=Tryz.prog) (a:=Vq) (b:=s2) rfl (by have:(Vq:aH).length=6:=rfl;omega) W
        have a2:=fun W=>qJ (P:=Tryz.prog) (a:=Vq++s2) (b:=[10]) rfl (by rw[dD];have:(Vq:aH).length=6:=rfl;have:([10]:aH).length=1:=rfl;omega) W
        clear TQ hks TK hkr c9 f9 l9
        go_wp2_with fail
        refine HIT.o.mono ?_
        rintro e W13 ⟨rfl,Nb⟩
        rw[HS2.o]
        have UZ:=ae (abC.o.call Nb)
        clear Nb
        go_wp2_with fail
        refine(vO W3.heap.size W3.heap.size P5 _ W13 UZ.o.buf (nz UZ.o.lt) (by simp;omega)).mono ?_
        rintro e VS ⟨⟨v14,rfl⟩,hbu,hwr⟩
        obtain⟨P6,Y1⟩: ∃P,P5++keepR s=P:=⟨_,rfl⟩
        have hs6:P6.length<=1000+400:=by
         rw[<-Y1,HKR.o,dD,dD,dD]
         have:(Vq:aH).length=6:=rfl
         have:([10]:aH).length=1:=rfl
         omega
        have aaG:Buf W3.heap.size W3.heap.size P6 VS:=by
         rw[<-Y1,HKR.o]
         simpa using hbu
        have UY:=ae (UZ.o.wrote aaG hwr (by omega))
        have aaA:oH s=P6++(jE s.dn).flatMap (ig CO):=by rw[afH.o,Y1]
        have afG:=ae aaA
        clear hbu aaG hwr Y1 aaA a1 a2
        obtain⟨c9,f9,l9⟩:=af (HC.o VS UY.o.below)
        have HCB:=ae (yD s.dn vh vk vs es VS (HST.o VS UY.o.below).dn)
        go_wp2_with fail
        refine HCB.o.mono ?_
        rintro e Yy ⟨aaI,⟨hne,rfl⟩|⟨_,akb,alB,rfl,hhv,hcv⟩⟩
        ·exact absurd jA.o.2.ac3 hne
        obtain⟨C,hC⟩: ∃C,jE s.dn=C:=⟨_,rfl⟩
        have hC3:C.length<=3:=by rw[<-hC];unfold jE;rw[mF,List.length_range];exact jA.o.1.aT
        have HCS:Hid (∀r∈C,kR r.1/\kR r.2):=ae (by rw[<-hC];exact Ir jA.o.2.ac3)
        rw[hC] at hcv
        have HCE:=ae hC
        obtain⟨hO,hCc,rfl⟩:=hhv.open
        obtain⟨cO,cC,rfl⟩:=hcv.open
        have abB:=ae (ag (UY.o.call aaI) hcv)
        clear aaI hhv hcv hC c9 f9 l9
        go_wp2_with fail
        go_loopw [149] (fun i wr=> ∃k:Nat,k<=C.length/\i= .int .i64 k/\Y6 W3 (P6++(C.take k).flatMap (ig CO)) wr/\aN 2 wr (.slice cO C.length cC) C.length (aI C)) (fun i _=>C.length-(intOf i).toNat)
        case atStart=>exact⟨0,bQ _,rfl,by simpa using abB.o.1,abB.o.2⟩
        case round=>
         obtain⟨k,hk,rfl,hR,hL⟩:=hrel
         by_cases hlt:k<C.length
         ·obtain⟨lb,Tf,rfl,hlb,d1,d2⟩:=bJ.cell hL hlt
          obtain⟨x,hx⟩: ∃x,C[k]=x:=⟨_,rfl⟩
          rw[hx] at d1 d2
          have hsm:=HCS.o C[k] (cZ hlt)
          rw[hx] at hsm
          have htf:P6++(C.take (k+1)).flatMap (ig CO)=(P6++(C.take k).flatMap (ig CO))++ig CO x:=by rw[vT _ hlt,hx,nC]
          have hlen:(P6++(C.take (k+1)).flatMap (ig CO)).length<=500000:=by
           have h1:=rX CO (l:=C.take (k+1)) (fun r hr=>HCS.o r (pV hr))
           have h2:(C.take (k+1)).length<=10:=by rw[gu];omega
           rw[dD]
           have h3:(CO:aH).length+26<=40:=by decide
           have h4:=Nat.mul_le_mul h3 h2
           have h5:=hC3
           have h6:(P6).length<=2000:=(by omega)
           omega
          have hR':=hR.call (aj (aG _ _) (.cells #[iv x.1,iv x.2] 112 (0,0)))
          have HW:=ae (sF W3.heap.size W3.heap.size _ CO x _ hR'.buf (nz hR'.lt) (by omega) (NR.o _ hR'.below) hsm.1 hsm.2 (by have h1:=hR.len;have h2:(CO:aH).length<=10:=(by decide);omega))
          have HX:=ae (ag hR' (ag hL (ag htf hlen)))
          clear hR hL htf hlen hR' hsm hx
          go_wp2_with fail
          refine HW.o.mono ?_
          rintro e W6 ⟨⟨v,rfl⟩,hbu,hwr⟩
          have VC:=HX.o.1.wrote hbu hwr (by have:=HX.o.2.2.2;rwa [HX.o.2.2.1] at this)
          have hL6:=hwr.list (HX.o.2.1.alloc _) (BO C)
          have H6:=ae (ag VC hL6)
          clear hbu hwr VC hL6
          go_wp2_with fail
          go_roundw
          case rel=>exact⟨k+1,by omega,by go_num,by rw[HX.o.2.2.1];exact H6.o.1,H6.o.2⟩
          case measure=>simp[intOf];omega
         ·have hkl:k=C.length:=by omega
          subst hkl
          rw[List.take_length] at hR
          have xX:=ae hR
          clear hR hL
          obtain⟨P7,TR⟩: ∃P,P6++C.flatMap (ig CO)=P:=⟨_,rfl⟩
          rw[TR] at xX
          have VX:Hid (LY ls=P7):=ae (by rw[NM.o,afG.o,HCE.o,TR])
          clear TR
          go_wp2_with fail
          refine(Tryz.Builder_String_any_k W3.heap.size W3.heap.size P7 wr (Lib.IsBuilderF.of xX.o.buf.is) (nz xX.o.lt)).mono ?_
          rintro e W16 ⟨rfl,_,hb16,_⟩
          have afQ:=ae (H3.o.1.trans ((xX.o.below.trans hb16).mono H3.o.1.size))
          clear hb16
          go_wp2_with fail
          go_returns
          exact⟨afQ.o,by rw[VX.o,HQ.o];simp⟩
     ·have hLI:((L.length:Int)==0)=false:=by simp;exact fun h=>hL0 (by simp[h])
      have ho:Gx s=[]:=by
       unfold Gx
       rw[HLE.o,ak (fun h=>hL0 (by rw[h];rfl))]
      have HEQ:Hid (oH s=P4++Hm s++keepR s++(jE s.dn).flatMap (ig CO)):=ae (by rw[afI.o,ho,List.append_nil])
      clear ho hL0
      have acs:P4.length<=1300:=by omega
      obtain⟨W9,Nc⟩: ∃W,W=W8':=⟨_,rfl⟩
      rw[<-Nc] at YS
      rw[<-Nc]
      have YR:=YS
      clear Nc
      obtain⟨c9,f9,l9⟩:=af (HC.o W9 YR.o.below)
      have uA:=HST.o W9 YR.o.below
      have NS:=ae (jI.IV s.heap vw vu vr vu s.heap.turns W9 uA.bU uA.Ac uA.Ak uA.Ac)
      clear uA
      go_wp2_with fail
      refine NS.o.mono ?_
      rintro e UM ⟨bv,he,hbv,AQ⟩
      rw[jA.o.2.ask] at he
      subst he
      obtain⟨zK,hB1,hB2⟩:=Hl jA.o.1 jA.o.2
      have hhr:Hm s=ig Vr ((jI.jU s.heap s.heap.turns).getD 4 (0,0)):=rfl
      obtain⟨B,hB⟩: ∃B,jI.jU s.heap s.heap.turns=B:=⟨_,rfl⟩
      rw[hB] at hbv zK hB1 hB2 hhr
      obtain⟨bO,bC,rfl⟩:=hbv.open
      obtain⟨lb,Tf,rfl,hlb,d1,d2⟩:=bJ.cell hbv (k:=4) (by omega)
      have hg4:B.getD 4 (0,0)=B[4]:=xg (by omega)
      rw[hg4] at hB1 hB2 hhr
      generalize B[4]=x at*
      have IL:=ae (YR.o.call AQ)
      have hl4:s.heap.last=4:=jA.o.1.heap.1
      have HHR:=ae hhr
      clear hbv AQ hB hhr c9 f9 l9 hg4
      obtain⟨c9,f9,l9⟩:=af (HC.o UM IL.o.below)
      rw[zK]
      have HW:=ae (fun W hE=>sF W3.heap.size W3.heap.size P4 Vr x W (IL.o.call hE).buf (nz (IL.o.call hE).lt) (by omega) (NR.o _ (IL.o.call hE).below) hB1 hB2 (by have h2:(Vr:aH).length<=10:=(by decide);omega))
      have hwl:=Di (word:=Vr) hB1 hB2
      clear hB1 hB2 zK
      go_wp2_with fail
      refine zg 15 [] none [] ?_
      simp only[zt]
      repeat ((first|refine zn ?_|refine zk ?_);simp only[zp])
      intro W hE hF
      have hbE:=hE.below
      clear hE hF
      go_wp2_with fail
      refine(HW.o W hbE).mono ?_
      rintro e W11 ⟨⟨v11,rfl⟩,hbu,hwr⟩
      obtain⟨P5,hP5⟩: ∃P,P4++ig Vr x=P:=⟨_,rfl⟩
      have hs5:P5.length<=1340:=by rw[<-hP5,dD];have:(Vr:aH).length=4:=rfl;omega
      rw[hP5] at hbu
      have U0:=ae ((IL.o.call hbE).wrote hbu hwr (by omega))
      have aaB:oH s=P5++keepR s++(jE s.dn).flatMap (ig CO):=by rw[HEQ.o,HHR.o,hP5]
      have afH:=ae aaB
      clear hbu hwr hP5 aaB c9 f9 l9 hbE hwl d1 d2 hl4
      obtain⟨c9,f9,l9⟩:=af (HC.o W11 U0.o.below)
      have uA:=HST.o W11 U0.o.below
      have HKP:=ae (jI.Eh s.heap vw vu vr vu s.heap.turns W11 uA.bU uA.Ac uA.Ak uA.Ac)
      have hkr:keepR s=Vq++Lib.itoa (jI.oK s.heap s.heap.turns)++[10]:=rfl
      have hks:=ET s.heap s.heap.turns
      obtain⟨kq,hkq⟩: ∃k,jI.oK s.heap s.heap.turns=k:=⟨_,rfl⟩
      rw[hkq] at hkr hks
      have HKQ:=ae hkq
      clear uA hkq
      go_wp2_with fail
      refine HKP.o.mono ?_
      rintro e Y5 ⟨he,TQ⟩
      rw[HKQ.o,jA.o.2.ask] at he
      subst he
      have abC:=ae (U0.o.call TQ)
      have hil:=qP hks
      have HIT:=ae (yE kq hks Y5 (NR.o _ abC.o.below))
      obtain⟨s2,TK⟩: ∃s,Lib.itoa kq=s:=⟨_,rfl⟩
      rw[TK] at hil hkr
      have HS2:=ae TK
      have HKR:=ae hkr
      have a1:=fun W=>qJ (P:=Tryz.prog) (a:=Vq) (b:=s2) rfl (by have:(Vq:aH).length=6:=rfl;omega) W
      have a2:=fun W=>qJ (P:=Tryz.prog) (a:=Vq++s2) (b:=[10]) rfl (by rw[dD];have:(Vq:aH).length=6:=rfl;have:([10]:aH).length=1:=rfl;omega) W
      clear TQ hks TK hkr c9 f9 l9
      go_wp2_with fail
      refine HIT.o.mono ?_
      rintro e W13 ⟨rfl,Nb⟩
      rw[HS2.o]
      have UZ:=ae (abC.o.call Nb)
      clear Nb
      go_wp2_with fail
      refine(vO W3.heap.size W3.heap.size P5 _ W13 UZ.o.buf (nz UZ.o.lt) (by simp;omega)).mono ?_
      rintro e VS ⟨⟨v14,rfl⟩,hbu,hwr⟩
      obtain⟨P6,Y1⟩: ∃P,P5++keepR s=P:=⟨_,rfl⟩
      have hs6:P6.length<=1000+400:=by
       rw[<-Y1,HKR.o,dD,dD,dD]
       have:(Vq:aH).length=6:=rfl
       have:([10]:aH).length=1:=rfl
       omega
      have aaG:Buf W3.heap.size W3.heap.size P6 VS:=by
       rw[<-Y1,HKR.o]
       simpa using hbu
      have UY:=ae (UZ.o.wrote aaG hwr (by omega))
      have aaA:oH s=P6++(jE s.dn).flatMap (ig CO):=by rw[afH.o,Y1]
      have afG:=ae aaA
      clear hbu aaG hwr Y1 aaA a1 a2
      obtain⟨c9,f9,l9⟩:=af (HC.o VS UY.o.below)
      have HCB:=ae (yD s.dn vh vk vs es VS (HST.o VS UY.o.below).dn)
      go_wp2_with fail
      refine HCB.o.mono ?_
      rintro e Yy ⟨aaI,⟨hne,rfl⟩|⟨_,akb,alB,rfl,hhv,hcv⟩⟩
      ·exact absurd jA.o.2.ac3 hne
      obtain⟨C,hC⟩: ∃C,jE s.dn=C:=⟨_,rfl⟩
      have hC3:C.length<=3:=by rw[<-hC];unfold jE;rw[mF,List.length_range];exact jA.o.1.aT
      have HCS:Hid (∀r∈C,kR r.1/\kR r.2):=ae (by rw[<-hC];exact Ir jA.o.2.ac3)
      rw[hC] at hcv
      have HCE:=ae hC
      obtain⟨hO,hCc,rfl⟩:=hhv.open
      obtain⟨cO,cC,rfl⟩:=hcv.open
      have abB:=ae (ag (UY.o.call aaI) hcv)
      clear aaI hhv hcv hC c9 f9 l9
      go_wp2_with fail
      go_loopw [149] (fun i wr=> ∃k:Nat,k<=C.length/\i= .int .i64 k/\Y6 W3 (P6++(C.take k).flatMap (ig CO)) wr/\aN 2 wr (.slice cO C.length cC) C.length (aI C)) (fun i _=>C.length-(intOf i).toNat)
      case atStart=>exact⟨0,bQ _,rfl,by simpa using abB.o.1,abB.o.2⟩
      case round=>
       obtain⟨k,hk,rfl,hR,hL⟩:=hrel
       by_cases hlt:k<C.length
       ·obtain⟨lb,Tf,rfl,hlb,d1,d2⟩:=bJ.cell hL hlt
        obtain⟨x,hx⟩: ∃x,C[k]=x:=⟨_,rfl⟩
        rw[hx] at d1 d2
        have hsm:=HCS.o C[k] (cZ hlt)
        rw[hx] at hsm
        have htf:P6++(C.take (k+1)).flatMap (ig CO)=(P6++(C.take k).flatMap (ig CO))++ig CO x:=by rw[vT _ hlt,hx,nC]
        have hlen:(P6++(C.take (k+1)).flatMap (ig CO)).length<=500000:=by
         have h1:=rX CO (l:=C.take (k+1)) (fun r hr=>HCS.o r (pV hr))
         have h2:(C.take (k+1)).length<=10:=by rw[gu];omega
         rw[dD]
         have h3:(CO:aH).length+26<=40:=by decide
         have h4:=Nat.mul_le_mul h3 h2
         have h5:=hC3
         have h6:(P6).length<=2000:=(by omega)
         omega
        have hR':=hR.call (aj (aG _ _) (.cells #[iv x.1,iv x.2] 112 (0,0)))
        have HW:=ae (sF W3.heap.size W3.heap.size _ CO x _ hR'.buf (nz hR'.lt) (by omega) (NR.o _ hR'.below) hsm.1 hsm.2 (by have h1:=hR.len;have h2:(CO:aH).length<=10:=(by decide);omega))
        have HX:=ae (ag hR' (ag hL (ag htf hlen)))
        clear hR hL htf hlen hR' hsm hx
        go_wp2_with fail
        refine HW.o.mono ?_
        rintro e W6 ⟨⟨v,rfl⟩,hbu,hwr⟩
        have VC:=HX.o.1.wrote hbu hwr (by have:=HX.o.2.2.2;rwa [HX.o.2.2.1] at this)
        have hL6:=hwr.list (HX.o.2.1.alloc _) (BO C)
        have H6:=ae (ag VC hL6)
        clear hbu hwr VC hL6
        go_wp2_with fail
        go_roundw
        case rel=>exact⟨k+1,by omega,by go_num,by rw[HX.o.2.2.1];exact H6.o.1,H6.o.2⟩
        case measure=>simp[intOf];omega
       ·have hkl:k=C.length:=by omega
        subst hkl
        rw[List.take_length] at hR
        have xX:=ae hR
        clear hR hL
        obtain⟨P7,TR⟩: ∃P,P6++C.flatMap (ig CO)=P:=⟨_,rfl⟩
        rw[TR] at xX
        have VX:Hid (LY ls=P7):=ae (by rw[NM.o,afG.o,HCE.o,TR])
        clear TR
        go_wp2_with fail
        refine(Tryz.Builder_String_any_k W3.heap.size W3.heap.size P7 wr (Lib.IsBuilderF.of xX.o.buf.is) (nz xX.o.lt)).mono ?_
        rintro e W16 ⟨rfl,_,hb16,_⟩
        have afQ:=ae (H3.o.1.trans ((xX.o.below.trans hb16).mono H3.o.1.size))
        clear hb16
        go_wp2_with fail
        go_returns
        exact⟨afQ.o,by rw[VX.o,HQ.o];simp⟩
def dgF:Nat->Nat->aH
 |0,_=>[]
 |f+1,n=>if n<10 then[KT n] else dgF f (n/10)++[KT (n%10)]
theorem aa3: ∀(f n:Nat),n<f->Lib.decDigits n=dgF f n:=by
 intro f
 induction f with
 |zero=>intro n h;omega
 |succ f ih=>
  intro n h
  unfold dgF
  by_cases hn:n<10
  ·rw[ny hn,aF hn]
  ·rw[yS hn,ak hn,ih (n/10) (by omega)]
def KA (n:Int):aH:=if n<0 then 45::dgF (n.natAbs+1) n.natAbs else dgF (n.toNat+1) n.toNat
theorem BP (n:Int):Lib.itoa n=KA n:=by
 unfold Lib.itoa KA
 rw[aa3 _ _ (Nat.lt_succ_self _),aa3 _ _ (Nat.lt_succ_self _)]
def JC (word:aH) (r:dY):aH:=word++[32]++KA r.1++[46,46]++KA r.2++[10]
theorem Zd (word:aH):ig word=JC word:=by
 funext r
 unfold ig JC
 rw[BP,BP]
def spF (i:Int):aH:=32::KA i
def LX (s:jr):aH:=
 (Cf s.led.field).flatMap (JC Ug)++lvW++(nR s.led).flatMap spF++[10]++(if nR s.led=[] then(CS oP s.led (gy s.led)).flatMap (JC Rh) else[])
   ++JC Vr ((jI.jU s.heap s.heap.turns).getD 4 (0,0))++(Vq++KA (jI.oK s.heap s.heap.turns)++[10])++(jE s.dn).flatMap (JC CO)
theorem aed:Zt=spF:=by
 funext i
 unfold Zt spF
 rw[BP]
theorem Si (s:jr):oH s=LX s:=by
 unfold oH LX Gx Hm keepR
 simp only[Zd,BP,aed]
def jW:List aH:=[[114,111,119],
 [108,101,102,116,32,48,32,48],
 [116,97,108,108,121,32,48,32,48,32,50,32,50,32,51],
 [116,97,108,108,121,32,49,32,50,32,51,32,49,32,50],
 [98,111,120,32,50,48,32,50,50],
 [110,111,116,101,32,48,32,49,48,32,49,53],
 [116,117,114,110,32,51],
 [119,101,116,32,49,32,56,32,57],
 [105,114,111,110,32,49,32,52,52,32,48],
 [99,97,115,107,32,48,32,49,48],
 [104,101,97,112,32,54,48,32,54,51],
 [102,105,108,108,32,48,32,49,32,49,48],
 [116,114,121,32,48,32,53,49,32,53,50]]
def rJ:List aH:=[[119,97,115,104,32,49,32,52,32,53],
 [116,117,114,110,32,51],
 [114,97,116,101,32,48,53]]
def agl:aH:=[100,111,110,101,32,50,46,46,51,10,100,111,110,101,32,49,46,46,50,10,108,101,97,118,101,10,111,119,101,100,32,53,46,46,50,48,10,111,119,101,100,32,48,46,46,49,53,10,104,101,97,116,32,51,55,46,46,51,55,10,107,101,101,112,115,32,49,10,99,97,115,107,32,53,49,46,46,53,49,10]
theorem V5:(dQ aZ dA (jW++rJ)).2=[0,0,0,0,0,0,0,0,0,0,0,0,0,2,6,4]:=by decide+kernel
theorem sH:ed jW=0/\ed (jW++rJ)=0:=by decide+kernel
theorem JA:J3 jW=0/\J4 jW=[(5,20),(0,15)]:=by decide+kernel
theorem Jz:JE jW=0/\JF jW=[0]:=by decide+kernel
theorem Zc:LX (dQ aZ dA jW).1=agl:=by decide+kernel
end Go.Proofs.YthbpmepjmebolaaGreatDoor.Bk
end
section
namespace Go.Proofs.YthbpmepjmebolaaGreatDoor.Bk
open Go.Lib Go.RowKit Go.RG Go.SL Go.Shelf jv Go.TB Go.Proofs.YthbpmepjmebolaaGreatDoor.zS
theorem Aw (l:List Int) (v u:Value) (w:World) (h:aP w v l) (k:aP w u l):Calls Tryz.prog 35 #[v,u] w (PV (.bool true) w):=by
 obtain⟨o1,q1,rfl⟩:=aN.open h
 obtain⟨o2,q2,rfl⟩:=aN.open k
 have hl1:=h.len
 have HH:=ae (ag h k)
 clear h k
 have hne:((l.length:Int) !=(l.length:Int))=false:=by simp
 go_enter Tryz.func35,Tryz.ntmps35
 go_wp2_with fail
 go_loopw [5] (fun i wr=> ∃k:Nat,k<=l.length/\i= .int .i64 k/\Below w.heap.size w wr) (fun i _=>l.length-(intOf i).toNat)
 case atStart=>exact⟨0,bQ _,rfl,aG _ _⟩
 case round=>
  obtain⟨k,hk,rfl,hB⟩:=hrel
  by_cases hlt:k<l.length
  ·obtain⟨g1,f1,e1,r1,c1⟩:=aP.cell (HH.o.1.below hB (ai _)) hlt
   obtain⟨g2,f2,e2,r2,c2⟩:=aP.cell (HH.o.2.below hB (ai _)) hlt
   generalize l[k]=x at*
   have HX:=ae hB
   have wB:(k:Int)<l.length:=by omega
   cases e1
   cases e2
   clear hB
   have hnb:(x !=x)=false:=by simp
   have hnc:(x==x)=true:=by simp
   go_wp2_with fail
   go_region
   all_goals go_wp2_with fail
   all_goals go_roundw
   all_goals first
    |exact⟨k+1,by omega,by go_num,iC HX.o⟩
    |(simp[intOf];omega)
  ·have HR:=ae hB
   clear hB
   go_wp2_with fail
   go_returns
   exact⟨rfl,HR.o⟩
theorem XY (l:List Int) (v u:Value) (w:World) (h:aP w v l) (k:aP w u l):Calls Tryz.prog 36 #[v,u] w (PV (.bool true) w):=by
 obtain⟨o1,q1,rfl⟩:=aN.open h
 obtain⟨o2,q2,rfl⟩:=aN.open k
 have hl1:=h.len
 have HH:=ae (ag h k)
 clear h k
 have hne:((l.length:Int) !=(l.length:Int))=false:=by simp
 go_enter Tryz.func36,Tryz.ntmps36
 go_wp2_with fail
 go_loopw [5] (fun i wr=> ∃k:Nat,k<=l.length/\i= .int .i64 k/\Below w.heap.size w wr) (fun i _=>l.length-(intOf i).toNat)
 case atStart=>exact⟨0,bQ _,rfl,aG _ _⟩
 case round=>
  obtain⟨k,hk,rfl,hB⟩:=hrel
  by_cases hlt:k<l.length
  ·obtain⟨g1,f1,e1,r1,c1⟩:=aP.cell (HH.o.1.below hB (ai _)) hlt
   obtain⟨g2,f2,e2,r2,c2⟩:=aP.cell (HH.o.2.below hB (ai _)) hlt
   generalize l[k]=x at*
   have HX:=ae hB
   have wB:(k:Int)<l.length:=by omega
   cases e1
   cases e2
   clear hB
   have hnb:(x !=x)=false:=by simp
   have hnc:(x==x)=true:=by simp
   go_wp2_with fail
   go_region
   all_goals go_wp2_with fail
   all_goals go_roundw
   all_goals first
    |exact⟨k+1,by omega,by go_num,iC HX.o⟩
    |(simp[intOf];omega)
  ·have HR:=ae hB
   clear hB
   go_wp2_with fail
   go_returns
   exact⟨rfl,HR.o⟩
theorem Wj (l:List aH) (v u:Value) (w:World) (h:iw w v l) (k:iw w u l):Calls Tryz.prog 11 #[v,u] w (PV (.bool true) w):=by
 obtain⟨o1,q1,rfl⟩:=aN.open h
 obtain⟨o2,q2,rfl⟩:=aN.open k
 have hl1:=h.len
 have HH:=ae (ag h k)
 clear h k
 have hne:((l.length:Int) !=(l.length:Int))=false:=by simp
 go_enter Tryz.func11,Tryz.ntmps11
 go_wp2_with fail
 go_loopw [5] (fun i wr=> ∃k:Nat,k<=l.length/\i= .int .i64 k/\Below w.heap.size w wr) (fun i _=>l.length-(intOf i).toNat)
 case atStart=>exact⟨0,bQ _,rfl,aG _ _⟩
 case round=>
  obtain⟨k,hk,rfl,hB⟩:=hrel
  by_cases hlt:k<l.length
  ·obtain⟨g1,f1,e1,r1,c1⟩:=qj (HH.o.1.below hB (ai _)) hlt
   obtain⟨g2,f2,e2,r2,c2⟩:=qj (HH.o.2.below hB (ai _)) hlt
   generalize l[k]=x at*
   have HX:=ae hB
   have wB:(k:Int)<l.length:=by omega
   cases e1
   cases e2
   clear hB
   have hnb:(x !=x)=false:=by simp
   have hnc:(x==x)=true:=by simp
   go_wp2_with fail
   go_region
   all_goals go_wp2_with fail
   all_goals go_roundw
   all_goals first
    |exact⟨k+1,by omega,by go_num,iC HX.o⟩
    |(simp[intOf];omega)
  ·have HR:=ae hB
   clear hB
   go_wp2_with fail
   go_returns
   exact⟨rfl,HR.o⟩
theorem rY {w W1:World} {A B:Array Value} {t:TypeId} (h:W1=(w.alloc (.cells A t)).alloc (.cells B t)):
 Below w.heap.size w W1/\W1.heap[w.heap.size]? =some (.cells A t (0,0))/\W1.heap[w.heap.size+1]? =some (.cells B t (0,0))/\W1.heap.size=w.heap.size+2:=by
 subst h
 exact⟨aj (aj (aG _ _) _) _,(aX _ _ _ (by simp)).trans (ax _ _),eF _ _ _,by simp⟩
theorem Gh {w W1:World} {A B:Array Value} {t:TypeId} (h:W1=((w.alloc (.cells A t)).alloc (.cells B t)).drew):
 Below w.heap.size w W1/\W1.heap[w.heap.size]? =some (.cells A t (0,0))/\W1.heap[w.heap.size+1]? =some (.cells B t (0,0))/\W1.heap.size=w.heap.size+2:=by
 obtain⟨h1,h2,h3,h4⟩:=rY (w:=w) (A:=A) (B:=B) (t:=t) rfl
 subst h
 exact⟨iC h1,h2,h3,h4⟩
theorem xk (s t:jr) (V U:SV) (w:World) (hs:dM w V.uB s.led.field.az) (ht:dM w U.uB t.led.field.az) (he:t.led.field=s.led.field):
 Calls Tryz.prog 21 #[.agg (bY s V),.agg (bY t U)] w (PV (.bool true) w):=by
 obtain⟨vt,vn,vw,vu,vr,vh,vk,vs⟩:=V
 obtain⟨ut,un,uw,uu,ur,uh,uk,us⟩:=U
 obtain⟨⟨f,lr,lb,ln⟩,h,c⟩:=s
 obtain⟨⟨f2,mr,mb,mn⟩,h2,c2⟩:=t
 simp only at he hs ht
 subst he
 obtain⟨n,m,⟨l0,l1⟩,T⟩:=f2
 simp only at hs ht
 obtain⟨tO,tc,rfl⟩:=aN.open hs
 obtain⟨uo,uc,rfl⟩:=aN.open ht
 have hl:=hs.len
 have HH:=ae (ag hs ht)
 clear hs ht
 go_enter Tryz.func21,Tryz.ntmps21
 go_upto_region 1 with(fail)
 refine dI fun W1 hW1=>?_
 obtain⟨hb1,k1,k2,hz1⟩:=rY hW1
 obtain⟨c1,f1,l1'⟩:=af k1
 obtain⟨c2',f2',l2'⟩:=af k2
 have HB1:=ae hb1
 clear hb1 hW1 k1 k2
 go_region
 all_goals
  go_upto_region 2 with(fail)
  refine dI fun W2 hW2=>?_
  obtain⟨hb2,k5,k6,hz2⟩:=Gh hW2
  rw[hz1] at hz2
  rw[hz1] at k5 k6
  have HB2:=ae (aW HB1.o hb2)
  have HK:=ae (ag k5 k6)
  obtain⟨c5,f5,l5⟩:=af k5
  obtain⟨c6,f6,l6⟩:=af k6
  clear hW2 c1 f1 l1' c2' f2' l2' hb2 k5 k6
  go_wp2_with fail
  go_loopw [7] (fun i wr=> ∃k:Nat,k<=(T).length/\i= .int .i64 k/\Below W2.heap.size W2 wr) (fun i _=>(T).length-(intOf i).toNat)
  case atStart=>exact⟨0,bQ _,rfl,aG _ _⟩
  case round=>
   obtain⟨k,hk,rfl,hB⟩:=hrel
   obtain⟨c7,f7,l7⟩:=af ((hB.block _ l5).trans HK.o.1)
   obtain⟨c8,f8,l8⟩:=af ((hB.block _ l6).trans HK.o.2)
   by_cases hlt:k<(T).length
   ·obtain⟨g1,o1,e1,r1,x1,x2,x3,x4,x5⟩:=dM.cell (HH.o.1.below (aW HB2.o hB) (ai _)) hlt
    obtain⟨g2,o2,e2,r2,y1,y2,y3,y4,y5⟩:=dM.cell (HH.o.2.below (aW HB2.o hB) (ai _)) hlt
    generalize (T)[k]=x at*
    have HX:=ae hB
    have wB:(k:Int)<(T).length:=by omega
    cases e1
    cases e2
    clear hB
    go_wp2_with fail
    go_region
    all_goals go_wp2_with fail
    all_goals go_roundw
    all_goals first
     |exact⟨k+1,by omega,by go_num,iC HX.o⟩
     |(simp[intOf];omega)
   ·skip
    have HZ:=ae (aW HB2.o hB)
    have hkl:k=(T).length:=by omega
    clear hB
    go_wp2_with fail
    go_returns
    exact⟨rfl,HZ.o⟩
theorem zf (l m:aQ) (tv nv sv mv:Value) (w:World) (hn:bg w nv l.notes) (hm:bg w mv m.notes) (hr:m.rate=l.rate) (hb:m.box=l.box) (he:m.notes=l.notes):
 Calls Tryz.prog 22 #[lv l tv nv,lv m sv mv] w (PV (.bool true) w):=by
 obtain⟨f,rt,⟨b0,b1⟩,N⟩:=l
 obtain⟨f2,rt2,bx2,N2⟩:=m
 simp only at hr hb he hn hm
 subst hr hb he
 obtain⟨no,nc,rfl⟩:=aN.open hn
 obtain⟨mo,mc,rfl⟩:=aN.open hm
 have hl:=hn.len
 have HH:=ae (ag hn hm)
 clear hn hm
 go_enter Tryz.func22,Tryz.ntmps22
 go_upto_region 1 with(fail)
 refine dI fun W1 hW1=>?_
 obtain⟨hb1,k1,k2,hz1⟩:=rY hW1
 obtain⟨c1,f1,l1⟩:=af k1
 obtain⟨c2,f2',l2⟩:=af k2
 have HB1:=ae hb1
 have HK:=ae (ag k1 k2)
 clear hb1 hW1 k1 k2
 go_wp2_with fail
 go_loopw [5] (fun i wr=> ∃k:Nat,k<=(N2).length/\i= .int .i64 k/\Below W1.heap.size W1 wr) (fun i _=>(N2).length-(intOf i).toNat)
 case atStart=>exact⟨0,bQ _,rfl,aG _ _⟩
 case round=>
  obtain⟨k,hk,rfl,hB⟩:=hrel
  obtain⟨c7,f7,l7⟩:=af ((hB.block _ l1).trans HK.o.1)
  obtain⟨c8,f8,l8⟩:=af ((hB.block _ l2).trans HK.o.2)
  by_cases hlt:k<(N2).length
  ·obtain⟨g1,o1,e1,r1,x1,x2,x3⟩:=bg.cell (HH.o.1.below (aW HB1.o hB) (ai _)) hlt
   obtain⟨g2,o2,e2,r2,y1,y2,y3⟩:=bg.cell (HH.o.2.below (aW HB1.o hB) (ai _)) hlt
   generalize (N2)[k]=x at*
   have HX:=ae hB
   have wB:(k:Int)<(N2).length:=by omega
   cases e1
   cases e2
   clear hB
   go_wp2_with fail
   go_region
   all_goals go_wp2_with fail
   all_goals go_roundw
   all_goals first
    |exact⟨k+1,by omega,by go_num,iC HX.o⟩
    |(simp[intOf];omega)
  ·skip
   have HZ:=ae (aW HB1.o hB)
   have hkl:k=(N2).length:=by omega
   clear hB
   go_wp2_with fail
   go_returns
   exact⟨rfl,HZ.o⟩
theorem KF (h:dh) (wv tv xv uv' sv yv:Value) (w:World) (hw:bJ w wv h.bU) (ht:aP w tv h.turns) (hx:bg w xv h.readings) (hu:bJ w uv' h.bU) (hs:aP w sv h.turns) (hy:bg w yv h.readings):
 Calls Tryz.prog 23 #[jI.hv h wv tv xv,jI.hv h uv' sv yv] w (PV (.bool true) w):=by
 obtain⟨la,si,co,di,bu,⟨s0,s1⟩,bU,Ac,Ak⟩:=h
 simp only at hw ht hx hu hs hy
 obtain⟨wo,wc,rfl⟩:=aN.open hw
 obtain⟨tO,tc,rfl⟩:=aN.open ht
 obtain⟨xo,xc,rfl⟩:=aN.open hx
 obtain⟨uo,uc,rfl⟩:=aN.open hu
 obtain⟨so,sc,rfl⟩:=aN.open hs
 obtain⟨yo,yc,rfl⟩:=aN.open hy
 have hlw:=hw.len
 have hlx:=hx.len
 have HH:=ae (ag hw (ag hu (ag hx (ag hy (ag ht hs)))))
 clear hw ht hx hu hs hy
 go_enter Tryz.func23,Tryz.ntmps23
 go_upto_region 1 with(fail)
 refine dI fun W1 hW1=>?_
 obtain⟨hb1,k1,k2,hz1⟩:=rY hW1
 obtain⟨c1,f1,l1⟩:=af k1
 obtain⟨c2,f2',l2⟩:=af k2
 have HB1:=ae hb1
 have HK:=ae (ag k1 k2)
 clear hb1 hW1 k1 k2
 go_wp2_with fail
 refine(Aw Ac _ _ W1 (HH.o.2.2.2.2.1.below HB1.o (ai _)) (HH.o.2.2.2.2.2.below HB1.o (ai _))).mono ?_
 rintro e W2 ⟨rfl,hb2⟩
 have k5:=(hb2.block _ l1).trans HK.o.1
 have k6:=(hb2.block _ l2).trans HK.o.2
 obtain⟨c5,f5,l5⟩:=af k5
 obtain⟨c6,f6,l6⟩:=af k6
 have HB2:=ae (aW HB1.o hb2)
 have Lp:=ae (ag k5 k6)
 clear hb2 k5 k6 c1 f1 c2 f2'
 go_wp2_with fail
 go_loopw [5] (fun i wr=> ∃k:Nat,k<=(bU).length/\i= .int .i64 k/\Below W2.heap.size W2 wr) (fun i _=>(bU).length-(intOf i).toNat)
 case atStart=>exact⟨0,bQ _,rfl,aG _ _⟩
 case round=>
  obtain⟨k,hk,rfl,hB⟩:=hrel
  obtain⟨c7,f7,l7⟩:=af ((hB.block _ l5).trans Lp.o.1)
  obtain⟨c8,f8,l8⟩:=af ((hB.block _ l6).trans Lp.o.2)
  by_cases hlt:k<(bU).length
  ·obtain⟨g1,o1,e1,r1,x1,x2⟩:=bJ.cell (HH.o.1.below (aW HB2.o hB) (ai _)) hlt
   obtain⟨g2,o2,e2,r2,y1,y2⟩:=bJ.cell (HH.o.2.1.below (aW HB2.o hB) (ai _)) hlt
   generalize (bU)[k]=x at*
   have HX:=ae hB
   have wB:(k:Int)<(bU).length:=by omega
   cases e1
   cases e2
   clear hB
   go_wp2_with fail
   go_region
   all_goals go_wp2_with fail
   all_goals go_roundw
   all_goals first
    |exact⟨k+1,by omega,by go_num,iC HX.o⟩
    |(simp[intOf];omega)
  ·have k9:=(hB.block _ l5).trans Lp.o.1
   have k10:=(hB.block _ l6).trans Lp.o.2
   have HB3:=ae (aW HB2.o hB)
   generalize wr=W3 at*
   have Dh:=ae (ag k9 k10)
   clear hB k9 k10
   go_wp2_with fail
   go_loopw [6] (fun i wr=> ∃k:Nat,k<=(Ak).length/\i= .int .i64 k/\Below W3.heap.size W3 wr) (fun i _=>(Ak).length-(intOf i).toNat)
   case atStart=>exact⟨0,bQ _,rfl,aG _ _⟩
   case round=>
    obtain⟨k,hk,rfl,hB⟩:=hrel
    obtain⟨c7,f7,l7⟩:=af ((hB.block _ l7).trans Dh.o.1)
    obtain⟨c8,f8,l8⟩:=af ((hB.block _ l8).trans Dh.o.2)
    by_cases hlt:k<(Ak).length
    ·obtain⟨g1,o1,e1,r1,x1,x2,x3⟩:=bg.cell (HH.o.2.2.1.below (aW HB3.o hB) (ai _)) hlt
     obtain⟨g2,o2,e2,r2,y1,y2,y3⟩:=bg.cell (HH.o.2.2.2.1.below (aW HB3.o hB) (ai _)) hlt
     generalize (Ak)[k]=x at*
     have HX:=ae hB
     have wB:(k:Int)<(Ak).length:=by omega
     cases e1
     cases e2
     clear hB
     go_wp2_with fail
     go_region
     all_goals go_wp2_with fail
     all_goals go_roundw
     all_goals first
      |exact⟨k+1,by omega,by go_num,iC HX.o⟩
      |(simp[intOf];omega)
    ·skip
     have HZ:=ae (aW HB3.o hB)
     have hkl:k=(Ak).length:=by omega
     clear hB
     go_wp2_with fail
     go_returns
     exact⟨rfl,HZ.o⟩
end Go.Proofs.YthbpmepjmebolaaGreatDoor.Bk
end
section
namespace Go.Proofs.YthbpmepjmebolaaGreatDoor.Bk
open Go.RowKit Go.RG Go.SL Go.Shelf jv Go.TB Go.Proofs.YthbpmepjmebolaaGreatDoor.zS
theorem Ti (ls:List aH) (v:Value) (w:World) (hv:iw w v ls):Calls Tryz.prog 28 #[v] w (PV (iv (ed ls)) w):=by
 have hlen:=hv.len
 obtain⟨o,c,rfl⟩:=aN.open hv
 have HV:=ae hv
 clear hv
 by_cases h40:40<ls.length
 ·have alv:(40:Int)<ls.length:=by omega
  have HR:Hid (ed ls=3):=ae (by unfold ed;rw[aF (.inl h40)])
  go_enter Tryz.func28,Tryz.ntmps28
  go_wp2_with fail
  go_returns
  exact⟨by rw[HR.o];simp,aG _ _⟩
 ·have alv: ¬(40:Int)<ls.length:=by omega
  go_enter Tryz.func28,Tryz.ntmps28
  go_wp2_with fail
  go_loopw [3] (fun i wr=> ∃k:Nat,k<=ls.length/\i= .int .i64 k/\(∀j (h:j<ls.length),j<k->ls[j].length<=60)/\Below w.heap.size w wr) (fun i _=>ls.length-(intOf i).toNat)
  case atStart=>exact⟨0,bQ _,rfl,fun j _ hj=>by omega,aG _ _⟩
  case round=>
   obtain⟨k,hk,rfl,hno,hB⟩:=hrel
   by_cases hlt:k<ls.length
   ·obtain⟨b,off,rfl,hb,hc0⟩:=iw.cell (aN.below HV.o hB (ai _)) hlt
    have HN:=ae hno
    have HB:=ae hB
    have HK:=ae (fun h=>hno k hlt h)
    obtain⟨x,hx⟩: ∃x,ls[k]=x:=⟨_,rfl⟩
    rw[hx] at hc0
    have hs:(fD x).size=x.length:=pg x
    have HX:=ae hx
    clear hno hB hx
    by_cases h60:x.length<=60
    ·have ae6: ¬(60:Int)<x.length:=by omega
     go_wp2_with fail
     go_roundw
     case rel=>exact⟨k+1,by omega,by go_num,fun j h hj=>(by by_cases e:j=k;(subst e;rw[HX.o];exact h60);exact HN.o j h (by omega)),HB.o⟩
     case measure=>simp[intOf];omega
    ·have ae6:(60:Int)<x.length:=by omega
     go_wp2_with fail
     go_returns
     refine⟨?_,HB.o⟩
     have:ed ls=3:=by
      unfold ed
      rw[aF (.inr (List.any_eq_true.2 ⟨x,by rw[<-HX.o];exact cZ _,by simp;omega⟩))]
     rw[this]
     simp
   ·have hkl:k=ls.length:=by omega
    have HN:=ae hno
    have HB:=ae hB
    clear hno hB
    go_wp2_with fail
    go_returns
    refine⟨?_,HB.o⟩
    have:ed ls=0:=by
     unfold ed
     rw[ak]
     simp only[not_or,Bool.not_eq_true]
     refine⟨h40,List.any_eq_false.2 fun x hx=>?_⟩
     obtain⟨j,hj,rfl⟩:=mG hx
     have:=HN.o j hj (by omega)
     simp;omega
    rw[this]
    simp
def JG (ls:List aH):Bool:=decide (ls.length<=45)&&ls.all fun x=>decide (x.length<=80)
theorem vS {ls:List aH}:JG ls=true↔ls.length<=45/\ ∀x∈ls,x.length<=80:=by
 unfold JG
 rw[fH,fB,jR]
 exact⟨fun h=>⟨h.1,fun x hx=>of_decide_eq_true (h.2 x hx)⟩,fun h=>⟨h.1,fun x hx=>decide_eq_true (h.2 x hx)⟩⟩
theorem abu (ls:List aH) (v:Value) (w:World) (hv:iw w v ls):Calls Tryz.prog 27 #[v] w (PV (.bool (JG ls)) w):=by
 have hlen:=hv.len
 obtain⟨o,c,rfl⟩:=aN.open hv
 have HV:=ae hv
 clear hv
 obtain⟨q,hq⟩: ∃q,JG ls=q:=⟨_,rfl⟩
 rw[hq]
 have HQ:=ae hq
 clear hq
 go_enter Tryz.func27,Tryz.ntmps27
 go_wp2_with fail
 go_loopw [3] (fun i wr=> ∃k:Nat,k<=ls.length/\k<=46/\i= .int .i64 k/\(∀j (h:j<ls.length),j<k->ls[j].length<=80)/\Below w.heap.size w wr) (fun i _=>ls.length-(intOf i).toNat)
 case atStart=>exact⟨0,bQ _,bQ _,rfl,fun j _ hj=>by omega,aG _ _⟩
 case round=>
  obtain⟨k,hk,h46,rfl,hno,hB⟩:=hrel
  have HB:=ae hB
  have HN:=ae hno
  by_cases hlt:k<ls.length
  ·by_cases api:k<46
   ·have ahj:(k:Int)<46:=by omega
    obtain⟨b,off,rfl,hb,hc0⟩:=iw.cell (aN.below HV.o hB (ai _)) hlt
    obtain⟨x,hx⟩: ∃x,ls[k]=x:=⟨_,rfl⟩
    rw[hx] at hc0
    have hs:(fD x).size=x.length:=pg x
    have HX:=ae hx
    clear hno hB hx
    by_cases h60:x.length<=80
    ·have ae6: ¬(80:Int)<x.length:=by omega
     go_wp2_with fail
     go_roundw
     case rel=>exact⟨k+1,by omega,by omega,by go_num,fun j h hj=>(by by_cases e:j=k;(subst e;rw[HX.o];exact h60);exact HN.o j h (by omega)),HB.o⟩
     case measure=>simp[intOf];omega
    ·have ae6:(80:Int)<x.length:=by omega
     have hq0:q=false:=by
      rw[<-HQ.o,Bool.eq_false_iff]
      intro h
      exact h60 ((vS.1 h).2 x (by rw[<-HX.o];exact cZ _))
     subst hq0
     go_wp2_with fail
     go_returns
     exact⟨by simp,HB.o⟩
   ·have ahj: ¬(k:Int)<46:=by omega
    have hq0:q=false:=by
     rw[<-HQ.o,Bool.eq_false_iff]
     intro h
     have:=(vS.1 h).1
     omega
    have h45: ¬(ls.length:Int)<=45:=by omega
    subst hq0
    clear hno hB
    go_wp2_with fail
    go_returns
    exact⟨by simp,HB.o⟩
  ·have hkl:k=ls.length:=by omega
   clear hno hB
   by_cases h45:ls.length<=45
   ·have alu:(ls.length:Int)<=45:=by omega
    have hq1:q=true:=by
     rw[<-HQ.o]
     refine vS.2 ⟨h45,fun x hx=>?_⟩
     obtain⟨j,hj,rfl⟩:=mG hx
     exact HN.o j hj (by omega)
    subst hq1
    go_wp2_with fail
    go_returns
    exact⟨by simp,HB.o⟩
   ·have alu: ¬(ls.length:Int)<=45:=by omega
    have hq0:q=false:=by
     rw[<-HQ.o,Bool.eq_false_iff]
     intro h
     exact h45 (vS.1 h).1
    subst hq0
    go_wp2_with fail
    go_returns
    exact⟨by simp,HB.o⟩
theorem Bj: ∀l:aH,dB (l++[32])=dB l++[[]]:=by
 intro l
 induction l with
 |nil=>rfl
 |cons c l ih=>
  rw[List.cons_append,dB,dB,ih]
  split
  ·rfl
  ·cases hw:dB l with
   |nil=>exact absurd hw (kU l)
   |cons x y=>rfl
theorem N9 {c:UInt8} (hc:c≠32): ∀(l:aH) (A:List aH) (x:aH),dB l=A++[x]->dB (l++[c])=A++[x++[c]]:=by
 intro l
 induction l with
 |nil=>
  intro A x h
  have h1:A=[]/\x=[]:=by
   cases A with
   |nil=>simpa [dB] using h
   |cons a A=>simp[dB] at h
  obtain⟨rfl,rfl⟩:=h1
  show dB [c]=[[c]]
  simp[dB,hc]
 |cons d l ih=>
  intro A x h
  rw[List.cons_append,dB]
  rw[dB] at h
  split at h
  ·rename_i hd
   rw[aF hd]
   cases A with
   |nil=>
    simp only[List.nil_append,List.cons.injEq] at h
    exact absurd h.2 (kU l)
   |cons a A=>
    simp only[List.cons_append,List.cons.injEq] at h
    rw[ih A x h.2, <-h.1]
    rfl
  ·rename_i hd
   rw[ak hd]
   cases hw:dB l with
   |nil=>exact absurd hw (kU l)
   |cons y ys=>
    rw[hw] at h
    simp only[List.headD_cons,List.tail_cons] at h
    cases A with
    |nil=>
     simp only[List.nil_append,List.cons.injEq] at h
     obtain⟨rfl,hys⟩:=h
     rw[ih [] y (by rw[hw,hys];rfl)]
     rfl
    |cons a A=>
     simp only[List.cons_append,List.cons.injEq] at h
     obtain⟨rfl,hys⟩:=h
     rw[ih (y::A) x (by rw[hw,hys];rfl)]
     rfl
theorem JH:iU Tryz.prog 22 9 (.string ⟨#[]⟩) 1 16:=⟨Tryz.underlying22,by kernel_rfl,rfl,by omega⟩
theorem Vl (s:ByteArray): ∀u∈[Value.string s],u.oneCell'=true:=fun u hu=>by obtain rfl:=fK.1 hu;rfl
def adg (ps:List aH) (w:World) (e:Ending) (w':World):Prop:= ∃v,e= .returned v/\w'.ownsRow w.heap.size 9 1 v ps.length (bM ps)/\Below w.heap.size w w'
theorem Gf: ∀l:aH,(dB l).length<=l.length+1:=by
 intro l
 induction l with
 |nil=>simp[dB]
 |cons c l ih=>
  rw[dB]
  split
  ·simpa using ih
  ·cases hw:dB l with
   |nil=>exact absurd hw (kU l)
   |cons x y=>rw[hw] at ih;simp at ih⊢;omega
theorem Am (l:aH) (w:World) (hl:l.length<=1000):Calls Tryz.prog 20 #[.string (fD l)] w (adg (dB l) w):=by
 have hsz:=pg l
 have hcut: ∀(a b:Nat),(fD l).extract a b=fD ((l.take b).drop a):=fun a b=>abd l a b
 go_enter Tryz.func20,Tryz.ntmps20
 go_wp2_with fail
 go_loopw [3,4,5] (fun v f i wr=> ∃(i' f':Nat) (out:List aH) (o:Option Addr) (c:Nat),i'<=l.length/\f'<=i'/\i= .int .i64 i'/\f= .int .i64 f'/\v= .slice o out.length c/\dB (l.take i')=out++[(l.take i').drop f']/\
  wr.ownsRow w.heap.size 9 1 (.slice o out.length c) out.length (bM out)/\Below w.heap.size w wr) (fun _ _ i _=>l.length-(intOf i).toNat)
 case atStart=>exact⟨0,0,[],none,0,bQ _,ai _,rfl,rfl,rfl,rfl,⟨rfl,.inl ⟨rfl,rfl⟩⟩,aG _ _⟩
 case round=>
  obtain⟨i,f,out,o,c,hi,hf,rfl,rfl,rfl,hw,ho,hB⟩:=hrel
  have hol:out.length<=1001:=by
   have:=Gf (l.take i)
   rw[hw] at this
   simp at this
   omega
  have HX:=ae (ag hw (ag ho hB))
  have hsB:=hB.size
  clear hw ho hB
  by_cases hlt:i<l.length
  ·obtain⟨x,hx⟩: ∃x,l[i]=x:=⟨_,rfl⟩
   have hgx:(fD l)[i]'(by rw[hsz];exact hlt)=x:=hx
   have htk:l.take (i+1)=l.take i++[x]:=by rw[iE hlt,hx]
   have UW:=ae htk
   clear htk hx
   by_cases h32:x=32
   ·subst h32
    go_wp2_with (at_builtin;go_loud (refine dV rfl _ _ JH rfl w.heap.size (.slice o out.length c) out.length (bM out) rfl (aB (Ms:=[]) HX.o.2.1 (Ext.aA (aj (aG _ _) _)) (by simp)) (.slice (some ⟨wr.heap.size,0,none⟩) 1 1) 1 [.string (fD ((l.take i).drop f))] rfl (aN.dw 1 1 (ax _ _) rfl (by decide)) (Vl _) (by omega) (by omega) (by simp;omega) ?_))
    intro v' Wc hown hgr hcase
    obtain⟨Vk,O0,rfl⟩:=aS hown
    have hwB:Below wr.heap.size wr (wr.alloc (.cells #[.string (fD ((l.take i).drop f))] 9)):=aj (aG _ _) _
    have HY:=ae (ag hown (Below.grown (aW HX.o.2.2 hwB) hgr (by have:=hwB.size;omega) (fun g e=>(bH HX.o.2.1 g e).1)))
    clear hown hgr hcase hwB
    go_wp2_with fail
    go_roundw
    case rel=>
     refine⟨i+1,i+1,out++[(l.take i).drop f],Vk,O0,by omega,by omega,by go_num,by go_num,by simp,?_,?_,HY.o.2⟩
     ·rw[UW.o,Bj,HX.o.1]
      simp
      omega
     ·have:=HY.o.1
      simpa [bM] using this
    case measure=>simp[intOf];omega
   ·have hne: ¬((x.toNat:Int)=32):=by
     intro h
     exact h32 (UInt8.toNat_inj.1 (by rw[show(32:UInt8).toNat=32 from rfl];omega))
    go_wp2_with fail
    go_roundw
    case rel=>
     refine⟨i+1,f,out,o,c,by omega,by omega,by go_num,rfl,rfl,?_,HX.o.2.1,HX.o.2.2⟩
     rw[UW.o,N9 h32 _ out ((l.take i).drop f) HX.o.1]
     congr 2
     rw[List.drop_append_of_le_length (by simp;omega)]
    case measure=>simp[intOf];omega
  ·have hil:i=l.length:=by omega
   subst hil
   have HW:=ae HX.o.1
   rw[List.take_length] at HW
   have HL:=ae (show(l.take l.length).drop f=l.drop f by rw[List.take_length])
   go_wp2_with (at_builtin;go_loud (refine dV rfl _ _ JH rfl w.heap.size (.slice o out.length c) out.length (bM out) rfl (aB (Ms:=[]) HX.o.2.1 (Ext.aA (aj (aG _ _) _)) (by simp)) (.slice (some ⟨wr.heap.size,0,none⟩) 1 1) 1 [.string (fD (l.drop f))] (by rfl) (aN.dw 1 1 (ax _ _) rfl (by decide)) (Vl _) (by omega) (by omega) (by simp;omega) ?_))
   intro v' Wc hown hgr hcase
   obtain⟨Vk,O0,rfl⟩:=aS hown
   have hwB:Below wr.heap.size wr (wr.alloc (.cells #[.string (fD (l.drop f))] 9)):=aj (aG _ _) _
   have HY:=ae (ag hown (Below.grown (aW HX.o.2.2 hwB) hgr (by have:=hwB.size;omega) (fun g e=>(bH HX.o.2.1 g e).1)))
   clear hown hgr hcase hwB
   go_wp2_with fail
   go_returns
   refine⟨.slice Vk (out.length+1) O0,by simp,?_,HY.o.2⟩
   rw[HW.o]
   have:=HY.o.1
   simpa [bM] using this
end Go.Proofs.YthbpmepjmebolaaGreatDoor.Bk
end
section
namespace Go.Proofs.YthbpmepjmebolaaGreatDoor.Bk
open Go.Lib Go.RowKit Go.RG Go.SL Go.Shelf jv Go.TB Go.Proofs.YthbpmepjmebolaaGreatDoor.zS
theorem Bq (ls:List aH): ∀u∈bM ls,u.oneCell'=true:=fun u hu=>by
 obtain⟨x,_,rfl⟩:=jd.1 hu
 rfl
def QW (ls:List aH) (w:World) (e:Ending) (w':World):Prop:= ∃o c,e= .returned (.slice o ls.length c)/\w'.ownsRow w.heap.size 9 1 (.slice o ls.length c) ls.length (bM ls)/\Below w.heap.size w w'
theorem wV (ls:List aH) (v:Value) (w:World) (hv:iw w v ls) (hl:ls.length*16<=140737488355328):Calls Tryz.prog 14 #[v] w (QW ls w):=by
 obtain⟨lo,lc,rfl⟩:=aN.open hv
 have HV:=ae hv
 clear hv
 go_enter Tryz.func14,Tryz.ntmps14
 go_wp2_with (at_builtin;go_loud (refine dV rfl _ _ JH rfl w.heap.size (.slice (some ⟨w.heap.size,0,none⟩) 0 0) 0 [] rfl (iQ (cs:= #[]) (n:=0) (ax _ _) rfl (ai _) (by decide)) (.slice lo ls.length lc) (ls).length (bM (ls)) rfl (aN.alloc (HV.o) _) (Bq (ls)) (by omega) (by omega) (by simp) ?_))
 intro v' W2 hown hgr _
 (try rw[Nat.zero_add] at hown)
 (try rw[List.nil_append] at hown)
 obtain⟨o2,c2,rfl⟩:=aS hown
 have hB2:Below w.heap.size w W2:=Below.grown (aj (aG _ _) _) hgr (by simp) (fun g e=>by simp[Value.ownBlock] at e;omega)
 have HC2:=ae (ag hB2 hown)
 have hz2:=hB2.size
 clear hown hgr hB2
 go_wp2_with fail
 go_returns
 exact⟨_,_,rfl,HC2.o.2,HC2.o.1⟩
theorem NZ (ls:List aH) (v:Value) (w:World) (hv:iw w v ls) (hl:ls.length<=1000):Calls Tryz.prog 31 #[v] w (QW (jW++ls) w):=by
 obtain⟨lo,lc,rfl⟩:=aN.open hv
 have HV:=ae hv
 clear hv
 have ahc:jW.length=13:=rfl
 have HYL:Hid ((jW++ls).length=13+ls.length):=ae (by rw[dD,ahc])
 have HYC:Hid (bM jW++bM ls=bM (jW++ls)):=ae (by simp[bM])
 clear ahc
 go_enter Tryz.func31,Tryz.ntmps31
 go_wp2_with (at_builtin;go_loud (refine dV rfl _ _ JH rfl w.heap.size (.slice (some ⟨w.heap.size,0,none⟩) 13 13) 13 (bM jW) rfl (iQ (cs:=(bM jW).toArray) (n:=13) (ax _ _) rfl (ai _) (by decide)) (.slice lo ls.length lc) ls.length (bM ls) rfl (aN.alloc HV.o _) (Bq ls) (by omega) (by omega) (by simp) ?_))
 intro v' W2 hown hgr _
 rw[HYC.o] at hown
 obtain⟨o2,c2,rfl⟩:=aS hown
 have hB2:Below w.heap.size w W2:=Below.grown (aj (aG _ _) _) hgr (by simp) (fun g e=>by simp[Value.ownBlock] at e;omega)
 have HC2:=ae (ag hB2 hown)
 clear hown hgr hB2
 go_wp2_with fail
 go_returns
 unfold QW
 rw[HYL.o]
 exact⟨_,_,rfl,HC2.o.2,HC2.o.1⟩
end Go.Proofs.YthbpmepjmebolaaGreatDoor.Bk
end
section
namespace Go.Proofs.YthbpmepjmebolaaGreatDoor.Bk
open Go.RowKit Go.RG Go.SL Go.Shelf jv Go.TB Go.Proofs.YthbpmepjmebolaaGreatDoor.zS
theorem Ik: ∀(i n:Nat),xn n (i+1)=KT (n/10^i%10)::xn n i:=by
 intro i
 induction i with
 |zero=>intro n;simp[xn]
 |succ i ih=>
  intro n
  rw[xn,ih (n/10),show xn n (i+1)=xn (n/10) i++[KT (n%10)] from rfl,Nat.div_div_eq_div_mul, <-Nat.pow_succ',List.cons_append]
def dv (k:Nat):Value:= .int .u8 ((48+k:Nat):Int)
theorem VH {k:Nat} (h:k<10):dv k=uv (KT k):=by unfold dv uv;rw[uU h]
theorem Ou (n:Nat) (hn:n<1000000) (w:World):Calls Tryz.prog 173 #[iv n] w (PV (.agg (Lib.byteCells (xn n 4)).toArray) w):=by
 obtain⟨d0,hd0⟩: ∃d,n%10=d:=⟨_,rfl⟩
 obtain⟨d1,hd1⟩: ∃d,n/10%10=d:=⟨_,rfl⟩
 obtain⟨d2,hd2⟩: ∃d,n/10/10%10=d:=⟨_,rfl⟩
 obtain⟨d3,hd3⟩: ∃d,n/10/10/10%10=d:=⟨_,rfl⟩
 have b0:d0<10:=by omega
 have b1:d1<10:=by omega
 have b2:d2<10:=by omega
 have b3:d3<10:=by omega
 have HD:Hid (xn n 4=[KT d3,KT d2,KT d1,KT d0]):=ae (by simp[xn,hd0,hd1,hd2,hd3])
 obtain⟨n1,hn1⟩: ∃m,n/10=m:=⟨_,rfl⟩
 rw[hn1] at hd1 hd2 hd3
 obtain⟨n2,hn2⟩: ∃m,n1/10=m:=⟨_,rfl⟩
 rw[hn2] at hd2 hd3
 obtain⟨n3,hn3⟩: ∃m,n2/10=m:=⟨_,rfl⟩
 rw[hn3] at hd3
 obtain⟨n4,hn4⟩: ∃m,n3/10=m:=⟨_,rfl⟩
 have q0:(n:Int)%10=d0:=by omega
 have q1:(n1:Int)%10=d1:=by omega
 have q2:(n2:Int)%10=d2:=by omega
 have q3:(n3:Int)%10=d3:=by omega
 have r0:(n:Int)/10=n1:=by omega
 have r1:(n1:Int)/10=n2:=by omega
 have r2:(n2:Int)/10=n3:=by omega
 have r3:(n3:Int)/10=n4:=by omega
 clear hd0 hd1 hd2 hd3 hn1 hn2 hn3 hn4
 go_enter Tryz.func173,Tryz.ntmps173
 go_wp2_with fail
 go_loopw [0,4] (fun s u wr=>Below w.heap.size w wr/\((s=iv n/\u=iv 0/\wr.heap[w.heap.size]? =some (.cells #[.int .u8 0,.int .u8 0,.int .u8 0,.int .u8 0] 264 (0,0)))∨
  (s=iv n1/\u=iv 1/\wr.heap[w.heap.size]? =some (.cells #[.int .u8 0,.int .u8 0,.int .u8 0,dv d0] 264 (0,0)))∨
  (s=iv n2/\u=iv 2/\wr.heap[w.heap.size]? =some (.cells #[.int .u8 0,.int .u8 0,dv d1,dv d0] 264 (0,0)))∨
  (s=iv n3/\u=iv 3/\wr.heap[w.heap.size]? =some (.cells #[.int .u8 0,dv d2,dv d1,dv d0] 264 (0,0)))∨
  (s=iv n4/\u=iv 4/\wr.heap[w.heap.size]? =some (.cells #[dv d3,dv d2,dv d1,dv d0] 264 (0,0))))) (fun _ u _=>4-(intOf u).toNat)
 case atStart=>exact⟨aj (aG _ _) _,.inl ⟨rfl,rfl,ax _ _⟩⟩
 case round=>
  obtain⟨hB,hc⟩:=hrel
  rcases hc with⟨rfl,rfl,hk⟩|⟨rfl,rfl,hk⟩|⟨rfl,rfl,hk⟩|⟨rfl,rfl,hk⟩|⟨rfl,rfl,hk⟩
  ·obtain⟨c0,f0,l0⟩:=af hk
   have HX:=ae (ag hB hk)
   clear hB hk
   go_wp2_with fail
   exact⟨⟨iI HX.o.1 (ai _) _,.inr (.inl ⟨rfl,rfl,aJ HX.o.2 _⟩)⟩,by simp[intOf]⟩
  ·obtain⟨c0,f0,l0⟩:=af hk
   have HX:=ae (ag hB hk)
   clear hB hk
   go_wp2_with fail
   exact⟨⟨iI HX.o.1 (ai _) _,.inr (.inr (.inl ⟨rfl,rfl,aJ HX.o.2 _⟩))⟩,by simp[intOf]⟩
  ·obtain⟨c0,f0,l0⟩:=af hk
   have HX:=ae (ag hB hk)
   clear hB hk
   go_wp2_with fail
   exact⟨⟨iI HX.o.1 (ai _) _,.inr (.inr (.inr (.inl ⟨rfl,rfl,aJ HX.o.2 _⟩)))⟩,by simp[intOf]⟩
  ·obtain⟨c0,f0,l0⟩:=af hk
   have HX:=ae (ag hB hk)
   clear hB hk
   go_wp2_with fail
   exact⟨⟨iI HX.o.1 (ai _) _,.inr (.inr (.inr (.inr ⟨rfl,rfl,aJ HX.o.2 _⟩)))⟩,by simp[intOf]⟩
  ·obtain⟨c0,f0,l0⟩:=af hk
   have HX:=ae (ag hB hk)
   clear hB hk
   go_upto_region 7 with(fail)
   refine wp_region_lit ?_
   refine wpList_load_row rfl _ _ rfl w.heap.size rfl _ _ _ _ HX.o.2 Tryz.underlying264 rfl (by kernel_rfl) ?_
   simp only[zp]
   refine wpList_store_row rfl _ _ _ rfl w.heap.size #[dv d3,dv d2,dv d1,dv d0] (by as_aux_lemma=>kernel_rfl) (by as_aux_lemma=>kernel_rfl) _ _ HX.o.2 (by kernel_rfl) (by as_aux_lemma=>kernel_rfl) (by simp[dv,Value.oneCell']) ?_
   simp only[zp]
   refine jb fun W5 yH=>?_
   have PZ:Ext [w.heap.size] wr W5:=by rw[yH];exact dZ
   have hk5:W5.heap[w.heap.size]? =some (.cells #[dv d3,dv d2,dv d1,dv d0] 264 (0,0)):=by rw[yH];exact setRow_heap _ _ _ _ _ _ HX.o.2
   have H5:=ae (ag (gZ HX.o.1 PZ (ai _)) hk5)
   clear yH PZ hk5
   go_wp2_with fail
   refine bodyPost_ret (v:= .agg #[dv d3,dv d2,dv d1,dv d0]) ?_ rfl ?_
   ·have q1:=run_loadVar_row (P:=Tryz.prog) W5 w.heap.size 264 264 _ (0,0) _ H5.o.2 Tryz.underlying264 rfl (by kernel_rfl)
    simp[results,Tryz.results173,asAddr,q1]
   ·refine⟨?_,H5.o.1⟩
    rw[HD.o,VH b0,VH b1,VH b2,VH b3]
    rfl
theorem D8 (n:Nat): ∃a b c d,xn n 4=[a,b,c,d]:=by
 have h:=Qg 4 n
 match hq:xn n 4,h with
 |[a,b,c,d],_=>exact⟨a,b,c,d,rfl⟩
def Zl (i:Nat) (line:aH):List Value:=Lib.byteCells (58::58::10::xn (uf i line) 4)
abbrev z7:Array Value:= #[.int .u8 0,.int .u8 0,.int .u8 0,.int .u8 0,.int .u8 0,.int .u8 0,.int .u8 0]
theorem RJ (i:Nat) (line:aH) (w:World) (hi:i<=1000) (hl:line.length<=60):Calls Tryz.prog 172 #[iv i,.string (fD line)] w (PV (.agg (Zl i line).toArray) w):=by
 obtain⟨a,b,c,d,hd⟩:=D8 (uf i line)
 have HD:=ae hd
 have hcl:=X0 i line
 have HCK:=ae (fun W=>wF i line W hi hl)
 have YP:=ae (fun W=>Ou (uf i line) (by omega) W)
 unfold Zl
 rw[hd]
 have hQ:=HD
 clear hd HD
 generalize uf i line=k at*
 go_enter Tryz.func172,Tryz.ntmps172
 go_upto_region 1 with(fail)
 refine dI fun W1 hW1=>?_
 have hb1:Below w.heap.size w W1:=by rw[hW1];exact aj (aG _ _) _
 have hk1:W1.heap[w.heap.size]? =some (.cells z7 266 (0,0)):=by rw[hW1];exact ax _ _
 have hs1:w.heap.size<W1.heap.size:=by rw[hW1];simp
 have HB1:=ae hb1
 have VY:=ae hk1
 clear hW1 hb1 hk1
 go_wp2_with fail
 refine(HCK.o W1).mono ?_
 rintro e W2 ⟨rfl,hb⟩
 have hs2:=hb.size
 have HB2:=ae (aW HB1.o hb)
 have Lp:=ae ((hb.block _ hs1).trans VY.o)
 clear hb
 go_wp2_with fail
 refine(YP.o W2).mono ?_
 rintro e W3 ⟨he,hb⟩
 rw[hQ.o] at he
 subst he
 have hs3:=hb.size
 have HB3:=ae (aW HB2.o hb)
 have hk3:=(hb.block w.heap.size (by omega)).trans Lp.o
 clear hb
 rename_i hK
 refine hK _ _ ?_
 refine ay rfl (w':=W3) (.agg #[uv 58,uv 58,uv 10,uv a,uv b,uv c,uv d]) (by as_aux_lemma=>kernel_rfl) ?_
 simp only[zp]
 refine wpList_store_row rfl _ _ _ rfl w.heap.size #[uv 58,uv 58,uv 10,uv a,uv b,uv c,uv d] (by as_aux_lemma=>kernel_rfl) (by as_aux_lemma=>kernel_rfl) _ z7 hk3 (by kernel_rfl) (by as_aux_lemma=>kernel_rfl) (by simp[Value.oneCell']) ?_
 simp only[zp]
 refine jb fun W4 FY=>?_
 have VE:Ext [w.heap.size] W3 W4:=by rw[FY];exact dZ
 have hk4:W4.heap[w.heap.size]? =some (.cells #[uv 58,uv 58,uv 10,uv a,uv b,uv c,uv d] 266 (0,0)):=by rw[FY];exact setRow_heap _ _ _ _ _ _ hk3
 have H4:=ae (ag (gZ HB3.o VE (ai _)) hk4)
 clear FY VE hk4 hk3 hK
 go_wp2_with fail
 refine bodyPost_ret (v:= .agg #[uv 58,uv 58,uv 10,uv a,uv b,uv c,uv d]) ?_ rfl ?_
 ·have q1:=run_loadVar_row (P:=Tryz.prog) W4 w.heap.size 266 266 _ (0,0) _ H4.o.2 Tryz.underlying266 rfl (by kernel_rfl)
  simp[results,Tryz.results172,asAddr,q1]
 ·exact⟨rfl,H4.o.1⟩
theorem aN.cut {w:World} {o:Option Addr} {n c:Nat} {xs:List Value} (h:aN 1 w (.slice o n c) n xs) {l k:Nat} (hlk:l<=k) (hk:k<=n):aN 1 w (sliced o l k c 1) (k-l) ((xs.take k).drop l):=by
 obtain⟨hl,o',c',hv,h1,h2,h3,h4⟩:=h
 injection hv with e1 e2 e3
 subst e1 e3
 have hlen:xs.length=n:=by simpa using hl
 refine⟨by simp;omega,(if c=l then o else o.map (·.add (l*1))),c-l,rfl,by omega,by omega,fun ho=>?_,fun a ha=>?_⟩
 ·split at ho
  ·omega
  ·cases o with
   |none=>have:=h3 rfl;omega
   |some a=>cases ho
 ·split at ha
  ·rename_i hcl
   obtain⟨hs,hc⟩:=h4 a ha
   refine⟨hs,fun j u hj=>?_⟩
   have:(xs.take k).drop l=[]:=List.drop_eq_nil_of_le (by simp;omega)
   rw[this] at hj
   cases hj
  ·cases o with
   |none=>cases ha
   |some b=>
    obtain⟨hs,hc⟩:=h4 b rfl
    obtain⟨bb,off,sp⟩:=b
    simp only at hs hc
    subst hs
    simp only[Option.map_some,Option.some.injEq,Nat.mul_one] at ha
    rw[Addr.add_lit] at ha
    subst ha
    refine⟨rfl,fun j u hj=>?_⟩
    rw[List.getElem?_drop,List.getElem?_take] at hj
    split at hj
    ·have:=hc _ _ hj
     simpa [Nat.add_assoc] using this
    ·cases hj
theorem RP:iU Tryz.prog 83 5 (.int .u8 0) 1 1:=⟨Tryz.underlying83,by kernel_rfl,rfl,by omega⟩
end Go.Proofs.YthbpmepjmebolaaGreatDoor.Bk
end
section
namespace Go.Proofs.YthbpmepjmebolaaGreatDoor.Bk
open Go.Lib Go.RowKit Go.RG Go.SL Go.Shelf jv Go.TB Go.Proofs.YthbpmepjmebolaaGreatDoor.zS
theorem Gm {A B C cs:List Value} (h:B.length=cs.length):splice (A++(B++C)) A.length cs=A++(cs++C):=by
 unfold splice
 rw[uq (ai _),kN (ai _), <-h,List.drop_append]
 simp
theorem set_mid {A C:List Value} {x y:Value}:(A++(x::C)).set A.length y=A++(y::C):=by
 rw[qH _ _ (ai _),Nat.sub_self,List.set_cons_zero]
theorem OA {a b c d e f x y z:Value} {ln Z:List Value} (hZ:Z.length=ln.length+9):
 (splice ((splice ((splice Z 0 [a,b]).set 2 x) 3 ln).set (3+ln.length) y) (4+ln.length) [c,d,e,f]).set (8+ln.length) z=a::b::x::(ln++[y,c,d,e,f,z]):=by
 obtain⟨z0,z1,z2,Z1,y0,y1,y2,y3,y4,y5,rfl,h1⟩: ∃z0 z1 z2 Z1 y0 y1 y2 y3 y4 y5,Z=z0::z1::z2::(Z1++[y0,y1,y2,y3,y4,y5])/\Z1.length=ln.length:=by
  match Z,hZ with
  |z0::z1::z2::Z',hZ=>
   have hl:Z'.length=ln.length+6:=by simp at hZ;omega
   refine⟨z0,z1,z2,Z'.take ln.length,?_⟩
   have h6:(Z'.drop ln.length).length=6:=by rw[lK];omega
   match hq:Z'.drop ln.length,h6 with
   |[y0,y1,y2,y3,y4,y5],_=>exact⟨y0,y1,y2,y3,y4,y5,by rw[<-hq,List.take_append_drop],by rw[gu];omega⟩
 have s1:splice (z0::z1::z2::(Z1++[y0,y1,y2,y3,y4,y5])) 0 [a,b]=a::b::z2::(Z1++[y0,y1,y2,y3,y4,y5]):=rfl
 rw[s1]
 have s2:(a::b::z2::(Z1++[y0,y1,y2,y3,y4,y5])).set 2 x=[a,b,x]++(Z1++[y0,y1,y2,y3,y4,y5]):=rfl
 rw[s2,show(3:Nat)=[a,b,x].length from rfl,Gm h1]
 have s3:[a,b,x]++(ln++[y0,y1,y2,y3,y4,y5])=([a,b,x]++ln)++(y0::[y1,y2,y3,y4,y5]):=by simp
 rw[s3,show[a,b,x].length+ln.length=([a,b,x]++ln).length from by simp;omega,set_mid]
 have s4:([a,b,x]++ln)++(y::[y1,y2,y3,y4,y5])=([a,b,x]++ln++[y])++([y1,y2,y3,y4]++[y5]):=by simp
 rw[s4,show 4+ln.length=([a,b,x]++ln++[y]).length from by simp;omega,Gm (B:=[y1,y2,y3,y4]) (cs:=[c,d,e,f]) rfl]
 have s5:([a,b,x]++ln++[y])++([c,d,e,f]++[y5])=([a,b,x]++ln++[y,c,d,e,f])++(y5::[]):=by simp
 rw[s5,show 8+ln.length=([a,b,x]++ln++[y,c,d,e,f]).length from by simp;omega,set_mid]
 simp
theorem Um {W:World} {o:Option Addr} {n c:Nat} {l:aH} (h:aN 1 W (.slice o n c) n (Lib.byteCells l)):(convert 83 9 (.slice o n c)).run Tryz.prog W= .ok (.string (fD l)) W:=by
 obtain⟨hl,o',c',hv,h1,h2,h3,h4⟩:=h
 cases hv
 have hn:l.length=n:=by simpa [Lib.byteCells] using hl
 cases o with
 |none=>
  have:n=0:=by have:=h3 rfl;omega
  subst this
  obtain rfl:=kG hn
  rw[run_convert_bytes_nil W 83 5 Tryz.underlying83 Tryz.underlying5 _ _ 9 Tryz.underlying9]
  rfl
 |some a=>
  obtain⟨b,off,sp⟩:=a
  obtain⟨hs,hc⟩:=h4 _ rfl
  simp only at hs hc
  subst hs
  rw[run_convert_bytes_arg W 83 5 Tryz.underlying83 Tryz.underlying5 b off n c (l.map fun x=>(x.toNat:Int)) (by simpa using hn) (fun i hi=>by
   have hi':i<l.length:=by omega
   have:=hc i (.int .u8 (l[i].toNat:Int)) (by simp[Lib.byteCells,hi'])
   rw[this]
   simp[List.getD,hi']) 9 Tryz.underlying9]
  congr 1
  congr 1
  simp only[strOfNums,fD]
  congr 1
  apply Array.ext
  ·simp
  ·intro j h1 h2
   simp
theorem abV {w W1:World} {A B:Array Value} {t u:TypeId} (h:W1=(w.alloc (.cells A t)).alloc (.cells B u)):
 Below w.heap.size w W1/\W1.heap[w.heap.size]? =some (.cells A t (0,0))/\W1.heap[w.heap.size+1]? =some (.cells B u (0,0))/\W1.heap.size=w.heap.size+2:=by
 subst h
 exact⟨aj (aj (aG _ _) _) _,(aX _ _ _ (by simp)).trans (ax _ _),eF _ _ _,by simp⟩
theorem row_step {W W':World} {g t5:Nat} {L X:List Value} {t:TypeId} {o:Obj} (h:W'=W.setRow g L.toArray) (hk:W.heap[g]? =some (.cells X.toArray t (0,0))) (hne:g≠t5) (h5:W.heap[t5]? =some o):
 W'.heap[t5]? =some o/\W'.heap[g]? =some (.cells L.toArray t (0,0))/\Below g W W':=by
 subst h
 exact⟨(setRow_other W g t5 _ (Ne.symm hne)).trans h5,setRow_heap W g _ _ t _ hk,below_setRow (aG _ _) (ai _) _⟩
theorem Ee {W W':World} {g t5 j:Nat} {v:Value} {X:List Value} {t:TypeId} {o:Obj} (h:W'=W.setCell ⟨g,j,none⟩ v) (hk:W.heap[g]? =some (.cells X.toArray t (0,0))) (hne:g≠t5) (h5:W.heap[t5]? =some o):
 W'.heap[t5]? =some o/\W'.heap[g]? =some (.cells (X.set j v).toArray t (0,0))/\Below g W W':=by
 subst h
 refine⟨(heap_setCell_other W ⟨g,j,none⟩ t5 v (Ne.symm hne)).trans h5,?_,(aG g W).setCell (p:=⟨g,j,none⟩) (ai _) v⟩
 rw[heap_setCell_same W g j _ t v hk,uj]
theorem Td (n:Nat) (hn:n<=1000) (W:World):
 (Instr.makeSlice 83 (iv n) (iv n)).run Tryz.prog W= .ok (.slice (some ⟨W.heap.size,0,none⟩) n n) (W.alloc (.cells (List.replicate n (Value.int .u8 0)).toArray 5)):=by
 obtain⟨i,hi,hz,hs,hby⟩:=info_parts RP.info
 have:=run_make (P:=Tryz.prog) W 83 5 i (.int .u8 0) RP.und hi hz .i64 .i64 n n (by omega) (Int.le_refl _) (by rw[hby];omega) (by omega)
 rw[this,hs]
 simp only[Int.toNat_natCast]
 congr 3
 apply Array.ext
 ·simp[madeCells]
 ·intro j h1 h2
  simp[madeCells,Value.cells]
  rw[Nat.mod_one]
  rfl
theorem Jl {n:Nat} {p q r s:UInt8} (h:xn n 4=[p,q,r,s]):xn n 2=[r,s]:=by
 rw[Ik 3,Ik 2] at h
 injection h with _ h
 injection h with _ h
def alM (i:Nat) (line:aH) (w:World) (e:Ending) (w':World):Prop:=
 Below w.heap.size w w'/\ ∃g n,n=9+line.length/\e= .returned (.slice (some ⟨g,0,none⟩) n n)/\w.heap.size<=g/\w'.heap[g]? =some (.cells (Lib.byteCells (nI i line)).toArray 5 (0,0))
theorem Sl (i:Nat) (line:aH) (w:World) (hi:i<=1000) (hl:line.length<=60):Calls Tryz.prog 106 #[iv i,.string (fD line)] w (alM i line w):=by
 obtain⟨a,b,c,d,hd⟩:=D8 (uf i line)
 obtain⟨p,q,r,s,hs⟩:=D8 line.length
 have HT:=RJ i line w hi hl
 have YP:=ae (fun W=>Ou line.length (by omega) W)
 unfold Zl at HT
 rw[hd] at HT
 rw[hs] at YP
 have hrec:Lib.byteCells (nI i line)=uv r::uv s::uv 58::(Lib.byteCells line++[uv 58,uv a,uv b,uv c,uv d,uv 10]):=by
  unfold nI
  rw[hd,Jl hs]
  simp[Lib.byteCells,uv]
 have hbl:(Lib.byteCells line).length=line.length:=by simp[Lib.byteCells]
 have hsz:=pg line
 obtain⟨c1,hc1⟩: ∃c,c=(58:UInt8):=⟨_,rfl⟩
 obtain⟨c3,hc3⟩: ∃c,c=(10:UInt8):=⟨_,rfl⟩
 rw[<-hc1, <-hc3] at HT hrec
 have HR:=ae hrec
 have HTT:Hid (Calls Tryz.prog 172 #[iv i,.string (fD line)] w (PV (.agg #[uv c1,uv c1,uv c3,uv a,uv b,uv c,uv d]) w)):=ae HT
 have HSW:Hid (∀W,Calls Tryz.prog 173 #[iv line.length] W (PV (.agg #[uv p,uv q,uv r,uv s]) W)):=ae YP.o
 have HBL:=ae hbl
 clear hd hs hrec hc1 hc3 HT hbl YP
 go_enter Tryz.func106,Tryz.ntmps106
 go_wp2_with fail
 refine HTT.o.mono ?_
 rintro e W1 ⟨rfl,hb1⟩
 have HB1:=ae hb1
 go_wp2_with fail
 refine(HSW.o W1).mono ?_
 rintro e W2 ⟨rfl,hb2⟩
 have HB2:=ae (aW HB1.o hb2)
 clear hb1 hb2
 go_upto_region 2 with(fail)
 refine dI fun W3 hW3=>?_
 obtain⟨hb3,k5,k6,hz3⟩:=abV hW3
 have HB3:=ae (aW HB2.o hb3)
 have Dh:=ae (ag k5 k6)
 clear hW3 hb3 k5 k6
 obtain⟨N,hN⟩: ∃N,N=9+line.length:=⟨_,rfl⟩
 have hmk:(Instr.makeSlice 83 (iv (3+(line.length:Int)+6)) (iv (3+(line.length:Int)+6))).run Tryz.prog W3= .ok (.slice (some ⟨W3.heap.size,0,none⟩) N N) (W3.alloc (.cells (List.replicate N (Value.int .u8 0)).toArray 5)):=by
  have e:(3+(line.length:Int)+6)=((N:Nat):Int):=by omega
  rw[e]
  exact Td N (by omega) W3
 go_upto_region 3 with(fail)
 refine dI fun W4 FY=>?_
 have k7:W4.heap[W2.heap.size+2]? =some (.cells (List.replicate (9+line.length) (Value.int .u8 0)).toArray 5 (0,0)):=by
  rw[FY, <-hz3,List.toArray_replicate]
  exact ax _ _
 have hb4:Below W3.heap.size W3 W4:=by rw[FY];exact aj (aG _ _) _
 have hw2:w.heap.size<=W2.heap.size:=HB2.o.size
 have HB4:=ae (aW HB3.o hb4)
 have k5:=(hb4.block W2.heap.size (by omega)).trans Dh.o.1
 have k6:=(hb4.block (W2.heap.size+1) (by omega)).trans Dh.o.2
 clear FY hb4 hmk hN Dh
 obtain⟨g,hg⟩: ∃g,W2.heap.size+2=g:=⟨_,rfl⟩
 obtain⟨t6,h6⟩: ∃g,W2.heap.size+1=g:=⟨_,rfl⟩
 obtain⟨t5,h5⟩: ∃g,W2.heap.size=g:=⟨_,rfl⟩
 rw[hg] at k7⊢
 rw[h6] at k6⊢
 rw[h5] at k5⊢
 have hne:g≠t5/\g≠t6/\w.heap.size<=g:=by omega
 have Lm:=ae hne
 clear hg h6 h5 hne hz3 hw2
 have xM:=ae k7
 have uC:=ae k5
 have HK6:=ae k6
 obtain⟨c6,f6,l6⟩:=af k6
 clear k5 k6 k7
 have hc6: ∀j v,[uv r,uv s][j]? =some v->W4.cell? ((⟨t6,2,none⟩:Addr).add j)=some v:=fun j v hj=>by
  match j,hj with
  |0,hj=>exact(c6 2).trans hj
  |1,hj=>exact(c6 3).trans hj
 obtain⟨L0,hL0⟩: ∃L0,L0=List.replicate (9+line.length) (Value.int .u8 0):=⟨_,rfl⟩
 have hl0:L0.length=9+line.length:=by rw[hL0,List.length_replicate]
 have k7:=xM.o
 rw[<-hL0] at k7
 have hcp:(Builtin.copy_ #[83,83] 3 #[.slice (some ⟨g,0,none⟩) (9+line.length) (9+line.length),.slice (some ⟨t6,2,none⟩) 2 2]).run Tryz.prog W4= .ok (goInt 2) (W4.setRow g (splice L0 0 [uv r,uv s]).toArray):=by
  have h:=run_copy_row (P:=Tryz.prog) W4 83 83 3 5 g 0 (9+line.length) (9+line.length) ⟨t6,2,none⟩ 2 2 L0.toArray 5 [uv r,uv s] Tryz.underlying83 (by kernel_rfl) k7 (by rw[show Nat.min 2 (9+line.length)=2 from Nat.min_eq_left (by omega)];rfl) hc6 (by simp;omega) (by simp[uv,Value.oneCell'])
  exact h
 have HL0:=ae hl0
 clear hc6 hL0 hl0 xM
 have xM:=ae k7
 clear k7
 go_upto_region 4 with(fail)
 refine dI fun W5 yH=>?_
 obtain⟨L1,hL1⟩: ∃L1,L1=splice L0 0 [uv r,uv s]:=⟨_,rfl⟩
 rw[<-hL1] at yH
 have hl1:L1.length=9+line.length:=by rw[hL1,length_splice _ _ _ (by rw[HL0.o];simp;omega),HL0.o]
 obtain⟨h5,k7,hb5⟩:=row_step yH xM.o (Lm.o.1) uC.o
 have nM:=ae (HB4.o.trans (hb5.mono Lm.o.2.2))
 have HL1:=ae (ag hL1 hl1)
 obtain⟨c5,f5,l5⟩:=af h5
 obtain⟨x2,g7⟩: ∃x,W5.cell? ⟨g,2,none⟩=some x:=⟨L1[2]'(by omega),by rw[(af k7).1 2];simp⟩
 obtain⟨_,f7,l7⟩:=af k7
 have H5:=ae (ag h5 k7)
 clear yH h5 k7 hb5 hL1 hl1 hcp c6 f6 l6 uC HK6 xM HB4
 go_upto_region 5 with(fail)
 refine dI fun W6 KG=>?_
 obtain⟨h6,k8,hb6⟩:=Ee KG H5.o.2 Lm.o.1 H5.o.1
 obtain⟨L2,hL2⟩: ∃L2,L2=L1.set 2 (uv c1):=⟨_,rfl⟩
 have hl2:L2.length=9+line.length:=by rw[hL2,qC,HL1.o.2]
 rw[<-hL2] at k8
 have nK:=ae (nM.o.trans (hb6.mono Lm.o.2.2))
 have HL2:=ae (ag hL2 hl2)
 have H6:=ae (ag h6 k8)
 clear KG h6 k8 hb6 hL2 hl2 c5 f5 l5 g7 f7 l7 H5 nM
 have hcq:(Builtin.copy_ #[83,9] 3 #[.slice (some ⟨g,3,none⟩) (9+line.length-3) (9+line.length-3),.string (fD line)]).run Tryz.prog W6= .ok (goInt line.length) (W6.setRow g (splice L2 3 (Lib.byteCells line)).toArray):=by
  have h:=Lib.run_copy_row_string (P:=Tryz.prog) W6 83 9 3 5 g 3 (9+line.length-3) (9+line.length-3) (fD line) L2.toArray 5 Tryz.underlying83 (by kernel_rfl) H6.o.2 (by rw[hsz];omega) (by rw[hsz];have:=HL2.o.2;simp;omega)
  rw[h,hsz]
  have e:L2.toArray.toList.take 3++Lib.byteCells (fD line).data.toList++L2.toArray.toList.drop (3+line.length)=splice L2 3 (Lib.byteCells line):=by
   unfold splice
   rw[HBL.o,nC]
  rw[e]
 go_upto_region 6 with(fail)
 refine dI fun W7 BV=>?_
 obtain⟨L3,hL3⟩: ∃L3,L3=splice L2 3 (Lib.byteCells line):=⟨_,rfl⟩
 rw[<-hL3] at BV
 have hl3:L3.length=9+line.length:=by rw[hL3,length_splice _ _ _ (by rw[HL2.o.2,HBL.o];omega),HL2.o.2]
 obtain⟨h7,k8,hb7⟩:=row_step BV H6.o.2 Lm.o.1 H6.o.1
 have xN:=ae (nK.o.trans (hb7.mono Lm.o.2.2))
 have HL3:=ae (ag hL3 hl3)
 have H7:=ae (ag h7 k8)
 clear BV h7 k8 hb7 hL3 hl3 hcq H6 nK
 go_upto_region 7 with(fail)
 rw[show 9+line.length-(3+line.length)=6 from by omega]
 obtain⟨c7,f7,l7⟩:=af H7.o.1
 obtain⟨c8,f8,l8⟩:=af H7.o.2
 obtain⟨x3,g3⟩: ∃x,W7.cell? ⟨g,3+line.length,none⟩=some x:=⟨L3[3+line.length]'(by have:=HL3.o.2;omega),by rw[c8 (3+line.length)];simp⟩
 clear c8
 go_upto_region 8 with(fail)
 refine dI fun W8 hW8=>?_
 obtain⟨h8,k8,hb8⟩:=Ee hW8 H7.o.2 Lm.o.1 H7.o.1
 obtain⟨L4,hL4⟩: ∃L4,L4=L3.set (3+line.length) (uv c1):=⟨_,rfl⟩
 have hl4:L4.length=9+line.length:=by rw[hL4,qC,HL3.o.2]
 rw[<-hL4] at k8
 have qc:=ae (xN.o.trans (hb8.mono Lm.o.2.2))
 have HL4:=ae (ag hL4 hl4)
 have H8:=ae (ag h8 k8)
 clear hW8 h8 k8 hb8 hL4 hl4 c7 f7 l7 f8 l8 g3 H7 xN
 have hct: ∀j v,[uv a,uv b,uv c,uv d][j]? =some v->W8.drew.cell? ((⟨t5,3,none⟩:Addr).add j)=some v:=fun j v hj=>by
  obtain⟨c5,_,_⟩:=af H8.o.1
  match j,hj with
  |0,hj=>exact(c5 3).trans hj
  |1,hj=>exact(c5 4).trans hj
  |2,hj=>exact(c5 5).trans hj
  |3,hj=>exact(c5 6).trans hj
 have hcr:(Builtin.copy_ #[83,83] 3 #[.slice (some ⟨g,3+line.length+1,none⟩) 5 5,.slice (some ⟨t5,3,none⟩) 4 4]).run Tryz.prog W8.drew= .ok (goInt 4) (W8.drew.setRow g (splice L4 (4+line.length) [uv a,uv b,uv c,uv d]).toArray):=by
  rw[show 3+line.length+1=4+line.length from by omega]
  have h:=run_copy_row (P:=Tryz.prog) W8.drew 83 83 3 5 g (4+line.length) 5 5 ⟨t5,3,none⟩ 4 4 L4.toArray 5 [uv a,uv b,uv c,uv d] Tryz.underlying83 (by kernel_rfl) H8.o.2 rfl hct (by have:=HL4.o.2;simp;omega) (by simp[uv,Value.oneCell'])
  rw[h,nC]
  rfl
 clear hct
 go_region
 go_upto_region 9 with(fail)
 refine dI fun W9 Nc=>?_
 obtain⟨L5,hL5⟩: ∃L5,L5=splice L4 (4+line.length) [uv a,uv b,uv c,uv d]:=⟨_,rfl⟩
 rw[<-hL5] at Nc
 have hl5:L5.length=9+line.length:=by rw[hL5,length_splice _ _ _ (by rw[HL4.o.2];simp;omega),HL4.o.2]
 obtain⟨h9,k9,wZ⟩:=row_step (W:=W8.drew) Nc H8.o.2 Lm.o.1 H8.o.1
 have qV:=ae (qc.o.drew.trans (wZ.mono Lm.o.2.2))
 have HL5:=ae (ag hL5 hl5)
 obtain⟨c5,f5,l5⟩:=af h9
 obtain⟨c8,f8,l8⟩:=af k9
 obtain⟨x5,g5⟩: ∃x,W9.cell? ⟨g,3+line.length+5,none⟩=some x:=⟨L5[3+line.length+5]'(by omega),by rw[c8 (3+line.length+5)];simp⟩
 have H9:=ae (ag h9 k9)
 clear Nc h9 k9 wZ hL5 hl5 hcr H8 qc c8
 go_upto_region 10 with(fail)
 refine dI fun UM ahP=>?_
 obtain⟨_,k10,AQ⟩:=Ee ahP H9.o.2 Lm.o.1 H9.o.1
 have YV:=ae (qV.o.trans (AQ.mono Lm.o.2.2))
 have HF:Hid (UM.heap[g]? =some (.cells (Lib.byteCells (nI i line)).toArray 5 (0,0))):=by
  have e:=OA (a:=uv r) (b:=uv s) (c:=uv a) (d:=uv b) (e:=uv c) (f:=uv d) (x:=uv c1) (y:=uv c1) (z:=uv c3) (ln:=Lib.byteCells line) (Z:=L0) (by rw[HL0.o,HBL.o];omega)
  rw[HBL.o, <-HL1.o.1, <-HL2.o.1, <-HL3.o.1, <-HL4.o.1, <-HL5.o.1, <-HR.o] at e
  rw[show 3+line.length+5=8+line.length from by omega] at k10
  show _=_
  rw[k10, <-e]
 clear ahP k10 AQ c5 f5 l5 f8 l8 g5 H9 qV
 go_wp2_with fail
 go_returns
 exact⟨YV.o,g,_,rfl,rfl,Lm.o.2.2,HF.o⟩
theorem Zu: ∀(ls:List aH),(∀l∈ls,l.length<=60)->Oo ls<=69*ls.length:=by
 intro ls
 induction ls with
 |nil=>intro _;exact ai _
 |cons l ls ih=>
  intro h
  have h1:=ih fun x hx=>h x (qG _ hx)
  have h2:=h l List.mem_cons_self
  simp only[Oo,List.length_cons]
  omega
theorem XL {ls:List aH} {k:Nat} (hk:k<ls.length):jO 0 (ls.take (k+1))=jO 0 (ls.take k)++nI k ls[k]:=by
 rw[iE hk,Jk,gu,Nat.zero_add,Nat.min_eq_left (by omega)]
theorem abb (l:aH):(Lib.byteCells l).toArray.size=l.length:=by simp[Lib.byteCells]
theorem bytes_at {W:World} {g n:Nat} {l:aH} {t:TypeId} {fr:Nat×Nat} (h:W.heap[g]? =some (.cells (Lib.byteCells l).toArray t fr)) (hn:l.length=n) (hm:n<=maxLen):aN 1 W (.slice (some ⟨g,0,none⟩) n n) n (Lib.byteCells l):=
 aN.dw (cs:=(Lib.byteCells l).toArray) 1 n h (by rw[abb,hn,Nat.mul_one]) hm
theorem Yb (l:aH): ∀u∈Lib.byteCells l,u.oneCell'=true:=by
 intro u hu
 simp only[Lib.byteCells,jd] at hu
 obtain⟨x,_,rfl⟩:=hu
 rfl
def adY (l:aH) (w:World) (e:Ending) (w':World):Prop:=Below w.heap.size w w'/\ ∃v,e= .returned v/\w'.ownsRow w.heap.size 5 1 v l.length (Lib.byteCells l)
theorem aaR (ls:List aH) (v:Value) (w:World) (hv:iw w v ls) (hn:ls.length<=1000) (hl: ∀l∈ls,l.length<=60):Calls Tryz.prog 63 #[v] w (adY (Ib ls) w):=by
 obtain⟨lo,lc,rfl⟩:=aN.open hv
 have HV:=ae hv
 have HL:=ae hl
 clear hv hl
 go_enter Tryz.func63,Tryz.ntmps63
 go_wp2_with fail
 go_loopw [2,7] (fun u i wr=> ∃k:Nat,k<=ls.length/\i= .int .i64 k/\Below w.heap.size w wr/\wr.ownsRow w.heap.size 5 1 u (jO 0 (ls.take k)).length (Lib.byteCells (jO 0 (ls.take k)))) (fun _ i _=>ls.length-(intOf i).toNat)
 case atStart=>exact⟨0,bQ _,rfl,aG _ _,⟨rfl,.inl ⟨rfl,rfl⟩⟩⟩
 case round=>
  obtain⟨k,hk,rfl,hB,how⟩:=hrel
  by_cases hlt:k<ls.length
  ·obtain⟨g1,f1,e1,r1,c1⟩:=qj (HV.o.below hB (ai _)) hlt
   have HB:=ae hB
   have HT:=ae (XL hlt)
   have hll:=HL.o _ (cZ hlt)
   have hs1:(jO 0 (ls.take k)).length<=69*k:=by
    have h1:=Zu (ls.take k) fun l h=>HL.o l (pV h)
    rw[gu,Nat.min_eq_left (by omega)] at h1
    rw[Np]
    exact h1
   have HR:=ae (Sl k ls[k] wr (by omega) hll)
   have HQ:=ae (Ep k ls[k])
   obtain⟨x,hx⟩: ∃x,x=ls[k]:=⟨_,rfl⟩
   rw[<-hx] at c1 HR HT HQ hll
   clear hx
   generalize hA:jO 0 (ls.take k)=A at*
   have hlo:=aS how
   obtain⟨oo,oc,rfl⟩:=hlo
   have HO:=ae how
   have wB:(k:Int)<ls.length:=by omega
   cases e1
   clear hB how hA
   go_wp2_with fail
   refine HR.o.mono ?_
   rintro e W2 ⟨hb2,g,n,rfl,rfl,hg,hk2⟩
   have HB2:=ae (aW HB.o hb2)
   have Bg:=ae (aB (Ms:=[]) HO.o (Ext.aA hb2) (by simp))
   have HS2:Hid (aN 1 W2 (.slice (some ⟨g,0,none⟩) (9+x.length) (9+x.length)) (9+x.length) (Lib.byteCells (nI k x))):=ae (bytes_at hk2 HQ.o (by simp only[maxLen];omega))
   clear hb2 hk2 hg
   go_wp2_with (at_builtin;go_loud (refine dV rfl _ _ RP rfl w.heap.size (.slice oo A.length oc) A.length (Lib.byteCells A) rfl Bg.o (.slice (some ⟨g,0,none⟩) (9+x.length) (9+x.length)) (9+x.length) (Lib.byteCells (nI k x)) rfl HS2.o (Yb _) (by omega) (by omega) HB2.o.size ?_))
   intro v' W3 hown hgr _
   have hB3:Below w.heap.size w W3:=Below.grown HB2.o hgr (by have:=HB2.o.size;omega) (fun g e=>(bH Bg.o g e).1)
   have HB3:=ae hB3
   have hown3:W3.ownsRow w.heap.size 5 1 v' (jO 0 (ls.take (k+1))).length (Lib.byteCells (jO 0 (ls.take (k+1)))):=by
    rw[HT.o,show Lib.byteCells (A++nI k x)=Lib.byteCells A++Lib.byteCells (nI k x) from by simp[Lib.byteCells],dD,HQ.o]
    exact hown
   have HO3:=ae hown3
   clear hown hgr hB3 hown3
   go_wp2_with fail
   go_roundw
   all_goals first
    |exact⟨k+1,by omega,by go_num,HB3.o,HO3.o⟩
    |(simp[intOf];omega)
  ·have hkl:k=ls.length:=by omega
   have HO:Hid (wr.ownsRow w.heap.size 5 1 u2 (Ib ls).length (Lib.byteCells (Ib ls))):=ae (by
    rw[hkl,List.take_length] at how
    exact how)
   have HB:=ae hB
   clear hB how
   go_wp2_with fail
   go_returns
   exact⟨HB.o,_,rfl,HO.o⟩
theorem Ie {ls:List aH} (h:ed ls=0):ls.length<=40/\ ∀l∈ls,l.length<=60:=by
 unfold ed at h
 split at h
 ·omega
 ·rename_i hc
  refine⟨by omega,fun l hl=>?_⟩
  apply Classical.byContradiction
  intro hn
  exact hc (.inr (List.any_eq_true.2 ⟨l,hl,by simp;omega⟩))
def VU (q:Int) (ls:List aH) (w:World) (e:Ending) (w':World):Prop:=
 Below w.heap.size w w'/\((q≠0/\e= .returned (.tuple #[.slice none 0 0,iv q]))∨(q=0/\ ∃v,e= .returned (.tuple #[v,iv 0])/\w'.ownsRow w.heap.size 5 1 v (Ib ls).length (Lib.byteCells (Ib ls))))
theorem Yv (ls:List aH) (v:Value) (w:World) (hv:iw w v ls) (hln: ∀x∈ls,x.length<=1000000):Calls Tryz.prog 34 #[v] w (VU (ed ls) ls w):=by
 have HF:=ae (KN ls v w hv hln)
 have HW:Hid (ed ls=0-> ∀W,Below w.heap.size w W->Calls Tryz.prog 63 #[v] W (adY (Ib ls) W)):=ae (fun h W hb=>aaR ls v W (hv.below hb (ai _)) (by have:=(Ie h).1;omega) (Ie h).2)
 obtain⟨lo,lc,rfl⟩:=aN.open hv
 clear hv
 obtain⟨q,hq⟩: ∃q,ed ls=q:=⟨_,rfl⟩
 rw[hq] at HF HW⊢
 have HQ:=ae hq
 clear hq
 go_enter Tryz.func34,Tryz.ntmps34
 go_wp2_with fail
 refine HF.o.mono ?_
 rintro e W1 ⟨rfl,hb1⟩
 have HB1:=ae hb1
 clear hb1
 by_cases hz:q=0
 ·subst hz
  go_wp2_with fail
  refine(HW.o (by trivial) W1 HB1.o).mono ?_
  rintro e W2 ⟨hb2,v2,rfl,ho⟩
  have HB2:=ae (aW HB1.o hb2)
  obtain⟨o2,c2,rfl⟩:=aS ho
  have HO:=ae (dm ho HB1.o.size)
  clear hb2 ho
  go_wp2_with fail
  go_returns
  exact⟨HB2.o,.inr ⟨rfl,_,rfl,HO.o⟩⟩
 ·go_wp2_with fail
  go_returns
  exact⟨HB1.o,.inl ⟨hz,rfl⟩⟩
theorem yZ:(∀l∈jW,l.length<=1000000)/\ ∀l∈jW++rJ,l.length<=1000000:=by decide+kernel
theorem NY:LY jW=agl:=by
 unfold LY
 rw[aF sH.1,Si]
 unfold eQ
 rw[aF sH.1]
 exact Zc
theorem Rn:jY (jW++rJ)=[0,0,0,0,0,0,0,0,0,0,0,0,0,2,6,4]:=by
 unfold jY
 rw[aF sH.2]
 exact V5
theorem abq:ed [[97]]=0/\Ib [[97]]=[48,49,58,97,58,48,50,50,51,10]:=by decide+kernel
theorem Fh (w:World) (hE:Env w):Calls Tryz.prog 9 #[] w (PV (.bool true) w):=by
 have HE:Hid (∀W,Below w.heap.size w W->Env W):=ae (fun W hb=>hE.below hb (ai _))
 have HY:Hid (∀W,Calls Tryz.prog 31 #[.slice none 0 0] W (QW jW W)):=ae (fun W=>by have h:=NZ [] (.slice none 0 0) W (aN.nil _ _) (by simp);rw[List.append_nil] at h;exact h)
 clear hE
 go_enter Tryz.func9,Tryz.ntmps9
 go_wp2_with fail
 refine(HY.o w).mono ?_
 rintro e W1 ⟨o1,c1,rfl,ho1,hb1⟩
 have HB1:=ae hb1
 have HO:=ae (Yg _ jW W1 (aN.dE ho1) (HE.o W1 hb1) yZ.1)
 clear hb1 ho1
 go_wp2_with fail
 refine HO.o.mono ?_
 rintro e W2 ⟨hb2,u2,rfl,hu2⟩
 rw[JA.1]
 rw[JA.2] at hu2
 obtain⟨uo,uc,rfl⟩:=aN.open hu2
 have HB2:=ae (aW HB1.o hb2)
 have HU2:=ae hu2
 clear hb2 hu2 HO HB1
 simp only[List.length_cons,List.length_nil,Nat.reduceAdd]
 go_wp2_with fail
 refine(HY.o W2).mono ?_
 rintro e W3 ⟨o3,c3,rfl,ho3,hb3⟩
 have HB3:=ae (aW HB2.o hb3)
 have HU3:=ae (HU2.o.below hb3 (ai _))
 have HT:=ae (Jr _ jW W3 (aN.dE ho3) (HE.o W3 HB3.o) yZ.1)
 clear hb3 ho3 HB2 HU2
 go_wp2_with fail
 refine HT.o.mono ?_
 rintro e W4 ⟨hb4,u4,rfl,hu4⟩
 rw[Jz.1]
 rw[Jz.2] at hu4
 obtain⟨vo,vc,rfl⟩:=aN.open hu4
 have HB4:=ae (aW HB3.o hb4)
 have HU4:=ae (HU3.o.below hb4 (ai _))
 have HV4:=ae hu4
 clear hb4 hu4 HT HB3 HU3
 simp only[List.length_cons,List.length_nil,Nat.reduceAdd]
 go_wp2_with fail
 refine(HY.o W4).mono ?_
 rintro e W5 ⟨o5,c5,rfl,ho5,hb5⟩
 have nM:=ae (aW HB4.o hb5)
 have HU5:=ae (HU4.o.below hb5 (ai _))
 have HV5:=ae (HV4.o.below hb5 (ai _))
 have HR:=ae (UO _ jW W5 (aN.dE ho5) (HE.o W5 nM.o) yZ.1)
 clear hb5 ho5 HB4 HU4 HV4
 go_wp2_with fail
 refine HR.o.mono ?_
 rintro e W6 ⟨hb6,rfl⟩
 rw[NY,sH.1]
 have nK:=ae (aW nM.o hb6)
 have HU6:=ae (HU5.o.below hb6 (ai _))
 have HV6:=ae (HV5.o.below hb6 (ai _))
 clear hb6 HR nM HU5 HV5
 have HW:Hid (∀W,W=W6.alloc (.cells #[.string ⟨#[97]⟩] 9)->Calls Tryz.prog 34 #[.slice (some ⟨W6.heap.size,0,none⟩) 1 1] W (VU (ed [[97]]) [[97]] W)):=ae (fun W hW=>Yv [[97]] _ W (by
  have hk:W.heap[W6.heap.size]? =some (.cells (bM [[97]]).toArray 9 (0,0)):=by rw[hW];exact ax _ _
  exact aN.dw 1 1 hk rfl (by decide)) (by decide))
 go_wp2_with fail
 refine(HW.o _ rfl).mono ?_
 rintro e W7 ⟨hb7,⟨hq,_⟩|⟨_,v7,rfl,ho7⟩⟩
 ·exact absurd abq.1 hq
 rw[abq.2] at ho7
 obtain⟨wo,wc,rfl⟩:=aS ho7
 have TP:=aW (aj (aG W6.heap.size W6) (.cells #[.string ⟨#[97]⟩] 9)) hb7
 have xN:=ae (aW nK.o TP)
 have HU7:=ae (HU6.o.below TP (ai _))
 have HV7:=ae (HV6.o.below TP (ai _))
 have HW7:=ae (aN.dE ho7)
 clear hb7 ho7 TP HW nK HU6 HV6
 simp only[List.length_cons,List.length_nil,Nat.reduceAdd]
 have HM:Hid (∀W,W=W7.alloc (.cells (bM rJ).toArray 9)->Calls Tryz.prog 31 #[.slice (some ⟨W7.heap.size,0,none⟩) 3 3] W (QW (jW++rJ) W)):=ae (fun W hW=>NZ rJ _ W (by
  have hk:W.heap[W7.heap.size]? =some (.cells (bM rJ).toArray 9 (0,0)):=by rw[hW];exact ax _ _
  exact aN.dw 1 3 hk rfl (by decide)) (by decide))
 go_wp2_with fail
 refine(HM.o _ rfl).mono ?_
 rintro e W8 ⟨o8,c8,rfl,qK,hb8⟩
 have aaH:=aW (aj (aG W7.heap.size W7) (.cells (bM rJ).toArray 9)) hb8
 have qc:=ae (aW xN.o aaH)
 have HU8:=ae (HU7.o.below aaH (ai _))
 have IY:=ae (HV7.o.below aaH (ai _))
 have HW8:=ae (HW7.o.below aaH (ai _))
 have HL8:=ae (aN.dE qK)
 clear hb8 qK aaH HM xN HU7 HV7 HW7
 go_wp2_with fail
 refine(uy (.slice o8 (jW++rJ).length c8) (jW++rJ) W8 (HL8.o) (HE.o W8 qc.o) (yZ.2) [] (by simp)).mono ?_
 rintro e Bi ⟨hb2,Va,esa,cv,he,hX,hC⟩
 subst he
 obtain⟨coa,cca,rfl⟩:=aS hC
 have hs2:=hb2.size
 have hS2:=hX Bi (Ext.refl _ _)
 rename_i hK
 refine hK _ _ ?_
 refine ay rfl _ (by go_simp;first|rfl|exact⟨rfl,rfl⟩) ?_
 simp only[zp]
 refine ay rfl _ (by go_simp;first|rfl|exact⟨rfl,rfl⟩) ?_
 simp only[zp]
 refine ay rfl _ (by go_simp;first|rfl|exact⟨rfl,rfl⟩) ?_
 simp only[zp]
 refine ay rfl _ (by go_simp;first|rfl|exact⟨rfl,rfl⟩) ?_
 simp only[zp]
 obtain⟨ga,hg⟩: ∃g,g=Bi.heap.size:=⟨_,rfl⟩
 refine ay rfl (w':=Bi.alloc (.cells df 46 (0,0))) (.pointer (some ⟨ga,0,none⟩)) (by rw[hg];go_simp;try rfl) ?_
 simp only[zp]
 have hz2:(Bi.alloc (.cells df 46 (0,0))).heap[ga]? =some (.cells df 46 (0,0)):=by rw[hg];exact ax _ _
 refine wpList_store_row rfl _ _ _ rfl ga (bY (eQ (jW++rJ)) Va) (by as_aux_lemma=>kernel_rfl) (by as_aux_lemma=>kernel_rfl) _ df hz2 (by kernel_rfl) (by as_aux_lemma=>kernel_rfl) (by rw[kF];exact fun u hu=>fZ hS2 u (kM.2 hu)) ?_
 simp only[zp]
 refine jb fun ve hW3=>?_
 obtain⟨pW,iV⟩: ∃pW,pW=Bi.alloc (.cells df 46 (0,0)):=⟨_,rfl⟩
 rw[<-iV] at hW3 hz2
 have pO:Ext [ga] pW ve:=by rw[hW3];exact dZ
 have hs3:=pO.size
 have hs2':pW.heap.size=ga+1:=by rw[iV,hg];simp
 have jh:Below Bi.heap.size Bi ve:=gZ (by rw[iV];exact aj (aG _ _) _) pO (by omega)
 have PS:ve.heap[ga]? =some (.cells (bY (eQ (jW++rJ)) Va) 46 (0,0)):=by rw[hW3];exact setRow_heap _ _ _ _ _ _ hz2
 have hb3:=aW hb2 jh
 have ahv:W8.heap.size<=ga:=by omega
 have MZ:ga<ve.heap.size:=by omega
 have I4:=ae (ag hb3 (ag PS (ag (hS2.below jh (ai _)) (aN.dE (aB (Ms:=[]) hC (Ext.aA jh) (by simp))))))
 clear hX hC hW3 iV pO jh hb2 hS2 hz2 hK hs2 hs3 hs2' hg hb3
 have aaO:=I4.o.1
 have XF:aN 1 ve (.slice coa (jY (jW++rJ)).length cca) (jY (jW++rJ)).length (ah (jY (jW++rJ))):=I4.o.2.2.2
 rw[Rn] at XF⊢
 rw[sH.2]
 simp only[List.length_cons,List.length_nil,Nat.reduceAdd] at XF⊢
 have qV:=ae (aW qc.o aaO)
 have hU9:=HU8.o.below aaO (ai _)
 have HV9:=ae (IY.o.below aaO (ai _))
 have HW9:=ae (HW8.o.below aaO (ai _))
 have hlc:16<=cca:=by obtain⟨_,o',c',hv,h1,_⟩:=XF;cases hv;exact h1
 obtain⟨eb,aaW,rfl,heb,_⟩:=aP.cell (l:=[0,0,0,0,0,0,0,0,0,0,0,0,0,2,6,4]) XF (k:=0) (by simp)
 have hcut:=aN.cut XF (l:=13) (k:=16) (by omega) (by omega)
 rw[show sliced (some ⟨eb,aaW,none⟩) 13 16 cca 1= .slice (some ⟨eb,aaW+13,none⟩) 3 (cca-13) from by unfold sliced;rw[ak (by omega)];simp[Addr.add_lit]] at hcut
 have CZ:=ae (show aP ve (.slice (some ⟨eb,aaW+13,none⟩) 3 (cca-13)) [2,6,4] from hcut)
 obtain⟨ub,aok,rfl,hub,d1,d2⟩:=bJ.cell (l:=[(5,20),(0,15)]) hU9 (k:=0) (by simp)
 obtain⟨ub2,amA,he,_,e1,e2⟩:=bJ.cell (l:=[(5,20),(0,15)]) hU9 (k:=1) (by simp)
 injection he with he
 injection he with h1 h2
 subst h1 h2
 simp only[au,Nat.zero_mul,Nat.one_mul,Nat.add_zero] at d1 d2 e1 e2
 have HI:Hid (∀W,W=ve.alloc (.cells #[iv 0] 3)->Calls Tryz.prog 35 #[.slice vo 1 vc,.slice (some ⟨ve.heap.size,0,none⟩) 1 1] W (PV (.bool true) W)):=ae (fun W hW=>Aw [0] _ _ W (by rw[hW];exact HV9.o.alloc _) (by
  have hk:W.heap[ve.heap.size]? =some (.cells #[iv 0] 3 (0,0)):=by rw[hW];exact ax _ _
  exact aN.dw 1 1 hk rfl (by decide)))
 clear HU8 IY HW8 HL8 I4 aaO XF hU9 hcut PS
 go_wp2_with fail
 refine(HI.o _ rfl).mono ?_
 rintro e UM ⟨rfl,AQ⟩
 have VB:=aW (aj (aG ve.heap.size ve) (.cells #[iv 0] 3)) AQ
 have YV:=ae (aW qV.o VB)
 have hcv:(convert 83 9 (.slice wo 10 wc)).run Tryz.prog UM= .ok (.string (fD [48,49,58,97,58,48,50,50,51,10])) UM:=Um (n:=10) (HW9.o.below VB (ai _))
 have HC:Hid (∀W,W=UM.alloc (.cells #[iv 2,iv 6,iv 4] 3)->Calls Tryz.prog 36 #[.slice (some ⟨eb,aaW+13,none⟩) 3 (cca-13),.slice (some ⟨UM.heap.size,0,none⟩) 3 3] W (PV (.bool true) W)):=ae (fun W hW=>XY [2,6,4] _ _ W (by rw[hW];exact(CZ.o.below VB (ai _)).alloc _) (by
  have hk:W.heap[UM.heap.size]? =some (.cells #[iv 2,iv 6,iv 4] 3 (0,0)):=by rw[hW];exact ax _ _
  exact aN.dw 1 3 hk rfl (by decide)))
 clear AQ VB HI d1 d2 e1 e2
 go_wp2_with fail
 refine(HC.o _ rfl).mono ?_
 rintro e W11 ⟨rfl,ahL⟩
 have adp:=ae (aW YV.o (aW (aj (aG UM.heap.size UM) (.cells #[iv 2,iv 6,iv 4] 3)) ahL))
 clear ahL HC hcv
 go_wp2_with fail
 go_returns
 exact⟨rfl,adp.o⟩
end Go.Proofs.YthbpmepjmebolaaGreatDoor.Bk
end
section
namespace Go.Proofs.YthbpmepjmebolaaGreatDoor.Bk
open Go.RowKit Go.RG Go.SL Go.Shelf jv Go.TB Go.Proofs.YthbpmepjmebolaaGreatDoor.zS
theorem JD {s:aH} (h:s.all iL=true) (hl:s.length<=4):0<=qf s/\qf s<=9999:=by
 have:=LC s 0 (by omega) h
 have h4:(10:Int)^s.length<=10000:=by
  match hs:s.length,hl with
  |0,_=>decide
  |1,_=>decide
  |2,_=>decide
  |3,_=>decide
  |4,_=>decide
 simp only[Int.zero_mul,Int.zero_add,Int.one_mul] at this
 unfold qf
 omega
theorem QT {s:aH} {c:UInt8}:(s++[c]).all iL=(s.all iL&&iL c):=by simp
theorem BH {l:aH} {i:Nat} (hi:i<l.length) (h:iL l[i]=false):lu l=none:=by
 unfold lu
 rw[ak]
 intro hf
 unfold zY at hf
 simp only[fH] at hf
 have:=jR.1 hf.2 l[i] (cZ _)
 rw[h] at this
 cases this
theorem Vx {l:aH} (h:0<l.length):l.headD 0=l[0]:=by cases l with|nil=>exact absurd h (by simp)|cons a t=>rfl
theorem ZP {k:Nat} (h: ¬k<48) (h2:k<256):IntKind.u8.wrap ((k:Int)-48)=(k:Int)-48:=by
 have hb:(2:Int)^IntKind.u8.bits=256:=by decide
 simp only[IntKind.wrap,hb,show IntKind.u8.signed=false from rfl,Bool.false_and,Bool.false_eq_true,if_false];omega
theorem Vo {n:Int} {k:Nat} (h0:0<=n) (h1:n<=9999) (h: ¬k<48) (h2:k<256):wrap64 (10*n+((k:Int)-48))=10*n+((k:Int)-48):=by unfold wrap64;omega
def adX (l:aH) (w:World):Ending->World->Prop:=PV (.tuple #[iv ((lu l).getD 0),.bool (lu l).isSome]) w
theorem OD (l:aH) (w:World) (hl:l.length<=1000):Calls Tryz.prog 95 #[.string (fD l)] w (adX l w):=by
 have hsz:=pg l
 unfold adX
 obtain⟨q,hq⟩: ∃q,lu l=q:=⟨_,rfl⟩
 rw[hq]
 have HQ:=ae hq
 clear hq
 go_enter Tryz.func95,Tryz.ntmps95
 by_cases h1:l.length<1
 ·have h1':(l.length:Int)<1:=by omega
  obtain rfl:q=none:=by rw[<-HQ.o];unfold lu zY;rw[ak];simp;omega
  go_wp2_with fail
  go_returns
  exact⟨by simp,aG _ _⟩
 have h1': ¬(l.length:Int)<1:=by omega
 by_cases h4:4<l.length
 ·have h4':(4:Int)<l.length:=by omega
  obtain rfl:q=none:=by rw[<-HQ.o];unfold lu zY;rw[ak];simp;omega
  go_wp2_with fail
  go_returns
  exact⟨by simp,aG _ _⟩
 have h4': ¬(4:Int)<l.length:=by omega
 have h0:0<l.length:=by omega
 obtain⟨c,hc⟩: ∃c,l[0]=c:=⟨_,rfl⟩
 have hc0:(fD l)[0]'(by rw[hsz];exact h0)=c:=hc
 by_cases hz:c=48/\1<l.length
 ·obtain⟨rfl,hl1⟩:=hz
  have akG:(1:Int)<l.length:=by omega
  obtain rfl:q=none:=by
   rw[<-HQ.o]
   unfold lu zY
   rw[ak]
   intro hf
   simp only[fH,Bool.or_eq_true,fB] at hf
   rw[Vx h0,hc] at hf
   rcases hf.1.2 with h|h
   ·exact h rfl
   ·omega
  go_wp2_with fail
  go_returns
  exact⟨by simp,aG _ _⟩
 have HF:Hid (l.all iL=true->lu l=some (qf l)):=ae fun h=>by
  unfold lu zY
  rw[aF]
  rw[Vx h0,hc,h]
  simp only[fH,Bool.or_eq_true,fB,and_true]
  refine⟨⟨by omega,by omega⟩,?_⟩
  by_cases h48:c=48
  ·exact .inr (Nat.le_antisymm (Nat.le_of_not_lt fun h=>hz ⟨h48,h⟩) h0)
  ·exact .inl h48
 by_cases h48:c=48
 ·subst h48
  have akG: ¬(1:Int)<l.length:=fun h=>hz ⟨rfl,Int.ofNat_lt.1 h⟩
  clear hz hc
  go_wp2_with fail
  go_loopw [4,5] (fun n u wr=> ∃i:Nat,i<=l.length/\u= .int .i64 i/\(l.take i).all iL=true/\n= .int .i64 (qf (l.take i))/\Below w.heap.size w wr) (fun _ u _=>l.length-(intOf u).toNat)
  case atStart=>exact⟨0,bQ _,rfl,rfl,rfl,aG _ _⟩
  case round=>
   obtain⟨i,hi,rfl,hd,rfl,hb⟩:=hrel
   have hvs:=JD hd (by simp;omega)
   by_cases hlt:i<l.length
   ·obtain⟨x,hx⟩: ∃x,l[i]=x:=⟨_,rfl⟩
    have hgx:(fD l)[i]'(by rw[hsz];exact hlt)=x:=hx
    have htk:l.take (i+1)=l.take i++[x]:=by rw[iE hlt,hx]
    have UW:=ae htk
    have HDX:=ae (ag hd hx)
    have hxl:=x.toNat_lt
    clear htk hd hx
    obtain⟨n,hn⟩: ∃n,qf (l.take i)=n:=⟨_,rfl⟩
    have HNV:=ae hn
    rw[hn] at hvs⊢
    clear hn
    by_cases hlo:x.toNat<48
    ·have aeJ:(x.toNat:Int)<48:=by omega
     obtain rfl:q=none:=by rw[<-HQ.o];exact BH hlt (by rw[HDX.o.2];unfold iL;simp;omega)
     go_wp2_with fail
     go_returns
     exact⟨by simp,hb⟩
    ·have aeJ: ¬(x.toNat:Int)<48:=by omega
     by_cases hhi:57<x.toNat
     ·have aeP:(57:Int)<x.toNat:=by omega
      obtain rfl:q=none:=by rw[<-HQ.o];exact BH hlt (by rw[HDX.o.2];unfold iL;simp;omega)
      go_wp2_with fail
      go_returns
      exact⟨by simp,hb⟩
     ·have aeP: ¬(57:Int)<x.toNat:=by omega
      have hw8:IntKind.u8.wrap ((x.toNat:Int)-48)=(x.toNat:Int)-48:=ZP hlo hxl
      have hw64:wrap64 (10*n+((x.toNat:Int)-48))=10*n+((x.toNat:Int)-48):=Vo hvs.1 hvs.2 hlo hxl
      have HV2:Hid (qf (l.take (i+1))=10*n+((x.toNat:Int)-48)):=ae (by rw[UW.o,zh,HNV.o])
      have HD2:Hid ((l.take (i+1)).all iL=true):=ae (by rw[UW.o,QT,HDX.o.1];unfold iL;simp;omega)
      go_wp2_with fail
      go_roundw
      case rel=>exact⟨i+1,by omega,by go_num,HD2.o,by rw[HV2.o],hb⟩
      case measure=>simp[intOf];omega
   ·have hil:i=l.length:=by omega
    subst hil
    rw[List.take_length] at hd hvs⊢
    obtain rfl:q=some (qf l):=by rw[<-HQ.o,HF.o hd]
    generalize qf l=n at*
    clear hd
    go_wp2_with fail
    go_returns
    exact⟨by simp,hb⟩
 ·have hne: ¬((c.toNat:Int)=48):=by
   intro h
   exact h48 (UInt8.toNat_inj.1 (by rw[show(48:UInt8).toNat=48 from rfl];omega))
  clear hz hc
  go_wp2_with fail
  go_loopw [4,5] (fun n u wr=> ∃i:Nat,i<=l.length/\u= .int .i64 i/\(l.take i).all iL=true/\n= .int .i64 (qf (l.take i))/\Below w.heap.size w wr) (fun _ u _=>l.length-(intOf u).toNat)
  case atStart=>exact⟨0,bQ _,rfl,rfl,rfl,aG _ _⟩
  case round=>
   obtain⟨i,hi,rfl,hd,rfl,hb⟩:=hrel
   have hvs:=JD hd (by simp;omega)
   by_cases hlt:i<l.length
   ·obtain⟨x,hx⟩: ∃x,l[i]=x:=⟨_,rfl⟩
    have hgx:(fD l)[i]'(by rw[hsz];exact hlt)=x:=hx
    have htk:l.take (i+1)=l.take i++[x]:=by rw[iE hlt,hx]
    have UW:=ae htk
    have HDX:=ae (ag hd hx)
    have hxl:=x.toNat_lt
    clear htk hd hx
    obtain⟨n,hn⟩: ∃n,qf (l.take i)=n:=⟨_,rfl⟩
    have HNV:=ae hn
    rw[hn] at hvs⊢
    clear hn
    by_cases hlo:x.toNat<48
    ·have aeJ:(x.toNat:Int)<48:=by omega
     obtain rfl:q=none:=by rw[<-HQ.o];exact BH hlt (by rw[HDX.o.2];unfold iL;simp;omega)
     go_wp2_with fail
     go_returns
     exact⟨by simp,hb⟩
    ·have aeJ: ¬(x.toNat:Int)<48:=by omega
     by_cases hhi:57<x.toNat
     ·have aeP:(57:Int)<x.toNat:=by omega
      obtain rfl:q=none:=by rw[<-HQ.o];exact BH hlt (by rw[HDX.o.2];unfold iL;simp;omega)
      go_wp2_with fail
      go_returns
      exact⟨by simp,hb⟩
     ·have aeP: ¬(57:Int)<x.toNat:=by omega
      have hw8:IntKind.u8.wrap ((x.toNat:Int)-48)=(x.toNat:Int)-48:=ZP hlo hxl
      have hw64:wrap64 (10*n+((x.toNat:Int)-48))=10*n+((x.toNat:Int)-48):=Vo hvs.1 hvs.2 hlo hxl
      have HV2:Hid (qf (l.take (i+1))=10*n+((x.toNat:Int)-48)):=ae (by rw[UW.o,zh,HNV.o])
      have HD2:Hid ((l.take (i+1)).all iL=true):=ae (by rw[UW.o,QT,HDX.o.1];unfold iL;simp;omega)
      go_wp2_with fail
      go_roundw
      case rel=>exact⟨i+1,by omega,by go_num,HD2.o,by rw[HV2.o],hb⟩
      case measure=>simp[intOf];omega
   ·have hil:i=l.length:=by omega
    subst hil
    rw[List.take_length] at hd hvs⊢
    obtain rfl:q=some (qf l):=by rw[<-HQ.o,HF.o hd]
    generalize qf l=n at*
    clear hd
    go_wp2_with fail
    go_returns
    exact⟨by simp,hb⟩
def yB (l:aH):Int:=match tZ l with|some c=>(c.many:Int)|none=> -1
theorem WM (l:aH) (w:World):Calls Tryz.prog 94 #[.string (fD l)] w (PV (iv (yB l)) w):=by
 unfold yB
 cases hc:tZ l with
 |some c=>
  obtain rfl:=Io hc
  clear hc
  cases c <;>
  ·show Calls _ _ _ _ (PV _ w)
   dsimp only[kz.word,kz.many]
   go_enter Tryz.func94,Tryz.ntmps94
   go_wp2_with fail
   go_returns
   exact⟨by simp,aG _ _⟩
 |none=>
  have n0:(l==[114,111,119])=false:=jH.2 (fO hc .row)
  have n1:(l==[108,101,102,116])=false:=jH.2 (fO hc .left)
  have n2:(l==[116,97,108,108,121])=false:=jH.2 (fO hc .tally)
  have n3:(l==[119,97,115,104])=false:=jH.2 (fO hc .Aa)
  have n4:(l==[117,110,116,97,108,108,121])=false:=jH.2 (fO hc .lI)
  have n5:(l==[114,97,116,101])=false:=jH.2 (fO hc .rate)
  have n6:(l==[98,111,120])=false:=jH.2 (fO hc .box)
  have n7:(l==[110,111,116,101])=false:=jH.2 (fO hc .note)
  have n8:(l==[118,111,105,100])=false:=jH.2 (fO hc .void)
  have n9:(l==[115,116,97,114,116])=false:=jH.2 (fO hc .start)
  have n10:(l==[119,101,116])=false:=jH.2 (fO hc .bU)
  have n11:(l==[116,117,114,110])=false:=jH.2 (fO hc .turn)
  have n12:(l==[117,110,116,117,114,110])=false:=jH.2 (fO hc .oJ)
  have n13:(l==[105,114,111,110])=false:=jH.2 (fO hc .Au)
  have n14:(l==[117,110,114,101,97,100])=false:=jH.2 (fO hc .unread)
  have n15:(l==[104,101,97,112])=false:=jH.2 (fO hc .heap)
  have n16:(l==[115,116,114,111,110,103])=false:=jH.2 (fO hc .strong)
  have n17:(l==[99,97,115,107])=false:=jH.2 (fO hc .qg)
  have n18:(l==[102,105,108,108])=false:=jH.2 (fO hc .fill)
  have n19:(l==[116,114,121])=false:=jH.2 (fO hc .Bl)
  have n20:(l==[117,110,116,114,121])=false:=jH.2 (fO hc .uQ)
  clear hc
  show Calls _ _ _ _ (PV (iv (-1)) w)
  go_enter Tryz.func94,Tryz.ntmps94
  go_wp2_with fail
  go_returns
  exact⟨by simp,aG _ _⟩
def O1 (m:Int) (ps:List aH):Option (List Int):=if m=(ps.length:Int) then lU ps else none
def numsOf (l:aH):Option (List Int):=O1 (yB ((dB l).headD [])) (dB l).tail
theorem Tc {l:aH} (h:tZ l=none):yB l= -1:=by unfold yB;rw[h]
theorem S9 {l:aH} {c:kz} (h:tZ l=some c):yB l=c.many:=by unfold yB;rw[h]
theorem Du (l:aH):numsOf l=(qh l).map (·.2):=by
 unfold numsOf qh
 generalize (dB l).headD []=a
 generalize (dB l).tail=ps
 cases hc:tZ a with
 |none=>rw[Tc hc];unfold O1;rw[ak (by omega)];rfl
 |some c=>
  rw[S9 hc,Option.bind_some]
  unfold O1
  by_cases h:ps.length=c.many
  ·rw[aF h,aF (by omega)];cases lU ps <;>rfl
  ·rw[ak h,ak (by omega)];rfl
theorem ZV (l:aH): -1<=yB l/\yB l<=5:=by
 unfold yB
 cases hc:tZ l with
 |none=>decide
 |some c=>cases c <;>decide
def aiA (q:Option (List Int)) (w:World) (e:Ending) (w':World):Prop:=Below w.heap.size w w'/\ ∃v,e= .returned (.tuple #[v,.bool q.isSome])/\((q=none/\v= .slice none 0 0)∨ ∃n,q=some n/\w'.ownsRow w.heap.size 3 1 v n.length (ah n))
theorem L6 (l:aH) (w:World) (hl:l.length<=1000):Calls Tryz.prog 54 #[.string (fD l)] w (aiA (numsOf l) w):=by
 have HW:=ae (Am l w hl)
 obtain⟨q,hq⟩: ∃q,numsOf l=q:=⟨_,rfl⟩
 rw[hq]
 unfold numsOf at hq
 have hwl:=Gf l
 have hmem:=fun x (hx:x∈dB l)=>Oa l x hx
 obtain⟨a,ps,hw⟩: ∃a ps,dB l=a::ps:=by
  cases h:dB l with
  |nil=>exact absurd h (kU l)
  |cons a ps=>exact⟨a,ps,rfl⟩
 rw[hw] at hq hwl hmem HW
 simp only[List.headD_cons,List.tail_cons,List.length_cons] at hq hwl
 obtain⟨m,hm0⟩: ∃m,yB a=m:=⟨_,rfl⟩
 rw[hm0] at hq
 have al9:=ae hmem
 have hmb:=ZV a
 have hma:=fun W=>WM a W
 rw[hm0] at hmb hma
 have HMA:=ae hma
 have HQ:=ae hq
 clear hq hw hmem hma hm0
 go_enter Tryz.func54,Tryz.ntmps54
 go_wp2_with fail
 refine HW.o.mono ?_
 rintro e W1 ⟨v,rfl,how,hB⟩
 obtain⟨o,c,rfl⟩:=aS how
 have hs1:=hB.size
 have HB1:=ae hB
 have HO1:=ae (aN.dE how)
 simp only[List.length_cons] at HO1
 obtain⟨b,off,rfl,hb,hc0⟩:=iw.cell (l:=a::ps) HO1.o (k:=0) (by simp)
 simp only[List.getElem_cons_zero,Nat.add_zero] at hc0
 clear how hB
 go_wp2_with fail
 refine(HMA.o W1).mono ?_
 rintro e W2 ⟨rfl,hB⟩
 have hs2:=hB.size
 have HB2:=ae (aW HB1.o hB)
 have Bg:=ae (aN.below HO1.o hB (ai _))
 clear hc0 hB
 by_cases hm:m=(ps.length:Int)
 ·subst hm
  have xK:Hid (lU ps=q):=ae (by have:=HQ.o;unfold O1 at this;rwa [aF rfl] at this)
  have hm':(ps.length:Int)+1-1=(ps.length:Int):=by omega
  have hpl:ps.length<=1000:=by omega
  clear hmb
  go_wp2_with fail
  go_loopw [5,6] (fun v u wr=> ∃(j:Nat) (ns:List Int) (o5:Option Addr) (c5:Nat),j<=ps.length/\u= .int .i64 (j+1:Nat)/\v= .slice o5 j c5/\lU (ps.take j)=some ns/\wr.ownsRow W2.heap.size 3 1 (.slice o5 j c5) j (ah ns)/\Below W2.heap.size W2 wr) (fun _ u _=>ps.length+1-(intOf u).toNat)
  case atStart=>exact⟨0,[],none,0,bQ _,rfl,rfl,rfl,⟨rfl,.inl ⟨rfl,rfl⟩⟩,aG _ _⟩
  case round=>
   obtain⟨j,ns,o5,c5,hj,rfl,rfl,hns,how,hB⟩:=hrel
   have hsB:=hB.size
   have HX:=ae (ag hns (ag how hB))
   by_cases hlt:j<ps.length
   ·obtain⟨b',off',he',hb',hc1⟩:=iw.cell (l:=a::ps) (aN.below Bg.o hB (ai _)) (k:=j+1) (by simp;omega)
    obtain⟨rfl,rfl⟩:b'=b/\off'=off:=by
     injection he' with h
     injection h with h1 h2
     exact⟨h1.symm,h2.symm⟩
    simp only[List.getElem_cons_succ] at hc1
    obtain⟨p,hp⟩: ∃p,ps[j]=p:=⟨_,rfl⟩
    rw[hp] at hc1
    have aeB:p.length<=1000:=by
     have:=al9.o p (by rw[<-hp];exact qG _ (cZ _))
     omega
    have HNA:=ae (OD p wr aeB)
    have UW:Hid (ps.take (j+1)=ps.take j++[p]):=ae (by rw[iE hlt,hp])
    have HP:Hid (ps[j]? =some p):=ae (by rw[dP hlt,hp])
    have hgd:((j+1:Nat):Int)<(ps.length:Int)+1:=by omega
    clear hns how hB he' hp
    go_wp2_with fail
    refine HNA.o.mono ?_
    rintro e W4 ⟨rfl,hb4⟩
    have hs4:=hb4.size
    have HB4:=ae (aW HX.o.2.2 hb4)
    have U6:=ae (aB (Ms:=[]) HX.o.2.1 (Ext.aA hb4) (by simp))
    cases hnb:lu p with
    |none=>
     obtain rfl:q=none:=by rw[<-xK.o];exact J9 ps j p HP.o hnb
     clear hb4 hnb HNA hc1
     simp only[Option.isSome_none]
     go_wp2_with fail
     go_returns
     exact⟨aW HB2.o HB4.o,_,by simp,.inl ⟨rfl,rfl⟩⟩
    |some x=>
     have HN4:=ae hnb
     clear hb4 hnb HNA hc1
     simp only[Option.isSome_some,Option.getD_some]
     go_wp2_with (at_builtin;go_loud (refine dV rfl _ _ rG rfl W2.heap.size (.slice o5 j c5) j (ah ns) rfl (aB (Ms:=[]) U6.o (Ext.aA (aj (aG _ _) _)) (by simp)) (.slice (some ⟨W4.heap.size,0,none⟩) 1 1) 1 (ah [x]) rfl (aN.dw 1 1 (ax _ _) rfl (by decide)) (jC _) (by omega) (by omega) (by simp;omega) ?_))
     intro v' Wc hown hgr hcase
     obtain⟨Vk,O0,rfl⟩:=aS hown
     rw[<-MQ] at hown
     have hwB:Below W4.heap.size W4 (W4.alloc (.cells #[iv x] 3)):=aj (aG _ _) _
     have HY:=ae (ag hown (Below.grown (aW HB4.o hwB) hgr (by have:=hwB.size;omega) (fun g e=>(bH U6.o g e).1)))
     clear hown hgr hcase hwB
     go_wp2_with fail
     go_roundw
     case rel=>exact⟨j+1,ns++[x],Vk,O0,by omega,by go_num,rfl,by rw[UW.o];exact GL _ _ _ _ HX.o.1 HN4.o,HY.o.1,HY.o.2⟩
     case measure=>simp[intOf];omega
   ·have hjl:j=ps.length:=by omega
    subst hjl
    rw[List.take_length] at hns
    obtain rfl:q=some ns:=by rw[<-xK.o,hns]
    have HNL:=ae (J8 hns)
    have hgd: ¬((ps.length+1:Nat):Int)<(ps.length:Int)+1:=by omega
    clear hns how hB
    go_wp2_with fail
    go_returns
    exact⟨aW HB2.o HX.o.2.2,.slice o5 ps.length c5,by simp,.inr ⟨ns,rfl,by rw[HNL.o];exact dm HX.o.2.1 HB2.o.size⟩⟩
 ·have hm': ¬(m=(ps.length:Int)+1-1):=by omega
  obtain rfl:q=none:=by have:=HQ.o;unfold O1 at this;rw[ak hm] at this;exact this.symm
  go_wp2_with fail
  go_returns
  exact⟨HB2.o,_,by simp,.inl ⟨rfl,rfl⟩⟩
end Go.Proofs.YthbpmepjmebolaaGreatDoor.Bk
end

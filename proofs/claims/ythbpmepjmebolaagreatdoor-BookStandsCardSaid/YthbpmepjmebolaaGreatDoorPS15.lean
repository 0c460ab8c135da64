/-
  Texts of this claim, packed by a program: EC EG YK EJ EH FB EL EM FC ED EK FA FD FE EO EP EQ ER.
-/
import Derived.WalkKit
import Derived.WalkLawsBesides
import Derived.WalkSpells
import Derived.Outline
import Derived.Handy
import Derived.KernelRfl
import Derived.Lib.Hide
import Derived.Lib.BufferWrite
import Derived.Laws.CopyOwn
import Derived.BigRegion
import Derived.Laws.DeepStrings4
import Derived.Laws.BytesArg
import Derived.Test.YthbpmepjmebolaaGreatDoorPS14
set_option maxHeartbeats 8000000
set_option maxRecDepth 100000
set_option linter.all false
section
namespace Go.Proofs.YthbpmepjmebolaaGreatDoor.Bk
open Go.RowKit Go.RG Go.SL Go.Shelf ji Go.TB Go.Proofs.YthbpmepjmebolaaGreatDoor.yR
theorem oG (l:aH):(fD l).size=l.length:=by simp[ByteArray.size]
abbrev uv (c:UInt8):Value:= .int .u8 (c.toNat:Int)
theorem Bf (a b:aH):fD a++fD b=fD (a++b):=by
 apply ByteArray.ext
 simp
theorem ZW (l:aH) (a b:Nat):(fD l).extract a b=fD ((l.take b).drop a):=by
 apply ByteArray.ext
 simp[List.drop_take]
theorem qj {P:Program} {a b c:aH} (hc:c=a++b) (h:a.length+b.length<=1000000000) (W:World):(Op.stringOp .add (fD a) (fD b)).run P W= .ok (.string (fD c)) W:=by
 have h1:=oG a
 have h2:=oG b
 subst hc
 unfold Op.stringOp
 rw[ak (by rw[h1,h2];have:IntKind.i64.max=9223372036854775807:=rfl;omega),Bf]
 simp
theorem Ig: ∀(l:aH) (k:Nat) (c:UInt8),jH k (l++[c])=jH k l+(k+l.length)*c.toNat:=by
 intro l
 induction l with
 |nil=>intro k c;simp[jH]
 |cons x l ih=>intro k c;simp only[List.cons_append,jH,ih,List.length_cons];rw[show k+1+l.length=k+(l.length+1) from by omega];omega
theorem Du: ∀(l:aH) (k:Nat),k+l.length<=62->jH k l<=15810*l.length:=by
 intro l
 induction l with
 |nil=>intro k _;exact ai _
 |cons x l ih=>
  intro k h
  simp only[List.length_cons] at h
  have h1:=ih (k+1) (by omega)
  have h2:k*x.toNat<=62*255:=Nat.mul_le_mul (by omega) (by have:=x.toNat_lt;omega)
  simp only[jH,List.length_cons]
  omega
theorem aeg (m:Nat) (h:m<=62*255):wrap64 (m:Int)=m:=IntWalk.wrap64_in _ ⟨by omega,by omega⟩
theorem aef (i S m:Nat) (h1:i<=1000) (h2:S<=948600) (h3:m<=62*255):wrap64 (29*((i:Int)+1)+S+m)=29*((i:Int)+1)+S+m:=IntWalk.wrap64_in _ ⟨by omega,by omega⟩
theorem uZ (i:Nat) (line:aH) (w:World) (hi:i<=1000) (hl:line.length<=60):Calls Tryz.prog 245 #[iv i,.string (fD line)] w (PV (iv (sS i line)) w):=by
 have hsz:=oG line
 go_enter Tryz.func245,Tryz.ntmps245
 go_wp2_with fail
 go_loopw [5,12] (fun s u wr=> ∃j:Nat,j<=line.length/\u= .int .i64 j/\s= .int .i64 ((29*(i+1)+jH 2 (line.take j):Nat):Int)/\Below w.heap.size w wr) (fun _ u _=>line.length-(intOf u).toNat)
 case atStart=>exact⟨0,bW _,rfl,by simp[jH];try omega,aG _ _⟩
 case round=>
  obtain⟨j,hj,rfl,rfl,hb⟩:=hrel
  by_cases hlt:j<line.length
  ·have hle:=Du (line.take j) 2 (by simp;omega)
   have hlj:(line.take j).length=j:=by simp;omega
   rw[hlj] at hle
   obtain⟨c,hc⟩: ∃c,line[j]=c:=⟨_,rfl⟩
   have hcx:(fD line)[j]'(by rw[hsz];exact hlt)=c:=by rw[<-hc];rfl
   have hcl:=c.toNat_lt
   have hmul:(j+2)*c.toNat<=62*255:=Nat.mul_le_mul (by omega) (by omega)
   have hst:jH 2 (line.take (j+1))=jH 2 (line.take j)+(2+j)*c.toNat:=by
    rw[ig hlt,Ig,hlj,hc]
   have HST:=ae hst
   generalize hS:jH 2 (line.take j)=S at*
   obtain⟨m,hm⟩: ∃m,(j+2)*c.toNat=m:=⟨_,rfl⟩
   have hmI:((j:Int)+2)*(c.toNat:Int)=(m:Int):=by rw[<-hm];simp
   have HM:Hid ((2+j)*c.toNat=m):=ae (by rw[<-hm,Nat.add_comm])
   rw[hm] at hmul
   have ajY:S<=948600:=by omega
   have w1:wrap64 (m:Int)=m:=aeg m hmul
   have w2:wrap64 (29*((i:Int)+1)+S+m)=29*((i:Int)+1)+S+m:=aef i S m hi ajY hmul
   clear hst hS hlj hc hm
   go_wp2_with fail
   refine⟨⟨j+1,by omega,by go_num,?_,hb⟩,by simp[intOf];omega⟩
   rw[HST.o,HM.o]
   congr 1
   omega
  ·have hjl:j=line.length:=by omega
   subst hjl
   have hle:=Du line 2 (by omega)
   rw[List.take_length]
   have HC:Hid (((29*(i+1)+jH 2 line:Nat):Int)%9949=(sS i line:Nat)):=ae (by unfold sS;omega)
   obtain⟨S,hS⟩: ∃S,29*(i+1)+jH 2 line=S:=⟨_,rfl⟩
   rw[hS] at HC⊢
   clear hle hS
   go_wp2_with fail
   go_returns
   exact⟨by simp[HC.o],hb⟩
abbrev kG (n:Int):Prop:= -1000000000<=n/\n<=1000000000
theorem qy {n:Int} (h:kG n):(Lib.itoa n).length<=11:=by
 unfold Lib.itoa
 split
 ·have:=RS 9 n.natAbs (by omega)
  simp only[List.length_cons];omega
 ·have:=RS 9 n.toNat (by omega)
  omega
theorem xG (n:Int) (h:kG n) (w:World) (hE:Env w):Calls Tryz.prog 59 #[iv n] w (PV (.string (fD (Lib.itoa n))) w):=by
 refine(Go.Proofs.Tryz.strconv_Itoa n (by omega) (by omega) w (Ui hE (by kernel_rfl))).mono ?_
 rintro e w2 ⟨rfl,k,os,rfl⟩
 exact⟨rfl,F8 w k os⟩
def gQ (word:aH) (r:dP):aH:=word++[32]++Lib.itoa r.1++[46,46]++Lib.itoa r.2++[10]
theorem BB {word:aH} {r:dP} (h1:kG r.1) (h2:kG r.2):(gQ word r).length<=word.length+26:=by
 have:=qy h1
 have:=qy h2
 simp only[gQ,dm,List.length_cons,List.length_nil]
 omega
theorem ry (word:aH): ∀{l:List dP},(∀r∈l,kG r.1/\kG r.2)->(l.flatMap (gQ word)).length<=(word.length+26)*l.length:=by
 intro l
 induction l with
 |nil=>intro _;simp
 |cons r l ih=>
  intro h
  have h1:=h r (by simp)
  have h2:=BB (word:=word) h1.1 h1.2
  have h3:=ih (fun x hx=>h x (by simp[hx]))
  rw[List.flatMap_cons,dm,List.length_cons,Nat.mul_add]
  omega
theorem rF (B b:Nat) (bs word:aH) (r:dP) (w:World) (h:Buf B b bs w) (hBw:B<=w.heap.size) (hB4:4<=B) (hE:Env w) (h1:kG r.1) (h2:kG r.2) (hlen:bs.length+(word.length+26)<=1000000):
 Calls Tryz.prog 57 #[.string (fD word),iv r.1,iv r.2,.pointer (some ⟨b,0,none⟩)] w fun e w'=>(∃v,e= .returned v)/\Buf B b (bs++gQ word r) w'/\Wr B w w':=by
 have HE:Hid (∀W,Below w.heap.size w W->Env W):=ae (fun W hb=>hE.below hb (ai _))
 have HBu:=ae h
 have HS:=ae (ag h1 h2)
 have l1:=qy h1
 have l2:=qy h2
 obtain⟨s1,hs1⟩: ∃s,Lib.itoa r.1=s:=⟨_,rfl⟩
 obtain⟨s2,hs2⟩: ∃s,Lib.itoa r.2=s:=⟨_,rfl⟩
 rw[hs1] at l1
 rw[hs2] at l2
 have a1:=fun W=>qj (P:=Tryz.prog) (a:=word) (b:=[32]) rfl (by simp;omega) W
 have a2:=fun W=>qj (P:=Tryz.prog) (a:=word++[32]) (b:=s1) rfl (by simp;omega) W
 have a3:=fun W=>qj (P:=Tryz.prog) (a:=word++[32]++s1) (b:=[46,46]) rfl (by simp;omega) W
 have a4:=fun W=>qj (P:=Tryz.prog) (a:=word++[32]++s1++[46,46]) (b:=s2) rfl (by simp;omega) W
 have a5:=fun W=>qj (P:=Tryz.prog) (a:=word++[32]++s1++[46,46]++s2) (b:=[10]) rfl (by simp;omega) W
 have HW:Hid (gQ word r=word++[32]++s1++[46,46]++s2++[10]):=ae (by unfold gQ;rw[hs1,hs2])
 have H1:=ae hs1
 have H2:=ae hs2
 obtain⟨lo,hi⟩:=r
 simp only at*
 clear h hE h1 h2 hs1 hs2
 go_enter Tryz.func57,Tryz.ntmps57
 go_wp2_with fail
 refine(xG lo HS.o.1 _ (HE.o _ (aG _ _))).mono ?_
 rintro e w1 ⟨rfl,hb1⟩
 rw[H1.o]
 have HB1:=ae hb1
 clear hb1
 go_wp2_with fail
 refine(xG hi HS.o.2 _ (HE.o _ HB1.o)).mono ?_
 rintro e w2 ⟨rfl,hb2⟩
 rw[H2.o]
 have HB2:=ae (bg HB1.o hb2)
 have hs2:=HB2.o.size
 have e5:fD (word++32::s1)++{data:= #[46,46]}++fD s2++{data:= #[10]}=fD (word++[32]++s1++[46,46]++s2++[10]):=by
  show fD (word++32::s1)++fD [46,46]++fD s2++fD [10]=_
  rw[Bf,Bf,Bf]
  simp
 clear hb2
 go_wp2_with fail
 refine(uI B b bs _ w2 (HBu.o.below HB2.o) (by omega) (by simp;omega)).mono ?_
 rintro e w3 ⟨⟨v,rfl⟩,h3,h4⟩
 have H3:=ae (ag h3 h4)
 clear h3 h4 e5
 go_wp2_with fail
 go_end0
 refine⟨⟨_,rfl⟩,?_,(Wr.az HB2.o (by omega)).trans H3.o.2⟩
 rw[HW.o]
 simpa using H3.o.1
theorem vT {α:Type} {l:List α} {i:Nat} {d:α} (h:i<l.length):l.getD i d=l[i]:=by simp[List.getD,h]
theorem OW (n:Nat) (ls:List (List Int)): ∀k,k<=ls.length->k≠0-> ∀i,i<n->
 (∀l∈ls.take k,((bu n ls k).getD i (0,0)).1<=l.getD i 0/\l.getD i 0<=((bu n ls k).getD i (0,0)).2)/\
 (∃l∈ls.take k,((bu n ls k).getD i (0,0)).1=l.getD i 0)/\(∃l∈ls.take k,((bu n ls k).getD i (0,0)).2=l.getD i 0):=by
 intro k
 induction k with
 |zero=>intro _ h;exact absurd rfl h
 |succ k ih=>
  intro hk _ i hi
  have hk':k<ls.length:=by omega
  have ht:ls.take (k+1)=ls.take k++[ls[k]]:=ig hk'
  have hg:ls.getD k []=ls[k]:=vT hk'
  by_cases h0:k=0
  ·subst h0
   have e:(bu n ls 1).getD i (0,0)=((ls[0]).getD i 0,(ls[0]).getD i 0):=by
    simp only[bu,eP,hg]
    rw[vT (by simp;omega)]
    simp
   rw[e]
   simp only[Nat.zero_add] at ht⊢
   rw[ht]
   exact⟨fun l hl=>by obtain rfl:=eY.1 (by simpa using hl);exact⟨Int.le_refl _,Int.le_refl _⟩,⟨ls[0],by simp,rfl⟩,⟨ls[0],by simp,rfl⟩⟩
  ·obtain⟨h1,⟨l2,hl2,h2⟩,⟨l3,hl3,h3⟩⟩:=ih (by omega) h0 i hi
   have hlen:=oU n ls k h0
   have e:(bu n ls (k+1)).getD i (0,0)=wid ((bu n ls k).getD i (0,0)) ((ls[k]).getD i 0):=by
    simp only[bu,eP,hg,h0,if_false]
    rw[vT (by simp;omega)]
    simp[hi]
   rw[e,ht]
   generalize (bu n ls k).getD i (0,0)=r at*
   simp only[wid]
   refine⟨fun l hl=>?_,?_,?_⟩
   ·rcases iK.1 hl with hl|hl
    ·have:=h1 l hl;omega
    ·obtain rfl:=eY.1 hl;omega
   ·by_cases hc:r.1<=(ls[k]).getD i 0
    ·exact⟨l2,nS _ hl2,by omega⟩
    ·exact⟨ls[k],sZ _ (eY.2 rfl),by omega⟩
   ·by_cases hc:(ls[k]).getD i 0<=r.2
    ·exact⟨l3,nS _ hl3,by omega⟩
    ·exact⟨ls[k],sZ _ (eY.2 rfl),by omega⟩
theorem OX {n:Nat} {ls:List (List Int)} (h:ls≠[]):(qZ n ls).length=n:=oU n ls _ (by cases ls <;>simp_all)
theorem SE {n:Nat} {ls:List (List Int)} (h:ls≠[]) {i:Nat} (hi:i<n):
 (∀l∈ls,((qZ n ls).getD i (0,0)).1<=l.getD i 0/\l.getD i 0<=((qZ n ls).getD i (0,0)).2)/\
 (∃l∈ls,((qZ n ls).getD i (0,0)).1=l.getD i 0)/\(∃l∈ls,((qZ n ls).getD i (0,0)).2=l.getD i 0):=by
 have:=OW n ls ls.length (ai _) (by cases ls <;>simp_all) i hi
 rwa [List.take_length] at this
structure Ur (s:jI):Prop where
 field:fM s.led.field true=0
 led:iJ s.led=0
 heap:uX s.heap=0
 ask:jA.jf s.heap s.heap.turns=0
 keeps:jA.mZ s.heap s.heap.turns≠2
 df:pU s.df=0
 Z4:iV s.df true=0
theorem UO {s:jI}:bH s=0↔Ur s:=by
 unfold bH
 constructor
 ·intro h
  split at h;· omega
  split at h;· omega
  split at h;· omega
  split at h;· omega
  split at h;· omega
  split at h;· omega
  split at h;· omega
  rename_i a b c d e f g
  exact⟨by simpa using a,by simpa using b,by simpa using c,by simpa using d,e,by simpa using f,by simpa using g⟩
 ·rintro⟨a,b,c,d,e,f,g⟩
  simp[a,b,c,d,e,f,g]
theorem Ll:bH dX=0:=by decide+kernel
theorem aa3 (ls:List aH):Good (fJ bH dX ls).1/\Ur (fJ bH dX ls).1:=⟨IU _ GH,UO.1 (MW _ Ll)⟩
theorem MX {ls:List aH} (h:fH ls=0):Good (iD ls)/\Ur (iD ls):=by
 unfold iD
 rw[aC h]
 exact aa3 ls
theorem RH {f:bP} (h:fM f true=0): ∀r∈AY f,kG r.1/\kG r.2:=by
 intro r hr
 have hf:jS f=0:=by
  unfold fM at h
  split at h
  ·omega
  ·rename_i hq;simpa using hq
 unfold AY at hr
 obtain⟨i,_,rfl⟩:=iW.1 hr
 have:=J3 (iC hf) (bQ f []) (i:Int) _ (ai _)
 exact⟨⟨by omega,by omega⟩,by omega,by omega⟩
theorem Nz {l:aQ} (h:iJ l=0):(mY l).length<=5/\ ∀i∈mY l,0<=i/\i<=4:=by
 obtain⟨hS,hp⟩:=oQ h
 obtain⟨_,h2,_⟩:=NC hp
 have hm:=hS.many
 refine⟨by have:=h2.len;omega,fun i hi=>?_⟩
 have:=((KH _ _).1 h2).2 i hi
 omega
theorem Qx {l:aQ} (h:gJ l true=0): ∀r∈Bg nY l (fU l),kG r.1/\kG r.2:=by
 intro r hr
 obtain⟨hS,hp⟩:=O1 h
 obtain⟨i,hi,rfl⟩:=lV hr
 have hl:=Um hp nY
 have afK:=ZX hp nY (i:=i) (by omega)
 rw[vT hi] at afK
 have key: ∀d∈fU l,jv l [] d=true-> -2000<=(nY (d.getD i 0) ((kD l [] d).getD i (0,0))).1/\(nY (d.getD i 0) ((kD l [] d).getD i (0,0))).2<=2000/\ -2000<=(nY (d.getD i 0) ((kD l [] d).getD i (0,0))).2/\(nY (d.getD i 0) ((kD l [] d).getD i (0,0))).1<=2000:=fun d hd hc=>by
  have hb:=Na hS hd hc (i:=i) (by omega)
  obtain⟨t,ht,rfl⟩:=Jd.1 hd
  have hF:=iC hS.field
  have hw:=hF.wE
  have hd2:=Gl (rate:=l.rate) (by have:=hS.rate;omega) hS.rate.2 t (aa0 hS ht) i (by omega)
  unfold nY
  simp only
  omega
 obtain⟨⟨⟨y,⟨d,hd,hc,rfl⟩,hy⟩,_⟩,⟨⟨z,⟨e,he,hce,rfl⟩,hz⟩,_⟩⟩:=afK
 have k1:=key d hd hc
 have k2:=key e he hce
 exact⟨⟨by omega,by omega⟩,by omega,by omega⟩
theorem FW {s:jI} (hG:Good s) (hS:Ur s):(jA.jM s.heap s.heap.turns).length=5/\kG ((jA.jM s.heap s.heap.turns).getD 4 (0,0)).1/\kG ((jA.jM s.heap s.heap.turns).getD 4 (0,0)).2:=by
 have hl:=hG.heap.1
 unfold jA.jM
 rw[aC hS.ask,hl]
 have hne:jB s.heap s.heap.turns≠[]:=by
  have ha:=hS.ask
  unfold jA.jf at ha
  split at ha;· omega
  split at ha;· omega
  split at ha;· omega
  rename_i hq
  exact Rw (by cases hq2:dN s.heap [] <;>simp_all)
 have hb: ∀y∈jB s.heap s.heap.turns,0<=y.getD 4 0/\y.getD 4 0<=900:=fun y hy=>by
  obtain⟨t,ht,rfl⟩:=(Fp _ _ _).1 hy
  have hSo:=EN hS.heap
  obtain⟨a1,a2,a3⟩:=jA.Aa hSo ht
  have hw:=hG.UE
  have hbd:=N8 s.heap.turns hSo.MG hSo.MF hSo.Ou hSo.Ot a2.1 a2.2 a3 (by omega)
  by_cases h4:4<(kW s.heap t s.heap.turns).length
  ·rw[vT h4]
   exact hbd _ (bY _)
  ·rw[ik,List.getElem?_eq_none (by omega)]
   exact⟨by decide,by decide⟩
 obtain⟨_,⟨y,hy,e1⟩,⟨z,hz,e2⟩⟩:=SE hne (n:=5) (i:=4) (by omega)
 have b1:=hb y hy
 have b2:=hb z hz
 refine⟨OX hne,?_,?_⟩
 ·show kG ((qZ 5 (jB s.heap s.heap.turns)).getD 4 (0,0)).1
  rw[e1]
  exact⟨by omega,by omega⟩
 ·show kG ((qZ 5 (jB s.heap s.heap.turns)).getD 4 (0,0)).2
  rw[e2]
  exact⟨by omega,by omega⟩
theorem Dh (h:bZ) (t:List Int):kG (jA.mZ h t):=by
 unfold jA.mZ
 split
 ·exact⟨by decide,by decide⟩
 ·split
  ·exact⟨by decide,by decide⟩
  ·split <;>exact⟨by decide,by decide⟩
theorem Gv {c:bJ} (h:iV c true=0): ∀r∈jr c,kG r.1/\kG r.2:=by
 intro r hr
 obtain⟨hS,h0,_⟩:=GL h
 unfold jr at hr
 obtain⟨i,hi,rfl⟩:=iW.1 hr
 have hi':=lT.1 hi
 have:=TI hS mr h0 (i:=c.heaps.length+i) (by unfold mV;omega) _ (ai _)
 unfold Ad
 exact⟨⟨by omega,by omega⟩,by omega,by omega⟩
abbrev RJ:aH:=[100,111,110,101]
abbrev lvW:aH:=[108,101,97,118,101]
abbrev Px:aH:=[111,119,101,100]
abbrev TU:aH:=[104,101,97,116]
abbrev TT:aH:=[107,101,101,112,115,32]
abbrev Bd:aH:=[99,97,115,107]
def X0 (i:Int):aH:=32::Lib.itoa i
theorem TG: ∀l:List Int,(∀i∈l,0<=i/\i<=4)->(l.flatMap X0).length<=12*l.length:=by
 intro l
 induction l with
 |nil=>intro _;simp
 |cons a l ih=>
  intro h
  have h2:=ih (fun i hi=>h i (by simp[hi]))
  have h3:=h a (by simp)
  have h4:=qy (n:=a) ⟨by omega,by omega⟩
  have h5:(X0 a).length=(Lib.itoa a).length+1:=rfl
  rw[List.flatMap_cons,dm,List.length_cons]
  omega
def E8 (s:jI):aH:=if mY s.led=[] then(Bg nY s.led (fU s.led)).flatMap (gQ Px) else[]
def FX (s:jI):aH:=gQ TU ((jA.jM s.heap s.heap.turns).getD 4 (0,0))
def keepR (s:jI):aH:=TT++Lib.itoa (jA.mZ s.heap s.heap.turns)++[10]
def nM (s:jI):aH:=
 (AY s.led.field).flatMap (gQ RJ)++lvW++(mY s.led).flatMap X0++[10]++E8 s++FX s++keepR s++(jr s.df).flatMap (gQ Bd)
def J7 (ls:List aH):aH:=if fH ls=0 then nM (iD ls) else[]
def akr (ls:List aH) (w:World) (e:Ending) (w':World):Prop:=Below w.heap.size w w'/\e= .returned (.tuple #[.string (fD (J7 ls)),iv (fH ls)])
structure Xz (W3:World) (bs:aH) (W:World):Prop where
 below:Below W3.heap.size W3 W
 buf:Buf W3.heap.size W3.heap.size bs W
 lt:W3.heap.size<W.heap.size
 len:bs.length<=500000
theorem Xz.call {W3:World} {bs:aH} {W W':World} (h:Xz W3 bs W) (hb:Below W.heap.size W W'):Xz W3 bs W':=
 ⟨h.below.trans (hb.mono (by have:=h.lt;omega)),h.buf.below hb,gy h.lt hb.size,h.len⟩
theorem Xz.wrote {W3:World} {bs bs':aH} {W W':World} (h:Xz W3 bs W) (hb:Buf W3.heap.size W3.heap.size bs' W') (hw:Wr W3.heap.size W W') (hl:bs'.length<=500000):Xz W3 bs' W':=
 ⟨h.below.trans hw.below,hb,gy h.lt hw.size,hl⟩
theorem uM {α:Type} {l:List α} (f:α->aH) {k:Nat} (hk:k<l.length):(l.take (k+1)).flatMap f=(l.take k).flatMap f++f l[k]:=by
 rw[ig hk,uF,List.flatMap_cons,List.flatMap_nil,List.append_nil]
theorem SS (lv:Value) (ls:List aH) (w:World) (hls:iO w lv ls) (hE:Env w) (hln: ∀l∈ls,l.length<=1000000):Calls Tryz.prog 33 #[lv] w (akr ls w):=by
 have Iq:=ae hls
 have HE:Hid (∀W,Below w.heap.size w W->Env W):=ae (fun W hb=>hE.below hb (ai _))
 have Tv:=ae hln
 have h4:=hE.size
 clear hls hE hln
 obtain⟨q,hq⟩: ∃q,fH ls=q:=⟨_,rfl⟩
 have HQ:=ae hq
 go_enter Tryz.func33,Tryz.ntmps33
 go_wp2_with fail
 refine(yf lv ls w (Iq.o) (HE.o _ (aG _ _)) (Tv.o) [] (by simp)).mono ?_
 rintro e W2 ⟨hb2,V,es,cv,he,hX,hC⟩
 rw[hq] at he
 subst he
 obtain⟨co,cc,rfl⟩:=aV hC
 have hs2:=hb2.size
 have hS2:=hX W2 (Ext.refl _ _)
 rename_i hK
 refine hK _ _ ?_
 refine aO rfl _ (by go_simp;first|rfl|exact⟨rfl,rfl⟩) ?_
 simp only[zp]
 refine aO rfl _ (by go_simp;first|rfl|exact⟨rfl,rfl⟩) ?_
 simp only[zp]
 refine aO rfl _ (by go_simp;first|rfl|exact⟨rfl,rfl⟩) ?_
 simp only[zp]
 refine aO rfl _ (by go_simp;first|rfl|exact⟨rfl,rfl⟩) ?_
 simp only[zp]
 obtain⟨g,hg⟩: ∃g,g=W2.heap.size:=⟨_,rfl⟩
 refine aO rfl (w':=W2.alloc (.cells eG 46 (0,0))) (.pointer (some ⟨g,0,none⟩)) (by rw[hg];go_simp;try rfl) ?_
 simp only[zp]
 have hz2:(W2.alloc (.cells eG 46 (0,0))).heap[g]? =some (.cells eG 46 (0,0)):=by rw[hg];exact ay _ _
 refine wpList_store_row rfl _ _ _ rfl g (dL (iD ls) V) (by as_aux_lemma=>kernel_rfl) (by as_aux_lemma=>kernel_rfl) _ eG hz2 (by kernel_rfl) (by as_aux_lemma=>kernel_rfl) (by rw[ny];exact fun u hu=>iR hS2 u (nR.2 hu)) ?_
 simp only[zp]
 refine jX fun W3 hW3=>?_
 obtain⟨yG,mg⟩: ∃yG,yG=W2.alloc (.cells eG 46 (0,0)):=⟨_,rfl⟩
 rw[<-mg] at hW3 hz2
 have vS:Ext [g] yG W3:=by rw[hW3];exact fP
 have hs3:=vS.size
 have hs2':yG.heap.size=g+1:=by rw[mg,hg];simp
 have nP:Below W2.heap.size W2 W3:=je (by rw[mg];exact aj (aG _ _) _) vS (by omega)
 have hk3:W3.heap[g]? =some (.cells (dL (iD ls) V) 46 (0,0)):=by rw[hW3];exact setRow_heap _ _ _ _ _ _ hz2
 have hb3:=bg hb2 nP
 have hg3:w.heap.size<=g:=by omega
 have hgs:g<W3.heap.size:=by omega
 have H3:=ae (ag hb3 (ag hk3 (hS2.below nP (ai _))))
 clear hX hC hW3 mg vS nP hb2 hS2 hz2 hK hs2 hs3 hs2' hg hb3
 clear hq
 obtain⟨vt,vn,vw,vu,vr,vh,vk,vs⟩:=V
 obtain⟨c3,f3,l3⟩:=af hk3
 by_cases hz:q=0
 rotate_left
 ·go_wp2_with fail
  go_returns
  have hqq:fH ls≠0:=by rw[HQ.o];exact hz
  have h1:J7 ls=[]:=by unfold J7;rw[ak hqq]
  exact⟨H3.o.1,by rw[h1,HQ.o];simp⟩
 subst hz
 have jo:=ae (MX HQ.o)
 have hrb:J7 ls=nM (iD ls):=by unfold J7;rw[aC HQ.o]
 have LD:=ae hrb
 clear hrb
 generalize iD ls=s at*
 go_upto_region 5 with(fail)
 refine dQ fun W4 Em=>?_
 have hr4:Xz W3 [] W4:=by
  rw[Em]
  exact⟨(aG _ _).alloc (ai _) _,.inl ⟨ai _,.slice none 0 0,ay _ _,⟨rfl,.inl ⟨rfl,rfl⟩⟩,by simp[Value.ownBlock],fun q hq=>by cases hq⟩,by simp,by simp⟩
 have HR4:=ae hr4
 have HC:Hid (∀W,Below W3.heap.size W3 W->W.heap[g]? =some (.cells (dL s ⟨vt,vn,vw,vu,vr,vh,vk,vs⟩) 46 (0,0))):=ae (fun W hb=>(hb.block g hgs).trans hk3)
 have HST:Hid (∀W,Below W3.heap.size W3 W->oZ W s ⟨vt,vn,vw,vu,vr,vh,vk,vs⟩ es):=ae (fun W hb=>H3.o.2.2.below hb (ai _))
 have XE:Hid (∀W,Below W3.heap.size W3 W->Env W):=ae (fun W hb=>HE.o W (bg H3.o.1 hb))
 clear Em hr4 hk3 c3 f3 l3
 obtain⟨c4,f4,l4⟩:=af (HC.o W4 HR4.o.below)
 go_wp2_with fail
 have HD:=ae (yj s.led.field vt W4 (HST.o W4 HR4.o.below).wF)
 refine HD.o.mono ?_
 rintro e W5 ⟨hb5,⟨hne,rfl⟩|⟨_,dv,rfl,hdv⟩⟩
 ·exact absurd jo.o.2.field hne
 obtain⟨D,hD⟩: ∃D,AY s.led.field=D:=⟨_,rfl⟩
 have hDl:D.length=2:=by rw[<-hD,V5,jo.o.1.aK];rfl
 have HDS:Hid (∀r∈D,kG r.1/\kG r.2):=ae (by rw[<-hD];exact RH jo.o.2.field)
 rw[hD] at hdv
 have HDE:=ae hD
 obtain⟨dO,dC,rfl⟩:=hdv.open
 have HR5:=ae (ag (HR4.o.call hb5) hdv)
 clear hb5 hdv hD c4 f4 l4
 go_wp2_with fail
 go_loopw [49] (fun i wr=> ∃k:Nat,k<=D.length/\i= .int .i64 k/\Xz W3 (([]:aH)++(D.take k).flatMap (gQ RJ)) wr/\aP 2 wr (.slice dO D.length dC) D.length (aF D)) (fun i _=>D.length-(intOf i).toNat)
 case atStart=>exact⟨0,bW _,rfl,by simpa using HR5.o.1,HR5.o.2⟩
 case round=>
  obtain⟨k,hk,rfl,hR,hL⟩:=hrel
  by_cases hlt:k<D.length
  ·obtain⟨lb,QM,rfl,hlb,d1,d2⟩:=bM.cell hL hlt
   obtain⟨x,hx⟩: ∃x,D[k]=x:=⟨_,rfl⟩
   rw[hx] at d1 d2
   have hsm:=HDS.o D[k] (bY hlt)
   rw[hx] at hsm
   have htf:([]:aH)++(D.take (k+1)).flatMap (gQ RJ)=(([]:aH)++(D.take k).flatMap (gQ RJ))++gQ RJ x:=by rw[uM _ hlt,hx,ni]
   have hlen:(([]:aH)++(D.take (k+1)).flatMap (gQ RJ)).length<=500000:=by
    have h1:=ry RJ (l:=D.take (k+1)) (fun r hr=>HDS.o r (oW hr))
    have h2:(D.take (k+1)).length<=10:=by rw[gK];omega
    rw[dm]
    have h3:(RJ:aH).length+26<=40:=by decide
    have h4:=Nat.mul_le_mul h3 h2
    have h5:=hDl
    have h6:(([]:aH)).length<=2000:=(by simp)
    omega
   have hR':=hR.call (aj (aG _ _) (.cells #[iv x.1,iv x.2] 26 (0,0)))
   have HW:=ae (rF W3.heap.size W3.heap.size _ RJ x _ hR'.buf (mM hR'.lt) (by omega) (XE.o _ hR'.below) hsm.1 hsm.2 (by have h1:=hR.len;have h2:(RJ:aH).length<=10:=(by decide);omega))
   have HX:=ae (ag hR' (ag hL (ag htf hlen)))
   clear hR hL htf hlen hR' hsm hx
   go_wp2_with fail
   refine HW.o.mono ?_
   rintro e W6 ⟨⟨v,rfl⟩,hbu,hwr⟩
   have Ue:=HX.o.1.wrote hbu hwr (by have:=HX.o.2.2.2;rwa [HX.o.2.2.1] at this)
   have hL6:=hwr.list (HX.o.2.1.alloc _) (Au D)
   have H6:=ae (ag Ue hL6)
   clear hbu hwr Ue hL6
   go_wp2_with fail
   go_roundw
   case rel=>exact⟨k+1,by omega,by go_num,by rw[HX.o.2.2.1];exact H6.o.1,H6.o.2⟩
   case measure=>simp[intOf];omega
  ·have hkl:k=D.length:=by omega
   subst hkl
   rw[List.take_length] at hR
   have wU:=ae hR
   clear hR hL
   obtain⟨c6,f6,l6⟩:=af (HC.o wr wU.o.below)
   have hs1:(([]:aH)++D.flatMap (gQ RJ)).length<=1000:=by
    have h1:=ry RJ HDS.o
    have h3:(RJ:aH).length+26<=40:=by decide
    have h4:=Nat.mul_le_mul h3 (show D.length<=2 by omega)
    simp only[List.nil_append]
    omega
   rw[List.nil_append] at wU hs1
   obtain⟨P1,hP1⟩: ∃P,D.flatMap (gQ RJ)=P:=⟨_,rfl⟩
   rw[hP1] at wU hs1
   have XA:=ae hP1
   clear hP1
   go_wp2_with fail
   refine(uI W3.heap.size W3.heap.size P1 lvW wr wU.o.buf (mM wU.o.lt) (by have:(lvW:aH).length=5:=rfl;omega)).mono ?_
   rintro e W7 ⟨⟨v7,rfl⟩,hb7,hw7⟩
   have HR7:=ae (wU.o.wrote hb7 hw7 (by rw[dm];have:(lvW:aH).length=5:=rfl;omega))
   clear hb7 hw7 c6 f6 l6
   obtain⟨c6,f6,l6⟩:=af (HC.o W7 HR7.o.below)
   go_wp2_with fail
   obtain⟨P2,hP2⟩: ∃P,P1++lvW=P:=⟨_,rfl⟩
   have hs2:P2.length<=1005:=by rw[<-hP2,dm];have:(lvW:aH).length=5:=rfl;omega
   rw[hP2] at HR7
   have HP2:=ae hP2
   clear hP2
   have HLV:=ae (Xc s.led vt vn W7 (HST.o W7 HR7.o.below).wF (HST.o W7 HR7.o.below).TR)
   refine HLV.o.mono ?_
   rintro e W8 ⟨hb8,⟨hne,rfl⟩|⟨_,v8,rfl,hv8⟩⟩
   ·exact absurd jo.o.2.led hne
   obtain⟨L,hL⟩: ∃L,mY s.led=L:=⟨_,rfl⟩
   have hLs:=Nz jo.o.2.led
   rw[hL] at hv8 hLs
   have hL5:=hLs.1
   have aeD:=ae hLs.2
   have HLE:=ae hL
   obtain⟨lO,lC,rfl⟩:=hv8.open
   have HR8:=ae (ag (HR7.o.call hb8) hv8)
   clear hb8 hv8 hL hLs c6 f6 l6
   go_wp2_with fail
   go_loopw [69] (fun i wr=> ∃k:Nat,k<=L.length/\i= .int .i64 k/\Xz W3 (P2++(L.take k).flatMap X0) wr/\aP 1 wr (.slice lO L.length lC) L.length (ah L)) (fun i _=>L.length-(intOf i).toNat)
   case atStart=>exact⟨0,bW _,rfl,by simpa using HR8.o.1,HR8.o.2⟩
   case round=>
    obtain⟨k,hk,rfl,hR,hLL⟩:=hrel
    by_cases hlt:k<L.length
    ·obtain⟨lb,QM,rfl,hlb,d1⟩:=aN.cell hLL hlt
     obtain⟨x,hx⟩: ∃x,L[k]=x:=⟨_,rfl⟩
     rw[hx] at d1
     have hsm:=aeD.o L[k] (bY hlt)
     rw[hx] at hsm
     have hxs:kG x:=⟨by omega,by omega⟩
     have hil:=qy hxs
     obtain⟨s1,abn⟩: ∃s,Lib.itoa x=s:=⟨_,rfl⟩
     rw[abn] at hil
     have htf:P2++(L.take (k+1)).flatMap X0=(P2++(L.take k).flatMap X0)++(32::s1):=by
      rw[uM _ hlt,hx,ni]
      unfold X0
      rw[abn]
     have hlen:(P2++(L.take (k+1)).flatMap X0).length<=500000:=by
      have h2:=TG (L.take (k+1)) (fun i hi=>aeD.o i (oW hi))
      have h3:(L.take (k+1)).length<=5:=by rw[gK];omega
      rw[dm]
      omega
     have a1:=fun W=>qj (P:=Tryz.prog) (a:=[32]) (b:=s1) rfl (by simp;omega) W
     have HX:=ae (ag hR (ag hLL (ag htf hlen)))
     have HIT:=ae (xG x hxs wr (XE.o _ hR.below))
     have HSX:=ae abn
     clear hR hLL htf hlen hsm hx abn hxs
     go_wp2_with fail
     refine HIT.o.mono ?_
     rintro e W9 ⟨rfl,vP⟩
     rw[HSX.o]
     have Xh:=ae (HX.o.1.call vP)
     have HL9:=ae (HX.o.2.1.below vP (ai _))
     clear vP
     go_wp2_with fail
     refine(uI W3.heap.size W3.heap.size _ (32::s1) W9 Xh.o.buf (mM Xh.o.lt) (by have:=Xh.o.len;have h9:(32::s1).length=s1.length+1:=rfl;omega)).mono ?_
     rintro e W6 ⟨⟨v,rfl⟩,hbu,hwr⟩
     have Ue:=Xh.o.wrote hbu hwr (by have:=HX.o.2.2.2;rwa [HX.o.2.2.1] at this)
     have hL6:=hwr.list HL9.o (abk L)
     have H6:=ae (ag Ue hL6)
     clear hbu hwr Ue hL6
     go_wp2_with fail
     go_roundw
     case rel=>exact⟨k+1,by omega,by go_num,by rw[HX.o.2.2.1];exact H6.o.1,H6.o.2⟩
     case measure=>simp[intOf];omega
    ·have hkl:k=L.length:=by omega
     subst hkl
     rw[List.take_length] at hR
     have wU:=ae hR
     clear hR hLL
     obtain⟨P3,hP3⟩: ∃P,P2++L.flatMap X0=P:=⟨_,rfl⟩
     have hs3:P3.length<=1065:=by
      rw[<-hP3,dm]
      have:=TG L aeD.o
      omega
     rw[hP3] at wU
     have HP3:=ae hP3
     clear hP3
     go_wp2_with fail
     refine(uI W3.heap.size W3.heap.size P3 [10] wr wU.o.buf (mM wU.o.lt) (by have:([10]:aH).length=1:=rfl;omega)).mono ?_
     rintro e W8' ⟨⟨v,rfl⟩,hbu,hwr⟩
     obtain⟨P4,hP4⟩: ∃P,P3++[10]=P:=⟨_,rfl⟩
     have hs4:P4.length<=1066:=by rw[<-hP4,dm];have:([10]:aH).length=1:=rfl;omega
     rw[hP4] at hbu
     have Xi:=ae (wU.o.wrote hbu hwr (by omega))
     have heq:nM s=P4++E8 s++FX s++keepR s++(jr s.df).flatMap (gQ Bd):=by
      unfold nM
      rw[HDE.o,HLE.o,XA.o,HP2.o,HP3.o,hP4]
     have aeL:=ae heq
     clear hbu hwr hP4 heq
     by_cases hL0:L.length=0
     ·have hLI:((L.length:Int)==0)=true:=by simp[hL0]
      have hL':L=[]:=jT hL0
      have ha:=GK jo.o.2.led (by rw[HLE.o];exact hL')
      have HA:=ae ha
      have ho:E8 s=(Bg nY s.led (fU s.led)).flatMap (gQ Px):=by
       unfold E8
       rw[aC (by rw[HLE.o];exact hL')]
      obtain⟨O,hO⟩: ∃O,Bg nY s.led (fU s.led)=O:=⟨_,rfl⟩
      have hO2:O.length=2:=by rw[<-hO,Um (O1 ha).2 nY,jo.o.1.aK];rfl
      have HOS:Hid (∀r∈O,kG r.1/\kG r.2):=ae (by rw[<-hO];exact Qx ha)
      rw[hO] at ho
      have HOE:=ae hO
      have akJ:=ae ho
      have VC:=HST.o W8' Xi.o.below
      have HOW:=ae (O9 s.led vt vn W8' VC.wF VC.TR)
      obtain⟨c9,f9,l9⟩:=af (HC.o W8' Xi.o.below)
      clear VC hL' ha ho hO
      go_wp2_with fail
      refine HOW.o.mono ?_
      rintro e W7' ⟨hb,⟨hne,rfl⟩|⟨_,ov,rfl,hov⟩⟩
      ·exact absurd HA.o hne
      rw[HOE.o] at hov
      obtain⟨oO,oC,rfl⟩:=hov.open
      have aez:=ae (ag (Xi.o.call hb) hov)
      clear hb hov c9 f9 l9
      go_wp2_with fail
      go_loopw [90] (fun i wr=> ∃k:Nat,k<=O.length/\i= .int .i64 k/\Xz W3 (P4++(O.take k).flatMap (gQ Px)) wr/\aP 2 wr (.slice oO O.length oC) O.length (aF O)) (fun i _=>O.length-(intOf i).toNat)
      case atStart=>exact⟨0,bW _,rfl,by simpa using aez.o.1,aez.o.2⟩
      case round=>
       obtain⟨k,hk,rfl,hR,hL⟩:=hrel
       by_cases hlt:k<O.length
       ·obtain⟨lb,QM,rfl,hlb,d1,d2⟩:=bM.cell hL hlt
        obtain⟨x,hx⟩: ∃x,O[k]=x:=⟨_,rfl⟩
        rw[hx] at d1 d2
        have hsm:=HOS.o O[k] (bY hlt)
        rw[hx] at hsm
        have htf:P4++(O.take (k+1)).flatMap (gQ Px)=(P4++(O.take k).flatMap (gQ Px))++gQ Px x:=by rw[uM _ hlt,hx,ni]
        have hlen:(P4++(O.take (k+1)).flatMap (gQ Px)).length<=500000:=by
         have h1:=ry Px (l:=O.take (k+1)) (fun r hr=>HOS.o r (oW hr))
         have h2:(O.take (k+1)).length<=10:=by rw[gK];omega
         rw[dm]
         have h3:(Px:aH).length+26<=40:=by decide
         have h4:=Nat.mul_le_mul h3 h2
         have h5:=hO2
         have h6:(P4).length<=2000:=(by omega)
         omega
        have hR':=hR.call (aj (aG _ _) (.cells #[iv x.1,iv x.2] 30 (0,0)))
        have HW:=ae (rF W3.heap.size W3.heap.size _ Px x _ hR'.buf (mM hR'.lt) (by omega) (XE.o _ hR'.below) hsm.1 hsm.2 (by have h1:=hR.len;have h2:(Px:aH).length<=10:=(by decide);omega))
        have HX:=ae (ag hR' (ag hL (ag htf hlen)))
        clear hR hL htf hlen hR' hsm hx
        go_wp2_with fail
        refine HW.o.mono ?_
        rintro e W6 ⟨⟨v,rfl⟩,hbu,hwr⟩
        have Ue:=HX.o.1.wrote hbu hwr (by have:=HX.o.2.2.2;rwa [HX.o.2.2.1] at this)
        have hL6:=hwr.list (HX.o.2.1.alloc _) (Au O)
        have H6:=ae (ag Ue hL6)
        clear hbu hwr Ue hL6
        go_wp2_with fail
        go_roundw
        case rel=>exact⟨k+1,by omega,by go_num,by rw[HX.o.2.2.1];exact H6.o.1,H6.o.2⟩
        case measure=>simp[intOf];omega
       ·have hkl:k=O.length:=by omega
        subst hkl
        rw[List.take_length] at hR
        have wU:=ae hR
        clear hR hL
        have abm:(P4++O.flatMap (gQ Px)).length<=1300:=by
         have h1:=ry Px HOS.o
         have h3:(Px:aH).length+26<=40:=by decide
         have h4:=Nat.mul_le_mul h3 (show O.length<=2 by omega)
         rw[dm]
         omega
        obtain⟨P4n,ad2⟩: ∃P,P4++O.flatMap (gQ Px)=P:=⟨_,rfl⟩
        have HEQ:Hid (nM s=P4n++FX s++keepR s++(jr s.df).flatMap (gQ Bd)):=ae (by rw[aeL.o,akJ.o,ad2])
        rw[ad2] at wU abm
        clear ad2 hs4 aeL Xi aez
        rename_i P4o
        obtain⟨W9,KQ⟩: ∃W,W=wr:=⟨_,rfl⟩
        rw[<-KQ] at wU
        rw[<-KQ]
        have Xh:=wU
        clear KQ
        obtain⟨P4,agX⟩: ∃P,P=P4n:=⟨_,rfl⟩
        rw[<-agX] at wU abm HEQ Xh
        clear agX
        obtain⟨c9,f9,l9⟩:=af (HC.o W9 Xh.o.below)
        have tC:=HST.o W9 Xh.o.below
        have LJ:=ae (jA.G5 s.heap vw vu vr vu s.heap.turns W9 tC.bV tC.Ef tC.MO tC.Ef)
        clear tC
        go_wp2_with fail
        refine LJ.o.mono ?_
        rintro e SN ⟨bv,he,hbv,zH⟩
        rw[jo.o.2.ask] at he
        subst he
        obtain⟨yL,hB1,hB2⟩:=FW jo.o.1 jo.o.2
        have hhr:FX s=gQ TU ((jA.jM s.heap s.heap.turns).getD 4 (0,0)):=rfl
        obtain⟨B,hB⟩: ∃B,jA.jM s.heap s.heap.turns=B:=⟨_,rfl⟩
        rw[hB] at hbv yL hB1 hB2 hhr
        obtain⟨bO,bC,rfl⟩:=hbv.open
        obtain⟨lb,QM,rfl,hlb,d1,d2⟩:=bM.cell hbv (k:=4) (by omega)
        have hg4:B.getD 4 (0,0)=B[4]:=vT (by omega)
        rw[hg4] at hB1 hB2 hhr
        generalize B[4]=x at*
        have GU:=ae (Xh.o.call zH)
        have hl4:s.heap.last=4:=jo.o.1.heap.1
        have HHR:=ae hhr
        clear hbv zH hB hhr c9 f9 l9 hg4
        obtain⟨c9,f9,l9⟩:=af (HC.o SN GU.o.below)
        rw[yL]
        have HW:=ae (fun W hE=>rF W3.heap.size W3.heap.size P4 TU x W (GU.o.call hE).buf (mM (GU.o.call hE).lt) (by omega) (XE.o _ (GU.o.call hE).below) hB1 hB2 (by have h2:(TU:aH).length<=10:=(by decide);omega))
        have hwl:=BB (word:=TU) hB1 hB2
        clear hB1 hB2 yL
        go_wp2_with fail
        refine zg 15 [] none [] ?_
        simp only[zt]
        repeat ((first|refine zn ?_|refine zk ?_);simp only[zp])
        intro W hE hF
        have hbE:=hE.below
        clear hE hF
        go_wp2_with fail
        refine(HW.o W hbE).mono ?_
        rintro e W11 ⟨⟨v11,rfl⟩,hbu,hwr⟩
        obtain⟨P5,hP5⟩: ∃P,P4++gQ TU x=P:=⟨_,rfl⟩
        have hs5:P5.length<=1340:=by rw[<-hP5,dm];have:(TU:aH).length=4:=rfl;omega
        rw[hP5] at hbu
        have Tm:=ae ((GU.o.call hbE).wrote hbu hwr (by omega))
        have Zl:nM s=P5++keepR s++(jr s.df).flatMap (gQ Bd):=by rw[HEQ.o,HHR.o,hP5]
        have aeK:=ae Zl
        clear hbu hwr hP5 Zl c9 f9 l9 hbE hwl d1 d2 hl4
        obtain⟨c9,f9,l9⟩:=af (HC.o W11 Tm.o.below)
        have tC:=HST.o W11 Tm.o.below
        have HKP:=ae (jA.yI s.heap vw vu vr vu s.heap.turns W11 tC.bV tC.Ef tC.MO tC.Ef)
        have hkr:keepR s=TT++Lib.itoa (jA.mZ s.heap s.heap.turns)++[10]:=rfl
        have hks:=Dh s.heap s.heap.turns
        obtain⟨kq,hkq⟩: ∃k,jA.mZ s.heap s.heap.turns=k:=⟨_,rfl⟩
        rw[hkq] at hkr hks
        have HKQ:=ae hkq
        clear tC hkq
        go_wp2_with fail
        refine HKP.o.mono ?_
        rintro e Xy ⟨he,Rk⟩
        rw[HKQ.o,jo.o.2.ask] at he
        subst he
        have aap:=ae (Tm.o.call Rk)
        have hil:=qy hks
        have HIT:=ae (xG kq hks Xy (XE.o _ aap.o.below))
        obtain⟨s2,Q9⟩: ∃s,Lib.itoa kq=s:=⟨_,rfl⟩
        rw[Q9] at hil hkr
        have HS2:=ae Q9
        have HKR:=ae hkr
        have a1:=fun W=>qj (P:=Tryz.prog) (a:=TT) (b:=s2) rfl (by have:(TT:aH).length=6:=rfl;omega) W
        have a2:=fun W=>qj (P:=Tryz.prog) (a:=TT++s2) (b:=[10]) rfl (by rw[dm];have:(TT:aH).length=6:=rfl;have:([10]:aH).length=1:=rfl;omega) W
        clear Rk hks Q9 hkr c9 f9 l9
        go_wp2_with fail
        refine HIT.o.mono ?_
        rintro e W13 ⟨rfl,KP⟩
        rw[HS2.o]
        have Tj:=ae (aap.o.call KP)
        clear KP
        go_wp2_with fail
        refine(uI W3.heap.size W3.heap.size P5 _ W13 Tj.o.buf (mM Tj.o.lt) (by simp;omega)).mono ?_
        rintro e Uo ⟨⟨v14,rfl⟩,hbu,hwr⟩
        obtain⟨P6,Xu⟩: ∃P,P5++keepR s=P:=⟨_,rfl⟩
        have hs6:P6.length<=1000+400:=by
         rw[<-Xu,HKR.o,dm,dm,dm]
         have:(TT:aH).length=6:=rfl
         have:([10]:aH).length=1:=rfl
         omega
        have Zq:Buf W3.heap.size W3.heap.size P6 Uo:=by
         rw[<-Xu,HKR.o]
         simpa using hbu
        have Ti:=ae (Tj.o.wrote Zq hwr (by omega))
        have Zk:nM s=P6++(jr s.df).flatMap (gQ Bd):=by rw[aeK.o,Xu]
        have aeJ:=ae Zk
        clear hbu Zq hwr Xu Zk a1 a2
        obtain⟨c9,f9,l9⟩:=af (HC.o Uo Ti.o.below)
        have HCB:=ae (xE s.df vh vk vs es Uo (HST.o Uo Ti.o.below).df)
        go_wp2_with fail
        refine HCB.o.mono ?_
        rintro e WW ⟨Zt,⟨hne,rfl⟩|⟨_,aiZ,akh,rfl,hhv,hcv⟩⟩
        ·exact absurd jo.o.2.Z4 hne
        obtain⟨C,hC⟩: ∃C,jr s.df=C:=⟨_,rfl⟩
        have hC3:C.length<=3:=by rw[<-hC];unfold jr;rw[lU,List.length_range];exact jo.o.1.aU
        have HCS:Hid (∀r∈C,kG r.1/\kG r.2):=ae (by rw[<-hC];exact Gv jo.o.2.Z4)
        rw[hC] at hcv
        have HCE:=ae hC
        obtain⟨hO,hCc,rfl⟩:=hhv.open
        obtain⟨cO,cC,rfl⟩:=hcv.open
        have aao:=ae (ag (Ti.o.call Zt) hcv)
        clear Zt hhv hcv hC c9 f9 l9
        go_wp2_with fail
        go_loopw [149] (fun i wr=> ∃k:Nat,k<=C.length/\i= .int .i64 k/\Xz W3 (P6++(C.take k).flatMap (gQ Bd)) wr/\aP 2 wr (.slice cO C.length cC) C.length (aF C)) (fun i _=>C.length-(intOf i).toNat)
        case atStart=>exact⟨0,bW _,rfl,by simpa using aao.o.1,aao.o.2⟩
        case round=>
         obtain⟨k,hk,rfl,hR,hL⟩:=hrel
         by_cases hlt:k<C.length
         ·obtain⟨lb,QM,rfl,hlb,d1,d2⟩:=bM.cell hL hlt
          obtain⟨x,hx⟩: ∃x,C[k]=x:=⟨_,rfl⟩
          rw[hx] at d1 d2
          have hsm:=HCS.o C[k] (bY hlt)
          rw[hx] at hsm
          have htf:P6++(C.take (k+1)).flatMap (gQ Bd)=(P6++(C.take k).flatMap (gQ Bd))++gQ Bd x:=by rw[uM _ hlt,hx,ni]
          have hlen:(P6++(C.take (k+1)).flatMap (gQ Bd)).length<=500000:=by
           have h1:=ry Bd (l:=C.take (k+1)) (fun r hr=>HCS.o r (oW hr))
           have h2:(C.take (k+1)).length<=10:=by rw[gK];omega
           rw[dm]
           have h3:(Bd:aH).length+26<=40:=by decide
           have h4:=Nat.mul_le_mul h3 h2
           have h5:=hC3
           have h6:(P6).length<=2000:=(by omega)
           omega
          have hR':=hR.call (aj (aG _ _) (.cells #[iv x.1,iv x.2] 112 (0,0)))
          have HW:=ae (rF W3.heap.size W3.heap.size _ Bd x _ hR'.buf (mM hR'.lt) (by omega) (XE.o _ hR'.below) hsm.1 hsm.2 (by have h1:=hR.len;have h2:(Bd:aH).length<=10:=(by decide);omega))
          have HX:=ae (ag hR' (ag hL (ag htf hlen)))
          clear hR hL htf hlen hR' hsm hx
          go_wp2_with fail
          refine HW.o.mono ?_
          rintro e W6 ⟨⟨v,rfl⟩,hbu,hwr⟩
          have Ue:=HX.o.1.wrote hbu hwr (by have:=HX.o.2.2.2;rwa [HX.o.2.2.1] at this)
          have hL6:=hwr.list (HX.o.2.1.alloc _) (Au C)
          have H6:=ae (ag Ue hL6)
          clear hbu hwr Ue hL6
          go_wp2_with fail
          go_roundw
          case rel=>exact⟨k+1,by omega,by go_num,by rw[HX.o.2.2.1];exact H6.o.1,H6.o.2⟩
          case measure=>simp[intOf];omega
         ·have hkl:k=C.length:=by omega
          subst hkl
          rw[List.take_length] at hR
          have wU:=ae hR
          clear hR hL
          obtain⟨P7,Rl⟩: ∃P,P6++C.flatMap (gQ Bd)=P:=⟨_,rfl⟩
          rw[Rl] at wU
          have Ux:Hid (J7 ls=P7):=ae (by rw[LD.o,aeJ.o,HCE.o,Rl])
          clear Rl
          go_wp2_with fail
          refine(Tryz.Builder_String_any_k W3.heap.size W3.heap.size P7 wr (Lib.IsBuilderF.of wU.o.buf.is) (mM wU.o.lt)).mono ?_
          rintro e W16 ⟨rfl,_,hb16,_⟩
          have aeS:=ae (H3.o.1.trans ((wU.o.below.trans hb16).mono H3.o.1.size))
          clear hb16
          go_wp2_with fail
          go_returns
          exact⟨aeS.o,by rw[Ux.o,HQ.o];simp⟩
     ·have hLI:((L.length:Int)==0)=false:=by simp;exact fun h=>hL0 (by simp[h])
      have ho:E8 s=[]:=by
       unfold E8
       rw[HLE.o,ak (fun h=>hL0 (by rw[h];rfl))]
      have HEQ:Hid (nM s=P4++FX s++keepR s++(jr s.df).flatMap (gQ Bd)):=ae (by rw[aeL.o,ho,List.append_nil])
      clear ho hL0
      have abm:P4.length<=1300:=by omega
      obtain⟨W9,KQ⟩: ∃W,W=W8':=⟨_,rfl⟩
      rw[<-KQ] at Xi
      rw[<-KQ]
      have Xh:=Xi
      clear KQ
      obtain⟨c9,f9,l9⟩:=af (HC.o W9 Xh.o.below)
      have tC:=HST.o W9 Xh.o.below
      have LJ:=ae (jA.G5 s.heap vw vu vr vu s.heap.turns W9 tC.bV tC.Ef tC.MO tC.Ef)
      clear tC
      go_wp2_with fail
      refine LJ.o.mono ?_
      rintro e SN ⟨bv,he,hbv,zH⟩
      rw[jo.o.2.ask] at he
      subst he
      obtain⟨yL,hB1,hB2⟩:=FW jo.o.1 jo.o.2
      have hhr:FX s=gQ TU ((jA.jM s.heap s.heap.turns).getD 4 (0,0)):=rfl
      obtain⟨B,hB⟩: ∃B,jA.jM s.heap s.heap.turns=B:=⟨_,rfl⟩
      rw[hB] at hbv yL hB1 hB2 hhr
      obtain⟨bO,bC,rfl⟩:=hbv.open
      obtain⟨lb,QM,rfl,hlb,d1,d2⟩:=bM.cell hbv (k:=4) (by omega)
      have hg4:B.getD 4 (0,0)=B[4]:=vT (by omega)
      rw[hg4] at hB1 hB2 hhr
      generalize B[4]=x at*
      have GU:=ae (Xh.o.call zH)
      have hl4:s.heap.last=4:=jo.o.1.heap.1
      have HHR:=ae hhr
      clear hbv zH hB hhr c9 f9 l9 hg4
      obtain⟨c9,f9,l9⟩:=af (HC.o SN GU.o.below)
      rw[yL]
      have HW:=ae (fun W hE=>rF W3.heap.size W3.heap.size P4 TU x W (GU.o.call hE).buf (mM (GU.o.call hE).lt) (by omega) (XE.o _ (GU.o.call hE).below) hB1 hB2 (by have h2:(TU:aH).length<=10:=(by decide);omega))
      have hwl:=BB (word:=TU) hB1 hB2
      clear hB1 hB2 yL
      go_wp2_with fail
      refine zg 15 [] none [] ?_
      simp only[zt]
      repeat ((first|refine zn ?_|refine zk ?_);simp only[zp])
      intro W hE hF
      have hbE:=hE.below
      clear hE hF
      go_wp2_with fail
      refine(HW.o W hbE).mono ?_
      rintro e W11 ⟨⟨v11,rfl⟩,hbu,hwr⟩
      obtain⟨P5,hP5⟩: ∃P,P4++gQ TU x=P:=⟨_,rfl⟩
      have hs5:P5.length<=1340:=by rw[<-hP5,dm];have:(TU:aH).length=4:=rfl;omega
      rw[hP5] at hbu
      have Tm:=ae ((GU.o.call hbE).wrote hbu hwr (by omega))
      have Zl:nM s=P5++keepR s++(jr s.df).flatMap (gQ Bd):=by rw[HEQ.o,HHR.o,hP5]
      have aeK:=ae Zl
      clear hbu hwr hP5 Zl c9 f9 l9 hbE hwl d1 d2 hl4
      obtain⟨c9,f9,l9⟩:=af (HC.o W11 Tm.o.below)
      have tC:=HST.o W11 Tm.o.below
      have HKP:=ae (jA.yI s.heap vw vu vr vu s.heap.turns W11 tC.bV tC.Ef tC.MO tC.Ef)
      have hkr:keepR s=TT++Lib.itoa (jA.mZ s.heap s.heap.turns)++[10]:=rfl
      have hks:=Dh s.heap s.heap.turns
      obtain⟨kq,hkq⟩: ∃k,jA.mZ s.heap s.heap.turns=k:=⟨_,rfl⟩
      rw[hkq] at hkr hks
      have HKQ:=ae hkq
      clear tC hkq
      go_wp2_with fail
      refine HKP.o.mono ?_
      rintro e Xy ⟨he,Rk⟩
      rw[HKQ.o,jo.o.2.ask] at he
      subst he
      have aap:=ae (Tm.o.call Rk)
      have hil:=qy hks
      have HIT:=ae (xG kq hks Xy (XE.o _ aap.o.below))
      obtain⟨s2,Q9⟩: ∃s,Lib.itoa kq=s:=⟨_,rfl⟩
      rw[Q9] at hil hkr
      have HS2:=ae Q9
      have HKR:=ae hkr
      have a1:=fun W=>qj (P:=Tryz.prog) (a:=TT) (b:=s2) rfl (by have:(TT:aH).length=6:=rfl;omega) W
      have a2:=fun W=>qj (P:=Tryz.prog) (a:=TT++s2) (b:=[10]) rfl (by rw[dm];have:(TT:aH).length=6:=rfl;have:([10]:aH).length=1:=rfl;omega) W
      clear Rk hks Q9 hkr c9 f9 l9
      go_wp2_with fail
      refine HIT.o.mono ?_
      rintro e W13 ⟨rfl,KP⟩
      rw[HS2.o]
      have Tj:=ae (aap.o.call KP)
      clear KP
      go_wp2_with fail
      refine(uI W3.heap.size W3.heap.size P5 _ W13 Tj.o.buf (mM Tj.o.lt) (by simp;omega)).mono ?_
      rintro e Uo ⟨⟨v14,rfl⟩,hbu,hwr⟩
      obtain⟨P6,Xu⟩: ∃P,P5++keepR s=P:=⟨_,rfl⟩
      have hs6:P6.length<=1000+400:=by
       rw[<-Xu,HKR.o,dm,dm,dm]
       have:(TT:aH).length=6:=rfl
       have:([10]:aH).length=1:=rfl
       omega
      have Zq:Buf W3.heap.size W3.heap.size P6 Uo:=by
       rw[<-Xu,HKR.o]
       simpa using hbu
      have Ti:=ae (Tj.o.wrote Zq hwr (by omega))
      have Zk:nM s=P6++(jr s.df).flatMap (gQ Bd):=by rw[aeK.o,Xu]
      have aeJ:=ae Zk
      clear hbu Zq hwr Xu Zk a1 a2
      obtain⟨c9,f9,l9⟩:=af (HC.o Uo Ti.o.below)
      have HCB:=ae (xE s.df vh vk vs es Uo (HST.o Uo Ti.o.below).df)
      go_wp2_with fail
      refine HCB.o.mono ?_
      rintro e WW ⟨Zt,⟨hne,rfl⟩|⟨_,aiZ,akh,rfl,hhv,hcv⟩⟩
      ·exact absurd jo.o.2.Z4 hne
      obtain⟨C,hC⟩: ∃C,jr s.df=C:=⟨_,rfl⟩
      have hC3:C.length<=3:=by rw[<-hC];unfold jr;rw[lU,List.length_range];exact jo.o.1.aU
      have HCS:Hid (∀r∈C,kG r.1/\kG r.2):=ae (by rw[<-hC];exact Gv jo.o.2.Z4)
      rw[hC] at hcv
      have HCE:=ae hC
      obtain⟨hO,hCc,rfl⟩:=hhv.open
      obtain⟨cO,cC,rfl⟩:=hcv.open
      have aao:=ae (ag (Ti.o.call Zt) hcv)
      clear Zt hhv hcv hC c9 f9 l9
      go_wp2_with fail
      go_loopw [149] (fun i wr=> ∃k:Nat,k<=C.length/\i= .int .i64 k/\Xz W3 (P6++(C.take k).flatMap (gQ Bd)) wr/\aP 2 wr (.slice cO C.length cC) C.length (aF C)) (fun i _=>C.length-(intOf i).toNat)
      case atStart=>exact⟨0,bW _,rfl,by simpa using aao.o.1,aao.o.2⟩
      case round=>
       obtain⟨k,hk,rfl,hR,hL⟩:=hrel
       by_cases hlt:k<C.length
       ·obtain⟨lb,QM,rfl,hlb,d1,d2⟩:=bM.cell hL hlt
        obtain⟨x,hx⟩: ∃x,C[k]=x:=⟨_,rfl⟩
        rw[hx] at d1 d2
        have hsm:=HCS.o C[k] (bY hlt)
        rw[hx] at hsm
        have htf:P6++(C.take (k+1)).flatMap (gQ Bd)=(P6++(C.take k).flatMap (gQ Bd))++gQ Bd x:=by rw[uM _ hlt,hx,ni]
        have hlen:(P6++(C.take (k+1)).flatMap (gQ Bd)).length<=500000:=by
         have h1:=ry Bd (l:=C.take (k+1)) (fun r hr=>HCS.o r (oW hr))
         have h2:(C.take (k+1)).length<=10:=by rw[gK];omega
         rw[dm]
         have h3:(Bd:aH).length+26<=40:=by decide
         have h4:=Nat.mul_le_mul h3 h2
         have h5:=hC3
         have h6:(P6).length<=2000:=(by omega)
         omega
        have hR':=hR.call (aj (aG _ _) (.cells #[iv x.1,iv x.2] 112 (0,0)))
        have HW:=ae (rF W3.heap.size W3.heap.size _ Bd x _ hR'.buf (mM hR'.lt) (by omega) (XE.o _ hR'.below) hsm.1 hsm.2 (by have h1:=hR.len;have h2:(Bd:aH).length<=10:=(by decide);omega))
        have HX:=ae (ag hR' (ag hL (ag htf hlen)))
        clear hR hL htf hlen hR' hsm hx
        go_wp2_with fail
        refine HW.o.mono ?_
        rintro e W6 ⟨⟨v,rfl⟩,hbu,hwr⟩
        have Ue:=HX.o.1.wrote hbu hwr (by have:=HX.o.2.2.2;rwa [HX.o.2.2.1] at this)
        have hL6:=hwr.list (HX.o.2.1.alloc _) (Au C)
        have H6:=ae (ag Ue hL6)
        clear hbu hwr Ue hL6
        go_wp2_with fail
        go_roundw
        case rel=>exact⟨k+1,by omega,by go_num,by rw[HX.o.2.2.1];exact H6.o.1,H6.o.2⟩
        case measure=>simp[intOf];omega
       ·have hkl:k=C.length:=by omega
        subst hkl
        rw[List.take_length] at hR
        have wU:=ae hR
        clear hR hL
        obtain⟨P7,Rl⟩: ∃P,P6++C.flatMap (gQ Bd)=P:=⟨_,rfl⟩
        rw[Rl] at wU
        have Ux:Hid (J7 ls=P7):=ae (by rw[LD.o,aeJ.o,HCE.o,Rl])
        clear Rl
        go_wp2_with fail
        refine(Tryz.Builder_String_any_k W3.heap.size W3.heap.size P7 wr (Lib.IsBuilderF.of wU.o.buf.is) (mM wU.o.lt)).mono ?_
        rintro e W16 ⟨rfl,_,hb16,_⟩
        have aeS:=ae (H3.o.1.trans ((wU.o.below.trans hb16).mono H3.o.1.size))
        clear hb16
        go_wp2_with fail
        go_returns
        exact⟨aeS.o,by rw[Ux.o,HQ.o];simp⟩
def dgF:Nat->Nat->aH
 |0,_=>[]
 |f+1,n=>if n<10 then[Jw n] else dgF f (n/10)++[Jw (n%10)]
theorem ZM: ∀(f n:Nat),n<f->Lib.decDigits n=dgF f n:=by
 intro f
 induction f with
 |zero=>intro n h;omega
 |succ f ih=>
  intro n h
  unfold dgF
  by_cases hn:n<10
  ·rw[mJ hn,aC hn]
  ·rw[xW hn,ak hn,ih (n/10) (by omega)]
def Jk (n:Int):aH:=if n<0 then 45::dgF (n.natAbs+1) n.natAbs else dgF (n.toNat+1) n.toNat
theorem Aw (n:Int):Lib.itoa n=Jk n:=by
 unfold Lib.itoa Jk
 rw[ZM _ _ (Nat.lt_succ_self _),ZM _ _ (Nat.lt_succ_self _)]
def Iy (word:aH) (r:dP):aH:=word++[32]++Jk r.1++[46,46]++Jk r.2++[10]
theorem XJ (word:aH):gQ word=Iy word:=by
 funext r
 unfold gQ Iy
 rw[Aw,Aw]
def spF (i:Int):aH:=32::Jk i
def J6 (s:jI):aH:=
 (AY s.led.field).flatMap (Iy RJ)++lvW++(mY s.led).flatMap spF++[10]++(if mY s.led=[] then(Bg nY s.led (fU s.led)).flatMap (Iy Px) else[])
   ++Iy TU ((jA.jM s.heap s.heap.turns).getD 4 (0,0))++(TT++Jk (jA.mZ s.heap s.heap.turns)++[10])++(jr s.df).flatMap (Iy Bd)
theorem ada:X0=spF:=by
 funext i
 unfold X0 spF
 rw[Aw]
theorem Qi (s:jI):nM s=J6 s:=by
 unfold nM J6 E8 FX keepR
 simp only[XJ,Aw,ada]
def jP:List aH:=[[114,111,119],
 [108,101,102,116,32,48,32,48],
 [116,97,108,108,121,32,48,32,48,32,50,32,50,32,51],
 [116,97,108,108,121,32,49,32,50,32,51,32,49,32,50],
 [98,111,120,32,50,48,32,50,50],
 [110,111,116,101,32,48,32,49,48,32,49,53],
 [116,117,114,110,32,51],
 [119,101,116,32,49,32,56,32,57],
 [105,114,111,110,32,49,32,52,52,32,48],
 [99,97,115,107,32,48,32,49,48],
 [104,101,97,112,32,54,48,32,54,51],
 [102,105,108,108,32,48,32,49,32,49,48],
 [116,114,121,32,48,32,53,49,32,53,50]]
def qQ:List aH:=[[119,97,115,104,32,49,32,52,32,53],
 [116,117,114,110,32,51],
 [114,97,116,101,32,48,53]]
def afn:aH:=[100,111,110,101,32,50,46,46,51,10,100,111,110,101,32,49,46,46,50,10,108,101,97,118,101,10,111,119,101,100,32,53,46,46,50,48,10,111,119,101,100,32,48,46,46,49,53,10,104,101,97,116,32,51,55,46,46,51,55,10,107,101,101,112,115,32,49,10,99,97,115,107,32,53,49,46,46,53,49,10]
theorem Uz:(fJ bH dX (jP++qQ)).2=[0,0,0,0,0,0,0,0,0,0,0,0,0,2,6,4]:=by decide+kernel
theorem rH:fH jP=0/\fH (jP++qQ)=0:=by decide+kernel
theorem Iu:I4 jP=0/\I5 jP=[(5,20),(0,15)]:=by decide+kernel
theorem Ir:IA jP=0/\IB jP=[0]:=by decide+kernel
theorem XI:J6 (fJ bH dX jP).1=afn:=by decide+kernel
end Go.Proofs.YthbpmepjmebolaaGreatDoor.Bk
end
section
namespace Go.Proofs.YthbpmepjmebolaaGreatDoor.Bk
open Go.Lib Go.RowKit Go.RG Go.SL Go.Shelf ji Go.TB Go.Proofs.YthbpmepjmebolaaGreatDoor.yR
theorem Q3 (l:List Int) (v u:Value) (w:World) (h:aN w v l) (k:aN w u l):Calls Tryz.prog 35 #[v,u] w (PV (.bool true) w):=by
 obtain⟨o1,q1,rfl⟩:=aP.open h
 obtain⟨o2,q2,rfl⟩:=aP.open k
 have hl1:=h.len
 have HH:=ae (ag h k)
 clear h k
 have hne:((l.length:Int) !=(l.length:Int))=false:=by simp
 go_enter Tryz.func35,Tryz.ntmps35
 go_wp2_with fail
 go_loopw [5] (fun i wr=> ∃k:Nat,k<=l.length/\i= .int .i64 k/\Below w.heap.size w wr) (fun i _=>l.length-(intOf i).toNat)
 case atStart=>exact⟨0,bW _,rfl,aG _ _⟩
 case round=>
  obtain⟨k,hk,rfl,hB⟩:=hrel
  by_cases hlt:k<l.length
  ·obtain⟨g1,f1,e1,r1,c1⟩:=aN.cell (HH.o.1.below hB (ai _)) hlt
   obtain⟨g2,f2,e2,r2,c2⟩:=aN.cell (HH.o.2.below hB (ai _)) hlt
   generalize l[k]=x at*
   have HX:=ae hB
   have FV:(k:Int)<l.length:=by omega
   cases e1
   cases e2
   clear hB
   have hnb:(x !=x)=false:=by simp
   have hnc:(x==x)=true:=by simp
   go_wp2_with fail
   go_region
   all_goals go_wp2_with fail
   all_goals go_roundw
   all_goals first
    |exact⟨k+1,by omega,by go_num,jm HX.o⟩
    |(simp[intOf];omega)
  ·have HR:=ae hB
   clear hB
   go_wp2_with fail
   go_returns
   exact⟨rfl,HR.o⟩
theorem Wh (l:List Int) (v u:Value) (w:World) (h:aN w v l) (k:aN w u l):Calls Tryz.prog 36 #[v,u] w (PV (.bool true) w):=by
 obtain⟨o1,q1,rfl⟩:=aP.open h
 obtain⟨o2,q2,rfl⟩:=aP.open k
 have hl1:=h.len
 have HH:=ae (ag h k)
 clear h k
 have hne:((l.length:Int) !=(l.length:Int))=false:=by simp
 go_enter Tryz.func36,Tryz.ntmps36
 go_wp2_with fail
 go_loopw [5] (fun i wr=> ∃k:Nat,k<=l.length/\i= .int .i64 k/\Below w.heap.size w wr) (fun i _=>l.length-(intOf i).toNat)
 case atStart=>exact⟨0,bW _,rfl,aG _ _⟩
 case round=>
  obtain⟨k,hk,rfl,hB⟩:=hrel
  by_cases hlt:k<l.length
  ·obtain⟨g1,f1,e1,r1,c1⟩:=aN.cell (HH.o.1.below hB (ai _)) hlt
   obtain⟨g2,f2,e2,r2,c2⟩:=aN.cell (HH.o.2.below hB (ai _)) hlt
   generalize l[k]=x at*
   have HX:=ae hB
   have FV:(k:Int)<l.length:=by omega
   cases e1
   cases e2
   clear hB
   have hnb:(x !=x)=false:=by simp
   have hnc:(x==x)=true:=by simp
   go_wp2_with fail
   go_region
   all_goals go_wp2_with fail
   all_goals go_roundw
   all_goals first
    |exact⟨k+1,by omega,by go_num,jm HX.o⟩
    |(simp[intOf];omega)
  ·have HR:=ae hB
   clear hB
   go_wp2_with fail
   go_returns
   exact⟨rfl,HR.o⟩
end Go.Proofs.YthbpmepjmebolaaGreatDoor.Bk
end
section
namespace Go.Proofs.YthbpmepjmebolaaGreatDoor.Bk
open Go.RowKit Go.RG Go.SL Go.Shelf ji Go.TB Go.Proofs.YthbpmepjmebolaaGreatDoor.yR
theorem QO (ls:List aH) (v:Value) (w:World) (hv:iO w v ls):Calls Tryz.prog 28 #[v] w (PV (iv (fH ls)) w):=by
 have hlen:=hv.len
 obtain⟨o,c,rfl⟩:=aP.open hv
 have HV:=ae hv
 clear hv
 by_cases h40:40<ls.length
 ·have akc:(40:Int)<ls.length:=by omega
  have HR:Hid (fH ls=3):=ae (by unfold fH;rw[aC (.inl h40)])
  go_enter Tryz.func28,Tryz.ntmps28
  go_wp2_with fail
  go_returns
  exact⟨by rw[HR.o];simp,aG _ _⟩
 ·have akc: ¬(40:Int)<ls.length:=by omega
  go_enter Tryz.func28,Tryz.ntmps28
  go_wp2_with fail
  go_loopw [3] (fun i wr=> ∃k:Nat,k<=ls.length/\i= .int .i64 k/\(∀j (h:j<ls.length),j<k->ls[j].length<=60)/\Below w.heap.size w wr) (fun i _=>ls.length-(intOf i).toNat)
  case atStart=>exact⟨0,bW _,rfl,fun j _ hj=>by omega,aG _ _⟩
  case round=>
   obtain⟨k,hk,rfl,hno,hB⟩:=hrel
   by_cases hlt:k<ls.length
   ·obtain⟨b,off,rfl,hb,hc0⟩:=iO.cell (aP.below HV.o hB (ai _)) hlt
    have HN:=ae hno
    have HB:=ae hB
    have HK:=ae (fun h=>hno k hlt h)
    obtain⟨x,hx⟩: ∃x,ls[k]=x:=⟨_,rfl⟩
    rw[hx] at hc0
    have hs:(fD x).size=x.length:=oG x
    have HX:=ae hx
    clear hno hB hx
    by_cases h60:x.length<=60
    ·have ad7: ¬(60:Int)<x.length:=by omega
     go_wp2_with fail
     go_roundw
     case rel=>exact⟨k+1,by omega,by go_num,fun j h hj=>(by by_cases e:j=k;(subst e;rw[HX.o];exact h60);exact HN.o j h (by omega)),HB.o⟩
     case measure=>simp[intOf];omega
    ·have ad7:(60:Int)<x.length:=by omega
     go_wp2_with fail
     go_returns
     refine⟨?_,HB.o⟩
     have:fH ls=3:=by
      unfold fH
      rw[aC (.inr (List.any_eq_true.2 ⟨x,by rw[<-HX.o];exact bY _,by simp;omega⟩))]
     rw[this]
     simp
   ·have hkl:k=ls.length:=by omega
    have HN:=ae hno
    have HB:=ae hB
    clear hno hB
    go_wp2_with fail
    go_returns
    refine⟨?_,HB.o⟩
    have:fH ls=0:=by
     unfold fH
     rw[ak]
     simp only[not_or,Bool.not_eq_true]
     refine⟨h40,List.any_eq_false.2 fun x hx=>?_⟩
     obtain⟨j,hj,rfl⟩:=lV hx
     have:=HN.o j hj (by omega)
     simp;omega
    rw[this]
    simp
def IC (ls:List aH):Bool:=decide (ls.length<=45)&&ls.all fun x=>decide (x.length<=80)
theorem uK {ls:List aH}:IC ls=true↔ls.length<=45/\ ∀x∈ls,x.length<=80:=by
 unfold IC
 rw[eU,eH,jJ]
 exact⟨fun h=>⟨h.1,fun x hx=>of_decide_eq_true (h.2 x hx)⟩,fun h=>⟨h.1,fun x hx=>decide_eq_true (h.2 x hx)⟩⟩
theorem aah (ls:List aH) (v:Value) (w:World) (hv:iO w v ls):Calls Tryz.prog 27 #[v] w (PV (.bool (IC ls)) w):=by
 have hlen:=hv.len
 obtain⟨o,c,rfl⟩:=aP.open hv
 have HV:=ae hv
 clear hv
 obtain⟨q,hq⟩: ∃q,IC ls=q:=⟨_,rfl⟩
 rw[hq]
 have HQ:=ae hq
 clear hq
 go_enter Tryz.func27,Tryz.ntmps27
 go_wp2_with fail
 go_loopw [3] (fun i wr=> ∃k:Nat,k<=ls.length/\k<=46/\i= .int .i64 k/\(∀j (h:j<ls.length),j<k->ls[j].length<=80)/\Below w.heap.size w wr) (fun i _=>ls.length-(intOf i).toNat)
 case atStart=>exact⟨0,bW _,bW _,rfl,fun j _ hj=>by omega,aG _ _⟩
 case round=>
  obtain⟨k,hk,h46,rfl,hno,hB⟩:=hrel
  have HB:=ae hB
  have HN:=ae hno
  by_cases hlt:k<ls.length
  ·by_cases anR:k<46
   ·have agl:(k:Int)<46:=by omega
    obtain⟨b,off,rfl,hb,hc0⟩:=iO.cell (aP.below HV.o hB (ai _)) hlt
    obtain⟨x,hx⟩: ∃x,ls[k]=x:=⟨_,rfl⟩
    rw[hx] at hc0
    have hs:(fD x).size=x.length:=oG x
    have HX:=ae hx
    clear hno hB hx
    by_cases h60:x.length<=80
    ·have ad7: ¬(80:Int)<x.length:=by omega
     go_wp2_with fail
     go_roundw
     case rel=>exact⟨k+1,by omega,by omega,by go_num,fun j h hj=>(by by_cases e:j=k;(subst e;rw[HX.o];exact h60);exact HN.o j h (by omega)),HB.o⟩
     case measure=>simp[intOf];omega
    ·have ad7:(80:Int)<x.length:=by omega
     have hq0:q=false:=by
      rw[<-HQ.o,Bool.eq_false_iff]
      intro h
      exact h60 ((uK.1 h).2 x (by rw[<-HX.o];exact bY _))
     subst hq0
     go_wp2_with fail
     go_returns
     exact⟨by simp,HB.o⟩
   ·have agl: ¬(k:Int)<46:=by omega
    have hq0:q=false:=by
     rw[<-HQ.o,Bool.eq_false_iff]
     intro h
     have:=(uK.1 h).1
     omega
    have h45: ¬(ls.length:Int)<=45:=by omega
    subst hq0
    clear hno hB
    go_wp2_with fail
    go_returns
    exact⟨by simp,HB.o⟩
  ·have hkl:k=ls.length:=by omega
   clear hno hB
   by_cases h45:ls.length<=45
   ·have akb:(ls.length:Int)<=45:=by omega
    have hq1:q=true:=by
     rw[<-HQ.o]
     refine uK.2 ⟨h45,fun x hx=>?_⟩
     obtain⟨j,hj,rfl⟩:=lV hx
     exact HN.o j hj (by omega)
    subst hq1
    go_wp2_with fail
    go_returns
    exact⟨by simp,HB.o⟩
   ·have akb: ¬(ls.length:Int)<=45:=by omega
    have hq0:q=false:=by
     rw[<-HQ.o,Bool.eq_false_iff]
     intro h
     exact h45 (uK.1 h).1
    subst hq0
    go_wp2_with fail
    go_returns
    exact⟨by simp,HB.o⟩
theorem zX: ∀l:aH,dh (l++[32])=dh l++[[]]:=by
 intro l
 induction l with
 |nil=>rfl
 |cons c l ih=>
  rw[List.cons_append,dh,dh,ih]
  split
  ·rfl
  ·cases hw:dh l with
   |nil=>exact absurd hw (lK l)
   |cons x y=>rfl
theorem LV {c:UInt8} (hc:c≠32): ∀(l:aH) (A:List aH) (x:aH),dh l=A++[x]->dh (l++[c])=A++[x++[c]]:=by
 intro l
 induction l with
 |nil=>
  intro A x h
  have h1:A=[]/\x=[]:=by
   cases A with
   |nil=>simpa [dh] using h
   |cons a A=>simp[dh] at h
  obtain⟨rfl,rfl⟩:=h1
  show dh [c]=[[c]]
  simp[dh,hc]
 |cons d l ih=>
  intro A x h
  rw[List.cons_append,dh]
  rw[dh] at h
  split at h
  ·rename_i hd
   rw[aC hd]
   cases A with
   |nil=>
    simp only[List.nil_append,List.cons.injEq] at h
    exact absurd h.2 (lK l)
   |cons a A=>
    simp only[List.cons_append,List.cons.injEq] at h
    rw[ih A x h.2, <-h.1]
    rfl
  ·rename_i hd
   rw[ak hd]
   cases hw:dh l with
   |nil=>exact absurd hw (lK l)
   |cons y ys=>
    rw[hw] at h
    simp only[List.headD_cons,List.tail_cons] at h
    cases A with
    |nil=>
     simp only[List.nil_append,List.cons.injEq] at h
     obtain⟨rfl,hys⟩:=h
     rw[ih [] y (by rw[hw,hys];rfl)]
     rfl
    |cons a A=>
     simp only[List.cons_append,List.cons.injEq] at h
     obtain⟨rfl,hys⟩:=h
     rw[ih (y::A) x (by rw[hw,hys];rfl)]
     rfl
theorem TD:iq Tryz.prog 22 9 (.string ⟨#[]⟩) 1 16:=⟨Tryz.underlying22,by kernel_rfl,rfl,by omega⟩
theorem TN (s:ByteArray): ∀u∈[Value.string s],u.oneCell'=true:=fun u hu=>by obtain rfl:=eY.1 hu;rfl
def ab6 (ps:List aH) (w:World) (e:Ending) (w':World):Prop:= ∃v,e= .returned v/\w'.ownsRow w.heap.size 9 1 v ps.length (dH ps)/\Below w.heap.size w w'
theorem Ew: ∀l:aH,(dh l).length<=l.length+1:=by
 intro l
 induction l with
 |nil=>simp[dh]
 |cons c l ih=>
  rw[dh]
  split
  ·simpa using ih
  ·cases hw:dh l with
   |nil=>exact absurd hw (lK l)
   |cons x y=>rw[hw] at ih;simp at ih⊢;omega
theorem EZ (l:aH) (w:World) (hl:l.length<=1000):Calls Tryz.prog 20 #[.string (fD l)] w (ab6 (dh l) w):=by
 have hsz:=oG l
 have hcut: ∀(a b:Nat),(fD l).extract a b=fD ((l.take b).drop a):=fun a b=>ZW l a b
 go_enter Tryz.func20,Tryz.ntmps20
 go_wp2_with fail
 go_loopw [3,4,5] (fun v f i wr=> ∃(i' f':Nat) (out:List aH) (o:Option Addr) (c:Nat),i'<=l.length/\f'<=i'/\i= .int .i64 i'/\f= .int .i64 f'/\v= .slice o out.length c/\dh (l.take i')=out++[(l.take i').drop f']/\
  wr.ownsRow w.heap.size 9 1 (.slice o out.length c) out.length (dH out)/\Below w.heap.size w wr) (fun _ _ i _=>l.length-(intOf i).toNat)
 case atStart=>exact⟨0,0,[],none,0,bW _,ai _,rfl,rfl,rfl,rfl,⟨rfl,.inl ⟨rfl,rfl⟩⟩,aG _ _⟩
 case round=>
  obtain⟨i,f,out,o,c,hi,hf,rfl,rfl,rfl,hw,ho,hB⟩:=hrel
  have hol:out.length<=1001:=by
   have:=Ew (l.take i)
   rw[hw] at this
   simp at this
   omega
  have HX:=ae (ag hw (ag ho hB))
  have hsB:=hB.size
  clear hw ho hB
  by_cases hlt:i<l.length
  ·obtain⟨x,hx⟩: ∃x,l[i]=x:=⟨_,rfl⟩
   have hgx:(fD l)[i]'(by rw[hsz];exact hlt)=x:=hx
   have htk:l.take (i+1)=l.take i++[x]:=by rw[ig hlt,hx]
   have Td:=ae htk
   clear htk hx
   by_cases h32:x=32
   ·subst h32
    go_wp2_with (at_builtin;go_loud (refine dZ rfl _ _ TD rfl w.heap.size (.slice o out.length c) out.length (dH out) rfl (aB (Ms:=[]) HX.o.2.1 (Ext.az (aj (aG _ _) _)) (by simp)) (.slice (some ⟨wr.heap.size,0,none⟩) 1 1) 1 [.string (fD ((l.take i).drop f))] rfl (aP.cZ 1 1 (ay _ _) rfl (by decide)) (TN _) (by omega) (by omega) (by simp;omega) ?_))
    intro v' Wc hown hgr hcase
    obtain⟨TM,Np,rfl⟩:=aV hown
    have hwB:Below wr.heap.size wr (wr.alloc (.cells #[.string (fD ((l.take i).drop f))] 9)):=aj (aG _ _) _
    have HY:=ae (ag hown (Below.grown (bg HX.o.2.2 hwB) hgr (by have:=hwB.size;omega) (fun g e=>(bG HX.o.2.1 g e).1)))
    clear hown hgr hcase hwB
    go_wp2_with fail
    go_roundw
    case rel=>
     refine⟨i+1,i+1,out++[(l.take i).drop f],TM,Np,by omega,by omega,by go_num,by go_num,by simp,?_,?_,HY.o.2⟩
     ·rw[Td.o,zX,HX.o.1]
      simp
      omega
     ·have:=HY.o.1
      simpa [dH] using this
    case measure=>simp[intOf];omega
   ·have hne: ¬((x.toNat:Int)=32):=by
     intro h
     exact h32 (UInt8.toNat_inj.1 (by rw[show(32:UInt8).toNat=32 from rfl];omega))
    go_wp2_with fail
    go_roundw
    case rel=>
     refine⟨i+1,f,out,o,c,by omega,by omega,by go_num,rfl,rfl,?_,HX.o.2.1,HX.o.2.2⟩
     rw[Td.o,LV h32 _ out ((l.take i).drop f) HX.o.1]
     congr 2
     rw[List.drop_append_of_le_length (by simp;omega)]
    case measure=>simp[intOf];omega
  ·have hil:i=l.length:=by omega
   subst hil
   have HW:=ae HX.o.1
   rw[List.take_length] at HW
   have HL:=ae (show(l.take l.length).drop f=l.drop f by rw[List.take_length])
   go_wp2_with (at_builtin;go_loud (refine dZ rfl _ _ TD rfl w.heap.size (.slice o out.length c) out.length (dH out) rfl (aB (Ms:=[]) HX.o.2.1 (Ext.az (aj (aG _ _) _)) (by simp)) (.slice (some ⟨wr.heap.size,0,none⟩) 1 1) 1 [.string (fD (l.drop f))] (by rfl) (aP.cZ 1 1 (ay _ _) rfl (by decide)) (TN _) (by omega) (by omega) (by simp;omega) ?_))
   intro v' Wc hown hgr hcase
   obtain⟨TM,Np,rfl⟩:=aV hown
   have hwB:Below wr.heap.size wr (wr.alloc (.cells #[.string (fD (l.drop f))] 9)):=aj (aG _ _) _
   have HY:=ae (ag hown (Below.grown (bg HX.o.2.2 hwB) hgr (by have:=hwB.size;omega) (fun g e=>(bG HX.o.2.1 g e).1)))
   clear hown hgr hcase hwB
   go_wp2_with fail
   go_returns
   refine⟨.slice TM (out.length+1) Np,by simp,?_,HY.o.2⟩
   rw[HW.o]
   have:=HY.o.1
   simpa [dH] using this
end Go.Proofs.YthbpmepjmebolaaGreatDoor.Bk
end
section
namespace Go.Proofs.YthbpmepjmebolaaGreatDoor.Bk
open Go.Lib Go.RowKit Go.RG Go.SL Go.Shelf ji Go.TB Go.Proofs.YthbpmepjmebolaaGreatDoor.yR
theorem MB (ls:List aH): ∀u∈dH ls,u.oneCell'=true:=fun u hu=>by
 obtain⟨x,_,rfl⟩:=iW.1 hu
 rfl
def O8 (ls:List aH) (w:World) (e:Ending) (w':World):Prop:= ∃o c,e= .returned (.slice o ls.length c)/\w'.ownsRow w.heap.size 9 1 (.slice o ls.length c) ls.length (dH ls)/\Below w.heap.size w w'
theorem QN (ls:List aH) (v:Value) (w:World) (hv:iO w v ls) (hl:ls.length*16<=140737488355328):Calls Tryz.prog 14 #[v] w (O8 ls w):=by
 obtain⟨lo,lc,rfl⟩:=aP.open hv
 have HV:=ae hv
 clear hv
 go_enter Tryz.func14,Tryz.ntmps14
 go_wp2_with (at_builtin;go_loud (refine dZ rfl _ _ TD rfl w.heap.size (.slice (some ⟨w.heap.size,0,none⟩) 0 0) 0 [] rfl (iI (cs:= #[]) (n:=0) (ay _ _) rfl (ai _) (by decide)) (.slice lo ls.length lc) (ls).length (dH (ls)) rfl (aP.alloc (HV.o) _) (MB (ls)) (by omega) (by omega) (by simp) ?_))
 intro v' W2 hown hgr _
 (try rw[Nat.zero_add] at hown)
 (try rw[List.nil_append] at hown)
 obtain⟨o2,c2,rfl⟩:=aV hown
 have hB2:Below w.heap.size w W2:=Below.grown (aj (aG _ _) _) hgr (by simp) (fun g e=>by simp[Value.ownBlock] at e;omega)
 have HC2:=ae (ag hB2 hown)
 have hz2:=hB2.size
 clear hown hgr hB2
 go_wp2_with fail
 go_returns
 exact⟨_,_,rfl,HC2.o.2,HC2.o.1⟩
theorem LP (ls:List aH) (v:Value) (w:World) (hv:iO w v ls) (hl:ls.length<=1000):Calls Tryz.prog 31 #[v] w (O8 (jP++ls) w):=by
 obtain⟨lo,lc,rfl⟩:=aP.open hv
 have HV:=ae hv
 clear hv
 have agd:jP.length=13:=rfl
 have HYL:Hid ((jP++ls).length=13+ls.length):=ae (by rw[dm,agd])
 have HYC:Hid (dH jP++dH ls=dH (jP++ls)):=ae (by simp[dH])
 clear agd
 go_enter Tryz.func31,Tryz.ntmps31
 go_wp2_with (at_builtin;go_loud (refine dZ rfl _ _ TD rfl w.heap.size (.slice (some ⟨w.heap.size,0,none⟩) 13 13) 13 (dH jP) rfl (iI (cs:=(dH jP).toArray) (n:=13) (ay _ _) rfl (ai _) (by decide)) (.slice lo ls.length lc) ls.length (dH ls) rfl (aP.alloc HV.o _) (MB ls) (by omega) (by omega) (by simp) ?_))
 intro v' W2 hown hgr _
 rw[HYC.o] at hown
 obtain⟨o2,c2,rfl⟩:=aV hown
 have hB2:Below w.heap.size w W2:=Below.grown (aj (aG _ _) _) hgr (by simp) (fun g e=>by simp[Value.ownBlock] at e;omega)
 have HC2:=ae (ag hB2 hown)
 clear hown hgr hB2
 go_wp2_with fail
 go_returns
 unfold O8
 rw[HYL.o]
 exact⟨_,_,rfl,HC2.o.2,HC2.o.1⟩
end Go.Proofs.YthbpmepjmebolaaGreatDoor.Bk
end
section
namespace Go.Proofs.YthbpmepjmebolaaGreatDoor.Bk
open Go.RowKit Go.RG Go.SL Go.Shelf ji Go.TB Go.Proofs.YthbpmepjmebolaaGreatDoor.yR
theorem Gn: ∀(i n:Nat),vW n (i+1)=Jw (n/10^i%10)::vW n i:=by
 intro i
 induction i with
 |zero=>intro n;simp[vW]
 |succ i ih=>
  intro n
  rw[vW,ih (n/10),show vW n (i+1)=vW (n/10) i++[Jw (n%10)] from rfl,Nat.div_div_eq_div_mul, <-Nat.pow_succ',List.cons_append]
def dv (k:Nat):Value:= .int .u8 ((48+k:Nat):Int)
theorem Uj {k:Nat} (h:k<10):dv k=uv (Jw k):=by unfold dv uv;rw[um h]
theorem MH (n:Nat) (hn:n<1000000) (w:World):Calls Tryz.prog 173 #[iv n] w (PV (.agg (Lib.byteCells (vW n 4)).toArray) w):=by
 obtain⟨d0,hd0⟩: ∃d,n%10=d:=⟨_,rfl⟩
 obtain⟨d1,hd1⟩: ∃d,n/10%10=d:=⟨_,rfl⟩
 obtain⟨d2,hd2⟩: ∃d,n/10/10%10=d:=⟨_,rfl⟩
 obtain⟨d3,hd3⟩: ∃d,n/10/10/10%10=d:=⟨_,rfl⟩
 have b0:d0<10:=by omega
 have b1:d1<10:=by omega
 have b2:d2<10:=by omega
 have b3:d3<10:=by omega
 have HD:Hid (vW n 4=[Jw d3,Jw d2,Jw d1,Jw d0]):=ae (by simp[vW,hd0,hd1,hd2,hd3])
 obtain⟨n1,hn1⟩: ∃m,n/10=m:=⟨_,rfl⟩
 rw[hn1] at hd1 hd2 hd3
 obtain⟨n2,hn2⟩: ∃m,n1/10=m:=⟨_,rfl⟩
 rw[hn2] at hd2 hd3
 obtain⟨n3,hn3⟩: ∃m,n2/10=m:=⟨_,rfl⟩
 rw[hn3] at hd3
 obtain⟨n4,hn4⟩: ∃m,n3/10=m:=⟨_,rfl⟩
 have q0:(n:Int)%10=d0:=by omega
 have q1:(n1:Int)%10=d1:=by omega
 have q2:(n2:Int)%10=d2:=by omega
 have q3:(n3:Int)%10=d3:=by omega
 have r0:(n:Int)/10=n1:=by omega
 have r1:(n1:Int)/10=n2:=by omega
 have r2:(n2:Int)/10=n3:=by omega
 have r3:(n3:Int)/10=n4:=by omega
 clear hd0 hd1 hd2 hd3 hn1 hn2 hn3 hn4
 go_enter Tryz.func173,Tryz.ntmps173
 go_wp2_with fail
 go_loopw [0,4] (fun s u wr=>Below w.heap.size w wr/\((s=iv n/\u=iv 0/\wr.heap[w.heap.size]? =some (.cells #[.int .u8 0,.int .u8 0,.int .u8 0,.int .u8 0] 264 (0,0)))∨
  (s=iv n1/\u=iv 1/\wr.heap[w.heap.size]? =some (.cells #[.int .u8 0,.int .u8 0,.int .u8 0,dv d0] 264 (0,0)))∨
  (s=iv n2/\u=iv 2/\wr.heap[w.heap.size]? =some (.cells #[.int .u8 0,.int .u8 0,dv d1,dv d0] 264 (0,0)))∨
  (s=iv n3/\u=iv 3/\wr.heap[w.heap.size]? =some (.cells #[.int .u8 0,dv d2,dv d1,dv d0] 264 (0,0)))∨
  (s=iv n4/\u=iv 4/\wr.heap[w.heap.size]? =some (.cells #[dv d3,dv d2,dv d1,dv d0] 264 (0,0))))) (fun _ u _=>4-(intOf u).toNat)
 case atStart=>exact⟨aj (aG _ _) _,.inl ⟨rfl,rfl,ay _ _⟩⟩
 case round=>
  obtain⟨hB,hc⟩:=hrel
  rcases hc with⟨rfl,rfl,hk⟩|⟨rfl,rfl,hk⟩|⟨rfl,rfl,hk⟩|⟨rfl,rfl,hk⟩|⟨rfl,rfl,hk⟩
  ·obtain⟨c0,f0,l0⟩:=af hk
   have HX:=ae (ag hB hk)
   clear hB hk
   go_wp2_with fail
   exact⟨⟨iw HX.o.1 (ai _) _,.inr (.inl ⟨rfl,rfl,aI HX.o.2 _⟩)⟩,by simp[intOf]⟩
  ·obtain⟨c0,f0,l0⟩:=af hk
   have HX:=ae (ag hB hk)
   clear hB hk
   go_wp2_with fail
   exact⟨⟨iw HX.o.1 (ai _) _,.inr (.inr (.inl ⟨rfl,rfl,aI HX.o.2 _⟩))⟩,by simp[intOf]⟩
  ·obtain⟨c0,f0,l0⟩:=af hk
   have HX:=ae (ag hB hk)
   clear hB hk
   go_wp2_with fail
   exact⟨⟨iw HX.o.1 (ai _) _,.inr (.inr (.inr (.inl ⟨rfl,rfl,aI HX.o.2 _⟩)))⟩,by simp[intOf]⟩
  ·obtain⟨c0,f0,l0⟩:=af hk
   have HX:=ae (ag hB hk)
   clear hB hk
   go_wp2_with fail
   exact⟨⟨iw HX.o.1 (ai _) _,.inr (.inr (.inr (.inr ⟨rfl,rfl,aI HX.o.2 _⟩)))⟩,by simp[intOf]⟩
  ·obtain⟨c0,f0,l0⟩:=af hk
   have HX:=ae (ag hB hk)
   clear hB hk
   go_upto_region 7 with(fail)
   refine wp_region_lit ?_
   refine wpList_load_row rfl _ _ rfl w.heap.size rfl _ _ _ _ HX.o.2 Tryz.underlying264 rfl (by kernel_rfl) ?_
   simp only[zp]
   refine wpList_store_row rfl _ _ _ rfl w.heap.size #[dv d3,dv d2,dv d1,dv d0] (by as_aux_lemma=>kernel_rfl) (by as_aux_lemma=>kernel_rfl) _ _ HX.o.2 (by kernel_rfl) (by as_aux_lemma=>kernel_rfl) (by simp[dv,Value.oneCell']) ?_
   simp only[zp]
   refine jX fun W5 xJ=>?_
   have Ob:Ext [w.heap.size] wr W5:=by rw[xJ];exact fP
   have hk5:W5.heap[w.heap.size]? =some (.cells #[dv d3,dv d2,dv d1,dv d0] 264 (0,0)):=by rw[xJ];exact setRow_heap _ _ _ _ _ _ HX.o.2
   have H5:=ae (ag (je HX.o.1 Ob (ai _)) hk5)
   clear xJ Ob hk5
   go_wp2_with fail
   refine bodyPost_ret (v:= .agg #[dv d3,dv d2,dv d1,dv d0]) ?_ rfl ?_
   ·have q1:=run_loadVar_row (P:=Tryz.prog) W5 w.heap.size 264 264 _ (0,0) _ H5.o.2 Tryz.underlying264 rfl (by kernel_rfl)
    simp[results,Tryz.results173,asAddr,q1]
   ·refine⟨?_,H5.o.1⟩
    rw[HD.o,Uj b0,Uj b1,Uj b2,Uj b3]
    rfl
theorem BU (n:Nat): ∃a b c d,vW n 4=[a,b,c,d]:=by
 have h:=Oj 4 n
 match hq:vW n 4,h with
 |[a,b,c,d],_=>exact⟨a,b,c,d,rfl⟩
def XT (i:Nat) (line:aH):List Value:=Lib.byteCells (58::58::10::vW (sS i line) 4)
abbrev z7:Array Value:= #[.int .u8 0,.int .u8 0,.int .u8 0,.int .u8 0,.int .u8 0,.int .u8 0,.int .u8 0]
theorem PZ (i:Nat) (line:aH) (w:World) (hi:i<=1000) (hl:line.length<=60):Calls Tryz.prog 172 #[iv i,.string (fD line)] w (PV (.agg (XT i line).toArray) w):=by
 obtain⟨a,b,c,d,hd⟩:=BU (sS i line)
 have HD:=ae hd
 have hcl:=Wj i line
 have HCK:=ae (fun W=>uZ i line W hi hl)
 have HSH:=ae (fun W=>MH (sS i line) (by omega) W)
 unfold XT
 rw[hd]
 have hQ:=HD
 clear hd HD
 generalize sS i line=k at*
 go_enter Tryz.func172,Tryz.ntmps172
 go_upto_region 1 with(fail)
 refine dQ fun W1 hW1=>?_
 have hb1:Below w.heap.size w W1:=by rw[hW1];exact aj (aG _ _) _
 have hk1:W1.heap[w.heap.size]? =some (.cells z7 266 (0,0)):=by rw[hW1];exact ay _ _
 have hs1:w.heap.size<W1.heap.size:=by rw[hW1];simp
 have HB1:=ae hb1
 have XD:=ae hk1
 clear hW1 hb1 hk1
 go_wp2_with fail
 refine(HCK.o W1).mono ?_
 rintro e W2 ⟨rfl,hb⟩
 have hs2:=hb.size
 have HB2:=ae (bg HB1.o hb)
 have HK2:=ae ((hb.block _ hs1).trans XD.o)
 clear hb
 go_wp2_with fail
 refine(HSH.o W2).mono ?_
 rintro e W3 ⟨he,hb⟩
 rw[hQ.o] at he
 subst he
 have hs3:=hb.size
 have HB3:=ae (bg HB2.o hb)
 have hk3:=(hb.block w.heap.size (by omega)).trans HK2.o
 clear hb
 rename_i hK
 refine hK _ _ ?_
 refine aO rfl (w':=W3) (.agg #[uv 58,uv 58,uv 10,uv a,uv b,uv c,uv d]) (by as_aux_lemma=>kernel_rfl) ?_
 simp only[zp]
 refine wpList_store_row rfl _ _ _ rfl w.heap.size #[uv 58,uv 58,uv 10,uv a,uv b,uv c,uv d] (by as_aux_lemma=>kernel_rfl) (by as_aux_lemma=>kernel_rfl) _ z7 hk3 (by kernel_rfl) (by as_aux_lemma=>kernel_rfl) (by simp[Value.oneCell']) ?_
 simp only[zp]
 refine jX fun W4 Em=>?_
 have Ug:Ext [w.heap.size] W3 W4:=by rw[Em];exact fP
 have hk4:W4.heap[w.heap.size]? =some (.cells #[uv 58,uv 58,uv 10,uv a,uv b,uv c,uv d] 266 (0,0)):=by rw[Em];exact setRow_heap _ _ _ _ _ _ hk3
 have H4:=ae (ag (je HB3.o Ug (ai _)) hk4)
 clear Em Ug hk4 hk3 hK
 go_wp2_with fail
 refine bodyPost_ret (v:= .agg #[uv 58,uv 58,uv 10,uv a,uv b,uv c,uv d]) ?_ rfl ?_
 ·have q1:=run_loadVar_row (P:=Tryz.prog) W4 w.heap.size 266 266 _ (0,0) _ H4.o.2 Tryz.underlying266 rfl (by kernel_rfl)
  simp[results,Tryz.results172,asAddr,q1]
 ·exact⟨rfl,H4.o.1⟩
theorem aP.cut {w:World} {o:Option Addr} {n c:Nat} {xs:List Value} (h:aP 1 w (.slice o n c) n xs) {l k:Nat} (hlk:l<=k) (hk:k<=n):aP 1 w (sliced o l k c 1) (k-l) ((xs.take k).drop l):=by
 obtain⟨hl,o',c',hv,h1,h2,h3,h4⟩:=h
 injection hv with e1 e2 e3
 subst e1 e3
 have hlen:xs.length=n:=by simpa using hl
 refine⟨by simp;omega,(if c=l then o else o.map (·.add (l*1))),c-l,rfl,by omega,by omega,fun ho=>?_,fun a ha=>?_⟩
 ·split at ho
  ·omega
  ·cases o with
   |none=>have:=h3 rfl;omega
   |some a=>cases ho
 ·split at ha
  ·rename_i hcl
   obtain⟨hs,hc⟩:=h4 a ha
   refine⟨hs,fun j u hj=>?_⟩
   have:(xs.take k).drop l=[]:=List.drop_eq_nil_of_le (by simp;omega)
   rw[this] at hj
   cases hj
  ·cases o with
   |none=>cases ha
   |some b=>
    obtain⟨hs,hc⟩:=h4 b rfl
    obtain⟨bb,off,sp⟩:=b
    simp only at hs hc
    subst hs
    simp only[Option.map_some,Option.some.injEq,Nat.mul_one] at ha
    rw[Addr.add_lit] at ha
    subst ha
    refine⟨rfl,fun j u hj=>?_⟩
    rw[List.getElem?_drop,List.getElem?_take] at hj
    split at hj
    ·have:=hc _ _ hj
     simpa [Nat.add_assoc] using this
    ·cases hj
theorem P9:iq Tryz.prog 83 5 (.int .u8 0) 1 1:=⟨Tryz.underlying83,by kernel_rfl,rfl,by omega⟩
end Go.Proofs.YthbpmepjmebolaaGreatDoor.Bk
end
section
namespace Go.Proofs.YthbpmepjmebolaaGreatDoor.Bk
open Go.Lib Go.RowKit Go.RG Go.SL Go.Shelf ji Go.TB Go.Proofs.YthbpmepjmebolaaGreatDoor.yR
theorem EI {A B C cs:List Value} (h:B.length=cs.length):splice (A++(B++C)) A.length cs=A++(cs++C):=by
 unfold splice
 rw[tq (ai _),kC (ai _), <-h,List.drop_append]
 simp
theorem set_mid {A C:List Value} {x y:Value}:(A++(x::C)).set A.length y=A++(y::C):=by
 rw[qh _ _ (ai _),Nat.sub_self,List.set_cons_zero]
theorem MM {a b c d e f x y z:Value} {ln Z:List Value} (hZ:Z.length=ln.length+9):
 (splice ((splice ((splice Z 0 [a,b]).set 2 x) 3 ln).set (3+ln.length) y) (4+ln.length) [c,d,e,f]).set (8+ln.length) z=a::b::x::(ln++[y,c,d,e,f,z]):=by
 obtain⟨z0,z1,z2,Z1,y0,y1,y2,y3,y4,y5,rfl,h1⟩: ∃z0 z1 z2 Z1 y0 y1 y2 y3 y4 y5,Z=z0::z1::z2::(Z1++[y0,y1,y2,y3,y4,y5])/\Z1.length=ln.length:=by
  match Z,hZ with
  |z0::z1::z2::Z',hZ=>
   have hl:Z'.length=ln.length+6:=by simp at hZ;omega
   refine⟨z0,z1,z2,Z'.take ln.length,?_⟩
   have h6:(Z'.drop ln.length).length=6:=by rw[kY];omega
   match hq:Z'.drop ln.length,h6 with
   |[y0,y1,y2,y3,y4,y5],_=>exact⟨y0,y1,y2,y3,y4,y5,by rw[<-hq,List.take_append_drop],by rw[gK];omega⟩
 have s1:splice (z0::z1::z2::(Z1++[y0,y1,y2,y3,y4,y5])) 0 [a,b]=a::b::z2::(Z1++[y0,y1,y2,y3,y4,y5]):=rfl
 rw[s1]
 have s2:(a::b::z2::(Z1++[y0,y1,y2,y3,y4,y5])).set 2 x=[a,b,x]++(Z1++[y0,y1,y2,y3,y4,y5]):=rfl
 rw[s2,show(3:Nat)=[a,b,x].length from rfl,EI h1]
 have s3:[a,b,x]++(ln++[y0,y1,y2,y3,y4,y5])=([a,b,x]++ln)++(y0::[y1,y2,y3,y4,y5]):=by simp
 rw[s3,show[a,b,x].length+ln.length=([a,b,x]++ln).length from by simp;omega,set_mid]
 have s4:([a,b,x]++ln)++(y::[y1,y2,y3,y4,y5])=([a,b,x]++ln++[y])++([y1,y2,y3,y4]++[y5]):=by simp
 rw[s4,show 4+ln.length=([a,b,x]++ln++[y]).length from by simp;omega,EI (B:=[y1,y2,y3,y4]) (cs:=[c,d,e,f]) rfl]
 have s5:([a,b,x]++ln++[y])++([c,d,e,f]++[y5])=([a,b,x]++ln++[y,c,d,e,f])++(y5::[]):=by simp
 rw[s5,show 8+ln.length=([a,b,x]++ln++[y,c,d,e,f]).length from by simp;omega,set_mid]
 simp
theorem RV {W:World} {o:Option Addr} {n c:Nat} {l:aH} (h:aP 1 W (.slice o n c) n (Lib.byteCells l)):(convert 83 9 (.slice o n c)).run Tryz.prog W= .ok (.string (fD l)) W:=by
 obtain⟨hl,o',c',hv,h1,h2,h3,h4⟩:=h
 cases hv
 have hn:l.length=n:=by simpa [Lib.byteCells] using hl
 cases o with
 |none=>
  have:n=0:=by have:=h3 rfl;omega
  subst this
  obtain rfl:=jT hn
  rw[run_convert_bytes_nil W 83 5 Tryz.underlying83 Tryz.underlying5 _ _ 9 Tryz.underlying9]
  rfl
 |some a=>
  obtain⟨b,off,sp⟩:=a
  obtain⟨hs,hc⟩:=h4 _ rfl
  simp only at hs hc
  subst hs
  rw[run_convert_bytes_arg W 83 5 Tryz.underlying83 Tryz.underlying5 b off n c (l.map fun x=>(x.toNat:Int)) (by simpa using hn) (fun i hi=>by
   have hi':i<l.length:=by omega
   have:=hc i (.int .u8 (l[i].toNat:Int)) (by simp[Lib.byteCells,hi'])
   rw[this]
   simp[List.getD,hi']) 9 Tryz.underlying9]
  congr 1
  congr 1
  simp only[strOfNums,fD]
  congr 1
  apply Array.ext
  ·simp
  ·intro j h1 h2
   simp
theorem aaN {w W1:World} {A B:Array Value} {t u:TypeId} (h:W1=(w.alloc (.cells A t)).alloc (.cells B u)):
 Below w.heap.size w W1/\W1.heap[w.heap.size]? =some (.cells A t (0,0))/\W1.heap[w.heap.size+1]? =some (.cells B u (0,0))/\W1.heap.size=w.heap.size+2:=by
 subst h
 exact⟨aj (aj (aG _ _) _) _,(aW _ _ _ (by simp)).trans (ay _ _),dW _ _ _,by simp⟩
theorem row_step {W W':World} {g t5:Nat} {L X:List Value} {t:TypeId} {o:Obj} (h:W'=W.setRow g L.toArray) (hk:W.heap[g]? =some (.cells X.toArray t (0,0))) (hne:g≠t5) (h5:W.heap[t5]? =some o):
 W'.heap[t5]? =some o/\W'.heap[g]? =some (.cells L.toArray t (0,0))/\Below g W W':=by
 subst h
 exact⟨(setRow_other W g t5 _ (Ne.symm hne)).trans h5,setRow_heap W g _ _ t _ hk,below_setRow (aG _ _) (ai _) _⟩
theorem Cf {W W':World} {g t5 j:Nat} {v:Value} {X:List Value} {t:TypeId} {o:Obj} (h:W'=W.setCell ⟨g,j,none⟩ v) (hk:W.heap[g]? =some (.cells X.toArray t (0,0))) (hne:g≠t5) (h5:W.heap[t5]? =some o):
 W'.heap[t5]? =some o/\W'.heap[g]? =some (.cells (X.set j v).toArray t (0,0))/\Below g W W':=by
 subst h
 refine⟨(heap_setCell_other W ⟨g,j,none⟩ t5 v (Ne.symm hne)).trans h5,?_,(aG g W).setCell (p:=⟨g,j,none⟩) (ai _) v⟩
 rw[heap_setCell_same W g j _ t v hk,sW]
theorem QL (n:Nat) (hn:n<=1000) (W:World):
 (Instr.makeSlice 83 (iv n) (iv n)).run Tryz.prog W= .ok (.slice (some ⟨W.heap.size,0,none⟩) n n) (W.alloc (.cells (List.replicate n (Value.int .u8 0)).toArray 5)):=by
 obtain⟨i,hi,hz,hs,hby⟩:=info_parts P9.info
 have:=run_make (P:=Tryz.prog) W 83 5 i (.int .u8 0) P9.und hi hz .i64 .i64 n n (by omega) (Int.le_refl _) (by rw[hby];omega) (by omega)
 rw[this,hs]
 simp only[Int.toNat_natCast]
 congr 3
 apply Array.ext
 ·simp[madeCells]
 ·intro j h1 h2
  simp[madeCells,Value.cells]
  rw[Nat.mod_one]
  rfl
theorem Ib {n:Nat} {p q r s:UInt8} (h:vW n 4=[p,q,r,s]):vW n 2=[r,s]:=by
 rw[Gn 3,Gn 2] at h
 injection h with _ h
 injection h with _ h
def aks (i:Nat) (line:aH) (w:World) (e:Ending) (w':World):Prop:=
 Below w.heap.size w w'/\ ∃g n,n=9+line.length/\e= .returned (.slice (some ⟨g,0,none⟩) n n)/\w.heap.size<=g/\w'.heap[g]? =some (.cells (Lib.byteCells (mQ i line)).toArray 5 (0,0))
theorem Qk (i:Nat) (line:aH) (w:World) (hi:i<=1000) (hl:line.length<=60):Calls Tryz.prog 106 #[iv i,.string (fD line)] w (aks i line w):=by
 obtain⟨a,b,c,d,hd⟩:=BU (sS i line)
 obtain⟨p,q,r,s,hs⟩:=BU line.length
 have HT:=PZ i line w hi hl
 have HSH:=ae (fun W=>MH line.length (by omega) W)
 unfold XT at HT
 rw[hd] at HT
 rw[hs] at HSH
 have hrec:Lib.byteCells (mQ i line)=uv r::uv s::uv 58::(Lib.byteCells line++[uv 58,uv a,uv b,uv c,uv d,uv 10]):=by
  unfold mQ
  rw[hd,Ib hs]
  simp[Lib.byteCells,uv]
 have hbl:(Lib.byteCells line).length=line.length:=by simp[Lib.byteCells]
 have hsz:=oG line
 obtain⟨c1,hc1⟩: ∃c,c=(58:UInt8):=⟨_,rfl⟩
 obtain⟨c3,hc3⟩: ∃c,c=(10:UInt8):=⟨_,rfl⟩
 rw[<-hc1, <-hc3] at HT hrec
 have HR:=ae hrec
 have HTT:Hid (Calls Tryz.prog 172 #[iv i,.string (fD line)] w (PV (.agg #[uv c1,uv c1,uv c3,uv a,uv b,uv c,uv d]) w)):=ae HT
 have HSW:Hid (∀W,Calls Tryz.prog 173 #[iv line.length] W (PV (.agg #[uv p,uv q,uv r,uv s]) W)):=ae HSH.o
 have HBL:=ae hbl
 clear hd hs hrec hc1 hc3 HT hbl HSH
 go_enter Tryz.func106,Tryz.ntmps106
 go_wp2_with fail
 refine HTT.o.mono ?_
 rintro e W1 ⟨rfl,hb1⟩
 have HB1:=ae hb1
 go_wp2_with fail
 refine(HSW.o W1).mono ?_
 rintro e W2 ⟨rfl,hb2⟩
 have HB2:=ae (bg HB1.o hb2)
 clear hb1 hb2
 go_upto_region 2 with(fail)
 refine dQ fun W3 hW3=>?_
 obtain⟨hb3,k5,k6,hz3⟩:=aaN hW3
 have HB3:=ae (bg HB2.o hb3)
 have Xl:=ae (ag k5 k6)
 clear hW3 hb3 k5 k6
 obtain⟨N,hN⟩: ∃N,N=9+line.length:=⟨_,rfl⟩
 have hmk:(Instr.makeSlice 83 (iv (3+(line.length:Int)+6)) (iv (3+(line.length:Int)+6))).run Tryz.prog W3= .ok (.slice (some ⟨W3.heap.size,0,none⟩) N N) (W3.alloc (.cells (List.replicate N (Value.int .u8 0)).toArray 5)):=by
  have e:(3+(line.length:Int)+6)=((N:Nat):Int):=by omega
  rw[e]
  exact QL N (by omega) W3
 go_upto_region 3 with(fail)
 refine dQ fun W4 Em=>?_
 have k7:W4.heap[W2.heap.size+2]? =some (.cells (List.replicate (9+line.length) (Value.int .u8 0)).toArray 5 (0,0)):=by
  rw[Em, <-hz3,List.toArray_replicate]
  exact ay _ _
 have hb4:Below W3.heap.size W3 W4:=by rw[Em];exact aj (aG _ _) _
 have hw2:w.heap.size<=W2.heap.size:=HB2.o.size
 have HB4:=ae (bg HB3.o hb4)
 have k5:=(hb4.block W2.heap.size (by omega)).trans Xl.o.1
 have k6:=(hb4.block (W2.heap.size+1) (by omega)).trans Xl.o.2
 clear Em hb4 hmk hN Xl
 obtain⟨g,hg⟩: ∃g,W2.heap.size+2=g:=⟨_,rfl⟩
 obtain⟨t6,h6⟩: ∃g,W2.heap.size+1=g:=⟨_,rfl⟩
 obtain⟨t5,h5⟩: ∃g,W2.heap.size=g:=⟨_,rfl⟩
 rw[hg] at k7⊢
 rw[h6] at k6⊢
 rw[h5] at k5⊢
 have hne:g≠t5/\g≠t6/\w.heap.size<=g:=by omega
 have JI:=ae hne
 clear hg h6 h5 hne hz3 hw2
 have wV:=ae k7
 have XC:=ae k5
 have HK6:=ae k6
 obtain⟨c6,f6,l6⟩:=af k6
 clear k5 k6 k7
 have hc6: ∀j v,[uv r,uv s][j]? =some v->W4.cell? ((⟨t6,2,none⟩:Addr).add j)=some v:=fun j v hj=>by
  match j,hj with
  |0,hj=>exact(c6 2).trans hj
  |1,hj=>exact(c6 3).trans hj
 obtain⟨L0,hL0⟩: ∃L0,L0=List.replicate (9+line.length) (Value.int .u8 0):=⟨_,rfl⟩
 have hl0:L0.length=9+line.length:=by rw[hL0,List.length_replicate]
 have k7:=wV.o
 rw[<-hL0] at k7
 have hcp:(Builtin.copy_ #[83,83] 3 #[.slice (some ⟨g,0,none⟩) (9+line.length) (9+line.length),.slice (some ⟨t6,2,none⟩) 2 2]).run Tryz.prog W4= .ok (goInt 2) (W4.setRow g (splice L0 0 [uv r,uv s]).toArray):=by
  have h:=run_copy_row (P:=Tryz.prog) W4 83 83 3 5 g 0 (9+line.length) (9+line.length) ⟨t6,2,none⟩ 2 2 L0.toArray 5 [uv r,uv s] Tryz.underlying83 (by kernel_rfl) k7 (by rw[show Nat.min 2 (9+line.length)=2 from Nat.min_eq_left (by omega)];rfl) hc6 (by simp;omega) (by simp[uv,Value.oneCell'])
  exact h
 have HL0:=ae hl0
 clear hc6 hL0 hl0 wV
 have wV:=ae k7
 clear k7
 go_upto_region 4 with(fail)
 refine dQ fun W5 xJ=>?_
 obtain⟨L1,hL1⟩: ∃L1,L1=splice L0 0 [uv r,uv s]:=⟨_,rfl⟩
 rw[<-hL1] at xJ
 have hl1:L1.length=9+line.length:=by rw[hL1,length_splice _ _ _ (by rw[HL0.o];simp;omega),HL0.o]
 obtain⟨h5,k7,hb5⟩:=row_step xJ wV.o (JI.o.1) XC.o
 have pz:=ae (HB4.o.trans (hb5.mono JI.o.2.2))
 have HL1:=ae (ag hL1 hl1)
 obtain⟨c5,f5,l5⟩:=af h5
 obtain⟨x2,g7⟩: ∃x,W5.cell? ⟨g,2,none⟩=some x:=⟨L1[2]'(by omega),by rw[(af k7).1 2];simp⟩
 obtain⟨_,f7,l7⟩:=af k7
 have H5:=ae (ag h5 k7)
 clear xJ h5 k7 hb5 hL1 hl1 hcp c6 f6 l6 XC HK6 wV HB4
 go_upto_region 5 with(fail)
 refine dQ fun W6 Jn=>?_
 obtain⟨h6,k8,hb6⟩:=Cf Jn H5.o.2 JI.o.1 H5.o.1
 obtain⟨L2,hL2⟩: ∃L2,L2=L1.set 2 (uv c1):=⟨_,rfl⟩
 have hl2:L2.length=9+line.length:=by rw[hL2,pY,HL1.o.2]
 rw[<-hL2] at k8
 have qo:=ae (pz.o.trans (hb6.mono JI.o.2.2))
 have HL2:=ae (ag hL2 hl2)
 have H6:=ae (ag h6 k8)
 clear Jn h6 k8 hb6 hL2 hl2 c5 f5 l5 g7 f7 l7 H5 pz
 have hcq:(Builtin.copy_ #[83,9] 3 #[.slice (some ⟨g,3,none⟩) (9+line.length-3) (9+line.length-3),.string (fD line)]).run Tryz.prog W6= .ok (goInt line.length) (W6.setRow g (splice L2 3 (Lib.byteCells line)).toArray):=by
  have h:=Lib.run_copy_row_string (P:=Tryz.prog) W6 83 9 3 5 g 3 (9+line.length-3) (9+line.length-3) (fD line) L2.toArray 5 Tryz.underlying83 (by kernel_rfl) H6.o.2 (by rw[hsz];omega) (by rw[hsz];have:=HL2.o.2;simp;omega)
  rw[h,hsz]
  have e:L2.toArray.toList.take 3++Lib.byteCells (fD line).data.toList++L2.toArray.toList.drop (3+line.length)=splice L2 3 (Lib.byteCells line):=by
   unfold splice
   rw[HBL.o,ni]
  rw[e]
 go_upto_region 6 with(fail)
 refine dQ fun W7 Ea=>?_
 obtain⟨L3,hL3⟩: ∃L3,L3=splice L2 3 (Lib.byteCells line):=⟨_,rfl⟩
 rw[<-hL3] at Ea
 have hl3:L3.length=9+line.length:=by rw[hL3,length_splice _ _ _ (by rw[HL2.o.2,HBL.o];omega),HL2.o.2]
 obtain⟨h7,k8,hb7⟩:=row_step Ea H6.o.2 JI.o.1 H6.o.1
 have yZ:=ae (qo.o.trans (hb7.mono JI.o.2.2))
 have HL3:=ae (ag hL3 hl3)
 have H7:=ae (ag h7 k8)
 clear Ea h7 k8 hb7 hL3 hl3 hcq H6 qo
 go_upto_region 7 with(fail)
 rw[show 9+line.length-(3+line.length)=6 from by omega]
 obtain⟨c7,f7,l7⟩:=af H7.o.1
 obtain⟨c8,f8,l8⟩:=af H7.o.2
 obtain⟨x3,g3⟩: ∃x,W7.cell? ⟨g,3+line.length,none⟩=some x:=⟨L3[3+line.length]'(by have:=HL3.o.2;omega),by rw[c8 (3+line.length)];simp⟩
 clear c8
 go_upto_region 8 with(fail)
 refine dQ fun W8 hW8=>?_
 obtain⟨h8,k8,hb8⟩:=Cf hW8 H7.o.2 JI.o.1 H7.o.1
 obtain⟨L4,hL4⟩: ∃L4,L4=L3.set (3+line.length) (uv c1):=⟨_,rfl⟩
 have hl4:L4.length=9+line.length:=by rw[hL4,pY,HL3.o.2]
 rw[<-hL4] at k8
 have pF:=ae (yZ.o.trans (hb8.mono JI.o.2.2))
 have HL4:=ae (ag hL4 hl4)
 have H8:=ae (ag h8 k8)
 clear hW8 h8 k8 hb8 hL4 hl4 c7 f7 l7 f8 l8 g3 H7 yZ
 have hct: ∀j v,[uv a,uv b,uv c,uv d][j]? =some v->W8.drew.cell? ((⟨t5,3,none⟩:Addr).add j)=some v:=fun j v hj=>by
  obtain⟨c5,_,_⟩:=af H8.o.1
  match j,hj with
  |0,hj=>exact(c5 3).trans hj
  |1,hj=>exact(c5 4).trans hj
  |2,hj=>exact(c5 5).trans hj
  |3,hj=>exact(c5 6).trans hj
 have hcr:(Builtin.copy_ #[83,83] 3 #[.slice (some ⟨g,3+line.length+1,none⟩) 5 5,.slice (some ⟨t5,3,none⟩) 4 4]).run Tryz.prog W8.drew= .ok (goInt 4) (W8.drew.setRow g (splice L4 (4+line.length) [uv a,uv b,uv c,uv d]).toArray):=by
  rw[show 3+line.length+1=4+line.length from by omega]
  have h:=run_copy_row (P:=Tryz.prog) W8.drew 83 83 3 5 g (4+line.length) 5 5 ⟨t5,3,none⟩ 4 4 L4.toArray 5 [uv a,uv b,uv c,uv d] Tryz.underlying83 (by kernel_rfl) H8.o.2 rfl hct (by have:=HL4.o.2;simp;omega) (by simp[uv,Value.oneCell'])
  rw[h,ni]
  rfl
 clear hct
 go_region
 go_upto_region 9 with(fail)
 refine dQ fun W9 KQ=>?_
 obtain⟨L5,hL5⟩: ∃L5,L5=splice L4 (4+line.length) [uv a,uv b,uv c,uv d]:=⟨_,rfl⟩
 rw[<-hL5] at KQ
 have hl5:L5.length=9+line.length:=by rw[hL5,length_splice _ _ _ (by rw[HL4.o.2];simp;omega),HL4.o.2]
 obtain⟨h9,k9,vP⟩:=row_step (W:=W8.drew) KQ H8.o.2 JI.o.1 H8.o.1
 have qR:=ae (pF.o.drew.trans (vP.mono JI.o.2.2))
 have HL5:=ae (ag hL5 hl5)
 obtain⟨c5,f5,l5⟩:=af h9
 obtain⟨c8,f8,l8⟩:=af k9
 obtain⟨x5,g5⟩: ∃x,W9.cell? ⟨g,3+line.length+5,none⟩=some x:=⟨L5[3+line.length+5]'(by omega),by rw[c8 (3+line.length+5)];simp⟩
 have H9:=ae (ag h9 k9)
 clear KQ h9 k9 vP hL5 hl5 hcr H8 pF c8
 go_upto_region 10 with(fail)
 refine dQ fun SN agR=>?_
 obtain⟨_,k10,zH⟩:=Cf agR H9.o.2 JI.o.1 H9.o.1
 have Xo:=ae (qR.o.trans (zH.mono JI.o.2.2))
 have HF:Hid (SN.heap[g]? =some (.cells (Lib.byteCells (mQ i line)).toArray 5 (0,0))):=by
  have e:=MM (a:=uv r) (b:=uv s) (c:=uv a) (d:=uv b) (e:=uv c) (f:=uv d) (x:=uv c1) (y:=uv c1) (z:=uv c3) (ln:=Lib.byteCells line) (Z:=L0) (by rw[HL0.o,HBL.o];omega)
  rw[HBL.o, <-HL1.o.1, <-HL2.o.1, <-HL3.o.1, <-HL4.o.1, <-HL5.o.1, <-HR.o] at e
  rw[show 3+line.length+5=8+line.length from by omega] at k10
  show _=_
  rw[k10, <-e]
 clear agR k10 zH c5 f5 l5 f8 l8 g5 H9 qR
 go_wp2_with fail
 go_returns
 exact⟨Xo.o,g,_,rfl,rfl,JI.o.2.2,HF.o⟩
theorem Ya: ∀(ls:List aH),(∀l∈ls,l.length<=60)->MC ls<=69*ls.length:=by
 intro ls
 induction ls with
 |nil=>intro _;exact ai _
 |cons l ls ih=>
  intro h
  have h1:=ih fun x hx=>h x (qg _ hx)
  have h2:=h l List.mem_cons_self
  simp only[MC,List.length_cons]
  omega
theorem VV {ls:List aH} {k:Nat} (hk:k<ls.length):jF 0 (ls.take (k+1))=jF 0 (ls.take k)++mQ k ls[k]:=by
 rw[ig hk,Ia,gK,Nat.zero_add,Nat.min_eq_left (by omega)]
theorem ZV (l:aH):(Lib.byteCells l).toArray.size=l.length:=by simp[Lib.byteCells]
theorem bytes_at {W:World} {g n:Nat} {l:aH} {t:TypeId} {fr:Nat×Nat} (h:W.heap[g]? =some (.cells (Lib.byteCells l).toArray t fr)) (hn:l.length=n) (hm:n<=maxLen):aP 1 W (.slice (some ⟨g,0,none⟩) n n) n (Lib.byteCells l):=
 aP.cZ (cs:=(Lib.byteCells l).toArray) 1 n h (by rw[ZV,hn,Nat.mul_one]) hm
theorem Wn (l:aH): ∀u∈Lib.byteCells l,u.oneCell'=true:=by
 intro u hu
 simp only[Lib.byteCells,iW] at hu
 obtain⟨x,_,rfl⟩:=hu
 rfl
def acV (l:aH) (w:World) (e:Ending) (w':World):Prop:=Below w.heap.size w w'/\ ∃v,e= .returned v/\w'.ownsRow w.heap.size 5 1 v l.length (Lib.byteCells l)
theorem ZC (ls:List aH) (v:Value) (w:World) (hv:iO w v ls) (hn:ls.length<=1000) (hl: ∀l∈ls,l.length<=60):Calls Tryz.prog 63 #[v] w (acV (Gg ls) w):=by
 obtain⟨lo,lc,rfl⟩:=aP.open hv
 have HV:=ae hv
 have HL:=ae hl
 clear hv hl
 go_enter Tryz.func63,Tryz.ntmps63
 go_wp2_with fail
 go_loopw [2,7] (fun u i wr=> ∃k:Nat,k<=ls.length/\i= .int .i64 k/\Below w.heap.size w wr/\wr.ownsRow w.heap.size 5 1 u (jF 0 (ls.take k)).length (Lib.byteCells (jF 0 (ls.take k)))) (fun _ i _=>ls.length-(intOf i).toNat)
 case atStart=>exact⟨0,bW _,rfl,aG _ _,⟨rfl,.inl ⟨rfl,rfl⟩⟩⟩
 case round=>
  obtain⟨k,hk,rfl,hB,how⟩:=hrel
  by_cases hlt:k<ls.length
  ·obtain⟨g1,f1,e1,r1,c1⟩:=BF (HV.o.below hB (ai _)) hlt
   have HB:=ae hB
   have HT:=ae (VV hlt)
   have hll:=HL.o _ (bY hlt)
   have hs1:(jF 0 (ls.take k)).length<=69*k:=by
    have h1:=Ya (ls.take k) fun l h=>HL.o l (oW h)
    rw[gK,Nat.min_eq_left (by omega)] at h1
    rw[KX]
    exact h1
   have HR:=ae (Qk k ls[k] wr (by omega) hll)
   have HQ:=ae (CS k ls[k])
   obtain⟨x,hx⟩: ∃x,x=ls[k]:=⟨_,rfl⟩
   rw[<-hx] at c1 HR HT HQ hll
   clear hx
   generalize hA:jF 0 (ls.take k)=A at*
   have hlo:=aV how
   obtain⟨oo,oc,rfl⟩:=hlo
   have HO:=ae how
   have FV:(k:Int)<ls.length:=by omega
   cases e1
   clear hB how hA
   go_wp2_with fail
   refine HR.o.mono ?_
   rintro e W2 ⟨hb2,g,n,rfl,rfl,hg,hk2⟩
   have HB2:=ae (bg HB.o hb2)
   have zV:=ae (aB (Ms:=[]) HO.o (Ext.az hb2) (by simp))
   have HS2:Hid (aP 1 W2 (.slice (some ⟨g,0,none⟩) (9+x.length) (9+x.length)) (9+x.length) (Lib.byteCells (mQ k x))):=ae (bytes_at hk2 HQ.o (by simp only[maxLen];omega))
   clear hb2 hk2 hg
   go_wp2_with (at_builtin;go_loud (refine dZ rfl _ _ P9 rfl w.heap.size (.slice oo A.length oc) A.length (Lib.byteCells A) rfl zV.o (.slice (some ⟨g,0,none⟩) (9+x.length) (9+x.length)) (9+x.length) (Lib.byteCells (mQ k x)) rfl HS2.o (Wn _) (by omega) (by omega) HB2.o.size ?_))
   intro v' W3 hown hgr _
   have hB3:Below w.heap.size w W3:=Below.grown HB2.o hgr (by have:=HB2.o.size;omega) (fun g e=>(bG zV.o g e).1)
   have HB3:=ae hB3
   have hown3:W3.ownsRow w.heap.size 5 1 v' (jF 0 (ls.take (k+1))).length (Lib.byteCells (jF 0 (ls.take (k+1)))):=by
    rw[HT.o,show Lib.byteCells (A++mQ k x)=Lib.byteCells A++Lib.byteCells (mQ k x) from by simp[Lib.byteCells],dm,HQ.o]
    exact hown
   have HO3:=ae hown3
   clear hown hgr hB3 hown3
   go_wp2_with fail
   go_roundw
   all_goals first
    |exact⟨k+1,by omega,by go_num,HB3.o,HO3.o⟩
    |(simp[intOf];omega)
  ·have hkl:k=ls.length:=by omega
   have HO:Hid (wr.ownsRow w.heap.size 5 1 u2 (Gg ls).length (Lib.byteCells (Gg ls))):=ae (by
    rw[hkl,List.take_length] at how
    exact how)
   have HB:=ae hB
   clear hB how
   go_wp2_with fail
   go_returns
   exact⟨HB.o,_,rfl,HO.o⟩
theorem Gh {ls:List aH} (h:fH ls=0):ls.length<=40/\ ∀l∈ls,l.length<=60:=by
 unfold fH at h
 split at h
 ·omega
 ·rename_i hc
  refine⟨by omega,fun l hl=>?_⟩
  apply Classical.byContradiction
  intro hn
  exact hc (.inr (List.any_eq_true.2 ⟨l,hl,by simp;omega⟩))
def Us (q:Int) (ls:List aH) (w:World) (e:Ending) (w':World):Prop:=
 Below w.heap.size w w'/\((q≠0/\e= .returned (.tuple #[.slice none 0 0,iv q]))∨(q=0/\ ∃v,e= .returned (.tuple #[v,iv 0])/\w'.ownsRow w.heap.size 5 1 v (Gg ls).length (Lib.byteCells (Gg ls))))
theorem WT (ls:List aH) (v:Value) (w:World) (hv:iO w v ls) (hln: ∀x∈ls,x.length<=1000000):Calls Tryz.prog 34 #[v] w (Us (fH ls) ls w):=by
 have HF:=ae (Jr ls v w hv hln)
 have HW:Hid (fH ls=0-> ∀W,Below w.heap.size w W->Calls Tryz.prog 63 #[v] W (acV (Gg ls) W)):=ae (fun h W hb=>ZC ls v W (hv.below hb (ai _)) (by have:=(Gh h).1;omega) (Gh h).2)
 obtain⟨lo,lc,rfl⟩:=aP.open hv
 clear hv
 obtain⟨q,hq⟩: ∃q,fH ls=q:=⟨_,rfl⟩
 rw[hq] at HF HW⊢
 have HQ:=ae hq
 clear hq
 go_enter Tryz.func34,Tryz.ntmps34
 go_wp2_with fail
 refine HF.o.mono ?_
 rintro e W1 ⟨rfl,hb1⟩
 have HB1:=ae hb1
 clear hb1
 by_cases hz:q=0
 ·subst hz
  go_wp2_with fail
  refine(HW.o (by trivial) W1 HB1.o).mono ?_
  rintro e W2 ⟨hb2,v2,rfl,ho⟩
  have HB2:=ae (bg HB1.o hb2)
  obtain⟨o2,c2,rfl⟩:=aV ho
  have HO:=ae (cu ho HB1.o.size)
  clear hb2 ho
  go_wp2_with fail
  go_returns
  exact⟨HB2.o,.inr ⟨rfl,_,rfl,HO.o⟩⟩
 ·go_wp2_with fail
  go_returns
  exact⟨HB1.o,.inl ⟨hz,rfl⟩⟩
theorem yh:(∀l∈jP,l.length<=1000000)/\ ∀l∈jP++qQ,l.length<=1000000:=by decide+kernel
theorem LM:J7 jP=afn:=by
 unfold J7
 rw[aC rH.1,Qi]
 unfold iD
 rw[aC rH.1]
 exact XI
theorem PK:xw (jP++qQ)=[0,0,0,0,0,0,0,0,0,0,0,0,0,2,6,4]:=by
 unfold xw
 rw[aC rH.2]
 exact Uz
theorem aaf:fH [[97]]=0/\Gg [[97]]=[48,49,58,97,58,48,50,50,51,10]:=by decide+kernel
theorem O0 (w:World) (hE:Env w):Calls Tryz.prog 9 #[] w (PV (.bool true) w):=by
 have HE:Hid (∀W,Below w.heap.size w W->Env W):=ae (fun W hb=>hE.below hb (ai _))
 have HY:Hid (∀W,Calls Tryz.prog 31 #[.slice none 0 0] W (O8 jP W)):=ae (fun W=>by have h:=LP [] (.slice none 0 0) W (aP.nil _ _) (by simp);rw[List.append_nil] at h;exact h)
 clear hE
 go_enter Tryz.func9,Tryz.ntmps9
 go_wp2_with fail
 refine(HY.o w).mono ?_
 rintro e W1 ⟨o1,c1,rfl,ho1,hb1⟩
 have HB1:=ae hb1
 have HO:=ae (Wy _ jP W1 (aP.dR ho1) (HE.o W1 hb1) yh.1)
 clear hb1 ho1
 go_wp2_with fail
 refine HO.o.mono ?_
 rintro e W2 ⟨hb2,u2,rfl,hu2⟩
 rw[Iu.1]
 rw[Iu.2] at hu2
 obtain⟨uo,uc,rfl⟩:=aP.open hu2
 have HB2:=ae (bg HB1.o hb2)
 have HU2:=ae hu2
 clear hb2 hu2 HO HB1
 simp only[List.length_cons,List.length_nil,Nat.reduceAdd]
 go_wp2_with fail
 refine(HY.o W2).mono ?_
 rintro e W3 ⟨o3,c3,rfl,ho3,hb3⟩
 have HB3:=ae (bg HB2.o hb3)
 have HU3:=ae (HU2.o.below hb3 (ai _))
 have HT:=ae (Ij _ jP W3 (aP.dR ho3) (HE.o W3 HB3.o) yh.1)
 clear hb3 ho3 HB2 HU2
 go_wp2_with fail
 refine HT.o.mono ?_
 rintro e W4 ⟨hb4,u4,rfl,hu4⟩
 rw[Ir.1]
 rw[Ir.2] at hu4
 obtain⟨vo,vc,rfl⟩:=aP.open hu4
 have HB4:=ae (bg HB3.o hb4)
 have HU4:=ae (HU3.o.below hb4 (ai _))
 have HV4:=ae hu4
 clear hb4 hu4 HT HB3 HU3
 simp only[List.length_cons,List.length_nil,Nat.reduceAdd]
 go_wp2_with fail
 refine(HY.o W4).mono ?_
 rintro e W5 ⟨o5,c5,rfl,ho5,hb5⟩
 have pz:=ae (bg HB4.o hb5)
 have HU5:=ae (HU4.o.below hb5 (ai _))
 have HV5:=ae (HV4.o.below hb5 (ai _))
 have HR:=ae (SS _ jP W5 (aP.dR ho5) (HE.o W5 pz.o) yh.1)
 clear hb5 ho5 HB4 HU4 HV4
 go_wp2_with fail
 refine HR.o.mono ?_
 rintro e W6 ⟨hb6,rfl⟩
 rw[LM,rH.1]
 have qo:=ae (bg pz.o hb6)
 have HU6:=ae (HU5.o.below hb6 (ai _))
 have HV6:=ae (HV5.o.below hb6 (ai _))
 clear hb6 HR pz HU5 HV5
 have HW:Hid (∀W,W=W6.alloc (.cells #[.string ⟨#[97]⟩] 9)->Calls Tryz.prog 34 #[.slice (some ⟨W6.heap.size,0,none⟩) 1 1] W (Us (fH [[97]]) [[97]] W)):=ae (fun W hW=>WT [[97]] _ W (by
  have hk:W.heap[W6.heap.size]? =some (.cells (dH [[97]]).toArray 9 (0,0)):=by rw[hW];exact ay _ _
  exact aP.cZ 1 1 hk rfl (by decide)) (by decide))
 go_wp2_with fail
 refine(HW.o _ rfl).mono ?_
 rintro e W7 ⟨hb7,⟨hq,_⟩|⟨_,v7,rfl,ho7⟩⟩
 ·exact absurd aaf.1 hq
 rw[aaf.2] at ho7
 obtain⟨wo,wc,rfl⟩:=aV ho7
 have Rj:=bg (aj (aG W6.heap.size W6) (.cells #[.string ⟨#[97]⟩] 9)) hb7
 have yZ:=ae (bg qo.o Rj)
 have HU7:=ae (HU6.o.below Rj (ai _))
 have HV7:=ae (HV6.o.below Rj (ai _))
 have HW7:=ae (aP.dR ho7)
 clear hb7 ho7 Rj HW qo HU6 HV6
 simp only[List.length_cons,List.length_nil,Nat.reduceAdd]
 have HM:Hid (∀W,W=W7.alloc (.cells (dH qQ).toArray 9)->Calls Tryz.prog 31 #[.slice (some ⟨W7.heap.size,0,none⟩) 3 3] W (O8 (jP++qQ) W)):=ae (fun W hW=>LP qQ _ W (by
  have hk:W.heap[W7.heap.size]? =some (.cells (dH qQ).toArray 9 (0,0)):=by rw[hW];exact ay _ _
  exact aP.cZ 1 3 hk rfl (by decide)) (by decide))
 go_wp2_with fail
 refine(HM.o _ rfl).mono ?_
 rintro e W8 ⟨o8,c8,rfl,ql,hb8⟩
 have Zr:=bg (aj (aG W7.heap.size W7) (.cells (dH qQ).toArray 9)) hb8
 have pF:=ae (bg yZ.o Zr)
 have HU8:=ae (HU7.o.below Zr (ai _))
 have G9:=ae (HV7.o.below Zr (ai _))
 have HW8:=ae (HW7.o.below Zr (ai _))
 have HL8:=ae (aP.dR ql)
 clear hb8 ql Zr HM yZ HU7 HV7 HW7
 go_wp2_with fail
 refine(yf (.slice o8 (jP++qQ).length c8) (jP++qQ) W8 (HL8.o) (HE.o W8 pF.o) (yh.2) [] (by simp)).mono ?_
 rintro e SK ⟨hb2,Va,esa,cv,he,hX,hC⟩
 subst he
 obtain⟨coa,cca,rfl⟩:=aV hC
 have hs2:=hb2.size
 have hS2:=hX SK (Ext.refl _ _)
 rename_i hK
 refine hK _ _ ?_
 refine aO rfl _ (by go_simp;first|rfl|exact⟨rfl,rfl⟩) ?_
 simp only[zp]
 refine aO rfl _ (by go_simp;first|rfl|exact⟨rfl,rfl⟩) ?_
 simp only[zp]
 refine aO rfl _ (by go_simp;first|rfl|exact⟨rfl,rfl⟩) ?_
 simp only[zp]
 refine aO rfl _ (by go_simp;first|rfl|exact⟨rfl,rfl⟩) ?_
 simp only[zp]
 obtain⟨ga,hg⟩: ∃g,g=SK.heap.size:=⟨_,rfl⟩
 refine aO rfl (w':=SK.alloc (.cells eG 46 (0,0))) (.pointer (some ⟨ga,0,none⟩)) (by rw[hg];go_simp;try rfl) ?_
 simp only[zp]
 have hz2:(SK.alloc (.cells eG 46 (0,0))).heap[ga]? =some (.cells eG 46 (0,0)):=by rw[hg];exact ay _ _
 refine wpList_store_row rfl _ _ _ rfl ga (dL (iD (jP++qQ)) Va) (by as_aux_lemma=>kernel_rfl) (by as_aux_lemma=>kernel_rfl) _ eG hz2 (by kernel_rfl) (by as_aux_lemma=>kernel_rfl) (by rw[ny];exact fun u hu=>iR hS2 u (nR.2 hu)) ?_
 simp only[zp]
 refine jX fun Il hW3=>?_
 obtain⟨yG,mg⟩: ∃yG,yG=SK.alloc (.cells eG 46 (0,0)):=⟨_,rfl⟩
 rw[<-mg] at hW3 hz2
 have vS:Ext [ga] yG Il:=by rw[hW3];exact fP
 have hs3:=vS.size
 have hs2':yG.heap.size=ga+1:=by rw[mg,hg];simp
 have nP:Below SK.heap.size SK Il:=je (by rw[mg];exact aj (aG _ _) _) vS (by omega)
 have NZ:Il.heap[ga]? =some (.cells (dL (iD (jP++qQ)) Va) 46 (0,0)):=by rw[hW3];exact setRow_heap _ _ _ _ _ _ hz2
 have hb3:=bg hb2 nP
 have ajD:W8.heap.size<=ga:=by omega
 have aby:ga<Il.heap.size:=by omega
 have H3a:=ae (ag hb3 (ag NZ (ag (hS2.below nP (ai _)) (aP.dR (aB (Ms:=[]) hC (Ext.az nP) (by simp))))))
 clear hX hC hW3 mg vS nP hb2 hS2 hz2 hK hs2 hs3 hs2' hg hb3
 have Zz:=H3a.o.1
 have VP:aP 1 Il (.slice coa (xw (jP++qQ)).length cca) (xw (jP++qQ)).length (ah (xw (jP++qQ))):=H3a.o.2.2.2
 rw[PK] at VP⊢
 rw[rH.2]
 simp only[List.length_cons,List.length_nil,Nat.reduceAdd] at VP⊢
 have qR:=ae (bg pF.o Zz)
 have hU9:=HU8.o.below Zz (ai _)
 have HV9:=ae (G9.o.below Zz (ai _))
 have HW9:=ae (HW8.o.below Zz (ai _))
 have hlc:16<=cca:=by obtain⟨_,o',c',hv,h1,_⟩:=VP;cases hv;exact h1
 obtain⟨eb,abN,rfl,heb,_⟩:=aN.cell (l:=[0,0,0,0,0,0,0,0,0,0,0,0,0,2,6,4]) VP (k:=0) (by simp)
 have hcut:=aP.cut VP (l:=13) (k:=16) (by omega) (by omega)
 rw[show sliced (some ⟨eb,abN,none⟩) 13 16 cca 1= .slice (some ⟨eb,abN+13,none⟩) 3 (cca-13) from by unfold sliced;rw[ak (by omega)];simp[Addr.add_lit]] at hcut
 have Bq:=ae (show aN Il (.slice (some ⟨eb,abN+13,none⟩) 3 (cca-13)) [2,6,4] from hcut)
 obtain⟨ub,amZ,rfl,hub,d1,d2⟩:=bM.cell (l:=[(5,20),(0,15)]) hU9 (k:=0) (by simp)
 obtain⟨ub2,ald,he,_,e1,e2⟩:=bM.cell (l:=[(5,20),(0,15)]) hU9 (k:=1) (by simp)
 injection he with he
 injection he with h1 h2
 subst h1 h2
 simp only[au,Nat.zero_mul,Nat.one_mul,Nat.add_zero] at d1 d2 e1 e2
 have HI:Hid (∀W,W=Il.alloc (.cells #[iv 0] 3)->Calls Tryz.prog 35 #[.slice vo 1 vc,.slice (some ⟨Il.heap.size,0,none⟩) 1 1] W (PV (.bool true) W)):=ae (fun W hW=>Q3 [0] _ _ W (by rw[hW];exact HV9.o.alloc _) (by
  have hk:W.heap[Il.heap.size]? =some (.cells #[iv 0] 3 (0,0)):=by rw[hW];exact ay _ _
  exact aP.cZ 1 1 hk rfl (by decide)))
 clear HU8 G9 HW8 HL8 H3a Zz VP hU9 hcut NZ
 go_wp2_with fail
 refine(HI.o _ rfl).mono ?_
 rintro e SN ⟨rfl,zH⟩
 have Ud:=bg (aj (aG Il.heap.size Il) (.cells #[iv 0] 3)) zH
 have Xo:=ae (bg qR.o Ud)
 have hcv:(convert 83 9 (.slice wo 10 wc)).run Tryz.prog SN= .ok (.string (fD [48,49,58,97,58,48,50,50,51,10])) SN:=RV (n:=10) (HW9.o.below Ud (ai _))
 have HC:Hid (∀W,W=SN.alloc (.cells #[iv 2,iv 6,iv 4] 3)->Calls Tryz.prog 36 #[.slice (some ⟨eb,abN+13,none⟩) 3 (cca-13),.slice (some ⟨SN.heap.size,0,none⟩) 3 3] W (PV (.bool true) W)):=ae (fun W hW=>Wh [2,6,4] _ _ W (by rw[hW];exact(Bq.o.below Ud (ai _)).alloc _) (by
  have hk:W.heap[SN.heap.size]? =some (.cells #[iv 2,iv 6,iv 4] 3 (0,0)):=by rw[hW];exact ay _ _
  exact aP.cZ 1 3 hk rfl (by decide)))
 clear zH Ud HI d1 d2 e1 e2
 go_wp2_with fail
 refine(HC.o _ rfl).mono ?_
 rintro e W11 ⟨rfl,agN⟩
 have ach:=ae (bg Xo.o (bg (aj (aG SN.heap.size SN) (.cells #[iv 2,iv 6,iv 4] 3)) agN))
 clear agN HC hcv
 go_wp2_with fail
 go_returns
 exact⟨rfl,ach.o⟩
end Go.Proofs.YthbpmepjmebolaaGreatDoor.Bk
end
section
namespace Go.Proofs.YthbpmepjmebolaaGreatDoor.Bk
open Go.RowKit Go.RG Go.SL Go.Shelf ji Go.TB Go.Proofs.YthbpmepjmebolaaGreatDoor.yR
theorem Iz {s:aH} (h:s.all iE=true) (hl:s.length<=4):0<=pG s/\pG s<=9999:=by
 have:=JO s 0 (by omega) h
 have h4:(10:Int)^s.length<=10000:=by
  match hs:s.length,hl with
  |0,_=>decide
  |1,_=>decide
  |2,_=>decide
  |3,_=>decide
  |4,_=>decide
 simp only[Int.zero_mul,Int.zero_add,Int.one_mul] at this
 unfold pG
 omega
theorem O5 {s:aH} {c:UInt8}:(s++[c]).all iE=(s.all iE&&iE c):=by simp
theorem Aj {l:aH} {i:Nat} (hi:i<l.length) (h:iE l[i]=false):kT l=none:=by
 unfold kT
 rw[ak]
 intro hf
 unfold yX at hf
 simp only[eU] at hf
 have:=jJ.1 hf.2 l[i] (bY _)
 rw[h] at this
 cases this
theorem Ua {l:aH} (h:0<l.length):l.headD 0=l[0]:=by cases l with|nil=>exact absurd h (by simp)|cons a t=>rfl
theorem Yx {k:Nat} (h: ¬k<48) (h2:k<256):IntKind.u8.wrap ((k:Int)-48)=(k:Int)-48:=by
 have hb:(2:Int)^IntKind.u8.bits=256:=by decide
 simp only[IntKind.wrap,hb,show IntKind.u8.signed=false from rfl,Bool.false_and,Bool.false_eq_true,if_false];omega
theorem TQ {n:Int} {k:Nat} (h0:0<=n) (h1:n<=9999) (h: ¬k<48) (h2:k<256):wrap64 (10*n+((k:Int)-48))=10*n+((k:Int)-48):=by unfold wrap64;omega
def acU (l:aH) (w:World):Ending->World->Prop:=PV (.tuple #[iv ((kT l).getD 0),.bool (kT l).isSome]) w
theorem MQ (l:aH) (w:World) (hl:l.length<=1000):Calls Tryz.prog 95 #[.string (fD l)] w (acU l w):=by
 have hsz:=oG l
 unfold acU
 obtain⟨q,hq⟩: ∃q,kT l=q:=⟨_,rfl⟩
 rw[hq]
 have HQ:=ae hq
 clear hq
 go_enter Tryz.func95,Tryz.ntmps95
 by_cases h1:l.length<1
 ·have h1':(l.length:Int)<1:=by omega
  obtain rfl:q=none:=by rw[<-HQ.o];unfold kT yX;rw[ak];simp;omega
  go_wp2_with fail
  go_returns
  exact⟨by simp,aG _ _⟩
 have h1': ¬(l.length:Int)<1:=by omega
 by_cases h4:4<l.length
 ·have h4':(4:Int)<l.length:=by omega
  obtain rfl:q=none:=by rw[<-HQ.o];unfold kT yX;rw[ak];simp;omega
  go_wp2_with fail
  go_returns
  exact⟨by simp,aG _ _⟩
 have h4': ¬(4:Int)<l.length:=by omega
 have h0:0<l.length:=by omega
 obtain⟨c,hc⟩: ∃c,l[0]=c:=⟨_,rfl⟩
 have hc0:(fD l)[0]'(by rw[hsz];exact h0)=c:=hc
 by_cases hz:c=48/\1<l.length
 ·obtain⟨rfl,hl1⟩:=hz
  have ajs:(1:Int)<l.length:=by omega
  obtain rfl:q=none:=by
   rw[<-HQ.o]
   unfold kT yX
   rw[ak]
   intro hf
   simp only[eU,Bool.or_eq_true,eH] at hf
   rw[Ua h0,hc] at hf
   rcases hf.1.2 with h|h
   ·exact h rfl
   ·omega
  go_wp2_with fail
  go_returns
  exact⟨by simp,aG _ _⟩
 have HF:Hid (l.all iE=true->kT l=some (pG l)):=ae fun h=>by
  unfold kT yX
  rw[aC]
  rw[Ua h0,hc,h]
  simp only[eU,Bool.or_eq_true,eH,and_true]
  refine⟨⟨by omega,by omega⟩,?_⟩
  by_cases h48:c=48
  ·exact .inr (Nat.le_antisymm (Nat.le_of_not_lt fun h=>hz ⟨h48,h⟩) h0)
  ·exact .inl h48
 by_cases h48:c=48
 ·subst h48
  have ajs: ¬(1:Int)<l.length:=fun h=>hz ⟨rfl,Int.ofNat_lt.1 h⟩
  clear hz hc
  go_wp2_with fail
  go_loopw [4,5] (fun n u wr=> ∃i:Nat,i<=l.length/\u= .int .i64 i/\(l.take i).all iE=true/\n= .int .i64 (pG (l.take i))/\Below w.heap.size w wr) (fun _ u _=>l.length-(intOf u).toNat)
  case atStart=>exact⟨0,bW _,rfl,rfl,rfl,aG _ _⟩
  case round=>
   obtain⟨i,hi,rfl,hd,rfl,hb⟩:=hrel
   have hvs:=Iz hd (by simp;omega)
   by_cases hlt:i<l.length
   ·obtain⟨x,hx⟩: ∃x,l[i]=x:=⟨_,rfl⟩
    have hgx:(fD l)[i]'(by rw[hsz];exact hlt)=x:=hx
    have htk:l.take (i+1)=l.take i++[x]:=by rw[ig hlt,hx]
    have Td:=ae htk
    have HDX:=ae (ag hd hx)
    have hxl:=x.toNat_lt
    clear htk hd hx
    obtain⟨n,hn⟩: ∃n,pG (l.take i)=n:=⟨_,rfl⟩
    have HNV:=ae hn
    rw[hn] at hvs⊢
    clear hn
    by_cases hlo:x.toNat<48
    ·have adJ:(x.toNat:Int)<48:=by omega
     obtain rfl:q=none:=by rw[<-HQ.o];exact Aj hlt (by rw[HDX.o.2];unfold iE;simp;omega)
     go_wp2_with fail
     go_returns
     exact⟨by simp,hb⟩
    ·have adJ: ¬(x.toNat:Int)<48:=by omega
     by_cases hhi:57<x.toNat
     ·have adP:(57:Int)<x.toNat:=by omega
      obtain rfl:q=none:=by rw[<-HQ.o];exact Aj hlt (by rw[HDX.o.2];unfold iE;simp;omega)
      go_wp2_with fail
      go_returns
      exact⟨by simp,hb⟩
     ·have adP: ¬(57:Int)<x.toNat:=by omega
      have hw8:IntKind.u8.wrap ((x.toNat:Int)-48)=(x.toNat:Int)-48:=Yx hlo hxl
      have hw64:wrap64 (10*n+((x.toNat:Int)-48))=10*n+((x.toNat:Int)-48):=TQ hvs.1 hvs.2 hlo hxl
      have HV2:Hid (pG (l.take (i+1))=10*n+((x.toNat:Int)-48)):=ae (by rw[Td.o,yl,HNV.o])
      have HD2:Hid ((l.take (i+1)).all iE=true):=ae (by rw[Td.o,O5,HDX.o.1];unfold iE;simp;omega)
      go_wp2_with fail
      go_roundw
      case rel=>exact⟨i+1,by omega,by go_num,HD2.o,by rw[HV2.o],hb⟩
      case measure=>simp[intOf];omega
   ·have hil:i=l.length:=by omega
    subst hil
    rw[List.take_length] at hd hvs⊢
    obtain rfl:q=some (pG l):=by rw[<-HQ.o,HF.o hd]
    generalize pG l=n at*
    clear hd
    go_wp2_with fail
    go_returns
    exact⟨by simp,hb⟩
 ·have hne: ¬((c.toNat:Int)=48):=by
   intro h
   exact h48 (UInt8.toNat_inj.1 (by rw[show(48:UInt8).toNat=48 from rfl];omega))
  clear hz hc
  go_wp2_with fail
  go_loopw [4,5] (fun n u wr=> ∃i:Nat,i<=l.length/\u= .int .i64 i/\(l.take i).all iE=true/\n= .int .i64 (pG (l.take i))/\Below w.heap.size w wr) (fun _ u _=>l.length-(intOf u).toNat)
  case atStart=>exact⟨0,bW _,rfl,rfl,rfl,aG _ _⟩
  case round=>
   obtain⟨i,hi,rfl,hd,rfl,hb⟩:=hrel
   have hvs:=Iz hd (by simp;omega)
   by_cases hlt:i<l.length
   ·obtain⟨x,hx⟩: ∃x,l[i]=x:=⟨_,rfl⟩
    have hgx:(fD l)[i]'(by rw[hsz];exact hlt)=x:=hx
    have htk:l.take (i+1)=l.take i++[x]:=by rw[ig hlt,hx]
    have Td:=ae htk
    have HDX:=ae (ag hd hx)
    have hxl:=x.toNat_lt
    clear htk hd hx
    obtain⟨n,hn⟩: ∃n,pG (l.take i)=n:=⟨_,rfl⟩
    have HNV:=ae hn
    rw[hn] at hvs⊢
    clear hn
    by_cases hlo:x.toNat<48
    ·have adJ:(x.toNat:Int)<48:=by omega
     obtain rfl:q=none:=by rw[<-HQ.o];exact Aj hlt (by rw[HDX.o.2];unfold iE;simp;omega)
     go_wp2_with fail
     go_returns
     exact⟨by simp,hb⟩
    ·have adJ: ¬(x.toNat:Int)<48:=by omega
     by_cases hhi:57<x.toNat
     ·have adP:(57:Int)<x.toNat:=by omega
      obtain rfl:q=none:=by rw[<-HQ.o];exact Aj hlt (by rw[HDX.o.2];unfold iE;simp;omega)
      go_wp2_with fail
      go_returns
      exact⟨by simp,hb⟩
     ·have adP: ¬(57:Int)<x.toNat:=by omega
      have hw8:IntKind.u8.wrap ((x.toNat:Int)-48)=(x.toNat:Int)-48:=Yx hlo hxl
      have hw64:wrap64 (10*n+((x.toNat:Int)-48))=10*n+((x.toNat:Int)-48):=TQ hvs.1 hvs.2 hlo hxl
      have HV2:Hid (pG (l.take (i+1))=10*n+((x.toNat:Int)-48)):=ae (by rw[Td.o,yl,HNV.o])
      have HD2:Hid ((l.take (i+1)).all iE=true):=ae (by rw[Td.o,O5,HDX.o.1];unfold iE;simp;omega)
      go_wp2_with fail
      go_roundw
      case rel=>exact⟨i+1,by omega,by go_num,HD2.o,by rw[HV2.o],hb⟩
      case measure=>simp[intOf];omega
   ·have hil:i=l.length:=by omega
    subst hil
    rw[List.take_length] at hd hvs⊢
    obtain rfl:q=some (pG l):=by rw[<-HQ.o,HF.o hd]
    generalize pG l=n at*
    clear hd
    go_wp2_with fail
    go_returns
    exact⟨by simp,hb⟩
def xB (l:aH):Int:=match sQ l with|some c=>(c.many:Int)|none=> -1
theorem U0 (l:aH) (w:World):Calls Tryz.prog 94 #[.string (fD l)] w (PV (iv (xB l)) w):=by
 unfold xB
 cases hc:sQ l with
 |some c=>
  obtain rfl:=Gq hc
  clear hc
  cases c <;>
  ·show Calls _ _ _ _ (PV _ w)
   dsimp only[jZ.word,jZ.many]
   go_enter Tryz.func94,Tryz.ntmps94
   go_wp2_with fail
   go_returns
   exact⟨by simp,aG _ _⟩
 |none=>
  have n0:(l==[114,111,119])=false:=jy.2 (fC hc .row)
  have n1:(l==[108,101,102,116])=false:=jy.2 (fC hc .left)
  have n2:(l==[116,97,108,108,121])=false:=jy.2 (fC hc .tally)
  have n3:(l==[119,97,115,104])=false:=jy.2 (fC hc .zY)
  have n4:(l==[117,110,116,97,108,108,121])=false:=jy.2 (fC hc .lW)
  have n5:(l==[114,97,116,101])=false:=jy.2 (fC hc .rate)
  have n6:(l==[98,111,120])=false:=jy.2 (fC hc .box)
  have n7:(l==[110,111,116,101])=false:=jy.2 (fC hc .note)
  have n8:(l==[118,111,105,100])=false:=jy.2 (fC hc .void)
  have n9:(l==[115,116,97,114,116])=false:=jy.2 (fC hc .start)
  have n10:(l==[119,101,116])=false:=jy.2 (fC hc .bV)
  have n11:(l==[116,117,114,110])=false:=jy.2 (fC hc .turn)
  have n12:(l==[117,110,116,117,114,110])=false:=jy.2 (fC hc .oI)
  have n13:(l==[105,114,111,110])=false:=jy.2 (fC hc .AA)
  have n14:(l==[117,110,114,101,97,100])=false:=jy.2 (fC hc .unread)
  have n15:(l==[104,101,97,112])=false:=jy.2 (fC hc .heap)
  have n16:(l==[115,116,114,111,110,103])=false:=jy.2 (fC hc .strong)
  have n17:(l==[99,97,115,107])=false:=jy.2 (fC hc .pI)
  have n18:(l==[102,105,108,108])=false:=jy.2 (fC hc .fill)
  have n19:(l==[116,114,121])=false:=jy.2 (fC hc .zZ)
  have n20:(l==[117,110,116,114,121])=false:=jy.2 (fC hc .ui)
  clear hc
  show Calls _ _ _ _ (PV (iv (-1)) w)
  go_enter Tryz.func94,Tryz.ntmps94
  go_wp2_with fail
  go_returns
  exact⟨by simp,aG _ _⟩
def Nq (m:Int) (ps:List aH):Option (List Int):=if m=(ps.length:Int) then lD ps else none
def numsOf (l:aH):Option (List Int):=Nq (xB ((dh l).headD [])) (dh l).tail
theorem QK {l:aH} (h:sQ l=none):xB l= -1:=by unfold xB;rw[h]
theorem QJ {l:aH} {c:jZ} (h:sQ l=some c):xB l=c.many:=by unfold xB;rw[h]
theorem BK (l:aH):numsOf l=(pJ l).map (·.2):=by
 unfold numsOf pJ
 generalize (dh l).headD []=a
 generalize (dh l).tail=ps
 cases hc:sQ a with
 |none=>rw[QK hc];unfold Nq;rw[ak (by omega)];rfl
 |some c=>
  rw[QJ hc,Option.bind_some]
  unfold Nq
  by_cases h:ps.length=c.many
  ·rw[aC h,aC (by omega)];cases lD ps <;>rfl
  ·rw[ak h,ak (by omega)];rfl
theorem YJ (l:aH): -1<=xB l/\xB l<=5:=by
 unfold xB
 cases hc:sQ l with
 |none=>decide
 |some c=>cases c <;>decide
def ahz (q:Option (List Int)) (w:World) (e:Ending) (w':World):Prop:=Below w.heap.size w w'/\ ∃v,e= .returned (.tuple #[v,.bool q.isSome])/\((q=none/\v= .slice none 0 0)∨ ∃n,q=some n/\w'.ownsRow w.heap.size 3 1 v n.length (ah n))
theorem J9 (l:aH) (w:World) (hl:l.length<=1000):Calls Tryz.prog 54 #[.string (fD l)] w (ahz (numsOf l) w):=by
 have HW:=ae (EZ l w hl)
 obtain⟨q,hq⟩: ∃q,numsOf l=q:=⟨_,rfl⟩
 rw[hq]
 unfold numsOf at hq
 have hwl:=Ew l
 have hmem:=fun x (hx:x∈dh l)=>LW l x hx
 obtain⟨a,ps,hw⟩: ∃a ps,dh l=a::ps:=by
  cases h:dh l with
  |nil=>exact absurd h (lK l)
  |cons a ps=>exact⟨a,ps,rfl⟩
 rw[hw] at hq hwl hmem HW
 simp only[List.headD_cons,List.tail_cons,List.length_cons] at hq hwl
 obtain⟨m,hm0⟩: ∃m,xB a=m:=⟨_,rfl⟩
 rw[hm0] at hq
 have akS:=ae hmem
 have hmb:=YJ a
 have hma:=fun W=>U0 a W
 rw[hm0] at hmb hma
 have HMA:=ae hma
 have HQ:=ae hq
 clear hq hw hmem hma hm0
 go_enter Tryz.func54,Tryz.ntmps54
 go_wp2_with fail
 refine HW.o.mono ?_
 rintro e W1 ⟨v,rfl,how,hB⟩
 obtain⟨o,c,rfl⟩:=aV how
 have hs1:=hB.size
 have HB1:=ae hB
 have HO1:=ae (aP.dR how)
 simp only[List.length_cons] at HO1
 obtain⟨b,off,rfl,hb,hc0⟩:=iO.cell (l:=a::ps) HO1.o (k:=0) (by simp)
 simp only[List.getElem_cons_zero,Nat.add_zero] at hc0
 clear how hB
 go_wp2_with fail
 refine(HMA.o W1).mono ?_
 rintro e W2 ⟨rfl,hB⟩
 have hs2:=hB.size
 have HB2:=ae (bg HB1.o hB)
 have zV:=ae (aP.below HO1.o hB (ai _))
 clear hc0 hB
 by_cases hm:m=(ps.length:Int)
 ·subst hm
  have wK:Hid (lD ps=q):=ae (by have:=HQ.o;unfold Nq at this;rwa [aC rfl] at this)
  have hm':(ps.length:Int)+1-1=(ps.length:Int):=by omega
  have hpl:ps.length<=1000:=by omega
  clear hmb
  go_wp2_with fail
  go_loopw [5,6] (fun v u wr=> ∃(j:Nat) (ns:List Int) (o5:Option Addr) (c5:Nat),j<=ps.length/\u= .int .i64 (j+1:Nat)/\v= .slice o5 j c5/\lD (ps.take j)=some ns/\wr.ownsRow W2.heap.size 3 1 (.slice o5 j c5) j (ah ns)/\Below W2.heap.size W2 wr) (fun _ u _=>ps.length+1-(intOf u).toNat)
  case atStart=>exact⟨0,[],none,0,bW _,rfl,rfl,rfl,⟨rfl,.inl ⟨rfl,rfl⟩⟩,aG _ _⟩
  case round=>
   obtain⟨j,ns,o5,c5,hj,rfl,rfl,hns,how,hB⟩:=hrel
   have hsB:=hB.size
   have HX:=ae (ag hns (ag how hB))
   by_cases hlt:j<ps.length
   ·obtain⟨b',off',he',hb',hc1⟩:=iO.cell (l:=a::ps) (aP.below zV.o hB (ai _)) (k:=j+1) (by simp;omega)
    obtain⟨rfl,rfl⟩:b'=b/\off'=off:=by
     injection he' with h
     injection h with h1 h2
     exact⟨h1.symm,h2.symm⟩
    simp only[List.getElem_cons_succ] at hc1
    obtain⟨p,hp⟩: ∃p,ps[j]=p:=⟨_,rfl⟩
    rw[hp] at hc1
    have adC:p.length<=1000:=by
     have:=akS.o p (by rw[<-hp];exact qg _ (bY _))
     omega
    have HNA:=ae (MQ p wr adC)
    have Td:Hid (ps.take (j+1)=ps.take j++[p]):=ae (by rw[ig hlt,hp])
    have HP:Hid (ps[j]? =some p):=ae (by rw[dG hlt,hp])
    have hgd:((j+1:Nat):Int)<(ps.length:Int)+1:=by omega
    clear hns how hB he' hp
    go_wp2_with fail
    refine HNA.o.mono ?_
    rintro e W4 ⟨rfl,hb4⟩
    have hs4:=hb4.size
    have HB4:=ae (bg HX.o.2.2 hb4)
    have Xj:=ae (aB (Ms:=[]) HX.o.2.1 (Ext.az hb4) (by simp))
    cases hnb:kT p with
    |none=>
     obtain rfl:q=none:=by rw[<-wK.o];exact Jb ps j p HP.o hnb
     clear hb4 hnb HNA hc1
     simp only[Option.isSome_none]
     go_wp2_with fail
     go_returns
     exact⟨bg HB2.o HB4.o,_,by simp,.inl ⟨rfl,rfl⟩⟩
    |some x=>
     have HN4:=ae hnb
     clear hb4 hnb HNA hc1
     simp only[Option.isSome_some,Option.getD_some]
     go_wp2_with (at_builtin;go_loud (refine dZ rfl _ _ qp rfl W2.heap.size (.slice o5 j c5) j (ah ns) rfl (aB (Ms:=[]) Xj.o (Ext.az (aj (aG _ _) _)) (by simp)) (.slice (some ⟨W4.heap.size,0,none⟩) 1 1) 1 (ah [x]) rfl (aP.cZ 1 1 (ay _ _) rfl (by decide)) (jc _) (by omega) (by omega) (by simp;omega) ?_))
     intro v' Wc hown hgr hcase
     obtain⟨TM,Np,rfl⟩:=aV hown
     rw[<-KG] at hown
     have hwB:Below W4.heap.size W4 (W4.alloc (.cells #[iv x] 3)):=aj (aG _ _) _
     have HY:=ae (ag hown (Below.grown (bg HB4.o hwB) hgr (by have:=hwB.size;omega) (fun g e=>(bG Xj.o g e).1)))
     clear hown hgr hcase hwB
     go_wp2_with fail
     go_roundw
     case rel=>exact⟨j+1,ns++[x],TM,Np,by omega,by go_num,rfl,by rw[Td.o];exact Fh _ _ _ _ HX.o.1 HN4.o,HY.o.1,HY.o.2⟩
     case measure=>simp[intOf];omega
   ·have hjl:j=ps.length:=by omega
    subst hjl
    rw[List.take_length] at hns
    obtain rfl:q=some ns:=by rw[<-wK.o,hns]
    have HNL:=ae (Ja hns)
    have hgd: ¬((ps.length+1:Nat):Int)<(ps.length:Int)+1:=by omega
    clear hns how hB
    go_wp2_with fail
    go_returns
    exact⟨bg HB2.o HX.o.2.2,.slice o5 ps.length c5,by simp,.inr ⟨ns,rfl,by rw[HNL.o];exact cu HX.o.2.1 HB2.o.size⟩⟩
 ·have hm': ¬(m=(ps.length:Int)+1-1):=by omega
  obtain rfl:q=none:=by have:=HQ.o;unfold Nq at this;rw[ak hm] at this;exact this.symm
  go_wp2_with fail
  go_returns
  exact⟨HB2.o,_,by simp,.inl ⟨rfl,rfl⟩⟩
theorem lt_mul (N a b:Int) (h0:0<=N) (h1:N<=1000) (h2:a<=b) (h3:b<=a+9):0<=N*(b-a+1)/\N*(b-a+1)<=10000:=by
 have h4:1<=b-a+1:=by omega
 have h5:b-a+1<=10:=by omega
 generalize b-a+1=d at*
 refine⟨Int.mul_nonneg h0 (by omega),?_⟩
 calc N*d<=1000*d:=Int.mul_le_mul_of_nonneg_right h1 (by omega)
  _<=1000*10:=by omega
theorem Qv {l:aH} {n:List Int} (h:numsOf l=some n) (a:aH) (ha:(dh l).headD []=a):
 ((a==[114,111,119])=true/\(a==[114,97,116,101])=false/\(a==[115,116,97,114,116])=false/\(a==[119,101,116])=false/\(a==[104,101,97,112])=false/\(a==[115,116,114,111,110,103])=false)∨
 ((a==[114,111,119])=false/\(a==[114,97,116,101])=true/\(a==[115,116,97,114,116])=false/\(a==[119,101,116])=false/\(a==[104,101,97,112])=false/\(a==[115,116,114,111,110,103])=false/\n.length=1)∨
 ((a==[114,111,119])=false/\(a==[114,97,116,101])=false/\(a==[115,116,97,114,116])=false/\(a==[119,101,116])=false/\(a==[104,101,97,112])=false/\(a==[115,116,114,111,110,103])=false)∨
 ((a==[114,111,119])=false/\(a==[114,97,116,101])=false/\(a==[115,116,97,114,116])=true/\2<=n.length)∨
 ((a==[114,111,119])=false/\(a==[114,97,116,101])=false/\(a==[115,116,97,114,116])=false/\(a==[119,101,116])=true/\2<=n.length)∨
 ((a==[114,111,119])=false/\(a==[114,97,116,101])=false/\(a==[115,116,97,114,116])=false/\(a==[119,101,116])=false/\(a==[104,101,97,112])=true/\2<=n.length)∨
 ((a==[114,111,119])=false/\(a==[114,97,116,101])=false/\(a==[115,116,97,114,116])=false/\(a==[119,101,116])=false/\(a==[104,101,97,112])=false/\(a==[115,116,114,111,110,103])=true/\2<=n.length):=by
 rw[BK] at h
 cases hp:pJ l with
 |none=>rw[hp] at h;cases h
 |some cn=>
  obtain⟨c,m⟩:=cn
  rw[hp] at h
  obtain rfl:=jw h
  obtain⟨h1,h2,_,_⟩:=rZ hp
  rw[ha] at h1
  subst h1
  clear hp h ha
  cases c <;>simp only[jZ.many,jZ.word] at h2⊢ <;>first
   |exact .inl (by decide)
   |exact .inr (.inl ⟨by decide,by decide,by decide,by decide,by decide,by decide,h2⟩)
   |exact .inr (.inr (.inl (by decide)))
   |exact .inr (.inr (.inr (.inl ⟨by decide,by decide,by decide,by omega⟩)))
   |exact .inr (.inr (.inr (.inr (.inl ⟨by decide,by decide,by decide,by decide,by omega⟩))))
   |exact .inr (.inr (.inr (.inr (.inr (.inl ⟨by decide,by decide,by decide,by decide,by decide,by omega⟩)))))
   |exact .inr (.inr (.inr (.inr (.inr (.inr ⟨by decide,by decide,by decide,by decide,by decide,by decide,by omega⟩)))))
def ahx (w:World) (e:Ending) (w':World):Prop:=Below w.heap.size w w'/\ ∃b,e= .returned (.bool b)
theorem Xb (ls:List aH) (v:Value) (w:World) (hv:iO w v ls) (hll:ls.length<=100) (hl: ∀x∈ls,x.length<=1000):Calls Tryz.prog 29 #[v] w (ahx w):=by
 have hlen:=hv.len
 obtain⟨o,c,rfl⟩:=aP.open hv
 have HV:=ae hv
 have HL:=ae hl
 clear hv hl
 go_enter Tryz.func29,Tryz.ntmps29
 go_wp2_with fail
 go_loopw [3,4,5] (fun n r i wr=> ∃(k:Nat) (N R:Int),k<=ls.length/\i= .int .i64 k/\n= .int .i64 N/\r= .int .i64 R/\0<=N/\N<=10000/\0<=R/\R<=k/\Below w.heap.size w wr) (fun _ _ i _=>ls.length-(intOf i).toNat)
 case atStart=>exact⟨0,1,0,bW _,rfl,rfl,rfl,by omega,by omega,by omega,by omega,aG _ _⟩
 case round=>
  obtain⟨k,N,R,hk,rfl,rfl,rfl,hN0,hN1,hR0,hR1,hB⟩:=hrel
  have HB:=ae hB
  by_cases hlt:k<ls.length
  ·obtain⟨b,off,rfl,hb,hc0⟩:=iO.cell (aP.below HV.o hB (ai _)) hlt
   obtain⟨x,hx⟩: ∃x,ls[k]=x:=⟨_,rfl⟩
   rw[hx] at hc0
   have hxl:x.length<=1000:=HL.o x (by rw[<-hx];exact bY _)
   have HW:=ae (fun W=>EZ x W hxl)
   have HNU:=ae (fun W=>J9 x W hxl)
   clear hB hx
   go_wp2_with fail
   refine(HW.o wr).mono ?_
   rintro e W2 ⟨v2,rfl,how,hB⟩
   obtain⟨o2,c2,rfl⟩:=aV how
   have hs2:=hB.size
   have ajN:=((bK hB).1 b (off+k) hb).trans hc0
   have HB2:=ae (bg HB.o hB)
   obtain⟨a,ps,hw⟩: ∃a ps,dh x=a::ps:=by
    cases h:dh x with
    |nil=>exact absurd h (lK x)
    |cons a ps=>exact⟨a,ps,rfl⟩
   have HHD:Hid ((dh x).headD []=a):=ae (by rw[hw];rfl)
   have zV:=ae (aP.dR how)
   rw[hw] at zV
   rw[hw,List.length_cons]
   simp only[List.length_cons] at zV
   clear how hB hc0 hb hw HL
   go_wp2_with fail
   refine(HNU.o W2).mono ?_
   rintro e W3 ⟨hB3,v3,rfl,hv3⟩
   have hs3:=hB3.size
   have HB4:=ae (bg HB2.o hB3)
   have HO3:=ae (aP.below zV.o hB3 (ai _))
   obtain⟨b2,ane,rfl,hb2,hc3⟩:=iO.cell (l:=a::ps) HO3.o (k:=0) (by simp)
   simp only[List.getElem_cons_zero,Nat.add_zero] at hc3
   clear hB3 ajN
   rcases hv3 with⟨hq,rfl⟩|⟨ns,hq,how⟩
   ·rw[hq]
    clear hq
    simp only[Option.isSome_none]
    go_wp2_with fail
    go_roundw
    case rel=>exact⟨k+1,_,_,by omega,by go_num,rfl,rfl,by omega,by omega,by omega,by omega,HB4.o⟩
    case measure=>simp[intOf];omega
   ·have Dl:=Qv hq a HHD.o
    rw[hq]
    obtain⟨o3,c3,rfl⟩:=aV how
    have Xj:=ae (aP.dR how)
    have hbd: ∀y∈ns,0<=y/\y<=9999:=by
     rw[BK] at hq
     cases hp:pJ x with
     |none=>rw[hp] at hq;cases hq
     |some cn=>
      rw[hp] at hq
      obtain rfl:=jw hq
      exact(rZ (c:=cn.1) (n:=cn.2) hp).2.2.1
    have hnl:ns.length<=5:=by
     rw[BK] at hq
     cases hp:pJ x with
     |none=>rw[hp] at hq;cases hq
     |some cn=>
      rw[hp] at hq
      obtain rfl:=jw hq
      have:=(rZ (c:=cn.1) (n:=cn.2) hp).2.1
      rw[this]
      cases cn.1 <;>decide
    have LJ:=ae hbd
    clear hq how hbd
    simp only[Option.isSome_some]
    rcases Dl with⟨g1,g2,g3,g4,g5,g6⟩|⟨g1,g2,g3,g4,g5,g6,gl⟩|⟨g1,g2,g3,g4,g5,g6⟩|⟨g1,g2,g3,gl⟩|⟨g1,g2,g3,g4,gl⟩|⟨g1,g2,g3,g4,g5,gl⟩|⟨g1,g2,g3,g4,g5,g6,gl⟩
    ·go_wp2_with fail
     go_roundw
     case rel=>exact⟨k+1,_,_,by omega,by go_num,rfl,rfl,by omega,by omega,by omega,by omega,HB4.o⟩
     case measure=>simp[intOf];omega
    ·obtain⟨y,rfl⟩: ∃y,ns=[y]:=by
      match ns,gl with
      |[y],_=>exact⟨y,rfl⟩
     obtain⟨b3,Nl,rfl,hb3,hc4⟩:=aN.cell (l:=[y]) Xj.o (k:=0) (by simp)
     simp only[List.getElem_cons_zero,Nat.add_zero] at hc4
     by_cases hy:(20:Int)<y
     ·by_cases hy5:y<=50
      ·go_wp2_with fail
       go_returns
       exact⟨HB4.o,_,rfl⟩
      ·go_wp2_with fail
       go_roundw
       case rel=>exact⟨k+1,_,_,by omega,by go_num,rfl,rfl,by omega,by omega,by omega,by omega,HB4.o⟩
       case measure=>simp[intOf];omega
     ·go_wp2_with fail
      go_roundw
      case rel=>exact⟨k+1,_,_,by omega,by go_num,rfl,rfl,by omega,by omega,by omega,by omega,HB4.o⟩
      case measure=>simp[intOf];omega
    ·go_wp2_with fail
     go_roundw
     case rel=>exact⟨k+1,_,_,by omega,by go_num,rfl,rfl,by omega,by omega,by omega,by omega,HB4.o⟩
     case measure=>simp[intOf];omega
    ·obtain⟨m,hm⟩: ∃m,ns.length=m+2:=⟨ns.length-2,by omega⟩
     obtain⟨b3,Nl,rfl,hb3,hc4⟩:=aN.cell (l:=ns) Xj.o (k:=m) (by omega)
     obtain⟨b9,QB,Zn,_,hc5⟩:=aN.cell (l:=ns) Xj.o (k:=m+1) (by omega)
     obtain⟨rfl,rfl⟩:b9=b3/\QB=Nl:=by
      injection Zn with h
      injection h with h1 h2
      exact⟨h1.symm,h2.symm⟩
     obtain⟨xa,hxa⟩: ∃y,ns[m]=y:=⟨_,rfl⟩
     obtain⟨xb,hxb⟩: ∃y,ns[m+1]=y:=⟨_,rfl⟩
     have adV:=LJ.o xa (by rw[<-hxa];exact bY _)
     have adU:=LJ.o xb (by rw[<-hxb];exact bY _)
     rw[hxa] at hc4
     rw[hxb] at hc5
     rw[hm]
     have hml:m<=1000:=by omega
     have e1:(m:Int)+2-2=m:=by omega
     have e2:(m:Int)+2-1=(m:Int)+1:=by omega
     clear hxa hxb hm Zn gl
     go_wp2_with fail
     by_cases hab:xa<=xb
     ·by_cases hba:xb<=xa+9
      ·by_cases hN:N<=1000
       ·have hmul:=lt_mul N xa xb hN0 hN hab hba
        have hw64:wrap64 (N*(xb-xa+1))=N*(xb-xa+1):=IntWalk.wrap64_in _ ⟨by omega,by omega⟩
        go_region
        all_goals go_wp2_with fail
        all_goals go_roundw
        all_goals first
         |exact⟨k+1,_,_,by omega,by go_num,rfl,rfl,by omega,by omega,by omega,by omega,jm HB4.o⟩
         |(simp[intOf];omega)
       ·go_region
        all_goals go_wp2_with fail
        all_goals go_roundw
        all_goals first
         |exact⟨k+1,_,_,by omega,by go_num,rfl,rfl,by omega,by omega,by omega,by omega,jm HB4.o⟩
         |(simp[intOf];omega)
      ·go_region
       all_goals go_wp2_with fail
       all_goals go_roundw
       all_goals first
        |exact⟨k+1,_,_,by omega,by go_num,rfl,rfl,by omega,by omega,by omega,by omega,jm HB4.o⟩
        |(simp[intOf];omega)
     ·go_region
      all_goals go_wp2_with fail
      all_goals go_roundw
      all_goals first
       |exact⟨k+1,_,_,by omega,by go_num,rfl,rfl,by omega,by omega,by omega,by omega,jm HB4.o⟩
       |(simp[intOf];omega)
    ·obtain⟨m,hm⟩: ∃m,ns.length=m+2:=⟨ns.length-2,by omega⟩
     obtain⟨b3,Nl,rfl,hb3,hc4⟩:=aN.cell (l:=ns) Xj.o (k:=m) (by omega)
     obtain⟨b9,QB,Zn,_,hc5⟩:=aN.cell (l:=ns) Xj.o (k:=m+1) (by omega)
     obtain⟨rfl,rfl⟩:b9=b3/\QB=Nl:=by
      injection Zn with h
      injection h with h1 h2
      exact⟨h1.symm,h2.symm⟩
     obtain⟨xa,hxa⟩: ∃y,ns[m]=y:=⟨_,rfl⟩
     obtain⟨xb,hxb⟩: ∃y,ns[m+1]=y:=⟨_,rfl⟩
     have adV:=LJ.o xa (by rw[<-hxa];exact bY _)
     have adU:=LJ.o xb (by rw[<-hxb];exact bY _)
     rw[hxa] at hc4
     rw[hxb] at hc5
     rw[hm]
     have hml:m<=1000:=by omega
     have e1:(m:Int)+2-2=m:=by omega
     have e2:(m:Int)+2-1=(m:Int)+1:=by omega
     clear hxa hxb hm Zn gl
     go_wp2_with fail
     by_cases hab:xa<=xb
     ·by_cases hba:xb<=xa+9
      ·by_cases hN:N<=1000
       ·have hmul:=lt_mul N xa xb hN0 hN hab hba
        have hw64:wrap64 (N*(xb-xa+1))=N*(xb-xa+1):=IntWalk.wrap64_in _ ⟨by omega,by omega⟩
        go_region
        all_goals go_wp2_with fail
        all_goals go_roundw
        all_goals first
         |exact⟨k+1,_,_,by omega,by go_num,rfl,rfl,by omega,by omega,by omega,by omega,jm HB4.o⟩
         |(simp[intOf];omega)
       ·go_region
        all_goals go_wp2_with fail
        all_goals go_roundw
        all_goals first
         |exact⟨k+1,_,_,by omega,by go_num,rfl,rfl,by omega,by omega,by omega,by omega,jm HB4.o⟩
         |(simp[intOf];omega)
      ·go_region
       all_goals go_wp2_with fail
       all_goals go_roundw
       all_goals first
        |exact⟨k+1,_,_,by omega,by go_num,rfl,rfl,by omega,by omega,by omega,by omega,jm HB4.o⟩
        |(simp[intOf];omega)
     ·go_region
      all_goals go_wp2_with fail
      all_goals go_roundw
      all_goals first
       |exact⟨k+1,_,_,by omega,by go_num,rfl,rfl,by omega,by omega,by omega,by omega,jm HB4.o⟩
       |(simp[intOf];omega)
    ·obtain⟨m,hm⟩: ∃m,ns.length=m+2:=⟨ns.length-2,by omega⟩
     obtain⟨b3,Nl,rfl,hb3,hc4⟩:=aN.cell (l:=ns) Xj.o (k:=m) (by omega)
     obtain⟨b9,QB,Zn,_,hc5⟩:=aN.cell (l:=ns) Xj.o (k:=m+1) (by omega)
     obtain⟨rfl,rfl⟩:b9=b3/\QB=Nl:=by
      injection Zn with h
      injection h with h1 h2
      exact⟨h1.symm,h2.symm⟩
     obtain⟨xa,hxa⟩: ∃y,ns[m]=y:=⟨_,rfl⟩
     obtain⟨xb,hxb⟩: ∃y,ns[m+1]=y:=⟨_,rfl⟩
     have adV:=LJ.o xa (by rw[<-hxa];exact bY _)
     have adU:=LJ.o xb (by rw[<-hxb];exact bY _)
     rw[hxa] at hc4
     rw[hxb] at hc5
     rw[hm]
     have hml:m<=1000:=by omega
     have e1:(m:Int)+2-2=m:=by omega
     have e2:(m:Int)+2-1=(m:Int)+1:=by omega
     clear hxa hxb hm Zn gl
     go_wp2_with fail
     by_cases hab:xa<=xb
     ·by_cases hba:xb<=xa+9
      ·by_cases hN:N<=1000
       ·have hmul:=lt_mul N xa xb hN0 hN hab hba
        have hw64:wrap64 (N*(xb-xa+1))=N*(xb-xa+1):=IntWalk.wrap64_in _ ⟨by omega,by omega⟩
        go_region
        all_goals go_wp2_with fail
        all_goals go_roundw
        all_goals first
         |exact⟨k+1,_,_,by omega,by go_num,rfl,rfl,by omega,by omega,by omega,by omega,jm HB4.o⟩
         |(simp[intOf];omega)
       ·go_region
        all_goals go_wp2_with fail
        all_goals go_roundw
        all_goals first
         |exact⟨k+1,_,_,by omega,by go_num,rfl,rfl,by omega,by omega,by omega,by omega,jm HB4.o⟩
         |(simp[intOf];omega)
      ·go_region
       all_goals go_wp2_with fail
       all_goals go_roundw
       all_goals first
        |exact⟨k+1,_,_,by omega,by go_num,rfl,rfl,by omega,by omega,by omega,by omega,jm HB4.o⟩
        |(simp[intOf];omega)
     ·go_region
      all_goals go_wp2_with fail
      all_goals go_roundw
      all_goals first
       |exact⟨k+1,_,_,by omega,by go_num,rfl,rfl,by omega,by omega,by omega,by omega,jm HB4.o⟩
       |(simp[intOf];omega)
    ·obtain⟨m,hm⟩: ∃m,ns.length=m+2:=⟨ns.length-2,by omega⟩
     obtain⟨b3,Nl,rfl,hb3,hc4⟩:=aN.cell (l:=ns) Xj.o (k:=m) (by omega)
     obtain⟨b9,QB,Zn,_,hc5⟩:=aN.cell (l:=ns) Xj.o (k:=m+1) (by omega)
     obtain⟨rfl,rfl⟩:b9=b3/\QB=Nl:=by
      injection Zn with h
      injection h with h1 h2
      exact⟨h1.symm,h2.symm⟩
     obtain⟨xa,hxa⟩: ∃y,ns[m]=y:=⟨_,rfl⟩
     obtain⟨xb,hxb⟩: ∃y,ns[m+1]=y:=⟨_,rfl⟩
     have adV:=LJ.o xa (by rw[<-hxa];exact bY _)
     have adU:=LJ.o xb (by rw[<-hxb];exact bY _)
     rw[hxa] at hc4
     rw[hxb] at hc5
     rw[hm]
     have hml:m<=1000:=by omega
     have e1:(m:Int)+2-2=m:=by omega
     have e2:(m:Int)+2-1=(m:Int)+1:=by omega
     clear hxa hxb hm Zn gl
     go_wp2_with fail
     by_cases hab:xa<=xb
     ·by_cases hba:xb<=xa+9
      ·by_cases hN:N<=1000
       ·have hmul:=lt_mul N xa xb hN0 hN hab hba
        have hw64:wrap64 (N*(xb-xa+1))=N*(xb-xa+1):=IntWalk.wrap64_in _ ⟨by omega,by omega⟩
        go_region
        all_goals go_wp2_with fail
        all_goals go_roundw
        all_goals first
         |exact⟨k+1,_,_,by omega,by go_num,rfl,rfl,by omega,by omega,by omega,by omega,jm HB4.o⟩
         |(simp[intOf];omega)
       ·go_region
        all_goals go_wp2_with fail
        all_goals go_roundw
        all_goals first
         |exact⟨k+1,_,_,by omega,by go_num,rfl,rfl,by omega,by omega,by omega,by omega,jm HB4.o⟩
         |(simp[intOf];omega)
      ·go_region
       all_goals go_wp2_with fail
       all_goals go_roundw
       all_goals first
        |exact⟨k+1,_,_,by omega,by go_num,rfl,rfl,by omega,by omega,by omega,by omega,jm HB4.o⟩
        |(simp[intOf];omega)
     ·go_region
      all_goals go_wp2_with fail
      all_goals go_roundw
      all_goals first
       |exact⟨k+1,_,_,by omega,by go_num,rfl,rfl,by omega,by omega,by omega,by omega,jm HB4.o⟩
       |(simp[intOf];omega)
  ·have hkl:k=ls.length:=by omega
   subst hkl
   by_cases h60:N<=60
   ·go_wp2_with fail
    go_returns
    exact⟨HB.o,_,rfl⟩
   ·go_wp2_with fail
    go_returns
    exact⟨HB.o,_,rfl⟩
end Go.Proofs.YthbpmepjmebolaaGreatDoor.Bk
end

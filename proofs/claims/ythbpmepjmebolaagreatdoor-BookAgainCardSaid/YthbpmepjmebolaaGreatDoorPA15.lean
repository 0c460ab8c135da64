/-
  Texts of this claim, packed by a program: EO EQ ER ES ET GW EE EG YK EJ EH FB FC ED EK FA FH.
-/
import Derived.WalkKit
import Derived.WalkLawsBesides
import Derived.WalkSpells
import Derived.Outline
import Derived.Handy
import Derived.KernelRfl
import Derived.Lib.Hide
import Derived.BigRegion
import Derived.Laws.IdiomStrings
import Derived.Lib.Builder
import Derived.Lib.AppendStr
import Derived.Lib.UnsafeStr
import Derived.Laws.Externs
import Derived.Lib.BufferWrite
import Derived.Laws.CopyOwn
import Derived.Laws.BytesArg
import Derived.Test.YthbpmepjmebolaaGreatDoorPA14
set_option maxHeartbeats 8000000
set_option maxRecDepth 100000
set_option linter.all false
section
namespace Go.Proofs.YthbpmepjmebolaaGreatDoor.Bk
open Go.RowKit Go.RG Go.SL Go.Shelf jC Go.TB Go.Proofs.YthbpmepjmebolaaGreatDoor.Be
theorem JJ {s:aF} (h:s.all iJ=true) (hl:s.length<=4):0<=qp s/\qp s<=9999:=by
 have:=Lu s 0 (by omega) h
 have h4:(10:Int)^s.length<=10000:=by
  match hs:s.length,hl with
  |0,_=>decide
  |1,_=>decide
  |2,_=>decide
  |3,_=>decide
  |4,_=>decide
 simp only[Int.zero_mul,Int.zero_add,Int.one_mul] at this
 unfold qp
 omega
theorem QH {s:aF} {c:UInt8}:(s++[c]).all iJ=(s.all iJ&&iJ c):=by simp
theorem BC {l:aF} {i:Nat} (hi:i<l.length) (h:iJ l[i]=false):lu l=none:=by
 unfold lu
 rw[aj]
 intro hf
 unfold Aa at hf
 simp only[fG] at hf
 have:=jS.1 hf.2 l[i] (bT _)
 rw[h] at this
 cases this
theorem Vs {l:aF} (h:0<l.length):l.headD 0=l[0]:=by cases l with|nil=>exact absurd h (by simp)|cons a t=>rfl
theorem ZR {k:Nat} (h: ¬k<48) (h2:k<256):IntKind.u8.wrap ((k:Int)-48)=(k:Int)-48:=by
 have hb:(2:Int)^IntKind.u8.bits=256:=by decide
 simp only[IntKind.wrap,hb,show IntKind.u8.signed=false from rfl,Bool.false_and,Bool.false_eq_true,if_false];omega
theorem Vh {n:Int} {k:Nat} (h0:0<=n) (h1:n<=9999) (h: ¬k<48) (h2:k<256):wrap64 (10*n+((k:Int)-48))=10*n+((k:Int)-48):=by unfold wrap64;omega
def aee (l:aF) (w:World):Ending->World->Prop:=PV (.tuple #[iv ((lu l).getD 0),.bool (lu l).isSome]) w
theorem Ou (l:aF) (w:World) (hl:l.length<=1000):Calls Tryz.prog 95 #[.string (dV l)] w (aee l w):=by
 have hsz:=pK l
 unfold aee
 obtain⟨q,hq⟩: ∃q,lu l=q:=⟨_,rfl⟩
 rw[hq]
 have HQ:=ae hq
 clear hq
 go_enter Tryz.func95,Tryz.ntmps95
 by_cases h1:l.length<1
 ·have h1':(l.length:Int)<1:=by omega
  obtain rfl:q=none:=by rw[<-HQ.o];unfold lu Aa;rw[aj];simp;omega
  go_wp2_with fail
  go_returns
  exact⟨by simp,aG _ _⟩
 have h1': ¬(l.length:Int)<1:=by omega
 by_cases h4:4<l.length
 ·have h4':(4:Int)<l.length:=by omega
  obtain rfl:q=none:=by rw[<-HQ.o];unfold lu Aa;rw[aj];simp;omega
  go_wp2_with fail
  go_returns
  exact⟨by simp,aG _ _⟩
 have h4': ¬(4:Int)<l.length:=by omega
 have h0:0<l.length:=by omega
 obtain⟨c,hc⟩: ∃c,l[0]=c:=⟨_,rfl⟩
 have hc0:(dV l)[0]'(by rw[hsz];exact h0)=c:=hc
 by_cases hz:c=48/\1<l.length
 ·obtain⟨rfl,hl1⟩:=hz
  have ak3:(1:Int)<l.length:=by omega
  obtain rfl:q=none:=by
   rw[<-HQ.o]
   unfold lu Aa
   rw[aj]
   intro hf
   simp only[fG,Bool.or_eq_true,eX] at hf
   rw[Vs h0,hc] at hf
   rcases hf.1.2 with h|h
   ·exact h rfl
   ·omega
  go_wp2_with fail
  go_returns
  exact⟨by simp,aG _ _⟩
 have HF:Hid (l.all iJ=true->lu l=some (qp l)):=ae fun h=>by
  unfold lu Aa
  rw[aC]
  rw[Vs h0,hc,h]
  simp only[fG,Bool.or_eq_true,eX,and_true]
  refine⟨⟨by omega,by omega⟩,?_⟩
  by_cases h48:c=48
  ·exact .inr (Nat.le_antisymm (Nat.le_of_not_lt fun h=>hz ⟨h48,h⟩) h0)
  ·exact .inl h48
 by_cases h48:c=48
 ·subst h48
  have ak3: ¬(1:Int)<l.length:=fun h=>hz ⟨rfl,Int.ofNat_lt.1 h⟩
  clear hz hc
  go_wp2_with fail
  go_loopw [4,5] (fun n u wr=> ∃i:Nat,i<=l.length/\u= .int .i64 i/\(l.take i).all iJ=true/\n= .int .i64 (qp (l.take i))/\Below w.heap.size w wr) (fun _ u _=>l.length-(intOf u).toNat)
  case atStart=>exact⟨0,bW _,rfl,rfl,rfl,aG _ _⟩
  case round=>
   obtain⟨i,hi,rfl,hd,rfl,hb⟩:=hrel
   have hvs:=JJ hd (by simp;omega)
   by_cases hlt:i<l.length
   ·obtain⟨x,hx⟩: ∃x,l[i]=x:=⟨_,rfl⟩
    have hgx:(dV l)[i]'(by rw[hsz];exact hlt)=x:=hx
    have htk:l.take (i+1)=l.take i++[x]:=by rw[iy hlt,hx]
    have QP:=ae htk
    have HDX:=ae (ag hd hx)
    have hxl:=x.toNat_lt
    clear htk hd hx
    obtain⟨n,hn⟩: ∃n,qp (l.take i)=n:=⟨_,rfl⟩
    have HNV:=ae hn
    rw[hn] at hvs⊢
    clear hn
    by_cases hlo:x.toNat<48
    ·have ae0:(x.toNat:Int)<48:=by omega
     obtain rfl:q=none:=by rw[<-HQ.o];exact BC hlt (by rw[HDX.o.2];unfold iJ;simp;omega)
     go_wp2_with fail
     go_returns
     exact⟨by simp,hb⟩
    ·have ae0: ¬(x.toNat:Int)<48:=by omega
     by_cases hhi:57<x.toNat
     ·have ae6:(57:Int)<x.toNat:=by omega
      obtain rfl:q=none:=by rw[<-HQ.o];exact BC hlt (by rw[HDX.o.2];unfold iJ;simp;omega)
      go_wp2_with fail
      go_returns
      exact⟨by simp,hb⟩
     ·have ae6: ¬(57:Int)<x.toNat:=by omega
      have hw8:IntKind.u8.wrap ((x.toNat:Int)-48)=(x.toNat:Int)-48:=ZR hlo hxl
      have hw64:wrap64 (10*n+((x.toNat:Int)-48))=10*n+((x.toNat:Int)-48):=Vh hvs.1 hvs.2 hlo hxl
      have HV2:Hid (qp (l.take (i+1))=10*n+((x.toNat:Int)-48)):=ae (by rw[QP.o,zh,HNV.o])
      have HD2:Hid ((l.take (i+1)).all iJ=true):=ae (by rw[QP.o,QH,HDX.o.1];unfold iJ;simp;omega)
      go_wp2_with fail
      go_roundw
      case rel=>exact⟨i+1,by omega,by go_num,HD2.o,by rw[HV2.o],hb⟩
      case measure=>simp[intOf];omega
   ·have hil:i=l.length:=by omega
    subst hil
    rw[List.take_length] at hd hvs⊢
    obtain rfl:q=some (qp l):=by rw[<-HQ.o,HF.o hd]
    generalize qp l=n at*
    clear hd
    go_wp2_with fail
    go_returns
    exact⟨by simp,hb⟩
 ·have hne: ¬((c.toNat:Int)=48):=by
   intro h
   exact h48 (UInt8.toNat_inj.1 (by rw[show(48:UInt8).toNat=48 from rfl];omega))
  clear hz hc
  go_wp2_with fail
  go_loopw [4,5] (fun n u wr=> ∃i:Nat,i<=l.length/\u= .int .i64 i/\(l.take i).all iJ=true/\n= .int .i64 (qp (l.take i))/\Below w.heap.size w wr) (fun _ u _=>l.length-(intOf u).toNat)
  case atStart=>exact⟨0,bW _,rfl,rfl,rfl,aG _ _⟩
  case round=>
   obtain⟨i,hi,rfl,hd,rfl,hb⟩:=hrel
   have hvs:=JJ hd (by simp;omega)
   by_cases hlt:i<l.length
   ·obtain⟨x,hx⟩: ∃x,l[i]=x:=⟨_,rfl⟩
    have hgx:(dV l)[i]'(by rw[hsz];exact hlt)=x:=hx
    have htk:l.take (i+1)=l.take i++[x]:=by rw[iy hlt,hx]
    have QP:=ae htk
    have HDX:=ae (ag hd hx)
    have hxl:=x.toNat_lt
    clear htk hd hx
    obtain⟨n,hn⟩: ∃n,qp (l.take i)=n:=⟨_,rfl⟩
    have HNV:=ae hn
    rw[hn] at hvs⊢
    clear hn
    by_cases hlo:x.toNat<48
    ·have ae0:(x.toNat:Int)<48:=by omega
     obtain rfl:q=none:=by rw[<-HQ.o];exact BC hlt (by rw[HDX.o.2];unfold iJ;simp;omega)
     go_wp2_with fail
     go_returns
     exact⟨by simp,hb⟩
    ·have ae0: ¬(x.toNat:Int)<48:=by omega
     by_cases hhi:57<x.toNat
     ·have ae6:(57:Int)<x.toNat:=by omega
      obtain rfl:q=none:=by rw[<-HQ.o];exact BC hlt (by rw[HDX.o.2];unfold iJ;simp;omega)
      go_wp2_with fail
      go_returns
      exact⟨by simp,hb⟩
     ·have ae6: ¬(57:Int)<x.toNat:=by omega
      have hw8:IntKind.u8.wrap ((x.toNat:Int)-48)=(x.toNat:Int)-48:=ZR hlo hxl
      have hw64:wrap64 (10*n+((x.toNat:Int)-48))=10*n+((x.toNat:Int)-48):=Vh hvs.1 hvs.2 hlo hxl
      have HV2:Hid (qp (l.take (i+1))=10*n+((x.toNat:Int)-48)):=ae (by rw[QP.o,zh,HNV.o])
      have HD2:Hid ((l.take (i+1)).all iJ=true):=ae (by rw[QP.o,QH,HDX.o.1];unfold iJ;simp;omega)
      go_wp2_with fail
      go_roundw
      case rel=>exact⟨i+1,by omega,by go_num,HD2.o,by rw[HV2.o],hb⟩
      case measure=>simp[intOf];omega
   ·have hil:i=l.length:=by omega
    subst hil
    rw[List.take_length] at hd hvs⊢
    obtain rfl:q=some (qp l):=by rw[<-HQ.o,HF.o hd]
    generalize qp l=n at*
    clear hd
    go_wp2_with fail
    go_returns
    exact⟨by simp,hb⟩
def OO (m:Int) (ps:List aF):Option (List Int):=if m=(ps.length:Int) then kV ps else none
def numsOf (l:aF):Option (List Int):=OO (yC ((bZ l).headD [])) (bZ l).tail
theorem SS {l:aF} (h:uz l=none):yC l= -1:=by unfold yC;rw[h]
theorem SQ {l:aF} {c:iO} (h:uz l=some c):yC l=c.many:=by unfold yC;rw[h]
theorem Dl (l:aF):numsOf l=(pg l).map (·.2):=by
 unfold numsOf pg
 generalize (bZ l).headD []=a
 generalize (bZ l).tail=ps
 cases hc:uz a with
 |none=>rw[SS hc];unfold OO;rw[aj (by omega)];rfl
 |some c=>
  rw[SQ hc,Option.bind_some]
  unfold OO
  by_cases h:ps.length=c.many
  ·rw[aC h,aC (by omega)];cases kV ps <;>rfl
  ·rw[aj h,aj (by omega)];rfl
theorem ZX (l:aF): -1<=yC l/\yC l<=5:=by
 unfold yC
 cases hc:uz l with
 |none=>decide
 |some c=>cases c <;>decide
def ai1 (q:Option (List Int)) (w:World) (e:Ending) (w':World):Prop:=Below w.heap.size w w'/\ ∃v,e= .returned (.tuple #[v,.bool q.isSome])/\((q=none/\v= .slice none 0 0)∨ ∃n,q=some n/\w'.ownsRow w.heap.size 3 1 v n.length (ah n))
theorem L8 (l:aF) (w:World) (hl:l.length<=1000):Calls Tryz.prog 54 #[.string (dV l)] w (ai1 (numsOf l) w):=by
 have HW:=ae (Gv l w hl)
 obtain⟨q,hq⟩: ∃q,numsOf l=q:=⟨_,rfl⟩
 rw[hq]
 unfold numsOf at hq
 have hwl:=Gf l
 have hmem:=fun x (hx:x∈bZ l)=>NV l x hx
 obtain⟨a,ps,hw⟩: ∃a ps,bZ l=a::ps:=by
  cases h:bZ l with
  |nil=>exact absurd h (kQ l)
  |cons a ps=>exact⟨a,ps,rfl⟩
 rw[hw] at hq hwl hmem HW
 simp only[List.headD_cons,List.tail_cons,List.length_cons] at hq hwl
 obtain⟨m,hm0⟩: ∃m,yC a=m:=⟨_,rfl⟩
 rw[hm0] at hq
 have amB:=ae hmem
 have hmb:=ZX a
 have hma:=fun W=>Wv a W
 rw[hm0] at hmb hma
 have HMA:=ae hma
 have HQ:=ae hq
 clear hq hw hmem hma hm0
 go_enter Tryz.func54,Tryz.ntmps54
 go_wp2_with fail
 refine HW.o.mono ?_
 rintro e W1 ⟨v,rfl,how,hB⟩
 obtain⟨o,c,rfl⟩:=aT how
 have hs1:=hB.size
 have HB1:=ae hB
 have HO1:=ae (aK.dR how)
 simp only[List.length_cons] at HO1
 obtain⟨b,off,rfl,hb,hc0⟩:=iY.cell (l:=a::ps) HO1.o (k:=0) (by simp)
 simp only[List.getElem_cons_zero,Nat.add_zero] at hc0
 clear how hB
 go_wp2_with fail
 refine(HMA.o W1).mono ?_
 rintro e W2 ⟨rfl,hB⟩
 have hs2:=hB.size
 have HB2:=ae (aX HB1.o hB)
 have Bd:=ae (aK.below HO1.o hB (ai _))
 clear hc0 hB
 by_cases hm:m=(ps.length:Int)
 ·subst hm
  have xM:Hid (kV ps=q):=ae (by have:=HQ.o;unfold OO at this;rwa [aC rfl] at this)
  have hm':(ps.length:Int)+1-1=(ps.length:Int):=by omega
  have hpl:ps.length<=1000:=by omega
  clear hmb
  go_wp2_with fail
  go_loopw [5,6] (fun v u wr=> ∃(j:Nat) (ns:List Int) (o5:Option Addr) (c5:Nat),j<=ps.length/\u= .int .i64 (j+1:Nat)/\v= .slice o5 j c5/\kV (ps.take j)=some ns/\wr.ownsRow W2.heap.size 3 1 (.slice o5 j c5) j (ah ns)/\Below W2.heap.size W2 wr) (fun _ u _=>ps.length+1-(intOf u).toNat)
  case atStart=>exact⟨0,[],none,0,bW _,rfl,rfl,rfl,⟨rfl,.inl ⟨rfl,rfl⟩⟩,aG _ _⟩
  case round=>
   obtain⟨j,ns,o5,c5,hj,rfl,rfl,hns,how,hB⟩:=hrel
   have hsB:=hB.size
   have HX:=ae (ag hns (ag how hB))
   by_cases hlt:j<ps.length
   ·obtain⟨b',off',he',hb',hc1⟩:=iY.cell (l:=a::ps) (aK.below Bd.o hB (ai _)) (k:=j+1) (by simp;omega)
    obtain⟨rfl,rfl⟩:b'=b/\off'=off:=by
     injection he' with h
     injection h with h1 h2
     exact⟨h1.symm,h2.symm⟩
    simp only[List.getElem_cons_succ] at hc1
    obtain⟨p,hp⟩: ∃p,ps[j]=p:=⟨_,rfl⟩
    rw[hp] at hc1
    have aeS:p.length<=1000:=by
     have:=amB.o p (by rw[<-hp];exact qj _ (bT _))
     omega
    have HNA:=ae (Ou p wr aeS)
    have QP:Hid (ps.take (j+1)=ps.take j++[p]):=ae (by rw[iy hlt,hp])
    have HP:Hid (ps[j]? =some p):=ae (by rw[dA hlt,hp])
    have hgd:((j+1:Nat):Int)<(ps.length:Int)+1:=by omega
    clear hns how hB he' hp
    go_wp2_with fail
    refine HNA.o.mono ?_
    rintro e W4 ⟨rfl,hb4⟩
    have hs4:=hb4.size
    have HB4:=ae (aX HX.o.2.2 hb4)
    have UY:=ae (aA (Ms:=[]) HX.o.2.1 (Ext.az hb4) (by simp))
    cases hnb:lu p with
    |none=>
     obtain rfl:q=none:=by rw[<-xM.o];exact Ku ps j p HP.o hnb
     clear hb4 hnb HNA hc1
     simp only[Option.isSome_none]
     go_wp2_with fail
     go_returns
     exact⟨aX HB2.o HB4.o,_,by simp,.inl ⟨rfl,rfl⟩⟩
    |some x=>
     have HN4:=ae hnb
     clear hb4 hnb HNA hc1
     simp only[Option.isSome_some,Option.getD_some]
     go_wp2_with (at_builtin;go_loud (refine dF rfl _ _ rO rfl W2.heap.size (.slice o5 j c5) j (ah ns) rfl (aA (Ms:=[]) UY.o (Ext.az (ak (aG _ _) _)) (by simp)) (.slice (some ⟨W4.heap.size,0,none⟩) 1 1) 1 (ah [x]) rfl (aK.dw 1 1 (ay _ _) rfl (by decide)) (jD _) (by omega) (by omega) (by simp;omega) ?_))
     intro v' Wc hown hgr hcase
     obtain⟨Ve,OM,rfl⟩:=aT hown
     rw[<-MM] at hown
     have hwB:Below W4.heap.size W4 (W4.alloc (.cells #[iv x] 3)):=ak (aG _ _) _
     have HY:=ae (ag hown (Below.grown (aX HB4.o hwB) hgr (by have:=hwB.size;omega) (fun g e=>(bH UY.o g e).1)))
     clear hown hgr hcase hwB
     go_wp2_with fail
     go_roundw
     case rel=>exact⟨j+1,ns++[x],Ve,OM,by omega,by go_num,rfl,by rw[QP.o];exact GN _ _ _ _ HX.o.1 HN4.o,HY.o.1,HY.o.2⟩
     case measure=>simp[intOf];omega
   ·have hjl:j=ps.length:=by omega
    subst hjl
    rw[List.take_length] at hns
    obtain rfl:q=some ns:=by rw[<-xM.o,hns]
    have HNL:=ae (Kt hns)
    have hgd: ¬((ps.length+1:Nat):Int)<(ps.length:Int)+1:=by omega
    clear hns how hB
    go_wp2_with fail
    go_returns
    exact⟨aX HB2.o HX.o.2.2,.slice o5 ps.length c5,by simp,.inr ⟨ns,rfl,by rw[HNL.o];exact bY HX.o.2.1 HB2.o.size⟩⟩
 ·have hm': ¬(m=(ps.length:Int)+1-1):=by omega
  obtain rfl:q=none:=by have:=HQ.o;unfold OO at this;rw[aj hm] at this;exact this.symm
  go_wp2_with fail
  go_returns
  exact⟨HB2.o,_,by simp,.inl ⟨rfl,rfl⟩⟩
theorem lt_mul (N a b:Int) (h0:0<=N) (h1:N<=1000) (h2:a<=b) (h3:b<=a+9):0<=N*(b-a+1)/\N*(b-a+1)<=10000:=by
 have h4:1<=b-a+1:=by omega
 have h5:b-a+1<=10:=by omega
 generalize b-a+1=d at*
 refine⟨Int.mul_nonneg h0 (by omega),?_⟩
 calc N*d<=1000*d:=Int.mul_le_mul_of_nonneg_right h1 (by omega)
  _<=1000*10:=by omega
theorem Sv {l:aF} {n:List Int} (h:numsOf l=some n) (a:aF) (ha:(bZ l).headD []=a):
 ((a==[114,111,119])=true/\(a==[114,97,116,101])=false/\(a==[115,116,97,114,116])=false/\(a==[119,101,116])=false/\(a==[104,101,97,112])=false/\(a==[115,116,114,111,110,103])=false)∨
 ((a==[114,111,119])=false/\(a==[114,97,116,101])=true/\(a==[115,116,97,114,116])=false/\(a==[119,101,116])=false/\(a==[104,101,97,112])=false/\(a==[115,116,114,111,110,103])=false/\n.length=1)∨
 ((a==[114,111,119])=false/\(a==[114,97,116,101])=false/\(a==[115,116,97,114,116])=false/\(a==[119,101,116])=false/\(a==[104,101,97,112])=false/\(a==[115,116,114,111,110,103])=false)∨
 ((a==[114,111,119])=false/\(a==[114,97,116,101])=false/\(a==[115,116,97,114,116])=true/\2<=n.length)∨
 ((a==[114,111,119])=false/\(a==[114,97,116,101])=false/\(a==[115,116,97,114,116])=false/\(a==[119,101,116])=true/\2<=n.length)∨
 ((a==[114,111,119])=false/\(a==[114,97,116,101])=false/\(a==[115,116,97,114,116])=false/\(a==[119,101,116])=false/\(a==[104,101,97,112])=true/\2<=n.length)∨
 ((a==[114,111,119])=false/\(a==[114,97,116,101])=false/\(a==[115,116,97,114,116])=false/\(a==[119,101,116])=false/\(a==[104,101,97,112])=false/\(a==[115,116,114,111,110,103])=true/\2<=n.length):=by
 rw[Dl] at h
 cases hp:pg l with
 |none=>rw[hp] at h;cases h
 |some cn=>
  obtain⟨c,m⟩:=cn
  rw[hp] at h
  obtain rfl:=jH h
  obtain⟨h1,h2,_,_⟩:=tV hp
  rw[ha] at h1
  subst h1
  clear hp h ha
  cases c <;>simp only[iO.many,iO.word] at h2⊢ <;>first
   |exact .inl (by decide)
   |exact .inr (.inl ⟨by decide,by decide,by decide,by decide,by decide,by decide,h2⟩)
   |exact .inr (.inr (.inl (by decide)))
   |exact .inr (.inr (.inr (.inl ⟨by decide,by decide,by decide,by omega⟩)))
   |exact .inr (.inr (.inr (.inr (.inl ⟨by decide,by decide,by decide,by decide,by omega⟩))))
   |exact .inr (.inr (.inr (.inr (.inr (.inl ⟨by decide,by decide,by decide,by decide,by decide,by omega⟩)))))
   |exact .inr (.inr (.inr (.inr (.inr (.inr ⟨by decide,by decide,by decide,by decide,by decide,by decide,by omega⟩)))))
def aiZ (w:World) (e:Ending) (w':World):Prop:=Below w.heap.size w w'/\ ∃b,e= .returned (.bool b)
theorem Yy (ls:List aF) (v:Value) (w:World) (hv:iY w v ls) (hll:ls.length<=100) (hl: ∀x∈ls,x.length<=1000):Calls Tryz.prog 29 #[v] w (aiZ w):=by
 have hlen:=hv.len
 obtain⟨o,c,rfl⟩:=aK.open hv
 have HV:=ae hv
 have HL:=ae hl
 clear hv hl
 go_enter Tryz.func29,Tryz.ntmps29
 go_wp2_with fail
 go_loopw [3,4,5] (fun n r i wr=> ∃(k:Nat) (N R:Int),k<=ls.length/\i= .int .i64 k/\n= .int .i64 N/\r= .int .i64 R/\0<=N/\N<=10000/\0<=R/\R<=k/\Below w.heap.size w wr) (fun _ _ i _=>ls.length-(intOf i).toNat)
 case atStart=>exact⟨0,1,0,bW _,rfl,rfl,rfl,by omega,by omega,by omega,by omega,aG _ _⟩
 case round=>
  obtain⟨k,N,R,hk,rfl,rfl,rfl,hN0,hN1,hR0,hR1,hB⟩:=hrel
  have HB:=ae hB
  by_cases hlt:k<ls.length
  ·obtain⟨b,off,rfl,hb,hc0⟩:=iY.cell (aK.below HV.o hB (ai _)) hlt
   obtain⟨x,hx⟩: ∃x,ls[k]=x:=⟨_,rfl⟩
   rw[hx] at hc0
   have hxl:x.length<=1000:=HL.o x (by rw[<-hx];exact bT _)
   have HW:=ae (fun W=>Gv x W hxl)
   have HNU:=ae (fun W=>L8 x W hxl)
   clear hB hx
   go_wp2_with fail
   refine(HW.o wr).mono ?_
   rintro e W2 ⟨v2,rfl,how,hB⟩
   obtain⟨o2,c2,rfl⟩:=aT how
   have hs2:=hB.size
   have alp:=((bV hB).1 b (off+k) hb).trans hc0
   have HB2:=ae (aX HB.o hB)
   obtain⟨a,ps,hw⟩: ∃a ps,bZ x=a::ps:=by
    cases h:bZ x with
    |nil=>exact absurd h (kQ x)
    |cons a ps=>exact⟨a,ps,rfl⟩
   have HHD:Hid ((bZ x).headD []=a):=ae (by rw[hw];rfl)
   have Bd:=ae (aK.dR how)
   rw[hw] at Bd
   rw[hw,List.length_cons]
   simp only[List.length_cons] at Bd
   clear how hB hc0 hb hw HL
   go_wp2_with fail
   refine(HNU.o W2).mono ?_
   rintro e W3 ⟨hB3,v3,rfl,hv3⟩
   have hs3:=hB3.size
   have HB4:=ae (aX HB2.o hB3)
   have HO3:=ae (aK.below Bd.o hB3 (ai _))
   obtain⟨b2,ao8,rfl,hb2,hc3⟩:=iY.cell (l:=a::ps) HO3.o (k:=0) (by simp)
   simp only[List.getElem_cons_zero,Nat.add_zero] at hc3
   clear hB3 alp
   rcases hv3 with⟨hq,rfl⟩|⟨ns,hq,how⟩
   ·rw[hq]
    clear hq
    simp only[Option.isSome_none]
    go_wp2_with fail
    go_roundw
    case rel=>exact⟨k+1,_,_,by omega,by go_num,rfl,rfl,by omega,by omega,by omega,by omega,HB4.o⟩
    case measure=>simp[intOf];omega
   ·have EN:=Sv hq a HHD.o
    rw[hq]
    obtain⟨o3,c3,rfl⟩:=aT how
    have UY:=ae (aK.dR how)
    have hbd: ∀y∈ns,0<=y/\y<=9999:=by
     rw[Dl] at hq
     cases hp:pg x with
     |none=>rw[hp] at hq;cases hq
     |some cn=>
      rw[hp] at hq
      obtain rfl:=jH hq
      exact(tV (c:=cn.1) (n:=cn.2) hp).2.2.1
    have hnl:ns.length<=5:=by
     rw[Dl] at hq
     cases hp:pg x with
     |none=>rw[hp] at hq;cases hq
     |some cn=>
      rw[hp] at hq
      obtain rfl:=jH hq
      have:=(tV (c:=cn.1) (n:=cn.2) hp).2.1
      rw[this]
      cases cn.1 <;>decide
    have NJ:=ae hbd
    clear hq how hbd
    simp only[Option.isSome_some]
    rcases EN with⟨g1,g2,g3,g4,g5,g6⟩|⟨g1,g2,g3,g4,g5,g6,gl⟩|⟨g1,g2,g3,g4,g5,g6⟩|⟨g1,g2,g3,gl⟩|⟨g1,g2,g3,g4,gl⟩|⟨g1,g2,g3,g4,g5,gl⟩|⟨g1,g2,g3,g4,g5,g6,gl⟩
    ·go_wp2_with fail
     go_roundw
     case rel=>exact⟨k+1,_,_,by omega,by go_num,rfl,rfl,by omega,by omega,by omega,by omega,HB4.o⟩
     case measure=>simp[intOf];omega
    ·obtain⟨y,rfl⟩: ∃y,ns=[y]:=by
      match ns,gl with
      |[y],_=>exact⟨y,rfl⟩
     obtain⟨b3,OL,rfl,hb3,hc4⟩:=aP.cell (l:=[y]) UY.o (k:=0) (by simp)
     simp only[List.getElem_cons_zero,Nat.add_zero] at hc4
     by_cases hy:(20:Int)<y
     ·by_cases hy5:y<=50
      ·go_wp2_with fail
       go_returns
       exact⟨HB4.o,_,rfl⟩
      ·go_wp2_with fail
       go_roundw
       case rel=>exact⟨k+1,_,_,by omega,by go_num,rfl,rfl,by omega,by omega,by omega,by omega,HB4.o⟩
       case measure=>simp[intOf];omega
     ·go_wp2_with fail
      go_roundw
      case rel=>exact⟨k+1,_,_,by omega,by go_num,rfl,rfl,by omega,by omega,by omega,by omega,HB4.o⟩
      case measure=>simp[intOf];omega
    ·go_wp2_with fail
     go_roundw
     case rel=>exact⟨k+1,_,_,by omega,by go_num,rfl,rfl,by omega,by omega,by omega,by omega,HB4.o⟩
     case measure=>simp[intOf];omega
    ·obtain⟨m,hm⟩: ∃m,ns.length=m+2:=⟨ns.length-2,by omega⟩
     obtain⟨b3,OL,rfl,hb3,hc4⟩:=aP.cell (l:=ns) UY.o (k:=m) (by omega)
     obtain⟨b9,SE,he9,_,hc5⟩:=aP.cell (l:=ns) UY.o (k:=m+1) (by omega)
     obtain⟨rfl,rfl⟩:b9=b3/\SE=OL:=by
      injection he9 with h
      injection h with h1 h2
      exact⟨h1.symm,h2.symm⟩
     obtain⟨xa,hxa⟩: ∃y,ns[m]=y:=⟨_,rfl⟩
     obtain⟨xb,hxb⟩: ∃y,ns[m+1]=y:=⟨_,rfl⟩
     have afd:=NJ.o xa (by rw[<-hxa];exact bT _)
     have afc:=NJ.o xb (by rw[<-hxb];exact bT _)
     rw[hxa] at hc4
     rw[hxb] at hc5
     rw[hm]
     have hml:m<=1000:=by omega
     have e1:(m:Int)+2-2=m:=by omega
     have e2:(m:Int)+2-1=(m:Int)+1:=by omega
     clear hxa hxb hm he9 gl
     go_wp2_with fail
     by_cases hab:xa<=xb
     ·by_cases hba:xb<=xa+9
      ·by_cases hN:N<=1000
       ·have hmul:=lt_mul N xa xb hN0 hN hab hba
        have hw64:wrap64 (N*(xb-xa+1))=N*(xb-xa+1):=IntWalk.wrap64_in _ ⟨by omega,by omega⟩
        go_region
        all_goals go_wp2_with fail
        all_goals go_roundw
        all_goals first
         |exact⟨k+1,_,_,by omega,by go_num,rfl,rfl,by omega,by omega,by omega,by omega,iq HB4.o⟩
         |(simp[intOf];omega)
       ·go_region
        all_goals go_wp2_with fail
        all_goals go_roundw
        all_goals first
         |exact⟨k+1,_,_,by omega,by go_num,rfl,rfl,by omega,by omega,by omega,by omega,iq HB4.o⟩
         |(simp[intOf];omega)
      ·go_region
       all_goals go_wp2_with fail
       all_goals go_roundw
       all_goals first
        |exact⟨k+1,_,_,by omega,by go_num,rfl,rfl,by omega,by omega,by omega,by omega,iq HB4.o⟩
        |(simp[intOf];omega)
     ·go_region
      all_goals go_wp2_with fail
      all_goals go_roundw
      all_goals first
       |exact⟨k+1,_,_,by omega,by go_num,rfl,rfl,by omega,by omega,by omega,by omega,iq HB4.o⟩
       |(simp[intOf];omega)
    ·obtain⟨m,hm⟩: ∃m,ns.length=m+2:=⟨ns.length-2,by omega⟩
     obtain⟨b3,OL,rfl,hb3,hc4⟩:=aP.cell (l:=ns) UY.o (k:=m) (by omega)
     obtain⟨b9,SE,he9,_,hc5⟩:=aP.cell (l:=ns) UY.o (k:=m+1) (by omega)
     obtain⟨rfl,rfl⟩:b9=b3/\SE=OL:=by
      injection he9 with h
      injection h with h1 h2
      exact⟨h1.symm,h2.symm⟩
     obtain⟨xa,hxa⟩: ∃y,ns[m]=y:=⟨_,rfl⟩
     obtain⟨xb,hxb⟩: ∃y,ns[m+1]=y:=⟨_,rfl⟩
     have afd:=NJ.o xa (by rw[<-hxa];exact bT _)
     have afc:=NJ.o xb (by rw[<-hxb];exact bT _)
     rw[hxa] at hc4
     rw[hxb] at hc5
     rw[hm]
     have hml:m<=1000:=by omega
     have e1:(m:Int)+2-2=m:=by omega
     have e2:(m:Int)+2-1=(m:Int)+1:=by omega
     clear hxa hxb hm he9 gl
     go_wp2_with fail
     by_cases hab:xa<=xb
     ·by_cases hba:xb<=xa+9
      ·by_cases hN:N<=1000
       ·have hmul:=lt_mul N xa xb hN0 hN hab hba
        have hw64:wrap64 (N*(xb-xa+1))=N*(xb-xa+1):=IntWalk.wrap64_in _ ⟨by omega,by omega⟩
        go_region
        all_goals go_wp2_with fail
        all_goals go_roundw
        all_goals first
         |exact⟨k+1,_,_,by omega,by go_num,rfl,rfl,by omega,by omega,by omega,by omega,iq HB4.o⟩
         |(simp[intOf];omega)
       ·go_region
        all_goals go_wp2_with fail
        all_goals go_roundw
        all_goals first
         |exact⟨k+1,_,_,by omega,by go_num,rfl,rfl,by omega,by omega,by omega,by omega,iq HB4.o⟩
         |(simp[intOf];omega)
      ·go_region
       all_goals go_wp2_with fail
       all_goals go_roundw
       all_goals first
        |exact⟨k+1,_,_,by omega,by go_num,rfl,rfl,by omega,by omega,by omega,by omega,iq HB4.o⟩
        |(simp[intOf];omega)
     ·go_region
      all_goals go_wp2_with fail
      all_goals go_roundw
      all_goals first
       |exact⟨k+1,_,_,by omega,by go_num,rfl,rfl,by omega,by omega,by omega,by omega,iq HB4.o⟩
       |(simp[intOf];omega)
    ·obtain⟨m,hm⟩: ∃m,ns.length=m+2:=⟨ns.length-2,by omega⟩
     obtain⟨b3,OL,rfl,hb3,hc4⟩:=aP.cell (l:=ns) UY.o (k:=m) (by omega)
     obtain⟨b9,SE,he9,_,hc5⟩:=aP.cell (l:=ns) UY.o (k:=m+1) (by omega)
     obtain⟨rfl,rfl⟩:b9=b3/\SE=OL:=by
      injection he9 with h
      injection h with h1 h2
      exact⟨h1.symm,h2.symm⟩
     obtain⟨xa,hxa⟩: ∃y,ns[m]=y:=⟨_,rfl⟩
     obtain⟨xb,hxb⟩: ∃y,ns[m+1]=y:=⟨_,rfl⟩
     have afd:=NJ.o xa (by rw[<-hxa];exact bT _)
     have afc:=NJ.o xb (by rw[<-hxb];exact bT _)
     rw[hxa] at hc4
     rw[hxb] at hc5
     rw[hm]
     have hml:m<=1000:=by omega
     have e1:(m:Int)+2-2=m:=by omega
     have e2:(m:Int)+2-1=(m:Int)+1:=by omega
     clear hxa hxb hm he9 gl
     go_wp2_with fail
     by_cases hab:xa<=xb
     ·by_cases hba:xb<=xa+9
      ·by_cases hN:N<=1000
       ·have hmul:=lt_mul N xa xb hN0 hN hab hba
        have hw64:wrap64 (N*(xb-xa+1))=N*(xb-xa+1):=IntWalk.wrap64_in _ ⟨by omega,by omega⟩
        go_region
        all_goals go_wp2_with fail
        all_goals go_roundw
        all_goals first
         |exact⟨k+1,_,_,by omega,by go_num,rfl,rfl,by omega,by omega,by omega,by omega,iq HB4.o⟩
         |(simp[intOf];omega)
       ·go_region
        all_goals go_wp2_with fail
        all_goals go_roundw
        all_goals first
         |exact⟨k+1,_,_,by omega,by go_num,rfl,rfl,by omega,by omega,by omega,by omega,iq HB4.o⟩
         |(simp[intOf];omega)
      ·go_region
       all_goals go_wp2_with fail
       all_goals go_roundw
       all_goals first
        |exact⟨k+1,_,_,by omega,by go_num,rfl,rfl,by omega,by omega,by omega,by omega,iq HB4.o⟩
        |(simp[intOf];omega)
     ·go_region
      all_goals go_wp2_with fail
      all_goals go_roundw
      all_goals first
       |exact⟨k+1,_,_,by omega,by go_num,rfl,rfl,by omega,by omega,by omega,by omega,iq HB4.o⟩
       |(simp[intOf];omega)
    ·obtain⟨m,hm⟩: ∃m,ns.length=m+2:=⟨ns.length-2,by omega⟩
     obtain⟨b3,OL,rfl,hb3,hc4⟩:=aP.cell (l:=ns) UY.o (k:=m) (by omega)
     obtain⟨b9,SE,he9,_,hc5⟩:=aP.cell (l:=ns) UY.o (k:=m+1) (by omega)
     obtain⟨rfl,rfl⟩:b9=b3/\SE=OL:=by
      injection he9 with h
      injection h with h1 h2
      exact⟨h1.symm,h2.symm⟩
     obtain⟨xa,hxa⟩: ∃y,ns[m]=y:=⟨_,rfl⟩
     obtain⟨xb,hxb⟩: ∃y,ns[m+1]=y:=⟨_,rfl⟩
     have afd:=NJ.o xa (by rw[<-hxa];exact bT _)
     have afc:=NJ.o xb (by rw[<-hxb];exact bT _)
     rw[hxa] at hc4
     rw[hxb] at hc5
     rw[hm]
     have hml:m<=1000:=by omega
     have e1:(m:Int)+2-2=m:=by omega
     have e2:(m:Int)+2-1=(m:Int)+1:=by omega
     clear hxa hxb hm he9 gl
     go_wp2_with fail
     by_cases hab:xa<=xb
     ·by_cases hba:xb<=xa+9
      ·by_cases hN:N<=1000
       ·have hmul:=lt_mul N xa xb hN0 hN hab hba
        have hw64:wrap64 (N*(xb-xa+1))=N*(xb-xa+1):=IntWalk.wrap64_in _ ⟨by omega,by omega⟩
        go_region
        all_goals go_wp2_with fail
        all_goals go_roundw
        all_goals first
         |exact⟨k+1,_,_,by omega,by go_num,rfl,rfl,by omega,by omega,by omega,by omega,iq HB4.o⟩
         |(simp[intOf];omega)
       ·go_region
        all_goals go_wp2_with fail
        all_goals go_roundw
        all_goals first
         |exact⟨k+1,_,_,by omega,by go_num,rfl,rfl,by omega,by omega,by omega,by omega,iq HB4.o⟩
         |(simp[intOf];omega)
      ·go_region
       all_goals go_wp2_with fail
       all_goals go_roundw
       all_goals first
        |exact⟨k+1,_,_,by omega,by go_num,rfl,rfl,by omega,by omega,by omega,by omega,iq HB4.o⟩
        |(simp[intOf];omega)
     ·go_region
      all_goals go_wp2_with fail
      all_goals go_roundw
      all_goals first
       |exact⟨k+1,_,_,by omega,by go_num,rfl,rfl,by omega,by omega,by omega,by omega,iq HB4.o⟩
       |(simp[intOf];omega)
  ·have hkl:k=ls.length:=by omega
   subst hkl
   by_cases h60:N<=60
   ·go_wp2_with fail
    go_returns
    exact⟨HB.o,_,rfl⟩
   ·go_wp2_with fail
    go_returns
    exact⟨HB.o,_,rfl⟩
def abz (ls:List aF) (w:World) (e:Ending) (w':World):Prop:=Below w.heap.size w w'/\ ∃b,e= .returned (.bool b)/\(b=true->eH ls=0)
theorem Yv (ls:List aF) (v:Value) (w:World) (hv:iY w v ls):Calls Tryz.prog 8 #[v] w (abz ls w):=by
 have HV:=ae hv
 have HT:=ae (fun W (hb:Below w.heap.size w W)=>abx ls v W (HV.o.below hb (ai _)))
 have HF:=ae (fun W (hb:Below w.heap.size w W)=>Td ls v W (HV.o.below hb (ai _)))
 have HLT:=ae (fun W (hb:Below w.heap.size w W) (h:JM ls=true)=>Yy ls v W (HV.o.below hb (ai _)) (by have:=(vX.1 h).1;omega) (fun x hx=>by have:=(vX.1 h).2 x hx;omega))
 clear hv
 obtain⟨q,hq⟩: ∃q,JM ls=q:=⟨_,rfl⟩
 rw[hq] at HT HLT
 obtain⟨f,hf⟩: ∃f,eH ls=f:=⟨_,rfl⟩
 rw[hf] at HF
 unfold abz
 rw[hf]
 clear hq hf
 go_enter Tryz.func8,Tryz.ntmps8
 go_wp2_with fail
 refine(HT.o w (aG _ _)).mono ?_
 rintro e W1 ⟨rfl,hB1⟩
 have HB1:=ae hB1
 clear hB1
 cases q with
 |false=>
  go_wp2_with fail
  go_returns
  exact⟨HB1.o,_,rfl,fun h=>by cases h⟩
 |true=>
  go_wp2_with fail
  refine(HF.o W1 HB1.o).mono ?_
  rintro e W2 ⟨rfl,hB2⟩
  have HB2:=ae (aX HB1.o hB2)
  clear hB2
  by_cases h0:f=0
  ·subst h0
   go_wp2_with fail
   refine(HLT.o W2 HB2.o (by first|trivial|rfl)).mono ?_
   rintro e W3 ⟨hB3,b,rfl⟩
   have HB3:=ae (aX HB2.o hB3)
   clear hB3
   go_wp2_with fail
   go_returns
   exact⟨HB3.o,by cases b <;>simp⟩
  ·go_wp2_with fail
   go_returns
   exact⟨HB2.o,_,rfl,fun h=>by cases h⟩
end Go.Proofs.YthbpmepjmebolaaGreatDoor.Bk
end
section
namespace Go.Proofs.YthbpmepjmebolaaGreatDoor.Bk
open Go.Lib Go.RowKit Go.RG Go.SL Go.Shelf jC Go.TB Go.Proofs.YthbpmepjmebolaaGreatDoor.Be
theorem aby: ∀(n:Nat) (w:World),n<=100000->Calls Tryz.prog 52 #[iv n] w (PV (.string (dV (decDigits n))) w):=by
 intro n
 induction n using Nat.strongRecOn with
 |_ n ih=>
  intro w hn
  by_cases h:n<10
  ·rw[lg h]
   have hI:(n:Int)<10:=by omega
   have hw:IntKind.u8.wrap (48+(n:Int))=48+(n:Int):=by
    have hb:(2:Int)^IntKind.u8.bits=256:=by decide
    simp only[IntKind.wrap,hb,show IntKind.u8.signed=false from rfl,Bool.false_and,Bool.false_eq_true,if_false];omega
   have hd:((D7 n).toNat:Int)=48+(n:Int):=by rw[qO h];omega
   have hcv:(convert 83 9 (.slice (some ⟨w.heap.size,0,none⟩) 1 1)).run Tryz.prog (w.alloc (.cells #[.int .u8 (48+(n:Int))] 5))= .ok (.string (dV [D7 n])) (w.alloc (.cells #[.int .u8 (48+(n:Int))] 5)):=run_convert_bytes_back _ _ _ 5 ⟨w.heap.size,0,none⟩ 1 [D7 n] Tryz.underlying83 Tryz.underlying5 Tryz.underlying9 (fun j hj=>by
    obtain rfl:j=0:=by simpa using hj
    simp only[List.getElem_cons_zero,hd]
    simp[Addr.add])
   generalize D7 n=c at*
   clear ih
   go_enter Tryz.func52,Tryz.ntmps52
   go_wp2_with fail
   go_returns
   exact⟨by simp,ak (aG _ _) _⟩
  ·rw[xu h]
   have h1:=ae (fun W=>ih (n/10) (by omega) W (by omega))
   have h2:=ae (fun W=>ih (n%10) (by omega) W (by omega))
   have hI: ¬(n:Int)<10:=by omega
   have e1:(n:Int).tdiv 10=((n/10:Nat):Int):=by rw[Int.tdiv_eq_ediv_of_nonneg (by omega)];omega
   have e2:(n:Int).tmod 10=((n%10:Nat):Int):=by rw[Int.tmod_eq_emod_of_nonneg (by omega)];omega
   have hd2:decDigits (n%10)=[D7 (n%10)]:=lg (by omega)
   have hl:=Ir 4 (n/10) (by omega)
   rw[hd2] at h2
   have ha:n/10<=10000:=by omega
   have hb:n%10<10:=by omega
   clear ih
   generalize n/10=a at*
   generalize n%10=b at*
   go_enter Tryz.func52,Tryz.ntmps52
   go_wp2_with fail
   refine(h1.o w).mono ?_
   rintro e W1 ⟨rfl,hB⟩
   have HB1:=ae hB
   clear hB
   go_wp2_with fail
   refine(h2.o W1).mono ?_
   rintro e W2 ⟨rfl,hB⟩
   have HB2:=ae (aX HB1.o hB)
   clear hB
   have hadd:=fun W=>nH (P:=Tryz.prog) (a:=decDigits a) (b:=[D7 b]) rfl (by simp;omega) W
   go_wp2_with fail
   go_returns
   exact⟨by simp[yU],HB2.o⟩
theorem yR {k:Nat} (h:k<10000):(decDigits k).length<=4:=Ir 3 k (by omega)
theorem Ky: ∀(ns:List Nat) (w:aF),(∀k∈ns,k<10000)->(iC w ns).length<=w.length+5*ns.length:=by
 intro ns
 induction ns with
 |nil=>intro w _;exact ai _
 |cons k ns ih=>
  intro w h
  have:=ih (w++(32::decDigits k)) fun x hx=>h x (qj _ hx)
  have h5:=yR (h k (List.mem_cons_self ..))
  unfold iC at this⊢
  rw[List.foldl_cons]
  simp only[dE,List.length_cons] at this⊢
  omega
abbrev tX (ns:List Nat):List Int:=ns.map fun(k:Nat)=>(k:Int)
theorem S9 (w:aF) (ns:List Nat) (k:Nat):iC w (ns++[k])=iC w ns++(32::decDigits k):=by unfold iC;rw[List.foldl_append];rfl
theorem Tc (word:aF) (ns:List Nat) (v:Value) (w:World) (hv:aP w v (tX ns)) (hw:word.length<=100) (hn:ns.length<=10) (hk: ∀k∈ns,k<10000):Calls Tryz.prog 53 #[.string (dV word),v] w (PV (.string (dV (iC word ns))) w):=by
 have hlen:=hv.len
 have hnl:(tX ns).length=ns.length:=by simp
 unfold aP at hv
 rw[hnl] at hv
 obtain⟨o,c,rfl⟩:=aK.open hv
 have HV:=ae hv
 clear hv hnl hlen
 have HK:=ae hk
 clear hk
 go_enter Tryz.func53,Tryz.ntmps53
 go_wp2_with fail
 go_loopw [0,5] (fun s i wr=> ∃k:Nat,k<=ns.length/\i= .int .i64 k/\s= .string (dV (iC word (ns.take k)))/\Below w.heap.size w wr) (fun _ i _=>ns.length-(intOf i).toNat)
 case atStart=>exact⟨0,bW _,rfl,rfl,aG _ _⟩
 case round=>
  obtain⟨k,hk,rfl,rfl,hB⟩:=hrel
  have HB:=ae hB
  by_cases hlt:k<ns.length
  ·obtain⟨b,off,rfl,hb,hc0⟩:=aP.cell (l:=tX ns) (aK.below HV.o hB (ai _)) (k:=k) (by simpa using hlt)
   obtain⟨x,hx⟩: ∃x,ns[k]=x:=⟨_,rfl⟩
   simp only[tX,List.getElem_map,hx] at hc0
   have hx9:x<10000:=HK.o x (by rw[<-hx];exact bT _)
   have htk:iC word (ns.take (k+1))=iC word (ns.take k)++(32::decDigits x):=by rw[iy hlt,hx,S9]
   have QP:=ae htk
   have hll:=Ky (ns.take k) word fun y hy=>HK.o y (oM hy)
   have hdl:=yR hx9
   have htl:(ns.take k).length<=10:=by simp;omega
   generalize iC word (ns.take k)=lw at*
   have HT:=ae (fun W=>aby x W (by omega))
   generalize decDigits x=ds at*
   clear hB htk hx
   go_wp2_with fail
   refine(HT.o wr).mono ?_
   rintro e W2 ⟨rfl,hB⟩
   have HB2:=ae (aX HB.o hB)
   have a1:=fun W=>nH (P:=Tryz.prog) (a:=[32]) (b:=ds) rfl (by simp;omega) W
   have a2:=fun W=>nH (P:=Tryz.prog) (a:=lw) (b:=32::ds) rfl (by simp;omega) W
   simp only[List.cons_append,List.nil_append] at a1
   clear hB
   go_wp2_with fail
   go_roundw
   case rel=>exact⟨k+1,by omega,by go_num,by rw[QP.o],HB2.o⟩
   case measure=>simp[intOf];omega
  ·have hkl:k=ns.length:=by omega
   subst hkl
   rw[List.take_length]
   go_wp2_with fail
   go_returns
   exact⟨by simp,HB.o⟩
end Go.Proofs.YthbpmepjmebolaaGreatDoor.Bk
end
section
namespace Go.Proofs.YthbpmepjmebolaaGreatDoor.Bk
open Go.RowKit Go.RG Go.SL Go.Shelf jC Go.TB Go.Proofs.YthbpmepjmebolaaGreatDoor.Be
def xO (xs:List Value):Prop:= ∀u∈xs, ∃k,u= .int .u8 k
theorem Zh (s:ByteArray):xO (Lib.strCells s):=fun u hu=>by
 simp only[Lib.strCells,iV] at hu
 obtain⟨b,_,rfl⟩:=hu
 exact⟨_,rfl⟩
theorem LC {a b:List Value} (ha:xO a) (hb:xO b):xO (a++b):=fun u hu=>by
 rcases iE.1 hu with h|h
 ·exact ha u h
 ·exact hb u h
theorem ab7 (n:Nat):xO (Builtin.zeroCells (Value.int .u8 0).cells n).toList:=fun u hu=>by
 have:u∈(Builtin.zeroCells (Value.int .u8 0).cells n):=nR.1 hu
 obtain⟨i,hi,rfl⟩:=Array.mem_iff_getElem.1 this
 refine⟨0,?_⟩
 simp[Builtin.zeroCells,Value.cells,Nat.mod_one]
section
variable {P : Program} {w : World}
theorem Fq (base:Nat) (t u ty e:TypeId) (i:TypeInfo) (ht:P.underlying t=some (.slice e)) (hu:P.underlying u=some .string) (hi:P.info? e=some i) (hz:i.zero=some (.int .u8 0))
 (hsize:i.size=1) (hby:i.bytes=1)
 (v:Value) (n:Nat) (xs:List Value) (hown:w.ownsRow base e 1 v n xs) (hU: ∀q,v.ownBlock=some q-> ∀cs t f,w.heap[q]? =some (.cells cs t f)->xO cs.toList) (s:ByteArray)
 (h63:n+s.size<=maxLen) (hbytes:n+s.size<=140737488355328) (hbase:base<=w.heap.size):
 ∃v' w',(Builtin.append_ #[t,u] ty #[v,.string s]).run P w= .ok v' w'/\w'.ownsRow base e 1 v' (n+s.size) (xs++Lib.strCells s)/\w.grownBy w' v.ownBlock/\
  (∀q,v'.ownBlock=some q-> ∀cs t f,w'.heap[q]? =some (.cells cs t f)->xO cs.toList):=by
 have hsmall:n+s.size<=9223372036854775807:=by simp only[maxLen] at h63;omega
 have hxl:xs.length=n:=by simpa using hown.1
 have hlen:(xs++Lib.strCells s).length=(n+s.size)*1:=by rw[dE,hxl,Lib.strCells_length,Nat.mul_one]
 have hxU:xO xs:=by
  rcases hown.2 with⟨rfl,rfl⟩|⟨g,cap,cur,rfl,hbg,hg,hnc,hcm,hcs,htake⟩
  ·have:xs=[]:=kF hxl
   subst this
   exact fun u hu=>by cases hu
  ·have:=hU g rfl cur e (0,0) hg
   rw[<-htake]
   exact fun u hu=>this u (oM hu)
 have grown: ∀(old:Nat),old<n+s.size-> ∀(row:Option Nat),
  (w.drew.alloc (.cells (xs.toArray++(Lib.strCells s).toArray++Builtin.zeroCells (Value.int .u8 0).cells (grownCap w (n+s.size) old e-(n+s.size))) e)).ownsRow base e 1
    (.slice (some ⟨w.heap.size,0,none⟩) (n+s.size) (grownCap w (n+s.size) old e)) (n+s.size) (xs++Lib.strCells s)/\
  w.grownBy (w.drew.alloc (.cells (xs.toArray++(Lib.strCells s).toArray++Builtin.zeroCells (Value.int .u8 0).cells (grownCap w (n+s.size) old e-(n+s.size))) e)) row/\
  ∀cs t f,(w.drew.alloc (.cells (xs.toArray++(Lib.strCells s).toArray++Builtin.zeroCells (Value.int .u8 0).cells (grownCap w (n+s.size) old e-(n+s.size))) e)).heap[w.heap.size]? =some (.cells cs t f)->xO cs.toList:=by
  intro old ho row
  have hge:=grownCap_ge w (n+s.size) old e
  have hcm:grownCap w (n+s.size) old e<=maxLen:=grownCap_le_maxLen w (n+s.size) old e h63
  refine⟨⟨hlen,.inr ⟨w.heap.size,_,_,rfl,hbase,heap_alloc_new w.drew _,hge,hcm,?_,?_⟩⟩,⟨rfl,rfl,rfl,by simp,fun k hk _=>heap_alloc_old w.drew _ hk⟩,fun cs t f h=>?_⟩
  ·have hz1:(Value.int IntKind.u8 0).cells.size=1:=rfl
   simp only[Array.size_append,List.size_toArray,size_zeroCells,hz1,hxl,Lib.strCells_length]
   omega
  ·simp only[Array.toList_append,List.append_assoc]
   rw[<-List.append_assoc, <-hlen]
   exact List.take_left
  ·have h2:=(heap_alloc_new w.drew (.cells (xs.toArray++(Lib.strCells s).toArray++Builtin.zeroCells (Value.int .u8 0).cells (grownCap w (n+s.size) old e-(n+s.size))) e)).symm.trans h
   simp only[Option.some.injEq,Obj.cells.injEq] at h2
   rw[<-h2.1]
   simp only[Array.toList_append]
   exact LC (LC hxU (Zh s)) (ab7 _)
 rcases hown.2 with⟨rfl,rfl⟩|⟨g,cap,cur,rfl,hbg,hg,hnc,hcm,hcs,htake⟩
 ·have hx:xs=[]:=kF hxl
  subst hx
  by_cases hm:s.size=0
  ·have hn:Lib.strCells s=[]:=kF (by rw[Lib.strCells_length];exact hm)
   refine⟨.slice none 0 0,w,?_,by rw[hm,hn];exact World.ownsRow_nil w base e 1,⟨rfl,rfl,rfl,ai _,fun _ _ _=>rfl⟩,fun q hq=>by cases hq⟩
   have hf:=Lib.run_firstCells_string (P:=P) w 1 s
   rw[hm] at hf
   simp[Builtin.append_,run_underlying ht,run_underlying hu,sizeOf,typeInfo,hi,hsize,Builtin.lenOf,hm,hf]
  ·have hr:=run_append_nil_string (P:=P) w t u ty e i (.int .u8 0) ht hu hi hz s (by omega) (by omega) (by rw[hby];omega)
   have hgr:=grown 0 (by omega) (Value.ownBlock (.slice none 0 0))
   simp only[Nat.zero_add,List.nil_append,Array.empty_append] at hgr⊢
   have e1:(s.data.map fun b=>Value.int .u8 b.toNat)=(Lib.strCells s).toArray:=by
    apply Array.ext'
    simp[Lib.strCells]
   rw[e1] at hr
   refine⟨_,_,hr,hgr.1,hgr.2.1,fun q hq=>?_⟩
   obtain rfl:=jH hq
   exact hgr.2.2
 ·by_cases hroom:n+s.size<=cap
  ·have hcs':cur.size=cap:=by simpa using hcs
   have hr:=Lib.run_append_room_string (P:=P) w t u ty e i ht hu hi hsize g n cap cur hg s hroom (by omega)
   refine⟨_,_,hr,⟨hlen,.inr ⟨g,cap,_,rfl,hbg,setRow_heap w g cur _ e _ hg,hroom,hcm,?_,?_⟩⟩,⟨rfl,rfl,rfl,by simp,fun k _ hk=>setRow_other w g k _ (fun e=>hk (by simp[Value.ownBlock,e]))⟩,fun q hq cs t f h=>?_⟩
   ·simp only[List.size_toArray,dE,gX,lK,Array.length_toList,Lib.strCells_length]
    omega
   ·have ht':cur.toList.take n=xs:=by simpa using htake
    rw[ht', <-hlen]
    exact List.take_left
   ·obtain rfl:=jH hq
    rw[setRow_heap w g cur _ e _ hg] at h
    simp only[Option.some.injEq,Obj.cells.injEq] at h
    rw[<-h.1]
    have hc:=hU g rfl cur e (0,0) hg
    exact LC (LC (fun u hu=>hc u (oM hu)) (Zh s)) (fun u hu=>hc u (List.mem_of_mem_drop hu))
  ·have holds: ∀j u,xs[j]? =some u->w.cell? ((⟨g,0,none⟩:Addr).add j)=some u:=hown.cells (g:=g) rfl
   have hr:=Lib.run_append_grow_string (P:=P) w t u ty e i (.int .u8 0) ht hu hi hz ⟨g,0,none⟩ n cap xs (by rw[hsize];simpa using hxl) holds s (by omega) (by omega) (by rw[hby];exact growslice_fits (by omega) (by omega))
   have hgr:=grown cap (by omega) (Value.ownBlock (.slice (some ⟨g,0,none⟩) n cap))
   refine⟨_,_,hr,hgr.1,hgr.2.1,fun q hq=>?_⟩
   obtain rfl:=jH hq
   exact hgr.2.2
theorem Ad {ops:Array Oper} {rest:List Oper} {o:Oper} {a:Act} {Q:Exit->Act->World->Prop} (hgd:o.guard=none) (sl x:Operand) (t u:TypeId)
 (ho:o.op= .call {callee:= .builtin .append,args:= #[sl,x],argTypes:= #[t,u]})
 (base:Nat) (e:TypeId) (i:TypeInfo) (ht:P.underlying t=some (.slice e)) (hu:P.underlying u=some .string) (hi:P.info? e=some i) (hz:i.zero=some (.int .u8 0))
 (hsize:i.size=1) (hby:i.bytes=1)
 (v:Value) (n:Nat) (xs:List Value) (hs:a.eval sl=v) (hown:w.ownsRow base e 1 v n xs) (hU: ∀q,v.ownBlock=some q-> ∀cs t f,w.heap[q]? =some (.cells cs t f)->xO cs.toList) (s:ByteArray) (hx:a.eval x= .string s)
 (h63:n+s.size<=maxLen) (hbytes:n+s.size<=140737488355328) (hbase:base<=w.heap.size)
 (h: ∀v' w',w'.ownsRow base e 1 v' (n+s.size) (xs++Lib.strCells s)->w.grownBy w' v.ownBlock->(∀q,v'.ownBlock=some q-> ∀cs t f,w'.heap[q]? =some (.cells cs t f)->xO cs.toList)->wpList P ops Q rest (a.put o.dst v') w'):wpList P ops Q (o::rest) a w:=by
 refine wpList_plain hgd fun K hK=>?_
 obtain⟨v',w',hr,h2,h3,h4⟩:=Fq (P:=P) base t u o.type e i ht hu hi hz hsize hby v n xs hown hU s h63 hbytes hbase
 unfold Oper.wp execOp
 simp only[ho,resolve,invoke,builtin,Sem.run_bind,Sem.run_pure,Result.andThen_ok,List.map_toArray,List.map_cons,List.map_nil,hs,hx,hr]
 exact hK _ _ (h v' w' h2 h3 h4)
end
def CU (B b:Nat) (p:Value) (bs:aF) (w:World):Prop:=
 B<=b/\ ∃v,w.heap[b]? =some (.cells #[p,v] 133 (0,0))/\w.ownsRow B 5 1 v bs.length (Lib.byteCells bs)/\v.ownBlock≠some b/\ ∀q,v.ownBlock=some q-> ∀cs t f,w.heap[q]? =some (.cells cs t f)->xO cs.toList
def Buf (B b:Nat) (bs:aF) (w:World):Prop:=CU B b (.pointer none) bs w∨CU B b (.pointer (some ⟨b,0,none⟩)) bs w
theorem CU.at_ {B b:Nat} {p:Value} {bs:aF} {w:World} (h:CU B b p bs w):Lib.BuilderAt 133 5 B b p (Lib.byteCells bs) w:=by
 obtain⟨h1,v,h2,h3,h4,_⟩:=h
 exact⟨h1,v,h2,by rw[Lib.byteCells_length];exact h3,h4⟩
theorem Buf.is {B b:Nat} {bs:aF} {w:World} (h:Buf B b bs w):Lib.IsBuilder 133 5 B b (Lib.byteCells bs) w:=h.imp CU.at_ CU.at_
theorem CU.below {B b:Nat} {p:Value} {bs:aF} {w W:World} (h:CU B b p bs w) (hb:Below w.heap.size w W):CU B b p bs W:=by
 obtain⟨h1,v,h2,h3,h4,h5⟩:=h
 have hlt:=(aV.1 h2).1
 refine⟨h1,v,(hb.block b hlt).trans h2,aA (Ms:=[]) h3 (Ext.az hb) (by simp),h4,fun q hq cs t f hc=>?_⟩
 rw[hb.block q (bH h3 q hq).2] at hc
 exact h5 q hq cs t f hc
theorem Buf.below {B b:Nat} {bs:aF} {w W:World} (h:Buf B b bs w) (hb:Below w.heap.size w W):Buf B b bs W:=h.imp (fun x=>x.below hb) (fun x=>x.below hb)
structure Wr (B:Nat) (w w':World):Prop where
 below:Below B w w'
 size:w.heap.size<=w'.heap.size
 ints: ∀k,k<w.heap.size->(∃o n,w.cell? ⟨k,o,none⟩=some (iv n))->w'.heap[k]? =w.heap[k]?
theorem Wr.refl (B:Nat) (w:World):Wr B w w:=⟨aG _ _,ai _,fun _ _ _=>rfl⟩
theorem Wr.trans {B:Nat} {a b c:World} (h:Wr B a b) (k:Wr B b c):Wr B a c:=
 ⟨h.below.trans k.below,jo h.size k.size,fun i hi hc=>by
   have h1:=h.ints i hi hc
   obtain⟨o,n,hc⟩:=hc
   exact(k.ints i (fP hi h.size) ⟨o,n,by rw[jd (w:=a) h1];exact hc⟩).trans h1⟩
theorem Wr.az {B:Nat} {w w':World} (h:Below w.heap.size w w') (hB:B<=w.heap.size):Wr B w w':=⟨h.mono hB,h.size,fun k hk _=>h.block k hk⟩
theorem Wr.list {B:Nat} {w w':World} (h:Wr B w w') {size:Nat} {v:Value} {n:Nat} {xs:List Value} (hs:aK size w v n xs) (hi: ∀u∈xs, ∃k,u=iv k):aK size w' v n xs:=by
 obtain⟨hl,o,c,rfl,h1,h2,h3,h4⟩:=hs
 refine⟨hl,o,c,rfl,h1,h2,h3,fun a ha=>?_⟩
 obtain⟨hs,hc⟩:=h4 a ha
 obtain⟨b,off,sp⟩:=a
 simp only at hs hc
 subst hs
 refine⟨rfl,fun j u hj=>?_⟩
 have hcell:=hc j u hj
 obtain⟨k,rfl⟩:=hi u (mG hj)
 rw[jd (w:=w) (h.ints b (dP w _ hcell) ⟨_,_,hcell⟩)]
 exact hcell
theorem acI (l:List Int): ∀u∈ah l, ∃k,u=iv k:=fun u hu=>by
 obtain⟨k,_,rfl⟩:=iV.1 hu
 exact⟨k,rfl⟩
theorem BJ (l:List dY): ∀u∈aH l, ∃k,u=iv k:=fun u hu=>by
 obtain⟨r,_,h⟩:=qI.1 hu
 rcases gK.1 h with rfl|h
 ·exact⟨_,rfl⟩
 ·obtain rfl:=dZ.1 h
  exact⟨_,rfl⟩
theorem CU.ZU {B b:Nat} {p:Value} {bs:aF} {w:World} (h:CU B b p bs w) (hp: ∀n,p≠iv n) {o:Nat} {n:Int}:w.cell? ⟨b,o,none⟩≠some (iv n):=by
 obtain⟨h1,v,h2,h3,_⟩:=h
 intro e
 rw[Lib.cell_of_heap h2] at e
 match o with
 |0=>exact hp n (by simpa using e)
 |1=>
  have e':v=iv n:=by simpa using e
  rcases h3.2 with⟨hv,_⟩|⟨g,cap,cur,hv,_⟩ <;>rw[hv] at e' <;>cases e'
 |o+2=>simp at e
theorem CU.wr {B b:Nat} {p:Value} {bs:aF} {w w':World} (h:CU B b p bs w) (hp: ∀n,p≠iv n) {v:Value} (hv:w.cell? ⟨b,1,none⟩=some v) (hb:Below B w w') (hs:w.heap.size<=w'.heap.size)
 (hk: ∀k,k<w.heap.size->k≠b->v.ownBlock≠some k->w'.heap[k]? =w.heap[k]?):Wr B w w':=by
 refine⟨hb,hs,fun k hk' hc=>?_⟩
 obtain⟨o,n,hc⟩:=hc
 refine hk k hk' (fun e=>?_) (fun e=>?_)
 ·subst e;exact h.ZU hp hc
 ·obtain⟨h1,v',h2,h3,h4,h5⟩:=h
  rw[Lib.cell_of_heap h2] at hv
  obtain rfl:v'=v:=by simpa using hv
  rcases h3.2 with⟨hv,_⟩|⟨g,cap,cur,hv,_,hg,_⟩
  ·rw[hv] at e;cases e
  ·rw[hv] at e
   obtain rfl:g=k:=by simpa [Value.ownBlock] using e
   rw[Lib.cell_of_heap hg] at hc
   obtain⟨k',hk'⟩:=h5 g (by rw[hv];rfl) cur _ _ hg (iv n) (by rw[nR];exact Array.mem_of_getElem? hc)
   cases hk'
theorem Qz (b:Nat) (w:World) (h0:w.cell? ⟨b,0,none⟩=some (.pointer (some ⟨b,0,none⟩))):
 Calls Tryz.prog 102 #[.pointer (some ⟨b,0,none⟩)] w fun e w'=>e= .returned (.tuple #[])/\w'=w:=by
 obtain⟨j,hj,hjs⟩:=Option.map_eq_some_iff.1 (show(Tryz.prog.info? 133).map (·.size)=some 2 by kernel_rfl)
 go_enter Tryz.func102,Tryz.ntmps102
 go_wp2
 rw[Lib.run_neq_ptr_same w _ Tryz.underlying131 hj]
 go_wp2
 go_end0
 exact⟨rfl,rfl⟩
theorem Nw (b:Nat) (w:World) (h0:w.cell? ⟨b,0,none⟩=some (.pointer none)) (hsh:w.shape? b=some (133,2)) (hfz:w.frozen? ⟨b,0,none⟩=false):
 Calls Tryz.prog 102 #[.pointer (some ⟨b,0,none⟩)] w fun e w'=>e= .returned (.tuple #[])/\w'=w.setCell ⟨b,0,none⟩ (.pointer (some ⟨b,0,none⟩)):=by
 obtain⟨j,hj,hjs⟩:=Option.map_eq_some_iff.1 (show(Tryz.prog.info? 133).map (·.size)=some 2 by kernel_rfl)
 go_enter Tryz.func102,Tryz.ntmps102
 go_wp2
 rw[Lib.run_to_unsafe w ⟨b,0,none⟩ Tryz.underlying131 Tryz.underlying258 hj (by rw[hjs];decide) hsh (Nat.zero_lt_succ 1)]
 simp only[Result.andThen]
 rw[Oper.upon_value]
 go_wp2
 rw[run_callFunc_extern Tryz.func168 (by kernel_rfl) (by kernel_rfl) (by kernel_rfl) (e:=Extern.AbiNoEscape.same) (by kernel_rfl)]
 rw[Lib.run_noEscape]
 simp only[Result.andThen]
 rw[Oper.upon_value]
 go_wp2
 rw[Lib.run_from_unsafe w ⟨b,0,none⟩ Tryz.underlying258 Tryz.underlying131 hj hsh (by kernel_rfl)]
 simp only[Result.andThen]
 rw[Oper.upon_value]
 go_wp2
 go_end0
 exact⟨rfl,rfl⟩
theorem UB (B b:Nat) (bs:aF) (w:World) (h:Buf B b bs w):
 Calls Tryz.prog 102 #[.pointer (some ⟨b,0,none⟩)] w fun e w'=>e= .returned (.tuple #[])/\CU B b (.pointer (some ⟨b,0,none⟩)) bs w'/\Wr B w w':=by
 rcases h with h|h
 ·refine(Nw b w h.at_.cell0 h.at_.shape h.at_.frozen0).mono ?_
  rintro e w' ⟨rfl,rfl⟩
  have hlt:=h.at_.lt
  have hw:Wr B w (w.setCell ⟨b,0,none⟩ (.pointer (some ⟨b,0,none⟩))):=
   ⟨(aG B w).setCell (p:=⟨b,0,none⟩) h.1 _,by simp[World.setCell],fun k hk hc=>by
     obtain⟨o,n,hc⟩:=hc
     refine dL _ _ _ _ (fun e=>?_)
     subst e
     exact h.ZU (fun _ e=>by cases e) hc⟩
  obtain⟨h1,v,h2,h3,h4,h5⟩:=h
  refine⟨rfl,⟨h1,v,?_,?_,h4,fun q hq cs t f hc=>?_⟩,hw⟩
  ·simp[World.setCell,Array.getElem?_modify,h2]
  ·exact h3.kept (row:=some b) ⟨rfl,rfl,rfl,by simp[World.setCell],fun k _ hk=>dL _ _ _ _ (fun e=>hk (by simp[e]))⟩ (Or.inr h4)
  ·rw[dL _ _ _ _ (fun e=>h4 (by rw[hq,e]))] at hc
   exact h5 q hq cs t f hc
 ·refine(Qz b w h.at_.cell0).mono ?_
  rintro e w' ⟨rfl,rfl⟩
  exact⟨rfl,h,Wr.refl _ _⟩
theorem vV (B b:Nat) (bs s:aF) (w:World) (h:Buf B b bs w) (hBw:B<=w.heap.size) (hlen:bs.length+s.length<=1000000):
 Calls Tryz.prog 58 #[.pointer (some ⟨b,0,none⟩),.string (dV s)] w fun e w'=>(∃v,e= .returned v)/\Buf B b (bs++s) w'/\Wr B w w':=by
 have hsz:(dV s).size=s.length:=by simp[ByteArray.size]
 obtain⟨i0,hi,hz0,hz1,hz2⟩:=info_parts (show(Tryz.prog.info? 5).map (fun i=>(i.zero,i.size,i.bytes))=some (some (.int .u8 0),1,1) by kernel_rfl)
 have HC:=ae (UB B b bs w h)
 clear h
 go_enter Tryz.func58,Tryz.ntmps58
 go_wp2_with fail
 refine HC.o.mono ?_
 rintro e w1 ⟨rfl,h1,hw1⟩
 have hp: ∀n,(Value.pointer (some ⟨b,0,none⟩))≠iv n:=fun _ e=>by cases e
 have HA:=ae h1
 obtain⟨hB,v,hbk,hown,hne,hU⟩:=h1
 have c0:w1.cell? ⟨b,0,none⟩=some (.pointer (some ⟨b,0,none⟩)):=by rw[Lib.cell_of_heap hbk];rfl
 have c1:w1.cell? ⟨b,1,none⟩=some v:=by rw[Lib.cell_of_heap hbk];rfl
 go_wp2_with (at_builtin;refine Ad rfl _ _ 83 9 rfl B 5 i0 Tryz.underlying83 Tryz.underlying9 hi hz0 hz1 hz2 _ _ _ rfl hown hU (dV s) rfl ?c3 ?c4 ?c5 ?_)
 case c3=>rw[hsz];unfold maxLen;omega
 case c4=>rw[hsz];omega
 case c5=>have:=hw1.size;omega
 intro v' w2 hown' hgrow hU'
 have hlt:b<w1.heap.size:=(aV.1 hbk).1
 have hb2:w2.heap[b]? =some (.cells #[.pointer (some ⟨b,0,none⟩),v] 133 (0,0)):=by
  rw[hgrow.block b hlt (fun e=>hne e.symm)]
  exact hbk
 have d0:w2.cell? ⟨b,0,none⟩=some (.pointer (some ⟨b,0,none⟩)):=by rw[Lib.cell_of_heap hb2];rfl
 have d1:w2.cell? ⟨b,1,none⟩=some v:=by rw[Lib.cell_of_heap hb2];rfl
 have f1:w2.frozen? ⟨b,1,none⟩=false:=Lib.frozen_of_heap hb2 1
 obtain⟨ao,n',cap,rfl⟩: ∃ao n' cap,v'= .slice ao n' cap:=by
  rcases hown'.2 with⟨hv,_⟩|⟨g,cap,cur,hv,_⟩
  ·exact⟨_,_,_,hv⟩
  ·exact⟨_,_,_,hv⟩
 have hne':=Lib.ownBlock_ne hown' hb2 (show 133≠5 by decide)
 have HG:=ae (ag hown' (ag hgrow (ag hU' (ag hw1 (ag c1 (ag hown hb2))))))
 clear hown' hgrow hU' hw1 hU hb2 hown
 go_wp2
 go_ret2
 obtain⟨hown',hgrow,hU',hw1,c1',hown,hb2⟩:=HG.o
 refine⟨⟨_,rfl⟩,.inr ⟨hB,_,?_,?_,hne',fun q hq cs t f hc=>?_⟩,hw1.trans (HA.o.wr hp c1' ?_ ?_ ?_)⟩
 ·simp[World.setCell,Array.getElem?_modify,hb2]
 ·have h3:w2.ownsRow B 5 1 (.slice ao n' cap) (bs++s).length (Lib.byteCells (bs++s)):=by
   rw[dE,Lib.byteCells_append, <-hsz]
   exact hown'
  exact h3.kept (row:=some b) ⟨rfl,rfl,rfl,by simp[World.setCell],fun k _ hk=>dL _ _ _ _ (fun e=>hk (by simp[e]))⟩ (Or.inr hne')
 ·rw[dL _ _ _ _ (fun e=>hne' (by rw[hq,e]))] at hc
  first|exact hU' q hq cs t f hc|exact hU' q hq cs t f.1 f.2 hc
 ·exact((aG B w1).grown hgrow (by have:=hw1.size;omega) (fun k hk=>(hown.lt k hk).1)).setCell (p:=⟨b,1,none⟩) hB _
 ·have:=hgrow.size;simp[World.setCell];omega
 ·intro k hk hkb hkv
  exact(dL _ _ _ _ (fun e=>hkb e)).trans (hgrow.block k hk (fun e=>hkv e.symm))
end Go.Proofs.YthbpmepjmebolaaGreatDoor.Bk
end
section
namespace Go.Proofs.YthbpmepjmebolaaGreatDoor.Bk
open Go.RowKit Go.RG Go.SL Go.Shelf jC Go.TB Go.Proofs.YthbpmepjmebolaaGreatDoor.Be
abbrev kN (n:Int):Prop:= -1000000000<=n/\n<=1000000000
theorem qV {n:Int} (h:kN n):(Lib.itoa n).length<=11:=by
 unfold Lib.itoa
 split
 ·have:=Ir 9 n.natAbs (by omega)
  simp only[List.length_cons];omega
 ·have:=Ir 9 n.toNat (by omega)
  omega
theorem yF (n:Int) (h:kN n) (w:World) (hE:Env w):Calls Tryz.prog 59 #[iv n] w (PV (.string (dV (Lib.itoa n))) w):=by
 refine(Go.Proofs.Tryz.strconv_Itoa n (by omega) (by omega) w (VC hE (by kernel_rfl))).mono ?_
 rintro e w2 ⟨rfl,k,os,rfl⟩
 exact⟨rfl,Ic w k os⟩
def gY (word:aF) (r:dY):aF:=word++[32]++Lib.itoa r.1++[46,46]++Lib.itoa r.2++[10]
theorem CX {word:aF} {r:dY} (h1:kN r.1) (h2:kN r.2):(gY word r).length<=word.length+26:=by
 have:=qV h1
 have:=qV h2
 simp only[gY,dE,List.length_cons,List.length_nil]
 omega
theorem sF (word:aF): ∀{l:List dY},(∀r∈l,kN r.1/\kN r.2)->(l.flatMap (gY word)).length<=(word.length+26)*l.length:=by
 intro l
 induction l with
 |nil=>intro _;simp
 |cons r l ih=>
  intro h
  have h1:=h r (by simp)
  have h2:=CX (word:=word) h1.1 h1.2
  have h3:=ih (fun x hx=>h x (by simp[hx]))
  rw[List.flatMap_cons,dE,List.length_cons,Nat.mul_add]
  omega
theorem sN (B b:Nat) (bs word:aF) (r:dY) (w:World) (h:Buf B b bs w) (hBw:B<=w.heap.size) (hB4:4<=B) (hE:Env w) (h1:kN r.1) (h2:kN r.2) (hlen:bs.length+(word.length+26)<=1000000):
 Calls Tryz.prog 57 #[.string (dV word),iv r.1,iv r.2,.pointer (some ⟨b,0,none⟩)] w fun e w'=>(∃v,e= .returned v)/\Buf B b (bs++gY word r) w'/\Wr B w w':=by
 have HE:Hid (∀W,Below w.heap.size w W->Env W):=ae (fun W hb=>hE.below hb (ai _))
 have HBu:=ae h
 have HS:=ae (ag h1 h2)
 have l1:=qV h1
 have l2:=qV h2
 obtain⟨s1,hs1⟩: ∃s,Lib.itoa r.1=s:=⟨_,rfl⟩
 obtain⟨s2,hs2⟩: ∃s,Lib.itoa r.2=s:=⟨_,rfl⟩
 rw[hs1] at l1
 rw[hs2] at l2
 have a1:=fun W=>nH (P:=Tryz.prog) (a:=word) (b:=[32]) rfl (by simp;omega) W
 have a2:=fun W=>nH (P:=Tryz.prog) (a:=word++[32]) (b:=s1) rfl (by simp;omega) W
 have a3:=fun W=>nH (P:=Tryz.prog) (a:=word++[32]++s1) (b:=[46,46]) rfl (by simp;omega) W
 have a4:=fun W=>nH (P:=Tryz.prog) (a:=word++[32]++s1++[46,46]) (b:=s2) rfl (by simp;omega) W
 have a5:=fun W=>nH (P:=Tryz.prog) (a:=word++[32]++s1++[46,46]++s2) (b:=[10]) rfl (by simp;omega) W
 have HW:Hid (gY word r=word++[32]++s1++[46,46]++s2++[10]):=ae (by unfold gY;rw[hs1,hs2])
 have H1:=ae hs1
 have H2:=ae hs2
 obtain⟨lo,hi⟩:=r
 simp only at*
 clear h hE h1 h2 hs1 hs2
 go_enter Tryz.func57,Tryz.ntmps57
 go_wp2_with fail
 refine(yF lo HS.o.1 _ (HE.o _ (aG _ _))).mono ?_
 rintro e w1 ⟨rfl,hb1⟩
 rw[H1.o]
 have HB1:=ae hb1
 clear hb1
 go_wp2_with fail
 refine(yF hi HS.o.2 _ (HE.o _ HB1.o)).mono ?_
 rintro e w2 ⟨rfl,hb2⟩
 rw[H2.o]
 have HB2:=ae (aX HB1.o hb2)
 have hs2:=HB2.o.size
 have e5:dV (word++32::s1)++{data:= #[46,46]}++dV s2++{data:= #[10]}=dV (word++[32]++s1++[46,46]++s2++[10]):=by
  show dV (word++32::s1)++dV [46,46]++dV s2++dV [10]=_
  rw[yU,yU,yU]
  simp
 clear hb2
 go_wp2_with fail
 refine(vV B b bs _ w2 (HBu.o.below HB2.o) (by omega) (by simp;omega)).mono ?_
 rintro e w3 ⟨⟨v,rfl⟩,h3,h4⟩
 have H3:=ae (ag h3 h4)
 clear h3 h4 e5
 go_wp2_with fail
 go_end0
 refine⟨⟨_,rfl⟩,?_,(Wr.az HB2.o (by omega)).trans H3.o.2⟩
 rw[HW.o]
 simpa using H3.o.1
theorem xk {α:Type} {l:List α} {i:Nat} {d:α} (h:i<l.length):l.getD i d=l[i]:=by simp[List.getD,h]
theorem Qw (n:Nat) (ls:List (List Int)): ∀k,k<=ls.length->k≠0-> ∀i,i<n->
 (∀l∈ls.take k,((bG n ls k).getD i (0,0)).1<=l.getD i 0/\l.getD i 0<=((bG n ls k).getD i (0,0)).2)/\
 (∃l∈ls.take k,((bG n ls k).getD i (0,0)).1=l.getD i 0)/\(∃l∈ls.take k,((bG n ls k).getD i (0,0)).2=l.getD i 0):=by
 intro k
 induction k with
 |zero=>intro _ h;exact absurd rfl h
 |succ k ih=>
  intro hk _ i hi
  have hk':k<ls.length:=by omega
  have ht:ls.take (k+1)=ls.take k++[ls[k]]:=iy hk'
  have hg:ls.getD k []=ls[k]:=xk hk'
  by_cases h0:k=0
  ·subst h0
   have e:(bG n ls 1).getD i (0,0)=((ls[0]).getD i 0,(ls[0]).getD i 0):=by
    simp only[bG,fC,hg]
    rw[xk (by simp;omega)]
    simp
   rw[e]
   simp only[Nat.zero_add] at ht⊢
   rw[ht]
   exact⟨fun l hl=>by obtain rfl:=dZ.1 (by simpa using hl);exact⟨Int.le_refl _,Int.le_refl _⟩,⟨ls[0],by simp,rfl⟩,⟨ls[0],by simp,rfl⟩⟩
  ·obtain⟨h1,⟨l2,hl2,h2⟩,⟨l3,hl3,h3⟩⟩:=ih (by omega) h0 i hi
   have hlen:=qg n ls k h0
   have e:(bG n ls (k+1)).getD i (0,0)=wid ((bG n ls k).getD i (0,0)) ((ls[k]).getD i 0):=by
    simp only[bG,fC,hg,h0,if_false]
    rw[xk (by simp;omega)]
    simp[hi]
   rw[e,ht]
   generalize (bG n ls k).getD i (0,0)=r at*
   simp only[wid]
   refine⟨fun l hl=>?_,?_,?_⟩
   ·rcases iE.1 hl with hl|hl
    ·have:=h1 l hl;omega
    ·obtain rfl:=dZ.1 hl;omega
   ·by_cases hc:r.1<=(ls[k]).getD i 0
    ·exact⟨l2,oN _ hl2,by omega⟩
    ·exact⟨ls[k],uF _ (dZ.2 rfl),by omega⟩
   ·by_cases hc:(ls[k]).getD i 0<=r.2
    ·exact⟨l3,oN _ hl3,by omega⟩
    ·exact⟨ls[k],uF _ (dZ.2 rfl),by omega⟩
theorem Qx {n:Nat} {ls:List (List Int)} (h:ls≠[]):(rZ n ls).length=n:=qg n ls _ (by cases ls <;>simp_all)
theorem Uz {n:Nat} {ls:List (List Int)} (h:ls≠[]) {i:Nat} (hi:i<n):
 (∀l∈ls,((rZ n ls).getD i (0,0)).1<=l.getD i 0/\l.getD i 0<=((rZ n ls).getD i (0,0)).2)/\
 (∃l∈ls,((rZ n ls).getD i (0,0)).1=l.getD i 0)/\(∃l∈ls,((rZ n ls).getD i (0,0)).2=l.getD i 0):=by
 have:=Qw n ls ls.length (ai _) (by cases ls <;>simp_all) i hi
 rwa [List.take_length] at this
structure VJ (s:jA):Prop where
 field:fU s.led.field true=0
 led:iQ s.led=0
 heap:wH s.heap=0
 ask:jJ.jm s.heap s.heap.turns=0
 keeps:jJ.oK s.heap s.heap.turns≠2
 bP:qC s.bP=0
 adn:jb s.bP true=0
theorem JO {s:jA}:bK s=0↔VJ s:=by
 unfold bK
 constructor
 ·intro h
  split at h;· omega
  split at h;· omega
  split at h;· omega
  split at h;· omega
  split at h;· omega
  split at h;· omega
  split at h;· omega
  rename_i a b c d e f g
  exact⟨by simpa using a,by simpa using b,by simpa using c,by simpa using d,e,by simpa using f,by simpa using g⟩
 ·rintro⟨a,b,c,d,e,f,g⟩
  simp[a,b,c,d,e,f,g]
theorem Nu:bK eG=0:=by decide+kernel
theorem acp (ls:List aF):fZ (fB bK eG ls).1/\VJ (fB bK eG ls).1:=⟨JZ _ IJ,JO.1 (Oz _ Nu)⟩
theorem Gz {ls:List aF} (h:eH ls=0):fZ (gu ls)/\VJ (gu ls):=by
 unfold gu
 rw[aC h]
 exact acp ls
theorem Ud {f:cZ} (h:fU f true=0): ∀r∈BX f,kN r.1/\kN r.2:=by
 intro r hr
 have hf:kz f=0:=by
  unfold fU at h
  split at h
  ·omega
  ·rename_i hq;simpa using hq
 unfold BX at hr
 obtain⟨i,_,rfl⟩:=iV.1 hr
 have:=LV (iI hf) (df f []) (i:Int) _ (ai _)
 exact⟨⟨by omega,by omega⟩,by omega,by omega⟩
theorem OY {l:aS} (h:iQ l=0):(nP l).length<=5/\ ∀i∈nP l,0<=i/\i<=4:=by
 obtain⟨hS,hp⟩:=qf h
 obtain⟨_,h2,_⟩:=OZ hp
 have hm:=hS.many
 refine⟨by have:=h2.len;omega,fun i hi=>?_⟩
 have:=((MN _ _).1 h2).2 i hi
 omega
theorem SA {l:aS} (h:gW l true=0): ∀r∈Ci oZ l (gy l),kN r.1/\kN r.2:=by
 intro r hr
 obtain⟨hS,hp⟩:=QC h
 obtain⟨i,hi,rfl⟩:=mF hr
 have hl:=VG hp oZ
 have ag9:=abg hp oZ (i:=i) (by omega)
 rw[xk hi] at ag9
 have key: ∀d∈gy l,jG l [] d=true-> -2000<=(oZ (d.getD i 0) ((kL l [] d).getD i (0,0))).1/\(oZ (d.getD i 0) ((kL l [] d).getD i (0,0))).2<=2000/\ -2000<=(oZ (d.getD i 0) ((kL l [] d).getD i (0,0))).2/\(oZ (d.getD i 0) ((kL l [] d).getD i (0,0))).1<=2000:=fun d hd hc=>by
  have hb:=OC hS hd hc (i:=i) (by omega)
  obtain⟨t,ht,rfl⟩:=Kw.1 hd
  have hF:=iI hS.field
  have hw:=hF.xH
  have hd2:=Il (rate:=l.rate) (by have:=hS.rate;omega) hS.rate.2 t (acm hS ht) i (by omega)
  unfold oZ
  simp only
  omega
 obtain⟨⟨⟨y,⟨d,hd,hc,rfl⟩,hy⟩,_⟩,⟨⟨z,⟨e,he,hce,rfl⟩,hz⟩,_⟩⟩:=ag9
 have k1:=key d hd hc
 have k2:=key e he hce
 exact⟨⟨by omega,by omega⟩,by omega,by omega⟩
theorem Hr {s:jA} (hG:fZ s) (hS:VJ s):(jJ.jW s.heap s.heap.turns).length=5/\kN ((jJ.jW s.heap s.heap.turns).getD 4 (0,0)).1/\kN ((jJ.jW s.heap s.heap.turns).getD 4 (0,0)).2:=by
 have hl:=hG.heap.1
 unfold jJ.jW
 rw[aC hS.ask,hl]
 have hne:jK s.heap s.heap.turns≠[]:=by
  have ha:=hS.ask
  unfold jJ.jm at ha
  split at ha;· omega
  split at ha;· omega
  split at ha;· omega
  rename_i hq
  exact TW (by cases hq2:dX s.heap [] <;>simp_all)
 have hb: ∀y∈jK s.heap s.heap.turns,0<=y.getD 4 0/\y.getD 4 0<=900:=fun y hy=>by
  obtain⟨t,ht,rfl⟩:=(GV _ _ _).1 hy
  have hSo:=Gn hS.heap
  obtain⟨a1,a2,a3⟩:=jJ.Bi hSo ht
  have hw:=hG.CY
  have hbd:=Py s.heap.turns hSo.Og hSo.Oe hSo.PZ hSo.PY a2.1 a2.2 a3 (by omega)
  by_cases h4:4<(lH s.heap t s.heap.turns).length
  ·rw[xk h4]
   exact hbd _ (bT _)
  ·rw[eY,List.getElem?_eq_none (by omega)]
   exact⟨by decide,by decide⟩
 obtain⟨_,⟨y,hy,e1⟩,⟨z,hz,e2⟩⟩:=Uz hne (n:=5) (i:=4) (by omega)
 have b1:=hb y hy
 have b2:=hb z hz
 refine⟨Qx hne,?_,?_⟩
 ·show kN ((rZ 5 (jK s.heap s.heap.turns)).getD 4 (0,0)).1
  rw[e1]
  exact⟨by omega,by omega⟩
 ·show kN ((rZ 5 (jK s.heap s.heap.turns)).getD 4 (0,0)).2
  rw[e2]
  exact⟨by omega,by omega⟩
theorem Ey (h:dn) (t:List Int):kN (jJ.oK h t):=by
 unfold jJ.oK
 split
 ·exact⟨by decide,by decide⟩
 ·split
  ·exact⟨by decide,by decide⟩
  ·split <;>exact⟨by decide,by decide⟩
theorem IA {c:bU} (h:jb c true=0): ∀r∈jF c,kN r.1/\kN r.2:=by
 intro r hr
 obtain⟨hS,h0,_⟩:=IM h
 unfold jF at hr
 obtain⟨i,hi,rfl⟩:=iV.1 hr
 have hi':=mD.1 hi
 have:=U6 hS mY h0 (i:=c.heaps.length+i) (by unfold nK;omega) _ (ai _)
 unfold Bo
 exact⟨⟨by omega,by omega⟩,by omega,by omega⟩
abbrev Uf:aF:=[100,111,110,101]
abbrev lvW:aF:=[108,101,97,118,101]
abbrev QW:aF:=[111,119,101,100]
abbrev Vm:aF:=[104,101,97,116]
abbrev Vl:aF:=[107,101,101,112,115,32]
abbrev Ce:aF:=[99,97,115,107]
def Zt (i:Int):aF:=32::Lib.itoa i
theorem U5: ∀l:List Int,(∀i∈l,0<=i/\i<=4)->(l.flatMap Zt).length<=12*l.length:=by
 intro l
 induction l with
 |nil=>intro _;simp
 |cons a l ih=>
  intro h
  have h2:=ih (fun i hi=>h i (by simp[hi]))
  have h3:=h a (by simp)
  have h4:=qV (n:=a) ⟨by omega,by omega⟩
  have h5:(Zt a).length=(Lib.itoa a).length+1:=rfl
  rw[List.flatMap_cons,dE,List.length_cons]
  omega
def GG (s:jA):aF:=if nP s.led=[] then(Ci oZ s.led (gy s.led)).flatMap (gY QW) else[]
def Ht (s:jA):aF:=gY Vm ((jJ.jW s.heap s.heap.turns).getD 4 (0,0))
def keepR (s:jA):aF:=Vl++Lib.itoa (jJ.oK s.heap s.heap.turns)++[10]
def oH (s:jA):aF:=
 (BX s.led.field).flatMap (gY Uf)++lvW++(nP s.led).flatMap Zt++[10]++GG s++Ht s++keepR s++(jF s.bP).flatMap (gY Ce)
def LZ (ls:List aF):aF:=if eH ls=0 then oH (gu ls) else[]
def amc (ls:List aF) (w:World) (e:Ending) (w':World):Prop:=Below w.heap.size w w'/\e= .returned (.tuple #[.string (dV (LZ ls)),iv (eH ls)])
structure Y5 (W3:World) (bs:aF) (W:World):Prop where
 below:Below W3.heap.size W3 W
 buf:Buf W3.heap.size W3.heap.size bs W
 lt:W3.heap.size<W.heap.size
 len:bs.length<=500000
theorem Y5.call {W3:World} {bs:aF} {W W':World} (h:Y5 W3 bs W) (hb:Below W.heap.size W W'):Y5 W3 bs W':=
 ⟨h.below.trans (hb.mono (by have:=h.lt;omega)),h.buf.below hb,fP h.lt hb.size,h.len⟩
theorem Y5.wrote {W3:World} {bs bs':aF} {W W':World} (h:Y5 W3 bs W) (hb:Buf W3.heap.size W3.heap.size bs' W') (hw:Wr W3.heap.size W W') (hl:bs'.length<=500000):Y5 W3 bs' W':=
 ⟨h.below.trans hw.below,hb,fP h.lt hw.size,hl⟩
theorem vY {α:Type} {l:List α} (f:α->aF) {k:Nat} (hk:k<l.length):(l.take (k+1)).flatMap f=(l.take k).flatMap f++f l[k]:=by
 rw[iy hk,vO,List.flatMap_cons,List.flatMap_nil,List.append_nil]
theorem UI (lv:Value) (ls:List aF) (w:World) (hls:iY w lv ls) (hE:Env w) (hln: ∀l∈ls,l.length<=1000000):Calls Tryz.prog 33 #[lv] w (amc ls w):=by
 have JC:=ae hls
 have HE:Hid (∀W,Below w.heap.size w W->Env W):=ae (fun W hb=>hE.below hb (ai _))
 have UZ:=ae hln
 have h4:=hE.size
 clear hls hE hln
 obtain⟨q,hq⟩: ∃q,eH ls=q:=⟨_,rfl⟩
 have HQ:=ae hq
 go_enter Tryz.func33,Tryz.ntmps33
 go_wp2_with fail
 refine(wO lv ls w (JC.o) (HE.o _ (aG _ _)) (UZ.o) [] (by simp)).mono ?_
 rintro e W2 ⟨hb2,V,es,cv,he,hX,hC⟩
 rw[hq] at he
 subst he
 obtain⟨co,cc,rfl⟩:=aT hC
 have hs2:=hb2.size
 have hS2:=hX W2 (Ext.refl _ _)
 rename_i hK
 refine hK _ _ ?_
 refine aN rfl _ (by go_simp;first|rfl|exact⟨rfl,rfl⟩) ?_
 simp only[zp]
 refine aN rfl _ (by go_simp;first|rfl|exact⟨rfl,rfl⟩) ?_
 simp only[zp]
 refine aN rfl _ (by go_simp;first|rfl|exact⟨rfl,rfl⟩) ?_
 simp only[zp]
 refine aN rfl _ (by go_simp;first|rfl|exact⟨rfl,rfl⟩) ?_
 simp only[zp]
 obtain⟨g,hg⟩: ∃g,g=W2.heap.size:=⟨_,rfl⟩
 refine aN rfl (w':=W2.alloc (.cells eu 46 (0,0))) (.pointer (some ⟨g,0,none⟩)) (by rw[hg];go_simp;try rfl) ?_
 simp only[zp]
 have hz2:(W2.alloc (.cells eu 46 (0,0))).heap[g]? =some (.cells eu 46 (0,0)):=by rw[hg];exact ay _ _
 refine wpList_store_row rfl _ _ _ rfl g (dD (gu ls) V) (by as_aux_lemma=>kernel_rfl) (by as_aux_lemma=>kernel_rfl) _ eu hz2 (by kernel_rfl) (by as_aux_lemma=>kernel_rfl) (by rw[nD];exact fun u hu=>iP hS2 u (nR.2 hu)) ?_
 simp only[zp]
 refine kC fun W3 hW3=>?_
 obtain⟨xB,kY⟩: ∃xB,xB=W2.alloc (.cells eu 46 (0,0)):=⟨_,rfl⟩
 rw[<-kY] at hW3 hz2
 have uJ:Ext [g] xB W3:=by rw[hW3];exact fK
 have hs3:=uJ.size
 have hs2':xB.heap.size=g+1:=by rw[kY,hg];simp
 have mV:Below W2.heap.size W2 W3:=jf (by rw[kY];exact ak (aG _ _) _) uJ (by omega)
 have hk3:W3.heap[g]? =some (.cells (dD (gu ls) V) 46 (0,0)):=by rw[hW3];exact setRow_heap _ _ _ _ _ _ hz2
 have hb3:=aX hb2 mV
 have hg3:w.heap.size<=g:=by omega
 have hgs:g<W3.heap.size:=by omega
 have H3:=ae (ag hb3 (ag hk3 (hS2.below mV (ai _))))
 clear hX hC hW3 kY uJ mV hb2 hS2 hz2 hK hs2 hs3 hs2' hg hb3
 clear hq
 obtain⟨vt,vn,vw,vu,vr,vh,vk,vs⟩:=V
 obtain⟨c3,f3,l3⟩:=af hk3
 by_cases hz:q=0
 rotate_left
 ·go_wp2_with fail
  go_returns
  have hqq:eH ls≠0:=by rw[HQ.o];exact hz
  have h1:LZ ls=[]:=by unfold LZ;rw[aj hqq]
  exact⟨H3.o.1,by rw[h1,HQ.o];simp⟩
 subst hz
 have jB:=ae (Gz HQ.o)
 have hrb:LZ ls=oH (gu ls):=by unfold LZ;rw[aC HQ.o]
 have NG:=ae hrb
 clear hrb
 generalize gu ls=s at*
 go_upto_region 5 with(fail)
 refine dH fun W4 FW=>?_
 have hr4:Y5 W3 [] W4:=by
  rw[FW]
  exact⟨(aG _ _).alloc (ai _) _,.inl ⟨ai _,.slice none 0 0,ay _ _,⟨rfl,.inl ⟨rfl,rfl⟩⟩,by simp[Value.ownBlock],fun q hq=>by cases hq⟩,by simp,by simp⟩
 have HR4:=ae hr4
 have HC:Hid (∀W,Below W3.heap.size W3 W->W.heap[g]? =some (.cells (dD s ⟨vt,vn,vw,vu,vr,vh,vk,vs⟩) 46 (0,0))):=ae (fun W hb=>(hb.block g hgs).trans hk3)
 have HST:Hid (∀W,Below W3.heap.size W3 W->oD W s ⟨vt,vn,vw,vu,vr,vh,vk,vs⟩ es):=ae (fun W hb=>H3.o.2.2.below hb (ai _))
 have YP:Hid (∀W,Below W3.heap.size W3 W->Env W):=ae (fun W hb=>HE.o W (aX H3.o.1 hb))
 clear FW hr4 hk3 c3 f3 l3
 obtain⟨c4,f4,l4⟩:=af (HC.o W4 HR4.o.below)
 go_wp2_with fail
 have HD:=ae (CZ s.led.field vt W4 (HST.o W4 HR4.o.below).uK)
 refine HD.o.mono ?_
 rintro e W5 ⟨hb5,⟨hne,rfl⟩|⟨_,dv,rfl,hdv⟩⟩
 ·exact absurd jB.o.2.field hne
 obtain⟨D,hD⟩: ∃D,BX s.led.field=D:=⟨_,rfl⟩
 have hDl:D.length=2:=by rw[<-hD,XL,jB.o.1.aO];rfl
 have HDS:Hid (∀r∈D,kN r.1/\kN r.2):=ae (by rw[<-hD];exact Ud jB.o.2.field)
 rw[hD] at hdv
 have HDE:=ae hD
 obtain⟨dO,dC,rfl⟩:=hdv.open
 have HR5:=ae (ag (HR4.o.call hb5) hdv)
 clear hb5 hdv hD c4 f4 l4
 go_wp2_with fail
 go_loopw [49] (fun i wr=> ∃k:Nat,k<=D.length/\i= .int .i64 k/\Y5 W3 (([]:aF)++(D.take k).flatMap (gY Uf)) wr/\aK 2 wr (.slice dO D.length dC) D.length (aH D)) (fun i _=>D.length-(intOf i).toNat)
 case atStart=>exact⟨0,bW _,rfl,by simpa using HR5.o.1,HR5.o.2⟩
 case round=>
  obtain⟨k,hk,rfl,hR,hL⟩:=hrel
  by_cases hlt:k<D.length
  ·obtain⟨lb,SY,rfl,hlb,d1,d2⟩:=bM.cell hL hlt
   obtain⟨x,hx⟩: ∃x,D[k]=x:=⟨_,rfl⟩
   rw[hx] at d1 d2
   have hsm:=HDS.o D[k] (bT hlt)
   rw[hx] at hsm
   have htf:([]:aF)++(D.take (k+1)).flatMap (gY Uf)=(([]:aF)++(D.take k).flatMap (gY Uf))++gY Uf x:=by rw[vY _ hlt,hx,nS]
   have hlen:(([]:aF)++(D.take (k+1)).flatMap (gY Uf)).length<=500000:=by
    have h1:=sF Uf (l:=D.take (k+1)) (fun r hr=>HDS.o r (oM hr))
    have h2:(D.take (k+1)).length<=10:=by rw[gX];omega
    rw[dE]
    have h3:(Uf:aF).length+26<=40:=by decide
    have h4:=Nat.mul_le_mul h3 h2
    have h5:=hDl
    have h6:(([]:aF)).length<=2000:=(by simp)
    omega
   have hR':=hR.call (ak (aG _ _) (.cells #[iv x.1,iv x.2] 26 (0,0)))
   have HW:=ae (sN W3.heap.size W3.heap.size _ Uf x _ hR'.buf (nz hR'.lt) (by omega) (YP.o _ hR'.below) hsm.1 hsm.2 (by have h1:=hR.len;have h2:(Uf:aF).length<=10:=(by decide);omega))
   have HX:=ae (ag hR' (ag hL (ag htf hlen)))
   clear hR hL htf hlen hR' hsm hx
   go_wp2_with fail
   refine HW.o.mono ?_
   rintro e W6 ⟨⟨v,rfl⟩,hbu,hwr⟩
   have Vx:=HX.o.1.wrote hbu hwr (by have:=HX.o.2.2.2;rwa [HX.o.2.2.1] at this)
   have hL6:=hwr.list (HX.o.2.1.alloc _) (BJ D)
   have H6:=ae (ag Vx hL6)
   clear hbu hwr Vx hL6
   go_wp2_with fail
   go_roundw
   case rel=>exact⟨k+1,by omega,by go_num,by rw[HX.o.2.2.1];exact H6.o.1,H6.o.2⟩
   case measure=>simp[intOf];omega
  ·have hkl:k=D.length:=by omega
   subst hkl
   rw[List.take_length] at hR
   have xY:=ae hR
   clear hR hL
   obtain⟨c6,f6,l6⟩:=af (HC.o wr xY.o.below)
   have hs1:(([]:aF)++D.flatMap (gY Uf)).length<=1000:=by
    have h1:=sF Uf HDS.o
    have h3:(Uf:aF).length+26<=40:=by decide
    have h4:=Nat.mul_le_mul h3 (show D.length<=2 by omega)
    simp only[List.nil_append]
    omega
   rw[List.nil_append] at xY hs1
   obtain⟨P1,hP1⟩: ∃P,D.flatMap (gY Uf)=P:=⟨_,rfl⟩
   rw[hP1] at xY hs1
   have Y6:=ae hP1
   clear hP1
   go_wp2_with fail
   refine(vV W3.heap.size W3.heap.size P1 lvW wr xY.o.buf (nz xY.o.lt) (by have:(lvW:aF).length=5:=rfl;omega)).mono ?_
   rintro e W7 ⟨⟨v7,rfl⟩,hb7,hw7⟩
   have HR7:=ae (xY.o.wrote hb7 hw7 (by rw[dE];have:(lvW:aF).length=5:=rfl;omega))
   clear hb7 hw7 c6 f6 l6
   obtain⟨c6,f6,l6⟩:=af (HC.o W7 HR7.o.below)
   go_wp2_with fail
   obtain⟨P2,hP2⟩: ∃P,P1++lvW=P:=⟨_,rfl⟩
   have hs2:P2.length<=1005:=by rw[<-hP2,dE];have:(lvW:aF).length=5:=rfl;omega
   rw[hP2] at HR7
   have HP2:=ae hP2
   clear hP2
   have HLV:=ae (Yz s.led vt vn W7 (HST.o W7 HR7.o.below).uK (HST.o W7 HR7.o.below).QX)
   refine HLV.o.mono ?_
   rintro e W8 ⟨hb8,⟨hne,rfl⟩|⟨_,v8,rfl,hv8⟩⟩
   ·exact absurd jB.o.2.led hne
   obtain⟨L,hL⟩: ∃L,nP s.led=L:=⟨_,rfl⟩
   have hLs:=OY jB.o.2.led
   rw[hL] at hv8 hLs
   have hL5:=hLs.1
   have afZ:=ae hLs.2
   have HLE:=ae hL
   obtain⟨lO,lC,rfl⟩:=hv8.open
   have HR8:=ae (ag (HR7.o.call hb8) hv8)
   clear hb8 hv8 hL hLs c6 f6 l6
   go_wp2_with fail
   go_loopw [69] (fun i wr=> ∃k:Nat,k<=L.length/\i= .int .i64 k/\Y5 W3 (P2++(L.take k).flatMap Zt) wr/\aK 1 wr (.slice lO L.length lC) L.length (ah L)) (fun i _=>L.length-(intOf i).toNat)
   case atStart=>exact⟨0,bW _,rfl,by simpa using HR8.o.1,HR8.o.2⟩
   case round=>
    obtain⟨k,hk,rfl,hR,hLL⟩:=hrel
    by_cases hlt:k<L.length
    ·obtain⟨lb,SY,rfl,hlb,d1⟩:=aP.cell hLL hlt
     obtain⟨x,hx⟩: ∃x,L[k]=x:=⟨_,rfl⟩
     rw[hx] at d1
     have hsm:=afZ.o L[k] (bT hlt)
     rw[hx] at hsm
     have hxs:kN x:=⟨by omega,by omega⟩
     have hil:=qV hxs
     obtain⟨s1,acL⟩: ∃s,Lib.itoa x=s:=⟨_,rfl⟩
     rw[acL] at hil
     have htf:P2++(L.take (k+1)).flatMap Zt=(P2++(L.take k).flatMap Zt)++(32::s1):=by
      rw[vY _ hlt,hx,nS]
      unfold Zt
      rw[acL]
     have hlen:(P2++(L.take (k+1)).flatMap Zt).length<=500000:=by
      have h2:=U5 (L.take (k+1)) (fun i hi=>afZ.o i (oM hi))
      have h3:(L.take (k+1)).length<=5:=by rw[gX];omega
      rw[dE]
      omega
     have a1:=fun W=>nH (P:=Tryz.prog) (a:=[32]) (b:=s1) rfl (by simp;omega) W
     have HX:=ae (ag hR (ag hLL (ag htf hlen)))
     have HIT:=ae (yF x hxs wr (YP.o _ hR.below))
     have HSX:=ae acL
     clear hR hLL htf hlen hsm hx acL hxs
     go_wp2_with fail
     refine HIT.o.mono ?_
     rintro e W9 ⟨rfl,rW⟩
     rw[HSX.o]
     have YM:=ae (HX.o.1.call rW)
     have HL9:=ae (HX.o.2.1.below rW (ai _))
     clear rW
     go_wp2_with fail
     refine(vV W3.heap.size W3.heap.size _ (32::s1) W9 YM.o.buf (nz YM.o.lt) (by have:=YM.o.len;have h9:(32::s1).length=s1.length+1:=rfl;omega)).mono ?_
     rintro e W6 ⟨⟨v,rfl⟩,hbu,hwr⟩
     have Vx:=YM.o.wrote hbu hwr (by have:=HX.o.2.2.2;rwa [HX.o.2.2.1] at this)
     have hL6:=hwr.list HL9.o (acI L)
     have H6:=ae (ag Vx hL6)
     clear hbu hwr Vx hL6
     go_wp2_with fail
     go_roundw
     case rel=>exact⟨k+1,by omega,by go_num,by rw[HX.o.2.2.1];exact H6.o.1,H6.o.2⟩
     case measure=>simp[intOf];omega
    ·have hkl:k=L.length:=by omega
     subst hkl
     rw[List.take_length] at hR
     have xY:=ae hR
     clear hR hLL
     obtain⟨P3,hP3⟩: ∃P,P2++L.flatMap Zt=P:=⟨_,rfl⟩
     have hs3:P3.length<=1065:=by
      rw[<-hP3,dE]
      have:=U5 L afZ.o
      omega
     rw[hP3] at xY
     have HP3:=ae hP3
     clear hP3
     go_wp2_with fail
     refine(vV W3.heap.size W3.heap.size P3 [10] wr xY.o.buf (nz xY.o.lt) (by have:([10]:aF).length=1:=rfl;omega)).mono ?_
     rintro e W8' ⟨⟨v,rfl⟩,hbu,hwr⟩
     obtain⟨P4,hP4⟩: ∃P,P3++[10]=P:=⟨_,rfl⟩
     have hs4:P4.length<=1066:=by rw[<-hP4,dE];have:([10]:aF).length=1:=rfl;omega
     rw[hP4] at hbu
     have YN:=ae (xY.o.wrote hbu hwr (by omega))
     have heq:oH s=P4++GG s++Ht s++keepR s++(jF s.bP).flatMap (gY Ce):=by
      unfold oH
      rw[HDE.o,HLE.o,Y6.o,HP2.o,HP3.o,hP4]
     have af6:=ae heq
     clear hbu hwr hP4 heq
     by_cases hL0:L.length=0
     ·have hLI:((L.length:Int)==0)=true:=by simp[hL0]
      have hL':L=[]:=kF hL0
      have ha:=IL jB.o.2.led (by rw[HLE.o];exact hL')
      have HA:=ae ha
      have ho:GG s=(Ci oZ s.led (gy s.led)).flatMap (gY QW):=by
       unfold GG
       rw[aC (by rw[HLE.o];exact hL')]
      obtain⟨O,hO⟩: ∃O,Ci oZ s.led (gy s.led)=O:=⟨_,rfl⟩
      have hO2:O.length=2:=by rw[<-hO,VG (QC ha).2 oZ,jB.o.1.aO];rfl
      have HOS:Hid (∀r∈O,kN r.1/\kN r.2):=ae (by rw[<-hO];exact SA ha)
      rw[hO] at ho
      have HOE:=ae hO
      have amv:=ae ho
      have Xo:=HST.o W8' YN.o.below
      have HOW:=ae (QM s.led vt vn W8' Xo.uK Xo.QX)
      obtain⟨c9,f9,l9⟩:=af (HC.o W8' YN.o.below)
      clear Xo hL' ha ho hO
      go_wp2_with fail
      refine HOW.o.mono ?_
      rintro e W7' ⟨hb,⟨hne,rfl⟩|⟨_,ov,rfl,hov⟩⟩
      ·exact absurd HA.o hne
      rw[HOE.o] at hov
      obtain⟨oO,oC,rfl⟩:=hov.open
      have afU:=ae (ag (YN.o.call hb) hov)
      clear hb hov c9 f9 l9
      go_wp2_with fail
      go_loopw [90] (fun i wr=> ∃k:Nat,k<=O.length/\i= .int .i64 k/\Y5 W3 (P4++(O.take k).flatMap (gY QW)) wr/\aK 2 wr (.slice oO O.length oC) O.length (aH O)) (fun i _=>O.length-(intOf i).toNat)
      case atStart=>exact⟨0,bW _,rfl,by simpa using afU.o.1,afU.o.2⟩
      case round=>
       obtain⟨k,hk,rfl,hR,hL⟩:=hrel
       by_cases hlt:k<O.length
       ·obtain⟨lb,SY,rfl,hlb,d1,d2⟩:=bM.cell hL hlt
        obtain⟨x,hx⟩: ∃x,O[k]=x:=⟨_,rfl⟩
        rw[hx] at d1 d2
        have hsm:=HOS.o O[k] (bT hlt)
        rw[hx] at hsm
        have htf:P4++(O.take (k+1)).flatMap (gY QW)=(P4++(O.take k).flatMap (gY QW))++gY QW x:=by rw[vY _ hlt,hx,nS]
        have hlen:(P4++(O.take (k+1)).flatMap (gY QW)).length<=500000:=by
         have h1:=sF QW (l:=O.take (k+1)) (fun r hr=>HOS.o r (oM hr))
         have h2:(O.take (k+1)).length<=10:=by rw[gX];omega
         rw[dE]
         have h3:(QW:aF).length+26<=40:=by decide
         have h4:=Nat.mul_le_mul h3 h2
         have h5:=hO2
         have h6:(P4).length<=2000:=(by omega)
         omega
        have hR':=hR.call (ak (aG _ _) (.cells #[iv x.1,iv x.2] 30 (0,0)))
        have HW:=ae (sN W3.heap.size W3.heap.size _ QW x _ hR'.buf (nz hR'.lt) (by omega) (YP.o _ hR'.below) hsm.1 hsm.2 (by have h1:=hR.len;have h2:(QW:aF).length<=10:=(by decide);omega))
        have HX:=ae (ag hR' (ag hL (ag htf hlen)))
        clear hR hL htf hlen hR' hsm hx
        go_wp2_with fail
        refine HW.o.mono ?_
        rintro e W6 ⟨⟨v,rfl⟩,hbu,hwr⟩
        have Vx:=HX.o.1.wrote hbu hwr (by have:=HX.o.2.2.2;rwa [HX.o.2.2.1] at this)
        have hL6:=hwr.list (HX.o.2.1.alloc _) (BJ O)
        have H6:=ae (ag Vx hL6)
        clear hbu hwr Vx hL6
        go_wp2_with fail
        go_roundw
        case rel=>exact⟨k+1,by omega,by go_num,by rw[HX.o.2.2.1];exact H6.o.1,H6.o.2⟩
        case measure=>simp[intOf];omega
       ·have hkl:k=O.length:=by omega
        subst hkl
        rw[List.take_length] at hR
        have xY:=ae hR
        clear hR hL
        have acK:(P4++O.flatMap (gY QW)).length<=1300:=by
         have h1:=sF QW HOS.o
         have h3:(QW:aF).length+26<=40:=by decide
         have h4:=Nat.mul_le_mul h3 (show O.length<=2 by omega)
         rw[dE]
         omega
        obtain⟨P4n,afj⟩: ∃P,P4++O.flatMap (gY QW)=P:=⟨_,rfl⟩
        have HEQ:Hid (oH s=P4n++Ht s++keepR s++(jF s.bP).flatMap (gY Ce)):=ae (by rw[af6.o,amv.o,afj])
        rw[afj] at xY acK
        clear afj hs4 af6 YN afU
        rename_i P4o
        obtain⟨W9,MV⟩: ∃W,W=wr:=⟨_,rfl⟩
        rw[<-MV] at xY
        rw[<-MV]
        have YM:=xY
        clear MV
        obtain⟨P4,aio⟩: ∃P,P=P4n:=⟨_,rfl⟩
        rw[<-aio] at xY acK HEQ YM
        clear aio
        obtain⟨c9,f9,l9⟩:=af (HC.o W9 YM.o.below)
        have uI:=HST.o W9 YM.o.below
        have NJ:=ae (jJ.I5 s.heap vw vu vr vu s.heap.turns W9 uI.bQ uI.Fj uI.Fv uI.Fj)
        clear uI
        go_wp2_with fail
        refine NJ.o.mono ?_
        rintro e FK ⟨bv,he,hbv,ry⟩
        rw[jB.o.2.ask] at he
        subst he
        obtain⟨zM,hB1,hB2⟩:=Hr jB.o.1 jB.o.2
        have hhr:Ht s=gY Vm ((jJ.jW s.heap s.heap.turns).getD 4 (0,0)):=rfl
        obtain⟨B,hB⟩: ∃B,jJ.jW s.heap s.heap.turns=B:=⟨_,rfl⟩
        rw[hB] at hbv zM hB1 hB2 hhr
        obtain⟨bO,bC,rfl⟩:=hbv.open
        obtain⟨lb,SY,rfl,hlb,d1,d2⟩:=bM.cell hbv (k:=4) (by omega)
        have hg4:B.getD 4 (0,0)=B[4]:=xk (by omega)
        rw[hg4] at hB1 hB2 hhr
        generalize B[4]=x at*
        have IV:=ae (YM.o.call ry)
        have hl4:s.heap.last=4:=jB.o.1.heap.1
        have HHR:=ae hhr
        clear hbv ry hB hhr c9 f9 l9 hg4
        obtain⟨c9,f9,l9⟩:=af (HC.o FK IV.o.below)
        rw[zM]
        have HW:=ae (fun W hE=>sN W3.heap.size W3.heap.size P4 Vm x W (IV.o.call hE).buf (nz (IV.o.call hE).lt) (by omega) (YP.o _ (IV.o.call hE).below) hB1 hB2 (by have h2:(Vm:aF).length<=10:=(by decide);omega))
        have hwl:=CX (word:=Vm) hB1 hB2
        clear hB1 hB2 zM
        go_wp2_with fail
        refine zg 15 [] none [] ?_
        simp only[zt]
        repeat ((first|refine zn ?_|refine zk ?_);simp only[zp])
        intro W hE hF
        have hbE:=hE.below
        clear hE hF
        go_wp2_with fail
        refine(HW.o W hbE).mono ?_
        rintro e W11 ⟨⟨v11,rfl⟩,hbu,hwr⟩
        obtain⟨P5,hP5⟩: ∃P,P4++gY Vm x=P:=⟨_,rfl⟩
        have hs5:P5.length<=1340:=by rw[<-hP5,dE];have:(Vm:aF).length=4:=rfl;omega
        rw[hP5] at hbu
        have UR:=ae ((IV.o.call hbE).wrote hbu hwr (by omega))
        have aaE:oH s=P5++keepR s++(jF s.bP).flatMap (gY Ce):=by rw[HEQ.o,HHR.o,hP5]
        have af5:=ae aaE
        clear hbu hwr hP5 aaE c9 f9 l9 hbE hwl d1 d2 hl4
        obtain⟨c9,f9,l9⟩:=af (HC.o W11 UR.o.below)
        have uI:=HST.o W11 UR.o.below
        have HKP:=ae (jJ.Ec s.heap vw vu vr vu s.heap.turns W11 uI.bQ uI.Fj uI.Fv uI.Fj)
        have hkr:keepR s=Vl++Lib.itoa (jJ.oK s.heap s.heap.turns)++[10]:=rfl
        have hks:=Ey s.heap s.heap.turns
        obtain⟨kq,hkq⟩: ∃k,jJ.oK s.heap s.heap.turns=k:=⟨_,rfl⟩
        rw[hkq] at hkr hks
        have HKQ:=ae hkq
        clear uI hkq
        go_wp2_with fail
        refine HKP.o.mono ?_
        rintro e Y4 ⟨he,TN⟩
        rw[HKQ.o,jB.o.2.ask] at he
        subst he
        have abH:=ae (UR.o.call TN)
        have hil:=qV hks
        have HIT:=ae (yF kq hks Y4 (YP.o _ abH.o.below))
        obtain⟨s2,TI⟩: ∃s,Lib.itoa kq=s:=⟨_,rfl⟩
        rw[TI] at hil hkr
        have HS2:=ae TI
        have HKR:=ae hkr
        have a1:=fun W=>nH (P:=Tryz.prog) (a:=Vl) (b:=s2) rfl (by have:(Vl:aF).length=6:=rfl;omega) W
        have a2:=fun W=>nH (P:=Tryz.prog) (a:=Vl++s2) (b:=[10]) rfl (by rw[dE];have:(Vl:aF).length=6:=rfl;have:([10]:aF).length=1:=rfl;omega) W
        clear TN hks TI hkr c9 f9 l9
        go_wp2_with fail
        refine HIT.o.mono ?_
        rintro e W13 ⟨rfl,MS⟩
        rw[HS2.o]
        have UQ:=ae (abH.o.call MS)
        clear MS
        go_wp2_with fail
        refine(vV W3.heap.size W3.heap.size P5 _ W13 UQ.o.buf (nz UQ.o.lt) (by simp;omega)).mono ?_
        rintro e VI ⟨⟨v14,rfl⟩,hbu,hwr⟩
        obtain⟨P6,YW⟩: ∃P,P5++keepR s=P:=⟨_,rfl⟩
        have hs6:P6.length<=1000+400:=by
         rw[<-YW,HKR.o,dE,dE,dE]
         have:(Vl:aF).length=6:=rfl
         have:([10]:aF).length=1:=rfl
         omega
        have aaJ:Buf W3.heap.size W3.heap.size P6 VI:=by
         rw[<-YW,HKR.o]
         simpa using hbu
        have UO:=ae (UQ.o.wrote aaJ hwr (by omega))
        have aaD:oH s=P6++(jF s.bP).flatMap (gY Ce):=by rw[af5.o,YW]
        have af4:=ae aaD
        clear hbu aaJ hwr YW aaD a1 a2
        obtain⟨c9,f9,l9⟩:=af (HC.o VI UO.o.below)
        have HCB:=ae (yE s.bP vh vk vs es VI (HST.o VI UO.o.below).bP)
        go_wp2_with fail
        refine HCB.o.mono ?_
        rintro e Yt ⟨aaM,⟨hne,rfl⟩|⟨_,akB,al1,rfl,hhv,hcv⟩⟩
        ·exact absurd jB.o.2.adn hne
        obtain⟨C,hC⟩: ∃C,jF s.bP=C:=⟨_,rfl⟩
        have hC3:C.length<=3:=by rw[<-hC];unfold jF;rw[lJ,List.length_range];exact jB.o.1.aQ
        have HCS:Hid (∀r∈C,kN r.1/\kN r.2):=ae (by rw[<-hC];exact IA jB.o.2.adn)
        rw[hC] at hcv
        have HCE:=ae hC
        obtain⟨hO,hCc,rfl⟩:=hhv.open
        obtain⟨cO,cC,rfl⟩:=hcv.open
        have abG:=ae (ag (UO.o.call aaM) hcv)
        clear aaM hhv hcv hC c9 f9 l9
        go_wp2_with fail
        go_loopw [149] (fun i wr=> ∃k:Nat,k<=C.length/\i= .int .i64 k/\Y5 W3 (P6++(C.take k).flatMap (gY Ce)) wr/\aK 2 wr (.slice cO C.length cC) C.length (aH C)) (fun i _=>C.length-(intOf i).toNat)
        case atStart=>exact⟨0,bW _,rfl,by simpa using abG.o.1,abG.o.2⟩
        case round=>
         obtain⟨k,hk,rfl,hR,hL⟩:=hrel
         by_cases hlt:k<C.length
         ·obtain⟨lb,SY,rfl,hlb,d1,d2⟩:=bM.cell hL hlt
          obtain⟨x,hx⟩: ∃x,C[k]=x:=⟨_,rfl⟩
          rw[hx] at d1 d2
          have hsm:=HCS.o C[k] (bT hlt)
          rw[hx] at hsm
          have htf:P6++(C.take (k+1)).flatMap (gY Ce)=(P6++(C.take k).flatMap (gY Ce))++gY Ce x:=by rw[vY _ hlt,hx,nS]
          have hlen:(P6++(C.take (k+1)).flatMap (gY Ce)).length<=500000:=by
           have h1:=sF Ce (l:=C.take (k+1)) (fun r hr=>HCS.o r (oM hr))
           have h2:(C.take (k+1)).length<=10:=by rw[gX];omega
           rw[dE]
           have h3:(Ce:aF).length+26<=40:=by decide
           have h4:=Nat.mul_le_mul h3 h2
           have h5:=hC3
           have h6:(P6).length<=2000:=(by omega)
           omega
          have hR':=hR.call (ak (aG _ _) (.cells #[iv x.1,iv x.2] 112 (0,0)))
          have HW:=ae (sN W3.heap.size W3.heap.size _ Ce x _ hR'.buf (nz hR'.lt) (by omega) (YP.o _ hR'.below) hsm.1 hsm.2 (by have h1:=hR.len;have h2:(Ce:aF).length<=10:=(by decide);omega))
          have HX:=ae (ag hR' (ag hL (ag htf hlen)))
          clear hR hL htf hlen hR' hsm hx
          go_wp2_with fail
          refine HW.o.mono ?_
          rintro e W6 ⟨⟨v,rfl⟩,hbu,hwr⟩
          have Vx:=HX.o.1.wrote hbu hwr (by have:=HX.o.2.2.2;rwa [HX.o.2.2.1] at this)
          have hL6:=hwr.list (HX.o.2.1.alloc _) (BJ C)
          have H6:=ae (ag Vx hL6)
          clear hbu hwr Vx hL6
          go_wp2_with fail
          go_roundw
          case rel=>exact⟨k+1,by omega,by go_num,by rw[HX.o.2.2.1];exact H6.o.1,H6.o.2⟩
          case measure=>simp[intOf];omega
         ·have hkl:k=C.length:=by omega
          subst hkl
          rw[List.take_length] at hR
          have xY:=ae hR
          clear hR hL
          obtain⟨P7,TP⟩: ∃P,P6++C.flatMap (gY Ce)=P:=⟨_,rfl⟩
          rw[TP] at xY
          have VS:Hid (LZ ls=P7):=ae (by rw[NG.o,af4.o,HCE.o,TP])
          clear TP
          go_wp2_with fail
          refine(Tryz.Builder_String_any_k W3.heap.size W3.heap.size P7 wr (Lib.IsBuilderF.of xY.o.buf.is) (nz xY.o.lt)).mono ?_
          rintro e W16 ⟨rfl,_,hb16,_⟩
          have agd:=ae (H3.o.1.trans ((xY.o.below.trans hb16).mono H3.o.1.size))
          clear hb16
          go_wp2_with fail
          go_returns
          exact⟨agd.o,by rw[VS.o,HQ.o];simp⟩
     ·have hLI:((L.length:Int)==0)=false:=by simp;exact fun h=>hL0 (by simp[h])
      have ho:GG s=[]:=by
       unfold GG
       rw[HLE.o,aj (fun h=>hL0 (by rw[h];rfl))]
      have HEQ:Hid (oH s=P4++Ht s++keepR s++(jF s.bP).flatMap (gY Ce)):=ae (by rw[af6.o,ho,List.append_nil])
      clear ho hL0
      have acK:P4.length<=1300:=by omega
      obtain⟨W9,MV⟩: ∃W,W=W8':=⟨_,rfl⟩
      rw[<-MV] at YN
      rw[<-MV]
      have YM:=YN
      clear MV
      obtain⟨c9,f9,l9⟩:=af (HC.o W9 YM.o.below)
      have uI:=HST.o W9 YM.o.below
      have NJ:=ae (jJ.I5 s.heap vw vu vr vu s.heap.turns W9 uI.bQ uI.Fj uI.Fv uI.Fj)
      clear uI
      go_wp2_with fail
      refine NJ.o.mono ?_
      rintro e FK ⟨bv,he,hbv,ry⟩
      rw[jB.o.2.ask] at he
      subst he
      obtain⟨zM,hB1,hB2⟩:=Hr jB.o.1 jB.o.2
      have hhr:Ht s=gY Vm ((jJ.jW s.heap s.heap.turns).getD 4 (0,0)):=rfl
      obtain⟨B,hB⟩: ∃B,jJ.jW s.heap s.heap.turns=B:=⟨_,rfl⟩
      rw[hB] at hbv zM hB1 hB2 hhr
      obtain⟨bO,bC,rfl⟩:=hbv.open
      obtain⟨lb,SY,rfl,hlb,d1,d2⟩:=bM.cell hbv (k:=4) (by omega)
      have hg4:B.getD 4 (0,0)=B[4]:=xk (by omega)
      rw[hg4] at hB1 hB2 hhr
      generalize B[4]=x at*
      have IV:=ae (YM.o.call ry)
      have hl4:s.heap.last=4:=jB.o.1.heap.1
      have HHR:=ae hhr
      clear hbv ry hB hhr c9 f9 l9 hg4
      obtain⟨c9,f9,l9⟩:=af (HC.o FK IV.o.below)
      rw[zM]
      have HW:=ae (fun W hE=>sN W3.heap.size W3.heap.size P4 Vm x W (IV.o.call hE).buf (nz (IV.o.call hE).lt) (by omega) (YP.o _ (IV.o.call hE).below) hB1 hB2 (by have h2:(Vm:aF).length<=10:=(by decide);omega))
      have hwl:=CX (word:=Vm) hB1 hB2
      clear hB1 hB2 zM
      go_wp2_with fail
      refine zg 15 [] none [] ?_
      simp only[zt]
      repeat ((first|refine zn ?_|refine zk ?_);simp only[zp])
      intro W hE hF
      have hbE:=hE.below
      clear hE hF
      go_wp2_with fail
      refine(HW.o W hbE).mono ?_
      rintro e W11 ⟨⟨v11,rfl⟩,hbu,hwr⟩
      obtain⟨P5,hP5⟩: ∃P,P4++gY Vm x=P:=⟨_,rfl⟩
      have hs5:P5.length<=1340:=by rw[<-hP5,dE];have:(Vm:aF).length=4:=rfl;omega
      rw[hP5] at hbu
      have UR:=ae ((IV.o.call hbE).wrote hbu hwr (by omega))
      have aaE:oH s=P5++keepR s++(jF s.bP).flatMap (gY Ce):=by rw[HEQ.o,HHR.o,hP5]
      have af5:=ae aaE
      clear hbu hwr hP5 aaE c9 f9 l9 hbE hwl d1 d2 hl4
      obtain⟨c9,f9,l9⟩:=af (HC.o W11 UR.o.below)
      have uI:=HST.o W11 UR.o.below
      have HKP:=ae (jJ.Ec s.heap vw vu vr vu s.heap.turns W11 uI.bQ uI.Fj uI.Fv uI.Fj)
      have hkr:keepR s=Vl++Lib.itoa (jJ.oK s.heap s.heap.turns)++[10]:=rfl
      have hks:=Ey s.heap s.heap.turns
      obtain⟨kq,hkq⟩: ∃k,jJ.oK s.heap s.heap.turns=k:=⟨_,rfl⟩
      rw[hkq] at hkr hks
      have HKQ:=ae hkq
      clear uI hkq
      go_wp2_with fail
      refine HKP.o.mono ?_
      rintro e Y4 ⟨he,TN⟩
      rw[HKQ.o,jB.o.2.ask] at he
      subst he
      have abH:=ae (UR.o.call TN)
      have hil:=qV hks
      have HIT:=ae (yF kq hks Y4 (YP.o _ abH.o.below))
      obtain⟨s2,TI⟩: ∃s,Lib.itoa kq=s:=⟨_,rfl⟩
      rw[TI] at hil hkr
      have HS2:=ae TI
      have HKR:=ae hkr
      have a1:=fun W=>nH (P:=Tryz.prog) (a:=Vl) (b:=s2) rfl (by have:(Vl:aF).length=6:=rfl;omega) W
      have a2:=fun W=>nH (P:=Tryz.prog) (a:=Vl++s2) (b:=[10]) rfl (by rw[dE];have:(Vl:aF).length=6:=rfl;have:([10]:aF).length=1:=rfl;omega) W
      clear TN hks TI hkr c9 f9 l9
      go_wp2_with fail
      refine HIT.o.mono ?_
      rintro e W13 ⟨rfl,MS⟩
      rw[HS2.o]
      have UQ:=ae (abH.o.call MS)
      clear MS
      go_wp2_with fail
      refine(vV W3.heap.size W3.heap.size P5 _ W13 UQ.o.buf (nz UQ.o.lt) (by simp;omega)).mono ?_
      rintro e VI ⟨⟨v14,rfl⟩,hbu,hwr⟩
      obtain⟨P6,YW⟩: ∃P,P5++keepR s=P:=⟨_,rfl⟩
      have hs6:P6.length<=1000+400:=by
       rw[<-YW,HKR.o,dE,dE,dE]
       have:(Vl:aF).length=6:=rfl
       have:([10]:aF).length=1:=rfl
       omega
      have aaJ:Buf W3.heap.size W3.heap.size P6 VI:=by
       rw[<-YW,HKR.o]
       simpa using hbu
      have UO:=ae (UQ.o.wrote aaJ hwr (by omega))
      have aaD:oH s=P6++(jF s.bP).flatMap (gY Ce):=by rw[af5.o,YW]
      have af4:=ae aaD
      clear hbu aaJ hwr YW aaD a1 a2
      obtain⟨c9,f9,l9⟩:=af (HC.o VI UO.o.below)
      have HCB:=ae (yE s.bP vh vk vs es VI (HST.o VI UO.o.below).bP)
      go_wp2_with fail
      refine HCB.o.mono ?_
      rintro e Yt ⟨aaM,⟨hne,rfl⟩|⟨_,akB,al1,rfl,hhv,hcv⟩⟩
      ·exact absurd jB.o.2.adn hne
      obtain⟨C,hC⟩: ∃C,jF s.bP=C:=⟨_,rfl⟩
      have hC3:C.length<=3:=by rw[<-hC];unfold jF;rw[lJ,List.length_range];exact jB.o.1.aQ
      have HCS:Hid (∀r∈C,kN r.1/\kN r.2):=ae (by rw[<-hC];exact IA jB.o.2.adn)
      rw[hC] at hcv
      have HCE:=ae hC
      obtain⟨hO,hCc,rfl⟩:=hhv.open
      obtain⟨cO,cC,rfl⟩:=hcv.open
      have abG:=ae (ag (UO.o.call aaM) hcv)
      clear aaM hhv hcv hC c9 f9 l9
      go_wp2_with fail
      go_loopw [149] (fun i wr=> ∃k:Nat,k<=C.length/\i= .int .i64 k/\Y5 W3 (P6++(C.take k).flatMap (gY Ce)) wr/\aK 2 wr (.slice cO C.length cC) C.length (aH C)) (fun i _=>C.length-(intOf i).toNat)
      case atStart=>exact⟨0,bW _,rfl,by simpa using abG.o.1,abG.o.2⟩
      case round=>
       obtain⟨k,hk,rfl,hR,hL⟩:=hrel
       by_cases hlt:k<C.length
       ·obtain⟨lb,SY,rfl,hlb,d1,d2⟩:=bM.cell hL hlt
        obtain⟨x,hx⟩: ∃x,C[k]=x:=⟨_,rfl⟩
        rw[hx] at d1 d2
        have hsm:=HCS.o C[k] (bT hlt)
        rw[hx] at hsm
        have htf:P6++(C.take (k+1)).flatMap (gY Ce)=(P6++(C.take k).flatMap (gY Ce))++gY Ce x:=by rw[vY _ hlt,hx,nS]
        have hlen:(P6++(C.take (k+1)).flatMap (gY Ce)).length<=500000:=by
         have h1:=sF Ce (l:=C.take (k+1)) (fun r hr=>HCS.o r (oM hr))
         have h2:(C.take (k+1)).length<=10:=by rw[gX];omega
         rw[dE]
         have h3:(Ce:aF).length+26<=40:=by decide
         have h4:=Nat.mul_le_mul h3 h2
         have h5:=hC3
         have h6:(P6).length<=2000:=(by omega)
         omega
        have hR':=hR.call (ak (aG _ _) (.cells #[iv x.1,iv x.2] 112 (0,0)))
        have HW:=ae (sN W3.heap.size W3.heap.size _ Ce x _ hR'.buf (nz hR'.lt) (by omega) (YP.o _ hR'.below) hsm.1 hsm.2 (by have h1:=hR.len;have h2:(Ce:aF).length<=10:=(by decide);omega))
        have HX:=ae (ag hR' (ag hL (ag htf hlen)))
        clear hR hL htf hlen hR' hsm hx
        go_wp2_with fail
        refine HW.o.mono ?_
        rintro e W6 ⟨⟨v,rfl⟩,hbu,hwr⟩
        have Vx:=HX.o.1.wrote hbu hwr (by have:=HX.o.2.2.2;rwa [HX.o.2.2.1] at this)
        have hL6:=hwr.list (HX.o.2.1.alloc _) (BJ C)
        have H6:=ae (ag Vx hL6)
        clear hbu hwr Vx hL6
        go_wp2_with fail
        go_roundw
        case rel=>exact⟨k+1,by omega,by go_num,by rw[HX.o.2.2.1];exact H6.o.1,H6.o.2⟩
        case measure=>simp[intOf];omega
       ·have hkl:k=C.length:=by omega
        subst hkl
        rw[List.take_length] at hR
        have xY:=ae hR
        clear hR hL
        obtain⟨P7,TP⟩: ∃P,P6++C.flatMap (gY Ce)=P:=⟨_,rfl⟩
        rw[TP] at xY
        have VS:Hid (LZ ls=P7):=ae (by rw[NG.o,af4.o,HCE.o,TP])
        clear TP
        go_wp2_with fail
        refine(Tryz.Builder_String_any_k W3.heap.size W3.heap.size P7 wr (Lib.IsBuilderF.of xY.o.buf.is) (nz xY.o.lt)).mono ?_
        rintro e W16 ⟨rfl,_,hb16,_⟩
        have agd:=ae (H3.o.1.trans ((xY.o.below.trans hb16).mono H3.o.1.size))
        clear hb16
        go_wp2_with fail
        go_returns
        exact⟨agd.o,by rw[VS.o,HQ.o];simp⟩
def dgF:Nat->Nat->aF
 |0,_=>[]
 |f+1,n=>if n<10 then[D7 n] else dgF f (n/10)++[D7 (n%10)]
theorem aa6: ∀(f n:Nat),n<f->Lib.decDigits n=dgF f n:=by
 intro f
 induction f with
 |zero=>intro n h;omega
 |succ f ih=>
  intro n h
  unfold dgF
  by_cases hn:n<10
  ·rw[lg hn,aC hn]
  ·rw[xu hn,aj hn,ih (n/10) (by omega)]
def KG (n:Int):aF:=if n<0 then 45::dgF (n.natAbs+1) n.natAbs else dgF (n.toNat+1) n.toNat
theorem BK (n:Int):Lib.itoa n=KG n:=by
 unfold Lib.itoa KG
 rw[aa6 _ _ (Nat.lt_succ_self _),aa6 _ _ (Nat.lt_succ_self _)]
def JI (word:aF) (r:dY):aF:=word++[32]++KG r.1++[46,46]++KG r.2++[10]
theorem Zd (word:aF):gY word=JI word:=by
 funext r
 unfold gY JI
 rw[BK,BK]
def spF (i:Int):aF:=32::KG i
def LY (s:jA):aF:=
 (BX s.led.field).flatMap (JI Uf)++lvW++(nP s.led).flatMap spF++[10]++(if nP s.led=[] then(Ci oZ s.led (gy s.led)).flatMap (JI QW) else[])
   ++JI Vm ((jJ.jW s.heap s.heap.turns).getD 4 (0,0))++(Vl++KG (jJ.oK s.heap s.heap.turns)++[10])++(jF s.bP).flatMap (JI Ce)
theorem aet:Zt=spF:=by
 funext i
 unfold Zt spF
 rw[BK]
theorem RS (s:jA):oH s=LY s:=by
 unfold oH LY GG Ht keepR
 simp only[Zd,BK,aet]
def jY:List aF:=[[114,111,119],
 [108,101,102,116,32,48,32,48],
 [116,97,108,108,121,32,48,32,48,32,50,32,50,32,51],
 [116,97,108,108,121,32,49,32,50,32,51,32,49,32,50],
 [98,111,120,32,50,48,32,50,50],
 [110,111,116,101,32,48,32,49,48,32,49,53],
 [116,117,114,110,32,51],
 [119,101,116,32,49,32,56,32,57],
 [105,114,111,110,32,49,32,52,52,32,48],
 [99,97,115,107,32,48,32,49,48],
 [104,101,97,112,32,54,48,32,54,51],
 [102,105,108,108,32,48,32,49,32,49,48],
 [116,114,121,32,48,32,53,49,32,53,50]]
def rQ:List aF:=[[119,97,115,104,32,49,32,52,32,53],
 [116,117,114,110,32,51],
 [114,97,116,101,32,48,53]]
def agM:aF:=[100,111,110,101,32,50,46,46,51,10,100,111,110,101,32,49,46,46,50,10,108,101,97,118,101,10,111,119,101,100,32,53,46,46,50,48,10,111,119,101,100,32,48,46,46,49,53,10,104,101,97,116,32,51,55,46,46,51,55,10,107,101,101,112,115,32,49,10,99,97,115,107,32,53,49,46,46,53,49,10]
theorem VV:(fB bK eG (jY++rQ)).2=[0,0,0,0,0,0,0,0,0,0,0,0,0,2,6,4]:=by decide+kernel
theorem sQ:eH jY=0/\eH (jY++rQ)=0:=by decide+kernel
theorem JG:J8 jY=0/\J9 jY=[(5,20),(0,15)]:=by decide+kernel
theorem JF:JK jY=0/\JL jY=[0]:=by decide+kernel
theorem Zc:LY (fB bK eG jY).1=agM:=by decide+kernel
end Go.Proofs.YthbpmepjmebolaaGreatDoor.Bk
end
section
namespace Go.Proofs.YthbpmepjmebolaaGreatDoor.Bk
open Go.Lib Go.RowKit Go.RG Go.SL Go.Shelf jC Go.TB Go.Proofs.YthbpmepjmebolaaGreatDoor.Be
theorem Aq (l:List Int) (v u:Value) (w:World) (h:aP w v l) (k:aP w u l):Calls Tryz.prog 35 #[v,u] w (PV (.bool true) w):=by
 obtain⟨o1,q1,rfl⟩:=aK.open h
 obtain⟨o2,q2,rfl⟩:=aK.open k
 have hl1:=h.len
 have HH:=ae (ag h k)
 clear h k
 have hne:((l.length:Int) !=(l.length:Int))=false:=by simp
 go_enter Tryz.func35,Tryz.ntmps35
 go_wp2_with fail
 go_loopw [5] (fun i wr=> ∃k:Nat,k<=l.length/\i= .int .i64 k/\Below w.heap.size w wr) (fun i _=>l.length-(intOf i).toNat)
 case atStart=>exact⟨0,bW _,rfl,aG _ _⟩
 case round=>
  obtain⟨k,hk,rfl,hB⟩:=hrel
  by_cases hlt:k<l.length
  ·obtain⟨g1,f1,e1,r1,c1⟩:=aP.cell (HH.o.1.below hB (ai _)) hlt
   obtain⟨g2,f2,e2,r2,c2⟩:=aP.cell (HH.o.2.below hB (ai _)) hlt
   generalize l[k]=x at*
   have HX:=ae hB
   have xR:(k:Int)<l.length:=by omega
   cases e1
   cases e2
   clear hB
   have hnb:(x !=x)=false:=by simp
   have hnc:(x==x)=true:=by simp
   go_wp2_with fail
   go_region
   all_goals go_wp2_with fail
   all_goals go_roundw
   all_goals first
    |exact⟨k+1,by omega,by go_num,iq HX.o⟩
    |(simp[intOf];omega)
  ·have HR:=ae hB
   clear hB
   go_wp2_with fail
   go_returns
   exact⟨rfl,HR.o⟩
theorem XT (l:List Int) (v u:Value) (w:World) (h:aP w v l) (k:aP w u l):Calls Tryz.prog 36 #[v,u] w (PV (.bool true) w):=by
 obtain⟨o1,q1,rfl⟩:=aK.open h
 obtain⟨o2,q2,rfl⟩:=aK.open k
 have hl1:=h.len
 have HH:=ae (ag h k)
 clear h k
 have hne:((l.length:Int) !=(l.length:Int))=false:=by simp
 go_enter Tryz.func36,Tryz.ntmps36
 go_wp2_with fail
 go_loopw [5] (fun i wr=> ∃k:Nat,k<=l.length/\i= .int .i64 k/\Below w.heap.size w wr) (fun i _=>l.length-(intOf i).toNat)
 case atStart=>exact⟨0,bW _,rfl,aG _ _⟩
 case round=>
  obtain⟨k,hk,rfl,hB⟩:=hrel
  by_cases hlt:k<l.length
  ·obtain⟨g1,f1,e1,r1,c1⟩:=aP.cell (HH.o.1.below hB (ai _)) hlt
   obtain⟨g2,f2,e2,r2,c2⟩:=aP.cell (HH.o.2.below hB (ai _)) hlt
   generalize l[k]=x at*
   have HX:=ae hB
   have xR:(k:Int)<l.length:=by omega
   cases e1
   cases e2
   clear hB
   have hnb:(x !=x)=false:=by simp
   have hnc:(x==x)=true:=by simp
   go_wp2_with fail
   go_region
   all_goals go_wp2_with fail
   all_goals go_roundw
   all_goals first
    |exact⟨k+1,by omega,by go_num,iq HX.o⟩
    |(simp[intOf];omega)
  ·have HR:=ae hB
   clear hB
   go_wp2_with fail
   go_returns
   exact⟨rfl,HR.o⟩
theorem sG {w W1:World} {A B:Array Value} {t:TypeId} (h:W1=(w.alloc (.cells A t)).alloc (.cells B t)):
 Below w.heap.size w W1/\W1.heap[w.heap.size]? =some (.cells A t (0,0))/\W1.heap[w.heap.size+1]? =some (.cells B t (0,0))/\W1.heap.size=w.heap.size+2:=by
 subst h
 exact⟨ak (ak (aG _ _) _) _,(aW _ _ _ (by simp)).trans (ay _ _),ed _ _ _,by simp⟩
theorem Gh {w W1:World} {A B:Array Value} {t:TypeId} (h:W1=((w.alloc (.cells A t)).alloc (.cells B t)).drew):
 Below w.heap.size w W1/\W1.heap[w.heap.size]? =some (.cells A t (0,0))/\W1.heap[w.heap.size+1]? =some (.cells B t (0,0))/\W1.heap.size=w.heap.size+2:=by
 obtain⟨h1,h2,h3,h4⟩:=sG (w:=w) (A:=A) (B:=B) (t:=t) rfl
 subst h
 exact⟨iq h1,h2,h3,h4⟩
theorem TU (s t:jA) (V U:SV) (w:World) (hs:dJ w V.uK s.led.field.au) (ht:dJ w U.uK t.led.field.au) (he:t.led.field=s.led.field):
 Calls Tryz.prog 21 #[.agg (dD s V),.agg (dD t U)] w (PV (.bool true) w):=by
 obtain⟨vt,vn,vw,vu,vr,vh,vk,vs⟩:=V
 obtain⟨ut,un,uw,uu,ur,uh,uk,us⟩:=U
 obtain⟨⟨f,lr,lb,ln⟩,h,c⟩:=s
 obtain⟨⟨f2,mr,mb,mn⟩,h2,c2⟩:=t
 simp only at he hs ht
 subst he
 obtain⟨n,m,⟨l0,l1⟩,T⟩:=f2
 simp only at hs ht
 obtain⟨tO,tc,rfl⟩:=aK.open hs
 obtain⟨uo,uc,rfl⟩:=aK.open ht
 have hl:=hs.len
 have HH:=ae (ag hs ht)
 clear hs ht
 go_enter Tryz.func21,Tryz.ntmps21
 go_upto_region 1 with(fail)
 refine dH fun W1 hW1=>?_
 obtain⟨hb1,k1,k2,hz1⟩:=sG hW1
 obtain⟨c1,f1,l1'⟩:=af k1
 obtain⟨c2',f2',l2'⟩:=af k2
 have HB1:=ae hb1
 clear hb1 hW1 k1 k2
 go_region
 all_goals
  go_upto_region 2 with(fail)
  refine dH fun W2 hW2=>?_
  obtain⟨hb2,k5,k6,hz2⟩:=Gh hW2
  rw[hz1] at hz2
  rw[hz1] at k5 k6
  have HB2:=ae (aX HB1.o hb2)
  have HK:=ae (ag k5 k6)
  obtain⟨c5,f5,l5⟩:=af k5
  obtain⟨c6,f6,l6⟩:=af k6
  clear hW2 c1 f1 l1' c2' f2' l2' hb2 k5 k6
  go_wp2_with fail
  go_loopw [7] (fun i wr=> ∃k:Nat,k<=(T).length/\i= .int .i64 k/\Below W2.heap.size W2 wr) (fun i _=>(T).length-(intOf i).toNat)
  case atStart=>exact⟨0,bW _,rfl,aG _ _⟩
  case round=>
   obtain⟨k,hk,rfl,hB⟩:=hrel
   obtain⟨c7,f7,l7⟩:=af ((hB.block _ l5).trans HK.o.1)
   obtain⟨c8,f8,l8⟩:=af ((hB.block _ l6).trans HK.o.2)
   by_cases hlt:k<(T).length
   ·obtain⟨g1,o1,e1,r1,x1,x2,x3,x4,x5⟩:=dJ.cell (HH.o.1.below (aX HB2.o hB) (ai _)) hlt
    obtain⟨g2,o2,e2,r2,y1,y2,y3,y4,y5⟩:=dJ.cell (HH.o.2.below (aX HB2.o hB) (ai _)) hlt
    generalize (T)[k]=x at*
    have HX:=ae hB
    have xR:(k:Int)<(T).length:=by omega
    cases e1
    cases e2
    clear hB
    go_wp2_with fail
    go_region
    all_goals go_wp2_with fail
    all_goals go_roundw
    all_goals first
     |exact⟨k+1,by omega,by go_num,iq HX.o⟩
     |(simp[intOf];omega)
   ·skip
    have HZ:=ae (aX HB2.o hB)
    have hkl:k=(T).length:=by omega
    clear hB
    go_wp2_with fail
    go_returns
    exact⟨rfl,HZ.o⟩
theorem VY (l m:aS) (tv nv sv mv:Value) (w:World) (hn:bD w nv l.notes) (hm:bD w mv m.notes) (hr:m.rate=l.rate) (hb:m.box=l.box) (he:m.notes=l.notes):
 Calls Tryz.prog 22 #[lv l tv nv,lv m sv mv] w (PV (.bool true) w):=by
 obtain⟨f,rt,⟨b0,b1⟩,N⟩:=l
 obtain⟨f2,rt2,bx2,N2⟩:=m
 simp only at hr hb he hn hm
 subst hr hb he
 obtain⟨no,nc,rfl⟩:=aK.open hn
 obtain⟨mo,mc,rfl⟩:=aK.open hm
 have hl:=hn.len
 have HH:=ae (ag hn hm)
 clear hn hm
 go_enter Tryz.func22,Tryz.ntmps22
 go_upto_region 1 with(fail)
 refine dH fun W1 hW1=>?_
 obtain⟨hb1,k1,k2,hz1⟩:=sG hW1
 obtain⟨c1,f1,l1⟩:=af k1
 obtain⟨c2,f2',l2⟩:=af k2
 have HB1:=ae hb1
 have HK:=ae (ag k1 k2)
 clear hb1 hW1 k1 k2
 go_wp2_with fail
 go_loopw [5] (fun i wr=> ∃k:Nat,k<=(N2).length/\i= .int .i64 k/\Below W1.heap.size W1 wr) (fun i _=>(N2).length-(intOf i).toNat)
 case atStart=>exact⟨0,bW _,rfl,aG _ _⟩
 case round=>
  obtain⟨k,hk,rfl,hB⟩:=hrel
  obtain⟨c7,f7,l7⟩:=af ((hB.block _ l1).trans HK.o.1)
  obtain⟨c8,f8,l8⟩:=af ((hB.block _ l2).trans HK.o.2)
  by_cases hlt:k<(N2).length
  ·obtain⟨g1,o1,e1,r1,x1,x2,x3⟩:=bD.cell (HH.o.1.below (aX HB1.o hB) (ai _)) hlt
   obtain⟨g2,o2,e2,r2,y1,y2,y3⟩:=bD.cell (HH.o.2.below (aX HB1.o hB) (ai _)) hlt
   generalize (N2)[k]=x at*
   have HX:=ae hB
   have xR:(k:Int)<(N2).length:=by omega
   cases e1
   cases e2
   clear hB
   go_wp2_with fail
   go_region
   all_goals go_wp2_with fail
   all_goals go_roundw
   all_goals first
    |exact⟨k+1,by omega,by go_num,iq HX.o⟩
    |(simp[intOf];omega)
  ·skip
   have HZ:=ae (aX HB1.o hB)
   have hkl:k=(N2).length:=by omega
   clear hB
   go_wp2_with fail
   go_returns
   exact⟨rfl,HZ.o⟩
theorem Xv (h:dn) (wv tv xv uv' sv yv:Value) (w:World) (hw:bM w wv h.bQ) (ht:aP w tv h.turns) (hx:bD w xv h.readings) (hu:bM w uv' h.bQ) (hs:aP w sv h.turns) (hy:bD w yv h.readings):
 Calls Tryz.prog 23 #[jJ.hv h wv tv xv,jJ.hv h uv' sv yv] w (PV (.bool true) w):=by
 obtain⟨la,si,co,di,bu,⟨s0,s1⟩,bQ,Fj,Fv⟩:=h
 simp only at hw ht hx hu hs hy
 obtain⟨wo,wc,rfl⟩:=aK.open hw
 obtain⟨tO,tc,rfl⟩:=aK.open ht
 obtain⟨xo,xc,rfl⟩:=aK.open hx
 obtain⟨uo,uc,rfl⟩:=aK.open hu
 obtain⟨so,sc,rfl⟩:=aK.open hs
 obtain⟨yo,yc,rfl⟩:=aK.open hy
 have hlw:=hw.len
 have hlx:=hx.len
 have HH:=ae (ag hw (ag hu (ag hx (ag hy (ag ht hs)))))
 clear hw ht hx hu hs hy
 go_enter Tryz.func23,Tryz.ntmps23
 go_upto_region 1 with(fail)
 refine dH fun W1 hW1=>?_
 obtain⟨hb1,k1,k2,hz1⟩:=sG hW1
 obtain⟨c1,f1,l1⟩:=af k1
 obtain⟨c2,f2',l2⟩:=af k2
 have HB1:=ae hb1
 have HK:=ae (ag k1 k2)
 clear hb1 hW1 k1 k2
 go_wp2_with fail
 refine(Aq Fj _ _ W1 (HH.o.2.2.2.2.1.below HB1.o (ai _)) (HH.o.2.2.2.2.2.below HB1.o (ai _))).mono ?_
 rintro e W2 ⟨rfl,hb2⟩
 have k5:=(hb2.block _ l1).trans HK.o.1
 have k6:=(hb2.block _ l2).trans HK.o.2
 obtain⟨c5,f5,l5⟩:=af k5
 obtain⟨c6,f6,l6⟩:=af k6
 have HB2:=ae (aX HB1.o hb2)
 have NM:=ae (ag k5 k6)
 clear hb2 k5 k6 c1 f1 c2 f2'
 go_wp2_with fail
 go_loopw [5] (fun i wr=> ∃k:Nat,k<=(bQ).length/\i= .int .i64 k/\Below W2.heap.size W2 wr) (fun i _=>(bQ).length-(intOf i).toNat)
 case atStart=>exact⟨0,bW _,rfl,aG _ _⟩
 case round=>
  obtain⟨k,hk,rfl,hB⟩:=hrel
  obtain⟨c7,f7,l7⟩:=af ((hB.block _ l5).trans NM.o.1)
  obtain⟨c8,f8,l8⟩:=af ((hB.block _ l6).trans NM.o.2)
  by_cases hlt:k<(bQ).length
  ·obtain⟨g1,o1,e1,r1,x1,x2⟩:=bM.cell (HH.o.1.below (aX HB2.o hB) (ai _)) hlt
   obtain⟨g2,o2,e2,r2,y1,y2⟩:=bM.cell (HH.o.2.1.below (aX HB2.o hB) (ai _)) hlt
   generalize (bQ)[k]=x at*
   have HX:=ae hB
   have xR:(k:Int)<(bQ).length:=by omega
   cases e1
   cases e2
   clear hB
   go_wp2_with fail
   go_region
   all_goals go_wp2_with fail
   all_goals go_roundw
   all_goals first
    |exact⟨k+1,by omega,by go_num,iq HX.o⟩
    |(simp[intOf];omega)
  ·have k9:=(hB.block _ l5).trans NM.o.1
   have k10:=(hB.block _ l6).trans NM.o.2
   have HB3:=ae (aX HB2.o hB)
   generalize wr=W3 at*
   have CW:=ae (ag k9 k10)
   clear hB k9 k10
   go_wp2_with fail
   go_loopw [6] (fun i wr=> ∃k:Nat,k<=(Fv).length/\i= .int .i64 k/\Below W3.heap.size W3 wr) (fun i _=>(Fv).length-(intOf i).toNat)
   case atStart=>exact⟨0,bW _,rfl,aG _ _⟩
   case round=>
    obtain⟨k,hk,rfl,hB⟩:=hrel
    obtain⟨c7,f7,l7⟩:=af ((hB.block _ l7).trans CW.o.1)
    obtain⟨c8,f8,l8⟩:=af ((hB.block _ l8).trans CW.o.2)
    by_cases hlt:k<(Fv).length
    ·obtain⟨g1,o1,e1,r1,x1,x2,x3⟩:=bD.cell (HH.o.2.2.1.below (aX HB3.o hB) (ai _)) hlt
     obtain⟨g2,o2,e2,r2,y1,y2,y3⟩:=bD.cell (HH.o.2.2.2.1.below (aX HB3.o hB) (ai _)) hlt
     generalize (Fv)[k]=x at*
     have HX:=ae hB
     have xR:(k:Int)<(Fv).length:=by omega
     cases e1
     cases e2
     clear hB
     go_wp2_with fail
     go_region
     all_goals go_wp2_with fail
     all_goals go_roundw
     all_goals first
      |exact⟨k+1,by omega,by go_num,iq HX.o⟩
      |(simp[intOf];omega)
    ·skip
     have HZ:=ae (aX HB3.o hB)
     have hkl:k=(Fv).length:=by omega
     clear hB
     go_wp2_with fail
     go_returns
     exact⟨rfl,HZ.o⟩
theorem sZ (ls:List aF): ∀u∈aZ ls,u.oneCell'=true:=fun u hu=>by
 obtain⟨x,_,rfl⟩:=iV.1 hu
 rfl
def Fg (ls:List aF) (w:World) (e:Ending) (w':World):Prop:= ∃o c,e= .returned (.slice o ls.length c)/\w'.ownsRow w.heap.size 9 1 (.slice o ls.length c) ls.length (aZ ls)/\Below w.heap.size w w'
theorem Ap (ls:List aF) (v:Value) (w:World) (hv:iY w v ls) (hl:ls.length*16<=140737488355328):Calls Tryz.prog 14 #[v] w (Fg ls w):=by
 obtain⟨lo,lc,rfl⟩:=aK.open hv
 have HV:=ae hv
 clear hv
 go_enter Tryz.func14,Tryz.ntmps14
 go_wp2_with (at_builtin;go_loud (refine dF rfl _ _ Bj rfl w.heap.size (.slice (some ⟨w.heap.size,0,none⟩) 0 0) 0 [] rfl (iF (cs:= #[]) (n:=0) (ay _ _) rfl (ai _) (by decide)) (.slice lo ls.length lc) (ls).length (aZ (ls)) rfl (aK.alloc (HV.o) _) (sZ (ls)) (by omega) (by omega) (by simp) ?_))
 intro v' W2 hown hgr _
 (try rw[Nat.zero_add] at hown)
 (try rw[List.nil_append] at hown)
 obtain⟨o2,c2,rfl⟩:=aT hown
 have hB2:Below w.heap.size w W2:=Below.grown (ak (aG _ _) _) hgr (by simp) (fun g e=>by simp[Value.ownBlock] at e;omega)
 have HC2:=ae (ag hB2 hown)
 have hz2:=hB2.size
 clear hown hgr hB2
 go_wp2_with fail
 go_returns
 exact⟨_,_,rfl,HC2.o.2,HC2.o.1⟩
theorem NQ (ls:List aF) (v:Value) (w:World) (hv:iY w v ls) (hl:ls.length<=1000):Calls Tryz.prog 31 #[v] w (Fg (jY++ls) w):=by
 obtain⟨lo,lc,rfl⟩:=aK.open hv
 have HV:=ae hv
 clear hv
 have ahD:jY.length=13:=rfl
 have HYL:Hid ((jY++ls).length=13+ls.length):=ae (by rw[dE,ahD])
 have HYC:Hid (aZ jY++aZ ls=aZ (jY++ls)):=ae (by simp[aZ])
 clear ahD
 go_enter Tryz.func31,Tryz.ntmps31
 go_wp2_with (at_builtin;go_loud (refine dF rfl _ _ Bj rfl w.heap.size (.slice (some ⟨w.heap.size,0,none⟩) 13 13) 13 (aZ jY) rfl (iF (cs:=(aZ jY).toArray) (n:=13) (ay _ _) rfl (ai _) (by decide)) (.slice lo ls.length lc) ls.length (aZ ls) rfl (aK.alloc HV.o _) (sZ ls) (by omega) (by omega) (by simp) ?_))
 intro v' W2 hown hgr _
 rw[HYC.o] at hown
 obtain⟨o2,c2,rfl⟩:=aT hown
 have hB2:Below w.heap.size w W2:=Below.grown (ak (aG _ _) _) hgr (by simp) (fun g e=>by simp[Value.ownBlock] at e;omega)
 have HC2:=ae (ag hB2 hown)
 clear hown hgr hB2
 go_wp2_with fail
 go_returns
 unfold Fg
 rw[HYL.o]
 exact⟨_,_,rfl,HC2.o.2,HC2.o.1⟩
end Go.Proofs.YthbpmepjmebolaaGreatDoor.Bk
end
section
namespace Go.Proofs.YthbpmepjmebolaaGreatDoor.Bk
open Go.RowKit Go.RG Go.SL Go.Shelf jC Go.TB Go.Proofs.YthbpmepjmebolaaGreatDoor.Be
theorem Ip: ∀(i n:Nat),xq n (i+1)=D7 (n/10^i%10)::xq n i:=by
 intro i
 induction i with
 |zero=>intro n;simp[xq]
 |succ i ih=>
  intro n
  rw[xq,ih (n/10),show xq n (i+1)=xq (n/10) i++[D7 (n%10)] from rfl,Nat.div_div_eq_div_mul, <-Nat.pow_succ',List.cons_append]
def dv (k:Nat):Value:= .int .u8 ((48+k:Nat):Int)
theorem VD {k:Nat} (h:k<10):dv k=uv (D7 k):=by unfold dv uv;rw[qO h]
theorem Oh (n:Nat) (hn:n<1000000) (w:World):Calls Tryz.prog 173 #[iv n] w (PV (.agg (Lib.byteCells (xq n 4)).toArray) w):=by
 obtain⟨d0,hd0⟩: ∃d,n%10=d:=⟨_,rfl⟩
 obtain⟨d1,hd1⟩: ∃d,n/10%10=d:=⟨_,rfl⟩
 obtain⟨d2,hd2⟩: ∃d,n/10/10%10=d:=⟨_,rfl⟩
 obtain⟨d3,hd3⟩: ∃d,n/10/10/10%10=d:=⟨_,rfl⟩
 have b0:d0<10:=by omega
 have b1:d1<10:=by omega
 have b2:d2<10:=by omega
 have b3:d3<10:=by omega
 have HD:Hid (xq n 4=[D7 d3,D7 d2,D7 d1,D7 d0]):=ae (by simp[xq,hd0,hd1,hd2,hd3])
 obtain⟨n1,hn1⟩: ∃m,n/10=m:=⟨_,rfl⟩
 rw[hn1] at hd1 hd2 hd3
 obtain⟨n2,hn2⟩: ∃m,n1/10=m:=⟨_,rfl⟩
 rw[hn2] at hd2 hd3
 obtain⟨n3,hn3⟩: ∃m,n2/10=m:=⟨_,rfl⟩
 rw[hn3] at hd3
 obtain⟨n4,hn4⟩: ∃m,n3/10=m:=⟨_,rfl⟩
 have q0:(n:Int)%10=d0:=by omega
 have q1:(n1:Int)%10=d1:=by omega
 have q2:(n2:Int)%10=d2:=by omega
 have q3:(n3:Int)%10=d3:=by omega
 have r0:(n:Int)/10=n1:=by omega
 have r1:(n1:Int)/10=n2:=by omega
 have r2:(n2:Int)/10=n3:=by omega
 have r3:(n3:Int)/10=n4:=by omega
 clear hd0 hd1 hd2 hd3 hn1 hn2 hn3 hn4
 go_enter Tryz.func173,Tryz.ntmps173
 go_wp2_with fail
 go_loopw [0,4] (fun s u wr=>Below w.heap.size w wr/\((s=iv n/\u=iv 0/\wr.heap[w.heap.size]? =some (.cells #[.int .u8 0,.int .u8 0,.int .u8 0,.int .u8 0] 264 (0,0)))∨
  (s=iv n1/\u=iv 1/\wr.heap[w.heap.size]? =some (.cells #[.int .u8 0,.int .u8 0,.int .u8 0,dv d0] 264 (0,0)))∨
  (s=iv n2/\u=iv 2/\wr.heap[w.heap.size]? =some (.cells #[.int .u8 0,.int .u8 0,dv d1,dv d0] 264 (0,0)))∨
  (s=iv n3/\u=iv 3/\wr.heap[w.heap.size]? =some (.cells #[.int .u8 0,dv d2,dv d1,dv d0] 264 (0,0)))∨
  (s=iv n4/\u=iv 4/\wr.heap[w.heap.size]? =some (.cells #[dv d3,dv d2,dv d1,dv d0] 264 (0,0))))) (fun _ u _=>4-(intOf u).toNat)
 case atStart=>exact⟨ak (aG _ _) _,.inl ⟨rfl,rfl,ay _ _⟩⟩
 case round=>
  obtain⟨hB,hc⟩:=hrel
  rcases hc with⟨rfl,rfl,hk⟩|⟨rfl,rfl,hk⟩|⟨rfl,rfl,hk⟩|⟨rfl,rfl,hk⟩|⟨rfl,rfl,hk⟩
  ·obtain⟨c0,f0,l0⟩:=af hk
   have HX:=ae (ag hB hk)
   clear hB hk
   go_wp2_with fail
   exact⟨⟨iG HX.o.1 (ai _) _,.inr (.inl ⟨rfl,rfl,aI HX.o.2 _⟩)⟩,by simp[intOf]⟩
  ·obtain⟨c0,f0,l0⟩:=af hk
   have HX:=ae (ag hB hk)
   clear hB hk
   go_wp2_with fail
   exact⟨⟨iG HX.o.1 (ai _) _,.inr (.inr (.inl ⟨rfl,rfl,aI HX.o.2 _⟩))⟩,by simp[intOf]⟩
  ·obtain⟨c0,f0,l0⟩:=af hk
   have HX:=ae (ag hB hk)
   clear hB hk
   go_wp2_with fail
   exact⟨⟨iG HX.o.1 (ai _) _,.inr (.inr (.inr (.inl ⟨rfl,rfl,aI HX.o.2 _⟩)))⟩,by simp[intOf]⟩
  ·obtain⟨c0,f0,l0⟩:=af hk
   have HX:=ae (ag hB hk)
   clear hB hk
   go_wp2_with fail
   exact⟨⟨iG HX.o.1 (ai _) _,.inr (.inr (.inr (.inr ⟨rfl,rfl,aI HX.o.2 _⟩)))⟩,by simp[intOf]⟩
  ·obtain⟨c0,f0,l0⟩:=af hk
   have HX:=ae (ag hB hk)
   clear hB hk
   go_upto_region 7 with(fail)
   refine wp_region_lit ?_
   refine wpList_load_row rfl _ _ rfl w.heap.size rfl _ _ _ _ HX.o.2 Tryz.underlying264 rfl (by kernel_rfl) ?_
   simp only[zp]
   refine wpList_store_row rfl _ _ _ rfl w.heap.size #[dv d3,dv d2,dv d1,dv d0] (by as_aux_lemma=>kernel_rfl) (by as_aux_lemma=>kernel_rfl) _ _ HX.o.2 (by kernel_rfl) (by as_aux_lemma=>kernel_rfl) (by simp[dv,Value.oneCell']) ?_
   simp only[zp]
   refine kC fun W5 yI=>?_
   have PI:Ext [w.heap.size] wr W5:=by rw[yI];exact fK
   have hk5:W5.heap[w.heap.size]? =some (.cells #[dv d3,dv d2,dv d1,dv d0] 264 (0,0)):=by rw[yI];exact setRow_heap _ _ _ _ _ _ HX.o.2
   have H5:=ae (ag (jf HX.o.1 PI (ai _)) hk5)
   clear yI PI hk5
   go_wp2_with fail
   refine bodyPost_ret (v:= .agg #[dv d3,dv d2,dv d1,dv d0]) ?_ rfl ?_
   ·have q1:=run_loadVar_row (P:=Tryz.prog) W5 w.heap.size 264 264 _ (0,0) _ H5.o.2 Tryz.underlying264 rfl (by kernel_rfl)
    simp[results,Tryz.results173,asAddr,q1]
   ·refine⟨?_,H5.o.1⟩
    rw[HD.o,VD b0,VD b1,VD b2,VD b3]
    rfl
theorem Dx (n:Nat): ∃a b c d,xq n 4=[a,b,c,d]:=by
 have h:=PQ 4 n
 match hq:xq n 4,h with
 |[a,b,c,d],_=>exact⟨a,b,c,d,rfl⟩
def Zl (i:Nat) (line:aF):List Value:=Lib.byteCells (58::58::10::xq (uA i line) 4)
abbrev z7:Array Value:= #[.int .u8 0,.int .u8 0,.int .u8 0,.int .u8 0,.int .u8 0,.int .u8 0,.int .u8 0]
theorem Rx (i:Nat) (line:aF) (w:World) (hi:i<=1000) (hl:line.length<=60):Calls Tryz.prog 172 #[iv i,.string (dV line)] w (PV (.agg (Zl i line).toArray) w):=by
 obtain⟨a,b,c,d,hd⟩:=Dx (uA i line)
 have HD:=ae hd
 have hcl:=XV i line
 have HCK:=ae (fun W=>wK i line W hi hl)
 have HSH:=ae (fun W=>Oh (uA i line) (by omega) W)
 unfold Zl
 rw[hd]
 have hQ:=HD
 clear hd HD
 generalize uA i line=k at*
 go_enter Tryz.func172,Tryz.ntmps172
 go_upto_region 1 with(fail)
 refine dH fun W1 hW1=>?_
 have hb1:Below w.heap.size w W1:=by rw[hW1];exact ak (aG _ _) _
 have hk1:W1.heap[w.heap.size]? =some (.cells z7 266 (0,0)):=by rw[hW1];exact ay _ _
 have hs1:w.heap.size<W1.heap.size:=by rw[hW1];simp
 have HB1:=ae hb1
 have VT:=ae hk1
 clear hW1 hb1 hk1
 go_wp2_with fail
 refine(HCK.o W1).mono ?_
 rintro e W2 ⟨rfl,hb⟩
 have hs2:=hb.size
 have HB2:=ae (aX HB1.o hb)
 have NM:=ae ((hb.block _ hs1).trans VT.o)
 clear hb
 go_wp2_with fail
 refine(HSH.o W2).mono ?_
 rintro e W3 ⟨he,hb⟩
 rw[hQ.o] at he
 subst he
 have hs3:=hb.size
 have HB3:=ae (aX HB2.o hb)
 have hk3:=(hb.block w.heap.size (by omega)).trans NM.o
 clear hb
 rename_i hK
 refine hK _ _ ?_
 refine aN rfl (w':=W3) (.agg #[uv 58,uv 58,uv 10,uv a,uv b,uv c,uv d]) (by as_aux_lemma=>kernel_rfl) ?_
 simp only[zp]
 refine wpList_store_row rfl _ _ _ rfl w.heap.size #[uv 58,uv 58,uv 10,uv a,uv b,uv c,uv d] (by as_aux_lemma=>kernel_rfl) (by as_aux_lemma=>kernel_rfl) _ z7 hk3 (by kernel_rfl) (by as_aux_lemma=>kernel_rfl) (by simp[Value.oneCell']) ?_
 simp only[zp]
 refine kC fun W4 FW=>?_
 have Vz:Ext [w.heap.size] W3 W4:=by rw[FW];exact fK
 have hk4:W4.heap[w.heap.size]? =some (.cells #[uv 58,uv 58,uv 10,uv a,uv b,uv c,uv d] 266 (0,0)):=by rw[FW];exact setRow_heap _ _ _ _ _ _ hk3
 have H4:=ae (ag (jf HB3.o Vz (ai _)) hk4)
 clear FW Vz hk4 hk3 hK
 go_wp2_with fail
 refine bodyPost_ret (v:= .agg #[uv 58,uv 58,uv 10,uv a,uv b,uv c,uv d]) ?_ rfl ?_
 ·have q1:=run_loadVar_row (P:=Tryz.prog) W4 w.heap.size 266 266 _ (0,0) _ H4.o.2 Tryz.underlying266 rfl (by kernel_rfl)
  simp[results,Tryz.results172,asAddr,q1]
 ·exact⟨rfl,H4.o.1⟩
theorem aK.cut {w:World} {o:Option Addr} {n c:Nat} {xs:List Value} (h:aK 1 w (.slice o n c) n xs) {l k:Nat} (hlk:l<=k) (hk:k<=n):aK 1 w (sliced o l k c 1) (k-l) ((xs.take k).drop l):=by
 obtain⟨hl,o',c',hv,h1,h2,h3,h4⟩:=h
 injection hv with e1 e2 e3
 subst e1 e3
 have hlen:xs.length=n:=by simpa using hl
 refine⟨by simp;omega,(if c=l then o else o.map (·.add (l*1))),c-l,rfl,by omega,by omega,fun ho=>?_,fun a ha=>?_⟩
 ·split at ho
  ·omega
  ·cases o with
   |none=>have:=h3 rfl;omega
   |some a=>cases ho
 ·split at ha
  ·rename_i hcl
   obtain⟨hs,hc⟩:=h4 a ha
   refine⟨hs,fun j u hj=>?_⟩
   have:(xs.take k).drop l=[]:=List.drop_eq_nil_of_le (by simp;omega)
   rw[this] at hj
   cases hj
  ·cases o with
   |none=>cases ha
   |some b=>
    obtain⟨hs,hc⟩:=h4 b rfl
    obtain⟨bb,off,sp⟩:=b
    simp only at hs hc
    subst hs
    simp only[Option.map_some,Option.some.injEq,Nat.mul_one] at ha
    rw[Addr.add_lit] at ha
    subst ha
    refine⟨rfl,fun j u hj=>?_⟩
    rw[List.getElem?_drop,List.getElem?_take] at hj
    split at hj
    ·have:=hc _ _ hj
     simpa [Nat.add_assoc] using this
    ·cases hj
theorem Rz:iR Tryz.prog 83 5 (.int .u8 0) 1 1:=⟨Tryz.underlying83,by kernel_rfl,rfl,by omega⟩
end Go.Proofs.YthbpmepjmebolaaGreatDoor.Bk
end
section
namespace Go.Proofs.YthbpmepjmebolaaGreatDoor.Bk
open Go.Lib Go.RowKit Go.RG Go.SL Go.Shelf jC Go.TB Go.Proofs.YthbpmepjmebolaaGreatDoor.Be
theorem Gm {A B C cs:List Value} (h:B.length=cs.length):splice (A++(B++C)) A.length cs=A++(cs++C):=by
 unfold splice
 rw[uG (ai _),kK (ai _), <-h,List.drop_append]
 simp
theorem set_mid {A C:List Value} {x y:Value}:(A++(x::C)).set A.length y=A++(y::C):=by
 rw[qK _ _ (ai _),Nat.sub_self,List.set_cons_zero]
theorem Oo {a b c d e f x y z:Value} {ln Z:List Value} (hZ:Z.length=ln.length+9):
 (splice ((splice ((splice Z 0 [a,b]).set 2 x) 3 ln).set (3+ln.length) y) (4+ln.length) [c,d,e,f]).set (8+ln.length) z=a::b::x::(ln++[y,c,d,e,f,z]):=by
 obtain⟨z0,z1,z2,Z1,y0,y1,y2,y3,y4,y5,rfl,h1⟩: ∃z0 z1 z2 Z1 y0 y1 y2 y3 y4 y5,Z=z0::z1::z2::(Z1++[y0,y1,y2,y3,y4,y5])/\Z1.length=ln.length:=by
  match Z,hZ with
  |z0::z1::z2::Z',hZ=>
   have hl:Z'.length=ln.length+6:=by simp at hZ;omega
   refine⟨z0,z1,z2,Z'.take ln.length,?_⟩
   have h6:(Z'.drop ln.length).length=6:=by rw[lK];omega
   match hq:Z'.drop ln.length,h6 with
   |[y0,y1,y2,y3,y4,y5],_=>exact⟨y0,y1,y2,y3,y4,y5,by rw[<-hq,List.take_append_drop],by rw[gX];omega⟩
 have s1:splice (z0::z1::z2::(Z1++[y0,y1,y2,y3,y4,y5])) 0 [a,b]=a::b::z2::(Z1++[y0,y1,y2,y3,y4,y5]):=rfl
 rw[s1]
 have s2:(a::b::z2::(Z1++[y0,y1,y2,y3,y4,y5])).set 2 x=[a,b,x]++(Z1++[y0,y1,y2,y3,y4,y5]):=rfl
 rw[s2,show(3:Nat)=[a,b,x].length from rfl,Gm h1]
 have s3:[a,b,x]++(ln++[y0,y1,y2,y3,y4,y5])=([a,b,x]++ln)++(y0::[y1,y2,y3,y4,y5]):=by simp
 rw[s3,show[a,b,x].length+ln.length=([a,b,x]++ln).length from by simp;omega,set_mid]
 have s4:([a,b,x]++ln)++(y::[y1,y2,y3,y4,y5])=([a,b,x]++ln++[y])++([y1,y2,y3,y4]++[y5]):=by simp
 rw[s4,show 4+ln.length=([a,b,x]++ln++[y]).length from by simp;omega,Gm (B:=[y1,y2,y3,y4]) (cs:=[c,d,e,f]) rfl]
 have s5:([a,b,x]++ln++[y])++([c,d,e,f]++[y5])=([a,b,x]++ln++[y,c,d,e,f])++(y5::[]):=by simp
 rw[s5,show 8+ln.length=([a,b,x]++ln++[y,c,d,e,f]).length from by simp;omega,set_mid]
 simp
theorem Uk {W:World} {o:Option Addr} {n c:Nat} {l:aF} (h:aK 1 W (.slice o n c) n (Lib.byteCells l)):(convert 83 9 (.slice o n c)).run Tryz.prog W= .ok (.string (dV l)) W:=by
 obtain⟨hl,o',c',hv,h1,h2,h3,h4⟩:=h
 cases hv
 have hn:l.length=n:=by simpa [Lib.byteCells] using hl
 cases o with
 |none=>
  have:n=0:=by have:=h3 rfl;omega
  subst this
  obtain rfl:=kF hn
  rw[run_convert_bytes_nil W 83 5 Tryz.underlying83 Tryz.underlying5 _ _ 9 Tryz.underlying9]
  rfl
 |some a=>
  obtain⟨b,off,sp⟩:=a
  obtain⟨hs,hc⟩:=h4 _ rfl
  simp only at hs hc
  subst hs
  rw[run_convert_bytes_arg W 83 5 Tryz.underlying83 Tryz.underlying5 b off n c (l.map fun x=>(x.toNat:Int)) (by simpa using hn) (fun i hi=>by
   have hi':i<l.length:=by omega
   have:=hc i (.int .u8 (l[i].toNat:Int)) (by simp[Lib.byteCells,hi'])
   rw[this]
   simp[List.getD,hi']) 9 Tryz.underlying9]
  congr 1
  congr 1
  simp only[strOfNums,dV]
  congr 1
  apply Array.ext
  ·simp
  ·intro j h1 h2
   simp
theorem U3 {w W1:World} {A B:Array Value} {t u:TypeId} (h:W1=(w.alloc (.cells A t)).alloc (.cells B u)):
 Below w.heap.size w W1/\W1.heap[w.heap.size]? =some (.cells A t (0,0))/\W1.heap[w.heap.size+1]? =some (.cells B u (0,0))/\W1.heap.size=w.heap.size+2:=by
 subst h
 exact⟨ak (ak (aG _ _) _) _,(aW _ _ _ (by simp)).trans (ay _ _),ed _ _ _,by simp⟩
theorem row_step {W W':World} {g t5:Nat} {L X:List Value} {t:TypeId} {o:Obj} (h:W'=W.setRow g L.toArray) (hk:W.heap[g]? =some (.cells X.toArray t (0,0))) (hne:g≠t5) (h5:W.heap[t5]? =some o):
 W'.heap[t5]? =some o/\W'.heap[g]? =some (.cells L.toArray t (0,0))/\Below g W W':=by
 subst h
 exact⟨(setRow_other W g t5 _ (Ne.symm hne)).trans h5,setRow_heap W g _ _ t _ hk,below_setRow (aG _ _) (ai _) _⟩
theorem D9 {W W':World} {g t5 j:Nat} {v:Value} {X:List Value} {t:TypeId} {o:Obj} (h:W'=W.setCell ⟨g,j,none⟩ v) (hk:W.heap[g]? =some (.cells X.toArray t (0,0))) (hne:g≠t5) (h5:W.heap[t5]? =some o):
 W'.heap[t5]? =some o/\W'.heap[g]? =some (.cells (X.set j v).toArray t (0,0))/\Below g W W':=by
 subst h
 refine⟨(heap_setCell_other W ⟨g,j,none⟩ t5 v (Ne.symm hne)).trans h5,?_,(aG g W).setCell (p:=⟨g,j,none⟩) (ai _) v⟩
 rw[heap_setCell_same W g j _ t v hk,uD]
theorem SX (n:Nat) (hn:n<=1000) (W:World):
 (Instr.makeSlice 83 (iv n) (iv n)).run Tryz.prog W= .ok (.slice (some ⟨W.heap.size,0,none⟩) n n) (W.alloc (.cells (List.replicate n (Value.int .u8 0)).toArray 5)):=by
 obtain⟨i,hi,hz,hs,hby⟩:=info_parts Rz.info
 have:=run_make (P:=Tryz.prog) W 83 5 i (.int .u8 0) Rz.und hi hz .i64 .i64 n n (by omega) (Int.le_refl _) (by rw[hby];omega) (by omega)
 rw[this,hs]
 simp only[Int.toNat_natCast]
 congr 3
 apply Array.ext
 ·simp[madeCells]
 ·intro j h1 h2
  simp[madeCells,Value.cells]
  rw[Nat.mod_one]
  rfl
theorem Jr {n:Nat} {p q r s:UInt8} (h:xq n 4=[p,q,r,s]):xq n 2=[r,s]:=by
 rw[Ip 3,Ip 2] at h
 injection h with _ h
 injection h with _ h
def amd (i:Nat) (line:aF) (w:World) (e:Ending) (w':World):Prop:=
 Below w.heap.size w w'/\ ∃g n,n=9+line.length/\e= .returned (.slice (some ⟨g,0,none⟩) n n)/\w.heap.size<=g/\w'.heap[g]? =some (.cells (Lib.byteCells (nI i line)).toArray 5 (0,0))
theorem RV (i:Nat) (line:aF) (w:World) (hi:i<=1000) (hl:line.length<=60):Calls Tryz.prog 106 #[iv i,.string (dV line)] w (amd i line w):=by
 obtain⟨a,b,c,d,hd⟩:=Dx (uA i line)
 obtain⟨p,q,r,s,hs⟩:=Dx line.length
 have HT:=Rx i line w hi hl
 have HSH:=ae (fun W=>Oh line.length (by omega) W)
 unfold Zl at HT
 rw[hd] at HT
 rw[hs] at HSH
 have hrec:Lib.byteCells (nI i line)=uv r::uv s::uv 58::(Lib.byteCells line++[uv 58,uv a,uv b,uv c,uv d,uv 10]):=by
  unfold nI
  rw[hd,Jr hs]
  simp[Lib.byteCells,uv]
 have hbl:(Lib.byteCells line).length=line.length:=by simp[Lib.byteCells]
 have hsz:=pK line
 obtain⟨c1,hc1⟩: ∃c,c=(58:UInt8):=⟨_,rfl⟩
 obtain⟨c3,hc3⟩: ∃c,c=(10:UInt8):=⟨_,rfl⟩
 rw[<-hc1, <-hc3] at HT hrec
 have HR:=ae hrec
 have HTT:Hid (Calls Tryz.prog 172 #[iv i,.string (dV line)] w (PV (.agg #[uv c1,uv c1,uv c3,uv a,uv b,uv c,uv d]) w)):=ae HT
 have HSW:Hid (∀W,Calls Tryz.prog 173 #[iv line.length] W (PV (.agg #[uv p,uv q,uv r,uv s]) W)):=ae HSH.o
 have HBL:=ae hbl
 clear hd hs hrec hc1 hc3 HT hbl HSH
 go_enter Tryz.func106,Tryz.ntmps106
 go_wp2_with fail
 refine HTT.o.mono ?_
 rintro e W1 ⟨rfl,hb1⟩
 have HB1:=ae hb1
 go_wp2_with fail
 refine(HSW.o W1).mono ?_
 rintro e W2 ⟨rfl,hb2⟩
 have HB2:=ae (aX HB1.o hb2)
 clear hb1 hb2
 go_upto_region 2 with(fail)
 refine dH fun W3 hW3=>?_
 obtain⟨hb3,k5,k6,hz3⟩:=U3 hW3
 have HB3:=ae (aX HB2.o hb3)
 have CW:=ae (ag k5 k6)
 clear hW3 hb3 k5 k6
 obtain⟨N,hN⟩: ∃N,N=9+line.length:=⟨_,rfl⟩
 have hmk:(Instr.makeSlice 83 (iv (3+(line.length:Int)+6)) (iv (3+(line.length:Int)+6))).run Tryz.prog W3= .ok (.slice (some ⟨W3.heap.size,0,none⟩) N N) (W3.alloc (.cells (List.replicate N (Value.int .u8 0)).toArray 5)):=by
  have e:(3+(line.length:Int)+6)=((N:Nat):Int):=by omega
  rw[e]
  exact SX N (by omega) W3
 go_upto_region 3 with(fail)
 refine dH fun W4 FW=>?_
 have k7:W4.heap[W2.heap.size+2]? =some (.cells (List.replicate (9+line.length) (Value.int .u8 0)).toArray 5 (0,0)):=by
  rw[FW, <-hz3,List.toArray_replicate]
  exact ay _ _
 have hb4:Below W3.heap.size W3 W4:=by rw[FW];exact ak (aG _ _) _
 have hw2:w.heap.size<=W2.heap.size:=HB2.o.size
 have HB4:=ae (aX HB3.o hb4)
 have k5:=(hb4.block W2.heap.size (by omega)).trans CW.o.1
 have k6:=(hb4.block (W2.heap.size+1) (by omega)).trans CW.o.2
 clear FW hb4 hmk hN CW
 obtain⟨g,hg⟩: ∃g,W2.heap.size+2=g:=⟨_,rfl⟩
 obtain⟨t6,h6⟩: ∃g,W2.heap.size+1=g:=⟨_,rfl⟩
 obtain⟨t5,h5⟩: ∃g,W2.heap.size=g:=⟨_,rfl⟩
 rw[hg] at k7⊢
 rw[h6] at k6⊢
 rw[h5] at k5⊢
 have hne:g≠t5/\g≠t6/\w.heap.size<=g:=by omega
 have Lm:=ae hne
 clear hg h6 h5 hne hz3 hw2
 have wR:=ae k7
 have NI:=ae k5
 have HK6:=ae k6
 obtain⟨c6,f6,l6⟩:=af k6
 clear k5 k6 k7
 have hc6: ∀j v,[uv r,uv s][j]? =some v->W4.cell? ((⟨t6,2,none⟩:Addr).add j)=some v:=fun j v hj=>by
  match j,hj with
  |0,hj=>exact(c6 2).trans hj
  |1,hj=>exact(c6 3).trans hj
 obtain⟨L0,hL0⟩: ∃L0,L0=List.replicate (9+line.length) (Value.int .u8 0):=⟨_,rfl⟩
 have hl0:L0.length=9+line.length:=by rw[hL0,List.length_replicate]
 have k7:=wR.o
 rw[<-hL0] at k7
 have hcp:(Builtin.copy_ #[83,83] 3 #[.slice (some ⟨g,0,none⟩) (9+line.length) (9+line.length),.slice (some ⟨t6,2,none⟩) 2 2]).run Tryz.prog W4= .ok (goInt 2) (W4.setRow g (splice L0 0 [uv r,uv s]).toArray):=by
  have h:=run_copy_row (P:=Tryz.prog) W4 83 83 3 5 g 0 (9+line.length) (9+line.length) ⟨t6,2,none⟩ 2 2 L0.toArray 5 [uv r,uv s] Tryz.underlying83 (by kernel_rfl) k7 (by rw[show Nat.min 2 (9+line.length)=2 from Nat.min_eq_left (by omega)];rfl) hc6 (by simp;omega) (by simp[uv,Value.oneCell'])
  exact h
 have HL0:=ae hl0
 clear hc6 hL0 hl0 wR
 have wR:=ae k7
 clear k7
 go_upto_region 4 with(fail)
 refine dH fun W5 yI=>?_
 obtain⟨L1,hL1⟩: ∃L1,L1=splice L0 0 [uv r,uv s]:=⟨_,rfl⟩
 rw[<-hL1] at yI
 have hl1:L1.length=9+line.length:=by rw[hL1,length_splice _ _ _ (by rw[HL0.o];simp;omega),HL0.o]
 obtain⟨h5,k7,hb5⟩:=row_step yI wR.o (Lm.o.1) NI.o
 have nM:=ae (HB4.o.trans (hb5.mono Lm.o.2.2))
 have HL1:=ae (ag hL1 hl1)
 obtain⟨c5,f5,l5⟩:=af h5
 obtain⟨x2,g7⟩: ∃x,W5.cell? ⟨g,2,none⟩=some x:=⟨L1[2]'(by omega),by rw[(af k7).1 2];simp⟩
 obtain⟨_,f7,l7⟩:=af k7
 have H5:=ae (ag h5 k7)
 clear yI h5 k7 hb5 hL1 hl1 hcp c6 f6 l6 NI HK6 wR HB4
 go_upto_region 5 with(fail)
 refine dH fun W6 KJ=>?_
 obtain⟨h6,k8,hb6⟩:=D9 KJ H5.o.2 Lm.o.1 H5.o.1
 obtain⟨L2,hL2⟩: ∃L2,L2=L1.set 2 (uv c1):=⟨_,rfl⟩
 have hl2:L2.length=9+line.length:=by rw[hL2,qH,HL1.o.2]
 rw[<-hL2] at k8
 have qo:=ae (nM.o.trans (hb6.mono Lm.o.2.2))
 have HL2:=ae (ag hL2 hl2)
 have H6:=ae (ag h6 k8)
 clear KJ h6 k8 hb6 hL2 hl2 c5 f5 l5 g7 f7 l7 H5 nM
 have hcq:(Builtin.copy_ #[83,9] 3 #[.slice (some ⟨g,3,none⟩) (9+line.length-3) (9+line.length-3),.string (dV line)]).run Tryz.prog W6= .ok (goInt line.length) (W6.setRow g (splice L2 3 (Lib.byteCells line)).toArray):=by
  have h:=Lib.run_copy_row_string (P:=Tryz.prog) W6 83 9 3 5 g 3 (9+line.length-3) (9+line.length-3) (dV line) L2.toArray 5 Tryz.underlying83 (by kernel_rfl) H6.o.2 (by rw[hsz];omega) (by rw[hsz];have:=HL2.o.2;simp;omega)
  rw[h,hsz]
  have e:L2.toArray.toList.take 3++Lib.byteCells (dV line).data.toList++L2.toArray.toList.drop (3+line.length)=splice L2 3 (Lib.byteCells line):=by
   unfold splice
   rw[HBL.o,nS]
  rw[e]
 go_upto_region 6 with(fail)
 refine dH fun W7 FI=>?_
 obtain⟨L3,hL3⟩: ∃L3,L3=splice L2 3 (Lib.byteCells line):=⟨_,rfl⟩
 rw[<-hL3] at FI
 have hl3:L3.length=9+line.length:=by rw[hL3,length_splice _ _ _ (by rw[HL2.o.2,HBL.o];omega),HL2.o.2]
 obtain⟨h7,k8,hb7⟩:=row_step FI H6.o.2 Lm.o.1 H6.o.1
 have xN:=ae (qo.o.trans (hb7.mono Lm.o.2.2))
 have HL3:=ae (ag hL3 hl3)
 have H7:=ae (ag h7 k8)
 clear FI h7 k8 hb7 hL3 hl3 hcq H6 qo
 go_upto_region 7 with(fail)
 rw[show 9+line.length-(3+line.length)=6 from by omega]
 obtain⟨c7,f7,l7⟩:=af H7.o.1
 obtain⟨c8,f8,l8⟩:=af H7.o.2
 obtain⟨x3,g3⟩: ∃x,W7.cell? ⟨g,3+line.length,none⟩=some x:=⟨L3[3+line.length]'(by have:=HL3.o.2;omega),by rw[c8 (3+line.length)];simp⟩
 clear c8
 go_upto_region 8 with(fail)
 refine dH fun W8 hW8=>?_
 obtain⟨h8,k8,hb8⟩:=D9 hW8 H7.o.2 Lm.o.1 H7.o.1
 obtain⟨L4,hL4⟩: ∃L4,L4=L3.set (3+line.length) (uv c1):=⟨_,rfl⟩
 have hl4:L4.length=9+line.length:=by rw[hL4,qH,HL3.o.2]
 rw[<-hL4] at k8
 have pO:=ae (xN.o.trans (hb8.mono Lm.o.2.2))
 have HL4:=ae (ag hL4 hl4)
 have H8:=ae (ag h8 k8)
 clear hW8 h8 k8 hb8 hL4 hl4 c7 f7 l7 f8 l8 g3 H7 xN
 have hct: ∀j v,[uv a,uv b,uv c,uv d][j]? =some v->W8.drew.cell? ((⟨t5,3,none⟩:Addr).add j)=some v:=fun j v hj=>by
  obtain⟨c5,_,_⟩:=af H8.o.1
  match j,hj with
  |0,hj=>exact(c5 3).trans hj
  |1,hj=>exact(c5 4).trans hj
  |2,hj=>exact(c5 5).trans hj
  |3,hj=>exact(c5 6).trans hj
 have hcr:(Builtin.copy_ #[83,83] 3 #[.slice (some ⟨g,3+line.length+1,none⟩) 5 5,.slice (some ⟨t5,3,none⟩) 4 4]).run Tryz.prog W8.drew= .ok (goInt 4) (W8.drew.setRow g (splice L4 (4+line.length) [uv a,uv b,uv c,uv d]).toArray):=by
  rw[show 3+line.length+1=4+line.length from by omega]
  have h:=run_copy_row (P:=Tryz.prog) W8.drew 83 83 3 5 g (4+line.length) 5 5 ⟨t5,3,none⟩ 4 4 L4.toArray 5 [uv a,uv b,uv c,uv d] Tryz.underlying83 (by kernel_rfl) H8.o.2 rfl hct (by have:=HL4.o.2;simp;omega) (by simp[uv,Value.oneCell'])
  rw[h,nS]
  rfl
 clear hct
 go_region
 go_upto_region 9 with(fail)
 refine dH fun W9 MV=>?_
 obtain⟨L5,hL5⟩: ∃L5,L5=splice L4 (4+line.length) [uv a,uv b,uv c,uv d]:=⟨_,rfl⟩
 rw[<-hL5] at MV
 have hl5:L5.length=9+line.length:=by rw[hL5,length_splice _ _ _ (by rw[HL4.o.2];simp;omega),HL4.o.2]
 obtain⟨h9,k9,rW⟩:=row_step (W:=W8.drew) MV H8.o.2 Lm.o.1 H8.o.1
 have mW:=ae (pO.o.drew.trans (rW.mono Lm.o.2.2))
 have HL5:=ae (ag hL5 hl5)
 obtain⟨c5,f5,l5⟩:=af h9
 obtain⟨c8,f8,l8⟩:=af k9
 obtain⟨x5,g5⟩: ∃x,W9.cell? ⟨g,3+line.length+5,none⟩=some x:=⟨L5[3+line.length+5]'(by omega),by rw[c8 (3+line.length+5)];simp⟩
 have H9:=ae (ag h9 k9)
 clear MV h9 k9 rW hL5 hl5 hcr H8 pO c8
 go_upto_region 10 with(fail)
 refine dH fun FK aii=>?_
 obtain⟨_,k10,ry⟩:=D9 aii H9.o.2 Lm.o.1 H9.o.1
 have zU:=ae (mW.o.trans (ry.mono Lm.o.2.2))
 have HF:Hid (FK.heap[g]? =some (.cells (Lib.byteCells (nI i line)).toArray 5 (0,0))):=by
  have e:=Oo (a:=uv r) (b:=uv s) (c:=uv a) (d:=uv b) (e:=uv c) (f:=uv d) (x:=uv c1) (y:=uv c1) (z:=uv c3) (ln:=Lib.byteCells line) (Z:=L0) (by rw[HL0.o,HBL.o];omega)
  rw[HBL.o, <-HL1.o.1, <-HL2.o.1, <-HL3.o.1, <-HL4.o.1, <-HL5.o.1, <-HR.o] at e
  rw[show 3+line.length+5=8+line.length from by omega] at k10
  show _=_
  rw[k10, <-e]
 clear aii k10 ry c5 f5 l5 f8 l8 g5 H9 mW
 go_wp2_with fail
 go_returns
 exact⟨zU.o,g,_,rfl,rfl,Lm.o.2.2,HF.o⟩
theorem zy {ls:List aF} (h:eH ls=0):(oW ls).length=ls.length:=by unfold oW;rw[aC h,Gx]
end Go.Proofs.YthbpmepjmebolaaGreatDoor.Bk
end
